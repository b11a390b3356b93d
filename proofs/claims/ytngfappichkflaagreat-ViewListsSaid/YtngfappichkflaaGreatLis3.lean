/- Part 3 of the ground of the proofs of this seat (texts R7 to WCrw). By an AI agent. -/
import Derived.Test.YtngfappichkflaaGreatLis2
import Derived.Scope
set_option linter.unusedVariables false
set_option linter.unusedSimpArgs false
namespace Go.Ab
open Go Go.RowKit
structure qA where
 vals:Tree AV
 M:RM
 bJ:Tree (Option Nat)
abbrev KR:=AV→RM→Option Nat→Prop
def guardOf (ops:Array Oper) (wr:Tree Nat) (vals:Tree AV) (r:Row) : Option (Option (AV × Bool)) :=
 match r.o.guard with
 | none=>some none
 | some (j,want)=>match (ops[j]?).bind (·.dst) with
   | none=>none
   | some d=>match Nat.testBit r.m j,wr.get d with
     | true,some j'=>match Nat.beq j' j with
       | true=>some (some ((vals.get j).getD .top,want))
       | false=>none
     | _,_=>none
abbrev ah (x:AV) (want:Bool) (f g:ak→Prop) (k:ak) : Prop:=oN x want f g k
abbrev af (x:AV) (want:Bool) (f g:KR→Prop) (k:KR) : Prop:=oN x want f g k
def AR {α:Type} (g:Option (Option (AV × Bool))) (f skip:α→Prop) (k:α) : Prop :=
 match g with
 | none=>False
 | some none=>f k
 | some (some (x,want))=>oN x want f skip k
def Bj (x:RB) (mk:Nat→AV) (M:RM) (k:KR) : Prop:=k (mk M.next) (M.push x) (some M.next)
def IP (b:Option Nat) (M:RM) (x:RB) (mk:Nat→AV) (v:AV) : Prop :=
 match b with
 | some b=>M.heap b=some x∧mk b=v
 | none=>False
def amz (P:Program) (r:Row) (e:Operand→AV) (M:RM) (k:KR) : Prop :=
 match r.kd with
 | .pure | .read=>fo P r.o e M (fun v=>k v M none)
 | .alloc=>tY P r.o e (fun x mk=>Bj x mk M k)
 | .vD=>False
def Hd (P:Program) (ops:Array Oper) (T0:Tree AV) (wr:Tree Nat) (lev:Nat) : List Row→qA→(qA→Prop)→Prop
 | [],s,K=>K s
 | r :: rest,s,K=>match Nat.beq r.lev lev && !ko r.kd with
   | false=>Hd P ops T0 wr lev rest s K
   | true=>AR (guardOf ops wr s.vals r) (amz P r (iP T0 wr s.vals r.m) s.M) (fun k=>k .undef s.M none) (fun v M' b=>Hd P ops T0 wr lev rest { vals:=s.vals.set r.i v,M:=M',bJ:=s.bJ.set r.i b } K)
def aaG (P:Program) (ops:Array Oper) (T0:Tree AV) (wr:Tree Nat) (r:Row) (s:qA) (K:Prop) : Prop :=
 match r.kd with
 | .read=>AR (guardOf ops wr s.vals r) (fun k=>fo P r.o (iP T0 wr s.vals r.m) s.M (fun v=>v=(s.vals.get r.i).getD .top∧k)) (fun k=>k) K
 | .alloc=>AR (guardOf ops wr s.vals r) (fun k=>tY P r.o (iP T0 wr s.vals r.m) (fun x mk=>IP ((s.bJ.get r.i).getD none) s.M x mk ((s.vals.get r.i).getD .top)∧k)) (fun k=>k) K
 | _=>K
def Q0 (P:Program) (ops:Array Oper) (T0:Tree AV) (ri:RI) (lev:Nat) : List Row→qA→Prop→Prop
 | [],_,K=>K
 | r :: rest,s,K=>match Nat.ble r.lev lev && !ko r.kd && kR ri.ms ri.es (lev + 1) r with
   | false=>Q0 P ops T0 ri lev rest s K
   | true=>aaG P ops T0 ri.wr r s (Q0 P ops T0 ri lev rest s K)
def yR (P:Program) (ops:Array Oper) (T0:Tree AV) (ri:RI) : Nat→List Nat→qA→(qA→Prop)→Prop
 | lev,[],s,K=>Hd P ops T0 ri.wr lev ri.rows s K
 | lev,x :: rest,s,K=>Hd P ops T0 ri.wr lev ri.rows s (fun s1=>match nth ri.rows x with
   | none=>False
   | some r=>AR (guardOf ops ri.wr s1.vals r) (j5 P r.o (iP T0 ri.wr s1.vals r.m) s1.M) (fun k=>k .undef s1.M)
     (fun v M'=>Q0 P ops T0 ri lev ri.rows { vals:=s1.vals.set x v,M:=M',bJ:=s1.bJ } (yR P ops T0 ri (lev + 1) rest { vals:=s1.vals.set x v,M:=M',bJ:=s1.bJ } K)))
def ZI (P:Program) (nt:Nat) (ops:Array Oper) (T:Tree AV) (M:RM) (K:Tree AV→RM→Prop) : Prop :=
 match zt P nt ops with
 | none=>False
 | some ri=>match ri.rows.all (uY ri) with
   | false=>False
   | true=>yR P ops T ri 0 ri.es { vals:=.leaf,M,bJ:=.leaf } (fun s=>K (CR T s.vals ri.rows) s.M)
def Y8 (g:Option (AV × Bool)) : Prop:=match g with | none=>True | some (x,want)=>x=Bo want
def Mk (g:Option (AV × Bool)) : Prop:=match g with | none=>False | some (x,want)=>x=.undef∨∃ b,x=Bo b∧b≠want
theorem vX {α:Type} {g:Option (Option (AV × Bool))} {f skip:α→Prop} {k:α} (h:AR g f skip k) : ∃ g',g=some g'∧((Y8 g'∧f k)∨(Mk g'∧skip k)):=by
 unfold AR at h
 split at h <;> first | (cases h; done) | skip
 ·exact⟨none,rfl,.inl ⟨trivial,h⟩⟩
 ·rename_i x want
  refine⟨_,rfl, ?_⟩
  unfold oN at h
  split at h <;> first | (cases h; done) | skip
  ·split at h
   ·rename_i e; subst e; exact .inl ⟨rfl,h⟩
   ·rename_i b e; exact .inr ⟨.inr ⟨b,rfl,e⟩,h⟩
  ·exact .inr ⟨.inl rfl,h⟩
section
variable {P:Program} {nt:Nat} {ops:Array Oper} {ri:RI} {T0:Tree AV}
def vJ (P:Program) (ops:Array Oper) (T0:Tree AV) (wr:Tree Nat) (s:qA) (r:Row) : Prop :=
 ∃ g,guardOf ops wr s.vals r=some g∧((Y8 g∧∃ v,s.vals.get r.i=some v∧match r.kd with
   | .pure=>∀ M,nE P r.o (iP T0 wr s.vals r.m) M v
   | .read=>nE P r.o (iP T0 wr s.vals r.m) s.M v
   | .alloc=>∃ x mk b,Io P r.o (iP T0 wr s.vals r.m) x mk∧s.bJ.get r.i=some (some b)∧s.M.heap b=some x∧mk b=v
   | .vD=>False)∨(Mk g∧s.vals.get r.i=some .undef))
theorem nE.sub {o:Oper} {e:Operand→AV} {M M' : RM} {v:AV} (h:nE P o e M v) (hs:M.Sub M') : nE P o e M' v :=
 fun ρ w c M2 h2 hw he=>h ρ w c M2 (hs.trans h2) hw he
theorem BR {vals OG:Tree AV} {wr:Tree Nat} {m:Nat} (h:∀ j,Nat.testBit m j=true→OG.get j=vals.get j) : iP T0 wr OG m=iP T0 wr vals m:=by
 funext x
 cases x with
 | tmp t =>
   simp only[iP]
   cases hw:wr.get t with
   | none=>rfl
   | some j =>
     simp only
     cases hb:Nat.testBit m j with
     | false=>rfl
     | true=>simp only[h j hb]
 | const v=>rfl
 | global g=>rfl
 | func f=>rfl
theorem qI {vals OG:Tree AV} {wr:Tree Nat} {r:Row} (h:∀ j,Nat.testBit r.m j=true→OG.get j=vals.get j) : guardOf ops wr OG r=guardOf ops wr vals r:=by
 unfold guardOf
 split
 ·rfl
 ·rename_i j want hg
  split
  ·rfl
  ·split
   ·rename_i hb _
    simp only[h j hb]
   ·rfl
theorem vJ.keep {wr:Tree Nat} {s s' : qA} {r:Row} (h:vJ P ops T0 wr s r) (hv:∀ j,Nat.testBit r.m j=true∨j=r.i→s'.vals.get j=s.vals.get j) (hb:s'.bJ.get r.i=s.bJ.get r.i) (hs:s.M.Sub s'.M) : vJ P ops T0 wr s' r:=by
 obtain⟨g,hg,h⟩:=h
 have hi:=hv r.i (.inr rfl)
 have he:iP T0 wr s'.vals r.m=iP T0 wr s.vals r.m:=BR fun j hj=>hv j (.inl hj)
 refine⟨g,by rw[← hg]; exact qI fun j hj=>hv j (.inl hj), ?_⟩
 rcases h with⟨hon,v,hvi,hk⟩ | ⟨hoff,hvi⟩
 ·refine .inl ⟨hon,v,by rw[hi]; exact hvi, ?_⟩
  rw[he]
  cases hkd:r.kd with
  | pure=>rw[hkd] at hk; exact hk
  | read=>rw[hkd] at hk; exact hk.sub hs
  | alloc =>
    rw[hkd] at hk
    obtain⟨x,mk,b,h1,h2,h3,h4⟩:=hk
    exact⟨x,mk,b,h1,by rw[hb]; exact h2,hs.2 _ _ h3,h4⟩
  | vD=>rw[hkd] at hk; exact hk
 ·exact .inr ⟨hoff,by rw[hi]; exact hvi⟩
def Fr (M:RM) : Prop:=∀ b,M.next≤b→M.heap b=none
theorem Fr.push {M:RM} (h:Fr M) (x:RB) : Fr (M.push x):=by
 intro b hb
 simp only[RM.push] at hb ⊢
 rw[if_neg (by omega)]
 exact h b (by omega)
theorem Fr.sub {M:RM} (h:Fr M) (x:RB) : M.Sub (M.push x):=by
 refine⟨rfl,fun b y hy=>?_⟩
 simp only[RM.push]
 split
 ·rename_i e; subst e; rw[h _ (Nat.le_refl _)] at hy; cases hy
 ·exact hy
theorem dU.fr {ρ:Ren} {M:RM} {w:World} (h:dU P ρ M w) : Fr M:=by
 intro b hb
 have hlo:=h.lo_le
 obtain⟨A,hA⟩:=h
 cases hx:M.heap b with
 | none=>rfl
 | some x =>
   rcases hA.blk b x hx with⟨y,hy,_⟩ | ⟨c,_,hlt,_⟩
   ·have:=hA.rel.top b y hy
    rw[hA.next] at this; omega
   ·omega
theorem PW {ρ:Ren} {M:RM} {w:World} {o:Oper} {e:Operand→AV} {x:RB} {mk:Nat→AV} (h:dU P ρ M w) (hm:Io P o e x mk) : dU P ρ (M.push x) w:=by
 obtain⟨y,_,hle⟩:=hm
 exact h.ah4 x y hle
structure ZP (P:Program) (ops:Array Oper) (T0:Tree AV) (ri:RI) (lev:Nat) (i0:Nat) (s s' : qA) : Prop where
 keep:∀ j,(∀ r,ri.rows[j]?=some r→i0≤j→¬ (r.lev=lev∧ko r.kd=false))→s'.vals.get j=s.vals.get j∧s'.bJ.get j=s.bJ.get j
 done:∀ j r,ri.rows[j]?=some r→i0≤j→r.lev=lev→ko r.kd=false→vJ P ops T0 ri.wr s' r
 sub:s.M.Sub s'.M
 fr:Fr s'.M
 rel:∀ ρ w,dU P ρ s.M w→dU P ρ s'.M w
 next:s.M.next≤s'.M.next
 bJ:∀ j b,s'.bJ.get j=some (some b)→s.bJ.get j=some (some b)∨(s.M.next≤b∧b<s'.M.next∧i0≤j∧∃ r,ri.rows[j]?=some r)
 Cg:∀ j1 j2 b,s'.bJ.get j1=some (some b)→s'.bJ.get j2=some (some b)→s.M.next≤b→j1=j2
theorem Cf (ht:ol P nt ops ri) {lev:Nat} {K:qA→Prop} : ∀ (rows:List Row) (i0:Nat) (s:qA),ri.rows.drop i0=rows→Fr s.M→(∀ j b,s.bJ.get j=some (some b)→b<s.M.next)→Hd P ops T0 ri.wr lev rows s K→∃ s',K s'∧ZP P ops T0 ri lev i0 s s'
 | [],i0,s,hd,hf,hbd,h=>by
   refine⟨s,h,fun _ _=>⟨rfl,rfl⟩,fun j r hr hj=>?_,RM.Sub.refl _,hf,fun _ _ h=>h,Nat.le_refl _,fun j b hb=>.inl hb,fun j1 j2 b h1 _ hb=>absurd (hbd j1 b h1) (by omega)⟩
   have hlen:ri.rows.length≤i0:=List.drop_eq_nil_iff.1 hd
   have:=(List.getElem?_eq_some_iff.1 hr).1
   omega
 | r :: rows,i0,s,hd,hf,hbd,h=>by
   have hri:ri.rows[i0]?=some r:=by
    have h0:(ri.rows.drop i0)[0]?=some r:=by rw[hd]; rfl
    rw[List.getElem?_drop] at h0; exact h0
   have hd' : ri.rows.drop (i0 + 1)=rows:=by
    rw[← List.drop_drop (i:=1) (j:=i0)] <;> rw[hd]; rfl
   obtain⟨e1,e2,e3,e4,e5⟩:=ht.row hri
   simp only[Hd] at h
   split at h
   ·rename_i hk
    obtain⟨s',hK,hp⟩:=Cf ht rows (i0 + 1) s hd' hf hbd h
    have hne:¬ (r.lev=lev∧ko r.kd=false):=by
     rintro⟨a,b⟩
     rw[tK a,b] at hk
     cases hk
    refine⟨s',hK,fun j hj=>hp.keep j fun r' hr' hj'=>hj r' hr' (by omega),fun j r' hr' hj hl he=>?_,hp.sub,hp.fr,hp.rel,hp.next,fun j b hb=>(hp.bJ j b hb).imp id fun⟨a,b,c,d⟩=>⟨a,b,by omega,d⟩,hp.Cg⟩
    rcases Nat.lt_or_ge i0 j with hlt | hge
    ·exact hp.done j r' hr' hlt hl he
    ·have:j=i0:=by omega
     subst this
     rw[hri] at hr'; cases hr'
     exact absurd ⟨hl,he⟩ hne
   ·rename_i hk
    simp only[Bool.and_eq_true,Bool.not_eq_true'] at hk
    have yV:=bE hk.1
    obtain⟨g,hg,hcase⟩:=vX h
    -- whatever the row gives
    have fin:∀ (v:AV) (M' : RM) (b:Option Nat),s.M.Sub M'→Fr M'→s.M.next≤M'.next→(∀ ρ w,dU P ρ s.M w→dU P ρ M' w)→(∀ b',b=some b'→s.M.next≤b'∧b'<M'.next) →
      (∀ s2:qA,(∀ j,Nat.testBit r.m j=true→s2.vals.get j=s.vals.get j)→s2.vals.get r.i=some v→s2.bJ.get r.i=some b→M'.Sub s2.M→vJ P ops T0 ri.wr s2 r) →
      Hd P ops T0 ri.wr lev rows { vals:=s.vals.set r.i v,M:=M',bJ:=s.bJ.set r.i b } K→∃ s',K s'∧ZP P ops T0 ri lev i0 s s':=by
     intro v M' b hsub hfr hnx hrel hb hok h
     obtain⟨s',hK,hp⟩:=Cf ht rows (i0 + 1) _ hd' hfr (fun j b' hj=>by
      rw[Tree.bF] at hj
      split at hj
      ·cases hj; exact(hb b' rfl).2
      ·exact Nat.lt_of_lt_of_le (hbd j b' hj) hnx) h
     have UN:=hp.keep r.i (fun r' hr' hj'=>by omega)
     simp only[Tree.bF,if_true] at UN
     refine⟨s',hK,fun j hj=>?_,fun j r' hr' hj hl he=>?_,hsub.trans hp.sub,hp.fr,fun ρ w h=>hp.rel ρ w (hrel ρ w h),Nat.le_trans hnx hp.next,fun j b' hb'=>?_,fun j1 j2 b' h1 h2 hb'=>?_⟩
     ·have hji:j≠r.i:=fun e=>hj r (by rw[e,e1]; exact hri) (by omega) ⟨yV,hk.2⟩
      obtain⟨k1,k2⟩:=hp.keep j fun r' hr' hj'=>hj r' hr' (by omega)
      simp only[Tree.bF,if_neg hji] at k1 k2
      exact⟨k1,k2⟩
     ·rcases Nat.lt_or_ge i0 j with hlt | hge
      ·exact hp.done j r' hr' hlt hl he
      ·have:j=i0:=by omega
       subst this
       rw[hri] at hr'; cases hr'
       refine hok s' (fun q hq=>?_) UN.1 UN.2 hp.sub
       have hqlt:q<j:=by
        have hc:Closed ops.toList (fun i=>i<j):=fun i o ho hi e he' hb'=>by have:=ht.zI i o ho e he' hb'; omega
        exact ht.ahead hc hri (fun e he' hb'=>ht.zI j r.o e2 e he' hb') hq
       have hqi:q≠r.i:=by omega
       have:=(hp.keep q fun r' hr' hj'=>by omega).1
       rw[this]
       simp only[Tree.bF,if_neg hqi]
     ·rcases hp.bJ j b' hb' with k | ⟨k1,k2,k3,k4⟩
      ·simp only[Tree.bF] at k
       split at k
       ·rename_i e
        cases k
        obtain⟨q1,q2⟩:=hb b' rfl
        exact .inr ⟨q1,Nat.lt_of_lt_of_le q2 hp.next,by omega,r,by rw[e,e1]; exact hri⟩
       ·exact .inl k
      ·simp only at k1
       exact .inr ⟨by omega,k2,by omega,k4⟩
     ·rcases Nat.lt_or_ge b' M'.next with hlt | hge
      ·have q:∀ j,s'.bJ.get j=some (some b')→j=r.i:=by
        intro j hj
        rcases hp.bJ j b' hj with k | ⟨k1,_⟩
        ·simp only[Tree.bF] at k
         split at k
         ·assumption
         ·have:=hbd j b' k; omega
        ·simp only at k1; omega
       rw[q j1 h1,q j2 h2]
      ·exact hp.Cg j1 j2 b' h1 h2 hge
    rcases hcase with⟨hon,hv⟩ | ⟨hoff,hv⟩
    ·unfold amz at hv
     have val:(r.kd=.pure∨r.kd=.read)→fo P r.o (iP T0 ri.wr s.vals r.m) s.M (fun v=>Hd P ops T0 ri.wr lev rows { vals:=s.vals.set r.i v,M:=s.M,bJ:=s.bJ.set r.i none } K)→∃ s',K s'∧ZP P ops T0 ri lev i0 s s':=by
      intro hkd hv
      obtain⟨v,hgv,hk2⟩:=CQ hv
      refine fin v s.M none (RM.Sub.refl _) hf (Nat.le_refl _) (fun _ _ h=>h) (fun b' h=>by cases h) (fun s2 q1 q2 q3 q4=>?_) hk2
      refine⟨g,by rw[← hg]; exact qI q1,.inl ⟨hon,v,q2, ?_⟩⟩
      rw[BR q1]
      rcases hkd with hkd | hkd
      ·rw[hkd]
       rcases hgv with hgv | ⟨hrd,_⟩
       ·exact hgv
       ·rw[← e5,hkd] at hrd; cases hrd
      ·rw[hkd]
       rcases hgv with hgv | ⟨_,hgv⟩
       ·exact hgv _
       ·exact hgv.sub q4
     split at hv
     ·exact val (.inl ‹_›) hv
     ·exact val (.inr ‹_›) hv
     ·rename_i hkd
      obtain⟨x,mk,hm,hk2⟩:=Dl hv
      refine fin (mk s.M.next) (s.M.push x) (some s.M.next) (hf.sub x) (hf.push x) (by simp[RM.push]) (fun ρ w h=>PW h hm) (fun b' h=>by cases h; simp[RM.push]) (fun s2 q1 q2 q3 q4=>?_) hk2
      refine⟨g,by rw[← hg]; exact qI q1,.inl ⟨hon,_,q2, ?_⟩⟩
      rw[BR q1,hkd]
      exact⟨x,mk,s.M.next,hm,q3,q4.2 _ _ (by simp[RM.push]),rfl⟩
     ·cases hv
    ·refine fin .undef s.M none (RM.Sub.refl _) hf (Nat.le_refl _) (fun _ _ h=>h) (fun b' h=>by cases h) (fun s2 q1 q2 q3 q4=>?_) hv
     exact⟨g,by rw[← hg]; exact qI q1,.inr ⟨hoff,q2⟩⟩
end
section
variable {P:Program} {nt:Nat} {ops:Array Oper} {ri:RI} {T0:Tree AV}
theorem Zm {wr:Tree Nat} {r:Row} {s s0:qA} {K:Prop} (h:aaG P ops T0 wr r s K) (hold:vJ P ops T0 wr s0 r) (hv:∀ j,Nat.testBit r.m j=true∨j=r.i→s.vals.get j=s0.vals.get j) (hb:s.bJ.get r.i=s0.bJ.get r.i) :
  K∧vJ P ops T0 wr s r:=by
 obtain⟨g,hg,hold⟩:=hold
 have hi:=hv r.i (.inr rfl)
 have he:iP T0 wr s.vals r.m=iP T0 wr s0.vals r.m:=BR fun j hj=>hv j (.inl hj)
 have hg' : guardOf ops wr s.vals r=some g:=by rw[← hg]; exact qI fun j hj=>hv j (.inl hj)
 have Su:Mk g→Y8 g→False:=by
  intro h1 h2
  unfold Mk at h1
  unfold Y8 at h2
  split at h1
  ·exact h1
  ·simp only at h2
   rcases h1 with h1 | ⟨b,h1,h3⟩
   ·rw[h2] at h1; cases h1
   ·rw[h2] at h1; cases h1; exact h3 rfl
 have aaq:∀ {K'},K'→Mk g∧s0.vals.get r.i=some .undef→K'∧vJ P ops T0 wr s r:=fun k h=>⟨k,g,hg',.inr ⟨h.1,by rw[hi]; exact h.2⟩⟩
 unfold aaG at h
 cases hkd:r.kd with
 | pure =>
   rw[hkd] at h
   refine⟨h,g,hg', ?_⟩
   rcases hold with⟨hon,v,hvi,hk⟩ | ⟨hoff,hvi⟩
   ·refine .inl ⟨hon,v,by rw[hi]; exact hvi, ?_⟩
    rw[hkd] at hk ⊢
    rw[he]; exact hk
   ·exact .inr ⟨hoff,by rw[hi]; exact hvi⟩
 | vD =>
   rcases hold with⟨hon,v,hvi,hk⟩ | ho
   ·rw[hkd] at hk; exact hk.elim
   ·rw[hkd] at h; exact aaq h ho
 | read =>
   rw[hkd] at h
   obtain⟨g2,hg2,hcase⟩:=vX h
   rw[hg'] at hg2; cases hg2
   rcases hold with⟨hon,v,hvi,hk⟩ | ho
   ·rcases hcase with⟨_,hn⟩ | ⟨hoff,_⟩
    ·obtain⟨v',hgv,hv',hK⟩:=CQ hn
     have hgv:nE P r.o (iP T0 wr s.vals r.m) s.M v':=by rcases hgv with hgv | ⟨_,hgv⟩ <;> first | exact hgv _ | exact hgv
     rw[hi,hvi] at hv'
     simp only[Option.getD_some] at hv'
     subst hv'
     refine⟨hK,g,hg',.inl ⟨hon,v',by rw[hi]; exact hvi, ?_⟩⟩
     rw[hkd]; exact hgv
    ·exact(Su hoff hon).elim
   ·rcases hcase with⟨hon,_⟩ | ⟨_,hK⟩
    ·exact(Su ho.1 hon).elim
    ·exact aaq hK ho
 | alloc =>
   rw[hkd] at h
   obtain⟨g2,hg2,hcase⟩:=vX h
   rw[hg'] at hg2; cases hg2
   rcases hold with⟨hon,v,hvi,hk⟩ | ho
   ·rcases hcase with⟨_,hn⟩ | ⟨hoff,_⟩
    ·obtain⟨x,mk,hm,hx,hK⟩:=Dl hn
     rw[hkd] at hk
     obtain⟨x0,mk0,b,_,h2,_,_⟩:=hk
     rw[hb,h2] at hx
     simp only[Option.getD_some] at hx
     rw[hi,hvi] at hx
     simp only[Option.getD_some] at hx
     refine⟨hK,g,hg',.inl ⟨hon,v,by rw[hi]; exact hvi, ?_⟩⟩
     rw[hkd]
     exact⟨x,mk,b,hm,by rw[hb]; exact h2,hx.1,hx.2⟩
    ·exact(Su hoff hon).elim
   ·rcases hcase with⟨hon,_⟩ | ⟨_,hK⟩
    ·exact(Su ho.1 hon).elim
    ·exact aaq hK ho
theorem K6 {lev:Nat} {s s0:qA} {K:Prop} : ∀ (rows:List Row),Q0 P ops T0 ri lev rows s K →
  (∀ r∈rows,ko r.kd=false→r.lev≤lev→kR ri.ms ri.es (lev + 1) r=true→vJ P ops T0 ri.wr s0 r∧(∀ j,Nat.testBit r.m j=true∨j=r.i→s.vals.get j=s0.vals.get j)∧s.bJ.get r.i=s0.bJ.get r.i) →
  K∧∀ r∈rows,ko r.kd=false→r.lev≤lev→kR ri.ms ri.es (lev + 1) r=true→vJ P ops T0 ri.wr s r
 | [],h,_=>⟨h,fun r hr=>by cases hr⟩
 | r :: rows,h,ho=>by
   simp only[Q0] at h
   split at h
   ·rename_i hc
    obtain⟨h1,h2⟩:=K6 rows h fun r' hr'=>ho r' (.tail _ hr')
    refine⟨h1,fun r' hr' e1 e2 e3=>?_⟩
    rcases List.mem_cons.1 hr' with e | hr'
    ·subst e
     rw[bi.2 e2,e1,e3] at hc
     cases hc
    ·exact h2 r' hr' e1 e2 e3
   ·rename_i hc
    simp only[Bool.and_eq_true,Bool.not_eq_true'] at hc
    obtain⟨⟨c1,c2⟩,c3⟩:=hc
    obtain⟨o1,o2,o3⟩:=ho r (.head _) c2 (bz c1) c3
    obtain⟨h1,h2⟩:=Zm h o1 o2 o3
    obtain⟨h3,h4⟩:=K6 rows h1 fun r' hr'=>ho r' (.tail _ hr')
    refine⟨h3,fun r' hr' e1 e2 e3=>?_⟩
    rcases List.mem_cons.1 hr' with e | hr'
    ·subst e; exact h2
    ·exact h4 r' hr' e1 e2 e3
theorem ahh {ρ:Ren} {i:ik} {x:RB} {y y' : dz} {ob:Obj} (h:Au x y) (h' : Au x y') (hb:jH P ρ i y ob) : jH P ρ i y' ob:=by
 cases x with
 | row l opn elem fz =>
   cases y <;> first | exact h.elim | skip
   cases y' <;> first | exact h'.elim | skip
   obtain⟨rfl,rfl,rfl,rfl,h5⟩:=h
   obtain⟨h1,rfl,rfl,rfl,h5'⟩:=h'
   subst h1
   obtain⟨c,fr,rfl,hr⟩:=hb
   refine⟨c,fr,rfl,hr.size,fun k u hk=>?_,hr.free,hr.mark,hr.opn,hr.sh0⟩
   have hlt:=BL hk
   have hv:l[k]?=some l[k]:=by simp[hlt]
   have e1:=h5' k _ hv
   rw[hk] at e1; cases e1
   exact hr.val k _ (h5 k _ hv)
 | ro c=>cases y <;> exact h.elim
 | map es c =>
   cases y <;> first | exact h.elim | skip
   cases y' <;> first | exact h'.elim | skip
   obtain⟨rfl,rfl⟩:=h
   obtain⟨rfl,rfl⟩:=h'
   exact hb
 | iter m a b c =>
   cases y <;> first | exact h.elim | skip
   cases y' <;> first | exact h'.elim | skip
   obtain⟨rfl,rfl,rfl,rfl⟩:=h
   obtain⟨rfl,rfl,rfl,rfl⟩:=h'
   exact hb
 | mi s p =>
   cases y <;> first | exact h.elim | skip
   cases y' <;> first | exact h'.elim | skip
   obtain⟨rfl,rfl⟩:=h
   obtain⟨rfl,rfl⟩:=h'
   exact hb
theorem acT {ρ:Ren} {M:RM} {w:World} {b:Nat} {x:RB} {y:dz} {ob:Obj} {i:ik} (hw:dU P ρ M w) (hi:i.cb=w.heap.size) (hb:ρ b=none) (hlt:b<M.next) (hx:M.heap b=some x) (hle:Au x y)
  (hrel:jH P ρ i y ob) : dU P (ρ.add b i) M (w.alloc ob)∧Step M.lo b ρ w (ρ.add b i) (w.alloc ob):=by
 obtain⟨A,hA⟩:=hw
 rcases hA.blk b x hx with⟨y',hy',Tj⟩ | ⟨c,rfl,_⟩
 ·obtain⟨h1,h2⟩:=Mi hA.rel hA.size hi hb (by rw[hA.next]; exact hlt) hy' ((ahh hle Tj hrel).mono (Ren.vZ hb))
  have:=hA.size
  refine⟨⟨A,hA.next,h1,by simp; omega,fun c z hz=>?_,fun c hc=>?_⟩,h2⟩
  ·rcases hA.blk c z hz with k | ⟨d,rfl,hlt,elem,fr,hh⟩
   ·exact .inl k
   ·exact .inr ⟨d,rfl,hlt,elem,fr,by rw[heap_alloc_old w ob c (by omega)]; exact hh⟩
  ·unfold Ren.add
   rw[if_neg (fun e=>by subst e; rw[hA.old _ hc] at hb; cases hb)]
   exact hA.old c hc
 ·cases y <;> exact hle.elim
structure GK (P:Program) (nt:Nat) (ops:Array Oper) (ri:RI) (T0:Tree AV) (M0:RM) (ρ0:Ren) (w0:World) (k:Nat) (done rest:List Nat) (s:qA) (S:Nat→Prop) (ρ:Ren) (a:Act) (w:World) : Prop where
 es:ri.es=done++rest
 len:done.length=k
 closed:Closed ops.toList S
 dn:∀ x∈done,S x
 rs:∀ x∈rest,¬ S x
 lev:∀ (j:Nat) (r:Row),ri.rows[j]?=some r→ko r.kd=false→S j→r.lev≤k
 size:a.tmps.size=nt
 defers:a.defers=[]
 slot:IR ρ T0 ri.wr s.vals S a
 mM:dU P ρ s.M w
 step:Step M0.lo M0.next ρ0 w0 ρ w
 base:s.M.base=M0.base
 next:M0.next≤s.M.next
 bid:∀ j b,s.bJ.get j=some (some b)→M0.next≤b∧b<s.M.next∧(¬ S j→ρ b=none)∧j<ops.size
 Cg:∀ j1 j2 b,s.bJ.get j1=some (some b)→s.bJ.get j2=some (some b)→j1=j2
variable {M0:RM} {ρ0:Ren} {w0:World} {k:Nat} {done rest:List Nat} {s:qA} {S:Nat→Prop} {ρ:Ren} {a:Act} {w:World}
theorem ab5 (ht:ol P nt ops ri) (hI:GK P nt ops ri T0 M0 ρ0 w0 k done rest s S ρ a w) {i:Nat} {r:Row} (hr:ri.rows[i]?=some r) (hns:¬ S i) (hd:∀ e∈r.o.after.toList,Region.binds .any e=true→S e.on)
  (hok:uY ri r=true) : ∀ x∈r.o.op.operands,ax ρ (iP T0 ri.wr s.vals r.m x) (a.eval x):=by
 intro x hx
 have hx' : H9 ri r x=true:=by
  unfold uY at hok
  exact List.all_eq_true.1 hok x (by simpa using hx)
 cases x with
 | tmp t =>
   obtain⟨h1,h2⟩:=hI.slot t
   simp only[iP,Act.eval]
   simp only[H9] at hx'
   cases hw:ri.wr.get t with
   | none =>
     simp only
     exact h2 fun j hj=>by rw[hw] at hj; cases hj
   | some j =>
     rw[hw] at hx'
     simp only
     cases hb:Nat.testBit r.m j with
     | true =>
       simp only
       exact h1 j hw (ht.ahead hI.closed hr hd hb)
     | false =>
       simp only
       refine h2 fun j' hj'=>?_
       rw[hw] at hj'; cases hj'
       simp only[hb,Bool.false_or,Bool.or_eq_true] at hx'
       obtain⟨e1,_⟩:=ht.row hr
       rcases hx' with hx' | hx'
       ·rw[bE hx',e1]; exact hns
       ·intro hS
        rw[cK,e1] at hx'
        obtain⟨o,ho,_⟩:=ht.wrs t j hw
        exact hns (ht.DV hI.closed hS ho hx')
 | const v =>
   simp only[iP,oo,Act.eval]
   cases hv:jW v with
   | none=>exact .top _
   | some u=>exact iW hv
 | global g=>exact .top _
 | func f=>exact .fn _ _ _ _ _ rfl .nil .nil
theorem NS (ht:ol P nt ops ri) (hI:GK P nt ops ri T0 M0 ρ0 w0 k done rest s S ρ a w) {i:Nat} {r:Row} (hr:ri.rows[i]?=some r) (hd:∀ e∈r.o.after.toList,Region.binds .any e=true→S e.on) {g:Option (AV × Bool)}
  (hg:guardOf ops ri.wr s.vals r=some g) : (Y8 g→Region.wanted r.o (yielded ops a.tmps)=true)∧(Mk g→Region.wanted r.o (yielded ops a.tmps)=false):=by
 unfold guardOf at hg
 unfold Region.wanted
 split at hg
 ·rename_i hgu; simp only[hgu]; cases hg
  exact⟨fun _=>trivial,fun h=>h.elim⟩
 ·rename_i j want hgu
  simp only[hgu]
  split at hg <;> first | (cases hg; done) | skip
  rename_i d hdst
  split at hg <;> first | (cases hg; done) | skip
  rename_i j' hb hwr
  split at hg <;> first | (cases hg; done) | skip
  rename_i he
  cases hg
  have he:=bE he
  subst he
  have hv:=(hI.slot d).1 j' hwr (ht.ahead hI.closed hr hd hb)
  have hyv:yielded ops a.tmps j'=match a.tmps[d]? with | some (.bool b)=>some b | _=>none:=by
   unfold yielded; rw[hdst]; rfl
  have hget:∀ t:Bool,a.tmps.getD d undef=.bool t↔a.tmps[d]?=some (.bool t):=by
   intro t
   rw[Array.getD_eq_getD_getElem?]
   cases hx:a.tmps[d]? with
   | none=>simp[undef]
   | some y=>simp
  have off:(∀ b,a.tmps.getD d undef=.bool b→b≠want)→(yielded ops a.tmps j' == some want)=false:=by
   intro hn
   rw[hyv]
   cases hx:a.tmps[d]? with
   | none=>rfl
   | some y =>
     cases y <;> try rfl
     rename_i b
     have:=hn b ((hget b).2 hx)
     simpa using this
  constructor
  ·intro hon
   simp only[Y8] at hon
   rw[hon] at hv
   have hc:=(aV hv).1
   rw[hyv,(hget want).1 hc]; simp
  ·intro hoff
   simp only[Mk] at hoff
   refine off fun b hb'=>?_
   rcases hoff with hu | ⟨b',hu,hne⟩
   ·rw[hu] at hv
    obtain⟨vs,hc,hrl⟩:=DJ hv
    rw[hc] at hb'; cases hb'
   ·rw[hu] at hv
    rw[(aV hv).1] at hb'; cases hb'; exact hne
def Sk (P:Program) (ops:Array Oper) (T0:Tree AV) (ri:RI) (k:Nat) (s:qA) (K:qA→Prop) : List Nat→Prop
 | []=>K s
 | x :: rest=>∃ r,nth ri.rows x=some r∧AR (guardOf ops ri.wr s.vals r) (j5 P r.o (iP T0 ri.wr s.vals r.m) s.M) (fun k=>k .undef s.M)
    (fun v M'=>Q0 P ops T0 ri k ri.rows { vals:=s.vals.set x v,M:=M',bJ:=s.bJ } (yR P ops T0 ri (k + 1) rest { vals:=s.vals.set x v,M:=M',bJ:=s.bJ } K))
theorem JR (ht:ol P nt ops ri) {K:qA→Prop} {es:List Nat} (hf:Fr s.M) (hbd:∀ j b,s.bJ.get j=some (some b)→b<s.M.next) (h:yR P ops T0 ri k es s K) :
  ∃ s1,Sk P ops T0 ri k s1 K es∧ZP P ops T0 ri k 0 s s1:=by
 cases es with
 | nil =>
   rw[yR] at h
   exact Cf ht ri.rows 0 s rfl hf hbd h
 | cons x rest =>
   rw[yR] at h
   obtain⟨s1,hk,hp⟩:=Cf ht ri.rows 0 s rfl hf hbd h
   refine⟨s1, ?_,hp⟩
   split at hk
   ·cases hk
   ·rename_i r hr
    exact⟨r,hr,hk⟩
def Chk (P:Program) (ops:Array Oper) (T0:Tree AV) (ri:RI) (k:Nat) (s:qA) : Prop:=∀ r∈ri.rows,ko r.kd=false→kR ri.ms ri.es k r=true→vJ P ops T0 ri.wr s r
theorem EI {acc:List Nat} : ∀ (es:List Edge) (e:Edge),e∈es→Region.binds .any e=true→Nat.testBit (oP acc es) e.on=true∧∀ j,Nat.testBit ((nth acc e.on).getD 0) j=true→Nat.testBit (oP acc es) j=true
 | [],e,h,_=>by cases h
 | x :: es,e,h,hb=>by
   simp only[oP]
   rcases List.mem_cons.1 h with rfl | h
   ·rw[hb]
    simp only
    refine⟨?_,fun j hj=>?_⟩
    ·rw[Nat.testBit_or,Nat.testBit_or,Nat.testBit_two_pow]; simp
    ·rw[Nat.testBit_or,Nat.testBit_or,hj]; simp
   ·obtain⟨h1,h2⟩:=EI (acc:=acc) es e h hb
    split
    ·refine⟨?_,fun j hj=>?_⟩
     ·rw[Nat.testBit_or,h1]; simp
     ·rw[Nat.testBit_or,h2 j hj]; simp
    ·exact⟨h1,h2⟩
theorem QS (ht:ol P nt ops ri) {q:Nat} {r:Row} (hq:ri.rows[q]?=some r) : ∃ pre,(∀ i,i<q→nth pre i=ri.ms[i]?)∧r.m=oP pre r.o.after.toList:=by
 obtain⟨g1,g2,g3,g4,g5⟩:=ht.row hq
 obtain⟨pre,h1,h2,h3⟩:=(Ay ops.toList []).2 q r.o g2
 simp only[List.length_nil,Nat.zero_add] at h1 h2 h3
 refine⟨pre,fun i hi=>by rw[cK,h2 i hi,← ht.ms], ?_⟩
 rw[← ht.ms,g3] at h3
 exact Option.some.inj h3
theorem NN (ht:ol P nt ops ri) {q:Nat} {r:Row} (hq:ri.rows[q]?=some r) {e:Edge} (he:e∈r.o.after.toList) (hb:Region.binds .any e=true) : Nat.testBit r.m e.on=true:=by
 obtain⟨pre,_,h2⟩:=QS ht hq
 rw[h2]; exact(EI _ e he hb).1
theorem XP (ht:ol P nt ops ri) : ∀ (q:Nat) {i:Nat} {r:Row} {o:Oper},ri.rows[q]?=some r→Nat.testBit r.m i=true→ops.toList[i]?=some o→∀ {e:Edge},e∈o.after.toList→Region.binds .any e=true→Nat.testBit r.m e.on=true:=by
 intro q
 induction q using Nat.strongRecOn with
 | _ q ih =>
   intro i r o hq hi ho e he hb
   obtain⟨g1,g2,g3,g4,g5⟩:=ht.row hq
   obtain⟨pre,h1,h2⟩:=QS ht hq
   have hi':=hi
   rw[h2] at hi'
   obtain⟨e0,he0,hb0,hcase⟩:=zy _ hi'
   have hlt:=ht.zI q r.o g2 e0 he0 hb0
   obtain⟨r0,hr0,_⟩:=ht.ex (j:=e0.on) (o:=ops.toList[e0.on]'(by have:=(List.getElem?_eq_some_iff.1 g2).1; omega)) (by simp)
   obtain⟨k1,k2,k3,k4,k5⟩:=ht.row hr0
   have hsub:∀ j,Nat.testBit r0.m j=true→Nat.testBit r.m j=true:=by
    intro j hj
    rw[h2]
    refine(EI _ e0 he0 hb0).2 j ?_
    rw[h1 e0.on hlt,k3]; exact hj
   rcases hcase with rfl | ⟨m,hm,hmi⟩
   ·rw[k2] at ho; cases ho
    exact hsub _ (NN ht hr0 he hb)
   ·rw[← cK,h1 e0.on hlt,k3] at hm
    cases hm
    exact hsub _ (ih e0.on hlt hr0 hmi ho he hb)
theorem Fx {m m' : Nat} (h:∀ x,Nat.testBit m x=true→Nat.testBit m' x=true) : ∀ (es:List Nat) (i0 b b' : Nat),b≤b'→b'≤i0→ni m es i0 b≤ni m' es i0 b'
 | [],i0,b,b',hb,_=>by simpa [ni] using hb
 | x :: es,i0,b,b',hb,hi=>by
   simp only[ni]
   cases hm:Nat.testBit m x with
   | true =>
     rw[h x hm]
     exact Fx h es (i0 + 1) _ _ (Nat.le_refl _) (Nat.le_refl _)
   | false =>
     cases hm' : Nat.testBit m' x with
     | true=>exact Fx h es (i0 + 1) b (i0 + 1) (by omega) (Nat.le_refl _)
     | false=>exact Fx h es (i0 + 1) b b' hb (by omega)
theorem afp (ht:ol P nt ops ri) {listed:Array Bool} (hsz:listed.size=ops.size) (hI:GK P nt ops ri T0 M0 ρ0 w0 k done rest s (eU listed) ρ a w) {i:Nat} {r:Row} (hi:i<ops.size) (hr:ri.rows[i]?=some r)
  (hd:∀ e∈r.o.after.toList,Region.binds .any e=true→eU listed e.on) (hk:ko r.kd=false) (yV:r.lev≤k) {v:AV} {v' : Value} {ρ' : Ren} {w' : World} (hvi:s.vals.get i=some v) (hv:ax ρ' v v') (hle:ρ.le ρ')
  (hw:dU P ρ' s.M w') (hst:Step M0.lo M0.next ρ w ρ' w') (aem:∀ j b,s.bJ.get j=some (some b)→¬ eU (listed.setIfInBounds i true) j→ρ' b=none) :
  GK P nt ops ri T0 M0 ρ0 w0 k done rest s (eU (listed.setIfInBounds i true)) ρ' (a.put r.o.dst v') w':=by
 have hS:∀ j,eU (listed.setIfInBounds i true) j↔eU listed j∨j=i:=vg (by omega)
 obtain⟨e1,e2,_⟩:=ht.row hr
 refine⟨hI.es,hI.len, ?_,fun x hx=>(hS x).2 (.inl (hI.dn x hx)), ?_, ?_, ?_, ?_, ?_,hw,hI.step.trans hst (Nat.le_refl _),hI.base,hI.next,fun j b hb=>⟨(hI.bid j b hb).1,(hI.bid j b hb).2.1,aem j b hb,(hI.bid j b hb).2.2.2⟩,hI.Cg⟩
 ·intro j o ho hj e he hb
  rcases(hS j).1 hj with hj | rfl
  ·exact(hS _).2 (.inl (hI.closed j o ho hj e he hb))
  ·rw[e2] at ho; cases ho
   exact(hS _).2 (.inl (hd e he hb))
 ·intro x hx hl
  rcases(hS x).1 hl with hl | rfl
  ·exact hI.rs x hx hl
  ·have:x∈ri.es:=by rw[hI.es]; exact List.mem_append_right _ hx
   rw[ht.vD hr,hk] at this
   cases this
 ·intro j r' hr' hk' hj
  rcases(hS j).1 hj with hj | rfl
  ·exact hI.lev j r' hr' hk' hj
  ·rw[hr] at hr'; cases hr'; exact yV
 ·cases hdst:r.o.dst <;> simp[Act.put,hI.size]
 ·cases hdst:r.o.dst <;> simp[Act.put,hI.defers]
 ·exact EQ ht (fun t=>⟨fun j h1 h2=>((hI.slot t).1 j h1 h2).mono hle,fun h=>((hI.slot t).2 h).mono hle⟩) hI.size hr hv hvi hS
theorem adQ (ht:ol P nt ops ri) {listed:Array Bool} (hsz:listed.size=ops.size) {i:Nat} {rest' : List Nat} (hI:GK P nt ops ri T0 M0 ρ0 w0 k done (i :: rest') s (eU listed) ρ a w) (wI:Chk P ops T0 ri k s) {r:Row} (hi:i<ops.size) (hr:ri.rows[i]?=some r)
  (hd:∀ e∈r.o.after.toList,Region.binds .any e=true→eU listed e.on) (hnd:i ∉ rest') {v:AV} {v' : Value} {ρ' : Ren} {w' : World} {M' : RM} (hv:ax ρ' v v') {K:qA→Prop}
  (haft:After P s.M ρ w M' ρ' w') (hre:Q0 P ops T0 ri k ri.rows { vals:=s.vals.set i v,M:=M',bJ:=s.bJ } (yR P ops T0 ri (k + 1) rest' { vals:=s.vals.set i v,M:=M',bJ:=s.bJ } K)) :
  ∃ s3,GK P nt ops ri T0 M0 ρ0 w0 (k + 1) (done++[i]) rest' s3 (eU (listed.setIfInBounds i true)) ρ' (a.put r.o.dst v') w'∧Chk P ops T0 ri (k + 1) s3∧Sk P ops T0 ri (k + 1) s3 K rest':=by
 have hS:∀ j,eU (listed.setIfInBounds i true) j↔eU listed j∨j=i:=vg (by omega)
 obtain⟨e1,e2,e3,e4,e5⟩:=ht.row hr
 have hmem:i∈ri.es:=by rw[hI.es]; simp
 have hke:=(ht.vD hr).1 hmem
 have hle:=haft.le hI.mM
 -- an alive row that was done does not look at the effect
 have aqg:ri.es[k]?=some i:=by
  rw[hI.es,List.getElem?_append_right (by rw[hI.len]; omega),hI.len]; simp
 have am1:∀ r'∈ri.rows,r'.lev≤k→Nat.testBit r'.m i=true→False:=by
  intro r' hr' hl hb
  obtain⟨q,hq⟩:=List.mem_iff_getElem?.1 hr'
  obtain⟨g1,g2,g3,g4,g5⟩:=ht.row hq
  have key:∀ (es:List Nat) (i0 nK k:Nat),es[k]?=some i→i0 + k + 1≤ni r'.m es i0 nK:=by
   intro es
   induction es with
   | nil=>intro i0 nK k h; simp at h
   | cons x es ih =>
     intro i0 nK k h
     simp only[ni]
     cases k with
     | zero =>
       simp at h; subst h
       rw[hb]
       simp only
       have mono:∀ (es:List Nat) (j nK:Nat),nK≤j→nK≤ni r'.m es j nK:=by
        intro es
        induction es with
        | nil=>intro j nK _; exact Nat.le_refl _
        | cons y es ih2 =>
          intro j nK hbj
          simp only[ni]
          split
          ·exact Nat.le_trans (by omega) (ih2 (j + 1) (j + 1) (Nat.le_refl _))
          ·exact ih2 (j + 1) nK (by omega)
       exact mono es (i0 + 1) (i0 + 1) (Nat.le_refl _)
     | succ k =>
       split
       ·have:=ih (i0 + 1) (i0 + 1) k (by simpa using h); omega
       ·have:=ih (i0 + 1) nK k (by simpa using h); omega
  have:=key ri.es 0 0 k aqg
  rw[← g4] at this
  omega
 obtain⟨VX,hrows⟩:=K6 (s0:=s) ri.rows hre fun r' hr' f1 f2 f3=>by
  refine⟨wI r' hr' f1 ?_,fun j hj=>?_,rfl⟩
  ·unfold kR at f3 ⊢
   rw[Bool.and_eq_true] at f3 ⊢
   refine⟨bi.2 f2, ?_⟩
   have f4:=f3.2
   rw[List.all_eq_true] at f4 ⊢
   intro x hx
   refine f4 x ?_
   have:=List.take_subset_take_left ri.es (Nat.le_succ k)
   exact this hx
  ·simp only[Tree.bF]
   rw[if_neg]
   rintro rfl
   rcases hj with hj | hj
   ·exact am1 r' hr' f2 hj
   ·obtain⟨q,hq⟩:=List.mem_iff_getElem?.1 hr'
    obtain⟨g1,_⟩:=ht.row hq
    have:q=j:=by omega
    subst this
    rw[hr] at hq; cases hq
    rw[f1] at hke; cases hke
 obtain⟨s3,hcont,hp⟩:=JR (s := { vals:=s.vals.set i v,M:=M',bJ:=s.bJ }) ht (haft.rel.fr) (fun j b hb=>Nat.lt_of_lt_of_le (hI.bid j b hb).2.1 haft.next) VX
 have hkeep:∀ j,eU listed j∨j=i→s3.vals.get j=(s.vals.set i v).get j:=by
  intro j hj
  refine(hp.keep j fun r' hr' _=>?_).1
  rintro⟨hl,hk'⟩
  rcases hj with hj | rfl
  ·have:=hI.lev j r' hr' hk' hj; omega
  ·rw[hr] at hr'; cases hr'; rw[hke] at hk'; cases hk'
 have hvi:s3.vals.get i=some v:=by rw[hkeep i (.inr rfl),Tree.bF,if_pos rfl]
 refine⟨s3,⟨by rw[hI.es]; simp,by simp[hI.len], ?_, ?_, ?_, ?_, ?_, ?_, ?_,hp.rel _ _ haft.rel,hI.step.trans (haft.step.YH hI.base) hI.next, ?_, ?_, ?_, ?_⟩, ?_,hcont⟩
 ·intro j o ho hj e he hb
  rcases(hS j).1 hj with hj | rfl
  ·exact(hS _).2 (.inl (hI.closed j o ho hj e he hb))
  ·rw[e2] at ho; cases ho
   exact(hS _).2 (.inl (hd e he hb))
 ·intro x hx
  rcases List.mem_append.1 hx with hx | hx
  ·exact(hS x).2 (.inl (hI.dn x hx))
  ·simp at hx; subst hx; exact(hS x).2 (.inr rfl)
 ·intro x hx hl
  rcases(hS x).1 hl with hl | rfl
  ·exact hI.rs x (.tail _ hx) hl
  ·exact hnd hx
 ·intro j r' hr' hk' hj
  rcases(hS j).1 hj with hj | rfl
  ·have:=hI.lev j r' hr' hk' hj; omega
  ·rw[hr] at hr'; cases hr'; rw[hke] at hk'; cases hk'
 ·cases hdst:r.o.dst <;> simp[Act.put,hI.size]
 ·cases hdst:r.o.dst <;> simp[Act.put,hI.defers]
 ·refine EQ ht (v:=v) (S:=eU listed) (fun t=>⟨fun j h1 h2=>?_,fun h=>((hI.slot t).2 h).mono hle⟩) hI.size hr hv hvi hS
  rw[hkeep j (.inl h2),Tree.bF]
  split
  ·rename_i e
   subst e
   exact absurd h2 (hI.rs j (.head _))
  ·exact((hI.slot t).1 j h1 h2).mono hle
 ·rw[hp.sub.1,← hI.base]; exact haft.base
 ·exact Nat.le_trans hI.next (Nat.le_trans haft.next hp.next)
 ·intro j b hb
  rcases hp.bJ j b hb with h | ⟨h,h',_,r',hr'⟩
  ·obtain⟨b1,b2,b3,b4⟩:=hI.bid j b h
   refine⟨b1,Nat.lt_of_lt_of_le b2 (Nat.le_trans haft.next hp.next),fun hj=>?_,b4⟩
   rw[haft.step.ext b b2]
   exact b3 fun hl=>hj ((hS j).2 (.inl hl))
  ·refine⟨Nat.le_trans hI.next (Nat.le_trans haft.next h),h',fun _=>haft.rel.fresh h, ?_⟩
   obtain⟨g1,g2,_⟩:=ht.row hr'
   have:=(List.getElem?_eq_some_iff.1 g2).1
   rw[Array.length_toList] at this
   exact this
 ·intro j1 j2 b h1 h2
  rcases Nat.lt_or_ge b M'.next with hlt | hge
  ·have q:∀ j,s3.bJ.get j=some (some b)→s.bJ.get j=some (some b):=by
    intro j hj
    rcases hp.bJ j b hj with k | ⟨k1,_⟩
    ·exact k
    ·simp only at k1; omega
   exact hI.Cg j1 j2 b (q j1 h1) (q j2 h2)
  ·exact hp.Cg j1 j2 b h1 h2 hge
 ·intro r' hr' f1 f3
  obtain⟨q,hq⟩:=List.mem_iff_getElem?.1 hr'
  obtain⟨g1,g2,g3,g4,g5⟩:=ht.row hq
  have f3':=f3
  unfold kR at f3'
  rw[Bool.and_eq_true] at f3'
  have hl:=bz f3'.1
  by_cases he:r'.lev=k + 1
  ·exact hp.done q r' hq (Nat.zero_le _) he f1
  ·have hl' : r'.lev≤k:=by omega
   refine(hrows r' hr' f1 hl' f3).keep (fun j hj=>?_) ?_ hp.sub
   ·refine(hp.keep j fun r2 hr2 _=>?_).1
    rintro⟨h1,h2⟩
    rcases hj with hj | hj
    ·
     have hjm:r2.lev≤r'.lev:=by
      obtain⟨q1,q2,q3,q4,q5⟩:=ht.row hr2
      have sub:∀ x,Nat.testBit r2.m x=true→Nat.testBit r'.m x=true:=by
       intro x hx
       have hcl:Closed ops.toList (fun i=>Nat.testBit r'.m i=true∨i=q):=by
        intro i o ho hi e he' hb'
        rcases hi with hi | rfl
        ·exact .inl (XP ht _ hq hi ho he' hb')
        ·rw[g2] at ho; cases ho
         exact .inl (NN ht hq he' hb')
       rcases ht.DV hcl (.inl hj) q2 (by rw[q3]; exact hx) with h | h
       ·exact h
       ·subst h
        exfalso
        have hlt:j<x:=by
         have hc:Closed ops.toList (fun i=>i<x):=fun i o ho hi e he' hb'=>by have:=ht.zI i o ho e he' hb'; omega
         exact ht.ahead hc hq (fun e he' hb'=>ht.zI x r'.o g2 e he' hb') hj
        have hlt2:x<j:=by
         have hc:Closed ops.toList (fun i=>i<j):=fun i o ho hi e he' hb'=>by have:=ht.zI i o ho e he' hb'; omega
         exact ht.ahead hc hr2 (fun e he' hb'=>ht.zI j r2.o q2 e he' hb') hx
        omega
      rw[q4,g4]
      exact Fx sub ri.es 0 0 0 (Nat.le_refl _) (Nat.le_refl _)
     omega
    ·have:q=j:=by omega
     subst this
     rw[hq] at hr2; cases hr2; omega
   ·refine(hp.keep r'.i fun r2 hr2 _=>?_).2
    rw[g1,hq] at hr2; cases hr2
    rintro⟨h1,_⟩; omega
theorem ac8 (hP:Nj P) (ht:ol P nt ops ri) (Aq:∀ r∈ri.rows,uY ri r=true) {Q:Exit→Act→World→Prop} {K:qA→Prop}
  (hQ:∀ s ρ' a' w',K s→Step M0.lo M0.next ρ0 w0 ρ' w'→fP ρ' nt (CR T0 s.vals ri.rows) a'→dU P ρ' s.M w'→s.M.base=M0.base→M0.next≤s.M.next→Q .normal a' w') :
  ∀ (fuel:Nat) (listed:Array Bool) (k:Nat) (done rest:List Nat) (s:qA) (ρ:Ren) (a:Act) (w:World),listed.size=ops.size→listed.toList.count false≤fuel →
    GK P nt ops ri T0 M0 ρ0 w0 k done rest s (eU listed) ρ a w→Chk P ops T0 ri k s→Sk P ops T0 ri k s K rest→wpAny P .any ops Q fuel listed a w:=by
 have fin:∀ (listed:Array Bool) (k:Nat) (done rest:List Nat) (s:qA) (ρ:Ren) (a:Act) (w:World),listed.size=ops.size→(∀ i,i<ops.size→eU listed i) →
   GK P nt ops ri T0 M0 ρ0 w0 k done rest s (eU listed) ρ a w→Sk P ops T0 ri k s K rest→Q .normal a w:=by
  intro listed k done rest s ρ a w hsz hall hI hcont
  have hrest:rest=[]:=by
   cases rest with
   | nil=>rfl
   | cons x rest =>
     have hx:x∈ri.es:=by rw[hI.es]; simp
     rw[ht.es,rM] at hx
     obtain⟨j,o,hj,rfl,_⟩:=hx
     have:=(List.getElem?_eq_some_iff.1 hj).1
     exact absurd (hall (0 + j) (by simpa using this)) (hI.rs _ (.head _))
  subst hrest
  have hcont:K s:=hcont
  refine hQ s ρ a w hcont hI.step ⟨hI.size,fun t=>?_,hI.defers⟩ hI.mM hI.base hI.next
  obtain⟨g1,g2⟩:=hI.slot t
  refine Ei t _ ri.rows T0 (fun r hr hd=>?_) ?_
  ·obtain⟨q,hq⟩:=List.mem_iff_getElem?.1 hr
   obtain⟨e1,e2,_⟩:=ht.row hq
   have hql:=(List.getElem?_eq_some_iff.1 e2).1
   have:=g1 r.i (ht.dst q r hq t hd).1 (by rw[e1]; exact hall q (by simpa using hql))
   exact this
  ·by_cases hex:∃ j,ri.wr.get t=some j
   ·obtain⟨j,hj⟩:=hex
    obtain⟨o,ho,hdo⟩:=ht.wrs t j hj
    obtain⟨r,hr,rfl⟩:=ht.ex ho
    exact .inl ⟨r,List.mem_of_getElem? hr,hdo⟩
   ·exact .inr (g2 fun j hj=>absurd ⟨j,hj⟩ hex)
 intro fuel
 induction fuel with
 | zero =>
   intro listed k done rest s ρ a w hsz hcnt hI wI hcont
   have hall:∀ i,i<ops.size→eU listed i:=fun i hi=>ME (by omega) (by omega)
   refine⟨?_,fin listed k done rest s ρ a w hsz hall hI hcont⟩
   rw[List.eq_nil_iff_forall_not_mem]
   intro i hi
   obtain⟨h1,h2,_⟩:=Cm hsz hi
   exact h2 (hall i h1)
 | succ fuel ih =>
   intro listed k done rest s ρ a w hsz hcnt hI wI hcont
   refine⟨fun hr=>fin listed k done rest s ρ a w hsz (Gb ht hsz hr) hI hcont,fun i hi=>?_⟩
   obtain⟨hilt,hnl,o,ho,hd⟩:=Cm hsz hi
   obtain⟨r,hr,rfl⟩:=ht.ex (j:=i) (o:=o) (by rw[Array.getElem?_toList]; exact ho)
   obtain⟨e1,e2,e3,e4,e5⟩:=ht.row hr
   have hrm:=List.mem_of_getElem? hr
   have he:=ab5 ht hI hr hnl hd (Aq r hrm)
   unfold wpOp
   simp only[ho]
   cases hk:ko r.kd with
   | false =>
     have hall:kR ri.ms ri.es k r=true:=by
      unfold kR
      rw[Bool.and_eq_true,List.all_eq_true]
      constructor
      ·rw[bi,e4]
       rcases zu (m:=r.m) ri.es 0 0 with h | ⟨q,x,a1,a2,a3⟩
       ·omega
       ·have hx:=ht.ahead hI.closed hr hd a2
        rw[a3]
        rcases Nat.lt_or_ge q k with h | h
        ·omega
        ·rw[hI.es,List.getElem?_append_right (by rw[hI.len]; exact h)] at a1
         exact absurd hx (hI.rs x (List.mem_of_getElem? a1))
      ·intro x hx
       rw[hI.es,List.take_left' hI.len] at hx
       rw[Bool.not_eq_true',← Bool.not_eq_true,e1,cK]
       intro hb
       have hxe:x∈ri.es:=by rw[hI.es]; exact List.mem_append_left _ hx
       rw[ht.es,rM] at hxe
       obtain⟨j,o',hj,hxj,_⟩:=hxe
       rw[Nat.zero_add] at hxj; subst hxj
       exact hnl (ht.DV hI.closed (hI.dn x hx) hj hb)
     have yV:r.lev≤k:=by
      unfold kR at hall
      rw[Bool.and_eq_true] at hall
      exact bz hall.1
     have hok:=wI r hrm hk hall
     have hnb:∀ j b,s.bJ.get j=some (some b)→¬ eU (listed.setIfInBounds i true) j→ρ b=none:=fun j b hb hj =>
      (hI.bid j b hb).2.2.1 fun hl=>hj ((vg (by omega) j).2 (.inl hl))
     have next:∀ {v:AV} {v' : Value} {ρ' : Ren} {w' : World},s.vals.get i=some v→ax ρ' v v'→ρ.le ρ'→dU P ρ' s.M w'→Step M0.lo M0.next ρ w ρ' w' →
       (∀ j b,s.bJ.get j=some (some b)→¬ eU (listed.setIfInBounds i true) j→ρ' b=none)→wpAny P .any ops Q fuel (listed.setIfInBounds i true) (a.put r.o.dst v') w':=by
      intro v v' ρ' w' hvi hv hle hw hst hb
      exact ih _ k done rest s ρ' _ w' (by simpa using hsz) (count_set (by omega) hnl hcnt) (afp ht hsz hI hilt hr hd hk yV hvi hv hle hw hst hb) wI hcont
     have IZ:ρ.le ρ:=fun _ _ h=>h
     obtain⟨g,hg,hcase⟩:=hok
     obtain⟨gon,ael⟩:=NS ht hI hr hd hg
     rw[e1] at hcase
     rcases hcase with⟨hon,v,hvi,hkd⟩ | ⟨hoff,hvi⟩
     ·rw[gon hon]
      simp only[if_true]
      refine .inl ?_
      have val:nE P r.o (iP T0 ri.wr s.vals r.m) s.M v→r.o.wp P a w (wpAny P .any ops Q fuel (listed.setIfInBounds i true)) Q:=by
       intro hgv
       obtain⟨v',h1,h2⟩:=hgv ρ w a.eval s.M (RM.Sub.refl _) hI.mM he
       exact l6 r.o h1 (next hvi h2 IZ hI.mM (Step.refl _ _ _) hnb)
      cases hkk:r.kd with
      | pure=>rw[hkk] at hkd; exact val (hkd _)
      | read=>rw[hkk] at hkd; exact val hkd
      | vD=>rw[hkk] at hkd; exact hkd.elim
      | alloc =>
        rw[hkk] at hkd
        obtain⟨x,mk,b,⟨y,hx,hle⟩,hbi,hy,hmk⟩:=hkd
        obtain⟨d,ob,u,inf,hrun,aqM,hrel,adA⟩:=tX he hx w
        obtain⟨b1,b2,b3,b4⟩:=hI.bid i b hbi
        have hbn:=b3 hnl
        have hd' : dU P ρ s.M (if d=true then w.drew else w):=by cases d <;> simp[hI.mM,hI.mM.drew]
        have hsz' : (if d=true then w.drew else w).heap.size=w.heap.size:=by cases d <;> simp
        have hst' : Step M0.lo M0.next ρ w ρ (if d=true then w.drew else w):=by cases d <;> simp[Step.refl,Step.drew]
        obtain⟨h1,h2⟩:=acT hd' (by omega) hbn b2 hy hle hrel
        replace h2:=h2.YH hI.base
        refine l6 r.o hrun (next hvi (hmk▸adA _ b (by simp[Ren.add])) (Ren.vZ hbn) h1 (hst'.trans h2 b1) fun j b' hb' hj=>?_)
        have hne:b'≠b:=by
         intro e
         subst e
         have hji:j≠i:=fun e=>hj ((vg (by omega) j).2 (.inr e))
         exact hji (hI.Cg j i b' hb' hbi)
        unfold Ren.add
        rw[if_neg hne]
        exact hnb j b' hb' hj
     ·rw[ael hoff]
      simp only[Bool.false_eq_true,if_false]
      exact next hvi (.tup _ _ .nil) IZ hI.mM (Step.refl _ _ _) hnb
   | true =>
     have hie:i∈ri.es:=(ht.vD hr).2 hk
     rw[hI.es] at hie
     have hir:i∈rest:=by
      rcases List.mem_append.1 hie with h | h
      ·exact absurd (hI.dn i h) hnl
      ·exact h
     cases rest with
     | nil=>cases hir
     | cons x rest' =>
       have hxi:x=i:=by
        rcases List.mem_cons.1 hir with e | hm
        ·exact e.symm
        ·obtain⟨l1,l2,hl⟩:=List.append_of_mem hm
         have:=ht.chain (done++x :: l1) i l2 (by rw[hI.es,hl]; simp) x (by simp)
         rw[e3] at this
         exact absurd (ht.ahead hI.closed hr hd this) (hI.rs x (.head _))
       subst hxi
       have hnd:x ∉ rest':=by
        intro hm
        obtain⟨l1,l2,hl⟩:=List.append_of_mem hm
        have:=ht.chain (done++x :: l1) x l2 (by rw[hI.es,hl]; simp) x (by simp)
        rw[e3] at this
        exact hnl (ht.ahead hI.closed hr hd this)
       obtain⟨r',hr',hgs⟩:=hcont
       rw[cK,hr] at hr'; cases hr'
       obtain⟨g,hg,hcase⟩:=vX hgs
       obtain⟨gon,ael⟩:=NS ht hI hr hd hg
       have next:∀ {v:AV} {v' : Value} {ρ' : Ren} {w' : World} {M' : RM},ax ρ' v v'→After P s.M ρ w M' ρ' w' →
         Q0 P ops T0 ri k ri.rows { vals:=s.vals.set x v,M:=M',bJ:=s.bJ } (yR P ops T0 ri (k + 1) rest' { vals:=s.vals.set x v,M:=M',bJ:=s.bJ } K) →
         wpAny P .any ops Q fuel (listed.setIfInBounds x true) (a.put r.o.dst v') w':=by
        intro v v' ρ' w' M' hv haft hre
        obtain⟨s3,h1,h2,h3⟩:=adQ ht hsz hI wI hilt hr hd hnd hv haft hre
        exact ih _ (k + 1) _ rest' s3 ρ' _ w' (by simpa using hsz) (count_set (by omega) hnl hcnt) h1 h2 h3
       rcases hcase with⟨hon,hn⟩ | ⟨hoff,hn⟩
       ·rw[gon hon]
        simp only[if_true]
        exact .inl (YI (JP hP (fun _=>rfl) hn) hI.mM he fun v v' M' ρ' w' haft hv hk=>next hv haft hk)
       ·rw[ael hoff]
        simp only[Bool.false_eq_true,if_false]
        exact next (.tup _ _ .nil) (After.refl hI.mM) hn
theorem KZ {vals:Tree AV} {t:Nat} : ∀ (rows:List Row) (T:Tree AV),(∀ r∈rows,r.o.dst≠some t)→(CR T vals rows).get t=T.get t
 | [],T,_=>rfl
 | r :: rows,T,h=>by
   simp only[CR]
   cases hd:r.o.dst with
   | none=>exact KZ rows T fun r' hr'=>h r' (.tail _ hr')
   | some d =>
     simp only
     rw[KZ rows _ fun r' hr'=>h r' (.tail _ hr'),Tree.bF,if_neg]
     intro e; subst e
     exact h r (.head _) hd
theorem XW (hP:Nj P) {id:Nat} {T:Tree AV} {M:RM} {K:Tree AV→RM→Prop} {Q:Exit→Act→World→Prop} (hM:After P M0 ρ0 w0 M ρ w) (hA:fP ρ nt T a)
  (hQ:∀ T' M' ρ' a' w',After P M0 ρ0 w0 M' ρ' w'→fP ρ' nt T' a'→K T' M'→(∀ t,(∀ o∈ops.toList,o.dst≠some t)→T'.get t=T.get t)→Q .normal a' w') (h:ZI P nt ops T M K) : (Code.region id ops true).wp P Q a w:=by
 unfold ZI at h
 split at h <;> first | (cases h; done) | skip
 rename_i ri hri
 split at h <;> first | (cases h; done) | skip
 rename_i Aq
 have ht:=Dz hri
 obtain⟨s1,h1,hp⟩:=JR ht hM.rel.fr (fun j b hb=>by simp[Tree.get] at hb) h
 have hno:∀ i,¬ eU (Array.replicate ops.size false) i:=by
  intro i h
  unfold eU at h
  simp only[Array.getD_eq_getD_getElem?,Array.getElem?_replicate] at h
  split at h <;> simp at h
 refine wp_region_any hP.mixed (ac8 (M0:=M0) (ρ0:=ρ0) (w0:=w0) (T0:=T) hP ht (fun r hr=>List.all_eq_true.1 Aq r hr) (fun s ρ' a' w' k0 k1 k2 k3 k4 k5=>hQ _ _ ρ' a' w' ⟨k1,k3,k4,k5⟩ k2 k0 (fun t hnt=>KZ ri.rows T fun r hr=>by
   obtain⟨q,hq⟩:=List.mem_iff_getElem?.1 hr
   exact hnt r.o (List.mem_of_getElem? (ht.row hq).2.1))) ops.size _ 0 [] ri.es s1 ρ a _ (by simp) (by simp) ?_ ?_ h1)
 ·refine⟨rfl,rfl,fun i o _ hi=>absurd hi (hno i),(fun x hx=>by cases hx),fun x _=>hno x,fun j r _ _ hj=>absurd hj (hno j),hA.size,hA.defers,fun t=>⟨fun j _ hj=>absurd hj (hno j),fun _=>hA.val t⟩,hp.rel _ _ hM.rel.drew,hM.step.trans (Step.drew (n:=M0.next)) (Nat.le_refl _),by rw[hp.sub.1]; exact hM.base,Nat.le_trans hM.next hp.next,fun j b hb'=>?_,fun j1 j2 b b1 b2=>?_⟩
  ·rcases hp.bJ j b hb' with h | ⟨h,h',_,r,hr⟩
   ·simp[Tree.get] at h
   ·refine⟨Nat.le_trans hM.next h,h',fun _=>hM.rel.fresh h, ?_⟩
    obtain⟨g1,g2,_⟩:=ht.row hr
    have:=(List.getElem?_eq_some_iff.1 g2).1
    rw[Array.length_toList] at this
    exact this
  ·rcases hp.bJ j1 b b1 with h | ⟨h,_⟩
   ·simp[Tree.get] at h
   ·exact hp.Cg j1 j2 b b1 b2 h
 ·intro r hr hk hal
  obtain⟨q,hq⟩:=List.mem_iff_getElem?.1 hr
  unfold kR at hal
  rw[Bool.and_eq_true] at hal
  exact hp.done q r hq (Nat.zero_le _) (by have:=bz hal.1; omega) hk
end
def Ut:Option Tmp→Nat
 | some d=>2 ^ d
 | none=>0
def ab6:Operand→Nat
 | .tmp t=>2 ^ t
 | _=>0
def acL:List Operand→Nat
 | []=>0
 | x :: xs=>ab6 x ||| acL xs
def adH (L m:Nat) : Nat:=L ^^^ (L &&& m)
def Ny:List Oper→Nat
 | []=>0
 | o :: os=>Ut o.dst ||| Ny os
def iO:Nat→Code→Nat
 | 0,_=>0
 | f + 1,c=>match c with
   | .region _ ops _=>Ny ops.toList
   | .seq a b=>iO f a ||| iO f b
   | .cond _ a b=>iO f a ||| iO f b
   | .block _ c=>iO f c
   | .loop c=>iO f c
   | .scope c=>iO f c
   | _=>0
def YL:List Oper→Nat→Nat
 | [],L=>L
 | o :: os,L=>adH (YL os L) (Ut o.dst) ||| acL o.op.operands.toList
def ac1:List (Nat × Nat)→Nat→Nat
 | [],_=>0
 | (i,L) :: r,id=>match Nat.beq i id with
   | true=>L
   | false=>ac1 r id
def iZ (ret:Nat) : Nat→List (Nat × Nat)→Code→Nat→Nat
 | 0,_,_,_=>0
 | f + 1,env,c,L=>match c with
   | .skip=>L
   | .region _ ops _=>YL ops.toList L
   | .seq a b=>iZ ret f env a (iZ ret f env b L)
   | .cond c a b=>ab6 c ||| iZ ret f env a L ||| iZ ret f env b L
   | .block id c=>iZ ret f ((id,L) :: env) c L
   | .loop c=>iZ ret f env c (iZ ret f env c 0)
   | .exit id=>ac1 env id
   | .ret=>ret
   | .scope c=>iZ ret f env c L
   | .label _=>L
   | _=>0
def cap2 (n:Nat) : Nat:=match n with | 0=>0 | 1=>1 | _=>2
def wO (id:Nat) : Nat→Code→Nat
 | 0,_=>2
 | f + 1,c=>match c with
   | .seq a b=>cap2 (wO id f a + wO id f b)
   | .cond _ a b=>cap2 (wO id f a + wO id f b)
   | .block _ c=>wO id f c
   | .loop c=>wO id f c
   | .exit i=>match Nat.beq i id with | true=>1 | false=>0
   | _=>0
def AL:Nat→Code→Nat
 | 0,_=>2
 | f + 1,c=>match c with
   | .skip=>1
   | .region _ _ _=>1
   | .seq a b=>cap2 (AL f a * AL f b)
   | .cond _ a b=>cap2 (AL f a + AL f b)
   | .block id c=>cap2 (AL f c + wO id f c)
   | .scope c=>AL f c
   | .label _=>1
   | _=>0
def DF (m:Nat) : Nat→Nat→List Nat
 | _,0=>[]
 | i,n + 1=>match Nat.testBit m i with
   | true=>i :: DF m (i + 1) n
   | false=>DF m (i + 1) n
def bitsOf (m nt:Nat) : List Nat:=DF m 0 nt
def Dh (T:Tree AV) : List Nat→List AV
 | []=>[]
 | t :: ts=>(T.get t).getD .top :: Dh T ts
def aa:List AV→Nat→AV
 | [],_=>.top
 | x :: _,0=>x
 | _ :: xs,n + 1=>aa xs n
def E5 (T:Tree AV) : List Nat→Tree AV
 | []=>T
 | t :: ts=>E5 (T.set t .top) ts
def SY (T:Tree AV) (xs:List AV) : Nat→List Nat→Tree AV
 | _,[]=>T
 | i,t :: ts=>SY (T.set t (aa xs i)) xs (i + 1) ts
def Et (T:Tree AV) (asg vs:List Nat) (xs:List AV) : Tree AV:=SY (E5 T asg) xs 0 vs
def av (x:AV) (p q:Prop) : Prop :=
 match x with
 | .sc (.bool b)=>(b=true→p)∧(b=false→q)
 | _=>False
def bV (f:(List AV→RM→Prop)→Prop) (g:List AV→RM→Prop) : Prop:=f g
def aN (body:(List AV→RM→Prop)→List AV→RM→Prop) (xs:List AV) (M:RM) : Prop :=
 ∃ (I:Nat→List AV→RM→Prop) (n:Nat),I n xs M∧∀ m ys M',I m ys M'→body (fun zs M''=>∃ m',m'<m∧I m' zs M'') ys M'
abbrev K3:=Ex→Tree AV→RM→Prop
def wpC (P:Program) (nt ret:Nat) : Nat→Code→List (Nat × Nat)→Nat→Tree AV→RM→K3→Prop
 | 0,_,_,_,_,_,_=>False
 | f + 1,c,env,L,T,M,K=>match c with
   | .skip=>K .normal T M
   | .region _ ops false=>Qu P nt ops ops.toList T M (fun T' M'=>K .normal T' M')
   | .region _ ops true=>ZI P nt ops T M (fun T' M'=>K .normal T' M')
   | .seq a b=>match Nat.ble (AL f a) 1 with
     | true=>wpC P nt ret f a env (iZ ret f env b L) T M (fun e T' M'=>match e with
       | .normal=>wpC P nt ret f b env L T' M' K
       | e=>K e T' M')
     | false=>bV (fun J=>wpC P nt ret f a env (iZ ret f env b L) T M (fun e T' M'=>match e with
       | .normal=>J (Dh T' (bitsOf (iO f a &&& iZ ret f env b L) nt)) M'
       | e=>K e T' M'))
       (fun xs M'=>wpC P nt ret f b env L (Et T (bitsOf (iO f a) nt) (bitsOf (iO f a &&& iZ ret f env b L) nt) xs) M' K)
   | .cond c a b=>av (oo T c) (wpC P nt ret f a env L T M K) (wpC P nt ret f b env L T M K)
   | .block id c=>wpC P nt ret f c ((id,L) :: env) L T M (fun e T' M'=>match e with
     | .exit i=>match Nat.beq i id with
       | true=>K .normal T' M'
       | false=>K (.exit i) T' M'
     | e=>K e T' M')
   | .loop c=>aN (fun next xs M'=>wpC P nt ret f c env (iZ ret f env c (iZ ret f env c 0)) (Et T (bitsOf (iO f c) nt) (bitsOf (iO f c &&& iZ ret f env c (iZ ret f env c 0)) nt) xs) M'
     (fun e T' M'=>match e with
      | .normal=>next (Dh T' (bitsOf (iO f c &&& iZ ret f env c (iZ ret f env c 0)) nt)) M'
      | e=>K e T' M'))
     (Dh T (bitsOf (iO f c &&& iZ ret f env c (iZ ret f env c 0)) nt)) M
   | .exit id=>K (.exit id) T M
   | .ret=>K .ret T M
   | .scope c=>wpC P nt ret f c env L T M K
   | .label _=>K .normal T M
   | _=>False
def afs (P:Program) (T:Tree AV) (M:RM) (r:ResultVar) (K:AV→Prop) : Prop :=
 match r with
 | .tmp t=>K ((T.get t).getD .top)
 | .cell a t=>match dL P t with
   | some false=>au M ((T.get a).getD .top) K
   | some true=>match bC P t with
     | some n=>aA M ((T.get a).getD .top) n K
     | none=>False
   | none=>False
def afk (P:Program) (T:Tree AV) (M:RM) : List ResultVar→(List AV→Prop)→Prop
 | [],K=>K []
 | r :: rs,K=>afs P T M r (fun v=>afk P T M rs (fun vs=>K (v :: vs)))
def alJ (Q:ak) (M:RM) : List AV→Prop
 | [v]=>Q v M
 | vs=>Q (.tup vs) M
def Pz:List ResultVar→Nat
 | []=>0
 | .tmp t :: rs=>2 ^ t ||| Pz rs
 | .cell a _ :: rs=>2 ^ a ||| Pz rs
def acP (P:Program) (fn:Func) (c:Code) (args:List AV) (M:RM) (Q:ak) : Prop :=
 wpC P (args.length + (fn.ntmps - args.length)) (Pz fn.results.toList) 1000 c [] 0 (Tree.ofList args 0 .leaf) M
  (fun e T M'=>match e with
   | .exit _=>False
   | _=>afk P T M' fn.results.toList (alJ Q M'))
section
variable {P:Program} {nt ret:Nat}
def Z6 (P:Program) (nt:Nat) (M0:RM) (ρ0:Ren) (w0:World) (T:Tree AV) (asg:Nat) (K:K3) (e:Exit) (a:Act) (w:World) : Prop :=
 ∃ x T' M' ρ',e=QK x∧After P M0 ρ0 w0 M' ρ' w∧fP ρ' nt T' a∧(∀ t,Nat.testBit asg t=false→T'.get t=T.get t)∧K x T' M'
theorem XB {T:Tree AV} : ∀ (vs:List Nat) (i:Nat),aa (Dh T vs) i=match vs[i]? with | some t=>(T.get t).getD .top | none=>.top
 | [],i=>by simp[Dh,aa]
 | t :: vs,0=>by simp[Dh,aa]
 | t :: vs,i + 1=>by simp[Dh,aa,XB vs i]
theorem Ie:∀ (asg:List Nat) (T:Tree AV) (t:Nat),(E5 T asg).get t=if t∈asg then some .top else T.get t
 | [],T,t=>by simp[E5]
 | d :: asg,T,t=>by
   simp only[E5,Ie asg,Tree.bF,List.mem_cons]
   by_cases h1:t∈asg
   ·simp[h1]
   ·by_cases h2:t=d <;> simp[h1,h2]
theorem Kt:∀ (vs:List Nat) (T:Tree AV) (xs:List AV) (i t:Nat),(t ∉ vs∧(SY T xs i vs).get t=T.get t)∨∃ j,vs[j]?=some t∧(SY T xs i vs).get t=some (aa xs (i + j))
 | [],T,xs,i,t=>.inl ⟨by simp,rfl⟩
 | d :: vs,T,xs,i,t=>by
   simp only[SY]
   rcases Kt vs (T.set d (aa xs i)) xs (i + 1) t with⟨h1,h2⟩ | ⟨j,h1,h2⟩
   ·rw[Tree.bF] at h2
    by_cases e:t=d
    ·rw[if_pos e] at h2
     exact .inr ⟨0,by simp[e],h2⟩
    ·rw[if_neg e] at h2
     exact .inl ⟨by simp[e,h1],h2⟩
   ·exact .inr ⟨j + 1,by simpa using h1,by rw[h2]; congr 2; omega⟩
theorem Eh {m:Nat} : ∀ (n i t:Nat),t∈DF m i n↔i≤t∧t<i + n∧Nat.testBit m t=true
 | 0,i,t=>by simp[DF]; omega
 | n + 1,i,t=>by
   simp only[DF]
   split
   ·rename_i h
    rw[List.mem_cons,Eh n (i + 1) t]
    constructor
    ·rintro(rfl | ⟨a,b,c⟩)
     ·exact⟨Nat.le_refl _,by omega,h⟩
     ·exact⟨by omega,by omega,c⟩
    ·rintro⟨a,b,c⟩
     by_cases e:t=i
     ·exact .inl e
     ·exact .inr ⟨by omega,by omega,c⟩
   ·rename_i h
    rw[Eh n (i + 1) t]
    constructor
    ·rintro⟨a,b,c⟩; exact⟨by omega,by omega,c⟩
    ·rintro⟨a,b,c⟩
     have:t≠i:=fun e=>by subst e; rw[h] at c; cases c
     exact⟨by omega,by omega,c⟩
theorem zq {m n t:Nat} : t∈bitsOf m n↔t<n∧Nat.testBit m t=true:=by
 unfold bitsOf; rw[Eh]; simp
theorem II {ρ:Ren} {T T' : Tree AV} {a:Act} {asg:Nat} {vs:List Nat} (h:fP ρ nt T' a) (hge:∀ t,nt≤t→ax ρ ((T.get t).getD .top) undef) (hk:∀ t,Nat.testBit asg t=false→T'.get t=T.get t) : fP ρ nt (Et T (bitsOf asg nt) vs (Dh T' vs)) a:=by
 refine⟨h.size,fun t=>?_,h.defers⟩
 unfold Et
 rcases Kt vs (E5 T (bitsOf asg nt)) (Dh T' vs) 0 t with⟨_,h2⟩ | ⟨j,h1,h2⟩
 ·rw[h2,Ie]
  split
  ·exact .top _
  ·rename_i hm
   by_cases hb:Nat.testBit asg t=true
   ·have hge' : nt≤t:=by
     rcases Nat.lt_or_ge t nt with hlt | hge
     ·exact absurd (zq.2 ⟨hlt,hb⟩) hm
     ·exact hge
    have hv:a.tmps.getD t undef=undef:=by
     rw[Array.getD_eq_getD_getElem?,Array.getElem?_eq_none (by rw[h.size]; exact hge')]; rfl
    rw[hv]; exact hge t hge'
   ·rw[← hk t (by simpa using hb)]
    exact h.val t
 ·rw[h2,Nat.zero_add,XB,h1]
  exact h.val t
theorem MV {T:Tree AV} {asg:Nat} {vs:List Nat} {xs:List AV} (hvs:∀ t∈vs,Nat.testBit asg t=true) (t:Nat) (h:Nat.testBit asg t=false) : (Et T (bitsOf asg nt) vs xs).get t=T.get t:=by
 unfold Et
 rcases Kt vs (E5 T (bitsOf asg nt)) xs 0 t with⟨_,h2⟩ | ⟨j,h1,h2⟩
 ·rw[h2,Ie,if_neg]
  intro hm
  rw[(zq.1 hm).2] at h; cases h
 ·have:=hvs t (List.mem_of_getElem? h1)
  rw[h] at this; cases this
theorem fP.ge {ρ:Ren} {T:Tree AV} {a:Act} (h:fP ρ nt T a) : ∀ t,nt≤t→ax ρ ((T.get t).getD .top) undef:=by
 intro t ht
 have:=h.val t
 rw[Array.getD_eq_getD_getElem?,Array.getElem?_eq_none (by rw[h.size]; exact ht)] at this
 exact this
theorem JG {c:Code} {Q:Exit→Act→World→Prop} : ∀ {n m:Nat} {a:Act} {w:World},n≤m→Code.rounds P c Q n a w→Code.rounds P c Q m a w
 | 0,_,_,_,_,h=>h.elim
 | n + 1,m + 1,a,w,hle,h=>by
   rw[rounds_succ] at h ⊢
   refine wp_mono h fun e a' w' hp=>?_
   cases e with
   | normal=>exact JG (Nat.le_of_succ_le_succ hle) hp
   | exit id=>exact hp
   | ret=>exact hp
   | goto l=>exact hp
   | panic c=>exact hp
   | outgrown=>exact hp
theorem FH {t:Nat} : ∀ (l:List Oper),Nat.testBit (Ny l) t=false→∀ o∈l,o.dst≠some t
 | [],_,o,ho=>by cases ho
 | x :: l,h,o,ho=>by
   simp only[Ny,Nat.testBit_or,Bool.or_eq_false_iff] at h
   rcases List.mem_cons.1 ho with rfl | ho
   ·intro e
    rw[e] at h
    simp[Ut,Nat.testBit_two_pow] at h
   ·exact FH l h.2 o ho
theorem ac2 {ρ:Ren} {x:AV} {u:Value} {p q:Prop} (h:av x p q) (hx:ax ρ x u) : ∃ b,u=.bool b∧(b=true→p)∧(b=false→q):=by
 unfold av at h
 split at h <;> first | (cases h; done) | skip
 rename_i b
 exact⟨b,(aV hx).1,h.1,h.2⟩
theorem ac3 (hP:Nj P) : ∀ (f:Nat) (c:Code) (env:List (Nat × Nat)) (L:Nat) (T:Tree AV) (M:RM) (K:K3),wpC P nt ret f c env L T M K →
  ∀ (M0:RM) (ρ0:Ren) (w0:World) (ρ:Ren) (a:Act) (w:World),After P M0 ρ0 w0 M ρ w→fP ρ nt T a→c.wp P (Z6 P nt M0 ρ0 w0 T (iO f c) K) a w:=by
 intro f
 induction f with
 | zero=>intro c env L T M K h; exact h.elim
 | succ f ih =>
   intro c env L T M K h M0 ρ0 w0 ρ a w hM hA
   cases c with
   | skip=>exact wp_skip ⟨.normal,T,M,ρ,rfl,hM,hA,fun _ _=>rfl,h⟩
   | region id ops d =>
     cases d with
     | false =>
       refine wp_region ?_
       have:=Eg (nt:=nt) hP (ops:=ops) (Q:=Z6 P nt M0 ρ0 w0 T (iO (f + 1) (.region id ops false)) K) (K:=fun T' M'=>K .normal T' M') (M0:=M0) (ρ0:=ρ0) (w0:=w0) (T0:=T)
        (fun T' M' ρ' a' w' k1 k2 k3 k4=>⟨.normal,T',M',ρ',rfl,k1,k2,fun t ht=>k4 t (FH _ ht),k3⟩) ops.toList 0 (by simp) hA hM (fun _ _=>rfl) h
       rw[Array.length_toList,← List.range_eq_range'] at this
       exact this
     | true =>
       exact XW (nt:=nt) (T:=T) hP hM hA (fun T' M' ρ' a' w' k1 k2 k3 k4=>⟨.normal,T',M',ρ',rfl,k1,k2,fun t ht=>k4 t (FH _ ht),k3⟩) h
   | seq c1 c2 =>
     simp only[wpC] at h
     refine wp_seq ?_
     split at h
     ·refine wp_mono (ih c1 _ _ _ _ _ h M0 ρ0 w0 ρ a w hM hA) fun e a' w' hp=>?_
      obtain⟨x,T1,M1,ρ1,rfl,k1,k2,k3,k4⟩:=hp
      cases x with
      | normal =>
        refine wp_mono (ih c2 _ _ _ _ _ k4 M0 ρ0 w0 ρ1 a' w' k1 k2) fun e a2 w2 hp=>?_
        obtain⟨x,T2,M2,ρ2,he,q1,q2,q3,q4⟩:=hp
        exact⟨x,T2,M2,ρ2,he,q1,q2,fun t ht=>by
         simp only[iO,Nat.testBit_or,Bool.or_eq_false_iff] at ht
         rw[q3 t ht.2,k3 t ht.1],q4⟩
      | exit i=>exact⟨.exit i,T1,M1,ρ1,rfl,k1,k2,fun t ht=>by
        simp only[iO,Nat.testBit_or,Bool.or_eq_false_iff] at ht
        exact k3 t ht.1,k4⟩
      | ret=>exact⟨.ret,T1,M1,ρ1,rfl,k1,k2,fun t ht=>by
        simp only[iO,Nat.testBit_or,Bool.or_eq_false_iff] at ht
        exact k3 t ht.1,k4⟩
     ·unfold bV at h
      refine wp_mono (ih c1 _ _ _ _ _ h M0 ρ0 w0 ρ a w hM hA) fun e a' w' hp=>?_
      obtain⟨x,T1,M1,ρ1,rfl,k1,k2,k3,k4⟩:=hp
      have hge:∀ t,nt≤t→ax ρ1 ((T.get t).getD .top) undef:=fun t ht=>by
       have h1:=k2.ge t ht
       by_cases hb:Nat.testBit (iO f c1) t=false
       ·rw[k3 t hb] at h1; exact h1
       ·have h0:=hA.ge t ht
        have hu:∀ (ρ ρ' : Ren) (x:AV),ax ρ x undef→ax ρ' x undef:=by
         intro ρ ρ' x hx
         unfold undef at hx ⊢
         cases hx with
         | top=>exact .top _
         | sc v p=>exact .sc _ p
         | tup xs vs a=>cases a; exact .tup _ _ .nil
        exact hu _ _ _ h0
      cases x with
      | normal =>
        refine wp_mono (ih c2 _ _ _ _ _ k4 M0 ρ0 w0 ρ1 a' w' k1 (II k2 hge k3)) fun e a2 w2 hp=>?_
        obtain⟨x,T2,M2,ρ2,he,q1,q2,q3,q4⟩:=hp
        refine⟨x,T2,M2,ρ2,he,q1,q2,fun t ht=>?_,q4⟩
        simp only[iO,Nat.testBit_or,Bool.or_eq_false_iff] at ht
        rw[q3 t ht.2]
        refine MV (fun t' ht'=>?_) t ht.1
        have:=(zq.1 ht').2
        rw[Nat.testBit_and,Bool.and_eq_true] at this
        exact this.1
      | exit i=>exact⟨.exit i,T1,M1,ρ1,rfl,k1,k2,fun t ht=>by
        simp only[iO,Nat.testBit_or,Bool.or_eq_false_iff] at ht
        exact k3 t ht.1,k4⟩
      | ret=>exact⟨.ret,T1,M1,ρ1,rfl,k1,k2,fun t ht=>by
        simp only[iO,Nat.testBit_or,Bool.or_eq_false_iff] at ht
        exact k3 t ht.1,k4⟩
   | cond cnd c1 c2 =>
     simp only[wpC] at h
     obtain⟨b,hb,h1,h2⟩:=ac2 h (BO hA cnd)
     cases b with
     | true =>
       refine wp_cond_true hb (wp_mono (ih c1 _ _ _ _ _ (h1 rfl) M0 ρ0 w0 ρ a w hM hA) fun e a' w' hp=>?_)
       obtain⟨x,T1,M1,ρ1,he,k1,k2,k3,k4⟩:=hp
       exact⟨x,T1,M1,ρ1,he,k1,k2,fun t ht=>by
         simp only[iO,Nat.testBit_or,Bool.or_eq_false_iff] at ht
         exact k3 t ht.1,k4⟩
     | false =>
       refine wp_cond_false hb (wp_mono (ih c2 _ _ _ _ _ (h2 rfl) M0 ρ0 w0 ρ a w hM hA) fun e a' w' hp=>?_)
       obtain⟨x,T1,M1,ρ1,he,k1,k2,k3,k4⟩:=hp
       exact⟨x,T1,M1,ρ1,he,k1,k2,fun t ht=>by
         simp only[iO,Nat.testBit_or,Bool.or_eq_false_iff] at ht
         exact k3 t ht.2,k4⟩
   | block id c1 =>
     simp only[wpC] at h
     refine wp_block (wp_mono (ih c1 _ _ _ _ _ h M0 ρ0 w0 ρ a w hM hA) fun e a' w' hp=>?_)
     obtain⟨x,T1,M1,ρ1,rfl,k1,k2,k3,k4⟩:=hp
     cases x with
     | normal=>exact⟨.normal,T1,M1,ρ1,rfl,k1,k2,k3,k4⟩
     | ret=>exact⟨.ret,T1,M1,ρ1,rfl,k1,k2,k3,k4⟩
     | exit i =>
       simp only at k4
       split at k4
       ·rename_i he
        have he:=bE he
        subst he
        simp only[QK,Exit.inBlock,if_true]
        exact⟨.normal,T1,M1,ρ1,rfl,k1,k2,k3,k4⟩
       ·rename_i he
        have he:=BN he
        simp only[QK,Exit.inBlock,if_neg he]
        exact⟨.exit i,T1,M1,ρ1,rfl,k1,k2,k3,k4⟩
   | loop c1 =>
     simp only[wpC] at h
     obtain⟨I,n,hI,hbody⟩:=h
     have hvs:∀ t∈bitsOf (iO f c1 &&& iZ ret f env c1 (iZ ret f env c1 0)) nt,Nat.testBit (iO f c1) t=true:=fun t' ht'=>by
      have:=(zq.1 ht').2
      rw[Nat.testBit_and,Bool.and_eq_true] at this
      exact this.1
     generalize hv:bitsOf (iO f c1 &&& iZ ret f env c1 (iZ ret f env c1 0)) nt=vs at hI hbody hvs
     have hu:∀ (ρ ρ' : Ren) (x:AV),ax ρ x undef→ax ρ' x undef:=by
      intro ρ ρ' x hx
      unfold undef at hx ⊢
      cases hx with
      | top=>exact .top _
      | sc v p=>exact .sc _ p
      | tup xs vs a=>cases a; exact .tup _ _ .nil
     have hge:∀ (ρ1:Ren) t,nt≤t→ax ρ1 ((T.get t).getD .top) undef:=fun ρ1 t ht=>hu _ _ _ (hA.ge t ht)
     have key:∀ (m:Nat) (ys:List AV) (M1:RM) (ρ1:Ren) (a1:Act) (w1:World),I m ys M1→After P M0 ρ0 w0 M1 ρ1 w1→fP ρ1 nt (Et T (bitsOf (iO f c1) nt) vs ys) a1 →
       Code.rounds P c1 (Z6 P nt M0 ρ0 w0 T (iO (f + 1) (.loop c1)) K) (m + 1) a1 w1:=by
      intro m
      induction m using Nat.strongRecOn with
      | _ m ihm =>
        intro ys M1 ρ1 a1 w1 hIm hM1 hA1
        rw[rounds_succ]
        refine wp_mono (ih c1 _ _ _ _ _ (hbody m ys M1 hIm) M0 ρ0 w0 ρ1 a1 w1 hM1 hA1) fun e a' w' hp=>?_
        obtain⟨x,T2,M2,ρ2,rfl,k1,k2,k3,k4⟩:=hp
        have k3' : ∀ t,Nat.testBit (iO f c1) t=false→T2.get t=T.get t:=fun t ht=>by rw[k3 t ht]; exact MV hvs t ht
        cases x with
        | normal =>
          obtain⟨m',hlt,hI'⟩:=k4
          exact JG (by omega) (ihm m' hlt _ M2 ρ2 a' w' hI' k1 (II k2 (hge ρ2) k3'))
        | exit i=>exact⟨.exit i,T2,M2,ρ2,rfl,k1,k2,k3',k4⟩
        | ret=>exact⟨.ret,T2,M2,ρ2,rfl,k1,k2,k3',k4⟩
     exact wp_loop_rounds _ (key n _ M ρ a w hI hM (II hA (hge ρ) fun _ _=>rfl))
   | exit id=>exact wp_exit ⟨.exit id,T,M,ρ,rfl,hM,hA,fun _ _=>rfl,h⟩
   | ret=>exact wp_ret ⟨.ret,T,M,ρ,rfl,hM,hA,fun _ _=>rfl,h⟩
   | rangeFunc=>simp[wpC] at h
   | scope c1 =>
     simp only[wpC] at h
     refine wp_scope_straight (wp_mono (ih c1 _ _ _ _ _ h M0 ρ0 w0 ρ a w hM hA) fun e a' w' hp=>?_)
     obtain⟨x,T1,M1,ρ1,rfl,k1,k2,k3,k4⟩:=hp
     cases x with
     | normal=>exact⟨.normal,T1,M1,ρ1,rfl,k1,k2,k3,k4⟩
     | exit i=>exact⟨.exit i,T1,M1,ρ1,rfl,k1,k2,k3,k4⟩
     | ret=>exact⟨.ret,T1,M1,ρ1,rfl,k1,k2,k3,k4⟩
   | label l=>exact wp_label ⟨.normal,T,M,ρ,rfl,hM,hA,fun _ _=>rfl,h⟩
   | goto=>simp[wpC] at h
   | refuse=>simp[wpC] at h
theorem aam {ρ:Ren} {T:Tree AV} {M:RM} {a:Act} {w:World} (hA:fP ρ nt T a) (hw:dU P ρ M w) {r:ResultVar} {K:AV→Prop} (h:afs P T M r K) :
  ∃ v v',(wH a.tmps r).run P w=.ok v' w∧ax ρ v v'∧K v:=by
 cases r with
 | tmp t=>exact⟨_,_,rfl,hA.val t,h⟩
 | cell x t =>
   simp only[afs] at h
   have hv:=hA.val x
   split at h <;> first | (cases h; done) | skip
   ·rename_i ha
    obtain⟨b,p,v,hx,hl,hk⟩:=h
    rw[hx] at hv
    obtain⟨i,hb,hc⟩:=eG hv
    obtain⟨u,hu,hcell⟩:=RA hw hb hl
    refine⟨v,u, ?_,hu,hk⟩
    simp only[wH,hc,asAddr,Sem.run_bind,Sem.run_pure,Result.andThen_ok,loadVar,iG ha,Bool.false_eq_true,if_false,load,Sem.run,hcell]
   ·rename_i ha
    split at h <;> first | (cases h; done) | skip
    rename_i n hs
    obtain⟨b,p,xs,hx,hl,hk⟩:=h
    rw[hx] at hv
    obtain⟨i,hb,hc⟩:=eG hv
    obtain⟨vs,hr,hlen,_,hrun⟩:=RM.nD (P:=P) hw hb hl
    exact⟨.agg xs,.agg ⟨vs⟩,by simp only[wH,hc,asAddr,Sem.run_bind,Sem.run_pure,Result.andThen_ok,loadVar,iG ha,if_true,dC hs,hrun],.agg _ _ hr,hk⟩
theorem F9 {ρ:Ren} {T:Tree AV} {M:RM} {a:Act} {w:World} (hA:fP ρ nt T a) (hw:dU P ρ M w) : ∀ (rs:List ResultVar) (K:List AV→Prop),afk P T M rs K →
  ∃ vs us,(rs.mapM (wH a.tmps)).run P w=.ok us w∧bg ρ vs us∧K vs
 | [],K,h=>⟨[],[],by simp,.nil,h⟩
 | r :: rs,K,h=>by
   obtain⟨v,v',h1,h2,h3⟩:=aam hA hw h
   obtain⟨vs,us,h4,h5,h6⟩:=F9 hA hw rs _ h3
   refine⟨v :: vs,v' :: us, ?_,.cons _ _ _ _ h2 h5,h6⟩
   simp only[List.mapM_cons,Sem.run_bind,h1,Result.andThen_ok,h4,Sem.run_pure]
theorem Qn (hP:Nj P) {f:FuncId} {fn:Func} {c:Code} {args:List AV} {M:RM} {Q:ak} (hfn:P.funcs[f]?=some fn) (hbody:fn.body=some c) (h:acP P fn c args M Q) : iV P f args M Q:=by
 refine⟨⟨fn,c,hfn,hbody⟩,fun ρ w us hargs hw=>?_⟩
 have hlen:=hargs.length
 have hA:fP ρ (args.length + (fn.ntmps - args.length)) (Tree.ofList args 0 .leaf) { tmps:=⟨us⟩++Array.replicate (fn.ntmps - (⟨us⟩ : Array Value).size) undef,defers:=[] } := by
  refine⟨by simp[hlen],fun t=>?_,rfl⟩
  rw[Tree.lS]
  by_cases ht:t<args.length
  ·rw[if_pos (by omega),Nat.sub_zero]
   obtain⟨u,hu,hv⟩:=hargs.get (n:=t) (x:=args[t]) (by simp[ht])
   rw[List.getElem?_eq_getElem ht]
   simp only[Option.getD_some]
   have:((⟨us⟩ : Array Value)++Array.replicate (fn.ntmps - (⟨us⟩ : Array Value).size) undef).getD t undef=u:=by
    rw[Array.getD_eq_getD_getElem?,Array.getElem?_append_left (by simp; omega)]
    simp[hu]
   rw[this]; exact hv
  ·rw[if_neg (by omega)]
   exact .top _
 refine calls_of_wp hfn hbody (wp_mono (ac3 hP 1000 c [] 0 _ M _ h M ρ w ρ _ w (After.refl hw) hA) fun e a w' hp=>?_)
 obtain⟨x,T',M',ρ',rfl,k1,k2,k3,k4⟩:=hp
 have key:(∃ vs us,(fn.results.toList.mapM (wH a.tmps)).run P w'=.ok us w'∧bg ρ' vs us∧alJ Q M' vs) →
   a.defers=[]∧∃ v,(results fn a.tmps).run P w'=.ok v w'∧∃ v' v_1 ajY aid,Ending.returned v=.returned v'∧After P M ρ w ajY aid w'∧ax aid v_1 v'∧Q v_1 ajY:=by
  rintro⟨vs,us,h1,h2,h3⟩
  have hres:(results fn a.tmps).run P w'=.ok (if h:(⟨us⟩ : Array Value).size=1 then(⟨us⟩ : Array Value)[0] else .tuple ⟨us⟩) w':=by
   have e:results fn a.tmps=(fn.results.mapM (wH a.tmps) >>= fun vs=>pure (if h:vs.size=1 then vs[0] else .tuple vs)):=rfl
   rw[e,Array.mapM_eq_mapM_toList]
   simp only[Sem.run_bind,Sem.run_map,h1,Result.andThen_ok,Sem.run_pure]
  refine⟨k2.defers,_,hres, ?_⟩
  cases h2 with
  | nil=>exact⟨_,_,M',ρ',rfl,k1,.tup _ _ .nil,h3⟩
  | cons x v xs vs2 hv htl =>
    cases htl with
    | nil=>exact⟨_,x,M',ρ',rfl,k1,hv,h3⟩
    | cons y u ys us2 hu aqV=>exact⟨_,_,M',ρ',rfl,k1,.tup _ _ (.cons _ _ _ _ hv (.cons _ _ _ _ hu aqV)),h3⟩
 cases x with
 | normal=>exact key (F9 k2 k1.rel _ _ k4)
 | ret=>exact key (F9 k2 k1.rel _ _ k4)
 | exit id=>exact k4.elim
abbrev aj:=List AV→RM→ak→Prop
def OT (P:Program) (fn:Func) (args:List AV) (M:RM) (Q:ak) : Prop :=
 match fn.body with
 | some c=>acP P fn c args M Q
 | none=>False
theorem acF (hP:Nj P) {f:FuncId} {fn:Func} {args:List AV} {M:RM} {Q:ak} (hfn:P.funcs[f]?=some fn) (h:OT P fn args M Q) : iV P f args M Q:=by
 unfold OT at h
 split at h
 ·rename_i c hc; exact Qn hP hfn hc h
 ·cases h
end
end Go.Ab
set_option maxRecDepth 100000
namespace Go.Ab.Vw
open Go Go.Ab
def sW (p1 p2 p3 p4 p5 p6 p7 p8:aj) (a0:AV) (M0:RM) (Q:ak) : Prop :=
 p1 [] M0 fun t13 M =>
 dE t13 fun t14 =>
 av t14 (
 Q (Bo false) M) (
 bL a0 fun t16 =>
 ae .gtr t16 (N .i64 50) fun t17 =>
 av t17 (
 Q (Bo true) M) (
 p2 [a0] M fun t19 M_0 =>
 p3 [t19] M_0 fun t20 M_1 =>
 p4 [t20] M_1 fun t22 M_2 =>
 p5 [t20] M_2 fun t24 M_3 =>
 bL t22 fun t26 =>
 bL t24 fun t28 =>
 ae .neq t26 t28 fun t29 =>
 av t29 (
 Q (Bo false) M_3) (
 aN (fun next xs M_4 =>
 bL t24 fun t32 =>
 ae .lss (aa xs 1) t32 fun t33 =>
 av t33 (
 ai t24 (aa xs 1) 3 fun t40 =>
 aJ t40 0 fun t41 =>
 au M_4 t41 fun t42 =>
 p6 [t20,t42] M_4 fun t43 M_5 =>
 eB t43 0 fun t44 =>
 eB t43 1 fun t45 =>
 ae .neq t45 (N .i64 0) fun t47 =>
 ah t47 false (fun k=>k t44 M_5) (fun k=>k .undef M_5) fun t49 M_6 =>
 ah t47 false (fun k_7=>bL t49 fun t50 =>
 k_7 t50 M_6) (fun k=>k .undef M_6) fun anR M_9 =>
 ah t47 false (fun l9=>l9 t24 M_9) (fun k=>k .undef M_9) fun t51 dQ =>
 ah t47 false (fun nR=>nR (aa xs 1) dQ) (fun k=>k .undef dQ) fun t52 dN =>
 ah t47 false (fun gu=>ai t51 t52 3 fun t53 =>
 gu t53 dN) (fun k=>k .undef dN) fun amt bX =>
 ah t47 false (fun kY=>aJ amt 2 fun t54 =>
 kY t54 bX) (fun k=>k .undef bX) fun ain dF =>
 ah t47 false (fun jT=>au dF ain fun t55 =>
 jT t55 dF) (fun k=>k .undef dF) fun aj0 fF =>
 ah t47 false (fun nW=>ae .neq anR aj0 fun t56 =>
 nW t56 fF) (fun k=>k .undef fF) fun aj7 fM =>
 aK t47 (Bo true) aj7 fun t57 =>
 ah t57 false (fun Az=>Az t44 fM) (fun k=>k .undef fM) fun t59 kW =>
 ah t57 false (fun jO=>bL t59 fun t60 =>
 jO t60 kW) (fun k=>k .undef kW) fun amK fK =>
 ah t57 false (fun ji=>ae .eql amK (N .i64 0) fun t61 =>
 ji t61 fK) (fun k=>k .undef fK) fun aj4 gq =>
 aK t57 (Bo true) aj4 fun t62 =>
 av t62 (
 Q (Bo false) gq) (
 aN (fun ahg Cj jb =>
 bL t44 fun t65 =>
 ae .lss (aa Cj 1) t65 fun t66 =>
 av t66 (
 ai t44 (aa Cj 1) 3 fun t71 =>
 aJ t71 2 fun t72 =>
 au jb t72 fun t73 =>
 ae .lss t73 (N .i64 1) fun t74 =>
 af t74 false (fun XF=>XF (aa Cj 1) jb none) (fun k=>k .undef jb none) fun t76 mP b =>
 af t74 false (fun wY=>ae .gtr t76 (N .i64 0) fun t77 =>
 wY t77 mP none) (fun k=>k .undef mP none) fun ala fe Di =>
 af t74 false (fun xB=>xB ala fe none) (fun k=>k .undef fe none) fun t78 mG ZH =>
 af t78 true (fun WO=>WO t44 mG none) (fun k=>k .undef mG none) fun t79 qm ame =>
 af t78 true (fun FR=>FR (aa Cj 1) qm none) (fun k=>k .undef qm none) fun t80 jk Uj =>
 af t78 true (fun Ap=>ai t79 t80 3 fun t81 =>
 Ap t81 jk none) (fun k=>k .undef jk none) fun aim jB aiO =>
 af t78 true (fun Lm=>aJ aim 0 fun t82 =>
 Lm t82 jB none) (fun k=>k .undef jB none) fun alS pO b_59 =>
 af t78 true (fun aqI=>au pO alS fun t83 =>
 aqI t83 pO none) (fun k=>k .undef pO none) fun ajH sK b_63 =>
 af t78 true (fun afl=>afl t44 sK none) (fun k=>k .undef sK none) fun t84 ajt b_66 =>
 af t78 true (fun Um=>Um (aa Cj 1) ajt none) (fun k=>k .undef ajt none) fun t85 xU akW =>
 af t78 true (fun K9=>ae .sub t85 (N .i64 1) fun t86 =>
 K9 t86 xU none) (fun k=>k .undef xU none) fun amf Bg apF =>
 af t78 true (fun LQ=>ai t84 amf 3 fun t87 =>
 LQ t87 Bg none) (fun k=>k .undef Bg none) fun ajR xn b_77 =>
 af t78 true (fun aqx=>aJ ajR 0 fun t88 =>
 aqx t88 xn none) (fun k=>k .undef xn none) fun ai1 GZ b_81 =>
 af t78 true (fun aqy=>au GZ ai1 fun t89 =>
 aqy t89 GZ none) (fun k=>k .undef GZ none) fun alx amA b_85 =>
 af t78 true (fun aeW=>jC .leq ajH alx fun t90 =>
 aeW t90 amA none) (fun k=>k .undef amA none) fun ajn xD b_89 =>
 af t74 false (fun apY=>aK t78 ajn (Bo false) fun t91 =>
 apY t91 xD none) (fun k=>k .undef xD none) fun amP ajM b_93 =>
 aK t74 (Bo true) amP fun t92 =>
 av t92 (
 Q (Bo false) ajM) (
 ae .add (aa Cj 0) (N .i64 1) fun t94 =>
 ae .add (aa Cj 1) (N .i64 1) fun t68 =>
 ahg [t94,t68] ajM)) (
 ae .add (aa xs 1) (N .i64 1) fun t35 =>
 next [(aa Cj 0),t35] jb)) [(aa xs 0),(N .i64 0)] gq)) (
 p7 [t20] M_4 fun t96 wR =>
 p8 [t20] wR fun t98 als =>
 bL t96 fun jJ =>
 bL t98 fun Mm =>
 ae .leq jJ Mm fun mH =>
 ah mH true (fun ao6=>ao6 t98 als) (fun k=>k .undef als) fun t105 We =>
 ah mH true (fun Ey=>bL t105 fun FQ =>
 Ey FQ We) (fun k=>k .undef We) fun ahA NH =>
 ah mH true (fun vY=>vY t96 NH) (fun k=>k .undef NH) fun t107 wD =>
 ah mH true (fun abl=>bL t107 fun xq =>
 abl xq wD) (fun k=>k .undef wD) fun aeD I5 =>
 ah mH true (fun aaH=>ae .sub ahA aeD fun t109 =>
 aaH t109 I5) (fun k=>k .undef I5) fun aee Ol =>
 ah mH true (fun NW=>NW (aa xs 0) Ol) (fun k=>k .undef Ol) fun xh sH =>
 ah mH true (fun aas=>ae .leq aee xh fun qX =>
 aas qX sH) (fun k=>k .undef sH) fun afB vS =>
 aK mH afB (Bo false) fun jQ =>
 ah jQ true (fun Zt=>Zt (aa xs 0) vS) (fun k=>k .undef vS) fun FM wC =>
 ah jQ true (fun aaL=>aaL t98 wC) (fun k=>k .undef wC) fun AY Oi =>
 ah jQ true (fun MB=>bL AY fun t116 =>
 MB t116 Oi) (fun k=>k .undef Oi) fun Bd rY =>
 ah jQ true (fun anz=>ae .leq FM Bd fun t117 =>
 anz t117 rY) (fun k=>k .undef rY) fun adC aoc =>
 aK jQ adC (Bo false) fun Uq =>
 Q Uq aoc)) [(N .i64 0),(N .i64 0)] M_3)))
def FI (p1 p2:aj) (a0:AV) (M0:RM) (Q:ak) : Prop :=
 p1 [] M0 fun t5 M =>
 aN (fun next xs M_0 =>
 kH true 1 t5 (.sc (.pointer none)) fun t7 =>
 ah t7 true (fun k=>k (aa xs 0) M_0) (fun k=>k .undef M_0) fun t9 M_1 =>
 ah t7 true (fun k_2=>k_2 a0 M_1) (fun k=>k .undef M_1) fun bW M_3 =>
 ah t7 true (fun k_4=>bL bW fun bQ =>
 k_4 bQ M_3) (fun k=>k .undef M_3) fun anZ M_6 =>
 ah t7 true (fun k_7=>ae .lss t9 anZ fun t12 =>
 k_7 t12 M_6) (fun k=>k .undef M_6) fun aoe M_9 =>
 aK t7 aoe (Bo false) fun t13 =>
 av t13 (
 ai a0 (aa xs 0) 7 fun t19 =>
 aA M_9 t19 7 fun t20 =>
 p2 [t5,t20] M_9 fun t21 dW =>
 ae .add (aa xs 0) (N .i64 1) fun t15 =>
 next [t15] dW) (
 Q t5 M_9)) [(N .i64 0)] M
def Es (p1:aj) (a0 a1:AV) (M0:RM) (Q:ak) : Prop :=
 p1 [a0,a1] M0 fun t9 M =>
 bL t9 fun bQ =>
 ae .eql bQ (N .i64 0) fun t12 =>
 av t12 (
 Q (.tup [(.sc (.slice none 0 0)),(N .i64 4)]) M) (
 Q (.tup [t9,(N .i64 0)]) M)
def Cy (p1:aj) (p2:Nat) (p3:aj) (p4:Nat) (p5:aj) (p6:Nat) (a0:AV) (M0:RM) (Q:ak) : Prop :=
 p1 [a0] M0 fun bW M =>
 bL bW fun bQ =>
 aN (fun next xs M_0 =>
 ae .lss (aa xs 1) bQ fun t13 =>
 av t13 (
 ai bW (aa xs 1) 1 fun t14 =>
 au M_0 t14 fun t15 =>
 tO [(St []),(St []),(N .i64 0)] [(0,1,t15),(1,1,t15)] fun t18 =>
 cz (.row [(St []),(St []),(N .i64 0)] false p2 0) (fun b=>.ptr b 0) M_0 fun t6 M_1 =>
 aC M_1 t6 t18 3 fun M_2 =>
 p3 [a0,t15] M_2 fun t21 M_3 =>
 bL t21 fun t22 =>
 aN (fun ajr wJ M_6 =>
 ae .lss (aa wJ 0) t22 fun t24 =>
 av t24 (
 bV (fun J =>
 ai t21 (aa wJ 0) 3 fun t25 =>
 aA M_6 t25 3 fun t26 =>
 cz (.row [(St []),(St []),(N .i64 0)] false p4 0) (fun b=>.ptr b 0) M_6 fun t8 M_7 =>
 aC M_7 t8 t26 3 fun M_8 =>
 aJ t6 2 fun t27 =>
 au M_8 t27 fun t28 =>
 ae .add t28 (N .i64 1) fun t29 =>
 aJ t6 2 fun t30 =>
 aC M_8 t30 t29 1 fun M_9 =>
 aJ t8 0 fun t31 =>
 au M_9 t31 fun t32 =>
 jC .eql t32 (St [102,110]) fun t33 =>
 av t33 (
 aJ t8 1 fun t34 =>
 au M_9 t34 fun t35 =>
 aJ t6 1 fun t36 =>
 aC M_9 t36 t35 1 fun dW =>
 J [] dW) (
 J [] M_9)) (fun xs_11 gX =>
 ae .add (aa wJ 0) (N .i64 1) fun t37 =>
 ajr [t37] gX)) (
 aA M_6 t6 3 fun t39 =>
 fV p2 1 [(St []),(St []),(N .i64 0)] [(0,3,t39)] fun r f =>
 cz r f M_6 fun t40 dN =>
 appW p2 3 40 [(St []),(St []),(N .i64 0)] false (aa xs 0) t40 dN fun t41 jo =>
 ae .add (aa xs 1) (N .i64 1) fun t42 =>
 next [t41,t42] jo)) [(N .i64 0)] M_3) (
 p5 [(aa xs 0),(.fn (.func p6) [] [])] M_0 fun t44 kK =>
 Q (aa xs 0) kK)) [(.sc (.slice none 0 0)),(N .i64 0)] M
def zh (p1:Nat) (p2:aj) (a0:AV) (M0:RM) (Q:ak) : Prop :=
 cz (.row [(N .i64 0),(N .u64 0),(St []),(St []),(St [])] false p1 0) (fun b=>.ptr b 0) M0 fun t2 M =>
 bL a0 fun t8 =>
 ae .eql t8 (N .i64 0) fun t9 =>
 av t9 (
 tO [(N .i64 0),(N .u64 0),(St []),(St []),(St [])] [] fun bW =>
 aC M t2 bW 5 fun M_0 =>
 aA M_0 t2 5 fun res =>
 Q (.tup [res,(Bo false)]) M_0) (
 ai a0 (N .i64 0) 5 fun t12 =>
 aA M t12 5 fun t13 =>
 cz (.row [(N .i64 0),(N .u64 0),(St []),(St []),(St [])] false p1 0) (fun b=>.ptr b 0) M fun t4 M_1 =>
 aC M_1 t4 t13 5 fun M_2 =>
 bL a0 fun t15 =>
 aN (fun next xs M_3 =>
 ae .lss (aa xs 0) t15 fun t17 =>
 av t17 (
 bV (fun J =>
 ai a0 (aa xs 0) 5 fun t18 =>
 aA M_3 t18 5 fun t19 =>
 cz (.row [(N .i64 0),(N .u64 0),(St []),(St []),(St [])] false p1 0) (fun b=>.ptr b 0) M_3 fun t6 M_4 =>
 aC M_4 t6 t19 5 fun M_5 =>
 aJ t4 0 fun t20 =>
 aA M_5 t20 2 fun t21 =>
 aJ t6 0 fun t22 =>
 aA M_5 t22 2 fun t23 =>
 p2 [t21,t23] M_5 fun t24 M_6 =>
 av t24 (
 aA M_6 t6 5 fun t25 =>
 aC M_6 t4 t25 5 fun M_7 =>
 J [] M_7) (
 J [] M_6)) (fun uN M_9 =>
 ae .add (aa xs 0) (N .i64 1) fun t26 =>
 next [t26] M_9)) (
 aA M_3 t4 5 fun t27 =>
 aC M_3 t2 t27 5 fun dW =>
 aA dW t2 5 fun amr =>
 Q (.tup [amr,(Bo true)]) dW)) [(N .i64 0)] M_2)
def uw (p1 p2:aj) (p3:Nat) (a0:AV) (M0:RM) (Q:ak) : Prop :=
 p1 [a0] M0 fun t7 M =>
 p2 [t7] M fun t8 M_0 =>
 bL t8 fun t9 =>
 aN (fun next xs M_1 =>
 ae .lss (aa xs 1) t9 fun bQ =>
 av bQ (
 bV (fun J =>
 ai t8 (aa xs 1) 1 fun t12 =>
 au M_1 t12 fun t13 =>
 bL t13 fun t15 =>
 ae .gtr t15 (N .i64 1) fun t16 =>
 av t16 (
 appW p3 5 64 [(N .i64 0),(N .u64 0),(St []),(St []),(St [])] false (aa xs 0) t13 M_1 fun t19 M_2 =>
 J [t19] M_2) (
 J [(aa xs 0)] M_1)) (fun bA M_4 =>
 ae .add (aa xs 1) (N .i64 1) fun t20 =>
 next [(aa bA 0),t20] M_4)) (
 Q (aa xs 0) M_1)) [(.sc (.slice none 0 0)),(N .i64 0)] M_0
def X8 (p1:Nat) (p2:aj) (a0:AV) (M0:RM) (Q:ak) : Prop :=
 aaD p1 96 [(N .i64 0),(N .u64 0),(N .i64 0),(St []),(St []),(St []),(.sc (.slice none 0 0))] (N .i64 0) (N .i64 0) fun r f =>
 cz r f M0 fun t7 M =>
 aN (fun next xs M_0 =>
 bL a0 fun bW =>
 ae .lss (aa xs 1) bW fun bQ =>
 av bQ (
 bV (fun J =>
 ai a0 (aa xs 1) 7 fun t16 =>
 aA M_0 t16 7 fun t17 =>
 p2 [t17] M_0 fun t18 M_1 =>
 dE t18 fun t19 =>
 aN (fun qH bA M_4 =>
 bL (aa xs 0) fun t22 =>
 ae .lss (aa bA 1) t22 fun t23 =>
 av t23 (
 af (aa bA 0) false (fun k=>k (aa xs 0) M_4 none) (fun k=>k .undef M_4 none) fun t28 M_5 b =>
 af (aa bA 0) false (fun k_6=>k_6 (aa bA 1) M_5 none) (fun k=>k .undef M_5 none) fun t29 M_7 b_8 =>
 af (aa bA 0) false (fun k_9=>ai t28 t29 7 fun t30 =>
 k_9 t30 M_7 none) (fun k=>k .undef M_7 none) fun UC dQ XI =>
 af (aa bA 0) false (fun AQ=>aJ UC 0 fun t31 =>
 AQ t31 dQ none) (fun k=>k .undef dQ none) fun XG kK Ux =>
 af (aa bA 0) false (fun kY=>aA kK XG 2 fun t32 =>
 kY t32 kK none) (fun k=>k .undef kK none) fun Wi dF KA =>
 af (aa bA 0) false (fun qL=>qL a0 dF none) (fun k=>k .undef dF none) fun t33 fF K5 =>
 af (aa bA 0) false (fun qJ=>qJ (aa xs 1) fF none) (fun k=>k .undef fF none) fun t34 fM LH =>
 af (aa bA 0) false (fun rf=>ai t33 t34 7 fun t35 =>
 rf t35 fM none) (fun k=>k .undef fM none) fun Wq iJ Fu =>
 af (aa bA 0) false (fun ji=>aJ Wq 0 fun t36 =>
 ji t36 iJ none) (fun k=>k .undef iJ none) fun U1 gq WG =>
 af (aa bA 0) false (fun kX=>aA gq U1 2 fun t37 =>
 kX t37 gq none) (fun k=>k .undef gq none) fun WB dm Hg =>
 af (aa bA 0) false (fun wY=>qc false [1,1] Wi WB fun t38 =>
 wY t38 dm none) (fun k=>k .undef dm none) fun Tq fe Di =>
 aK (aa bA 0) (Bo true) Tq fun t39 =>
 ae .add (aa bA 1) (N .i64 1) fun t25 =>
 qH [t39,t25] fe) (
 dE (aa bA 0) fun t41 =>
 av t41 (
 ai a0 (aa xs 1) 7 fun t45 =>
 aA M_4 t45 7 fun t46 =>
 fV p1 1 [(N .i64 0),(N .u64 0),(N .i64 0),(St []),(St []),(St []),(.sc (.slice none 0 0))] [(0,7,t46)] fun aep aeL =>
 cz aep aeL M_4 fun t47 jy =>
 appW p1 7 96 [(N .i64 0),(N .u64 0),(N .i64 0),(St []),(St []),(St []),(.sc (.slice none 0 0))] false (aa xs 0) t47 jy fun t48 fQ =>
 J [t48] fQ) (
 J [(aa xs 0)] M_4))) [t19,(N .i64 0)] M_1) (fun lQ iL =>
 ae .add (aa xs 1) (N .i64 1) fun t13 =>
 next [(aa lQ 0),t13] iL)) (
 Q (aa xs 0) M_0)) [t7,(N .i64 0)] M
def zf (p1 p2 p3:aj) (p4 p5:Nat) (a0 a1:AV) (M0:RM) (Q:ak) : Prop :=
 p1 [a0,a1] M0 fun t15 M =>
 p2 [t15] M fun t16 M_0 =>
 bL t16 fun t17 =>
 aN (fun next xs M_1 =>
 ae .lss (aa xs 1) t17 fun t19 =>
 av t19 (
 ai t16 (aa xs 1) 1 fun t20 =>
 au M_1 t20 fun t21 =>
 p3 [t21] M_1 fun t24 M_2 =>
 eB t24 0 fun t25 =>
 eB t24 1 fun t26 =>
 cz (.row [(N .i64 0),(N .u64 0),(St []),(St []),(St [])] false p4 0) (fun b=>.ptr b 0) M_2 fun t8 M_3 =>
 aC M_3 t8 t25 5 fun M_4 =>
 cz (.map [] 0) (fun b=>.map b) M_4 fun t27 M_5 =>
 bL t21 fun t29 =>
 aN (fun akA adn M_8 =>
 ae .lss (aa adn 0) t29 fun t31 =>
 av t31 (
 ai t21 (aa adn 0) 5 fun t32 =>
 aA M_8 t32 5 fun t33 =>
 cz (.row [(N .i64 0),(N .u64 0),(St []),(St []),(St [])] false p4 0) (fun b=>.ptr b 0) M_8 fun t12 M_9 =>
 aC M_9 t12 t33 5 fun dW =>
 aJ t12 4 fun t35 =>
 au dW t35 fun t36 =>
 Jh false [2] dW t27 t36 (Bo true) fun dQ =>
 ae .add (aa adn 0) (N .i64 1) fun t37 =>
 akA [t37] dQ) (
 aJ t8 3 fun t39 =>
 au M_8 t39 fun t40 =>
 aJ t8 4 fun t41 =>
 au M_8 t41 fun t42 =>
 YY M_8 t27 fun t44 =>
 tO [(St []),(St []),(N .i64 0)] [(0,1,t40),(1,1,t42),(2,1,t44)] fun t45 =>
 fV p5 1 [(St []),(St []),(N .i64 0)] [(0,3,t45)] fun r f =>
 cz r f M_8 fun t46 gX =>
 appW p5 3 40 [(St []),(St []),(N .i64 0)] false (aa xs 0) t46 gX fun t47 dN =>
 ae .add (aa xs 1) (N .i64 1) fun t48 =>
 next [t47,t48] dN)) [(N .i64 0)] M_5) (
 Q (aa xs 0) M_1)) [(.sc (.slice none 0 0)),(N .i64 0)] M_0
def jh (p1 p2:aj) (a0 a1:AV) (M0:RM) (Q:ak) : Prop :=
 bL a0 fun t6 =>
 oO .u64 t6 fun bW =>
 p1 [bW] M0 fun bQ M =>
 p2 [a0,(N .i64 0),t6,bQ,a1] M fun t13 M_0 =>
 Q (.tup []) M_0
def y8 (p1:Nat) (p2:aj) (p3:Nat) (p4:aj) (a0 a1:AV) (M0:RM) (Q:ak) : Prop :=
 jr p1 a0 fun r f =>
 cz r f M0 fun t2 M =>
 jr p1 a1 fun r_0 f_1 =>
 cz r_0 f_1 M fun t3 M_2 =>
 aJ t2 1 fun t5 =>
 au M_2 t5 fun t6 =>
 aJ t3 1 fun t7 =>
 au M_2 t7 fun t8 =>
 aJ t2 0 fun bW =>
 au M_2 bW fun bQ =>
 aJ t3 0 fun t12 =>
 au M_2 t12 fun t13 =>
 p2 [t6,t8] M_2 fun t9 M_3 =>
 au M_3 bW fun VV =>
 (VV=bQ∧au M_3 t12 fun FE =>
 (FE=t13∧p2 [bQ,t13] M_3 fun t14 M_4 =>
 fV p3 2 [(N .i64 0)] [(0,1,t9),(1,1,t14)] fun r_5 f_6 =>
 Bj r_5 f_6 M_4 fun t15 M_7 b =>
 p4 [t15] M_7 fun t16 M_8 =>
 Q t16 M_8))
def yU (p1 p2:Nat) (a0:AV) (M0:RM) (Q:ak) : Prop :=
 bL a0 fun t7 =>
 aN (fun next xs M =>
 ae .lss (aa xs 1) t7 fun t9 =>
 av t9 (
 bV (fun J =>
 ai a0 (aa xs 1) 5 fun bQ =>
 aA M bQ 5 fun t12 =>
 cz (.row [(N .i64 0),(N .u64 0),(St []),(St []),(St [])] false p1 0) (fun b=>.ptr b 0) M fun t5 M_0 =>
 aC M_0 t5 t12 5 fun M_1 =>
 bV (fun J_2 =>
 ae .eql (aa xs 1) (N .i64 0) fun t14 =>
 af t14 false (fun k=>k a0 M_1 none) (fun k=>k .undef M_1 none) fun t16 M_3 b =>
 af t14 false (fun k_4=>k_4 (aa xs 1) M_3 none) (fun k=>k .undef M_3 none) fun t17 M_5 b_6 =>
 af t14 false (fun k_7=>ae .sub t17 (N .i64 1) fun t18 =>
 k_7 t18 M_5 none) (fun k=>k .undef M_5 none) fun ano M_9 adj =>
 af t14 false (fun nU=>ai t16 ano 5 fun t19 =>
 nU t19 M_9 none) (fun k=>k .undef M_9 none) fun amH dN aar =>
 af t14 false (fun uH=>aJ amH 2 fun t20 =>
 uH t20 dN none) (fun k=>k .undef dN none) fun alN mQ aib =>
 af t14 false (fun xk=>au mQ alN fun t21 =>
 xk t21 mQ none) (fun k=>k .undef mQ none) fun amx dV P5 =>
 af t14 false (fun nW=>aJ t5 2 fun t22 =>
 nW t22 dV none) (fun k=>k .undef dV none) fun air fM LH =>
 af t14 false (fun rf=>au fM air fun t23 =>
 rf t23 fM none) (fun k=>k .undef fM none) fun ajc iJ Fu =>
 af t14 false (fun ji=>jC .neq amx ajc fun t24 =>
 ji t24 iJ none) (fun k=>k .undef iJ none) fun aiD gq WG =>
 aK t14 (Bo true) aiD fun t25 =>
 af t25 false (fun kX=>kX a0 gq none) (fun k=>k .undef gq none) fun t27 jb apR =>
 af t25 false (fun Ez=>Ez (aa xs 1) jb none) (fun k=>k .undef jb none) fun t28 jN ai9 =>
 af t25 false (fun KG=>ae .sub t28 (N .i64 1) fun t29 =>
 KG t29 jN none) (fun k=>k .undef jN none) fun amv jw Zy =>
 af t25 false (fun F7=>ai t27 amv 5 fun t30 =>
 F7 t30 jw none) (fun k=>k .undef jw none) fun ajm qm ame =>
 af t25 false (fun FR=>aJ ajm 3 fun t31 =>
 FR t31 qm none) (fun k=>k .undef qm none) fun aiv Il b_52 =>
 af t25 false (fun aeN=>au Il aiv fun t32 =>
 aeN t32 Il none) (fun k=>k .undef Il none) fun ako nM b_56 =>
 af t25 false (fun afh=>aJ t5 3 fun t33 =>
 afh t33 nM none) (fun k=>k .undef nM none) fun akq xA b_60 =>
 af t25 false (fun adV=>au xA akq fun t34 =>
 adV t34 xA none) (fun k=>k .undef xA none) fun amb uq alh =>
 af t25 false (fun Lb=>jC .neq ako amb fun t35 =>
 Lb t35 uq none) (fun k=>k .undef uq none) fun aj1 kZ ZV =>
 aK t25 (Bo true) aj1 fun t36 =>
 av t36 (
 fV p2 1 [(.sc (.slice none 0 0))] [(0,1,(.sc (.slice none 0 0)))] fun r f =>
 cz r f kZ fun t38 sN =>
 appW p2 1 24 [(.sc (.slice none 0 0))] false (aa xs 0) t38 sN fun t39 Cs =>
 J_2 [t39] Cs) (
 J_2 [(aa xs 0)] kZ)) (fun NU Bg =>
 bL (aa NU 0) fun t42 =>
 ae .sub t42 (N .i64 1) fun t43 =>
 bL (aa NU 0) fun t46 =>
 ae .sub t46 (N .i64 1) fun t47 =>
 ai (aa NU 0) t47 1 fun t48 =>
 au Bg t48 fun t49 =>
 aA Bg t5 5 fun t50 =>
 fV p1 1 [(N .i64 0),(N .u64 0),(St []),(St []),(St [])] [(0,5,t50)] fun apn apO =>
 Bj apn apO Bg fun t51 QL apI =>
 appW p1 5 64 [(N .i64 0),(N .u64 0),(St []),(St []),(St [])] false t49 t51 QL fun t52 Vp =>
 ai (aa NU 0) t43 1 fun t53 =>
 aC Vp t53 t52 1 fun Ej =>
 J [(aa NU 0)] Ej)) (fun x9 GZ =>
 ae .add (aa xs 1) (N .i64 1) fun t54 =>
 next [(aa x9 0),t54] GZ)) (
 Q (aa xs 0) M)) [(.sc (.slice none 0 0)),(N .i64 0)] M0
def fT (p1 p2 p3 p4 p5 p6:aj) (cv:(FuncId→aj)) (p7 p8 p9:aj) (a0 a1 a2 a3 a4:AV) (M0:RM) (Q:ak) : Prop :=
 aN (fun next xs M =>
 ae .sub (aa xs 1) (aa xs 0) fun t23 =>
 ae .leq t23 (N .i64 12) fun t25 =>
 av t25 (
 p1 [a0,(aa xs 0),(aa xs 1),a4] M fun t30 M_0 =>
 Q (.tup []) M_0) (
 ae .eql (aa xs 2) (N .i64 0) fun t32 =>
 av t32 (
 p2 [a0,(aa xs 0),(aa xs 1),a4] M fun t37 M_1 =>
 Q (.tup []) M_1) (
 bV (fun J =>
 dE (aa xs 3) fun t39 =>
 av t39 (
 p3 [a0,(aa xs 0),(aa xs 1),a4] M fun t44 M_2 =>
 ae .sub (aa xs 2) (N .i64 1) fun t46 =>
 J [t46] M_2) (
 J [(aa xs 2)] M)) (fun bA M_4 =>
 p4 [a0,(aa xs 0),(aa xs 1),a4] M_4 fun t52 M_5 =>
 eB t52 0 fun t53 =>
 eB t52 1 fun t54 =>
 bV (fun J_6 =>
 ae .eql t54 (N .i64 2) fun t56 =>
 av t56 (
 p5 [a0,(aa xs 0),(aa xs 1),a4] M_5 fun t61 M_7 =>
 ae .sub (aa xs 1) (N .i64 1) fun t63 =>
 ae .sub t53 (aa xs 0) fun t66 =>
 ae .sub t63 t66 fun t67 =>
 J_6 [t67,(N .i64 1)] M_7) (
 J_6 [t53,t54] M_5)) (fun uN M_9 =>
 bV (fun IC =>
 ah (aa xs 3) true (fun k=>k (aa xs 4) M_9) (fun k=>k .undef M_9) fun t70 dQ =>
 aK (aa xs 3) t70 (Bo false) fun t71 =>
 ah t71 true (fun nR=>nR (aa uN 1) dQ) (fun k=>k .undef dQ) fun t73 dN =>
 ah t71 true (fun gu=>ae .eql t73 (N .i64 1) fun t74 =>
 gu t74 dN) (fun k=>k .undef dN) fun UU bX =>
 aK t71 UU (Bo false) fun t75 =>
 av t75 (
 p6 [a0,(aa xs 0),(aa xs 1),a4] bX fun t80 mQ =>
 av t80 (
 Q (.tup []) mQ) (
 IC [] mQ)) (
 IC [] bX)) (fun agF dF =>
 ae .gtr (aa xs 0) (N .i64 0) fun t82 =>
 af t82 true (fun jT=>jT a4 dF none) (fun k=>k .undef dF none) fun t84 dV b =>
 af t82 true (fun nN=>nN a0 dV none) (fun k=>k .undef dV none) fun t85 jK KT =>
 af t82 true (fun nL=>nL (aa xs 0) jK none) (fun k=>k .undef jK none) fun t86 iC Ef =>
 af t82 true (fun jO=>ae .sub t86 (N .i64 1) fun t87 =>
 jO t87 iC none) (fun k=>k .undef iC none) fun U6 fK OV =>
 af t82 true (fun uI=>ai t85 U6 3 fun t88 =>
 uI t88 fK none) (fun k=>k .undef fK none) fun WW dR Pp =>
 af t82 true (fun xe=>aA dR WW 3 fun t89 =>
 xe t89 dR none) (fun k=>k .undef dR none) fun UJ mP adi =>
 af t82 true (fun uG=>uG a0 mP none) (fun k=>k .undef mP none) fun t90 fe Di =>
 af t82 true (fun xB=>xB (aa uN 0) fe none) (fun k=>k .undef fe none) fun t91 mG ZH =>
 af t82 true (fun WO=>ai t90 t91 3 fun t92 =>
 WO t92 mG none) (fun k=>k .undef mG none) fun Uy iL apx =>
 af t82 true (fun TV=>aA iL Uy 3 fun t93 =>
 TV t93 iL none) (fun k=>k .undef iL none) fun Xn wm aqR =>
 ah t82 true (fun adr=>bT cv t84 [UJ,Xn] wm fun t94 nM =>
 adr t94 nM) (fun k=>k .undef wm) fun Tx fJ =>
 af t82 true (fun Kr=>ae .lss Tx (N .i64 0) fun t95 =>
 Kr t95 fJ none) (fun k=>k .undef fJ none) fun TC iT Ph =>
 af t82 true (fun uy=>dE TC fun t96 =>
 uy t96 iT none) (fun k=>k .undef iT none) fun SS jP Tu =>
 aK t82 SS (Bo false) fun t97 =>
 av t97 (
 p7 [a0,(aa xs 0),(aa xs 1),(aa uN 0),a4] jP fun mH wh =>
 next [mH,(aa xs 1),(aa bA 0),(aa xs 3),(aa xs 4)] wh) (
 p8 [a0,(aa xs 0),(aa xs 1),(aa uN 0),a4] jP fun qX kZ =>
 eB qX 0 fun jQ =>
 eB qX 1 fun uA =>
 ae .sub jQ (aa xs 0) fun t117 =>
 ae .sub (aa xs 1) jQ fun uR =>
 ae .quo t23 (N .i64 8) fun uP =>
 ae .lss t117 uR fun gJ =>
 av gJ (
 ae .geq t117 uP fun EW =>
 p9 [a0,(aa xs 0),jQ,(aa bA 0),a4] kZ fun Bv xU =>
 ae .add jQ (N .i64 1) fun KI =>
 next [KI,(aa xs 1),(aa bA 0),EW,uA] xU) (
 ae .geq uR uP fun t139 =>
 ae .add jQ (N .i64 1) fun Xz =>
 p9 [a0,Xz,(aa xs 1),(aa bA 0),a4] kZ fun t146 sN =>
 next [(aa xs 0),jQ,(aa bA 0),t139,uA] sN)))))))) [a1,a2,a3,(Bo true),(Bo true)] M0
def dX (cv:(FuncId→aj)) (a0 a1 a2 a3:AV) (M0:RM) (Q:ak) : Prop :=
 ae .add a1 (N .i64 1) fun bQ =>
 aN (fun next xs M =>
 ae .lss (aa xs 0) a2 fun t14 =>
 av t14 (
 aN (fun oJ bn M_2 =>
 ae .gtr (aa bn 0) a1 fun t20 =>
 af t20 true (fun k=>k a3 M_2 none) (fun k=>k .undef M_2 none) fun t22 M_3 b =>
 af t20 true (fun k_4=>k_4 a0 M_3 none) (fun k=>k .undef M_3 none) fun t23 M_5 b_6 =>
 af t20 true (fun k_7=>k_7 (aa bn 0) M_5 none) (fun k=>k .undef M_5 none) fun t24 M_8 b_9 =>
 af t20 true (fun l9=>ai t23 t24 3 fun t25 =>
 l9 t25 M_8 none) (fun k=>k .undef M_8 none) fun TA gX Ho =>
 af t20 true (fun gu=>aA gX TA 3 fun t26 =>
 gu t26 gX none) (fun k=>k .undef gX none) fun VU bX yZ =>
 af t20 true (fun nT=>nT a0 bX none) (fun k=>k .undef bX none) fun t27 dF KA =>
 af t20 true (fun qL=>qL (aa bn 0) dF none) (fun k=>k .undef dF none) fun t28 fF K5 =>
 af t20 true (fun qJ=>ae .sub t28 (N .i64 1) fun t29 =>
 qJ t29 fF none) (fun k=>k .undef fF none) fun Wy iC Ef =>
 af t20 true (fun jO=>ai t27 Wy 3 fun t30 =>
 jO t30 iC none) (fun k=>k .undef iC none) fun WV fK OV =>
 af t20 true (fun uI=>aA fK WV 3 fun t31 =>
 uI t31 fK none) (fun k=>k .undef fK none) fun WR dR Pp =>
 ah t20 true (fun xe=>bT cv t22 [VU,WR] dR fun t32 dm =>
 xe t32 dm) (fun k=>k .undef dR) fun UT jN =>
 af t20 true (fun uG=>ae .lss UT (N .i64 0) fun t33 =>
 uG t33 jN none) (fun k=>k .undef jN none) fun Xb nP aaP =>
 aK t20 Xb (Bo false) fun t34 =>
 av t34 (
 ae .sub (aa bn 0) (N .i64 1) fun t41 =>
 ae .sub (aa bn 0) (N .i64 1) fun t44 =>
 ai a0 t44 3 fun t45 =>
 aA nP t45 3 fun t46 =>
 ai a0 (aa bn 0) 3 fun t49 =>
 aA nP t49 3 fun t50 =>
 ai a0 (aa bn 0) 3 fun t51 =>
 aC nP t51 t46 3 fun mG =>
 ai a0 t41 3 fun t52 =>
 aC mG t52 t50 3 fun jy =>
 ae .sub (aa bn 0) (N .i64 1) fun t36 =>
 oJ [t36] jy) (
 ae .add (aa xs 0) (N .i64 1) fun t16 =>
 next [t16] nP)) [(aa xs 0)] M) (
 Q (.tup []) M)) [bQ] M0
def kI (p1:aj) (a0 a1 a2 a3:AV) (M0:RM) (Q:ak) : Prop :=
 ae .sub a2 a1 fun t16 =>
 ae .sub t16 (N .i64 1) fun t18 =>
 ae .quo t18 (N .i64 2) fun t19 =>
 aN (fun next xs M =>
 ae .geq (aa xs 0) (N .i64 0) fun t21 =>
 av t21 (
 p1 [a0,(aa xs 0),t16,a1,a3] M fun t29 M_0 =>
 ae .sub (aa xs 0) (N .i64 1) fun t23 =>
 next [t23] M_0) (
 ae .sub t16 (N .i64 1) fun t31 =>
 aN (fun G6 pM M_3 =>
 ae .geq (aa pM 0) (N .i64 0) fun t33 =>
 av t33 (
 ae .add a1 (aa pM 0) fun t41 =>
 ae .add a1 (aa pM 0) fun t45 =>
 ai a0 t45 3 fun t46 =>
 aA M_3 t46 3 fun t47 =>
 ai a0 a1 3 fun t50 =>
 aA M_3 t50 3 fun t51 =>
 ai a0 a1 3 fun t52 =>
 aC M_3 t52 t47 3 fun M_4 =>
 ai a0 t41 3 fun t53 =>
 aC M_4 t53 t51 3 fun M_5 =>
 p1 [a0,(N .i64 0),(aa pM 0),a1,a3] M_5 fun t59 M_6 =>
 ae .sub (aa pM 0) (N .i64 1) fun t35 =>
 G6 [t35] M_6) (
 Q (.tup []) M_3)) [t31] M)) [t19] M0
def iM (p1:Nat) (p2 p3:aj) (a0 a1 a2 a3:AV) (M0:RM) (Q:ak) : Prop :=
 ae .sub a2 a1 fun t15 =>
 ae .geq t15 (N .i64 8) fun t17 =>
 av t17 (
 oO .u64 t15 fun t19 =>
 cz (.row [(N .u64 0)] false p1 0) (fun b=>.ptr b 0) M0 fun t9 M =>
 aC M t9 t19 1 fun M_0 =>
 p2 [t15] M_0 fun t21 M_1 =>
 ae .quo t15 (N .i64 4) fun t24 =>
 ae .mul t24 (N .i64 2) fun t25 =>
 ae .add a1 t25 fun t26 =>
 ae .sub t26 (N .i64 1) fun t27 =>
 aN (fun next xs M_2 =>
 ae .quo t15 (N .i64 4) fun t31 =>
 ae .mul t31 (N .i64 2) fun t32 =>
 ae .add a1 t32 fun t33 =>
 ae .add t33 (N .i64 1) fun t34 =>
 ae .leq (aa xs 0) t34 fun t35 =>
 av t35 (
 bV (fun J =>
 p3 [t9] M_2 fun t38 M_3 =>
 ae .sub t21 (N .u64 1) fun t40 =>
 ae .and t38 t40 fun t41 =>
 oO .i64 t41 fun t42 =>
 bV (fun J_4 =>
 ae .geq t42 t15 fun t45 =>
 av t45 (
 ae .sub t42 t15 fun t48 =>
 J_4 [t48] M_3) (
 J_4 [t42] M_3)) (fun wJ M_6 =>
 ae .add a1 (aa wJ 0) fun t54 =>
 ae .add a1 (aa wJ 0) fun t58 =>
 ai a0 t58 3 fun t59 =>
 aA M_6 t59 3 fun t60 =>
 ai a0 (aa xs 0) 3 fun t63 =>
 aA M_6 t63 3 fun t64 =>
 ai a0 (aa xs 0) 3 fun t65 =>
 aC M_6 t65 t60 3 fun M_7 =>
 ai a0 t54 3 fun t66 =>
 aC M_7 t66 t64 3 fun M_8 =>
 J [] M_8)) (fun alj dW =>
 ae .add (aa xs 0) (N .i64 1) fun t37 =>
 next [t37] dW)) (
 Q (.tup []) M_2)) [t27] M_1) (
 Q (.tup []) M0)
def jg (p1:Nat) (p2 p3:aj) (a0 a1 a2 a3:AV) (M0:RM) (Q:ak) : Prop :=
 ae .sub a2 a1 fun t17 =>
 cz (.row [(N .i64 0)] false p1 0) (fun b=>.ptr b 0) M0 fun bQ M =>
 ae .quo t17 (N .i64 4) fun t20 =>
 ae .mul t20 (N .i64 1) fun t21 =>
 ae .add a1 t21 fun t22 =>
 ae .quo t17 (N .i64 4) fun t25 =>
 ae .mul t25 (N .i64 2) fun t26 =>
 ae .add a1 t26 fun t27 =>
 ae .quo t17 (N .i64 4) fun t30 =>
 ae .mul t30 (N .i64 3) fun t31 =>
 ae .add a1 t31 fun t32 =>
 bV (fun J =>
 ae .geq t17 (N .i64 8) fun t34 =>
 av t34 (
 bV (fun J_0 =>
 ae .geq t17 (N .i64 50) fun t36 =>
 av t36 (
 p2 [a0,t22,bQ,a3] M fun t40 M_1 =>
 p2 [a0,t27,bQ,a3] M_1 fun t44 M_2 =>
 p2 [a0,t32,bQ,a3] M_2 fun t48 M_3 =>
 J_0 [t40,t44,t48] M_3) (
 J_0 [t22,t27,t32] M)) (fun xs M_4 =>
 p3 [a0,(aa xs 0),(aa xs 1),(aa xs 2),bQ,a3] M_4 fun t54 M_5 =>
 J [t54] M_5)) (
 J [t27] M)) (fun Bq M_7 =>
 au M_7 bQ fun t55 =>
 ae .eql t55 (N .i64 0) fun t58 =>
 av t58 (
 Q (.tup [(aa Bq 0),(N .i64 1)]) M_7) (
 ae .eql t55 (N .i64 12) fun t61 =>
 av t61 (
 Q (.tup [(aa Bq 0),(N .i64 2)]) M_7) (
 Q (.tup [(aa Bq 0),(N .i64 0)]) M_7)))
def jc (a0 a1 a2 a3:AV) (M0:RM) (Q:ak) : Prop :=
 ae .sub a2 (N .i64 1) fun t12 =>
 aN (fun next xs M =>
 ae .lss (aa xs 0) (aa xs 1) fun t15 =>
 av t15 (
 ai a0 (aa xs 1) 3 fun t22 =>
 aA M t22 3 fun t23 =>
 ai a0 (aa xs 0) 3 fun t26 =>
 aA M t26 3 fun t27 =>
 ai a0 (aa xs 0) 3 fun t28 =>
 aC M t28 t23 3 fun M_0 =>
 ai a0 (aa xs 1) 3 fun t29 =>
 aC M_0 t29 t27 3 fun M_1 =>
 ae .add (aa xs 0) (N .i64 1) fun t31 =>
 ae .sub (aa xs 1) (N .i64 1) fun t33 =>
 next [t31,t33] M_1) (
 Q (.tup []) M)) [a1,t12] M0
def fU (cv:(FuncId→aj)) (a0 a1 a2 a3:AV) (M0:RM) (Q:ak) : Prop :=
 ae .add a1 (N .i64 1) fun t14 =>
 aN (fun next xs M =>
 ae .lss (aa xs 1) (N .i64 5) fun t16 =>
 av t16 (
 bV (fun J =>
 aN (fun oJ bn M_2 =>
 ae .lss (aa bn 0) a2 fun t21 =>
 af t21 true (fun k=>k a3 M_2 none) (fun k=>k .undef M_2 none) fun t23 M_3 b =>
 af t21 true (fun k_4=>k_4 a0 M_3 none) (fun k=>k .undef M_3 none) fun t24 M_5 b_6 =>
 af t21 true (fun k_7=>k_7 (aa bn 0) M_5 none) (fun k=>k .undef M_5 none) fun t25 M_8 b_9 =>
 af t21 true (fun l9=>ai t24 t25 3 fun t26 =>
 l9 t26 M_8 none) (fun k=>k .undef M_8 none) fun Ui gX Ho =>
 af t21 true (fun gu=>aA gX Ui 3 fun t27 =>
 gu t27 gX none) (fun k=>k .undef gX none) fun VY bX yZ =>
 af t21 true (fun nT=>nT a0 bX none) (fun k=>k .undef bX none) fun t28 dF KA =>
 af t21 true (fun qL=>qL (aa bn 0) dF none) (fun k=>k .undef dF none) fun t29 fF K5 =>
 af t21 true (fun qJ=>ae .sub t29 (N .i64 1) fun t30 =>
 qJ t30 fF none) (fun k=>k .undef fF none) fun WY iC Ef =>
 af t21 true (fun jO=>ai t28 WY 3 fun t31 =>
 jO t31 iC none) (fun k=>k .undef iC none) fun HY fK OV =>
 af t21 true (fun uI=>aA fK HY 3 fun t32 =>
 uI t32 fK none) (fun k=>k .undef fK none) fun G9 dR Pp =>
 ah t21 true (fun xe=>bT cv t23 [VY,G9] dR fun t33 dm =>
 xe t33 dm) (fun k=>k .undef dR) fun Wx jN =>
 af t21 true (fun uG=>ae .lss Wx (N .i64 0) fun t34 =>
 uG t34 jN none) (fun k=>k .undef jN none) fun Ik nP aaP =>
 af t21 true (fun F8=>dE Ik fun t35 =>
 F8 t35 nP none) (fun k=>k .undef nP none) fun VK fQ Xl =>
 aK t21 VK (Bo false) fun t36 =>
 av t36 (
 ae .add (aa bn 0) (N .i64 1) fun t38 =>
 oJ [t38] fQ) (
 ae .eql (aa bn 0) a2 fun t41 =>
 av t41 (
 Q (Bo true) fQ) (
 ae .sub a2 a1 fun t44 =>
 ae .lss t44 (N .i64 50) fun t45 =>
 av t45 (
 Q (Bo false) fQ) (
 ae .sub (aa bn 0) (N .i64 1) fun t50 =>
 ae .sub (aa bn 0) (N .i64 1) fun t53 =>
 ai a0 t53 3 fun t54 =>
 aA fQ t54 3 fun t55 =>
 ai a0 (aa bn 0) 3 fun t58 =>
 aA fQ t58 3 fun t59 =>
 ai a0 (aa bn 0) 3 fun t60 =>
 aC fQ t60 t55 3 fun iL =>
 ai a0 t50 3 fun t61 =>
 aC iL t61 t59 3 fun lF =>
 bV (fun Mc =>
 ae .sub (aa bn 0) a1 fun t64 =>
 ae .geq t64 (N .i64 2) fun t65 =>
 av t65 (
 ae .sub (aa bn 0) (N .i64 1) fun t67 =>
 aN (fun OU lJ gU =>
 ae .geq (aa lJ 0) (N .i64 1) fun t69 =>
 av t69 (
 ai a0 (aa lJ 0) 3 fun t75 =>
 aA gU t75 3 fun t76 =>
 ae .sub (aa lJ 0) (N .i64 1) fun t79 =>
 ai a0 t79 3 fun t80 =>
 aA gU t80 3 fun t81 =>
 bT cv a3 [t76,t81] gU fun t82 jB =>
 ae .lss t82 (N .i64 0) fun t83 =>
 dE t83 fun t84 =>
 av t84 (
 Mc [] jB) (
 ae .sub (aa lJ 0) (N .i64 1) fun t89 =>
 ae .sub (aa lJ 0) (N .i64 1) fun t92 =>
 ai a0 t92 3 fun t93 =>
 aA jB t93 3 fun t94 =>
 ai a0 (aa lJ 0) 3 fun t97 =>
 aA jB t97 3 fun t98 =>
 ai a0 (aa lJ 0) 3 fun t99 =>
 aC jB t99 t94 3 fun nM =>
 ai a0 t89 3 fun jJ =>
 aC nM jJ t98 3 fun mR =>
 ae .sub (aa lJ 0) (N .i64 1) fun t71 =>
 OU [t71] mR)) (
 Mc [] gU)) [t67] lF) (
 Mc [] lF)) (fun aoy pO =>
 ae .sub a2 (aa bn 0) fun mH =>
 ae .geq mH (N .i64 2) fun Bt =>
 av Bt (
 ae .add (aa bn 0) (N .i64 1) fun FQ =>
 aN (fun Qg mW l5 =>
 ae .lss (aa mW 0) a2 fun t109 =>
 av t109 (
 ai a0 (aa mW 0) 3 fun AY =>
 aA l5 AY 3 fun t116 =>
 ae .sub (aa mW 0) (N .i64 1) fun t119 =>
 ai a0 t119 3 fun uR =>
 aA l5 uR 3 fun ES =>
 bT cv a3 [t116,ES] l5 fun uP sK =>
 ae .lss uP (N .i64 0) fun EX =>
 dE EX fun t124 =>
 av t124 (
 J [(aa bn 0)] sK) (
 ae .sub (aa mW 0) (N .i64 1) fun uF =>
 ae .sub (aa mW 0) (N .i64 1) fun Ao =>
 ai a0 Ao 3 fun Mf =>
 aA sK Mf 3 fun Bv =>
 ai a0 (aa mW 0) 3 fun L9 =>
 aA sK L9 3 fun t138 =>
 ai a0 (aa mW 0) 3 fun t139 =>
 aC sK t139 Bv 3 fun uq =>
 ai a0 uF 3 fun aeo =>
 aC uq aeo t138 3 fun jP =>
 ae .add (aa mW 0) (N .i64 1) fun qX =>
 Qg [qX] jP)) (
 J [(aa bn 0)] l5)) [FQ] pO) (
 J [(aa bn 0)] pO)))))) [(aa xs 0)] M) (fun aaW wh =>
 ae .add (aa xs 1) (N .i64 1) fun t18 =>
 next [(aa aaW 0),t18] wh)) (
 Q (Bo false) M)) [t14,(N .i64 0)] M0
def iB (cv:(FuncId→aj)) (a0 a1 a2 a3 a4:AV) (M0:RM) (Q:ak) : Prop :=
 ai a0 a3 3 fun t19 =>
 aA M0 t19 3 fun t20 =>
 ai a0 a1 3 fun t23 =>
 aA M0 t23 3 fun t24 =>
 ai a0 a1 3 fun t25 =>
 aC M0 t25 t20 3 fun M =>
 ai a0 a3 3 fun t26 =>
 aC M t26 t24 3 fun M_0 =>
 ae .add a1 (N .i64 1) fun t28 =>
 ae .sub a2 (N .i64 1) fun t30 =>
 aN (fun next xs M_1 =>
 aN (fun qH bA M_4 =>
 ae .leq (aa bA 0) (aa xs 1) fun t33 =>
 af t33 true (fun k=>k a4 M_4 none) (fun k=>k .undef M_4 none) fun t35 M_5 b =>
 af t33 true (fun k_6=>k_6 a0 M_5 none) (fun k=>k .undef M_5 none) fun t36 M_7 b_8 =>
 af t33 true (fun k_9=>k_9 a1 M_7 none) (fun k=>k .undef M_7 none) fun t37 dW aqi =>
 af t33 true (fun nR=>ai t36 t37 3 fun t38 =>
 nR t38 dW none) (fun k=>k .undef dW none) fun UO jo aih =>
 af t33 true (fun KV=>aA jo UO 3 fun t39 =>
 KV t39 jo none) (fun k=>k .undef jo none) fun Uo eX O1 =>
 af t33 true (fun jT=>jT a0 eX none) (fun k=>k .undef eX none) fun t40 dV P5 =>
 af t33 true (fun nW=>nW (aa bA 0) dV none) (fun k=>k .undef dV none) fun t41 mK adl =>
 af t33 true (fun Az=>ai t40 t41 3 fun t42 =>
 Az t42 mK none) (fun k=>k .undef mK none) fun VO ql aeU =>
 af t33 true (fun KY=>aA ql VO 3 fun t43 =>
 KY t43 ql none) (fun k=>k .undef ql none) fun Ud oQ akY =>
 ah t33 true (fun Av=>bT cv t35 [Uo,Ud] oQ fun t44 Iw =>
 Av t44 Iw) (fun k=>k .undef oQ) fun SX dm =>
 af t33 true (fun Ez=>ae .lss SX (N .i64 0) fun t45 =>
 Ez t45 dm none) (fun k=>k .undef dm none) fun WZ yT apt =>
 af t33 true (fun Bl=>dE WZ fun t46 =>
 Bl t46 yT none) (fun k=>k .undef yT none) fun Vt mG ZH =>
 aK t33 Vt (Bo false) fun t47 =>
 av t47 (
 ae .add (aa bA 0) (N .i64 1) fun t49 =>
 qH [t49] mG) (
 aN (fun O6 lQ iL =>
 ae .leq (aa bA 0) (aa lQ 0) fun t52 =>
 af t52 true (fun FR=>FR a4 iL none) (fun k=>k .undef iL none) fun t54 jk Uj =>
 af t52 true (fun Ap=>Ap a0 jk none) (fun k=>k .undef jk none) fun t55 gU PH =>
 af t52 true (fun AP=>AP a1 gU none) (fun k=>k .undef gU none) fun t56 mR ap3 =>
 af t52 true (fun Kr=>ai t55 t56 3 fun t57 =>
 Kr t57 mR none) (fun k=>k .undef mR none) fun U9 iT Ph =>
 af t52 true (fun uy=>aA iT U9 3 fun t58 =>
 uy t58 iT none) (fun k=>k .undef iT none) fun UF jP Tu =>
 af t52 true (fun Kz=>Kz a0 jP none) (fun k=>k .undef jP none) fun t59 kZ ZV =>
 af t52 true (fun Kv=>Kv (aa lQ 0) kZ none) (fun k=>k .undef kZ none) fun t60 Cs ao9 =>
 af t52 true (fun afN=>ai t59 t60 3 fun t61 =>
 afN t61 Cs none) (fun k=>k .undef Cs none) fun Vi uz apA =>
 af t52 true (fun adu=>aA uz Vi 3 fun t62 =>
 adu t62 uz none) (fun k=>k .undef uz none) fun XK Ej api =>
 ah t52 true (fun Wj=>bT cv t54 [UF,XK] Ej fun t63 aek =>
 Wj t63 aek) (fun k=>k .undef Ej) fun Tv lm =>
 af t52 true (fun Xr=>ae .lss Tv (N .i64 0) fun t64 =>
 Xr t64 lm none) (fun k=>k .undef lm none) fun Tw uo aqF =>
 aK t52 Tw (Bo false) fun t65 =>
 av t65 (
 ae .sub (aa lQ 0) (N .i64 1) fun t67 =>
 O6 [t67] uo) (
 ae .gtr (aa bA 0) (aa lQ 0) fun t70 =>
 av t70 (
 Q (aa bA 0) uo) (
 ai a0 (aa lQ 0) 3 fun t77 =>
 aA uo t77 3 fun t78 =>
 ai a0 (aa bA 0) 3 fun t81 =>
 aA uo t81 3 fun t82 =>
 ai a0 (aa bA 0) 3 fun t83 =>
 aC uo t83 t78 3 fun xD =>
 ai a0 (aa lQ 0) 3 fun t84 =>
 aC xD t84 t82 3 fun LK =>
 ae .add (aa bA 0) (N .i64 1) fun t86 =>
 ae .sub (aa lQ 0) (N .i64 1) fun t88 =>
 next [t86,t88] LK))) [(aa xs 1)] mG)) [(aa xs 0)] M_1) [t28,t30] M_0
def jM (cv:(FuncId→aj)) (a0 a1 a2 a3 a4:AV) (M0:RM) (Q:ak) : Prop :=
 ai a0 a3 3 fun t20 =>
 aA M0 t20 3 fun t21 =>
 ai a0 a1 3 fun t24 =>
 aA M0 t24 3 fun t25 =>
 ai a0 a1 3 fun t26 =>
 aC M0 t26 t21 3 fun M =>
 ai a0 a3 3 fun t27 =>
 aC M t27 t25 3 fun M_0 =>
 ae .add a1 (N .i64 1) fun t29 =>
 ae .sub a2 (N .i64 1) fun t31 =>
 aN (fun next xs M_1 =>
 ae .leq (aa xs 0) t31 fun t34 =>
 af t34 true (fun k=>k a4 M_1 none) (fun k=>k .undef M_1 none) fun t36 M_2 b =>
 af t34 true (fun k_3=>k_3 a0 M_2 none) (fun k=>k .undef M_2 none) fun t37 M_4 b_5 =>
 af t34 true (fun k_6=>k_6 (aa xs 0) M_4 none) (fun k=>k .undef M_4 none) fun t38 M_7 b_8 =>
 af t34 true (fun k_9=>ai t37 t38 3 fun t39 =>
 k_9 t39 M_7 none) (fun k=>k .undef M_7 none) fun UQ dQ XI =>
 af t34 true (fun AQ=>aA dQ UQ 3 fun t40 =>
 AQ t40 dQ none) (fun k=>k .undef dQ none) fun WJ kK Ux =>
 af t34 true (fun kY=>kY a0 kK none) (fun k=>k .undef kK none) fun t41 eX O1 =>
 af t34 true (fun jT=>jT a1 eX none) (fun k=>k .undef eX none) fun t42 dV P5 =>
 af t34 true (fun nW=>ai t41 t42 3 fun t43 =>
 nW t43 dV none) (fun k=>k .undef dV none) fun Xe fM LH =>
 af t34 true (fun rf=>aA fM Xe 3 fun t44 =>
 rf t44 fM none) (fun k=>k .undef fM none) fun U8 iJ Fu =>
 ah t34 true (fun ji=>bT cv t36 [WJ,U8] iJ fun t45 oQ =>
 ji t45 oQ) (fun k=>k .undef iJ) fun TW dR =>
 af t34 true (fun kX=>ae .lss TW (N .i64 0) fun t46 =>
 kX t46 dR none) (fun k=>k .undef dR none) fun TT dm Hg =>
 aK t34 TT (Bo false) fun t47 =>
 av t47 (
 ae .add (aa xs 0) (N .i64 1) fun t49 =>
 next [t49] dm) (
 aN (fun DY gD fe =>
 ae .leq (aa xs 0) (aa gD 0) fun t52 =>
 af t52 true (fun Bl=>Bl a4 fe none) (fun k=>k .undef fe none) fun t54 jw Zy =>
 af t52 true (fun F7=>F7 a0 jw none) (fun k=>k .undef jw none) fun t55 fQ Xl =>
 af t52 true (fun Mq=>Mq (aa gD 0) fQ none) (fun k=>k .undef fQ none) fun t56 lF ai4 =>
 af t52 true (fun Ga=>ai t55 t56 3 fun t57 =>
 Ga t57 lF none) (fun k=>k .undef lF none) fun Tz gU PH =>
 af t52 true (fun AP=>aA gU Tz 3 fun t58 =>
 AP t58 gU none) (fun k=>k .undef gU none) fun Xy fJ QJ =>
 af t52 true (fun xH=>xH a0 fJ none) (fun k=>k .undef fJ none) fun t59 iT Ph =>
 af t52 true (fun uy=>uy a1 iT none) (fun k=>k .undef iT none) fun t60 uq alh =>
 af t52 true (fun Lb=>ai t59 t60 3 fun t61 =>
 Lb t61 uq none) (fun k=>k .undef uq none) fun UG kZ ZV =>
 af t52 true (fun Kv=>aA kZ UG 3 fun t62 =>
 Kv t62 kZ none) (fun k=>k .undef kZ none) fun VQ AA ape =>
 ah t52 true (fun afc=>bT cv t54 [Xy,VQ] AA fun t63 uz =>
 afc t63 uz) (fun k=>k .undef AA) fun XD xn =>
 af t52 true (fun Lr=>ae .lss XD (N .i64 0) fun t64 =>
 Lr t64 xn none) (fun k=>k .undef xn none) fun Us AU alz =>
 af t52 true (fun Lj=>dE Us fun t65 =>
 Lj t65 AU none) (fun k=>k .undef AU none) fun XL lm aic =>
 aK t52 XL (Bo false) fun t66 =>
 av t66 (
 ae .sub (aa gD 0) (N .i64 1) fun t68 =>
 DY [t68] lm) (
 ae .gtr (aa xs 0) (aa gD 0) fun t71 =>
 av t71 (
 ai a0 a1 3 fun t78 =>
 aA lm t78 3 fun t79 =>
 ai a0 (aa gD 0) 3 fun t82 =>
 aA lm t82 3 fun t83 =>
 ai a0 (aa gD 0) 3 fun t84 =>
 aC lm t84 t79 3 fun Cz =>
 ai a0 a1 3 fun t85 =>
 aC Cz t85 t83 3 fun uo =>
 Q (.tup [(aa gD 0),(Bo true)]) uo) (
 ai a0 (aa gD 0) 3 fun t93 =>
 aA lm t93 3 fun t94 =>
 ai a0 (aa xs 0) 3 fun t97 =>
 aA lm t97 3 fun t98 =>
 ai a0 (aa xs 0) 3 fun t99 =>
 aC lm t99 t94 3 fun Ml =>
 ai a0 (aa gD 0) 3 fun jJ =>
 aC Ml jJ t98 3 fun xD =>
 ae .add (aa xs 0) (N .i64 1) fun Mm =>
 ae .sub (aa gD 0) (N .i64 1) fun Bt =>
 aN (fun OX FN FP =>
 aN (fun PD mX wR =>
 ae .leq (aa mX 0) (aa FN 1) fun t107 =>
 af t107 true (fun Mo=>Mo a4 wR none) (fun k=>k .undef wR none) fun t109 xI amq =>
 af t107 true (fun Ey=>Ey a0 xI none) (fun k=>k .undef xI none) fun xh Ac Zj =>
 af t107 true (fun vY=>vY (aa mX 0) Ac none) (fun k=>k .undef Ac none) fun qX wD ank =>
 af t107 true (fun Zh=>ai xh qX 3 fun jQ =>
 Zh jQ wD none) (fun k=>k .undef wD none) fun K4 Fg anF =>
 af t107 true (fun Ns=>aA Fg K4 3 fun uA =>
 Ns uA Fg none) (fun k=>k .undef Fg none) fun Lp sH aov =>
 af t107 true (fun Ot=>Ot a0 sH none) (fun k=>k .undef sH none) fun FM vS anJ =>
 af t107 true (fun aaf=>aaf a1 vS none) (fun k=>k .undef vS none) fun AY uj amX =>
 af t107 true (fun MB=>ai FM AY 3 fun t116 =>
 MB t116 uj none) (fun k=>k .undef uj none) fun Bd rY agd =>
 af t107 true (fun OB=>aA rY Bd 3 fun t117 =>
 OB t117 rY none) (fun k=>k .undef rY none) fun LF uh agi =>
 ah t107 true (fun Ou=>bT cv t109 [Lp,LF] uh fun Uq EB =>
 Ou Uq EB) (fun k=>k .undef uh) fun J8 zM =>
 af t107 true (fun N9=>ae .lss J8 (N .i64 0) fun t119 =>
 N9 t119 zM none) (fun k=>k .undef zM none) fun Kj Oj aoa =>
 aK t107 Kj (Bo false) fun uR =>
 av uR (
 ae .add (aa mX 0) (N .i64 1) fun uP =>
 PD [uP] Oj) (
 aN (fun Ky iE Fj =>
 ae .leq (aa mX 0) (aa iE 0) fun gJ =>
 af gJ true (fun Zx=>Zx a4 Fj none) (fun k=>k .undef Fj none) fun t127 zK af0 =>
 af gJ true (fun Nh=>Nh a0 zK none) (fun k=>k .undef zK none) fun EW Ce agv =>
 af gJ true (fun MH=>MH (aa iE 0) Ce none) (fun k=>k .undef Ce none) fun uF NK anN =>
 af gJ true (fun ZB=>ai EW uF 3 fun t130 =>
 ZB t130 NK none) (fun k=>k .undef NK none) fun KM yg agG =>
 af gJ true (fun Mw=>aA yg KM 3 fun t131 =>
 Mw t131 yg none) (fun k=>k .undef yg none) fun Lv xW aga =>
 af gJ true (fun NP=>NP a0 xW none) (fun k=>k .undef xW none) fun Ao ym agn =>
 af gJ true (fun MJ=>MJ a1 ym none) (fun k=>k .undef ym none) fun Mf MM am3 =>
 af gJ true (fun aaa=>ai Ao Mf 3 fun Bv =>
 aaa Bv MM none) (fun k=>k .undef MM none) fun Lg FT anf =>
 af gJ true (fun aaz=>aA FT Lg 3 fun adF =>
 aaz adF FT none) (fun k=>k .undef FT none) fun LZ BJ agE =>
 ah gJ true (fun OM=>bT cv t127 [Lv,LZ] BJ fun KI abz =>
 OM KI abz) (fun k=>k .undef BJ) fun Ke OC =>
 af gJ true (fun Oe=>ae .lss Ke (N .i64 0) fun L9 =>
 Oe L9 OC none) (fun k=>k .undef OC none) fun K8 zB afX =>
 af gJ true (fun MP=>dE K8 fun t138 =>
 MP t138 zB none) (fun k=>k .undef zB none) fun Mj mD afY =>
 aK gJ Mj (Bo false) fun t139 =>
 av t139 (
 ae .sub (aa iE 0) (N .i64 1) fun t141 =>
 Ky [t141] mD) (
 ae .gtr (aa mX 0) (aa iE 0) fun adB =>
 av adB (
 ai a0 a1 3 fun adX =>
 aA mD adX 3 fun adP =>
 ai a0 (aa iE 0) 3 fun t173 =>
 aA mD t173 3 fun aeH =>
 ai a0 (aa iE 0) 3 fun t175 =>
 aC mD t175 adP 3 fun aal =>
 ai a0 a1 3 fun afI =>
 aC aal afI aeH 3 fun abv =>
 Q (.tup [(aa iE 0),(Bo false)]) abv) (
 ai a0 (aa iE 0) 3 fun afa =>
 aA mD afa 3 fun t152 =>
 ai a0 (aa mX 0) 3 fun ae6 =>
 aA mD ae6 3 fun t156 =>
 ai a0 (aa mX 0) 3 fun t157 =>
 aC mD t157 t152 3 fun EO =>
 ai a0 (aa iE 0) 3 fun adR =>
 aC EO adR t156 3 fun aby =>
 ae .add (aa mX 0) (N .i64 1) fun t160 =>
 ae .sub (aa iE 0) (N .i64 1) fun t162 =>
 OX [t160,t162] aby))) [(aa FN 1)] Oj)) [(aa FN 0)] FP) [Mm,Bt] xD))) [t31] dm)) [t29] M_0
def kF (cv:(FuncId→aj)) (a0 a1 a2 a3 a4:AV) (M0:RM) (Q:ak) : Prop :=
 aN (fun next xs M =>
 ae .mul (N .i64 2) (aa xs 0) fun t14 =>
 ae .add t14 (N .i64 1) fun t15 =>
 ae .geq t15 a2 fun t18 =>
 av t18 (
 Q (.tup []) M) (
 bV (fun J =>
 ae .add t15 (N .i64 1) fun t20 =>
 ae .lss t20 a2 fun t22 =>
 af t22 true (fun k=>k a4 M none) (fun k=>k .undef M none) fun t24 M_0 b =>
 af t22 true (fun k_1=>k_1 a0 M_0 none) (fun k=>k .undef M_0 none) fun t25 M_2 b_3 =>
 af t22 true (fun k_4=>k_4 a3 M_2 none) (fun k=>k .undef M_2 none) fun t26 M_5 b_6 =>
 af t22 true (fun k_7=>k_7 t15 M_5 none) (fun k=>k .undef M_5 none) fun t27 M_8 b_9 =>
 af t22 true (fun l9=>ae .add t26 t27 fun t28 =>
 l9 t28 M_8 none) (fun k=>k .undef M_8 none) fun Tp gX Ho =>
 af t22 true (fun gu=>ai t25 Tp 3 fun t29 =>
 gu t29 gX none) (fun k=>k .undef gX none) fun UD bX yZ =>
 af t22 true (fun nT=>aA bX UD 3 fun t30 =>
 nT t30 bX none) (fun k=>k .undef bX none) fun WE pU Z5 =>
 af t22 true (fun nN=>nN a0 pU none) (fun k=>k .undef pU none) fun t31 jK KT =>
 af t22 true (fun nL=>nL a3 jK none) (fun k=>k .undef jK none) fun t32 iC Ef =>
 af t22 true (fun jO=>jO t15 iC none) (fun k=>k .undef iC none) fun t33 iJ Fu =>
 af t22 true (fun ji=>ae .add t32 t33 fun t34 =>
 ji t34 iJ none) (fun k=>k .undef iJ none) fun Uh gq WG =>
 af t22 true (fun kX=>ae .add Uh (N .i64 1) fun t35 =>
 kX t35 gq none) (fun k=>k .undef gq none) fun UZ dm Hg =>
 af t22 true (fun wY=>ai t31 UZ 3 fun t36 =>
 wY t36 dm none) (fun k=>k .undef dm none) fun Tn fe Di =>
 af t22 true (fun xB=>aA fe Tn 3 fun t37 =>
 xB t37 fe none) (fun k=>k .undef fe none) fun WU jy aed =>
 ah t22 true (fun J7=>bT cv t24 [WE,WU] jy fun t38 iL =>
 J7 t38 iL) (fun k=>k .undef jy) fun UE jk =>
 af t22 true (fun Ga=>ae .lss UE (N .i64 0) fun t39 =>
 Ga t39 jk none) (fun k=>k .undef jk none) fun Ur gU PH =>
 aK t22 Ur (Bo false) fun t40 =>
 av t40 (
 ae .add t15 (N .i64 1) fun t42 =>
 J [t42] gU) (
 J [t15] gU)) (fun zH mR =>
 ae .add a3 (aa xs 0) fun t47 =>
 ai a0 t47 3 fun t48 =>
 aA mR t48 3 fun t49 =>
 ae .add a3 (aa zH 0) fun t53 =>
 ai a0 t53 3 fun t54 =>
 aA mR t54 3 fun t55 =>
 bT cv a4 [t49,t55] mR fun t56 fJ =>
 ae .lss t56 (N .i64 0) fun t57 =>
 dE t57 fun t58 =>
 av t58 (
 Q (.tup []) fJ) (
 ae .add a3 (aa xs 0) fun t62 =>
 ae .add a3 (aa zH 0) fun t66 =>
 ae .add a3 (aa zH 0) fun t70 =>
 ai a0 t70 3 fun t71 =>
 aA fJ t71 3 fun t72 =>
 ae .add a3 (aa xs 0) fun t76 =>
 ai a0 t76 3 fun t77 =>
 aA fJ t77 3 fun t78 =>
 ai a0 t62 3 fun t79 =>
 aC fJ t79 t72 3 fun pO =>
 ai a0 t66 3 fun t80 =>
 aC pO t80 t78 3 fun xA =>
 next [(aa zH 0)] xA)))) [a1] M0
def iF (p1:aj) (a0 a1 a2 a3:AV) (M0:RM) (Q:ak) : Prop :=
 ae .sub a1 (N .i64 1) fun bQ =>
 ae .add a1 (N .i64 1) fun t14 =>
 p1 [a0,bQ,a1,t14,a2,a3] M0 fun t17 M =>
 Q t17 M
def lK (p1:aj) (a0 a1 a2 a3 a4 a5:AV) (M0:RM) (Q:ak) : Prop :=
 p1 [a0,a1,a2,a4,a5] M0 fun t19 M =>
 eB t19 0 fun t20 =>
 eB t19 1 fun t21 =>
 p1 [a0,t21,a3,a4,a5] M fun t28 M_0 =>
 eB t28 0 fun t29 =>
 eB t28 1 fun t30 =>
 p1 [a0,t20,t29,a4,a5] M_0 fun t37 M_1 =>
 eB t37 0 fun t38 =>
 eB t37 1 fun t39 =>
 Q t39 M_1
def lL (cv:(FuncId→aj)) (a0 a1 a2 a3 a4:AV) (M0:RM) (Q:ak) : Prop :=
 ai a0 a2 3 fun t15 =>
 aA M0 t15 3 fun t16 =>
 ai a0 a1 3 fun t19 =>
 aA M0 t19 3 fun t20 =>
 bT cv a4 [t16,t20] M0 fun t21 M =>
 ae .lss t21 (N .i64 0) fun t22 =>
 av t22 (
 cB a3 fun t24 =>
 au M t24 fun t25 =>
 ae .add t25 (N .i64 1) fun t26 =>
 cB a3 fun t27 =>
 aC M t27 t26 1 fun M_0 =>
 Q (.tup [a2,a1]) M_0) (
 Q (.tup [a1,a2]) M)
end Go.Ab.Vw
namespace Go.Ab.aD
open Go Go.Ab
def Ps (p1:Nat) (M0:RM) (Q:ak) : Prop :=
 tO [(N .u64 0),(.sc (.slice none 0 0)),(N .u64 0),(.sc (.slice none 0 0)),(N .u64 0),(.sc (.slice none 0 0)),(N .u64 0),(.sc (.slice none 0 0)),(N .u64 0),(.sc (.slice none 0 0)),(N .u64 0),(.sc (.slice none 0 0)),(N .u64 0),(.sc (.slice none 0 0)),(N .u64 0),(.sc (.slice none 0 0)),(N .u64 0),(.sc (.slice none 0 0)),(N .u64 0),(.sc (.slice none 0 0)),(N .u64 0),(.sc (.slice none 0 0)),(N .u64 0),(.sc (.slice none 0 0)),(N .u64 0),(.sc (.slice none 0 0)),(N .u64 0),(.sc (.slice none 0 0)),(N .u64 0),(.sc (.slice none 0 0)),(N .u64 0),(.sc (.slice none 0 0))] [] fun t1 =>
 jr p1 t1 fun r f =>
 cz r f M0 fun t2 M =>
 Q t2 M
def GJ (p1:Nat) (p2 p3:aj) (a0 a1:AV) (M0:RM) (Q:ak) : Prop :=
 jr p1 a1 fun r f =>
 cz r f M0 fun t3 M =>
 aA M t3 2 fun t6 =>
 p2 [t6] M fun t7 M_0 =>
 dE t7 fun t8 =>
 av t8 (
 Q (N .i64 1) M_0) (
 aJ t3 0 fun bQ =>
 au M_0 bQ fun t12 =>
 cB a0 fun t13 =>
 aJ t13 0 fun t14 =>
 GN t14 t12 16 2 fun t15 =>
 aJ t3 1 fun t16 =>
 au M_0 t16 fun t17 =>
 p3 [t15,t17] M_0 fun t18 M_1 =>
 dE t18 fun t19 =>
 av t19 (
 Q (N .i64 2) M_1) (
 Q (N .i64 0) M_1))
def LB (p1:Nat) (a0:AV) (M0:RM) (Q:ak) : Prop :=
 jr p1 a0 fun r f =>
 cz r f M0 fun t1 M =>
 aJ t1 0 fun t3 =>
 au M t3 fun t4 =>
 ae .geq t4 (N .i64 0) fun t5 =>
 ah t5 true (fun k=>aJ t1 0 fun t7 =>
 k t7 M) (fun k=>k .undef M) fun adI M_1 =>
 ah t5 true (fun k_2=>au M_1 adI fun t8 =>
 k_2 t8 M_1) (fun k=>k .undef M_1) fun aen M_4 =>
 ah t5 true (fun k_5=>ae .lss aen (N .i64 16) fun t9 =>
 k_5 t9 M_4) (fun k=>k .undef M_4) fun aeT M_7 =>
 aK t5 aeT (Bo false) fun bW =>
 ah bW true (fun k_8=>aJ t1 1 fun t12 =>
 k_8 t12 M_7) (fun k=>k .undef M_7) fun aab dW =>
 ah bW true (fun nU=>au dW aab fun t13 =>
 nU t13 dW) (fun k=>k .undef dW) fun Iq dN =>
 ah bW true (fun gu=>ae .geq Iq (N .u64 1) fun t14 =>
 gu t14 dN) (fun k=>k .undef dN) fun GY bX =>
 aK bW GY (Bo false) fun t15 =>
 ah t15 true (fun kY=>aJ t1 1 fun t17 =>
 kY t17 bX) (fun k=>k .undef bX) fun WK dF =>
 ah t15 true (fun jT=>au dF WK fun t18 =>
 jT t18 dF) (fun k=>k .undef dF) fun VT fF =>
 ah t15 true (fun nW=>ae .leq VT (N .u64 1099511627776) fun t19 =>
 nW t19 fF) (fun k=>k .undef fF) fun He fM =>
 aK t15 He (Bo false) fun t20 =>
 Q t20 fM
def Mv (p1:Nat) (a0:AV) (M0:RM) (Q:ak) : Prop :=
 jr p1 a0 fun r f =>
 cz r f M0 fun t1 M =>
 aJ t1 0 fun t3 =>
 au M t3 fun t4 =>
 ae .geq t4 (N .i64 0) fun t5 =>
 ah t5 true (fun k=>aJ t1 0 fun t7 =>
 k t7 M) (fun k=>k .undef M) fun adI M_1 =>
 ah t5 true (fun k_2=>au M_1 adI fun t8 =>
 k_2 t8 M_1) (fun k=>k .undef M_1) fun aen M_4 =>
 ah t5 true (fun k_5=>ae .lss aen (N .i64 16) fun t9 =>
 k_5 t9 M_4) (fun k=>k .undef M_4) fun aeT M_7 =>
 aK t5 aeT (Bo false) fun bW =>
 ah bW true (fun k_8=>aJ t1 1 fun t12 =>
 k_8 t12 M_7) (fun k=>k .undef M_7) fun aab dW =>
 ah bW true (fun nU=>au dW aab fun t13 =>
 nU t13 dW) (fun k=>k .undef dW) fun Iq dN =>
 ah bW true (fun gu=>ae .geq Iq (N .u64 1) fun t14 =>
 gu t14 dN) (fun k=>k .undef dN) fun GY bX =>
 aK bW GY (Bo false) fun t15 =>
 ah t15 true (fun kY=>aJ t1 1 fun t17 =>
 kY t17 bX) (fun k=>k .undef bX) fun WK dF =>
 ah t15 true (fun jT=>au dF WK fun t18 =>
 jT t18 dF) (fun k=>k .undef dF) fun VT fF =>
 ah t15 true (fun nW=>ae .leq VT (N .u64 1099511627776) fun t19 =>
 nW t19 fF) (fun k=>k .undef fF) fun He fM =>
 aK t15 He (Bo false) fun t20 =>
 Q t20 fM
def Fe (p1 p2:aj) (a0:AV) (M0:RM) (Q:ak) : Prop :=
 p1 [] M0 fun t4 M =>
 p2 [t4,a0] M fun t7 M_0 =>
 Q t4 M_0
def GU (p1:Nat) (p2 p3:aj) (a0 a1:AV) (M0:RM) (Q:ak) : Prop :=
 jr p1 a1 fun r f =>
 cz r f M0 fun t3 M =>
 aA M t3 2 fun t5 =>
 p2 [t5] M fun t6 M_0 =>
 af t6 true (fun k=>k a0 M_0 none) (fun k=>k .undef M_0 none) fun t8 M_1 b =>
 af t6 true (fun k_2=>aJ t3 0 fun t9 =>
 k_2 t9 M_1 none) (fun k=>k .undef M_1 none) fun adq M_4 b_5 =>
 af t6 true (fun k_6=>au M_4 adq fun bW =>
 k_6 bW M_4 none) (fun k=>k .undef M_4 none) fun ant M_8 b_9 =>
 af t6 true (fun l9=>cB t8 fun bQ =>
 l9 bQ M_8 none) (fun k=>k .undef M_8 none) fun aiH gX Ho =>
 af t6 true (fun gu=>aJ aiH 0 fun t12 =>
 gu t12 gX none) (fun k=>k .undef gX none) fun aiB bX yZ =>
 af t6 true (fun nT=>GN aiB ant 16 2 fun t13 =>
 nT t13 bX none) (fun k=>k .undef bX none) fun ajX pU Z5 =>
 af t6 true (fun nN=>aJ t3 1 fun t14 =>
 nN t14 pU none) (fun k=>k .undef pU none) fun ajh mK adl =>
 af t6 true (fun Az=>au mK ajh fun t15 =>
 Az t15 mK none) (fun k=>k .undef mK none) fun ajz ql aeU =>
 ah t6 true (fun KY=>p3 [ajX,ajz] ql fun t16 qP =>
 KY t16 qP) (fun k=>k .undef ql) fun alO gq =>
 aK t6 alO (Bo false) fun t17 =>
 Q t17 gq
def alU (p1 p2 p3:aj) (a0:AV) (M0:RM) (Q:ak) : Prop :=
 p1 [] M0 fun t7 M =>
 aN (fun next xs M_0 =>
 bL a0 fun bW =>
 ae .lss (aa xs 1) bW fun bQ =>
 av bQ (
 bV (fun J =>
 ai a0 (aa xs 1) 2 fun t17 =>
 aA M_0 t17 2 fun t18 =>
 p2 [t7,t18] M_0 fun t19 M_1 =>
 ae .eql t19 (N .i64 0) fun t20 =>
 av t20 (
 ai a0 (aa xs 1) 2 fun t24 =>
 aA M_1 t24 2 fun t25 =>
 p3 [(aa xs 0),t25] M_1 fun t26 M_2 =>
 J [t26] M_2) (
 J [(aa xs 0)] M_1)) (fun bA M_4 =>
 ae .add (aa xs 1) (N .i64 1) fun t13 =>
 next [(aa bA 0),t13] M_4)) (
 Q (.tup [t7,(aa xs 0)]) M_0)) [(.sc (.slice none 0 0)),(N .i64 0)] M
def ER (p1 p2:Nat) (p3 p4 p5 p6:aj) (a0 a1:AV) (M0:RM) (Q:ak) : Prop :=
 aN (fun next xs M =>
 ae .lss (aa xs 0) (N .i64 16) fun t8 =>
 av t8 (
 cB a0 fun t12 =>
 aJ t12 0 fun t13 =>
 GN t13 (aa xs 0) 16 2 fun t14 =>
 cB a1 fun t17 =>
 aJ t17 0 fun t18 =>
 GN t18 (aa xs 0) 16 2 fun t19 =>
 aA M t19 2 fun t20 =>
 Bj (.row [(N .u64 0),(.sc (.slice none 0 0))] false p1 0) (fun b=>.ptr b 0) M fun t6 M_0 b =>
 aC M_0 t6 t20 2 fun M_1 =>
 cB t14 fun t23 =>
 aJ t23 0 fun t24 =>
 au M_1 t24 fun t25 =>
 aJ t6 0 fun t26 =>
 au M_1 t26 fun t27 =>
 Pf true t25 t27 fun t28 =>
 cB t14 fun t29 =>
 aJ t29 0 fun t30 =>
 aC M_1 t30 t28 1 fun M_2 =>
 cB t14 fun t33 =>
 aJ t33 1 fun t34 =>
 au M_2 t34 fun t35 =>
 aJ t6 1 fun t36 =>
 au M_2 t36 fun t37 =>
 fV p2 2 [(.sc (.slice none 0 0))] [(0,1,t35),(1,1,t37)] fun r f =>
 Bj r f M_2 fun t38 M_3 b_4 =>
 p3 [t38] M_3 fun t39 M_5 =>
 cB t14 fun t40 =>
 aJ t40 1 fun t41 =>
 aC M_5 t41 t39 1 fun M_6 =>
 cB t14 fun t43 =>
 aJ t43 1 fun t44 =>
 au M_6 t44 fun t45 =>
 p4 [t45] M_6 fun t46 M_7 =>
 cB t14 fun t49 =>
 aJ t49 1 fun t50 =>
 au M_7 t50 fun t51 =>
 p5 [t51] M_7 fun t52 M_8 =>
 cB t14 fun t53 =>
 aJ t53 1 fun t54 =>
 aC M_8 t54 t52 1 fun M_9 =>
 p6 [t14] M_9 fun t56 dW =>
 ae .add (aa xs 0) (N .i64 1) fun t57 =>
 next [t57] dW) (
 Q (.tup []) M)) [(N .i64 0)] M0
def Bi (p1:Nat) (p2:aj) (a0 a1:AV) (M0:RM) (Q:ak) : Prop :=
 cB a0 fun bQ =>
 aJ bQ 0 fun t12 =>
 aA M0 t12 32 fun t13 =>
 aN (fun next xs M =>
 ae .lss (aa xs 0) (N .i64 16) fun t15 =>
 av t15 (
 SF t13 (aa xs 0) 16 2 fun t17 =>
 cz (.row [(N .u64 0),(.sc (.slice none 0 0))] false p1 0) (fun b=>.ptr b 0) M fun t6 M_0 =>
 aC M_0 t6 t17 2 fun M_1 =>
 cB a1 fun t20 =>
 aJ t20 0 fun t21 =>
 GN t21 (aa xs 0) 16 2 fun t22 =>
 aJ t6 0 fun t23 =>
 au M_1 t23 fun t24 =>
 cB t22 fun t26 =>
 aJ t26 0 fun t27 =>
 au M_1 t27 fun t28 =>
 ae .gtr t24 t28 fun t29 =>
 av t29 (
 Q (Bo false) M_1) (
 aJ t6 1 fun t30 =>
 au M_1 t30 fun t31 =>
 bL t31 fun t32 =>
 aN (fun qH bA M_4 =>
 ae .lss (aa bA 0) t32 fun t34 =>
 av t34 (
 ai t31 (aa bA 0) 1 fun t35 =>
 au M_4 t35 fun t36 =>
 p2 [t22,t36] M_4 fun t39 M_5 =>
 dE t39 fun t40 =>
 av t40 (
 Q (Bo false) M_5) (
 ae .add (aa bA 0) (N .i64 1) fun t41 =>
 qH [t41] M_5)) (
 ae .add (aa xs 0) (N .i64 1) fun t42 =>
 next [t42] M_4)) [(N .i64 0)] M_1)) (
 Q (Bo true) M)) [(N .i64 0)] M0
def Wp (p1:Nat) (a0 a1:AV) (M0:RM) (Q:ak) : Prop :=
 jr p1 a0 fun r f =>
 cz r f M0 fun t2 M =>
 jr p1 a1 fun r_0 f_1 =>
 cz r_0 f_1 M fun t3 M_2 =>
 aJ t2 1 fun t5 =>
 au M_2 t5 fun t6 =>
 aJ t3 1 fun t7 =>
 au M_2 t7 fun t8 =>
 ae .lss t6 t8 fun t9 =>
 ah t9 false (fun k=>aJ t2 1 fun bQ =>
 k bQ M_2) (fun k=>k .undef M_2) fun abF M_4 =>
 ah t9 false (fun k_5=>au M_4 abF fun t12 =>
 k_5 t12 M_4) (fun k=>k .undef M_4) fun abK M_7 =>
 ah t9 false (fun k_8=>aJ t3 1 fun t13 =>
 k_8 t13 M_7) (fun k=>k .undef M_7) fun FE dW =>
 ah t9 false (fun nU=>au dW FE fun t14 =>
 nU t14 dW) (fun k=>k .undef dW) fun Vu dN =>
 ah t9 false (fun gu=>ae .eql abK Vu fun t15 =>
 gu t15 dN) (fun k=>k .undef dN) fun WT bX =>
 ah t9 false (fun kY=>kY WT bX) (fun k=>k .undef bX) fun t16 eX =>
 ah t16 true (fun xk=>aJ t2 0 fun t17 =>
 xk t17 eX) (fun k=>k .undef eX) fun Uz dV =>
 ah t16 true (fun nN=>au dV Uz fun t18 =>
 nN t18 dV) (fun k=>k .undef dV) fun Ws mK =>
 ah t16 true (fun nL=>aJ t3 0 fun t19 =>
 nL t19 mK) (fun k=>k .undef mK) fun Vj kW =>
 ah t16 true (fun jO=>au kW Vj fun t20 =>
 jO t20 kW) (fun k=>k .undef kW) fun Xk fK =>
 ah t16 true (fun ji=>ae .lss Ws Xk fun t21 =>
 ji t21 fK) (fun k=>k .undef fK) fun G5 gq =>
 ah t9 false (fun Av=>aK t16 G5 (Bo false) fun t22 =>
 Av t22 gq) (fun k=>k .undef gq) fun H6 jb =>
 aK t9 (Bo true) H6 fun t23 =>
 Q t23 jb
def LU (p1:Nat) (a0 a1:AV) (M0:RM) (Q:ak) : Prop :=
 jr p1 a0 fun r f =>
 cz r f M0 fun t2 M =>
 jr p1 a1 fun r_0 f_1 =>
 cz r_0 f_1 M fun t3 M_2 =>
 aJ t2 1 fun t5 =>
 au M_2 t5 fun t6 =>
 aJ t3 1 fun t7 =>
 au M_2 t7 fun t8 =>
 ae .lss t6 t8 fun t9 =>
 ah t9 false (fun k=>aJ t2 1 fun bQ =>
 k bQ M_2) (fun k=>k .undef M_2) fun abF M_4 =>
 ah t9 false (fun k_5=>au M_4 abF fun t12 =>
 k_5 t12 M_4) (fun k=>k .undef M_4) fun abK M_7 =>
 ah t9 false (fun k_8=>aJ t3 1 fun t13 =>
 k_8 t13 M_7) (fun k=>k .undef M_7) fun FE dW =>
 ah t9 false (fun nU=>au dW FE fun t14 =>
 nU t14 dW) (fun k=>k .undef dW) fun Vu dN =>
 ah t9 false (fun gu=>ae .eql abK Vu fun t15 =>
 gu t15 dN) (fun k=>k .undef dN) fun WT bX =>
 ah t9 false (fun kY=>kY WT bX) (fun k=>k .undef bX) fun t16 eX =>
 ah t16 true (fun xk=>aJ t2 0 fun t17 =>
 xk t17 eX) (fun k=>k .undef eX) fun Uz dV =>
 ah t16 true (fun nN=>au dV Uz fun t18 =>
 nN t18 dV) (fun k=>k .undef dV) fun Ws mK =>
 ah t16 true (fun nL=>aJ t3 0 fun t19 =>
 nL t19 mK) (fun k=>k .undef mK) fun Vj kW =>
 ah t16 true (fun jO=>au kW Vj fun t20 =>
 jO t20 kW) (fun k=>k .undef kW) fun Xk fK =>
 ah t16 true (fun ji=>ae .lss Ws Xk fun t21 =>
 ji t21 fK) (fun k=>k .undef fK) fun G5 gq =>
 ah t9 false (fun Av=>aK t16 G5 (Bo false) fun t22 =>
 Av t22 gq) (fun k=>k .undef gq) fun H6 jb =>
 aK t9 (Bo true) H6 fun t23 =>
 Q t23 jb
def FO (p1:aj) (p2 p3:Nat) (p4 p5 p6:aj) (a0 a1:AV) (M0:RM) (Q:ak) : Prop :=
 cB a0 fun bW =>
 aJ bW 1 fun bQ =>
 au M0 bQ fun t12 =>
 p1 [t12,a1] M0 fun t14 M =>
 eB t14 0 fun t15 =>
 eB t14 1 fun t16 =>
 ah t16 false (fun k=>k a1 M) (fun k=>k .undef M) fun t19 M_0 =>
 ah t16 false (fun k_1=>k_1 a0 M_0) (fun k=>k .undef M_0) fun t20 M_2 =>
 ah t16 false (fun k_3=>cB t20 fun t21 =>
 k_3 t21 M_2) (fun k=>k .undef M_2) fun aaX M_5 =>
 ah t16 false (fun k_6=>aJ aaX 0 fun t22 =>
 k_6 t22 M_5) (fun k=>k .undef M_5) fun Zp M_8 =>
 ah t16 false (fun k_9=>au M_8 Zp fun t23 =>
 k_9 t23 M_8) (fun k=>k .undef M_8) fun WL dQ =>
 ah t16 false (fun nR=>ae .leq t19 WL fun t24 =>
 nR t24 dQ) (fun k=>k .undef dQ) fun UI jo =>
 aK t16 (Bo true) UI fun t25 =>
 av t25 (
 Q (Bo true) jo) (
 cB a0 fun t27 =>
 aJ t27 0 fun t28 =>
 au jo t28 fun t29 =>
 cB a0 fun t31 =>
 aJ t31 1 fun t32 =>
 au jo t32 fun t33 =>
 fV p2 1 [(N .u64 0)] [(0,1,a1)] fun r f =>
 Bj r f jo fun t37 kK b =>
 Bj (.row [(N .u64 0),(.sc (.slice none 0 0))] false p3 0) (fun b=>.ptr b 0) kK fun t7 bX yZ =>
 p4 [t33] bX fun t34 eX =>
 au eX t28 fun aiC =>
 (aiC=t29∧fV p2 1 [(N .u64 0)] [(0,1,a1)] fun aph apc =>
 (IP b eX aph apc t37∧(IP yZ eX (.row [(N .u64 0),(.sc (.slice none 0 0))] false p3 0) (fun b=>.ptr b 0) t7∧p5 [t34,t15,t37] eX fun t38 dF =>
 au dF t28 fun akR =>
 (akR=t29∧(IP yZ dF (.row [(N .u64 0),(.sc (.slice none 0 0))] false p3 0) (fun b=>.ptr b 0) t7∧tO [(N .u64 0),(.sc (.slice none 0 0))] [(0,1,t29),(1,1,t38)] fun t39 =>
 aC dF t7 t39 2 fun pU =>
 p6 [t7] pU fun t40 dV =>
 aJ t7 1 fun t41 =>
 au dV t41 fun t42 =>
 bL t42 fun t43 =>
 ae .gtr t43 (N .i64 4096) fun t44 =>
 av t44 (
 Q (Bo false) dV) (
 aA dV t7 2 fun t46 =>
 cB a0 fun t47 =>
 aC dV t47 t46 2 fun fF =>
 Q (Bo true) fF)))))))
def Qp (p1:Nat) (a0:AV) (M0:RM) (Q:ak) : Prop :=
 kH false 2 a0 (.sc (.slice none 0 0)) fun t4 =>
 av t4 (
 Q (.sc (.slice none 0 0)) M0) (
 fV p1 0 [(N .u64 0)] [] fun r f =>
 cz r f M0 fun t5 M =>
 appW p1 1 8 [(N .u64 0)] false t5 a0 M fun t7 M_0 =>
 Q t7 M_0)
def EP (p1:aj) (a0 a1:AV) (M0:RM) (Q:ak) : Prop :=
 cB a0 fun t9 =>
 aJ t9 1 fun bW =>
 au M0 bW fun bQ =>
 p1 [bQ,a1] M0 fun t13 M =>
 eB t13 0 fun t14 =>
 eB t13 1 fun t15 =>
 ae .geq a1 (N .u64 1) fun t17 =>
 ah t17 true (fun k=>k a1 M) (fun k=>k .undef M) fun t19 M_0 =>
 ah t17 true (fun k_1=>k_1 a0 M_0) (fun k=>k .undef M_0) fun t20 M_2 =>
 ah t17 true (fun k_3=>cB t20 fun t21 =>
 k_3 t21 M_2) (fun k=>k .undef M_2) fun aaX M_5 =>
 ah t17 true (fun k_6=>aJ aaX 0 fun t22 =>
 k_6 t22 M_5) (fun k=>k .undef M_5) fun Zp M_8 =>
 ah t17 true (fun k_9=>au M_8 Zp fun t23 =>
 k_9 t23 M_8) (fun k=>k .undef M_8) fun WL dQ =>
 ah t17 true (fun nR=>ae .leq t19 WL fun t24 =>
 nR t24 dQ) (fun k=>k .undef dQ) fun UI jo =>
 aK t17 UI (Bo false) fun t25 =>
 ah t25 false (fun uH=>uH t15 jo) (fun k=>k .undef jo) fun t27 bX =>
 aK t25 (Bo true) t27 fun t28 =>
 Q t28 bX
def wy (p1:Nat) (p2:aj) (p3:Nat) (a0:AV) (M0:RM) (Q:ak) : Prop :=
 bL a0 fun bW =>
 aN (fun next xs M =>
 ae .lss (aa xs 1) bW fun t12 =>
 av t12 (
 bV (fun J =>
 ai a0 (aa xs 1) 1 fun t13 =>
 au M t13 fun t14 =>
 bL t14 fun t17 =>
 ae .add (aa xs 0) t17 fun t18 =>
 ae .lss t18 (N .i64 0) fun t20 =>
 av t20 (
 False) (
 J [t18] M)) (fun apW M_1 =>
 ae .add (aa xs 1) (N .i64 1) fun t22 =>
 next [(aa apW 0),t22] M_1)) (
 p2 [(.sc (.slice none 0 0)),(aa xs 0)] M fun t24 M_2 =>
 bL a0 fun t26 =>
 aN (fun aiN y5 M_5 =>
 ae .lss (aa y5 1) t26 fun t28 =>
 av t28 (
 ai a0 (aa y5 1) 1 fun t29 =>
 au M_5 t29 fun t30 =>
 appW p3 1 8 [(N .u64 0)] false (aa y5 0) t30 M_5 fun t33 M_6 =>
 ae .add (aa y5 1) (N .i64 1) fun t34 =>
 aiN [t33,t34] M_6) (
 Q (aa y5 0) M_5)) [t24,(N .i64 0)] M_2)) [(N .i64 0),(N .i64 0)] M0
def y9 (p1 p2:aj) (a0:AV) (M0:RM) (Q:ak) : Prop :=
 bL a0 fun t4 =>
 oO .u64 t4 fun t8 =>
 p1 [t8] M0 fun t9 M =>
 p2 [a0,(N .i64 0),t4,t9] M fun bW M_0 =>
 Q (.tup []) M_0
def uC (a0:AV) (M0:RM) (Q:ak) : Prop :=
 bL a0 fun t7 =>
 ae .lss t7 (N .i64 2) fun t8 =>
 av t8 (
 Q a0 M0) (
 aN (fun next xs M =>
 bL a0 fun t12 =>
 ae .lss (aa xs 0) t12 fun t13 =>
 av t13 (
 ai a0 (aa xs 0) 1 fun t18 =>
 au M t18 fun t19 =>
 ae .sub (aa xs 0) (N .i64 1) fun t22 =>
 ai a0 t22 1 fun t23 =>
 au M t23 fun t24 =>
 ae .eql t19 t24 fun t25 =>
 av t25 (
 kJ (cO 1 a0 (some (aa xs 0)) none none) fun t28 =>
 aN (fun oJ bn M_2 =>
 bL t28 fun t31 =>
 ae .lss (aa bn 1) t31 fun t32 =>
 av t32 (
 bV (fun J =>
 ai t28 (aa bn 1) 1 fun t37 =>
 au M_2 t37 fun t38 =>
 ae .sub (aa bn 1) (N .i64 1) fun t41 =>
 ai t28 t41 1 fun t42 =>
 au M_2 t42 fun t43 =>
 ae .neq t38 t43 fun t44 =>
 av t44 (
 ai t28 (aa bn 1) 1 fun t49 =>
 au M_2 t49 fun t50 =>
 ai a0 (aa bn 0) 1 fun t51 =>
 aC M_2 t51 t50 1 fun M_3 =>
 ae .add (aa bn 0) (N .i64 1) fun t53 =>
 J [t53] M_3) (
 J [(aa bn 0)] M_2)) (fun y5 M_5 =>
 ae .add (aa bn 1) (N .i64 1) fun t34 =>
 oJ [(aa y5 0),t34] M_5)) (
 kJ (cO 1 a0 (some (aa bn 0)) none none) fun t56 =>
 Nc [(N .u64 0)] t56 M_2 fun u M_6 =>
 kJ (cO 1 a0 none (some (aa bn 0)) none) fun t59 =>
 Q t59 M_6)) [(aa xs 0),(N .i64 1)] M) (
 ae .add (aa xs 0) (N .i64 1) fun t15 =>
 next [t15] M)) (
 Q a0 M)) [(N .i64 1)] M0)
def xN (a0:AV) (M0:RM) (Q:ak) : Prop :=
 aN (fun next xs M =>
 cB a0 fun t5 =>
 aJ t5 1 fun t6 =>
 au M t6 fun t7 =>
 bL t7 fun t8 =>
 ae .lss (aa xs 0) t8 fun t9 =>
 af t9 true (fun k=>k a0 M none) (fun k=>k .undef M none) fun bQ M_0 b =>
 af t9 true (fun k_1=>cB bQ fun t12 =>
 k_1 t12 M_0 none) (fun k=>k .undef M_0 none) fun aod M_3 b_4 =>
 af t9 true (fun k_5=>aJ aod 1 fun t13 =>
 k_5 t13 M_3 none) (fun k=>k .undef M_3 none) fun am2 M_7 b_8 =>
 af t9 true (fun k_9=>au M_7 am2 fun t14 =>
 k_9 t14 M_7 none) (fun k=>k .undef M_7 none) fun amC dQ XI =>
 af t9 true (fun AQ=>AQ (aa xs 0) dQ none) (fun k=>k .undef dQ none) fun t15 jo aih =>
 af t9 true (fun KV=>ai amC t15 1 fun t16 =>
 KV t16 jo none) (fun k=>k .undef jo none) fun ai3 eX O1 =>
 af t9 true (fun jT=>au eX ai3 fun t17 =>
 jT t17 eX none) (fun k=>k .undef eX none) fun alu fF K5 =>
 af t9 true (fun qJ=>qJ a0 fF none) (fun k=>k .undef fF none) fun t18 fM LH =>
 af t9 true (fun rf=>cB t18 fun t19 =>
 rf t19 fM none) (fun k=>k .undef fM none) fun aj9 iJ Fu =>
 af t9 true (fun ji=>aJ aj9 0 fun t20 =>
 ji t20 iJ none) (fun k=>k .undef iJ none) fun ai6 gq WG =>
 af t9 true (fun kX=>au gq ai6 fun t21 =>
 kX t21 gq none) (fun k=>k .undef gq none) fun alI dm Hg =>
 af t9 true (fun wY=>ae .add alI (N .u64 1) fun t22 =>
 wY t22 dm none) (fun k=>k .undef dm none) fun alR fe Di =>
 af t9 true (fun xB=>ae .leq alu alR fun t23 =>
 xB t23 fe none) (fun k=>k .undef fe none) fun ama jy aed =>
 aK t9 ama (Bo false) fun t24 =>
 av t24 (
 cB a0 fun t27 =>
 aJ t27 0 fun t28 =>
 au jy t28 fun t29 =>
 cB a0 fun t31 =>
 aJ t31 1 fun t32 =>
 au jy t32 fun t33 =>
 ai t33 (aa xs 0) 1 fun t35 =>
 au jy t35 fun t36 =>
 Pf true t29 t36 fun t37 =>
 cB a0 fun t38 =>
 aJ t38 0 fun t39 =>
 aC jy t39 t37 1 fun qm =>
 ae .add (aa xs 0) (N .i64 1) fun t41 =>
 next [t41] qm) (
 cB a0 fun t44 =>
 aJ t44 1 fun t45 =>
 au jy t45 fun t46 =>
 kJ (cO 1 t46 (some (aa xs 0)) none none) fun t48 =>
 cB a0 fun t49 =>
 aJ t49 1 fun t50 =>
 aC jy t50 t48 1 fun iL =>
 Q (.tup []) iL)) [(N .i64 0)] M0
def oq (p1 p2:aj) (a0 a1:AV) (M0:RM) (Q:ak) : Prop :=
 bL a0 fun bQ =>
 aN (fun next xs M =>
 ae .lss (aa xs 0) (aa xs 1) fun t15 =>
 av t15 (
 ae .add (aa xs 0) (aa xs 1) fun t18 =>
 oO .u64 t18 fun t19 =>
 DL .shr t19 (N .u64 1) fun t20 =>
 oO .i64 t20 fun t21 =>
 ai a0 t21 1 fun t24 =>
 au M t24 fun t25 =>
 p1 [t25,a1] M fun t27 M_0 =>
 av t27 (
 ae .add t21 (N .i64 1) fun t29 =>
 next [t29,(aa xs 1)] M_0) (
 next [(aa xs 0),t21] M_0)) (
 ae .lss (aa xs 0) bQ fun t34 =>
 ah t34 true (fun k=>k a0 M) (fun k=>k .undef M) fun t36 M_1 =>
 ah t34 true (fun k_2=>k_2 (aa xs 0) M_1) (fun k=>k .undef M_1) fun t37 M_3 =>
 ah t34 true (fun k_4=>ai t36 t37 1 fun t38 =>
 k_4 t38 M_3) (fun k=>k .undef M_3) fun anv M_6 =>
 ah t34 true (fun k_7=>au M_6 anv fun t39 =>
 k_7 t39 M_6) (fun k=>k .undef M_6) fun an6 M_9 =>
 ah t34 true (fun l9=>l9 a1 M_9) (fun k=>k .undef M_9) fun t40 dQ =>
 ah t34 true (fun nR=>ae .eql an6 t40 fun t41 =>
 nR t41 dQ) (fun k=>k .undef dQ) fun aj3 jo =>
 ah t34 true (fun uH=>uH aj3 jo) (fun k=>k .undef jo) fun t42 bX =>
 ah t42 false (fun kY=>kY a0 bX) (fun k=>k .undef bX) fun t43 eX =>
 ah t42 false (fun xk=>xk (aa xs 0) eX) (fun k=>k .undef eX) fun t44 pU =>
 ah t42 false (fun qL=>ai t43 t44 1 fun t45 =>
 qL t45 pU) (fun k=>k .undef pU) fun aiT jK =>
 ah t42 false (fun qJ=>au jK aiT fun t46 =>
 qJ t46 jK) (fun k=>k .undef jK) fun aiW iC =>
 ah t42 false (fun rf=>p2 [aiW] iC fun t47 ql =>
 rf t47 ql) (fun k=>k .undef iC) fun akC fK =>
 ah t42 false (fun ji=>ji akC fK) (fun k=>k .undef fK) fun t48 oQ =>
 ah t48 true (fun Mt=>Mt a1 oQ) (fun k=>k .undef oQ) fun t49 dR =>
 ah t48 true (fun kX=>p2 [t49] dR fun t50 jb =>
 kX t50 jb) (fun k=>k .undef dR) fun alC mP =>
 ah t42 false (fun wY=>aK t48 alC (Bo false) fun t51 =>
 wY t51 mP) (fun k=>k .undef mP) fun aiz fe =>
 ah t34 true (fun Bl=>aK t42 (Bo true) aiz fun t52 =>
 Bl t52 fe) (fun k=>k .undef fe) fun al9 mG =>
 aK t34 al9 (Bo false) fun t53 =>
 Q (.tup [(aa xs 0),t53]) mG)) [(N .i64 0),bQ] M0
def nH (p1:Nat) (p2 p3:aj) (a0 a1 a2:AV) (M0:RM) (Q:ak) : Prop :=
 kJ (cO 1 a0 (some a1) none none) fun t12 =>
 bL a2 fun t14 =>
 ae .eql t14 (N .i64 0) fun t16 =>
 av t16 (
 Q a0 M0) (
 bL a0 fun t19 =>
 ae .eql a1 t19 fun t22 =>
 av t22 (
 appW p1 1 8 [(N .u64 0)] false a0 a2 M0 fun t25 M =>
 Q t25 M) (
 ae .add t19 t14 fun t28 =>
 Dk a0 fun t30 =>
 ae .gtr t28 t30 fun t31 =>
 av t31 (
 kJ (cO 1 a0 none (some a1) none) fun t34 =>
 ae .add t19 t14 fun t37 =>
 ae .sub t37 a1 fun t39 =>
 appW p1 1 8 [(N .u64 0)] true t34 t39 M0 fun t40 M_0 =>
 kJ (cO 1 t40 (some a1) none none) fun t43 =>
 BI 1 t43 a2 M_0 fun t45 M_1 =>
 ae .add a1 t14 fun t49 =>
 kJ (cO 1 t40 (some t49) none none) fun t50 =>
 kJ (cO 1 a0 (some a1) none none) fun t53 =>
 BI 1 t50 t53 M_1 fun t54 M_2 =>
 Q t40 M_2) (
 ae .add t19 t14 fun t59 =>
 kJ (cO 1 a0 none (some t59) none) fun t60 =>
 ae .add a1 t14 fun t65 =>
 kJ (cO 1 t60 (some t65) none none) fun t66 =>
 p2 [a2,t66] M0 fun t67 M_3 =>
 dE t67 fun t68 =>
 av t68 (
 ae .add a1 t14 fun t72 =>
 kJ (cO 1 t60 (some t72) none none) fun t73 =>
 kJ (cO 1 t60 (some a1) none none) fun t76 =>
 BI 1 t73 t76 M_3 fun t77 M_4 =>
 kJ (cO 1 t60 (some a1) none none) fun t80 =>
 BI 1 t80 a2 M_4 fun t82 M_5 =>
 Q t60 M_5) (
 kJ (cO 1 t60 (some t19) none none) fun t86 =>
 BI 1 t86 a2 M_3 fun t88 M_6 =>
 kJ (cO 1 t60 (some a1) none none) fun t91 =>
 p3 [t91,t14] M_6 fun t93 M_7 =>
 Q t60 M_7))))
def zi (p1 p2:Nat) (a0 a1:AV) (M0:RM) (Q:ak) : Prop :=
 bV (fun J =>
 ae .lss a1 (N .i64 0) fun t6 =>
 av t6 (
 False) (
 J [] M0)) (fun xs M =>
 bV (fun J_0 =>
 Dk a0 fun bW =>
 bL a0 fun t12 =>
 ae .sub bW t12 fun t13 =>
 ae .sub a1 t13 fun t14 =>
 ae .gtr t14 (N .i64 0) fun t16 =>
 av t16 (
 Dk a0 fun t19 =>
 kJ (cO 1 a0 none (some t19) none) fun t20 =>
 appW p2 1 8 [(N .u64 0)] true t20 t14 M fun t22 M_1 =>
 bL a0 fun t24 =>
 kJ (cO 1 t22 none (some t24) none) fun t25 =>
 J_0 [t25] M_1) (
 J_0 [a0] M)) (fun pM M_3 =>
 Q (aa pM 0) M_3))
def gY (p1 p2 p3 p4 p5 p6 p7 p8 p9 p10:aj) (a0 a1 a2 a3:AV) (M0:RM) (Q:ak) : Prop :=
 aN (fun next xs M =>
 ae .sub (aa xs 1) (aa xs 0) fun t21 =>
 ae .leq t21 (N .i64 12) fun t23 =>
 av t23 (
 p1 [a0,(aa xs 0),(aa xs 1)] M fun t27 M_0 =>
 Q (.tup []) M_0) (
 ae .eql (aa xs 2) (N .i64 0) fun t29 =>
 av t29 (
 p2 [a0,(aa xs 0),(aa xs 1)] M fun t33 M_1 =>
 Q (.tup []) M_1) (
 bV (fun J =>
 dE (aa xs 3) fun t35 =>
 av t35 (
 p3 [a0,(aa xs 0),(aa xs 1)] M fun t39 M_2 =>
 ae .sub (aa xs 2) (N .i64 1) fun t41 =>
 J [t41] M_2) (
 J [(aa xs 2)] M)) (fun bA M_4 =>
 p4 [a0,(aa xs 0),(aa xs 1)] M_4 fun t46 M_5 =>
 eB t46 0 fun t47 =>
 eB t46 1 fun t48 =>
 bV (fun J_6 =>
 ae .eql t48 (N .i64 2) fun t50 =>
 av t50 (
 p5 [a0,(aa xs 0),(aa xs 1)] M_5 fun t54 M_7 =>
 ae .sub (aa xs 1) (N .i64 1) fun t56 =>
 ae .sub t47 (aa xs 0) fun t59 =>
 ae .sub t56 t59 fun t60 =>
 J_6 [t60,(N .i64 1)] M_7) (
 J_6 [t47,t48] M_5)) (fun uN M_9 =>
 bV (fun IC =>
 ah (aa xs 3) true (fun k=>k (aa xs 4) M_9) (fun k=>k .undef M_9) fun t63 dQ =>
 aK (aa xs 3) t63 (Bo false) fun t64 =>
 ah t64 true (fun nR=>nR (aa uN 1) dQ) (fun k=>k .undef dQ) fun t66 dN =>
 ah t64 true (fun gu=>ae .eql t66 (N .i64 1) fun t67 =>
 gu t67 dN) (fun k=>k .undef dN) fun aio bX =>
 aK t64 aio (Bo false) fun t68 =>
 av t68 (
 p6 [a0,(aa xs 0),(aa xs 1)] bX fun t72 mQ =>
 av t72 (
 Q (.tup []) mQ) (
 IC [] mQ)) (
 IC [] bX)) (fun agF dF =>
 ae .gtr (aa xs 0) (N .i64 0) fun t74 =>
 af t74 true (fun jT=>jT a0 dF none) (fun k=>k .undef dF none) fun t76 dV b =>
 af t74 true (fun nN=>nN (aa xs 0) dV none) (fun k=>k .undef dV none) fun t77 jK KT =>
 af t74 true (fun nL=>ae .sub t77 (N .i64 1) fun t78 =>
 nL t78 jK none) (fun k=>k .undef jK none) fun akP kW akm =>
 af t74 true (fun LG=>ai t76 akP 1 fun t79 =>
 LG t79 kW none) (fun k=>k .undef kW none) fun aix qP amj =>
 af t74 true (fun Mt=>au qP aix fun t80 =>
 Mt t80 qP none) (fun k=>k .undef qP none) fun aln Iw b_36 =>
 af t74 true (fun XF=>XF a0 Iw none) (fun k=>k .undef Iw none) fun t81 mP adi =>
 af t74 true (fun uG=>uG (aa uN 0) mP none) (fun k=>k .undef mP none) fun t82 fe Di =>
 af t74 true (fun xB=>ai t81 t82 1 fun t83 =>
 xB t83 fe none) (fun k=>k .undef fe none) fun akS jy aed =>
 af t74 true (fun J7=>au jy akS fun t84 =>
 J7 t84 jy none) (fun k=>k .undef jy none) fun akF lF ai4 =>
 ah t74 true (fun Ga=>p7 [aln,akF] lF fun t85 wm =>
 Ga t85 wm) (fun k=>k .undef lF) fun al7 jB =>
 af t74 true (fun AP=>dE al7 fun t86 =>
 AP t86 jB none) (fun k=>k .undef jB none) fun Ua fJ QJ =>
 aK t74 Ua (Bo false) fun t87 =>
 av t87 (
 p8 [a0,(aa xs 0),(aa xs 1),(aa uN 0)] fJ fun t92 xA =>
 next [t92,(aa xs 1),(aa bA 0),(aa xs 3),(aa xs 4)] xA) (
 p9 [a0,(aa xs 0),(aa xs 1),(aa uN 0)] fJ fun t99 iT =>
 eB t99 0 fun jJ =>
 eB t99 1 fun qo =>
 ae .sub jJ (aa xs 0) fun t105 =>
 ae .sub (aa xs 1) jJ fun xq =>
 ae .quo t21 (N .i64 8) fun xh =>
 ae .lss t105 xq fun uA =>
 av uA (
 ae .geq t105 xh fun t116 =>
 p10 [a0,(aa xs 0),jJ,(aa bA 0)] iT fun ES l5 =>
 ae .add jJ (N .i64 1) fun EX =>
 next [EX,(aa xs 1),(aa bA 0),t116,qo] l5) (
 ae .geq xq xh fun KP =>
 ae .add jJ (N .i64 1) fun uF =>
 p10 [a0,uF,(aa xs 1),(aa bA 0)] iT fun Ao sK =>
 next [(aa xs 0),jJ,(aa bA 0),KP,qo] sK)))))))) [a1,a2,a3,(Bo true),(Bo true)] M0
def wo (p1 p2:aj) (a0:AV) (M0:RM) (Q:ak) : Prop :=
 av (Bo false) (
 oO .u32 a0 fun t4 =>
 p1 [t4] M0 fun t5 M =>
 Q t5 M) (
 p2 [a0] M0 fun t7 M_0 =>
 Q t7 M_0)
def y7 (p1:aj) (a0 a1:AV) (M0:RM) (Q:ak) : Prop :=
 p1 [a0] M0 fun t6 M =>
 ah t6 true (fun k=>k a1 M) (fun k=>k .undef M) fun t8 M_0 =>
 ah t6 true (fun k_1=>p1 [t8] M_0 fun t9 M_2 =>
 k_1 t9 M_2) (fun k=>k .undef M_0) fun adq M_4 =>
 ah t6 true (fun k_5=>dE adq fun bW =>
 k_5 bW M_4) (fun k=>k .undef M_4) fun anW M_7 =>
 aK t6 anW (Bo false) fun bQ =>
 ah bQ false (fun k_8=>k_8 a0 M_7) (fun k=>k .undef M_7) fun t13 M_9 =>
 ah bQ false (fun l9=>l9 a1 M_9) (fun k=>k .undef M_9) fun t14 dQ =>
 ah bQ false (fun nR=>ae .lss t13 t14 fun t15 =>
 nR t15 dQ) (fun k=>k .undef dQ) fun aiw jo =>
 aK bQ (Bo true) aiw fun t16 =>
 Q t16 jo
def uk (a0:AV) (M0:RM) (Q:ak) : Prop :=
 ae .neq a0 a0 fun t5 =>
 Q t5 M0
def eZ (p1:aj) (a0 a1 a2:AV) (M0:RM) (Q:ak) : Prop :=
 ae .add a1 (N .i64 1) fun t9 =>
 aN (fun next xs M =>
 ae .lss (aa xs 0) a2 fun t12 =>
 av t12 (
 aN (fun oJ bn M_2 =>
 ae .gtr (aa bn 0) a1 fun t18 =>
 af t18 true (fun k=>k a0 M_2 none) (fun k=>k .undef M_2 none) fun t20 M_3 b =>
 af t18 true (fun k_4=>k_4 (aa bn 0) M_3 none) (fun k=>k .undef M_3 none) fun t21 M_5 b_6 =>
 af t18 true (fun k_7=>ai t20 t21 1 fun t22 =>
 k_7 t22 M_5 none) (fun k=>k .undef M_5 none) fun anX M_9 adj =>
 af t18 true (fun nU=>au M_9 anX fun t23 =>
 nU t23 M_9 none) (fun k=>k .undef M_9 none) fun aiy dN aar =>
 af t18 true (fun uH=>uH a0 dN none) (fun k=>k .undef dN none) fun t24 bX yZ =>
 af t18 true (fun nT=>nT (aa bn 0) bX none) (fun k=>k .undef bX none) fun t25 dF KA =>
 af t18 true (fun qL=>ae .sub t25 (N .i64 1) fun t26 =>
 qL t26 dF none) (fun k=>k .undef dF none) fun aiR jK KT =>
 af t18 true (fun nL=>ai t24 aiR 1 fun t27 =>
 nL t27 jK none) (fun k=>k .undef jK none) fun ajs kW akm =>
 af t18 true (fun LG=>au kW ajs fun t28 =>
 LG t28 kW none) (fun k=>k .undef kW none) fun akV qP amj =>
 ah t18 true (fun Mt=>p1 [aiy,akV] qP fun t29 dR =>
 Mt t29 dR) (fun k=>k .undef qP) fun ami jb =>
 aK t18 ami (Bo false) fun t30 =>
 av t30 (
 ae .sub (aa bn 0) (N .i64 1) fun t37 =>
 ae .sub (aa bn 0) (N .i64 1) fun t40 =>
 ai a0 t40 1 fun t41 =>
 au jb t41 fun t42 =>
 ai a0 (aa bn 0) 1 fun t45 =>
 au jb t45 fun t46 =>
 ai a0 (aa bn 0) 1 fun t47 =>
 aC jb t47 t42 1 fun dm =>
 ai a0 t37 1 fun t48 =>
 aC dm t48 t46 1 fun mP =>
 ae .sub (aa bn 0) (N .i64 1) fun t32 =>
 oJ [t32] mP) (
 ae .add (aa xs 0) (N .i64 1) fun t14 =>
 next [t14] jb)) [(aa xs 0)] M) (
 Q (.tup []) M)) [t9] M0
def ma (p1:aj) (a0 a1 a2:AV) (M0:RM) (Q:ak) : Prop :=
 ae .sub a2 a1 fun t14 =>
 ae .sub t14 (N .i64 1) fun t16 =>
 ae .quo t16 (N .i64 2) fun t17 =>
 aN (fun next xs M =>
 ae .geq (aa xs 0) (N .i64 0) fun t19 =>
 av t19 (
 p1 [a0,(aa xs 0),t14,a1] M fun t26 M_0 =>
 ae .sub (aa xs 0) (N .i64 1) fun t21 =>
 next [t21] M_0) (
 ae .sub t14 (N .i64 1) fun t28 =>
 aN (fun G6 pM M_3 =>
 ae .geq (aa pM 0) (N .i64 0) fun t30 =>
 av t30 (
 ae .add a1 (aa pM 0) fun t38 =>
 ae .add a1 (aa pM 0) fun t42 =>
 ai a0 t42 1 fun t43 =>
 au M_3 t43 fun t44 =>
 ai a0 a1 1 fun t47 =>
 au M_3 t47 fun t48 =>
 ai a0 a1 1 fun t49 =>
 aC M_3 t49 t44 1 fun M_4 =>
 ai a0 t38 1 fun t50 =>
 aC M_4 t50 t48 1 fun M_5 =>
 p1 [a0,(N .i64 0),(aa pM 0),a1] M_5 fun t55 M_6 =>
 ae .sub (aa pM 0) (N .i64 1) fun t32 =>
 G6 [t32] M_6) (
 Q (.tup []) M_3)) [t28] M)) [t17] M0
def jv (p1:Nat) (p2 p3:aj) (a0 a1 a2:AV) (M0:RM) (Q:ak) : Prop :=
 ae .sub a2 a1 fun t13 =>
 ae .geq t13 (N .i64 8) fun t15 =>
 av t15 (
 oO .u64 t13 fun t17 =>
 cz (.row [(N .u64 0)] false p1 0) (fun b=>.ptr b 0) M0 fun t7 M =>
 aC M t7 t17 1 fun M_0 =>
 p2 [t13] M_0 fun t19 M_1 =>
 ae .quo t13 (N .i64 4) fun t22 =>
 ae .mul t22 (N .i64 2) fun t23 =>
 ae .add a1 t23 fun t24 =>
 ae .sub t24 (N .i64 1) fun t25 =>
 aN (fun next xs M_2 =>
 ae .quo t13 (N .i64 4) fun t29 =>
 ae .mul t29 (N .i64 2) fun t30 =>
 ae .add a1 t30 fun t31 =>
 ae .add t31 (N .i64 1) fun t32 =>
 ae .leq (aa xs 0) t32 fun t33 =>
 av t33 (
 bV (fun J =>
 p3 [t7] M_2 fun t36 M_3 =>
 ae .sub t19 (N .u64 1) fun t38 =>
 ae .and t36 t38 fun t39 =>
 oO .i64 t39 fun t40 =>
 bV (fun J_4 =>
 ae .geq t40 t13 fun t43 =>
 av t43 (
 ae .sub t40 t13 fun t46 =>
 J_4 [t46] M_3) (
 J_4 [t40] M_3)) (fun wJ M_6 =>
 ae .add a1 (aa wJ 0) fun t52 =>
 ae .add a1 (aa wJ 0) fun t56 =>
 ai a0 t56 1 fun t57 =>
 au M_6 t57 fun t58 =>
 ai a0 (aa xs 0) 1 fun t61 =>
 au M_6 t61 fun t62 =>
 ai a0 (aa xs 0) 1 fun t63 =>
 aC M_6 t63 t58 1 fun M_7 =>
 ai a0 t52 1 fun t64 =>
 aC M_7 t64 t62 1 fun M_8 =>
 J [] M_8)) (fun alj dW =>
 ae .add (aa xs 0) (N .i64 1) fun t35 =>
 next [t35] dW)) (
 Q (.tup []) M_2)) [t25] M_1) (
 Q (.tup []) M0)
def kw (p1:Nat) (p2 p3:aj) (a0 a1 a2:AV) (M0:RM) (Q:ak) : Prop :=
 ae .sub a2 a1 fun t15 =>
 cz (.row [(N .i64 0)] false p1 0) (fun b=>.ptr b 0) M0 fun t9 M =>
 ae .quo t15 (N .i64 4) fun t18 =>
 ae .mul t18 (N .i64 1) fun t19 =>
 ae .add a1 t19 fun t20 =>
 ae .quo t15 (N .i64 4) fun t23 =>
 ae .mul t23 (N .i64 2) fun t24 =>
 ae .add a1 t24 fun t25 =>
 ae .quo t15 (N .i64 4) fun t28 =>
 ae .mul t28 (N .i64 3) fun t29 =>
 ae .add a1 t29 fun t30 =>
 bV (fun J =>
 ae .geq t15 (N .i64 8) fun t32 =>
 av t32 (
 bV (fun J_0 =>
 ae .geq t15 (N .i64 50) fun t34 =>
 av t34 (
 p2 [a0,t20,t9] M fun t37 M_1 =>
 p2 [a0,t25,t9] M_1 fun t40 M_2 =>
 p2 [a0,t30,t9] M_2 fun t43 M_3 =>
 J_0 [t37,t40,t43] M_3) (
 J_0 [t20,t25,t30] M)) (fun xs M_4 =>
 p3 [a0,(aa xs 0),(aa xs 1),(aa xs 2),t9] M_4 fun t48 M_5 =>
 J [t48] M_5)) (
 J [t25] M)) (fun Bq M_7 =>
 au M_7 t9 fun t49 =>
 ae .eql t49 (N .i64 0) fun t52 =>
 av t52 (
 Q (.tup [(aa Bq 0),(N .i64 1)]) M_7) (
 ae .eql t49 (N .i64 12) fun t55 =>
 av t55 (
 Q (.tup [(aa Bq 0),(N .i64 2)]) M_7) (
 Q (.tup [(aa Bq 0),(N .i64 0)]) M_7)))
def jU (a0 a1 a2:AV) (M0:RM) (Q:ak) : Prop :=
 ae .sub a2 (N .i64 1) fun bW =>
 aN (fun next xs M =>
 ae .lss (aa xs 0) (aa xs 1) fun t13 =>
 av t13 (
 ai a0 (aa xs 1) 1 fun t20 =>
 au M t20 fun t21 =>
 ai a0 (aa xs 0) 1 fun t24 =>
 au M t24 fun t25 =>
 ai a0 (aa xs 0) 1 fun t26 =>
 aC M t26 t21 1 fun M_0 =>
 ai a0 (aa xs 1) 1 fun t27 =>
 aC M_0 t27 t25 1 fun M_1 =>
 ae .add (aa xs 0) (N .i64 1) fun t29 =>
 ae .sub (aa xs 1) (N .i64 1) fun t31 =>
 next [t29,t31] M_1) (
 Q (.tup []) M)) [a1,bW] M0
def gQ (p1:aj) (a0 a1 a2:AV) (M0:RM) (Q:ak) : Prop :=
 ae .add a1 (N .i64 1) fun t12 =>
 aN (fun next xs M =>
 ae .lss (aa xs 1) (N .i64 5) fun t14 =>
 av t14 (
 bV (fun J =>
 aN (fun oJ bn M_2 =>
 ae .lss (aa bn 0) a2 fun t19 =>
 af t19 true (fun k=>k a0 M_2 none) (fun k=>k .undef M_2 none) fun t21 M_3 b =>
 af t19 true (fun k_4=>k_4 (aa bn 0) M_3 none) (fun k=>k .undef M_3 none) fun t22 M_5 b_6 =>
 af t19 true (fun k_7=>ai t21 t22 1 fun t23 =>
 k_7 t23 M_5 none) (fun k=>k .undef M_5 none) fun anG M_9 adj =>
 af t19 true (fun nU=>au M_9 anG fun t24 =>
 nU t24 M_9 none) (fun k=>k .undef M_9 none) fun amF dN aar =>
 af t19 true (fun uH=>uH a0 dN none) (fun k=>k .undef dN none) fun t25 bX yZ =>
 af t19 true (fun nT=>nT (aa bn 0) bX none) (fun k=>k .undef bX none) fun t26 dF KA =>
 af t19 true (fun qL=>ae .sub t26 (N .i64 1) fun t27 =>
 qL t27 dF none) (fun k=>k .undef dF none) fun akl jK KT =>
 af t19 true (fun nL=>ai t25 akl 1 fun t28 =>
 nL t28 jK none) (fun k=>k .undef jK none) fun ais kW akm =>
 af t19 true (fun LG=>au kW ais fun t29 =>
 LG t29 kW none) (fun k=>k .undef kW none) fun akQ qP amj =>
 ah t19 true (fun Mt=>p1 [amF,akQ] qP fun t30 dR =>
 Mt t30 dR) (fun k=>k .undef qP) fun ak6 jb =>
 af t19 true (fun XF=>dE ak6 fun t31 =>
 XF t31 jb none) (fun k=>k .undef jb none) fun amo jN ai9 =>
 aK t19 amo (Bo false) fun t32 =>
 av t32 (
 ae .add (aa bn 0) (N .i64 1) fun t34 =>
 oJ [t34] jN) (
 ae .eql (aa bn 0) a2 fun t37 =>
 av t37 (
 Q (Bo true) jN) (
 ae .sub a2 a1 fun t40 =>
 ae .lss t40 (N .i64 50) fun t41 =>
 av t41 (
 Q (Bo false) jN) (
 ae .sub (aa bn 0) (N .i64 1) fun t46 =>
 ae .sub (aa bn 0) (N .i64 1) fun t49 =>
 ai a0 t49 1 fun t50 =>
 au jN t50 fun t51 =>
 ai a0 (aa bn 0) 1 fun t54 =>
 au jN t54 fun t55 =>
 ai a0 (aa bn 0) 1 fun t56 =>
 aC jN t56 t51 1 fun fe =>
 ai a0 t46 1 fun t57 =>
 aC fe t57 t55 1 fun nP =>
 bV (fun ae1 =>
 ae .sub (aa bn 0) a1 fun t60 =>
 ae .geq t60 (N .i64 2) fun t61 =>
 av t61 (
 ae .sub (aa bn 0) (N .i64 1) fun t63 =>
 aN (fun agM BU fQ =>
 ae .geq (aa BU 0) (N .i64 1) fun t65 =>
 av t65 (
 ai a0 (aa BU 0) 1 fun t70 =>
 au fQ t70 fun t71 =>
 ae .sub (aa BU 0) (N .i64 1) fun t74 =>
 ai a0 t74 1 fun t75 =>
 au fQ t75 fun t76 =>
 p1 [t71,t76] fQ fun t77 qm =>
 dE t77 fun t78 =>
 av t78 (
 ae1 [] qm) (
 ae .sub (aa BU 0) (N .i64 1) fun t83 =>
 ae .sub (aa BU 0) (N .i64 1) fun t86 =>
 ai a0 t86 1 fun t87 =>
 au qm t87 fun t88 =>
 ai a0 (aa BU 0) 1 fun t91 =>
 au qm t91 fun t92 =>
 ai a0 (aa BU 0) 1 fun t93 =>
 aC qm t93 t88 1 fun iL =>
 ai a0 t83 1 fun t94 =>
 aC iL t94 t92 1 fun lF =>
 ae .sub (aa BU 0) (N .i64 1) fun t67 =>
 agM [t67] lF)) (
 ae1 [] fQ)) [t63] nP) (
 ae1 [] nP)) (fun xs_50 Il =>
 ae .sub a2 (aa bn 0) fun t97 =>
 ae .geq t97 (N .i64 2) fun t98 =>
 av t98 (
 ae .add (aa bn 0) (N .i64 1) fun jJ =>
 aN (fun ahy Cb jB =>
 ae .lss (aa Cb 0) a2 fun mH =>
 av mH (
 ai a0 (aa Cb 0) 1 fun xq =>
 au jB xq fun t109 =>
 ae .sub (aa Cb 0) (N .i64 1) fun jQ =>
 ai a0 jQ 1 fun uA =>
 au jB uA fun FM =>
 p1 [t109,FM] jB fun AY nM =>
 dE AY fun t116 =>
 av t116 (
 J [(aa bn 0)] nM) (
 ae .sub (aa Cb 0) (N .i64 1) fun ES =>
 ae .sub (aa Cb 0) (N .i64 1) fun t124 =>
 ai a0 t124 1 fun gJ =>
 au nM gJ fun KP =>
 ai a0 (aa Cb 0) 1 fun uF =>
 au nM uF fun t130 =>
 ai a0 (aa Cb 0) 1 fun t131 =>
 aC nM t131 KP 1 fun mR =>
 ai a0 ES 1 fun Ao =>
 aC mR Ao t130 1 fun fJ =>
 ae .add (aa Cb 0) (N .i64 1) fun t105 =>
 ahy [t105] fJ)) (
 J [(aa bn 0)] jB)) [jJ] Il) (
 J [(aa bn 0)] Il)))))) [(aa xs 0)] M) (fun aog xA =>
 ae .add (aa xs 1) (N .i64 1) fun t16 =>
 next [(aa aog 0),t16] xA)) (
 Q (Bo false) M)) [t12,(N .i64 0)] M0
def jf (p1:aj) (a0 a1 a2 a3:AV) (M0:RM) (Q:ak) : Prop :=
 ai a0 a3 1 fun t17 =>
 au M0 t17 fun t18 =>
 ai a0 a1 1 fun t21 =>
 au M0 t21 fun t22 =>
 ai a0 a1 1 fun t23 =>
 aC M0 t23 t18 1 fun M =>
 ai a0 a3 1 fun t24 =>
 aC M t24 t22 1 fun M_0 =>
 ae .add a1 (N .i64 1) fun t26 =>
 ae .sub a2 (N .i64 1) fun t28 =>
 aN (fun next xs M_1 =>
 aN (fun qH bA M_4 =>
 ae .leq (aa bA 0) (aa xs 1) fun t31 =>
 af t31 true (fun k=>k a0 M_4 none) (fun k=>k .undef M_4 none) fun t33 M_5 b =>
 af t31 true (fun k_6=>k_6 a1 M_5 none) (fun k=>k .undef M_5 none) fun t34 M_7 b_8 =>
 af t31 true (fun k_9=>ai t33 t34 1 fun t35 =>
 k_9 t35 M_7 none) (fun k=>k .undef M_7 none) fun aiE dQ XI =>
 af t31 true (fun AQ=>au dQ aiE fun t36 =>
 AQ t36 dQ none) (fun k=>k .undef dQ none) fun ajS kK Ux =>
 af t31 true (fun kY=>kY a0 kK none) (fun k=>k .undef kK none) fun t37 eX O1 =>
 af t31 true (fun jT=>jT (aa bA 0) eX none) (fun k=>k .undef eX none) fun t38 dV P5 =>
 af t31 true (fun nW=>ai t37 t38 1 fun t39 =>
 nW t39 dV none) (fun k=>k .undef dV none) fun ald fM LH =>
 af t31 true (fun rf=>au fM ald fun t40 =>
 rf t40 fM none) (fun k=>k .undef fM none) fun akg iJ Fu =>
 ah t31 true (fun ji=>p1 [ajS,akg] iJ fun t41 oQ =>
 ji t41 oQ) (fun k=>k .undef iJ) fun ajK dR =>
 af t31 true (fun kX=>dE ajK fun t42 =>
 kX t42 dR none) (fun k=>k .undef dR none) fun amL dm Hg =>
 aK t31 amL (Bo false) fun t43 =>
 av t43 (
 ae .add (aa bA 0) (N .i64 1) fun t45 =>
 qH [t45] dm) (
 aN (fun DY gD fe =>
 ae .leq (aa bA 0) (aa gD 0) fun t48 =>
 af t48 true (fun Bl=>Bl a0 fe none) (fun k=>k .undef fe none) fun t50 jw Zy =>
 af t48 true (fun F7=>F7 a1 jw none) (fun k=>k .undef jw none) fun t51 fQ Xl =>
 af t48 true (fun Mq=>ai t50 t51 1 fun t52 =>
 Mq t52 fQ none) (fun k=>k .undef fQ none) fun ajF jk Uj =>
 af t48 true (fun Ap=>au jk ajF fun t53 =>
 Ap t53 jk none) (fun k=>k .undef jk none) fun ak5 jB aiO =>
 af t48 true (fun Lm=>Lm a0 jB none) (fun k=>k .undef jB none) fun t54 fJ QJ =>
 af t48 true (fun xH=>xH (aa gD 0) fJ none) (fun k=>k .undef fJ none) fun t55 iT Ph =>
 af t48 true (fun uy=>ai t54 t55 1 fun t56 =>
 uy t56 iT none) (fun k=>k .undef iT none) fun ajE jP Tu =>
 af t48 true (fun Kz=>au jP ajE fun t57 =>
 Kz t57 jP none) (fun k=>k .undef jP none) fun ah9 xU akW =>
 ah t48 true (fun K9=>p1 [ak5,ah9] xU fun t58 AA =>
 K9 t58 AA) (fun k=>k .undef xU) fun alP vO =>
 aK t48 alP (Bo false) fun t59 =>
 av t59 (
 ae .sub (aa gD 0) (N .i64 1) fun t61 =>
 DY [t61] vO) (
 ae .gtr (aa bA 0) (aa gD 0) fun t64 =>
 av t64 (
 Q (aa bA 0) vO) (
 ai a0 (aa gD 0) 1 fun t71 =>
 au vO t71 fun t72 =>
 ai a0 (aa bA 0) 1 fun t75 =>
 au vO t75 fun t76 =>
 ai a0 (aa bA 0) 1 fun t77 =>
 aC vO t77 t72 1 fun uz =>
 ai a0 (aa gD 0) 1 fun t78 =>
 aC uz t78 t76 1 fun QL =>
 ae .add (aa bA 0) (N .i64 1) fun t80 =>
 ae .sub (aa gD 0) (N .i64 1) fun t82 =>
 next [t80,t82] QL))) [(aa xs 1)] dm)) [(aa xs 0)] M_1) [t26,t28] M_0
def lI (p1:aj) (a0 a1 a2 a3:AV) (M0:RM) (Q:ak) : Prop :=
 ai a0 a3 1 fun t18 =>
 au M0 t18 fun t19 =>
 ai a0 a1 1 fun t22 =>
 au M0 t22 fun t23 =>
 ai a0 a1 1 fun t24 =>
 aC M0 t24 t19 1 fun M =>
 ai a0 a3 1 fun t25 =>
 aC M t25 t23 1 fun M_0 =>
 ae .add a1 (N .i64 1) fun t27 =>
 ae .sub a2 (N .i64 1) fun t29 =>
 aN (fun next xs M_1 =>
 ae .leq (aa xs 0) t29 fun t32 =>
 af t32 true (fun k=>k a0 M_1 none) (fun k=>k .undef M_1 none) fun t34 M_2 b =>
 af t32 true (fun k_3=>k_3 (aa xs 0) M_2 none) (fun k=>k .undef M_2 none) fun t35 M_4 b_5 =>
 af t32 true (fun k_6=>ai t34 t35 1 fun t36 =>
 k_6 t36 M_4 none) (fun k=>k .undef M_4 none) fun aot M_8 b_9 =>
 af t32 true (fun l9=>au M_8 aot fun t37 =>
 l9 t37 M_8 none) (fun k=>k .undef M_8 none) fun aiq gX Ho =>
 af t32 true (fun gu=>gu a0 gX none) (fun k=>k .undef gX none) fun t38 kK Ux =>
 af t32 true (fun kY=>kY a1 kK none) (fun k=>k .undef kK none) fun t39 eX O1 =>
 af t32 true (fun jT=>ai t38 t39 1 fun t40 =>
 jT t40 eX none) (fun k=>k .undef eX none) fun al0 fF K5 =>
 af t32 true (fun qJ=>au fF al0 fun t41 =>
 qJ t41 fF none) (fun k=>k .undef fF none) fun akx iC Ef =>
 ah t32 true (fun jO=>p1 [aiq,akx] iC fun t42 iJ =>
 jO t42 iJ) (fun k=>k .undef iC) fun ajT qP =>
 aK t32 ajT (Bo false) fun t43 =>
 av t43 (
 ae .add (aa xs 0) (N .i64 1) fun t45 =>
 next [t45] qP) (
 aN (fun ah1 xY dR =>
 ae .leq (aa xs 0) (aa xY 0) fun t48 =>
 af t48 true (fun kX=>kX a0 dR none) (fun k=>k .undef dR none) fun t50 jb apR =>
 af t48 true (fun Ez=>Ez (aa xY 0) jb none) (fun k=>k .undef jb none) fun t51 jN ai9 =>
 af t48 true (fun KG=>ai t50 t51 1 fun t52 =>
 KG t52 jN none) (fun k=>k .undef jN none) fun aie jw Zy =>
 af t48 true (fun F7=>au jw aie fun t53 =>
 F7 t53 jw none) (fun k=>k .undef jw none) fun ajI qm ame =>
 af t48 true (fun FR=>FR a0 qm none) (fun k=>k .undef qm none) fun t54 jk Uj =>
 af t48 true (fun Ap=>Ap a1 jk none) (fun k=>k .undef jk none) fun t55 gU PH =>
 af t48 true (fun AP=>ai t54 t55 1 fun t56 =>
 AP t56 gU none) (fun k=>k .undef gU none) fun ajg fJ QJ =>
 af t48 true (fun xH=>au fJ ajg fun t57 =>
 xH t57 fJ none) (fun k=>k .undef fJ none) fun ai8 l5 ap7 =>
 ah t48 true (fun aeS=>p1 [ajI,ai8] l5 fun t58 jP =>
 aeS t58 jP) (fun k=>k .undef l5) fun ajv wh =>
 af t48 true (fun Um=>dE ajv fun t59 =>
 Um t59 wh none) (fun k=>k .undef wh none) fun alZ sN b_70 =>
 aK t48 alZ (Bo false) fun t60 =>
 av t60 (
 ae .sub (aa xY 0) (N .i64 1) fun t62 =>
 ah1 [t62] sN) (
 ae .gtr (aa xs 0) (aa xY 0) fun t65 =>
 av t65 (
 ai a0 a1 1 fun t72 =>
 au sN t72 fun t73 =>
 ai a0 (aa xY 0) 1 fun t76 =>
 au sN t76 fun t77 =>
 ai a0 (aa xY 0) 1 fun t78 =>
 aC sN t78 t73 1 fun AA =>
 ai a0 a1 1 fun t79 =>
 aC AA t79 t77 1 fun Bg =>
 Q (.tup [(aa xY 0),(Bo true)]) Bg) (
 ai a0 (aa xY 0) 1 fun t87 =>
 au sN t87 fun t88 =>
 ai a0 (aa xs 0) 1 fun t91 =>
 au sN t91 fun t92 =>
 ai a0 (aa xs 0) 1 fun t93 =>
 aC sN t93 t88 1 fun vO =>
 ai a0 (aa xY 0) 1 fun t94 =>
 aC vO t94 t92 1 fun uz =>
 ae .add (aa xs 0) (N .i64 1) fun t96 =>
 ae .sub (aa xY 0) (N .i64 1) fun t98 =>
 aN (fun ahV aah Vp =>
 aN (fun ah0 x9 GZ =>
 ae .leq (aa x9 0) (aa aah 1) fun qo =>
 af qo true (fun Lj=>Lj a0 GZ none) (fun k=>k .undef GZ none) fun mH Mr b_83 =>
 af qo true (fun Xr=>Xr (aa x9 0) Mr none) (fun k=>k .undef Mr none) fun Bt Cz b_86 =>
 af qo true (fun ap4=>ai mH Bt 1 fun t105 =>
 ap4 t105 Cz none) (fun k=>k .undef Cz none) fun ahO LK b_90 =>
 af qo true (fun aqh=>au LK ahO fun FQ =>
 aqh FQ LK none) (fun k=>k .undef LK none) fun agV alb b_94 =>
 af qo true (fun Mo=>Mo a0 alb none) (fun k=>k .undef alb none) fun t107 xI amq =>
 af qo true (fun Ey=>Ey a1 xI none) (fun k=>k .undef xI none) fun xq Ac Zj =>
 af qo true (fun vY=>ai t107 xq 1 fun t109 =>
 vY t109 Ac none) (fun k=>k .undef Ac none) fun aeI Jc anU =>
 af qo true (fun aa0=>au Jc aeI fun xh =>
 aa0 xh Jc none) (fun k=>k .undef Jc none) fun aft IK b_108 =>
 ah qo true (fun NW=>p1 [agV,aft] IK fun qX sH =>
 NW qX sH) (fun k=>k .undef IK) fun ad4 af4 =>
 aK qo ad4 (Bo false) fun jQ =>
 av jQ (
 ae .add (aa x9 0) (N .i64 1) fun FM =>
 ah0 [FM] af4) (
 aN (fun aeQ tC wC =>
 ae .leq (aa x9 0) (aa tC 0) fun t117 =>
 af t117 true (fun aaL=>aaL a0 wC none) (fun k=>k .undef wC none) fun t119 Oi b_118 =>
 af t117 true (fun anM=>anM (aa tC 0) Oi none) (fun k=>k .undef Oi none) fun uR rY agd =>
 af t117 true (fun OB=>ai t119 uR 1 fun ES =>
 OB ES rY none) (fun k=>k .undef rY none) fun adp uh agi =>
 af t117 true (fun Ou=>au uh adp fun uP =>
 Ou uP uh none) (fun k=>k .undef uh none) fun ad5 agC b_129 =>
 af t117 true (fun N9=>N9 a0 agC none) (fun k=>k .undef agC none) fun EX afQ b_132 =>
 af t117 true (fun aom=>aom a1 afQ none) (fun k=>k .undef afQ none) fun t124 agD b_135 =>
 af t117 true (fun anc=>ai EX t124 1 fun gJ =>
 anc gJ agD none) (fun k=>k .undef agD none) fun adD zK af0 =>
 af t117 true (fun Nh=>au zK adD fun KP =>
 Nh KP zK none) (fun k=>k .undef zK none) fun aeY afT b_143 =>
 ah t117 true (fun anh=>p1 [ad5,aeY] afT fun t127 Sr =>
 anh t127 Sr) (fun k=>k .undef afT) fun aeF af1 =>
 af t117 true (fun anC=>dE aeF fun EW =>
 anC EW af1 none) (fun k=>k .undef af1 none) fun afA EL b_151 =>
 aK t117 afA (Bo false) fun uF =>
 av uF (
 ae .sub (aa tC 0) (N .i64 1) fun t131 =>
 aeQ [t131] EL) (
 ae .gtr (aa x9 0) (aa tC 0) fun Bv =>
 av Bv (
 ai a0 a1 1 fun t159 =>
 au EL t159 fun t160 =>
 ai a0 (aa tC 0) 1 fun aps =>
 au EL aps fun t164 =>
 ai a0 (aa tC 0) 1 fun apq =>
 aC EL apq t160 1 fun xW =>
 ai a0 a1 1 fun aqm =>
 aC xW aqm t164 1 fun an7 =>
 Q (.tup [(aa tC 0),(Bo false)]) an7) (
 ai a0 (aa tC 0) 1 fun t141 =>
 au EL t141 fun Xz =>
 ai a0 (aa x9 0) 1 fun t145 =>
 au EL t145 fun t146 =>
 ai a0 (aa x9 0) 1 fun apC =>
 aC EL apC Xz 1 fun anx =>
 ai a0 (aa tC 0) 1 fun t148 =>
 aC anx t148 t146 1 fun ym =>
 ae .add (aa x9 0) (N .i64 1) fun aqH =>
 ae .sub (aa tC 0) (N .i64 1) fun t152 =>
 ahV [aqH,t152] ym))) [(aa aah 1)] af4)) [(aa aah 0)] Vp) [t96,t98] uz))) [t29] qP)) [t27] M_0
def sO (a0:AV) (M0:RM) (Q:ak) : Prop :=
 bV (fun J =>
 ae .geq a0 (N .u64 4294967296) fun t4 =>
 av t4 (
 DL .shr a0 (N .u64 32) fun t6 =>
 J [t6,(N .i64 32)] M0) (
 J [a0,(N .i64 0)] M0)) (fun xs M =>
 bV (fun J_0 =>
 ae .geq (aa xs 0) (N .u64 65536) fun t8 =>
 av t8 (
 DL .shr (aa xs 0) (N .u64 16) fun bW =>
 ae .add (aa xs 1) (N .i64 16) fun t12 =>
 J_0 [bW,t12] M) (
 J_0 [(aa xs 0),(aa xs 1)] M)) (fun bn M_2 =>
 bV (fun J_3 =>
 ae .geq (aa bn 0) (N .u64 256) fun t14 =>
 av t14 (
 DL .shr (aa bn 0) (N .u64 8) fun t16 =>
 ae .add (aa bn 1) (N .i64 8) fun t18 =>
 J_3 [t16,t18] M_2) (
 J_3 [(aa bn 0),(aa bn 1)] M_2)) (fun y5 M_5 =>
 oO .u8 (aa y5 0) fun t21 =>
 Xj (St [0,1,2,2,3,3,3,3,4,4,4,4,4,4,4,4,5,5,5,5,5,5,5,5,5,5,5,5,5,5,5,5,6,6,6,6,6,6,6,6,6,6,6,6,6,6,6,6,6,6,6,6,6,6,6,6,6,6,6,6,6,6,6,6,7,7,7,7,7,7,7,7,7,7,7,7,7,7,7,7,7,7,7,7,7,7,7,7,7,7,7,7,7,7,7,7,7,7,7,7,7,7,7,7,7,7,7,7,7,7,7,7,7,7,7,7,7,7,7,7,7,7,7,7,7,7,7,7,8,8,8,8,8,8,8,8,8,8,8,8,8,8,8,8,8,8,8,8,8,8,8,8,8,8,8,8,8,8,8,8,8,8,8,8,8,8,8,8,8,8,8,8,8,8,8,8,8,8,8,8,8,8,8,8,8,8,8,8,8,8,8,8,8,8,8,8,8,8,8,8,8,8,8,8,8,8,8,8,8,8,8,8,8,8,8,8,8,8,8,8,8,8,8,8,8,8,8,8,8,8,8,8,8,8,8,8,8,8,8,8,8,8,8,8,8,8,8,8,8,8,8,8,8,8,8,8]) t21 fun t22 =>
 oO .i64 t22 fun t23 =>
 ae .add (aa y5 1) t23 fun t24 =>
 Q t24 M_5)))
def rH (a0:AV) (M0:RM) (Q:ak) : Prop :=
 ae .neq a0 a0 fun t5 =>
 Q t5 M0
def l8 (p1:aj) (a0 a1 a2 a3:AV) (M0:RM) (Q:ak) : Prop :=
 aN (fun next xs M =>
 ae .mul (N .i64 2) (aa xs 0) fun t12 =>
 ae .add t12 (N .i64 1) fun t13 =>
 ae .geq t13 a2 fun t16 =>
 av t16 (
 Q (.tup []) M) (
 bV (fun J =>
 ae .add t13 (N .i64 1) fun t18 =>
 ae .lss t18 a2 fun t20 =>
 af t20 true (fun k=>k a0 M none) (fun k=>k .undef M none) fun t22 M_0 b =>
 af t20 true (fun k_1=>k_1 a3 M_0 none) (fun k=>k .undef M_0 none) fun t23 M_2 b_3 =>
 af t20 true (fun k_4=>k_4 t13 M_2 none) (fun k=>k .undef M_2 none) fun t24 M_5 b_6 =>
 af t20 true (fun k_7=>ae .add t23 t24 fun t25 =>
 k_7 t25 M_5 none) (fun k=>k .undef M_5 none) fun anl M_9 adj =>
 af t20 true (fun nU=>ai t22 anl 1 fun t26 =>
 nU t26 M_9 none) (fun k=>k .undef M_9 none) fun ak7 dN aar =>
 af t20 true (fun uH=>au dN ak7 fun t27 =>
 uH t27 dN none) (fun k=>k .undef dN none) fun akd mQ aib =>
 af t20 true (fun xk=>xk a0 mQ none) (fun k=>k .undef mQ none) fun t28 pU Z5 =>
 af t20 true (fun nN=>nN a3 pU none) (fun k=>k .undef pU none) fun t29 jK KT =>
 af t20 true (fun nL=>nL t13 jK none) (fun k=>k .undef jK none) fun t30 iC Ef =>
 af t20 true (fun jO=>ae .add t29 t30 fun t31 =>
 jO t31 iC none) (fun k=>k .undef iC none) fun HY fK OV =>
 af t20 true (fun uI=>ae .add HY (N .i64 1) fun t32 =>
 uI t32 fK none) (fun k=>k .undef fK none) fun G9 dR Pp =>
 af t20 true (fun xe=>ai t28 G9 1 fun t33 =>
 xe t33 dR none) (fun k=>k .undef dR none) fun alE mP adi =>
 af t20 true (fun uG=>au mP alE fun t34 =>
 uG t34 mP none) (fun k=>k .undef mP none) fun Ik nP aaP =>
 ah t20 true (fun F8=>p1 [akd,Ik] nP fun t35 jy =>
 F8 t35 jy) (fun k=>k .undef nP) fun aiP qm =>
 aK t20 aiP (Bo false) fun t36 =>
 av t36 (
 ae .add t13 (N .i64 1) fun t38 =>
 J [t38] qm) (
 J [t13] qm)) (fun Si lF =>
 ae .add a3 (aa xs 0) fun t42 =>
 ai a0 t42 1 fun t43 =>
 au lF t43 fun t44 =>
 ae .add a3 (aa Si 0) fun t48 =>
 ai a0 t48 1 fun t49 =>
 au lF t49 fun t50 =>
 p1 [t44,t50] lF fun t51 jk =>
 dE t51 fun t52 =>
 av t52 (
 Q (.tup []) jk) (
 ae .add a3 (aa xs 0) fun t56 =>
 ae .add a3 (aa Si 0) fun t60 =>
 ae .add a3 (aa Si 0) fun t64 =>
 ai a0 t64 1 fun t65 =>
 au jk t65 fun t66 =>
 ae .add a3 (aa xs 0) fun t70 =>
 ai a0 t70 1 fun t71 =>
 au jk t71 fun t72 =>
 ai a0 t56 1 fun t73 =>
 aC jk t73 t66 1 fun Il =>
 ai a0 t60 1 fun t74 =>
 aC Il t74 t72 1 fun wm =>
 next [(aa Si 0)] wm)))) [a1] M0
def uB (p1:aj) (a0:AV) (M0:RM) (Q:ak) : Prop :=
 oO .u64 a0 fun t4 =>
 p1 [t4] M0 fun t5 M =>
 DL .shl (N .u64 1) t5 fun t6 =>
 Q t6 M
def nC (a0:AV) (M0:RM) (Q:ak) : Prop :=
 cB a0 fun t4 =>
 au M0 t4 fun t5 =>
 cB a0 fun t7 =>
 au M0 t7 fun t8 =>
 DL .shl t8 (N .u64 13) fun t9 =>
 ae .xor t5 t9 fun bW =>
 cB a0 fun bQ =>
 aC M0 bQ bW 1 fun M =>
 cB a0 fun t13 =>
 au M t13 fun t14 =>
 cB a0 fun t16 =>
 au M t16 fun t17 =>
 DL .shr t17 (N .u64 7) fun t18 =>
 ae .xor t14 t18 fun t19 =>
 cB a0 fun t20 =>
 aC M t20 t19 1 fun M_0 =>
 cB a0 fun t22 =>
 au M_0 t22 fun t23 =>
 cB a0 fun t25 =>
 au M_0 t25 fun t26 =>
 DL .shl t26 (N .u64 17) fun t27 =>
 ae .xor t23 t27 fun t28 =>
 cB a0 fun t29 =>
 aC M_0 t29 t28 1 fun M_1 =>
 cB a0 fun t31 =>
 au M_1 t31 fun t32 =>
 Q t32 M_1
def jm (p1:aj) (a0 a1 a2:AV) (M0:RM) (Q:ak) : Prop :=
 ae .sub a1 (N .i64 1) fun t9 =>
 ae .add a1 (N .i64 1) fun t12 =>
 p1 [a0,t9,a1,t12,a2] M0 fun t14 M =>
 Q t14 M
def nS (p1:aj) (a0 a1 a2 a3 a4:AV) (M0:RM) (Q:ak) : Prop :=
 p1 [a0,a1,a2,a4] M0 fun t16 M =>
 eB t16 0 fun t17 =>
 eB t16 1 fun t18 =>
 p1 [a0,t18,a3,a4] M fun t24 M_0 =>
 eB t24 0 fun t25 =>
 eB t24 1 fun t26 =>
 p1 [a0,t17,t25,a4] M_0 fun t32 M_1 =>
 eB t32 0 fun t33 =>
 eB t32 1 fun t34 =>
 Q t34 M_1
def nV (p1:aj) (a0 a1 a2 a3:AV) (M0:RM) (Q:ak) : Prop :=
 ai a0 a2 1 fun t12 =>
 au M0 t12 fun t13 =>
 ai a0 a1 1 fun t16 =>
 au M0 t16 fun t17 =>
 p1 [t13,t17] M0 fun t18 M =>
 av t18 (
 cB a3 fun t20 =>
 au M t20 fun t21 =>
 ae .add t21 (N .i64 1) fun t22 =>
 cB a3 fun t23 =>
 aC M t23 t22 1 fun M_0 =>
 Q (.tup [a2,a1]) M_0) (
 Q (.tup [a1,a2]) M)
end Go.Ab.aD
namespace Go.Ab.Crw
open Go Go.Ab
def ZK (p1:aj) (p2:Nat) (M0:RM) (Q:ak) : Prop :=
 p1 [] M0 fun t1 M =>
 tO [(.sc (.pointer none)),(.sc (.slice none 0 0))] [(0,1,t1)] fun t2 =>
 jr p2 t2 fun r f =>
 cz r f M fun t3 M_0 =>
 Q t3 M_0
def ze (p1:Nat) (p2 p3:aj) (p4:Nat) (p5 p6:aj) (p7:Nat) (p8 p9:aj) (p10 p11:Nat) (p12 p13 p14:aj) (a0 a1:AV) (M0:RM) (Q:ak) : Prop :=
 jr p1 a1 fun r f =>
 cz r f M0 fun t3 M =>
 aA M t3 7 fun t12 =>
 p2 [t12] M fun t13 M_0 =>
 dE t13 fun t14 =>
 av t14 (
 Q (.tup [(Bo false),(N .i64 1)]) M_0) (
 cB a0 fun t16 =>
 aJ t16 0 fun t17 =>
 au M_0 t17 fun t18 =>
 p3 [t18] M_0 fun t19 M_1 =>
 aJ t3 0 fun t20 =>
 aA M_1 t20 2 fun t21 =>
 fV p4 1 [(N .i64 0),(N .u64 0)] [(0,2,t21)] fun r_2 f_3 =>
 cz r_2 f_3 M_1 fun t22 M_4 =>
 aJ t3 6 fun t23 =>
 au M_4 t23 fun t24 =>
 appW p4 2 16 [(N .i64 0),(N .u64 0)] false t22 t24 M_4 fun t25 M_5 =>
 bL t25 fun t26 =>
 aN (fun next xs M_6 =>
 ae .lss (aa xs 0) t26 fun t28 =>
 av t28 (
 ai t25 (aa xs 0) 2 fun t29 =>
 aA M_6 t29 2 fun t30 =>
 cz (.row [(N .i64 0),(N .u64 0)] false p4 0) (fun b=>.ptr b 0) M_6 fun t8 M_7 =>
 aC M_7 t8 t30 2 fun M_8 =>
 aA M_8 t8 2 fun t32 =>
 p5 [t19,t32] M_8 fun t33 M_9 =>
 ae .neq t33 (N .i64 0) fun t35 =>
 av t35 (
 Q (.tup [(Bo false),t33]) M_9) (
 ae .add (aa xs 0) (N .i64 1) fun t37 =>
 next [t37] M_9)) (
 cB a0 fun t39 =>
 aJ t39 1 fun t40 =>
 au M_6 t40 fun t41 =>
 bV (fun J =>
 aJ t3 2 fun t42 =>
 au M_6 t42 fun t43 =>
 ae .eql t43 (N .i64 1) fun t44 =>
 af t44 true (fun k=>k a0 M_6 none) (fun k=>k .undef M_6 none) fun t46 dW b =>
 af t44 true (fun nU=>cB t46 fun t47 =>
 nU t47 dW none) (fun k=>k .undef dW none) fun aiX dN aar =>
 af t44 true (fun uH=>aJ aiX 0 fun t48 =>
 uH t48 dN none) (fun k=>k .undef dN none) fun alm mQ aib =>
 af t44 true (fun xk=>au mQ alm fun t49 =>
 xk t49 mQ none) (fun k=>k .undef mQ none) fun ak0 dV P5 =>
 af t44 true (fun nW=>aJ t3 0 fun t50 =>
 nW t50 dV none) (fun k=>k .undef dV none) fun amN fM LH =>
 af t44 true (fun rf=>aA fM amN 2 fun t51 =>
 rf t51 fM none) (fun k=>k .undef fM none) fun alo iJ Fu =>
 ah t44 true (fun ji=>p6 [ak0,alo] iJ fun t52 oQ =>
 ji t52 oQ) (fun k=>k .undef iJ) fun akz dR =>
 af t44 true (fun kX=>dE akz fun t53 =>
 kX t53 dR none) (fun k=>k .undef dR none) fun aip dm Hg =>
 aK t44 aip (Bo false) fun t54 =>
 av t54 (
 aJ t3 0 fun t57 =>
 aA dm t57 2 fun t58 =>
 aJ t3 3 fun t59 =>
 au dm t59 fun t60 =>
 aJ t3 4 fun t61 =>
 au dm t61 fun t62 =>
 aJ t3 5 fun t63 =>
 au dm t63 fun t64 =>
 tO [(N .i64 0),(N .u64 0),(St []),(St []),(St [])] [(0,2,t58),(2,1,t60),(3,1,t62),(4,1,t64)] fun t65 =>
 fV p7 1 [(N .i64 0),(N .u64 0),(St []),(St []),(St [])] [(0,5,t65)] fun ap9 apy =>
 Bj ap9 apy dm fun t66 fe Di =>
 p8 [t41] fe fun t56 jw =>
 aA jw t57 2 fun aji =>
 (aji=t58∧au jw t59 fun ail =>
 (ail=t60∧au jw t61 fun ajZ =>
 (ajZ=t62∧au jw t63 fun ajp =>
 (ajp=t64∧fV p7 1 [(N .i64 0),(N .u64 0),(St []),(St []),(St [])] [(0,5,t65)] fun apm aqO =>
 (IP Di jw apm aqO t66∧appW p7 5 64 [(N .i64 0),(N .u64 0),(St []),(St []),(St [])] false t56 t66 jw fun t67 mG =>
 p9 [t67,(.fn (.func p10) [] [])] mG fun t69 jy =>
 J [t67] jy)))))) (
 J [t41] dm)) (fun lJ gU =>
 p8 [(aa lJ 0)] gU fun t71 jB =>
 p12 [t71,(.fn (.func p11) [] [t3])] jB fun t73 nM =>
 cB a0 fun t76 =>
 aJ t76 0 fun t77 =>
 au nM t77 fun t78 =>
 p13 [t19,t78] nM fun t79 mR =>
 dE t79 fun t80 =>
 ah t80 false (fun afh=>afh t73 mR) (fun k=>k .undef mR) fun t82 pO =>
 ah t80 false (fun xH=>xH a0 pO) (fun k=>k .undef pO) fun t83 iT =>
 ah t80 false (fun adV=>cB t83 fun t84 =>
 adV t84 iT) (fun k=>k .undef iT) fun al2 uq =>
 ah t80 false (fun afl=>aJ al2 1 fun t85 =>
 afl t85 uq) (fun k=>k .undef uq) fun akf wh =>
 ah t80 false (fun Um=>au wh akf fun t86 =>
 Um t86 wh) (fun k=>k .undef wh) fun aj2 sN =>
 ah t80 false (fun K9=>p14 [t82,aj2] sN fun t87 AA =>
 K9 t87 AA) (fun k=>k .undef sN) fun ams vO =>
 ah t80 false (fun LQ=>dE ams fun t88 =>
 LQ t88 vO) (fun k=>k .undef vO) fun amE xn =>
 aK t80 (Bo true) amE fun t89 =>
 cB a0 fun t94 =>
 aJ t94 0 fun t95 =>
 aC xn t95 t19 1 fun Vp =>
 cB a0 fun t96 =>
 aJ t96 1 fun t97 =>
 aC Vp t97 t73 1 fun Ej =>
 Q (.tup [t89,(N .i64 0)]) Ej))) [(N .i64 0)] M_5)
def Ue (p1:Nat) (p2 p3:aj) (p4:Nat) (p5:aj) (a0:AV) (M0:RM) (Q:ak) : Prop :=
 jr p1 a0 fun r f =>
 cz r f M0 fun t1 M =>
 aJ t1 0 fun t5 =>
 aA M t5 2 fun t6 =>
 p2 [t6] M fun t7 M_0 =>
 dE t7 fun t8 =>
 ah t8 false (fun k=>aJ t1 3 fun bW =>
 k bW M_0) (fun k=>k .undef M_0) fun aou M_2 =>
 ah t8 false (fun k_3=>au M_2 aou fun bQ =>
 k_3 bQ M_2) (fun k=>k .undef M_2) fun am7 M_5 =>
 ah t8 false (fun k_6=>aJ t1 4 fun t12 =>
 k_6 t12 M_5) (fun k=>k .undef M_5) fun anD M_8 =>
 ah t8 false (fun k_9=>au M_8 anD fun t13 =>
 k_9 t13 M_8) (fun k=>k .undef M_8) fun alp dQ =>
 ah t8 false (fun nR=>aJ t1 5 fun t14 =>
 nR t14 dQ) (fun k=>k .undef dQ) fun alY jo =>
 ah t8 false (fun uH=>au jo alY fun t15 =>
 uH t15 jo) (fun k=>k .undef jo) fun ajA mQ =>
 ah t8 false (fun nT=>p3 [am7,alp,ajA] mQ fun t16 dF =>
 nT t16 dF) (fun k=>k .undef mQ) fun aju dV =>
 ah t8 false (fun nN=>dE aju fun t17 =>
 nN t17 dV) (fun k=>k .undef dV) fun al5 mK =>
 aK t8 (Bo true) al5 fun t18 =>
 ah t18 false (fun nL=>aJ t1 6 fun t20 =>
 nL t20 mK) (fun k=>k .undef mK) fun alK kW =>
 ah t18 false (fun jO=>au kW alK fun t21 =>
 jO t21 kW) (fun k=>k .undef kW) fun ai2 fK =>
 ah t18 false (fun ji=>bL ai2 fun t22 =>
 ji t22 fK) (fun k=>k .undef fK) fun amd gq =>
 ah t18 false (fun Av=>ae .gtr amd (N .i64 64) fun t23 =>
 Av t23 gq) (fun k=>k .undef gq) fun akX jb =>
 aK t18 (Bo true) akX fun t24 =>
 av t24 (
 Q (Bo false) jb) (
 aJ t1 6 fun t25 =>
 au jb t25 fun t26 =>
 bL t26 fun t27 =>
 aN (fun next xs dm =>
 ae .lss (aa xs 0) t27 fun t29 =>
 av t29 (
 ai t26 (aa xs 0) 2 fun t31 =>
 aA dm t31 2 fun t32 =>
 cz (.row [(N .i64 0),(N .u64 0)] false p4 0) (fun b=>.ptr b 0) dm fun t4 mP =>
 aC mP t4 t32 2 fun jN =>
 aA jN t4 2 fun t33 =>
 p2 [t33] jN fun t34 yT =>
 dE t34 fun t35 =>
 af t35 false (fun KG=>aA yT t4 2 fun t37 =>
 KG t37 yT none) (fun k=>k .undef yT none) fun alQ jw b =>
 af t35 false (fun F8=>aJ t1 0 fun t38 =>
 F8 t38 jw none) (fun k=>k .undef jw none) fun amc fQ Xl =>
 af t35 false (fun Mq=>aA fQ amc 2 fun t39 =>
 Mq t39 fQ none) (fun k=>k .undef fQ none) fun alT jk Uj =>
 af t35 false (fun Ap=>qc false [1,1] alQ alT fun t40 =>
 Ap t40 jk none) (fun k=>k .undef jk none) fun akL jB aiO =>
 aK t35 (Bo true) akL fun t41 =>
 af t41 false (fun Lm=>Lm (aa xs 0) jB none) (fun k=>k .undef jB none) fun t43 fJ QJ =>
 af t41 false (fun xH=>ae .gtr t43 (N .i64 0) fun t44 =>
 xH t44 fJ none) (fun k=>k .undef fJ none) fun aif l5 ap7 =>
 af t41 false (fun aeS=>aeS aif l5 none) (fun k=>k .undef l5 none) fun t45 jP Tu =>
 af t45 true (fun Kz=>aJ t1 6 fun t46 =>
 Kz t46 jP none) (fun k=>k .undef jP none) fun ai5 xU akW =>
 af t45 true (fun K9=>au xU ai5 fun t47 =>
 K9 t47 xU none) (fun k=>k .undef xU none) fun ajB Bg apF =>
 af t45 true (fun LQ=>LQ (aa xs 0) Bg none) (fun k=>k .undef Bg none) fun t48 QL apI =>
 af t45 true (fun Lr=>ae .sub t48 (N .i64 1) fun t49 =>
 Lr t49 QL none) (fun k=>k .undef QL none) fun alX AU alz =>
 af t45 true (fun Lj=>ai ajB alX 2 fun t50 =>
 Lj t50 AU none) (fun k=>k .undef AU none) fun amO lm aic =>
 af t45 true (fun apQ=>aA lm amO 2 fun t51 =>
 apQ t51 lm none) (fun k=>k .undef lm none) fun amh Ml b_88 =>
 af t45 true (fun adU=>aA Ml t4 2 fun t52 =>
 adU t52 Ml none) (fun k=>k .undef Ml none) fun ajd FP b_92 =>
 ah t45 true (fun aqt=>p5 [amh,ajd] FP fun t53 wR =>
 aqt t53 wR) (fun k=>k .undef FP) fun alF xI =>
 af t45 true (fun apg=>dE alF fun t54 =>
 apg t54 xI none) (fun k=>k .undef xI none) fun ajo Ac Zj =>
 af t41 false (fun vY=>aK t45 ajo (Bo false) fun t55 =>
 vY t55 Ac none) (fun k=>k .undef Ac none) fun ahX Jc anU =>
 aK t41 (Bo true) ahX fun t56 =>
 av t56 (
 Q (Bo false) Jc) (
 ae .add (aa xs 0) (N .i64 1) fun t57 =>
 next [t57] Jc)) (
 aJ t1 2 fun t58 =>
 au dm t58 fun t59 =>
 ae .eql t59 (N .i64 1) fun t60 =>
 ah t60 true (fun aa0=>aJ t1 4 fun t62 =>
 aa0 t62 dm) (fun k=>k .undef dm) fun ahQ IK =>
 ah t60 true (fun Ns=>au IK ahQ fun t63 =>
 Ns t63 IK) (fun k=>k .undef IK) fun ahD sH =>
 ah t60 true (fun aas=>jC .neq ahD (St []) fun t64 =>
 aas t64 sH) (fun k=>k .undef sH) fun ahu vS =>
 aK t60 ahu (Bo false) fun t65 =>
 ah t65 false (fun Zt=>aJ t1 2 fun t67 =>
 Zt t67 vS) (fun k=>k .undef vS) fun ahf uj =>
 ah t65 false (fun abH=>au uj ahf fun t68 =>
 abH t68 uj) (fun k=>k .undef uj) fun ahe IL =>
 ah t65 false (fun abL=>ae .eql ahe (N .i64 2) fun t69 =>
 abL t69 IL) (fun k=>k .undef IL) fun ahi NF =>
 ah t65 false (fun aox=>aox ahi NF) (fun k=>k .undef NF) fun t70 uh =>
 ah t70 true (fun aoh=>aJ t1 5 fun t71 =>
 aoh t71 uh) (fun k=>k .undef uh) fun ahT EB =>
 ah t70 true (fun am6=>au EB ahT fun t72 =>
 am6 t72 EB) (fun k=>k .undef EB) fun ahI agh =>
 ah t70 true (fun aa3=>jC .eql ahI (St []) fun t73 =>
 aa3 t73 agh) (fun k=>k .undef agh) fun ahP MF =>
 ah t65 false (fun aor=>aK t70 ahP (Bo false) fun t74 =>
 aor t74 MF) (fun k=>k .undef MF) fun ag8 Fj =>
 aK t65 (Bo true) ag8 fun t75 =>
 Q t75 Fj)) [(N .i64 0)] jb)
def wu (p1:aj) (a0:AV) (M0:RM) (Q:ak) : Prop :=
 cB a0 fun t4 =>
 aJ t4 1 fun t5 =>
 au M0 t5 fun t6 =>
 p1 [t6] M0 fun t7 M =>
 Q t7 M
def agz (p1:Nat) (p2:aj) (a0:AV) (M0:RM) (Q:ak) : Prop :=
 aaD p1 96 [(N .i64 0),(N .u64 0),(N .i64 0),(St []),(St []),(St []),(.sc (.slice none 0 0))] (N .i64 0) (N .i64 0) fun r f =>
 cz r f M0 fun t7 M =>
 aN (fun next xs M_0 =>
 bL a0 fun bW =>
 ae .lss (aa xs 1) bW fun bQ =>
 av bQ (
 bV (fun J =>
 ai a0 (aa xs 1) 7 fun t16 =>
 aA M_0 t16 7 fun t17 =>
 p2 [t17] M_0 fun t18 M_1 =>
 dE t18 fun t19 =>
 aN (fun qH bA M_4 =>
 bL (aa xs 0) fun t22 =>
 ae .lss (aa bA 1) t22 fun t23 =>
 av t23 (
 af (aa bA 0) false (fun k=>k (aa xs 0) M_4 none) (fun k=>k .undef M_4 none) fun t28 M_5 b =>
 af (aa bA 0) false (fun k_6=>k_6 (aa bA 1) M_5 none) (fun k=>k .undef M_5 none) fun t29 M_7 b_8 =>
 af (aa bA 0) false (fun k_9=>ai t28 t29 7 fun t30 =>
 k_9 t30 M_7 none) (fun k=>k .undef M_7 none) fun UC dQ XI =>
 af (aa bA 0) false (fun AQ=>aJ UC 0 fun t31 =>
 AQ t31 dQ none) (fun k=>k .undef dQ none) fun XG kK Ux =>
 af (aa bA 0) false (fun kY=>aA kK XG 2 fun t32 =>
 kY t32 kK none) (fun k=>k .undef kK none) fun Wi dF KA =>
 af (aa bA 0) false (fun qL=>qL a0 dF none) (fun k=>k .undef dF none) fun t33 fF K5 =>
 af (aa bA 0) false (fun qJ=>qJ (aa xs 1) fF none) (fun k=>k .undef fF none) fun t34 fM LH =>
 af (aa bA 0) false (fun rf=>ai t33 t34 7 fun t35 =>
 rf t35 fM none) (fun k=>k .undef fM none) fun Wq iJ Fu =>
 af (aa bA 0) false (fun ji=>aJ Wq 0 fun t36 =>
 ji t36 iJ none) (fun k=>k .undef iJ none) fun U1 gq WG =>
 af (aa bA 0) false (fun kX=>aA gq U1 2 fun t37 =>
 kX t37 gq none) (fun k=>k .undef gq none) fun WB dm Hg =>
 af (aa bA 0) false (fun wY=>qc false [1,1] Wi WB fun t38 =>
 wY t38 dm none) (fun k=>k .undef dm none) fun Tq fe Di =>
 aK (aa bA 0) (Bo true) Tq fun t39 =>
 ae .add (aa bA 1) (N .i64 1) fun t25 =>
 qH [t39,t25] fe) (
 dE (aa bA 0) fun t41 =>
 av t41 (
 ai a0 (aa xs 1) 7 fun t45 =>
 aA M_4 t45 7 fun t46 =>
 fV p1 1 [(N .i64 0),(N .u64 0),(N .i64 0),(St []),(St []),(St []),(.sc (.slice none 0 0))] [(0,7,t46)] fun aep aeL =>
 cz aep aeL M_4 fun t47 jy =>
 appW p1 7 96 [(N .i64 0),(N .u64 0),(N .i64 0),(St []),(St []),(St []),(.sc (.slice none 0 0))] false (aa xs 0) t47 jy fun t48 fQ =>
 J [t48] fQ) (
 J [(aa xs 0)] M_4))) [t19,(N .i64 0)] M_1) (fun lQ iL =>
 ae .add (aa xs 1) (N .i64 1) fun t13 =>
 next [(aa lQ 0),t13] iL)) (
 Q (aa xs 0) M_0)) [t7,(N .i64 0)] M
def Cr (p1:Nat) (p2 p3:aj) (a0:AV) (M0:RM) (Q:ak) : Prop :=
 jr p1 a0 fun r f =>
 cz r f M0 fun t1 M =>
 aJ t1 0 fun t4 =>
 aA M t4 2 fun t5 =>
 p2 [t5] M fun t6 M_0 =>
 dE t6 fun t7 =>
 ah t7 false (fun k=>aJ t1 2 fun t9 =>
 k t9 M_0) (fun k=>k .undef M_0) fun apl M_2 =>
 ah t7 false (fun k_3=>au M_2 apl fun bW =>
 k_3 bW M_2) (fun k=>k .undef M_2) fun aow M_5 =>
 ah t7 false (fun k_6=>ae .neq aow (N .i64 1) fun bQ =>
 k_6 bQ M_5) (fun k=>k .undef M_5) fun anV M_8 =>
 ah t7 false (fun k_9=>k_9 anV M_8) (fun k=>k .undef M_8) fun t12 dW =>
 ah t12 true (fun nU=>aJ t1 2 fun t13 =>
 nU t13 dW) (fun k=>k .undef dW) fun Iq dN =>
 ah t12 true (fun gu=>au dN Iq fun t14 =>
 gu t14 dN) (fun k=>k .undef dN) fun GY bX =>
 ah t12 true (fun kY=>ae .neq GY (N .i64 2) fun t15 =>
 kY t15 bX) (fun k=>k .undef bX) fun ajx dF =>
 ah t7 false (fun jT=>aK t12 ajx (Bo false) fun t16 =>
 jT t16 dF) (fun k=>k .undef dF) fun ak1 fF =>
 aK t7 (Bo true) ak1 fun t17 =>
 ah t17 false (fun nW=>aJ t1 3 fun t19 =>
 nW t19 fF) (fun k=>k .undef fF) fun He fM =>
 ah t17 false (fun Az=>au fM He fun t20 =>
 Az t20 fM) (fun k=>k .undef fM) fun ajk ql =>
 ah t17 false (fun LG=>rA ajk fun t21 =>
 LG t21 ql) (fun k=>k .undef ql) fun amJ qP =>
 ah t17 false (fun uI=>ae .lss amJ (N .i64 1) fun t22 =>
 uI t22 qP) (fun k=>k .undef qP) fun akp dR =>
 aK t17 (Bo true) akp fun t23 =>
 ah t23 false (fun kX=>aJ t1 3 fun t25 =>
 kX t25 dR) (fun k=>k .undef dR) fun aiK dm =>
 ah t23 false (fun Ez=>au dm aiK fun t26 =>
 Ez t26 dm) (fun k=>k .undef dm) fun amg yT =>
 ah t23 false (fun KG=>rA amg fun t27 =>
 KG t27 yT) (fun k=>k .undef yT) fun ajQ jw =>
 ah t23 false (fun F8=>ae .gtr ajQ (N .i64 64) fun t28 =>
 F8 t28 jw) (fun k=>k .undef jw) fun aiZ fQ =>
 aK t23 (Bo true) aiZ fun t29 =>
 ah t29 false (fun J7=>aJ t1 4 fun t31 =>
 J7 t31 fQ) (fun k=>k .undef fQ) fun ak2 lF =>
 ah t29 false (fun TV=>au lF ak2 fun t32 =>
 TV t32 lF) (fun k=>k .undef lF) fun amG wm =>
 ah t29 false (fun aeN=>rA amG fun t33 =>
 aeN t33 wm) (fun k=>k .undef wm) fun ait nM =>
 ah t29 false (fun Lm=>ae .gtr ait (N .i64 64) fun t34 =>
 Lm t34 nM) (fun k=>k .undef nM) fun ajj pO =>
 aK t29 (Bo true) ajj fun t35 =>
 ah t35 false (fun xH=>aJ t1 5 fun t37 =>
 xH t37 pO) (fun k=>k .undef pO) fun alc l5 =>
 ah t35 false (fun uy=>au l5 alc fun t38 =>
 uy t38 l5) (fun k=>k .undef l5) fun ajN jP =>
 ah t35 false (fun Lb=>rA ajN fun t39 =>
 Lb t39 jP) (fun k=>k .undef jP) fun alg kZ =>
 ah t35 false (fun aqL=>ae .gtr alg (N .i64 512) fun t40 =>
 aqL t40 kZ) (fun k=>k .undef kZ) fun aj5 Cs =>
 aK t35 (Bo true) aj5 fun t41 =>
 ah t41 false (fun apu=>aJ t1 6 fun t43 =>
 apu t43 Cs) (fun k=>k .undef Cs) fun ajD vO =>
 ah t41 false (fun LQ=>au vO ajD fun t44 =>
 LQ t44 vO) (fun k=>k .undef vO) fun aiJ xn =>
 ah t41 false (fun Lr=>bL aiJ fun t45 =>
 Lr t45 xn) (fun k=>k .undef xn) fun amw AU =>
 ah t41 false (fun Wj=>ae .gtr amw (N .i64 64) fun t46 =>
 Wj t46 AU) (fun k=>k .undef AU) fun amy Mr =>
 aK t41 (Bo true) amy fun t47 =>
 av t47 (
 Q (Bo false) Mr) (
 aJ t1 2 fun t48 =>
 au Mr t48 fun t49 =>
 ae .eql t49 (N .i64 1) fun t50 =>
 ah t50 true (fun apa=>aJ t1 4 fun t52 =>
 apa t52 Mr) (fun k=>k .undef Mr) fun ajq Cz =>
 ah t50 true (fun aeW=>au Cz ajq fun t53 =>
 aeW t53 Cz) (fun k=>k .undef Cz) fun ajf xD =>
 ah t50 true (fun adU=>jC .eql ajf (St []) fun t54 =>
 adU t54 xD) (fun k=>k .undef xD) fun akv FP =>
 aK t50 akv (Bo false) fun t55 =>
 ah t55 false (fun aqe=>aJ t1 2 fun t57 =>
 aqe t57 FP) (fun k=>k .undef FP) fun aiG wR =>
 ah t55 false (fun Mo=>au wR aiG fun t58 =>
 Mo t58 wR) (fun k=>k .undef wR) fun aly We =>
 ah t55 false (fun Ey=>ae .eql aly (N .i64 2) fun t59 =>
 Ey t59 We) (fun k=>k .undef We) fun aki NH =>
 ah t55 false (fun vY=>vY aki NH) (fun k=>k .undef NH) fun t60 wD =>
 ah t60 true (fun abl=>aJ t1 5 fun t61 =>
 abl t61 wD) (fun k=>k .undef wD) fun ahj I5 =>
 ah t60 true (fun aaH=>au I5 ahj fun t62 =>
 aaH t62 I5) (fun k=>k .undef I5) fun ahm Ol =>
 ah t60 true (fun NW=>jC .neq ahm (St []) fun t63 =>
 NW t63 Ol) (fun k=>k .undef Ol) fun ag7 agu =>
 ah t55 false (fun Ot=>aK t60 ag7 (Bo false) fun t64 =>
 Ot t64 agu) (fun k=>k .undef agu) fun ah7 af8 =>
 aK t55 (Bo true) ah7 fun t65 =>
 av t65 (
 Q (Bo false) af8) (
 aN (fun next xs wC =>
 aJ t1 6 fun t67 =>
 au wC t67 fun t68 =>
 bL t68 fun t69 =>
 ae .lss (aa xs 0) t69 fun t70 =>
 av t70 (
 aJ t1 6 fun t73 =>
 au wC t73 fun t74 =>
 ai t74 (aa xs 0) 2 fun t76 =>
 aA wC t76 2 fun t77 =>
 p2 [t77] wC fun t78 uj =>
 dE t78 fun t79 =>
 af t79 false (fun abH=>aJ t1 6 fun t81 =>
 abH t81 uj none) (fun k=>k .undef uj none) fun ahF IL b =>
 af t79 false (fun abL=>au IL ahF fun t82 =>
 abL t82 IL none) (fun k=>k .undef IL none) fun ahS NF b_123 =>
 af t79 false (fun anr=>anr (aa xs 0) NF none) (fun k=>k .undef NF none) fun t83 af6 b_126 =>
 af t79 false (fun anL=>ai ahS t83 2 fun t84 =>
 anL t84 af6 none) (fun k=>k .undef af6 none) fun ahG zM b_130 =>
 af t79 false (fun aa3=>aA zM ahG 2 fun t85 =>
 aa3 t85 zM none) (fun k=>k .undef zM none) fun agO MF b_134 =>
 af t79 false (fun anK=>aJ t1 0 fun t86 =>
 anK t86 MF none) (fun k=>k .undef MF none) fun aha Zk b_138 =>
 af t79 false (fun an2=>aA Zk aha 2 fun t87 =>
 an2 t87 Zk none) (fun k=>k .undef Zk none) fun agY Ce agv =>
 af t79 false (fun MH=>qc false [1,1] agO agY fun t88 =>
 MH t88 Ce none) (fun k=>k .undef Ce none) fun ahw Sr b_146 =>
 aK t79 (Bo true) ahw fun t89 =>
 af t89 false (fun amZ=>amZ (aa xs 0) Sr none) (fun k=>k .undef Sr none) fun t91 yg agG =>
 af t89 false (fun Mw=>ae .gtr t91 (N .i64 0) fun t92 =>
 Mw t92 yg none) (fun k=>k .undef yg none) fun agX xW aga =>
 af t89 false (fun NP=>NP agX xW none) (fun k=>k .undef xW none) fun t93 ym agn =>
 af t93 true (fun MJ=>aJ t1 6 fun t94 =>
 MJ t94 ym none) (fun k=>k .undef ym none) fun agW abG b_160 =>
 af t93 true (fun aoq=>au abG agW fun t95 =>
 aoq t95 abG none) (fun k=>k .undef abG none) fun agS agf b_164 =>
 af t93 true (fun aol=>aol (aa xs 0) agf none) (fun k=>k .undef agf none) fun t96 BJ agE =>
 af t93 true (fun OM=>ae .sub t96 (N .i64 1) fun t97 =>
 OM t97 BJ none) (fun k=>k .undef BJ none) fun agT agL b_171 =>
 af t93 true (fun Oe=>ai agS agT 2 fun t98 =>
 Oe t98 agL none) (fun k=>k .undef agL none) fun agN zB afX =>
 af t93 true (fun MP=>aA zB agN 2 fun t99 =>
 MP t99 zB none) (fun k=>k .undef zB none) fun ah2 mD afY =>
 af t93 true (fun ang=>aJ t1 6 fun jJ =>
 ang jJ mD none) (fun k=>k .undef mD none) fun aeb EO b_183 =>
 af t93 true (fun aon=>au EO aeb fun qo =>
 aon qo EO none) (fun k=>k .undef EO none) fun afH afV b_187 =>
 af t93 true (fun an4=>an4 (aa xs 0) afV none) (fun k=>k .undef afV none) fun Mm age b_190 =>
 af t93 true (fun anb=>ai afH Mm 2 fun mH =>
 anb mH age none) (fun k=>k .undef age none) fun adO abk b_194 =>
 af t93 true (fun an3=>aA abk adO 2 fun Bt =>
 an3 Bt abk none) (fun k=>k .undef abk none) fun adK af9 b_198 =>
 ah t93 true (fun aoj=>p3 [ah2,adK] af9 fun t105 anT =>
 aoj t105 anT) (fun k=>k .undef af9) fun ad9 af2 =>
 af t93 true (fun anY=>dE ad9 fun FQ =>
 anY FQ af2 none) (fun k=>k .undef af2 none) fun aez agk b_206 =>
 af t89 false (fun an5=>aK t93 aez (Bo false) fun t107 =>
 an5 t107 agk none) (fun k=>k .undef agk none) fun afF agr b_210 =>
 aK t89 (Bo true) afF fun xq =>
 av xq (
 Q (Bo false) agr) (
 ae .add (aa xs 0) (N .i64 1) fun t72 =>
 next [t72] agr)) (
 Q (Bo true) wC)) [(N .i64 0)] af8))
def uu (p1 p2:Nat) (a0:AV) (M0:RM) (Q:ak) : Prop :=
 cB a0 fun t7 =>
 aJ t7 1 fun t8 =>
 au M0 t8 fun t9 =>
 bL t9 fun bW =>
 aN (fun next xs M =>
 ae .lss (aa xs 1) bW fun t12 =>
 av t12 (
 bV (fun J =>
 ai t9 (aa xs 1) 5 fun t13 =>
 aA M t13 5 fun t14 =>
 cz (.row [(N .i64 0),(N .u64 0),(St []),(St []),(St [])] false p1 0) (fun b=>.ptr b 0) M fun t5 M_0 =>
 aC M_0 t5 t14 5 fun M_1 =>
 bL (aa xs 0) fun t16 =>
 ae .eql t16 (N .i64 0) fun t17 =>
 af t17 false (fun k=>k (aa xs 0) M_1 none) (fun k=>k .undef M_1 none) fun t19 M_2 b =>
 af t17 false (fun k_3=>k_3 (aa xs 0) M_2 none) (fun k=>k .undef M_2 none) fun t20 M_4 b_5 =>
 af t17 false (fun k_6=>bL t20 fun t21 =>
 k_6 t21 M_4 none) (fun k=>k .undef M_4 none) fun ann M_8 b_9 =>
 af t17 false (fun l9=>ae .sub ann (N .i64 1) fun t22 =>
 l9 t22 M_8 none) (fun k=>k .undef M_8 none) fun aj8 gX Ho =>
 af t17 false (fun gu=>ai t19 aj8 1 fun t23 =>
 gu t23 gX none) (fun k=>k .undef gX none) fun aje bX yZ =>
 af t17 false (fun nT=>au bX aje fun t24 =>
 nT t24 bX none) (fun k=>k .undef bX none) fun aiI pU Z5 =>
 af t17 false (fun nN=>aJ t5 2 fun t25 =>
 nN t25 pU none) (fun k=>k .undef pU none) fun alA mK adl =>
 af t17 false (fun Az=>au mK alA fun t26 =>
 Az t26 mK none) (fun k=>k .undef mK none) fun amB ql aeU =>
 af t17 false (fun KY=>jC .neq aiI amB fun t27 =>
 KY t27 ql none) (fun k=>k .undef ql none) fun aiM oQ akY =>
 aK t17 (Bo true) aiM fun t28 =>
 av t28 (
 aJ t5 2 fun t30 =>
 au oQ t30 fun t31 =>
 fV p2 1 [(St [])] [(0,1,t31)] fun r f =>
 cz r f oQ fun t32 dR =>
 appW p2 1 16 [(St [])] false (aa xs 0) t32 dR fun t33 Iw =>
 J [t33] Iw) (
 J [(aa xs 0)] oQ)) (fun an0 dm =>
 ae .add (aa xs 1) (N .i64 1) fun t34 =>
 next [(aa an0 0),t34] dm)) (
 Q (aa xs 0) M)) [(.sc (.slice none 0 0)),(N .i64 0)] M0
def wB (p1:Nat) (a0 a1:AV) (M0:RM) (Q:ak) : Prop :=
 cB a0 fun t9 =>
 aJ t9 1 fun bW =>
 au M0 bW fun bQ =>
 bL bQ fun t12 =>
 aN (fun next xs M =>
 ae .lss (aa xs 1) t12 fun t14 =>
 av t14 (
 bV (fun J =>
 ai bQ (aa xs 1) 5 fun t15 =>
 aA M t15 5 fun t16 =>
 cz (.row [(N .i64 0),(N .u64 0),(St []),(St []),(St [])] false p1 0) (fun b=>.ptr b 0) M fun t7 M_0 =>
 aC M_0 t7 t16 5 fun M_1 =>
 aJ t7 2 fun t17 =>
 au M_1 t17 fun t18 =>
 jC .eql t18 a1 fun t20 =>
 av t20 (
 aA M_1 t7 5 fun t22 =>
 fV p1 1 [(N .i64 0),(N .u64 0),(St []),(St []),(St [])] [(0,5,t22)] fun r f =>
 cz r f M_1 fun t23 M_2 =>
 appW p1 5 64 [(N .i64 0),(N .u64 0),(St []),(St []),(St [])] false (aa xs 0) t23 M_2 fun t24 M_3 =>
 J [t24] M_3) (
 J [(aa xs 0)] M_1)) (fun y5 M_5 =>
 ae .add (aa xs 1) (N .i64 1) fun t25 =>
 next [(aa y5 0),t25] M_5)) (
 Q (aa xs 0) M)) [(.sc (.slice none 0 0)),(N .i64 0)] M0
def yX (p1:Nat) (a0:AV) (M0:RM) (Q:ak) : Prop :=
 kH false 2 a0 (.sc (.slice none 0 0)) fun t4 =>
 av t4 (
 Q (.sc (.slice none 0 0)) M0) (
 fV p1 0 [(N .i64 0),(N .u64 0),(St []),(St []),(St [])] [] fun r f =>
 cz r f M0 fun t5 M =>
 appW p1 5 64 [(N .i64 0),(N .u64 0),(St []),(St []),(St [])] false t5 a0 M fun t7 M_0 =>
 Q t7 M_0)
def uK (p1 p2:aj) (a0 a1:AV) (M0:RM) (Q:ak) : Prop :=
 bL a0 fun t6 =>
 oO .u64 t6 fun bW =>
 p1 [bW] M0 fun bQ M =>
 p2 [a0,(N .i64 0),t6,bQ,a1] M fun t13 M_0 =>
 Q (.tup []) M_0
def H5 (p1:Nat) (p2 p3:aj) (p4:Nat) (p5:aj) (a0 a1:AV) (M0:RM) (Q:ak) : Prop :=
 jr p1 a0 fun r f =>
 cz r f M0 fun t2 M =>
 jr p1 a1 fun r_0 f_1 =>
 cz r_0 f_1 M fun t3 M_2 =>
 aJ t2 2 fun t5 =>
 au M_2 t5 fun t6 =>
 aJ t3 2 fun t7 =>
 au M_2 t7 fun t8 =>
 aJ t2 3 fun bW =>
 au M_2 bW fun bQ =>
 aJ t3 3 fun t12 =>
 au M_2 t12 fun t13 =>
 aJ t2 0 fun t15 =>
 aA M_2 t15 2 fun t16 =>
 aJ t3 0 fun t17 =>
 aA M_2 t17 2 fun t18 =>
 p2 [t6,t8] M_2 fun t9 M_3 =>
 au M_3 bW fun amM =>
 (amM=bQ∧au M_3 t12 fun akO =>
 (akO=t13∧aA M_3 t15 2 fun amI =>
 (amI=t16∧aA M_3 t17 2 fun VD =>
 (VD=t18∧p2 [bQ,t13] M_3 fun t14 M_4 =>
 aA M_4 t15 2 fun ak4 =>
 (ak4=t16∧aA M_4 t17 2 fun alH =>
 (alH=t18∧p3 [t16,t18] M_4 fun t19 M_5 =>
 fV p4 3 [(N .i64 0)] [(0,1,t9),(1,1,t14),(2,1,t19)] fun r_6 f_7 =>
 Bj r_6 f_7 M_5 fun t20 M_8 b =>
 p5 [t20] M_8 fun t21 M_9 =>
 Q t21 M_9))))))
def qW (p1:aj) (p2:Nat) (cv:(FuncId→aj)) (a0 a1:AV) (M0:RM) (Q:ak) : Prop :=
 p1 [a0,a1] M0 fun bW M =>
 ae .eql bW (N .i64 (-1)) fun t12 =>
 av t12 (
 Q a0 M) (
 ae .add bW (N .i64 1) fun t15 =>
 aN (fun next xs M_0 =>
 bL a0 fun t18 =>
 ae .lss (aa xs 1) t18 fun t19 =>
 av t19 (
 bV (fun J =>
 ai a0 (aa xs 1) 5 fun t24 =>
 aA M_0 t24 5 fun t25 =>
 cz (.row [(N .i64 0),(N .u64 0),(St []),(St []),(St [])] false p2 0) (fun b=>.ptr b 0) M_0 fun t7 M_1 =>
 aC M_1 t7 t25 5 fun M_2 =>
 aA M_2 t7 5 fun t27 =>
 bT cv a1 [t27] M_2 fun t28 M_3 =>
 dE t28 fun t29 =>
 av t29 (
 aA M_3 t7 5 fun t32 =>
 ai a0 (aa xs 0) 5 fun t33 =>
 aC M_3 t33 t32 5 fun M_4 =>
 ae .add (aa xs 0) (N .i64 1) fun t35 =>
 J [t35] M_4) (
 J [(aa xs 0)] M_3)) (fun wJ M_6 =>
 ae .add (aa xs 1) (N .i64 1) fun t21 =>
 next [(aa wJ 0),t21] M_6)) (
 kJ (cO 5 a0 (some (aa xs 0)) none none) fun t38 =>
 Nc [(N .i64 0),(N .u64 0),(St []),(St []),(St [])] t38 M_0 fun u M_7 =>
 kJ (cO 5 a0 none (some (aa xs 0)) none) fun t41 =>
 Q t41 M_7)) [bW,t15] M)
def wE (p1:Nat) (p2:aj) (a0 a1:AV) (M0:RM) (Q:ak) : Prop :=
 jr p1 a0 fun r f =>
 cz r f M0 fun t2 M =>
 aJ a1 6 fun t4 =>
 au M t4 fun t5 =>
 aJ t2 0 fun t6 =>
 aA M t6 2 fun t7 =>
 p2 [t5,t7] M fun t8 M_0 =>
 Q t8 M_0
def wV (p1:Nat) (p2:aj) (a0 a1:AV) (M0:RM) (Q:ak) : Prop :=
 jr p1 a1 fun r f =>
 cz r f M0 fun t3 M =>
 aA M t3 2 fun t6 =>
 p2 [a0,t6] M fun t7 M_0 =>
 ae .geq t7 (N .i64 0) fun t8 =>
 Q t8 M_0
def yY (a0 a1:AV) (M0:RM) (Q:ak) : Prop :=
 bL a0 fun t7 =>
 bL a1 fun t9 =>
 ae .neq t7 t9 fun bW =>
 av bW (
 Q (Bo false) M0) (
 bL a0 fun t12 =>
 aN (fun next xs M =>
 ae .lss (aa xs 0) t12 fun t14 =>
 av t14 (
 ai a0 (aa xs 0) 5 fun t18 =>
 aA M t18 5 fun t19 =>
 ai a1 (aa xs 0) 5 fun t22 =>
 aA M t22 5 fun t23 =>
 qc true [1,1,2,2,2] t19 t23 fun t24 =>
 av t24 (
 Q (Bo false) M) (
 ae .add (aa xs 0) (N .i64 1) fun t25 =>
 next [t25] M)) (
 Q (Bo true) M)) [(N .i64 0)] M0)
def Dc (a0 a1 a2:AV) (M0:RM) (Q:ak) : Prop :=
 rA a0 fun t8 =>
 ae .geq t8 (N .i64 1) fun t9 =>
 ah t9 true (fun k=>k a0 M0) (fun k=>k .undef M0) fun bQ M =>
 ah t9 true (fun k_0=>rA bQ fun t12 =>
 k_0 t12 M) (fun k=>k .undef M) fun anB M_2 =>
 ah t9 true (fun k_3=>ae .leq anB (N .i64 64) fun t13 =>
 k_3 t13 M_2) (fun k=>k .undef M_2) fun aob M_5 =>
 aK t9 aob (Bo false) fun t14 =>
 ah t14 true (fun k_6=>k_6 a1 M_5) (fun k=>k .undef M_5) fun t16 M_7 =>
 ah t14 true (fun k_8=>rA t16 fun t17 =>
 k_8 t17 M_7) (fun k=>k .undef M_7) fun anO dW =>
 ah t14 true (fun nU=>ae .leq anO (N .i64 64) fun t18 =>
 nU t18 dW) (fun k=>k .undef dW) fun VD dN =>
 aK t14 VD (Bo false) fun t19 =>
 ah t19 true (fun gu=>gu a2 dN) (fun k=>k .undef dN) fun t21 kK =>
 ah t19 true (fun KV=>rA t21 fun t22 =>
 KV t22 kK) (fun k=>k .undef kK) fun ak9 eX =>
 ah t19 true (fun xk=>ae .leq ak9 (N .i64 512) fun t23 =>
 xk t23 eX) (fun k=>k .undef eX) fun aiA dV =>
 aK t19 aiA (Bo false) fun t24 =>
 Q t24 dV
def PZ (p1:Nat) (p2 p3:aj) (p4:Nat) (p5:aj) (a0 a1:AV) (M0:RM) (Q:ak) : Prop :=
 jr p1 a0 fun r f =>
 cz r f M0 fun t2 M =>
 jr p1 a1 fun r_0 f_1 =>
 cz r_0 f_1 M fun t3 M_2 =>
 aJ t2 1 fun t5 =>
 au M_2 t5 fun t6 =>
 aJ t3 1 fun t7 =>
 au M_2 t7 fun t8 =>
 aJ t2 0 fun bW =>
 au M_2 bW fun bQ =>
 aJ t3 0 fun t12 =>
 au M_2 t12 fun t13 =>
 p2 [t6,t8] M_2 fun t9 M_3 =>
 au M_3 bW fun VV =>
 (VV=bQ∧au M_3 t12 fun FE =>
 (FE=t13∧p3 [bQ,t13] M_3 fun t14 M_4 =>
 fV p4 2 [(N .i64 0)] [(0,1,t9),(1,1,t14)] fun r_5 f_6 =>
 Bj r_5 f_6 M_4 fun t15 M_7 b =>
 p5 [t15] M_7 fun t16 M_8 =>
 Q t16 M_8))
def iD (p1 p2 p3 p4 p5 p6:aj) (cv:(FuncId→aj)) (p7 p8 p9:aj) (a0 a1 a2 a3 a4:AV) (M0:RM) (Q:ak) : Prop :=
 aN (fun next xs M =>
 ae .sub (aa xs 1) (aa xs 0) fun t23 =>
 ae .leq t23 (N .i64 12) fun t25 =>
 av t25 (
 p1 [a0,(aa xs 0),(aa xs 1),a4] M fun t30 M_0 =>
 Q (.tup []) M_0) (
 ae .eql (aa xs 2) (N .i64 0) fun t32 =>
 av t32 (
 p2 [a0,(aa xs 0),(aa xs 1),a4] M fun t37 M_1 =>
 Q (.tup []) M_1) (
 bV (fun J =>
 dE (aa xs 3) fun t39 =>
 av t39 (
 p3 [a0,(aa xs 0),(aa xs 1),a4] M fun t44 M_2 =>
 ae .sub (aa xs 2) (N .i64 1) fun t46 =>
 J [t46] M_2) (
 J [(aa xs 2)] M)) (fun bA M_4 =>
 p4 [a0,(aa xs 0),(aa xs 1),a4] M_4 fun t52 M_5 =>
 eB t52 0 fun t53 =>
 eB t52 1 fun t54 =>
 bV (fun J_6 =>
 ae .eql t54 (N .i64 2) fun t56 =>
 av t56 (
 p5 [a0,(aa xs 0),(aa xs 1),a4] M_5 fun t61 M_7 =>
 ae .sub (aa xs 1) (N .i64 1) fun t63 =>
 ae .sub t53 (aa xs 0) fun t66 =>
 ae .sub t63 t66 fun t67 =>
 J_6 [t67,(N .i64 1)] M_7) (
 J_6 [t53,t54] M_5)) (fun uN M_9 =>
 bV (fun IC =>
 ah (aa xs 3) true (fun k=>k (aa xs 4) M_9) (fun k=>k .undef M_9) fun t70 dQ =>
 aK (aa xs 3) t70 (Bo false) fun t71 =>
 ah t71 true (fun nR=>nR (aa uN 1) dQ) (fun k=>k .undef dQ) fun t73 dN =>
 ah t71 true (fun gu=>ae .eql t73 (N .i64 1) fun t74 =>
 gu t74 dN) (fun k=>k .undef dN) fun UU bX =>
 aK t71 UU (Bo false) fun t75 =>
 av t75 (
 p6 [a0,(aa xs 0),(aa xs 1),a4] bX fun t80 mQ =>
 av t80 (
 Q (.tup []) mQ) (
 IC [] mQ)) (
 IC [] bX)) (fun agF dF =>
 ae .gtr (aa xs 0) (N .i64 0) fun t82 =>
 af t82 true (fun jT=>jT a4 dF none) (fun k=>k .undef dF none) fun t84 dV b =>
 af t82 true (fun nN=>nN a0 dV none) (fun k=>k .undef dV none) fun t85 jK KT =>
 af t82 true (fun nL=>nL (aa xs 0) jK none) (fun k=>k .undef jK none) fun t86 iC Ef =>
 af t82 true (fun jO=>ae .sub t86 (N .i64 1) fun t87 =>
 jO t87 iC none) (fun k=>k .undef iC none) fun U6 fK OV =>
 af t82 true (fun uI=>ai t85 U6 5 fun t88 =>
 uI t88 fK none) (fun k=>k .undef fK none) fun WW dR Pp =>
 af t82 true (fun xe=>aA dR WW 5 fun t89 =>
 xe t89 dR none) (fun k=>k .undef dR none) fun UJ mP adi =>
 af t82 true (fun uG=>uG a0 mP none) (fun k=>k .undef mP none) fun t90 fe Di =>
 af t82 true (fun xB=>xB (aa uN 0) fe none) (fun k=>k .undef fe none) fun t91 mG ZH =>
 af t82 true (fun WO=>ai t90 t91 5 fun t92 =>
 WO t92 mG none) (fun k=>k .undef mG none) fun Uy iL apx =>
 af t82 true (fun TV=>aA iL Uy 5 fun t93 =>
 TV t93 iL none) (fun k=>k .undef iL none) fun Xn wm aqR =>
 ah t82 true (fun adr=>bT cv t84 [UJ,Xn] wm fun t94 nM =>
 adr t94 nM) (fun k=>k .undef wm) fun Tx fJ =>
 af t82 true (fun Kr=>ae .lss Tx (N .i64 0) fun t95 =>
 Kr t95 fJ none) (fun k=>k .undef fJ none) fun TC iT Ph =>
 af t82 true (fun uy=>dE TC fun t96 =>
 uy t96 iT none) (fun k=>k .undef iT none) fun SS jP Tu =>
 aK t82 SS (Bo false) fun t97 =>
 av t97 (
 p7 [a0,(aa xs 0),(aa xs 1),(aa uN 0),a4] jP fun mH wh =>
 next [mH,(aa xs 1),(aa bA 0),(aa xs 3),(aa xs 4)] wh) (
 p8 [a0,(aa xs 0),(aa xs 1),(aa uN 0),a4] jP fun qX kZ =>
 eB qX 0 fun jQ =>
 eB qX 1 fun uA =>
 ae .sub jQ (aa xs 0) fun t117 =>
 ae .sub (aa xs 1) jQ fun uR =>
 ae .quo t23 (N .i64 8) fun uP =>
 ae .lss t117 uR fun gJ =>
 av gJ (
 ae .geq t117 uP fun EW =>
 p9 [a0,(aa xs 0),jQ,(aa bA 0),a4] kZ fun Bv xU =>
 ae .add jQ (N .i64 1) fun KI =>
 next [KI,(aa xs 1),(aa bA 0),EW,uA] xU) (
 ae .geq uR uP fun t139 =>
 ae .add jQ (N .i64 1) fun Xz =>
 p9 [a0,Xz,(aa xs 1),(aa bA 0),a4] kZ fun t146 sN =>
 next [(aa xs 0),jQ,(aa bA 0),t139,uA] sN)))))))) [a1,a2,a3,(Bo true),(Bo true)] M0
def KD (a0:AV) (M0:RM) (Q:ak) : Prop :=
 bL a0 fun t7 =>
 aN (fun next xs M =>
 ae .lss (aa xs 0) t7 fun t9 =>
 av t9 (
 ai a0 (aa xs 0) 1 fun bW =>
 au M bW fun bQ =>
 ae .neq bQ (N .i64 0) fun t14 =>
 av t14 (
 Q bQ M) (
 ae .add (aa xs 0) (N .i64 1) fun t16 =>
 next [t16] M)) (
 Q (N .i64 0) M)) [(N .i64 0)] M0
def uQ (p1:aj) (a0 a1:AV) (M0:RM) (Q:ak) : Prop :=
 p1 [a0] M0 fun t8 M =>
 p1 [a1] M fun bW M_0 =>
 av t8 (
 av bW (
 Q (N .i64 0) M_0) (
 Q (N .i64 (-1)) M_0)) (
 av bW (
 Q (N .i64 1) M_0) (
 jC .lss a0 a1 fun t16 =>
 av t16 (
 Q (N .i64 (-1)) M_0) (
 jC .gtr a0 a1 fun t19 =>
 av t19 (
 Q (N .i64 1) M_0) (
 Q (N .i64 0) M_0))))
def sM (cv:(FuncId→aj)) (a0 a1:AV) (M0:RM) (Q:ak) : Prop :=
 bL a0 fun t7 =>
 aN (fun next xs M =>
 ae .lss (aa xs 0) t7 fun t9 =>
 av t9 (
 ai a0 (aa xs 0) 5 fun t14 =>
 aA M t14 5 fun t15 =>
 bT cv a1 [t15] M fun t16 M_0 =>
 av t16 (
 Q (aa xs 0) M_0) (
 ae .add (aa xs 0) (N .i64 1) fun t18 =>
 next [t18] M_0)) (
 Q (N .i64 (-1)) M)) [(N .i64 0)] M0
def CF (p1:Nat) (a0 a1:AV) (M0:RM) (Q:ak) : Prop :=
 jr p1 a1 fun r f =>
 cz r f M0 fun t3 M =>
 bL a0 fun t7 =>
 aN (fun next xs M_0 =>
 ae .lss (aa xs 0) t7 fun t9 =>
 av t9 (
 aA M_0 t3 2 fun bQ =>
 ai a0 (aa xs 0) 2 fun t14 =>
 aA M_0 t14 2 fun t15 =>
 qc false [1,1] bQ t15 fun t16 =>
 av t16 (
 Q (aa xs 0) M_0) (
 ae .add (aa xs 0) (N .i64 1) fun t18 =>
 next [t18] M_0)) (
 Q (N .i64 (-1)) M_0)) [(N .i64 0)] M
def ul (p1:aj) (a0 a1:AV) (M0:RM) (Q:ak) : Prop :=
 p1 [a0] M0 fun t8 M =>
 p1 [a1] M fun bW M_0 =>
 av t8 (
 av bW (
 Q (N .i64 0) M_0) (
 Q (N .i64 (-1)) M_0)) (
 av bW (
 Q (N .i64 1) M_0) (
 ae .lss a0 a1 fun t16 =>
 av t16 (
 Q (N .i64 (-1)) M_0) (
 ae .gtr a0 a1 fun t19 =>
 av t19 (
 Q (N .i64 1) M_0) (
 Q (N .i64 0) M_0))))
def zg (p1:aj) (a0 a1:AV) (M0:RM) (Q:ak) : Prop :=
 p1 [a0] M0 fun t8 M =>
 p1 [a1] M fun bW M_0 =>
 av t8 (
 av bW (
 Q (N .i64 0) M_0) (
 Q (N .i64 (-1)) M_0)) (
 av bW (
 Q (N .i64 1) M_0) (
 ae .lss a0 a1 fun t16 =>
 av t16 (
 Q (N .i64 (-1)) M_0) (
 ae .gtr a0 a1 fun t19 =>
 av t19 (
 Q (N .i64 1) M_0) (
 Q (N .i64 0) M_0))))
def fw (cv:(FuncId→aj)) (a0 a1 a2 a3:AV) (M0:RM) (Q:ak) : Prop :=
 ae .add a1 (N .i64 1) fun bQ =>
 aN (fun next xs M =>
 ae .lss (aa xs 0) a2 fun t14 =>
 av t14 (
 aN (fun oJ bn M_2 =>
 ae .gtr (aa bn 0) a1 fun t20 =>
 af t20 true (fun k=>k a3 M_2 none) (fun k=>k .undef M_2 none) fun t22 M_3 b =>
 af t20 true (fun k_4=>k_4 a0 M_3 none) (fun k=>k .undef M_3 none) fun t23 M_5 b_6 =>
 af t20 true (fun k_7=>k_7 (aa bn 0) M_5 none) (fun k=>k .undef M_5 none) fun t24 M_8 b_9 =>
 af t20 true (fun l9=>ai t23 t24 5 fun t25 =>
 l9 t25 M_8 none) (fun k=>k .undef M_8 none) fun TA gX Ho =>
 af t20 true (fun gu=>aA gX TA 5 fun t26 =>
 gu t26 gX none) (fun k=>k .undef gX none) fun VU bX yZ =>
 af t20 true (fun nT=>nT a0 bX none) (fun k=>k .undef bX none) fun t27 dF KA =>
 af t20 true (fun qL=>qL (aa bn 0) dF none) (fun k=>k .undef dF none) fun t28 fF K5 =>
 af t20 true (fun qJ=>ae .sub t28 (N .i64 1) fun t29 =>
 qJ t29 fF none) (fun k=>k .undef fF none) fun Wy iC Ef =>
 af t20 true (fun jO=>ai t27 Wy 5 fun t30 =>
 jO t30 iC none) (fun k=>k .undef iC none) fun WV fK OV =>
 af t20 true (fun uI=>aA fK WV 5 fun t31 =>
 uI t31 fK none) (fun k=>k .undef fK none) fun WR dR Pp =>
 ah t20 true (fun xe=>bT cv t22 [VU,WR] dR fun t32 dm =>
 xe t32 dm) (fun k=>k .undef dR) fun UT jN =>
 af t20 true (fun uG=>ae .lss UT (N .i64 0) fun t33 =>
 uG t33 jN none) (fun k=>k .undef jN none) fun Xb nP aaP =>
 aK t20 Xb (Bo false) fun t34 =>
 av t34 (
 ae .sub (aa bn 0) (N .i64 1) fun t41 =>
 ae .sub (aa bn 0) (N .i64 1) fun t44 =>
 ai a0 t44 5 fun t45 =>
 aA nP t45 5 fun t46 =>
 ai a0 (aa bn 0) 5 fun t49 =>
 aA nP t49 5 fun t50 =>
 ai a0 (aa bn 0) 5 fun t51 =>
 aC nP t51 t46 5 fun mG =>
 ai a0 t41 5 fun t52 =>
 aC mG t52 t50 5 fun jy =>
 ae .sub (aa bn 0) (N .i64 1) fun t36 =>
 oJ [t36] jy) (
 ae .add (aa xs 0) (N .i64 1) fun t16 =>
 next [t16] nP)) [(aa xs 0)] M) (
 Q (.tup []) M)) [bQ] M0
def mF (p1:aj) (a0 a1 a2 a3:AV) (M0:RM) (Q:ak) : Prop :=
 ae .sub a2 a1 fun t16 =>
 ae .sub t16 (N .i64 1) fun t18 =>
 ae .quo t18 (N .i64 2) fun t19 =>
 aN (fun next xs M =>
 ae .geq (aa xs 0) (N .i64 0) fun t21 =>
 av t21 (
 p1 [a0,(aa xs 0),t16,a1,a3] M fun t29 M_0 =>
 ae .sub (aa xs 0) (N .i64 1) fun t23 =>
 next [t23] M_0) (
 ae .sub t16 (N .i64 1) fun t31 =>
 aN (fun G6 pM M_3 =>
 ae .geq (aa pM 0) (N .i64 0) fun t33 =>
 av t33 (
 ae .add a1 (aa pM 0) fun t41 =>
 ae .add a1 (aa pM 0) fun t45 =>
 ai a0 t45 5 fun t46 =>
 aA M_3 t46 5 fun t47 =>
 ai a0 a1 5 fun t50 =>
 aA M_3 t50 5 fun t51 =>
 ai a0 a1 5 fun t52 =>
 aC M_3 t52 t47 5 fun M_4 =>
 ai a0 t41 5 fun t53 =>
 aC M_4 t53 t51 5 fun M_5 =>
 p1 [a0,(N .i64 0),(aa pM 0),a1,a3] M_5 fun t59 M_6 =>
 ae .sub (aa pM 0) (N .i64 1) fun t35 =>
 G6 [t35] M_6) (
 Q (.tup []) M_3)) [t31] M)) [t19] M0
def jL (p1:Nat) (p2 p3:aj) (a0 a1 a2 a3:AV) (M0:RM) (Q:ak) : Prop :=
 ae .sub a2 a1 fun t15 =>
 ae .geq t15 (N .i64 8) fun t17 =>
 av t17 (
 oO .u64 t15 fun t19 =>
 cz (.row [(N .u64 0)] false p1 0) (fun b=>.ptr b 0) M0 fun t9 M =>
 aC M t9 t19 1 fun M_0 =>
 p2 [t15] M_0 fun t21 M_1 =>
 ae .quo t15 (N .i64 4) fun t24 =>
 ae .mul t24 (N .i64 2) fun t25 =>
 ae .add a1 t25 fun t26 =>
 ae .sub t26 (N .i64 1) fun t27 =>
 aN (fun next xs M_2 =>
 ae .quo t15 (N .i64 4) fun t31 =>
 ae .mul t31 (N .i64 2) fun t32 =>
 ae .add a1 t32 fun t33 =>
 ae .add t33 (N .i64 1) fun t34 =>
 ae .leq (aa xs 0) t34 fun t35 =>
 av t35 (
 bV (fun J =>
 p3 [t9] M_2 fun t38 M_3 =>
 ae .sub t21 (N .u64 1) fun t40 =>
 ae .and t38 t40 fun t41 =>
 oO .i64 t41 fun t42 =>
 bV (fun J_4 =>
 ae .geq t42 t15 fun t45 =>
 av t45 (
 ae .sub t42 t15 fun t48 =>
 J_4 [t48] M_3) (
 J_4 [t42] M_3)) (fun wJ M_6 =>
 ae .add a1 (aa wJ 0) fun t54 =>
 ae .add a1 (aa wJ 0) fun t58 =>
 ai a0 t58 5 fun t59 =>
 aA M_6 t59 5 fun t60 =>
 ai a0 (aa xs 0) 5 fun t63 =>
 aA M_6 t63 5 fun t64 =>
 ai a0 (aa xs 0) 5 fun t65 =>
 aC M_6 t65 t60 5 fun M_7 =>
 ai a0 t54 5 fun t66 =>
 aC M_7 t66 t64 5 fun M_8 =>
 J [] M_8)) (fun alj dW =>
 ae .add (aa xs 0) (N .i64 1) fun t37 =>
 next [t37] dW)) (
 Q (.tup []) M_2)) [t27] M_1) (
 Q (.tup []) M0)
def lg (p1:Nat) (p2 p3:aj) (a0 a1 a2 a3:AV) (M0:RM) (Q:ak) : Prop :=
 ae .sub a2 a1 fun t17 =>
 cz (.row [(N .i64 0)] false p1 0) (fun b=>.ptr b 0) M0 fun bQ M =>
 ae .quo t17 (N .i64 4) fun t20 =>
 ae .mul t20 (N .i64 1) fun t21 =>
 ae .add a1 t21 fun t22 =>
 ae .quo t17 (N .i64 4) fun t25 =>
 ae .mul t25 (N .i64 2) fun t26 =>
 ae .add a1 t26 fun t27 =>
 ae .quo t17 (N .i64 4) fun t30 =>
 ae .mul t30 (N .i64 3) fun t31 =>
 ae .add a1 t31 fun t32 =>
 bV (fun J =>
 ae .geq t17 (N .i64 8) fun t34 =>
 av t34 (
 bV (fun J_0 =>
 ae .geq t17 (N .i64 50) fun t36 =>
 av t36 (
 p2 [a0,t22,bQ,a3] M fun t40 M_1 =>
 p2 [a0,t27,bQ,a3] M_1 fun t44 M_2 =>
 p2 [a0,t32,bQ,a3] M_2 fun t48 M_3 =>
 J_0 [t40,t44,t48] M_3) (
 J_0 [t22,t27,t32] M)) (fun xs M_4 =>
 p3 [a0,(aa xs 0),(aa xs 1),(aa xs 2),bQ,a3] M_4 fun t54 M_5 =>
 J [t54] M_5)) (
 J [t27] M)) (fun Bq M_7 =>
 au M_7 bQ fun t55 =>
 ae .eql t55 (N .i64 0) fun t58 =>
 av t58 (
 Q (.tup [(aa Bq 0),(N .i64 1)]) M_7) (
 ae .eql t55 (N .i64 12) fun t61 =>
 av t61 (
 Q (.tup [(aa Bq 0),(N .i64 2)]) M_7) (
 Q (.tup [(aa Bq 0),(N .i64 0)]) M_7)))
def kG (a0 a1 a2 a3:AV) (M0:RM) (Q:ak) : Prop :=
 ae .sub a2 (N .i64 1) fun t12 =>
 aN (fun next xs M =>
 ae .lss (aa xs 0) (aa xs 1) fun t15 =>
 av t15 (
 ai a0 (aa xs 1) 5 fun t22 =>
 aA M t22 5 fun t23 =>
 ai a0 (aa xs 0) 5 fun t26 =>
 aA M t26 5 fun t27 =>
 ai a0 (aa xs 0) 5 fun t28 =>
 aC M t28 t23 5 fun M_0 =>
 ai a0 (aa xs 1) 5 fun t29 =>
 aC M_0 t29 t27 5 fun M_1 =>
 ae .add (aa xs 0) (N .i64 1) fun t31 =>
 ae .sub (aa xs 1) (N .i64 1) fun t33 =>
 next [t31,t33] M_1) (
 Q (.tup []) M)) [a1,t12] M0
def gV (cv:(FuncId→aj)) (a0 a1 a2 a3:AV) (M0:RM) (Q:ak) : Prop :=
 ae .add a1 (N .i64 1) fun t14 =>
 aN (fun next xs M =>
 ae .lss (aa xs 1) (N .i64 5) fun t16 =>
 av t16 (
 bV (fun J =>
 aN (fun oJ bn M_2 =>
 ae .lss (aa bn 0) a2 fun t21 =>
 af t21 true (fun k=>k a3 M_2 none) (fun k=>k .undef M_2 none) fun t23 M_3 b =>
 af t21 true (fun k_4=>k_4 a0 M_3 none) (fun k=>k .undef M_3 none) fun t24 M_5 b_6 =>
 af t21 true (fun k_7=>k_7 (aa bn 0) M_5 none) (fun k=>k .undef M_5 none) fun t25 M_8 b_9 =>
 af t21 true (fun l9=>ai t24 t25 5 fun t26 =>
 l9 t26 M_8 none) (fun k=>k .undef M_8 none) fun Ui gX Ho =>
 af t21 true (fun gu=>aA gX Ui 5 fun t27 =>
 gu t27 gX none) (fun k=>k .undef gX none) fun VY bX yZ =>
 af t21 true (fun nT=>nT a0 bX none) (fun k=>k .undef bX none) fun t28 dF KA =>
 af t21 true (fun qL=>qL (aa bn 0) dF none) (fun k=>k .undef dF none) fun t29 fF K5 =>
 af t21 true (fun qJ=>ae .sub t29 (N .i64 1) fun t30 =>
 qJ t30 fF none) (fun k=>k .undef fF none) fun WY iC Ef =>
 af t21 true (fun jO=>ai t28 WY 5 fun t31 =>
 jO t31 iC none) (fun k=>k .undef iC none) fun HY fK OV =>
 af t21 true (fun uI=>aA fK HY 5 fun t32 =>
 uI t32 fK none) (fun k=>k .undef fK none) fun G9 dR Pp =>
 ah t21 true (fun xe=>bT cv t23 [VY,G9] dR fun t33 dm =>
 xe t33 dm) (fun k=>k .undef dR) fun Wx jN =>
 af t21 true (fun uG=>ae .lss Wx (N .i64 0) fun t34 =>
 uG t34 jN none) (fun k=>k .undef jN none) fun Ik nP aaP =>
 af t21 true (fun F8=>dE Ik fun t35 =>
 F8 t35 nP none) (fun k=>k .undef nP none) fun VK fQ Xl =>
 aK t21 VK (Bo false) fun t36 =>
 av t36 (
 ae .add (aa bn 0) (N .i64 1) fun t38 =>
 oJ [t38] fQ) (
 ae .eql (aa bn 0) a2 fun t41 =>
 av t41 (
 Q (Bo true) fQ) (
 ae .sub a2 a1 fun t44 =>
 ae .lss t44 (N .i64 50) fun t45 =>
 av t45 (
 Q (Bo false) fQ) (
 ae .sub (aa bn 0) (N .i64 1) fun t50 =>
 ae .sub (aa bn 0) (N .i64 1) fun t53 =>
 ai a0 t53 5 fun t54 =>
 aA fQ t54 5 fun t55 =>
 ai a0 (aa bn 0) 5 fun t58 =>
 aA fQ t58 5 fun t59 =>
 ai a0 (aa bn 0) 5 fun t60 =>
 aC fQ t60 t55 5 fun iL =>
 ai a0 t50 5 fun t61 =>
 aC iL t61 t59 5 fun lF =>
 bV (fun Mc =>
 ae .sub (aa bn 0) a1 fun t64 =>
 ae .geq t64 (N .i64 2) fun t65 =>
 av t65 (
 ae .sub (aa bn 0) (N .i64 1) fun t67 =>
 aN (fun OU lJ gU =>
 ae .geq (aa lJ 0) (N .i64 1) fun t69 =>
 av t69 (
 ai a0 (aa lJ 0) 5 fun t75 =>
 aA gU t75 5 fun t76 =>
 ae .sub (aa lJ 0) (N .i64 1) fun t79 =>
 ai a0 t79 5 fun t80 =>
 aA gU t80 5 fun t81 =>
 bT cv a3 [t76,t81] gU fun t82 jB =>
 ae .lss t82 (N .i64 0) fun t83 =>
 dE t83 fun t84 =>
 av t84 (
 Mc [] jB) (
 ae .sub (aa lJ 0) (N .i64 1) fun t89 =>
 ae .sub (aa lJ 0) (N .i64 1) fun t92 =>
 ai a0 t92 5 fun t93 =>
 aA jB t93 5 fun t94 =>
 ai a0 (aa lJ 0) 5 fun t97 =>
 aA jB t97 5 fun t98 =>
 ai a0 (aa lJ 0) 5 fun t99 =>
 aC jB t99 t94 5 fun nM =>
 ai a0 t89 5 fun jJ =>
 aC nM jJ t98 5 fun mR =>
 ae .sub (aa lJ 0) (N .i64 1) fun t71 =>
 OU [t71] mR)) (
 Mc [] gU)) [t67] lF) (
 Mc [] lF)) (fun aoy pO =>
 ae .sub a2 (aa bn 0) fun mH =>
 ae .geq mH (N .i64 2) fun Bt =>
 av Bt (
 ae .add (aa bn 0) (N .i64 1) fun FQ =>
 aN (fun Qg mW l5 =>
 ae .lss (aa mW 0) a2 fun t109 =>
 av t109 (
 ai a0 (aa mW 0) 5 fun AY =>
 aA l5 AY 5 fun t116 =>
 ae .sub (aa mW 0) (N .i64 1) fun t119 =>
 ai a0 t119 5 fun uR =>
 aA l5 uR 5 fun ES =>
 bT cv a3 [t116,ES] l5 fun uP sK =>
 ae .lss uP (N .i64 0) fun EX =>
 dE EX fun t124 =>
 av t124 (
 J [(aa bn 0)] sK) (
 ae .sub (aa mW 0) (N .i64 1) fun uF =>
 ae .sub (aa mW 0) (N .i64 1) fun Ao =>
 ai a0 Ao 5 fun Mf =>
 aA sK Mf 5 fun Bv =>
 ai a0 (aa mW 0) 5 fun L9 =>
 aA sK L9 5 fun t138 =>
 ai a0 (aa mW 0) 5 fun t139 =>
 aC sK t139 Bv 5 fun uq =>
 ai a0 uF 5 fun aeo =>
 aC uq aeo t138 5 fun jP =>
 ae .add (aa mW 0) (N .i64 1) fun qX =>
 Qg [qX] jP)) (
 J [(aa bn 0)] l5)) [FQ] pO) (
 J [(aa bn 0)] pO)))))) [(aa xs 0)] M) (fun aaW wh =>
 ae .add (aa xs 1) (N .i64 1) fun t18 =>
 next [(aa aaW 0),t18] wh)) (
 Q (Bo false) M)) [t14,(N .i64 0)] M0
def jA (cv:(FuncId→aj)) (a0 a1 a2 a3 a4:AV) (M0:RM) (Q:ak) : Prop :=
 ai a0 a3 5 fun t19 =>
 aA M0 t19 5 fun t20 =>
 ai a0 a1 5 fun t23 =>
 aA M0 t23 5 fun t24 =>
 ai a0 a1 5 fun t25 =>
 aC M0 t25 t20 5 fun M =>
 ai a0 a3 5 fun t26 =>
 aC M t26 t24 5 fun M_0 =>
 ae .add a1 (N .i64 1) fun t28 =>
 ae .sub a2 (N .i64 1) fun t30 =>
 aN (fun next xs M_1 =>
 aN (fun qH bA M_4 =>
 ae .leq (aa bA 0) (aa xs 1) fun t33 =>
 af t33 true (fun k=>k a4 M_4 none) (fun k=>k .undef M_4 none) fun t35 M_5 b =>
 af t33 true (fun k_6=>k_6 a0 M_5 none) (fun k=>k .undef M_5 none) fun t36 M_7 b_8 =>
 af t33 true (fun k_9=>k_9 a1 M_7 none) (fun k=>k .undef M_7 none) fun t37 dW aqi =>
 af t33 true (fun nR=>ai t36 t37 5 fun t38 =>
 nR t38 dW none) (fun k=>k .undef dW none) fun UO jo aih =>
 af t33 true (fun KV=>aA jo UO 5 fun t39 =>
 KV t39 jo none) (fun k=>k .undef jo none) fun Uo eX O1 =>
 af t33 true (fun jT=>jT a0 eX none) (fun k=>k .undef eX none) fun t40 dV P5 =>
 af t33 true (fun nW=>nW (aa bA 0) dV none) (fun k=>k .undef dV none) fun t41 mK adl =>
 af t33 true (fun Az=>ai t40 t41 5 fun t42 =>
 Az t42 mK none) (fun k=>k .undef mK none) fun VO ql aeU =>
 af t33 true (fun KY=>aA ql VO 5 fun t43 =>
 KY t43 ql none) (fun k=>k .undef ql none) fun Ud oQ akY =>
 ah t33 true (fun Av=>bT cv t35 [Uo,Ud] oQ fun t44 Iw =>
 Av t44 Iw) (fun k=>k .undef oQ) fun SX dm =>
 af t33 true (fun Ez=>ae .lss SX (N .i64 0) fun t45 =>
 Ez t45 dm none) (fun k=>k .undef dm none) fun WZ yT apt =>
 af t33 true (fun Bl=>dE WZ fun t46 =>
 Bl t46 yT none) (fun k=>k .undef yT none) fun Vt mG ZH =>
 aK t33 Vt (Bo false) fun t47 =>
 av t47 (
 ae .add (aa bA 0) (N .i64 1) fun t49 =>
 qH [t49] mG) (
 aN (fun O6 lQ iL =>
 ae .leq (aa bA 0) (aa lQ 0) fun t52 =>
 af t52 true (fun FR=>FR a4 iL none) (fun k=>k .undef iL none) fun t54 jk Uj =>
 af t52 true (fun Ap=>Ap a0 jk none) (fun k=>k .undef jk none) fun t55 gU PH =>
 af t52 true (fun AP=>AP a1 gU none) (fun k=>k .undef gU none) fun t56 mR ap3 =>
 af t52 true (fun Kr=>ai t55 t56 5 fun t57 =>
 Kr t57 mR none) (fun k=>k .undef mR none) fun U9 iT Ph =>
 af t52 true (fun uy=>aA iT U9 5 fun t58 =>
 uy t58 iT none) (fun k=>k .undef iT none) fun UF jP Tu =>
 af t52 true (fun Kz=>Kz a0 jP none) (fun k=>k .undef jP none) fun t59 kZ ZV =>
 af t52 true (fun Kv=>Kv (aa lQ 0) kZ none) (fun k=>k .undef kZ none) fun t60 Cs ao9 =>
 af t52 true (fun afN=>ai t59 t60 5 fun t61 =>
 afN t61 Cs none) (fun k=>k .undef Cs none) fun Vi uz apA =>
 af t52 true (fun adu=>aA uz Vi 5 fun t62 =>
 adu t62 uz none) (fun k=>k .undef uz none) fun XK Ej api =>
 ah t52 true (fun Wj=>bT cv t54 [UF,XK] Ej fun t63 aek =>
 Wj t63 aek) (fun k=>k .undef Ej) fun Tv lm =>
 af t52 true (fun Xr=>ae .lss Tv (N .i64 0) fun t64 =>
 Xr t64 lm none) (fun k=>k .undef lm none) fun Tw uo aqF =>
 aK t52 Tw (Bo false) fun t65 =>
 av t65 (
 ae .sub (aa lQ 0) (N .i64 1) fun t67 =>
 O6 [t67] uo) (
 ae .gtr (aa bA 0) (aa lQ 0) fun t70 =>
 av t70 (
 Q (aa bA 0) uo) (
 ai a0 (aa lQ 0) 5 fun t77 =>
 aA uo t77 5 fun t78 =>
 ai a0 (aa bA 0) 5 fun t81 =>
 aA uo t81 5 fun t82 =>
 ai a0 (aa bA 0) 5 fun t83 =>
 aC uo t83 t78 5 fun xD =>
 ai a0 (aa lQ 0) 5 fun t84 =>
 aC xD t84 t82 5 fun LK =>
 ae .add (aa bA 0) (N .i64 1) fun t86 =>
 ae .sub (aa lQ 0) (N .i64 1) fun t88 =>
 next [t86,t88] LK))) [(aa xs 1)] mG)) [(aa xs 0)] M_1) [t28,t30] M_0
def mf (cv:(FuncId→aj)) (a0 a1 a2 a3 a4:AV) (M0:RM) (Q:ak) : Prop :=
 ai a0 a3 5 fun t20 =>
 aA M0 t20 5 fun t21 =>
 ai a0 a1 5 fun t24 =>
 aA M0 t24 5 fun t25 =>
 ai a0 a1 5 fun t26 =>
 aC M0 t26 t21 5 fun M =>
 ai a0 a3 5 fun t27 =>
 aC M t27 t25 5 fun M_0 =>
 ae .add a1 (N .i64 1) fun t29 =>
 ae .sub a2 (N .i64 1) fun t31 =>
 aN (fun next xs M_1 =>
 ae .leq (aa xs 0) t31 fun t34 =>
 af t34 true (fun k=>k a4 M_1 none) (fun k=>k .undef M_1 none) fun t36 M_2 b =>
 af t34 true (fun k_3=>k_3 a0 M_2 none) (fun k=>k .undef M_2 none) fun t37 M_4 b_5 =>
 af t34 true (fun k_6=>k_6 (aa xs 0) M_4 none) (fun k=>k .undef M_4 none) fun t38 M_7 b_8 =>
 af t34 true (fun k_9=>ai t37 t38 5 fun t39 =>
 k_9 t39 M_7 none) (fun k=>k .undef M_7 none) fun UQ dQ XI =>
 af t34 true (fun AQ=>aA dQ UQ 5 fun t40 =>
 AQ t40 dQ none) (fun k=>k .undef dQ none) fun WJ kK Ux =>
 af t34 true (fun kY=>kY a0 kK none) (fun k=>k .undef kK none) fun t41 eX O1 =>
 af t34 true (fun jT=>jT a1 eX none) (fun k=>k .undef eX none) fun t42 dV P5 =>
 af t34 true (fun nW=>ai t41 t42 5 fun t43 =>
 nW t43 dV none) (fun k=>k .undef dV none) fun Xe fM LH =>
 af t34 true (fun rf=>aA fM Xe 5 fun t44 =>
 rf t44 fM none) (fun k=>k .undef fM none) fun U8 iJ Fu =>
 ah t34 true (fun ji=>bT cv t36 [WJ,U8] iJ fun t45 oQ =>
 ji t45 oQ) (fun k=>k .undef iJ) fun TW dR =>
 af t34 true (fun kX=>ae .lss TW (N .i64 0) fun t46 =>
 kX t46 dR none) (fun k=>k .undef dR none) fun TT dm Hg =>
 aK t34 TT (Bo false) fun t47 =>
 av t47 (
 ae .add (aa xs 0) (N .i64 1) fun t49 =>
 next [t49] dm) (
 aN (fun DY gD fe =>
 ae .leq (aa xs 0) (aa gD 0) fun t52 =>
 af t52 true (fun Bl=>Bl a4 fe none) (fun k=>k .undef fe none) fun t54 jw Zy =>
 af t52 true (fun F7=>F7 a0 jw none) (fun k=>k .undef jw none) fun t55 fQ Xl =>
 af t52 true (fun Mq=>Mq (aa gD 0) fQ none) (fun k=>k .undef fQ none) fun t56 lF ai4 =>
 af t52 true (fun Ga=>ai t55 t56 5 fun t57 =>
 Ga t57 lF none) (fun k=>k .undef lF none) fun Tz gU PH =>
 af t52 true (fun AP=>aA gU Tz 5 fun t58 =>
 AP t58 gU none) (fun k=>k .undef gU none) fun Xy fJ QJ =>
 af t52 true (fun xH=>xH a0 fJ none) (fun k=>k .undef fJ none) fun t59 iT Ph =>
 af t52 true (fun uy=>uy a1 iT none) (fun k=>k .undef iT none) fun t60 uq alh =>
 af t52 true (fun Lb=>ai t59 t60 5 fun t61 =>
 Lb t61 uq none) (fun k=>k .undef uq none) fun UG kZ ZV =>
 af t52 true (fun Kv=>aA kZ UG 5 fun t62 =>
 Kv t62 kZ none) (fun k=>k .undef kZ none) fun VQ AA ape =>
 ah t52 true (fun afc=>bT cv t54 [Xy,VQ] AA fun t63 uz =>
 afc t63 uz) (fun k=>k .undef AA) fun XD xn =>
 af t52 true (fun Lr=>ae .lss XD (N .i64 0) fun t64 =>
 Lr t64 xn none) (fun k=>k .undef xn none) fun Us AU alz =>
 af t52 true (fun Lj=>dE Us fun t65 =>
 Lj t65 AU none) (fun k=>k .undef AU none) fun XL lm aic =>
 aK t52 XL (Bo false) fun t66 =>
 av t66 (
 ae .sub (aa gD 0) (N .i64 1) fun t68 =>
 DY [t68] lm) (
 ae .gtr (aa xs 0) (aa gD 0) fun t71 =>
 av t71 (
 ai a0 a1 5 fun t78 =>
 aA lm t78 5 fun t79 =>
 ai a0 (aa gD 0) 5 fun t82 =>
 aA lm t82 5 fun t83 =>
 ai a0 (aa gD 0) 5 fun t84 =>
 aC lm t84 t79 5 fun Cz =>
 ai a0 a1 5 fun t85 =>
 aC Cz t85 t83 5 fun uo =>
 Q (.tup [(aa gD 0),(Bo true)]) uo) (
 ai a0 (aa gD 0) 5 fun t93 =>
 aA lm t93 5 fun t94 =>
 ai a0 (aa xs 0) 5 fun t97 =>
 aA lm t97 5 fun t98 =>
 ai a0 (aa xs 0) 5 fun t99 =>
 aC lm t99 t94 5 fun Ml =>
 ai a0 (aa gD 0) 5 fun jJ =>
 aC Ml jJ t98 5 fun xD =>
 ae .add (aa xs 0) (N .i64 1) fun Mm =>
 ae .sub (aa gD 0) (N .i64 1) fun Bt =>
 aN (fun OX FN FP =>
 aN (fun PD mX wR =>
 ae .leq (aa mX 0) (aa FN 1) fun t107 =>
 af t107 true (fun Mo=>Mo a4 wR none) (fun k=>k .undef wR none) fun t109 xI amq =>
 af t107 true (fun Ey=>Ey a0 xI none) (fun k=>k .undef xI none) fun xh Ac Zj =>
 af t107 true (fun vY=>vY (aa mX 0) Ac none) (fun k=>k .undef Ac none) fun qX wD ank =>
 af t107 true (fun Zh=>ai xh qX 5 fun jQ =>
 Zh jQ wD none) (fun k=>k .undef wD none) fun K4 Fg anF =>
 af t107 true (fun Ns=>aA Fg K4 5 fun uA =>
 Ns uA Fg none) (fun k=>k .undef Fg none) fun Lp sH aov =>
 af t107 true (fun Ot=>Ot a0 sH none) (fun k=>k .undef sH none) fun FM vS anJ =>
 af t107 true (fun aaf=>aaf a1 vS none) (fun k=>k .undef vS none) fun AY uj amX =>
 af t107 true (fun MB=>ai FM AY 5 fun t116 =>
 MB t116 uj none) (fun k=>k .undef uj none) fun Bd rY agd =>
 af t107 true (fun OB=>aA rY Bd 5 fun t117 =>
 OB t117 rY none) (fun k=>k .undef rY none) fun LF uh agi =>
 ah t107 true (fun Ou=>bT cv t109 [Lp,LF] uh fun Uq EB =>
 Ou Uq EB) (fun k=>k .undef uh) fun J8 zM =>
 af t107 true (fun N9=>ae .lss J8 (N .i64 0) fun t119 =>
 N9 t119 zM none) (fun k=>k .undef zM none) fun Kj Oj aoa =>
 aK t107 Kj (Bo false) fun uR =>
 av uR (
 ae .add (aa mX 0) (N .i64 1) fun uP =>
 PD [uP] Oj) (
 aN (fun Ky iE Fj =>
 ae .leq (aa mX 0) (aa iE 0) fun gJ =>
 af gJ true (fun Zx=>Zx a4 Fj none) (fun k=>k .undef Fj none) fun t127 zK af0 =>
 af gJ true (fun Nh=>Nh a0 zK none) (fun k=>k .undef zK none) fun EW Ce agv =>
 af gJ true (fun MH=>MH (aa iE 0) Ce none) (fun k=>k .undef Ce none) fun uF NK anN =>
 af gJ true (fun ZB=>ai EW uF 5 fun t130 =>
 ZB t130 NK none) (fun k=>k .undef NK none) fun KM yg agG =>
 af gJ true (fun Mw=>aA yg KM 5 fun t131 =>
 Mw t131 yg none) (fun k=>k .undef yg none) fun Lv xW aga =>
 af gJ true (fun NP=>NP a0 xW none) (fun k=>k .undef xW none) fun Ao ym agn =>
 af gJ true (fun MJ=>MJ a1 ym none) (fun k=>k .undef ym none) fun Mf MM am3 =>
 af gJ true (fun aaa=>ai Ao Mf 5 fun Bv =>
 aaa Bv MM none) (fun k=>k .undef MM none) fun Lg FT anf =>
 af gJ true (fun aaz=>aA FT Lg 5 fun adF =>
 aaz adF FT none) (fun k=>k .undef FT none) fun LZ BJ agE =>
 ah gJ true (fun OM=>bT cv t127 [Lv,LZ] BJ fun KI abz =>
 OM KI abz) (fun k=>k .undef BJ) fun Ke OC =>
 af gJ true (fun Oe=>ae .lss Ke (N .i64 0) fun L9 =>
 Oe L9 OC none) (fun k=>k .undef OC none) fun K8 zB afX =>
 af gJ true (fun MP=>dE K8 fun t138 =>
 MP t138 zB none) (fun k=>k .undef zB none) fun Mj mD afY =>
 aK gJ Mj (Bo false) fun t139 =>
 av t139 (
 ae .sub (aa iE 0) (N .i64 1) fun t141 =>
 Ky [t141] mD) (
 ae .gtr (aa mX 0) (aa iE 0) fun adB =>
 av adB (
 ai a0 a1 5 fun adX =>
 aA mD adX 5 fun adP =>
 ai a0 (aa iE 0) 5 fun t173 =>
 aA mD t173 5 fun aeH =>
 ai a0 (aa iE 0) 5 fun t175 =>
 aC mD t175 adP 5 fun aal =>
 ai a0 a1 5 fun afI =>
 aC aal afI aeH 5 fun abv =>
 Q (.tup [(aa iE 0),(Bo false)]) abv) (
 ai a0 (aa iE 0) 5 fun afa =>
 aA mD afa 5 fun t152 =>
 ai a0 (aa mX 0) 5 fun ae6 =>
 aA mD ae6 5 fun t156 =>
 ai a0 (aa mX 0) 5 fun t157 =>
 aC mD t157 t152 5 fun EO =>
 ai a0 (aa iE 0) 5 fun adR =>
 aC EO adR t156 5 fun aby =>
 ae .add (aa mX 0) (N .i64 1) fun t160 =>
 ae .sub (aa iE 0) (N .i64 1) fun t162 =>
 OX [t160,t162] aby))) [(aa FN 1)] Oj)) [(aa FN 0)] FP) [Mm,Bt] xD))) [t31] dm)) [t29] M_0
def xS (a0:AV) (M0:RM) (Q:ak) : Prop :=
 jC .neq a0 a0 fun t5 =>
 Q t5 M0
def Lx (p1:Nat) (p2:aj) (a0 a1:AV) (M0:RM) (Q:ak) : Prop :=
 jr p1 a0 fun r f =>
 cz r f M0 fun t2 M =>
 jr p1 a1 fun r_0 f_1 =>
 cz r_0 f_1 M fun t3 M_2 =>
 aJ t2 2 fun t5 =>
 au M_2 t5 fun t6 =>
 aJ t3 2 fun t7 =>
 au M_2 t7 fun t8 =>
 jC .neq t6 t8 fun t9 =>
 av t9 (
 aJ t2 2 fun bW =>
 au M_2 bW fun bQ =>
 aJ t3 2 fun t12 =>
 au M_2 t12 fun t13 =>
 jC .lss bQ t13 fun t14 =>
 Q t14 M_2) (
 aJ t2 3 fun t15 =>
 au M_2 t15 fun t16 =>
 aJ t3 3 fun t17 =>
 au M_2 t17 fun t18 =>
 jC .neq t16 t18 fun t19 =>
 av t19 (
 aJ t2 3 fun t20 =>
 au M_2 t20 fun t21 =>
 aJ t3 3 fun t22 =>
 au M_2 t22 fun t23 =>
 jC .lss t21 t23 fun t24 =>
 Q t24 M_2) (
 aJ t2 0 fun t25 =>
 aA M_2 t25 2 fun t26 =>
 aJ t3 0 fun t27 =>
 aA M_2 t27 2 fun t28 =>
 p2 [t26,t28] M_2 fun t29 M_3 =>
 Q t29 M_3))
def Dj (a0:AV) (M0:RM) (Q:ak) : Prop :=
 ae .neq a0 a0 fun t5 =>
 Q t5 M0
def mE (cv:(FuncId→aj)) (a0 a1 a2 a3 a4:AV) (M0:RM) (Q:ak) : Prop :=
 aN (fun next xs M =>
 ae .mul (N .i64 2) (aa xs 0) fun t14 =>
 ae .add t14 (N .i64 1) fun t15 =>
 ae .geq t15 a2 fun t18 =>
 av t18 (
 Q (.tup []) M) (
 bV (fun J =>
 ae .add t15 (N .i64 1) fun t20 =>
 ae .lss t20 a2 fun t22 =>
 af t22 true (fun k=>k a4 M none) (fun k=>k .undef M none) fun t24 M_0 b =>
 af t22 true (fun k_1=>k_1 a0 M_0 none) (fun k=>k .undef M_0 none) fun t25 M_2 b_3 =>
 af t22 true (fun k_4=>k_4 a3 M_2 none) (fun k=>k .undef M_2 none) fun t26 M_5 b_6 =>
 af t22 true (fun k_7=>k_7 t15 M_5 none) (fun k=>k .undef M_5 none) fun t27 M_8 b_9 =>
 af t22 true (fun l9=>ae .add t26 t27 fun t28 =>
 l9 t28 M_8 none) (fun k=>k .undef M_8 none) fun Tp gX Ho =>
 af t22 true (fun gu=>ai t25 Tp 5 fun t29 =>
 gu t29 gX none) (fun k=>k .undef gX none) fun UD bX yZ =>
 af t22 true (fun nT=>aA bX UD 5 fun t30 =>
 nT t30 bX none) (fun k=>k .undef bX none) fun WE pU Z5 =>
 af t22 true (fun nN=>nN a0 pU none) (fun k=>k .undef pU none) fun t31 jK KT =>
 af t22 true (fun nL=>nL a3 jK none) (fun k=>k .undef jK none) fun t32 iC Ef =>
 af t22 true (fun jO=>jO t15 iC none) (fun k=>k .undef iC none) fun t33 iJ Fu =>
 af t22 true (fun ji=>ae .add t32 t33 fun t34 =>
 ji t34 iJ none) (fun k=>k .undef iJ none) fun Uh gq WG =>
 af t22 true (fun kX=>ae .add Uh (N .i64 1) fun t35 =>
 kX t35 gq none) (fun k=>k .undef gq none) fun UZ dm Hg =>
 af t22 true (fun wY=>ai t31 UZ 5 fun t36 =>
 wY t36 dm none) (fun k=>k .undef dm none) fun Tn fe Di =>
 af t22 true (fun xB=>aA fe Tn 5 fun t37 =>
 xB t37 fe none) (fun k=>k .undef fe none) fun WU jy aed =>
 ah t22 true (fun J7=>bT cv t24 [WE,WU] jy fun t38 iL =>
 J7 t38 iL) (fun k=>k .undef jy) fun UE jk =>
 af t22 true (fun Ga=>ae .lss UE (N .i64 0) fun t39 =>
 Ga t39 jk none) (fun k=>k .undef jk none) fun Ur gU PH =>
 aK t22 Ur (Bo false) fun t40 =>
 av t40 (
 ae .add t15 (N .i64 1) fun t42 =>
 J [t42] gU) (
 J [t15] gU)) (fun zH mR =>
 ae .add a3 (aa xs 0) fun t47 =>
 ai a0 t47 5 fun t48 =>
 aA mR t48 5 fun t49 =>
 ae .add a3 (aa zH 0) fun t53 =>
 ai a0 t53 5 fun t54 =>
 aA mR t54 5 fun t55 =>
 bT cv a4 [t49,t55] mR fun t56 fJ =>
 ae .lss t56 (N .i64 0) fun t57 =>
 dE t57 fun t58 =>
 av t58 (
 Q (.tup []) fJ) (
 ae .add a3 (aa xs 0) fun t62 =>
 ae .add a3 (aa zH 0) fun t66 =>
 ae .add a3 (aa zH 0) fun t70 =>
 ai a0 t70 5 fun t71 =>
 aA fJ t71 5 fun t72 =>
 ae .add a3 (aa xs 0) fun t76 =>
 ai a0 t76 5 fun t77 =>
 aA fJ t77 5 fun t78 =>
 ai a0 t62 5 fun t79 =>
 aC fJ t79 t72 5 fun pO =>
 ai a0 t66 5 fun t80 =>
 aC pO t80 t78 5 fun xA =>
 next [(aa zH 0)] xA)))) [a1] M0
def jD (p1:aj) (a0 a1 a2 a3:AV) (M0:RM) (Q:ak) : Prop :=
 ae .sub a1 (N .i64 1) fun bQ =>
 ae .add a1 (N .i64 1) fun t14 =>
 p1 [a0,bQ,a1,t14,a2,a3] M0 fun t17 M =>
 Q t17 M
def oL (p1:aj) (a0 a1 a2 a3 a4 a5:AV) (M0:RM) (Q:ak) : Prop :=
 p1 [a0,a1,a2,a4,a5] M0 fun t19 M =>
 eB t19 0 fun t20 =>
 eB t19 1 fun t21 =>
 p1 [a0,t21,a3,a4,a5] M fun t28 M_0 =>
 eB t28 0 fun t29 =>
 eB t28 1 fun t30 =>
 p1 [a0,t20,t29,a4,a5] M_0 fun t37 M_1 =>
 eB t37 0 fun t38 =>
 eB t37 1 fun t39 =>
 Q t39 M_1
def oV (cv:(FuncId→aj)) (a0 a1 a2 a3 a4:AV) (M0:RM) (Q:ak) : Prop :=
 ai a0 a2 5 fun t15 =>
 aA M0 t15 5 fun t16 =>
 ai a0 a1 5 fun t19 =>
 aA M0 t19 5 fun t20 =>
 bT cv a4 [t16,t20] M0 fun t21 M =>
 ae .lss t21 (N .i64 0) fun t22 =>
 av t22 (
 cB a3 fun t24 =>
 au M t24 fun t25 =>
 ae .add t25 (N .i64 1) fun t26 =>
 cB a3 fun t27 =>
 aC M t27 t26 1 fun M_0 =>
 Q (.tup [a2,a1]) M_0) (
 Q (.tup [a1,a2]) M)
end Go.Ab.Crw
