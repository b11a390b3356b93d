/- Part 3 of the ground of the proofs of this seat (texts R7 to WDot). By an AI agent. -/
import Derived.Test.YtlhlnchhaminjaaGreatByt2
import Derived.Scope
set_option linter.unusedVariables false
set_option linter.unusedSimpArgs false
namespace Go.Ab
open Go Go.RowKit
structure qG where
 vals:Tree AV
 M:RM
 cz:Tree (Option Nat)
abbrev KR:=AV→RM→Option Nat→Prop
def guardOf (ops:Array Oper) (wr:Tree Nat) (vals:Tree AV) (r:Row) : Option (Option (AV × Bool)) :=
 match r.o.guard with
 | none=>some none
 | some (j,want)=>match (ops[j]?).bind (·.dst) with
   | none=>none
   | some d=>match Nat.testBit r.m j,wr.get d with
     | true,some j'=>match Nat.beq j' j with
       | true=>some (some ((vals.get j).getD .top,want))
       | false=>none
     | _,_=>none
abbrev af (x:AV) (want:Bool) (f g:ak→Prop) (k:ak) : Prop:=nJ x want f g k
abbrev ah (x:AV) (want:Bool) (f g:KR→Prop) (k:KR) : Prop:=nJ x want f g k
abbrev BG (x:AV) (want:Bool) (f g:Prop→Prop) (k:Prop) : Prop:=nJ x want f g k
def zW {α:Type} (g:Option (Option (AV × Bool))) (f skip:α→Prop) (k:α) : Prop :=
 match g with
 | none=>False
 | some none=>f k
 | some (some (x,want))=>nJ x want f skip k
def wB (x:RB) (mk:Nat→AV) (M:RM) (k:KR) : Prop:=k (mk M.next) (M.push x) (some M.next)
def zm (b:Option Nat) (M:RM) (x:RB) (mk:Nat→AV) (v:AV) : Prop :=
 match b with
 | some b=>M.heap b=some x∧mk b=v
 | none=>False
def aoL (P:Program) (r:Row) (e:Operand→AV) (M:RM) (k:KR) : Prop :=
 match r.kd with
 | .pure | .read=>fT P r.o e M (fun v=>k v M none)
 | .alloc=>tX P r.o e (fun x mk=>wB x mk M k)
 | .uW=>False
def JG (P:Program) (ops:Array Oper) (T0:Tree AV) (wr:Tree Nat) (lev:Nat) : List Row→qG→(qG→Prop)→Prop
 | [],s,K=>K s
 | r :: rest,s,K=>match Nat.beq r.lev lev && !kJ r.kd with
   | false=>JG P ops T0 wr lev rest s K
   | true=>zW (guardOf ops wr s.vals r) (aoL P r (je T0 wr s.vals r.m) s.M) (fun k=>k .undef s.M none) (fun v M' b=>JG P ops T0 wr lev rest { vals:=s.vals.set r.i v,M:=M',cz:=s.cz.set r.i b } K)
def abp (P:Program) (ops:Array Oper) (T0:Tree AV) (wr:Tree Nat) (r:Row) (s:qG) (K:Prop) : Prop :=
 match r.kd with
 | .read=>zW (guardOf ops wr s.vals r) (fun k=>fT P r.o (je T0 wr s.vals r.m) s.M (fun v=>v=(s.vals.get r.i).getD .top∧k)) (fun k=>k) K
 | .alloc=>zW (guardOf ops wr s.vals r) (fun k=>tX P r.o (je T0 wr s.vals r.m) (fun x mk=>zm ((s.cz.get r.i).getD none) s.M x mk ((s.vals.get r.i).getD .top)∧k)) (fun k=>k) K
 | _=>K
def Rv (P:Program) (ops:Array Oper) (T0:Tree AV) (ri:RI) (lev:Nat) : List Row→qG→Prop→Prop
 | [],_,K=>K
 | r :: rest,s,K=>match Nat.ble r.lev lev && !kJ r.kd && lq ri.ms ri.es (lev + 1) r with
   | false=>Rv P ops T0 ri lev rest s K
   | true=>abp P ops T0 ri.wr r s (Rv P ops T0 ri lev rest s K)
def yz (P:Program) (ops:Array Oper) (T0:Tree AV) (ri:RI) : Nat→List Nat→qG→(qG→Prop)→Prop
 | lev,[],s,K=>JG P ops T0 ri.wr lev ri.rows s K
 | lev,x :: rest,s,K=>JG P ops T0 ri.wr lev ri.rows s (fun s1=>match nth ri.rows x with
   | none=>False
   | some r=>zW (guardOf ops ri.wr s1.vals r) (kK P r.o (je T0 ri.wr s1.vals r.m) s1.M) (fun k=>k .undef s1.M)
     (fun v M'=>Rv P ops T0 ri lev ri.rows { vals:=s1.vals.set x v,M:=M',cz:=s1.cz } (yz P ops T0 ri (lev + 1) rest { vals:=s1.vals.set x v,M:=M',cz:=s1.cz } K)))
def abg (P:Program) (nt:Nat) (ops:Array Oper) (T:Tree AV) (M:RM) (K:Tree AV→RM→Prop) : Prop :=
 match zF P nt ops with
 | none=>False
 | some ri=>match ri.rows.all (vk ri) with
   | false=>False
   | true=>yz P ops T ri 0 ri.es { vals:=.leaf,M,cz:=.leaf } (fun s=>K (DW T s.vals ri.rows) s.M)
def Zq (g:Option (AV × Bool)) : Prop:=match g with | none=>True | some (x,want)=>x=Bo want
def LQ (g:Option (AV × Bool)) : Prop:=match g with | none=>False | some (x,want)=>x=.undef∨∃ b,x=Bo b∧b≠want
theorem vX {α:Type} {g:Option (Option (AV × Bool))} {f skip:α→Prop} {k:α} (h:zW g f skip k) : ∃ g',g=some g'∧((Zq g'∧f k)∨(LQ g'∧skip k)):=by
 unfold zW at h
 split at h <;> first | (cases h; done) | skip
 ·exact⟨none,rfl,.inl ⟨trivial,h⟩⟩
 ·rename_i x want
  refine⟨_,rfl, ?_⟩
  unfold nJ at h
  split at h <;> first | (cases h; done) | skip
  ·split at h
   ·rename_i e; subst e; exact .inl ⟨rfl,h⟩
   ·rename_i b e; exact .inr ⟨.inr ⟨b,rfl,e⟩,h⟩
  ·exact .inr ⟨.inl rfl,h⟩
section
variable {P:Program} {nt:Nat} {ops:Array Oper} {ri:RI} {T0:Tree AV}
def vG (P:Program) (ops:Array Oper) (T0:Tree AV) (wr:Tree Nat) (s:qG) (r:Row) : Prop :=
 ∃ g,guardOf ops wr s.vals r=some g∧((Zq g∧∃ v,s.vals.get r.i=some v∧match r.kd with
   | .pure=>∀ M,nL P r.o (je T0 wr s.vals r.m) M v
   | .read=>nL P r.o (je T0 wr s.vals r.m) s.M v
   | .alloc=>∃ x mk b,Jm P r.o (je T0 wr s.vals r.m) x mk∧s.cz.get r.i=some (some b)∧s.M.heap b=some x∧mk b=v
   | .uW=>False)∨(LQ g∧s.vals.get r.i=some .undef))
theorem nL.sub {o:Oper} {e:Operand→AV} {M M' : RM} {v:AV} (h:nL P o e M v) (hs:M.Sub M') : nL P o e M' v :=
 fun ρ w c M2 h2 hw he=>h ρ w c M2 (hs.trans h2) hw he
theorem Cg {vals OT:Tree AV} {wr:Tree Nat} {m:Nat} (h:∀ j,Nat.testBit m j=true→OT.get j=vals.get j) : je T0 wr OT m=je T0 wr vals m:=by
 funext x
 cases x with
 | tmp t =>
   simp only[je]
   cases hw:wr.get t with
   | none=>rfl
   | some j =>
     simp only
     cases hb:Nat.testBit m j with
     | false=>rfl
     | true=>simp only[h j hb]
 | const v=>rfl
 | global g=>rfl
 | func f=>rfl
theorem qO {vals OT:Tree AV} {wr:Tree Nat} {r:Row} (h:∀ j,Nat.testBit r.m j=true→OT.get j=vals.get j) : guardOf ops wr OT r=guardOf ops wr vals r:=by
 unfold guardOf
 split
 ·rfl
 ·rename_i j want hg
  split
  ·rfl
  ·split
   ·rename_i hb _
    simp only[h j hb]
   ·rfl
theorem vG.keep {wr:Tree Nat} {s s' : qG} {r:Row} (h:vG P ops T0 wr s r) (hv:∀ j,Nat.testBit r.m j=true∨j=r.i→s'.vals.get j=s.vals.get j) (hb:s'.cz.get r.i=s.cz.get r.i) (hs:s.M.Sub s'.M) : vG P ops T0 wr s' r:=by
 obtain⟨g,hg,h⟩:=h
 have hi:=hv r.i (.inr rfl)
 have he:je T0 wr s'.vals r.m=je T0 wr s.vals r.m:=Cg fun j hj=>hv j (.inl hj)
 refine⟨g,by rw[← hg]; exact qO fun j hj=>hv j (.inl hj), ?_⟩
 rcases h with⟨hon,v,hvi,hk⟩ | ⟨hoff,hvi⟩
 ·refine .inl ⟨hon,v,by rw[hi]; exact hvi, ?_⟩
  rw[he]
  cases hkd:r.kd with
  | pure=>rw[hkd] at hk; exact hk
  | read=>rw[hkd] at hk; exact hk.sub hs
  | alloc =>
    rw[hkd] at hk
    obtain⟨x,mk,b,h1,h2,h3,h4⟩:=hk
    exact⟨x,mk,b,h1,by rw[hb]; exact h2,hs.2 _ _ h3,h4⟩
  | uW=>rw[hkd] at hk; exact hk
 ·exact .inr ⟨hoff,by rw[hi]; exact hvi⟩
def Fr (M:RM) : Prop:=∀ b,M.next≤b→M.heap b=none
theorem Fr.push {M:RM} (h:Fr M) (x:RB) : Fr (M.push x):=by
 intro b hb
 simp only[RM.push] at hb ⊢
 rw[if_neg (by omega)]
 exact h b (by omega)
theorem Fr.sub {M:RM} (h:Fr M) (x:RB) : M.Sub (M.push x):=by
 refine⟨rfl,fun b y hy=>?_⟩
 simp only[RM.push]
 split
 ·rename_i e; subst e; rw[h _ (Nat.le_refl _)] at hy; cases hy
 ·exact hy
theorem eX.fr {ρ:Ren} {M:RM} {w:World} (h:eX P ρ M w) : Fr M:=by
 intro b hb
 have hlo:=h.lo_le
 obtain⟨A,hA⟩:=h
 cases hx:M.heap b with
 | none=>rfl
 | some x =>
   rcases hA.blk b x hx with⟨y,hy,_⟩ | ⟨c,_,hlt,_⟩
   ·have:=hA.rel.top b y hy
    rw[hA.next] at this; omega
   ·omega
theorem Qa {ρ:Ren} {M:RM} {w:World} {o:Oper} {e:Operand→AV} {x:RB} {mk:Nat→AV} (h:eX P ρ M w) (hm:Jm P o e x mk) : eX P ρ (M.push x) w:=by
 obtain⟨y,_,hle⟩:=hm
 exact h.aj8 x y hle
structure ZC (P:Program) (ops:Array Oper) (T0:Tree AV) (ri:RI) (lev:Nat) (i0:Nat) (s s' : qG) : Prop where
 keep:∀ j,(∀ r,ri.rows[j]?=some r→i0≤j→¬ (r.lev=lev∧kJ r.kd=false))→s'.vals.get j=s.vals.get j∧s'.cz.get j=s.cz.get j
 done:∀ j r,ri.rows[j]?=some r→i0≤j→r.lev=lev→kJ r.kd=false→vG P ops T0 ri.wr s' r
 sub:s.M.Sub s'.M
 fr:Fr s'.M
 rel:∀ ρ w,eX P ρ s.M w→eX P ρ s'.M w
 next:s.M.next≤s'.M.next
 cz:∀ j b,s'.cz.get j=some (some b)→s.cz.get j=some (some b)∨(s.M.next≤b∧b<s'.M.next∧i0≤j∧∃ r,ri.rows[j]?=some r)
 Cf:∀ j1 j2 b,s'.cz.get j1=some (some b)→s'.cz.get j2=some (some b)→s.M.next≤b→j1=j2
theorem BQ (ht:oG P nt ops ri) {lev:Nat} {K:qG→Prop} : ∀ (rows:List Row) (i0:Nat) (s:qG),ri.rows.drop i0=rows→Fr s.M→(∀ j b,s.cz.get j=some (some b)→b<s.M.next)→JG P ops T0 ri.wr lev rows s K→∃ s',K s'∧ZC P ops T0 ri lev i0 s s'
 | [],i0,s,hd,hf,hbd,h=>by
   refine⟨s,h,fun _ _=>⟨rfl,rfl⟩,fun j r hr hj=>?_,RM.Sub.refl _,hf,fun _ _ h=>h,Nat.le_refl _,fun j b hb=>.inl hb,fun j1 j2 b h1 _ hb=>absurd (hbd j1 b h1) (by omega)⟩
   have hlen:ri.rows.length≤i0:=List.drop_eq_nil_iff.1 hd
   have:=(List.getElem?_eq_some_iff.1 hr).1
   omega
 | r :: rows,i0,s,hd,hf,hbd,h=>by
   have hri:ri.rows[i0]?=some r:=by
    have h0:(ri.rows.drop i0)[0]?=some r:=by rw[hd]; rfl
    rw[List.getElem?_drop] at h0; exact h0
   have hd' : ri.rows.drop (i0 + 1)=rows:=by
    rw[← List.drop_drop (i:=1) (j:=i0)] <;> rw[hd]; rfl
   obtain⟨e1,e2,e3,e4,e5⟩:=ht.row hri
   simp only[JG] at h
   split at h
   ·rename_i hk
    obtain⟨s',hK,hp⟩:=BQ ht rows (i0 + 1) s hd' hf hbd h
    have hne:¬ (r.lev=lev∧kJ r.kd=false):=by
     rintro⟨a,b⟩
     rw[sV a,b] at hk
     cases hk
    refine⟨s',hK,fun j hj=>hp.keep j fun r' hr' hj'=>hj r' hr' (by omega),fun j r' hr' hj hl he=>?_,hp.sub,hp.fr,hp.rel,hp.next,fun j b hb=>(hp.cz j b hb).imp id fun⟨a,b,c,d⟩=>⟨a,b,by omega,d⟩,hp.Cf⟩
    rcases Nat.lt_or_ge i0 j with hlt | hge
    ·exact hp.done j r' hr' hlt hl he
    ·have:j=i0:=by omega
     subst this
     rw[hri] at hr'; cases hr'
     exact absurd ⟨hl,he⟩ hne
   ·rename_i hk
    simp only[Bool.and_eq_true,Bool.not_eq_true'] at hk
    have yO:=bQ hk.1
    obtain⟨g,hg,hcase⟩:=vX h
    -- whatever the row gives
    have fin:∀ (v:AV) (M' : RM) (b:Option Nat),s.M.Sub M'→Fr M'→s.M.next≤M'.next→(∀ ρ w,eX P ρ s.M w→eX P ρ M' w)→(∀ b',b=some b'→s.M.next≤b'∧b'<M'.next) →
      (∀ s2:qG,(∀ j,Nat.testBit r.m j=true→s2.vals.get j=s.vals.get j)→s2.vals.get r.i=some v→s2.cz.get r.i=some b→M'.Sub s2.M→vG P ops T0 ri.wr s2 r) →
      JG P ops T0 ri.wr lev rows { vals:=s.vals.set r.i v,M:=M',cz:=s.cz.set r.i b } K→∃ s',K s'∧ZC P ops T0 ri lev i0 s s':=by
     intro v M' b hsub hfr hnx hrel hb hok h
     obtain⟨s',hK,hp⟩:=BQ ht rows (i0 + 1) _ hd' hfr (fun j b' hj=>by
      rw[Tree.bR] at hj
      split at hj
      ·cases hj; exact(hb b' rfl).2
      ·exact Nat.lt_of_lt_of_le (hbd j b' hj) hnx) h
     have VZ:=hp.keep r.i (fun r' hr' hj'=>by omega)
     simp only[Tree.bR,if_true] at VZ
     refine⟨s',hK,fun j hj=>?_,fun j r' hr' hj hl he=>?_,hsub.trans hp.sub,hp.fr,fun ρ w h=>hp.rel ρ w (hrel ρ w h),Nat.le_trans hnx hp.next,fun j b' hb'=>?_,fun j1 j2 b' h1 h2 hb'=>?_⟩
     ·have hji:j≠r.i:=fun e=>hj r (by rw[e,e1]; exact hri) (by omega) ⟨yO,hk.2⟩
      obtain⟨k1,k2⟩:=hp.keep j fun r' hr' hj'=>hj r' hr' (by omega)
      simp only[Tree.bR,if_neg hji] at k1 k2
      exact⟨k1,k2⟩
     ·rcases Nat.lt_or_ge i0 j with hlt | hge
      ·exact hp.done j r' hr' hlt hl he
      ·have:j=i0:=by omega
       subst this
       rw[hri] at hr'; cases hr'
       refine hok s' (fun q hq=>?_) VZ.1 VZ.2 hp.sub
       have hqlt:q<j:=by
        have hc:Closed ops.toList (fun i=>i<j):=fun i o ho hi e he' hb'=>by have:=ht.zw i o ho e he' hb'; omega
        exact ht.ahead hc hri (fun e he' hb'=>ht.zw j r.o e2 e he' hb') hq
       have hqi:q≠r.i:=by omega
       have:=(hp.keep q fun r' hr' hj'=>by omega).1
       rw[this]
       simp only[Tree.bR,if_neg hqi]
     ·rcases hp.cz j b' hb' with k | ⟨k1,k2,k3,k4⟩
      ·simp only[Tree.bR] at k
       split at k
       ·rename_i e
        cases k
        obtain⟨q1,q2⟩:=hb b' rfl
        exact .inr ⟨q1,Nat.lt_of_lt_of_le q2 hp.next,by omega,r,by rw[e,e1]; exact hri⟩
       ·exact .inl k
      ·simp only at k1
       exact .inr ⟨by omega,k2,by omega,k4⟩
     ·rcases Nat.lt_or_ge b' M'.next with hlt | hge
      ·have q:∀ j,s'.cz.get j=some (some b')→j=r.i:=by
        intro j hj
        rcases hp.cz j b' hj with k | ⟨k1,_⟩
        ·simp only[Tree.bR] at k
         split at k
         ·assumption
         ·have:=hbd j b' k; omega
        ·simp only at k1; omega
       rw[q j1 h1,q j2 h2]
      ·exact hp.Cf j1 j2 b' h1 h2 hge
    rcases hcase with⟨hon,hv⟩ | ⟨hoff,hv⟩
    ·unfold aoL at hv
     have val:(r.kd=.pure∨r.kd=.read)→fT P r.o (je T0 ri.wr s.vals r.m) s.M (fun v=>JG P ops T0 ri.wr lev rows { vals:=s.vals.set r.i v,M:=s.M,cz:=s.cz.set r.i none } K)→∃ s',K s'∧ZC P ops T0 ri lev i0 s s':=by
      intro hkd hv
      obtain⟨v,hgv,hk2⟩:=DL hv
      refine fin v s.M none (RM.Sub.refl _) hf (Nat.le_refl _) (fun _ _ h=>h) (fun b' h=>by cases h) (fun s2 q1 q2 q3 q4=>?_) hk2
      refine⟨g,by rw[← hg]; exact qO q1,.inl ⟨hon,v,q2, ?_⟩⟩
      rw[Cg q1]
      rcases hkd with hkd | hkd
      ·rw[hkd]
       rcases hgv with hgv | ⟨hrd,_⟩
       ·exact hgv
       ·rw[← e5,hkd] at hrd; cases hrd
      ·rw[hkd]
       rcases hgv with hgv | ⟨_,hgv⟩
       ·exact hgv _
       ·exact hgv.sub q4
     split at hv
     ·exact val (.inl ‹_›) hv
     ·exact val (.inr ‹_›) hv
     ·rename_i hkd
      obtain⟨x,mk,hm,hk2⟩:=CO hv
      refine fin (mk s.M.next) (s.M.push x) (some s.M.next) (hf.sub x) (hf.push x) (by simp[RM.push]) (fun ρ w h=>Qa h hm) (fun b' h=>by cases h; simp[RM.push]) (fun s2 q1 q2 q3 q4=>?_) hk2
      refine⟨g,by rw[← hg]; exact qO q1,.inl ⟨hon,_,q2, ?_⟩⟩
      rw[Cg q1,hkd]
      exact⟨x,mk,s.M.next,hm,q3,q4.2 _ _ (by simp[RM.push]),rfl⟩
     ·cases hv
    ·refine fin .undef s.M none (RM.Sub.refl _) hf (Nat.le_refl _) (fun _ _ h=>h) (fun b' h=>by cases h) (fun s2 q1 q2 q3 q4=>?_) hv
     exact⟨g,by rw[← hg]; exact qO q1,.inr ⟨hoff,q2⟩⟩
end
section
variable {P:Program} {nt:Nat} {ops:Array Oper} {ri:RI} {T0:Tree AV}
theorem ab8 {wr:Tree Nat} {r:Row} {s s0:qG} {K:Prop} (h:abp P ops T0 wr r s K) (hold:vG P ops T0 wr s0 r) (hv:∀ j,Nat.testBit r.m j=true∨j=r.i→s.vals.get j=s0.vals.get j) (hb:s.cz.get r.i=s0.cz.get r.i) :
  K∧vG P ops T0 wr s r:=by
 obtain⟨g,hg,hold⟩:=hold
 have hi:=hv r.i (.inr rfl)
 have he:je T0 wr s.vals r.m=je T0 wr s0.vals r.m:=Cg fun j hj=>hv j (.inl hj)
 have hg' : guardOf ops wr s.vals r=some g:=by rw[← hg]; exact qO fun j hj=>hv j (.inl hj)
 have Tz:LQ g→Zq g→False:=by
  intro h1 h2
  unfold LQ at h1
  unfold Zq at h2
  split at h1
  ·exact h1
  ·simp only at h2
   rcases h1 with h1 | ⟨b,h1,h3⟩
   ·rw[h2] at h1; cases h1
   ·rw[h2] at h1; cases h1; exact h3 rfl
 have abe:∀ {K'},K'→LQ g∧s0.vals.get r.i=some .undef→K'∧vG P ops T0 wr s r:=fun k h=>⟨k,g,hg',.inr ⟨h.1,by rw[hi]; exact h.2⟩⟩
 unfold abp at h
 cases hkd:r.kd with
 | pure =>
   rw[hkd] at h
   refine⟨h,g,hg', ?_⟩
   rcases hold with⟨hon,v,hvi,hk⟩ | ⟨hoff,hvi⟩
   ·refine .inl ⟨hon,v,by rw[hi]; exact hvi, ?_⟩
    rw[hkd] at hk ⊢
    rw[he]; exact hk
   ·exact .inr ⟨hoff,by rw[hi]; exact hvi⟩
 | uW =>
   rcases hold with⟨hon,v,hvi,hk⟩ | ho
   ·rw[hkd] at hk; exact hk.elim
   ·rw[hkd] at h; exact abe h ho
 | read =>
   rw[hkd] at h
   obtain⟨g2,hg2,hcase⟩:=vX h
   rw[hg'] at hg2; cases hg2
   rcases hold with⟨hon,v,hvi,hk⟩ | ho
   ·rcases hcase with⟨_,hn⟩ | ⟨hoff,_⟩
    ·obtain⟨v',hgv,hv',hK⟩:=DL hn
     have hgv:nL P r.o (je T0 wr s.vals r.m) s.M v':=by rcases hgv with hgv | ⟨_,hgv⟩ <;> first | exact hgv _ | exact hgv
     rw[hi,hvi] at hv'
     simp only[Option.getD_some] at hv'
     subst hv'
     refine⟨hK,g,hg',.inl ⟨hon,v',by rw[hi]; exact hvi, ?_⟩⟩
     rw[hkd]; exact hgv
    ·exact(Tz hoff hon).elim
   ·rcases hcase with⟨hon,_⟩ | ⟨_,hK⟩
    ·exact(Tz ho.1 hon).elim
    ·exact abe hK ho
 | alloc =>
   rw[hkd] at h
   obtain⟨g2,hg2,hcase⟩:=vX h
   rw[hg'] at hg2; cases hg2
   rcases hold with⟨hon,v,hvi,hk⟩ | ho
   ·rcases hcase with⟨_,hn⟩ | ⟨hoff,_⟩
    ·obtain⟨x,mk,hm,hx,hK⟩:=CO hn
     rw[hkd] at hk
     obtain⟨x0,mk0,b,_,h2,_,_⟩:=hk
     rw[hb,h2] at hx
     simp only[Option.getD_some] at hx
     rw[hi,hvi] at hx
     simp only[Option.getD_some] at hx
     refine⟨hK,g,hg',.inl ⟨hon,v,by rw[hi]; exact hvi, ?_⟩⟩
     rw[hkd]
     exact⟨x,mk,b,hm,by rw[hb]; exact h2,hx.1,hx.2⟩
    ·exact(Tz hoff hon).elim
   ·rcases hcase with⟨hon,_⟩ | ⟨_,hK⟩
    ·exact(Tz ho.1 hon).elim
    ·exact abe hK ho
theorem Nj {lev:Nat} {s s0:qG} {K:Prop} : ∀ (rows:List Row),Rv P ops T0 ri lev rows s K →
  (∀ r∈rows,kJ r.kd=false→r.lev≤lev→lq ri.ms ri.es (lev + 1) r=true→vG P ops T0 ri.wr s0 r∧(∀ j,Nat.testBit r.m j=true∨j=r.i→s.vals.get j=s0.vals.get j)∧s.cz.get r.i=s0.cz.get r.i) →
  K∧∀ r∈rows,kJ r.kd=false→r.lev≤lev→lq ri.ms ri.es (lev + 1) r=true→vG P ops T0 ri.wr s r
 | [],h,_=>⟨h,fun r hr=>by cases hr⟩
 | r :: rows,h,ho=>by
   simp only[Rv] at h
   split at h
   ·rename_i hc
    obtain⟨h1,h2⟩:=Nj rows h fun r' hr'=>ho r' (.tail _ hr')
    refine⟨h1,fun r' hr' e1 e2 e3=>?_⟩
    rcases List.mem_cons.1 hr' with e | hr'
    ·subst e
     rw[bH.2 e2,e1,e3] at hc
     cases hc
    ·exact h2 r' hr' e1 e2 e3
   ·rename_i hc
    simp only[Bool.and_eq_true,Bool.not_eq_true'] at hc
    obtain⟨⟨c1,c2⟩,c3⟩:=hc
    obtain⟨o1,o2,o3⟩:=ho r (.head _) c2 (bL c1) c3
    obtain⟨h1,h2⟩:=ab8 h o1 o2 o3
    obtain⟨h3,h4⟩:=Nj rows h1 fun r' hr'=>ho r' (.tail _ hr')
    refine⟨h3,fun r' hr' e1 e2 e3=>?_⟩
    rcases List.mem_cons.1 hr' with e | hr'
    ·subst e; exact h2
    ·exact h4 r' hr' e1 e2 e3
theorem ajw {ρ:Ren} {i:iQ} {x:RB} {y y' : dz} {ob:Obj} (h:Ap x y) (h' : Ap x y') (hb:jZ P ρ i y ob) : jZ P ρ i y' ob:=by
 cases x with
 | row l opn elem fz =>
   cases y <;> first | exact h.elim | skip
   cases y' <;> first | exact h'.elim | skip
   obtain⟨rfl,rfl,rfl,rfl,h5⟩:=h
   obtain⟨h1,rfl,rfl,rfl,h5'⟩:=h'
   subst h1
   obtain⟨c,fr,rfl,hr⟩:=hb
   refine⟨c,fr,rfl,hr.size,fun k u hk=>?_,hr.free,hr.mark,hr.opn,hr.sh0⟩
   have hlt:=BO hk
   have hv:l[k]?=some l[k]:=by simp[hlt]
   have e1:=h5' k _ hv
   rw[hk] at e1; cases e1
   exact hr.val k _ (h5 k _ hv)
 | ro c=>cases y <;> exact h.elim
 | map es c =>
   cases y <;> first | exact h.elim | skip
   cases y' <;> first | exact h'.elim | skip
   obtain⟨rfl,rfl⟩:=h
   obtain⟨rfl,rfl⟩:=h'
   exact hb
 | iter m a b c =>
   cases y <;> first | exact h.elim | skip
   cases y' <;> first | exact h'.elim | skip
   obtain⟨rfl,rfl,rfl,rfl⟩:=h
   obtain⟨rfl,rfl,rfl,rfl⟩:=h'
   exact hb
 | mX s p =>
   cases y <;> first | exact h.elim | skip
   cases y' <;> first | exact h'.elim | skip
   obtain⟨rfl,rfl⟩:=h
   obtain⟨rfl,rfl⟩:=h'
   exact hb
theorem acD {ρ:Ren} {M:RM} {w:World} {b:Nat} {x:RB} {y:dz} {ob:Obj} {i:iQ} (hw:eX P ρ M w) (hi:i.cb=w.heap.size) (hb:ρ b=none) (hlt:b<M.next) (hx:M.heap b=some x) (hle:Ap x y)
  (hrel:jZ P ρ i y ob) : eX P (ρ.add b i) M (w.alloc ob)∧Step M.lo b ρ w (ρ.add b i) (w.alloc ob):=by
 obtain⟨A,hA⟩:=hw
 rcases hA.blk b x hx with⟨y',hy',VU⟩ | ⟨c,rfl,_⟩
 ·obtain⟨h1,h2⟩:=MN hA.rel hA.size hi hb (by rw[hA.next]; exact hlt) hy' ((ajw hle VU hrel).mono (Ren.vR hb))
  have:=hA.size
  refine⟨⟨A,hA.next,h1,by simp; omega,fun c z hz=>?_,fun c hc=>?_⟩,h2⟩
  ·rcases hA.blk c z hz with k | ⟨d,rfl,hlt,elem,fr,hh⟩
   ·exact .inl k
   ·exact .inr ⟨d,rfl,hlt,elem,fr,by rw[heap_alloc_old w ob c (by omega)]; exact hh⟩
  ·unfold Ren.add
   rw[if_neg (fun e=>by subst e; rw[hA.old _ hc] at hb; cases hb)]
   exact hA.old c hc
 ·cases y <;> exact hle.elim
structure IP (P:Program) (nt:Nat) (ops:Array Oper) (ri:RI) (T0:Tree AV) (M0:RM) (ρ0:Ren) (w0:World) (k:Nat) (done rest:List Nat) (s:qG) (S:Nat→Prop) (ρ:Ren) (a:Act) (w:World) : Prop where
 es:ri.es=done++rest
 len:done.length=k
 closed:Closed ops.toList S
 dn:∀ x∈done,S x
 rs:∀ x∈rest,¬ S x
 lev:∀ (j:Nat) (r:Row),ri.rows[j]?=some r→kJ r.kd=false→S j→r.lev≤k
 size:a.tmps.size=nt
 defers:a.defers=[]
 slot:Kv ρ T0 ri.wr s.vals S a
 nE:eX P ρ s.M w
 step:Step M0.lo M0.next ρ0 w0 ρ w
 base:s.M.base=M0.base
 next:M0.next≤s.M.next
 bid:∀ j b,s.cz.get j=some (some b)→M0.next≤b∧b<s.M.next∧(¬ S j→ρ b=none)∧j<ops.size
 Cf:∀ j1 j2 b,s.cz.get j1=some (some b)→s.cz.get j2=some (some b)→j1=j2
variable {M0:RM} {ρ0:Ren} {w0:World} {k:Nat} {done rest:List Nat} {s:qG} {S:Nat→Prop} {ρ:Ren} {a:Act} {w:World}
theorem adq (ht:oG P nt ops ri) (hI:IP P nt ops ri T0 M0 ρ0 w0 k done rest s S ρ a w) {i:Nat} {r:Row} (hr:ri.rows[i]?=some r) (hns:¬ S i) (hd:∀ e∈r.o.after.toList,Region.binds .any e=true→S e.on)
  (hok:vk ri r=true) : ∀ x∈r.o.op.operands,ax ρ (je T0 ri.wr s.vals r.m x) (a.eval x):=by
 intro x hx
 have hx' : Jj ri r x=true:=by
  unfold vk at hok
  exact List.all_eq_true.1 hok x (by simpa using hx)
 cases x with
 | tmp t =>
   obtain⟨h1,h2⟩:=hI.slot t
   simp only[je,Act.eval]
   simp only[Jj] at hx'
   cases hw:ri.wr.get t with
   | none =>
     simp only
     exact h2 fun j hj=>by rw[hw] at hj; cases hj
   | some j =>
     rw[hw] at hx'
     simp only
     cases hb:Nat.testBit r.m j with
     | true =>
       simp only
       exact h1 j hw (ht.ahead hI.closed hr hd hb)
     | false =>
       simp only
       refine h2 fun j' hj'=>?_
       rw[hw] at hj'; cases hj'
       simp only[hb,Bool.false_or,Bool.or_eq_true] at hx'
       obtain⟨e1,_⟩:=ht.row hr
       rcases hx' with hx' | hx'
       ·rw[bQ hx',e1]; exact hns
       ·intro hS
        rw[dP,e1] at hx'
        obtain⟨o,ho,_⟩:=ht.wrs t j hw
        exact hns (ht.ED hI.closed hS ho hx')
 | const v =>
   simp only[je,oH,Act.eval]
   cases hv:kP v with
   | none=>exact .top _
   | some u=>exact jw hv
 | global g=>exact .top _
 | func f=>exact .fn _ _ _ _ _ rfl .nil .nil
theorem Ps (ht:oG P nt ops ri) (hI:IP P nt ops ri T0 M0 ρ0 w0 k done rest s S ρ a w) {i:Nat} {r:Row} (hr:ri.rows[i]?=some r) (hd:∀ e∈r.o.after.toList,Region.binds .any e=true→S e.on) {g:Option (AV × Bool)}
  (hg:guardOf ops ri.wr s.vals r=some g) : (Zq g→Region.wanted r.o (yielded ops a.tmps)=true)∧(LQ g→Region.wanted r.o (yielded ops a.tmps)=false):=by
 unfold guardOf at hg
 unfold Region.wanted
 split at hg
 ·rename_i hgu; simp only[hgu]; cases hg
  exact⟨fun _=>trivial,fun h=>h.elim⟩
 ·rename_i j want hgu
  simp only[hgu]
  split at hg <;> first | (cases hg; done) | skip
  rename_i d hdst
  split at hg <;> first | (cases hg; done) | skip
  rename_i j' hb hwr
  split at hg <;> first | (cases hg; done) | skip
  rename_i he
  cases hg
  have he:=bQ he
  subst he
  have hv:=(hI.slot d).1 j' hwr (ht.ahead hI.closed hr hd hb)
  have hyv:yielded ops a.tmps j'=match a.tmps[d]? with | some (.bool b)=>some b | _=>none:=by
   unfold yielded; rw[hdst]; rfl
  have hget:∀ t:Bool,a.tmps.getD d undef=.bool t↔a.tmps[d]?=some (.bool t):=by
   intro t
   rw[Array.getD_eq_getD_getElem?]
   cases hx:a.tmps[d]? with
   | none=>simp[undef]
   | some y=>simp
  have off:(∀ b,a.tmps.getD d undef=.bool b→b≠want)→(yielded ops a.tmps j' == some want)=false:=by
   intro hn
   rw[hyv]
   cases hx:a.tmps[d]? with
   | none=>rfl
   | some y =>
     cases y <;> try rfl
     rename_i b
     have:=hn b ((hget b).2 hx)
     simpa using this
  constructor
  ·intro hon
   simp only[Zq] at hon
   rw[hon] at hv
   have hc:=(bf hv).1
   rw[hyv,(hget want).1 hc]; simp
  ·intro hoff
   simp only[LQ] at hoff
   refine off fun b hb'=>?_
   rcases hoff with hu | ⟨b',hu,hne⟩
   ·rw[hu] at hv
    obtain⟨vs,hc,hrl⟩:=Ec hv
    rw[hc] at hb'; cases hb'
   ·rw[hu] at hv
    rw[(bf hv).1] at hb'; cases hb'; exact hne
def TF (P:Program) (ops:Array Oper) (T0:Tree AV) (ri:RI) (k:Nat) (s:qG) (K:qG→Prop) : List Nat→Prop
 | []=>K s
 | x :: rest=>∃ r,nth ri.rows x=some r∧zW (guardOf ops ri.wr s.vals r) (kK P r.o (je T0 ri.wr s.vals r.m) s.M) (fun k=>k .undef s.M)
    (fun v M'=>Rv P ops T0 ri k ri.rows { vals:=s.vals.set x v,M:=M',cz:=s.cz } (yz P ops T0 ri (k + 1) rest { vals:=s.vals.set x v,M:=M',cz:=s.cz } K))
theorem LB (ht:oG P nt ops ri) {K:qG→Prop} {es:List Nat} (hf:Fr s.M) (hbd:∀ j b,s.cz.get j=some (some b)→b<s.M.next) (h:yz P ops T0 ri k es s K) :
  ∃ s1,TF P ops T0 ri k s1 K es∧ZC P ops T0 ri k 0 s s1:=by
 cases es with
 | nil =>
   rw[yz] at h
   exact BQ ht ri.rows 0 s rfl hf hbd h
 | cons x rest =>
   rw[yz] at h
   obtain⟨s1,hk,hp⟩:=BQ ht ri.rows 0 s rfl hf hbd h
   refine⟨s1, ?_,hp⟩
   split at hk
   ·cases hk
   ·rename_i r hr
    exact⟨r,hr,hk⟩
def Chk (P:Program) (ops:Array Oper) (T0:Tree AV) (ri:RI) (k:Nat) (s:qG) : Prop:=∀ r∈ri.rows,kJ r.kd=false→lq ri.ms ri.es k r=true→vG P ops T0 ri.wr s r
theorem Gr {acc:List Nat} : ∀ (es:List Edge) (e:Edge),e∈es→Region.binds .any e=true→Nat.testBit (pz acc es) e.on=true∧∀ j,Nat.testBit ((nth acc e.on).getD 0) j=true→Nat.testBit (pz acc es) j=true
 | [],e,h,_=>by cases h
 | x :: es,e,h,hb=>by
   simp only[pz]
   rcases List.mem_cons.1 h with rfl | h
   ·rw[hb]
    simp only
    refine⟨?_,fun j hj=>?_⟩
    ·rw[Nat.testBit_or,Nat.testBit_or,Nat.testBit_two_pow]; simp
    ·rw[Nat.testBit_or,Nat.testBit_or,hj]; simp
   ·obtain⟨h1,h2⟩:=Gr (acc:=acc) es e h hb
    split
    ·refine⟨?_,fun j hj=>?_⟩
     ·rw[Nat.testBit_or,h1]; simp
     ·rw[Nat.testBit_or,h2 j hj]; simp
    ·exact⟨h1,h2⟩
theorem RV (ht:oG P nt ops ri) {q:Nat} {r:Row} (hq:ri.rows[q]?=some r) : ∃ pre,(∀ i,i<q→nth pre i=ri.ms[i]?)∧r.m=pz pre r.o.after.toList:=by
 obtain⟨g1,g2,g3,g4,g5⟩:=ht.row hq
 obtain⟨pre,h1,h2,h3⟩:=(zU ops.toList []).2 q r.o g2
 simp only[List.length_nil,Nat.zero_add] at h1 h2 h3
 refine⟨pre,fun i hi=>by rw[dP,h2 i hi,← ht.ms], ?_⟩
 rw[← ht.ms,g3] at h3
 exact Option.some.inj h3
theorem O7 (ht:oG P nt ops ri) {q:Nat} {r:Row} (hq:ri.rows[q]?=some r) {e:Edge} (he:e∈r.o.after.toList) (hb:Region.binds .any e=true) : Nat.testBit r.m e.on=true:=by
 obtain⟨pre,_,h2⟩:=RV ht hq
 rw[h2]; exact(Gr _ e he hb).1
theorem Dv (ht:oG P nt ops ri) : ∀ (q:Nat) {i:Nat} {r:Row} {o:Oper},ri.rows[q]?=some r→Nat.testBit r.m i=true→ops.toList[i]?=some o→∀ {e:Edge},e∈o.after.toList→Region.binds .any e=true→Nat.testBit r.m e.on=true:=by
 intro q
 induction q using Nat.strongRecOn with
 | _ q ih =>
   intro i r o hq hi ho e he hb
   obtain⟨g1,g2,g3,g4,g5⟩:=ht.row hq
   obtain⟨pre,h1,h2⟩:=RV ht hq
   have hi':=hi
   rw[h2] at hi'
   obtain⟨e0,he0,hb0,hcase⟩:=zl _ hi'
   have hlt:=ht.zw q r.o g2 e0 he0 hb0
   obtain⟨r0,hr0,_⟩:=ht.ex (j:=e0.on) (o:=ops.toList[e0.on]'(by have:=(List.getElem?_eq_some_iff.1 g2).1; omega)) (by simp)
   obtain⟨k1,k2,k3,k4,k5⟩:=ht.row hr0
   have hsub:∀ j,Nat.testBit r0.m j=true→Nat.testBit r.m j=true:=by
    intro j hj
    rw[h2]
    refine(Gr _ e0 he0 hb0).2 j ?_
    rw[h1 e0.on hlt,k3]; exact hj
   rcases hcase with rfl | ⟨m,hm,hmi⟩
   ·rw[k2] at ho; cases ho
    exact hsub _ (O7 ht hr0 he hb)
   ·rw[← dP,h1 e0.on hlt,k3] at hm
    cases hm
    exact hsub _ (ih e0.on hlt hr0 hmi ho he hb)
theorem EQ {m m' : Nat} (h:∀ x,Nat.testBit m x=true→Nat.testBit m' x=true) : ∀ (es:List Nat) (i0 b b' : Nat),b≤b'→b'≤i0→nR m es i0 b≤nR m' es i0 b'
 | [],i0,b,b',hb,_=>by simpa [nR] using hb
 | x :: es,i0,b,b',hb,hi=>by
   simp only[nR]
   cases hm:Nat.testBit m x with
   | true =>
     rw[h x hm]
     exact EQ h es (i0 + 1) _ _ (Nat.le_refl _) (Nat.le_refl _)
   | false =>
     cases hm' : Nat.testBit m' x with
     | true=>exact EQ h es (i0 + 1) b (i0 + 1) (by omega) (Nat.le_refl _)
     | false=>exact EQ h es (i0 + 1) b b' hb (by omega)
theorem agP (ht:oG P nt ops ri) {listed:Array Bool} (hsz:listed.size=ops.size) (hI:IP P nt ops ri T0 M0 ρ0 w0 k done rest s (fJ listed) ρ a w) {i:Nat} {r:Row} (hi:i<ops.size) (hr:ri.rows[i]?=some r)
  (hd:∀ e∈r.o.after.toList,Region.binds .any e=true→fJ listed e.on) (hk:kJ r.kd=false) (yO:r.lev≤k) {v:AV} {v' : Value} {ρ' : Ren} {w' : World} (hvi:s.vals.get i=some v) (hv:ax ρ' v v') (hle:ρ.le ρ')
  (hw:eX P ρ' s.M w') (hst:Step M0.lo M0.next ρ w ρ' w') (ag2:∀ j b,s.cz.get j=some (some b)→¬ fJ (listed.setIfInBounds i true) j→ρ' b=none) :
  IP P nt ops ri T0 M0 ρ0 w0 k done rest s (fJ (listed.setIfInBounds i true)) ρ' (a.put r.o.dst v') w':=by
 have hS:∀ j,fJ (listed.setIfInBounds i true) j↔fJ listed j∨j=i:=uX (by omega)
 obtain⟨e1,e2,_⟩:=ht.row hr
 refine⟨hI.es,hI.len, ?_,fun x hx=>(hS x).2 (.inl (hI.dn x hx)), ?_, ?_, ?_, ?_, ?_,hw,hI.step.trans hst (Nat.le_refl _),hI.base,hI.next,fun j b hb=>⟨(hI.bid j b hb).1,(hI.bid j b hb).2.1,ag2 j b hb,(hI.bid j b hb).2.2.2⟩,hI.Cf⟩
 ·intro j o ho hj e he hb
  rcases(hS j).1 hj with hj | rfl
  ·exact(hS _).2 (.inl (hI.closed j o ho hj e he hb))
  ·rw[e2] at ho; cases ho
   exact(hS _).2 (.inl (hd e he hb))
 ·intro x hx hl
  rcases(hS x).1 hl with hl | rfl
  ·exact hI.rs x hx hl
  ·have:x∈ri.es:=by rw[hI.es]; exact List.mem_append_right _ hx
   rw[ht.uW hr,hk] at this
   cases this
 ·intro j r' hr' hk' hj
  rcases(hS j).1 hj with hj | rfl
  ·exact hI.lev j r' hr' hk' hj
  ·rw[hr] at hr'; cases hr'; exact yO
 ·cases hdst:r.o.dst <;> simp[Act.put,hI.size]
 ·cases hdst:r.o.dst <;> simp[Act.put,hI.defers]
 ·exact FX ht (fun t=>⟨fun j h1 h2=>((hI.slot t).1 j h1 h2).mono hle,fun h=>((hI.slot t).2 h).mono hle⟩) hI.size hr hv hvi hS
theorem ahg (ht:oG P nt ops ri) {listed:Array Bool} (hsz:listed.size=ops.size) {i:Nat} {rest' : List Nat} (hI:IP P nt ops ri T0 M0 ρ0 w0 k done (i :: rest') s (fJ listed) ρ a w) (wo:Chk P ops T0 ri k s) {r:Row} (hi:i<ops.size) (hr:ri.rows[i]?=some r)
  (hd:∀ e∈r.o.after.toList,Region.binds .any e=true→fJ listed e.on) (hnd:i ∉ rest') {v:AV} {v' : Value} {ρ' : Ren} {w' : World} {M' : RM} (hv:ax ρ' v v') {K:qG→Prop}
  (haft:After P s.M ρ w M' ρ' w') (hre:Rv P ops T0 ri k ri.rows { vals:=s.vals.set i v,M:=M',cz:=s.cz } (yz P ops T0 ri (k + 1) rest' { vals:=s.vals.set i v,M:=M',cz:=s.cz } K)) :
  ∃ s3,IP P nt ops ri T0 M0 ρ0 w0 (k + 1) (done++[i]) rest' s3 (fJ (listed.setIfInBounds i true)) ρ' (a.put r.o.dst v') w'∧Chk P ops T0 ri (k + 1) s3∧TF P ops T0 ri (k + 1) s3 K rest':=by
 have hS:∀ j,fJ (listed.setIfInBounds i true) j↔fJ listed j∨j=i:=uX (by omega)
 obtain⟨e1,e2,e3,e4,e5⟩:=ht.row hr
 have hmem:i∈ri.es:=by rw[hI.es]; simp
 have hke:=(ht.uW hr).1 hmem
 have hle:=haft.le hI.nE
 -- an alive row that was done does not look at the effect
 have avE:ri.es[k]?=some i:=by
  rw[hI.es,List.getElem?_append_right (by rw[hI.len]; omega),hI.len]; simp
 have atC:∀ r'∈ri.rows,r'.lev≤k→Nat.testBit r'.m i=true→False:=by
  intro r' hr' hl hb
  obtain⟨q,hq⟩:=List.mem_iff_getElem?.1 hr'
  obtain⟨g1,g2,g3,g4,g5⟩:=ht.row hq
  have key:∀ (es:List Nat) (i0 oq k:Nat),es[k]?=some i→i0 + k + 1≤nR r'.m es i0 oq:=by
   intro es
   induction es with
   | nil=>intro i0 oq k h; simp at h
   | cons x es ih =>
     intro i0 oq k h
     simp only[nR]
     cases k with
     | zero =>
       simp at h; subst h
       rw[hb]
       simp only
       have mono:∀ (es:List Nat) (j oq:Nat),oq≤j→oq≤nR r'.m es j oq:=by
        intro es
        induction es with
        | nil=>intro j oq _; exact Nat.le_refl _
        | cons y es ih2 =>
          intro j oq hbj
          simp only[nR]
          split
          ·exact Nat.le_trans (by omega) (ih2 (j + 1) (j + 1) (Nat.le_refl _))
          ·exact ih2 (j + 1) oq (by omega)
       exact mono es (i0 + 1) (i0 + 1) (Nat.le_refl _)
     | succ k =>
       split
       ·have:=ih (i0 + 1) (i0 + 1) k (by simpa using h); omega
       ·have:=ih (i0 + 1) oq k (by simpa using h); omega
  have:=key ri.es 0 0 k avE
  rw[← g4] at this
  omega
 obtain⟨Wp,hrows⟩:=Nj (s0:=s) ri.rows hre fun r' hr' f1 f2 f3=>by
  refine⟨wo r' hr' f1 ?_,fun j hj=>?_,rfl⟩
  ·unfold lq at f3 ⊢
   rw[Bool.and_eq_true] at f3 ⊢
   refine⟨bH.2 f2, ?_⟩
   have f4:=f3.2
   rw[List.all_eq_true] at f4 ⊢
   intro x hx
   refine f4 x ?_
   have:=List.take_subset_take_left ri.es (Nat.le_succ k)
   exact this hx
  ·simp only[Tree.bR]
   rw[if_neg]
   rintro rfl
   rcases hj with hj | hj
   ·exact atC r' hr' f2 hj
   ·obtain⟨q,hq⟩:=List.mem_iff_getElem?.1 hr'
    obtain⟨g1,_⟩:=ht.row hq
    have:q=j:=by omega
    subst this
    rw[hr] at hq; cases hq
    rw[f1] at hke; cases hke
 obtain⟨s3,hcont,hp⟩:=LB (s := { vals:=s.vals.set i v,M:=M',cz:=s.cz }) ht (haft.rel.fr) (fun j b hb=>Nat.lt_of_lt_of_le (hI.bid j b hb).2.1 haft.next) Wp
 have hkeep:∀ j,fJ listed j∨j=i→s3.vals.get j=(s.vals.set i v).get j:=by
  intro j hj
  refine(hp.keep j fun r' hr' _=>?_).1
  rintro⟨hl,hk'⟩
  rcases hj with hj | rfl
  ·have:=hI.lev j r' hr' hk' hj; omega
  ·rw[hr] at hr'; cases hr'; rw[hke] at hk'; cases hk'
 have hvi:s3.vals.get i=some v:=by rw[hkeep i (.inr rfl),Tree.bR,if_pos rfl]
 refine⟨s3,⟨by rw[hI.es]; simp,by simp[hI.len], ?_, ?_, ?_, ?_, ?_, ?_, ?_,hp.rel _ _ haft.rel,hI.step.trans (haft.step.Y2 hI.base) hI.next, ?_, ?_, ?_, ?_⟩, ?_,hcont⟩
 ·intro j o ho hj e he hb
  rcases(hS j).1 hj with hj | rfl
  ·exact(hS _).2 (.inl (hI.closed j o ho hj e he hb))
  ·rw[e2] at ho; cases ho
   exact(hS _).2 (.inl (hd e he hb))
 ·intro x hx
  rcases List.mem_append.1 hx with hx | hx
  ·exact(hS x).2 (.inl (hI.dn x hx))
  ·simp at hx; subst hx; exact(hS x).2 (.inr rfl)
 ·intro x hx hl
  rcases(hS x).1 hl with hl | rfl
  ·exact hI.rs x (.tail _ hx) hl
  ·exact hnd hx
 ·intro j r' hr' hk' hj
  rcases(hS j).1 hj with hj | rfl
  ·have:=hI.lev j r' hr' hk' hj; omega
  ·rw[hr] at hr'; cases hr'; rw[hke] at hk'; cases hk'
 ·cases hdst:r.o.dst <;> simp[Act.put,hI.size]
 ·cases hdst:r.o.dst <;> simp[Act.put,hI.defers]
 ·refine FX ht (v:=v) (S:=fJ listed) (fun t=>⟨fun j h1 h2=>?_,fun h=>((hI.slot t).2 h).mono hle⟩) hI.size hr hv hvi hS
  rw[hkeep j (.inl h2),Tree.bR]
  split
  ·rename_i e
   subst e
   exact absurd h2 (hI.rs j (.head _))
  ·exact((hI.slot t).1 j h1 h2).mono hle
 ·rw[hp.sub.1,← hI.base]; exact haft.base
 ·exact Nat.le_trans hI.next (Nat.le_trans haft.next hp.next)
 ·intro j b hb
  rcases hp.cz j b hb with h | ⟨h,h',_,r',hr'⟩
  ·obtain⟨b1,b2,b3,b4⟩:=hI.bid j b h
   refine⟨b1,Nat.lt_of_lt_of_le b2 (Nat.le_trans haft.next hp.next),fun hj=>?_,b4⟩
   rw[haft.step.ext b b2]
   exact b3 fun hl=>hj ((hS j).2 (.inl hl))
  ·refine⟨Nat.le_trans hI.next (Nat.le_trans haft.next h),h',fun _=>haft.rel.fresh h, ?_⟩
   obtain⟨g1,g2,_⟩:=ht.row hr'
   have:=(List.getElem?_eq_some_iff.1 g2).1
   rw[Array.length_toList] at this
   exact this
 ·intro j1 j2 b h1 h2
  rcases Nat.lt_or_ge b M'.next with hlt | hge
  ·have q:∀ j,s3.cz.get j=some (some b)→s.cz.get j=some (some b):=by
    intro j hj
    rcases hp.cz j b hj with k | ⟨k1,_⟩
    ·exact k
    ·simp only at k1; omega
   exact hI.Cf j1 j2 b (q j1 h1) (q j2 h2)
  ·exact hp.Cf j1 j2 b h1 h2 hge
 ·intro r' hr' f1 f3
  obtain⟨q,hq⟩:=List.mem_iff_getElem?.1 hr'
  obtain⟨g1,g2,g3,g4,g5⟩:=ht.row hq
  have f3':=f3
  unfold lq at f3'
  rw[Bool.and_eq_true] at f3'
  have hl:=bL f3'.1
  by_cases he:r'.lev=k + 1
  ·exact hp.done q r' hq (Nat.zero_le _) he f1
  ·have hl' : r'.lev≤k:=by omega
   refine(hrows r' hr' f1 hl' f3).keep (fun j hj=>?_) ?_ hp.sub
   ·refine(hp.keep j fun r2 hr2 _=>?_).1
    rintro⟨h1,h2⟩
    rcases hj with hj | hj
    ·
     have hjm:r2.lev≤r'.lev:=by
      obtain⟨q1,q2,q3,q4,q5⟩:=ht.row hr2
      have sub:∀ x,Nat.testBit r2.m x=true→Nat.testBit r'.m x=true:=by
       intro x hx
       have hcl:Closed ops.toList (fun i=>Nat.testBit r'.m i=true∨i=q):=by
        intro i o ho hi e he' hb'
        rcases hi with hi | rfl
        ·exact .inl (Dv ht _ hq hi ho he' hb')
        ·rw[g2] at ho; cases ho
         exact .inl (O7 ht hq he' hb')
       rcases ht.ED hcl (.inl hj) q2 (by rw[q3]; exact hx) with h | h
       ·exact h
       ·subst h
        exfalso
        have hlt:j<x:=by
         have hc:Closed ops.toList (fun i=>i<x):=fun i o ho hi e he' hb'=>by have:=ht.zw i o ho e he' hb'; omega
         exact ht.ahead hc hq (fun e he' hb'=>ht.zw x r'.o g2 e he' hb') hj
        have hlt2:x<j:=by
         have hc:Closed ops.toList (fun i=>i<j):=fun i o ho hi e he' hb'=>by have:=ht.zw i o ho e he' hb'; omega
         exact ht.ahead hc hr2 (fun e he' hb'=>ht.zw j r2.o q2 e he' hb') hx
        omega
      rw[q4,g4]
      exact EQ sub ri.es 0 0 0 (Nat.le_refl _) (Nat.le_refl _)
     omega
    ·have:q=j:=by omega
     subst this
     rw[hq] at hr2; cases hr2; omega
   ·refine(hp.keep r'.i fun r2 hr2 _=>?_).2
    rw[g1,hq] at hr2; cases hr2
    rintro⟨h1,_⟩; omega
theorem acP (hP:OP P) (ht:oG P nt ops ri) (AX:∀ r∈ri.rows,vk ri r=true) {Q:Exit→Act→World→Prop} {K:qG→Prop}
  (hQ:∀ s ρ' a' w',K s→Step M0.lo M0.next ρ0 w0 ρ' w'→gN ρ' nt (DW T0 s.vals ri.rows) a'→eX P ρ' s.M w'→s.M.base=M0.base→M0.next≤s.M.next→Q .normal a' w') :
  ∀ (fuel:Nat) (listed:Array Bool) (k:Nat) (done rest:List Nat) (s:qG) (ρ:Ren) (a:Act) (w:World),listed.size=ops.size→listed.toList.count false≤fuel →
    IP P nt ops ri T0 M0 ρ0 w0 k done rest s (fJ listed) ρ a w→Chk P ops T0 ri k s→TF P ops T0 ri k s K rest→wpAny P .any ops Q fuel listed a w:=by
 have fin:∀ (listed:Array Bool) (k:Nat) (done rest:List Nat) (s:qG) (ρ:Ren) (a:Act) (w:World),listed.size=ops.size→(∀ i,i<ops.size→fJ listed i) →
   IP P nt ops ri T0 M0 ρ0 w0 k done rest s (fJ listed) ρ a w→TF P ops T0 ri k s K rest→Q .normal a w:=by
  intro listed k done rest s ρ a w hsz hall hI hcont
  have hrest:rest=[]:=by
   cases rest with
   | nil=>rfl
   | cons x rest =>
     have hx:x∈ri.es:=by rw[hI.es]; simp
     rw[ht.es,rX] at hx
     obtain⟨j,o,hj,rfl,_⟩:=hx
     have:=(List.getElem?_eq_some_iff.1 hj).1
     exact absurd (hall (0 + j) (by simpa using this)) (hI.rs _ (.head _))
  subst hrest
  have hcont:K s:=hcont
  refine hQ s ρ a w hcont hI.step ⟨hI.size,fun t=>?_,hI.defers⟩ hI.nE hI.base hI.next
  obtain⟨g1,g2⟩:=hI.slot t
  refine ES t _ ri.rows T0 (fun r hr hd=>?_) ?_
  ·obtain⟨q,hq⟩:=List.mem_iff_getElem?.1 hr
   obtain⟨e1,e2,_⟩:=ht.row hq
   have hql:=(List.getElem?_eq_some_iff.1 e2).1
   have:=g1 r.i (ht.dst q r hq t hd).1 (by rw[e1]; exact hall q (by simpa using hql))
   exact this
  ·by_cases hex:∃ j,ri.wr.get t=some j
   ·obtain⟨j,hj⟩:=hex
    obtain⟨o,ho,hdo⟩:=ht.wrs t j hj
    obtain⟨r,hr,rfl⟩:=ht.ex ho
    exact .inl ⟨r,List.mem_of_getElem? hr,hdo⟩
   ·exact .inr (g2 fun j hj=>absurd ⟨j,hj⟩ hex)
 intro fuel
 induction fuel with
 | zero =>
   intro listed k done rest s ρ a w hsz hcnt hI wo hcont
   have hall:∀ i,i<ops.size→fJ listed i:=fun i hi=>OQ (by omega) (by omega)
   refine⟨?_,fin listed k done rest s ρ a w hsz hall hI hcont⟩
   rw[List.eq_nil_iff_forall_not_mem]
   intro i hi
   obtain⟨h1,h2,_⟩:=BP hsz hi
   exact h2 (hall i h1)
 | succ fuel ih =>
   intro listed k done rest s ρ a w hsz hcnt hI wo hcont
   refine⟨fun hr=>fin listed k done rest s ρ a w hsz (G8 ht hsz hr) hI hcont,fun i hi=>?_⟩
   obtain⟨hilt,hnl,o,ho,hd⟩:=BP hsz hi
   obtain⟨r,hr,rfl⟩:=ht.ex (j:=i) (o:=o) (by rw[Array.getElem?_toList]; exact ho)
   obtain⟨e1,e2,e3,e4,e5⟩:=ht.row hr
   have hrm:=List.mem_of_getElem? hr
   have he:=adq ht hI hr hnl hd (AX r hrm)
   unfold wpOp
   simp only[ho]
   cases hk:kJ r.kd with
   | false =>
     have hall:lq ri.ms ri.es k r=true:=by
      unfold lq
      rw[Bool.and_eq_true,List.all_eq_true]
      constructor
      ·rw[bH,e4]
       rcases zi (m:=r.m) ri.es 0 0 with h | ⟨q,x,a1,a2,a3⟩
       ·omega
       ·have hx:=ht.ahead hI.closed hr hd a2
        rw[a3]
        rcases Nat.lt_or_ge q k with h | h
        ·omega
        ·rw[hI.es,List.getElem?_append_right (by rw[hI.len]; exact h)] at a1
         exact absurd hx (hI.rs x (List.mem_of_getElem? a1))
      ·intro x hx
       rw[hI.es,List.take_left' hI.len] at hx
       rw[Bool.not_eq_true',← Bool.not_eq_true,e1,dP]
       intro hb
       have hxe:x∈ri.es:=by rw[hI.es]; exact List.mem_append_left _ hx
       rw[ht.es,rX] at hxe
       obtain⟨j,o',hj,hxj,_⟩:=hxe
       rw[Nat.zero_add] at hxj; subst hxj
       exact hnl (ht.ED hI.closed (hI.dn x hx) hj hb)
     have yO:r.lev≤k:=by
      unfold lq at hall
      rw[Bool.and_eq_true] at hall
      exact bL hall.1
     have hok:=wo r hrm hk hall
     have hnb:∀ j b,s.cz.get j=some (some b)→¬ fJ (listed.setIfInBounds i true) j→ρ b=none:=fun j b hb hj =>
      (hI.bid j b hb).2.2.1 fun hl=>hj ((uX (by omega) j).2 (.inl hl))
     have next:∀ {v:AV} {v' : Value} {ρ' : Ren} {w' : World},s.vals.get i=some v→ax ρ' v v'→ρ.le ρ'→eX P ρ' s.M w'→Step M0.lo M0.next ρ w ρ' w' →
       (∀ j b,s.cz.get j=some (some b)→¬ fJ (listed.setIfInBounds i true) j→ρ' b=none)→wpAny P .any ops Q fuel (listed.setIfInBounds i true) (a.put r.o.dst v') w':=by
      intro v v' ρ' w' hvi hv hle hw hst hb
      exact ih _ k done rest s ρ' _ w' (by simpa using hsz) (count_set (by omega) hnl hcnt) (agP ht hsz hI hilt hr hd hk yO hvi hv hle hw hst hb) wo hcont
     have KD:ρ.le ρ:=fun _ _ h=>h
     obtain⟨g,hg,hcase⟩:=hok
     obtain⟨gon,aeF⟩:=Ps ht hI hr hd hg
     rw[e1] at hcase
     rcases hcase with⟨hon,v,hvi,hkd⟩ | ⟨hoff,hvi⟩
     ·rw[gon hon]
      simp only[if_true]
      refine .inl ?_
      have val:nL P r.o (je T0 ri.wr s.vals r.m) s.M v→r.o.wp P a w (wpAny P .any ops Q fuel (listed.setIfInBounds i true)) Q:=by
       intro hgv
       obtain⟨v',h1,h2⟩:=hgv ρ w a.eval s.M (RM.Sub.refl _) hI.nE he
       exact mI r.o h1 (next hvi h2 KD hI.nE (Step.refl _ _ _) hnb)
      cases hkk:r.kd with
      | pure=>rw[hkk] at hkd; exact val (hkd _)
      | read=>rw[hkk] at hkd; exact val hkd
      | uW=>rw[hkk] at hkd; exact hkd.elim
      | alloc =>
        rw[hkk] at hkd
        obtain⟨x,mk,b,⟨y,hx,hle⟩,hbi,hy,hmk⟩:=hkd
        obtain⟨d,ob,u,inf,hrun,avH,hrel,afk⟩:=tV he hx w
        obtain⟨b1,b2,b3,b4⟩:=hI.bid i b hbi
        have hbn:=b3 hnl
        have hd' : eX P ρ s.M (if d=true then w.drew else w):=by cases d <;> simp[hI.nE,hI.nE.drew]
        have hsz' : (if d=true then w.drew else w).heap.size=w.heap.size:=by cases d <;> simp
        have hst' : Step M0.lo M0.next ρ w ρ (if d=true then w.drew else w):=by cases d <;> simp[Step.refl,Step.drew]
        obtain⟨h1,h2⟩:=acD hd' (by omega) hbn b2 hy hle hrel
        replace h2:=h2.Y2 hI.base
        refine mI r.o hrun (next hvi (hmk▸afk _ b (by simp[Ren.add])) (Ren.vR hbn) h1 (hst'.trans h2 b1) fun j b' hb' hj=>?_)
        have hne:b'≠b:=by
         intro e
         subst e
         have hji:j≠i:=fun e=>hj ((uX (by omega) j).2 (.inr e))
         exact hji (hI.Cf j i b' hb' hbi)
        unfold Ren.add
        rw[if_neg hne]
        exact hnb j b' hb' hj
     ·rw[aeF hoff]
      simp only[Bool.false_eq_true,if_false]
      exact next hvi (.tup _ _ .nil) KD hI.nE (Step.refl _ _ _) hnb
   | true =>
     have hie:i∈ri.es:=(ht.uW hr).2 hk
     rw[hI.es] at hie
     have hir:i∈rest:=by
      rcases List.mem_append.1 hie with h | h
      ·exact absurd (hI.dn i h) hnl
      ·exact h
     cases rest with
     | nil=>cases hir
     | cons x rest' =>
       have hxi:x=i:=by
        rcases List.mem_cons.1 hir with e | hm
        ·exact e.symm
        ·obtain⟨l1,l2,hl⟩:=List.append_of_mem hm
         have:=ht.chain (done++x :: l1) i l2 (by rw[hI.es,hl]; simp) x (by simp)
         rw[e3] at this
         exact absurd (ht.ahead hI.closed hr hd this) (hI.rs x (.head _))
       subst hxi
       have hnd:x ∉ rest':=by
        intro hm
        obtain⟨l1,l2,hl⟩:=List.append_of_mem hm
        have:=ht.chain (done++x :: l1) x l2 (by rw[hI.es,hl]; simp) x (by simp)
        rw[e3] at this
        exact hnl (ht.ahead hI.closed hr hd this)
       obtain⟨r',hr',hgs⟩:=hcont
       rw[dP,hr] at hr'; cases hr'
       obtain⟨g,hg,hcase⟩:=vX hgs
       obtain⟨gon,aeF⟩:=Ps ht hI hr hd hg
       have next:∀ {v:AV} {v' : Value} {ρ' : Ren} {w' : World} {M' : RM},ax ρ' v v'→After P s.M ρ w M' ρ' w' →
         Rv P ops T0 ri k ri.rows { vals:=s.vals.set x v,M:=M',cz:=s.cz } (yz P ops T0 ri (k + 1) rest' { vals:=s.vals.set x v,M:=M',cz:=s.cz } K) →
         wpAny P .any ops Q fuel (listed.setIfInBounds x true) (a.put r.o.dst v') w':=by
        intro v v' ρ' w' M' hv haft hre
        obtain⟨s3,h1,h2,h3⟩:=ahg ht hsz hI wo hilt hr hd hnd hv haft hre
        exact ih _ (k + 1) _ rest' s3 ρ' _ w' (by simpa using hsz) (count_set (by omega) hnl hcnt) h1 h2 h3
       rcases hcase with⟨hon,hn⟩ | ⟨hoff,hn⟩
       ·rw[gon hon]
        simp only[if_true]
        exact .inl (Zj (K9 hP (fun _=>rfl) hn) hI.nE he fun v v' M' ρ' w' haft hv hk=>next hv haft hk)
       ·rw[aeF hoff]
        simp only[Bool.false_eq_true,if_false]
        exact next (.tup _ _ .nil) (After.refl hI.nE) hn
theorem Nl {vals:Tree AV} {t:Nat} : ∀ (rows:List Row) (T:Tree AV),(∀ r∈rows,r.o.dst≠some t)→(DW T vals rows).get t=T.get t
 | [],T,_=>rfl
 | r :: rows,T,h=>by
   simp only[DW]
   cases hd:r.o.dst with
   | none=>exact Nl rows T fun r' hr'=>h r' (.tail _ hr')
   | some d =>
     simp only
     rw[Nl rows _ fun r' hr'=>h r' (.tail _ hr'),Tree.bR,if_neg]
     intro e; subst e
     exact h r (.head _) hd
theorem Yq (hP:OP P) {id:Nat} {T:Tree AV} {M:RM} {K:Tree AV→RM→Prop} {Q:Exit→Act→World→Prop} (hM:After P M0 ρ0 w0 M ρ w) (hA:gN ρ nt T a)
  (hQ:∀ T' M' ρ' a' w',After P M0 ρ0 w0 M' ρ' w'→gN ρ' nt T' a'→K T' M'→(∀ t,(∀ o∈ops.toList,o.dst≠some t)→T'.get t=T.get t)→Q .normal a' w') (h:abg P nt ops T M K) : (Code.region id ops true).wp P Q a w:=by
 unfold abg at h
 split at h <;> first | (cases h; done) | skip
 rename_i ri hri
 split at h <;> first | (cases h; done) | skip
 rename_i AX
 have ht:=Ey hri
 obtain⟨s1,h1,hp⟩:=LB ht hM.rel.fr (fun j b hb=>by simp[Tree.get] at hb) h
 have hno:∀ i,¬ fJ (Array.replicate ops.size false) i:=by
  intro i h
  unfold fJ at h
  simp only[Array.getD_eq_getD_getElem?,Array.getElem?_replicate] at h
  split at h <;> simp at h
 refine wp_region_any hP.mixed (acP (M0:=M0) (ρ0:=ρ0) (w0:=w0) (T0:=T) hP ht (fun r hr=>List.all_eq_true.1 AX r hr) (fun s ρ' a' w' k0 k1 k2 k3 k4 k5=>hQ _ _ ρ' a' w' ⟨k1,k3,k4,k5⟩ k2 k0 (fun t hnt=>Nl ri.rows T fun r hr=>by
   obtain⟨q,hq⟩:=List.mem_iff_getElem?.1 hr
   exact hnt r.o (List.mem_of_getElem? (ht.row hq).2.1))) ops.size _ 0 [] ri.es s1 ρ a _ (by simp) (by simp) ?_ ?_ h1)
 ·refine⟨rfl,rfl,fun i o _ hi=>absurd hi (hno i),(fun x hx=>by cases hx),fun x _=>hno x,fun j r _ _ hj=>absurd hj (hno j),hA.size,hA.defers,fun t=>⟨fun j _ hj=>absurd hj (hno j),fun _=>hA.val t⟩,hp.rel _ _ hM.rel.drew,hM.step.trans (Step.drew (n:=M0.next)) (Nat.le_refl _),by rw[hp.sub.1]; exact hM.base,Nat.le_trans hM.next hp.next,fun j b hb'=>?_,fun j1 j2 b b1 b2=>?_⟩
  ·rcases hp.cz j b hb' with h | ⟨h,h',_,r,hr⟩
   ·simp[Tree.get] at h
   ·refine⟨Nat.le_trans hM.next h,h',fun _=>hM.rel.fresh h, ?_⟩
    obtain⟨g1,g2,_⟩:=ht.row hr
    have:=(List.getElem?_eq_some_iff.1 g2).1
    rw[Array.length_toList] at this
    exact this
  ·rcases hp.cz j1 b b1 with h | ⟨h,_⟩
   ·simp[Tree.get] at h
   ·exact hp.Cf j1 j2 b b1 b2 h
 ·intro r hr hk hal
  obtain⟨q,hq⟩:=List.mem_iff_getElem?.1 hr
  unfold lq at hal
  rw[Bool.and_eq_true] at hal
  exact hp.done q r hq (Nat.zero_le _) (by have:=bL hal.1; omega) hk
end
def Vt:Option Tmp→Nat
 | some d=>2 ^ d
 | none=>0
def acS:Operand→Nat
 | .tmp t=>2 ^ t
 | _=>0
def adj:List Operand→Nat
 | []=>0
 | x :: xs=>acS x ||| adj xs
def ahh (L m:Nat) : Nat:=L ^^^ (L &&& m)
def NB:List Oper→Nat
 | []=>0
 | o :: os=>Vt o.dst ||| NB os
def jc:Nat→Code→Nat
 | 0,_=>0
 | f + 1,c=>match c with
   | .region _ ops _=>NB ops.toList
   | .seq a b=>jc f a ||| jc f b
   | .cond _ a b=>jc f a ||| jc f b
   | .block _ c=>jc f c
   | .loop c=>jc f c
   | .scope c=>jc f c
   | _=>0
def Y8:List Oper→Nat→Nat
 | [],L=>L
 | o :: os,L=>ahh (Y8 os L) (Vt o.dst) ||| adj o.op.operands.toList
def adC:List (Nat × Nat)→Nat→Nat
 | [],_=>0
 | (i,L) :: r,id=>match Nat.beq i id with
   | true=>L
   | false=>adC r id
def jA (ret:Nat) : Nat→List (Nat × Nat)→Code→Nat→Nat
 | 0,_,_,_=>0
 | f + 1,env,c,L=>match c with
   | .skip=>L
   | .region _ ops _=>Y8 ops.toList L
   | .seq a b=>jA ret f env a (jA ret f env b L)
   | .cond c a b=>acS c ||| jA ret f env a L ||| jA ret f env b L
   | .block id c=>jA ret f ((id,L) :: env) c L
   | .loop c=>jA ret f env c (jA ret f env c 0)
   | .exit id=>adC env id
   | .ret=>ret
   | .scope c=>jA ret f env c L
   | .label _=>L
   | _=>0
def cap2 (n:Nat) : Nat:=match n with | 0=>0 | 1=>1 | _=>2
def xe (id:Nat) : Nat→Code→Nat
 | 0,_=>2
 | f + 1,c=>match c with
   | .seq a b=>cap2 (xe id f a + xe id f b)
   | .cond _ a b=>cap2 (xe id f a + xe id f b)
   | .block _ c=>xe id f c
   | .loop c=>xe id f c
   | .exit i=>match Nat.beq i id with | true=>1 | false=>0
   | _=>0
def Be:Nat→Code→Nat
 | 0,_=>2
 | f + 1,c=>match c with
   | .skip=>1
   | .region _ _ _=>1
   | .seq a b=>cap2 (Be f a * Be f b)
   | .cond _ a b=>cap2 (Be f a + Be f b)
   | .block id c=>cap2 (Be f c + xe id f c)
   | .scope c=>Be f c
   | .label _=>1
   | _=>0
def Er (m:Nat) : Nat→Nat→List Nat
 | _,0=>[]
 | i,n + 1=>match Nat.testBit m i with
   | true=>i :: Er m (i + 1) n
   | false=>Er m (i + 1) n
def bitsOf (m nt:Nat) : List Nat:=Er m 0 nt
def DT (T:Tree AV) : List Nat→List AV
 | []=>[]
 | t :: ts=>(T.get t).getD .top :: DT T ts
def aa:List AV→Nat→AV
 | [],_=>.top
 | x :: _,0=>x
 | _ :: xs,n + 1=>aa xs n
def FO (T:Tree AV) : List Nat→Tree AV
 | []=>T
 | t :: ts=>FO (T.set t .top) ts
def XB (T:Tree AV) (xs:List AV) : Nat→List Nat→Tree AV
 | _,[]=>T
 | i,t :: ts=>XB (T.set t (aa xs i)) xs (i + 1) ts
def Gn (T:Tree AV) (asg vs:List Nat) (xs:List AV) : Tree AV:=XB (FO T asg) xs 0 vs
def az (x:AV) (p q:Prop) : Prop :=
 match x with
 | .sc (.bool b)=>(b=true→p)∧(b=false→q)
 | _=>False
def ek (f:(List AV→RM→Prop)→Prop) (g:List AV→RM→Prop) : Prop:=f g
def bu (body:(List AV→RM→Prop)→List AV→RM→Prop) (xs:List AV) (M:RM) : Prop :=
 ∃ (I:Nat→List AV→RM→Prop) (n:Nat),I n xs M∧∀ m ys M',I m ys M'→body (fun zs M''=>∃ m',m'<m∧I m' zs M'') ys M'
abbrev K3:=Ex→Tree AV→RM→Prop
def wpC (P:Program) (nt ret:Nat) : Nat→Code→List (Nat × Nat)→Nat→Tree AV→RM→K3→Prop
 | 0,_,_,_,_,_,_=>False
 | f + 1,c,env,L,T,M,K=>match c with
   | .skip=>K .normal T M
   | .region _ ops false=>QL P nt ops ops.toList T M (fun T' M'=>K .normal T' M')
   | .region _ ops true=>abg P nt ops T M (fun T' M'=>K .normal T' M')
   | .seq a b=>match Nat.ble (Be f a) 1 with
     | true=>wpC P nt ret f a env (jA ret f env b L) T M (fun e T' M'=>match e with
       | .normal=>wpC P nt ret f b env L T' M' K
       | e=>K e T' M')
     | false=>ek (fun J=>wpC P nt ret f a env (jA ret f env b L) T M (fun e T' M'=>match e with
       | .normal=>J (DT T' (bitsOf (jc f a &&& jA ret f env b L) nt)) M'
       | e=>K e T' M'))
       (fun xs M'=>wpC P nt ret f b env L (Gn T (bitsOf (jc f a) nt) (bitsOf (jc f a &&& jA ret f env b L) nt) xs) M' K)
   | .cond c a b=>az (oH T c) (wpC P nt ret f a env L T M K) (wpC P nt ret f b env L T M K)
   | .block id c=>wpC P nt ret f c ((id,L) :: env) L T M (fun e T' M'=>match e with
     | .exit i=>match Nat.beq i id with
       | true=>K .normal T' M'
       | false=>K (.exit i) T' M'
     | e=>K e T' M')
   | .loop c=>bu (fun next xs M'=>wpC P nt ret f c env (jA ret f env c (jA ret f env c 0)) (Gn T (bitsOf (jc f c) nt) (bitsOf (jc f c &&& jA ret f env c (jA ret f env c 0)) nt) xs) M'
     (fun e T' M'=>match e with
      | .normal=>next (DT T' (bitsOf (jc f c &&& jA ret f env c (jA ret f env c 0)) nt)) M'
      | e=>K e T' M'))
     (DT T (bitsOf (jc f c &&& jA ret f env c (jA ret f env c 0)) nt)) M
   | .exit id=>K (.exit id) T M
   | .ret=>K .ret T M
   | .scope c=>wpC P nt ret f c env L T M K
   | .label _=>K .normal T M
   | _=>False
def agt (P:Program) (T:Tree AV) (M:RM) (r:ResultVar) (K:AV→Prop) : Prop :=
 match r with
 | .tmp t=>K ((T.get t).getD .top)
 | .cell a t=>match eG P t with
   | some false=>ai M ((T.get a).getD .top) K
   | some true=>match bP P t with
     | some n=>aF M ((T.get a).getD .top) n K
     | none=>False
   | none=>False
def agS (P:Program) (T:Tree AV) (M:RM) : List ResultVar→(List AV→Prop)→Prop
 | [],K=>K []
 | r :: rs,K=>agt P T M r (fun v=>agS P T M rs (fun vs=>K (v :: vs)))
def apQ (Q:ak) (M:RM) : List AV→Prop
 | [v]=>Q v M
 | vs=>Q (.tup vs) M
def QI:List ResultVar→Nat
 | []=>0
 | .tmp t :: rs=>2 ^ t ||| QI rs
 | .cell a _ :: rs=>2 ^ a ||| QI rs
def adp (P:Program) (fn:Func) (c:Code) (args:List AV) (M:RM) (Q:ak) : Prop :=
 wpC P (args.length + (fn.ntmps - args.length)) (QI fn.results.toList) 1000 c [] 0 (Tree.ofList args 0 .leaf) M
  (fun e T M'=>match e with
   | .exit _=>False
   | _=>agS P T M' fn.results.toList (apQ Q M'))
section
variable {P:Program} {nt ret:Nat}
def ab1 (P:Program) (nt:Nat) (M0:RM) (ρ0:Ren) (w0:World) (T:Tree AV) (asg:Nat) (K:K3) (e:Exit) (a:Act) (w:World) : Prop :=
 ∃ x T' M' ρ',e=PX x∧After P M0 ρ0 w0 M' ρ' w∧gN ρ' nt T' a∧(∀ t,Nat.testBit asg t=false→T'.get t=T.get t)∧K x T' M'
theorem WH {T:Tree AV} : ∀ (vs:List Nat) (i:Nat),aa (DT T vs) i=match vs[i]? with | some t=>(T.get t).getD .top | none=>.top
 | [],i=>by simp[DT,aa]
 | t :: vs,0=>by simp[DT,aa]
 | t :: vs,i + 1=>by simp[DT,aa,WH vs i]
theorem JD:∀ (asg:List Nat) (T:Tree AV) (t:Nat),(FO T asg).get t=if t∈asg then some .top else T.get t
 | [],T,t=>by simp[FO]
 | d :: asg,T,t=>by
   simp only[FO,JD asg,Tree.bR,List.mem_cons]
   by_cases h1:t∈asg
   ·simp[h1]
   ·by_cases h2:t=d <;> simp[h1,h2]
theorem Mq:∀ (vs:List Nat) (T:Tree AV) (xs:List AV) (i t:Nat),(t ∉ vs∧(XB T xs i vs).get t=T.get t)∨∃ j,vs[j]?=some t∧(XB T xs i vs).get t=some (aa xs (i + j))
 | [],T,xs,i,t=>.inl ⟨by simp,rfl⟩
 | d :: vs,T,xs,i,t=>by
   simp only[XB]
   rcases Mq vs (T.set d (aa xs i)) xs (i + 1) t with⟨h1,h2⟩ | ⟨j,h1,h2⟩
   ·rw[Tree.bR] at h2
    by_cases e:t=d
    ·rw[if_pos e] at h2
     exact .inr ⟨0,by simp[e],h2⟩
    ·rw[if_neg e] at h2
     exact .inl ⟨by simp[e,h1],h2⟩
   ·exact .inr ⟨j + 1,by simpa using h1,by rw[h2]; congr 2; omega⟩
theorem FJ {m:Nat} : ∀ (n i t:Nat),t∈Er m i n↔i≤t∧t<i + n∧Nat.testBit m t=true
 | 0,i,t=>by simp[Er]; omega
 | n + 1,i,t=>by
   simp only[Er]
   split
   ·rename_i h
    rw[List.mem_cons,FJ n (i + 1) t]
    constructor
    ·rintro(rfl | ⟨a,b,c⟩)
     ·exact⟨Nat.le_refl _,by omega,h⟩
     ·exact⟨by omega,by omega,c⟩
    ·rintro⟨a,b,c⟩
     by_cases e:t=i
     ·exact .inl e
     ·exact .inr ⟨by omega,by omega,c⟩
   ·rename_i h
    rw[FJ n (i + 1) t]
    constructor
    ·rintro⟨a,b,c⟩; exact⟨by omega,by omega,c⟩
    ·rintro⟨a,b,c⟩
     have:t≠i:=fun e=>by subst e; rw[h] at c; cases c
     exact⟨by omega,by omega,c⟩
theorem zG {m n t:Nat} : t∈bitsOf m n↔t<n∧Nat.testBit m t=true:=by
 unfold bitsOf; rw[FJ]; simp
theorem Ji {ρ:Ren} {T T' : Tree AV} {a:Act} {asg:Nat} {vs:List Nat} (h:gN ρ nt T' a) (hge:∀ t,nt≤t→ax ρ ((T.get t).getD .top) undef) (hk:∀ t,Nat.testBit asg t=false→T'.get t=T.get t) : gN ρ nt (Gn T (bitsOf asg nt) vs (DT T' vs)) a:=by
 refine⟨h.size,fun t=>?_,h.defers⟩
 unfold Gn
 rcases Mq vs (FO T (bitsOf asg nt)) (DT T' vs) 0 t with⟨_,h2⟩ | ⟨j,h1,h2⟩
 ·rw[h2,JD]
  split
  ·exact .top _
  ·rename_i hm
   by_cases hb:Nat.testBit asg t=true
   ·have hge' : nt≤t:=by
     rcases Nat.lt_or_ge t nt with hlt | hge
     ·exact absurd (zG.2 ⟨hlt,hb⟩) hm
     ·exact hge
    have hv:a.tmps.getD t undef=undef:=by
     rw[Array.getD_eq_getD_getElem?,Array.getElem?_eq_none (by rw[h.size]; exact hge')]; rfl
    rw[hv]; exact hge t hge'
   ·rw[← hk t (by simpa using hb)]
    exact h.val t
 ·rw[h2,Nat.zero_add,WH,h1]
  exact h.val t
theorem Nv {T:Tree AV} {asg:Nat} {vs:List Nat} {xs:List AV} (hvs:∀ t∈vs,Nat.testBit asg t=true) (t:Nat) (h:Nat.testBit asg t=false) : (Gn T (bitsOf asg nt) vs xs).get t=T.get t:=by
 unfold Gn
 rcases Mq vs (FO T (bitsOf asg nt)) xs 0 t with⟨_,h2⟩ | ⟨j,h1,h2⟩
 ·rw[h2,JD,if_neg]
  intro hm
  rw[(zG.1 hm).2] at h; cases h
 ·have:=hvs t (List.mem_of_getElem? h1)
  rw[h] at this; cases this
theorem gN.ge {ρ:Ren} {T:Tree AV} {a:Act} (h:gN ρ nt T a) : ∀ t,nt≤t→ax ρ ((T.get t).getD .top) undef:=by
 intro t ht
 have:=h.val t
 rw[Array.getD_eq_getD_getElem?,Array.getElem?_eq_none (by rw[h.size]; exact ht)] at this
 exact this
theorem La {c:Code} {Q:Exit→Act→World→Prop} : ∀ {n m:Nat} {a:Act} {w:World},n≤m→Code.rounds P c Q n a w→Code.rounds P c Q m a w
 | 0,_,_,_,_,h=>h.elim
 | n + 1,m + 1,a,w,hle,h=>by
   rw[rounds_succ] at h ⊢
   refine wp_mono h fun e a' w' hp=>?_
   cases e with
   | normal=>exact La (Nat.le_of_succ_le_succ hle) hp
   | exit id=>exact hp
   | ret=>exact hp
   | goto l=>exact hp
   | panic c=>exact hp
   | outgrown=>exact hp
theorem FD {t:Nat} : ∀ (l:List Oper),Nat.testBit (NB l) t=false→∀ o∈l,o.dst≠some t
 | [],_,o,ho=>by cases ho
 | x :: l,h,o,ho=>by
   simp only[NB,Nat.testBit_or,Bool.or_eq_false_iff] at h
   rcases List.mem_cons.1 ho with rfl | ho
   ·intro e
    rw[e] at h
    simp[Vt,Nat.testBit_two_pow] at h
   ·exact FD l h.2 o ho
theorem acK {ρ:Ren} {x:AV} {u:Value} {p q:Prop} (h:az x p q) (hx:ax ρ x u) : ∃ b,u=.bool b∧(b=true→p)∧(b=false→q):=by
 unfold az at h
 split at h <;> first | (cases h; done) | skip
 rename_i b
 exact⟨b,(bf hx).1,h.1,h.2⟩
theorem adh (hP:OP P) : ∀ (f:Nat) (c:Code) (env:List (Nat × Nat)) (L:Nat) (T:Tree AV) (M:RM) (K:K3),wpC P nt ret f c env L T M K →
  ∀ (M0:RM) (ρ0:Ren) (w0:World) (ρ:Ren) (a:Act) (w:World),After P M0 ρ0 w0 M ρ w→gN ρ nt T a→c.wp P (ab1 P nt M0 ρ0 w0 T (jc f c) K) a w:=by
 intro f
 induction f with
 | zero=>intro c env L T M K h; exact h.elim
 | succ f ih =>
   intro c env L T M K h M0 ρ0 w0 ρ a w hM hA
   cases c with
   | skip=>exact wp_skip ⟨.normal,T,M,ρ,rfl,hM,hA,fun _ _=>rfl,h⟩
   | region id ops d =>
     cases d with
     | false =>
       refine wp_region ?_
       have:=Fb (nt:=nt) hP (ops:=ops) (Q:=ab1 P nt M0 ρ0 w0 T (jc (f + 1) (.region id ops false)) K) (K:=fun T' M'=>K .normal T' M') (M0:=M0) (ρ0:=ρ0) (w0:=w0) (T0:=T)
        (fun T' M' ρ' a' w' k1 k2 k3 k4=>⟨.normal,T',M',ρ',rfl,k1,k2,fun t ht=>k4 t (FD _ ht),k3⟩) ops.toList 0 (by simp) hA hM (fun _ _=>rfl) h
       rw[Array.length_toList,← List.range_eq_range'] at this
       exact this
     | true =>
       exact Yq (nt:=nt) (T:=T) hP hM hA (fun T' M' ρ' a' w' k1 k2 k3 k4=>⟨.normal,T',M',ρ',rfl,k1,k2,fun t ht=>k4 t (FD _ ht),k3⟩) h
   | seq c1 c2 =>
     simp only[wpC] at h
     refine wp_seq ?_
     split at h
     ·refine wp_mono (ih c1 _ _ _ _ _ h M0 ρ0 w0 ρ a w hM hA) fun e a' w' hp=>?_
      obtain⟨x,T1,M1,ρ1,rfl,k1,k2,k3,k4⟩:=hp
      cases x with
      | normal =>
        refine wp_mono (ih c2 _ _ _ _ _ k4 M0 ρ0 w0 ρ1 a' w' k1 k2) fun e a2 w2 hp=>?_
        obtain⟨x,T2,M2,ρ2,he,q1,q2,q3,q4⟩:=hp
        exact⟨x,T2,M2,ρ2,he,q1,q2,fun t ht=>by
         simp only[jc,Nat.testBit_or,Bool.or_eq_false_iff] at ht
         rw[q3 t ht.2,k3 t ht.1],q4⟩
      | exit i=>exact⟨.exit i,T1,M1,ρ1,rfl,k1,k2,fun t ht=>by
        simp only[jc,Nat.testBit_or,Bool.or_eq_false_iff] at ht
        exact k3 t ht.1,k4⟩
      | ret=>exact⟨.ret,T1,M1,ρ1,rfl,k1,k2,fun t ht=>by
        simp only[jc,Nat.testBit_or,Bool.or_eq_false_iff] at ht
        exact k3 t ht.1,k4⟩
     ·unfold ek at h
      refine wp_mono (ih c1 _ _ _ _ _ h M0 ρ0 w0 ρ a w hM hA) fun e a' w' hp=>?_
      obtain⟨x,T1,M1,ρ1,rfl,k1,k2,k3,k4⟩:=hp
      have hge:∀ t,nt≤t→ax ρ1 ((T.get t).getD .top) undef:=fun t ht=>by
       have h1:=k2.ge t ht
       by_cases hb:Nat.testBit (jc f c1) t=false
       ·rw[k3 t hb] at h1; exact h1
       ·have h0:=hA.ge t ht
        have hu:∀ (ρ ρ' : Ren) (x:AV),ax ρ x undef→ax ρ' x undef:=by
         intro ρ ρ' x hx
         unfold undef at hx ⊢
         cases hx with
         | top=>exact .top _
         | sc v p=>exact .sc _ p
         | tup xs vs a=>cases a; exact .tup _ _ .nil
        exact hu _ _ _ h0
      cases x with
      | normal =>
        refine wp_mono (ih c2 _ _ _ _ _ k4 M0 ρ0 w0 ρ1 a' w' k1 (Ji k2 hge k3)) fun e a2 w2 hp=>?_
        obtain⟨x,T2,M2,ρ2,he,q1,q2,q3,q4⟩:=hp
        refine⟨x,T2,M2,ρ2,he,q1,q2,fun t ht=>?_,q4⟩
        simp only[jc,Nat.testBit_or,Bool.or_eq_false_iff] at ht
        rw[q3 t ht.2]
        refine Nv (fun t' ht'=>?_) t ht.1
        have:=(zG.1 ht').2
        rw[Nat.testBit_and,Bool.and_eq_true] at this
        exact this.1
      | exit i=>exact⟨.exit i,T1,M1,ρ1,rfl,k1,k2,fun t ht=>by
        simp only[jc,Nat.testBit_or,Bool.or_eq_false_iff] at ht
        exact k3 t ht.1,k4⟩
      | ret=>exact⟨.ret,T1,M1,ρ1,rfl,k1,k2,fun t ht=>by
        simp only[jc,Nat.testBit_or,Bool.or_eq_false_iff] at ht
        exact k3 t ht.1,k4⟩
   | cond cnd c1 c2 =>
     simp only[wpC] at h
     obtain⟨b,hb,h1,h2⟩:=acK h (BU hA cnd)
     cases b with
     | true =>
       refine wp_cond_true hb (wp_mono (ih c1 _ _ _ _ _ (h1 rfl) M0 ρ0 w0 ρ a w hM hA) fun e a' w' hp=>?_)
       obtain⟨x,T1,M1,ρ1,he,k1,k2,k3,k4⟩:=hp
       exact⟨x,T1,M1,ρ1,he,k1,k2,fun t ht=>by
         simp only[jc,Nat.testBit_or,Bool.or_eq_false_iff] at ht
         exact k3 t ht.1,k4⟩
     | false =>
       refine wp_cond_false hb (wp_mono (ih c2 _ _ _ _ _ (h2 rfl) M0 ρ0 w0 ρ a w hM hA) fun e a' w' hp=>?_)
       obtain⟨x,T1,M1,ρ1,he,k1,k2,k3,k4⟩:=hp
       exact⟨x,T1,M1,ρ1,he,k1,k2,fun t ht=>by
         simp only[jc,Nat.testBit_or,Bool.or_eq_false_iff] at ht
         exact k3 t ht.2,k4⟩
   | block id c1 =>
     simp only[wpC] at h
     refine wp_block (wp_mono (ih c1 _ _ _ _ _ h M0 ρ0 w0 ρ a w hM hA) fun e a' w' hp=>?_)
     obtain⟨x,T1,M1,ρ1,rfl,k1,k2,k3,k4⟩:=hp
     cases x with
     | normal=>exact⟨.normal,T1,M1,ρ1,rfl,k1,k2,k3,k4⟩
     | ret=>exact⟨.ret,T1,M1,ρ1,rfl,k1,k2,k3,k4⟩
     | exit i =>
       simp only at k4
       split at k4
       ·rename_i he
        have he:=bQ he
        subst he
        simp only[PX,Exit.inBlock,if_true]
        exact⟨.normal,T1,M1,ρ1,rfl,k1,k2,k3,k4⟩
       ·rename_i he
        have he:=Ce he
        simp only[PX,Exit.inBlock,if_neg he]
        exact⟨.exit i,T1,M1,ρ1,rfl,k1,k2,k3,k4⟩
   | loop c1 =>
     simp only[wpC] at h
     obtain⟨I,n,hI,hbody⟩:=h
     have hvs:∀ t∈bitsOf (jc f c1 &&& jA ret f env c1 (jA ret f env c1 0)) nt,Nat.testBit (jc f c1) t=true:=fun t' ht'=>by
      have:=(zG.1 ht').2
      rw[Nat.testBit_and,Bool.and_eq_true] at this
      exact this.1
     generalize hv:bitsOf (jc f c1 &&& jA ret f env c1 (jA ret f env c1 0)) nt=vs at hI hbody hvs
     have hu:∀ (ρ ρ' : Ren) (x:AV),ax ρ x undef→ax ρ' x undef:=by
      intro ρ ρ' x hx
      unfold undef at hx ⊢
      cases hx with
      | top=>exact .top _
      | sc v p=>exact .sc _ p
      | tup xs vs a=>cases a; exact .tup _ _ .nil
     have hge:∀ (ρ1:Ren) t,nt≤t→ax ρ1 ((T.get t).getD .top) undef:=fun ρ1 t ht=>hu _ _ _ (hA.ge t ht)
     have key:∀ (m:Nat) (ys:List AV) (M1:RM) (ρ1:Ren) (a1:Act) (w1:World),I m ys M1→After P M0 ρ0 w0 M1 ρ1 w1→gN ρ1 nt (Gn T (bitsOf (jc f c1) nt) vs ys) a1 →
       Code.rounds P c1 (ab1 P nt M0 ρ0 w0 T (jc (f + 1) (.loop c1)) K) (m + 1) a1 w1:=by
      intro m
      induction m using Nat.strongRecOn with
      | _ m ihm =>
        intro ys M1 ρ1 a1 w1 hIm hM1 hA1
        rw[rounds_succ]
        refine wp_mono (ih c1 _ _ _ _ _ (hbody m ys M1 hIm) M0 ρ0 w0 ρ1 a1 w1 hM1 hA1) fun e a' w' hp=>?_
        obtain⟨x,T2,M2,ρ2,rfl,k1,k2,k3,k4⟩:=hp
        have k3' : ∀ t,Nat.testBit (jc f c1) t=false→T2.get t=T.get t:=fun t ht=>by rw[k3 t ht]; exact Nv hvs t ht
        cases x with
        | normal =>
          obtain⟨m',hlt,hI'⟩:=k4
          exact La (by omega) (ihm m' hlt _ M2 ρ2 a' w' hI' k1 (Ji k2 (hge ρ2) k3'))
        | exit i=>exact⟨.exit i,T2,M2,ρ2,rfl,k1,k2,k3',k4⟩
        | ret=>exact⟨.ret,T2,M2,ρ2,rfl,k1,k2,k3',k4⟩
     exact wp_loop_rounds _ (key n _ M ρ a w hI hM (Ji hA (hge ρ) fun _ _=>rfl))
   | exit id=>exact wp_exit ⟨.exit id,T,M,ρ,rfl,hM,hA,fun _ _=>rfl,h⟩
   | ret=>exact wp_ret ⟨.ret,T,M,ρ,rfl,hM,hA,fun _ _=>rfl,h⟩
   | rangeFunc=>simp[wpC] at h
   | scope c1 =>
     simp only[wpC] at h
     refine wp_scope_straight (wp_mono (ih c1 _ _ _ _ _ h M0 ρ0 w0 ρ a w hM hA) fun e a' w' hp=>?_)
     obtain⟨x,T1,M1,ρ1,rfl,k1,k2,k3,k4⟩:=hp
     cases x with
     | normal=>exact⟨.normal,T1,M1,ρ1,rfl,k1,k2,k3,k4⟩
     | exit i=>exact⟨.exit i,T1,M1,ρ1,rfl,k1,k2,k3,k4⟩
     | ret=>exact⟨.ret,T1,M1,ρ1,rfl,k1,k2,k3,k4⟩
   | label l=>exact wp_label ⟨.normal,T,M,ρ,rfl,hM,hA,fun _ _=>rfl,h⟩
   | goto=>simp[wpC] at h
   | refuse=>simp[wpC] at h
theorem abI {ρ:Ren} {T:Tree AV} {M:RM} {a:Act} {w:World} (hA:gN ρ nt T a) (hw:eX P ρ M w) {r:ResultVar} {K:AV→Prop} (h:agt P T M r K) :
  ∃ v v',(wI a.tmps r).run P w=.ok v' w∧ax ρ v v'∧K v:=by
 cases r with
 | tmp t=>exact⟨_,_,rfl,hA.val t,h⟩
 | cell x t =>
   simp only[agt] at h
   have hv:=hA.val x
   split at h <;> first | (cases h; done) | skip
   ·rename_i ha
    obtain⟨b,p,v,hx,hl,hk⟩:=h
    rw[hx] at hv
    obtain⟨i,hb,hc⟩:=fH hv
    obtain⟨u,hu,hcell⟩:=Sq hw hb hl
    refine⟨v,u, ?_,hu,hk⟩
    simp only[wI,hc,asAddr,Sem.run_bind,Sem.run_pure,Result.andThen_ok,loadVar,iX ha,Bool.false_eq_true,if_false,load,Sem.run,hcell]
   ·rename_i ha
    split at h <;> first | (cases h; done) | skip
    rename_i n hs
    obtain⟨b,p,xs,hx,hl,hk⟩:=h
    rw[hx] at hv
    obtain⟨i,hb,hc⟩:=fH hv
    obtain⟨vs,hr,hlen,_,hrun⟩:=RM.nM (P:=P) hw hb hl
    exact⟨.agg xs,.agg ⟨vs⟩,by simp only[wI,hc,asAddr,Sem.run_bind,Sem.run_pure,Result.andThen_ok,loadVar,iX ha,if_true,dW hs,hrun],.agg _ _ hr,hk⟩
theorem GN {ρ:Ren} {T:Tree AV} {M:RM} {a:Act} {w:World} (hA:gN ρ nt T a) (hw:eX P ρ M w) : ∀ (rs:List ResultVar) (K:List AV→Prop),agS P T M rs K →
  ∃ vs us,(rs.mapM (wI a.tmps)).run P w=.ok us w∧bD ρ vs us∧K vs
 | [],K,h=>⟨[],[],by simp,.nil,h⟩
 | r :: rs,K,h=>by
   obtain⟨v,v',h1,h2,h3⟩:=abI hA hw h
   obtain⟨vs,us,h4,h5,h6⟩:=GN hA hw rs _ h3
   refine⟨v :: vs,v' :: us, ?_,.cons _ _ _ _ h2 h5,h6⟩
   simp only[List.mapM_cons,Sem.run_bind,h1,Result.andThen_ok,h4,Sem.run_pure]
theorem QT (hP:OP P) {f:FuncId} {fn:Func} {c:Code} {args:List AV} {M:RM} {Q:ak} (hfn:P.funcs[f]?=some fn) (hbody:fn.body=some c) (h:adp P fn c args M Q) : jv P f args M Q:=by
 refine⟨⟨fn,c,hfn,hbody⟩,fun ρ w us hargs hw=>?_⟩
 have hlen:=hargs.length
 have hA:gN ρ (args.length + (fn.ntmps - args.length)) (Tree.ofList args 0 .leaf) { tmps:=⟨us⟩++Array.replicate (fn.ntmps - (⟨us⟩ : Array Value).size) undef,defers:=[] } := by
  refine⟨by simp[hlen],fun t=>?_,rfl⟩
  rw[Tree.lZ]
  by_cases ht:t<args.length
  ·rw[if_pos (by omega),Nat.sub_zero]
   obtain⟨u,hu,hv⟩:=hargs.get (n:=t) (x:=args[t]) (by simp[ht])
   rw[List.getElem?_eq_getElem ht]
   simp only[Option.getD_some]
   have:((⟨us⟩ : Array Value)++Array.replicate (fn.ntmps - (⟨us⟩ : Array Value).size) undef).getD t undef=u:=by
    rw[Array.getD_eq_getD_getElem?,Array.getElem?_append_left (by simp; omega)]
    simp[hu]
   rw[this]; exact hv
  ·rw[if_neg (by omega)]
   exact .top _
 refine calls_of_wp hfn hbody (wp_mono (adh hP 1000 c [] 0 _ M _ h M ρ w ρ _ w (After.refl hw) hA) fun e a w' hp=>?_)
 obtain⟨x,T',M',ρ',rfl,k1,k2,k3,k4⟩:=hp
 have key:(∃ vs us,(fn.results.toList.mapM (wI a.tmps)).run P w'=.ok us w'∧bD ρ' vs us∧apQ Q M' vs) →
   a.defers=[]∧∃ v,(results fn a.tmps).run P w'=.ok v w'∧∃ v' v_1 aqL akq,Ending.returned v=.returned v'∧After P M ρ w aqL akq w'∧ax akq v_1 v'∧Q v_1 aqL:=by
  rintro⟨vs,us,h1,h2,h3⟩
  have hres:(results fn a.tmps).run P w'=.ok (if h:(⟨us⟩ : Array Value).size=1 then(⟨us⟩ : Array Value)[0] else .tuple ⟨us⟩) w':=by
   have e:results fn a.tmps=(fn.results.mapM (wI a.tmps) >>= fun vs=>pure (if h:vs.size=1 then vs[0] else .tuple vs)):=rfl
   rw[e,Array.mapM_eq_mapM_toList]
   simp only[Sem.run_bind,Sem.run_map,h1,Result.andThen_ok,Sem.run_pure]
  refine⟨k2.defers,_,hres, ?_⟩
  cases h2 with
  | nil=>exact⟨_,_,M',ρ',rfl,k1,.tup _ _ .nil,h3⟩
  | cons x v xs vs2 hv htl =>
    cases htl with
    | nil=>exact⟨_,x,M',ρ',rfl,k1,hv,h3⟩
    | cons y u ys us2 hu axM=>exact⟨_,_,M',ρ',rfl,k1,.tup _ _ (.cons _ _ _ _ hv (.cons _ _ _ _ hu axM)),h3⟩
 cases x with
 | normal=>exact key (GN k2 k1.rel _ _ k4)
 | ret=>exact key (GN k2 k1.rel _ _ k4)
 | exit id=>exact k4.elim
abbrev au:=List AV→RM→ak→Prop
def Qy (P:Program) (fn:Func) (args:List AV) (M:RM) (Q:ak) : Prop :=
 match fn.body with
 | some c=>adp P fn c args M Q
 | none=>False
theorem acw (hP:OP P) {f:FuncId} {fn:Func} {args:List AV} {M:RM} {Q:ak} (hfn:P.funcs[f]?=some fn) (h:Qy P fn args M Q) : jv P f args M Q:=by
 unfold Qy at h
 split at h
 ·rename_i c hc; exact QT hP hfn hc h
 ·cases h
end
end Go.Ab
set_option maxRecDepth 100000
namespace Go.Ab.Crw
open Go Go.Ab
def DU (p1:Nat) (p2 p3 p4 p5 p6 p7 p8 p9 p10:au) (a0 a1 a2 a3 a4:AV) (M0:RM) (Q:ak) : Prop :=
 ji p1 a0 fun r f =>
 dx r f M0 fun t5 M =>
 p2 [] M fun t18 M_0 =>
 dG t18 fun t19 =>
 az t19 (
 Q (Bo false) M_0) (
 aF M_0 t5 7 fun t21 =>
 p3 [t21] M_0 fun t22 M_1 =>
 bV t22 0 fun t23 =>
 bV t22 1 fun t24 =>
 ek (fun J =>
 aF M_1 t5 7 fun t25 =>
 p4 [t25] M_1 fun t26 M_2 =>
 dG t26 fun t27 =>
 az t27 (
 ae .neq t24 (N .i64 1) fun t29 =>
 af t29 false (fun k=>k t23 M_2) (fun k=>k .undef M_2) fun t31 M_3 =>
 af t29 false (fun k_4=>dh t31 fun t32 =>
 k_4 t32 M_3) (fun k=>k .undef M_3) fun att M_6 =>
 af t29 false (fun k_7=>ae .neq att (N .i64 0) fun t33 =>
 k_7 t33 M_6) (fun k=>k .undef M_6) fun aub M_9 =>
 aH t29 (Bo true) aub fun t34 =>
 az t34 (
 Q (Bo false) M_9) (
 J [(.sc (.slice none 0 0))] M_9)) (
 ae .neq t24 (N .i64 0) fun t36 =>
 ah t36 false (fun qg=>qg t23 M_2 none) (fun k=>k .undef M_2 none) fun t38 dJ b =>
 ah t36 false (fun mU=>jY dJ t38 fun t39 =>
 mU t39 dJ none) (fun k=>k .undef dJ none) fun acV eO akT =>
 ah t36 false (fun uC=>aF eO t5 7 fun t40 =>
 uC t40 eO none) (fun k=>k .undef eO none) fun am8 dE Ui =>
 af t36 false (fun jQ=>p5 [am8] dE fun t41 fu =>
 jQ t41 fu) (fun k=>k .undef dE) fun akl iU =>
 BG t36 false (fun uk=>jY iU t38 fun aof =>
 (aof=acV∧uk)) (fun k=>k) (ah t36 false (fun xx=>jY iU akl fun t42 =>
 xx t42 iU none) (fun k=>k .undef iU none) fun WB mK akW =>
 ah t36 false (fun Ba=>kg .neq acV WB fun t43 =>
 Ba t43 mK none) (fun k=>k .undef mK none) fun V8 qa awH =>
 aH t36 (Bo true) V8 fun t44 =>
 az t44 (
 Q (Bo false) qa) (
 J [t23] qa)))) (fun xs eP =>
 ek (fun aoD =>
 ae .geq a3 (N .i64 0) fun t46 =>
 af t46 true (fun Bz=>Bz a3 eP) (fun k=>k .undef eP) fun t48 dZ =>
 af t46 true (fun xL=>xL (aa xs 0) dZ) (fun k=>k .undef dZ) fun t49 oh =>
 af t46 true (fun Ad=>dh t49 fun t50 =>
 Ad t50 oh) (fun k=>k .undef oh) fun akO qD =>
 af t46 true (fun FH=>ae .lss t48 akO fun t51 =>
 FH t51 qD) (fun k=>k .undef qD) fun aol lG =>
 aH t46 aol (Bo false) fun t52 =>
 az t52 (
 aA (aa xs 0) a3 1 fun t57 =>
 ai lG t57 fun t58 =>
 ae .xor t58 a4 fun t60 =>
 aA (aa xs 0) a3 1 fun t61 =>
 aC lG t61 t60 1 fun gD =>
 aoD [] gD) (
 aoD [] lG)) (fun x9 nA =>
 p6 [(aa xs 0)] nA fun t63 iG =>
 dG t63 fun t64 =>
 af t64 false (fun Gs=>Gs a1 iG) (fun k=>k .undef iG) fun t66 DI =>
 af t64 false (fun Bj=>p6 [t66] DI fun t67 lV =>
 Bj t67 lV) (fun k=>k .undef DI) fun aoc jN =>
 af t64 false (fun AB=>dG aoc fun t68 =>
 AB t68 jN) (fun k=>k .undef jN) fun aor sN =>
 aH t64 (Bo true) aor fun t69 =>
 af t69 false (fun qW=>qW a2 sN) (fun k=>k .undef sN) fun t71 mg =>
 af t69 false (fun agq=>dh t71 fun t72 =>
 agq t72 mg) (fun k=>k .undef mg) fun apX CF =>
 af t69 false (fun ahc=>ae .gtr apX (N .i64 30) fun t73 =>
 ahc t73 CF) (fun k=>k .undef CF) fun amP wE =>
 aH t69 (Bo true) amP fun t74 =>
 az t74 (
 dh a2 fun t76 =>
 ae .gtr t76 (N .i64 30) fun t77 =>
 af t77 true (fun LJ=>LJ (aa xs 0) wE) (fun k=>k .undef wE) fun t79 Ai =>
 af t77 true (fun Va=>p6 [t79] Ai fun t80 Da =>
 Va t80 Da) (fun k=>k .undef Ai) fun aoX Dt =>
 aH t77 aoX (Bo false) fun t81 =>
 af t81 true (fun afT=>afT a1 Dt) (fun k=>k .undef Dt) fun t83 yR =>
 af t81 true (fun aww=>p6 [t83] yR fun t84 uI =>
 aww t84 uI) (fun k=>k .undef yR) fun aoR PY =>
 aH t81 aoR (Bo false) fun t85 =>
 Q t85 PY) (
 p7 [a2] wE fun t87 xU =>
 p8 [t87,(N .i64 0),(Bo false)] xU fun t88 IQ =>
 p9 [t88] IQ fun t89 ZY =>
 ek (fun amB =>
 ae .geq a3 (N .i64 0) fun t91 =>
 af t91 true (fun ad8=>ad8 a3 ZY) (fun k=>k .undef ZY) fun t93 QP =>
 af t91 true (fun aeI=>aeI t89 QP) (fun k=>k .undef QP) fun t94 Ea =>
 af t91 true (fun afr=>dh t94 fun t95 =>
 afr t95 Ea) (fun k=>k .undef Ea) fun aoW Jk =>
 af t91 true (fun agH=>ae .lss t93 aoW fun t96 =>
 agH t96 Jk) (fun k=>k .undef Jk) fun alz agl =>
 aH t91 alz (Bo false) fun t97 =>
 az t97 (
 aA t89 a3 1 fun GV =>
 ai agl GV fun xJ =>
 ae .xor xJ a4 fun t105 =>
 aA t89 a3 1 fun Fa =>
 aC agl Fa t105 1 fun Me =>
 amB [] Me) (
 amB [] agl)) (fun xs_94 axx =>
 p10 [t89] axx fun t109 vS =>
 bV t109 0 fun wy =>
 bV t109 1 fun xR =>
 p10 [a1] vS fun CW VD =>
 bV CW 0 fun IK =>
 bV CW 1 fun t116 =>
 ae .eql xR (N .i64 0) fun Dx =>
 ah Dx true (fun MX=>MX wy VD none) (fun k=>k .undef VD none) fun Dh Aa aaf =>
 ah Dx true (fun zI=>zI t89 Aa none) (fun k=>k .undef Aa none) fun CU zx auk =>
 ah Dx true (fun aa6=>jY zx CU fun t124 =>
 aa6 t124 zx none) (fun k=>k .undef zx none) fun VJ Kl atA =>
 af Dx true (fun NN=>p9 [Dh] Kl fun GQ arL =>
 NN GQ arL) (fun k=>k .undef Kl) fun ag9 GU =>
 BG Dx true (fun Nr=>jY GU CU fun aeO =>
 (aeO=VJ∧Nr)) (fun k=>k) (ah Dx true (fun ZW=>jY GU ag9 fun CP =>
 ZW CP GU none) (fun k=>k .undef GU none) fun afM qc arA =>
 ah Dx true (fun aan=>kg .eql afM VJ fun ou =>
 aan ou qc none) (fun k=>k .undef qc none) fun ahe ug aiG =>
 aH Dx ahe (Bo false) fun xN =>
 ah xN false (fun O5=>O5 xR ug none) (fun k=>k .undef ug none) fun Nn N7 b_124 =>
 ah xN false (fun aav=>ae .eql Nn (N .i64 14) fun wZ =>
 aav wZ N7 none) (fun k=>k .undef N7 none) fun aeL Cn b_128 =>
 ah xN false (fun ar5=>ar5 aeL Cn none) (fun k=>k .undef Cn none) fun t130 Og b_131 =>
 ah t130 true (fun asL=>asL wy Og none) (fun k=>k .undef Og none) fun t131 BX arE =>
 ah t130 true (fun abG=>jJ false 1 t131 (.sc (.pointer none)) fun FR =>
 abG FR BX none) (fun k=>k .undef BX none) fun ahq KJ arM =>
 ah xN false (fun acb=>aH t130 ahq (Bo false) fun TZ =>
 acb TZ KJ none) (fun k=>k .undef KJ none) fun afK BN ahQ =>
 aH xN (Bo true) afK fun vJ =>
 ah vJ true (fun Ot=>Ot t116 BN none) (fun k=>k .undef BN none) fun WT OV ar6 =>
 ah vJ true (fun ab0=>ae .eql WT (N .i64 0) fun U3 =>
 ab0 U3 OV none) (fun k=>k .undef OV none) fun af4 zA aiy =>
 ah vJ true (fun NK=>NK af4 zA none) (fun k=>k .undef zA none) fun t138 ait b_152 =>
 ah t138 true (fun atx=>atx IK ait none) (fun k=>k .undef ait none) fun t139 TC b_155 =>
 ah t138 true (fun as8=>as8 a1 TC none) (fun k=>k .undef TC none) fun Qh aaK b_158 =>
 ah t138 true (fun asv=>jY aaK Qh fun t143 =>
 asv t143 aaK none) (fun k=>k .undef aaK none) fun Uj ah8 b_162 =>
 af t138 true (fun atD=>p9 [t139] ah8 fun ahF asK =>
 atD ahF asK) (fun k=>k .undef ah8) fun aeS yc =>
 BG t138 true (fun asO=>jY yc Qh fun agL =>
 (agL=Uj∧asO)) (fun k=>k) (ah t138 true (fun arO=>jY yc aeS fun t141 =>
 arO t141 yc none) (fun k=>k .undef yc none) fun afg Po b_172 =>
 ah t138 true (fun asn=>kg .eql afg Uj fun aeN =>
 asn aeN Po none) (fun k=>k .undef Po none) fun ae0 aiJ b_176 =>
 ah vJ true (fun asA=>aH t138 ae0 (Bo false) fun t145 =>
 asA t145 aiJ none) (fun k=>k .undef aiJ none) fun agW air b_180 =>
 ah vJ true (fun arK=>arK agW air none) (fun k=>k .undef air none) fun t146 Cs asl =>
 ah t146 false (fun aaP=>aaP t116 Cs none) (fun k=>k .undef Cs none) fun aeX aiE b_186 =>
 ah t146 false (fun asa=>ae .eql aeX (N .i64 14) fun t148 =>
 asa t148 aiE none) (fun k=>k .undef aiE none) fun ag8 NP atW =>
 ah t146 false (fun aaM=>aaM ag8 NP none) (fun k=>k .undef NP none) fun ahk ahV b_193 =>
 ah ahk true (fun arJ=>arJ IK ahV none) (fun k=>k .undef ahV none) fun afi ah1 b_196 =>
 ah ahk true (fun asz=>jJ false 1 afi (.sc (.pointer none)) fun agJ =>
 asz agJ ah1 none) (fun k=>k .undef ah1 none) fun afB aiI b_200 =>
 ah t146 false (fun atZ=>aH ahk afB (Bo false) fun t152 =>
 atZ t152 aiI none) (fun k=>k .undef aiI none) fun agB aiB b_204 =>
 ah vJ true (fun atz=>aH t146 (Bo true) agB fun au9 =>
 atz au9 aiB none) (fun k=>k .undef aiB none) fun aeW atP b_208 =>
 aH vJ aeW (Bo false) fun t154 =>
 Q t154 atP)))))))
def aaa (p1:au) (p2:Nat) (M0:RM) (Q:ak) : Prop :=
 p1 [] M0 fun t1 M =>
 iM [(.sc (.pointer none)),(.sc (.slice none 0 0))] [(0,1,t1)] fun t2 =>
 ji p2 t2 fun r f =>
 dx r f M fun t3 M_0 =>
 Q t3 M_0
def yY (p1:Nat) (p2 p3:au) (p4:Nat) (p5 p6:au) (p7:Nat) (p8 p9:au) (p10 p11:Nat) (p12 p13 p14:au) (a0 a1:AV) (M0:RM) (Q:ak) : Prop :=
 ji p1 a1 fun r f =>
 dx r f M0 fun t3 M =>
 aF M t3 7 fun t12 =>
 p2 [t12] M fun bO M_0 =>
 dG bO fun t14 =>
 az t14 (
 Q (.tup [(Bo false),(N .i64 1)]) M_0) (
 bF a0 fun t16 =>
 aB t16 0 fun t17 =>
 ai M_0 t17 fun t18 =>
 p3 [t18] M_0 fun t19 M_1 =>
 aB t3 0 fun t20 =>
 aF M_1 t20 2 fun t21 =>
 fO p4 1 [(N .i64 0),(N .u64 0)] [(0,2,t21)] fun r_2 f_3 =>
 dx r_2 f_3 M_1 fun t22 M_4 =>
 aB t3 6 fun t23 =>
 ai M_4 t23 fun t24 =>
 appW p4 2 16 [(N .i64 0),(N .u64 0)] false t22 t24 M_4 fun t25 M_5 =>
 dh t25 fun t26 =>
 bu (fun next xs M_6 =>
 ae .lss (aa xs 0) t26 fun t28 =>
 az t28 (
 aA t25 (aa xs 0) 2 fun t29 =>
 aF M_6 t29 2 fun t30 =>
 dx (.row [(N .i64 0),(N .u64 0)] false p4 0) (fun b=>.ptr b 0) M_6 fun t8 M_7 =>
 aC M_7 t8 t30 2 fun M_8 =>
 aF M_8 t8 2 fun t32 =>
 p5 [t19,t32] M_8 fun t33 M_9 =>
 ae .neq t33 (N .i64 0) fun t35 =>
 az t35 (
 Q (.tup [(Bo false),t33]) M_9) (
 ae .add (aa xs 0) (N .i64 1) fun t37 =>
 next [t37] M_9)) (
 bF a0 fun t39 =>
 aB t39 1 fun t40 =>
 ai M_6 t40 fun t41 =>
 ek (fun J =>
 aB t3 2 fun t42 =>
 ai M_6 t42 fun t43 =>
 ae .eql t43 (N .i64 1) fun t44 =>
 ah t44 true (fun k=>k a0 M_6 none) (fun k=>k .undef M_6 none) fun t46 dH b =>
 ah t44 true (fun jh=>bF t46 fun t47 =>
 jh t47 dH none) (fun k=>k .undef dH none) fun ao6 dC abS =>
 ah t44 true (fun rE=>aB ao6 0 fun t48 =>
 rE t48 dC none) (fun k=>k .undef dC none) fun akR jE axT =>
 ah t44 true (fun Bt=>ai jE akR fun t49 =>
 Bt t49 jE none) (fun k=>k .undef jE none) fun aqN fu afD =>
 ah t44 true (fun qh=>aB t3 0 fun t50 =>
 qh t50 fu none) (fun k=>k .undef fu none) fun an6 iF aae =>
 ah t44 true (fun uy=>aF iF an6 2 fun t51 =>
 uy t51 iF none) (fun k=>k .undef iF none) fun arf iV Wj =>
 af t44 true (fun pW=>p6 [aqN,arf] iV fun t52 qa =>
 pW t52 qa) (fun k=>k .undef iV) fun ap5 eP =>
 ah t44 true (fun mF=>dG ap5 fun t53 =>
 mF t53 eP none) (fun k=>k .undef eP none) fun ape dZ U2 =>
 aH t44 ape (Bo false) fun t54 =>
 az t54 (
 aB t3 0 fun t57 =>
 aF dZ t57 2 fun t58 =>
 aB t3 3 fun t59 =>
 ai dZ t59 fun t60 =>
 aB t3 4 fun t61 =>
 ai dZ t61 fun t62 =>
 aB t3 5 fun t63 =>
 ai dZ t63 fun t64 =>
 iM [(N .i64 0),(N .u64 0),(St []),(St []),(St [])] [(0,2,t58),(2,1,t60),(3,1,t62),(4,1,t64)] fun t65 =>
 fO p7 1 [(N .i64 0),(N .u64 0),(St []),(St []),(St [])] [(0,5,t65)] fun avO awo =>
 wB avO awo dZ fun t66 jD Qq =>
 p8 [t41] jD fun t56 jf =>
 aF jf t57 2 fun aq3 =>
 (aq3=t58∧ai jf t59 fun akB =>
 (akB=t60∧ai jf t61 fun aqy =>
 (aqy=t62∧ai jf t63 fun ao0 =>
 (ao0=t64∧fO p7 1 [(N .i64 0),(N .u64 0),(St []),(St []),(St [])] [(0,5,t65)] fun axg aw2 =>
 (zm Qq jf axg aw2 t66∧appW p7 5 64 [(N .i64 0),(N .u64 0),(St []),(St []),(St [])] false t56 t66 jf fun t67 qF =>
 p9 [t67,(.fn (.func p10) [] [])] qF fun t69 lG =>
 J [t67] lG)))))) (
 J [t41] dZ)) (fun yj lV =>
 p8 [(aa yj 0)] lV fun t71 lY =>
 p12 [t71,(.fn (.func p11) [] [t3])] lY fun t73 jN =>
 bF a0 fun t76 =>
 aB t76 0 fun t77 =>
 ai jN t77 fun t78 =>
 p13 [t19,t78] jN fun t79 xh =>
 dG t79 fun t80 =>
 af t80 false (fun av0=>av0 t73 xh) (fun k=>k .undef xh) fun t82 sN =>
 af t80 false (fun qW=>qW a0 sN) (fun k=>k .undef sN) fun t83 mg =>
 af t80 false (fun agq=>bF t83 fun t84 =>
 agq t84 mg) (fun k=>k .undef mg) fun aq2 CF =>
 af t80 false (fun ahc=>aB aq2 1 fun t85 =>
 ahc t85 CF) (fun k=>k .undef CF) fun an0 wE =>
 af t80 false (fun LJ=>ai wE an0 fun t86 =>
 LJ t86 wE) (fun k=>k .undef wE) fun alX uw =>
 af t80 false (fun Xk=>p14 [t82,alX] uw fun t87 Ic =>
 Xk t87 Ic) (fun k=>k .undef uw) fun apn qE =>
 af t80 false (fun EU=>dG apn fun t88 =>
 EU t88 qE) (fun k=>k .undef qE) fun amM uI =>
 aH t80 (Bo true) amM fun t89 =>
 bF a0 fun t94 =>
 aB t94 0 fun t95 =>
 aC uI t95 t19 1 fun afX =>
 bF a0 fun t96 =>
 aB t96 1 fun t97 =>
 aC afX t97 t73 1 fun PY =>
 Q (.tup [t89,(N .i64 0)]) PY))) [(N .i64 0)] M_5)
def y5 (p1:Nat) (p2 p3 p4 p5:au) (p6:Nat) (p7 p8:au) (a0:AV) (M0:RM) (Q:ak) : Prop :=
 dx (.row [(N .i64 0),(N .u64 0),(N .i64 0),(St []),(St []),(St []),(.sc (.slice none 0 0))] false p1 0) (fun b=>.ptr b 0) M0 fun t2 M =>
 p2 [a0] M fun t7 M_0 =>
 p3 [t7,(N .i64 15)] M_0 fun t9 M_1 =>
 p4 [t7] M_1 fun cB M_2 =>
 iM [(N .i64 0),(N .u64 0)] [(0,1,t9),(1,1,cB)] fun t12 =>
 p3 [t7,(N .i64 2)] M_2 fun t14 M_3 =>
 p5 [t7,(N .i64 64)] M_3 fun t16 M_4 =>
 p5 [t7,(N .i64 64)] M_4 fun t18 M_5 =>
 p5 [t7,(N .i64 512)] M_5 fun t20 M_6 =>
 iM [(N .i64 0),(N .u64 0),(N .i64 0),(St []),(St []),(St []),(.sc (.slice none 0 0))] [(0,2,t12),(2,1,t14),(3,1,t16),(4,1,t18),(5,1,t20)] fun t21 =>
 dx (.row [(N .i64 0),(N .u64 0),(N .i64 0),(St []),(St []),(St []),(.sc (.slice none 0 0))] false p1 0) (fun b=>.ptr b 0) M_6 fun t5 M_7 =>
 aC M_7 t5 t21 7 fun M_8 =>
 p3 [t7,(N .i64 64)] M_8 fun t23 M_9 =>
 bu (fun next xs dH =>
 ae .lss (aa xs 0) t23 fun t25 =>
 az t25 (
 aB t5 6 fun t26 =>
 ai dH t26 fun t27 =>
 p3 [t7,(N .i64 15)] dH fun t29 dJ =>
 ai dJ t26 fun an5 =>
 (an5=t27∧p4 [t7] dJ fun t31 fe =>
 ai fe t26 fun Ws =>
 (Ws=t27∧iM [(N .i64 0),(N .u64 0)] [(0,1,t29),(1,1,t31)] fun t32 =>
 fO p6 1 [(N .i64 0),(N .u64 0)] [(0,2,t32)] fun r f =>
 wB r f fe fun t33 dC b =>
 appW p6 2 16 [(N .i64 0),(N .u64 0)] false t27 t33 dC fun t34 eO =>
 aB t5 6 fun t35 =>
 aC eO t35 t34 1 fun fF =>
 ae .add (aa xs 0) (N .i64 1) fun t36 =>
 next [t36] fF))) (
 p7 [t7] dH fun t38 dE =>
 ae .neq t38 (N .i64 0) fun t39 =>
 af t39 false (fun k=>aF dE t5 7 fun t41 =>
 k t41 dE) (fun k=>k .undef dE) fun alu jB =>
 af t39 false (fun xP=>p8 [alu] jB fun t42 gm =>
 xP t42 gm) (fun k=>k .undef jB) fun aoT kT =>
 af t39 false (fun oD=>dG aoT fun t43 =>
 oD t43 kT) (fun k=>k .undef kT) fun al6 jH =>
 aH t39 (Bo true) al6 fun t44 =>
 az t44 (
 iM [(N .i64 0),(N .u64 0),(N .i64 0),(St []),(St []),(St []),(.sc (.slice none 0 0))] [] fun t45 =>
 aC jH t2 t45 7 fun mK =>
 aF mK t2 7 fun res =>
 Q (.tup [res,(N .i64 14)]) mK) (
 aF jH t5 7 fun t46 =>
 aC jH t2 t46 7 fun iV =>
 aF iV t2 7 fun akr =>
 Q (.tup [akr,(N .i64 0)]) iV))) [(N .i64 0)] M_9
def XF (p1:Nat) (p2 p3:au) (p4:Nat) (p5:au) (a0:AV) (M0:RM) (Q:ak) : Prop :=
 ji p1 a0 fun r f =>
 dx r f M0 fun t1 M =>
 aB t1 0 fun t5 =>
 aF M t5 2 fun t6 =>
 p2 [t6] M fun t7 M_0 =>
 dG t7 fun t8 =>
 af t8 false (fun k=>aB t1 3 fun bN =>
 k bN M_0) (fun k=>k .undef M_0) fun atJ M_2 =>
 af t8 false (fun k_3=>ai M_2 atJ fun cB =>
 k_3 cB M_2) (fun k=>k .undef M_2) fun asD M_5 =>
 af t8 false (fun k_6=>aB t1 4 fun t12 =>
 k_6 t12 M_5) (fun k=>k .undef M_5) fun arV M_8 =>
 af t8 false (fun k_9=>ai M_8 arV fun bO =>
 k_9 bO M_8) (fun k=>k .undef M_8) fun aoN dJ =>
 af t8 false (fun mU=>aB t1 5 fun t14 =>
 mU t14 dJ) (fun k=>k .undef dJ) fun am0 eO =>
 af t8 false (fun rE=>ai eO am0 fun t15 =>
 rE t15 eO) (fun k=>k .undef eO) fun aln jE =>
 af t8 false (fun rF=>p3 [asD,aoN,aln] jE fun t16 dI =>
 rF t16 dI) (fun k=>k .undef jE) fun aoh fu =>
 af t8 false (fun uK=>dG aoh fun t17 =>
 uK t17 fu) (fun k=>k .undef fu) fun amz kT =>
 aH t8 (Bo true) amz fun t18 =>
 af t18 false (fun oD=>aB t1 6 fun t20 =>
 oD t20 kT) (fun k=>k .undef kT) fun al7 jH =>
 af t18 false (fun qb=>ai jH al7 fun t21 =>
 qb t21 jH) (fun k=>k .undef jH) fun alV jI =>
 af t18 false (fun pW=>dh alV fun t22 =>
 pW t22 jI) (fun k=>k .undef jI) fun ao1 jC =>
 af t18 false (fun Ff=>ae .gtr ao1 (N .i64 64) fun t23 =>
 Ff t23 jC) (fun k=>k .undef jC) fun anK l8 =>
 aH t18 (Bo true) anK fun t24 =>
 az t24 (
 Q (Bo false) l8) (
 aB t1 6 fun t25 =>
 ai l8 t25 fun t26 =>
 dh t26 fun t27 =>
 bu (fun next xs dZ =>
 ae .lss (aa xs 0) t27 fun t29 =>
 az t29 (
 aA t26 (aa xs 0) 2 fun t31 =>
 aF dZ t31 2 fun t32 =>
 dx (.row [(N .i64 0),(N .u64 0)] false p4 0) (fun b=>.ptr b 0) dZ fun t4 nC =>
 aC nC t4 t32 2 fun oh =>
 aF oh t4 2 fun t33 =>
 p2 [t33] oh fun t34 lU =>
 dG t34 fun t35 =>
 ah t35 false (fun xy=>aF lU t4 2 fun t37 =>
 xy t37 lU none) (fun k=>k .undef lU none) fun amO jf b =>
 ah t35 false (fun wY=>aB t1 0 fun t38 =>
 wY t38 jf none) (fun k=>k .undef jf none) fun anR gD aeg =>
 ah t35 false (fun Np=>aF gD anR 2 fun t39 =>
 Np t39 gD none) (fun k=>k .undef gD none) fun ani mH ae2 =>
 ah t35 false (fun Bj=>oU false [1,1] amO ani fun t40 =>
 Bj t40 mH none) (fun k=>k .undef mH none) fun amo lY axs =>
 aH t35 (Bo true) amo fun t41 =>
 ah t41 false (fun AB=>AB (aa xs 0) lY none) (fun k=>k .undef lY none) fun t43 iL QH =>
 ah t41 false (fun qW=>ae .gtr t43 (N .i64 0) fun t44 =>
 qW t44 iL none) (fun k=>k .undef iL none) fun arn mf aoI =>
 ah t41 false (fun WZ=>WZ arn mf none) (fun k=>k .undef mf none) fun t45 mJ afY =>
 ah t45 true (fun Uf=>aB t1 6 fun t46 =>
 Uf t46 mJ none) (fun k=>k .undef mJ none) fun aqA Ai axj =>
 ah t45 true (fun Xk=>ai Ai aqA fun t47 =>
 Xk t47 Ai none) (fun k=>k .undef Ai none) fun aoJ Dt aw7 =>
 ah t45 true (fun EU=>EU (aa xs 0) Dt none) (fun k=>k .undef Dt none) fun t48 aag b_76 =>
 ah t45 true (fun Mj=>ae .sub t48 (N .i64 1) fun t49 =>
 Mj t49 aag none) (fun k=>k .undef aag none) fun apU xU axu =>
 ah t45 true (fun XL=>aA aoJ apU 2 fun t50 =>
 XL t50 xU none) (fun k=>k .undef xU none) fun aqm mP avF =>
 ah t45 true (fun aeI=>aF mP aqm 2 fun t51 =>
 aeI t51 mP none) (fun k=>k .undef mP none) fun aoe Us b_88 =>
 ah t45 true (fun ahz=>aF Us t4 2 fun t52 =>
 ahz t52 Us none) (fun k=>k .undef Us none) fun aqI FI b_92 =>
 af t45 true (fun awm=>p5 [aoe,aqI] FI fun t53 JJ =>
 awm t53 JJ) (fun k=>k .undef FI) fun aoA vS =>
 ah t45 true (fun awW=>dG aoA fun t54 =>
 awW t54 vS none) (fun k=>k .undef vS none) fun akS Aa aaf =>
 ah t41 false (fun zI=>aH t45 akS (Bo false) fun t55 =>
 zI t55 Aa none) (fun k=>k .undef Aa none) fun ajv BJ aso =>
 aH t41 (Bo true) ajv fun t56 =>
 az t56 (
 Q (Bo false) BJ) (
 ae .add (aa xs 0) (N .i64 1) fun t57 =>
 next [t57] BJ)) (
 aB t1 2 fun t58 =>
 ai dZ t58 fun t59 =>
 ae .eql t59 (N .i64 1) fun t60 =>
 af t60 true (fun abU=>aB t1 4 fun t62 =>
 abU t62 dZ) (fun k=>k .undef dZ) fun ajj JX =>
 af t60 true (fun NN=>ai JX ajj fun t63 =>
 NN t63 JX) (fun k=>k .undef JX) fun ajc x8 =>
 af t60 true (fun aaU=>kg .neq ajc (St []) fun t64 =>
 aaU t64 x8) (fun k=>k .undef x8) fun aju PG =>
 aH t60 aju (Bo false) fun t65 =>
 af t65 false (fun ZW=>aB t1 2 fun t67 =>
 ZW t67 PG) (fun k=>k .undef PG) fun akh qc =>
 af t65 false (fun Oj=>ai qc akh fun t68 =>
 Oj t68 qc) (fun k=>k .undef qc) fun ajZ JU =>
 af t65 false (fun ZT=>ae .eql ajZ (N .i64 2) fun t69 =>
 ZT t69 JU) (fun k=>k .undef JU) fun ajz O3 =>
 af t65 false (fun aui=>aui ajz O3) (fun k=>k .undef O3) fun t70 zn =>
 af t70 true (fun aav=>aB t1 5 fun t71 =>
 aav t71 zn) (fun k=>k .undef zn) fun aiZ Cn =>
 af t70 true (fun at6=>ai Cn aiZ fun t72 =>
 at6 t72 Cn) (fun k=>k .undef Cn) fun aiV Og =>
 af t70 true (fun abY=>kg .eql aiV (St []) fun t73 =>
 abY t73 Og) (fun k=>k .undef Og) fun akd BX =>
 af t65 false (fun asf=>aH t70 akd (Bo false) fun t74 =>
 asf t74 BX) (fun k=>k .undef BX) fun ai4 TK =>
 aH t65 (Bo true) ai4 fun t75 =>
 Q t75 TK)) [(N .i64 0)] l8)
def abo (p1:Nat) (p2:au) (a0:AV) (M0:RM) (Q:ak) : Prop :=
 ahP p1 96 [(N .i64 0),(N .u64 0),(N .i64 0),(St []),(St []),(St []),(.sc (.slice none 0 0))] (N .i64 0) (N .i64 0) fun r f =>
 dx r f M0 fun t7 M =>
 bu (fun next xs M_0 =>
 dh a0 fun bN =>
 ae .lss (aa xs 1) bN fun cB =>
 az cB (
 ek (fun J =>
 aA a0 (aa xs 1) 7 fun t16 =>
 aF M_0 t16 7 fun t17 =>
 p2 [t17] M_0 fun t18 M_1 =>
 dG t18 fun t19 =>
 bu (fun wK dR M_4 =>
 dh (aa xs 0) fun t22 =>
 ae .lss (aa dR 1) t22 fun t23 =>
 az t23 (
 ah (aa dR 0) false (fun k=>k (aa xs 0) M_4 none) (fun k=>k .undef M_4 none) fun t28 M_5 b =>
 ah (aa dR 0) false (fun k_6=>k_6 (aa dR 1) M_5 none) (fun k=>k .undef M_5 none) fun t29 M_7 b_8 =>
 ah (aa dR 0) false (fun k_9=>aA t28 t29 7 fun t30 =>
 k_9 t30 M_7 none) (fun k=>k .undef M_7 none) fun anU dJ afl =>
 ah (aa dR 0) false (fun uz=>aB anU 0 fun t31 =>
 uz t31 dJ none) (fun k=>k .undef dJ none) fun XJ fF ahn =>
 ah (aa dR 0) false (fun mM=>aF fF XJ 2 fun t32 =>
 mM t32 fF none) (fun k=>k .undef fF none) fun amK dI abE =>
 ah (aa dR 0) false (fun xP=>xP a0 dI none) (fun k=>k .undef dI none) fun t33 gm abh =>
 ah (aa dR 0) false (fun uk=>uk (aa xs 1) gm none) (fun k=>k .undef gm none) fun t34 iF aae =>
 ah (aa dR 0) false (fun uy=>aA t33 t34 7 fun t35 =>
 uy t35 iF none) (fun k=>k .undef iF none) fun akL iV Wj =>
 ah (aa dR 0) false (fun pW=>aB akL 0 fun t36 =>
 pW t36 iV none) (fun k=>k .undef iV none) fun alr jC apu =>
 ah (aa dR 0) false (fun mF=>aF jC alr 2 fun t37 =>
 mF t37 jC none) (fun k=>k .undef jC none) fun ame dZ U2 =>
 ah (aa dR 0) false (fun Ao=>oU false [1,1] amK ame fun t38 =>
 Ao t38 dZ none) (fun k=>k .undef dZ none) fun anV jD Qq =>
 aH (aa dR 0) (Bo true) anV fun t39 =>
 ae .add (aa dR 1) (N .i64 1) fun t25 =>
 wK [t39,t25] jD) (
 dG (aa dR 0) fun t41 =>
 az t41 (
 aA a0 (aa xs 1) 7 fun t45 =>
 aF M_4 t45 7 fun t46 =>
 fO p1 1 [(N .i64 0),(N .u64 0),(N .i64 0),(St []),(St []),(St []),(.sc (.slice none 0 0))] [(0,7,t46)] fun av3 avr =>
 dx av3 avr M_4 fun t47 lG =>
 appW p1 7 96 [(N .i64 0),(N .u64 0),(N .i64 0),(St []),(St []),(St []),(.sc (.slice none 0 0))] false (aa xs 0) t47 lG fun t48 gD =>
 J [t48] gD) (
 J [(aa xs 0)] M_4))) [t19,(N .i64 0)] M_1) (fun x9 nA =>
 ae .add (aa xs 1) (N .i64 1) fun bO =>
 next [(aa x9 0),bO] nA)) (
 Q (aa xs 0) M_0)) [t7,(N .i64 0)] M
def Di (p1:Nat) (p2 p3:au) (a0:AV) (M0:RM) (Q:ak) : Prop :=
 ji p1 a0 fun r f =>
 dx r f M0 fun t1 M =>
 aB t1 0 fun t4 =>
 aF M t4 2 fun t5 =>
 p2 [t5] M fun t6 M_0 =>
 dG t6 fun t7 =>
 af t7 false (fun k=>aB t1 2 fun t9 =>
 k t9 M_0) (fun k=>k .undef M_0) fun agb M_2 =>
 af t7 false (fun k_3=>ai M_2 agb fun bN =>
 k_3 bN M_2) (fun k=>k .undef M_2) fun ZH M_5 =>
 af t7 false (fun k_6=>ae .neq ZH (N .i64 1) fun cB =>
 k_6 cB M_5) (fun k=>k .undef M_5) fun acp M_8 =>
 af t7 false (fun k_9=>k_9 acp M_8) (fun k=>k .undef M_8) fun t12 dH =>
 af t12 true (fun jh=>aB t1 2 fun bO =>
 jh bO dH) (fun k=>k .undef dH) fun Jh dC =>
 af t12 true (fun jS=>ai dC Jh fun t14 =>
 jS t14 dC) (fun k=>k .undef dC) fun Ie dK =>
 af t12 true (fun mM=>ae .neq Ie (N .i64 2) fun t15 =>
 mM t15 dK) (fun k=>k .undef dK) fun aqi dI =>
 af t7 false (fun jQ=>aH t12 aqi (Bo false) fun t16 =>
 jQ t16 dI) (fun k=>k .undef dI) fun alm gm =>
 aH t7 (Bo true) alm fun t17 =>
 af t17 false (fun qh=>aB t1 3 fun t19 =>
 qh t19 gm) (fun k=>k .undef gm) fun JB iF =>
 af t17 false (fun xx=>ai iF JB fun t20 =>
 xx t20 iF) (fun k=>k .undef iF) fun aqc mK =>
 af t17 false (fun Fy=>oO aqc fun t21 =>
 Fy t21 mK) (fun k=>k .undef mK) fun aku jL =>
 af t17 false (fun uL=>ae .lss aku (N .i64 1) fun t22 =>
 uL t22 jL) (fun k=>k .undef jL) fun apv eP =>
 aH t17 (Bo true) apv fun t23 =>
 af t23 false (fun mF=>aB t1 3 fun t25 =>
 mF t25 eP) (fun k=>k .undef eP) fun anm dZ =>
 af t23 false (fun xL=>ai dZ anm fun t26 =>
 xL t26 dZ) (fun k=>k .undef dZ) fun aqf lU =>
 af t23 false (fun xy=>oO aqf fun t27 =>
 xy t27 lU) (fun k=>k .undef lU) fun anN jf =>
 af t23 false (fun wY=>ae .gtr anN (N .i64 64) fun t28 =>
 wY t28 jf) (fun k=>k .undef jf) fun ak1 gD =>
 aH t23 (Bo true) ak1 fun t29 =>
 af t29 false (fun xm=>aB t1 4 fun t31 =>
 xm t31 gD) (fun k=>k .undef gD) fun anu iG =>
 af t29 false (fun Gs=>ai iG anu fun t32 =>
 Gs t32 iG) (fun k=>k .undef iG) fun aqT q9 =>
 af t29 false (fun WE=>oO aqT fun t33 =>
 WE t33 q9) (fun k=>k .undef q9) fun aph jN =>
 af t29 false (fun AB=>ae .gtr aph (N .i64 64) fun t34 =>
 AB t34 jN) (fun k=>k .undef jN) fun amA sN =>
 aH t29 (Bo true) amA fun t35 =>
 af t35 false (fun qW=>aB t1 5 fun t37 =>
 qW t37 sN) (fun k=>k .undef sN) fun WG mf =>
 af t35 false (fun zY=>ai mf WG fun t38 =>
 zY t38 mf) (fun k=>k .undef mf) fun aom mJ =>
 af t35 false (fun WU=>oO aom fun t39 =>
 WU t39 mJ) (fun k=>k .undef mJ) fun anI uG =>
 af t35 false (fun aed=>ae .gtr anI (N .i64 512) fun t40 =>
 aed t40 uG) (fun k=>k .undef uG) fun amY Da =>
 aH t35 (Bo true) amY fun t41 =>
 af t41 false (fun WK=>aB t1 6 fun t43 =>
 WK t43 Da) (fun k=>k .undef Da) fun Xw qE =>
 af t41 false (fun EU=>ai qE Xw fun t44 =>
 EU t44 qE) (fun k=>k .undef qE) fun Uu uI =>
 af t41 false (fun Mj=>dh Uu fun t45 =>
 Mj t45 uI) (fun k=>k .undef uI) fun Xr xU =>
 af t41 false (fun VO=>ae .gtr Xr (N .i64 64) fun t46 =>
 VO t46 xU) (fun k=>k .undef xU) fun V3 Eb =>
 aH t41 (Bo true) V3 fun t47 =>
 az t47 (
 Q (Bo false) Eb) (
 aB t1 2 fun t48 =>
 ai Eb t48 fun t49 =>
 ae .eql t49 (N .i64 1) fun t50 =>
 af t50 true (fun ad8=>aB t1 4 fun t52 =>
 ad8 t52 Eb) (fun k=>k .undef Eb) fun aog Jc =>
 af t50 true (fun af8=>ai Jc aog fun t53 =>
 af8 t53 Jc) (fun k=>k .undef Jc) fun aqU F8 =>
 af t50 true (fun ahz=>kg .eql aqU (St []) fun t54 =>
 ahz t54 F8) (fun k=>k .undef F8) fun aoH FI =>
 aH t50 aoH (Bo false) fun t55 =>
 af t55 false (fun awu=>aB t1 2 fun t57 =>
 awu t57 FI) (fun k=>k .undef FI) fun ann JJ =>
 af t55 false (fun Ur=>ai JJ ann fun t58 =>
 Ur t58 JJ) (fun k=>k .undef JJ) fun aqg VD =>
 af t55 false (fun MX=>ae .eql aqg (N .i64 2) fun t59 =>
 MX t59 VD) (fun k=>k .undef VD) fun aqQ aiw =>
 af t55 false (fun zI=>zI aqQ aiw) (fun k=>k .undef aiw) fun t60 zx =>
 af t60 true (fun arC=>aB t1 5 fun t61 =>
 arC t61 zx) (fun k=>k .undef zx) fun ai3 aa4 =>
 af t60 true (fun atn=>ai aa4 ai3 fun t62 =>
 atn t62 aa4) (fun k=>k .undef aa4) fun ajF O8 =>
 af t60 true (fun O9=>kg .neq ajF (St []) fun t63 =>
 O9 t63 O8) (fun k=>k .undef O8) fun ajS GU =>
 af t55 false (fun Nr=>aH t60 ajS (Bo false) fun t64 =>
 Nr t64 GU) (fun k=>k .undef GU) fun aiQ OJ =>
 aH t55 (Bo true) aiQ fun t65 =>
 az t65 (
 Q (Bo false) OJ) (
 bu (fun next xs Cr =>
 aB t1 6 fun t67 =>
 ai Cr t67 fun t68 =>
 dh t68 fun t69 =>
 ae .lss (aa xs 0) t69 fun t70 =>
 az t70 (
 aB t1 6 fun t73 =>
 ai Cr t73 fun t74 =>
 aA t74 (aa xs 0) 2 fun t76 =>
 aF Cr t76 2 fun t77 =>
 p2 [t77] Cr fun t78 qc =>
 dG t78 fun t79 =>
 ah t79 false (fun Oj=>aB t1 6 fun t81 =>
 Oj t81 qc none) (fun k=>k .undef qc none) fun aj1 JU b =>
 ah t79 false (fun ZT=>ai JU aj1 fun t82 =>
 ZT t82 JU none) (fun k=>k .undef JU none) fun ajR O3 b_123 =>
 ah t79 false (fun atB=>atB (aa xs 0) O3 none) (fun k=>k .undef O3 none) fun t83 aiv b_126 =>
 ah t79 false (fun aty=>aA ajR t83 2 fun t84 =>
 aty t84 aiv none) (fun k=>k .undef aiv none) fun ai1 Kz b_130 =>
 ah t79 false (fun abY=>aF Kz ai1 2 fun t85 =>
 abY t85 Kz none) (fun k=>k .undef Kz none) fun ajt BX arE =>
 ah t79 false (fun abG=>aB t1 0 fun t86 =>
 abG t86 BX none) (fun k=>k .undef BX none) fun aj2 KJ arM =>
 ah t79 false (fun acb=>aF KJ aj2 2 fun t87 =>
 acb t87 KJ none) (fun k=>k .undef KJ none) fun ajl BN ahQ =>
 ah t79 false (fun Ot=>oU false [1,1] ajt ajl fun t88 =>
 Ot t88 BN none) (fun k=>k .undef BN none) fun ai7 Tk b_146 =>
 aH t79 (Bo true) ai7 fun t89 =>
 ah t89 false (fun asY=>asY (aa xs 0) Tk none) (fun k=>k .undef Tk none) fun t91 zA aiy =>
 ah t89 false (fun NK=>ae .gtr t91 (N .i64 0) fun t92 =>
 NK t92 zA none) (fun k=>k .undef zA none) fun aji GJ asG =>
 ah t89 false (fun Zx=>Zx aji GJ none) (fun k=>k .undef GJ none) fun t93 FQ ate =>
 ah t93 true (fun aaF=>aB t1 6 fun t94 =>
 aaF t94 FQ none) (fun k=>k .undef FQ none) fun ajE aas b_160 =>
 ah t93 true (fun arF=>ai aas ajE fun t95 =>
 arF t95 aas none) (fun k=>k .undef aas none) fun ajL ahN b_164 =>
 ah t93 true (fun asH=>asH (aa xs 0) ahN none) (fun k=>k .undef ahN none) fun t96 yc asr =>
 ah t93 true (fun aa7=>ae .sub t96 (N .i64 1) fun t97 =>
 aa7 t97 yc none) (fun k=>k .undef yc none) fun ajN ah2 b_171 =>
 ah t93 true (fun ZP=>aA ajL ajN 2 fun t98 =>
 ZP t98 ah2 none) (fun k=>k .undef ah2 none) fun ai5 Ky arU =>
 ah t93 true (fun abH=>aF Ky ai5 2 fun t99 =>
 abH t99 Ky none) (fun k=>k .undef Ky none) fun aiP yh ash =>
 ah t93 true (fun atq=>aB t1 6 fun lI =>
 atq lI yh none) (fun k=>k .undef yh none) fun aei Cs asl =>
 ah t93 true (fun aaP=>ai Cs aei fun ni =>
 aaP ni Cs none) (fun k=>k .undef Cs none) fun agX aiA b_187 =>
 ah t93 true (fun atw=>atw (aa xs 0) aiA none) (fun k=>k .undef aiA none) fun GV NP atW =>
 ah t93 true (fun aaM=>aA agX GV 2 fun xJ =>
 aaM xJ NP none) (fun k=>k .undef NP none) fun afH ZA b_194 =>
 ah t93 true (fun atr=>aF ZA afH 2 fun Fe =>
 atr Fe ZA none) (fun k=>k .undef ZA none) fun aeK aiu b_198 =>
 af t93 true (fun as4=>p3 [aiP,aeK] aiu fun t105 asc =>
 as4 t105 asc) (fun k=>k .undef aiu) fun agp aih =>
 ah t93 true (fun ar0=>dG agp fun Fa =>
 ar0 Fa aih none) (fun k=>k .undef aih none) fun af2 ain b_206 =>
 ah t89 false (fun asS=>aH t93 af2 (Bo false) fun t107 =>
 asS t107 ain none) (fun k=>k .undef ain none) fun afe aiz b_210 =>
 aH t89 (Bo true) afe fun zZ =>
 az zZ (
 Q (Bo false) aiz) (
 ae .add (aa xs 0) (N .i64 1) fun t72 =>
 next [t72] aiz)) (
 Q (Bo true) Cr)) [(N .i64 0)] OJ))
def QO (p1 p2:au) (a0 a1 a2:AV) (M0:RM) (Q:ak) : Prop :=
 p1 [] M0 fun bN M =>
 bu (fun next xs M_0 =>
 dh a0 fun bO =>
 ae .lss (aa xs 0) bO fun t14 =>
 az t14 (
 ek (fun J =>
 ae .and a1 (N .i64 1023) fun t19 =>
 ae .add (aa xs 0) t19 fun t20 =>
 dh a0 fun t22 =>
 ae .rem t20 t22 fun t23 =>
 ek (fun J_1 =>
 az a2 (
 dh a0 fun t26 =>
 ae .sub t26 (N .i64 1) fun t27 =>
 ae .sub t27 t23 fun t29 =>
 J_1 [t29] M_0) (
 J_1 [t23] M_0)) (fun uq M_3 =>
 aA a0 (aa uq 0) 7 fun t33 =>
 aF M_3 t33 7 fun t34 =>
 p2 [bN,t34] M_3 fun t35 M_4 =>
 J [] M_4)) (fun Jf M_6 =>
 ae .add (aa xs 0) (N .i64 1) fun t16 =>
 next [t16] M_6)) (
 Q bN M_0)) [(N .i64 0)] M
def xc (p1 p2 p3:au) (p4:Nat) (a0:AV) (M0:RM) (Q:ak) : Prop :=
 bF a0 fun t7 =>
 aB t7 0 fun t8 =>
 ai M0 t8 fun t9 =>
 bF a0 fun t14 =>
 aB t14 1 fun t15 =>
 ai M0 t15 fun t16 =>
 dh t16 fun t17 =>
 fG .u64 t17 fun t18 =>
 p1 [t9] M0 fun bN M =>
 ai M t15 fun U9 =>
 (U9=t16∧jY M bN fun cB =>
 p2 [(.sc (.slice none 0 0)),cB] M fun t12 M_0 =>
 ai M_0 t15 fun an4 =>
 (an4=t16∧p3 [t12,t18] M_0 fun t19 M_1 =>
 bF a0 fun t21 =>
 aB t21 1 fun t22 =>
 ai M_1 t22 fun t23 =>
 dh t23 fun t24 =>
 bu (fun next xs M_2 =>
 ae .lss (aa xs 1) t24 fun t26 =>
 az t26 (
 aA t23 (aa xs 1) 5 fun t27 =>
 aF M_2 t27 5 fun t28 =>
 dx (.row [(N .i64 0),(N .u64 0),(St []),(St []),(St [])] false p4 0) (fun b=>.ptr b 0) M_2 fun t5 M_3 =>
 aC M_3 t5 t28 5 fun M_4 =>
 aB t5 0 fun t30 =>
 aB t30 0 fun t31 =>
 ai M_4 t31 fun t32 =>
 fG .u64 t32 fun t33 =>
 aB t5 0 fun t35 =>
 aB t35 1 fun t36 =>
 ai M_4 t36 fun t37 =>
 p3 [(aa xs 0),t33] M_4 fun t34 M_5 =>
 ai M_5 t36 fun akC =>
 (akC=t37∧p3 [t34,t37] M_5 fun t38 M_6 =>
 aB t5 2 fun t40 =>
 ai M_6 t40 fun t41 =>
 aB t5 3 fun t43 =>
 ai M_6 t43 fun t44 =>
 aB t5 4 fun t46 =>
 ai M_6 t46 fun t47 =>
 p2 [t38,t41] M_6 fun t42 M_7 =>
 ai M_7 t43 fun anf =>
 (anf=t44∧ai M_7 t46 fun anl =>
 (anl=t47∧p2 [t42,t44] M_7 fun t45 M_8 =>
 ai M_8 t46 fun am5 =>
 (am5=t47∧p2 [t45,t47] M_8 fun t48 M_9 =>
 ae .add (aa xs 1) (N .i64 1) fun t49 =>
 next [t48,t49] M_9))))) (
 Q (aa xs 0) M_2)) [t19,(N .i64 0)] M_1))
def yP (p1:Nat) (p2 p3 p4:au) (p5:Nat) (a0:AV) (M0:RM) (Q:ak) : Prop :=
 ji p1 a0 fun r f =>
 dx r f M0 fun t1 M =>
 aF M t1 7 fun t7 =>
 p2 [t7] M fun t8 M_0 =>
 dG t8 fun t9 =>
 az t9 (
 Q (.tup [(.sc (.slice none 0 0)),(N .i64 1)]) M_0) (
 aB t1 0 fun bN =>
 aB bN 0 fun cB =>
 ai M_0 cB fun t12 =>
 fG .u64 t12 fun bO =>
 aB t1 0 fun t15 =>
 aB t15 1 fun t16 =>
 ai M_0 t16 fun t17 =>
 aB t1 2 fun t19 =>
 ai M_0 t19 fun t20 =>
 fG .u64 t20 fun t21 =>
 p3 [(.sc (.slice none 0 0)),bO] M_0 fun t14 M_1 =>
 ai M_1 t16 fun ami =>
 (ami=t17∧ai M_1 t19 fun aro =>
 (aro=t20∧p3 [t14,t17] M_1 fun t18 M_2 =>
 ai M_2 t19 fun akN =>
 (akN=t20∧p3 [t18,t21] M_2 fun t22 M_3 =>
 aB t1 3 fun t24 =>
 ai M_3 t24 fun t25 =>
 aB t1 4 fun t27 =>
 ai M_3 t27 fun t28 =>
 aB t1 5 fun t30 =>
 ai M_3 t30 fun t31 =>
 p4 [t22,t25] M_3 fun t26 M_4 =>
 ai M_4 t27 fun akV =>
 (akV=t28∧ai M_4 t30 fun aox =>
 (aox=t31∧p4 [t26,t28] M_4 fun t29 M_5 =>
 ai M_5 t30 fun XJ =>
 (XJ=t31∧p4 [t29,t31] M_5 fun t32 M_6 =>
 aB t1 6 fun t34 =>
 ai M_6 t34 fun t35 =>
 dh t35 fun t36 =>
 fG .u64 t36 fun t37 =>
 p3 [t32,t37] M_6 fun t38 M_7 =>
 aB t1 6 fun t39 =>
 ai M_7 t39 fun t40 =>
 dh t40 fun t41 =>
 bu (fun next xs M_8 =>
 ae .lss (aa xs 1) t41 fun t43 =>
 az t43 (
 aA t40 (aa xs 1) 2 fun t44 =>
 aF M_8 t44 2 fun t45 =>
 dx (.row [(N .i64 0),(N .u64 0)] false p5 0) (fun b=>.ptr b 0) M_8 fun t6 M_9 =>
 aC M_9 t6 t45 2 fun dH =>
 aB t6 0 fun t47 =>
 ai dH t47 fun t48 =>
 fG .u64 t48 fun t49 =>
 aB t6 1 fun t51 =>
 ai dH t51 fun t52 =>
 p3 [(aa xs 0),t49] dH fun t50 dJ =>
 ai dJ t51 fun alF =>
 (alF=t52∧p3 [t50,t52] dJ fun t53 fe =>
 ae .add (aa xs 1) (N .i64 1) fun t54 =>
 next [t53,t54] fe)) (
 Q (.tup [(aa xs 0),(N .i64 0)]) M_8)) [t38,(N .i64 0)] M_7)))))))
def wm (p1:Nat) (p2:au) (p3:Nat) (p4:au) (a0:AV) (M0:RM) (Q:ak) : Prop :=
 ji p1 a0 fun r f =>
 dx r f M0 fun t1 M =>
 aB t1 0 fun t5 =>
 aB t5 0 fun t6 =>
 ai M t6 fun t7 =>
 fG .u64 t7 fun t8 =>
 p2 [t8] M fun t9 M_0 =>
 aB t1 0 fun cB =>
 aB cB 1 fun t12 =>
 ai M_0 t12 fun bO =>
 p2 [bO] M_0 fun t14 M_1 =>
 appW p3 1 1 [(N .u8 0)] false t9 t14 M_1 fun t15 M_2 =>
 aB t1 2 fun t17 =>
 ai M_2 t17 fun t18 =>
 fG .u64 t18 fun t19 =>
 p2 [t19] M_2 fun t20 M_3 =>
 appW p3 1 1 [(N .u8 0)] false t15 t20 M_3 fun t21 M_4 =>
 aB t1 3 fun t23 =>
 ai M_4 t23 fun t24 =>
 aB t1 4 fun t27 =>
 ai M_4 t27 fun t28 =>
 aB t1 5 fun t31 =>
 ai M_4 t31 fun t32 =>
 p4 [t24] M_4 fun t25 M_5 =>
 ai M_5 t27 fun ark =>
 (ark=t28∧ai M_5 t31 fun aop =>
 (aop=t32∧appW p3 1 1 [(N .u8 0)] false t21 t25 M_5 fun t26 M_6 =>
 ai M_6 t27 fun aoQ =>
 (aoQ=t28∧ai M_6 t31 fun alB =>
 (alB=t32∧p4 [t28] M_6 fun t29 M_7 =>
 ai M_7 t31 fun aoB =>
 (aoB=t32∧appW p3 1 1 [(N .u8 0)] false t26 t29 M_7 fun t30 M_8 =>
 ai M_8 t31 fun apN =>
 (apN=t32∧p4 [t32] M_8 fun t33 M_9 =>
 appW p3 1 1 [(N .u8 0)] false t30 t33 M_9 fun t34 dH =>
 aB t1 6 fun t36 =>
 ai dH t36 fun t37 =>
 dh t37 fun t38 =>
 fG .u64 t38 fun t39 =>
 p2 [t39] dH fun t40 dJ =>
 appW p3 1 1 [(N .u8 0)] false t34 t40 dJ fun t41 fe =>
 bu (fun next xs dC =>
 aB t1 6 fun t43 =>
 ai dC t43 fun t44 =>
 dh t44 fun t45 =>
 ae .lss (aa xs 1) t45 fun t46 =>
 az t46 (
 aB t1 6 fun t50 =>
 ai dC t50 fun t51 =>
 aA t51 (aa xs 1) 2 fun t53 =>
 aB t53 0 fun t54 =>
 ai dC t54 fun t55 =>
 fG .u64 t55 fun t56 =>
 aB t1 6 fun t59 =>
 ai dC t59 fun t60 =>
 aA t60 (aa xs 1) 2 fun t62 =>
 aB t62 1 fun t63 =>
 ai dC t63 fun t64 =>
 p2 [t56] dC fun t57 eO =>
 ai eO t59 fun amn =>
 (amn=t60∧ai eO t63 fun aow =>
 (aow=t64∧appW p3 1 1 [(N .u8 0)] false (aa xs 0) t57 eO fun t58 fF =>
 ai fF t59 fun amV =>
 (amV=t60∧ai fF t63 fun aot =>
 (aot=t64∧p2 [t64] fF fun t65 dK =>
 appW p3 1 1 [(N .u8 0)] false t58 t65 dK fun t66 jE =>
 ae .add (aa xs 1) (N .i64 1) fun t48 =>
 next [t66,t48] jE))))) (
 Q (aa xs 0) dC)) [t41,(N .i64 0)] fe))))))
def Qs (p1:au) (p2:Nat) (p3 p4:au) (a0:AV) (M0:RM) (Q:ak) : Prop :=
 p1 [a0] M0 fun t9 M =>
 bV t9 0 fun bN =>
 bV t9 1 fun cB =>
 dx (.row [(N .i64 0),(N .u64 0),(N .i64 0),(St []),(St []),(St []),(.sc (.slice none 0 0))] false p2 0) (fun b=>.ptr b 0) M fun t3 M_0 =>
 aC M_0 t3 bN 7 fun M_1 =>
 p3 [a0] M_1 fun t14 M_2 =>
 bV t14 0 fun t15 =>
 bV t14 1 fun t16 =>
 dx (.row [(N .i64 0),(N .u64 0),(N .i64 0),(St []),(St []),(St []),(.sc (.slice none 0 0))] false p2 0) (fun b=>.ptr b 0) M_2 fun t5 M_3 =>
 aC M_3 t5 t15 7 fun M_4 =>
 dG t16 fun t18 =>
 az t18 (
 ae .eql cB (N .i64 14) fun t20 =>
 af t20 true (fun k=>aF M_4 t3 7 fun t22 =>
 k t22 M_4) (fun k=>k .undef M_4) fun as5 M_6 =>
 af t20 true (fun k_7=>iM [(N .i64 0),(N .u64 0),(N .i64 0),(St []),(St []),(St []),(.sc (.slice none 0 0))] [] fun t23 =>
 k_7 t23 M_6) (fun k=>k .undef M_6) fun abB M_9 =>
 af t20 true (fun qg=>p4 [as5,abB] M_9 fun t24 dJ =>
 qg t24 dJ) (fun k=>k .undef M_9) fun UY dC =>
 aH t20 UY (Bo false) fun t25 =>
 Q t25 dC) (
 ae .eql cB (N .i64 0) fun t27 =>
 af t27 true (fun jS=>aF M_4 t3 7 fun t29 =>
 jS t29 M_4) (fun k=>k .undef M_4) fun Xf dK =>
 af t27 true (fun mM=>aF dK t5 7 fun t30 =>
 mM t30 dK) (fun k=>k .undef dK) fun aoP dI =>
 af t27 true (fun jQ=>p4 [Xf,aoP] dI fun t31 fu =>
 jQ t31 fu) (fun k=>k .undef dI) fun alC iU =>
 aH t27 alC (Bo false) fun t32 =>
 Q t32 iU)
def Du (p1:Nat) (a0 a1:AV) (M0:RM) (Q:ak) : Prop :=
 ji p1 a0 fun r f =>
 dx r f M0 fun t2 M =>
 ji p1 a1 fun r_0 f_1 =>
 dx r_0 f_1 M fun t3 M_2 =>
 aB t2 0 fun t6 =>
 aF M_2 t6 2 fun t7 =>
 aB t3 0 fun t8 =>
 aF M_2 t8 2 fun t9 =>
 oU true [1,1] t7 t9 fun bN =>
 af bN false (fun k=>aB t2 2 fun t12 =>
 k t12 M_2) (fun k=>k .undef M_2) fun asb M_4 =>
 af bN false (fun k_5=>ai M_4 asb fun bO =>
 k_5 bO M_4) (fun k=>k .undef M_4) fun ZZ M_7 =>
 af bN false (fun k_8=>aB t3 2 fun t14 =>
 k_8 t14 M_7) (fun k=>k .undef M_7) fun arH dH =>
 af bN false (fun jh=>ai dH arH fun t15 =>
 jh t15 dH) (fun k=>k .undef dH) fun apx dC =>
 af bN false (fun jS=>ae .neq ZZ apx fun t16 =>
 jS t16 dC) (fun k=>k .undef dC) fun U9 dK =>
 aH bN (Bo true) U9 fun t17 =>
 af t17 false (fun mM=>aB t2 3 fun t19 =>
 mM t19 dK) (fun k=>k .undef dK) fun alf dI =>
 af t17 false (fun jQ=>ai dI alf fun t20 =>
 jQ t20 dI) (fun k=>k .undef dI) fun alI gm =>
 af t17 false (fun qh=>aB t3 3 fun t21 =>
 qh t21 gm) (fun k=>k .undef gm) fun an1 iF =>
 af t17 false (fun xx=>ai iF an1 fun t22 =>
 xx t22 iF) (fun k=>k .undef iF) fun anF mK =>
 af t17 false (fun Fy=>kg .neq alI anF fun t23 =>
 Fy t23 mK) (fun k=>k .undef mK) fun alZ jL =>
 aH t17 (Bo true) alZ fun t24 =>
 af t24 false (fun uL=>aB t2 4 fun t26 =>
 uL t26 jL) (fun k=>k .undef jL) fun amb eP =>
 af t24 false (fun mF=>ai eP amb fun t27 =>
 mF t27 eP) (fun k=>k .undef eP) fun akQ dZ =>
 af t24 false (fun xL=>aB t3 4 fun t28 =>
 xL t28 dZ) (fun k=>k .undef dZ) fun arp lU =>
 af t24 false (fun xy=>ai lU arp fun t29 =>
 xy t29 lU) (fun k=>k .undef lU) fun apA jf =>
 af t24 false (fun wY=>kg .neq akQ apA fun t30 =>
 wY t30 jf) (fun k=>k .undef jf) fun anw gD =>
 aH t24 (Bo true) anw fun t31 =>
 af t31 false (fun xm=>aB t2 5 fun t33 =>
 xm t33 gD) (fun k=>k .undef gD) fun ald iG =>
 af t31 false (fun Gs=>ai iG ald fun t34 =>
 Gs t34 iG) (fun k=>k .undef iG) fun aqa q9 =>
 af t31 false (fun WE=>aB t3 5 fun t35 =>
 WE t35 q9) (fun k=>k .undef q9) fun alK jN =>
 af t31 false (fun AB=>ai jN alK fun t36 =>
 AB t36 jN) (fun k=>k .undef jN) fun am7 sN =>
 af t31 false (fun qW=>kg .neq aqa am7 fun t37 =>
 qW t37 sN) (fun k=>k .undef sN) fun WG mf =>
 aH t31 (Bo true) WG fun t38 =>
 af t38 false (fun zY=>aB t2 6 fun t40 =>
 zY t40 mf) (fun k=>k .undef mf) fun aoq mJ =>
 af t38 false (fun WU=>ai mJ aoq fun t41 =>
 WU t41 mJ) (fun k=>k .undef mJ) fun ak6 uG =>
 af t38 false (fun aed=>dh ak6 fun t42 =>
 aed t42 uG) (fun k=>k .undef uG) fun aqB Da =>
 af t38 false (fun WK=>aB t3 6 fun t43 =>
 WK t43 Da) (fun k=>k .undef Da) fun Xw qE =>
 af t38 false (fun EU=>ai qE Xw fun t44 =>
 EU t44 qE) (fun k=>k .undef qE) fun Uu uI =>
 af t38 false (fun Mj=>dh Uu fun t45 =>
 Mj t45 uI) (fun k=>k .undef uI) fun Xr xU =>
 af t38 false (fun VO=>ae .neq aqB Xr fun t46 =>
 VO t46 xU) (fun k=>k .undef xU) fun V3 Eb =>
 aH t38 (Bo true) V3 fun t47 =>
 az t47 (
 Q (Bo false) Eb) (
 bu (fun next xs mP =>
 aB t2 6 fun t49 =>
 ai mP t49 fun t50 =>
 dh t50 fun t51 =>
 ae .lss (aa xs 0) t51 fun t52 =>
 az t52 (
 aB t2 6 fun t55 =>
 ai mP t55 fun t56 =>
 aA t56 (aa xs 0) 2 fun t58 =>
 aF mP t58 2 fun t59 =>
 aB t3 6 fun t60 =>
 ai mP t60 fun t61 =>
 aA t61 (aa xs 0) 2 fun t63 =>
 aF mP t63 2 fun t64 =>
 oU true [1,1] t59 t64 fun t65 =>
 az t65 (
 Q (Bo false) mP) (
 ae .add (aa xs 0) (N .i64 1) fun t54 =>
 next [t54] mP)) (
 Q (Bo true) mP)) [(N .i64 0)] Eb)
def y8 (p1:Nat) (a0:AV) (M0:RM) (Q:ak) : Prop :=
 jJ false 2 a0 (.sc (.slice none 0 0)) fun t4 =>
 az t4 (
 Q (.sc (.slice none 0 0)) M0) (
 fO p1 0 [(N .i64 0),(N .u64 0),(St []),(St []),(St [])] [] fun r f =>
 dx r f M0 fun t5 M =>
 appW p1 5 64 [(N .i64 0),(N .u64 0),(St []),(St []),(St [])] false t5 a0 M fun t7 M_0 =>
 Q t7 M_0)
def uF (p1 p2:au) (a0 a1:AV) (M0:RM) (Q:ak) : Prop :=
 dh a0 fun t6 =>
 fG .u64 t6 fun bN =>
 p1 [bN] M0 fun cB M =>
 p2 [a0,(N .i64 0),t6,cB,a1] M fun bO M_0 =>
 Q (.tup []) M_0
def Jn (p1:Nat) (p2 p3:au) (p4:Nat) (p5:au) (a0 a1:AV) (M0:RM) (Q:ak) : Prop :=
 ji p1 a0 fun r f =>
 dx r f M0 fun t2 M =>
 ji p1 a1 fun r_0 f_1 =>
 dx r_0 f_1 M fun t3 M_2 =>
 aB t2 2 fun t5 =>
 ai M_2 t5 fun t6 =>
 aB t3 2 fun t7 =>
 ai M_2 t7 fun t8 =>
 aB t2 3 fun bN =>
 ai M_2 bN fun cB =>
 aB t3 3 fun t12 =>
 ai M_2 t12 fun bO =>
 aB t2 0 fun t15 =>
 aF M_2 t15 2 fun t16 =>
 aB t3 0 fun t17 =>
 aF M_2 t17 2 fun t18 =>
 p2 [t6,t8] M_2 fun t9 M_3 =>
 ai M_3 bN fun alY =>
 (alY=cB∧ai M_3 t12 fun apE =>
 (apE=bO∧aF M_3 t15 2 fun apr =>
 (apr=t16∧aF M_3 t17 2 fun WY =>
 (WY=t18∧p2 [cB,bO] M_3 fun t14 M_4 =>
 aF M_4 t15 2 fun aqz =>
 (aqz=t16∧aF M_4 t17 2 fun apm =>
 (apm=t18∧p3 [t16,t18] M_4 fun t19 M_5 =>
 fO p4 3 [(N .i64 0)] [(0,1,t9),(1,1,t14),(2,1,t19)] fun r_6 f_7 =>
 wB r_6 f_7 M_5 fun t20 M_8 b =>
 p5 [t20] M_8 fun t21 M_9 =>
 Q t21 M_9))))))
def qM (p1:au) (p2:Nat) (cv:(FuncId→au)) (a0 a1:AV) (M0:RM) (Q:ak) : Prop :=
 p1 [a0,a1] M0 fun bN M =>
 ae .eql bN (N .i64 (-1)) fun t12 =>
 az t12 (
 Q a0 M) (
 ae .add bN (N .i64 1) fun t15 =>
 bu (fun next xs M_0 =>
 dh a0 fun t18 =>
 ae .lss (aa xs 1) t18 fun t19 =>
 az t19 (
 ek (fun J =>
 aA a0 (aa xs 1) 5 fun t24 =>
 aF M_0 t24 5 fun t25 =>
 dx (.row [(N .i64 0),(N .u64 0),(St []),(St []),(St [])] false p2 0) (fun b=>.ptr b 0) M_0 fun t7 M_1 =>
 aC M_1 t7 t25 5 fun M_2 =>
 aF M_2 t7 5 fun t27 =>
 gq cv a1 [t27] M_2 fun t28 M_3 =>
 dG t28 fun t29 =>
 az t29 (
 aF M_3 t7 5 fun t32 =>
 aA a0 (aa xs 0) 5 fun t33 =>
 aC M_3 t33 t32 5 fun M_4 =>
 ae .add (aa xs 0) (N .i64 1) fun t35 =>
 J [t35] M_4) (
 J [(aa xs 0)] M_3)) (fun Jf M_6 =>
 ae .add (aa xs 1) (N .i64 1) fun t21 =>
 next [(aa Jf 0),t21] M_6)) (
 iE (bY 5 a0 (some (aa xs 0)) none none) fun t38 =>
 Pv [(N .i64 0),(N .u64 0),(St []),(St []),(St [])] t38 M_0 fun u M_7 =>
 iE (bY 5 a0 none (some (aa xs 0)) none) fun t41 =>
 Q t41 M_7)) [bN,t15] M)
def vU (p1:Nat) (p2:au) (a0 a1:AV) (M0:RM) (Q:ak) : Prop :=
 ji p1 a0 fun r f =>
 dx r f M0 fun t2 M =>
 aB a1 6 fun t4 =>
 ai M t4 fun t5 =>
 aB t2 0 fun t6 =>
 aF M t6 2 fun t7 =>
 p2 [t5,t7] M fun t8 M_0 =>
 Q t8 M_0
def xk (p1:Nat) (p2:au) (a0 a1:AV) (M0:RM) (Q:ak) : Prop :=
 ji p1 a1 fun r f =>
 dx r f M0 fun t3 M =>
 aF M t3 2 fun t6 =>
 p2 [a0,t6] M fun t7 M_0 =>
 ae .geq t7 (N .i64 0) fun t8 =>
 Q t8 M_0
def yX (a0 a1:AV) (M0:RM) (Q:ak) : Prop :=
 dh a0 fun t7 =>
 dh a1 fun t9 =>
 ae .neq t7 t9 fun bN =>
 az bN (
 Q (Bo false) M0) (
 dh a0 fun t12 =>
 bu (fun next xs M =>
 ae .lss (aa xs 0) t12 fun t14 =>
 az t14 (
 aA a0 (aa xs 0) 5 fun t18 =>
 aF M t18 5 fun t19 =>
 aA a1 (aa xs 0) 5 fun t22 =>
 aF M t22 5 fun t23 =>
 oU true [1,1,2,2,2] t19 t23 fun t24 =>
 az t24 (
 Q (Bo false) M) (
 ae .add (aa xs 0) (N .i64 1) fun t25 =>
 next [t25] M)) (
 Q (Bo true) M)) [(N .i64 0)] M0)
def y7 (p1:au) (a0 a1:AV) (M0:RM) (Q:ak) : Prop :=
 p1 [a0,a1] M0 fun t9 M =>
 bF a0 fun t12 =>
 aB t12 1 fun bO =>
 ai M bO fun t14 =>
 af t14 false (fun k=>k t9 M) (fun k=>k .undef M) fun t16 M_0 =>
 af t14 false (fun k_1=>k_1 a0 M_0) (fun k=>k .undef M_0) fun t17 M_2 =>
 af t14 false (fun k_3=>bF t17 fun t18 =>
 k_3 t18 M_2) (fun k=>k .undef M_2) fun arP M_5 =>
 af t14 false (fun k_6=>aB arP 0 fun t19 =>
 k_6 t19 M_5) (fun k=>k .undef M_5) fun asP M_8 =>
 af t14 false (fun k_9=>ai M_8 asP fun t20 =>
 k_9 t20 M_8) (fun k=>k .undef M_8) fun ak7 dJ =>
 af t14 false (fun mU=>dh ak7 fun t21 =>
 mU t21 dJ) (fun k=>k .undef dJ) fun aqV eO =>
 af t14 false (fun rE=>ae .gtr t16 aqV fun t22 =>
 rE t22 eO) (fun k=>k .undef eO) fun anY jE =>
 aH t14 (Bo true) anY fun t23 =>
 bF a0 fun t24 =>
 aB t24 1 fun t25 =>
 aC jE t25 t23 1 fun dE =>
 bF a0 fun t27 =>
 aB t27 1 fun t28 =>
 ai dE t28 fun t29 =>
 az t29 (
 Q (St []) dE) (
 bF a0 fun t31 =>
 aB t31 0 fun t32 =>
 ai dE t32 fun t33 =>
 iE (bY 1 t33 none (some t9) none) fun t35 =>
 jY dE t35 fun t36 =>
 bF a0 fun t39 =>
 aB t39 0 fun t40 =>
 ai dE t40 fun t41 =>
 iE (bY 1 t41 (some t9) none none) fun t43 =>
 bF a0 fun t44 =>
 aB t44 0 fun t45 =>
 aC dE t45 t43 1 fun dI =>
 Q t36 dI)
def CK (a0 a1 a2:AV) (M0:RM) (Q:ak) : Prop :=
 oO a0 fun t8 =>
 ae .geq t8 (N .i64 1) fun t9 =>
 af t9 true (fun k=>k a0 M0) (fun k=>k .undef M0) fun cB M =>
 af t9 true (fun k_0=>oO cB fun t12 =>
 k_0 t12 M) (fun k=>k .undef M) fun ar4 M_2 =>
 af t9 true (fun k_3=>ae .leq ar4 (N .i64 64) fun bO =>
 k_3 bO M_2) (fun k=>k .undef M_2) fun arI M_5 =>
 aH t9 arI (Bo false) fun t14 =>
 af t14 true (fun k_6=>k_6 a1 M_5) (fun k=>k .undef M_5) fun t16 M_7 =>
 af t14 true (fun k_8=>oO t16 fun t17 =>
 k_8 t17 M_7) (fun k=>k .undef M_7) fun as0 dH =>
 af t14 true (fun jh=>ae .leq as0 (N .i64 64) fun t18 =>
 jh t18 dH) (fun k=>k .undef dH) fun WY dC =>
 aH t14 WY (Bo false) fun t19 =>
 af t19 true (fun jS=>jS a2 dC) (fun k=>k .undef dC) fun t21 fF =>
 af t19 true (fun uC=>oO t21 fun t22 =>
 uC t22 fF) (fun k=>k .undef fF) fun akX dE =>
 af t19 true (fun Bt=>ae .leq akX (N .i64 512) fun t23 =>
 Bt t23 dE) (fun k=>k .undef dE) fun aqb fu =>
 aH t19 aqb (Bo false) fun t24 =>
 Q t24 fu
def Xo (p1:au) (p2:Nat) (a0 a1:AV) (M0:RM) (Q:ak) : Prop :=
 oO a1 fun t7 =>
 fG .u64 t7 fun t8 =>
 p1 [a0,t8] M0 fun t9 M =>
 appW p2 1 1 [(N .u8 0)] false t9 a1 M fun cB M_0 =>
 Q cB M_0
def CR (p1:au) (p2:Nat) (a0:AV) (M0:RM) (Q:ak) : Prop :=
 oO a0 fun t4 =>
 fG .u64 t4 fun t5 =>
 p1 [t5] M0 fun t6 M =>
 appW p2 1 1 [(N .u8 0)] false t6 a0 M fun t8 M_0 =>
 Q t8 M_0
def vT (p1:Nat) (p2:au) (p3:Nat) (p4 p5 p6:au) (a0:AV) (M0:RM) (Q:ak) : Prop :=
 dx (.row [(N .i64 0),(N .u64 0),(N .i64 0),(St []),(St []),(St []),(.sc (.slice none 0 0))] false p1 0) (fun b=>.ptr b 0) M0 fun t2 M =>
 iM [(N .i64 0),(N .u64 0),(N .i64 0),(St []),(St []),(St []),(.sc (.slice none 0 0))] [] fun cB =>
 dx (.row [(N .i64 0),(N .u64 0),(N .i64 0),(St []),(St []),(St []),(.sc (.slice none 0 0))] false p1 0) (fun b=>.ptr b 0) M fun t4 M_0 =>
 aC M_0 t4 cB 7 fun M_1 =>
 p2 [a0] M_1 fun t14 M_2 =>
 bV t14 0 fun t15 =>
 bV t14 1 fun t16 =>
 bV t14 2 fun t17 =>
 dx (.row [(N .i64 0),(N .u64 0)] false p3 0) (fun b=>.ptr b 0) M_2 fun t5 M_3 =>
 aC M_3 t5 t15 2 fun M_4 =>
 dG t17 fun t19 =>
 az t19 (
 aF M_4 t4 7 fun t20 =>
 aC M_4 t2 t20 7 fun M_5 =>
 aF M_5 t2 7 fun res =>
 Q (.tup [res,(Bo false)]) M_5) (
 aF M_4 t5 2 fun t21 =>
 aB t4 0 fun t22 =>
 aC M_4 t22 t21 2 fun M_6 =>
 p4 [t16,(N .i64 2)] M_6 fun t25 M_7 =>
 bV t25 0 fun t26 =>
 bV t25 1 fun t27 =>
 bV t25 2 fun t28 =>
 aB t4 2 fun t29 =>
 aC M_7 t29 t26 1 fun M_8 =>
 dG t28 fun t31 =>
 az t31 (
 aF M_8 t4 7 fun t32 =>
 aC M_8 t2 t32 7 fun M_9 =>
 aF M_9 t2 7 fun aqJ =>
 Q (.tup [aqJ,(Bo false)]) M_9) (
 p5 [t27,(N .i64 512)] M_8 fun t35 dJ =>
 bV t35 0 fun t36 =>
 bV t35 1 fun t37 =>
 bV t35 2 fun t38 =>
 aB t4 3 fun t39 =>
 aC dJ t39 t36 1 fun fe =>
 dG t38 fun t41 =>
 az t41 (
 aF fe t4 7 fun t42 =>
 aC fe t2 t42 7 fun dC =>
 aF dC t2 7 fun amy =>
 Q (.tup [amy,(Bo false)]) dC) (
 p5 [t37,(N .i64 512)] fe fun t45 fF =>
 bV t45 0 fun t46 =>
 bV t45 1 fun t47 =>
 bV t45 2 fun t48 =>
 aB t4 4 fun t49 =>
 aC fF t49 t46 1 fun dK =>
 dG t48 fun t51 =>
 az t51 (
 aF dK t4 7 fun t52 =>
 aC dK t2 t52 7 fun jE =>
 aF jE t2 7 fun aqF =>
 Q (.tup [aqF,(Bo false)]) jE) (
 p5 [t47,(N .i64 512)] dK fun t55 dI =>
 bV t55 0 fun t56 =>
 bV t55 1 fun t57 =>
 bV t55 2 fun t58 =>
 aB t4 5 fun t59 =>
 aC dI t59 t56 1 fun jB =>
 dG t58 fun t61 =>
 az t61 (
 aF jB t4 7 fun t62 =>
 aC jB t2 t62 7 fun fu =>
 aF fu t2 7 fun amv =>
 Q (.tup [amv,(Bo false)]) fu) (
 p4 [t57,(N .i64 64)] jB fun t65 iU =>
 bV t65 0 fun t66 =>
 bV t65 1 fun t67 =>
 bV t65 2 fun t68 =>
 bu (fun next xs kT =>
 af (aa xs 1) true (fun k=>k (aa xs 2) kT) (fun k=>k .undef kT) fun t71 iF =>
 af (aa xs 1) true (fun xx=>xx t66 iF) (fun k=>k .undef iF) fun t72 jH =>
 af (aa xs 1) true (fun qb=>ae .lss t71 t72 fun t73 =>
 qb t73 jH) (fun k=>k .undef jH) fun aqo jI =>
 aH (aa xs 1) aqo (Bo false) fun t74 =>
 az t74 (
 dx (.row [(N .i64 0),(N .u64 0)] false p3 0) (fun b=>.ptr b 0) jI fun bN jL =>
 p2 [(aa xs 0)] jL fun t79 qa =>
 bV t79 0 fun t80 =>
 bV t79 1 fun t81 =>
 bV t79 2 fun t82 =>
 aC qa bN t80 2 fun jC =>
 aB t4 6 fun t83 =>
 ai jC t83 fun t84 =>
 aF jC bN 2 fun t85 =>
 fO p3 1 [(N .i64 0),(N .u64 0)] [(0,2,t85)] fun r f =>
 dx r f jC fun t86 eP =>
 appW p3 2 16 [(N .i64 0),(N .u64 0)] false t84 t86 eP fun t87 F7 =>
 aB t4 6 fun t88 =>
 aC F7 t88 t87 1 fun l8 =>
 ae .add (aa xs 2) (N .i64 1) fun t76 =>
 next [t81,t82,t76] l8) (
 dG (aa xs 1) fun t90 =>
 af t90 false (fun Ug=>Ug (aa xs 0) jI) (fun k=>k .undef jI) fun t92 nC =>
 af t90 false (fun Ao=>dh t92 fun t93 =>
 Ao t93 nC) (fun k=>k .undef nC) fun aoY jD =>
 af t90 false (fun Fg=>ae .gtr aoY (N .i64 0) fun t94 =>
 Fg t94 jD) (fun k=>k .undef jD) fun aob qF =>
 aH t90 (Bo true) aob fun t95 =>
 af t95 false (fun FL=>aF qF t4 7 fun t97 =>
 FL t97 qF) (fun k=>k .undef qF) fun apd uB =>
 af t95 false (fun Np=>p6 [apd] uB fun t98 iG =>
 Np t98 iG) (fun k=>k .undef uB) fun anG DI =>
 af t95 false (fun Bj=>dG anG fun t99 =>
 Bj t99 DI) (fun k=>k .undef DI) fun ao2 lY =>
 aH t95 (Bo true) ao2 fun lI =>
 az lI (
 iM [(N .i64 0),(N .u64 0),(N .i64 0),(St []),(St []),(St []),(.sc (.slice none 0 0))] [] fun ni =>
 aC lY t2 ni 7 fun jN =>
 aF jN t2 7 fun apF =>
 Q (.tup [apF,(Bo false)]) jN) (
 aF lY t4 7 fun GV =>
 aC lY t2 GV 7 fun iL =>
 aF iL t2 7 fun aqj =>
 Q (.tup [aqj,(Bo true)]) iL))) [t67,t68,(N .i64 0)] iU)))))
def Qv (p1:Nat) (p2 p3:au) (p4:Nat) (p5:au) (a0 a1:AV) (M0:RM) (Q:ak) : Prop :=
 ji p1 a0 fun r f =>
 dx r f M0 fun t2 M =>
 ji p1 a1 fun r_0 f_1 =>
 dx r_0 f_1 M fun t3 M_2 =>
 aB t2 1 fun t5 =>
 ai M_2 t5 fun t6 =>
 aB t3 1 fun t7 =>
 ai M_2 t7 fun t8 =>
 aB t2 0 fun bN =>
 ai M_2 bN fun cB =>
 aB t3 0 fun t12 =>
 ai M_2 t12 fun bO =>
 p2 [t6,t8] M_2 fun t9 M_3 =>
 ai M_3 bN fun amq =>
 (amq=cB∧ai M_3 t12 fun NE =>
 (NE=bO∧p3 [cB,bO] M_3 fun t14 M_4 =>
 fO p4 2 [(N .i64 0)] [(0,1,t9),(1,1,t14)] fun r_5 f_6 =>
 wB r_5 f_6 M_4 fun t15 M_7 b =>
 p5 [t15] M_7 fun t16 M_8 =>
 Q t16 M_8))
def iW (p1 p2 p3 p4 p5 p6:au) (cv:(FuncId→au)) (p7 p8 p9:au) (a0 a1 a2 a3 a4:AV) (M0:RM) (Q:ak) : Prop :=
 bu (fun next xs M =>
 ae .sub (aa xs 1) (aa xs 0) fun t23 =>
 ae .leq t23 (N .i64 12) fun t25 =>
 az t25 (
 p1 [a0,(aa xs 0),(aa xs 1),a4] M fun t30 M_0 =>
 Q (.tup []) M_0) (
 ae .eql (aa xs 2) (N .i64 0) fun t32 =>
 az t32 (
 p2 [a0,(aa xs 0),(aa xs 1),a4] M fun t37 M_1 =>
 Q (.tup []) M_1) (
 ek (fun J =>
 dG (aa xs 3) fun t39 =>
 az t39 (
 p3 [a0,(aa xs 0),(aa xs 1),a4] M fun t44 M_2 =>
 ae .sub (aa xs 2) (N .i64 1) fun t46 =>
 J [t46] M_2) (
 J [(aa xs 2)] M)) (fun dR M_4 =>
 p4 [a0,(aa xs 0),(aa xs 1),a4] M_4 fun t52 M_5 =>
 bV t52 0 fun t53 =>
 bV t52 1 fun t54 =>
 ek (fun J_6 =>
 ae .eql t54 (N .i64 2) fun t56 =>
 az t56 (
 p5 [a0,(aa xs 0),(aa xs 1),a4] M_5 fun t61 M_7 =>
 ae .sub (aa xs 1) (N .i64 1) fun t63 =>
 ae .sub t53 (aa xs 0) fun t66 =>
 ae .sub t63 t66 fun t67 =>
 J_6 [t67,(N .i64 1)] M_7) (
 J_6 [t53,t54] M_5)) (fun nH M_9 =>
 ek (fun U5 =>
 af (aa xs 3) true (fun k=>k (aa xs 4) M_9) (fun k=>k .undef M_9) fun t70 dJ =>
 aH (aa xs 3) t70 (Bo false) fun t71 =>
 af t71 true (fun mU=>mU (aa nH 1) dJ) (fun k=>k .undef dJ) fun t73 dC =>
 af t71 true (fun jS=>ae .eql t73 (N .i64 1) fun t74 =>
 jS t74 dC) (fun k=>k .undef dC) fun aqn dK =>
 aH t71 aqn (Bo false) fun t75 =>
 az t75 (
 p6 [a0,(aa xs 0),(aa xs 1),a4] dK fun t80 jE =>
 az t80 (
 Q (.tup []) jE) (
 U5 [] jE)) (
 U5 [] dK)) (fun as7 dI =>
 ae .gtr (aa xs 0) (N .i64 0) fun t82 =>
 ah t82 true (fun jQ=>jQ a4 dI none) (fun k=>k .undef dI none) fun t84 fu b =>
 ah t82 true (fun uK=>uK a0 fu none) (fun k=>k .undef fu none) fun t85 iU Xu =>
 ah t82 true (fun oD=>oD (aa xs 0) iU none) (fun k=>k .undef iU none) fun t86 kW Wo =>
 ah t82 true (fun qb=>ae .sub t86 (N .i64 1) fun t87 =>
 qb t87 kW none) (fun k=>k .undef kW none) fun apJ jI aeM =>
 ah t82 true (fun uL=>aA t85 apJ 5 fun t88 =>
 uL t88 jI none) (fun k=>k .undef jI none) fun ang eP aff =>
 ah t82 true (fun Bz=>aF eP ang 5 fun t89 =>
 Bz t89 eP none) (fun k=>k .undef eP none) fun amN nC alb =>
 ah t82 true (fun Ad=>Ad a0 nC none) (fun k=>k .undef nC none) fun t90 jD Qq =>
 ah t82 true (fun FH=>FH (aa nH 0) jD none) (fun k=>k .undef jD none) fun t91 qF awT =>
 ah t82 true (fun axJ=>aA t90 t91 5 fun t92 =>
 axJ t92 qF none) (fun k=>k .undef qF none) fun amx nA b_49 =>
 ah t82 true (fun Gs=>aF nA amx 5 fun t93 =>
 Gs t93 nA none) (fun k=>k .undef nA none) fun aou q9 b_53 =>
 af t82 true (fun awq=>gq cv t84 [amN,aou] q9 fun t94 jN =>
 awq t94 jN) (fun k=>k .undef q9) fun aly iL =>
 ah t82 true (fun ahj=>ae .lss aly (N .i64 0) fun t95 =>
 ahj t95 iL none) (fun k=>k .undef iL none) fun alQ mg afE =>
 ah t82 true (fun zY=>dG alQ fun t96 =>
 zY t96 mg none) (fun k=>k .undef mg none) fun aqp mJ afY =>
 aH t82 aqp (Bo false) fun t97 =>
 az t97 (
 p7 [a0,(aa xs 0),(aa xs 1),(aa nH 0),a4] mJ fun xJ wE =>
 next [xJ,(aa xs 1),(aa dR 0),(aa xs 3),(aa xs 4)] wE) (
 p8 [a0,(aa xs 0),(aa xs 1),(aa nH 0),a4] mJ fun xR uG =>
 bV xR 0 fun wH =>
 bV xR 1 fun yS =>
 ae .sub wH (aa xs 0) fun t117 =>
 ae .sub (aa xs 1) wH fun Dh =>
 ae .quo t23 (N .i64 8) fun CP =>
 ae .lss t117 Dh fun ou =>
 az ou (
 ae .geq t117 CP fun Nn =>
 p9 [a0,(aa xs 0),wH,(aa dR 0),a4] uG fun vJ Ai =>
 ae .add wH (N .i64 1) fun WT =>
 next [WT,(aa xs 1),(aa dR 0),Nn,yS] Ai) (
 ae .geq Dh CP fun t139 =>
 ae .add wH (N .i64 1) fun Qh =>
 p9 [a0,Qh,(aa xs 1),(aa dR 0),a4] uG fun t146 uw =>
 next [(aa xs 0),wH,(aa dR 0),t139,yS] uw)))))))) [a1,a2,a3,(Bo true),(Bo true)] M0
def LY (a0:AV) (M0:RM) (Q:ak) : Prop :=
 dh a0 fun t7 =>
 bu (fun next xs M =>
 ae .lss (aa xs 0) t7 fun t9 =>
 az t9 (
 aA a0 (aa xs 0) 1 fun bN =>
 ai M bN fun cB =>
 ae .neq cB (N .i64 0) fun t14 =>
 az t14 (
 Q cB M) (
 ae .add (aa xs 0) (N .i64 1) fun t16 =>
 next [t16] M)) (
 Q (N .i64 0) M)) [(N .i64 0)] M0
def uD (p1:au) (a0 a1:AV) (M0:RM) (Q:ak) : Prop :=
 p1 [a0] M0 fun t8 M =>
 p1 [a1] M fun bN M_0 =>
 az t8 (
 az bN (
 Q (N .i64 0) M_0) (
 Q (N .i64 (-1)) M_0)) (
 az bN (
 Q (N .i64 1) M_0) (
 kg .lss a0 a1 fun t16 =>
 az t16 (
 Q (N .i64 (-1)) M_0) (
 kg .gtr a0 a1 fun t19 =>
 az t19 (
 Q (N .i64 1) M_0) (
 Q (N .i64 0) M_0))))
def sP (cv:(FuncId→au)) (a0 a1:AV) (M0:RM) (Q:ak) : Prop :=
 dh a0 fun t7 =>
 bu (fun next xs M =>
 ae .lss (aa xs 0) t7 fun t9 =>
 az t9 (
 aA a0 (aa xs 0) 5 fun t14 =>
 aF M t14 5 fun t15 =>
 gq cv a1 [t15] M fun t16 M_0 =>
 az t16 (
 Q (aa xs 0) M_0) (
 ae .add (aa xs 0) (N .i64 1) fun t18 =>
 next [t18] M_0)) (
 Q (N .i64 (-1)) M)) [(N .i64 0)] M0
def CL (p1:Nat) (a0 a1:AV) (M0:RM) (Q:ak) : Prop :=
 ji p1 a1 fun r f =>
 dx r f M0 fun t3 M =>
 dh a0 fun t7 =>
 bu (fun next xs M_0 =>
 ae .lss (aa xs 0) t7 fun t9 =>
 az t9 (
 aF M_0 t3 2 fun cB =>
 aA a0 (aa xs 0) 2 fun t14 =>
 aF M_0 t14 2 fun t15 =>
 oU false [1,1] cB t15 fun t16 =>
 az t16 (
 Q (aa xs 0) M_0) (
 ae .add (aa xs 0) (N .i64 1) fun t18 =>
 next [t18] M_0)) (
 Q (N .i64 (-1)) M_0)) [(N .i64 0)] M
def acr (p1:Nat) (p2 p3:au) (a0:AV) (M0:RM) (Q:ak) : Prop :=
 dx (.row [(N .i64 0),(N .u64 0)] false p1 0) (fun b=>.ptr b 0) M0 fun t2 M =>
 p2 [a0,(N .i64 16)] M fun cB M_0 =>
 bV cB 0 fun t12 =>
 bV cB 1 fun bO =>
 bV cB 2 fun t14 =>
 dG t14 fun t16 =>
 az t16 (
 iM [(N .i64 0),(N .u64 0)] [] fun t17 =>
 aC M_0 t2 t17 2 fun M_1 =>
 aF M_1 t2 2 fun res =>
 Q (.tup [res,(.sc (.slice none 0 0)),(Bo false)]) M_1) (
 p3 [bO] M_0 fun t20 M_2 =>
 bV t20 0 fun t21 =>
 bV t20 1 fun t22 =>
 bV t20 2 fun t23 =>
 iM [(N .i64 0),(N .u64 0)] [(0,1,t12),(1,1,t21)] fun t26 =>
 aC M_2 t2 t26 2 fun M_3 =>
 aF M_3 t2 2 fun ato =>
 Q (.tup [ato,t22,t23]) M_3)
def Aj (p1:au) (a0 a1:AV) (M0:RM) (Q:ak) : Prop :=
 p1 [a0] M0 fun t12 M =>
 bV t12 0 fun bO =>
 bV t12 1 fun t14 =>
 bV t12 2 fun t15 =>
 dG t15 fun t17 =>
 af t17 false (fun k=>k a1 M) (fun k=>k .undef M) fun t19 M_0 =>
 af t17 false (fun k_1=>ae .lss t19 (N .i64 0) fun t20 =>
 k_1 t20 M_0) (fun k=>k .undef M_0) fun atX M_3 =>
 aH t17 (Bo true) atX fun t21 =>
 af t21 false (fun k_4=>k_4 bO M_3) (fun k=>k .undef M_3) fun t23 M_5 =>
 af t21 false (fun k_6=>k_6 a1 M_5) (fun k=>k .undef M_5) fun t24 M_7 =>
 af t21 false (fun k_8=>fG .u64 t24 fun t25 =>
 k_8 t25 M_7) (fun k=>k .undef M_7) fun asu dH =>
 af t21 false (fun jh=>ae .gtr t23 asu fun t26 =>
 jh t26 dH) (fun k=>k .undef dH) fun Un dC =>
 aH t21 (Bo true) Un fun t27 =>
 az t27 (
 Q (.tup [(N .i64 0),(.sc (.slice none 0 0)),(Bo false)]) dC) (
 fG .i64 bO fun t29 =>
 Q (.tup [t29,t14,(Bo true)]) dC)
def zf (p1:au) (a0 a1:AV) (M0:RM) (Q:ak) : Prop :=
 p1 [a0,a1] M0 fun bO M =>
 bV bO 0 fun t14 =>
 bV bO 1 fun t15 =>
 bV bO 2 fun t16 =>
 dG t16 fun t18 =>
 af t18 false (fun k=>k t14 M) (fun k=>k .undef M) fun t20 M_0 =>
 af t18 false (fun k_1=>k_1 t15 M_0) (fun k=>k .undef M_0) fun t21 M_2 =>
 af t18 false (fun k_3=>dh t21 fun t22 =>
 k_3 t22 M_2) (fun k=>k .undef M_2) fun auh M_5 =>
 af t18 false (fun k_6=>ae .gtr t20 auh fun t23 =>
 k_6 t23 M_5) (fun k=>k .undef M_5) fun asX M_8 =>
 aH t18 (Bo true) asX fun t24 =>
 az t24 (
 Q (.tup [(St []),(.sc (.slice none 0 0)),(Bo false)]) M_8) (
 iE (bY 1 t15 none (some t14) none) fun t27 =>
 jY M_8 t27 fun t28 =>
 iE (bY 1 t15 (some t14) none none) fun t31 =>
 Q (.tup [t28,t31,(Bo true)]) M_8)
def uh (p1:au) (a0 a1:AV) (M0:RM) (Q:ak) : Prop :=
 p1 [a0] M0 fun t8 M =>
 p1 [a1] M fun bN M_0 =>
 az t8 (
 az bN (
 Q (N .i64 0) M_0) (
 Q (N .i64 (-1)) M_0)) (
 az bN (
 Q (N .i64 1) M_0) (
 ae .lss a0 a1 fun t16 =>
 az t16 (
 Q (N .i64 (-1)) M_0) (
 ae .gtr a0 a1 fun t19 =>
 az t19 (
 Q (N .i64 1) M_0) (
 Q (N .i64 0) M_0))))
def yT (p1:au) (a0 a1:AV) (M0:RM) (Q:ak) : Prop :=
 p1 [a0] M0 fun t8 M =>
 p1 [a1] M fun bN M_0 =>
 az t8 (
 az bN (
 Q (N .i64 0) M_0) (
 Q (N .i64 (-1)) M_0)) (
 az bN (
 Q (N .i64 1) M_0) (
 ae .lss a0 a1 fun t16 =>
 az t16 (
 Q (N .i64 (-1)) M_0) (
 ae .gtr a0 a1 fun t19 =>
 az t19 (
 Q (N .i64 1) M_0) (
 Q (N .i64 0) M_0))))
def fZ (cv:(FuncId→au)) (a0 a1 a2 a3:AV) (M0:RM) (Q:ak) : Prop :=
 ae .add a1 (N .i64 1) fun cB =>
 bu (fun next xs M =>
 ae .lss (aa xs 0) a2 fun t14 =>
 az t14 (
 bu (fun wC dD M_2 =>
 ae .gtr (aa dD 0) a1 fun t20 =>
 ah t20 true (fun k=>k a3 M_2 none) (fun k=>k .undef M_2 none) fun t22 M_3 b =>
 ah t20 true (fun k_4=>k_4 a0 M_3 none) (fun k=>k .undef M_3 none) fun t23 M_5 b_6 =>
 ah t20 true (fun k_7=>k_7 (aa dD 0) M_5 none) (fun k=>k .undef M_5 none) fun t24 M_8 b_9 =>
 ah t20 true (fun qg=>aA t23 t24 5 fun t25 =>
 qg t25 M_8 none) (fun k=>k .undef M_8 none) fun amX fe ZV =>
 ah t20 true (fun jS=>aF fe amX 5 fun t26 =>
 jS t26 fe none) (fun k=>k .undef fe none) fun anh dK IY =>
 ah t20 true (fun rF=>rF a0 dK none) (fun k=>k .undef dK none) fun t27 dI abE =>
 ah t20 true (fun xP=>xP (aa dD 0) dI none) (fun k=>k .undef dI none) fun t28 gm abh =>
 ah t20 true (fun uk=>ae .sub t28 (N .i64 1) fun t29 =>
 uk t29 gm none) (fun k=>k .undef gm none) fun aoV kW Wo =>
 ah t20 true (fun qb=>aA t27 aoV 5 fun t30 =>
 qb t30 kW none) (fun k=>k .undef kW none) fun ana jI aeM =>
 ah t20 true (fun uL=>aF jI ana 5 fun t31 =>
 uL t31 jI none) (fun k=>k .undef jI none) fun am2 eP aff =>
 af t20 true (fun Bz=>gq cv t22 [anh,am2] eP fun t32 dZ =>
 Bz t32 dZ) (fun k=>k .undef eP) fun anW oh =>
 ah t20 true (fun Ad=>ae .lss anW (N .i64 0) fun t33 =>
 Ad t33 oh none) (fun k=>k .undef oh none) fun ak3 qD ak9 =>
 aH t20 ak3 (Bo false) fun t34 =>
 az t34 (
 ae .sub (aa dD 0) (N .i64 1) fun t41 =>
 ae .sub (aa dD 0) (N .i64 1) fun t44 =>
 aA a0 t44 5 fun t45 =>
 aF qD t45 5 fun t46 =>
 aA a0 (aa dD 0) 5 fun t49 =>
 aF qD t49 5 fun t50 =>
 aA a0 (aa dD 0) 5 fun t51 =>
 aC qD t51 t46 5 fun qF =>
 aA a0 t41 5 fun t52 =>
 aC qF t52 t50 5 fun lG =>
 ae .sub (aa dD 0) (N .i64 1) fun t36 =>
 wC [t36] lG) (
 ae .add (aa xs 0) (N .i64 1) fun t16 =>
 next [t16] qD)) [(aa xs 0)] M) (
 Q (.tup []) M)) [cB] M0
def nz (p1:au) (a0 a1 a2 a3:AV) (M0:RM) (Q:ak) : Prop :=
 ae .sub a2 a1 fun t16 =>
 ae .sub t16 (N .i64 1) fun t18 =>
 ae .quo t18 (N .i64 2) fun t19 =>
 bu (fun next xs M =>
 ae .geq (aa xs 0) (N .i64 0) fun t21 =>
 az t21 (
 p1 [a0,(aa xs 0),t16,a1,a3] M fun t29 M_0 =>
 ae .sub (aa xs 0) (N .i64 1) fun t23 =>
 next [t23] M_0) (
 ae .sub t16 (N .i64 1) fun t31 =>
 bu (fun Ub uq M_3 =>
 ae .geq (aa uq 0) (N .i64 0) fun t33 =>
 az t33 (
 ae .add a1 (aa uq 0) fun t41 =>
 ae .add a1 (aa uq 0) fun t45 =>
 aA a0 t45 5 fun t46 =>
 aF M_3 t46 5 fun t47 =>
 aA a0 a1 5 fun t50 =>
 aF M_3 t50 5 fun t51 =>
 aA a0 a1 5 fun t52 =>
 aC M_3 t52 t47 5 fun M_4 =>
 aA a0 t41 5 fun t53 =>
 aC M_4 t53 t51 5 fun M_5 =>
 p1 [a0,(N .i64 0),(aa uq 0),a1,a3] M_5 fun t59 M_6 =>
 ae .sub (aa uq 0) (N .i64 1) fun t35 =>
 Ub [t35] M_6) (
 Q (.tup []) M_3)) [t31] M)) [t19] M0
def j6 (p1:Nat) (p2 p3:au) (a0 a1 a2 a3:AV) (M0:RM) (Q:ak) : Prop :=
 ae .sub a2 a1 fun t15 =>
 ae .geq t15 (N .i64 8) fun t17 =>
 az t17 (
 fG .u64 t15 fun t19 =>
 dx (.row [(N .u64 0)] false p1 0) (fun b=>.ptr b 0) M0 fun t9 M =>
 aC M t9 t19 1 fun M_0 =>
 p2 [t15] M_0 fun t21 M_1 =>
 ae .quo t15 (N .i64 4) fun t24 =>
 ae .mul t24 (N .i64 2) fun t25 =>
 ae .add a1 t25 fun t26 =>
 ae .sub t26 (N .i64 1) fun t27 =>
 bu (fun next xs M_2 =>
 ae .quo t15 (N .i64 4) fun t31 =>
 ae .mul t31 (N .i64 2) fun t32 =>
 ae .add a1 t32 fun t33 =>
 ae .add t33 (N .i64 1) fun t34 =>
 ae .leq (aa xs 0) t34 fun t35 =>
 az t35 (
 ek (fun J =>
 p3 [t9] M_2 fun t38 M_3 =>
 ae .sub t21 (N .u64 1) fun t40 =>
 ae .and t38 t40 fun t41 =>
 fG .i64 t41 fun t42 =>
 ek (fun J_4 =>
 ae .geq t42 t15 fun t45 =>
 az t45 (
 ae .sub t42 t15 fun t48 =>
 J_4 [t48] M_3) (
 J_4 [t42] M_3)) (fun Jf M_6 =>
 ae .add a1 (aa Jf 0) fun t54 =>
 ae .add a1 (aa Jf 0) fun t58 =>
 aA a0 t58 5 fun t59 =>
 aF M_6 t59 5 fun t60 =>
 aA a0 (aa xs 0) 5 fun t63 =>
 aF M_6 t63 5 fun t64 =>
 aA a0 (aa xs 0) 5 fun t65 =>
 aC M_6 t65 t60 5 fun M_7 =>
 aA a0 t54 5 fun t66 =>
 aC M_7 t66 t64 5 fun M_8 =>
 J [] M_8)) (fun auZ dH =>
 ae .add (aa xs 0) (N .i64 1) fun t37 =>
 next [t37] dH)) (
 Q (.tup []) M_2)) [t27] M_1) (
 Q (.tup []) M0)
def lH (p1:Nat) (p2 p3:au) (a0 a1 a2 a3:AV) (M0:RM) (Q:ak) : Prop :=
 ae .sub a2 a1 fun t17 =>
 dx (.row [(N .i64 0)] false p1 0) (fun b=>.ptr b 0) M0 fun cB M =>
 ae .quo t17 (N .i64 4) fun t20 =>
 ae .mul t20 (N .i64 1) fun t21 =>
 ae .add a1 t21 fun t22 =>
 ae .quo t17 (N .i64 4) fun t25 =>
 ae .mul t25 (N .i64 2) fun t26 =>
 ae .add a1 t26 fun t27 =>
 ae .quo t17 (N .i64 4) fun t30 =>
 ae .mul t30 (N .i64 3) fun t31 =>
 ae .add a1 t31 fun t32 =>
 ek (fun J =>
 ae .geq t17 (N .i64 8) fun t34 =>
 az t34 (
 ek (fun J_0 =>
 ae .geq t17 (N .i64 50) fun t36 =>
 az t36 (
 p2 [a0,t22,cB,a3] M fun t40 M_1 =>
 p2 [a0,t27,cB,a3] M_1 fun t44 M_2 =>
 p2 [a0,t32,cB,a3] M_2 fun t48 M_3 =>
 J_0 [t40,t44,t48] M_3) (
 J_0 [t22,t27,t32] M)) (fun xs M_4 =>
 p3 [a0,(aa xs 0),(aa xs 1),(aa xs 2),cB,a3] M_4 fun t54 M_5 =>
 J [t54] M_5)) (
 J [t27] M)) (fun LV M_7 =>
 ai M_7 cB fun t55 =>
 ae .eql t55 (N .i64 0) fun t58 =>
 az t58 (
 Q (.tup [(aa LV 0),(N .i64 1)]) M_7) (
 ae .eql t55 (N .i64 12) fun t61 =>
 az t61 (
 Q (.tup [(aa LV 0),(N .i64 2)]) M_7) (
 Q (.tup [(aa LV 0),(N .i64 0)]) M_7)))
def kU (a0 a1 a2 a3:AV) (M0:RM) (Q:ak) : Prop :=
 ae .sub a2 (N .i64 1) fun t12 =>
 bu (fun next xs M =>
 ae .lss (aa xs 0) (aa xs 1) fun t15 =>
 az t15 (
 aA a0 (aa xs 1) 5 fun t22 =>
 aF M t22 5 fun t23 =>
 aA a0 (aa xs 0) 5 fun t26 =>
 aF M t26 5 fun t27 =>
 aA a0 (aa xs 0) 5 fun t28 =>
 aC M t28 t23 5 fun M_0 =>
 aA a0 (aa xs 1) 5 fun t29 =>
 aC M_0 t29 t27 5 fun M_1 =>
 ae .add (aa xs 0) (N .i64 1) fun t31 =>
 ae .sub (aa xs 1) (N .i64 1) fun t33 =>
 next [t31,t33] M_1) (
 Q (.tup []) M)) [a1,t12] M0
def iK (cv:(FuncId→au)) (a0 a1 a2 a3:AV) (M0:RM) (Q:ak) : Prop :=
 ae .add a1 (N .i64 1) fun t14 =>
 bu (fun next xs M =>
 ae .lss (aa xs 1) (N .i64 5) fun t16 =>
 az t16 (
 ek (fun J =>
 bu (fun wC dD M_2 =>
 ae .lss (aa dD 0) a2 fun t21 =>
 ah t21 true (fun k=>k a3 M_2 none) (fun k=>k .undef M_2 none) fun t23 M_3 b =>
 ah t21 true (fun k_4=>k_4 a0 M_3 none) (fun k=>k .undef M_3 none) fun t24 M_5 b_6 =>
 ah t21 true (fun k_7=>k_7 (aa dD 0) M_5 none) (fun k=>k .undef M_5 none) fun t25 M_8 b_9 =>
 ah t21 true (fun qg=>aA t24 t25 5 fun t26 =>
 qg t26 M_8 none) (fun k=>k .undef M_8 none) fun aq8 fe ZV =>
 ah t21 true (fun jS=>aF fe aq8 5 fun t27 =>
 jS t27 fe none) (fun k=>k .undef fe none) fun am1 dK IY =>
 ah t21 true (fun rF=>rF a0 dK none) (fun k=>k .undef dK none) fun t28 dI abE =>
 ah t21 true (fun xP=>xP (aa dD 0) dI none) (fun k=>k .undef dI none) fun t29 gm abh =>
 ah t21 true (fun uk=>ae .sub t29 (N .i64 1) fun t30 =>
 uk t30 gm none) (fun k=>k .undef gm none) fun ao7 kW Wo =>
 ah t21 true (fun qb=>aA t28 ao7 5 fun t31 =>
 qb t31 kW none) (fun k=>k .undef kW none) fun W9 jI aeM =>
 ah t21 true (fun uL=>aF jI W9 5 fun t32 =>
 uL t32 jI none) (fun k=>k .undef jI none) fun U0 eP aff =>
 af t21 true (fun Bz=>gq cv t23 [am1,U0] eP fun t33 dZ =>
 Bz t33 dZ) (fun k=>k .undef eP) fun alU oh =>
 ah t21 true (fun Ad=>ae .lss alU (N .i64 0) fun t34 =>
 Ad t34 oh none) (fun k=>k .undef oh none) fun Xm qD ak9 =>
 ah t21 true (fun wY=>dG Xm fun t35 =>
 wY t35 qD none) (fun k=>k .undef qD none) fun aoS gD aeg =>
 aH t21 aoS (Bo false) fun t36 =>
 az t36 (
 ae .add (aa dD 0) (N .i64 1) fun t38 =>
 wC [t38] gD) (
 ae .eql (aa dD 0) a2 fun t41 =>
 az t41 (
 Q (Bo true) gD) (
 ae .sub a2 a1 fun t44 =>
 ae .lss t44 (N .i64 50) fun t45 =>
 az t45 (
 Q (Bo false) gD) (
 ae .sub (aa dD 0) (N .i64 1) fun t50 =>
 ae .sub (aa dD 0) (N .i64 1) fun t53 =>
 aA a0 t53 5 fun t54 =>
 aF gD t54 5 fun t55 =>
 aA a0 (aa dD 0) 5 fun t58 =>
 aF gD t58 5 fun t59 =>
 aA a0 (aa dD 0) 5 fun t60 =>
 aC gD t60 t55 5 fun nA =>
 aA a0 t50 5 fun t61 =>
 aC nA t61 t59 5 fun iG =>
 ek (fun afp =>
 ae .sub (aa dD 0) a1 fun t64 =>
 ae .geq t64 (N .i64 2) fun t65 =>
 az t65 (
 ae .sub (aa dD 0) (N .i64 1) fun t67 =>
 bu (fun ajH yj lV =>
 ae .geq (aa yj 0) (N .i64 1) fun t69 =>
 az t69 (
 aA a0 (aa yj 0) 5 fun t75 =>
 aF lV t75 5 fun t76 =>
 ae .sub (aa yj 0) (N .i64 1) fun t79 =>
 aA a0 t79 5 fun t80 =>
 aF lV t80 5 fun t81 =>
 gq cv a3 [t76,t81] lV fun t82 lY =>
 ae .lss t82 (N .i64 0) fun t83 =>
 dG t83 fun t84 =>
 az t84 (
 afp [] lY) (
 ae .sub (aa yj 0) (N .i64 1) fun t89 =>
 ae .sub (aa yj 0) (N .i64 1) fun t92 =>
 aA a0 t92 5 fun t93 =>
 aF lY t93 5 fun t94 =>
 aA a0 (aa yj 0) 5 fun t97 =>
 aF lY t97 5 fun t98 =>
 aA a0 (aa yj 0) 5 fun t99 =>
 aC lY t99 t94 5 fun jN =>
 aA a0 t89 5 fun lI =>
 aC jN lI t98 5 fun xh =>
 ae .sub (aa yj 0) (N .i64 1) fun t71 =>
 ajH [t71] xh)) (
 afp [] lV)) [t67] iG) (
 afp [] iG)) (fun xs_57 sN =>
 ae .sub a2 (aa dD 0) fun xJ =>
 ae .geq xJ (N .i64 2) fun Fe =>
 az Fe (
 ae .add (aa dD 0) (N .i64 1) fun Fa =>
 bu (fun ajr Cq mf =>
 ae .lss (aa Cq 0) a2 fun t109 =>
 az t109 (
 aA a0 (aa Cq 0) 5 fun IK =>
 aF mf IK 5 fun t116 =>
 ae .sub (aa Cq 0) (N .i64 1) fun t119 =>
 aA a0 t119 5 fun Dh =>
 aF mf Dh 5 fun GQ =>
 gq cv a3 [t116,GQ] mf fun CP Js =>
 ae .lss CP (N .i64 0) fun CU =>
 dG CU fun t124 =>
 az t124 (
 J [(aa dD 0)] Js) (
 ae .sub (aa Cq 0) (N .i64 1) fun wZ =>
 ae .sub (aa Cq 0) (N .i64 1) fun FR =>
 aA a0 FR 5 fun TZ =>
 aF Js TZ 5 fun vJ =>
 aA a0 (aa Cq 0) 5 fun U3 =>
 aF Js U3 5 fun t138 =>
 aA a0 (aa Cq 0) 5 fun t139 =>
 aC Js t139 vJ 5 fun CF =>
 aA a0 wZ 5 fun ahF =>
 aC CF ahF t138 5 fun mJ =>
 ae .add (aa Cq 0) (N .i64 1) fun xR =>
 ajr [xR] mJ)) (
 J [(aa dD 0)] mf)) [Fa] sN) (
 J [(aa dD 0)] sN)))))) [(aa xs 0)] M) (fun asB wE =>
 ae .add (aa xs 1) (N .i64 1) fun t18 =>
 next [(aa asB 0),t18] wE)) (
 Q (Bo false) M)) [t14,(N .i64 0)] M0
def jV (cv:(FuncId→au)) (a0 a1 a2 a3 a4:AV) (M0:RM) (Q:ak) : Prop :=
 aA a0 a3 5 fun t19 =>
 aF M0 t19 5 fun t20 =>
 aA a0 a1 5 fun t23 =>
 aF M0 t23 5 fun t24 =>
 aA a0 a1 5 fun t25 =>
 aC M0 t25 t20 5 fun M =>
 aA a0 a3 5 fun t26 =>
 aC M t26 t24 5 fun M_0 =>
 ae .add a1 (N .i64 1) fun t28 =>
 ae .sub a2 (N .i64 1) fun t30 =>
 bu (fun next xs M_1 =>
 bu (fun wK dR M_4 =>
 ae .leq (aa dR 0) (aa xs 1) fun t33 =>
 ah t33 true (fun k=>k a4 M_4 none) (fun k=>k .undef M_4 none) fun t35 M_5 b =>
 ah t33 true (fun k_6=>k_6 a0 M_5 none) (fun k=>k .undef M_5 none) fun t36 M_7 b_8 =>
 ah t33 true (fun k_9=>k_9 a1 M_7 none) (fun k=>k .undef M_7 none) fun t37 dH b_11 =>
 ah t33 true (fun mU=>aA t36 t37 5 fun t38 =>
 mU t38 dH none) (fun k=>k .undef dH none) fun apa eO akT =>
 ah t33 true (fun uC=>aF eO apa 5 fun t39 =>
 uC t39 eO none) (fun k=>k .undef eO none) fun ama dE Ui =>
 ah t33 true (fun jQ=>jQ a0 dE none) (fun k=>k .undef dE none) fun t40 fu afD =>
 ah t33 true (fun qh=>qh (aa dR 0) fu none) (fun k=>k .undef fu none) fun t41 kT awZ =>
 ah t33 true (fun xx=>aA t40 t41 5 fun t42 =>
 xx t42 kT none) (fun k=>k .undef kT none) fun WB mK akW =>
 ah t33 true (fun Ba=>aF mK WB 5 fun t43 =>
 Ba t43 mK none) (fun k=>k .undef mK none) fun V8 qa awH =>
 af t33 true (fun Ff=>gq cv t35 [ama,V8] qa fun t44 F7 =>
 Ff t44 F7) (fun k=>k .undef qa) fun alj dZ =>
 ah t33 true (fun xL=>ae .lss alj (N .i64 0) fun t45 =>
 xL t45 dZ none) (fun k=>k .undef dZ none) fun ane lU b_41 =>
 ah t33 true (fun Fg=>dG ane fun t46 =>
 Fg t46 lU none) (fun k=>k .undef lU none) fun an8 qF awT =>
 aH t33 an8 (Bo false) fun t47 =>
 az t47 (
 ae .add (aa dR 0) (N .i64 1) fun t49 =>
 wK [t49] qF) (
 bu (fun ajG x9 nA =>
 ae .leq (aa dR 0) (aa x9 0) fun t52 =>
 ah t52 true (fun aeJ=>aeJ a4 nA none) (fun k=>k .undef nA none) fun t54 mH ae2 =>
 ah t52 true (fun Bj=>Bj a0 mH none) (fun k=>k .undef mH none) fun t55 lV af1 =>
 ah t52 true (fun L8=>L8 a1 lV none) (fun k=>k .undef lV none) fun t56 xh b_57 =>
 ah t52 true (fun ahj=>aA t55 t56 5 fun t57 =>
 ahj t57 xh none) (fun k=>k .undef xh none) fun anD mg afE =>
 ah t52 true (fun zY=>aF mg anD 5 fun t58 =>
 zY t58 mg none) (fun k=>k .undef mg none) fun aqE mJ afY =>
 ah t52 true (fun Uf=>Uf a0 mJ none) (fun k=>k .undef mJ none) fun t59 uG awF =>
 ah t52 true (fun Va=>Va (aa x9 0) uG none) (fun k=>k .undef uG none) fun t60 Da b_71 =>
 ah t52 true (fun avi=>aA t59 t60 5 fun t61 =>
 avi t61 Da none) (fun k=>k .undef Da none) fun anb yR b_75 =>
 ah t52 true (fun av4=>aF yR anb 5 fun t62 =>
 av4 t62 yR none) (fun k=>k .undef yR none) fun ap8 PY b_79 =>
 af t52 true (fun VO=>gq cv t54 [aqE,ap8] PY fun t63 ZY =>
 VO t63 ZY) (fun k=>k .undef PY) fun an2 mP =>
 ah t52 true (fun agr=>ae .lss an2 (N .i64 0) fun t64 =>
 agr t64 mP none) (fun k=>k .undef mP none) fun apl Ea b_87 =>
 aH t52 apl (Bo false) fun t65 =>
 az t65 (
 ae .sub (aa x9 0) (N .i64 1) fun t67 =>
 ajG [t67] Ea) (
 ae .gtr (aa dR 0) (aa x9 0) fun t70 =>
 az t70 (
 Q (aa dR 0) Ea) (
 aA a0 (aa x9 0) 5 fun t77 =>
 aF Ea t77 5 fun t78 =>
 aA a0 (aa dR 0) 5 fun t81 =>
 aF Ea t81 5 fun t82 =>
 aA a0 (aa dR 0) 5 fun t83 =>
 aC Ea t83 t78 5 fun F8 =>
 aA a0 (aa x9 0) 5 fun t84 =>
 aC F8 t84 t82 5 fun Jk =>
 ae .add (aa dR 0) (N .i64 1) fun t86 =>
 ae .sub (aa x9 0) (N .i64 1) fun t88 =>
 next [t86,t88] Jk))) [(aa xs 1)] qF)) [(aa xs 0)] M_1) [t28,t30] M_0
def mV (cv:(FuncId→au)) (a0 a1 a2 a3 a4:AV) (M0:RM) (Q:ak) : Prop :=
 aA a0 a3 5 fun t20 =>
 aF M0 t20 5 fun t21 =>
 aA a0 a1 5 fun t24 =>
 aF M0 t24 5 fun t25 =>
 aA a0 a1 5 fun t26 =>
 aC M0 t26 t21 5 fun M =>
 aA a0 a3 5 fun t27 =>
 aC M t27 t25 5 fun M_0 =>
 ae .add a1 (N .i64 1) fun t29 =>
 ae .sub a2 (N .i64 1) fun t31 =>
 bu (fun next xs M_1 =>
 ae .leq (aa xs 0) t31 fun t34 =>
 ah t34 true (fun k=>k a4 M_1 none) (fun k=>k .undef M_1 none) fun t36 M_2 b =>
 ah t34 true (fun k_3=>k_3 a0 M_2 none) (fun k=>k .undef M_2 none) fun t37 M_4 b_5 =>
 ah t34 true (fun k_6=>k_6 (aa xs 0) M_4 none) (fun k=>k .undef M_4 none) fun t38 M_7 b_8 =>
 ah t34 true (fun k_9=>aA t37 t38 5 fun t39 =>
 k_9 t39 M_7 none) (fun k=>k .undef M_7 none) fun ari dJ afl =>
 ah t34 true (fun uz=>aF dJ ari 5 fun t40 =>
 uz t40 dJ none) (fun k=>k .undef dJ none) fun anZ fF ahn =>
 ah t34 true (fun mM=>mM a0 fF none) (fun k=>k .undef fF none) fun t41 dE Ui =>
 ah t34 true (fun jQ=>jQ a1 dE none) (fun k=>k .undef dE none) fun t42 fu afD =>
 ah t34 true (fun qh=>aA t41 t42 5 fun t43 =>
 qh t43 fu none) (fun k=>k .undef fu none) fun aoC iF aae =>
 ah t34 true (fun uy=>aF iF aoC 5 fun t44 =>
 uy t44 iF none) (fun k=>k .undef iF none) fun ak4 iV Wj =>
 af t34 true (fun pW=>gq cv t36 [anZ,ak4] iV fun t45 qa =>
 pW t45 qa) (fun k=>k .undef iV) fun aps eP =>
 ah t34 true (fun mF=>ae .lss aps (N .i64 0) fun t46 =>
 mF t46 eP none) (fun k=>k .undef eP none) fun alN dZ U2 =>
 aH t34 alN (Bo false) fun t47 =>
 az t47 (
 ae .add (aa xs 0) (N .i64 1) fun t49 =>
 next [t49] dZ) (
 bu (fun QQ mW jD =>
 ae .leq (aa xs 0) (aa mW 0) fun t52 =>
 ah t52 true (fun Fg=>Fg a4 jD none) (fun k=>k .undef jD none) fun t54 jf aqX =>
 ah t52 true (fun FL=>FL a0 jf none) (fun k=>k .undef jf none) fun t55 gD aeg =>
 ah t52 true (fun Np=>Np (aa mW 0) gD none) (fun k=>k .undef gD none) fun t56 iG auT =>
 ah t52 true (fun Mx=>aA t55 t56 5 fun t57 =>
 Mx t57 iG none) (fun k=>k .undef iG none) fun aqZ lV af1 =>
 ah t52 true (fun L8=>aF lV aqZ 5 fun t58 =>
 L8 t58 lV none) (fun k=>k .undef lV none) fun aoO iL QH =>
 ah t52 true (fun qW=>qW a0 iL none) (fun k=>k .undef iL none) fun t59 mg afE =>
 ah t52 true (fun zY=>zY a1 mg none) (fun k=>k .undef mg none) fun t60 CF b_64 =>
 ah t52 true (fun WU=>aA t59 t60 5 fun t61 =>
 WU t61 CF none) (fun k=>k .undef CF none) fun akF uG awF =>
 ah t52 true (fun Va=>aF uG akF 5 fun t62 =>
 Va t62 uG none) (fun k=>k .undef uG none) fun anS Ic b_72 =>
 af t52 true (fun afT=>gq cv t54 [aoO,anS] Ic fun t63 yR =>
 afT t63 yR) (fun k=>k .undef Ic) fun akY uI =>
 ah t52 true (fun Mj=>ae .lss akY (N .i64 0) fun t64 =>
 Mj t64 uI none) (fun k=>k .undef uI none) fun aok xU axu =>
 ah t52 true (fun XL=>dG aok fun t65 =>
 XL t65 xU none) (fun k=>k .undef xU none) fun apO mP avF =>
 aH t52 apO (Bo false) fun t66 =>
 az t66 (
 ae .sub (aa mW 0) (N .i64 1) fun t68 =>
 QQ [t68] mP) (
 ae .gtr (aa xs 0) (aa mW 0) fun t71 =>
 az t71 (
 aA a0 a1 5 fun t78 =>
 aF mP t78 5 fun t79 =>
 aA a0 (aa mW 0) 5 fun t82 =>
 aF mP t82 5 fun t83 =>
 aA a0 (aa mW 0) 5 fun t84 =>
 aC mP t84 t79 5 fun Jc =>
 aA a0 a1 5 fun t85 =>
 aC Jc t85 t83 5 fun Ea =>
 Q (.tup [(aa mW 0),(Bo true)]) Ea) (
 aA a0 (aa mW 0) 5 fun t93 =>
 aF mP t93 5 fun t94 =>
 aA a0 (aa xs 0) 5 fun t97 =>
 aF mP t97 5 fun t98 =>
 aA a0 (aa xs 0) 5 fun t99 =>
 aC mP t99 t94 5 fun Us =>
 aA a0 (aa mW 0) 5 fun lI =>
 aC Us lI t98 5 fun F8 =>
 ae .add (aa xs 0) (N .i64 1) fun GV =>
 ae .sub (aa mW 0) (N .i64 1) fun Fe =>
 bu (fun ai0 acf FI =>
 bu (fun aiR BS JJ =>
 ae .leq (aa BS 0) (aa acf 1) fun t107 =>
 ah t107 true (fun Ur=>Ur a4 JJ none) (fun k=>k .undef JJ none) fun t109 vS anc =>
 ah t107 true (fun MX=>MX a0 vS none) (fun k=>k .undef vS none) fun wy Aa aaf =>
 ah t107 true (fun zI=>zI (aa BS 0) Aa none) (fun k=>k .undef Aa none) fun xR zx auk =>
 ah t107 true (fun aa6=>aA wy xR 5 fun wH =>
 aa6 wH zx none) (fun k=>k .undef zx none) fun af7 Kl atA =>
 ah t107 true (fun NN=>aF Kl af7 5 fun yS =>
 NN yS Kl none) (fun k=>k .undef Kl none) fun ahu x8 b_111 =>
 ah t107 true (fun Nr=>Nr a0 x8 none) (fun k=>k .undef x8 none) fun CW PG b_114 =>
 ah t107 true (fun ach=>ach a1 PG none) (fun k=>k .undef PG none) fun IK qc arA =>
 ah t107 true (fun aan=>aA CW IK 5 fun t116 =>
 aan t116 qc none) (fun k=>k .undef qc none) fun aem ug aiG =>
 ah t107 true (fun O5=>aF ug aem 5 fun t117 =>
 O5 t117 ug none) (fun k=>k .undef ug none) fun ae8 zn arS =>
 af t107 true (fun acj=>gq cv t109 [ahu,ae8] zn fun Dx Cn =>
 acj Dx Cn) (fun k=>k .undef zn) fun agC Kz =>
 ah t107 true (fun aaL=>ae .lss agC (N .i64 0) fun t119 =>
 aaL t119 Kz none) (fun k=>k .undef Kz none) fun agR ah9 b_133 =>
 aH t107 agR (Bo false) fun Dh =>
 az Dh (
 ae .add (aa BS 0) (N .i64 1) fun CP =>
 aiR [CP] ah9) (
 bu (fun ahf tC TK =>
 ae .leq (aa BS 0) (aa tC 0) fun ou =>
 ah ou true (fun ar1=>ar1 a4 TK none) (fun k=>k .undef TK none) fun t127 JV aua =>
 ah ou true (fun abM=>abM a0 JV none) (fun k=>k .undef JV none) fun Nn BN ahQ =>
 ah ou true (fun Ot=>Ot (aa tC 0) BN none) (fun k=>k .undef BN none) fun wZ OV ar6 =>
 ah ou true (fun ab0=>aA Nn wZ 5 fun t130 =>
 ab0 t130 OV none) (fun k=>k .undef OV none) fun aeH zA aiy =>
 ah ou true (fun NK=>aF zA aeH 5 fun t131 =>
 NK t131 zA none) (fun k=>k .undef zA none) fun ahB GJ asG =>
 ah ou true (fun Zx=>Zx a0 GJ none) (fun k=>k .undef GJ none) fun FR FQ ate =>
 ah ou true (fun aaF=>aaF a1 FQ none) (fun k=>k .undef FQ none) fun TZ ahU b_159 =>
 ah ou true (fun ar2=>aA FR TZ 5 fun vJ =>
 ar2 vJ ahU none) (fun k=>k .undef ahU none) fun ag1 abO b_163 =>
 ah ou true (fun atV=>aF abO ag1 5 fun axz =>
 atV axz abO none) (fun k=>k .undef abO none) fun ahA yc asr =>
 af ou true (fun aa7=>gq cv t127 [ahB,ahA] yc fun WT asV =>
 aa7 WT asV) (fun k=>k .undef yc) fun af6 Po =>
 ah ou true (fun ZP=>ae .lss af6 (N .i64 0) fun U3 =>
 ZP U3 Po none) (fun k=>k .undef Po none) fun aea Ky arU =>
 ah ou true (fun abH=>dG aea fun t138 =>
 abH t138 Ky none) (fun k=>k .undef Ky none) fun afj yh ash =>
 aH ou afj (Bo false) fun t139 =>
 az t139 (
 ae .sub (aa tC 0) (N .i64 1) fun t141 =>
 ahf [t141] yh) (
 ae .gtr (aa BS 0) (aa tC 0) fun aeN =>
 az aeN (
 aA a0 a1 5 fun avt =>
 aF yh avt 5 fun avf =>
 aA a0 (aa tC 0) 5 fun t173 =>
 aF yh t173 5 fun avv =>
 aA a0 (aa tC 0) 5 fun t175 =>
 aC yh t175 avf 5 fun ath =>
 aA a0 a1 5 fun awX =>
 aC ath awX avv 5 fun atQ =>
 Q (.tup [(aa tC 0),(Bo false)]) atQ) (
 aA a0 (aa tC 0) 5 fun agJ =>
 aF yh agJ 5 fun t152 =>
 aA a0 (aa BS 0) 5 fun avI =>
 aF yh avI 5 fun t156 =>
 aA a0 (aa BS 0) 5 fun t157 =>
 aC yh t157 t152 5 fun Cs =>
 aA a0 (aa tC 0) 5 fun auU =>
 aC Cs auU t156 5 fun atF =>
 ae .add (aa BS 0) (N .i64 1) fun t160 =>
 ae .sub (aa tC 0) (N .i64 1) fun t162 =>
 ai0 [t160,t162] atF))) [(aa acf 1)] ah9)) [(aa acf 0)] FI) [GV,Fe] F8))) [t31] dZ)) [t29] M_0
def xA (a0:AV) (M0:RM) (Q:ak) : Prop :=
 kg .neq a0 a0 fun t5 =>
 Q t5 M0
def Fh (a0:AV) (M0:RM) (Q:ak) : Prop :=
 bu (fun next xs M =>
 dh a0 fun bN =>
 ae .lss (aa xs 1) bN fun cB =>
 af cB true (fun k=>k (aa xs 1) M) (fun k=>k .undef M) fun bO M_0 =>
 af cB true (fun k_1=>ae .lss bO (N .i64 10) fun t14 =>
 k_1 t14 M_0) (fun k=>k .undef M_0) fun as9 M_3 =>
 aH cB as9 (Bo false) fun t15 =>
 az t15 (
 aA a0 (aa xs 1) 1 fun t20 =>
 ai M_3 t20 fun t21 =>
 ae .rem t21 (N .u8 128) fun t22 =>
 fG .u64 t22 fun t23 =>
 ae .eql (aa xs 1) (N .i64 9) fun t25 =>
 af t25 true (fun k_4=>k_4 t23 M_3) (fun k=>k .undef M_3) fun t27 M_5 =>
 af t25 true (fun k_6=>ae .gtr t27 (N .u64 1) fun t28 =>
 k_6 t28 M_5) (fun k=>k .undef M_5) fun auc M_8 =>
 aH t25 auc (Bo false) fun t29 =>
 az t29 (
 Q (.tup [(N .u64 0),(.sc (.slice none 0 0)),(Bo false)]) M_8) (
 ae .mul (N .i64 7) (aa xs 1) fun t33 =>
 fG .u64 t33 fun t34 =>
 zh .shl t23 t34 fun t35 =>
 ae .add (aa xs 0) t35 fun t36 =>
 aA a0 (aa xs 1) 1 fun t39 =>
 ai M_8 t39 fun t40 =>
 ae .lss t40 (N .u8 128) fun t41 =>
 az t41 (
 ae .add (aa xs 1) (N .i64 1) fun t45 =>
 iE (bY 1 a0 (some t45) none none) fun t46 =>
 aA a0 (aa xs 1) 1 fun t49 =>
 ai M_8 t49 fun t50 =>
 ae .gtr t50 (N .u8 0) fun t51 =>
 ah t51 false (fun k_9=>k_9 (aa xs 1) M_8 none) (fun k=>k .undef M_8 none) fun t53 dH b =>
 ah t51 false (fun jh=>ae .eql t53 (N .i64 0) fun t54 =>
 jh t54 dH none) (fun k=>k .undef dH none) fun al4 dC abS =>
 aH t51 (Bo true) al4 fun t55 =>
 Q (.tup [t36,t46,t55]) dC) (
 ae .add (aa xs 1) (N .i64 1) fun t17 =>
 next [t36,t17] M_8))) (
 Q (.tup [(N .u64 0),(.sc (.slice none 0 0)),(Bo false)]) M_3)) [(N .u64 0),(N .i64 0)] M0
def DN (a0:AV) (M0:RM) (Q:ak) : Prop :=
 ae .neq a0 a0 fun t5 =>
 Q t5 M0
def nG (cv:(FuncId→au)) (a0 a1 a2 a3 a4:AV) (M0:RM) (Q:ak) : Prop :=
 bu (fun next xs M =>
 ae .mul (N .i64 2) (aa xs 0) fun t14 =>
 ae .add t14 (N .i64 1) fun t15 =>
 ae .geq t15 a2 fun t18 =>
 az t18 (
 Q (.tup []) M) (
 ek (fun J =>
 ae .add t15 (N .i64 1) fun t20 =>
 ae .lss t20 a2 fun t22 =>
 ah t22 true (fun k=>k a4 M none) (fun k=>k .undef M none) fun t24 M_0 b =>
 ah t22 true (fun k_1=>k_1 a0 M_0 none) (fun k=>k .undef M_0 none) fun t25 M_2 b_3 =>
 ah t22 true (fun k_4=>k_4 a3 M_2 none) (fun k=>k .undef M_2 none) fun t26 M_5 b_6 =>
 ah t22 true (fun k_7=>k_7 t15 M_5 none) (fun k=>k .undef M_5 none) fun t27 M_8 b_9 =>
 ah t22 true (fun qg=>ae .add t26 t27 fun t28 =>
 qg t28 M_8 none) (fun k=>k .undef M_8 none) fun alT fe ZV =>
 ah t22 true (fun jS=>aA t25 alT 5 fun t29 =>
 jS t29 fe none) (fun k=>k .undef fe none) fun Xf dK IY =>
 ah t22 true (fun rF=>aF dK Xf 5 fun t30 =>
 rF t30 dK none) (fun k=>k .undef dK none) fun aqO jB anB =>
 ah t22 true (fun uK=>uK a0 jB none) (fun k=>k .undef jB none) fun t31 iU Xu =>
 ah t22 true (fun oD=>oD a3 iU none) (fun k=>k .undef iU none) fun t32 kW Wo =>
 ah t22 true (fun qb=>qb t15 kW none) (fun k=>k .undef kW none) fun t33 iV Wj =>
 ah t22 true (fun pW=>ae .add t32 t33 fun t34 =>
 pW t34 iV none) (fun k=>k .undef iV none) fun akp jC apu =>
 ah t22 true (fun mF=>ae .add akp (N .i64 1) fun t35 =>
 mF t35 jC none) (fun k=>k .undef jC none) fun aqe dZ U2 =>
 ah t22 true (fun Ao=>aA t31 aqe 5 fun t36 =>
 Ao t36 dZ none) (fun k=>k .undef dZ none) fun alM jD Qq =>
 ah t22 true (fun FH=>aF jD alM 5 fun t37 =>
 FH t37 jD none) (fun k=>k .undef jD none) fun alg lG apL =>
 af t22 true (fun xm=>gq cv t24 [aqO,alg] lG fun t38 nA =>
 xm t38 nA) (fun k=>k .undef lG) fun ap6 mH =>
 ah t22 true (fun Mx=>ae .lss ap6 (N .i64 0) fun t39 =>
 Mx t39 mH none) (fun k=>k .undef mH none) fun aqv lV af1 =>
 aH t22 aqv (Bo false) fun t40 =>
 az t40 (
 ae .add t15 (N .i64 1) fun t42 =>
 J [t42] lV) (
 J [t15] lV)) (fun Tp xh =>
 ae .add a3 (aa xs 0) fun t47 =>
 aA a0 t47 5 fun t48 =>
 aF xh t48 5 fun t49 =>
 ae .add a3 (aa Tp 0) fun t53 =>
 aA a0 t53 5 fun t54 =>
 aF xh t54 5 fun t55 =>
 gq cv a4 [t49,t55] xh fun t56 iL =>
 ae .lss t56 (N .i64 0) fun t57 =>
 dG t57 fun t58 =>
 az t58 (
 Q (.tup []) iL) (
 ae .add a3 (aa xs 0) fun t62 =>
 ae .add a3 (aa Tp 0) fun t66 =>
 ae .add a3 (aa Tp 0) fun t70 =>
 aA a0 t70 5 fun t71 =>
 aF iL t71 5 fun t72 =>
 ae .add a3 (aa xs 0) fun t76 =>
 aA a0 t76 5 fun t77 =>
 aF iL t77 5 fun t78 =>
 aA a0 t62 5 fun t79 =>
 aC iL t79 t72 5 fun sN =>
 aA a0 t66 5 fun t80 =>
 aC sN t80 t78 5 fun Nc =>
 next [(aa Tp 0)] Nc)))) [a1] M0
def jT (p1:au) (a0 a1 a2 a3:AV) (M0:RM) (Q:ak) : Prop :=
 ae .sub a1 (N .i64 1) fun cB =>
 ae .add a1 (N .i64 1) fun t14 =>
 p1 [a0,cB,a1,t14,a2,a3] M0 fun t17 M =>
 Q t17 M
def pg (p1:au) (a0 a1 a2 a3 a4 a5:AV) (M0:RM) (Q:ak) : Prop :=
 p1 [a0,a1,a2,a4,a5] M0 fun t19 M =>
 bV t19 0 fun t20 =>
 bV t19 1 fun t21 =>
 p1 [a0,t21,a3,a4,a5] M fun t28 M_0 =>
 bV t28 0 fun t29 =>
 bV t28 1 fun t30 =>
 p1 [a0,t20,t29,a4,a5] M_0 fun t37 M_1 =>
 bV t37 0 fun t38 =>
 bV t37 1 fun t39 =>
 Q t39 M_1
def oP (cv:(FuncId→au)) (a0 a1 a2 a3 a4:AV) (M0:RM) (Q:ak) : Prop :=
 aA a0 a2 5 fun t15 =>
 aF M0 t15 5 fun t16 =>
 aA a0 a1 5 fun t19 =>
 aF M0 t19 5 fun t20 =>
 gq cv a4 [t16,t20] M0 fun t21 M =>
 ae .lss t21 (N .i64 0) fun t22 =>
 az t22 (
 bF a3 fun t24 =>
 ai M t24 fun t25 =>
 ae .add t25 (N .i64 1) fun t26 =>
 bF a3 fun t27 =>
 aC M t27 t26 1 fun M_0 =>
 Q (.tup [a2,a1]) M_0) (
 Q (.tup [a1,a2]) M)
end Go.Ab.Crw
namespace Go.Ab.ay
open Go Go.Ab
def Eo (p1:Nat) (M0:RM) (Q:ak) : Prop :=
 iM [(N .u64 0),(.sc (.slice none 0 0)),(N .u64 0),(.sc (.slice none 0 0)),(N .u64 0),(.sc (.slice none 0 0)),(N .u64 0),(.sc (.slice none 0 0)),(N .u64 0),(.sc (.slice none 0 0)),(N .u64 0),(.sc (.slice none 0 0)),(N .u64 0),(.sc (.slice none 0 0)),(N .u64 0),(.sc (.slice none 0 0)),(N .u64 0),(.sc (.slice none 0 0)),(N .u64 0),(.sc (.slice none 0 0)),(N .u64 0),(.sc (.slice none 0 0)),(N .u64 0),(.sc (.slice none 0 0)),(N .u64 0),(.sc (.slice none 0 0)),(N .u64 0),(.sc (.slice none 0 0)),(N .u64 0),(.sc (.slice none 0 0)),(N .u64 0),(.sc (.slice none 0 0))] [] fun t1 =>
 ji p1 t1 fun r f =>
 dx r f M0 fun t2 M =>
 Q t2 M
def FE (p1 p2 p3 p4 p5:au) (p6:Nat) (p7 p8 p9 p10:au) (a0:AV) (M0:RM) (Q:ak) : Prop :=
 p1 [a0] M0 fun bN M =>
 p2 [] M fun cB M_0 =>
 p3 [bN,(N .i64 16)] M_0 fun bO M_1 =>
 bu (fun next xs M_2 =>
 ae .lss (aa xs 0) bO fun t15 =>
 az t15 (
 bF cB fun t19 =>
 aB t19 0 fun t20 =>
 p3 [bN,(N .i64 15)] M_2 fun t18 M_3 =>
 GD t20 t18 16 2 fun t21 =>
 p4 [bN] M_3 fun t24 M_4 =>
 bF t21 fun t25 =>
 aB t25 0 fun t26 =>
 aC M_4 t26 t24 1 fun M_5 =>
 bF t21 fun t28 =>
 aB t28 0 fun t29 =>
 ai M_5 t29 fun t30 =>
 p3 [bN,(N .i64 4096)] M_5 fun t32 M_6 =>
 bu (fun Xb nH M_9 =>
 ae .lss (aa nH 1) t32 fun t34 =>
 az t34 (
 p4 [bN] M_9 fun t36 dH =>
 p5 [bN] dH fun t38 dJ =>
 ae .neq t38 (N .i64 0) fun t39 =>
 af t39 false (fun k=>k t36 dJ) (fun k=>k .undef dJ) fun t41 fe =>
 af t39 false (fun uz=>ae .gtr t41 (N .u64 1099511627776) fun t42 =>
 uz t42 fe) (fun k=>k .undef fe) fun ant fF =>
 aH t39 (Bo true) ant fun t43 =>
 af t43 false (fun uC=>uC (aa nH 0) fF) (fun k=>k .undef fF) fun t45 jE =>
 af t43 false (fun rF=>ae .gtr t45 (N .u64 1099511627776) fun t46 =>
 rF t46 jE) (fun k=>k .undef jE) fun akv jB =>
 aH t43 (Bo true) akv fun t47 =>
 az t47 (
 Q (.tup [(.sc (.pointer none)),(N .i64 14)]) jB) (
 ae .add (aa nH 0) t36 fun t50 =>
 bF t21 fun t53 =>
 aB t53 1 fun t54 =>
 ai jB t54 fun t55 =>
 fO p6 1 [(N .u64 0)] [(0,1,t50)] fun r f =>
 dx r f jB fun t57 fu =>
 appW p6 1 8 [(N .u64 0)] false t55 t57 fu fun t58 gm =>
 bF t21 fun t59 =>
 aB t59 1 fun t60 =>
 aC gm t60 t58 1 fun iU =>
 ae .add (aa nH 1) (N .i64 1) fun t61 =>
 Xb [t50,t61] iU)) (
 bF t21 fun t63 =>
 aB t63 0 fun t64 =>
 ai M_9 t64 fun t65 =>
 ae .gtr t65 (N .u64 1099511627776) fun t66 =>
 af t66 false (fun uk=>uk (aa nH 0) M_9) (fun k=>k .undef M_9) fun t68 iF =>
 af t66 false (fun xx=>ae .gtr t68 (N .u64 1099511627776) fun t69 =>
 xx t69 iF) (fun k=>k .undef iF) fun anA mK =>
 aH t66 (Bo true) anA fun t70 =>
 az t70 (
 Q (.tup [(.sc (.pointer none)),(N .i64 14)]) mK) (
 ae .add (aa xs 0) (N .i64 1) fun t71 =>
 next [t71] mK))) [t30,(N .i64 0)] M_6) (
 p7 [bN] M_2 fun t73 iV =>
 ae .neq t73 (N .i64 0) fun t74 =>
 af t74 false (fun Ba=>Ba cB iV) (fun k=>k .undef iV) fun t76 jL =>
 af t74 false (fun uL=>p8 [t76] jL fun t77 jC =>
 uL t77 jC) (fun k=>k .undef jL) fun apZ F7 =>
 af t74 false (fun Bz=>dG apZ fun t78 =>
 Bz t78 F7) (fun k=>k .undef F7) fun aqu nC =>
 aH t74 (Bo true) aqu fun t79 =>
 af t79 false (fun Ao=>Ao cB nC) (fun k=>k .undef nC) fun t81 lU =>
 af t79 false (fun xy=>p9 [t81] lU fun t82 qD =>
 xy t82 qD) (fun k=>k .undef lU) fun alL qF =>
 af t79 false (fun FL=>FL a0 qF) (fun k=>k .undef qF) fun t83 gD =>
 af t79 false (fun xm=>p10 [alL,t83] gD fun t84 nA =>
 xm t84 nA) (fun k=>k .undef gD) fun anP mH =>
 af t79 false (fun Mx=>dG anP fun t85 =>
 Mx t85 mH) (fun k=>k .undef mH) fun akw lV =>
 aH t79 (Bo true) akw fun t86 =>
 az t86 (
 Q (.tup [(.sc (.pointer none)),(N .i64 14)]) lV) (
 Q (.tup [cB,(N .i64 0)]) lV))) [(N .i64 0)] M_1
def Ib (p1:Nat) (p2 p3:au) (a0 a1:AV) (M0:RM) (Q:ak) : Prop :=
 ji p1 a1 fun r f =>
 dx r f M0 fun t3 M =>
 aF M t3 2 fun t6 =>
 p2 [t6] M fun t7 M_0 =>
 dG t7 fun t8 =>
 az t8 (
 Q (N .i64 1) M_0) (
 aB t3 0 fun cB =>
 ai M_0 cB fun t12 =>
 bF a0 fun bO =>
 aB bO 0 fun t14 =>
 GD t14 t12 16 2 fun t15 =>
 aB t3 1 fun t16 =>
 ai M_0 t16 fun t17 =>
 p3 [t15,t17] M_0 fun t18 M_1 =>
 dG t18 fun t19 =>
 az t19 (
 Q (N .i64 2) M_1) (
 Q (N .i64 0) M_1))
def Dm (p1:Nat) (p2:au) (p3:Nat) (a0:AV) (M0:RM) (Q:ak) : Prop :=
 bF a0 fun t7 =>
 aB t7 0 fun t8 =>
 aF M0 t8 32 fun t9 =>
 bu (fun next xs M =>
 ae .lss (aa xs 1) (N .i64 16) fun cB =>
 az cB (
 ek (fun J =>
 Kb t9 (aa xs 1) 16 2 fun bO =>
 dx (.row [(N .u64 0),(.sc (.slice none 0 0))] false p1 0) (fun b=>.ptr b 0) M fun t5 M_0 =>
 aC M_0 t5 bO 2 fun M_1 =>
 aB t5 0 fun t14 =>
 ai M_1 t14 fun t15 =>
 ae .gtr t15 (N .u64 0) fun t16 =>
 af t16 false (fun k=>aB t5 1 fun t18 =>
 k t18 M_1) (fun k=>k .undef M_1) fun arG M_3 =>
 af t16 false (fun k_4=>ai M_3 arG fun t19 =>
 k_4 t19 M_3) (fun k=>k .undef M_3) fun atd M_6 =>
 af t16 false (fun k_7=>dh atd fun t20 =>
 k_7 t20 M_6) (fun k=>k .undef M_6) fun as2 M_9 =>
 af t16 false (fun qg=>ae .gtr as2 (N .i64 0) fun t21 =>
 qg t21 M_9) (fun k=>k .undef M_9) fun amd fe =>
 aH t16 (Bo true) amd fun t22 =>
 az t22 (
 aB t5 0 fun t25 =>
 ai fe t25 fun t26 =>
 aB t5 1 fun t27 =>
 ai fe t27 fun t28 =>
 p2 [t28] fe fun t29 dC =>
 ai dC t25 fun Vk =>
 (Vk=t26∧iM [(N .i64 0),(N .u64 0),(.sc (.slice none 0 0))] [(0,1,(aa xs 1)),(1,1,t26),(2,1,t29)] fun t30 =>
 fO p3 1 [(N .i64 0),(N .u64 0),(.sc (.slice none 0 0))] [(0,3,t30)] fun r f =>
 wB r f dC fun t31 eO b =>
 appW p3 3 40 [(N .i64 0),(N .u64 0),(.sc (.slice none 0 0))] false (aa xs 0) t31 eO fun t32 fF =>
 J [t32] fF)) (
 J [(aa xs 0)] fe)) (fun atf dE =>
 ae .add (aa xs 1) (N .i64 1) fun t33 =>
 next [(aa atf 0),t33] dE)) (
 Q (aa xs 0) M)) [(.sc (.slice none 0 0)),(N .i64 0)] M0
def Mm (p1:Nat) (a0:AV) (M0:RM) (Q:ak) : Prop :=
 ji p1 a0 fun r f =>
 dx r f M0 fun t1 M =>
 aB t1 0 fun t3 =>
 ai M t3 fun t4 =>
 ae .geq t4 (N .i64 0) fun t5 =>
 af t5 true (fun k=>aB t1 0 fun t7 =>
 k t7 M) (fun k=>k .undef M) fun aeb M_1 =>
 af t5 true (fun k_2=>ai M_1 aeb fun t8 =>
 k_2 t8 M_1) (fun k=>k .undef M_1) fun ahs M_4 =>
 af t5 true (fun k_5=>ae .lss ahs (N .i64 16) fun t9 =>
 k_5 t9 M_4) (fun k=>k .undef M_4) fun ag6 M_7 =>
 aH t5 ag6 (Bo false) fun bN =>
 af bN true (fun k_8=>aB t1 1 fun t12 =>
 k_8 t12 M_7) (fun k=>k .undef M_7) fun aaS dH =>
 af bN true (fun jh=>ai dH aaS fun bO =>
 jh bO dH) (fun k=>k .undef dH) fun Jh dC =>
 af bN true (fun jS=>ae .geq Jh (N .u64 1) fun t14 =>
 jS t14 dC) (fun k=>k .undef dC) fun Ie dK =>
 aH bN Ie (Bo false) fun t15 =>
 af t15 true (fun mM=>aB t1 1 fun t17 =>
 mM t17 dK) (fun k=>k .undef dK) fun Wm dI =>
 af t15 true (fun jQ=>ai dI Wm fun t18 =>
 jQ t18 dI) (fun k=>k .undef dI) fun WC gm =>
 af t15 true (fun qh=>ae .leq WC (N .u64 1099511627776) fun t19 =>
 qh t19 gm) (fun k=>k .undef gm) fun JB iF =>
 aH t15 JB (Bo false) fun t20 =>
 Q t20 iF
def Md (p1:Nat) (a0:AV) (M0:RM) (Q:ak) : Prop :=
 ji p1 a0 fun r f =>
 dx r f M0 fun t1 M =>
 aB t1 0 fun t3 =>
 ai M t3 fun t4 =>
 ae .geq t4 (N .i64 0) fun t5 =>
 af t5 true (fun k=>aB t1 0 fun t7 =>
 k t7 M) (fun k=>k .undef M) fun aeb M_1 =>
 af t5 true (fun k_2=>ai M_1 aeb fun t8 =>
 k_2 t8 M_1) (fun k=>k .undef M_1) fun ahs M_4 =>
 af t5 true (fun k_5=>ae .lss ahs (N .i64 16) fun t9 =>
 k_5 t9 M_4) (fun k=>k .undef M_4) fun ag6 M_7 =>
 aH t5 ag6 (Bo false) fun bN =>
 af bN true (fun k_8=>aB t1 1 fun t12 =>
 k_8 t12 M_7) (fun k=>k .undef M_7) fun aaS dH =>
 af bN true (fun jh=>ai dH aaS fun bO =>
 jh bO dH) (fun k=>k .undef dH) fun Jh dC =>
 af bN true (fun jS=>ae .geq Jh (N .u64 1) fun t14 =>
 jS t14 dC) (fun k=>k .undef dC) fun Ie dK =>
 aH bN Ie (Bo false) fun t15 =>
 af t15 true (fun mM=>aB t1 1 fun t17 =>
 mM t17 dK) (fun k=>k .undef dK) fun Wm dI =>
 af t15 true (fun jQ=>ai dI Wm fun t18 =>
 jQ t18 dI) (fun k=>k .undef dI) fun WC gm =>
 af t15 true (fun qh=>ae .leq WC (N .u64 1099511627776) fun t19 =>
 qh t19 gm) (fun k=>k .undef gm) fun JB iF =>
 aH t15 JB (Bo false) fun t20 =>
 Q t20 iF
def Fu (p1 p2:au) (a0:AV) (M0:RM) (Q:ak) : Prop :=
 p1 [] M0 fun t4 M =>
 p2 [t4,a0] M fun t7 M_0 =>
 Q t4 M_0
def Bh (p1 p2:au) (p3:Nat) (a0:AV) (M0:RM) (Q:ak) : Prop :=
 p1 [a0] M0 fun cB M =>
 dh cB fun bO =>
 fG .u64 bO fun t14 =>
 p2 [(.sc (.slice none 0 0)),t14] M fun t15 M_0 =>
 dh cB fun t17 =>
 bu (fun next xs M_1 =>
 ae .lss (aa xs 1) t17 fun t19 =>
 az t19 (
 aA cB (aa xs 1) 3 fun t20 =>
 aF M_1 t20 3 fun t21 =>
 dx (.row [(N .i64 0),(N .u64 0),(.sc (.slice none 0 0))] false p3 0) (fun b=>.ptr b 0) M_1 fun t6 M_2 =>
 aC M_2 t6 t21 3 fun M_3 =>
 aB t6 0 fun t23 =>
 ai M_3 t23 fun t24 =>
 fG .u64 t24 fun t25 =>
 aB t6 1 fun t27 =>
 ai M_3 t27 fun t28 =>
 aB t6 2 fun t30 =>
 ai M_3 t30 fun t31 =>
 dh t31 fun t32 =>
 fG .u64 t32 fun t33 =>
 p2 [(aa xs 0),t25] M_3 fun t26 M_4 =>
 ai M_4 t27 fun Vm =>
 (Vm=t28∧ai M_4 t30 fun alA =>
 (alA=t31∧p2 [t26,t28] M_4 fun t29 M_5 =>
 ai M_5 t30 fun alS =>
 (alS=t31∧p2 [t29,t33] M_5 fun t34 M_6 =>
 aB t6 1 fun t35 =>
 ai M_6 t35 fun t36 =>
 aB t6 2 fun t37 =>
 ai M_6 t37 fun t38 =>
 dh t38 fun t39 =>
 bu (fun Xb nH M_9 =>
 ae .lss (aa nH 2) t39 fun t41 =>
 az t41 (
 aA t38 (aa nH 2) 1 fun t42 =>
 ai M_9 t42 fun t43 =>
 ae .sub t43 (aa nH 1) fun t47 =>
 p2 [(aa nH 0),t47] M_9 fun t48 dH =>
 ae .add (aa nH 2) (N .i64 1) fun t50 =>
 Xb [t48,t43,t50] dH) (
 ae .add (aa xs 1) (N .i64 1) fun t51 =>
 next [(aa nH 0),t51] M_9)) [t34,t36,(N .i64 0)] M_6)))) (
 Q (aa xs 0) M_1)) [t15,(N .i64 0)] M_0
def JE (p1:Nat) (p2 p3:au) (a0 a1:AV) (M0:RM) (Q:ak) : Prop :=
 ji p1 a1 fun r f =>
 dx r f M0 fun t3 M =>
 aF M t3 2 fun t5 =>
 p2 [t5] M fun t6 M_0 =>
 ah t6 true (fun k=>k a0 M_0 none) (fun k=>k .undef M_0 none) fun t8 M_1 b =>
 ah t6 true (fun k_2=>aB t3 0 fun t9 =>
 k_2 t9 M_1 none) (fun k=>k .undef M_1 none) fun aeY M_4 b_5 =>
 ah t6 true (fun k_6=>ai M_4 aeY fun bN =>
 k_6 bN M_4 none) (fun k=>k .undef M_4 none) fun aue M_8 b_9 =>
 ah t6 true (fun qg=>bF t8 fun cB =>
 qg cB M_8 none) (fun k=>k .undef M_8 none) fun alc fe ZV =>
 ah t6 true (fun jS=>aB alc 0 fun t12 =>
 jS t12 fe none) (fun k=>k .undef fe none) fun ak2 dK IY =>
 ah t6 true (fun rF=>GD ak2 aue 16 2 fun bO =>
 rF bO dK none) (fun k=>k .undef dK none) fun amF jB anB =>
 ah t6 true (fun uK=>aB t3 1 fun t14 =>
 uK t14 jB none) (fun k=>k .undef jB none) fun anj kT awZ =>
 ah t6 true (fun xx=>ai kT anj fun t15 =>
 xx t15 kT none) (fun k=>k .undef kT none) fun aqk mK akW =>
 af t6 true (fun Ba=>p3 [amF,aqk] mK fun t16 jL =>
 Ba t16 jL) (fun k=>k .undef mK) fun an7 jC =>
 aH t6 an7 (Bo false) fun t17 =>
 Q t17 jC
def GL (p1 p2:Nat) (p3 p4 p5 p6:au) (a0 a1:AV) (M0:RM) (Q:ak) : Prop :=
 bu (fun next xs M =>
 ae .lss (aa xs 0) (N .i64 16) fun t8 =>
 az t8 (
 bF a0 fun t12 =>
 aB t12 0 fun bO =>
 GD bO (aa xs 0) 16 2 fun t14 =>
 bF a1 fun t17 =>
 aB t17 0 fun t18 =>
 GD t18 (aa xs 0) 16 2 fun t19 =>
 aF M t19 2 fun t20 =>
 wB (.row [(N .u64 0),(.sc (.slice none 0 0))] false p1 0) (fun b=>.ptr b 0) M fun t6 M_0 b =>
 aC M_0 t6 t20 2 fun M_1 =>
 bF t14 fun t23 =>
 aB t23 0 fun t24 =>
 ai M_1 t24 fun t25 =>
 aB t6 0 fun t26 =>
 ai M_1 t26 fun t27 =>
 MR true t25 t27 fun t28 =>
 bF t14 fun t29 =>
 aB t29 0 fun t30 =>
 aC M_1 t30 t28 1 fun M_2 =>
 bF t14 fun t33 =>
 aB t33 1 fun t34 =>
 ai M_2 t34 fun t35 =>
 aB t6 1 fun t36 =>
 ai M_2 t36 fun t37 =>
 fO p2 2 [(.sc (.slice none 0 0))] [(0,1,t35),(1,1,t37)] fun r f =>
 wB r f M_2 fun t38 M_3 b_4 =>
 p3 [t38] M_3 fun t39 M_5 =>
 bF t14 fun t40 =>
 aB t40 1 fun t41 =>
 aC M_5 t41 t39 1 fun M_6 =>
 bF t14 fun t43 =>
 aB t43 1 fun t44 =>
 ai M_6 t44 fun t45 =>
 p4 [t45] M_6 fun t46 M_7 =>
 bF t14 fun t49 =>
 aB t49 1 fun t50 =>
 ai M_7 t50 fun t51 =>
 p5 [t51] M_7 fun t52 M_8 =>
 bF t14 fun t53 =>
 aB t53 1 fun t54 =>
 aC M_8 t54 t52 1 fun M_9 =>
 p6 [t14] M_9 fun t56 dH =>
 ae .add (aa xs 0) (N .i64 1) fun t57 =>
 next [t57] dH) (
 Q (.tup []) M)) [(N .i64 0)] M0
def AY (p1:Nat) (p2:au) (a0 a1:AV) (M0:RM) (Q:ak) : Prop :=
 bF a0 fun cB =>
 aB cB 0 fun t12 =>
 aF M0 t12 32 fun bO =>
 bu (fun next xs M =>
 ae .lss (aa xs 0) (N .i64 16) fun t15 =>
 az t15 (
 Kb bO (aa xs 0) 16 2 fun t17 =>
 dx (.row [(N .u64 0),(.sc (.slice none 0 0))] false p1 0) (fun b=>.ptr b 0) M fun t6 M_0 =>
 aC M_0 t6 t17 2 fun M_1 =>
 bF a1 fun t20 =>
 aB t20 0 fun t21 =>
 GD t21 (aa xs 0) 16 2 fun t22 =>
 aB t6 0 fun t23 =>
 ai M_1 t23 fun t24 =>
 bF t22 fun t26 =>
 aB t26 0 fun t27 =>
 ai M_1 t27 fun t28 =>
 ae .gtr t24 t28 fun t29 =>
 az t29 (
 Q (Bo false) M_1) (
 aB t6 1 fun t30 =>
 ai M_1 t30 fun t31 =>
 dh t31 fun t32 =>
 bu (fun wK dR M_4 =>
 ae .lss (aa dR 0) t32 fun t34 =>
 az t34 (
 aA t31 (aa dR 0) 1 fun t35 =>
 ai M_4 t35 fun t36 =>
 p2 [t22,t36] M_4 fun t39 M_5 =>
 dG t39 fun t40 =>
 az t40 (
 Q (Bo false) M_5) (
 ae .add (aa dR 0) (N .i64 1) fun t41 =>
 wK [t41] M_5)) (
 ae .add (aa xs 0) (N .i64 1) fun t42 =>
 next [t42] M_4)) [(N .i64 0)] M_1)) (
 Q (Bo true) M)) [(N .i64 0)] M0
def WX (p1:Nat) (a0 a1:AV) (M0:RM) (Q:ak) : Prop :=
 ji p1 a0 fun r f =>
 dx r f M0 fun t2 M =>
 ji p1 a1 fun r_0 f_1 =>
 dx r_0 f_1 M fun t3 M_2 =>
 aB t2 1 fun t5 =>
 ai M_2 t5 fun t6 =>
 aB t3 1 fun t7 =>
 ai M_2 t7 fun t8 =>
 ae .lss t6 t8 fun t9 =>
 af t9 false (fun k=>aB t2 1 fun cB =>
 k cB M_2) (fun k=>k .undef M_2) fun abt M_4 =>
 af t9 false (fun k_5=>ai M_4 abt fun t12 =>
 k_5 t12 M_4) (fun k=>k .undef M_4) fun Z7 M_7 =>
 af t9 false (fun k_8=>aB t3 1 fun bO =>
 k_8 bO M_7) (fun k=>k .undef M_7) fun NE dH =>
 af t9 false (fun jh=>ai dH NE fun t14 =>
 jh t14 dH) (fun k=>k .undef dH) fun Wi dC =>
 af t9 false (fun jS=>ae .eql Z7 Wi fun t15 =>
 jS t15 dC) (fun k=>k .undef dC) fun VB dK =>
 af t9 false (fun mM=>mM VB dK) (fun k=>k .undef dK) fun t16 dE =>
 af t16 true (fun Bt=>aB t2 0 fun t17 =>
 Bt t17 dE) (fun k=>k .undef dE) fun V5 fu =>
 af t16 true (fun uK=>ai fu V5 fun t18 =>
 uK t18 fu) (fun k=>k .undef fu) fun Xd kT =>
 af t16 true (fun oD=>aB t3 0 fun t19 =>
 oD t19 kT) (fun k=>k .undef kT) fun TW jH =>
 af t16 true (fun qb=>ai jH TW fun t20 =>
 qb t20 jH) (fun k=>k .undef jH) fun VV jI =>
 af t16 true (fun pW=>ae .lss Xd VV fun t21 =>
 pW t21 jI) (fun k=>k .undef jI) fun JC jC =>
 af t9 false (fun Ff=>aH t16 JC (Bo false) fun t22 =>
 Ff t22 jC) (fun k=>k .undef jC) fun Iy l8 =>
 aH t9 (Bo true) Iy fun t23 =>
 Q t23 l8
def LP (p1:Nat) (a0 a1:AV) (M0:RM) (Q:ak) : Prop :=
 ji p1 a0 fun r f =>
 dx r f M0 fun t2 M =>
 ji p1 a1 fun r_0 f_1 =>
 dx r_0 f_1 M fun t3 M_2 =>
 aB t2 1 fun t5 =>
 ai M_2 t5 fun t6 =>
 aB t3 1 fun t7 =>
 ai M_2 t7 fun t8 =>
 ae .lss t6 t8 fun t9 =>
 af t9 false (fun k=>aB t2 1 fun cB =>
 k cB M_2) (fun k=>k .undef M_2) fun abt M_4 =>
 af t9 false (fun k_5=>ai M_4 abt fun t12 =>
 k_5 t12 M_4) (fun k=>k .undef M_4) fun Z7 M_7 =>
 af t9 false (fun k_8=>aB t3 1 fun bO =>
 k_8 bO M_7) (fun k=>k .undef M_7) fun NE dH =>
 af t9 false (fun jh=>ai dH NE fun t14 =>
 jh t14 dH) (fun k=>k .undef dH) fun Wi dC =>
 af t9 false (fun jS=>ae .eql Z7 Wi fun t15 =>
 jS t15 dC) (fun k=>k .undef dC) fun VB dK =>
 af t9 false (fun mM=>mM VB dK) (fun k=>k .undef dK) fun t16 dE =>
 af t16 true (fun Bt=>aB t2 0 fun t17 =>
 Bt t17 dE) (fun k=>k .undef dE) fun V5 fu =>
 af t16 true (fun uK=>ai fu V5 fun t18 =>
 uK t18 fu) (fun k=>k .undef fu) fun Xd kT =>
 af t16 true (fun oD=>aB t3 0 fun t19 =>
 oD t19 kT) (fun k=>k .undef kT) fun TW jH =>
 af t16 true (fun qb=>ai jH TW fun t20 =>
 qb t20 jH) (fun k=>k .undef jH) fun VV jI =>
 af t16 true (fun pW=>ae .lss Xd VV fun t21 =>
 pW t21 jI) (fun k=>k .undef jI) fun JC jC =>
 af t9 false (fun Ff=>aH t16 JC (Bo false) fun t22 =>
 Ff t22 jC) (fun k=>k .undef jC) fun Iy l8 =>
 aH t9 (Bo true) Iy fun t23 =>
 Q t23 l8
def U6 (p1:au) (p2:Nat) (a0:AV) (M0:RM) (Q:ak) : Prop :=
 p1 [a0] M0 fun t4 M =>
 iM [(.sc (.slice none 0 0)),(Bo false)] [(0,1,t4)] fun t5 =>
 ji p2 t5 fun r f =>
 dx r f M fun t6 M_0 =>
 Q t6 M_0
def Ac (p1:au) (a0 a1:AV) (M0:RM) (Q:ak) : Prop :=
 p1 [a0] M0 fun bN M =>
 bV bN 0 fun cB =>
 bV bN 1 fun t12 =>
 bV bN 2 fun bO =>
 bF a0 fun t16 =>
 aB t16 1 fun t17 =>
 ai M t17 fun t18 =>
 af t18 false (fun k=>k bO M) (fun k=>k .undef M) fun t20 M_0 =>
 af t18 false (fun k_1=>dG t20 fun t21 =>
 k_1 t21 M_0) (fun k=>k .undef M_0) fun Pj M_3 =>
 aH t18 (Bo true) Pj fun t22 =>
 af t22 false (fun k_4=>k_4 a1 M_3) (fun k=>k .undef M_3) fun t24 M_5 =>
 af t22 false (fun k_6=>ae .lss t24 (N .i64 0) fun t25 =>
 k_6 t25 M_5) (fun k=>k .undef M_5) fun NI M_8 =>
 aH t22 (Bo true) NI fun t26 =>
 af t26 false (fun k_9=>k_9 cB M_8) (fun k=>k .undef M_8) fun t28 dH =>
 af t26 false (fun jh=>jh a1 dH) (fun k=>k .undef dH) fun t29 fe =>
 af t26 false (fun uz=>fG .u64 t29 fun t30 =>
 uz t30 fe) (fun k=>k .undef fe) fun arj fF =>
 af t26 false (fun uC=>ae .gtr t28 arj fun t31 =>
 uC t31 fF) (fun k=>k .undef fF) fun IV dE =>
 aH t26 (Bo true) IV fun t32 =>
 bF a0 fun t33 =>
 aB t33 1 fun t34 =>
 aC dE t34 t32 1 fun dI =>
 bF a0 fun t36 =>
 aB t36 1 fun t37 =>
 ai dI t37 fun t38 =>
 az t38 (
 Q (N .i64 0) dI) (
 bF a0 fun t41 =>
 aB t41 0 fun t42 =>
 ai dI t42 fun t43 =>
 iE (bY 1 t43 (some t12) none none) fun t45 =>
 bF a0 fun t46 =>
 aB t46 0 fun t47 =>
 aC dI t47 t45 1 fun jB =>
 fG .i64 cB fun t49 =>
 Q t49 jB)
def y9 (p1:au) (a0:AV) (M0:RM) (Q:ak) : Prop :=
 p1 [a0] M0 fun t8 M =>
 bV t8 0 fun t9 =>
 bV t8 1 fun bN =>
 bV t8 2 fun cB =>
 bF a0 fun t14 =>
 aB t14 1 fun t15 =>
 ai M t15 fun t16 =>
 af t16 false (fun k=>k cB M) (fun k=>k .undef M) fun t18 M_0 =>
 af t16 false (fun k_1=>dG t18 fun t19 =>
 k_1 t19 M_0) (fun k=>k .undef M_0) fun atG M_3 =>
 aH t16 (Bo true) atG fun t20 =>
 bF a0 fun t21 =>
 aB t21 1 fun t22 =>
 aC M_3 t22 t20 1 fun M_4 =>
 bF a0 fun t24 =>
 aB t24 1 fun t25 =>
 ai M_4 t25 fun t26 =>
 az t26 (
 Q (N .u64 0) M_4) (
 bF a0 fun t29 =>
 aB t29 0 fun t30 =>
 ai M_4 t30 fun t31 =>
 iE (bY 1 t31 (some bN) none none) fun t33 =>
 bF a0 fun t34 =>
 aB t34 0 fun t35 =>
 aC M_4 t35 t33 1 fun M_5 =>
 Q t9 M_5)
def A9 (a0:AV) (M0:RM) (Q:ak) : Prop :=
 bF a0 fun t4 =>
 aB t4 1 fun t5 =>
 ai M0 t5 fun t6 =>
 az t6 (
 Q (N .i64 14) M0) (
 Q (N .i64 0) M0)
def Ay (a0:AV) (M0:RM) (Q:ak) : Prop :=
 bF a0 fun t4 =>
 aB t4 1 fun t5 =>
 ai M0 t5 fun t6 =>
 af t6 false (fun k=>k a0 M0) (fun k=>k .undef M0) fun t8 M =>
 af t6 false (fun k_0=>bF t8 fun t9 =>
 k_0 t9 M) (fun k=>k .undef M) fun agb M_2 =>
 af t6 false (fun k_3=>aB agb 0 fun bN =>
 k_3 bN M_2) (fun k=>k .undef M_2) fun ZH M_5 =>
 af t6 false (fun k_6=>ai M_5 ZH fun cB =>
 k_6 cB M_5) (fun k=>k .undef M_5) fun acp M_8 =>
 af t6 false (fun k_9=>dh acp fun t12 =>
 k_9 t12 M_8) (fun k=>k .undef M_8) fun aq9 dJ =>
 af t6 false (fun mU=>ae .gtr aq9 (N .i64 0) fun bO =>
 mU bO dJ) (fun k=>k .undef dJ) fun apI eO =>
 aH t6 (Bo true) apI fun t14 =>
 az t14 (
 Q (N .i64 14) eO) (
 Q (N .i64 0) eO)
def Ag (p1:Nat) (a0:AV) (M0:RM) (Q:ak) : Prop :=
 bF a0 fun t8 =>
 aB t8 0 fun t9 =>
 aF M0 t9 32 fun bN =>
 bu (fun next xs M =>
 ae .lss (aa xs 0) (N .i64 16) fun t12 =>
 az t12 (
 Kb bN (aa xs 0) 16 2 fun bO =>
 dx (.row [(N .u64 0),(.sc (.slice none 0 0))] false p1 0) (fun b=>.ptr b 0) M fun t4 M_0 =>
 aC M_0 t4 bO 2 fun M_1 =>
 aB t4 1 fun t14 =>
 ai M_1 t14 fun t15 =>
 dh t15 fun t16 =>
 bu (fun wK dR M_4 =>
 ae .lss (aa dR 0) t16 fun t18 =>
 az t18 (
 aA t15 (aa dR 0) 1 fun t20 =>
 ai M_4 t20 fun t21 =>
 ae .eql (aa dR 0) (N .i64 0) fun t23 =>
 af t23 true (fun k=>k t21 M_4) (fun k=>k .undef M_4) fun t25 M_5 =>
 af t23 true (fun k_6=>aB t4 0 fun t26 =>
 k_6 t26 M_5) (fun k=>k .undef M_5) fun ass M_8 =>
 af t23 true (fun k_9=>ai M_8 ass fun t27 =>
 k_9 t27 M_8) (fun k=>k .undef M_8) fun amj dJ =>
 af t23 true (fun mU=>ae .add amj (N .u64 1) fun t28 =>
 mU t28 dJ) (fun k=>k .undef dJ) fun Vm eO =>
 af t23 true (fun rE=>ae .leq t25 Vm fun t29 =>
 rE t29 eO) (fun k=>k .undef eO) fun api jE =>
 aH t23 api (Bo false) fun t30 =>
 af t30 false (fun rF=>rF (aa dR 0) jE) (fun k=>k .undef jE) fun t32 dI =>
 af t30 false (fun jQ=>ae .gtr t32 (N .i64 0) fun t33 =>
 jQ t33 dI) (fun k=>k .undef dI) fun aq1 gm =>
 af t30 false (fun qh=>qh aq1 gm) (fun k=>k .undef gm) fun t34 kT =>
 af t34 true (fun oD=>oD t21 kT) (fun k=>k .undef kT) fun t35 kW =>
 af t34 true (fun uy=>aB t4 1 fun t36 =>
 uy t36 kW) (fun k=>k .undef kW) fun an3 iV =>
 af t34 true (fun Ba=>ai iV an3 fun t37 =>
 Ba t37 iV) (fun k=>k .undef iV) fun alv qa =>
 af t34 true (fun FP=>FP (aa dR 0) qa) (fun k=>k .undef qa) fun t38 eP =>
 af t34 true (fun mF=>ae .sub t38 (N .i64 1) fun t39 =>
 mF t39 eP) (fun k=>k .undef eP) fun apG dZ =>
 af t34 true (fun xL=>aA alv apG 1 fun t40 =>
 xL t40 dZ) (fun k=>k .undef dZ) fun arc lU =>
 af t34 true (fun xy=>ai lU arc fun t41 =>
 xy t41 lU) (fun k=>k .undef lU) fun aqC jf =>
 af t34 true (fun wY=>ae .leq t35 aqC fun t42 =>
 wY t42 jf) (fun k=>k .undef jf) fun aoy gD =>
 af t30 false (fun xm=>aH t34 aoy (Bo false) fun t43 =>
 xm t43 gD) (fun k=>k .undef gD) fun arq iG =>
 aH t30 (Bo true) arq fun t44 =>
 az t44 (
 Q (Bo false) iG) (
 ae .add (aa dR 0) (N .i64 1) fun t45 =>
 wK [t45] iG)) (
 ae .add (aa xs 0) (N .i64 1) fun t46 =>
 next [t46] M_4)) [(N .i64 0)] M_1) (
 Q (Bo true) M)) [(N .i64 0)] M0
def yQ (a0 a1:AV) (M0:RM) (Q:ak) : Prop :=
 jY M0 a0 fun t6 =>
 jY M0 a1 fun t8 =>
 kg .eql t6 t8 fun t9 =>
 Q t9 M0
def Fx (p1:au) (p2 p3:Nat) (p4 p5 p6:au) (a0 a1:AV) (M0:RM) (Q:ak) : Prop :=
 bF a0 fun bN =>
 aB bN 1 fun cB =>
 ai M0 cB fun t12 =>
 p1 [t12,a1] M0 fun t14 M =>
 bV t14 0 fun t15 =>
 bV t14 1 fun t16 =>
 af t16 false (fun k=>k a1 M) (fun k=>k .undef M) fun t19 M_0 =>
 af t16 false (fun k_1=>k_1 a0 M_0) (fun k=>k .undef M_0) fun t20 M_2 =>
 af t16 false (fun k_3=>bF t20 fun t21 =>
 k_3 t21 M_2) (fun k=>k .undef M_2) fun aaE M_5 =>
 af t16 false (fun k_6=>aB aaE 0 fun t22 =>
 k_6 t22 M_5) (fun k=>k .undef M_5) fun abn M_8 =>
 af t16 false (fun k_9=>ai M_8 abn fun t23 =>
 k_9 t23 M_8) (fun k=>k .undef M_8) fun WO dJ =>
 af t16 false (fun mU=>ae .leq t19 WO fun t24 =>
 mU t24 dJ) (fun k=>k .undef dJ) fun Wy eO =>
 aH t16 (Bo true) Wy fun t25 =>
 az t25 (
 Q (Bo true) eO) (
 bF a0 fun t27 =>
 aB t27 0 fun t28 =>
 ai eO t28 fun t29 =>
 bF a0 fun t31 =>
 aB t31 1 fun t32 =>
 ai eO t32 fun t33 =>
 fO p2 1 [(N .u64 0)] [(0,1,a1)] fun r f =>
 wB r f eO fun t37 fF b =>
 wB (.row [(N .u64 0),(.sc (.slice none 0 0))] false p3 0) (fun b=>.ptr b 0) fF fun t7 dK IY =>
 p4 [t33] dK fun t34 dE =>
 ai dE t28 fun ao5 =>
 (ao5=t29∧fO p2 1 [(N .u64 0)] [(0,1,a1)] fun avG avl =>
 (zm b dE avG avl t37∧(zm IY dE (.row [(N .u64 0),(.sc (.slice none 0 0))] false p3 0) (fun b=>.ptr b 0) t7∧p5 [t34,t15,t37] dE fun t38 dI =>
 ai dI t28 fun akt =>
 (akt=t29∧(zm IY dI (.row [(N .u64 0),(.sc (.slice none 0 0))] false p3 0) (fun b=>.ptr b 0) t7∧iM [(N .u64 0),(.sc (.slice none 0 0))] [(0,1,t29),(1,1,t38)] fun t39 =>
 aC dI t7 t39 2 fun jB =>
 p6 [t7] jB fun t40 fu =>
 aB t7 1 fun t41 =>
 ai fu t41 fun t42 =>
 dh t42 fun t43 =>
 ae .gtr t43 (N .i64 4096) fun t44 =>
 az t44 (
 Q (Bo false) fu) (
 aF fu t7 2 fun t46 =>
 bF a0 fun t47 =>
 aC fu t47 t46 2 fun gm =>
 Q (Bo true) gm)))))))
def PP (p1:Nat) (a0:AV) (M0:RM) (Q:ak) : Prop :=
 jJ false 2 a0 (.sc (.slice none 0 0)) fun t4 =>
 az t4 (
 Q (.sc (.slice none 0 0)) M0) (
 fO p1 0 [(N .u64 0)] [] fun r f =>
 dx r f M0 fun t5 M =>
 appW p1 1 8 [(N .u64 0)] false t5 a0 M fun t7 M_0 =>
 Q t7 M_0)
def Xe (p1:au) (p2:Nat) (a0 a1:AV) (M0:RM) (Q:ak) : Prop :=
 p1 [a0] M0 fun t6 M =>
 bu (fun next xs M_0 =>
 ae .geq (aa xs 1) (N .u64 128) fun t8 =>
 az t8 (
 fG .u8 (aa xs 1) fun bO =>
 ae .or bO (N .u8 128) fun t14 =>
 fO p2 1 [(N .u8 0)] [(0,1,t14)] fun r f =>
 dx r f M_0 fun t15 M_1 =>
 appW p2 1 1 [(N .u8 0)] false (aa xs 0) t15 M_1 fun t16 M_2 =>
 zh .shr (aa xs 1) (N .u64 7) fun bN =>
 next [t16,bN] M_2) (
 fG .u8 (aa xs 1) fun t19 =>
 fO p2 1 [(N .u8 0)] [(0,1,t19)] fun r_3 f_4 =>
 dx r_3 f_4 M_0 fun t20 M_5 =>
 appW p2 1 1 [(N .u8 0)] false (aa xs 0) t20 M_5 fun t21 M_6 =>
 Q t21 M_6)) [t6,a1] M
def Gf (p1:au) (a0 a1:AV) (M0:RM) (Q:ak) : Prop :=
 bF a0 fun t9 =>
 aB t9 1 fun bN =>
 ai M0 bN fun cB =>
 p1 [cB,a1] M0 fun bO M =>
 bV bO 0 fun t14 =>
 bV bO 1 fun t15 =>
 ae .geq a1 (N .u64 1) fun t17 =>
 af t17 true (fun k=>k a1 M) (fun k=>k .undef M) fun t19 M_0 =>
 af t17 true (fun k_1=>k_1 a0 M_0) (fun k=>k .undef M_0) fun t20 M_2 =>
 af t17 true (fun k_3=>bF t20 fun t21 =>
 k_3 t21 M_2) (fun k=>k .undef M_2) fun aaE M_5 =>
 af t17 true (fun k_6=>aB aaE 0 fun t22 =>
 k_6 t22 M_5) (fun k=>k .undef M_5) fun abn M_8 =>
 af t17 true (fun k_9=>ai M_8 abn fun t23 =>
 k_9 t23 M_8) (fun k=>k .undef M_8) fun WO dJ =>
 af t17 true (fun mU=>ae .leq t19 WO fun t24 =>
 mU t24 dJ) (fun k=>k .undef dJ) fun Wy eO =>
 aH t17 Wy (Bo false) fun t25 =>
 af t25 false (fun rE=>rE t15 eO) (fun k=>k .undef eO) fun t27 dK =>
 aH t25 (Bo true) t27 fun t28 =>
 Q t28 dK
def vP (p1:Nat) (p2:au) (p3:Nat) (a0:AV) (M0:RM) (Q:ak) : Prop :=
 dh a0 fun bN =>
 bu (fun next xs M =>
 ae .lss (aa xs 1) bN fun t12 =>
 az t12 (
 ek (fun J =>
 aA a0 (aa xs 1) 1 fun bO =>
 ai M bO fun t14 =>
 dh t14 fun t17 =>
 ae .add (aa xs 0) t17 fun t18 =>
 ae .lss t18 (N .i64 0) fun t20 =>
 az t20 (
 False) (
 J [t18] M)) (fun avu M_1 =>
 ae .add (aa xs 1) (N .i64 1) fun t22 =>
 next [(aa avu 0),t22] M_1)) (
 p2 [(.sc (.slice none 0 0)),(aa xs 0)] M fun t24 M_2 =>
 dh a0 fun t26 =>
 bu (fun akA DC M_5 =>
 ae .lss (aa DC 1) t26 fun t28 =>
 az t28 (
 aA a0 (aa DC 1) 1 fun t29 =>
 ai M_5 t29 fun t30 =>
 appW p3 1 8 [(N .u64 0)] false (aa DC 0) t30 M_5 fun t33 M_6 =>
 ae .add (aa DC 1) (N .i64 1) fun t34 =>
 akA [t33,t34] M_6) (
 Q (aa DC 0) M_5)) [t24,(N .i64 0)] M_2)) [(N .i64 0),(N .i64 0)] M0
def yU (p1 p2:au) (a0:AV) (M0:RM) (Q:ak) : Prop :=
 dh a0 fun t4 =>
 fG .u64 t4 fun t8 =>
 p1 [t8] M0 fun t9 M =>
 p2 [a0,(N .i64 0),t4,t9] M fun bN M_0 =>
 Q (.tup []) M_0
def uQ (a0:AV) (M0:RM) (Q:ak) : Prop :=
 dh a0 fun t7 =>
 ae .lss t7 (N .i64 2) fun t8 =>
 az t8 (
 Q a0 M0) (
 bu (fun next xs M =>
 dh a0 fun t12 =>
 ae .lss (aa xs 0) t12 fun bO =>
 az bO (
 aA a0 (aa xs 0) 1 fun t18 =>
 ai M t18 fun t19 =>
 ae .sub (aa xs 0) (N .i64 1) fun t22 =>
 aA a0 t22 1 fun t23 =>
 ai M t23 fun t24 =>
 ae .eql t19 t24 fun t25 =>
 az t25 (
 iE (bY 1 a0 (some (aa xs 0)) none none) fun t28 =>
 bu (fun wC dD M_2 =>
 dh t28 fun t31 =>
 ae .lss (aa dD 1) t31 fun t32 =>
 az t32 (
 ek (fun J =>
 aA t28 (aa dD 1) 1 fun t37 =>
 ai M_2 t37 fun t38 =>
 ae .sub (aa dD 1) (N .i64 1) fun t41 =>
 aA t28 t41 1 fun t42 =>
 ai M_2 t42 fun t43 =>
 ae .neq t38 t43 fun t44 =>
 az t44 (
 aA t28 (aa dD 1) 1 fun t49 =>
 ai M_2 t49 fun t50 =>
 aA a0 (aa dD 0) 1 fun t51 =>
 aC M_2 t51 t50 1 fun M_3 =>
 ae .add (aa dD 0) (N .i64 1) fun t53 =>
 J [t53] M_3) (
 J [(aa dD 0)] M_2)) (fun DC M_5 =>
 ae .add (aa dD 1) (N .i64 1) fun t34 =>
 wC [(aa DC 0),t34] M_5)) (
 iE (bY 1 a0 (some (aa dD 0)) none none) fun t56 =>
 Pv [(N .u64 0)] t56 M_2 fun u M_6 =>
 iE (bY 1 a0 none (some (aa dD 0)) none) fun t59 =>
 Q t59 M_6)) [(aa xs 0),(N .i64 1)] M) (
 ae .add (aa xs 0) (N .i64 1) fun t15 =>
 next [t15] M)) (
 Q a0 M)) [(N .i64 1)] M0)
def xS (a0:AV) (M0:RM) (Q:ak) : Prop :=
 bu (fun next xs M =>
 bF a0 fun t5 =>
 aB t5 1 fun t6 =>
 ai M t6 fun t7 =>
 dh t7 fun t8 =>
 ae .lss (aa xs 0) t8 fun t9 =>
 ah t9 true (fun k=>k a0 M none) (fun k=>k .undef M none) fun cB M_0 b =>
 ah t9 true (fun k_1=>bF cB fun t12 =>
 k_1 t12 M_0 none) (fun k=>k .undef M_0 none) fun asy M_3 b_4 =>
 ah t9 true (fun k_5=>aB asy 1 fun bO =>
 k_5 bO M_3 none) (fun k=>k .undef M_3 none) fun ZZ M_7 b_8 =>
 ah t9 true (fun k_9=>ai M_7 ZZ fun t14 =>
 k_9 t14 M_7 none) (fun k=>k .undef M_7 none) fun alO dJ afl =>
 ah t9 true (fun uz=>uz (aa xs 0) dJ none) (fun k=>k .undef dJ none) fun t15 eO akT =>
 ah t9 true (fun uC=>aA alO t15 1 fun t16 =>
 uC t16 eO none) (fun k=>k .undef eO none) fun amR dE Ui =>
 ah t9 true (fun jQ=>ai dE amR fun t17 =>
 jQ t17 dE none) (fun k=>k .undef dE none) fun al2 gm abh =>
 ah t9 true (fun uk=>uk a0 gm none) (fun k=>k .undef gm none) fun t18 iF aae =>
 ah t9 true (fun uy=>bF t18 fun t19 =>
 uy t19 iF none) (fun k=>k .undef iF none) fun anx iV Wj =>
 ah t9 true (fun pW=>aB anx 0 fun t20 =>
 pW t20 iV none) (fun k=>k .undef iV none) fun aqD jC apu =>
 ah t9 true (fun mF=>ai jC aqD fun t21 =>
 mF t21 jC none) (fun k=>k .undef jC none) fun amk dZ U2 =>
 ah t9 true (fun Ao=>ae .add amk (N .u64 1) fun t22 =>
 Ao t22 dZ none) (fun k=>k .undef dZ none) fun amH jD Qq =>
 ah t9 true (fun FH=>ae .leq al2 amH fun t23 =>
 FH t23 jD none) (fun k=>k .undef jD none) fun aon lG apL =>
 aH t9 aon (Bo false) fun t24 =>
 az t24 (
 bF a0 fun t27 =>
 aB t27 0 fun t28 =>
 ai lG t28 fun t29 =>
 bF a0 fun t31 =>
 aB t31 1 fun t32 =>
 ai lG t32 fun t33 =>
 aA t33 (aa xs 0) 1 fun t35 =>
 ai lG t35 fun t36 =>
 MR true t29 t36 fun t37 =>
 bF a0 fun t38 =>
 aB t38 0 fun t39 =>
 aC lG t39 t37 1 fun uB =>
 ae .add (aa xs 0) (N .i64 1) fun t41 =>
 next [t41] uB) (
 bF a0 fun t44 =>
 aB t44 1 fun t45 =>
 ai lG t45 fun t46 =>
 iE (bY 1 t46 (some (aa xs 0)) none none) fun t48 =>
 bF a0 fun t49 =>
 aB t49 1 fun t50 =>
 aC lG t50 t48 1 fun nA =>
 Q (.tup []) nA)) [(N .i64 0)] M0
def Xt (p1:Nat) (a0:AV) (M0:RM) (Q:ak) : Prop :=
 jJ false 2 a0 (.sc (.slice none 0 0)) fun t4 =>
 az t4 (
 Q (.sc (.slice none 0 0)) M0) (
 fO p1 0 [(N .u8 0)] [] fun r f =>
 dx r f M0 fun t5 M =>
 appW p1 1 1 [(N .u8 0)] false t5 a0 M fun t7 M_0 =>
 Q t7 M_0)
def wu (a0:AV) (M0:RM) (Q:ak) : Prop :=
 ek (fun J =>
 bF a0 fun t8 =>
 aB t8 0 fun t9 =>
 ai M0 t9 fun bN =>
 bF a0 fun t12 =>
 aB t12 0 fun bO =>
 ai M0 bO fun t14 =>
 dh t14 fun t15 =>
 MR false t15 (N .i64 10) fun t16 =>
 iE (bY 1 bN none (some t16) none) fun t17 =>
 dh t17 fun t18 =>
 bu (fun next xs M =>
 ae .lss (aa xs 1) t18 fun t20 =>
 az t20 (
 aA t17 (aa xs 1) 1 fun t22 =>
 ai M t22 fun t23 =>
 ae .and t23 (N .u8 127) fun t26 =>
 fG .u64 t26 fun t27 =>
 ae .mul (N .i64 7) (aa xs 1) fun t29 =>
 zh .shl t27 t29 fun t30 =>
 ae .or (aa xs 0) t30 fun t31 =>
 ae .geq t23 (N .u8 128) fun t33 =>
 az t33 (
 ae .add (aa xs 1) (N .i64 1) fun t51 =>
 next [t31,t51] M) (
 ae .eql t23 (N .u8 0) fun t35 =>
 af t35 true (fun k=>k (aa xs 1) M) (fun k=>k .undef M) fun t37 M_0 =>
 af t35 true (fun k_1=>ae .gtr t37 (N .i64 0) fun t38 =>
 k_1 t38 M_0) (fun k=>k .undef M_0) fun asT M_3 =>
 aH t35 asT (Bo false) fun t39 =>
 af t39 false (fun k_4=>k_4 (aa xs 1) M_3) (fun k=>k .undef M_3) fun t41 M_5 =>
 af t39 false (fun k_6=>ae .eql t41 (N .i64 9) fun t42 =>
 k_6 t42 M_5) (fun k=>k .undef M_5) fun auf M_8 =>
 af t39 false (fun k_9=>k_9 auf M_8) (fun k=>k .undef M_8) fun t43 dH =>
 af t43 true (fun jh=>jh t23 dH) (fun k=>k .undef dH) fun t44 fe =>
 af t43 true (fun uz=>ae .gtr t44 (N .u8 1) fun t45 =>
 uz t45 fe) (fun k=>k .undef fe) fun Vj fF =>
 af t39 false (fun uC=>aH t43 Vj (Bo false) fun t46 =>
 uC t46 fF) (fun k=>k .undef fF) fun Wq dE =>
 aH t39 (Bo true) Wq fun t47 =>
 az t47 (
 J [] dE) (
 ae .add (aa xs 1) (N .i64 1) fun t50 =>
 Q (.tup [t31,t50,(Bo true)]) dE))) (
 J [] M)) [(N .u64 0),(N .i64 0)] M0) (fun xs_19 jB =>
 Q (.tup [(N .u64 0),(N .i64 0),(Bo false)]) jB)
def oJ (p1 p2:au) (a0 a1:AV) (M0:RM) (Q:ak) : Prop :=
 dh a0 fun cB =>
 bu (fun next xs M =>
 ae .lss (aa xs 0) (aa xs 1) fun t15 =>
 az t15 (
 ae .add (aa xs 0) (aa xs 1) fun t18 =>
 fG .u64 t18 fun t19 =>
 zh .shr t19 (N .u64 1) fun t20 =>
 fG .i64 t20 fun t21 =>
 aA a0 t21 1 fun t24 =>
 ai M t24 fun t25 =>
 p1 [t25,a1] M fun t27 M_0 =>
 az t27 (
 ae .add t21 (N .i64 1) fun t29 =>
 next [t29,(aa xs 1)] M_0) (
 next [(aa xs 0),t21] M_0)) (
 ae .lss (aa xs 0) cB fun t34 =>
 af t34 true (fun k=>k a0 M) (fun k=>k .undef M) fun t36 M_1 =>
 af t34 true (fun k_2=>k_2 (aa xs 0) M_1) (fun k=>k .undef M_1) fun t37 M_3 =>
 af t34 true (fun k_4=>aA t36 t37 1 fun t38 =>
 k_4 t38 M_3) (fun k=>k .undef M_3) fun atg M_6 =>
 af t34 true (fun k_7=>ai M_6 atg fun t39 =>
 k_7 t39 M_6) (fun k=>k .undef M_6) fun asN M_9 =>
 af t34 true (fun qg=>qg a1 M_9) (fun k=>k .undef M_9) fun t40 dJ =>
 af t34 true (fun mU=>ae .eql asN t40 fun t41 =>
 mU t41 dJ) (fun k=>k .undef dJ) fun aq7 eO =>
 af t34 true (fun rE=>rE aq7 eO) (fun k=>k .undef eO) fun t42 dK =>
 af t42 false (fun mM=>mM a0 dK) (fun k=>k .undef dK) fun t43 dE =>
 af t42 false (fun Bt=>Bt (aa xs 0) dE) (fun k=>k .undef dE) fun t44 jB =>
 af t42 false (fun xP=>aA t43 t44 1 fun t45 =>
 xP t45 jB) (fun k=>k .undef jB) fun amI iU =>
 af t42 false (fun uk=>ai iU amI fun t46 =>
 uk t46 iU) (fun k=>k .undef iU) fun al9 kW =>
 af t42 false (fun uy=>p2 [al9] kW fun t47 mK =>
 uy t47 mK) (fun k=>k .undef kW) fun akU jI =>
 af t42 false (fun pW=>pW akU jI) (fun k=>k .undef jI) fun t48 qa =>
 af t48 true (fun FP=>FP a1 qa) (fun k=>k .undef qa) fun t49 eP =>
 af t48 true (fun mF=>p2 [t49] eP fun t50 l8 =>
 mF t50 l8) (fun k=>k .undef eP) fun aqW nC =>
 af t42 false (fun Ao=>aH t48 aqW (Bo false) fun t51 =>
 Ao t51 nC) (fun k=>k .undef nC) fun aos jD =>
 af t34 true (fun Fg=>aH t42 (Bo true) aos fun t52 =>
 Fg t52 jD) (fun k=>k .undef jD) fun aq6 qF =>
 aH t34 aq6 (Bo false) fun t53 =>
 Q (.tup [(aa xs 0),t53]) qF)) [(N .i64 0),cB] M0
def nN (p1:Nat) (p2 p3:au) (a0 a1 a2:AV) (M0:RM) (Q:ak) : Prop :=
 iE (bY 1 a0 (some a1) none none) fun t12 =>
 dh a2 fun t14 =>
 ae .eql t14 (N .i64 0) fun t16 =>
 az t16 (
 Q a0 M0) (
 dh a0 fun t19 =>
 ae .eql a1 t19 fun t22 =>
 az t22 (
 appW p1 1 8 [(N .u64 0)] false a0 a2 M0 fun t25 M =>
 Q t25 M) (
 ae .add t19 t14 fun t28 =>
 Db a0 fun t30 =>
 ae .gtr t28 t30 fun t31 =>
 az t31 (
 iE (bY 1 a0 none (some a1) none) fun t34 =>
 ae .add t19 t14 fun t37 =>
 ae .sub t37 a1 fun t39 =>
 appW p1 1 8 [(N .u64 0)] true t34 t39 M0 fun t40 M_0 =>
 iE (bY 1 t40 (some a1) none none) fun t43 =>
 CE 1 t43 a2 M_0 fun t45 M_1 =>
 ae .add a1 t14 fun t49 =>
 iE (bY 1 t40 (some t49) none none) fun t50 =>
 iE (bY 1 a0 (some a1) none none) fun t53 =>
 CE 1 t50 t53 M_1 fun t54 M_2 =>
 Q t40 M_2) (
 ae .add t19 t14 fun t59 =>
 iE (bY 1 a0 none (some t59) none) fun t60 =>
 ae .add a1 t14 fun t65 =>
 iE (bY 1 t60 (some t65) none none) fun t66 =>
 p2 [a2,t66] M0 fun t67 M_3 =>
 dG t67 fun t68 =>
 az t68 (
 ae .add a1 t14 fun t72 =>
 iE (bY 1 t60 (some t72) none none) fun t73 =>
 iE (bY 1 t60 (some a1) none none) fun t76 =>
 CE 1 t73 t76 M_3 fun t77 M_4 =>
 iE (bY 1 t60 (some a1) none none) fun t80 =>
 CE 1 t80 a2 M_4 fun t82 M_5 =>
 Q t60 M_5) (
 iE (bY 1 t60 (some t19) none none) fun t86 =>
 CE 1 t86 a2 M_3 fun t88 M_6 =>
 iE (bY 1 t60 (some a1) none none) fun t91 =>
 p3 [t91,t14] M_6 fun t93 M_7 =>
 Q t60 M_7))))
def Dj (p1:Nat) (p2:au) (a0:AV) (M0:RM) (Q:ak) : Prop :=
 ae .lss a0 (N .u64 128) fun t4 =>
 az t4 (
 fG .u8 a0 fun t6 =>
 fO p1 1 [(N .u8 0)] [(0,1,t6)] fun r f =>
 dx r f M0 fun t7 M =>
 Q t7 M) (
 ae .rem a0 (N .u64 128) fun t9 =>
 fG .u8 t9 fun bN =>
 ae .add bN (N .u8 128) fun cB =>
 fO p1 1 [(N .u8 0)] [(0,1,cB)] fun r_0 f_1 =>
 dx r_0 f_1 M0 fun t12 M_2 =>
 ae .quo a0 (N .u64 128) fun t14 =>
 p2 [t14] M_2 fun t15 M_3 =>
 appW p1 1 1 [(N .u8 0)] false t12 t15 M_3 fun t16 M_4 =>
 Q t16 M_4)
def yJ (p1 p2:Nat) (a0 a1:AV) (M0:RM) (Q:ak) : Prop :=
 ek (fun J =>
 ae .lss a1 (N .i64 0) fun t6 =>
 az t6 (
 False) (
 J [] M0)) (fun xs M =>
 ek (fun J_0 =>
 Db a0 fun bN =>
 dh a0 fun t12 =>
 ae .sub bN t12 fun bO =>
 ae .sub a1 bO fun t14 =>
 ae .gtr t14 (N .i64 0) fun t16 =>
 az t16 (
 Db a0 fun t19 =>
 iE (bY 1 a0 none (some t19) none) fun t20 =>
 appW p2 1 8 [(N .u64 0)] true t20 t14 M fun t22 M_1 =>
 dh a0 fun t24 =>
 iE (bY 1 t22 none (some t24) none) fun t25 =>
 J_0 [t25] M_1) (
 J_0 [a0] M)) (fun uq M_3 =>
 Q (aa uq 0) M_3))
def iN (p1 p2 p3 p4 p5 p6 p7 p8 p9 p10:au) (a0 a1 a2 a3:AV) (M0:RM) (Q:ak) : Prop :=
 bu (fun next xs M =>
 ae .sub (aa xs 1) (aa xs 0) fun t21 =>
 ae .leq t21 (N .i64 12) fun t23 =>
 az t23 (
 p1 [a0,(aa xs 0),(aa xs 1)] M fun t27 M_0 =>
 Q (.tup []) M_0) (
 ae .eql (aa xs 2) (N .i64 0) fun t29 =>
 az t29 (
 p2 [a0,(aa xs 0),(aa xs 1)] M fun t33 M_1 =>
 Q (.tup []) M_1) (
 ek (fun J =>
 dG (aa xs 3) fun t35 =>
 az t35 (
 p3 [a0,(aa xs 0),(aa xs 1)] M fun t39 M_2 =>
 ae .sub (aa xs 2) (N .i64 1) fun t41 =>
 J [t41] M_2) (
 J [(aa xs 2)] M)) (fun dR M_4 =>
 p4 [a0,(aa xs 0),(aa xs 1)] M_4 fun t46 M_5 =>
 bV t46 0 fun t47 =>
 bV t46 1 fun t48 =>
 ek (fun J_6 =>
 ae .eql t48 (N .i64 2) fun t50 =>
 az t50 (
 p5 [a0,(aa xs 0),(aa xs 1)] M_5 fun t54 M_7 =>
 ae .sub (aa xs 1) (N .i64 1) fun t56 =>
 ae .sub t47 (aa xs 0) fun t59 =>
 ae .sub t56 t59 fun t60 =>
 J_6 [t60,(N .i64 1)] M_7) (
 J_6 [t47,t48] M_5)) (fun nH M_9 =>
 ek (fun U5 =>
 af (aa xs 3) true (fun k=>k (aa xs 4) M_9) (fun k=>k .undef M_9) fun t63 dJ =>
 aH (aa xs 3) t63 (Bo false) fun t64 =>
 af t64 true (fun mU=>mU (aa nH 1) dJ) (fun k=>k .undef dJ) fun t66 dC =>
 af t64 true (fun jS=>ae .eql t66 (N .i64 1) fun t67 =>
 jS t67 dC) (fun k=>k .undef dC) fun aqw dK =>
 aH t64 aqw (Bo false) fun t68 =>
 az t68 (
 p6 [a0,(aa xs 0),(aa xs 1)] dK fun t72 jE =>
 az t72 (
 Q (.tup []) jE) (
 U5 [] jE)) (
 U5 [] dK)) (fun as7 dI =>
 ae .gtr (aa xs 0) (N .i64 0) fun t74 =>
 ah t74 true (fun jQ=>jQ a0 dI none) (fun k=>k .undef dI none) fun t76 fu b =>
 ah t74 true (fun uK=>uK (aa xs 0) fu none) (fun k=>k .undef fu none) fun t77 iU Xu =>
 ah t74 true (fun oD=>ae .sub t77 (N .i64 1) fun t78 =>
 oD t78 iU none) (fun k=>k .undef iU none) fun amr jH akm =>
 ah t74 true (fun Fy=>aA t76 amr 1 fun t79 =>
 Fy t79 jH none) (fun k=>k .undef jH none) fun apf jL al0 =>
 ah t74 true (fun FP=>ai jL apf fun t80 =>
 FP t80 jL none) (fun k=>k .undef jL none) fun amf F7 b_36 =>
 ah t74 true (fun Ug=>Ug a0 F7 none) (fun k=>k .undef F7 none) fun t81 nC alb =>
 ah t74 true (fun Ad=>Ad (aa nH 0) nC none) (fun k=>k .undef nC none) fun t82 jD Qq =>
 ah t74 true (fun FH=>aA t81 t82 1 fun t83 =>
 FH t83 jD none) (fun k=>k .undef jD none) fun akG lG apL =>
 ah t74 true (fun xm=>ai lG akG fun t84 =>
 xm t84 lG none) (fun k=>k .undef lG none) fun aql iG auT =>
 af t74 true (fun Mx=>p7 [amf,aql] iG fun t85 q9 =>
 Mx t85 q9) (fun k=>k .undef iG) fun an9 lY =>
 ah t74 true (fun L8=>dG an9 fun t86 =>
 L8 t86 lY none) (fun k=>k .undef lY none) fun XI iL QH =>
 aH t74 XI (Bo false) fun t87 =>
 az t87 (
 p8 [a0,(aa xs 0),(aa xs 1),(aa nH 0)] iL fun t92 Nc =>
 next [t92,(aa xs 1),(aa dR 0),(aa xs 3),(aa xs 4)] Nc) (
 p9 [a0,(aa xs 0),(aa xs 1),(aa nH 0)] iL fun t99 mg =>
 bV t99 0 fun lI =>
 bV t99 1 fun ni =>
 ae .sub lI (aa xs 0) fun t105 =>
 ae .sub (aa xs 1) lI fun zZ =>
 ae .quo t21 (N .i64 8) fun wy =>
 ae .lss t105 zZ fun yS =>
 az yS (
 ae .geq t105 wy fun t116 =>
 p10 [a0,(aa xs 0),lI,(aa dR 0)] mg fun GQ mf =>
 ae .add lI (N .i64 1) fun CU =>
 next [CU,(aa xs 1),(aa dR 0),t116,ni] mf) (
 ae .geq zZ wy fun xN =>
 ae .add lI (N .i64 1) fun wZ =>
 p10 [a0,wZ,(aa xs 1),(aa dR 0)] mg fun FR Js =>
 next [(aa xs 0),lI,(aa dR 0),xN,ni] Js)))))))) [a1,a2,a3,(Bo true),(Bo true)] M0
def wz (p1 p2:au) (a0:AV) (M0:RM) (Q:ak) : Prop :=
 az (Bo false) (
 fG .u32 a0 fun t4 =>
 p1 [t4] M0 fun t5 M =>
 Q t5 M) (
 p2 [a0] M0 fun t7 M_0 =>
 Q t7 M_0)
def yN (p1:au) (a0 a1:AV) (M0:RM) (Q:ak) : Prop :=
 p1 [a0] M0 fun t6 M =>
 af t6 true (fun k=>k a1 M) (fun k=>k .undef M) fun t8 M_0 =>
 af t6 true (fun k_1=>p1 [t8] M_0 fun t9 M_2 =>
 k_1 t9 M_2) (fun k=>k .undef M_0) fun aeY M_4 =>
 af t6 true (fun k_5=>dG aeY fun bN =>
 k_5 bN M_4) (fun k=>k .undef M_4) fun asW M_7 =>
 aH t6 asW (Bo false) fun cB =>
 af cB false (fun k_8=>k_8 a0 M_7) (fun k=>k .undef M_7) fun bO M_9 =>
 af cB false (fun qg=>qg a1 M_9) (fun k=>k .undef M_9) fun t14 dJ =>
 af cB false (fun mU=>ae .lss bO t14 fun t15 =>
 mU t15 dJ) (fun k=>k .undef dJ) fun akD eO =>
 aH cB (Bo true) akD fun t16 =>
 Q t16 eO
def uP (a0:AV) (M0:RM) (Q:ak) : Prop :=
 ae .neq a0 a0 fun t5 =>
 Q t5 M0
def fP (p1:au) (a0 a1 a2:AV) (M0:RM) (Q:ak) : Prop :=
 ae .add a1 (N .i64 1) fun t9 =>
 bu (fun next xs M =>
 ae .lss (aa xs 0) a2 fun t12 =>
 az t12 (
 bu (fun wC dD M_2 =>
 ae .gtr (aa dD 0) a1 fun t18 =>
 ah t18 true (fun k=>k a0 M_2 none) (fun k=>k .undef M_2 none) fun t20 M_3 b =>
 ah t18 true (fun k_4=>k_4 (aa dD 0) M_3 none) (fun k=>k .undef M_3 none) fun t21 M_5 b_6 =>
 ah t18 true (fun k_7=>aA t20 t21 1 fun t22 =>
 k_7 t22 M_5 none) (fun k=>k .undef M_5 none) fun atK M_9 ap4 =>
 ah t18 true (fun jh=>ai M_9 atK fun t23 =>
 jh t23 M_9 none) (fun k=>k .undef M_9 none) fun ao8 dC abS =>
 ah t18 true (fun rE=>rE a0 dC none) (fun k=>k .undef dC none) fun t24 dK IY =>
 ah t18 true (fun rF=>rF (aa dD 0) dK none) (fun k=>k .undef dK none) fun t25 dI abE =>
 ah t18 true (fun xP=>ae .sub t25 (N .i64 1) fun t26 =>
 xP t26 dI none) (fun k=>k .undef dI none) fun amC iU Xu =>
 ah t18 true (fun oD=>aA t24 amC 1 fun t27 =>
 oD t27 iU none) (fun k=>k .undef iU none) fun alk jH akm =>
 ah t18 true (fun Fy=>ai jH alk fun t28 =>
 Fy t28 jH none) (fun k=>k .undef jH none) fun apY jL al0 =>
 af t18 true (fun FP=>p1 [ao8,apY] jL fun t29 eP =>
 FP t29 eP) (fun k=>k .undef jL) fun aqP l8 =>
 aH t18 aqP (Bo false) fun t30 =>
 az t30 (
 ae .sub (aa dD 0) (N .i64 1) fun t37 =>
 ae .sub (aa dD 0) (N .i64 1) fun t40 =>
 aA a0 t40 1 fun t41 =>
 ai l8 t41 fun t42 =>
 aA a0 (aa dD 0) 1 fun t45 =>
 ai l8 t45 fun t46 =>
 aA a0 (aa dD 0) 1 fun t47 =>
 aC l8 t47 t42 1 fun dZ =>
 aA a0 t37 1 fun t48 =>
 aC dZ t48 t46 1 fun nC =>
 ae .sub (aa dD 0) (N .i64 1) fun t32 =>
 wC [t32] nC) (
 ae .add (aa xs 0) (N .i64 1) fun t14 =>
 next [t14] l8)) [(aa xs 0)] M) (
 Q (.tup []) M)) [t9] M0
def mQ (p1:au) (a0 a1 a2:AV) (M0:RM) (Q:ak) : Prop :=
 ae .sub a2 a1 fun t14 =>
 ae .sub t14 (N .i64 1) fun t16 =>
 ae .quo t16 (N .i64 2) fun t17 =>
 bu (fun next xs M =>
 ae .geq (aa xs 0) (N .i64 0) fun t19 =>
 az t19 (
 p1 [a0,(aa xs 0),t14,a1] M fun t26 M_0 =>
 ae .sub (aa xs 0) (N .i64 1) fun t21 =>
 next [t21] M_0) (
 ae .sub t14 (N .i64 1) fun t28 =>
 bu (fun Ub uq M_3 =>
 ae .geq (aa uq 0) (N .i64 0) fun t30 =>
 az t30 (
 ae .add a1 (aa uq 0) fun t38 =>
 ae .add a1 (aa uq 0) fun t42 =>
 aA a0 t42 1 fun t43 =>
 ai M_3 t43 fun t44 =>
 aA a0 a1 1 fun t47 =>
 ai M_3 t47 fun t48 =>
 aA a0 a1 1 fun t49 =>
 aC M_3 t49 t44 1 fun M_4 =>
 aA a0 t38 1 fun t50 =>
 aC M_4 t50 t48 1 fun M_5 =>
 p1 [a0,(N .i64 0),(aa uq 0),a1] M_5 fun t55 M_6 =>
 ae .sub (aa uq 0) (N .i64 1) fun t32 =>
 Ub [t32] M_6) (
 Q (.tup []) M_3)) [t28] M)) [t17] M0
def jU (p1:Nat) (p2 p3:au) (a0 a1 a2:AV) (M0:RM) (Q:ak) : Prop :=
 ae .sub a2 a1 fun bO =>
 ae .geq bO (N .i64 8) fun t15 =>
 az t15 (
 fG .u64 bO fun t17 =>
 dx (.row [(N .u64 0)] false p1 0) (fun b=>.ptr b 0) M0 fun t7 M =>
 aC M t7 t17 1 fun M_0 =>
 p2 [bO] M_0 fun t19 M_1 =>
 ae .quo bO (N .i64 4) fun t22 =>
 ae .mul t22 (N .i64 2) fun t23 =>
 ae .add a1 t23 fun t24 =>
 ae .sub t24 (N .i64 1) fun t25 =>
 bu (fun next xs M_2 =>
 ae .quo bO (N .i64 4) fun t29 =>
 ae .mul t29 (N .i64 2) fun t30 =>
 ae .add a1 t30 fun t31 =>
 ae .add t31 (N .i64 1) fun t32 =>
 ae .leq (aa xs 0) t32 fun t33 =>
 az t33 (
 ek (fun J =>
 p3 [t7] M_2 fun t36 M_3 =>
 ae .sub t19 (N .u64 1) fun t38 =>
 ae .and t36 t38 fun t39 =>
 fG .i64 t39 fun t40 =>
 ek (fun J_4 =>
 ae .geq t40 bO fun t43 =>
 az t43 (
 ae .sub t40 bO fun t46 =>
 J_4 [t46] M_3) (
 J_4 [t40] M_3)) (fun Jf M_6 =>
 ae .add a1 (aa Jf 0) fun t52 =>
 ae .add a1 (aa Jf 0) fun t56 =>
 aA a0 t56 1 fun t57 =>
 ai M_6 t57 fun t58 =>
 aA a0 (aa xs 0) 1 fun t61 =>
 ai M_6 t61 fun t62 =>
 aA a0 (aa xs 0) 1 fun t63 =>
 aC M_6 t63 t58 1 fun M_7 =>
 aA a0 t52 1 fun t64 =>
 aC M_7 t64 t62 1 fun M_8 =>
 J [] M_8)) (fun auZ dH =>
 ae .add (aa xs 0) (N .i64 1) fun t35 =>
 next [t35] dH)) (
 Q (.tup []) M_2)) [t25] M_1) (
 Q (.tup []) M0)
def kZ (p1:Nat) (p2 p3:au) (a0 a1 a2:AV) (M0:RM) (Q:ak) : Prop :=
 ae .sub a2 a1 fun t15 =>
 dx (.row [(N .i64 0)] false p1 0) (fun b=>.ptr b 0) M0 fun t9 M =>
 ae .quo t15 (N .i64 4) fun t18 =>
 ae .mul t18 (N .i64 1) fun t19 =>
 ae .add a1 t19 fun t20 =>
 ae .quo t15 (N .i64 4) fun t23 =>
 ae .mul t23 (N .i64 2) fun t24 =>
 ae .add a1 t24 fun t25 =>
 ae .quo t15 (N .i64 4) fun t28 =>
 ae .mul t28 (N .i64 3) fun t29 =>
 ae .add a1 t29 fun t30 =>
 ek (fun J =>
 ae .geq t15 (N .i64 8) fun t32 =>
 az t32 (
 ek (fun J_0 =>
 ae .geq t15 (N .i64 50) fun t34 =>
 az t34 (
 p2 [a0,t20,t9] M fun t37 M_1 =>
 p2 [a0,t25,t9] M_1 fun t40 M_2 =>
 p2 [a0,t30,t9] M_2 fun t43 M_3 =>
 J_0 [t37,t40,t43] M_3) (
 J_0 [t20,t25,t30] M)) (fun xs M_4 =>
 p3 [a0,(aa xs 0),(aa xs 1),(aa xs 2),t9] M_4 fun t48 M_5 =>
 J [t48] M_5)) (
 J [t25] M)) (fun LV M_7 =>
 ai M_7 t9 fun t49 =>
 ae .eql t49 (N .i64 0) fun t52 =>
 az t52 (
 Q (.tup [(aa LV 0),(N .i64 1)]) M_7) (
 ae .eql t49 (N .i64 12) fun t55 =>
 az t55 (
 Q (.tup [(aa LV 0),(N .i64 2)]) M_7) (
 Q (.tup [(aa LV 0),(N .i64 0)]) M_7)))
def ko (a0 a1 a2:AV) (M0:RM) (Q:ak) : Prop :=
 ae .sub a2 (N .i64 1) fun bN =>
 bu (fun next xs M =>
 ae .lss (aa xs 0) (aa xs 1) fun bO =>
 az bO (
 aA a0 (aa xs 1) 1 fun t20 =>
 ai M t20 fun t21 =>
 aA a0 (aa xs 0) 1 fun t24 =>
 ai M t24 fun t25 =>
 aA a0 (aa xs 0) 1 fun t26 =>
 aC M t26 t21 1 fun M_0 =>
 aA a0 (aa xs 1) 1 fun t27 =>
 aC M_0 t27 t25 1 fun M_1 =>
 ae .add (aa xs 0) (N .i64 1) fun t29 =>
 ae .sub (aa xs 1) (N .i64 1) fun t31 =>
 next [t29,t31] M_1) (
 Q (.tup []) M)) [a1,bN] M0
def iC (p1:au) (a0 a1 a2:AV) (M0:RM) (Q:ak) : Prop :=
 ae .add a1 (N .i64 1) fun t12 =>
 bu (fun next xs M =>
 ae .lss (aa xs 1) (N .i64 5) fun t14 =>
 az t14 (
 ek (fun J =>
 bu (fun wC dD M_2 =>
 ae .lss (aa dD 0) a2 fun t19 =>
 ah t19 true (fun k=>k a0 M_2 none) (fun k=>k .undef M_2 none) fun t21 M_3 b =>
 ah t19 true (fun k_4=>k_4 (aa dD 0) M_3 none) (fun k=>k .undef M_3 none) fun t22 M_5 b_6 =>
 ah t19 true (fun k_7=>aA t21 t22 1 fun t23 =>
 k_7 t23 M_5 none) (fun k=>k .undef M_5 none) fun abB M_9 ap4 =>
 ah t19 true (fun jh=>ai M_9 abB fun t24 =>
 jh t24 M_9 none) (fun k=>k .undef M_9 none) fun UY dC abS =>
 ah t19 true (fun rE=>rE a0 dC none) (fun k=>k .undef dC none) fun t25 dK IY =>
 ah t19 true (fun rF=>rF (aa dD 0) dK none) (fun k=>k .undef dK none) fun t26 dI abE =>
 ah t19 true (fun xP=>ae .sub t26 (N .i64 1) fun t27 =>
 xP t27 dI none) (fun k=>k .undef dI none) fun aqH iU Xu =>
 ah t19 true (fun oD=>aA t25 aqH 1 fun t28 =>
 oD t28 iU none) (fun k=>k .undef iU none) fun amt jH akm =>
 ah t19 true (fun Fy=>ai jH amt fun t29 =>
 Fy t29 jH none) (fun k=>k .undef jH none) fun amU jL al0 =>
 af t19 true (fun FP=>p1 [UY,amU] jL fun t30 eP =>
 FP t30 eP) (fun k=>k .undef jL) fun amc l8 =>
 ah t19 true (fun Ug=>dG amc fun t31 =>
 Ug t31 l8 none) (fun k=>k .undef l8 none) fun amS oh awn =>
 aH t19 amS (Bo false) fun t32 =>
 az t32 (
 ae .add (aa dD 0) (N .i64 1) fun t34 =>
 wC [t34] oh) (
 ae .eql (aa dD 0) a2 fun t37 =>
 az t37 (
 Q (Bo true) oh) (
 ae .sub a2 a1 fun t40 =>
 ae .lss t40 (N .i64 50) fun t41 =>
 az t41 (
 Q (Bo false) oh) (
 ae .sub (aa dD 0) (N .i64 1) fun t46 =>
 ae .sub (aa dD 0) (N .i64 1) fun t49 =>
 aA a0 t49 1 fun t50 =>
 ai oh t50 fun t51 =>
 aA a0 (aa dD 0) 1 fun t54 =>
 ai oh t54 fun t55 =>
 aA a0 (aa dD 0) 1 fun t56 =>
 aC oh t56 t51 1 fun jD =>
 aA a0 t46 1 fun t57 =>
 aC jD t57 t55 1 fun qD =>
 ek (fun ags =>
 ae .sub (aa dD 0) a1 fun t60 =>
 ae .geq t60 (N .i64 2) fun t61 =>
 az t61 (
 ae .sub (aa dD 0) (N .i64 1) fun t63 =>
 bu (fun akb Ci gD =>
 ae .geq (aa Ci 0) (N .i64 1) fun t65 =>
 az t65 (
 aA a0 (aa Ci 0) 1 fun t70 =>
 ai gD t70 fun t71 =>
 ae .sub (aa Ci 0) (N .i64 1) fun t74 =>
 aA a0 t74 1 fun t75 =>
 ai gD t75 fun t76 =>
 p1 [t71,t76] gD fun t77 uB =>
 dG t77 fun t78 =>
 az t78 (
 ags [] uB) (
 ae .sub (aa Ci 0) (N .i64 1) fun t83 =>
 ae .sub (aa Ci 0) (N .i64 1) fun t86 =>
 aA a0 t86 1 fun t87 =>
 ai uB t87 fun t88 =>
 aA a0 (aa Ci 0) 1 fun t91 =>
 ai uB t91 fun t92 =>
 aA a0 (aa Ci 0) 1 fun t93 =>
 aC uB t93 t88 1 fun nA =>
 aA a0 t83 1 fun t94 =>
 aC nA t94 t92 1 fun iG =>
 ae .sub (aa Ci 0) (N .i64 1) fun t67 =>
 akb [t67] iG)) (
 ags [] gD)) [t63] qD) (
 ags [] qD)) (fun xs_50 DI =>
 ae .sub a2 (aa dD 0) fun t97 =>
 ae .geq t97 (N .i64 2) fun t98 =>
 az t98 (
 ae .add (aa dD 0) (N .i64 1) fun lI =>
 bu (fun aka BR lY =>
 ae .lss (aa BR 0) a2 fun xJ =>
 az xJ (
 aA a0 (aa BR 0) 1 fun zZ =>
 ai lY zZ fun t109 =>
 ae .sub (aa BR 0) (N .i64 1) fun wH =>
 aA a0 wH 1 fun yS =>
 ai lY yS fun CW =>
 p1 [t109,CW] lY fun IK jN =>
 dG IK fun t116 =>
 az t116 (
 J [(aa dD 0)] jN) (
 ae .sub (aa BR 0) (N .i64 1) fun GQ =>
 ae .sub (aa BR 0) (N .i64 1) fun t124 =>
 aA a0 t124 1 fun ou =>
 ai jN ou fun xN =>
 aA a0 (aa BR 0) 1 fun wZ =>
 ai jN wZ fun t130 =>
 aA a0 (aa BR 0) 1 fun t131 =>
 aC jN t131 xN 1 fun xh =>
 aA a0 GQ 1 fun FR =>
 aC xh FR t130 1 fun iL =>
 ae .add (aa BR 0) (N .i64 1) fun t105 =>
 aka [t105] iL)) (
 J [(aa dD 0)] lY)) [lI] DI) (
 J [(aa dD 0)] DI)))))) [(aa xs 0)] M) (fun ast Nc =>
 ae .add (aa xs 1) (N .i64 1) fun t16 =>
 next [(aa ast 0),t16] Nc)) (
 Q (Bo false) M)) [t12,(N .i64 0)] M0
def jM (p1:au) (a0 a1 a2 a3:AV) (M0:RM) (Q:ak) : Prop :=
 aA a0 a3 1 fun t17 =>
 ai M0 t17 fun t18 =>
 aA a0 a1 1 fun t21 =>
 ai M0 t21 fun t22 =>
 aA a0 a1 1 fun t23 =>
 aC M0 t23 t18 1 fun M =>
 aA a0 a3 1 fun t24 =>
 aC M t24 t22 1 fun M_0 =>
 ae .add a1 (N .i64 1) fun t26 =>
 ae .sub a2 (N .i64 1) fun t28 =>
 bu (fun next xs M_1 =>
 bu (fun wK dR M_4 =>
 ae .leq (aa dR 0) (aa xs 1) fun t31 =>
 ah t31 true (fun k=>k a0 M_4 none) (fun k=>k .undef M_4 none) fun t33 M_5 b =>
 ah t31 true (fun k_6=>k_6 a1 M_5 none) (fun k=>k .undef M_5 none) fun t34 M_7 b_8 =>
 ah t31 true (fun k_9=>aA t33 t34 1 fun t35 =>
 k_9 t35 M_7 none) (fun k=>k .undef M_7 none) fun ank dJ afl =>
 ah t31 true (fun uz=>ai dJ ank fun t36 =>
 uz t36 dJ none) (fun k=>k .undef dJ none) fun aqM fF ahn =>
 ah t31 true (fun mM=>mM a0 fF none) (fun k=>k .undef fF none) fun t37 dE Ui =>
 ah t31 true (fun jQ=>jQ (aa dR 0) dE none) (fun k=>k .undef dE none) fun t38 fu afD =>
 ah t31 true (fun qh=>aA t37 t38 1 fun t39 =>
 qh t39 fu none) (fun k=>k .undef fu none) fun apM iF aae =>
 ah t31 true (fun uy=>ai iF apM fun t40 =>
 uy t40 iF none) (fun k=>k .undef iF none) fun ao9 iV Wj =>
 af t31 true (fun pW=>p1 [aqM,ao9] iV fun t41 qa =>
 pW t41 qa) (fun k=>k .undef iV) fun alo eP =>
 ah t31 true (fun mF=>dG alo fun t42 =>
 mF t42 eP none) (fun k=>k .undef eP none) fun aky dZ U2 =>
 aH t31 aky (Bo false) fun t43 =>
 az t43 (
 ae .add (aa dR 0) (N .i64 1) fun t45 =>
 wK [t45] dZ) (
 bu (fun QQ mW jD =>
 ae .leq (aa dR 0) (aa mW 0) fun t48 =>
 ah t48 true (fun Fg=>Fg a0 jD none) (fun k=>k .undef jD none) fun t50 jf aqX =>
 ah t48 true (fun FL=>FL a1 jf none) (fun k=>k .undef jf none) fun t51 gD aeg =>
 ah t48 true (fun Np=>aA t50 t51 1 fun t52 =>
 Np t52 gD none) (fun k=>k .undef gD none) fun aqK mH ae2 =>
 ah t48 true (fun Bj=>ai mH aqK fun t53 =>
 Bj t53 mH none) (fun k=>k .undef mH none) fun alW lY axs =>
 ah t48 true (fun AB=>AB a0 lY none) (fun k=>k .undef lY none) fun t54 iL QH =>
 ah t48 true (fun qW=>qW (aa mW 0) iL none) (fun k=>k .undef iL none) fun t55 mg afE =>
 ah t48 true (fun zY=>aA t54 t55 1 fun t56 =>
 zY t56 mg none) (fun k=>k .undef mg none) fun aoG mJ afY =>
 ah t48 true (fun Uf=>ai mJ aoG fun t57 =>
 Uf t57 mJ none) (fun k=>k .undef mJ none) fun apt Ai axj =>
 af t48 true (fun Xk=>p1 [alW,apt] Ai fun t58 Ic =>
 Xk t58 Ic) (fun k=>k .undef Ai) fun anX qE =>
 aH t48 anX (Bo false) fun t59 =>
 az t59 (
 ae .sub (aa mW 0) (N .i64 1) fun t61 =>
 QQ [t61] qE) (
 ae .gtr (aa dR 0) (aa mW 0) fun t64 =>
 az t64 (
 Q (aa dR 0) qE) (
 aA a0 (aa mW 0) 1 fun t71 =>
 ai qE t71 fun t72 =>
 aA a0 (aa dR 0) 1 fun t75 =>
 ai qE t75 fun t76 =>
 aA a0 (aa dR 0) 1 fun t77 =>
 aC qE t77 t72 1 fun yR =>
 aA a0 (aa mW 0) 1 fun t78 =>
 aC yR t78 t76 1 fun aag =>
 ae .add (aa dR 0) (N .i64 1) fun t80 =>
 ae .sub (aa mW 0) (N .i64 1) fun t82 =>
 next [t80,t82] aag))) [(aa xs 1)] dZ)) [(aa xs 0)] M_1) [t26,t28] M_0
def lX (p1:au) (a0 a1 a2 a3:AV) (M0:RM) (Q:ak) : Prop :=
 aA a0 a3 1 fun t18 =>
 ai M0 t18 fun t19 =>
 aA a0 a1 1 fun t22 =>
 ai M0 t22 fun t23 =>
 aA a0 a1 1 fun t24 =>
 aC M0 t24 t19 1 fun M =>
 aA a0 a3 1 fun t25 =>
 aC M t25 t23 1 fun M_0 =>
 ae .add a1 (N .i64 1) fun t27 =>
 ae .sub a2 (N .i64 1) fun t29 =>
 bu (fun next xs M_1 =>
 ae .leq (aa xs 0) t29 fun t32 =>
 ah t32 true (fun k=>k a0 M_1 none) (fun k=>k .undef M_1 none) fun t34 M_2 b =>
 ah t32 true (fun k_3=>k_3 (aa xs 0) M_2 none) (fun k=>k .undef M_2 none) fun t35 M_4 b_5 =>
 ah t32 true (fun k_6=>aA t34 t35 1 fun t36 =>
 k_6 t36 M_4 none) (fun k=>k .undef M_4 none) fun asU M_8 b_9 =>
 ah t32 true (fun qg=>ai M_8 asU fun t37 =>
 qg t37 M_8 none) (fun k=>k .undef M_8 none) fun akI fe ZV =>
 ah t32 true (fun jS=>jS a0 fe none) (fun k=>k .undef fe none) fun t38 fF ahn =>
 ah t32 true (fun mM=>mM a1 fF none) (fun k=>k .undef fF none) fun t39 dE Ui =>
 ah t32 true (fun jQ=>aA t38 t39 1 fun t40 =>
 jQ t40 dE none) (fun k=>k .undef dE none) fun anT gm abh =>
 ah t32 true (fun uk=>ai gm anT fun t41 =>
 uk t41 gm none) (fun k=>k .undef gm none) fun aqG kW Wo =>
 af t32 true (fun qb=>p1 [akI,aqG] kW fun t42 iV =>
 qb t42 iV) (fun k=>k .undef kW) fun akH jL =>
 aH t32 akH (Bo false) fun t43 =>
 az t43 (
 ae .add (aa xs 0) (N .i64 1) fun t45 =>
 next [t45] jL) (
 bu (fun aj6 xX eP =>
 ae .leq (aa xs 0) (aa xX 0) fun t48 =>
 ah t48 true (fun mF=>mF a0 eP none) (fun k=>k .undef eP none) fun t50 l8 b_37 =>
 ah t48 true (fun xL=>xL (aa xX 0) l8 none) (fun k=>k .undef l8 none) fun t51 oh awn =>
 ah t48 true (fun xy=>aA t50 t51 1 fun t52 =>
 xy t52 oh none) (fun k=>k .undef oh none) fun aoi jf aqX =>
 ah t48 true (fun FL=>ai jf aoi fun t53 =>
 FL t53 jf none) (fun k=>k .undef jf none) fun amT uB b_48 =>
 ah t48 true (fun aeJ=>aeJ a0 uB none) (fun k=>k .undef uB none) fun t54 mH ae2 =>
 ah t48 true (fun Bj=>Bj a1 mH none) (fun k=>k .undef mH none) fun t55 lV af1 =>
 ah t48 true (fun L8=>aA t54 t55 1 fun t56 =>
 L8 t56 lV none) (fun k=>k .undef lV none) fun apk iL QH =>
 ah t48 true (fun qW=>ai iL apk fun t57 =>
 qW t57 iL none) (fun k=>k .undef iL none) fun ao4 mf aoI =>
 af t48 true (fun WZ=>p1 [amT,ao4] mf fun t58 mJ =>
 WZ t58 mJ) (fun k=>k .undef mf) fun ard wE =>
 ah t48 true (fun LJ=>dG ard fun t59 =>
 LJ t59 wE none) (fun k=>k .undef wE none) fun aoZ uw aw5 =>
 aH t48 aoZ (Bo false) fun t60 =>
 az t60 (
 ae .sub (aa xX 0) (N .i64 1) fun t62 =>
 aj6 [t62] uw) (
 ae .gtr (aa xs 0) (aa xX 0) fun t65 =>
 az t65 (
 aA a0 a1 1 fun t72 =>
 ai uw t72 fun t73 =>
 aA a0 (aa xX 0) 1 fun t76 =>
 ai uw t76 fun t77 =>
 aA a0 (aa xX 0) 1 fun t78 =>
 aC uw t78 t73 1 fun Ic =>
 aA a0 a1 1 fun t79 =>
 aC Ic t79 t77 1 fun Dt =>
 Q (.tup [(aa xX 0),(Bo true)]) Dt) (
 aA a0 (aa xX 0) 1 fun t87 =>
 ai uw t87 fun t88 =>
 aA a0 (aa xs 0) 1 fun t91 =>
 ai uw t91 fun t92 =>
 aA a0 (aa xs 0) 1 fun t93 =>
 aC uw t93 t88 1 fun qE =>
 aA a0 (aa xX 0) 1 fun t94 =>
 aC qE t94 t92 1 fun yR =>
 ae .add (aa xs 0) (N .i64 1) fun t96 =>
 ae .sub (aa xX 0) (N .i64 1) fun t98 =>
 bu (fun ajD ZN afX =>
 bu (fun ajx BK IQ =>
 ae .leq (aa BK 0) (aa ZN 1) fun ni =>
 ah ni true (fun XL=>XL a0 IQ none) (fun k=>k .undef IQ none) fun xJ Eb b_83 =>
 ah ni true (fun agr=>agr (aa BK 0) Eb none) (fun k=>k .undef Eb none) fun Fe Jc b_86 =>
 ah ni true (fun afr=>aA xJ Fe 1 fun t105 =>
 afr t105 Jc none) (fun k=>k .undef Jc none) fun aiU Jk b_90 =>
 ah ni true (fun axO=>ai Jk aiU fun Fa =>
 axO Fa Jk none) (fun k=>k .undef Jk none) fun ajY Me b_94 =>
 ah ni true (fun Ur=>Ur a0 Me none) (fun k=>k .undef Me none) fun t107 vS anc =>
 ah ni true (fun MX=>MX a1 vS none) (fun k=>k .undef vS none) fun zZ Aa aaf =>
 ah ni true (fun zI=>aA t107 zZ 1 fun t109 =>
 zI t109 Aa none) (fun k=>k .undef Aa none) fun ahr BJ aso =>
 ah ni true (fun abU=>ai BJ ahr fun wy =>
 abU wy BJ none) (fun k=>k .undef BJ none) fun afu JX b_108 =>
 af ni true (fun O9=>p1 [ajY,afu] JX fun xR x8 =>
 O9 xR x8) (fun k=>k .undef JX) fun afQ Tq =>
 aH ni afQ (Bo false) fun wH =>
 az wH (
 ae .add (aa BK 0) (N .i64 1) fun CW =>
 ajx [CW] Tq) (
 bu (fun ahi tO Cr =>
 ae .leq (aa BK 0) (aa tO 0) fun t117 =>
 ah t117 true (fun as1=>as1 a0 Cr none) (fun k=>k .undef Cr none) fun t119 ahY b_118 =>
 ah t117 true (fun atM=>atM (aa tO 0) ahY none) (fun k=>k .undef ahY none) fun Dh ug aiG =>
 ah t117 true (fun O5=>aA t119 Dh 1 fun GQ =>
 O5 GQ ug none) (fun k=>k .undef ug none) fun ae5 zn arS =>
 ah t117 true (fun acj=>ai zn ae5 fun CP =>
 acj CP zn none) (fun k=>k .undef zn none) fun aer aiF b_129 =>
 ah t117 true (fun aaL=>aaL a0 aiF none) (fun k=>k .undef aiF none) fun CU ahI b_132 =>
 ah t117 true (fun arz=>arz a1 ahI none) (fun k=>k .undef ahI none) fun t124 ah5 b_135 =>
 ah t117 true (fun asJ=>aA CU t124 1 fun ou =>
 asJ ou ah5 none) (fun k=>k .undef ah5 none) fun afP JV aua =>
 ah t117 true (fun abM=>ai JV afP fun xN =>
 abM xN JV none) (fun k=>k .undef JV none) fun aet aif b_143 =>
 af t117 true (fun atT=>p1 [aer,aet] aif fun t127 Tk =>
 atT t127 Tk) (fun k=>k .undef aif) fun agG aiL =>
 ah t117 true (fun asj=>dG agG fun Nn =>
 asj Nn aiL none) (fun k=>k .undef aiL none) fun aeQ E5 b_151 =>
 aH t117 aeQ (Bo false) fun wZ =>
 az wZ (
 ae .sub (aa tO 0) (N .i64 1) fun t131 =>
 ahi [t131] E5) (
 ae .gtr (aa BK 0) (aa tO 0) fun vJ =>
 az vJ (
 aA a0 a1 1 fun t159 =>
 ai E5 t159 fun t160 =>
 aA a0 (aa tO 0) 1 fun awP =>
 ai E5 awP fun t164 =>
 aA a0 (aa tO 0) 1 fun auR =>
 aC E5 auR t160 1 fun GJ =>
 aA a0 a1 1 fun axK =>
 aC GJ axK t164 1 fun at7 =>
 Q (.tup [(aa tO 0),(Bo false)]) at7) (
 aA a0 (aa tO 0) 1 fun t141 =>
 ai E5 t141 fun Qh =>
 aA a0 (aa BK 0) 1 fun t145 =>
 ai E5 t145 fun t146 =>
 aA a0 (aa BK 0) 1 fun aeX =>
 aC E5 aeX Qh 1 fun TC =>
 aA a0 (aa tO 0) 1 fun t148 =>
 aC TC t148 t146 1 fun FQ =>
 ae .add (aa BK 0) (N .i64 1) fun afi =>
 ae .sub (aa tO 0) (N .i64 1) fun t152 =>
 ajD [afi,t152] FQ))) [(aa ZN 1)] Tq)) [(aa ZN 0)] afX) [t96,t98] yR))) [t29] jL)) [t27] M_0
def sU (a0:AV) (M0:RM) (Q:ak) : Prop :=
 ek (fun J =>
 ae .geq a0 (N .u64 4294967296) fun t4 =>
 az t4 (
 zh .shr a0 (N .u64 32) fun t6 =>
 J [t6,(N .i64 32)] M0) (
 J [a0,(N .i64 0)] M0)) (fun xs M =>
 ek (fun J_0 =>
 ae .geq (aa xs 0) (N .u64 65536) fun t8 =>
 az t8 (
 zh .shr (aa xs 0) (N .u64 16) fun bN =>
 ae .add (aa xs 1) (N .i64 16) fun t12 =>
 J_0 [bN,t12] M) (
 J_0 [(aa xs 0),(aa xs 1)] M)) (fun dD M_2 =>
 ek (fun J_3 =>
 ae .geq (aa dD 0) (N .u64 256) fun t14 =>
 az t14 (
 zh .shr (aa dD 0) (N .u64 8) fun t16 =>
 ae .add (aa dD 1) (N .i64 8) fun t18 =>
 J_3 [t16,t18] M_2) (
 J_3 [(aa dD 0),(aa dD 1)] M_2)) (fun DC M_5 =>
 fG .u8 (aa DC 0) fun t21 =>
 WR (St [0,1,2,2,3,3,3,3,4,4,4,4,4,4,4,4,5,5,5,5,5,5,5,5,5,5,5,5,5,5,5,5,6,6,6,6,6,6,6,6,6,6,6,6,6,6,6,6,6,6,6,6,6,6,6,6,6,6,6,6,6,6,6,6,7,7,7,7,7,7,7,7,7,7,7,7,7,7,7,7,7,7,7,7,7,7,7,7,7,7,7,7,7,7,7,7,7,7,7,7,7,7,7,7,7,7,7,7,7,7,7,7,7,7,7,7,7,7,7,7,7,7,7,7,7,7,7,7,8,8,8,8,8,8,8,8,8,8,8,8,8,8,8,8,8,8,8,8,8,8,8,8,8,8,8,8,8,8,8,8,8,8,8,8,8,8,8,8,8,8,8,8,8,8,8,8,8,8,8,8,8,8,8,8,8,8,8,8,8,8,8,8,8,8,8,8,8,8,8,8,8,8,8,8,8,8,8,8,8,8,8,8,8,8,8,8,8,8,8,8,8,8,8,8,8,8,8,8,8,8,8,8,8,8,8,8,8,8,8,8,8,8,8,8,8,8,8,8,8,8,8,8,8,8,8,8]) t21 fun t22 =>
 fG .i64 t22 fun t23 =>
 ae .add (aa DC 1) t23 fun t24 =>
 Q t24 M_5)))
def sw (a0:AV) (M0:RM) (Q:ak) : Prop :=
 ae .neq a0 a0 fun t5 =>
 Q t5 M0
def mG (p1:au) (a0 a1 a2 a3:AV) (M0:RM) (Q:ak) : Prop :=
 bu (fun next xs M =>
 ae .mul (N .i64 2) (aa xs 0) fun t12 =>
 ae .add t12 (N .i64 1) fun bO =>
 ae .geq bO a2 fun t16 =>
 az t16 (
 Q (.tup []) M) (
 ek (fun J =>
 ae .add bO (N .i64 1) fun t18 =>
 ae .lss t18 a2 fun t20 =>
 ah t20 true (fun k=>k a0 M none) (fun k=>k .undef M none) fun t22 M_0 b =>
 ah t20 true (fun k_1=>k_1 a3 M_0 none) (fun k=>k .undef M_0 none) fun t23 M_2 b_3 =>
 ah t20 true (fun k_4=>k_4 bO M_2 none) (fun k=>k .undef M_2 none) fun t24 M_5 b_6 =>
 ah t20 true (fun k_7=>ae .add t23 t24 fun t25 =>
 k_7 t25 M_5 none) (fun k=>k .undef M_5 none) fun atp M_9 ap4 =>
 ah t20 true (fun jh=>aA t22 atp 1 fun t26 =>
 jh t26 M_9 none) (fun k=>k .undef M_9 none) fun Un dC abS =>
 ah t20 true (fun rE=>ai dC Un fun t27 =>
 rE t27 dC none) (fun k=>k .undef dC none) fun Ws jE axT =>
 ah t20 true (fun Bt=>Bt a0 jE none) (fun k=>k .undef jE none) fun t28 jB anB =>
 ah t20 true (fun uK=>uK a3 jB none) (fun k=>k .undef jB none) fun t29 iU Xu =>
 ah t20 true (fun oD=>oD bO iU none) (fun k=>k .undef iU none) fun t30 kW Wo =>
 ah t20 true (fun qb=>ae .add t29 t30 fun t31 =>
 qb t31 kW none) (fun k=>k .undef kW none) fun W9 jI aeM =>
 ah t20 true (fun uL=>ae .add W9 (N .i64 1) fun t32 =>
 uL t32 jI none) (fun k=>k .undef jI none) fun U0 eP aff =>
 ah t20 true (fun Bz=>aA t28 U0 1 fun t33 =>
 Bz t33 eP none) (fun k=>k .undef eP none) fun akP nC alb =>
 ah t20 true (fun Ad=>ai nC akP fun t34 =>
 Ad t34 nC none) (fun k=>k .undef nC none) fun Xm qD ak9 =>
 af t20 true (fun wY=>p1 [Ws,Xm] qD fun t35 lG =>
 wY t35 lG) (fun k=>k .undef qD) fun akz uB =>
 aH t20 akz (Bo false) fun t36 =>
 az t36 (
 ae .add bO (N .i64 1) fun t38 =>
 J [t38] uB) (
 J [bO] uB)) (fun TM iG =>
 ae .add a3 (aa xs 0) fun t42 =>
 aA a0 t42 1 fun t43 =>
 ai iG t43 fun t44 =>
 ae .add a3 (aa TM 0) fun t48 =>
 aA a0 t48 1 fun t49 =>
 ai iG t49 fun t50 =>
 p1 [t44,t50] iG fun t51 mH =>
 dG t51 fun t52 =>
 az t52 (
 Q (.tup []) mH) (
 ae .add a3 (aa xs 0) fun t56 =>
 ae .add a3 (aa TM 0) fun t60 =>
 ae .add a3 (aa TM 0) fun t64 =>
 aA a0 t64 1 fun t65 =>
 ai mH t65 fun t66 =>
 ae .add a3 (aa xs 0) fun t70 =>
 aA a0 t70 1 fun t71 =>
 ai mH t71 fun t72 =>
 aA a0 t56 1 fun t73 =>
 aC mH t73 t66 1 fun DI =>
 aA a0 t60 1 fun t74 =>
 aC DI t74 t72 1 fun q9 =>
 next [(aa TM 0)] q9)))) [a1] M0
def uj (p1:au) (a0:AV) (M0:RM) (Q:ak) : Prop :=
 fG .u64 a0 fun t4 =>
 p1 [t4] M0 fun t5 M =>
 zh .shl (N .u64 1) t5 fun t6 =>
 Q t6 M
def nQ (a0:AV) (M0:RM) (Q:ak) : Prop :=
 bF a0 fun t4 =>
 ai M0 t4 fun t5 =>
 bF a0 fun t7 =>
 ai M0 t7 fun t8 =>
 zh .shl t8 (N .u64 13) fun t9 =>
 ae .xor t5 t9 fun bN =>
 bF a0 fun cB =>
 aC M0 cB bN 1 fun M =>
 bF a0 fun bO =>
 ai M bO fun t14 =>
 bF a0 fun t16 =>
 ai M t16 fun t17 =>
 zh .shr t17 (N .u64 7) fun t18 =>
 ae .xor t14 t18 fun t19 =>
 bF a0 fun t20 =>
 aC M t20 t19 1 fun M_0 =>
 bF a0 fun t22 =>
 ai M_0 t22 fun t23 =>
 bF a0 fun t25 =>
 ai M_0 t25 fun t26 =>
 zh .shl t26 (N .u64 17) fun t27 =>
 ae .xor t23 t27 fun t28 =>
 bF a0 fun t29 =>
 aC M_0 t29 t28 1 fun M_1 =>
 bF a0 fun t31 =>
 ai M_1 t31 fun t32 =>
 Q t32 M_1
def jK (p1:au) (a0 a1 a2:AV) (M0:RM) (Q:ak) : Prop :=
 ae .sub a1 (N .i64 1) fun t9 =>
 ae .add a1 (N .i64 1) fun t12 =>
 p1 [a0,t9,a1,t12,a2] M0 fun t14 M =>
 Q t14 M
def ol (p1:au) (a0 a1 a2 a3 a4:AV) (M0:RM) (Q:ak) : Prop :=
 p1 [a0,a1,a2,a4] M0 fun t16 M =>
 bV t16 0 fun t17 =>
 bV t16 1 fun t18 =>
 p1 [a0,t18,a3,a4] M fun t24 M_0 =>
 bV t24 0 fun t25 =>
 bV t24 1 fun t26 =>
 p1 [a0,t17,t25,a4] M_0 fun t32 M_1 =>
 bV t32 0 fun t33 =>
 bV t32 1 fun t34 =>
 Q t34 M_1
def oo (p1:au) (a0 a1 a2 a3:AV) (M0:RM) (Q:ak) : Prop :=
 aA a0 a2 1 fun t12 =>
 ai M0 t12 fun bO =>
 aA a0 a1 1 fun t16 =>
 ai M0 t16 fun t17 =>
 p1 [bO,t17] M0 fun t18 M =>
 az t18 (
 bF a3 fun t20 =>
 ai M t20 fun t21 =>
 ae .add t21 (N .i64 1) fun t22 =>
 bF a3 fun t23 =>
 aC M t23 t22 1 fun M_0 =>
 Q (.tup [a2,a1]) M_0) (
 Q (.tup [a1,a2]) M)
end Go.Ab.ay
