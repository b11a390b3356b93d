/- Part 3 of the ground of the proofs of this seat (texts R7 to R12). By an AI agent. -/
import Derived.Test.YtngfappichkflaaGreatFin2
import Derived.Scope
set_option linter.unusedVariables false
set_option linter.unusedSimpArgs false
namespace Go.Ab
open Go Go.RowKit
structure nT where
 vals:Tree AV
 M:RM
 bD:Tree (Option Nat)
abbrev KR:=AV→RM→Option Nat→Prop
def guardOf (ops:Array Oper) (wr:Tree Nat) (vals:Tree AV) (r:Row) : Option (Option (AV × Bool)) :=
 match r.o.guard with
 | none=>some none
 | some (j,want)=>match (ops[j]?).bind (·.dst) with
   | none=>none
   | some d=>match Nat.testBit r.m j,wr.get d with
     | true,some j'=>match Nat.beq j' j with
       | true=>some (some ((vals.get j).getD .top,want))
       | false=>none
     | _,_=>none
abbrev ah (x:AV) (want:Bool) (f g:ai→Prop) (k:ai) : Prop:=mO x want f g k
abbrev af (x:AV) (want:Bool) (f g:KR→Prop) (k:KR) : Prop:=mO x want f g k
def yz {α:Type} (g:Option (Option (AV × Bool))) (f skip:α→Prop) (k:α) : Prop :=
 match g with
 | none=>False
 | some none=>f k
 | some (some (x,want))=>mO x want f skip k
def Bg (x:RB) (mk:Nat→AV) (M:RM) (k:KR) : Prop:=k (mk M.next) (M.push x) (some M.next)
def GD (b:Option Nat) (M:RM) (x:RB) (mk:Nat→AV) (v:AV) : Prop :=
 match b with
 | some b=>M.heap b=some x∧mk b=v
 | none=>False
def ajF (P:Program) (r:Row) (e:Operand→AV) (M:RM) (k:KR) : Prop :=
 match r.kd with
 | .pure | .read=>dZ P r.o e M (fun v=>k v M none)
 | .alloc=>qK P r.o e (fun x mk=>Bg x mk M k)
 | .rR=>False
def EU (P:Program) (ops:Array Oper) (T0:Tree AV) (wr:Tree Nat) (lev:Nat) : List Row→nT→(nT→Prop)→Prop
 | [],s,K=>K s
 | r :: rest,s,K=>match Nat.beq r.lev lev && !jc r.kd with
   | false=>EU P ops T0 wr lev rest s K
   | true=>yz (guardOf ops wr s.vals r) (ajF P r (iq T0 wr s.vals r.m) s.M) (fun k=>k .undef s.M none) (fun v M' b=>EU P ops T0 wr lev rest { vals:=s.vals.set r.i v,M:=M',bD:=s.bD.set r.i b } K)
def VK (P:Program) (ops:Array Oper) (T0:Tree AV) (wr:Tree Nat) (r:Row) (s:nT) (K:Prop) : Prop :=
 match r.kd with
 | .read=>yz (guardOf ops wr s.vals r) (fun k=>dZ P r.o (iq T0 wr s.vals r.m) s.M (fun v=>v=(s.vals.get r.i).getD .top∧k)) (fun k=>k) K
 | .alloc=>yz (guardOf ops wr s.vals r) (fun k=>qK P r.o (iq T0 wr s.vals r.m) (fun x mk=>GD ((s.bD.get r.i).getD none) s.M x mk ((s.vals.get r.i).getD .top)∧k)) (fun k=>k) K
 | _=>K
def NV (P:Program) (ops:Array Oper) (T0:Tree AV) (ri:RI) (lev:Nat) : List Row→nT→Prop→Prop
 | [],_,K=>K
 | r :: rest,s,K=>match Nat.ble r.lev lev && !jc r.kd && jw ri.ms ri.es (lev + 1) r with
   | false=>NV P ops T0 ri lev rest s K
   | true=>VK P ops T0 ri.wr r s (NV P ops T0 ri lev rest s K)
def wz (P:Program) (ops:Array Oper) (T0:Tree AV) (ri:RI) : Nat→List Nat→nT→(nT→Prop)→Prop
 | lev,[],s,K=>EU P ops T0 ri.wr lev ri.rows s K
 | lev,x :: rest,s,K=>EU P ops T0 ri.wr lev ri.rows s (fun s1=>match nth ri.rows x with
   | none=>False
   | some r=>yz (guardOf ops ri.wr s1.vals r) (iZ P r.o (iq T0 ri.wr s1.vals r.m) s1.M) (fun k=>k .undef s1.M)
     (fun v M'=>NV P ops T0 ri lev ri.rows { vals:=s1.vals.set x v,M:=M',bD:=s1.bD } (wz P ops T0 ri (lev + 1) rest { vals:=s1.vals.set x v,M:=M',bD:=s1.bD } K)))
def Wt (P:Program) (nt:Nat) (ops:Array Oper) (T:Tree AV) (M:RM) (K:Tree AV→RM→Prop) : Prop :=
 match xC P nt ops with
 | none=>False
 | some ri=>match ri.rows.all (rX ri) with
   | false=>False
   | true=>wz P ops T ri 0 ri.es { vals:=.leaf,M,bD:=.leaf } (fun s=>K (Ap T s.vals ri.rows) s.M)
def UQ (g:Option (AV × Bool)) : Prop:=match g with | none=>True | some (x,want)=>x=Bo want
def I1 (g:Option (AV × Bool)) : Prop:=match g with | none=>False | some (x,want)=>x=.undef∨∃ b,x=Bo b∧b≠want
theorem tK {α:Type} {g:Option (Option (AV × Bool))} {f skip:α→Prop} {k:α} (h:yz g f skip k) : ∃ g',g=some g'∧((UQ g'∧f k)∨(I1 g'∧skip k)):=by
 unfold yz at h
 split at h <;> first | (cases h; done) | skip
 ·exact⟨none,rfl,.inl ⟨trivial,h⟩⟩
 ·rename_i x want
  refine⟨_,rfl, ?_⟩
  unfold mO at h
  split at h <;> first | (cases h; done) | skip
  ·split at h
   ·rename_i e; subst e; exact .inl ⟨rfl,h⟩
   ·rename_i b e; exact .inr ⟨.inr ⟨b,rfl,e⟩,h⟩
  ·exact .inr ⟨.inl rfl,h⟩
section
variable {P:Program} {nt:Nat} {ops:Array Oper} {ri:RI} {T0:Tree AV}
def sV (P:Program) (ops:Array Oper) (T0:Tree AV) (wr:Tree Nat) (s:nT) (r:Row) : Prop :=
 ∃ g,guardOf ops wr s.vals r=some g∧((UQ g∧∃ v,s.vals.get r.i=some v∧match r.kd with
   | .pure=>∀ M,lF P r.o (iq T0 wr s.vals r.m) M v
   | .read=>lF P r.o (iq T0 wr s.vals r.m) s.M v
   | .alloc=>∃ x mk b,EQ P r.o (iq T0 wr s.vals r.m) x mk∧s.bD.get r.i=some (some b)∧s.M.heap b=some x∧mk b=v
   | .rR=>False)∨(I1 g∧s.vals.get r.i=some .undef))
theorem lF.sub {o:Oper} {e:Operand→AV} {M M' : RM} {v:AV} (h:lF P o e M v) (hs:M.Sub M') : lF P o e M' v :=
 fun ρ w c M2 h2 hw he=>h ρ w c M2 (hs.trans h2) hw he
theorem zY {vals Kn:Tree AV} {wr:Tree Nat} {m:Nat} (h:∀ j,Nat.testBit m j=true→Kn.get j=vals.get j) : iq T0 wr Kn m=iq T0 wr vals m:=by
 funext x
 cases x with
 | tmp t =>
   simp only[iq]
   cases hw:wr.get t with
   | none=>rfl
   | some j =>
     simp only
     cases hb:Nat.testBit m j with
     | false=>rfl
     | true=>simp only[h j hb]
 | const v=>rfl
 | global g=>rfl
 | func f=>rfl
theorem oD {vals Kn:Tree AV} {wr:Tree Nat} {r:Row} (h:∀ j,Nat.testBit r.m j=true→Kn.get j=vals.get j) : guardOf ops wr Kn r=guardOf ops wr vals r:=by
 unfold guardOf
 split
 ·rfl
 ·rename_i j want hg
  split
  ·rfl
  ·split
   ·rename_i hb _
    simp only[h j hb]
   ·rfl
theorem sV.keep {wr:Tree Nat} {s s' : nT} {r:Row} (h:sV P ops T0 wr s r) (hv:∀ j,Nat.testBit r.m j=true∨j=r.i→s'.vals.get j=s.vals.get j) (hb:s'.bD.get r.i=s.bD.get r.i) (hs:s.M.Sub s'.M) : sV P ops T0 wr s' r:=by
 obtain⟨g,hg,h⟩:=h
 have hi:=hv r.i (.inr rfl)
 have he:iq T0 wr s'.vals r.m=iq T0 wr s.vals r.m:=zY fun j hj=>hv j (.inl hj)
 refine⟨g,by rw[← hg]; exact oD fun j hj=>hv j (.inl hj), ?_⟩
 rcases h with⟨hon,v,hvi,hk⟩ | ⟨hoff,hvi⟩
 ·refine .inl ⟨hon,v,by rw[hi]; exact hvi, ?_⟩
  rw[he]
  cases hkd:r.kd with
  | pure=>rw[hkd] at hk; exact hk
  | read=>rw[hkd] at hk; exact hk.sub hs
  | alloc =>
    rw[hkd] at hk
    obtain⟨x,mk,b,h1,h2,h3,h4⟩:=hk
    exact⟨x,mk,b,h1,by rw[hb]; exact h2,hs.2 _ _ h3,h4⟩
  | rR=>rw[hkd] at hk; exact hk
 ·exact .inr ⟨hoff,by rw[hi]; exact hvi⟩
def Fr (M:RM) : Prop:=∀ b,M.next≤b→M.heap b=none
theorem Fr.push {M:RM} (h:Fr M) (x:RB) : Fr (M.push x):=by
 intro b hb
 simp only[RM.push] at hb ⊢
 rw[if_neg (by omega)]
 exact h b (by omega)
theorem Fr.sub {M:RM} (h:Fr M) (x:RB) : M.Sub (M.push x):=by
 refine⟨rfl,fun b y hy=>?_⟩
 simp only[RM.push]
 split
 ·rename_i e; subst e; rw[h _ (Nat.le_refl _)] at hy; cases hy
 ·exact hy
theorem dw.fr {ρ:Ren} {M:RM} {w:World} (h:dw P ρ M w) : Fr M:=by
 intro b hb
 have hlo:=h.lo_le
 obtain⟨A,hA⟩:=h
 cases hx:M.heap b with
 | none=>rfl
 | some x =>
   rcases hA.blk b x hx with⟨y,hy,_⟩ | ⟨c,_,hlt,_⟩
   ·have:=hA.rel.top b y hy
    rw[hA.next] at this; omega
   ·omega
theorem LW {ρ:Ren} {M:RM} {w:World} {o:Oper} {e:Operand→AV} {x:RB} {mk:Nat→AV} (h:dw P ρ M w) (hm:EQ P o e x mk) : dw P ρ (M.push x) w:=by
 obtain⟨y,_,hle⟩:=hm
 exact h.aen x y hle
structure WT (P:Program) (ops:Array Oper) (T0:Tree AV) (ri:RI) (lev:Nat) (i0:Nat) (s s' : nT) : Prop where
 keep:∀ j,(∀ r,ri.rows[j]?=some r→i0≤j→¬ (r.lev=lev∧jc r.kd=false))→s'.vals.get j=s.vals.get j∧s'.bD.get j=s.bD.get j
 done:∀ j r,ri.rows[j]?=some r→i0≤j→r.lev=lev→jc r.kd=false→sV P ops T0 ri.wr s' r
 sub:s.M.Sub s'.M
 fr:Fr s'.M
 rel:∀ ρ w,dw P ρ s.M w→dw P ρ s'.M w
 next:s.M.next≤s'.M.next
 bD:∀ j b,s'.bD.get j=some (some b)→s.bD.get j=some (some b)∨(s.M.next≤b∧b<s'.M.next∧i0≤j∧∃ r,ri.rows[j]?=some r)
 zN:∀ j1 j2 b,s'.bD.get j1=some (some b)→s'.bD.get j2=some (some b)→s.M.next≤b→j1=j2
theorem zt (ht:l7 P nt ops ri) {lev:Nat} {K:nT→Prop} : ∀ (rows:List Row) (i0:Nat) (s:nT),ri.rows.drop i0=rows→Fr s.M→(∀ j b,s.bD.get j=some (some b)→b<s.M.next)→EU P ops T0 ri.wr lev rows s K→∃ s',K s'∧WT P ops T0 ri lev i0 s s'
 | [],i0,s,hd,hf,hbd,h=>by
   refine⟨s,h,fun _ _=>⟨rfl,rfl⟩,fun j r hr hj=>?_,RM.Sub.refl _,hf,fun _ _ h=>h,Nat.le_refl _,fun j b hb=>.inl hb,fun j1 j2 b h1 _ hb=>absurd (hbd j1 b h1) (by omega)⟩
   have hlen:ri.rows.length≤i0:=List.drop_eq_nil_iff.1 hd
   have:=(List.getElem?_eq_some_iff.1 hr).1
   omega
 | r :: rows,i0,s,hd,hf,hbd,h=>by
   have hri:ri.rows[i0]?=some r:=by
    have h0:(ri.rows.drop i0)[0]?=some r:=by rw[hd]; rfl
    rw[List.getElem?_drop] at h0; exact h0
   have hd' : ri.rows.drop (i0 + 1)=rows:=by
    rw[← List.drop_drop (i:=1) (j:=i0)] <;> rw[hd]; rfl
   obtain⟨e1,e2,e3,e4,e5⟩:=ht.row hri
   simp only[EU] at h
   split at h
   ·rename_i hk
    obtain⟨s',hK,hp⟩:=zt ht rows (i0 + 1) s hd' hf hbd h
    have hne:¬ (r.lev=lev∧jc r.kd=false):=by
     rintro⟨a,b⟩
     rw[qz a,b] at hk
     cases hk
    refine⟨s',hK,fun j hj=>hp.keep j fun r' hr' hj'=>hj r' hr' (by omega),fun j r' hr' hj hl he=>?_,hp.sub,hp.fr,hp.rel,hp.next,fun j b hb=>(hp.bD j b hb).imp id fun⟨a,b,c,d⟩=>⟨a,b,by omega,d⟩,hp.zN⟩
    rcases Nat.lt_or_ge i0 j with hlt | hge
    ·exact hp.done j r' hr' hlt hl he
    ·have:j=i0:=by omega
     subst this
     rw[hri] at hr'; cases hr'
     exact absurd ⟨hl,he⟩ hne
   ·rename_i hk
    simp only[Bool.and_eq_true,Bool.not_eq_true'] at hk
    have wO:=bu hk.1
    obtain⟨g,hg,hcase⟩:=tK h
    -- whatever the row gives
    have fin:∀ (v:AV) (M' : RM) (b:Option Nat),s.M.Sub M'→Fr M'→s.M.next≤M'.next→(∀ ρ w,dw P ρ s.M w→dw P ρ M' w)→(∀ b',b=some b'→s.M.next≤b'∧b'<M'.next) →
      (∀ s2:nT,(∀ j,Nat.testBit r.m j=true→s2.vals.get j=s.vals.get j)→s2.vals.get r.i=some v→s2.bD.get r.i=some b→M'.Sub s2.M→sV P ops T0 ri.wr s2 r) →
      EU P ops T0 ri.wr lev rows { vals:=s.vals.set r.i v,M:=M',bD:=s.bD.set r.i b } K→∃ s',K s'∧WT P ops T0 ri lev i0 s s':=by
     intro v M' b hsub hfr hnx hrel hb hok h
     obtain⟨s',hK,hp⟩:=zt ht rows (i0 + 1) _ hd' hfr (fun j b' hj=>by
      rw[Tree.bn] at hj
      split at hj
      ·cases hj; exact(hb b' rfl).2
      ·exact Nat.lt_of_lt_of_le (hbd j b' hj) hnx) h
     have Tz:=hp.keep r.i (fun r' hr' hj'=>by omega)
     simp only[Tree.bn,if_true] at Tz
     refine⟨s',hK,fun j hj=>?_,fun j r' hr' hj hl he=>?_,hsub.trans hp.sub,hp.fr,fun ρ w h=>hp.rel ρ w (hrel ρ w h),Nat.le_trans hnx hp.next,fun j b' hb'=>?_,fun j1 j2 b' h1 h2 hb'=>?_⟩
     ·have hji:j≠r.i:=fun e=>hj r (by rw[e,e1]; exact hri) (by omega) ⟨wO,hk.2⟩
      obtain⟨k1,k2⟩:=hp.keep j fun r' hr' hj'=>hj r' hr' (by omega)
      simp only[Tree.bn,if_neg hji] at k1 k2
      exact⟨k1,k2⟩
     ·rcases Nat.lt_or_ge i0 j with hlt | hge
      ·exact hp.done j r' hr' hlt hl he
      ·have:j=i0:=by omega
       subst this
       rw[hri] at hr'; cases hr'
       refine hok s' (fun q hq=>?_) Tz.1 Tz.2 hp.sub
       have hqlt:q<j:=by
        have hc:Closed ops.toList (fun i=>i<j):=fun i o ho hi e he' hb'=>by have:=ht.xm i o ho e he' hb'; omega
        exact ht.ahead hc hri (fun e he' hb'=>ht.xm j r.o e2 e he' hb') hq
       have hqi:q≠r.i:=by omega
       have:=(hp.keep q fun r' hr' hj'=>by omega).1
       rw[this]
       simp only[Tree.bn,if_neg hqi]
     ·rcases hp.bD j b' hb' with k | ⟨k1,k2,k3,k4⟩
      ·simp only[Tree.bn] at k
       split at k
       ·rename_i e
        cases k
        obtain⟨q1,q2⟩:=hb b' rfl
        exact .inr ⟨q1,Nat.lt_of_lt_of_le q2 hp.next,by omega,r,by rw[e,e1]; exact hri⟩
       ·exact .inl k
      ·simp only at k1
       exact .inr ⟨by omega,k2,by omega,k4⟩
     ·rcases Nat.lt_or_ge b' M'.next with hlt | hge
      ·have q:∀ j,s'.bD.get j=some (some b')→j=r.i:=by
        intro j hj
        rcases hp.bD j b' hj with k | ⟨k1,_⟩
        ·simp only[Tree.bn] at k
         split at k
         ·assumption
         ·have:=hbd j b' k; omega
        ·simp only at k1; omega
       rw[q j1 h1,q j2 h2]
      ·exact hp.zN j1 j2 b' h1 h2 hge
    rcases hcase with⟨hon,hv⟩ | ⟨hoff,hv⟩
    ·unfold ajF at hv
     have val:(r.kd=.pure∨r.kd=.read)→dZ P r.o (iq T0 ri.wr s.vals r.m) s.M (fun v=>EU P ops T0 ri.wr lev rows { vals:=s.vals.set r.i v,M:=s.M,bD:=s.bD.set r.i none } K)→∃ s',K s'∧WT P ops T0 ri lev i0 s s':=by
      intro hkd hv
      obtain⟨v,hgv,hk2⟩:=Bh hv
      refine fin v s.M none (RM.Sub.refl _) hf (Nat.le_refl _) (fun _ _ h=>h) (fun b' h=>by cases h) (fun s2 q1 q2 q3 q4=>?_) hk2
      refine⟨g,by rw[← hg]; exact oD q1,.inl ⟨hon,v,q2, ?_⟩⟩
      rw[zY q1]
      rcases hkd with hkd | hkd
      ·rw[hkd]
       rcases hgv with hgv | ⟨hrd,_⟩
       ·exact hgv
       ·rw[← e5,hkd] at hrd; cases hrd
      ·rw[hkd]
       rcases hgv with hgv | ⟨_,hgv⟩
       ·exact hgv _
       ·exact hgv.sub q4
     split at hv
     ·exact val (.inl ‹_›) hv
     ·exact val (.inr ‹_›) hv
     ·rename_i hkd
      obtain⟨x,mk,hm,hk2⟩:=AA hv
      refine fin (mk s.M.next) (s.M.push x) (some s.M.next) (hf.sub x) (hf.push x) (by simp[RM.push]) (fun ρ w h=>LW h hm) (fun b' h=>by cases h; simp[RM.push]) (fun s2 q1 q2 q3 q4=>?_) hk2
      refine⟨g,by rw[← hg]; exact oD q1,.inl ⟨hon,_,q2, ?_⟩⟩
      rw[zY q1,hkd]
      exact⟨x,mk,s.M.next,hm,q3,q4.2 _ _ (by simp[RM.push]),rfl⟩
     ·cases hv
    ·refine fin .undef s.M none (RM.Sub.refl _) hf (Nat.le_refl _) (fun _ _ h=>h) (fun b' h=>by cases h) (fun s2 q1 q2 q3 q4=>?_) hv
     exact⟨g,by rw[← hg]; exact oD q1,.inr ⟨hoff,q2⟩⟩
end
section
variable {P:Program} {nt:Nat} {ops:Array Oper} {ri:RI} {T0:Tree AV}
theorem Wq {wr:Tree Nat} {r:Row} {s s0:nT} {K:Prop} (h:VK P ops T0 wr r s K) (hold:sV P ops T0 wr s0 r) (hv:∀ j,Nat.testBit r.m j=true∨j=r.i→s.vals.get j=s0.vals.get j) (hb:s.bD.get r.i=s0.bD.get r.i) :
  K∧sV P ops T0 wr s r:=by
 obtain⟨g,hg,hold⟩:=hold
 have hi:=hv r.i (.inr rfl)
 have he:iq T0 wr s.vals r.m=iq T0 wr s0.vals r.m:=zY fun j hj=>hv j (.inl hj)
 have hg' : guardOf ops wr s.vals r=some g:=by rw[← hg]; exact oD fun j hj=>hv j (.inl hj)
 have Pn:I1 g→UQ g→False:=by
  intro h1 h2
  unfold I1 at h1
  unfold UQ at h2
  split at h1
  ·exact h1
  ·simp only at h2
   rcases h1 with h1 | ⟨b,h1,h3⟩
   ·rw[h2] at h1; cases h1
   ·rw[h2] at h1; cases h1; exact h3 rfl
 have Xe:∀ {K'},K'→I1 g∧s0.vals.get r.i=some .undef→K'∧sV P ops T0 wr s r:=fun k h=>⟨k,g,hg',.inr ⟨h.1,by rw[hi]; exact h.2⟩⟩
 unfold VK at h
 cases hkd:r.kd with
 | pure =>
   rw[hkd] at h
   refine⟨h,g,hg', ?_⟩
   rcases hold with⟨hon,v,hvi,hk⟩ | ⟨hoff,hvi⟩
   ·refine .inl ⟨hon,v,by rw[hi]; exact hvi, ?_⟩
    rw[hkd] at hk ⊢
    rw[he]; exact hk
   ·exact .inr ⟨hoff,by rw[hi]; exact hvi⟩
 | rR =>
   rcases hold with⟨hon,v,hvi,hk⟩ | ho
   ·rw[hkd] at hk; exact hk.elim
   ·rw[hkd] at h; exact Xe h ho
 | read =>
   rw[hkd] at h
   obtain⟨g2,hg2,hcase⟩:=tK h
   rw[hg'] at hg2; cases hg2
   rcases hold with⟨hon,v,hvi,hk⟩ | ho
   ·rcases hcase with⟨_,hn⟩ | ⟨hoff,_⟩
    ·obtain⟨v',hgv,hv',hK⟩:=Bh hn
     have hgv:lF P r.o (iq T0 wr s.vals r.m) s.M v':=by rcases hgv with hgv | ⟨_,hgv⟩ <;> first | exact hgv _ | exact hgv
     rw[hi,hvi] at hv'
     simp only[Option.getD_some] at hv'
     subst hv'
     refine⟨hK,g,hg',.inl ⟨hon,v',by rw[hi]; exact hvi, ?_⟩⟩
     rw[hkd]; exact hgv
    ·exact(Pn hoff hon).elim
   ·rcases hcase with⟨hon,_⟩ | ⟨_,hK⟩
    ·exact(Pn ho.1 hon).elim
    ·exact Xe hK ho
 | alloc =>
   rw[hkd] at h
   obtain⟨g2,hg2,hcase⟩:=tK h
   rw[hg'] at hg2; cases hg2
   rcases hold with⟨hon,v,hvi,hk⟩ | ho
   ·rcases hcase with⟨_,hn⟩ | ⟨hoff,_⟩
    ·obtain⟨x,mk,hm,hx,hK⟩:=AA hn
     rw[hkd] at hk
     obtain⟨x0,mk0,b,_,h2,_,_⟩:=hk
     rw[hb,h2] at hx
     simp only[Option.getD_some] at hx
     rw[hi,hvi] at hx
     simp only[Option.getD_some] at hx
     refine⟨hK,g,hg',.inl ⟨hon,v,by rw[hi]; exact hvi, ?_⟩⟩
     rw[hkd]
     exact⟨x,mk,b,hm,by rw[hb]; exact h2,hx.1,hx.2⟩
    ·exact(Pn hoff hon).elim
   ·rcases hcase with⟨hon,_⟩ | ⟨_,hK⟩
    ·exact(Pn ho.1 hon).elim
    ·exact Xe hK ho
theorem II {lev:Nat} {s s0:nT} {K:Prop} : ∀ (rows:List Row),NV P ops T0 ri lev rows s K →
  (∀ r∈rows,jc r.kd=false→r.lev≤lev→jw ri.ms ri.es (lev + 1) r=true→sV P ops T0 ri.wr s0 r∧(∀ j,Nat.testBit r.m j=true∨j=r.i→s.vals.get j=s0.vals.get j)∧s.bD.get r.i=s0.bD.get r.i) →
  K∧∀ r∈rows,jc r.kd=false→r.lev≤lev→jw ri.ms ri.es (lev + 1) r=true→sV P ops T0 ri.wr s r
 | [],h,_=>⟨h,fun r hr=>by cases hr⟩
 | r :: rows,h,ho=>by
   simp only[NV] at h
   split at h
   ·rename_i hc
    obtain⟨h1,h2⟩:=II rows h fun r' hr'=>ho r' (.tail _ hr')
    refine⟨h1,fun r' hr' e1 e2 e3=>?_⟩
    rcases List.mem_cons.1 hr' with e | hr'
    ·subst e
     rw[aY.2 e2,e1,e3] at hc
     cases hc
    ·exact h2 r' hr' e1 e2 e3
   ·rename_i hc
    simp only[Bool.and_eq_true,Bool.not_eq_true'] at hc
    obtain⟨⟨c1,c2⟩,c3⟩:=hc
    obtain⟨o1,o2,o3⟩:=ho r (.head _) c2 (aZ c1) c3
    obtain⟨h1,h2⟩:=Wq h o1 o2 o3
    obtain⟨h3,h4⟩:=II rows h1 fun r' hr'=>ho r' (.tail _ hr')
    refine⟨h3,fun r' hr' e1 e2 e3=>?_⟩
    rcases List.mem_cons.1 hr' with e | hr'
    ·subst e; exact h2
    ·exact h4 r' hr' e1 e2 e3
theorem aeu {ρ:Ren} {i:gz} {x:RB} {y y' : bX} {ob:Obj} (h:yf x y) (h' : yf x y') (hb:iR P ρ i y ob) : iR P ρ i y' ob:=by
 cases x with
 | row l opn elem fz =>
   cases y <;> first | exact h.elim | skip
   cases y' <;> first | exact h'.elim | skip
   obtain⟨rfl,rfl,rfl,rfl,h5⟩:=h
   obtain⟨h1,rfl,rfl,rfl,h5'⟩:=h'
   subst h1
   obtain⟨c,fr,rfl,hr⟩:=hb
   refine⟨c,fr,rfl,hr.size,fun k u hk=>?_,hr.free,hr.mark,hr.opn,hr.sh0⟩
   have hlt:=zL hk
   have hv:l[k]?=some l[k]:=by simp[hlt]
   have e1:=h5' k _ hv
   rw[hk] at e1; cases e1
   exact hr.val k _ (h5 k _ hv)
 | ro c=>cases y <;> exact h.elim
 | map es c =>
   cases y <;> first | exact h.elim | skip
   cases y' <;> first | exact h'.elim | skip
   obtain⟨rfl,rfl⟩:=h
   obtain⟨rfl,rfl⟩:=h'
   exact hb
 | iter m a b c =>
   cases y <;> first | exact h.elim | skip
   cases y' <;> first | exact h'.elim | skip
   obtain⟨rfl,rfl,rfl,rfl⟩:=h
   obtain⟨rfl,rfl,rfl,rfl⟩:=h'
   exact hb
 | kP s p =>
   cases y <;> first | exact h.elim | skip
   cases y' <;> first | exact h'.elim | skip
   obtain⟨rfl,rfl⟩:=h
   obtain⟨rfl,rfl⟩:=h'
   exact hb
theorem ZK {ρ:Ren} {M:RM} {w:World} {b:Nat} {x:RB} {y:bX} {ob:Obj} {i:gz} (hw:dw P ρ M w) (hi:i.cb=w.heap.size) (hb:ρ b=none) (hlt:b<M.next) (hx:M.heap b=some x) (hle:yf x y)
  (hrel:iR P ρ i y ob) : dw P (ρ.add b i) M (w.alloc ob)∧Step M.lo b ρ w (ρ.add b i) (w.alloc ob):=by
 obtain⟨A,hA⟩:=hw
 rcases hA.blk b x hx with⟨y',hy',Tj⟩ | ⟨c,rfl,_⟩
 ·obtain⟨h1,h2⟩:=Ir hA.rel hA.size hi hb (by rw[hA.next]; exact hlt) hy' ((aeu hle Tj hrel).mono (Ren.sP hb))
  have:=hA.size
  refine⟨⟨A,hA.next,h1,by simp; omega,fun c z hz=>?_,fun c hc=>?_⟩,h2⟩
  ·rcases hA.blk c z hz with k | ⟨d,rfl,hlt,elem,fr,hh⟩
   ·exact .inl k
   ·exact .inr ⟨d,rfl,hlt,elem,fr,by rw[heap_alloc_old w ob c (by omega)]; exact hh⟩
  ·unfold Ren.add
   rw[if_neg (fun e=>by subst e; rw[hA.old _ hc] at hb; cases hb)]
   exact hA.old c hc
 ·cases y <;> exact hle.elim
structure F7 (P:Program) (nt:Nat) (ops:Array Oper) (ri:RI) (T0:Tree AV) (M0:RM) (ρ0:Ren) (w0:World) (k:Nat) (done rest:List Nat) (s:nT) (S:Nat→Prop) (ρ:Ren) (a:Act) (w:World) : Prop where
 es:ri.es=done++rest
 len:done.length=k
 closed:Closed ops.toList S
 dn:∀ x∈done,S x
 rs:∀ x∈rest,¬ S x
 lev:∀ (j:Nat) (r:Row),ri.rows[j]?=some r→jc r.kd=false→S j→r.lev≤k
 size:a.tmps.size=nt
 defers:a.defers=[]
 slot:GA ρ T0 ri.wr s.vals S a
 kW:dw P ρ s.M w
 step:Step M0.lo M0.next ρ0 w0 ρ w
 base:s.M.base=M0.base
 next:M0.next≤s.M.next
 bid:∀ j b,s.bD.get j=some (some b)→M0.next≤b∧b<s.M.next∧(¬ S j→ρ b=none)∧j<ops.size
 zN:∀ j1 j2 b,s.bD.get j1=some (some b)→s.bD.get j2=some (some b)→j1=j2
variable {M0:RM} {ρ0:Ren} {w0:World} {k:Nat} {done rest:List Nat} {s:nT} {S:Nat→Prop} {ρ:Ren} {a:Act} {w:World}
theorem YY (ht:l7 P nt ops ri) (hI:F7 P nt ops ri T0 M0 ρ0 w0 k done rest s S ρ a w) {i:Nat} {r:Row} (hr:ri.rows[i]?=some r) (hns:¬ S i) (hd:∀ e∈r.o.after.toList,Region.binds .any e=true→S e.on)
  (hok:rX ri r=true) : ∀ x∈r.o.op.operands,ak ρ (iq T0 ri.wr s.vals r.m x) (a.eval x):=by
 intro x hx
 have hx' : Fz ri r x=true:=by
  unfold rX at hok
  exact List.all_eq_true.1 hok x (by simpa using hx)
 cases x with
 | tmp t =>
   obtain⟨h1,h2⟩:=hI.slot t
   simp only[iq,Act.eval]
   simp only[Fz] at hx'
   cases hw:ri.wr.get t with
   | none =>
     simp only
     exact h2 fun j hj=>by rw[hw] at hj; cases hj
   | some j =>
     rw[hw] at hx'
     simp only
     cases hb:Nat.testBit r.m j with
     | true =>
       simp only
       exact h1 j hw (ht.ahead hI.closed hr hd hb)
     | false =>
       simp only
       refine h2 fun j' hj'=>?_
       rw[hw] at hj'; cases hj'
       simp only[hb,Bool.false_or,Bool.or_eq_true] at hx'
       obtain⟨e1,_⟩:=ht.row hr
       rcases hx' with hx' | hx'
       ·rw[bu hx',e1]; exact hns
       ·intro hS
        rw[bQ,e1] at hx'
        obtain⟨o,ho,_⟩:=ht.wrs t j hw
        exact hns (ht.BK hI.closed hS ho hx')
 | const v =>
   simp only[iq,mf,Act.eval]
   cases hv:iY v with
   | none=>exact .top _
   | some u=>exact iB hv
 | global g=>exact .top _
 | func f=>exact .fn _ _ _ _ _ rfl .nil .nil
theorem K4 (ht:l7 P nt ops ri) (hI:F7 P nt ops ri T0 M0 ρ0 w0 k done rest s S ρ a w) {i:Nat} {r:Row} (hr:ri.rows[i]?=some r) (hd:∀ e∈r.o.after.toList,Region.binds .any e=true→S e.on) {g:Option (AV × Bool)}
  (hg:guardOf ops ri.wr s.vals r=some g) : (UQ g→Region.wanted r.o (yielded ops a.tmps)=true)∧(I1 g→Region.wanted r.o (yielded ops a.tmps)=false):=by
 unfold guardOf at hg
 unfold Region.wanted
 split at hg
 ·rename_i hgu; simp only[hgu]; cases hg
  exact⟨fun _=>trivial,fun h=>h.elim⟩
 ·rename_i j want hgu
  simp only[hgu]
  split at hg <;> first | (cases hg; done) | skip
  rename_i d hdst
  split at hg <;> first | (cases hg; done) | skip
  rename_i j' hb hwr
  split at hg <;> first | (cases hg; done) | skip
  rename_i he
  cases hg
  have he:=bu he
  subst he
  have hv:=(hI.slot d).1 j' hwr (ht.ahead hI.closed hr hd hb)
  have hyv:yielded ops a.tmps j'=match a.tmps[d]? with | some (.bool b)=>some b | _=>none:=by
   unfold yielded; rw[hdst]; rfl
  have hget:∀ t:Bool,a.tmps.getD d undef=.bool t↔a.tmps[d]?=some (.bool t):=by
   intro t
   rw[Array.getD_eq_getD_getElem?]
   cases hx:a.tmps[d]? with
   | none=>simp[undef]
   | some y=>simp
  have off:(∀ b,a.tmps.getD d undef=.bool b→b≠want)→(yielded ops a.tmps j' == some want)=false:=by
   intro hn
   rw[hyv]
   cases hx:a.tmps[d]? with
   | none=>rfl
   | some y =>
     cases y <;> try rfl
     rename_i b
     have:=hn b ((hget b).2 hx)
     simpa using this
  constructor
  ·intro hon
   simp only[UQ] at hon
   rw[hon] at hv
   have hc:=(aQ hv).1
   rw[hyv,(hget want).1 hc]; simp
  ·intro hoff
   simp only[I1] at hoff
   refine off fun b hb'=>?_
   rcases hoff with hu | ⟨b',hu,hne⟩
   ·rw[hu] at hv
    obtain⟨vs,hc,hrl⟩:=BS hv
    rw[hc] at hb'; cases hb'
   ·rw[hu] at hv
    rw[(aQ hv).1] at hb'; cases hb'; exact hne
def Pj (P:Program) (ops:Array Oper) (T0:Tree AV) (ri:RI) (k:Nat) (s:nT) (K:nT→Prop) : List Nat→Prop
 | []=>K s
 | x :: rest=>∃ r,nth ri.rows x=some r∧yz (guardOf ops ri.wr s.vals r) (iZ P r.o (iq T0 ri.wr s.vals r.m) s.M) (fun k=>k .undef s.M)
    (fun v M'=>NV P ops T0 ri k ri.rows { vals:=s.vals.set x v,M:=M',bD:=s.bD } (wz P ops T0 ri (k + 1) rest { vals:=s.vals.set x v,M:=M',bD:=s.bD } K))
theorem Hw (ht:l7 P nt ops ri) {K:nT→Prop} {es:List Nat} (hf:Fr s.M) (hbd:∀ j b,s.bD.get j=some (some b)→b<s.M.next) (h:wz P ops T0 ri k es s K) :
  ∃ s1,Pj P ops T0 ri k s1 K es∧WT P ops T0 ri k 0 s s1:=by
 cases es with
 | nil =>
   rw[wz] at h
   exact zt ht ri.rows 0 s rfl hf hbd h
 | cons x rest =>
   rw[wz] at h
   obtain⟨s1,hk,hp⟩:=zt ht ri.rows 0 s rfl hf hbd h
   refine⟨s1, ?_,hp⟩
   split at hk
   ·cases hk
   ·rename_i r hr
    exact⟨r,hr,hk⟩
def Chk (P:Program) (ops:Array Oper) (T0:Tree AV) (ri:RI) (k:Nat) (s:nT) : Prop:=∀ r∈ri.rows,jc r.kd=false→jw ri.ms ri.es k r=true→sV P ops T0 ri.wr s r
theorem De {acc:List Nat} : ∀ (es:List Edge) (e:Edge),e∈es→Region.binds .any e=true→Nat.testBit (mH acc es) e.on=true∧∀ j,Nat.testBit ((nth acc e.on).getD 0) j=true→Nat.testBit (mH acc es) j=true
 | [],e,h,_=>by cases h
 | x :: es,e,h,hb=>by
   simp only[mH]
   rcases List.mem_cons.1 h with rfl | h
   ·rw[hb]
    simp only
    refine⟨?_,fun j hj=>?_⟩
    ·rw[Nat.testBit_or,Nat.testBit_or,Nat.testBit_two_pow]; simp
    ·rw[Nat.testBit_or,Nat.testBit_or,hj]; simp
   ·obtain⟨h1,h2⟩:=De (acc:=acc) es e h hb
    split
    ·refine⟨?_,fun j hj=>?_⟩
     ·rw[Nat.testBit_or,h1]; simp
     ·rw[Nat.testBit_or,h2 j hj]; simp
    ·exact⟨h1,h2⟩
theorem NM (ht:l7 P nt ops ri) {q:Nat} {r:Row} (hq:ri.rows[q]?=some r) : ∃ pre,(∀ i,i<q→nth pre i=ri.ms[i]?)∧r.m=mH pre r.o.after.toList:=by
 obtain⟨g1,g2,g3,g4,g5⟩:=ht.row hq
 obtain⟨pre,h1,h2,h3⟩:=(yl ops.toList []).2 q r.o g2
 simp only[List.length_nil,Nat.zero_add] at h1 h2 h3
 refine⟨pre,fun i hi=>by rw[bQ,h2 i hi,← ht.ms], ?_⟩
 rw[← ht.ms,g3] at h3
 exact Option.some.inj h3
theorem Kl (ht:l7 P nt ops ri) {q:Nat} {r:Row} (hq:ri.rows[q]?=some r) {e:Edge} (he:e∈r.o.after.toList) (hb:Region.binds .any e=true) : Nat.testBit r.m e.on=true:=by
 obtain⟨pre,_,h2⟩:=NM ht hq
 rw[h2]; exact(De _ e he hb).1
theorem TZ (ht:l7 P nt ops ri) : ∀ (q:Nat) {i:Nat} {r:Row} {o:Oper},ri.rows[q]?=some r→Nat.testBit r.m i=true→ops.toList[i]?=some o→∀ {e:Edge},e∈o.after.toList→Region.binds .any e=true→Nat.testBit r.m e.on=true:=by
 intro q
 induction q using Nat.strongRecOn with
 | _ q ih =>
   intro i r o hq hi ho e he hb
   obtain⟨g1,g2,g3,g4,g5⟩:=ht.row hq
   obtain⟨pre,h1,h2⟩:=NM ht hq
   have hi':=hi
   rw[h2] at hi'
   obtain⟨e0,he0,hb0,hcase⟩:=xn _ hi'
   have hlt:=ht.xm q r.o g2 e0 he0 hb0
   obtain⟨r0,hr0,_⟩:=ht.ex (j:=e0.on) (o:=ops.toList[e0.on]'(by have:=(List.getElem?_eq_some_iff.1 g2).1; omega)) (by simp)
   obtain⟨k1,k2,k3,k4,k5⟩:=ht.row hr0
   have hsub:∀ j,Nat.testBit r0.m j=true→Nat.testBit r.m j=true:=by
    intro j hj
    rw[h2]
    refine(De _ e0 he0 hb0).2 j ?_
    rw[h1 e0.on hlt,k3]; exact hj
   rcases hcase with rfl | ⟨m,hm,hmi⟩
   ·rw[k2] at ho; cases ho
    exact hsub _ (Kl ht hr0 he hb)
   ·rw[← bQ,h1 e0.on hlt,k3] at hm
    cases hm
    exact hsub _ (ih e0.on hlt hr0 hmi ho he hb)
theorem Db {m m' : Nat} (h:∀ x,Nat.testBit m x=true→Nat.testBit m' x=true) : ∀ (es:List Nat) (i0 b b' : Nat),b≤b'→b'≤i0→ll m es i0 b≤ll m' es i0 b'
 | [],i0,b,b',hb,_=>by simpa [ll] using hb
 | x :: es,i0,b,b',hb,hi=>by
   simp only[ll]
   cases hm:Nat.testBit m x with
   | true =>
     rw[h x hm]
     exact Db h es (i0 + 1) _ _ (Nat.le_refl _) (Nat.le_refl _)
   | false =>
     cases hm' : Nat.testBit m' x with
     | true=>exact Db h es (i0 + 1) b (i0 + 1) (by omega) (Nat.le_refl _)
     | false=>exact Db h es (i0 + 1) b b' hb (by omega)
theorem acB (ht:l7 P nt ops ri) {listed:Array Bool} (hsz:listed.size=ops.size) (hI:F7 P nt ops ri T0 M0 ρ0 w0 k done rest s (dR listed) ρ a w) {i:Nat} {r:Row} (hi:i<ops.size) (hr:ri.rows[i]?=some r)
  (hd:∀ e∈r.o.after.toList,Region.binds .any e=true→dR listed e.on) (hk:jc r.kd=false) (wO:r.lev≤k) {v:AV} {v' : Value} {ρ' : Ren} {w' : World} (hvi:s.vals.get i=some v) (hv:ak ρ' v v') (hle:ρ.le ρ')
  (hw:dw P ρ' s.M w') (hst:Step M0.lo M0.next ρ w ρ' w') (abn:∀ j b,s.bD.get j=some (some b)→¬ dR (listed.setIfInBounds i true) j→ρ' b=none) :
  F7 P nt ops ri T0 M0 ρ0 w0 k done rest s (dR (listed.setIfInBounds i true)) ρ' (a.put r.o.dst v') w':=by
 have hS:∀ j,dR (listed.setIfInBounds i true) j↔dR listed j∨j=i:=sK (by omega)
 obtain⟨e1,e2,_⟩:=ht.row hr
 refine⟨hI.es,hI.len, ?_,fun x hx=>(hS x).2 (.inl (hI.dn x hx)), ?_, ?_, ?_, ?_, ?_,hw,hI.step.trans hst (Nat.le_refl _),hI.base,hI.next,fun j b hb=>⟨(hI.bid j b hb).1,(hI.bid j b hb).2.1,abn j b hb,(hI.bid j b hb).2.2.2⟩,hI.zN⟩
 ·intro j o ho hj e he hb
  rcases(hS j).1 hj with hj | rfl
  ·exact(hS _).2 (.inl (hI.closed j o ho hj e he hb))
  ·rw[e2] at ho; cases ho
   exact(hS _).2 (.inl (hd e he hb))
 ·intro x hx hl
  rcases(hS x).1 hl with hl | rfl
  ·exact hI.rs x hx hl
  ·have:x∈ri.es:=by rw[hI.es]; exact List.mem_append_right _ hx
   rw[ht.rR hr,hk] at this
   cases this
 ·intro j r' hr' hk' hj
  rcases(hS j).1 hj with hj | rfl
  ·exact hI.lev j r' hr' hk' hj
  ·rw[hr] at hr'; cases hr'; exact wO
 ·cases hdst:r.o.dst <;> simp[Act.put,hI.size]
 ·cases hdst:r.o.dst <;> simp[Act.put,hI.defers]
 ·exact Ce ht (fun t=>⟨fun j h1 h2=>((hI.slot t).1 j h1 h2).mono hle,fun h=>((hI.slot t).2 h).mono hle⟩) hI.size hr hv hvi hS
theorem aaZ (ht:l7 P nt ops ri) {listed:Array Bool} (hsz:listed.size=ops.size) {i:Nat} {rest' : List Nat} (hI:F7 P nt ops ri T0 M0 ρ0 w0 k done (i :: rest') s (dR listed) ρ a w) (sS:Chk P ops T0 ri k s) {r:Row} (hi:i<ops.size) (hr:ri.rows[i]?=some r)
  (hd:∀ e∈r.o.after.toList,Region.binds .any e=true→dR listed e.on) (hnd:i ∉ rest') {v:AV} {v' : Value} {ρ' : Ren} {w' : World} {M' : RM} (hv:ak ρ' v v') {K:nT→Prop}
  (haft:After P s.M ρ w M' ρ' w') (hre:NV P ops T0 ri k ri.rows { vals:=s.vals.set i v,M:=M',bD:=s.bD } (wz P ops T0 ri (k + 1) rest' { vals:=s.vals.set i v,M:=M',bD:=s.bD } K)) :
  ∃ s3,F7 P nt ops ri T0 M0 ρ0 w0 (k + 1) (done++[i]) rest' s3 (dR (listed.setIfInBounds i true)) ρ' (a.put r.o.dst v') w'∧Chk P ops T0 ri (k + 1) s3∧Pj P ops T0 ri (k + 1) s3 K rest':=by
 have hS:∀ j,dR (listed.setIfInBounds i true) j↔dR listed j∨j=i:=sK (by omega)
 obtain⟨e1,e2,e3,e4,e5⟩:=ht.row hr
 have hmem:i∈ri.es:=by rw[hI.es]; simp
 have hke:=(ht.rR hr).1 hmem
 have hle:=haft.le hI.kW
 -- an alive row that was done does not look at the effect
 have an0:ri.es[k]?=some i:=by
  rw[hI.es,List.getElem?_append_right (by rw[hI.len]; omega),hI.len]; simp
 have aly:∀ r'∈ri.rows,r'.lev≤k→Nat.testBit r'.m i=true→False:=by
  intro r' hr' hl hb
  obtain⟨q,hq⟩:=List.mem_iff_getElem?.1 hr'
  obtain⟨g1,g2,g3,g4,g5⟩:=ht.row hq
  have key:∀ (es:List Nat) (i0 lW k:Nat),es[k]?=some i→i0 + k + 1≤ll r'.m es i0 lW:=by
   intro es
   induction es with
   | nil=>intro i0 lW k h; simp at h
   | cons x es ih =>
     intro i0 lW k h
     simp only[ll]
     cases k with
     | zero =>
       simp at h; subst h
       rw[hb]
       simp only
       have mono:∀ (es:List Nat) (j lW:Nat),lW≤j→lW≤ll r'.m es j lW:=by
        intro es
        induction es with
        | nil=>intro j lW _; exact Nat.le_refl _
        | cons y es ih2 =>
          intro j lW hbj
          simp only[ll]
          split
          ·exact Nat.le_trans (by omega) (ih2 (j + 1) (j + 1) (Nat.le_refl _))
          ·exact ih2 (j + 1) lW (by omega)
       exact mono es (i0 + 1) (i0 + 1) (Nat.le_refl _)
     | succ k =>
       split
       ·have:=ih (i0 + 1) (i0 + 1) k (by simpa using h); omega
       ·have:=ih (i0 + 1) lW k (by simpa using h); omega
  have:=key ri.es 0 0 k an0
  rw[← g4] at this
  omega
 obtain⟨SV,hrows⟩:=II (s0:=s) ri.rows hre fun r' hr' f1 f2 f3=>by
  refine⟨sS r' hr' f1 ?_,fun j hj=>?_,rfl⟩
  ·unfold jw at f3 ⊢
   rw[Bool.and_eq_true] at f3 ⊢
   refine⟨aY.2 f2, ?_⟩
   have f4:=f3.2
   rw[List.all_eq_true] at f4 ⊢
   intro x hx
   refine f4 x ?_
   have:=List.take_subset_take_left ri.es (Nat.le_succ k)
   exact this hx
  ·simp only[Tree.bn]
   rw[if_neg]
   rintro rfl
   rcases hj with hj | hj
   ·exact aly r' hr' f2 hj
   ·obtain⟨q,hq⟩:=List.mem_iff_getElem?.1 hr'
    obtain⟨g1,_⟩:=ht.row hq
    have:q=j:=by omega
    subst this
    rw[hr] at hq; cases hq
    rw[f1] at hke; cases hke
 obtain⟨s3,hcont,hp⟩:=Hw (s := { vals:=s.vals.set i v,M:=M',bD:=s.bD }) ht (haft.rel.fr) (fun j b hb=>Nat.lt_of_lt_of_le (hI.bid j b hb).2.1 haft.next) SV
 have hkeep:∀ j,dR listed j∨j=i→s3.vals.get j=(s.vals.set i v).get j:=by
  intro j hj
  refine(hp.keep j fun r' hr' _=>?_).1
  rintro⟨hl,hk'⟩
  rcases hj with hj | rfl
  ·have:=hI.lev j r' hr' hk' hj; omega
  ·rw[hr] at hr'; cases hr'; rw[hke] at hk'; cases hk'
 have hvi:s3.vals.get i=some v:=by rw[hkeep i (.inr rfl),Tree.bn,if_pos rfl]
 refine⟨s3,⟨by rw[hI.es]; simp,by simp[hI.len], ?_, ?_, ?_, ?_, ?_, ?_, ?_,hp.rel _ _ haft.rel,hI.step.trans (haft.step.Vq hI.base) hI.next, ?_, ?_, ?_, ?_⟩, ?_,hcont⟩
 ·intro j o ho hj e he hb
  rcases(hS j).1 hj with hj | rfl
  ·exact(hS _).2 (.inl (hI.closed j o ho hj e he hb))
  ·rw[e2] at ho; cases ho
   exact(hS _).2 (.inl (hd e he hb))
 ·intro x hx
  rcases List.mem_append.1 hx with hx | hx
  ·exact(hS x).2 (.inl (hI.dn x hx))
  ·simp at hx; subst hx; exact(hS x).2 (.inr rfl)
 ·intro x hx hl
  rcases(hS x).1 hl with hl | rfl
  ·exact hI.rs x (.tail _ hx) hl
  ·exact hnd hx
 ·intro j r' hr' hk' hj
  rcases(hS j).1 hj with hj | rfl
  ·have:=hI.lev j r' hr' hk' hj; omega
  ·rw[hr] at hr'; cases hr'; rw[hke] at hk'; cases hk'
 ·cases hdst:r.o.dst <;> simp[Act.put,hI.size]
 ·cases hdst:r.o.dst <;> simp[Act.put,hI.defers]
 ·refine Ce ht (v:=v) (S:=dR listed) (fun t=>⟨fun j h1 h2=>?_,fun h=>((hI.slot t).2 h).mono hle⟩) hI.size hr hv hvi hS
  rw[hkeep j (.inl h2),Tree.bn]
  split
  ·rename_i e
   subst e
   exact absurd h2 (hI.rs j (.head _))
  ·exact((hI.slot t).1 j h1 h2).mono hle
 ·rw[hp.sub.1,← hI.base]; exact haft.base
 ·exact Nat.le_trans hI.next (Nat.le_trans haft.next hp.next)
 ·intro j b hb
  rcases hp.bD j b hb with h | ⟨h,h',_,r',hr'⟩
  ·obtain⟨b1,b2,b3,b4⟩:=hI.bid j b h
   refine⟨b1,Nat.lt_of_lt_of_le b2 (Nat.le_trans haft.next hp.next),fun hj=>?_,b4⟩
   rw[haft.step.ext b b2]
   exact b3 fun hl=>hj ((hS j).2 (.inl hl))
  ·refine⟨Nat.le_trans hI.next (Nat.le_trans haft.next h),h',fun _=>haft.rel.fresh h, ?_⟩
   obtain⟨g1,g2,_⟩:=ht.row hr'
   have:=(List.getElem?_eq_some_iff.1 g2).1
   rw[Array.length_toList] at this
   exact this
 ·intro j1 j2 b h1 h2
  rcases Nat.lt_or_ge b M'.next with hlt | hge
  ·have q:∀ j,s3.bD.get j=some (some b)→s.bD.get j=some (some b):=by
    intro j hj
    rcases hp.bD j b hj with k | ⟨k1,_⟩
    ·exact k
    ·simp only at k1; omega
   exact hI.zN j1 j2 b (q j1 h1) (q j2 h2)
  ·exact hp.zN j1 j2 b h1 h2 hge
 ·intro r' hr' f1 f3
  obtain⟨q,hq⟩:=List.mem_iff_getElem?.1 hr'
  obtain⟨g1,g2,g3,g4,g5⟩:=ht.row hq
  have f3':=f3
  unfold jw at f3'
  rw[Bool.and_eq_true] at f3'
  have hl:=aZ f3'.1
  by_cases he:r'.lev=k + 1
  ·exact hp.done q r' hq (Nat.zero_le _) he f1
  ·have hl' : r'.lev≤k:=by omega
   refine(hrows r' hr' f1 hl' f3).keep (fun j hj=>?_) ?_ hp.sub
   ·refine(hp.keep j fun r2 hr2 _=>?_).1
    rintro⟨h1,h2⟩
    rcases hj with hj | hj
    ·
     have hjm:r2.lev≤r'.lev:=by
      obtain⟨q1,q2,q3,q4,q5⟩:=ht.row hr2
      have sub:∀ x,Nat.testBit r2.m x=true→Nat.testBit r'.m x=true:=by
       intro x hx
       have hcl:Closed ops.toList (fun i=>Nat.testBit r'.m i=true∨i=q):=by
        intro i o ho hi e he' hb'
        rcases hi with hi | rfl
        ·exact .inl (TZ ht _ hq hi ho he' hb')
        ·rw[g2] at ho; cases ho
         exact .inl (Kl ht hq he' hb')
       rcases ht.BK hcl (.inl hj) q2 (by rw[q3]; exact hx) with h | h
       ·exact h
       ·subst h
        exfalso
        have hlt:j<x:=by
         have hc:Closed ops.toList (fun i=>i<x):=fun i o ho hi e he' hb'=>by have:=ht.xm i o ho e he' hb'; omega
         exact ht.ahead hc hq (fun e he' hb'=>ht.xm x r'.o g2 e he' hb') hj
        have hlt2:x<j:=by
         have hc:Closed ops.toList (fun i=>i<j):=fun i o ho hi e he' hb'=>by have:=ht.xm i o ho e he' hb'; omega
         exact ht.ahead hc hr2 (fun e he' hb'=>ht.xm j r2.o q2 e he' hb') hx
        omega
      rw[q4,g4]
      exact Db sub ri.es 0 0 0 (Nat.le_refl _) (Nat.le_refl _)
     omega
    ·have:q=j:=by omega
     subst this
     rw[hq] at hr2; cases hr2; omega
   ·refine(hp.keep r'.i fun r2 hr2 _=>?_).2
    rw[g1,hq] at hr2; cases hr2
    rintro⟨h1,_⟩; omega
theorem Y7 (hP:La P) (ht:l7 P nt ops ri) (xZ:∀ r∈ri.rows,rX ri r=true) {Q:Exit→Act→World→Prop} {K:nT→Prop}
  (hQ:∀ s ρ' a' w',K s→Step M0.lo M0.next ρ0 w0 ρ' w'→fe ρ' nt (Ap T0 s.vals ri.rows) a'→dw P ρ' s.M w'→s.M.base=M0.base→M0.next≤s.M.next→Q .normal a' w') :
  ∀ (fuel:Nat) (listed:Array Bool) (k:Nat) (done rest:List Nat) (s:nT) (ρ:Ren) (a:Act) (w:World),listed.size=ops.size→listed.toList.count false≤fuel →
    F7 P nt ops ri T0 M0 ρ0 w0 k done rest s (dR listed) ρ a w→Chk P ops T0 ri k s→Pj P ops T0 ri k s K rest→wpAny P .any ops Q fuel listed a w:=by
 have fin:∀ (listed:Array Bool) (k:Nat) (done rest:List Nat) (s:nT) (ρ:Ren) (a:Act) (w:World),listed.size=ops.size→(∀ i,i<ops.size→dR listed i) →
   F7 P nt ops ri T0 M0 ρ0 w0 k done rest s (dR listed) ρ a w→Pj P ops T0 ri k s K rest→Q .normal a w:=by
  intro listed k done rest s ρ a w hsz hall hI hcont
  have hrest:rest=[]:=by
   cases rest with
   | nil=>rfl
   | cons x rest =>
     have hx:x∈ri.es:=by rw[hI.es]; simp
     rw[ht.es,pQ] at hx
     obtain⟨j,o,hj,rfl,_⟩:=hx
     have:=(List.getElem?_eq_some_iff.1 hj).1
     exact absurd (hall (0 + j) (by simpa using this)) (hI.rs _ (.head _))
  subst hrest
  have hcont:K s:=hcont
  refine hQ s ρ a w hcont hI.step ⟨hI.size,fun t=>?_,hI.defers⟩ hI.kW hI.base hI.next
  obtain⟨g1,g2⟩:=hI.slot t
  refine BZ t _ ri.rows T0 (fun r hr hd=>?_) ?_
  ·obtain⟨q,hq⟩:=List.mem_iff_getElem?.1 hr
   obtain⟨e1,e2,_⟩:=ht.row hq
   have hql:=(List.getElem?_eq_some_iff.1 e2).1
   have:=g1 r.i (ht.dst q r hq t hd).1 (by rw[e1]; exact hall q (by simpa using hql))
   exact this
  ·by_cases hex:∃ j,ri.wr.get t=some j
   ·obtain⟨j,hj⟩:=hex
    obtain⟨o,ho,hdo⟩:=ht.wrs t j hj
    obtain⟨r,hr,rfl⟩:=ht.ex ho
    exact .inl ⟨r,List.mem_of_getElem? hr,hdo⟩
   ·exact .inr (g2 fun j hj=>absurd ⟨j,hj⟩ hex)
 intro fuel
 induction fuel with
 | zero =>
   intro listed k done rest s ρ a w hsz hcnt hI sS hcont
   have hall:∀ i,i<ops.size→dR listed i:=fun i hi=>Ko (by omega) (by omega)
   refine⟨?_,fin listed k done rest s ρ a w hsz hall hI hcont⟩
   rw[List.eq_nil_iff_forall_not_mem]
   intro i hi
   obtain⟨h1,h2,_⟩:=zM hsz hi
   exact h2 (hall i h1)
 | succ fuel ih =>
   intro listed k done rest s ρ a w hsz hcnt hI sS hcont
   refine⟨fun hr=>fin listed k done rest s ρ a w hsz (Eh ht hsz hr) hI hcont,fun i hi=>?_⟩
   obtain⟨hilt,hnl,o,ho,hd⟩:=zM hsz hi
   obtain⟨r,hr,rfl⟩:=ht.ex (j:=i) (o:=o) (by rw[Array.getElem?_toList]; exact ho)
   obtain⟨e1,e2,e3,e4,e5⟩:=ht.row hr
   have hrm:=List.mem_of_getElem? hr
   have he:=YY ht hI hr hnl hd (xZ r hrm)
   unfold wpOp
   simp only[ho]
   cases hk:jc r.kd with
   | false =>
     have hall:jw ri.ms ri.es k r=true:=by
      unfold jw
      rw[Bool.and_eq_true,List.all_eq_true]
      constructor
      ·rw[aY,e4]
       rcases xe (m:=r.m) ri.es 0 0 with h | ⟨q,x,a1,a2,a3⟩
       ·omega
       ·have hx:=ht.ahead hI.closed hr hd a2
        rw[a3]
        rcases Nat.lt_or_ge q k with h | h
        ·omega
        ·rw[hI.es,List.getElem?_append_right (by rw[hI.len]; exact h)] at a1
         exact absurd hx (hI.rs x (List.mem_of_getElem? a1))
      ·intro x hx
       rw[hI.es,List.take_left' hI.len] at hx
       rw[Bool.not_eq_true',← Bool.not_eq_true,e1,bQ]
       intro hb
       have hxe:x∈ri.es:=by rw[hI.es]; exact List.mem_append_left _ hx
       rw[ht.es,pQ] at hxe
       obtain⟨j,o',hj,hxj,_⟩:=hxe
       rw[Nat.zero_add] at hxj; subst hxj
       exact hnl (ht.BK hI.closed (hI.dn x hx) hj hb)
     have wO:r.lev≤k:=by
      unfold jw at hall
      rw[Bool.and_eq_true] at hall
      exact aZ hall.1
     have hok:=sS r hrm hk hall
     have hnb:∀ j b,s.bD.get j=some (some b)→¬ dR (listed.setIfInBounds i true) j→ρ b=none:=fun j b hb hj =>
      (hI.bid j b hb).2.2.1 fun hl=>hj ((sK (by omega) j).2 (.inl hl))
     have next:∀ {v:AV} {v' : Value} {ρ' : Ren} {w' : World},s.vals.get i=some v→ak ρ' v v'→ρ.le ρ'→dw P ρ' s.M w'→Step M0.lo M0.next ρ w ρ' w' →
       (∀ j b,s.bD.get j=some (some b)→¬ dR (listed.setIfInBounds i true) j→ρ' b=none)→wpAny P .any ops Q fuel (listed.setIfInBounds i true) (a.put r.o.dst v') w':=by
      intro v v' ρ' w' hvi hv hle hw hst hb
      exact ih _ k done rest s ρ' _ w' (by simpa using hsz) (count_set (by omega) hnl hcnt) (acB ht hsz hI hilt hr hd hk wO hvi hv hle hw hst hb) sS hcont
     have Gi:ρ.le ρ:=fun _ _ h=>h
     obtain⟨g,hg,hcase⟩:=hok
     obtain⟨gon,aaJ⟩:=K4 ht hI hr hd hg
     rw[e1] at hcase
     rcases hcase with⟨hon,v,hvi,hkd⟩ | ⟨hoff,hvi⟩
     ·rw[gon hon]
      simp only[if_true]
      refine .inl ?_
      have val:lF P r.o (iq T0 ri.wr s.vals r.m) s.M v→r.o.wp P a w (wpAny P .any ops Q fuel (listed.setIfInBounds i true)) Q:=by
       intro hgv
       obtain⟨v',h1,h2⟩:=hgv ρ w a.eval s.M (RM.Sub.refl _) hI.kW he
       exact jZ r.o h1 (next hvi h2 Gi hI.kW (Step.refl _ _ _) hnb)
      cases hkk:r.kd with
      | pure=>rw[hkk] at hkd; exact val (hkd _)
      | read=>rw[hkk] at hkd; exact val hkd
      | rR=>rw[hkk] at hkd; exact hkd.elim
      | alloc =>
        rw[hkk] at hkd
        obtain⟨x,mk,b,⟨y,hx,hle⟩,hbi,hy,hmk⟩:=hkd
        obtain⟨d,ob,u,inf,hrun,aoR,hrel,Z5⟩:=qP he hx w
        obtain⟨b1,b2,b3,b4⟩:=hI.bid i b hbi
        have hbn:=b3 hnl
        have hd' : dw P ρ s.M (if d=true then w.drew else w):=by cases d <;> simp[hI.kW,hI.kW.drew]
        have hsz' : (if d=true then w.drew else w).heap.size=w.heap.size:=by cases d <;> simp
        have hst' : Step M0.lo M0.next ρ w ρ (if d=true then w.drew else w):=by cases d <;> simp[Step.refl,Step.drew]
        obtain⟨h1,h2⟩:=ZK hd' (by omega) hbn b2 hy hle hrel
        replace h2:=h2.Vq hI.base
        refine jZ r.o hrun (next hvi (hmk▸Z5 _ b (by simp[Ren.add])) (Ren.sP hbn) h1 (hst'.trans h2 b1) fun j b' hb' hj=>?_)
        have hne:b'≠b:=by
         intro e
         subst e
         have hji:j≠i:=fun e=>hj ((sK (by omega) j).2 (.inr e))
         exact hji (hI.zN j i b' hb' hbi)
        unfold Ren.add
        rw[if_neg hne]
        exact hnb j b' hb' hj
     ·rw[aaJ hoff]
      simp only[Bool.false_eq_true,if_false]
      exact next hvi (.tup _ _ .nil) Gi hI.kW (Step.refl _ _ _) hnb
   | true =>
     have hie:i∈ri.es:=(ht.rR hr).2 hk
     rw[hI.es] at hie
     have hir:i∈rest:=by
      rcases List.mem_append.1 hie with h | h
      ·exact absurd (hI.dn i h) hnl
      ·exact h
     cases rest with
     | nil=>cases hir
     | cons x rest' =>
       have hxi:x=i:=by
        rcases List.mem_cons.1 hir with e | hm
        ·exact e.symm
        ·obtain⟨l1,l2,hl⟩:=List.append_of_mem hm
         have:=ht.chain (done++x :: l1) i l2 (by rw[hI.es,hl]; simp) x (by simp)
         rw[e3] at this
         exact absurd (ht.ahead hI.closed hr hd this) (hI.rs x (.head _))
       subst hxi
       have hnd:x ∉ rest':=by
        intro hm
        obtain⟨l1,l2,hl⟩:=List.append_of_mem hm
        have:=ht.chain (done++x :: l1) x l2 (by rw[hI.es,hl]; simp) x (by simp)
        rw[e3] at this
        exact hnl (ht.ahead hI.closed hr hd this)
       obtain⟨r',hr',hgs⟩:=hcont
       rw[bQ,hr] at hr'; cases hr'
       obtain⟨g,hg,hcase⟩:=tK hgs
       obtain⟨gon,aaJ⟩:=K4 ht hI hr hd hg
       have next:∀ {v:AV} {v' : Value} {ρ' : Ren} {w' : World} {M' : RM},ak ρ' v v'→After P s.M ρ w M' ρ' w' →
         NV P ops T0 ri k ri.rows { vals:=s.vals.set x v,M:=M',bD:=s.bD } (wz P ops T0 ri (k + 1) rest' { vals:=s.vals.set x v,M:=M',bD:=s.bD } K) →
         wpAny P .any ops Q fuel (listed.setIfInBounds x true) (a.put r.o.dst v') w':=by
        intro v v' ρ' w' M' hv haft hre
        obtain⟨s3,h1,h2,h3⟩:=aaZ ht hsz hI sS hilt hr hd hnd hv haft hre
        exact ih _ (k + 1) _ rest' s3 ρ' _ w' (by simpa using hsz) (count_set (by omega) hnl hcnt) h1 h2 h3
       rcases hcase with⟨hon,hn⟩ | ⟨hoff,hn⟩
       ·rw[gon hon]
        simp only[if_true]
        exact .inl (Vb (H9 hP (fun _=>rfl) hn) hI.kW he fun v v' M' ρ' w' haft hv hk=>next hv haft hk)
       ·rw[aaJ hoff]
        simp only[Bool.false_eq_true,if_false]
        exact next (.tup _ _ .nil) (After.refl hI.kW) hn
theorem Ja {vals:Tree AV} {t:Nat} : ∀ (rows:List Row) (T:Tree AV),(∀ r∈rows,r.o.dst≠some t)→(Ap T vals rows).get t=T.get t
 | [],T,_=>rfl
 | r :: rows,T,h=>by
   simp only[Ap]
   cases hd:r.o.dst with
   | none=>exact Ja rows T fun r' hr'=>h r' (.tail _ hr')
   | some d =>
     simp only
     rw[Ja rows _ fun r' hr'=>h r' (.tail _ hr'),Tree.bn,if_neg]
     intro e; subst e
     exact h r (.head _) hd
theorem UB (hP:La P) {id:Nat} {T:Tree AV} {M:RM} {K:Tree AV→RM→Prop} {Q:Exit→Act→World→Prop} (hM:After P M0 ρ0 w0 M ρ w) (hA:fe ρ nt T a)
  (hQ:∀ T' M' ρ' a' w',After P M0 ρ0 w0 M' ρ' w'→fe ρ' nt T' a'→K T' M'→(∀ t,(∀ o∈ops.toList,o.dst≠some t)→T'.get t=T.get t)→Q .normal a' w') (h:Wt P nt ops T M K) : (Code.region id ops true).wp P Q a w:=by
 unfold Wt at h
 split at h <;> first | (cases h; done) | skip
 rename_i ri hri
 split at h <;> first | (cases h; done) | skip
 rename_i xZ
 have ht:=Bw hri
 obtain⟨s1,h1,hp⟩:=Hw ht hM.rel.fr (fun j b hb=>by simp[Tree.get] at hb) h
 have hno:∀ i,¬ dR (Array.replicate ops.size false) i:=by
  intro i h
  unfold dR at h
  simp only[Array.getD_eq_getD_getElem?,Array.getElem?_replicate] at h
  split at h <;> simp at h
 refine wp_region_any hP.mixed (Y7 (M0:=M0) (ρ0:=ρ0) (w0:=w0) (T0:=T) hP ht (fun r hr=>List.all_eq_true.1 xZ r hr) (fun s ρ' a' w' k0 k1 k2 k3 k4 k5=>hQ _ _ ρ' a' w' ⟨k1,k3,k4,k5⟩ k2 k0 (fun t hnt=>Ja ri.rows T fun r hr=>by
   obtain⟨q,hq⟩:=List.mem_iff_getElem?.1 hr
   exact hnt r.o (List.mem_of_getElem? (ht.row hq).2.1))) ops.size _ 0 [] ri.es s1 ρ a _ (by simp) (by simp) ?_ ?_ h1)
 ·refine⟨rfl,rfl,fun i o _ hi=>absurd hi (hno i),(fun x hx=>by cases hx),fun x _=>hno x,fun j r _ _ hj=>absurd hj (hno j),hA.size,hA.defers,fun t=>⟨fun j _ hj=>absurd hj (hno j),fun _=>hA.val t⟩,hp.rel _ _ hM.rel.drew,hM.step.trans (Step.drew (n:=M0.next)) (Nat.le_refl _),by rw[hp.sub.1]; exact hM.base,Nat.le_trans hM.next hp.next,fun j b hb'=>?_,fun j1 j2 b b1 b2=>?_⟩
  ·rcases hp.bD j b hb' with h | ⟨h,h',_,r,hr⟩
   ·simp[Tree.get] at h
   ·refine⟨Nat.le_trans hM.next h,h',fun _=>hM.rel.fresh h, ?_⟩
    obtain⟨g1,g2,_⟩:=ht.row hr
    have:=(List.getElem?_eq_some_iff.1 g2).1
    rw[Array.length_toList] at this
    exact this
  ·rcases hp.bD j1 b b1 with h | ⟨h,_⟩
   ·simp[Tree.get] at h
   ·exact hp.zN j1 j2 b b1 b2 h
 ·intro r hr hk hal
  obtain⟨q,hq⟩:=List.mem_iff_getElem?.1 hr
  unfold jw at hal
  rw[Bool.and_eq_true] at hal
  exact hp.done q r hq (Nat.zero_le _) (by have:=aZ hal.1; omega) hk
end
def Rv:Option Tmp→Nat
 | some d=>2 ^ d
 | none=>0
def Zz:Operand→Nat
 | .tmp t=>2 ^ t
 | _=>0
def Zf:List Operand→Nat
 | []=>0
 | x :: xs=>Zz x ||| Zf xs
def abS (L m:Nat) : Nat:=L ^^^ (L &&& m)
def LJ:List Oper→Nat
 | []=>0
 | o :: os=>Rv o.dst ||| LJ os
def gZ:Nat→Code→Nat
 | 0,_=>0
 | f + 1,c=>match c with
   | .region _ ops _=>LJ ops.toList
   | .seq a b=>gZ f a ||| gZ f b
   | .cond _ a b=>gZ f a ||| gZ f b
   | .block _ c=>gZ f c
   | .loop c=>gZ f c
   | .scope c=>gZ f c
   | _=>0
def Vn:List Oper→Nat→Nat
 | [],L=>L
 | o :: os,L=>abS (Vn os L) (Rv o.dst) ||| Zf o.op.operands.toList
def Yt:List (Nat × Nat)→Nat→Nat
 | [],_=>0
 | (i,L) :: r,id=>match Nat.beq i id with
   | true=>L
   | false=>Yt r id
def iC (ret:Nat) : Nat→List (Nat × Nat)→Code→Nat→Nat
 | 0,_,_,_=>0
 | f + 1,env,c,L=>match c with
   | .skip=>L
   | .region _ ops _=>Vn ops.toList L
   | .seq a b=>iC ret f env a (iC ret f env b L)
   | .cond c a b=>Zz c ||| iC ret f env a L ||| iC ret f env b L
   | .block id c=>iC ret f ((id,L) :: env) c L
   | .loop c=>iC ret f env c (iC ret f env c 0)
   | .exit id=>Yt env id
   | .ret=>ret
   | .scope c=>iC ret f env c L
   | .label _=>L
   | _=>0
def cap2 (n:Nat) : Nat:=match n with | 0=>0 | 1=>1 | _=>2
def uB (id:Nat) : Nat→Code→Nat
 | 0,_=>2
 | f + 1,c=>match c with
   | .seq a b=>cap2 (uB id f a + uB id f b)
   | .cond _ a b=>cap2 (uB id f a + uB id f b)
   | .block _ c=>uB id f c
   | .loop c=>uB id f c
   | .exit i=>match Nat.beq i id with | true=>1 | false=>0
   | _=>0
def xV:Nat→Code→Nat
 | 0,_=>2
 | f + 1,c=>match c with
   | .skip=>1
   | .region _ _ _=>1
   | .seq a b=>cap2 (xV f a * xV f b)
   | .cond _ a b=>cap2 (xV f a + xV f b)
   | .block id c=>cap2 (xV f c + uB id f c)
   | .scope c=>xV f c
   | .label _=>1
   | _=>0
def BU (m:Nat) : Nat→Nat→List Nat
 | _,0=>[]
 | i,n + 1=>match Nat.testBit m i with
   | true=>i :: BU m (i + 1) n
   | false=>BU m (i + 1) n
def bitsOf (m nt:Nat) : List Nat:=BU m 0 nt
def Aq (T:Tree AV) : List Nat→List AV
 | []=>[]
 | t :: ts=>(T.get t).getD .top :: Aq T ts
def aa:List AV→Nat→AV
 | [],_=>.top
 | x :: _,0=>x
 | _ :: xs,n + 1=>aa xs n
def Dx (T:Tree AV) : List Nat→Tree AV
 | []=>T
 | t :: ts=>Dx (T.set t .top) ts
def Q0 (T:Tree AV) (xs:List AV) : Nat→List Nat→Tree AV
 | _,[]=>T
 | i,t :: ts=>Q0 (T.set t (aa xs i)) xs (i + 1) ts
def CY (T:Tree AV) (asg vs:List Nat) (xs:List AV) : Tree AV:=Q0 (Dx T asg) xs 0 vs
def ay (x:AV) (p q:Prop) : Prop :=
 match x with
 | .sc (.bool b)=>(b=true→p)∧(b=false→q)
 | _=>False
def cz (f:(List AV→RM→Prop)→Prop) (g:List AV→RM→Prop) : Prop:=f g
def aV (body:(List AV→RM→Prop)→List AV→RM→Prop) (xs:List AV) (M:RM) : Prop :=
 ∃ (I:Nat→List AV→RM→Prop) (n:Nat),I n xs M∧∀ m ys M',I m ys M'→body (fun zs M''=>∃ m',m'<m∧I m' zs M'') ys M'
abbrev K3:=Ex→Tree AV→RM→Prop
def wpC (P:Program) (nt ret:Nat) : Nat→Code→List (Nat × Nat)→Nat→Tree AV→RM→K3→Prop
 | 0,_,_,_,_,_,_=>False
 | f + 1,c,env,L,T,M,K=>match c with
   | .skip=>K .normal T M
   | .region _ ops false=>MM P nt ops ops.toList T M (fun T' M'=>K .normal T' M')
   | .region _ ops true=>Wt P nt ops T M (fun T' M'=>K .normal T' M')
   | .seq a b=>match Nat.ble (xV f a) 1 with
     | true=>wpC P nt ret f a env (iC ret f env b L) T M (fun e T' M'=>match e with
       | .normal=>wpC P nt ret f b env L T' M' K
       | e=>K e T' M')
     | false=>cz (fun J=>wpC P nt ret f a env (iC ret f env b L) T M (fun e T' M'=>match e with
       | .normal=>J (Aq T' (bitsOf (gZ f a &&& iC ret f env b L) nt)) M'
       | e=>K e T' M'))
       (fun xs M'=>wpC P nt ret f b env L (CY T (bitsOf (gZ f a) nt) (bitsOf (gZ f a &&& iC ret f env b L) nt) xs) M' K)
   | .cond c a b=>ay (mf T c) (wpC P nt ret f a env L T M K) (wpC P nt ret f b env L T M K)
   | .block id c=>wpC P nt ret f c ((id,L) :: env) L T M (fun e T' M'=>match e with
     | .exit i=>match Nat.beq i id with
       | true=>K .normal T' M'
       | false=>K (.exit i) T' M'
     | e=>K e T' M')
   | .loop c=>aV (fun next xs M'=>wpC P nt ret f c env (iC ret f env c (iC ret f env c 0)) (CY T (bitsOf (gZ f c) nt) (bitsOf (gZ f c &&& iC ret f env c (iC ret f env c 0)) nt) xs) M'
     (fun e T' M'=>match e with
      | .normal=>next (Aq T' (bitsOf (gZ f c &&& iC ret f env c (iC ret f env c 0)) nt)) M'
      | e=>K e T' M'))
     (Aq T (bitsOf (gZ f c &&& iC ret f env c (iC ret f env c 0)) nt)) M
   | .exit id=>K (.exit id) T M
   | .ret=>K .ret T M
   | .scope c=>wpC P nt ret f c env L T M K
   | .label _=>K .normal T M
   | _=>False
def aaq (P:Program) (T:Tree AV) (M:RM) (r:ResultVar) (K:AV→Prop) : Prop :=
 match r with
 | .tmp t=>K ((T.get t).getD .top)
 | .cell a t=>match dD P t with
   | some false=>aj M ((T.get a).getD .top) K
   | some true=>match bf P t with
     | some n=>aF M ((T.get a).getD .top) n K
     | none=>False
   | none=>False
def abl (P:Program) (T:Tree AV) (M:RM) : List ResultVar→(List AV→Prop)→Prop
 | [],K=>K []
 | r :: rs,K=>aaq P T M r (fun v=>abl P T M rs (fun vs=>K (v :: vs)))
def aj5 (Q:ai) (M:RM) : List AV→Prop
 | [v]=>Q v M
 | vs=>Q (.tup vs) M
def MP:List ResultVar→Nat
 | []=>0
 | .tmp t :: rs=>2 ^ t ||| MP rs
 | .cell a _ :: rs=>2 ^ a ||| MP rs
def YA (P:Program) (fn:Func) (c:Code) (args:List AV) (M:RM) (Q:ai) : Prop :=
 wpC P (args.length + (fn.ntmps - args.length)) (MP fn.results.toList) 1000 c [] 0 (Tree.ofList args 0 .leaf) M
  (fun e T M'=>match e with
   | .exit _=>False
   | _=>abl P T M' fn.results.toList (aj5 Q M'))
section
variable {P:Program} {nt ret:Nat}
def XP (P:Program) (nt:Nat) (M0:RM) (ρ0:Ren) (w0:World) (T:Tree AV) (asg:Nat) (K:K3) (e:Exit) (a:Act) (w:World) : Prop :=
 ∃ x T' M' ρ',e=MJ x∧After P M0 ρ0 w0 M' ρ' w∧fe ρ' nt T' a∧(∀ t,Nat.testBit asg t=false→T'.get t=T.get t)∧K x T' M'
theorem QV {T:Tree AV} : ∀ (vs:List Nat) (i:Nat),aa (Aq T vs) i=match vs[i]? with | some t=>(T.get t).getD .top | none=>.top
 | [],i=>by simp[Aq,aa]
 | t :: vs,0=>by simp[Aq,aa]
 | t :: vs,i + 1=>by simp[Aq,aa,QV vs i]
theorem FV:∀ (asg:List Nat) (T:Tree AV) (t:Nat),(Dx T asg).get t=if t∈asg then some .top else T.get t
 | [],T,t=>by simp[Dx]
 | d :: asg,T,t=>by
   simp only[Dx,FV asg,Tree.bn,List.mem_cons]
   by_cases h1:t∈asg
   ·simp[h1]
   ·by_cases h2:t=d <;> simp[h1,h2]
theorem IA:∀ (vs:List Nat) (T:Tree AV) (xs:List AV) (i t:Nat),(t ∉ vs∧(Q0 T xs i vs).get t=T.get t)∨∃ j,vs[j]?=some t∧(Q0 T xs i vs).get t=some (aa xs (i + j))
 | [],T,xs,i,t=>.inl ⟨by simp,rfl⟩
 | d :: vs,T,xs,i,t=>by
   simp only[Q0]
   rcases IA vs (T.set d (aa xs i)) xs (i + 1) t with⟨h1,h2⟩ | ⟨j,h1,h2⟩
   ·rw[Tree.bn] at h2
    by_cases e:t=d
    ·rw[if_pos e] at h2
     exact .inr ⟨0,by simp[e],h2⟩
    ·rw[if_neg e] at h2
     exact .inl ⟨by simp[e,h1],h2⟩
   ·exact .inr ⟨j + 1,by simpa using h1,by rw[h2]; congr 2; omega⟩
theorem DZ {m:Nat} : ∀ (n i t:Nat),t∈BU m i n↔i≤t∧t<i + n∧Nat.testBit m t=true
 | 0,i,t=>by simp[BU]; omega
 | n + 1,i,t=>by
   simp only[BU]
   split
   ·rename_i h
    rw[List.mem_cons,DZ n (i + 1) t]
    constructor
    ·rintro(rfl | ⟨a,b,c⟩)
     ·exact⟨Nat.le_refl _,by omega,h⟩
     ·exact⟨by omega,by omega,c⟩
    ·rintro⟨a,b,c⟩
     by_cases e:t=i
     ·exact .inl e
     ·exact .inr ⟨by omega,by omega,c⟩
   ·rename_i h
    rw[DZ n (i + 1) t]
    constructor
    ·rintro⟨a,b,c⟩; exact⟨by omega,by omega,c⟩
    ·rintro⟨a,b,c⟩
     have:t≠i:=fun e=>by subst e; rw[h] at c; cases c
     exact⟨by omega,by omega,c⟩
theorem xy {m n t:Nat} : t∈bitsOf m n↔t<n∧Nat.testBit m t=true:=by
 unfold bitsOf; rw[DZ]; simp
theorem EY {ρ:Ren} {T T' : Tree AV} {a:Act} {asg:Nat} {vs:List Nat} (h:fe ρ nt T' a) (hge:∀ t,nt≤t→ak ρ ((T.get t).getD .top) undef) (hk:∀ t,Nat.testBit asg t=false→T'.get t=T.get t) : fe ρ nt (CY T (bitsOf asg nt) vs (Aq T' vs)) a:=by
 refine⟨h.size,fun t=>?_,h.defers⟩
 unfold CY
 rcases IA vs (Dx T (bitsOf asg nt)) (Aq T' vs) 0 t with⟨_,h2⟩ | ⟨j,h1,h2⟩
 ·rw[h2,FV]
  split
  ·exact .top _
  ·rename_i hm
   by_cases hb:Nat.testBit asg t=true
   ·have hge' : nt≤t:=by
     rcases Nat.lt_or_ge t nt with hlt | hge
     ·exact absurd (xy.2 ⟨hlt,hb⟩) hm
     ·exact hge
    have hv:a.tmps.getD t undef=undef:=by
     rw[Array.getD_eq_getD_getElem?,Array.getElem?_eq_none (by rw[h.size]; exact hge')]; rfl
    rw[hv]; exact hge t hge'
   ·rw[← hk t (by simpa using hb)]
    exact h.val t
 ·rw[h2,Nat.zero_add,QV,h1]
  exact h.val t
theorem J8 {T:Tree AV} {asg:Nat} {vs:List Nat} {xs:List AV} (hvs:∀ t∈vs,Nat.testBit asg t=true) (t:Nat) (h:Nat.testBit asg t=false) : (CY T (bitsOf asg nt) vs xs).get t=T.get t:=by
 unfold CY
 rcases IA vs (Dx T (bitsOf asg nt)) xs 0 t with⟨_,h2⟩ | ⟨j,h1,h2⟩
 ·rw[h2,FV,if_neg]
  intro hm
  rw[(xy.1 hm).2] at h; cases h
 ·have:=hvs t (List.mem_of_getElem? h1)
  rw[h] at this; cases this
theorem fe.ge {ρ:Ren} {T:Tree AV} {a:Act} (h:fe ρ nt T a) : ∀ t,nt≤t→ak ρ ((T.get t).getD .top) undef:=by
 intro t ht
 have:=h.val t
 rw[Array.getD_eq_getD_getElem?,Array.getElem?_eq_none (by rw[h.size]; exact ht)] at this
 exact this
theorem HY {c:Code} {Q:Exit→Act→World→Prop} : ∀ {n m:Nat} {a:Act} {w:World},n≤m→Code.rounds P c Q n a w→Code.rounds P c Q m a w
 | 0,_,_,_,_,h=>h.elim
 | n + 1,m + 1,a,w,hle,h=>by
   rw[rounds_succ] at h ⊢
   refine wp_mono h fun e a' w' hp=>?_
   cases e with
   | normal=>exact HY (Nat.le_of_succ_le_succ hle) hp
   | exit id=>exact hp
   | ret=>exact hp
   | goto l=>exact hp
   | panic c=>exact hp
   | outgrown=>exact hp
theorem Cw {t:Nat} : ∀ (l:List Oper),Nat.testBit (LJ l) t=false→∀ o∈l,o.dst≠some t
 | [],_,o,ho=>by cases ho
 | x :: l,h,o,ho=>by
   simp only[LJ,Nat.testBit_or,Bool.or_eq_false_iff] at h
   rcases List.mem_cons.1 ho with rfl | ho
   ·intro e
    rw[e] at h
    simp[Rv,Nat.testBit_two_pow] at h
   ·exact Cw l h.2 o ho
theorem YB {ρ:Ren} {x:AV} {u:Value} {p q:Prop} (h:ay x p q) (hx:ak ρ x u) : ∃ b,u=.bool b∧(b=true→p)∧(b=false→q):=by
 unfold ay at h
 split at h <;> first | (cases h; done) | skip
 rename_i b
 exact⟨b,(aQ hx).1,h.1,h.2⟩
theorem Zb (hP:La P) : ∀ (f:Nat) (c:Code) (env:List (Nat × Nat)) (L:Nat) (T:Tree AV) (M:RM) (K:K3),wpC P nt ret f c env L T M K →
  ∀ (M0:RM) (ρ0:Ren) (w0:World) (ρ:Ren) (a:Act) (w:World),After P M0 ρ0 w0 M ρ w→fe ρ nt T a→c.wp P (XP P nt M0 ρ0 w0 T (gZ f c) K) a w:=by
 intro f
 induction f with
 | zero=>intro c env L T M K h; exact h.elim
 | succ f ih =>
   intro c env L T M K h M0 ρ0 w0 ρ a w hM hA
   cases c with
   | skip=>exact wp_skip ⟨.normal,T,M,ρ,rfl,hM,hA,fun _ _=>rfl,h⟩
   | region id ops d =>
     cases d with
     | false =>
       refine wp_region ?_
       have:=CG (nt:=nt) hP (ops:=ops) (Q:=XP P nt M0 ρ0 w0 T (gZ (f + 1) (.region id ops false)) K) (K:=fun T' M'=>K .normal T' M') (M0:=M0) (ρ0:=ρ0) (w0:=w0) (T0:=T)
        (fun T' M' ρ' a' w' k1 k2 k3 k4=>⟨.normal,T',M',ρ',rfl,k1,k2,fun t ht=>k4 t (Cw _ ht),k3⟩) ops.toList 0 (by simp) hA hM (fun _ _=>rfl) h
       rw[Array.length_toList,← List.range_eq_range'] at this
       exact this
     | true =>
       exact UB (nt:=nt) (T:=T) hP hM hA (fun T' M' ρ' a' w' k1 k2 k3 k4=>⟨.normal,T',M',ρ',rfl,k1,k2,fun t ht=>k4 t (Cw _ ht),k3⟩) h
   | seq c1 c2 =>
     simp only[wpC] at h
     refine wp_seq ?_
     split at h
     ·refine wp_mono (ih c1 _ _ _ _ _ h M0 ρ0 w0 ρ a w hM hA) fun e a' w' hp=>?_
      obtain⟨x,T1,M1,ρ1,rfl,k1,k2,k3,k4⟩:=hp
      cases x with
      | normal =>
        refine wp_mono (ih c2 _ _ _ _ _ k4 M0 ρ0 w0 ρ1 a' w' k1 k2) fun e a2 w2 hp=>?_
        obtain⟨x,T2,M2,ρ2,he,q1,q2,q3,q4⟩:=hp
        exact⟨x,T2,M2,ρ2,he,q1,q2,fun t ht=>by
         simp only[gZ,Nat.testBit_or,Bool.or_eq_false_iff] at ht
         rw[q3 t ht.2,k3 t ht.1],q4⟩
      | exit i=>exact⟨.exit i,T1,M1,ρ1,rfl,k1,k2,fun t ht=>by
        simp only[gZ,Nat.testBit_or,Bool.or_eq_false_iff] at ht
        exact k3 t ht.1,k4⟩
      | ret=>exact⟨.ret,T1,M1,ρ1,rfl,k1,k2,fun t ht=>by
        simp only[gZ,Nat.testBit_or,Bool.or_eq_false_iff] at ht
        exact k3 t ht.1,k4⟩
     ·unfold cz at h
      refine wp_mono (ih c1 _ _ _ _ _ h M0 ρ0 w0 ρ a w hM hA) fun e a' w' hp=>?_
      obtain⟨x,T1,M1,ρ1,rfl,k1,k2,k3,k4⟩:=hp
      have hge:∀ t,nt≤t→ak ρ1 ((T.get t).getD .top) undef:=fun t ht=>by
       have h1:=k2.ge t ht
       by_cases hb:Nat.testBit (gZ f c1) t=false
       ·rw[k3 t hb] at h1; exact h1
       ·have h0:=hA.ge t ht
        have hu:∀ (ρ ρ' : Ren) (x:AV),ak ρ x undef→ak ρ' x undef:=by
         intro ρ ρ' x hx
         unfold undef at hx ⊢
         cases hx with
         | top=>exact .top _
         | sc v p=>exact .sc _ p
         | tup xs vs a=>cases a; exact .tup _ _ .nil
        exact hu _ _ _ h0
      cases x with
      | normal =>
        refine wp_mono (ih c2 _ _ _ _ _ k4 M0 ρ0 w0 ρ1 a' w' k1 (EY k2 hge k3)) fun e a2 w2 hp=>?_
        obtain⟨x,T2,M2,ρ2,he,q1,q2,q3,q4⟩:=hp
        refine⟨x,T2,M2,ρ2,he,q1,q2,fun t ht=>?_,q4⟩
        simp only[gZ,Nat.testBit_or,Bool.or_eq_false_iff] at ht
        rw[q3 t ht.2]
        refine J8 (fun t' ht'=>?_) t ht.1
        have:=(xy.1 ht').2
        rw[Nat.testBit_and,Bool.and_eq_true] at this
        exact this.1
      | exit i=>exact⟨.exit i,T1,M1,ρ1,rfl,k1,k2,fun t ht=>by
        simp only[gZ,Nat.testBit_or,Bool.or_eq_false_iff] at ht
        exact k3 t ht.1,k4⟩
      | ret=>exact⟨.ret,T1,M1,ρ1,rfl,k1,k2,fun t ht=>by
        simp only[gZ,Nat.testBit_or,Bool.or_eq_false_iff] at ht
        exact k3 t ht.1,k4⟩
   | cond cnd c1 c2 =>
     simp only[wpC] at h
     obtain⟨b,hb,h1,h2⟩:=YB h (zX hA cnd)
     cases b with
     | true =>
       refine wp_cond_true hb (wp_mono (ih c1 _ _ _ _ _ (h1 rfl) M0 ρ0 w0 ρ a w hM hA) fun e a' w' hp=>?_)
       obtain⟨x,T1,M1,ρ1,he,k1,k2,k3,k4⟩:=hp
       exact⟨x,T1,M1,ρ1,he,k1,k2,fun t ht=>by
         simp only[gZ,Nat.testBit_or,Bool.or_eq_false_iff] at ht
         exact k3 t ht.1,k4⟩
     | false =>
       refine wp_cond_false hb (wp_mono (ih c2 _ _ _ _ _ (h2 rfl) M0 ρ0 w0 ρ a w hM hA) fun e a' w' hp=>?_)
       obtain⟨x,T1,M1,ρ1,he,k1,k2,k3,k4⟩:=hp
       exact⟨x,T1,M1,ρ1,he,k1,k2,fun t ht=>by
         simp only[gZ,Nat.testBit_or,Bool.or_eq_false_iff] at ht
         exact k3 t ht.2,k4⟩
   | block id c1 =>
     simp only[wpC] at h
     refine wp_block (wp_mono (ih c1 _ _ _ _ _ h M0 ρ0 w0 ρ a w hM hA) fun e a' w' hp=>?_)
     obtain⟨x,T1,M1,ρ1,rfl,k1,k2,k3,k4⟩:=hp
     cases x with
     | normal=>exact⟨.normal,T1,M1,ρ1,rfl,k1,k2,k3,k4⟩
     | ret=>exact⟨.ret,T1,M1,ρ1,rfl,k1,k2,k3,k4⟩
     | exit i =>
       simp only at k4
       split at k4
       ·rename_i he
        have he:=bu he
        subst he
        simp only[MJ,Exit.inBlock,if_true]
        exact⟨.normal,T1,M1,ρ1,rfl,k1,k2,k3,k4⟩
       ·rename_i he
        have he:=zC he
        simp only[MJ,Exit.inBlock,if_neg he]
        exact⟨.exit i,T1,M1,ρ1,rfl,k1,k2,k3,k4⟩
   | loop c1 =>
     simp only[wpC] at h
     obtain⟨I,n,hI,hbody⟩:=h
     have hvs:∀ t∈bitsOf (gZ f c1 &&& iC ret f env c1 (iC ret f env c1 0)) nt,Nat.testBit (gZ f c1) t=true:=fun t' ht'=>by
      have:=(xy.1 ht').2
      rw[Nat.testBit_and,Bool.and_eq_true] at this
      exact this.1
     generalize hv:bitsOf (gZ f c1 &&& iC ret f env c1 (iC ret f env c1 0)) nt=vs at hI hbody hvs
     have hu:∀ (ρ ρ' : Ren) (x:AV),ak ρ x undef→ak ρ' x undef:=by
      intro ρ ρ' x hx
      unfold undef at hx ⊢
      cases hx with
      | top=>exact .top _
      | sc v p=>exact .sc _ p
      | tup xs vs a=>cases a; exact .tup _ _ .nil
     have hge:∀ (ρ1:Ren) t,nt≤t→ak ρ1 ((T.get t).getD .top) undef:=fun ρ1 t ht=>hu _ _ _ (hA.ge t ht)
     have key:∀ (m:Nat) (ys:List AV) (M1:RM) (ρ1:Ren) (a1:Act) (w1:World),I m ys M1→After P M0 ρ0 w0 M1 ρ1 w1→fe ρ1 nt (CY T (bitsOf (gZ f c1) nt) vs ys) a1 →
       Code.rounds P c1 (XP P nt M0 ρ0 w0 T (gZ (f + 1) (.loop c1)) K) (m + 1) a1 w1:=by
      intro m
      induction m using Nat.strongRecOn with
      | _ m ihm =>
        intro ys M1 ρ1 a1 w1 hIm hM1 hA1
        rw[rounds_succ]
        refine wp_mono (ih c1 _ _ _ _ _ (hbody m ys M1 hIm) M0 ρ0 w0 ρ1 a1 w1 hM1 hA1) fun e a' w' hp=>?_
        obtain⟨x,T2,M2,ρ2,rfl,k1,k2,k3,k4⟩:=hp
        have k3' : ∀ t,Nat.testBit (gZ f c1) t=false→T2.get t=T.get t:=fun t ht=>by rw[k3 t ht]; exact J8 hvs t ht
        cases x with
        | normal =>
          obtain⟨m',hlt,hI'⟩:=k4
          exact HY (by omega) (ihm m' hlt _ M2 ρ2 a' w' hI' k1 (EY k2 (hge ρ2) k3'))
        | exit i=>exact⟨.exit i,T2,M2,ρ2,rfl,k1,k2,k3',k4⟩
        | ret=>exact⟨.ret,T2,M2,ρ2,rfl,k1,k2,k3',k4⟩
     exact wp_loop_rounds _ (key n _ M ρ a w hI hM (EY hA (hge ρ) fun _ _=>rfl))
   | exit id=>exact wp_exit ⟨.exit id,T,M,ρ,rfl,hM,hA,fun _ _=>rfl,h⟩
   | ret=>exact wp_ret ⟨.ret,T,M,ρ,rfl,hM,hA,fun _ _=>rfl,h⟩
   | rangeFunc=>simp[wpC] at h
   | scope c1 =>
     simp only[wpC] at h
     refine wp_scope_straight (wp_mono (ih c1 _ _ _ _ _ h M0 ρ0 w0 ρ a w hM hA) fun e a' w' hp=>?_)
     obtain⟨x,T1,M1,ρ1,rfl,k1,k2,k3,k4⟩:=hp
     cases x with
     | normal=>exact⟨.normal,T1,M1,ρ1,rfl,k1,k2,k3,k4⟩
     | exit i=>exact⟨.exit i,T1,M1,ρ1,rfl,k1,k2,k3,k4⟩
     | ret=>exact⟨.ret,T1,M1,ρ1,rfl,k1,k2,k3,k4⟩
   | label l=>exact wp_label ⟨.normal,T,M,ρ,rfl,hM,hA,fun _ _=>rfl,h⟩
   | goto=>simp[wpC] at h
   | refuse=>simp[wpC] at h
theorem X7 {ρ:Ren} {T:Tree AV} {M:RM} {a:Act} {w:World} (hA:fe ρ nt T a) (hw:dw P ρ M w) {r:ResultVar} {K:AV→Prop} (h:aaq P T M r K) :
  ∃ v v',(uj a.tmps r).run P w=.ok v' w∧ak ρ v v'∧K v:=by
 cases r with
 | tmp t=>exact⟨_,_,rfl,hA.val t,h⟩
 | cell x t =>
   simp only[aaq] at h
   have hv:=hA.val x
   split at h <;> first | (cases h; done) | skip
   ·rename_i ha
    obtain⟨b,p,v,hx,hl,hk⟩:=h
    rw[hx] at hv
    obtain⟨i,hb,hc⟩:=dO hv
    obtain⟨u,hu,hcell⟩:=NU hw hb hl
    refine⟨v,u, ?_,hu,hk⟩
    simp only[uj,hc,asAddr,Sem.run_bind,Sem.run_pure,Result.andThen_ok,loadVar,gT ha,Bool.false_eq_true,if_false,load,Sem.run,hcell]
   ·rename_i ha
    split at h <;> first | (cases h; done) | skip
    rename_i n hs
    obtain⟨b,p,xs,hx,hl,hk⟩:=h
    rw[hx] at hv
    obtain⟨i,hb,hc⟩:=dO hv
    obtain⟨vs,hr,hlen,_,hrun⟩:=RM.lm (P:=P) hw hb hl
    exact⟨.agg xs,.agg ⟨vs⟩,by simp only[uj,hc,asAddr,Sem.run_bind,Sem.run_pure,Result.andThen_ok,loadVar,gT ha,if_true,cB hs,hrun],.agg _ _ hr,hk⟩
theorem Dw {ρ:Ren} {T:Tree AV} {M:RM} {a:Act} {w:World} (hA:fe ρ nt T a) (hw:dw P ρ M w) : ∀ (rs:List ResultVar) (K:List AV→Prop),abl P T M rs K →
  ∃ vs us,(rs.mapM (uj a.tmps)).run P w=.ok us w∧aW ρ vs us∧K vs
 | [],K,h=>⟨[],[],by simp,.nil,h⟩
 | r :: rs,K,h=>by
   obtain⟨v,v',h1,h2,h3⟩:=X7 hA hw h
   obtain⟨vs,us,h4,h5,h6⟩:=Dw hA hw rs _ h3
   refine⟨v :: vs,v' :: us, ?_,.cons _ _ _ _ h2 h5,h6⟩
   simp only[List.mapM_cons,Sem.run_bind,h1,Result.andThen_ok,h4,Sem.run_pure]
theorem NG (hP:La P) {f:FuncId} {fn:Func} {c:Code} {args:List AV} {M:RM} {Q:ai} (hfn:P.funcs[f]?=some fn) (hbody:fn.body=some c) (h:YA P fn c args M Q) : fQ P f args M Q:=by
 refine⟨⟨fn,c,hfn,hbody⟩,fun ρ w us hargs hw=>?_⟩
 have hlen:=hargs.length
 have hA:fe ρ (args.length + (fn.ntmps - args.length)) (Tree.ofList args 0 .leaf) { tmps:=⟨us⟩++Array.replicate (fn.ntmps - (⟨us⟩ : Array Value).size) undef,defers:=[] } := by
  refine⟨by simp[hlen],fun t=>?_,rfl⟩
  rw[Tree.jP]
  by_cases ht:t<args.length
  ·rw[if_pos (by omega),Nat.sub_zero]
   obtain⟨u,hu,hv⟩:=hargs.get (n:=t) (x:=args[t]) (by simp[ht])
   rw[List.getElem?_eq_getElem ht]
   simp only[Option.getD_some]
   have:((⟨us⟩ : Array Value)++Array.replicate (fn.ntmps - (⟨us⟩ : Array Value).size) undef).getD t undef=u:=by
    rw[Array.getD_eq_getD_getElem?,Array.getElem?_append_left (by simp; omega)]
    simp[hu]
   rw[this]; exact hv
  ·rw[if_neg (by omega)]
   exact .top _
 refine calls_of_wp hfn hbody (wp_mono (Zb hP 1000 c [] 0 _ M _ h M ρ w ρ _ w (After.refl hw) hA) fun e a w' hp=>?_)
 obtain⟨x,T',M',ρ',rfl,k1,k2,k3,k4⟩:=hp
 have key:(∃ vs us,(fn.results.toList.mapM (uj a.tmps)).run P w'=.ok us w'∧aW ρ' vs us∧aj5 Q M' vs) →
   a.defers=[]∧∃ v,(results fn a.tmps).run P w'=.ok v w'∧∃ v' v_1 ail aib,Ending.returned v=.returned v'∧After P M ρ w ail aib w'∧ak aib v_1 v'∧Q v_1 ail:=by
  rintro⟨vs,us,h1,h2,h3⟩
  have hres:(results fn a.tmps).run P w'=.ok (if h:(⟨us⟩ : Array Value).size=1 then(⟨us⟩ : Array Value)[0] else .tuple ⟨us⟩) w':=by
   have e:results fn a.tmps=(fn.results.mapM (uj a.tmps) >>= fun vs=>pure (if h:vs.size=1 then vs[0] else .tuple vs)):=rfl
   rw[e,Array.mapM_eq_mapM_toList]
   simp only[Sem.run_bind,Sem.run_map,h1,Result.andThen_ok,Sem.run_pure]
  refine⟨k2.defers,_,hres, ?_⟩
  cases h2 with
  | nil=>exact⟨_,_,M',ρ',rfl,k1,.tup _ _ .nil,h3⟩
  | cons x v xs vs2 hv htl =>
    cases htl with
    | nil=>exact⟨_,x,M',ρ',rfl,k1,hv,h3⟩
    | cons y u ys us2 hu an4=>exact⟨_,_,M',ρ',rfl,k1,.tup _ _ (.cons _ _ _ _ hv (.cons _ _ _ _ hu an4)),h3⟩
 cases x with
 | normal=>exact key (Dw k2 k1.rel _ _ k4)
 | ret=>exact key (Dw k2 k1.rel _ _ k4)
 | exit id=>exact k4.elim
abbrev au:=List AV→RM→ai→Prop
def LZ (P:Program) (fn:Func) (args:List AV) (M:RM) (Q:ai) : Prop :=
 match fn.body with
 | some c=>YA P fn c args M Q
 | none=>False
theorem Y8 (hP:La P) {f:FuncId} {fn:Func} {args:List AV} {M:RM} {Q:ai} (hfn:P.funcs[f]?=some fn) (h:LZ P fn args M Q) : fQ P f args M Q:=by
 unfold LZ at h
 split at h
 ·rename_i c hc; exact NG hP hfn hc h
 ·cases h
end
end Go.Ab
set_option maxRecDepth 100000
namespace Go.Ab.Vw
open Go Go.Ab
def qf (p1 p2 p3 p4:au) (p5:Nat) (p6:au) (a0 a1 a2:AV) (M0:RM) (Q:ai) : Prop :=
 p1 [] M0 fun t17 M =>
 dQ t17 fun t18 =>
 ay t18 (
 Q (Bo false) M) (
 bH a0 fun t20 =>
 ae .gtr t20 (N .i64 50) fun t21 =>
 ah t21 false (fun k=>k a1 M) (fun k=>k .undef M) fun t23 M_0 =>
 ah t21 false (fun k_1=>mg t23 fun t24 =>
 k_1 t24 M_0) (fun k=>k .undef M_0) fun al5 M_3 =>
 ah t21 false (fun k_4=>ae .gtr al5 (N .i64 50) fun t25 =>
 k_4 t25 M_3) (fun k=>k .undef M_3) fun ak9 M_6 =>
 aK t21 (Bo true) ak9 fun t26 =>
 ah t26 false (fun k_7=>k_7 a2 M_6) (fun k=>k .undef M_6) fun t28 M_8 =>
 ah t26 false (fun k_9=>ae .lss t28 (N .i64 0) fun t29 =>
 k_9 t29 M_8) (fun k=>k .undef M_8) fun ajr dI =>
 aK t26 (Bo true) ajr fun t30 =>
 ah t30 false (fun mZ=>mZ a2 dI) (fun k=>k .undef dI) fun t32 dM =>
 ah t30 false (fun iG=>iG a1 dM) (fun k=>k .undef dM) fun t33 jQ =>
 ah t30 false (fun IR=>mg t33 fun t34 =>
 IR t34 jQ) (fun k=>k .undef jQ) fun agH dV =>
 ah t30 false (fun nY=>ae .gtr t32 agH fun t35 =>
 nY t35 dV) (fun k=>k .undef dV) fun ahb dW =>
 aK t30 (Bo true) ahb fun t36 =>
 ay t36 (
 Q (Bo true) dW) (
 p2 [a0] dW fun t38 fO =>
 p3 [t38] fO fun t39 ku =>
 p4 [t39,a1] ku fun t42 kI =>
 iK (EJ a1 none (some a2)) fun t46 =>
 p4 [t39,t46] kI fun t47 fG =>
 p4 [t39,(St [])] fG fun t49 jR =>
 aV (fun next xs jD =>
 bH t47 fun t52 =>
 ae .lss (aa xs 1) t52 fun t53 =>
 ah t53 true (fun nk=>nk (aa xs 0) jD) (fun k=>k .undef jD) fun t55 iL =>
 ah t53 true (fun Jb=>Jb t42 iL) (fun k=>k .undef iL) fun t56 mP =>
 ah t53 true (fun yD=>bH t56 fun t57 =>
 yD t57 mP) (fun k=>k .undef mP) fun afh eU =>
 ah t53 true (fun kC=>ae .lss t55 afh fun t58 =>
 kC t58 eU) (fun k=>k .undef eU) fun aho dx =>
 aK t53 aho (Bo false) fun t59 =>
 ay t59 (
 cz (fun J =>
 ax t47 (aa xs 1) 1 fun t64 =>
 aj dx t64 fun t65 =>
 ax t42 (aa xs 0) 1 fun t68 =>
 aj dx t68 fun t69 =>
 iJ .eql t65 t69 fun t70 =>
 ay t70 (
 ae .add (aa xs 0) (N .i64 1) fun t72 =>
 J [t72] dx) (
 J [(aa xs 0)] dx)) (fun al8 j6 =>
 ae .add (aa xs 1) (N .i64 1) fun t61 =>
 next [(aa al8 0),t61] j6)) (
 FW p5 a1 fun r f =>
 bP r f dx fun t74 yF =>
 aV (fun adS Gl gW =>
 bH t74 fun t77 =>
 ae .lss (aa Gl 0) t77 fun t78 =>
 ay t78 (
 cz (fun aga =>
 ax t74 (aa Gl 0) 1 fun t83 =>
 aj gW t83 fun t84 =>
 ae .geq t84 (N .u8 97) fun t85 =>
 ah t85 true (fun Cu=>Cu t74 gW) (fun k=>k .undef gW) fun t87 gX =>
 ah t85 true (fun Iq=>Iq (aa Gl 0) gX) (fun k=>k .undef gX) fun t88 kw =>
 ah t85 true (fun Jc=>ax t87 t88 1 fun t89 =>
 Jc t89 kw) (fun k=>k .undef kw) fun ahD wE =>
 ah t85 true (fun CS=>aj wE ahD fun t90 =>
 CS t90 wE) (fun k=>k .undef wE) fun ajN jY =>
 ah t85 true (fun Cm=>ae .leq ajN (N .u8 122) fun t91 =>
 Cm t91 jY) (fun k=>k .undef jY) fun ahw gK =>
 aK t85 ahw (Bo false) fun t92 =>
 ay t92 (
 ax t74 (aa Gl 0) 1 fun t97 =>
 aj gK t97 fun t98 =>
 ae .sub t98 (N .u8 32) fun t99 =>
 ax t74 (aa Gl 0) 1 fun kF =>
 aG gK kF t99 1 fun wH =>
 aga [] wH) (
 aga [] gK)) (fun xs_59 kg =>
 ae .add (aa Gl 0) (N .i64 1) fun t80 =>
 adS [t80] kg)) (
 BV gW t74 fun xP =>
 p4 [t39,xP] gW fun Bi lZ =>
 bH t42 fun t107 =>
 ae .neq (aa xs 0) t107 fun nO =>
 ah nO false (fun yR=>yR Bi lZ) (fun k=>k .undef lZ) fun xX vD =>
 ah nO false (fun aaB=>bH xX fun AJ =>
 aaB AJ vD) (fun k=>k .undef vD) fun ae0 u7 =>
 ah nO false (fun QX=>QX t42 u7) (fun k=>k .undef u7) fun tC y7 =>
 ah nO false (fun Qi=>bH tC fun wI =>
 Qi wI y7) (fun k=>k .undef y7) fun aeM yA =>
 ah nO false (fun abQ=>ae .neq ae0 aeM fun Ij =>
 abQ Ij yA) (fun k=>k .undef yA) fun aet wP =>
 aK nO (Bo true) aet fun uW =>
 ah uW false (fun anZ=>anZ t49 wP) (fun k=>k .undef wP) fun t117 Ao =>
 ah uW false (fun IY=>bH t117 fun aaN =>
 IY aaN Ao) (fun k=>k .undef Ao) fun aer xY =>
 ah uW false (fun Qh=>Qh t39 xY) (fun k=>k .undef xY) fun t119 WV =>
 ah uW false (fun aoC=>p6 [t119] WV fun AY qg =>
 aoC AY qg) (fun k=>k .undef WV) fun aeA xQ =>
 ah uW false (fun abw=>bH aeA fun Cv =>
 abw Cv xQ) (fun k=>k .undef xQ) fun aec DU =>
 ah uW false (fun Pv=>ae .neq aer aec fun Aa =>
 Pv Aa DU) (fun k=>k .undef DU) fun adV Aw =>
 aK uW (Bo true) adV fun CK =>
 ay CK (
 Q (Bo false) Aw) (
 aV (fun L8 pO uh =>
 bH t42 fun CF =>
 ae .lss (aa pO 0) CF fun t127 =>
 ay t127 (
 ax t42 (aa pO 0) 1 fun Ca =>
 aj uh Ca fun QB =>
 ax Bi (aa pO 0) 1 fun Td =>
 aj uh Td fun PD =>
 iJ .neq QB PD fun t138 =>
 ay t138 (
 Q (Bo false) uh) (
 ae .add (aa pO 0) (N .i64 1) fun uD =>
 L8 [uD] uh)) (
 Q (Bo true) uh)) [(N .i64 0)] Aw))) [(N .i64 0)] yF)) [(N .i64 0),(N .i64 0)] jR))
def DL (p1 p2:au) (a0:AV) (M0:RM) (Q:ai) : Prop :=
 p1 [] M0 fun t5 M =>
 aV (fun next xs M_0 =>
 jq true 1 t5 (.sc (.pointer none)) fun t7 =>
 ah t7 true (fun k=>k (aa xs 0) M_0) (fun k=>k .undef M_0) fun t9 M_1 =>
 ah t7 true (fun k_2=>k_2 a0 M_1) (fun k=>k .undef M_1) fun bM M_3 =>
 ah t7 true (fun k_4=>bH bM fun bU =>
 k_4 bU M_3) (fun k=>k .undef M_3) fun alm M_6 =>
 ah t7 true (fun k_7=>ae .lss t9 alm fun t12 =>
 k_7 t12 M_6) (fun k=>k .undef M_6) fun amj M_9 =>
 aK t7 amj (Bo false) fun t13 =>
 ay t13 (
 ax a0 (aa xs 0) 7 fun t19 =>
 aF M_9 t19 7 fun t20 =>
 p2 [t5,t20] M_9 fun t21 ek =>
 ae .add (aa xs 0) (N .i64 1) fun t15 =>
 next [t15] ek) (
 Q t5 M_9)) [(N .i64 0)] M
def wT (p1:Nat) (p2:au) (a0:AV) (M0:RM) (Q:ai) : Prop :=
 bP (.row [(N .i64 0),(N .u64 0),(St []),(St []),(St [])] false p1 0) (fun b=>.ptr b 0) M0 fun t2 M =>
 bH a0 fun t8 =>
 ae .eql t8 (N .i64 0) fun t9 =>
 ay t9 (
 tN [(N .i64 0),(N .u64 0),(St []),(St []),(St [])] [] fun bM =>
 aG M t2 bM 5 fun M_0 =>
 aF M_0 t2 5 fun res =>
 Q (.tup [res,(Bo false)]) M_0) (
 ax a0 (N .i64 0) 5 fun t12 =>
 aF M t12 5 fun t13 =>
 bP (.row [(N .i64 0),(N .u64 0),(St []),(St []),(St [])] false p1 0) (fun b=>.ptr b 0) M fun t4 M_1 =>
 aG M_1 t4 t13 5 fun M_2 =>
 bH a0 fun t15 =>
 aV (fun next xs M_3 =>
 ae .lss (aa xs 0) t15 fun t17 =>
 ay t17 (
 cz (fun J =>
 ax a0 (aa xs 0) 5 fun t18 =>
 aF M_3 t18 5 fun t19 =>
 bP (.row [(N .i64 0),(N .u64 0),(St []),(St []),(St [])] false p1 0) (fun b=>.ptr b 0) M_3 fun t6 M_4 =>
 aG M_4 t6 t19 5 fun M_5 =>
 aI t4 0 fun t20 =>
 aF M_5 t20 2 fun t21 =>
 aI t6 0 fun t22 =>
 aF M_5 t22 2 fun t23 =>
 p2 [t21,t23] M_5 fun t24 M_6 =>
 ay t24 (
 aF M_6 t6 5 fun t25 =>
 aG M_6 t4 t25 5 fun M_7 =>
 J [] M_7) (
 J [] M_6)) (fun Ad M_9 =>
 ae .add (aa xs 0) (N .i64 1) fun t26 =>
 next [t26] M_9)) (
 aF M_3 t4 5 fun t27 =>
 aG M_3 t2 t27 5 fun ek =>
 aF ek t2 5 fun ajQ =>
 Q (.tup [ajQ,(Bo true)]) ek)) [(N .i64 0)] M_2)
def AR (p1 p2 p3 p4:au) (p5 p6:Nat) (a0 a1:AV) (M0:RM) (Q:ai) : Prop :=
 p1 [a1] M0 fun t12 M =>
 p2 [a0] M fun t14 M_0 =>
 bH t14 fun t15 =>
 aV (fun next xs M_1 =>
 ae .lss (aa xs 1) t15 fun t17 =>
 ay t17 (
 cz (fun J =>
 ax t14 (aa xs 1) 1 fun t18 =>
 aj M_1 t18 fun t19 =>
 p1 [t19] M_1 fun t21 M_2 =>
 p3 [t21,t12] M_2 fun t23 M_3 =>
 p4 [a0,t19] M_3 fun t26 M_4 =>
 bH t26 fun t27 =>
 aV (fun aiM mV M_7 =>
 ae .lss (aa mV 1) t27 fun t29 =>
 ay t29 (
 ax t26 (aa mV 1) 3 fun t30 =>
 aF M_7 t30 3 fun t31 =>
 bP (.row [(St []),(St []),(N .i64 0)] false p5 0) (fun b=>.ptr b 0) M_7 fun bM M_8 =>
 aG M_8 bM t31 3 fun M_9 =>
 ah (aa mV 0) false (fun k=>aI bM 1 fun t34 =>
 k t34 M_9) (fun k=>k .undef M_9) fun aii dI =>
 ah (aa mV 0) false (fun mZ=>aj dI aii fun t35 =>
 mZ t35 dI) (fun k=>k .undef dI) fun afA jo =>
 ah (aa mV 0) false (fun nZ=>p1 [afA] jo fun t36 dm =>
 nZ t36 dm) (fun k=>k .undef jo) fun ahf dV =>
 ah (aa mV 0) false (fun nY=>nY t12 dV) (fun k=>k .undef dV) fun t37 nG =>
 ah (aa mV 0) false (fun q8=>p3 [ahf,t37] nG fun t38 fO =>
 q8 t38 fO) (fun k=>k .undef nG) fun aiH kI =>
 aK (aa mV 0) (Bo true) aiH fun t39 =>
 ae .add (aa mV 1) (N .i64 1) fun t40 =>
 aiM [t39,t40] kI) (
 ay (aa mV 0) (
 fw p6 1 [(St [])] [(0,1,t19)] fun r f =>
 bP r f M_7 fun t44 fG =>
 appW p6 1 16 [(St [])] false (aa xs 0) t44 fG fun t45 jR =>
 J [t45] jR) (
 J [(aa xs 0)] M_7))) [t23,(N .i64 0)] M_4) (fun alB ql =>
 ae .add (aa xs 1) (N .i64 1) fun t46 =>
 next [(aa alB 0),t46] ql)) (
 Q (aa xs 0) M_1)) [(.sc (.slice none 0 0)),(N .i64 0)] M_0
def Uw (p1:Nat) (p2:au) (a0:AV) (M0:RM) (Q:ai) : Prop :=
 X4 p1 96 [(N .i64 0),(N .u64 0),(N .i64 0),(St []),(St []),(St []),(.sc (.slice none 0 0))] (N .i64 0) (N .i64 0) fun r f =>
 bP r f M0 fun t7 M =>
 aV (fun next xs M_0 =>
 bH a0 fun bM =>
 ae .lss (aa xs 1) bM fun bU =>
 ay bU (
 cz (fun J =>
 ax a0 (aa xs 1) 7 fun t16 =>
 aF M_0 t16 7 fun t17 =>
 p2 [t17] M_0 fun t18 M_1 =>
 dQ t18 fun t19 =>
 aV (fun tQ bI M_4 =>
 bH (aa xs 0) fun t22 =>
 ae .lss (aa bI 1) t22 fun t23 =>
 ay t23 (
 af (aa bI 0) false (fun k=>k (aa xs 0) M_4 none) (fun k=>k .undef M_4 none) fun t28 M_5 b =>
 af (aa bI 0) false (fun k_6=>k_6 (aa bI 1) M_5 none) (fun k=>k .undef M_5 none) fun t29 M_7 b_8 =>
 af (aa bI 0) false (fun k_9=>ax t28 t29 7 fun t30 =>
 k_9 t30 M_7 none) (fun k=>k .undef M_7 none) fun SS dI VR =>
 af (aa bI 0) false (fun CQ=>aI SS 0 fun t31 =>
 CQ t31 dI none) (fun k=>k .undef dI none) fun PR jQ VG =>
 af (aa bI 0) false (fun lL=>aF jQ PR 2 fun t32 =>
 lL t32 jQ none) (fun k=>k .undef jQ none) fun RZ eH SQ =>
 af (aa bI 0) false (fun q8=>q8 a0 eH none) (fun k=>k .undef eH none) fun t33 fO Qu =>
 af (aa bI 0) false (fun uI=>uI (aa xs 1) fO none) (fun k=>k .undef fO none) fun t34 fG Me =>
 af (aa bI 0) false (fun q9=>ax t33 t34 7 fun t35 =>
 q9 t35 fG none) (fun k=>k .undef fG none) fun Ti iL IW =>
 af (aa bI 0) false (fun ko=>aI Ti 0 fun t36 =>
 ko t36 iL none) (fun k=>k .undef iL none) fun QP il Xg =>
 af (aa bI 0) false (fun kC=>aF il QP 2 fun t37 =>
 kC t37 il none) (fun k=>k .undef il none) fun RL dx LU =>
 af (aa bI 0) false (fun DD=>nI false [1,1] RZ RL fun t38 =>
 DD t38 dx none) (fun k=>k .undef dx none) fun RF iH JG =>
 aK (aa bI 0) (Bo true) RF fun t39 =>
 ae .add (aa bI 1) (N .i64 1) fun t25 =>
 tQ [t39,t25] iH) (
 dQ (aa bI 0) fun t41 =>
 ay t41 (
 ax a0 (aa xs 1) 7 fun t45 =>
 aF M_4 t45 7 fun t46 =>
 fw p1 1 [(N .i64 0),(N .u64 0),(N .i64 0),(St []),(St []),(St []),(.sc (.slice none 0 0))] [(0,7,t46)] fun abI abP =>
 bP abI abP M_4 fun t47 j5 =>
 appW p1 7 96 [(N .i64 0),(N .u64 0),(N .i64 0),(St []),(St []),(St []),(.sc (.slice none 0 0))] false (aa xs 0) t47 j5 fun t48 gX =>
 J [t48] gX) (
 J [(aa xs 0)] M_4))) [t19,(N .i64 0)] M_1) (fun tF kw =>
 ae .add (aa xs 1) (N .i64 1) fun t13 =>
 next [(aa tF 0),t13] kw)) (
 Q (aa xs 0) M_0)) [t7,(N .i64 0)] M
def wM (p1 p2 p3:au) (p4 p5:Nat) (a0 a1:AV) (M0:RM) (Q:ai) : Prop :=
 p1 [a0,a1] M0 fun t15 M =>
 p2 [t15] M fun t16 M_0 =>
 bH t16 fun t17 =>
 aV (fun next xs M_1 =>
 ae .lss (aa xs 1) t17 fun t19 =>
 ay t19 (
 ax t16 (aa xs 1) 1 fun t20 =>
 aj M_1 t20 fun t21 =>
 p3 [t21] M_1 fun t24 M_2 =>
 gu t24 0 fun t25 =>
 gu t24 1 fun t26 =>
 bP (.row [(N .i64 0),(N .u64 0),(St []),(St []),(St [])] false p4 0) (fun b=>.ptr b 0) M_2 fun t8 M_3 =>
 aG M_3 t8 t25 5 fun M_4 =>
 bP (.map [] 0) (fun b=>.map b) M_4 fun t27 M_5 =>
 bH t21 fun t29 =>
 aV (fun ahV Z0 M_8 =>
 ae .lss (aa Z0 0) t29 fun t31 =>
 ay t31 (
 ax t21 (aa Z0 0) 5 fun t32 =>
 aF M_8 t32 5 fun t33 =>
 bP (.row [(N .i64 0),(N .u64 0),(St []),(St []),(St [])] false p4 0) (fun b=>.ptr b 0) M_8 fun t12 M_9 =>
 aG M_9 t12 t33 5 fun ek =>
 aI t12 4 fun t35 =>
 aj ek t35 fun t36 =>
 GU false [2] ek t27 t36 (Bo true) fun dI =>
 ae .add (aa Z0 0) (N .i64 1) fun t37 =>
 ahV [t37] dI) (
 aI t8 3 fun t39 =>
 aj M_8 t39 fun t40 =>
 aI t8 4 fun t41 =>
 aj M_8 t41 fun t42 =>
 Ve M_8 t27 fun t44 =>
 tN [(St []),(St []),(N .i64 0)] [(0,1,t40),(1,1,t42),(2,1,t44)] fun t45 =>
 fw p5 1 [(St []),(St []),(N .i64 0)] [(0,3,t45)] fun r f =>
 bP r f M_8 fun t46 lT =>
 appW p5 3 40 [(St []),(St []),(N .i64 0)] false (aa xs 0) t46 lT fun t47 dM =>
 ae .add (aa xs 1) (N .i64 1) fun t48 =>
 next [t47,t48] dM)) [(N .i64 0)] M_5) (
 Q (aa xs 0) M_1)) [(.sc (.slice none 0 0)),(N .i64 0)] M_0
def xS (p1:Nat) (a0:AV) (M0:RM) (Q:ai) : Prop :=
 FW p1 a0 fun r f =>
 bP r f M0 fun t7 M =>
 bH t7 fun t9 =>
 aV (fun next xs M_0 =>
 ae .lss (aa xs 0) t9 fun bU =>
 ay bU (
 cz (fun J =>
 ax t7 (aa xs 0) 1 fun t13 =>
 aj M_0 t13 fun t14 =>
 ae .geq t14 (N .u8 65) fun t16 =>
 ah t16 true (fun k=>k t14 M_0) (fun k=>k .undef M_0) fun t18 M_1 =>
 ah t16 true (fun k_2=>ae .leq t18 (N .u8 90) fun t19 =>
 k_2 t19 M_1) (fun k=>k .undef M_1) fun amx M_4 =>
 aK t16 amx (Bo false) fun t20 =>
 ay t20 (
 ae .add t14 (N .u8 97) fun t24 =>
 ae .sub t24 (N .u8 65) fun t25 =>
 ax t7 (aa xs 0) 1 fun t26 =>
 aG M_4 t26 t25 1 fun M_5 =>
 J [] M_5) (
 J [] M_4)) (fun mV M_7 =>
 ae .add (aa xs 0) (N .i64 1) fun t27 =>
 next [t27] M_7)) (
 BV M_0 t7 fun t29 =>
 Q t29 M_0)) [(N .i64 0)] M
def ol (p1:au) (a0 a1:AV) (M0:RM) (Q:ai) : Prop :=
 p1 [a0,a1] M0 fun t7 M =>
 ae .geq t7 (N .i64 0) fun t8 =>
 Q t8 M
def wU (p1 p2:Nat) (a0:AV) (M0:RM) (Q:ai) : Prop :=
 bH a0 fun t7 =>
 aV (fun next xs M =>
 ae .lss (aa xs 1) t7 fun t9 =>
 ay t9 (
 cz (fun J =>
 ax a0 (aa xs 1) 5 fun bU =>
 aF M bU 5 fun t12 =>
 bP (.row [(N .i64 0),(N .u64 0),(St []),(St []),(St [])] false p1 0) (fun b=>.ptr b 0) M fun t5 M_0 =>
 aG M_0 t5 t12 5 fun M_1 =>
 cz (fun J_2 =>
 ae .eql (aa xs 1) (N .i64 0) fun t14 =>
 af t14 false (fun k=>k a0 M_1 none) (fun k=>k .undef M_1 none) fun t16 M_3 b =>
 af t14 false (fun k_4=>k_4 (aa xs 1) M_3 none) (fun k=>k .undef M_3 none) fun t17 M_5 b_6 =>
 af t14 false (fun k_7=>ae .sub t17 (N .i64 1) fun t18 =>
 k_7 t18 M_5 none) (fun k=>k .undef M_5 none) fun akV M_9 aaC =>
 af t14 false (fun lQ=>ax t16 akV 5 fun t19 =>
 lQ t19 M_9 none) (fun k=>k .undef M_9 none) fun aju dM Wu =>
 af t14 false (fun nZ=>aI aju 2 fun t20 =>
 nZ t20 dM none) (fun k=>k .undef dM none) fun afB nA aiZ =>
 af t14 false (fun nY=>aj nA afB fun t21 =>
 nY t21 nA none) (fun k=>k .undef nA none) fun ahG dW XZ =>
 af t14 false (fun qW=>aI t5 2 fun t22 =>
 qW t22 dW none) (fun k=>k .undef dW none) fun ajy fG Me =>
 af t14 false (fun q9=>aj fG ajy fun t23 =>
 q9 t23 fG none) (fun k=>k .undef fG none) fun ahl iL IW =>
 af t14 false (fun ko=>iJ .neq ahG ahl fun t24 =>
 ko t24 iL none) (fun k=>k .undef iL none) fun af8 il Xg =>
 aK t14 (Bo true) af8 fun t25 =>
 af t25 false (fun kC=>kC a0 il none) (fun k=>k .undef il none) fun t27 jF anP =>
 af t25 false (fun Jq=>Jq (aa xs 1) jF none) (fun k=>k .undef jF none) fun t28 j6 ajq =>
 af t25 false (fun Jm=>ae .sub t28 (N .i64 1) fun t29 =>
 Jm t29 j6 none) (fun k=>k .undef j6 none) fun agI gW abN =>
 af t25 false (fun Cu=>ax t27 agI 5 fun t30 =>
 Cu t30 gW none) (fun k=>k .undef gW none) fun aja rC aoV =>
 af t25 false (fun Jc=>aI aja 3 fun t31 =>
 Jc t31 rC none) (fun k=>k .undef rC none) fun afl wE b_52 =>
 af t25 false (fun aaU=>aj wE afl fun t32 =>
 aaU t32 wE none) (fun k=>k .undef wE none) fun afr oJ b_56 =>
 af t25 false (fun aa3=>aI t5 3 fun t33 =>
 aa3 t33 oJ none) (fun k=>k .undef oJ none) fun akv yH b_60 =>
 af t25 false (fun aa6=>aj yH akv fun t34 =>
 aa6 t34 yH none) (fun k=>k .undef yH none) fun ajH vD apf =>
 af t25 false (fun Sz=>iJ .neq afr ajH fun t35 =>
 Sz t35 vD none) (fun k=>k .undef vD none) fun agb qU ags =>
 aK t25 (Bo true) agb fun t36 =>
 ay t36 (
 fw p2 1 [(.sc (.slice none 0 0))] [(0,1,(.sc (.slice none 0 0)))] fun r f =>
 bP r f qU fun t38 tL =>
 appW p2 1 24 [(.sc (.slice none 0 0))] false (aa xs 0) t38 tL fun t39 I9 =>
 J_2 [t39] I9) (
 J_2 [(aa xs 0)] qU)) (fun KI FJ =>
 bH (aa KI 0) fun t42 =>
 ae .sub t42 (N .i64 1) fun t43 =>
 bH (aa KI 0) fun t46 =>
 ae .sub t46 (N .i64 1) fun t47 =>
 ax (aa KI 0) t47 1 fun t48 =>
 aj FJ t48 fun t49 =>
 aF FJ t5 5 fun t50 =>
 fw p1 1 [(N .i64 0),(N .u64 0),(St []),(St []),(St [])] [(0,5,t50)] fun ang aoD =>
 Bg ang aoD FJ fun t51 Mq aoZ =>
 appW p1 5 64 [(N .i64 0),(N .u64 0),(St []),(St []),(St [])] false t49 t51 Mq fun t52 SF =>
 ax (aa KI 0) t43 1 fun t53 =>
 aG SF t53 t52 1 fun MZ =>
 J [(aa KI 0)] MZ)) (fun vF Yg =>
 ae .add (aa xs 1) (N .i64 1) fun t54 =>
 next [(aa vF 0),t54] Yg)) (
 Q (aa xs 0) M)) [(.sc (.slice none 0 0)),(N .i64 0)] M0
def sO (p1:au) (a0 a1:AV) (M0:RM) (Q:ai) : Prop :=
 p1 [a0,a1] M0 fun t7 M =>
 Q t7 M
end Go.Ab.Vw
namespace Go.Ab.aB
open Go Go.Ab
def MH (p1:Nat) (M0:RM) (Q:ai) : Prop :=
 tN [(N .u64 0),(.sc (.slice none 0 0)),(N .u64 0),(.sc (.slice none 0 0)),(N .u64 0),(.sc (.slice none 0 0)),(N .u64 0),(.sc (.slice none 0 0)),(N .u64 0),(.sc (.slice none 0 0)),(N .u64 0),(.sc (.slice none 0 0)),(N .u64 0),(.sc (.slice none 0 0)),(N .u64 0),(.sc (.slice none 0 0)),(N .u64 0),(.sc (.slice none 0 0)),(N .u64 0),(.sc (.slice none 0 0)),(N .u64 0),(.sc (.slice none 0 0)),(N .u64 0),(.sc (.slice none 0 0)),(N .u64 0),(.sc (.slice none 0 0)),(N .u64 0),(.sc (.slice none 0 0)),(N .u64 0),(.sc (.slice none 0 0)),(N .u64 0),(.sc (.slice none 0 0))] [] fun t1 =>
 ji p1 t1 fun r f =>
 bP r f M0 fun t2 M =>
 Q t2 M
def FH (p1:Nat) (p2 p3:au) (a0 a1:AV) (M0:RM) (Q:ai) : Prop :=
 ji p1 a1 fun r f =>
 bP r f M0 fun t3 M =>
 aF M t3 2 fun t6 =>
 p2 [t6] M fun t7 M_0 =>
 dQ t7 fun t8 =>
 ay t8 (
 Q (N .i64 1) M_0) (
 aI t3 0 fun bU =>
 aj M_0 bU fun t12 =>
 bV a0 fun t13 =>
 aI t13 0 fun t14 =>
 FN t14 t12 16 2 fun t15 =>
 aI t3 1 fun t16 =>
 aj M_0 t16 fun t17 =>
 p3 [t15,t17] M_0 fun t18 M_1 =>
 dQ t18 fun t19 =>
 ay t19 (
 Q (N .i64 2) M_1) (
 Q (N .i64 0) M_1))
def Iy (p1:Nat) (a0:AV) (M0:RM) (Q:ai) : Prop :=
 ji p1 a0 fun r f =>
 bP r f M0 fun t1 M =>
 aI t1 0 fun t3 =>
 aj M t3 fun t4 =>
 ae .geq t4 (N .i64 0) fun t5 =>
 ah t5 true (fun k=>aI t1 0 fun t7 =>
 k t7 M) (fun k=>k .undef M) fun aca M_1 =>
 ah t5 true (fun k_2=>aj M_1 aca fun t8 =>
 k_2 t8 M_1) (fun k=>k .undef M_1) fun acs M_4 =>
 ah t5 true (fun k_5=>ae .lss acs (N .i64 16) fun t9 =>
 k_5 t9 M_4) (fun k=>k .undef M_4) fun acr M_7 =>
 aK t5 acr (Bo false) fun bM =>
 ah bM true (fun k_8=>aI t1 1 fun t12 =>
 k_8 t12 M_7) (fun k=>k .undef M_7) fun Xv ek =>
 ah bM true (fun lQ=>aj ek Xv fun t13 =>
 lQ t13 ek) (fun k=>k .undef ek) fun ER dM =>
 ah bM true (fun iG=>ae .geq ER (N .u64 1) fun t14 =>
 iG t14 dM) (fun k=>k .undef dM) fun Fh dm =>
 aK bM Fh (Bo false) fun t15 =>
 ah t15 true (fun lL=>aI t1 1 fun t17 =>
 lL t17 dm) (fun k=>k .undef dm) fun SY eH =>
 ah t15 true (fun mW=>aj eH SY fun t18 =>
 mW t18 eH) (fun k=>k .undef eH) fun Q9 fO =>
 ah t15 true (fun qW=>ae .leq Q9 (N .u64 1099511627776) fun t19 =>
 qW t19 fO) (fun k=>k .undef fO) fun Fq fG =>
 aK t15 Fq (Bo false) fun t20 =>
 Q t20 fG
def IQ (p1:Nat) (a0:AV) (M0:RM) (Q:ai) : Prop :=
 ji p1 a0 fun r f =>
 bP r f M0 fun t1 M =>
 aI t1 0 fun t3 =>
 aj M t3 fun t4 =>
 ae .geq t4 (N .i64 0) fun t5 =>
 ah t5 true (fun k=>aI t1 0 fun t7 =>
 k t7 M) (fun k=>k .undef M) fun aca M_1 =>
 ah t5 true (fun k_2=>aj M_1 aca fun t8 =>
 k_2 t8 M_1) (fun k=>k .undef M_1) fun acs M_4 =>
 ah t5 true (fun k_5=>ae .lss acs (N .i64 16) fun t9 =>
 k_5 t9 M_4) (fun k=>k .undef M_4) fun acr M_7 =>
 aK t5 acr (Bo false) fun bM =>
 ah bM true (fun k_8=>aI t1 1 fun t12 =>
 k_8 t12 M_7) (fun k=>k .undef M_7) fun Xv ek =>
 ah bM true (fun lQ=>aj ek Xv fun t13 =>
 lQ t13 ek) (fun k=>k .undef ek) fun ER dM =>
 ah bM true (fun iG=>ae .geq ER (N .u64 1) fun t14 =>
 iG t14 dM) (fun k=>k .undef dM) fun Fh dm =>
 aK bM Fh (Bo false) fun t15 =>
 ah t15 true (fun lL=>aI t1 1 fun t17 =>
 lL t17 dm) (fun k=>k .undef dm) fun SY eH =>
 ah t15 true (fun mW=>aj eH SY fun t18 =>
 mW t18 eH) (fun k=>k .undef eH) fun Q9 fO =>
 ah t15 true (fun qW=>ae .leq Q9 (N .u64 1099511627776) fun t19 =>
 qW t19 fO) (fun k=>k .undef fO) fun Fq fG =>
 aK t15 Fq (Bo false) fun t20 =>
 Q t20 fG
def DN (p1 p2:au) (a0:AV) (M0:RM) (Q:ai) : Prop :=
 p1 [] M0 fun t4 M =>
 p2 [t4,a0] M fun t7 M_0 =>
 Q t4 M_0
def EO (p1:Nat) (p2 p3:au) (a0 a1:AV) (M0:RM) (Q:ai) : Prop :=
 ji p1 a1 fun r f =>
 bP r f M0 fun t3 M =>
 aF M t3 2 fun t5 =>
 p2 [t5] M fun t6 M_0 =>
 af t6 true (fun k=>k a0 M_0 none) (fun k=>k .undef M_0 none) fun t8 M_1 b =>
 af t6 true (fun k_2=>aI t3 0 fun t9 =>
 k_2 t9 M_1 none) (fun k=>k .undef M_1 none) fun aap M_4 b_5 =>
 af t6 true (fun k_6=>aj M_4 aap fun bM =>
 k_6 bM M_4 none) (fun k=>k .undef M_4 none) fun akR M_8 b_9 =>
 af t6 true (fun rG=>bV t8 fun bU =>
 rG bU M_8 none) (fun k=>k .undef M_8 none) fun afO lT QH =>
 af t6 true (fun iG=>aI afO 0 fun t12 =>
 iG t12 lT none) (fun k=>k .undef lT none) fun agZ dm Dn =>
 af t6 true (fun rH=>FN agZ akR 16 2 fun t13 =>
 rH t13 dm none) (fun k=>k .undef dm none) fun akh nG abx =>
 af t6 true (fun oH=>aI t3 1 fun t14 =>
 oH t14 nG none) (fun k=>k .undef nG none) fun agA kI agV =>
 af t6 true (fun I5=>aj kI agA fun t15 =>
 I5 t15 kI none) (fun k=>k .undef kI none) fun akt ql ag2 =>
 ah t6 true (fun Jb=>p3 [akh,akt] ql fun t16 mP =>
 Jb t16 mP) (fun k=>k .undef ql) fun ajW il =>
 aK t6 ajW (Bo false) fun t17 =>
 Q t17 il
def afX (p1 p2 p3:au) (a0:AV) (M0:RM) (Q:ai) : Prop :=
 p1 [] M0 fun t7 M =>
 aV (fun next xs M_0 =>
 bH a0 fun bM =>
 ae .lss (aa xs 1) bM fun bU =>
 ay bU (
 cz (fun J =>
 ax a0 (aa xs 1) 2 fun t17 =>
 aF M_0 t17 2 fun t18 =>
 p2 [t7,t18] M_0 fun t19 M_1 =>
 ae .eql t19 (N .i64 0) fun t20 =>
 ay t20 (
 ax a0 (aa xs 1) 2 fun t24 =>
 aF M_1 t24 2 fun t25 =>
 p3 [(aa xs 0),t25] M_1 fun t26 M_2 =>
 J [t26] M_2) (
 J [(aa xs 0)] M_1)) (fun bI M_4 =>
 ae .add (aa xs 1) (N .i64 1) fun t13 =>
 next [(aa bI 0),t13] M_4)) (
 Q (.tup [t7,(aa xs 0)]) M_0)) [(.sc (.slice none 0 0)),(N .i64 0)] M
def CJ (p1 p2:Nat) (p3 p4 p5 p6:au) (a0 a1:AV) (M0:RM) (Q:ai) : Prop :=
 aV (fun next xs M =>
 ae .lss (aa xs 0) (N .i64 16) fun t8 =>
 ay t8 (
 bV a0 fun t12 =>
 aI t12 0 fun t13 =>
 FN t13 (aa xs 0) 16 2 fun t14 =>
 bV a1 fun t17 =>
 aI t17 0 fun t18 =>
 FN t18 (aa xs 0) 16 2 fun t19 =>
 aF M t19 2 fun t20 =>
 Bg (.row [(N .u64 0),(.sc (.slice none 0 0))] false p1 0) (fun b=>.ptr b 0) M fun t6 M_0 b =>
 aG M_0 t6 t20 2 fun M_1 =>
 bV t14 fun t23 =>
 aI t23 0 fun t24 =>
 aj M_1 t24 fun t25 =>
 aI t6 0 fun t26 =>
 aj M_1 t26 fun t27 =>
 MN true t25 t27 fun t28 =>
 bV t14 fun t29 =>
 aI t29 0 fun t30 =>
 aG M_1 t30 t28 1 fun M_2 =>
 bV t14 fun t33 =>
 aI t33 1 fun t34 =>
 aj M_2 t34 fun t35 =>
 aI t6 1 fun t36 =>
 aj M_2 t36 fun t37 =>
 fw p2 2 [(.sc (.slice none 0 0))] [(0,1,t35),(1,1,t37)] fun r f =>
 Bg r f M_2 fun t38 M_3 b_4 =>
 p3 [t38] M_3 fun t39 M_5 =>
 bV t14 fun t40 =>
 aI t40 1 fun t41 =>
 aG M_5 t41 t39 1 fun M_6 =>
 bV t14 fun t43 =>
 aI t43 1 fun t44 =>
 aj M_6 t44 fun t45 =>
 p4 [t45] M_6 fun t46 M_7 =>
 bV t14 fun t49 =>
 aI t49 1 fun t50 =>
 aj M_7 t50 fun t51 =>
 p5 [t51] M_7 fun t52 M_8 =>
 bV t14 fun t53 =>
 aI t53 1 fun t54 =>
 aG M_8 t54 t52 1 fun M_9 =>
 p6 [t14] M_9 fun t56 ek =>
 ae .add (aa xs 0) (N .i64 1) fun t57 =>
 next [t57] ek) (
 Q (.tup []) M)) [(N .i64 0)] M0
def yV (p1:Nat) (p2:au) (a0 a1:AV) (M0:RM) (Q:ai) : Prop :=
 bV a0 fun bU =>
 aI bU 0 fun t12 =>
 aF M0 t12 32 fun t13 =>
 aV (fun next xs M =>
 ae .lss (aa xs 0) (N .i64 16) fun t15 =>
 ay t15 (
 Pk t13 (aa xs 0) 16 2 fun t17 =>
 bP (.row [(N .u64 0),(.sc (.slice none 0 0))] false p1 0) (fun b=>.ptr b 0) M fun t6 M_0 =>
 aG M_0 t6 t17 2 fun M_1 =>
 bV a1 fun t20 =>
 aI t20 0 fun t21 =>
 FN t21 (aa xs 0) 16 2 fun t22 =>
 aI t6 0 fun t23 =>
 aj M_1 t23 fun t24 =>
 bV t22 fun t26 =>
 aI t26 0 fun t27 =>
 aj M_1 t27 fun t28 =>
 ae .gtr t24 t28 fun t29 =>
 ay t29 (
 Q (Bo false) M_1) (
 aI t6 1 fun t30 =>
 aj M_1 t30 fun t31 =>
 bH t31 fun t32 =>
 aV (fun tQ bI M_4 =>
 ae .lss (aa bI 0) t32 fun t34 =>
 ay t34 (
 ax t31 (aa bI 0) 1 fun t35 =>
 aj M_4 t35 fun t36 =>
 p2 [t22,t36] M_4 fun t39 M_5 =>
 dQ t39 fun t40 =>
 ay t40 (
 Q (Bo false) M_5) (
 ae .add (aa bI 0) (N .i64 1) fun t41 =>
 tQ [t41] M_5)) (
 ae .add (aa xs 0) (N .i64 1) fun t42 =>
 next [t42] M_4)) [(N .i64 0)] M_1)) (
 Q (Bo true) M)) [(N .i64 0)] M0
def SB (p1:Nat) (a0 a1:AV) (M0:RM) (Q:ai) : Prop :=
 ji p1 a0 fun r f =>
 bP r f M0 fun t2 M =>
 ji p1 a1 fun r_0 f_1 =>
 bP r_0 f_1 M fun t3 M_2 =>
 aI t2 1 fun t5 =>
 aj M_2 t5 fun t6 =>
 aI t3 1 fun t7 =>
 aj M_2 t7 fun t8 =>
 ae .lss t6 t8 fun t9 =>
 ah t9 false (fun k=>aI t2 1 fun bU =>
 k bU M_2) (fun k=>k .undef M_2) fun XA M_4 =>
 ah t9 false (fun k_5=>aj M_4 XA fun t12 =>
 k_5 t12 M_4) (fun k=>k .undef M_4) fun Vv M_7 =>
 ah t9 false (fun k_8=>aI t3 1 fun t13 =>
 k_8 t13 M_7) (fun k=>k .undef M_7) fun Ku ek =>
 ah t9 false (fun lQ=>aj ek Ku fun t14 =>
 lQ t14 ek) (fun k=>k .undef ek) fun QJ dM =>
 ah t9 false (fun iG=>ae .eql Vv QJ fun t15 =>
 iG t15 dM) (fun k=>k .undef dM) fun Qe dm =>
 ah t9 false (fun lL=>lL Qe dm) (fun k=>k .undef dm) fun t16 dV =>
 ah t16 true (fun nY=>aI t2 0 fun t17 =>
 nY t17 dV) (fun k=>k .undef dV) fun RN dW =>
 ah t16 true (fun oH=>aj dW RN fun t18 =>
 oH t18 dW) (fun k=>k .undef dW) fun QT kI =>
 ah t16 true (fun oq=>aI t3 0 fun t19 =>
 oq t19 kI) (fun k=>k .undef kI) fun QW jD =>
 ah t16 true (fun nk=>aj jD QW fun t20 =>
 nk t20 jD) (fun k=>k .undef jD) fun Ru jK =>
 ah t16 true (fun ko=>ae .lss QT Ru fun t21 =>
 ko t21 jK) (fun k=>k .undef jK) fun FD il =>
 ah t9 false (fun DK=>aK t16 FD (Bo false) fun t22 =>
 DK t22 il) (fun k=>k .undef il) fun FQ jF =>
 aK t9 (Bo true) FQ fun t23 =>
 Q t23 jF
def Ji (p1:Nat) (a0 a1:AV) (M0:RM) (Q:ai) : Prop :=
 ji p1 a0 fun r f =>
 bP r f M0 fun t2 M =>
 ji p1 a1 fun r_0 f_1 =>
 bP r_0 f_1 M fun t3 M_2 =>
 aI t2 1 fun t5 =>
 aj M_2 t5 fun t6 =>
 aI t3 1 fun t7 =>
 aj M_2 t7 fun t8 =>
 ae .lss t6 t8 fun t9 =>
 ah t9 false (fun k=>aI t2 1 fun bU =>
 k bU M_2) (fun k=>k .undef M_2) fun XA M_4 =>
 ah t9 false (fun k_5=>aj M_4 XA fun t12 =>
 k_5 t12 M_4) (fun k=>k .undef M_4) fun Vv M_7 =>
 ah t9 false (fun k_8=>aI t3 1 fun t13 =>
 k_8 t13 M_7) (fun k=>k .undef M_7) fun Ku ek =>
 ah t9 false (fun lQ=>aj ek Ku fun t14 =>
 lQ t14 ek) (fun k=>k .undef ek) fun QJ dM =>
 ah t9 false (fun iG=>ae .eql Vv QJ fun t15 =>
 iG t15 dM) (fun k=>k .undef dM) fun Qe dm =>
 ah t9 false (fun lL=>lL Qe dm) (fun k=>k .undef dm) fun t16 dV =>
 ah t16 true (fun nY=>aI t2 0 fun t17 =>
 nY t17 dV) (fun k=>k .undef dV) fun RN dW =>
 ah t16 true (fun oH=>aj dW RN fun t18 =>
 oH t18 dW) (fun k=>k .undef dW) fun QT kI =>
 ah t16 true (fun oq=>aI t3 0 fun t19 =>
 oq t19 kI) (fun k=>k .undef kI) fun QW jD =>
 ah t16 true (fun nk=>aj jD QW fun t20 =>
 nk t20 jD) (fun k=>k .undef jD) fun Ru jK =>
 ah t16 true (fun ko=>ae .lss QT Ru fun t21 =>
 ko t21 jK) (fun k=>k .undef jK) fun FD il =>
 ah t9 false (fun DK=>aK t16 FD (Bo false) fun t22 =>
 DK t22 il) (fun k=>k .undef il) fun FQ jF =>
 aK t9 (Bo true) FQ fun t23 =>
 Q t23 jF
def CO (p1:au) (p2 p3:Nat) (p4 p5 p6:au) (a0 a1:AV) (M0:RM) (Q:ai) : Prop :=
 bV a0 fun bM =>
 aI bM 1 fun bU =>
 aj M0 bU fun t12 =>
 p1 [t12,a1] M0 fun t14 M =>
 gu t14 0 fun t15 =>
 gu t14 1 fun t16 =>
 ah t16 false (fun k=>k a1 M) (fun k=>k .undef M) fun t19 M_0 =>
 ah t16 false (fun k_1=>k_1 a0 M_0) (fun k=>k .undef M_0) fun t20 M_2 =>
 ah t16 false (fun k_3=>bV t20 fun t21 =>
 k_3 t21 M_2) (fun k=>k .undef M_2) fun VV M_5 =>
 ah t16 false (fun k_6=>aI VV 0 fun t22 =>
 k_6 t22 M_5) (fun k=>k .undef M_5) fun Wy M_8 =>
 ah t16 false (fun k_9=>aj M_8 Wy fun t23 =>
 k_9 t23 M_8) (fun k=>k .undef M_8) fun Tu dI =>
 ah t16 false (fun mZ=>ae .leq t19 Tu fun t24 =>
 mZ t24 dI) (fun k=>k .undef dI) fun QK jo =>
 aK t16 (Bo true) QK fun t25 =>
 ay t25 (
 Q (Bo true) jo) (
 bV a0 fun t27 =>
 aI t27 0 fun t28 =>
 aj jo t28 fun t29 =>
 bV a0 fun t31 =>
 aI t31 1 fun t32 =>
 aj jo t32 fun t33 =>
 fw p2 1 [(N .u64 0)] [(0,1,a1)] fun r f =>
 Bg r f jo fun t37 jQ b =>
 Bg (.row [(N .u64 0),(.sc (.slice none 0 0))] false p3 0) (fun b=>.ptr b 0) jQ fun t7 dm Dn =>
 p4 [t33] dm fun t34 dV =>
 aj dV t28 fun ag9 =>
 (ag9=t29∧fw p2 1 [(N .u64 0)] [(0,1,a1)] fun anz anb =>
 (GD b dV anz anb t37∧(GD Dn dV (.row [(N .u64 0),(.sc (.slice none 0 0))] false p3 0) (fun b=>.ptr b 0) t7∧p5 [t34,t15,t37] dV fun t38 eH =>
 aj eH t28 fun ahp =>
 (ahp=t29∧(GD Dn eH (.row [(N .u64 0),(.sc (.slice none 0 0))] false p3 0) (fun b=>.ptr b 0) t7∧tN [(N .u64 0),(.sc (.slice none 0 0))] [(0,1,t29),(1,1,t38)] fun t39 =>
 aG eH t7 t39 2 fun nG =>
 p6 [t7] nG fun t40 dW =>
 aI t7 1 fun t41 =>
 aj dW t41 fun t42 =>
 bH t42 fun t43 =>
 ae .gtr t43 (N .i64 4096) fun t44 =>
 ay t44 (
 Q (Bo false) dW) (
 aF dW t7 2 fun t46 =>
 bV a0 fun t47 =>
 aG dW t47 t46 2 fun fO =>
 Q (Bo true) fO)))))))
def Ml (p1:Nat) (a0:AV) (M0:RM) (Q:ai) : Prop :=
 jq false 2 a0 (.sc (.slice none 0 0)) fun t4 =>
 ay t4 (
 Q (.sc (.slice none 0 0)) M0) (
 fw p1 0 [(N .u64 0)] [] fun r f =>
 bP r f M0 fun t5 M =>
 appW p1 1 8 [(N .u64 0)] false t5 a0 M fun t7 M_0 =>
 Q t7 M_0)
def DY (p1:au) (a0 a1:AV) (M0:RM) (Q:ai) : Prop :=
 bV a0 fun t9 =>
 aI t9 1 fun bM =>
 aj M0 bM fun bU =>
 p1 [bU,a1] M0 fun t13 M =>
 gu t13 0 fun t14 =>
 gu t13 1 fun t15 =>
 ae .geq a1 (N .u64 1) fun t17 =>
 ah t17 true (fun k=>k a1 M) (fun k=>k .undef M) fun t19 M_0 =>
 ah t17 true (fun k_1=>k_1 a0 M_0) (fun k=>k .undef M_0) fun t20 M_2 =>
 ah t17 true (fun k_3=>bV t20 fun t21 =>
 k_3 t21 M_2) (fun k=>k .undef M_2) fun VV M_5 =>
 ah t17 true (fun k_6=>aI VV 0 fun t22 =>
 k_6 t22 M_5) (fun k=>k .undef M_5) fun Wy M_8 =>
 ah t17 true (fun k_9=>aj M_8 Wy fun t23 =>
 k_9 t23 M_8) (fun k=>k .undef M_8) fun Tu dI =>
 ah t17 true (fun mZ=>ae .leq t19 Tu fun t24 =>
 mZ t24 dI) (fun k=>k .undef dI) fun QK jo =>
 aK t17 QK (Bo false) fun t25 =>
 ah t25 false (fun nZ=>nZ t15 jo) (fun k=>k .undef jo) fun t27 dm =>
 aK t25 (Bo true) t27 fun t28 =>
 Q t28 dm
def uo (p1:Nat) (p2:au) (p3:Nat) (a0:AV) (M0:RM) (Q:ai) : Prop :=
 bH a0 fun bM =>
 aV (fun next xs M =>
 ae .lss (aa xs 1) bM fun t12 =>
 ay t12 (
 cz (fun J =>
 ax a0 (aa xs 1) 1 fun t13 =>
 aj M t13 fun t14 =>
 bH t14 fun t17 =>
 ae .add (aa xs 0) t17 fun t18 =>
 ae .lss t18 (N .i64 0) fun t20 =>
 ay t20 (
 False) (
 J [t18] M)) (fun aoG M_1 =>
 ae .add (aa xs 1) (N .i64 1) fun t22 =>
 next [(aa aoG 0),t22] M_1)) (
 p2 [(.sc (.slice none 0 0)),(aa xs 0)] M fun t24 M_2 =>
 bH a0 fun t26 =>
 aV (fun af0 wN M_5 =>
 ae .lss (aa wN 1) t26 fun t28 =>
 ay t28 (
 ax a0 (aa wN 1) 1 fun t29 =>
 aj M_5 t29 fun t30 =>
 appW p3 1 8 [(N .u64 0)] false (aa wN 0) t30 M_5 fun t33 M_6 =>
 ae .add (aa wN 1) (N .i64 1) fun t34 =>
 af0 [t33,t34] M_6) (
 Q (aa wN 0) M_5)) [t24,(N .i64 0)] M_2)) [(N .i64 0),(N .i64 0)] M0
def wJ (p1 p2:au) (a0:AV) (M0:RM) (Q:ai) : Prop :=
 bH a0 fun t4 =>
 og .u64 t4 fun t8 =>
 p1 [t8] M0 fun t9 M =>
 p2 [a0,(N .i64 0),t4,t9] M fun bM M_0 =>
 Q (.tup []) M_0
def rJ (a0:AV) (M0:RM) (Q:ai) : Prop :=
 bH a0 fun t7 =>
 ae .lss t7 (N .i64 2) fun t8 =>
 ay t8 (
 Q a0 M0) (
 aV (fun next xs M =>
 bH a0 fun t12 =>
 ae .lss (aa xs 0) t12 fun t13 =>
 ay t13 (
 ax a0 (aa xs 0) 1 fun t18 =>
 aj M t18 fun t19 =>
 ae .sub (aa xs 0) (N .i64 1) fun t22 =>
 ax a0 t22 1 fun t23 =>
 aj M t23 fun t24 =>
 ae .eql t19 t24 fun t25 =>
 ay t25 (
 iK (bR 1 a0 (some (aa xs 0)) none none) fun t28 =>
 aV (fun tT bJ M_2 =>
 bH t28 fun t31 =>
 ae .lss (aa bJ 1) t31 fun t32 =>
 ay t32 (
 cz (fun J =>
 ax t28 (aa bJ 1) 1 fun t37 =>
 aj M_2 t37 fun t38 =>
 ae .sub (aa bJ 1) (N .i64 1) fun t41 =>
 ax t28 t41 1 fun t42 =>
 aj M_2 t42 fun t43 =>
 ae .neq t38 t43 fun t44 =>
 ay t44 (
 ax t28 (aa bJ 1) 1 fun t49 =>
 aj M_2 t49 fun t50 =>
 ax a0 (aa bJ 0) 1 fun t51 =>
 aG M_2 t51 t50 1 fun M_3 =>
 ae .add (aa bJ 0) (N .i64 1) fun t53 =>
 J [t53] M_3) (
 J [(aa bJ 0)] M_2)) (fun wN M_5 =>
 ae .add (aa bJ 1) (N .i64 1) fun t34 =>
 tT [(aa wN 0),t34] M_5)) (
 iK (bR 1 a0 (some (aa bJ 0)) none none) fun t56 =>
 KU [(N .u64 0)] t56 M_2 fun u M_6 =>
 iK (bR 1 a0 none (some (aa bJ 0)) none) fun t59 =>
 Q t59 M_6)) [(aa xs 0),(N .i64 1)] M) (
 ae .add (aa xs 0) (N .i64 1) fun t15 =>
 next [t15] M)) (
 Q a0 M)) [(N .i64 1)] M0)
def uL (a0:AV) (M0:RM) (Q:ai) : Prop :=
 aV (fun next xs M =>
 bV a0 fun t5 =>
 aI t5 1 fun t6 =>
 aj M t6 fun t7 =>
 bH t7 fun t8 =>
 ae .lss (aa xs 0) t8 fun t9 =>
 af t9 true (fun k=>k a0 M none) (fun k=>k .undef M none) fun bU M_0 b =>
 af t9 true (fun k_1=>bV bU fun t12 =>
 k_1 t12 M_0 none) (fun k=>k .undef M_0 none) fun ak4 M_3 b_4 =>
 af t9 true (fun k_5=>aI ak4 1 fun t13 =>
 k_5 t13 M_3 none) (fun k=>k .undef M_3 none) fun amk M_7 b_8 =>
 af t9 true (fun k_9=>aj M_7 amk fun t14 =>
 k_9 t14 M_7 none) (fun k=>k .undef M_7 none) fun ah8 dI VR =>
 af t9 true (fun CQ=>CQ (aa xs 0) dI none) (fun k=>k .undef dI none) fun t15 jo aoN =>
 af t9 true (fun IR=>ax ah8 t15 1 fun t16 =>
 IR t16 jo none) (fun k=>k .undef jo none) fun afP dV X6 =>
 af t9 true (fun mW=>aj dV afP fun t17 =>
 mW t17 dV none) (fun k=>k .undef dV none) fun agt fO Qu =>
 af t9 true (fun uI=>uI a0 fO none) (fun k=>k .undef fO none) fun t18 fG Me =>
 af t9 true (fun q9=>bV t18 fun t19 =>
 q9 t19 fG none) (fun k=>k .undef fG none) fun ahN iL IW =>
 af t9 true (fun ko=>aI ahN 0 fun t20 =>
 ko t20 iL none) (fun k=>k .undef iL none) fun ajm il Xg =>
 af t9 true (fun kC=>aj il ajm fun t21 =>
 kC t21 il none) (fun k=>k .undef il none) fun afs dx LU =>
 af t9 true (fun DD=>ae .add afs (N .u64 1) fun t22 =>
 DD t22 dx none) (fun k=>k .undef dx none) fun aiV iH JG =>
 af t9 true (fun Jv=>ae .leq agt aiV fun t23 =>
 Jv t23 iH none) (fun k=>k .undef iH none) fun ajG j5 aiy =>
 aK t9 ajG (Bo false) fun t24 =>
 ay t24 (
 bV a0 fun t27 =>
 aI t27 0 fun t28 =>
 aj j5 t28 fun t29 =>
 bV a0 fun t31 =>
 aI t31 1 fun t32 =>
 aj j5 t32 fun t33 =>
 ax t33 (aa xs 0) 1 fun t35 =>
 aj j5 t35 fun t36 =>
 MN true t29 t36 fun t37 =>
 bV a0 fun t38 =>
 aI t38 0 fun t39 =>
 aG j5 t39 t37 1 fun rC =>
 ae .add (aa xs 0) (N .i64 1) fun t41 =>
 next [t41] rC) (
 bV a0 fun t44 =>
 aI t44 1 fun t45 =>
 aj j5 t45 fun t46 =>
 iK (bR 1 t46 (some (aa xs 0)) none none) fun t48 =>
 bV a0 fun t49 =>
 aI t49 1 fun t50 =>
 aG j5 t50 t48 1 fun kw =>
 Q (.tup []) kw)) [(N .i64 0)] M0
def mr (p1 p2:au) (a0 a1:AV) (M0:RM) (Q:ai) : Prop :=
 bH a0 fun bU =>
 aV (fun next xs M =>
 ae .lss (aa xs 0) (aa xs 1) fun t15 =>
 ay t15 (
 ae .add (aa xs 0) (aa xs 1) fun t18 =>
 og .u64 t18 fun t19 =>
 Bt .shr t19 (N .u64 1) fun t20 =>
 og .i64 t20 fun t21 =>
 ax a0 t21 1 fun t24 =>
 aj M t24 fun t25 =>
 p1 [t25,a1] M fun t27 M_0 =>
 ay t27 (
 ae .add t21 (N .i64 1) fun t29 =>
 next [t29,(aa xs 1)] M_0) (
 next [(aa xs 0),t21] M_0)) (
 ae .lss (aa xs 0) bU fun t34 =>
 ah t34 true (fun k=>k a0 M) (fun k=>k .undef M) fun t36 M_1 =>
 ah t34 true (fun k_2=>k_2 (aa xs 0) M_1) (fun k=>k .undef M_1) fun t37 M_3 =>
 ah t34 true (fun k_4=>ax t36 t37 1 fun t38 =>
 k_4 t38 M_3) (fun k=>k .undef M_3) fun amc M_6 =>
 ah t34 true (fun k_7=>aj M_6 amc fun t39 =>
 k_7 t39 M_6) (fun k=>k .undef M_6) fun alg M_9 =>
 ah t34 true (fun rG=>rG a1 M_9) (fun k=>k .undef M_9) fun t40 dI =>
 ah t34 true (fun mZ=>ae .eql alg t40 fun t41 =>
 mZ t41 dI) (fun k=>k .undef dI) fun agm jo =>
 ah t34 true (fun nZ=>nZ agm jo) (fun k=>k .undef jo) fun t42 dm =>
 ah t42 false (fun lL=>lL a0 dm) (fun k=>k .undef dm) fun t43 dV =>
 ah t42 false (fun nY=>nY (aa xs 0) dV) (fun k=>k .undef dV) fun t44 nG =>
 ah t42 false (fun q8=>ax t43 t44 1 fun t45 =>
 q8 t45 nG) (fun k=>k .undef nG) fun ag0 ku =>
 ah t42 false (fun uI=>aj ku ag0 fun t46 =>
 uI t46 ku) (fun k=>k .undef ku) fun afE jR =>
 ah t42 false (fun q9=>p2 [afE] jR fun t47 ql =>
 q9 t47 ql) (fun k=>k .undef jR) fun ag3 jK =>
 ah t42 false (fun ko=>ko ag3 jK) (fun k=>k .undef jK) fun t48 rD =>
 ah t48 true (fun IJ=>IJ a1 rD) (fun k=>k .undef rD) fun t49 eU =>
 ah t48 true (fun kC=>p2 [t49] eU fun t50 jF =>
 kC t50 jF) (fun k=>k .undef eU) fun afI qh =>
 ah t42 false (fun DD=>aK t48 afI (Bo false) fun t51 =>
 DD t51 qh) (fun k=>k .undef qh) fun ah5 iH =>
 ah t34 true (fun IM=>aK t42 (Bo true) ah5 fun t52 =>
 IM t52 iH) (fun k=>k .undef iH) fun akp xW =>
 aK t34 akp (Bo false) fun t53 =>
 Q (.tup [(aa xs 0),t53]) xW)) [(N .i64 0),bU] M0
def lI (p1:Nat) (p2 p3:au) (a0 a1 a2:AV) (M0:RM) (Q:ai) : Prop :=
 iK (bR 1 a0 (some a1) none none) fun t12 =>
 bH a2 fun t14 =>
 ae .eql t14 (N .i64 0) fun t16 =>
 ay t16 (
 Q a0 M0) (
 bH a0 fun t19 =>
 ae .eql a1 t19 fun t22 =>
 ay t22 (
 appW p1 1 8 [(N .u64 0)] false a0 a2 M0 fun t25 M =>
 Q t25 M) (
 ae .add t19 t14 fun t28 =>
 A8 a0 fun t30 =>
 ae .gtr t28 t30 fun t31 =>
 ay t31 (
 iK (bR 1 a0 none (some a1) none) fun t34 =>
 ae .add t19 t14 fun t37 =>
 ae .sub t37 a1 fun t39 =>
 appW p1 1 8 [(N .u64 0)] true t34 t39 M0 fun t40 M_0 =>
 iK (bR 1 t40 (some a1) none none) fun t43 =>
 zG 1 t43 a2 M_0 fun t45 M_1 =>
 ae .add a1 t14 fun t49 =>
 iK (bR 1 t40 (some t49) none none) fun t50 =>
 iK (bR 1 a0 (some a1) none none) fun t53 =>
 zG 1 t50 t53 M_1 fun t54 M_2 =>
 Q t40 M_2) (
 ae .add t19 t14 fun t59 =>
 iK (bR 1 a0 none (some t59) none) fun t60 =>
 ae .add a1 t14 fun t65 =>
 iK (bR 1 t60 (some t65) none none) fun t66 =>
 p2 [a2,t66] M0 fun t67 M_3 =>
 dQ t67 fun t68 =>
 ay t68 (
 ae .add a1 t14 fun t72 =>
 iK (bR 1 t60 (some t72) none none) fun t73 =>
 iK (bR 1 t60 (some a1) none none) fun t76 =>
 zG 1 t73 t76 M_3 fun t77 M_4 =>
 iK (bR 1 t60 (some a1) none none) fun t80 =>
 zG 1 t80 a2 M_4 fun t82 M_5 =>
 Q t60 M_5) (
 iK (bR 1 t60 (some t19) none none) fun t86 =>
 zG 1 t86 a2 M_3 fun t88 M_6 =>
 iK (bR 1 t60 (some a1) none none) fun t91 =>
 p3 [t91,t14] M_6 fun t93 M_7 =>
 Q t60 M_7))))
def wL (p1 p2:Nat) (a0 a1:AV) (M0:RM) (Q:ai) : Prop :=
 cz (fun J =>
 ae .lss a1 (N .i64 0) fun t6 =>
 ay t6 (
 False) (
 J [] M0)) (fun xs M =>
 cz (fun J_0 =>
 A8 a0 fun bM =>
 bH a0 fun t12 =>
 ae .sub bM t12 fun t13 =>
 ae .sub a1 t13 fun t14 =>
 ae .gtr t14 (N .i64 0) fun t16 =>
 ay t16 (
 A8 a0 fun t19 =>
 iK (bR 1 a0 none (some t19) none) fun t20 =>
 appW p2 1 8 [(N .u64 0)] true t20 t14 M fun t22 M_1 =>
 bH a0 fun t24 =>
 iK (bR 1 t22 none (some t24) none) fun t25 =>
 J_0 [t25] M_1) (
 J_0 [a0] M)) (fun uY M_3 =>
 Q (aa uY 0) M_3))
def gq (p1 p2 p3 p4 p5 p6 p7 p8 p9 p10:au) (a0 a1 a2 a3:AV) (M0:RM) (Q:ai) : Prop :=
 aV (fun next xs M =>
 ae .sub (aa xs 1) (aa xs 0) fun t21 =>
 ae .leq t21 (N .i64 12) fun t23 =>
 ay t23 (
 p1 [a0,(aa xs 0),(aa xs 1)] M fun t27 M_0 =>
 Q (.tup []) M_0) (
 ae .eql (aa xs 2) (N .i64 0) fun t29 =>
 ay t29 (
 p2 [a0,(aa xs 0),(aa xs 1)] M fun t33 M_1 =>
 Q (.tup []) M_1) (
 cz (fun J =>
 dQ (aa xs 3) fun t35 =>
 ay t35 (
 p3 [a0,(aa xs 0),(aa xs 1)] M fun t39 M_2 =>
 ae .sub (aa xs 2) (N .i64 1) fun t41 =>
 J [t41] M_2) (
 J [(aa xs 2)] M)) (fun bI M_4 =>
 p4 [a0,(aa xs 0),(aa xs 1)] M_4 fun t46 M_5 =>
 gu t46 0 fun t47 =>
 gu t46 1 fun t48 =>
 cz (fun J_6 =>
 ae .eql t48 (N .i64 2) fun t50 =>
 ay t50 (
 p5 [a0,(aa xs 0),(aa xs 1)] M_5 fun t54 M_7 =>
 ae .sub (aa xs 1) (N .i64 1) fun t56 =>
 ae .sub t47 (aa xs 0) fun t59 =>
 ae .sub t56 t59 fun t60 =>
 J_6 [t60,(N .i64 1)] M_7) (
 J_6 [t47,t48] M_5)) (fun Ad M_9 =>
 cz (fun Qn =>
 ah (aa xs 3) true (fun k=>k (aa xs 4) M_9) (fun k=>k .undef M_9) fun t63 dI =>
 aK (aa xs 3) t63 (Bo false) fun t64 =>
 ah t64 true (fun mZ=>mZ (aa Ad 1) dI) (fun k=>k .undef dI) fun t66 dM =>
 ah t64 true (fun iG=>ae .eql t66 (N .i64 1) fun t67 =>
 iG t67 dM) (fun k=>k .undef dM) fun agS dm =>
 aK t64 agS (Bo false) fun t68 =>
 ay t68 (
 p6 [a0,(aa xs 0),(aa xs 1)] dm fun t72 nA =>
 ay t72 (
 Q (.tup []) nA) (
 Qn [] nA)) (
 Qn [] dm)) (fun alP eH =>
 ae .gtr (aa xs 0) (N .i64 0) fun t74 =>
 af t74 true (fun mW=>mW a0 eH none) (fun k=>k .undef eH none) fun t76 dW b =>
 af t74 true (fun oH=>oH (aa xs 0) dW none) (fun k=>k .undef dW none) fun t77 ku QI =>
 af t74 true (fun oq=>ae .sub t77 (N .i64 1) fun t78 =>
 oq t78 ku none) (fun k=>k .undef ku none) fun agG jD ajk =>
 af t74 true (fun Iz=>ax t76 agG 1 fun t79 =>
 Iz t79 jD none) (fun k=>k .undef jD none) fun ake mP afU =>
 af t74 true (fun IJ=>aj mP ake fun t80 =>
 IJ t80 mP none) (fun k=>k .undef mP none) fun aiA Np b_36 =>
 af t74 true (fun aaQ=>aaQ a0 Np none) (fun k=>k .undef Np none) fun t81 qh ako =>
 af t74 true (fun CX=>CX (aa Ad 0) qh none) (fun k=>k .undef qh none) fun t82 iH JG =>
 af t74 true (fun Jv=>ax t81 t82 1 fun t83 =>
 Jv t83 iH none) (fun k=>k .undef iH none) fun ai0 j5 aiy =>
 af t74 true (fun Iq=>aj j5 ai0 fun t84 =>
 Iq t84 j5 none) (fun k=>k .undef j5 none) fun agw nN ane =>
 ah t74 true (fun Px=>p7 [aiA,agw] nN fun t85 y8 =>
 Px t85 y8) (fun k=>k .undef nN) fun ajA jY =>
 af t74 true (fun Cm=>dQ ajA fun t86 =>
 Cm t86 jY none) (fun k=>k .undef jY none) fun Ro gK PK =>
 aK t74 Ro (Bo false) fun t87 =>
 ay t87 (
 p8 [a0,(aa xs 0),(aa xs 1),(aa Ad 0)] gK fun t92 yH =>
 next [t92,(aa xs 1),(aa bI 0),(aa xs 3),(aa xs 4)] yH) (
 p9 [a0,(aa xs 0),(aa xs 1),(aa Ad 0)] gK fun t99 kg =>
 gu t99 0 fun kF =>
 gu t99 1 fun nP =>
 ae .sub kF (aa xs 0) fun t105 =>
 ae .sub (aa xs 1) kF fun nO =>
 ae .quo t21 (N .i64 8) fun xX =>
 ae .lss t105 nO fun wI =>
 ay wI (
 ae .geq t105 xX fun t116 =>
 p10 [a0,(aa xs 0),kF,(aa bI 0)] kg fun Cv lZ =>
 ae .add kF (N .i64 1) fun CK =>
 next [CK,(aa xs 1),(aa bI 0),t116,nP] lZ) (
 ae .geq nO xX fun CF =>
 ae .add kF (N .i64 1) fun uD =>
 p10 [a0,uD,(aa xs 1),(aa bI 0)] kg fun Ca FE =>
 next [(aa xs 0),kF,(aa bI 0),CF,nP] FE)))))))) [a1,a2,a3,(Bo true),(Bo true)] M0
def tH (p1 p2:au) (a0:AV) (M0:RM) (Q:ai) : Prop :=
 ay (Bo false) (
 og .u32 a0 fun t4 =>
 p1 [t4] M0 fun t5 M =>
 Q t5 M) (
 p2 [a0] M0 fun t7 M_0 =>
 Q t7 M_0)
def wS (p1:au) (a0 a1:AV) (M0:RM) (Q:ai) : Prop :=
 p1 [a0] M0 fun t6 M =>
 ah t6 true (fun k=>k a1 M) (fun k=>k .undef M) fun t8 M_0 =>
 ah t6 true (fun k_1=>p1 [t8] M_0 fun t9 M_2 =>
 k_1 t9 M_2) (fun k=>k .undef M_0) fun aap M_4 =>
 ah t6 true (fun k_5=>dQ aap fun bM =>
 k_5 bM M_4) (fun k=>k .undef M_4) fun ama M_7 =>
 aK t6 ama (Bo false) fun bU =>
 ah bU false (fun k_8=>k_8 a0 M_7) (fun k=>k .undef M_7) fun t13 M_9 =>
 ah bU false (fun rG=>rG a1 M_9) (fun k=>k .undef M_9) fun t14 dI =>
 ah bU false (fun mZ=>ae .lss t13 t14 fun t15 =>
 mZ t15 dI) (fun k=>k .undef dI) fun aif jo =>
 aK bU (Bo true) aif fun t16 =>
 Q t16 jo
def rq (a0:AV) (M0:RM) (Q:ai) : Prop :=
 ae .neq a0 a0 fun t5 =>
 Q t5 M0
def dY (p1:au) (a0 a1 a2:AV) (M0:RM) (Q:ai) : Prop :=
 ae .add a1 (N .i64 1) fun t9 =>
 aV (fun next xs M =>
 ae .lss (aa xs 0) a2 fun t12 =>
 ay t12 (
 aV (fun tT bJ M_2 =>
 ae .gtr (aa bJ 0) a1 fun t18 =>
 af t18 true (fun k=>k a0 M_2 none) (fun k=>k .undef M_2 none) fun t20 M_3 b =>
 af t18 true (fun k_4=>k_4 (aa bJ 0) M_3 none) (fun k=>k .undef M_3 none) fun t21 M_5 b_6 =>
 af t18 true (fun k_7=>ax t20 t21 1 fun t22 =>
 k_7 t22 M_5 none) (fun k=>k .undef M_5 none) fun alv M_9 aaC =>
 af t18 true (fun lQ=>aj M_9 alv fun t23 =>
 lQ t23 M_9 none) (fun k=>k .undef M_9 none) fun agi dM Wu =>
 af t18 true (fun nZ=>nZ a0 dM none) (fun k=>k .undef dM none) fun t24 dm Dn =>
 af t18 true (fun rH=>rH (aa bJ 0) dm none) (fun k=>k .undef dm none) fun t25 eH SQ =>
 af t18 true (fun q8=>ae .sub t25 (N .i64 1) fun t26 =>
 q8 t26 eH none) (fun k=>k .undef eH none) fun ahZ ku QI =>
 af t18 true (fun oq=>ax t24 ahZ 1 fun t27 =>
 oq t27 ku none) (fun k=>k .undef ku none) fun akg jD ajk =>
 af t18 true (fun Iz=>aj jD akg fun t28 =>
 Iz t28 jD none) (fun k=>k .undef jD none) fun aiK mP afU =>
 ah t18 true (fun IJ=>p1 [agi,aiK] mP fun t29 eU =>
 IJ t29 eU) (fun k=>k .undef mP) fun agQ jF =>
 aK t18 agQ (Bo false) fun t30 =>
 ay t30 (
 ae .sub (aa bJ 0) (N .i64 1) fun t37 =>
 ae .sub (aa bJ 0) (N .i64 1) fun t40 =>
 ax a0 t40 1 fun t41 =>
 aj jF t41 fun t42 =>
 ax a0 (aa bJ 0) 1 fun t45 =>
 aj jF t45 fun t46 =>
 ax a0 (aa bJ 0) 1 fun t47 =>
 aG jF t47 t42 1 fun dx =>
 ax a0 t37 1 fun t48 =>
 aG dx t48 t46 1 fun qh =>
 ae .sub (aa bJ 0) (N .i64 1) fun t32 =>
 tT [t32] qh) (
 ae .add (aa xs 0) (N .i64 1) fun t14 =>
 next [t14] jF)) [(aa xs 0)] M) (
 Q (.tup []) M)) [t9] M0
def kH (p1:au) (a0 a1 a2:AV) (M0:RM) (Q:ai) : Prop :=
 ae .sub a2 a1 fun t14 =>
 ae .sub t14 (N .i64 1) fun t16 =>
 ae .quo t16 (N .i64 2) fun t17 =>
 aV (fun next xs M =>
 ae .geq (aa xs 0) (N .i64 0) fun t19 =>
 ay t19 (
 p1 [a0,(aa xs 0),t14,a1] M fun t26 M_0 =>
 ae .sub (aa xs 0) (N .i64 1) fun t21 =>
 next [t21] M_0) (
 ae .sub t14 (N .i64 1) fun t28 =>
 aV (fun Qr uY M_3 =>
 ae .geq (aa uY 0) (N .i64 0) fun t30 =>
 ay t30 (
 ae .add a1 (aa uY 0) fun t38 =>
 ae .add a1 (aa uY 0) fun t42 =>
 ax a0 t42 1 fun t43 =>
 aj M_3 t43 fun t44 =>
 ax a0 a1 1 fun t47 =>
 aj M_3 t47 fun t48 =>
 ax a0 a1 1 fun t49 =>
 aG M_3 t49 t44 1 fun M_4 =>
 ax a0 t38 1 fun t50 =>
 aG M_4 t50 t48 1 fun M_5 =>
 p1 [a0,(N .i64 0),(aa uY 0),a1] M_5 fun t55 M_6 =>
 ae .sub (aa uY 0) (N .i64 1) fun t32 =>
 Qr [t32] M_6) (
 Q (.tup []) M_3)) [t28] M)) [t17] M0
def iO (p1:Nat) (p2 p3:au) (a0 a1 a2:AV) (M0:RM) (Q:ai) : Prop :=
 ae .sub a2 a1 fun t13 =>
 ae .geq t13 (N .i64 8) fun t15 =>
 ay t15 (
 og .u64 t13 fun t17 =>
 bP (.row [(N .u64 0)] false p1 0) (fun b=>.ptr b 0) M0 fun t7 M =>
 aG M t7 t17 1 fun M_0 =>
 p2 [t13] M_0 fun t19 M_1 =>
 ae .quo t13 (N .i64 4) fun t22 =>
 ae .mul t22 (N .i64 2) fun t23 =>
 ae .add a1 t23 fun t24 =>
 ae .sub t24 (N .i64 1) fun t25 =>
 aV (fun next xs M_2 =>
 ae .quo t13 (N .i64 4) fun t29 =>
 ae .mul t29 (N .i64 2) fun t30 =>
 ae .add a1 t30 fun t31 =>
 ae .add t31 (N .i64 1) fun t32 =>
 ae .leq (aa xs 0) t32 fun t33 =>
 ay t33 (
 cz (fun J =>
 p3 [t7] M_2 fun t36 M_3 =>
 ae .sub t19 (N .u64 1) fun t38 =>
 ae .and t36 t38 fun t39 =>
 og .i64 t39 fun t40 =>
 cz (fun J_4 =>
 ae .geq t40 t13 fun t43 =>
 ay t43 (
 ae .sub t40 t13 fun t46 =>
 J_4 [t46] M_3) (
 J_4 [t40] M_3)) (fun JU M_6 =>
 ae .add a1 (aa JU 0) fun t52 =>
 ae .add a1 (aa JU 0) fun t56 =>
 ax a0 t56 1 fun t57 =>
 aj M_6 t57 fun t58 =>
 ax a0 (aa xs 0) 1 fun t61 =>
 aj M_6 t61 fun t62 =>
 ax a0 (aa xs 0) 1 fun t63 =>
 aG M_6 t63 t58 1 fun M_7 =>
 ax a0 t52 1 fun t64 =>
 aG M_7 t64 t62 1 fun M_8 =>
 J [] M_8)) (fun aoT ek =>
 ae .add (aa xs 0) (N .i64 1) fun t35 =>
 next [t35] ek)) (
 Q (.tup []) M_2)) [t25] M_1) (
 Q (.tup []) M0)
def jm (p1:Nat) (p2 p3:au) (a0 a1 a2:AV) (M0:RM) (Q:ai) : Prop :=
 ae .sub a2 a1 fun t15 =>
 bP (.row [(N .i64 0)] false p1 0) (fun b=>.ptr b 0) M0 fun t9 M =>
 ae .quo t15 (N .i64 4) fun t18 =>
 ae .mul t18 (N .i64 1) fun t19 =>
 ae .add a1 t19 fun t20 =>
 ae .quo t15 (N .i64 4) fun t23 =>
 ae .mul t23 (N .i64 2) fun t24 =>
 ae .add a1 t24 fun t25 =>
 ae .quo t15 (N .i64 4) fun t28 =>
 ae .mul t28 (N .i64 3) fun t29 =>
 ae .add a1 t29 fun t30 =>
 cz (fun J =>
 ae .geq t15 (N .i64 8) fun t32 =>
 ay t32 (
 cz (fun J_0 =>
 ae .geq t15 (N .i64 50) fun t34 =>
 ay t34 (
 p2 [a0,t20,t9] M fun t37 M_1 =>
 p2 [a0,t25,t9] M_1 fun t40 M_2 =>
 p2 [a0,t30,t9] M_2 fun t43 M_3 =>
 J_0 [t37,t40,t43] M_3) (
 J_0 [t20,t25,t30] M)) (fun xs M_4 =>
 p3 [a0,(aa xs 0),(aa xs 1),(aa xs 2),t9] M_4 fun t48 M_5 =>
 J [t48] M_5)) (
 J [t25] M)) (fun mV M_7 =>
 aj M_7 t9 fun t49 =>
 ae .eql t49 (N .i64 0) fun t52 =>
 ay t52 (
 Q (.tup [(aa mV 0),(N .i64 1)]) M_7) (
 ae .eql t49 (N .i64 12) fun t55 =>
 ay t55 (
 Q (.tup [(aa mV 0),(N .i64 2)]) M_7) (
 Q (.tup [(aa mV 0),(N .i64 0)]) M_7)))
def iX (a0 a1 a2:AV) (M0:RM) (Q:ai) : Prop :=
 ae .sub a2 (N .i64 1) fun bM =>
 aV (fun next xs M =>
 ae .lss (aa xs 0) (aa xs 1) fun t13 =>
 ay t13 (
 ax a0 (aa xs 1) 1 fun t20 =>
 aj M t20 fun t21 =>
 ax a0 (aa xs 0) 1 fun t24 =>
 aj M t24 fun t25 =>
 ax a0 (aa xs 0) 1 fun t26 =>
 aG M t26 t21 1 fun M_0 =>
 ax a0 (aa xs 1) 1 fun t27 =>
 aG M_0 t27 t25 1 fun M_1 =>
 ae .add (aa xs 0) (N .i64 1) fun t29 =>
 ae .sub (aa xs 1) (N .i64 1) fun t31 =>
 next [t29,t31] M_1) (
 Q (.tup []) M)) [a1,bM] M0
def fP (p1:au) (a0 a1 a2:AV) (M0:RM) (Q:ai) : Prop :=
 ae .add a1 (N .i64 1) fun t12 =>
 aV (fun next xs M =>
 ae .lss (aa xs 1) (N .i64 5) fun t14 =>
 ay t14 (
 cz (fun J =>
 aV (fun tT bJ M_2 =>
 ae .lss (aa bJ 0) a2 fun t19 =>
 af t19 true (fun k=>k a0 M_2 none) (fun k=>k .undef M_2 none) fun t21 M_3 b =>
 af t19 true (fun k_4=>k_4 (aa bJ 0) M_3 none) (fun k=>k .undef M_3 none) fun t22 M_5 b_6 =>
 af t19 true (fun k_7=>ax t21 t22 1 fun t23 =>
 k_7 t23 M_5 none) (fun k=>k .undef M_5 none) fun alW M_9 aaC =>
 af t19 true (fun lQ=>aj M_9 alW fun t24 =>
 lQ t24 M_9 none) (fun k=>k .undef M_9 none) fun agz dM Wu =>
 af t19 true (fun nZ=>nZ a0 dM none) (fun k=>k .undef dM none) fun t25 dm Dn =>
 af t19 true (fun rH=>rH (aa bJ 0) dm none) (fun k=>k .undef dm none) fun t26 eH SQ =>
 af t19 true (fun q8=>ae .sub t26 (N .i64 1) fun t27 =>
 q8 t27 eH none) (fun k=>k .undef eH none) fun aft ku QI =>
 af t19 true (fun oq=>ax t25 aft 1 fun t28 =>
 oq t28 ku none) (fun k=>k .undef ku none) fun ajv jD ajk =>
 af t19 true (fun Iz=>aj jD ajv fun t29 =>
 Iz t29 jD none) (fun k=>k .undef jD none) fun akc mP afU =>
 ah t19 true (fun IJ=>p1 [agz,akc] mP fun t30 eU =>
 IJ t30 eU) (fun k=>k .undef mP) fun ahj jF =>
 af t19 true (fun aaQ=>dQ ahj fun t31 =>
 aaQ t31 jF none) (fun k=>k .undef jF none) fun ajZ j6 ajq =>
 aK t19 ajZ (Bo false) fun t32 =>
 ay t32 (
 ae .add (aa bJ 0) (N .i64 1) fun t34 =>
 tT [t34] j6) (
 ae .eql (aa bJ 0) a2 fun t37 =>
 ay t37 (
 Q (Bo true) j6) (
 ae .sub a2 a1 fun t40 =>
 ae .lss t40 (N .i64 50) fun t41 =>
 ay t41 (
 Q (Bo false) j6) (
 ae .sub (aa bJ 0) (N .i64 1) fun t46 =>
 ae .sub (aa bJ 0) (N .i64 1) fun t49 =>
 ax a0 t49 1 fun t50 =>
 aj j6 t50 fun t51 =>
 ax a0 (aa bJ 0) 1 fun t54 =>
 aj j6 t54 fun t55 =>
 ax a0 (aa bJ 0) 1 fun t56 =>
 aG j6 t56 t51 1 fun iH =>
 ax a0 t46 1 fun t57 =>
 aG iH t57 t55 1 fun uZ =>
 cz (fun aby =>
 ae .sub (aa bJ 0) a1 fun t60 =>
 ae .geq t60 (N .i64 2) fun t61 =>
 ay t61 (
 ae .sub (aa bJ 0) (N .i64 1) fun t63 =>
 aV (fun aef zW gX =>
 ae .geq (aa zW 0) (N .i64 1) fun t65 =>
 ay t65 (
 ax a0 (aa zW 0) 1 fun t70 =>
 aj gX t70 fun t71 =>
 ae .sub (aa zW 0) (N .i64 1) fun t74 =>
 ax a0 t74 1 fun t75 =>
 aj gX t75 fun t76 =>
 p1 [t71,t76] gX fun t77 rC =>
 dQ t77 fun t78 =>
 ay t78 (
 aby [] rC) (
 ae .sub (aa zW 0) (N .i64 1) fun t83 =>
 ae .sub (aa zW 0) (N .i64 1) fun t86 =>
 ax a0 t86 1 fun t87 =>
 aj rC t87 fun t88 =>
 ax a0 (aa zW 0) 1 fun t91 =>
 aj rC t91 fun t92 =>
 ax a0 (aa zW 0) 1 fun t93 =>
 aG rC t93 t88 1 fun kw =>
 ax a0 t83 1 fun t94 =>
 aG kw t94 t92 1 fun nN =>
 ae .sub (aa zW 0) (N .i64 1) fun t67 =>
 aef [t67] nN)) (
 aby [] gX)) [t63] uZ) (
 aby [] uZ)) (fun xs_50 wE =>
 ae .sub a2 (aa bJ 0) fun t97 =>
 ae .geq t97 (N .i64 2) fun t98 =>
 ay t98 (
 ae .add (aa bJ 0) (N .i64 1) fun kF =>
 aV (fun ad7 zA jY =>
 ae .lss (aa zA 0) a2 fun xP =>
 ay xP (
 ax a0 (aa zA 0) 1 fun nO =>
 aj jY nO fun t109 =>
 ae .sub (aa zA 0) (N .i64 1) fun tC =>
 ax a0 tC 1 fun wI =>
 aj jY wI fun Ij =>
 p1 [t109,Ij] jY fun uW oJ =>
 dQ uW fun t116 =>
 ay t116 (
 J [(aa bJ 0)] oJ) (
 ae .sub (aa zA 0) (N .i64 1) fun Cv =>
 ae .sub (aa zA 0) (N .i64 1) fun t124 =>
 ax a0 t124 1 fun mY =>
 aj oJ mY fun CF =>
 ax a0 (aa zA 0) 1 fun uD =>
 aj oJ uD fun t130 =>
 ax a0 (aa zA 0) 1 fun t131 =>
 aG oJ t131 CF 1 fun uE =>
 ax a0 Cv 1 fun Ca =>
 aG uE Ca t130 1 fun gK =>
 ae .add (aa zA 0) (N .i64 1) fun t105 =>
 ad7 [t105] gK)) (
 J [(aa bJ 0)] jY)) [kF] wE) (
 J [(aa bJ 0)] wE)))))) [(aa xs 0)] M) (fun alN yH =>
 ae .add (aa xs 1) (N .i64 1) fun t16 =>
 next [(aa alN 0),t16] yH)) (
 Q (Bo false) M)) [t12,(N .i64 0)] M0
def iE (p1:au) (a0 a1 a2 a3:AV) (M0:RM) (Q:ai) : Prop :=
 ax a0 a3 1 fun t17 =>
 aj M0 t17 fun t18 =>
 ax a0 a1 1 fun t21 =>
 aj M0 t21 fun t22 =>
 ax a0 a1 1 fun t23 =>
 aG M0 t23 t18 1 fun M =>
 ax a0 a3 1 fun t24 =>
 aG M t24 t22 1 fun M_0 =>
 ae .add a1 (N .i64 1) fun t26 =>
 ae .sub a2 (N .i64 1) fun t28 =>
 aV (fun next xs M_1 =>
 aV (fun tQ bI M_4 =>
 ae .leq (aa bI 0) (aa xs 1) fun t31 =>
 af t31 true (fun k=>k a0 M_4 none) (fun k=>k .undef M_4 none) fun t33 M_5 b =>
 af t31 true (fun k_6=>k_6 a1 M_5 none) (fun k=>k .undef M_5 none) fun t34 M_7 b_8 =>
 af t31 true (fun k_9=>ax t33 t34 1 fun t35 =>
 k_9 t35 M_7 none) (fun k=>k .undef M_7 none) fun ajw dI VR =>
 af t31 true (fun CQ=>aj dI ajw fun t36 =>
 CQ t36 dI none) (fun k=>k .undef dI none) fun ajs jQ VG =>
 af t31 true (fun lL=>lL a0 jQ none) (fun k=>k .undef jQ none) fun t37 dV X6 =>
 af t31 true (fun mW=>mW (aa bI 0) dV none) (fun k=>k .undef dV none) fun t38 dW XZ =>
 af t31 true (fun qW=>ax t37 t38 1 fun t39 =>
 qW t39 dW none) (fun k=>k .undef dW none) fun ahm fG Me =>
 af t31 true (fun q9=>aj fG ahm fun t40 =>
 q9 t40 fG none) (fun k=>k .undef fG none) fun ajb iL IW =>
 ah t31 true (fun ko=>p1 [ajs,ajb] iL fun t41 rD =>
 ko t41 rD) (fun k=>k .undef iL) fun ahH eU =>
 af t31 true (fun kC=>dQ ahH fun t42 =>
 kC t42 eU none) (fun k=>k .undef eU none) fun afY dx LU =>
 aK t31 afY (Bo false) fun t43 =>
 ay t43 (
 ae .add (aa bI 0) (N .i64 1) fun t45 =>
 tQ [t45] dx) (
 aV (fun LY kL iH =>
 ae .leq (aa bI 0) (aa kL 0) fun t48 =>
 af t48 true (fun IM=>IM a0 iH none) (fun k=>k .undef iH none) fun t50 gW abN =>
 af t48 true (fun Cu=>Cu a1 gW none) (fun k=>k .undef gW none) fun t51 gX aau =>
 af t48 true (fun Ty=>ax t50 t51 1 fun t52 =>
 Ty t52 gX none) (fun k=>k .undef gX none) fun agf mF abp =>
 af t48 true (fun CS=>aj mF agf fun t53 =>
 CS t53 mF none) (fun k=>k .undef mF none) fun aij jY aox =>
 af t48 true (fun QL=>QL a0 jY none) (fun k=>k .undef jY none) fun t54 gK PK =>
 af t48 true (fun yu=>yu (aa kL 0) gK none) (fun k=>k .undef gK none) fun t55 kg aaE =>
 af t48 true (fun yR=>ax t54 t55 1 fun t56 =>
 yR t56 kg none) (fun k=>k .undef kg none) fun ai4 mX aaR =>
 af t48 true (fun PV=>aj mX ai4 fun t57 =>
 PV t57 mX none) (fun k=>k .undef mX none) fun ahC y7 aoQ =>
 ah t48 true (fun PN=>p1 [aij,ahC] y7 fun t58 yA =>
 PN t58 yA) (fun k=>k .undef y7) fun af2 tX =>
 aK t48 af2 (Bo false) fun t59 =>
 ay t59 (
 ae .sub (aa kL 0) (N .i64 1) fun t61 =>
 LY [t61] tX) (
 ae .gtr (aa bI 0) (aa kL 0) fun t64 =>
 ay t64 (
 Q (aa bI 0) tX) (
 ax a0 (aa kL 0) 1 fun t71 =>
 aj tX t71 fun t72 =>
 ax a0 (aa bI 0) 1 fun t75 =>
 aj tX t75 fun t76 =>
 ax a0 (aa bI 0) 1 fun t77 =>
 aG tX t77 t72 1 fun wP =>
 ax a0 (aa kL 0) 1 fun t78 =>
 aG wP t78 t76 1 fun Mq =>
 ae .add (aa bI 0) (N .i64 1) fun t80 =>
 ae .sub (aa kL 0) (N .i64 1) fun t82 =>
 next [t80,t82] Mq))) [(aa xs 1)] dx)) [(aa xs 0)] M_1) [t26,t28] M_0
def jS (p1:au) (a0 a1 a2 a3:AV) (M0:RM) (Q:ai) : Prop :=
 ax a0 a3 1 fun t18 =>
 aj M0 t18 fun t19 =>
 ax a0 a1 1 fun t22 =>
 aj M0 t22 fun t23 =>
 ax a0 a1 1 fun t24 =>
 aG M0 t24 t19 1 fun M =>
 ax a0 a3 1 fun t25 =>
 aG M t25 t23 1 fun M_0 =>
 ae .add a1 (N .i64 1) fun t27 =>
 ae .sub a2 (N .i64 1) fun t29 =>
 aV (fun next xs M_1 =>
 ae .leq (aa xs 0) t29 fun t32 =>
 af t32 true (fun k=>k a0 M_1 none) (fun k=>k .undef M_1 none) fun t34 M_2 b =>
 af t32 true (fun k_3=>k_3 (aa xs 0) M_2 none) (fun k=>k .undef M_2 none) fun t35 M_4 b_5 =>
 af t32 true (fun k_6=>ax t34 t35 1 fun t36 =>
 k_6 t36 M_4 none) (fun k=>k .undef M_4 none) fun akJ M_8 b_9 =>
 af t32 true (fun rG=>aj M_8 akJ fun t37 =>
 rG t37 M_8 none) (fun k=>k .undef M_8 none) fun aj6 lT QH =>
 af t32 true (fun iG=>iG a0 lT none) (fun k=>k .undef lT none) fun t38 jQ VG =>
 af t32 true (fun lL=>lL a1 jQ none) (fun k=>k .undef jQ none) fun t39 dV X6 =>
 af t32 true (fun mW=>ax t38 t39 1 fun t40 =>
 mW t40 dV none) (fun k=>k .undef dV none) fun akl fO Qu =>
 af t32 true (fun uI=>aj fO akl fun t41 =>
 uI t41 fO none) (fun k=>k .undef fO none) fun afN jR QS =>
 ah t32 true (fun nk=>p1 [aj6,afN] jR fun t42 iL =>
 nk t42 iL) (fun k=>k .undef jR) fun aiR mP =>
 aK t32 aiR (Bo false) fun t43 =>
 ay t43 (
 ae .add (aa xs 0) (N .i64 1) fun t45 =>
 next [t45] mP) (
 aV (fun aeI vO eU =>
 ae .leq (aa xs 0) (aa vO 0) fun t48 =>
 af t48 true (fun kC=>kC a0 eU none) (fun k=>k .undef eU none) fun t50 jF anP =>
 af t48 true (fun Jq=>Jq (aa vO 0) jF none) (fun k=>k .undef jF none) fun t51 j6 ajq =>
 af t48 true (fun Jm=>ax t50 t51 1 fun t52 =>
 Jm t52 j6 none) (fun k=>k .undef j6 none) fun aiQ gW abN =>
 af t48 true (fun Cu=>aj gW aiQ fun t53 =>
 Cu t53 gW none) (fun k=>k .undef gW none) fun afF rC aoV =>
 af t48 true (fun Jc=>Jc a0 rC none) (fun k=>k .undef rC none) fun t54 mF abp =>
 af t48 true (fun CS=>CS a1 mF none) (fun k=>k .undef mF none) fun t55 ny aaO =>
 af t48 true (fun Cm=>ax t54 t55 1 fun t56 =>
 Cm t56 ny none) (fun k=>k .undef ny none) fun ajV gK PK =>
 af t48 true (fun yu=>aj gK ajV fun t57 =>
 yu t57 gK none) (fun k=>k .undef gK none) fun ag8 lZ aoK =>
 ah t48 true (fun aci=>p1 [afF,ag8] lZ fun t58 mX =>
 aci t58 mX) (fun k=>k .undef lZ) fun ajX u7 =>
 af t48 true (fun QX=>dQ ajX fun t59 =>
 QX t59 u7 none) (fun k=>k .undef u7 none) fun afu tL b_70 =>
 aK t48 afu (Bo false) fun t60 =>
 ay t60 (
 ae .sub (aa vO 0) (N .i64 1) fun t62 =>
 aeI [t62] tL) (
 ae .gtr (aa xs 0) (aa vO 0) fun t65 =>
 ay t65 (
 ax a0 a1 1 fun t72 =>
 aj tL t72 fun t73 =>
 ax a0 (aa vO 0) 1 fun t76 =>
 aj tL t76 fun t77 =>
 ax a0 (aa vO 0) 1 fun t78 =>
 aG tL t78 t73 1 fun yA =>
 ax a0 a1 1 fun t79 =>
 aG yA t79 t77 1 fun FJ =>
 Q (.tup [(aa vO 0),(Bo true)]) FJ) (
 ax a0 (aa vO 0) 1 fun t87 =>
 aj tL t87 fun t88 =>
 ax a0 (aa xs 0) 1 fun t91 =>
 aj tL t91 fun t92 =>
 ax a0 (aa xs 0) 1 fun t93 =>
 aG tL t93 t88 1 fun tX =>
 ax a0 (aa vO 0) 1 fun t94 =>
 aG tX t94 t92 1 fun wP =>
 ae .add (aa xs 0) (N .i64 1) fun t96 =>
 ae .sub (aa vO 0) (N .i64 1) fun t98 =>
 aV (fun aeL XW SF =>
 aV (fun aeN vF Yg =>
 ae .leq (aa vF 0) (aa XW 1) fun nP =>
 af nP true (fun Py=>Py a0 Yg none) (fun k=>k .undef Yg none) fun xP JJ b_83 =>
 af nP true (fun aac=>aac (aa vF 0) JJ none) (fun k=>k .undef JJ none) fun Bi xQ b_86 =>
 af nP true (fun aos=>ax xP Bi 1 fun t105 =>
 aos t105 xQ none) (fun k=>k .undef xQ none) fun aeO P7 b_90 =>
 af nP true (fun ann=>aj P7 aeO fun QC =>
 ann QC P7 none) (fun k=>k .undef P7 none) fun aev ahg b_94 =>
 af nP true (fun Re=>Re a0 ahg none) (fun k=>k .undef ahg none) fun t107 A9 an8 =>
 af nP true (fun Qj=>Qj a1 A9 none) (fun k=>k .undef A9 none) fun nO FK acZ =>
 af nP true (fun DF=>ax t107 nO 1 fun t109 =>
 DF t109 FK none) (fun k=>k .undef FK none) fun ack Gv aln =>
 af nP true (fun Xt=>aj Gv ack fun xX =>
 Xt xX Gv none) (fun k=>k .undef Gv none) fun abU Gd b_108 =>
 ah nP true (fun VP=>p1 [aev,abU] Gd fun AJ Cr =>
 VP AJ Cr) (fun k=>k .undef Gd) fun ZV acL =>
 aK nP ZV (Bo false) fun tC =>
 ay tC (
 ae .add (aa vF 0) (N .i64 1) fun Ij =>
 aeN [Ij] acL) (
 aV (fun ab4 qI zT =>
 ae .leq (aa vF 0) (aa qI 0) fun t117 =>
 af t117 true (fun alG=>alG a0 zT none) (fun k=>k .undef zT none) fun t119 acY b_118 =>
 af t117 true (fun amd=>amd (aa qI 0) acY none) (fun k=>k .undef acY none) fun AY G5 alT =>
 af t117 true (fun Yn=>ax t119 AY 1 fun Cv =>
 Yn Cv G5 none) (fun k=>k .undef G5 none) fun abR xq alL =>
 af t117 true (fun Ww=>aj xq abR fun Aa =>
 Ww Aa xq none) (fun k=>k .undef xq none) fun ab8 acK b_129 =>
 af t117 true (fun VB=>VB a0 acK none) (fun k=>k .undef acK none) fun CK adi b_132 =>
 af t117 true (fun amt=>amt a1 adi none) (fun k=>k .undef adi none) fun t124 adw b_135 =>
 af t117 true (fun al1=>ax CK t124 1 fun mY =>
 al1 mY adw none) (fun k=>k .undef adw none) fun abT GG ak5 =>
 af t117 true (fun Xk=>aj GG abT fun CF =>
 Xk CF GG none) (fun k=>k .undef GG none) fun abd acW b_143 =>
 ah t117 true (fun ald=>p1 [ab8,abd] acW fun t127 Pf =>
 ald t127 Pf) (fun k=>k .undef acW) fun abt acX =>
 af t117 true (fun amB=>dQ abt fun PQ =>
 amB PQ acX none) (fun k=>k .undef acX none) fun Z4 DX b_151 =>
 aK t117 Z4 (Bo false) fun uD =>
 ay uD (
 ae .sub (aa qI 0) (N .i64 1) fun t131 =>
 ab4 [t131] DX) (
 ae .gtr (aa vF 0) (aa qI 0) fun MQ =>
 ay MQ (
 ax a0 a1 1 fun t159 =>
 aj DX t159 fun t160 =>
 ax a0 (aa qI 0) 1 fun aod =>
 aj DX aod fun t164 =>
 ax a0 (aa qI 0) 1 fun anI =>
 aG DX anI t160 1 fun Ct =>
 ax a0 a1 1 fun an9 =>
 aG Ct an9 t164 1 fun alI =>
 Q (.tup [(aa qI 0),(Bo false)]) alI) (
 ax a0 (aa qI 0) 1 fun t141 =>
 aj DX t141 fun aaa =>
 ax a0 (aa vF 0) 1 fun t145 =>
 aj DX t145 fun t146 =>
 ax a0 (aa vF 0) 1 fun anw =>
 aG DX anw aaa 1 fun alD =>
 ax a0 (aa qI 0) 1 fun t148 =>
 aG alD t148 t146 1 fun Df =>
 ae .add (aa vF 0) (N .i64 1) fun ao3 =>
 ae .sub (aa qI 0) (N .i64 1) fun t152 =>
 aeL [ao3,t152] Df))) [(aa XW 1)] acL)) [(aa XW 0)] SF) [t96,t98] wP))) [t29] mP)) [t27] M_0
def qi (a0:AV) (M0:RM) (Q:ai) : Prop :=
 cz (fun J =>
 ae .geq a0 (N .u64 4294967296) fun t4 =>
 ay t4 (
 Bt .shr a0 (N .u64 32) fun t6 =>
 J [t6,(N .i64 32)] M0) (
 J [a0,(N .i64 0)] M0)) (fun xs M =>
 cz (fun J_0 =>
 ae .geq (aa xs 0) (N .u64 65536) fun t8 =>
 ay t8 (
 Bt .shr (aa xs 0) (N .u64 16) fun bM =>
 ae .add (aa xs 1) (N .i64 16) fun t12 =>
 J_0 [bM,t12] M) (
 J_0 [(aa xs 0),(aa xs 1)] M)) (fun bJ M_2 =>
 cz (fun J_3 =>
 ae .geq (aa bJ 0) (N .u64 256) fun t14 =>
 ay t14 (
 Bt .shr (aa bJ 0) (N .u64 8) fun t16 =>
 ae .add (aa bJ 1) (N .i64 8) fun t18 =>
 J_3 [t16,t18] M_2) (
 J_3 [(aa bJ 0),(aa bJ 1)] M_2)) (fun wN M_5 =>
 og .u8 (aa wN 0) fun t21 =>
 Rp (St [0,1,2,2,3,3,3,3,4,4,4,4,4,4,4,4,5,5,5,5,5,5,5,5,5,5,5,5,5,5,5,5,6,6,6,6,6,6,6,6,6,6,6,6,6,6,6,6,6,6,6,6,6,6,6,6,6,6,6,6,6,6,6,6,7,7,7,7,7,7,7,7,7,7,7,7,7,7,7,7,7,7,7,7,7,7,7,7,7,7,7,7,7,7,7,7,7,7,7,7,7,7,7,7,7,7,7,7,7,7,7,7,7,7,7,7,7,7,7,7,7,7,7,7,7,7,7,7,8,8,8,8,8,8,8,8,8,8,8,8,8,8,8,8,8,8,8,8,8,8,8,8,8,8,8,8,8,8,8,8,8,8,8,8,8,8,8,8,8,8,8,8,8,8,8,8,8,8,8,8,8,8,8,8,8,8,8,8,8,8,8,8,8,8,8,8,8,8,8,8,8,8,8,8,8,8,8,8,8,8,8,8,8,8,8,8,8,8,8,8,8,8,8,8,8,8,8,8,8,8,8,8,8,8,8,8,8,8,8,8,8,8,8,8,8,8,8,8,8,8,8,8,8,8,8,8]) t21 fun t22 =>
 og .i64 t22 fun t23 =>
 ae .add (aa wN 1) t23 fun t24 =>
 Q t24 M_5)))
def pF (a0:AV) (M0:RM) (Q:ai) : Prop :=
 ae .neq a0 a0 fun t5 =>
 Q t5 M0
def kJ (p1:au) (a0 a1 a2 a3:AV) (M0:RM) (Q:ai) : Prop :=
 aV (fun next xs M =>
 ae .mul (N .i64 2) (aa xs 0) fun t12 =>
 ae .add t12 (N .i64 1) fun t13 =>
 ae .geq t13 a2 fun t16 =>
 ay t16 (
 Q (.tup []) M) (
 cz (fun J =>
 ae .add t13 (N .i64 1) fun t18 =>
 ae .lss t18 a2 fun t20 =>
 af t20 true (fun k=>k a0 M none) (fun k=>k .undef M none) fun t22 M_0 b =>
 af t20 true (fun k_1=>k_1 a3 M_0 none) (fun k=>k .undef M_0 none) fun t23 M_2 b_3 =>
 af t20 true (fun k_4=>k_4 t13 M_2 none) (fun k=>k .undef M_2 none) fun t24 M_5 b_6 =>
 af t20 true (fun k_7=>ae .add t23 t24 fun t25 =>
 k_7 t25 M_5 none) (fun k=>k .undef M_5 none) fun amA M_9 aaC =>
 af t20 true (fun lQ=>ax t22 amA 1 fun t26 =>
 lQ t26 M_9 none) (fun k=>k .undef M_9 none) fun afg dM Wu =>
 af t20 true (fun nZ=>aj dM afg fun t27 =>
 nZ t27 dM none) (fun k=>k .undef dM none) fun ahA nA aiZ =>
 af t20 true (fun nY=>nY a0 nA none) (fun k=>k .undef nA none) fun t28 nG abx =>
 af t20 true (fun oH=>oH a3 nG none) (fun k=>k .undef nG none) fun t29 ku QI =>
 af t20 true (fun oq=>oq t13 ku none) (fun k=>k .undef ku none) fun t30 jR QS =>
 af t20 true (fun nk=>ae .add t29 t30 fun t31 =>
 nk t31 jR none) (fun k=>k .undef jR none) fun QG jK aaT =>
 af t20 true (fun yD=>ae .add QG (N .i64 1) fun t32 =>
 yD t32 jK none) (fun k=>k .undef jK none) fun Rt eU ab6 =>
 af t20 true (fun Io=>ax t28 Rt 1 fun t33 =>
 Io t33 eU none) (fun k=>k .undef eU none) fun ahz qh ako =>
 af t20 true (fun CX=>aj qh ahz fun t34 =>
 CX t34 qh none) (fun k=>k .undef qh none) fun Sm uZ afQ =>
 ah t20 true (fun JF=>p1 [ahA,Sm] uZ fun t35 j5 =>
 JF t35 j5) (fun k=>k .undef uZ) fun akd rC =>
 aK t20 akd (Bo false) fun t36 =>
 ay t36 (
 ae .add t13 (N .i64 1) fun t38 =>
 J [t38] rC) (
 J [t13] rC)) (fun O4 nN =>
 ae .add a3 (aa xs 0) fun t42 =>
 ax a0 t42 1 fun t43 =>
 aj nN t43 fun t44 =>
 ae .add a3 (aa O4 0) fun t48 =>
 ax a0 t48 1 fun t49 =>
 aj nN t49 fun t50 =>
 p1 [t44,t50] nN fun t51 mF =>
 dQ t51 fun t52 =>
 ay t52 (
 Q (.tup []) mF) (
 ae .add a3 (aa xs 0) fun t56 =>
 ae .add a3 (aa O4 0) fun t60 =>
 ae .add a3 (aa O4 0) fun t64 =>
 ax a0 t64 1 fun t65 =>
 aj mF t65 fun t66 =>
 ae .add a3 (aa xs 0) fun t70 =>
 ax a0 t70 1 fun t71 =>
 aj mF t71 fun t72 =>
 ax a0 t56 1 fun t73 =>
 aG mF t73 t66 1 fun wE =>
 ax a0 t60 1 fun t74 =>
 aG wE t74 t72 1 fun y8 =>
 next [(aa O4 0)] y8)))) [a1] M0
def rM (p1:au) (a0:AV) (M0:RM) (Q:ai) : Prop :=
 og .u64 a0 fun t4 =>
 p1 [t4] M0 fun t5 M =>
 Bt .shl (N .u64 1) t5 fun t6 =>
 Q t6 M
def lh (a0:AV) (M0:RM) (Q:ai) : Prop :=
 bV a0 fun t4 =>
 aj M0 t4 fun t5 =>
 bV a0 fun t7 =>
 aj M0 t7 fun t8 =>
 Bt .shl t8 (N .u64 13) fun t9 =>
 ae .xor t5 t9 fun bM =>
 bV a0 fun bU =>
 aG M0 bU bM 1 fun M =>
 bV a0 fun t13 =>
 aj M t13 fun t14 =>
 bV a0 fun t16 =>
 aj M t16 fun t17 =>
 Bt .shr t17 (N .u64 7) fun t18 =>
 ae .xor t14 t18 fun t19 =>
 bV a0 fun t20 =>
 aG M t20 t19 1 fun M_0 =>
 bV a0 fun t22 =>
 aj M_0 t22 fun t23 =>
 bV a0 fun t25 =>
 aj M_0 t25 fun t26 =>
 Bt .shl t26 (N .u64 17) fun t27 =>
 ae .xor t23 t27 fun t28 =>
 bV a0 fun t29 =>
 aG M_0 t29 t28 1 fun M_1 =>
 bV a0 fun t31 =>
 aj M_1 t31 fun t32 =>
 Q t32 M_1
def iF (p1:au) (a0 a1 a2:AV) (M0:RM) (Q:ai) : Prop :=
 ae .sub a1 (N .i64 1) fun t9 =>
 ae .add a1 (N .i64 1) fun t12 =>
 p1 [a0,t9,a1,t12,a2] M0 fun t14 M =>
 Q t14 M
def lX (p1:au) (a0 a1 a2 a3 a4:AV) (M0:RM) (Q:ai) : Prop :=
 p1 [a0,a1,a2,a4] M0 fun t16 M =>
 gu t16 0 fun t17 =>
 gu t16 1 fun t18 =>
 p1 [a0,t18,a3,a4] M fun t24 M_0 =>
 gu t24 0 fun t25 =>
 gu t24 1 fun t26 =>
 p1 [a0,t17,t25,a4] M_0 fun t32 M_1 =>
 gu t32 0 fun t33 =>
 gu t32 1 fun t34 =>
 Q t34 M_1
def lV (p1:au) (a0 a1 a2 a3:AV) (M0:RM) (Q:ai) : Prop :=
 ax a0 a2 1 fun t12 =>
 aj M0 t12 fun t13 =>
 ax a0 a1 1 fun t16 =>
 aj M0 t16 fun t17 =>
 p1 [t13,t17] M0 fun t18 M =>
 ay t18 (
 bV a3 fun t20 =>
 aj M t20 fun t21 =>
 ae .add t21 (N .i64 1) fun t22 =>
 bV a3 fun t23 =>
 aG M t23 t22 1 fun M_0 =>
 Q (.tup [a2,a1]) M_0) (
 Q (.tup [a1,a2]) M)
end Go.Ab.aB
namespace Go.Ab.Crw
open Go Go.Ab
def Yo (p1:au) (p2:Nat) (M0:RM) (Q:ai) : Prop :=
 p1 [] M0 fun t1 M =>
 tN [(.sc (.pointer none)),(.sc (.slice none 0 0))] [(0,1,t1)] fun t2 =>
 ji p2 t2 fun r f =>
 bP r f M fun t3 M_0 =>
 Q t3 M_0
def wR (p1:Nat) (p2 p3:au) (p4:Nat) (p5 p6:au) (p7:Nat) (p8 p9:au) (p10 p11:Nat) (p12 p13 p14:au) (a0 a1:AV) (M0:RM) (Q:ai) : Prop :=
 ji p1 a1 fun r f =>
 bP r f M0 fun t3 M =>
 aF M t3 7 fun t12 =>
 p2 [t12] M fun t13 M_0 =>
 dQ t13 fun t14 =>
 ay t14 (
 Q (.tup [(Bo false),(N .i64 1)]) M_0) (
 bV a0 fun t16 =>
 aI t16 0 fun t17 =>
 aj M_0 t17 fun t18 =>
 p3 [t18] M_0 fun t19 M_1 =>
 aI t3 0 fun t20 =>
 aF M_1 t20 2 fun t21 =>
 fw p4 1 [(N .i64 0),(N .u64 0)] [(0,2,t21)] fun r_2 f_3 =>
 bP r_2 f_3 M_1 fun t22 M_4 =>
 aI t3 6 fun t23 =>
 aj M_4 t23 fun t24 =>
 appW p4 2 16 [(N .i64 0),(N .u64 0)] false t22 t24 M_4 fun t25 M_5 =>
 bH t25 fun t26 =>
 aV (fun next xs M_6 =>
 ae .lss (aa xs 0) t26 fun t28 =>
 ay t28 (
 ax t25 (aa xs 0) 2 fun t29 =>
 aF M_6 t29 2 fun t30 =>
 bP (.row [(N .i64 0),(N .u64 0)] false p4 0) (fun b=>.ptr b 0) M_6 fun t8 M_7 =>
 aG M_7 t8 t30 2 fun M_8 =>
 aF M_8 t8 2 fun t32 =>
 p5 [t19,t32] M_8 fun t33 M_9 =>
 ae .neq t33 (N .i64 0) fun t35 =>
 ay t35 (
 Q (.tup [(Bo false),t33]) M_9) (
 ae .add (aa xs 0) (N .i64 1) fun t37 =>
 next [t37] M_9)) (
 bV a0 fun t39 =>
 aI t39 1 fun t40 =>
 aj M_6 t40 fun t41 =>
 cz (fun J =>
 aI t3 2 fun t42 =>
 aj M_6 t42 fun t43 =>
 ae .eql t43 (N .i64 1) fun t44 =>
 af t44 true (fun k=>k a0 M_6 none) (fun k=>k .undef M_6 none) fun t46 ek b =>
 af t44 true (fun lQ=>bV t46 fun t47 =>
 lQ t47 ek none) (fun k=>k .undef ek none) fun ahT dM Wu =>
 af t44 true (fun nZ=>aI ahT 0 fun t48 =>
 nZ t48 dM none) (fun k=>k .undef dM none) fun ahP nA aiZ =>
 af t44 true (fun nY=>aj nA ahP fun t49 =>
 nY t49 nA none) (fun k=>k .undef nA none) fun aip dW XZ =>
 af t44 true (fun qW=>aI t3 0 fun t50 =>
 qW t50 dW none) (fun k=>k .undef dW none) fun afD fG Me =>
 af t44 true (fun q9=>aF fG afD 2 fun t51 =>
 q9 t51 fG none) (fun k=>k .undef fG none) fun agj iL IW =>
 ah t44 true (fun ko=>p6 [aip,agj] iL fun t52 rD =>
 ko t52 rD) (fun k=>k .undef iL) fun ajC eU =>
 af t44 true (fun kC=>dQ ajC fun t53 =>
 kC t53 eU none) (fun k=>k .undef eU none) fun ajg dx LU =>
 aK t44 ajg (Bo false) fun t54 =>
 ay t54 (
 aI t3 0 fun t57 =>
 aF dx t57 2 fun t58 =>
 aI t3 3 fun t59 =>
 aj dx t59 fun t60 =>
 aI t3 4 fun t61 =>
 aj dx t61 fun t62 =>
 aI t3 5 fun t63 =>
 aj dx t63 fun t64 =>
 tN [(N .i64 0),(N .u64 0),(St []),(St []),(St [])] [(0,2,t58),(2,1,t60),(3,1,t62),(4,1,t64)] fun t65 =>
 fw p7 1 [(N .i64 0),(N .u64 0),(St []),(St []),(St [])] [(0,5,t65)] fun aob aoc =>
 Bg aob aoc dx fun t66 iH JG =>
 p8 [t41] iH fun t56 gW =>
 aF gW t57 2 fun agK =>
 (agK=t58∧aj gW t59 fun ahu =>
 (ahu=t60∧aj gW t61 fun agP =>
 (agP=t62∧aj gW t63 fun aiO =>
 (aiO=t64∧fw p7 1 [(N .i64 0),(N .u64 0),(St []),(St []),(St [])] [(0,5,t65)] fun aoB anh =>
 (GD JG gW aoB anh t66∧appW p7 5 64 [(N .i64 0),(N .u64 0),(St []),(St []),(St [])] false t56 t66 gW fun t67 xW =>
 p9 [t67,(.fn (.func p10) [] [])] xW fun t69 j5 =>
 J [t67] j5)))))) (
 J [t41] dx)) (fun vN ny =>
 p8 [(aa vN 0)] ny fun t71 jY =>
 p12 [t71,(.fn (.func p11) [] [t3])] jY fun t73 oJ =>
 bV a0 fun t76 =>
 aI t76 0 fun t77 =>
 aj oJ t77 fun t78 =>
 p13 [t19,t78] oJ fun t79 uE =>
 dQ t79 fun t80 =>
 ah t80 false (fun aa3=>aa3 t73 uE) (fun k=>k .undef uE) fun t82 wH =>
 ah t80 false (fun yu=>yu a0 wH) (fun k=>k .undef wH) fun t83 kg =>
 ah t80 false (fun aa6=>bV t83 fun t84 =>
 aa6 t84 kg) (fun k=>k .undef kg) fun agM vD =>
 ah t80 false (fun aaB=>aI agM 1 fun t85 =>
 aaB t85 vD) (fun k=>k .undef vD) fun ahe u7 =>
 ah t80 false (fun QX=>aj u7 ahe fun t86 =>
 QX t86 u7) (fun k=>k .undef u7) fun ai6 tL =>
 ah t80 false (fun PN=>p14 [t82,ai6] tL fun t87 yA =>
 PN t87 yA) (fun k=>k .undef tL) fun ahU tX =>
 ah t80 false (fun Qs=>dQ ahU fun t88 =>
 Qs t88 tX) (fun k=>k .undef tX) fun aik Ao =>
 aK t80 (Bo true) aik fun t89 =>
 bV a0 fun t94 =>
 aI t94 0 fun t95 =>
 aG Ao t95 t19 1 fun SF =>
 bV a0 fun t96 =>
 aI t96 1 fun t97 =>
 aG SF t97 t73 1 fun MZ =>
 Q (.tup [t89,(N .i64 0)]) MZ))) [(N .i64 0)] M_5)
def Ql (p1:Nat) (p2 p3:au) (p4:Nat) (p5:au) (a0:AV) (M0:RM) (Q:ai) : Prop :=
 ji p1 a0 fun r f =>
 bP r f M0 fun t1 M =>
 aI t1 0 fun t5 =>
 aF M t5 2 fun t6 =>
 p2 [t6] M fun t7 M_0 =>
 dQ t7 fun t8 =>
 ah t8 false (fun k=>aI t1 3 fun bM =>
 k bM M_0) (fun k=>k .undef M_0) fun amg M_2 =>
 ah t8 false (fun k_3=>aj M_2 amg fun bU =>
 k_3 bU M_2) (fun k=>k .undef M_2) fun alZ M_5 =>
 ah t8 false (fun k_6=>aI t1 4 fun t12 =>
 k_6 t12 M_5) (fun k=>k .undef M_5) fun alM M_8 =>
 ah t8 false (fun k_9=>aj M_8 alM fun t13 =>
 k_9 t13 M_8) (fun k=>k .undef M_8) fun ahO dI =>
 ah t8 false (fun mZ=>aI t1 5 fun t14 =>
 mZ t14 dI) (fun k=>k .undef dI) fun afw jo =>
 ah t8 false (fun nZ=>aj jo afw fun t15 =>
 nZ t15 jo) (fun k=>k .undef jo) fun agO nA =>
 ah t8 false (fun rH=>p3 [alZ,ahO,agO] nA fun t16 eH =>
 rH t16 eH) (fun k=>k .undef nA) fun agW dW =>
 ah t8 false (fun oH=>dQ agW fun t17 =>
 oH t17 dW) (fun k=>k .undef dW) fun aiD kI =>
 aK t8 (Bo true) aiD fun t18 =>
 ah t18 false (fun oq=>aI t1 6 fun t20 =>
 oq t20 kI) (fun k=>k .undef kI) fun ai3 jD =>
 ah t18 false (fun nk=>aj jD ai3 fun t21 =>
 nk t21 jD) (fun k=>k .undef jD) fun aiG jK =>
 ah t18 false (fun ko=>bH aiG fun t22 =>
 ko t22 jK) (fun k=>k .undef jK) fun ajI il =>
 ah t18 false (fun DK=>ae .gtr ajI (N .i64 64) fun t23 =>
 DK t23 il) (fun k=>k .undef il) fun age jF =>
 aK t18 (Bo true) age fun t24 =>
 ay t24 (
 Q (Bo false) jF) (
 aI t1 6 fun t25 =>
 aj jF t25 fun t26 =>
 bH t26 fun t27 =>
 aV (fun next xs dx =>
 ae .lss (aa xs 0) t27 fun t29 =>
 ay t29 (
 ax t26 (aa xs 0) 2 fun t31 =>
 aF dx t31 2 fun t32 =>
 bP (.row [(N .i64 0),(N .u64 0)] false p4 0) (fun b=>.ptr b 0) dx fun t4 qh =>
 aG qh t4 t32 2 fun j6 =>
 aF j6 t4 2 fun t33 =>
 p2 [t33] j6 fun t34 yF =>
 dQ t34 fun t35 =>
 af t35 false (fun Jm=>aF yF t4 2 fun t37 =>
 Jm t37 yF none) (fun k=>k .undef yF none) fun afW gW b =>
 af t35 false (fun JF=>aI t1 0 fun t38 =>
 JF t38 gW none) (fun k=>k .undef gW none) fun agk gX aau =>
 af t35 false (fun Ty=>aF gX agk 2 fun t39 =>
 Ty t39 gX none) (fun k=>k .undef gX none) fun afx mF abp =>
 af t35 false (fun CS=>nI false [1,1] afW afx fun t40 =>
 CS t40 mF none) (fun k=>k .undef mF none) fun ah1 jY aox =>
 aK t35 (Bo true) ah1 fun t41 =>
 af t41 false (fun QL=>QL (aa xs 0) jY none) (fun k=>k .undef jY none) fun t43 gK PK =>
 af t41 false (fun yu=>ae .gtr t43 (N .i64 0) fun t44 =>
 yu t44 gK none) (fun k=>k .undef gK none) fun aiC lZ aoK =>
 af t41 false (fun aci=>aci aiC lZ none) (fun k=>k .undef lZ none) fun t45 mX aaR =>
 af t45 true (fun PV=>aI t1 6 fun t46 =>
 PV t46 mX none) (fun k=>k .undef mX none) fun ajo y7 aoQ =>
 af t45 true (fun PN=>aj y7 ajo fun t47 =>
 PN t47 y7 none) (fun k=>k .undef y7 none) fun aiW FJ b_73 =>
 af t45 true (fun Qs=>Qs (aa xs 0) FJ none) (fun k=>k .undef FJ none) fun t48 Mq aoZ =>
 af t45 true (fun IY=>ae .sub t48 (N .i64 1) fun t49 =>
 IY t49 Mq none) (fun k=>k .undef Mq none) fun aku xY ani =>
 af t45 true (fun Py=>ax aiW aku 2 fun t50 =>
 Py t50 xY none) (fun k=>k .undef xY none) fun ahx qg ano =>
 af t45 true (fun anQ=>aF qg ahx 2 fun t51 =>
 anQ t51 qg none) (fun k=>k .undef qg none) fun agL RJ b_88 =>
 af t45 true (fun Pv=>aF RJ t4 2 fun t52 =>
 Pv t52 RJ none) (fun k=>k .undef RJ none) fun agv Aw b_92 =>
 ah t45 true (fun anU=>p5 [agL,agv] Aw fun t53 uh =>
 anU t53 uh) (fun k=>k .undef Aw) fun aiU A9 =>
 af t45 true (fun ape=>dQ aiU fun t54 =>
 ape t54 A9 none) (fun k=>k .undef A9 none) fun ahK FK acZ =>
 af t41 false (fun DF=>aK t45 ahK (Bo false) fun t55 =>
 DF t55 FK none) (fun k=>k .undef FK none) fun ael Gv aln =>
 aK t41 (Bo true) ael fun t56 =>
 ay t56 (
 Q (Bo false) Gv) (
 ae .add (aa xs 0) (N .i64 1) fun t57 =>
 next [t57] Gv)) (
 aI t1 2 fun t58 =>
 aj dx t58 fun t59 =>
 ae .eql t59 (N .i64 1) fun t60 =>
 ah t60 true (fun Xt=>aI t1 4 fun t62 =>
 Xt t62 dx) (fun k=>k .undef dx) fun adM Gd =>
 ah t60 true (fun XC=>aj Gd adM fun t63 =>
 XC t63 Gd) (fun k=>k .undef Gd) fun ad4 Cr =>
 ah t60 true (fun alX=>iJ .neq ad4 (St []) fun t64 =>
 alX t64 Cr) (fun k=>k .undef Cr) fun aeh Le =>
 aK t60 aeh (Bo false) fun t65 =>
 ah t65 false (fun amm=>aI t1 2 fun t67 =>
 amm t67 Le) (fun k=>k .undef Le) fun aeF xG =>
 ah t65 false (fun Ym=>aj xG aeF fun t68 =>
 Ym t68 xG) (fun k=>k .undef xG) fun aeX Gf =>
 ah t65 false (fun VH=>ae .eql aeX (N .i64 2) fun t69 =>
 VH t69 Gf) (fun k=>k .undef Gf) fun aee Ls =>
 ah t65 false (fun alo=>alo aee Ls) (fun k=>k .undef Ls) fun t70 xq =>
 ah t70 true (fun alp=>aI t1 5 fun t71 =>
 alp t71 xq) (fun k=>k .undef xq) fun aex KZ =>
 ah t70 true (fun alb=>aj KZ aex fun t72 =>
 alb t72 KZ) (fun k=>k .undef KZ) fun ad1 acS =>
 ah t70 true (fun W9=>iJ .eql ad1 (St []) fun t73 =>
 W9 t73 acS) (fun k=>k .undef acS) fun adN LK =>
 ah t65 false (fun akT=>aK t70 adN (Bo false) fun t74 =>
 akT t74 LK) (fun k=>k .undef LK) fun adL O9 =>
 aK t65 (Bo true) adL fun t75 =>
 Q t75 O9)) [(N .i64 0)] jF)
def adm (p1:Nat) (p2:au) (a0:AV) (M0:RM) (Q:ai) : Prop :=
 X4 p1 96 [(N .i64 0),(N .u64 0),(N .i64 0),(St []),(St []),(St []),(.sc (.slice none 0 0))] (N .i64 0) (N .i64 0) fun r f =>
 bP r f M0 fun t7 M =>
 aV (fun next xs M_0 =>
 bH a0 fun bM =>
 ae .lss (aa xs 1) bM fun bU =>
 ay bU (
 cz (fun J =>
 ax a0 (aa xs 1) 7 fun t16 =>
 aF M_0 t16 7 fun t17 =>
 p2 [t17] M_0 fun t18 M_1 =>
 dQ t18 fun t19 =>
 aV (fun tQ bI M_4 =>
 bH (aa xs 0) fun t22 =>
 ae .lss (aa bI 1) t22 fun t23 =>
 ay t23 (
 af (aa bI 0) false (fun k=>k (aa xs 0) M_4 none) (fun k=>k .undef M_4 none) fun t28 M_5 b =>
 af (aa bI 0) false (fun k_6=>k_6 (aa bI 1) M_5 none) (fun k=>k .undef M_5 none) fun t29 M_7 b_8 =>
 af (aa bI 0) false (fun k_9=>ax t28 t29 7 fun t30 =>
 k_9 t30 M_7 none) (fun k=>k .undef M_7 none) fun SS dI VR =>
 af (aa bI 0) false (fun CQ=>aI SS 0 fun t31 =>
 CQ t31 dI none) (fun k=>k .undef dI none) fun PR jQ VG =>
 af (aa bI 0) false (fun lL=>aF jQ PR 2 fun t32 =>
 lL t32 jQ none) (fun k=>k .undef jQ none) fun RZ eH SQ =>
 af (aa bI 0) false (fun q8=>q8 a0 eH none) (fun k=>k .undef eH none) fun t33 fO Qu =>
 af (aa bI 0) false (fun uI=>uI (aa xs 1) fO none) (fun k=>k .undef fO none) fun t34 fG Me =>
 af (aa bI 0) false (fun q9=>ax t33 t34 7 fun t35 =>
 q9 t35 fG none) (fun k=>k .undef fG none) fun Ti iL IW =>
 af (aa bI 0) false (fun ko=>aI Ti 0 fun t36 =>
 ko t36 iL none) (fun k=>k .undef iL none) fun QP il Xg =>
 af (aa bI 0) false (fun kC=>aF il QP 2 fun t37 =>
 kC t37 il none) (fun k=>k .undef il none) fun RL dx LU =>
 af (aa bI 0) false (fun DD=>nI false [1,1] RZ RL fun t38 =>
 DD t38 dx none) (fun k=>k .undef dx none) fun RF iH JG =>
 aK (aa bI 0) (Bo true) RF fun t39 =>
 ae .add (aa bI 1) (N .i64 1) fun t25 =>
 tQ [t39,t25] iH) (
 dQ (aa bI 0) fun t41 =>
 ay t41 (
 ax a0 (aa xs 1) 7 fun t45 =>
 aF M_4 t45 7 fun t46 =>
 fw p1 1 [(N .i64 0),(N .u64 0),(N .i64 0),(St []),(St []),(St []),(.sc (.slice none 0 0))] [(0,7,t46)] fun abI abP =>
 bP abI abP M_4 fun t47 j5 =>
 appW p1 7 96 [(N .i64 0),(N .u64 0),(N .i64 0),(St []),(St []),(St []),(.sc (.slice none 0 0))] false (aa xs 0) t47 j5 fun t48 gX =>
 J [t48] gX) (
 J [(aa xs 0)] M_4))) [t19,(N .i64 0)] M_1) (fun tF kw =>
 ae .add (aa xs 1) (N .i64 1) fun t13 =>
 next [(aa tF 0),t13] kw)) (
 Q (aa xs 0) M_0)) [t7,(N .i64 0)] M
def Aj (p1:Nat) (p2 p3:au) (a0:AV) (M0:RM) (Q:ai) : Prop :=
 ji p1 a0 fun r f =>
 bP r f M0 fun t1 M =>
 aI t1 0 fun t4 =>
 aF M t4 2 fun t5 =>
 p2 [t5] M fun t6 M_0 =>
 dQ t6 fun t7 =>
 ah t7 false (fun k=>aI t1 2 fun t9 =>
 k t9 M_0) (fun k=>k .undef M_0) fun anr M_2 =>
 ah t7 false (fun k_3=>aj M_2 anr fun bM =>
 k_3 bM M_2) (fun k=>k .undef M_2) fun akU M_5 =>
 ah t7 false (fun k_6=>ae .neq akU (N .i64 1) fun bU =>
 k_6 bU M_5) (fun k=>k .undef M_5) fun akP M_8 =>
 ah t7 false (fun k_9=>k_9 akP M_8) (fun k=>k .undef M_8) fun t12 ek =>
 ah t12 true (fun lQ=>aI t1 2 fun t13 =>
 lQ t13 ek) (fun k=>k .undef ek) fun ER dM =>
 ah t12 true (fun iG=>aj dM ER fun t14 =>
 iG t14 dM) (fun k=>k .undef dM) fun Fh dm =>
 ah t12 true (fun lL=>ae .neq Fh (N .i64 2) fun t15 =>
 lL t15 dm) (fun k=>k .undef dm) fun agR eH =>
 ah t7 false (fun mW=>aK t12 agR (Bo false) fun t16 =>
 mW t16 eH) (fun k=>k .undef eH) fun ahR fO =>
 aK t7 (Bo true) ahR fun t17 =>
 ah t17 false (fun qW=>aI t1 3 fun t19 =>
 qW t19 fO) (fun k=>k .undef fO) fun Fq fG =>
 ah t17 false (fun I5=>aj fG Fq fun t20 =>
 I5 t20 fG) (fun k=>k .undef fG) fun agr ql =>
 ah t17 false (fun Iz=>mg agr fun t21 =>
 Iz t21 ql) (fun k=>k .undef ql) fun afV mP =>
 ah t17 false (fun yD=>ae .lss afV (N .i64 1) fun t22 =>
 yD t22 mP) (fun k=>k .undef mP) fun ajL eU =>
 aK t17 (Bo true) ajL fun t23 =>
 ah t23 false (fun kC=>aI t1 3 fun t25 =>
 kC t25 eU) (fun k=>k .undef eU) fun afi dx =>
 ah t23 false (fun Jq=>aj dx afi fun t26 =>
 Jq t26 dx) (fun k=>k .undef dx) fun agE yF =>
 ah t23 false (fun Jm=>mg agE fun t27 =>
 Jm t27 yF) (fun k=>k .undef yF) fun aj9 gW =>
 ah t23 false (fun JF=>ae .gtr aj9 (N .i64 64) fun t28 =>
 JF t28 gW) (fun k=>k .undef gW) fun ahY gX =>
 aK t23 (Bo true) ahY fun t29 =>
 ah t29 false (fun Iq=>aI t1 4 fun t31 =>
 Iq t31 gX) (fun k=>k .undef gX) fun aht nN =>
 ah t29 false (fun acb=>aj nN aht fun t32 =>
 acb t32 nN) (fun k=>k .undef nN) fun af9 y8 =>
 ah t29 false (fun aaU=>mg af9 fun t33 =>
 aaU t33 y8) (fun k=>k .undef y8) fun ahc oJ =>
 ah t29 false (fun QL=>ae .gtr ahc (N .i64 64) fun t34 =>
 QL t34 oJ) (fun k=>k .undef oJ) fun ahi wH =>
 aK t29 (Bo true) ahi fun t35 =>
 ah t35 false (fun yu=>aI t1 5 fun t37 =>
 yu t37 wH) (fun k=>k .undef wH) fun ajO lZ =>
 ah t35 false (fun yR=>aj lZ ajO fun t38 =>
 yR t38 lZ) (fun k=>k .undef lZ) fun ajn mX =>
 ah t35 false (fun Sz=>mg ajn fun t39 =>
 Sz t39 mX) (fun k=>k .undef mX) fun afe qU =>
 ah t35 false (fun anc=>ae .gtr afe (N .i64 512) fun t40 =>
 anc t40 qU) (fun k=>k .undef qU) fun ag5 I9 =>
 aK t35 (Bo true) ag5 fun t41 =>
 ah t41 false (fun anD=>aI t1 6 fun t43 =>
 anD t43 I9) (fun k=>k .undef I9) fun aiv tX =>
 ah t41 false (fun Qs=>aj tX aiv fun t44 =>
 Qs t44 tX) (fun k=>k .undef tX) fun akq Ao =>
 ah t41 false (fun IY=>bH akq fun t45 =>
 IY t45 Ao) (fun k=>k .undef Ao) fun afv xY =>
 ah t41 false (fun Qh=>ae .gtr afv (N .i64 64) fun t46 =>
 Qh t46 xY) (fun k=>k .undef xY) fun ajf JJ =>
 aK t41 (Bo true) ajf fun t47 =>
 ay t47 (
 Q (Bo false) JJ) (
 aI t1 2 fun t48 =>
 aj JJ t48 fun t49 =>
 ae .eql t49 (N .i64 1) fun t50 =>
 ah t50 true (fun aoE=>aI t1 4 fun t52 =>
 aoE t52 JJ) (fun k=>k .undef JJ) fun aic xQ =>
 ah t50 true (fun abw=>aj xQ aic fun t53 =>
 abw t53 xQ) (fun k=>k .undef xQ) fun ajc DU =>
 ah t50 true (fun Pv=>iJ .eql ajc (St []) fun t54 =>
 Pv t54 DU) (fun k=>k .undef DU) fun af4 Aw =>
 aK t50 af4 (Bo false) fun t55 =>
 ah t55 false (fun ao5=>aI t1 2 fun t57 =>
 ao5 t57 Aw) (fun k=>k .undef Aw) fun aj3 uh =>
 ah t55 false (fun Re=>aj uh aj3 fun t58 =>
 Re t58 uh) (fun k=>k .undef uh) fun ahk aiz =>
 ah t55 false (fun Qj=>ae .eql ahk (N .i64 2) fun t59 =>
 Qj t59 aiz) (fun k=>k .undef aiz) fun ahJ ac9 =>
 ah t55 false (fun DF=>DF ahJ ac9) (fun k=>k .undef ac9) fun t60 KH =>
 ah t60 true (fun amq=>aI t1 5 fun t61 =>
 amq t61 KH) (fun k=>k .undef KH) fun ae5 WK =>
 ah t60 true (fun akX=>aj WK ae5 fun t62 =>
 akX t62 WK) (fun k=>k .undef WK) fun adG acO =>
 ah t60 true (fun VP=>iJ .neq adG (St []) fun t63 =>
 VP t63 acO) (fun k=>k .undef acO) fun ae2 ade =>
 ah t55 false (fun Ye=>aK t60 ae2 (Bo false) fun t64 =>
 Ye t64 ade) (fun k=>k .undef ade) fun adO ac6 =>
 aK t55 (Bo true) adO fun t65 =>
 ay t65 (
 Q (Bo false) ac6) (
 aV (fun next xs zT =>
 aI t1 6 fun t67 =>
 aj zT t67 fun t68 =>
 bH t68 fun t69 =>
 ae .lss (aa xs 0) t69 fun t70 =>
 ay t70 (
 aI t1 6 fun t73 =>
 aj zT t73 fun t74 =>
 ax t74 (aa xs 0) 2 fun t76 =>
 aF zT t76 2 fun t77 =>
 p2 [t77] zT fun t78 xG =>
 dQ t78 fun t79 =>
 af t79 false (fun Ym=>aI t1 6 fun t81 =>
 Ym t81 xG none) (fun k=>k .undef xG none) fun aeo Gf b =>
 af t79 false (fun VH=>aj Gf aeo fun t82 =>
 VH t82 Gf none) (fun k=>k .undef Gf none) fun ad3 Ls b_123 =>
 af t79 false (fun ak7=>ak7 (aa xs 0) Ls none) (fun k=>k .undef Ls none) fun t83 acM b_126 =>
 af t79 false (fun ak6=>ax ad3 t83 2 fun t84 =>
 ak6 t84 acM none) (fun k=>k .undef acM none) fun aeP GZ b_130 =>
 af t79 false (fun W9=>aF GZ aeP 2 fun t85 =>
 W9 t85 GZ none) (fun k=>k .undef GZ none) fun aeH LK b_134 =>
 af t79 false (fun alc=>aI t1 0 fun t86 =>
 alc t86 LK none) (fun k=>k .undef LK none) fun ae1 XG b_138 =>
 af t79 false (fun akO=>aF XG ae1 2 fun t87 =>
 akO t87 XG none) (fun k=>k .undef XG none) fun ae9 KP ali =>
 af t79 false (fun VX=>nI false [1,1] aeH ae9 fun t88 =>
 VX t88 KP none) (fun k=>k .undef KP none) fun ad5 Pf b_146 =>
 aK t79 (Bo true) ad5 fun t89 =>
 af t89 false (fun al0=>al0 (aa xs 0) Pf none) (fun k=>k .undef Pf none) fun t91 Gn al3 =>
 af t89 false (fun Xn=>ae .gtr t91 (N .i64 0) fun t92 =>
 Xn t92 Gn none) (fun k=>k .undef Gn none) fun adP Ct alV =>
 af t89 false (fun Yj=>Yj adP Ct none) (fun k=>k .undef Ct none) fun t93 Df al2 =>
 af t93 true (fun Yb=>aI t1 6 fun t94 =>
 Yb t94 Df none) (fun k=>k .undef Df none) fun aeR XR b_160 =>
 af t93 true (fun alJ=>aj XR aeR fun t95 =>
 alJ t95 XR none) (fun k=>k .undef XR none) fun afc adf b_164 =>
 af t93 true (fun aml=>aml (aa xs 0) adf none) (fun k=>k .undef adf none) fun t96 KM akY =>
 af t93 true (fun WN=>ae .sub t96 (N .i64 1) fun t97 =>
 WN t97 KM none) (fun k=>k .undef KM none) fun aeS adn b_171 =>
 af t93 true (fun XB=>ax afc aeS 2 fun t98 =>
 XB t98 adn none) (fun k=>k .undef adn none) fun adB Gz alK =>
 af t93 true (fun WG=>aF Gz adB 2 fun t99 =>
 WG t99 Gz none) (fun k=>k .undef Gz none) fun aea vH alq =>
 af t93 true (fun amb=>aI t1 6 fun kF =>
 amb kF vH none) (fun k=>k .undef vH none) fun abv Kw b_183 =>
 af t93 true (fun alF=>aj Kw abv fun nP =>
 alF nP Kw none) (fun k=>k .undef Kw none) fun abz ada b_187 =>
 af t93 true (fun akS=>akS (aa xs 0) ada none) (fun k=>k .undef ada none) fun aaG acR b_190 =>
 af t93 true (fun akG=>ax abz aaG 2 fun xP =>
 akG xP acR none) (fun k=>k .undef acR none) fun aaP WW b_194 =>
 af t93 true (fun amv=>aF WW aaP 2 fun Bi =>
 amv Bi WW none) (fun k=>k .undef WW none) fun ab2 adz b_198 =>
 ah t93 true (fun akF=>p3 [aea,ab2] adz fun t105 alU =>
 akF t105 alU) (fun k=>k .undef adz) fun abO adp =>
 af t93 true (fun amr=>dQ abO fun QC =>
 amr QC adp none) (fun k=>k .undef adp none) fun aag ac8 b_206 =>
 af t89 false (fun alR=>aK t93 aag (Bo false) fun t107 =>
 alR t107 ac8 none) (fun k=>k .undef ac8 none) fun aao adq b_210 =>
 aK t89 (Bo true) aao fun nO =>
 ay nO (
 Q (Bo false) adq) (
 ae .add (aa xs 0) (N .i64 1) fun t72 =>
 next [t72] adq)) (
 Q (Bo true) zT)) [(N .i64 0)] ac6))
def rE (p1 p2:Nat) (a0:AV) (M0:RM) (Q:ai) : Prop :=
 bV a0 fun t7 =>
 aI t7 1 fun t8 =>
 aj M0 t8 fun t9 =>
 bH t9 fun bM =>
 aV (fun next xs M =>
 ae .lss (aa xs 1) bM fun t12 =>
 ay t12 (
 cz (fun J =>
 ax t9 (aa xs 1) 5 fun t13 =>
 aF M t13 5 fun t14 =>
 bP (.row [(N .i64 0),(N .u64 0),(St []),(St []),(St [])] false p1 0) (fun b=>.ptr b 0) M fun t5 M_0 =>
 aG M_0 t5 t14 5 fun M_1 =>
 bH (aa xs 0) fun t16 =>
 ae .eql t16 (N .i64 0) fun t17 =>
 af t17 false (fun k=>k (aa xs 0) M_1 none) (fun k=>k .undef M_1 none) fun t19 M_2 b =>
 af t17 false (fun k_3=>k_3 (aa xs 0) M_2 none) (fun k=>k .undef M_2 none) fun t20 M_4 b_5 =>
 af t17 false (fun k_6=>bH t20 fun t21 =>
 k_6 t21 M_4 none) (fun k=>k .undef M_4 none) fun amf M_8 b_9 =>
 af t17 false (fun rG=>ae .sub amf (N .i64 1) fun t22 =>
 rG t22 M_8 none) (fun k=>k .undef M_8 none) fun afZ lT QH =>
 af t17 false (fun iG=>ax t19 afZ 1 fun t23 =>
 iG t23 lT none) (fun k=>k .undef lT none) fun afp dm Dn =>
 af t17 false (fun rH=>aj dm afp fun t24 =>
 rH t24 dm none) (fun k=>k .undef dm none) fun ais nG abx =>
 af t17 false (fun oH=>aI t5 2 fun t25 =>
 oH t25 nG none) (fun k=>k .undef nG none) fun afq kI agV =>
 af t17 false (fun I5=>aj kI afq fun t26 =>
 I5 t26 kI none) (fun k=>k .undef kI none) fun ai8 ql ag2 =>
 af t17 false (fun Jb=>iJ .neq ais ai8 fun t27 =>
 Jb t27 ql none) (fun k=>k .undef ql none) fun ajM rD aoo =>
 aK t17 (Bo true) ajM fun t28 =>
 ay t28 (
 aI t5 2 fun t30 =>
 aj rD t30 fun t31 =>
 fw p2 1 [(St [])] [(0,1,t31)] fun r f =>
 bP r f rD fun t32 eU =>
 appW p2 1 16 [(St [])] false (aa xs 0) t32 eU fun t33 Np =>
 J [t33] Np) (
 J [(aa xs 0)] rD)) (fun akH dx =>
 ae .add (aa xs 1) (N .i64 1) fun t34 =>
 next [(aa akH 0),t34] dx)) (
 Q (aa xs 0) M)) [(.sc (.slice none 0 0)),(N .i64 0)] M0
def tu (p1:Nat) (a0 a1:AV) (M0:RM) (Q:ai) : Prop :=
 bV a0 fun t9 =>
 aI t9 1 fun bM =>
 aj M0 bM fun bU =>
 bH bU fun t12 =>
 aV (fun next xs M =>
 ae .lss (aa xs 1) t12 fun t14 =>
 ay t14 (
 cz (fun J =>
 ax bU (aa xs 1) 5 fun t15 =>
 aF M t15 5 fun t16 =>
 bP (.row [(N .i64 0),(N .u64 0),(St []),(St []),(St [])] false p1 0) (fun b=>.ptr b 0) M fun t7 M_0 =>
 aG M_0 t7 t16 5 fun M_1 =>
 aI t7 2 fun t17 =>
 aj M_1 t17 fun t18 =>
 iJ .eql t18 a1 fun t20 =>
 ay t20 (
 aF M_1 t7 5 fun t22 =>
 fw p1 1 [(N .i64 0),(N .u64 0),(St []),(St []),(St [])] [(0,5,t22)] fun r f =>
 bP r f M_1 fun t23 M_2 =>
 appW p1 5 64 [(N .i64 0),(N .u64 0),(St []),(St []),(St [])] false (aa xs 0) t23 M_2 fun t24 M_3 =>
 J [t24] M_3) (
 J [(aa xs 0)] M_1)) (fun wN M_5 =>
 ae .add (aa xs 1) (N .i64 1) fun t25 =>
 next [(aa wN 0),t25] M_5)) (
 Q (aa xs 0) M)) [(.sc (.slice none 0 0)),(N .i64 0)] M0
def wQ (p1:Nat) (a0:AV) (M0:RM) (Q:ai) : Prop :=
 jq false 2 a0 (.sc (.slice none 0 0)) fun t4 =>
 ay t4 (
 Q (.sc (.slice none 0 0)) M0) (
 fw p1 0 [(N .i64 0),(N .u64 0),(St []),(St []),(St [])] [] fun r f =>
 bP r f M0 fun t5 M =>
 appW p1 5 64 [(N .i64 0),(N .u64 0),(St []),(St []),(St [])] false t5 a0 M fun t7 M_0 =>
 Q t7 M_0)
def rA (p1 p2:au) (a0 a1:AV) (M0:RM) (Q:ai) : Prop :=
 bH a0 fun t6 =>
 og .u64 t6 fun bM =>
 p1 [bM] M0 fun bU M =>
 p2 [a0,(N .i64 0),t6,bU,a1] M fun t13 M_0 =>
 Q (.tup []) M_0
def FU (p1:Nat) (p2 p3:au) (p4:Nat) (p5:au) (a0 a1:AV) (M0:RM) (Q:ai) : Prop :=
 ji p1 a0 fun r f =>
 bP r f M0 fun t2 M =>
 ji p1 a1 fun r_0 f_1 =>
 bP r_0 f_1 M fun t3 M_2 =>
 aI t2 2 fun t5 =>
 aj M_2 t5 fun t6 =>
 aI t3 2 fun t7 =>
 aj M_2 t7 fun t8 =>
 aI t2 3 fun bM =>
 aj M_2 bM fun bU =>
 aI t3 3 fun t12 =>
 aj M_2 t12 fun t13 =>
 aI t2 0 fun t15 =>
 aF M_2 t15 2 fun t16 =>
 aI t3 0 fun t17 =>
 aF M_2 t17 2 fun t18 =>
 p2 [t6,t8] M_2 fun t9 M_3 =>
 aj M_3 bM fun afR =>
 (afR=bU∧aj M_3 t12 fun aj1 =>
 (aj1=t13∧aF M_3 t15 2 fun ahh =>
 (ahh=t16∧aF M_3 t17 2 fun SN =>
 (SN=t18∧p2 [bU,t13] M_3 fun t14 M_4 =>
 aF M_4 t15 2 fun ajR =>
 (ajR=t16∧aF M_4 t17 2 fun ajl =>
 (ajl=t18∧p3 [t16,t18] M_4 fun t19 M_5 =>
 fw p4 3 [(N .i64 0)] [(0,1,t9),(1,1,t14),(2,1,t19)] fun r_6 f_7 =>
 Bg r_6 f_7 M_5 fun t20 M_8 b =>
 p5 [t20] M_8 fun t21 M_9 =>
 Q t21 M_9))))))
def oC (p1:au) (p2:Nat) (cv:(FuncId→au)) (a0 a1:AV) (M0:RM) (Q:ai) : Prop :=
 p1 [a0,a1] M0 fun bM M =>
 ae .eql bM (N .i64 (-1)) fun t12 =>
 ay t12 (
 Q a0 M) (
 ae .add bM (N .i64 1) fun t15 =>
 aV (fun next xs M_0 =>
 bH a0 fun t18 =>
 ae .lss (aa xs 1) t18 fun t19 =>
 ay t19 (
 cz (fun J =>
 ax a0 (aa xs 1) 5 fun t24 =>
 aF M_0 t24 5 fun t25 =>
 bP (.row [(N .i64 0),(N .u64 0),(St []),(St []),(St [])] false p2 0) (fun b=>.ptr b 0) M_0 fun t7 M_1 =>
 aG M_1 t7 t25 5 fun M_2 =>
 aF M_2 t7 5 fun t27 =>
 eG cv a1 [t27] M_2 fun t28 M_3 =>
 dQ t28 fun t29 =>
 ay t29 (
 aF M_3 t7 5 fun t32 =>
 ax a0 (aa xs 0) 5 fun t33 =>
 aG M_3 t33 t32 5 fun M_4 =>
 ae .add (aa xs 0) (N .i64 1) fun t35 =>
 J [t35] M_4) (
 J [(aa xs 0)] M_3)) (fun JU M_6 =>
 ae .add (aa xs 1) (N .i64 1) fun t21 =>
 next [(aa JU 0),t21] M_6)) (
 iK (bR 5 a0 (some (aa xs 0)) none none) fun t38 =>
 KU [(N .i64 0),(N .u64 0),(St []),(St []),(St [])] t38 M_0 fun u M_7 =>
 iK (bR 5 a0 none (some (aa xs 0)) none) fun t41 =>
 Q t41 M_7)) [bM,t15] M)
def tJ (p1:Nat) (p2:au) (a0 a1:AV) (M0:RM) (Q:ai) : Prop :=
 ji p1 a0 fun r f =>
 bP r f M0 fun t2 M =>
 aI a1 6 fun t4 =>
 aj M t4 fun t5 =>
 aI t2 0 fun t6 =>
 aF M t6 2 fun t7 =>
 p2 [t5,t7] M fun t8 M_0 =>
 Q t8 M_0
def uQ (p1:Nat) (p2:au) (a0 a1:AV) (M0:RM) (Q:ai) : Prop :=
 ji p1 a1 fun r f =>
 bP r f M0 fun t3 M =>
 aF M t3 2 fun t6 =>
 p2 [a0,t6] M fun t7 M_0 =>
 ae .geq t7 (N .i64 0) fun t8 =>
 Q t8 M_0
def wD (a0 a1:AV) (M0:RM) (Q:ai) : Prop :=
 bH a0 fun t7 =>
 bH a1 fun t9 =>
 ae .neq t7 t9 fun bM =>
 ay bM (
 Q (Bo false) M0) (
 bH a0 fun t12 =>
 aV (fun next xs M =>
 ae .lss (aa xs 0) t12 fun t14 =>
 ay t14 (
 ax a0 (aa xs 0) 5 fun t18 =>
 aF M t18 5 fun t19 =>
 ax a1 (aa xs 0) 5 fun t22 =>
 aF M t22 5 fun t23 =>
 nI true [1,1,2,2,2] t19 t23 fun t24 =>
 ay t24 (
 Q (Bo false) M) (
 ae .add (aa xs 0) (N .i64 1) fun t25 =>
 next [t25] M)) (
 Q (Bo true) M)) [(N .i64 0)] M0)
def Be (a0 a1 a2:AV) (M0:RM) (Q:ai) : Prop :=
 mg a0 fun t8 =>
 ae .geq t8 (N .i64 1) fun t9 =>
 ah t9 true (fun k=>k a0 M0) (fun k=>k .undef M0) fun bU M =>
 ah t9 true (fun k_0=>mg bU fun t12 =>
 k_0 t12 M) (fun k=>k .undef M) fun amw M_2 =>
 ah t9 true (fun k_3=>ae .leq amw (N .i64 64) fun t13 =>
 k_3 t13 M_2) (fun k=>k .undef M_2) fun al4 M_5 =>
 aK t9 al4 (Bo false) fun t14 =>
 ah t14 true (fun k_6=>k_6 a1 M_5) (fun k=>k .undef M_5) fun t16 M_7 =>
 ah t14 true (fun k_8=>mg t16 fun t17 =>
 k_8 t17 M_7) (fun k=>k .undef M_7) fun amz ek =>
 ah t14 true (fun lQ=>ae .leq amz (N .i64 64) fun t18 =>
 lQ t18 ek) (fun k=>k .undef ek) fun SN dM =>
 aK t14 SN (Bo false) fun t19 =>
 ah t19 true (fun iG=>iG a2 dM) (fun k=>k .undef dM) fun t21 jQ =>
 ah t19 true (fun IR=>mg t21 fun t22 =>
 IR t22 jQ) (fun k=>k .undef jQ) fun afy dV =>
 ah t19 true (fun nY=>ae .leq afy (N .i64 512) fun t23 =>
 nY t23 dV) (fun k=>k .undef dV) fun agu dW =>
 aK t19 agu (Bo false) fun t24 =>
 Q t24 dW
def Ns (p1:Nat) (p2 p3:au) (p4:Nat) (p5:au) (a0 a1:AV) (M0:RM) (Q:ai) : Prop :=
 ji p1 a0 fun r f =>
 bP r f M0 fun t2 M =>
 ji p1 a1 fun r_0 f_1 =>
 bP r_0 f_1 M fun t3 M_2 =>
 aI t2 1 fun t5 =>
 aj M_2 t5 fun t6 =>
 aI t3 1 fun t7 =>
 aj M_2 t7 fun t8 =>
 aI t2 0 fun bM =>
 aj M_2 bM fun bU =>
 aI t3 0 fun t12 =>
 aj M_2 t12 fun t13 =>
 p2 [t6,t8] M_2 fun t9 M_3 =>
 aj M_3 bM fun aji =>
 (aji=bU∧aj M_3 t12 fun Ku =>
 (Ku=t13∧p3 [bU,t13] M_3 fun t14 M_4 =>
 fw p4 2 [(N .i64 0)] [(0,1,t9),(1,1,t14)] fun r_5 f_6 =>
 Bg r_5 f_6 M_4 fun t15 M_7 b =>
 p5 [t15] M_7 fun t16 M_8 =>
 Q t16 M_8))
def gL (p1 p2 p3 p4 p5 p6:au) (cv:(FuncId→au)) (p7 p8 p9:au) (a0 a1 a2 a3 a4:AV) (M0:RM) (Q:ai) : Prop :=
 aV (fun next xs M =>
 ae .sub (aa xs 1) (aa xs 0) fun t23 =>
 ae .leq t23 (N .i64 12) fun t25 =>
 ay t25 (
 p1 [a0,(aa xs 0),(aa xs 1),a4] M fun t30 M_0 =>
 Q (.tup []) M_0) (
 ae .eql (aa xs 2) (N .i64 0) fun t32 =>
 ay t32 (
 p2 [a0,(aa xs 0),(aa xs 1),a4] M fun t37 M_1 =>
 Q (.tup []) M_1) (
 cz (fun J =>
 dQ (aa xs 3) fun t39 =>
 ay t39 (
 p3 [a0,(aa xs 0),(aa xs 1),a4] M fun t44 M_2 =>
 ae .sub (aa xs 2) (N .i64 1) fun t46 =>
 J [t46] M_2) (
 J [(aa xs 2)] M)) (fun bI M_4 =>
 p4 [a0,(aa xs 0),(aa xs 1),a4] M_4 fun t52 M_5 =>
 gu t52 0 fun t53 =>
 gu t52 1 fun t54 =>
 cz (fun J_6 =>
 ae .eql t54 (N .i64 2) fun t56 =>
 ay t56 (
 p5 [a0,(aa xs 0),(aa xs 1),a4] M_5 fun t61 M_7 =>
 ae .sub (aa xs 1) (N .i64 1) fun t63 =>
 ae .sub t53 (aa xs 0) fun t66 =>
 ae .sub t63 t66 fun t67 =>
 J_6 [t67,(N .i64 1)] M_7) (
 J_6 [t53,t54] M_5)) (fun Ad M_9 =>
 cz (fun Qn =>
 ah (aa xs 3) true (fun k=>k (aa xs 4) M_9) (fun k=>k .undef M_9) fun t70 dI =>
 aK (aa xs 3) t70 (Bo false) fun t71 =>
 ah t71 true (fun mZ=>mZ (aa Ad 1) dI) (fun k=>k .undef dI) fun t73 dM =>
 ah t71 true (fun iG=>ae .eql t73 (N .i64 1) fun t74 =>
 iG t74 dM) (fun k=>k .undef dM) fun ai9 dm =>
 aK t71 ai9 (Bo false) fun t75 =>
 ay t75 (
 p6 [a0,(aa xs 0),(aa xs 1),a4] dm fun t80 nA =>
 ay t80 (
 Q (.tup []) nA) (
 Qn [] nA)) (
 Qn [] dm)) (fun alP eH =>
 ae .gtr (aa xs 0) (N .i64 0) fun t82 =>
 af t82 true (fun mW=>mW a4 eH none) (fun k=>k .undef eH none) fun t84 dW b =>
 af t82 true (fun oH=>oH a0 dW none) (fun k=>k .undef dW none) fun t85 ku QI =>
 af t82 true (fun oq=>oq (aa xs 0) ku none) (fun k=>k .undef ku none) fun t86 jR QS =>
 af t82 true (fun nk=>ae .sub t86 (N .i64 1) fun t87 =>
 nk t87 jR none) (fun k=>k .undef jR none) fun ajT jK aaT =>
 af t82 true (fun yD=>ax t85 ajT 5 fun t88 =>
 yD t88 jK none) (fun k=>k .undef jK none) fun ahy eU ab6 =>
 af t82 true (fun Io=>aF eU ahy 5 fun t89 =>
 Io t89 eU none) (fun k=>k .undef eU none) fun ait qh ako =>
 af t82 true (fun CX=>CX a0 qh none) (fun k=>k .undef qh none) fun t90 iH JG =>
 af t82 true (fun Jv=>Jv (aa Ad 0) iH none) (fun k=>k .undef iH none) fun t91 xW an6 =>
 af t82 true (fun aof=>ax t90 t91 5 fun t92 =>
 aof t92 xW none) (fun k=>k .undef xW none) fun ain kw b_49 =>
 af t82 true (fun acb=>aF kw ain 5 fun t93 =>
 acb t93 kw none) (fun k=>k .undef kw none) fun akb y8 b_53 =>
 ah t82 true (fun aon=>eG cv t84 [ait,akb] y8 fun t94 oJ =>
 aon t94 oJ) (fun k=>k .undef y8) fun afM gK =>
 af t82 true (fun abe=>ae .lss afM (N .i64 0) fun t95 =>
 abe t95 gK none) (fun k=>k .undef gK none) fun aff kg aaE =>
 af t82 true (fun yR=>dQ aff fun t96 =>
 yR t96 kg none) (fun k=>k .undef kg none) fun aj0 mX aaR =>
 aK t82 aj0 (Bo false) fun t97 =>
 ay t97 (
 p7 [a0,(aa xs 0),(aa xs 1),(aa Ad 0),a4] mX fun xP u7 =>
 next [xP,(aa xs 1),(aa bI 0),(aa xs 3),(aa xs 4)] u7) (
 p8 [a0,(aa xs 0),(aa xs 1),(aa Ad 0),a4] mX fun AJ qU =>
 gu AJ 0 fun tC =>
 gu AJ 1 fun wI =>
 ae .sub tC (aa xs 0) fun t117 =>
 ae .sub (aa xs 1) tC fun AY =>
 ae .quo t23 (N .i64 8) fun Aa =>
 ae .lss t117 AY fun mY =>
 ay mY (
 ae .geq t117 Aa fun PQ =>
 p9 [a0,(aa xs 0),tC,(aa bI 0),a4] qU fun MQ y7 =>
 ae .add tC (N .i64 1) fun Td =>
 next [Td,(aa xs 1),(aa bI 0),PQ,wI] y7) (
 ae .geq AY Aa fun t139 =>
 ae .add tC (N .i64 1) fun aaa =>
 p9 [a0,aaa,(aa xs 1),(aa bI 0),a4] qU fun t146 tL =>
 next [(aa xs 0),tC,(aa bI 0),t139,wI] tL)))))))) [a1,a2,a3,(Bo true),(Bo true)] M0
def JE (a0:AV) (M0:RM) (Q:ai) : Prop :=
 bH a0 fun t7 =>
 aV (fun next xs M =>
 ae .lss (aa xs 0) t7 fun t9 =>
 ay t9 (
 ax a0 (aa xs 0) 1 fun bM =>
 aj M bM fun bU =>
 ae .neq bU (N .i64 0) fun t14 =>
 ay t14 (
 Q bU M) (
 ae .add (aa xs 0) (N .i64 1) fun t16 =>
 next [t16] M)) (
 Q (N .i64 0) M)) [(N .i64 0)] M0
def rf (p1:au) (a0 a1:AV) (M0:RM) (Q:ai) : Prop :=
 p1 [a0] M0 fun t8 M =>
 p1 [a1] M fun bM M_0 =>
 ay t8 (
 ay bM (
 Q (N .i64 0) M_0) (
 Q (N .i64 (-1)) M_0)) (
 ay bM (
 Q (N .i64 1) M_0) (
 iJ .lss a0 a1 fun t16 =>
 ay t16 (
 Q (N .i64 (-1)) M_0) (
 iJ .gtr a0 a1 fun t19 =>
 ay t19 (
 Q (N .i64 1) M_0) (
 Q (N .i64 0) M_0))))
def qd (cv:(FuncId→au)) (a0 a1:AV) (M0:RM) (Q:ai) : Prop :=
 bH a0 fun t7 =>
 aV (fun next xs M =>
 ae .lss (aa xs 0) t7 fun t9 =>
 ay t9 (
 ax a0 (aa xs 0) 5 fun t14 =>
 aF M t14 5 fun t15 =>
 eG cv a1 [t15] M fun t16 M_0 =>
 ay t16 (
 Q (aa xs 0) M_0) (
 ae .add (aa xs 0) (N .i64 1) fun t18 =>
 next [t18] M_0)) (
 Q (N .i64 (-1)) M)) [(N .i64 0)] M0
def Ak (p1:Nat) (a0 a1:AV) (M0:RM) (Q:ai) : Prop :=
 ji p1 a1 fun r f =>
 bP r f M0 fun t3 M =>
 bH a0 fun t7 =>
 aV (fun next xs M_0 =>
 ae .lss (aa xs 0) t7 fun t9 =>
 ay t9 (
 aF M_0 t3 2 fun bU =>
 ax a0 (aa xs 0) 2 fun t14 =>
 aF M_0 t14 2 fun t15 =>
 nI false [1,1] bU t15 fun t16 =>
 ay t16 (
 Q (aa xs 0) M_0) (
 ae .add (aa xs 0) (N .i64 1) fun t18 =>
 next [t18] M_0)) (
 Q (N .i64 (-1)) M_0)) [(N .i64 0)] M
def qR (p1:au) (a0 a1:AV) (M0:RM) (Q:ai) : Prop :=
 p1 [a0] M0 fun t8 M =>
 p1 [a1] M fun bM M_0 =>
 ay t8 (
 ay bM (
 Q (N .i64 0) M_0) (
 Q (N .i64 (-1)) M_0)) (
 ay bM (
 Q (N .i64 1) M_0) (
 ae .lss a0 a1 fun t16 =>
 ay t16 (
 Q (N .i64 (-1)) M_0) (
 ae .gtr a0 a1 fun t19 =>
 ay t19 (
 Q (N .i64 1) M_0) (
 Q (N .i64 0) M_0))))
def wF (p1:au) (a0 a1:AV) (M0:RM) (Q:ai) : Prop :=
 p1 [a0] M0 fun t8 M =>
 p1 [a1] M fun bM M_0 =>
 ay t8 (
 ay bM (
 Q (N .i64 0) M_0) (
 Q (N .i64 (-1)) M_0)) (
 ay bM (
 Q (N .i64 1) M_0) (
 ae .lss a0 a1 fun t16 =>
 ay t16 (
 Q (N .i64 (-1)) M_0) (
 ae .gtr a0 a1 fun t19 =>
 ay t19 (
 Q (N .i64 1) M_0) (
 Q (N .i64 0) M_0))))
def eB (cv:(FuncId→au)) (a0 a1 a2 a3:AV) (M0:RM) (Q:ai) : Prop :=
 ae .add a1 (N .i64 1) fun bU =>
 aV (fun next xs M =>
 ae .lss (aa xs 0) a2 fun t14 =>
 ay t14 (
 aV (fun tT bJ M_2 =>
 ae .gtr (aa bJ 0) a1 fun t20 =>
 af t20 true (fun k=>k a3 M_2 none) (fun k=>k .undef M_2 none) fun t22 M_3 b =>
 af t20 true (fun k_4=>k_4 a0 M_3 none) (fun k=>k .undef M_3 none) fun t23 M_5 b_6 =>
 af t20 true (fun k_7=>k_7 (aa bJ 0) M_5 none) (fun k=>k .undef M_5 none) fun t24 M_8 b_9 =>
 af t20 true (fun rG=>ax t23 t24 5 fun t25 =>
 rG t25 M_8 none) (fun k=>k .undef M_8 none) fun af5 lT QH =>
 af t20 true (fun iG=>aF lT af5 5 fun t26 =>
 iG t26 lT none) (fun k=>k .undef lT none) fun akw dm Dn =>
 af t20 true (fun rH=>rH a0 dm none) (fun k=>k .undef dm none) fun t27 eH SQ =>
 af t20 true (fun q8=>q8 (aa bJ 0) eH none) (fun k=>k .undef eH none) fun t28 fO Qu =>
 af t20 true (fun uI=>ae .sub t28 (N .i64 1) fun t29 =>
 uI t29 fO none) (fun k=>k .undef fO none) fun aih jR QS =>
 af t20 true (fun nk=>ax t27 aih 5 fun t30 =>
 nk t30 jR none) (fun k=>k .undef jR none) fun agn jK aaT =>
 af t20 true (fun yD=>aF jK agn 5 fun t31 =>
 yD t31 jK none) (fun k=>k .undef jK none) fun afL eU ab6 =>
 ah t20 true (fun Io=>eG cv t22 [akw,afL] eU fun t32 dx =>
 Io t32 dx) (fun k=>k .undef eU) fun aj7 j6 =>
 af t20 true (fun CX=>ae .lss aj7 (N .i64 0) fun t33 =>
 CX t33 j6 none) (fun k=>k .undef j6 none) fun ah3 uZ afQ =>
 aK t20 ah3 (Bo false) fun t34 =>
 ay t34 (
 ae .sub (aa bJ 0) (N .i64 1) fun t41 =>
 ae .sub (aa bJ 0) (N .i64 1) fun t44 =>
 ax a0 t44 5 fun t45 =>
 aF uZ t45 5 fun t46 =>
 ax a0 (aa bJ 0) 5 fun t49 =>
 aF uZ t49 5 fun t50 =>
 ax a0 (aa bJ 0) 5 fun t51 =>
 aG uZ t51 t46 5 fun xW =>
 ax a0 t41 5 fun t52 =>
 aG xW t52 t50 5 fun j5 =>
 ae .sub (aa bJ 0) (N .i64 1) fun t36 =>
 tT [t36] j5) (
 ae .add (aa xs 0) (N .i64 1) fun t16 =>
 next [t16] uZ)) [(aa xs 0)] M) (
 Q (.tup []) M)) [bU] M0
def kX (p1:au) (a0 a1 a2 a3:AV) (M0:RM) (Q:ai) : Prop :=
 ae .sub a2 a1 fun t16 =>
 ae .sub t16 (N .i64 1) fun t18 =>
 ae .quo t18 (N .i64 2) fun t19 =>
 aV (fun next xs M =>
 ae .geq (aa xs 0) (N .i64 0) fun t21 =>
 ay t21 (
 p1 [a0,(aa xs 0),t16,a1,a3] M fun t29 M_0 =>
 ae .sub (aa xs 0) (N .i64 1) fun t23 =>
 next [t23] M_0) (
 ae .sub t16 (N .i64 1) fun t31 =>
 aV (fun Qr uY M_3 =>
 ae .geq (aa uY 0) (N .i64 0) fun t33 =>
 ay t33 (
 ae .add a1 (aa uY 0) fun t41 =>
 ae .add a1 (aa uY 0) fun t45 =>
 ax a0 t45 5 fun t46 =>
 aF M_3 t46 5 fun t47 =>
 ax a0 a1 5 fun t50 =>
 aF M_3 t50 5 fun t51 =>
 ax a0 a1 5 fun t52 =>
 aG M_3 t52 t47 5 fun M_4 =>
 ax a0 t41 5 fun t53 =>
 aG M_4 t53 t51 5 fun M_5 =>
 p1 [a0,(N .i64 0),(aa uY 0),a1,a3] M_5 fun t59 M_6 =>
 ae .sub (aa uY 0) (N .i64 1) fun t35 =>
 Qr [t35] M_6) (
 Q (.tup []) M_3)) [t31] M)) [t19] M0
def iU (p1:Nat) (p2 p3:au) (a0 a1 a2 a3:AV) (M0:RM) (Q:ai) : Prop :=
 ae .sub a2 a1 fun t15 =>
 ae .geq t15 (N .i64 8) fun t17 =>
 ay t17 (
 og .u64 t15 fun t19 =>
 bP (.row [(N .u64 0)] false p1 0) (fun b=>.ptr b 0) M0 fun t9 M =>
 aG M t9 t19 1 fun M_0 =>
 p2 [t15] M_0 fun t21 M_1 =>
 ae .quo t15 (N .i64 4) fun t24 =>
 ae .mul t24 (N .i64 2) fun t25 =>
 ae .add a1 t25 fun t26 =>
 ae .sub t26 (N .i64 1) fun t27 =>
 aV (fun next xs M_2 =>
 ae .quo t15 (N .i64 4) fun t31 =>
 ae .mul t31 (N .i64 2) fun t32 =>
 ae .add a1 t32 fun t33 =>
 ae .add t33 (N .i64 1) fun t34 =>
 ae .leq (aa xs 0) t34 fun t35 =>
 ay t35 (
 cz (fun J =>
 p3 [t9] M_2 fun t38 M_3 =>
 ae .sub t21 (N .u64 1) fun t40 =>
 ae .and t38 t40 fun t41 =>
 og .i64 t41 fun t42 =>
 cz (fun J_4 =>
 ae .geq t42 t15 fun t45 =>
 ay t45 (
 ae .sub t42 t15 fun t48 =>
 J_4 [t48] M_3) (
 J_4 [t42] M_3)) (fun JU M_6 =>
 ae .add a1 (aa JU 0) fun t54 =>
 ae .add a1 (aa JU 0) fun t58 =>
 ax a0 t58 5 fun t59 =>
 aF M_6 t59 5 fun t60 =>
 ax a0 (aa xs 0) 5 fun t63 =>
 aF M_6 t63 5 fun t64 =>
 ax a0 (aa xs 0) 5 fun t65 =>
 aG M_6 t65 t60 5 fun M_7 =>
 ax a0 t54 5 fun t66 =>
 aG M_7 t66 t64 5 fun M_8 =>
 J [] M_8)) (fun aoT ek =>
 ae .add (aa xs 0) (N .i64 1) fun t37 =>
 next [t37] ek)) (
 Q (.tup []) M_2)) [t27] M_1) (
 Q (.tup []) M0)
def jI (p1:Nat) (p2 p3:au) (a0 a1 a2 a3:AV) (M0:RM) (Q:ai) : Prop :=
 ae .sub a2 a1 fun t17 =>
 bP (.row [(N .i64 0)] false p1 0) (fun b=>.ptr b 0) M0 fun bU M =>
 ae .quo t17 (N .i64 4) fun t20 =>
 ae .mul t20 (N .i64 1) fun t21 =>
 ae .add a1 t21 fun t22 =>
 ae .quo t17 (N .i64 4) fun t25 =>
 ae .mul t25 (N .i64 2) fun t26 =>
 ae .add a1 t26 fun t27 =>
 ae .quo t17 (N .i64 4) fun t30 =>
 ae .mul t30 (N .i64 3) fun t31 =>
 ae .add a1 t31 fun t32 =>
 cz (fun J =>
 ae .geq t17 (N .i64 8) fun t34 =>
 ay t34 (
 cz (fun J_0 =>
 ae .geq t17 (N .i64 50) fun t36 =>
 ay t36 (
 p2 [a0,t22,bU,a3] M fun t40 M_1 =>
 p2 [a0,t27,bU,a3] M_1 fun t44 M_2 =>
 p2 [a0,t32,bU,a3] M_2 fun t48 M_3 =>
 J_0 [t40,t44,t48] M_3) (
 J_0 [t22,t27,t32] M)) (fun xs M_4 =>
 p3 [a0,(aa xs 0),(aa xs 1),(aa xs 2),bU,a3] M_4 fun t54 M_5 =>
 J [t54] M_5)) (
 J [t27] M)) (fun mV M_7 =>
 aj M_7 bU fun t55 =>
 ae .eql t55 (N .i64 0) fun t58 =>
 ay t58 (
 Q (.tup [(aa mV 0),(N .i64 1)]) M_7) (
 ae .eql t55 (N .i64 12) fun t61 =>
 ay t61 (
 Q (.tup [(aa mV 0),(N .i64 2)]) M_7) (
 Q (.tup [(aa mV 0),(N .i64 0)]) M_7)))
def jk (a0 a1 a2 a3:AV) (M0:RM) (Q:ai) : Prop :=
 ae .sub a2 (N .i64 1) fun t12 =>
 aV (fun next xs M =>
 ae .lss (aa xs 0) (aa xs 1) fun t15 =>
 ay t15 (
 ax a0 (aa xs 1) 5 fun t22 =>
 aF M t22 5 fun t23 =>
 ax a0 (aa xs 0) 5 fun t26 =>
 aF M t26 5 fun t27 =>
 ax a0 (aa xs 0) 5 fun t28 =>
 aG M t28 t23 5 fun M_0 =>
 ax a0 (aa xs 1) 5 fun t29 =>
 aG M_0 t29 t27 5 fun M_1 =>
 ae .add (aa xs 0) (N .i64 1) fun t31 =>
 ae .sub (aa xs 1) (N .i64 1) fun t33 =>
 next [t31,t33] M_1) (
 Q (.tup []) M)) [a1,t12] M0
def fZ (cv:(FuncId→au)) (a0 a1 a2 a3:AV) (M0:RM) (Q:ai) : Prop :=
 ae .add a1 (N .i64 1) fun t14 =>
 aV (fun next xs M =>
 ae .lss (aa xs 1) (N .i64 5) fun t16 =>
 ay t16 (
 cz (fun J =>
 aV (fun tT bJ M_2 =>
 ae .lss (aa bJ 0) a2 fun t21 =>
 af t21 true (fun k=>k a3 M_2 none) (fun k=>k .undef M_2 none) fun t23 M_3 b =>
 af t21 true (fun k_4=>k_4 a0 M_3 none) (fun k=>k .undef M_3 none) fun t24 M_5 b_6 =>
 af t21 true (fun k_7=>k_7 (aa bJ 0) M_5 none) (fun k=>k .undef M_5 none) fun t25 M_8 b_9 =>
 af t21 true (fun rG=>ax t24 t25 5 fun t26 =>
 rG t26 M_8 none) (fun k=>k .undef M_8 none) fun agT lT QH =>
 af t21 true (fun iG=>aF lT agT 5 fun t27 =>
 iG t27 lT none) (fun k=>k .undef lT none) fun afJ dm Dn =>
 af t21 true (fun rH=>rH a0 dm none) (fun k=>k .undef dm none) fun t28 eH SQ =>
 af t21 true (fun q8=>q8 (aa bJ 0) eH none) (fun k=>k .undef eH none) fun t29 fO Qu =>
 af t21 true (fun uI=>ae .sub t29 (N .i64 1) fun t30 =>
 uI t30 fO none) (fun k=>k .undef fO none) fun ah2 jR QS =>
 af t21 true (fun nk=>ax t28 ah2 5 fun t31 =>
 nk t31 jR none) (fun k=>k .undef jR none) fun QG jK aaT =>
 af t21 true (fun yD=>aF jK QG 5 fun t32 =>
 yD t32 jK none) (fun k=>k .undef jK none) fun Rt eU ab6 =>
 ah t21 true (fun Io=>eG cv t23 [afJ,Rt] eU fun t33 dx =>
 Io t33 dx) (fun k=>k .undef eU) fun aiP j6 =>
 af t21 true (fun CX=>ae .lss aiP (N .i64 0) fun t34 =>
 CX t34 j6 none) (fun k=>k .undef j6 none) fun Sm uZ afQ =>
 af t21 true (fun JF=>dQ Sm fun t35 =>
 JF t35 uZ none) (fun k=>k .undef uZ none) fun ag1 gX aau =>
 aK t21 ag1 (Bo false) fun t36 =>
 ay t36 (
 ae .add (aa bJ 0) (N .i64 1) fun t38 =>
 tT [t38] gX) (
 ae .eql (aa bJ 0) a2 fun t41 =>
 ay t41 (
 Q (Bo true) gX) (
 ae .sub a2 a1 fun t44 =>
 ae .lss t44 (N .i64 50) fun t45 =>
 ay t45 (
 Q (Bo false) gX) (
 ae .sub (aa bJ 0) (N .i64 1) fun t50 =>
 ae .sub (aa bJ 0) (N .i64 1) fun t53 =>
 ax a0 t53 5 fun t54 =>
 aF gX t54 5 fun t55 =>
 ax a0 (aa bJ 0) 5 fun t58 =>
 aF gX t58 5 fun t59 =>
 ax a0 (aa bJ 0) 5 fun t60 =>
 aG gX t60 t55 5 fun kw =>
 ax a0 t50 5 fun t61 =>
 aG kw t61 t59 5 fun nN =>
 cz (fun ZW =>
 ae .sub (aa bJ 0) a1 fun t64 =>
 ae .geq t64 (N .i64 2) fun t65 =>
 ay t65 (
 ae .sub (aa bJ 0) (N .i64 1) fun t67 =>
 aV (fun aem vN ny =>
 ae .geq (aa vN 0) (N .i64 1) fun t69 =>
 ay t69 (
 ax a0 (aa vN 0) 5 fun t75 =>
 aF ny t75 5 fun t76 =>
 ae .sub (aa vN 0) (N .i64 1) fun t79 =>
 ax a0 t79 5 fun t80 =>
 aF ny t80 5 fun t81 =>
 eG cv a3 [t76,t81] ny fun t82 jY =>
 ae .lss t82 (N .i64 0) fun t83 =>
 dQ t83 fun t84 =>
 ay t84 (
 ZW [] jY) (
 ae .sub (aa vN 0) (N .i64 1) fun t89 =>
 ae .sub (aa vN 0) (N .i64 1) fun t92 =>
 ax a0 t92 5 fun t93 =>
 aF jY t93 5 fun t94 =>
 ax a0 (aa vN 0) 5 fun t97 =>
 aF jY t97 5 fun t98 =>
 ax a0 (aa vN 0) 5 fun t99 =>
 aG jY t99 t94 5 fun oJ =>
 ax a0 t89 5 fun kF =>
 aG oJ kF t98 5 fun uE =>
 ae .sub (aa vN 0) (N .i64 1) fun t71 =>
 aem [t71] uE)) (
 ZW [] ny)) [t67] nN) (
 ZW [] nN)) (fun xs_57 wH =>
 ae .sub a2 (aa bJ 0) fun xP =>
 ae .geq xP (N .i64 2) fun Bi =>
 ay Bi (
 ae .add (aa bJ 0) (N .i64 1) fun QC =>
 aV (fun aeb zn lZ =>
 ae .lss (aa zn 0) a2 fun t109 =>
 ay t109 (
 ax a0 (aa zn 0) 5 fun uW =>
 aF lZ uW 5 fun t116 =>
 ae .sub (aa zn 0) (N .i64 1) fun t119 =>
 ax a0 t119 5 fun AY =>
 aF lZ AY 5 fun Cv =>
 eG cv a3 [t116,Cv] lZ fun Aa FE =>
 ae .lss Aa (N .i64 0) fun CK =>
 dQ CK fun t124 =>
 ay t124 (
 J [(aa bJ 0)] FE) (
 ae .sub (aa zn 0) (N .i64 1) fun uD =>
 ae .sub (aa zn 0) (N .i64 1) fun Ca =>
 ax a0 Ca 5 fun QB =>
 aF FE QB 5 fun MQ =>
 ax a0 (aa zn 0) 5 fun PD =>
 aF FE PD 5 fun t138 =>
 ax a0 (aa zn 0) 5 fun t139 =>
 aG FE t139 MQ 5 fun vD =>
 ax a0 uD 5 fun aok =>
 aG vD aok t138 5 fun mX =>
 ae .add (aa zn 0) (N .i64 1) fun AJ =>
 aeb [AJ] mX)) (
 J [(aa bJ 0)] lZ)) [QC] wH) (
 J [(aa bJ 0)] wH)))))) [(aa xs 0)] M) (fun ak2 u7 =>
 ae .add (aa xs 1) (N .i64 1) fun t18 =>
 next [(aa ak2 0),t18] u7)) (
 Q (Bo false) M)) [t14,(N .i64 0)] M0
def iN (cv:(FuncId→au)) (a0 a1 a2 a3 a4:AV) (M0:RM) (Q:ai) : Prop :=
 ax a0 a3 5 fun t19 =>
 aF M0 t19 5 fun t20 =>
 ax a0 a1 5 fun t23 =>
 aF M0 t23 5 fun t24 =>
 ax a0 a1 5 fun t25 =>
 aG M0 t25 t20 5 fun M =>
 ax a0 a3 5 fun t26 =>
 aG M t26 t24 5 fun M_0 =>
 ae .add a1 (N .i64 1) fun t28 =>
 ae .sub a2 (N .i64 1) fun t30 =>
 aV (fun next xs M_1 =>
 aV (fun tQ bI M_4 =>
 ae .leq (aa bI 0) (aa xs 1) fun t33 =>
 af t33 true (fun k=>k a4 M_4 none) (fun k=>k .undef M_4 none) fun t35 M_5 b =>
 af t33 true (fun k_6=>k_6 a0 M_5 none) (fun k=>k .undef M_5 none) fun t36 M_7 b_8 =>
 af t33 true (fun k_9=>k_9 a1 M_7 none) (fun k=>k .undef M_7 none) fun t37 ek b_11 =>
 af t33 true (fun mZ=>ax t36 t37 5 fun t38 =>
 mZ t38 ek none) (fun k=>k .undef ek none) fun ahX jo aoN =>
 af t33 true (fun IR=>aF jo ahX 5 fun t39 =>
 IR t39 jo none) (fun k=>k .undef jo none) fun ahS dV X6 =>
 af t33 true (fun mW=>mW a0 dV none) (fun k=>k .undef dV none) fun t40 dW XZ =>
 af t33 true (fun qW=>qW (aa bI 0) dW none) (fun k=>k .undef dW none) fun t41 kI agV =>
 af t33 true (fun I5=>ax t40 t41 5 fun t42 =>
 I5 t42 kI none) (fun k=>k .undef kI none) fun ajB ql ag2 =>
 af t33 true (fun Jb=>aF ql ajB 5 fun t43 =>
 Jb t43 ql none) (fun k=>k .undef ql none) fun agy rD aoo =>
 ah t33 true (fun DK=>eG cv t35 [ahS,agy] rD fun t44 Np =>
 DK t44 Np) (fun k=>k .undef rD) fun akx dx =>
 af t33 true (fun Jq=>ae .lss akx (N .i64 0) fun t45 =>
 Jq t45 dx none) (fun k=>k .undef dx none) fun akr yF b_41 =>
 af t33 true (fun IM=>dQ akr fun t46 =>
 IM t46 yF none) (fun k=>k .undef yF none) fun air xW an6 =>
 aK t33 air (Bo false) fun t47 =>
 ay t47 (
 ae .add (aa bI 0) (N .i64 1) fun t49 =>
 tQ [t49] xW) (
 aV (fun ad9 tF kw =>
 ae .leq (aa bI 0) (aa tF 0) fun t52 =>
 af t52 true (fun Jc=>Jc a4 kw none) (fun k=>k .undef kw none) fun t54 mF abp =>
 af t52 true (fun CS=>CS a0 mF none) (fun k=>k .undef mF none) fun t55 ny aaO =>
 af t52 true (fun Cm=>Cm a1 ny none) (fun k=>k .undef ny none) fun t56 uE b_57 =>
 af t52 true (fun abe=>ax t55 t56 5 fun t57 =>
 abe t57 uE none) (fun k=>k .undef uE none) fun afT kg aaE =>
 af t52 true (fun yR=>aF kg afT 5 fun t58 =>
 yR t58 kg none) (fun k=>k .undef kg none) fun aha mX aaR =>
 af t52 true (fun PV=>PV a0 mX none) (fun k=>k .undef mX none) fun t59 qU ags =>
 af t52 true (fun Qi=>Qi (aa tF 0) qU none) (fun k=>k .undef qU none) fun t60 I9 b_71 =>
 af t52 true (fun abQ=>ax t59 t60 5 fun t61 =>
 abQ t61 I9 none) (fun k=>k .undef I9 none) fun agU wP b_75 =>
 af t52 true (fun aot=>aF wP agU 5 fun t62 =>
 aot t62 wP none) (fun k=>k .undef wP none) fun agY MZ b_79 =>
 ah t52 true (fun Qh=>eG cv t54 [aha,agY] MZ fun t63 WV =>
 Qh t63 WV) (fun k=>k .undef MZ) fun ajU qg =>
 af t52 true (fun aac=>ae .lss ajU (N .i64 0) fun t64 =>
 aac t64 qg none) (fun k=>k .undef qg none) fun agF Iw b_87 =>
 aK t52 agF (Bo false) fun t65 =>
 ay t65 (
 ae .sub (aa tF 0) (N .i64 1) fun t67 =>
 ad9 [t67] Iw) (
 ae .gtr (aa bI 0) (aa tF 0) fun t70 =>
 ay t70 (
 Q (aa bI 0) Iw) (
 ax a0 (aa tF 0) 5 fun t77 =>
 aF Iw t77 5 fun t78 =>
 ax a0 (aa bI 0) 5 fun t81 =>
 aF Iw t81 5 fun t82 =>
 ax a0 (aa bI 0) 5 fun t83 =>
 aG Iw t83 t78 5 fun DU =>
 ax a0 (aa tF 0) 5 fun t84 =>
 aG DU t84 t82 5 fun P7 =>
 ae .add (aa bI 0) (N .i64 1) fun t86 =>
 ae .sub (aa tF 0) (N .i64 1) fun t88 =>
 next [t86,t88] P7))) [(aa xs 1)] xW)) [(aa xs 0)] M_1) [t28,t30] M_0
def kG (cv:(FuncId→au)) (a0 a1 a2 a3 a4:AV) (M0:RM) (Q:ai) : Prop :=
 ax a0 a3 5 fun t20 =>
 aF M0 t20 5 fun t21 =>
 ax a0 a1 5 fun t24 =>
 aF M0 t24 5 fun t25 =>
 ax a0 a1 5 fun t26 =>
 aG M0 t26 t21 5 fun M =>
 ax a0 a3 5 fun t27 =>
 aG M t27 t25 5 fun M_0 =>
 ae .add a1 (N .i64 1) fun t29 =>
 ae .sub a2 (N .i64 1) fun t31 =>
 aV (fun next xs M_1 =>
 ae .leq (aa xs 0) t31 fun t34 =>
 af t34 true (fun k=>k a4 M_1 none) (fun k=>k .undef M_1 none) fun t36 M_2 b =>
 af t34 true (fun k_3=>k_3 a0 M_2 none) (fun k=>k .undef M_2 none) fun t37 M_4 b_5 =>
 af t34 true (fun k_6=>k_6 (aa xs 0) M_4 none) (fun k=>k .undef M_4 none) fun t38 M_7 b_8 =>
 af t34 true (fun k_9=>ax t37 t38 5 fun t39 =>
 k_9 t39 M_7 none) (fun k=>k .undef M_7 none) fun aiw dI VR =>
 af t34 true (fun CQ=>aF dI aiw 5 fun t40 =>
 CQ t40 dI none) (fun k=>k .undef dI none) fun afk jQ VG =>
 af t34 true (fun lL=>lL a0 jQ none) (fun k=>k .undef jQ none) fun t41 dV X6 =>
 af t34 true (fun mW=>mW a1 dV none) (fun k=>k .undef dV none) fun t42 dW XZ =>
 af t34 true (fun qW=>ax t41 t42 5 fun t43 =>
 qW t43 dW none) (fun k=>k .undef dW none) fun ajK fG Me =>
 af t34 true (fun q9=>aF fG ajK 5 fun t44 =>
 q9 t44 fG none) (fun k=>k .undef fG none) fun aio iL IW =>
 ah t34 true (fun ko=>eG cv t36 [afk,aio] iL fun t45 rD =>
 ko t45 rD) (fun k=>k .undef iL) fun ai5 eU =>
 af t34 true (fun kC=>ae .lss ai5 (N .i64 0) fun t46 =>
 kC t46 eU none) (fun k=>k .undef eU none) fun agd dx LU =>
 aK t34 agd (Bo false) fun t47 =>
 ay t47 (
 ae .add (aa xs 0) (N .i64 1) fun t49 =>
 next [t49] dx) (
 aV (fun LY kL iH =>
 ae .leq (aa xs 0) (aa kL 0) fun t52 =>
 af t52 true (fun IM=>IM a4 iH none) (fun k=>k .undef iH none) fun t54 gW abN =>
 af t52 true (fun Cu=>Cu a0 gW none) (fun k=>k .undef gW none) fun t55 gX aau =>
 af t52 true (fun Ty=>Ty (aa kL 0) gX none) (fun k=>k .undef gX none) fun t56 nN ane =>
 af t52 true (fun Px=>ax t55 t56 5 fun t57 =>
 Px t57 nN none) (fun k=>k .undef nN none) fun akk ny aaO =>
 af t52 true (fun Cm=>aF ny akk 5 fun t58 =>
 Cm t58 ny none) (fun k=>k .undef ny none) fun ajS gK PK =>
 af t52 true (fun yu=>yu a0 gK none) (fun k=>k .undef gK none) fun t59 kg aaE =>
 af t52 true (fun yR=>yR a1 kg none) (fun k=>k .undef kg none) fun t60 vD apf =>
 af t52 true (fun Sz=>ax t59 t60 5 fun t61 =>
 Sz t61 vD none) (fun k=>k .undef vD none) fun agx qU ags =>
 af t52 true (fun Qi=>aF qU agx 5 fun t62 =>
 Qi t62 qU none) (fun k=>k .undef qU none) fun ahE yA b_72 =>
 ah t52 true (fun aog=>eG cv t54 [ajS,ahE] yA fun t63 wP =>
 aog t63 wP) (fun k=>k .undef yA) fun akm Ao =>
 af t52 true (fun IY=>ae .lss akm (N .i64 0) fun t64 =>
 IY t64 Ao none) (fun k=>k .undef Ao none) fun agh xY ani =>
 af t52 true (fun Py=>dQ agh fun t65 =>
 Py t65 xY none) (fun k=>k .undef xY none) fun afH qg ano =>
 aK t52 afH (Bo false) fun t66 =>
 ay t66 (
 ae .sub (aa kL 0) (N .i64 1) fun t68 =>
 LY [t68] qg) (
 ae .gtr (aa xs 0) (aa kL 0) fun t71 =>
 ay t71 (
 ax a0 a1 5 fun t78 =>
 aF qg t78 5 fun t79 =>
 ax a0 (aa kL 0) 5 fun t82 =>
 aF qg t82 5 fun t83 =>
 ax a0 (aa kL 0) 5 fun t84 =>
 aG qg t84 t79 5 fun xQ =>
 ax a0 a1 5 fun t85 =>
 aG xQ t85 t83 5 fun Iw =>
 Q (.tup [(aa kL 0),(Bo true)]) Iw) (
 ax a0 (aa kL 0) 5 fun t93 =>
 aF qg t93 5 fun t94 =>
 ax a0 (aa xs 0) 5 fun t97 =>
 aF qg t97 5 fun t98 =>
 ax a0 (aa xs 0) 5 fun t99 =>
 aG qg t99 t94 5 fun RJ =>
 ax a0 (aa kL 0) 5 fun kF =>
 aG RJ kF t98 5 fun DU =>
 ae .add (aa xs 0) (N .i64 1) fun aaG =>
 ae .sub (aa kL 0) (N .i64 1) fun Bi =>
 aV (fun adJ WO Aw =>
 aV (fun L8 pO uh =>
 ae .leq (aa pO 0) (aa WO 1) fun t107 =>
 af t107 true (fun Re=>Re a4 uh none) (fun k=>k .undef uh none) fun t109 A9 an8 =>
 af t107 true (fun Qj=>Qj a0 A9 none) (fun k=>k .undef A9 none) fun xX FK acZ =>
 af t107 true (fun DF=>DF (aa pO 0) FK none) (fun k=>k .undef FK none) fun AJ KH b_103 =>
 af t107 true (fun akN=>ax xX AJ 5 fun tC =>
 akN tC KH none) (fun k=>k .undef KH none) fun aax VZ b_107 =>
 af t107 true (fun XC=>aF VZ aax 5 fun wI =>
 XC wI VZ none) (fun k=>k .undef VZ none) fun acv Cr b_111 =>
 af t107 true (fun Ye=>Ye a0 Cr none) (fun k=>k .undef Cr none) fun Ij Le b_114 =>
 af t107 true (fun alx=>alx a1 Le none) (fun k=>k .undef Le none) fun uW xG b_117 =>
 af t107 true (fun amh=>ax Ij uW 5 fun t116 =>
 amh t116 xG none) (fun k=>k .undef xG none) fun ZR G5 alT =>
 af t107 true (fun Yn=>aF G5 ZR 5 fun t117 =>
 Yn t117 G5 none) (fun k=>k .undef G5 none) fun acn xq alL =>
 ah t107 true (fun Ww=>eG cv t109 [acv,acn] xq fun aaN KZ =>
 Ww aaN KZ) (fun k=>k .undef xq) fun aai GZ =>
 af t107 true (fun VB=>ae .lss aai (N .i64 0) fun t119 =>
 VB t119 GZ none) (fun k=>k .undef GZ none) fun Z6 adj b_133 =>
 aK t107 Z6 (Bo false) fun AY =>
 ay AY (
 ae .add (aa pO 0) (N .i64 1) fun Aa =>
 L8 [Aa] adj) (
 aV (fun abL qG O9 =>
 ae .leq (aa pO 0) (aa qG 0) fun mY =>
 af mY true (fun al6=>al6 a4 O9 none) (fun k=>k .undef O9 none) fun t127 GG ak5 =>
 af mY true (fun Xk=>Xk a0 GG none) (fun k=>k .undef GG none) fun PQ KP ali =>
 af mY true (fun VX=>VX (aa qG 0) KP none) (fun k=>k .undef KP none) fun uD acF b_145 =>
 af mY true (fun akZ=>ax PQ uD 5 fun t130 =>
 akZ t130 acF none) (fun k=>k .undef acF none) fun acf Gn al3 =>
 af mY true (fun Xn=>aF Gn acf 5 fun t131 =>
 Xn t131 Gn none) (fun k=>k .undef Gn none) fun abu Ct alV =>
 af mY true (fun Yj=>Yj a0 Ct none) (fun k=>k .undef Ct none) fun Ca Df al2 =>
 af mY true (fun Yb=>Yb a1 Df none) (fun k=>k .undef Df none) fun QB acG b_159 =>
 af mY true (fun alj=>ax Ca QB 5 fun MQ =>
 alj MQ acG none) (fun k=>k .undef acG none) fun abg Xa b_163 =>
 af mY true (fun akL=>aF Xa abg 5 fun aop =>
 akL aop Xa none) (fun k=>k .undef Xa none) fun abh KM akY =>
 ah mY true (fun WN=>eG cv t127 [abu,abh] KM fun Td akK =>
 WN Td akK) (fun k=>k .undef KM) fun ab9 adh =>
 af mY true (fun XB=>ae .lss ab9 (N .i64 0) fun PD =>
 XB PD adh none) (fun k=>k .undef adh none) fun abj Gz alK =>
 af mY true (fun WG=>dQ abj fun t138 =>
 WG t138 Gz none) (fun k=>k .undef Gz none) fun ace vH alq =>
 aK mY ace (Bo false) fun t139 =>
 ay t139 (
 ae .sub (aa qG 0) (N .i64 1) fun t141 =>
 abL [t141] vH) (
 ae .gtr (aa pO 0) (aa qG 0) fun anE =>
 ay anE (
 ax a0 a1 5 fun anu =>
 aF vH anu 5 fun aoL =>
 ax a0 (aa qG 0) 5 fun t173 =>
 aF vH t173 5 fun anM =>
 ax a0 (aa qG 0) 5 fun t175 =>
 aG vH t175 aoL 5 fun amo =>
 ax a0 a1 5 fun anj =>
 aG amo anj anM 5 fun amC =>
 Q (.tup [(aa qG 0),(Bo false)]) amC) (
 ax a0 (aa qG 0) 5 fun ao4 =>
 aF vH ao4 5 fun t152 =>
 ax a0 (aa pO 0) 5 fun anO =>
 aF vH anO 5 fun t156 =>
 ax a0 (aa pO 0) 5 fun t157 =>
 aG vH t157 t152 5 fun Kw =>
 ax a0 (aa qG 0) 5 fun ao8 =>
 aG Kw ao8 t156 5 fun al9 =>
 ae .add (aa pO 0) (N .i64 1) fun t160 =>
 ae .sub (aa qG 0) (N .i64 1) fun t162 =>
 adJ [t160,t162] al9))) [(aa WO 1)] adj)) [(aa WO 0)] Aw) [aaG,Bi] DU))) [t31] dx)) [t29] M_0
def uF (a0:AV) (M0:RM) (Q:ai) : Prop :=
 iJ .neq a0 a0 fun t5 =>
 Q t5 M0
def JS (p1:Nat) (p2:au) (a0 a1:AV) (M0:RM) (Q:ai) : Prop :=
 ji p1 a0 fun r f =>
 bP r f M0 fun t2 M =>
 ji p1 a1 fun r_0 f_1 =>
 bP r_0 f_1 M fun t3 M_2 =>
 aI t2 2 fun t5 =>
 aj M_2 t5 fun t6 =>
 aI t3 2 fun t7 =>
 aj M_2 t7 fun t8 =>
 iJ .neq t6 t8 fun t9 =>
 ay t9 (
 aI t2 2 fun bM =>
 aj M_2 bM fun bU =>
 aI t3 2 fun t12 =>
 aj M_2 t12 fun t13 =>
 iJ .lss bU t13 fun t14 =>
 Q t14 M_2) (
 aI t2 3 fun t15 =>
 aj M_2 t15 fun t16 =>
 aI t3 3 fun t17 =>
 aj M_2 t17 fun t18 =>
 iJ .neq t16 t18 fun t19 =>
 ay t19 (
 aI t2 3 fun t20 =>
 aj M_2 t20 fun t21 =>
 aI t3 3 fun t22 =>
 aj M_2 t22 fun t23 =>
 iJ .lss t21 t23 fun t24 =>
 Q t24 M_2) (
 aI t2 0 fun t25 =>
 aF M_2 t25 2 fun t26 =>
 aI t3 0 fun t27 =>
 aF M_2 t27 2 fun t28 =>
 p2 [t26,t28] M_2 fun t29 M_3 =>
 Q t29 M_3))
def Az (a0:AV) (M0:RM) (Q:ai) : Prop :=
 ae .neq a0 a0 fun t5 =>
 Q t5 M0
def kZ (cv:(FuncId→au)) (a0 a1 a2 a3 a4:AV) (M0:RM) (Q:ai) : Prop :=
 aV (fun next xs M =>
 ae .mul (N .i64 2) (aa xs 0) fun t14 =>
 ae .add t14 (N .i64 1) fun t15 =>
 ae .geq t15 a2 fun t18 =>
 ay t18 (
 Q (.tup []) M) (
 cz (fun J =>
 ae .add t15 (N .i64 1) fun t20 =>
 ae .lss t20 a2 fun t22 =>
 af t22 true (fun k=>k a4 M none) (fun k=>k .undef M none) fun t24 M_0 b =>
 af t22 true (fun k_1=>k_1 a0 M_0 none) (fun k=>k .undef M_0 none) fun t25 M_2 b_3 =>
 af t22 true (fun k_4=>k_4 a3 M_2 none) (fun k=>k .undef M_2 none) fun t26 M_5 b_6 =>
 af t22 true (fun k_7=>k_7 t15 M_5 none) (fun k=>k .undef M_5 none) fun t27 M_8 b_9 =>
 af t22 true (fun rG=>ae .add t26 t27 fun t28 =>
 rG t28 M_8 none) (fun k=>k .undef M_8 none) fun afK lT QH =>
 af t22 true (fun iG=>ax t25 afK 5 fun t29 =>
 iG t29 lT none) (fun k=>k .undef lT none) fun ajd dm Dn =>
 af t22 true (fun rH=>aF dm ajd 5 fun t30 =>
 rH t30 dm none) (fun k=>k .undef dm none) fun aiE nG abx =>
 af t22 true (fun oH=>oH a0 nG none) (fun k=>k .undef nG none) fun t31 ku QI =>
 af t22 true (fun oq=>oq a3 ku none) (fun k=>k .undef ku none) fun t32 jR QS =>
 af t22 true (fun nk=>nk t15 jR none) (fun k=>k .undef jR none) fun t33 iL IW =>
 af t22 true (fun ko=>ae .add t32 t33 fun t34 =>
 ko t34 iL none) (fun k=>k .undef iL none) fun afC il Xg =>
 af t22 true (fun kC=>ae .add afC (N .i64 1) fun t35 =>
 kC t35 il none) (fun k=>k .undef il none) fun aim dx LU =>
 af t22 true (fun DD=>ax t31 aim 5 fun t36 =>
 DD t36 dx none) (fun k=>k .undef dx none) fun agD iH JG =>
 af t22 true (fun Jv=>aF iH agD 5 fun t37 =>
 Jv t37 iH none) (fun k=>k .undef iH none) fun afG j5 aiy =>
 ah t22 true (fun Iq=>eG cv t24 [aiE,afG] j5 fun t38 kw =>
 Iq t38 kw) (fun k=>k .undef j5) fun aj8 mF =>
 af t22 true (fun Px=>ae .lss aj8 (N .i64 0) fun t39 =>
 Px t39 mF none) (fun k=>k .undef mF none) fun ai7 ny aaO =>
 aK t22 ai7 (Bo false) fun t40 =>
 ay t40 (
 ae .add t15 (N .i64 1) fun t42 =>
 J [t42] ny) (
 J [t15] ny)) (fun Pg uE =>
 ae .add a3 (aa xs 0) fun t47 =>
 ax a0 t47 5 fun t48 =>
 aF uE t48 5 fun t49 =>
 ae .add a3 (aa Pg 0) fun t53 =>
 ax a0 t53 5 fun t54 =>
 aF uE t54 5 fun t55 =>
 eG cv a4 [t49,t55] uE fun t56 gK =>
 ae .lss t56 (N .i64 0) fun t57 =>
 dQ t57 fun t58 =>
 ay t58 (
 Q (.tup []) gK) (
 ae .add a3 (aa xs 0) fun t62 =>
 ae .add a3 (aa Pg 0) fun t66 =>
 ae .add a3 (aa Pg 0) fun t70 =>
 ax a0 t70 5 fun t71 =>
 aF gK t71 5 fun t72 =>
 ae .add a3 (aa xs 0) fun t76 =>
 ax a0 t76 5 fun t77 =>
 aF gK t77 5 fun t78 =>
 ax a0 t62 5 fun t79 =>
 aG gK t79 t72 5 fun wH =>
 ax a0 t66 5 fun t80 =>
 aG wH t80 t78 5 fun yH =>
 next [(aa Pg 0)] yH)))) [a1] M0
def iM (p1:au) (a0 a1 a2 a3:AV) (M0:RM) (Q:ai) : Prop :=
 ae .sub a1 (N .i64 1) fun bU =>
 ae .add a1 (N .i64 1) fun t14 =>
 p1 [a0,bU,a1,t14,a2,a3] M0 fun t17 M =>
 Q t17 M
def mK (p1:au) (a0 a1 a2 a3 a4 a5:AV) (M0:RM) (Q:ai) : Prop :=
 p1 [a0,a1,a2,a4,a5] M0 fun t19 M =>
 gu t19 0 fun t20 =>
 gu t19 1 fun t21 =>
 p1 [a0,t21,a3,a4,a5] M fun t28 M_0 =>
 gu t28 0 fun t29 =>
 gu t28 1 fun t30 =>
 p1 [a0,t20,t29,a4,a5] M_0 fun t37 M_1 =>
 gu t37 0 fun t38 =>
 gu t37 1 fun t39 =>
 Q t39 M_1
def mD (cv:(FuncId→au)) (a0 a1 a2 a3 a4:AV) (M0:RM) (Q:ai) : Prop :=
 ax a0 a2 5 fun t15 =>
 aF M0 t15 5 fun t16 =>
 ax a0 a1 5 fun t19 =>
 aF M0 t19 5 fun t20 =>
 eG cv a4 [t16,t20] M0 fun t21 M =>
 ae .lss t21 (N .i64 0) fun t22 =>
 ay t22 (
 bV a3 fun t24 =>
 aj M t24 fun t25 =>
 ae .add t25 (N .i64 1) fun t26 =>
 bV a3 fun t27 =>
 aG M t27 t26 1 fun M_0 =>
 Q (.tup [a2,a1]) M_0) (
 Q (.tup [a1,a2]) M)
end Go.Ab.Crw
namespace Go.Ab
open Go Go.RowKit
def RM.cell (M:RM) (b o:Nat) : Option AV:=(M.cells b).bind (·[o]?)
section
variable {M M' : RM} {K:AV→Prop} {KQ:ai}
theorem Kt {b o:Nat} {v:AV} : M.loads b o 1=some [v]↔M.cell b o=some v:=by
 unfold RM.loads RM.cell
 cases hc:M.cells b with
 | none=>simp
 | some l =>
   simp only[Option.bind_some]
   constructor
   ·intro h
    split at h
    ·rename_i hlt
     have h1:=Option.some.inj h
     have:((l.drop o).take 1)[0]?=some v:=by rw[h1]; rfl
     rw[List.getElem?_take,if_pos (by omega),List.getElem?_drop] at this
     simpa using this
    ·cases h
   ·intro h
    have hlt:=(List.getElem?_eq_some_iff.1 h).1
    rw[if_pos (by omega)]
    congr 1
    rw[List.drop_eq_getElem_cons hlt]
    simp only[List.take_succ_cons,List.take_zero]
    congr 1
    exact(List.getElem?_eq_some_iff.1 h).2
@[go_sem] theorem iy (b o:Nat) : aj M (.ptr b o) K=∃ v,M.cell b o=some v∧K v:=by
 apply propext; unfold aj
 constructor
 ·rintro⟨b',o',v,h,hl,hk⟩; cases h; exact⟨v,Kt.1 hl,hk⟩
 ·rintro⟨v,hl,hk⟩; exact⟨b,o,v,rfl,Kt.2 hl,hk⟩
@[go_sem] theorem fK (b o n:Nat) : aF M (.ptr b o) n K=∃ vs,M.loads b o n=some vs∧K (.agg vs):=by
 apply propext; unfold aF
 constructor
 ·rintro⟨b',o',v,h,hl,hk⟩; cases h; exact⟨v,hl,hk⟩
 ·rintro⟨v,hl,hk⟩; exact⟨b,o,v,rfl,hl,hk⟩
@[go_sem] theorem tY (b p:Nat) (x:AV) (n:Nat) (K:RM→Prop) : aG M (.ptr b p) x n K=(x.cells.length=n∧∃ M',M.stores b p x.cells=some M'∧K M'):=by
 apply propext; unfold aG
 constructor
 ·rintro⟨b',o',M',h,h1,h2,hk⟩; cases h; exact⟨h1,M',h2,hk⟩
 ·rintro⟨h1,M',h2,hk⟩; exact⟨b,p,M',rfl,h1,h2,hk⟩
def acx (k:IntKind) (a b:Int) : Int:=k.wrap (BitVec.ofInt k.bits a &&& BitVec.ofInt k.bits b).toNat
def orI (k:IntKind) (a b:Int) : Int:=k.wrap (BitVec.ofInt k.bits a ||| BitVec.ofInt k.bits b).toNat
def Wi (k:IntKind) (a b:Int) : Int:=k.wrap (BitVec.ofInt k.bits a ^^^ BitVec.ofInt k.bits b).toNat
def aeD (k:IntKind) (a b:Int) : Int:=k.wrap (BitVec.ofInt k.bits a &&& ~~~BitVec.ofInt k.bits b).toNat
def Yc (k:IntKind) (a b:Int) : Int:=k.wrap (a * 2 ^ (min b.toNat k.bits))
def Qw (k:IntKind) (a b:Int) : Int:=a.fdiv (2 ^ (min b.toNat k.bits))
section
variable (k:IntKind) (a b:Int)
theorem iw {op:BinOp} {v:Value} (h:xR op k a b=some v) : ae op (N k a) (N k b) K=K (.sc v):=by
 apply propext; unfold ae
 constructor
 ·rintro⟨k',a',b',u,h1,h2,h3,hk⟩; cases h1; cases h2; rw[h] at h3; cases h3; exact hk
 ·intro hk; exact⟨k,a,b,v,rfl,rfl,h,hk⟩
@[go_sem] theorem bY:ae .add (N k a) (N k b) K=K (N k (k.wrap (a + b))):=iw k a b rfl
@[go_sem] theorem iV:ae .sub (N k a) (N k b) K=K (N k (k.wrap (a - b))):=iw k a b rfl
@[go_sem] theorem yw:ae .mul (N k a) (N k b) K=K (N k (k.wrap (a * b))):=iw k a b rfl
@[go_sem] theorem Tk:ae .and (N k a) (N k b) K=K (N k (acx k a b)):=iw k a b rfl
@[go_sem] theorem apl:ae .or (N k a) (N k b) K=K (N k (orI k a b)):=iw k a b rfl
@[go_sem] theorem vB:ae .xor (N k a) (N k b) K=K (N k (Wi k a b)):=iw k a b rfl
@[go_sem] theorem akB:ae .andNot (N k a) (N k b) K=K (N k (aeD k a b)):=iw k a b rfl
@[go_sem] theorem cO:ae .eql (N k a) (N k b) K=K (Bo (a == b)):=iw k a b rfl
@[go_sem] theorem jH:ae .neq (N k a) (N k b) K=K (Bo (a != b)):=iw k a b rfl
@[go_sem] theorem cK:ae .lss (N k a) (N k b) K=K (Bo (decide (a<b))):=iw k a b rfl
@[go_sem] theorem kD:ae .leq (N k a) (N k b) K=K (Bo (decide (a≤b))):=iw k a b rfl
@[go_sem] theorem ic:ae .gtr (N k a) (N k b) K=K (Bo (decide (a > b))):=iw k a b rfl
@[go_sem] theorem ik:ae .geq (N k a) (N k b) K=K (Bo (decide (a ≥ b))):=iw k a b rfl
@[go_sem] theorem nW:ae .quo (N k a) (N k b) K=(b≠0∧K (N k (k.wrap (a.tdiv b)))):=by
 apply propext; unfold ae xR
 constructor
 ·rintro⟨k',a',b',u,h1,h2,h3,hk⟩; cases h1; cases h2
  simp only at h3
  split at h3
  ·cases h3
  ·cases h3; exact⟨‹_›,hk⟩
 ·rintro⟨h0,hk⟩; exact⟨k,a,b,_,rfl,rfl,by simp only[if_neg h0],hk⟩
@[go_sem] theorem anS:ae .rem (N k a) (N k b) K=(b≠0∧K (N k (a.tmod b))):=by
 apply propext; unfold ae xR
 constructor
 ·rintro⟨k',a',b',u,h1,h2,h3,hk⟩; cases h1; cases h2
  simp only at h3
  split at h3
  ·cases h3
  ·cases h3; exact⟨‹_›,hk⟩
 ·rintro⟨h0,hk⟩; exact⟨k,a,b,_,rfl,rfl,by simp only[if_neg h0],hk⟩
variable (l:IntKind)
@[go_sem] theorem BL:Bt .shl (N k a) (N l b) K=(0≤b∧K (N k (Yc k a b))):=by
 apply propext; unfold Bt LB
 constructor
 ·rintro⟨k',a',l',b',u,h1,h2,h3,hk⟩; cases h1; cases h2
  split at h3
  ·cases h3
  ·cases h3; exact⟨by omega,hk⟩
 ·rintro⟨h0,hk⟩; exact⟨k,a,l,b,_,rfl,rfl,by rw[if_neg (by omega)]; rfl,hk⟩
@[go_sem] theorem GK:Bt .shr (N k a) (N l b) K=(0≤b∧K (N k (Qw k a b))):=by
 apply propext; unfold Bt LB
 constructor
 ·rintro⟨k',a',l',b',u,h1,h2,h3,hk⟩; cases h1; cases h2
  split at h3
  ·cases h3
  ·cases h3; exact⟨by omega,hk⟩
 ·rintro⟨h0,hk⟩; exact⟨k,a,l,b,_,rfl,rfl,by rw[if_neg (by omega)]; rfl,hk⟩
@[go_sem] theorem aph {l:IntKind} {a:Int} {K:AV→Prop} : XV (N l a) K=K (St (Utf8.encode a).data.toList):=by
 apply propext; unfold XV
 constructor
 ·rintro⟨l',n,h,hk⟩; cases h; exact hk
 ·intro h; exact⟨_,_,rfl,h⟩
@[go_sem] theorem nU:og k (N l a) K=K (N k (k.wrap a)):=by
 apply propext; unfold og
 constructor
 ·rintro⟨l',n,h,hk⟩; cases h; exact hk
 ·intro hk; exact⟨l,a,rfl,hk⟩
@[go_sem] theorem Zm (mx:Bool) : MN mx (N k a) (N k b) K=K (N k (if mx then(if b > a then b else a) else(if b<a then b else a))):=by
 apply propext; unfold MN
 constructor
 ·rintro⟨k',a',b',h1,h2,hk⟩; cases h1; cases h2; exact hk
 ·intro hk; exact⟨k,a,b,rfl,rfl,hk⟩
@[go_sem] theorem apu:ZZ (N k a) K=K (N k (k.wrap (0 - a))):=by
 apply propext; unfold ZZ
 constructor
 ·rintro⟨k',a',h1,hk⟩; cases h1; exact hk
 ·intro hk; exact⟨k,a,rfl,hk⟩
end
@[go_sem] theorem bK (b:Bool) : dQ (Bo b) K=K (Bo (!b)):=by
 apply propext; unfold dQ
 constructor
 ·rintro⟨b',h,hk⟩; cases h; exact hk
 ·intro hk; exact⟨b,rfl,hk⟩
@[go_sem] theorem ame (neg a b:Bool) : GX neg (Bo a) (Bo b) K=K (Bo ((a == b) != neg)):=by
 apply propext; unfold GX
 constructor
 ·rintro⟨a',b',h,h',hk⟩; cases h; cases h'; exact hk
 ·intro hk; exact⟨a,b,rfl,rfl,hk⟩
@[go_sem] theorem Rk (t:Bool) (a b:AV) : aK (Bo t) a b K=K (if t then a else b):=by
 apply propext; unfold aK
 constructor
 ·rintro⟨t',h,hk⟩; cases h; exact hk
 ·intro hk; exact⟨t,rfl,hk⟩
@[go_sem] theorem Qz (b:Bool) (p q:Prop) : ay (Bo b) p q=((b=true→p)∧(b=false→q)):=rfl
@[go_sem] theorem amY {α:Type} (b want:Bool) (f g:α→Prop) (k:α) : mO (Bo b) want f g k=if b=want then f k else g k:=rfl
@[go_sem] theorem ahW {α:Type} (want:Bool) (f g:α→Prop) (k:α) : mO .undef want f g k=g k:=rfl
@[go_sem] theorem aM (b o:Nat) : bV (.ptr b o) K=K (.ptr b o):=by
 apply propext; unfold bV
 constructor
 ·rintro⟨b',o',h,hk⟩; cases h; exact hk
 ·intro hk; exact⟨b,o,rfl,hk⟩
@[go_sem] theorem aX (b o n:Nat) : aI (.ptr b o) n K=K (.ptr b (o + n)):=by
 apply propext; unfold aI
 constructor
 ·rintro⟨b',o',h,hk⟩; cases h; exact hk
 ·intro hk; exact⟨b,o,rfl,hk⟩
@[go_sem] theorem lS (b p len:Nat) (cap:Cap) (k:IntKind) (n:Int) (size:Nat) : ax (.slc b p len cap) (N k n) size K=(0≤n∧n<len∧K (.ptr b (p + n.toNat * size))):=by
 apply propext; unfold ax
 constructor
 ·rintro⟨b',p',l',c',k',n',h,h',h0,h1,hk⟩; cases h; cases h'; exact⟨h0,h1,hk⟩
 ·rintro⟨h0,h1,hk⟩; exact⟨b,p,len,cap,k,n,rfl,rfl,h0,h1,hk⟩
@[go_sem] theorem yI (b p:Nat) (k:IntKind) (n:Int) (len size:Nat) : FN (.ptr b p) (N k n) len size K=(0≤n∧n<len∧K (.ptr b (p + n.toNat * size))):=by
 apply propext; unfold FN
 constructor
 ·rintro⟨b',p',k',n',h,h',h0,h1,hk⟩; cases h; cases h'; exact⟨h0,h1,hk⟩
 ·rintro⟨h0,h1,hk⟩; exact⟨b,p,k,n,rfl,rfl,h0,h1,hk⟩
@[go_sem] theorem amU (cs:List AV) (off:Nat) : Xd (.agg cs) off K=∃ v,cs[off]?=some v∧K v:=by
 apply propext; unfold Xd
 constructor
 ·rintro⟨cs',v,h,h1,hk⟩; cases h; exact⟨v,h1,hk⟩
 ·rintro⟨v,h1,hk⟩; exact⟨cs,v,rfl,h1,hk⟩
@[go_sem] theorem amK (cs:List AV) (off n:Nat) : VF (.agg cs) off n K=(off + n≤cs.length∧K (.agg ((cs.drop off).take n))):=by
 apply propext; unfold VF
 constructor
 ·rintro⟨cs',h,h1,hk⟩; cases h; exact⟨h1,hk⟩
 ·rintro⟨h1,hk⟩; exact⟨cs,rfl,h1,hk⟩
@[go_sem] theorem amS (cs:List AV) (k:IntKind) (n:Int) (len:Nat) : XO (.agg cs) (N k n) len K=(0≤n∧n<len∧∃ v,cs[n.toNat]?=some v∧K v):=by
 apply propext; unfold XO
 constructor
 ·rintro⟨cs',k',n',v,h,h',h0,h1,h2,hk⟩; cases h; cases h'; exact⟨h0,h1,v,h2,hk⟩
 ·rintro⟨h0,h1,v,h2,hk⟩; exact⟨cs,k,n,v,rfl,rfl,h0,h1,h2,hk⟩
@[go_sem] theorem ZM (cs:List AV) (k:IntKind) (n:Int) (len size:Nat) : Pk (.agg cs) (N k n) len size K=(0≤n∧n<len∧n.toNat * size + size≤cs.length∧K (.agg ((cs.drop (n.toNat * size)).take size))):=by
 apply propext; unfold Pk
 constructor
 ·rintro⟨cs',k',n',h,h',h0,h1,h2,hk⟩; cases h; cases h'; exact⟨h0,h1,h2,hk⟩
 ·rintro⟨h0,h1,h2,hk⟩; exact⟨cs,k,n,rfl,rfl,h0,h1,h2,hk⟩
@[go_sem] theorem aeQ (s:List UInt8) (k:IntKind) (n:Int) : Rp (St s) (N k n) K=(0≤n∧∃ b,s[n.toNat]?=some b∧K (N .u8 b.toNat)):=by
 apply propext; unfold Rp
 constructor
 ·rintro⟨s',k',n',b,h,h',h0,h1,hk⟩; cases h; cases h'; exact⟨h0,b,h1,hk⟩
 ·rintro⟨h0,b,h1,hk⟩; exact⟨s,k,n,b,rfl,rfl,h0,h1,hk⟩
@[go_sem] theorem Rl (vs:List AV) (i:Nat) : gu (.tup vs) i K=∃ v,vs[i]?=some v∧K v:=by
 apply propext; unfold gu
 constructor
 ·rintro⟨cs',v,h,h1,hk⟩; cases h; exact⟨v,h1,hk⟩
 ·rintro⟨v,h1,hk⟩; exact⟨vs,v,rfl,h1,hk⟩
@[go_sem] theorem dF (v:AV) : iK (some v) K=K v:=by
 apply propext; unfold iK
 constructor
 ·rintro⟨v',h,hk⟩; cases h; exact hk
 ·intro hk; exact⟨v,rfl,hk⟩
@[go_sem] theorem jJ (b o n:Nat) (c:Cap) : bH (.slc b o n c) K=K (N .i64 n):=by
 apply propext; unfold bH
 constructor
 ·rintro⟨n',h,hk⟩; cases h; exact hk
 ·intro hk; exact⟨n,rfl,hk⟩
@[go_sem] theorem abb (b:Nat) : bH (.emp b) K=K (N .i64 0):=by
 apply propext; unfold bH
 constructor
 ·rintro⟨n',h,hk⟩; cases h; exact hk
 ·intro hk; exact⟨0,rfl,hk⟩
@[go_sem] theorem Jd:bH (.sc (.slice none 0 0)) K=K (N .i64 0):=by
 apply propext; unfold bH
 constructor
 ·rintro⟨n',h,hk⟩; cases h; exact hk
 ·intro hk; exact⟨0,rfl,hk⟩
@[go_sem] theorem jW (s:List UInt8) : mg (St s) K=K (N .i64 s.length):=by
 apply propext; unfold mg
 constructor
 ·rintro⟨s',h,hk⟩; cases h; exact hk
 ·intro hk; exact⟨s,rfl,hk⟩
@[go_sem] theorem ad6 (b o n c:Nat) : A8 (.slc b o n (.ex c)) K=K (N .i64 c):=by
 apply propext; unfold A8
 constructor
 ·rintro⟨n',h,hk⟩; cases h; exact hk
 ·intro hk; exact⟨c,rfl,hk⟩
@[go_sem] theorem aoY:A8 (.sc (.slice none 0 0)) K=K (N .i64 0):=by
 apply propext; unfold A8
 constructor
 ·rintro⟨n',h,hk⟩; cases h; exact hk
 ·intro hk; exact⟨0,rfl,hk⟩
@[go_sem] theorem apd (s:List UInt8) : isStr (St s) K=K (St s):=by
 apply propext; unfold isStr
 constructor
 ·rintro⟨s',h,hk⟩; cases h; exact hk
 ·intro hk; exact⟨s,rfl,hk⟩
@[go_sem] theorem TJ {x:AV} {s:List UInt8} (h:DJ M x=some s) : BV M x K=K (St s):=by
 apply propext; unfold BV
 constructor
 ·rintro⟨s',h',hk⟩; rw[h] at h'; cases h'; exact hk
 ·intro hk; exact⟨s,h,hk⟩
theorem su {op:BinOp} {a b:List UInt8} {v:AV} (h:Dh op a b=some v) : iJ op (St a) (St b) K=K v:=by
 apply propext; unfold iJ
 constructor
 ·rintro⟨a',b',u,h1,h2,h3,hk⟩; cases h1; cases h2; rw[h] at h3; cases h3; exact hk
 ·intro hk; exact⟨a,b,v,rfl,rfl,h,hk⟩
@[go_sem] theorem DR (a b:List UInt8) : iJ .eql (St a) (St b) K=K (Bo (a == b)):=by rw[← jb]; exact su rfl
@[go_sem] theorem mU (a b:List UInt8) : iJ .neq (St a) (St b) K=K (Bo (a != b)):=by rw[bne,← jb]; exact su rfl
@[go_sem] theorem Js (a b:List UInt8) : iJ .lss (St a) (St b) K=K (Bo (Op.bytesLess a b)):=su rfl
@[go_sem] theorem anR (a b:List UInt8) : iJ .leq (St a) (St b) K=K (Bo (Op.bytesLess a b || a == b)):=by rw[← jb]; exact su rfl
@[go_sem] theorem acu (a b:List UInt8) : iJ .gtr (St a) (St b) K=K (Bo (!(Op.bytesLess a b || a == b))):=by rw[← jb]; exact su rfl
@[go_sem] theorem aoJ (a b:List UInt8) : iJ .geq (St a) (St b) K=K (Bo (!Op.bytesLess a b)):=su rfl
@[go_sem] theorem aoa (a b:List UInt8) : iJ .add (St a) (St b) K=(a.length + b.length≤9223372036854775807∧K (St (a++b))):=by
 apply propext; unfold iJ
 constructor
 ·rintro⟨a',b',u,h1,h2,h3,hk⟩; cases h1; cases h2
  simp only[Dh] at h3
  split at h3
  ·rename_i hb; cases h3; exact⟨aZ hb,hk⟩
  ·cases h3
 ·rintro⟨h0,hk⟩; exact⟨a,b,_,rfl,rfl,by simp only[Dh,aY.2 h0],hk⟩
theorem lY {neg:Bool} {tag:Nat} {x y:AV} {r:Bool} (ht:Pb x=tag) (h:Gy x y=some r) : jq neg tag x y K=K (Bo (r != neg)):=by
 apply propext; unfold jq
 constructor
 ·rintro⟨_,r',h',hk⟩; rw[h] at h'; cases h'; exact hk
 ·intro hk; exact⟨ht,r,h,hk⟩
@[go_sem] theorem MU (neg:Bool) : jq neg 2 (.sc (.slice none 0 0)) (.sc (.slice none 0 0)) K=K (Bo (!neg)):=(lY (tag:=2) (r:=true) rfl rfl).trans (by cases neg <;> rfl)
@[go_sem] theorem L6 (neg:Bool) (b:Nat) : jq neg 2 (.emp b) (.sc (.slice none 0 0)) K=K (Bo neg):=(lY (tag:=2) (r:=false) rfl rfl).trans (by cases neg <;> rfl)
@[go_sem] theorem LV (neg:Bool) (b o n:Nat) (c:Cap) : jq neg 2 (.slc b o n c) (.sc (.slice none 0 0)) K=K (Bo neg):=(lY (tag:=2) (r:=false) rfl rfl).trans (by cases neg <;> rfl)
@[go_sem] theorem Nh (neg:Bool) (b o:Nat) : jq neg 1 (.ptr b o) (.sc (.pointer none)) K=K (Bo neg):=(lY (tag:=1) (r:=false) rfl rfl).trans (by cases neg <;> rfl)
@[go_sem] theorem ac1 (neg:Bool) : jq neg 1 (.sc (.pointer none)) (.sc (.pointer none)) K=K (Bo (!neg)):=(lY (tag:=1) (r:=true) rfl rfl).trans (by cases neg <;> rfl)
@[go_sem] theorem aeV (neg:Bool) (b:Nat) : jq neg 3 (.map b) (.sc (.map none)) K=K (Bo neg):=(lY (tag:=3) (r:=false) rfl rfl).trans (by cases neg <;> rfl)
@[go_sem] theorem afd (neg:Bool) (f:Fn) (xs ys:List AV) : jq neg 4 (.fn f xs ys) (.sc .nilFunc) K=K (Bo neg):=(lY (tag:=4) (r:=false) rfl rfl).trans (by cases neg <;> rfl)
@[go_sem] theorem Wl (neg:Bool) (ks:List Nat) (cs ds:List AV) : nI neg ks (.agg cs) (.agg ds) K=(cs.length=ks.length∧ds.length=ks.length∧∃ r,df ks cs ds=some r∧K (Bo (r != neg))):=by
 apply propext; unfold nI
 constructor
 ·rintro⟨a',b',r,h1,h2,h3,h4,h5,hk⟩; cases h1; cases h2; exact⟨h3,h4,r,h5,hk⟩
 ·rintro⟨h3,h4,r,h5,hk⟩; exact⟨cs,ds,r,rfl,rfl,h3,h4,h5,hk⟩
@[go_sem] theorem aoz (C:FuncId→au) (g:FuncId) (first cap args:List AV) : eG C (.fn (.func g) first cap) args M KQ=C g (first++args++cap) M KQ:=by
 apply propext; unfold eG
 constructor
 ·rintro⟨g',f',c',h,hk⟩; cases h; exact hk
 ·intro hk; exact⟨g,first,cap,rfl,hk⟩
@[go_sem] theorem rU (cs:List AV) (parts:List (Nat × Nat × AV)) : tN cs parts K=∃ cs',zP cs parts=some cs'∧K (.agg cs'):=rfl
@[go_sem] theorem bz (x:RB) (mk:Nat→AV) : bP x mk M KQ=KQ (mk M.next) (M.push x):=rfl
@[go_sem] theorem rT (x:RB) (mk:Nat→AV) (k:KR) : Bg x mk M k=k (mk M.next) (M.push x) (some M.next):=rfl
@[go_sem] theorem uX (f:(List AV→RM→Prop)→Prop) (g:List AV→RM→Prop) : cz f g=f g:=rfl
@[go_sem] theorem am7 (x:AV) (xs:List AV) : aa (x :: xs) 0=x:=rfl
@[go_sem] theorem amZ (x:AV) (xs:List AV) (n:Nat) : aa (x :: xs) (n + 1)=aa xs n:=rfl
@[go_sem] theorem WI (b:Nat) (x:RB) (mk:Nat→AV) (v:AV) : GD (some b) M x mk v=(M.heap b=some x∧mk b=v):=rfl
end
section
variable {M M' : RM}
theorem RM.z8 {b:Nat} {l:List AV} {opn:Bool} {el fz:Nat} (h:M.heap b=some (.row l opn el fz)) : M.cells b=some l:=by simp[RM.cells,h]
theorem RM.aa5 {b o:Nat} {l:List AV} {opn:Bool} {el fz:Nat} (h:M.heap b=some (.row l opn el fz)) : M.cell b o=l[o]?:=by simp[RM.cell,RM.z8 h]
theorem RM.bW {b o k:Nat} {l:List AV} {opn:Bool} {el fz:Nat} (h:M.heap b=some (.row l opn el fz)) (hk:o + k≤l.length) : M.loads b o k=some ((l.drop o).take k):=by
 simp[RM.loads,RM.z8 h,hk]
theorem RM.xc {b o:Nat} {l vs:List AV} {opn:Bool} {el fz:Nat} (h:M.heap b=some (.row l opn el fz)) (h1:o + vs.length≤l.length) (h2:fz≤o) (h3:vs.all oneCell=true) :
  M.stores b o vs=some (M.put b (.row (l.take o++vs++l.drop (o + vs.length)) opn el fz)):=by
 simp only[RM.stores,h]
 rw[if_pos ⟨h1,h2,h3⟩]
structure ag (bs:List Nat) (M M' : RM) : Prop where
 base:M'.base=M.base
 next:M.next≤M'.next
 heap:∀ c,c<M.next→c ∉ bs→M'.heap c=M.heap c
theorem ag.refl (bs:List Nat) (M:RM) : ag bs M M:=⟨rfl,Nat.le_refl _,fun _ _ _=>rfl⟩
theorem ag.trans {bs:List Nat} {M1 M2:RM} (h:ag bs M M1) (k:ag bs M1 M2) : ag bs M M2 :=
 ⟨k.base.trans h.base,Nat.le_trans h.next k.next,fun c hc hb=>(k.heap c (Nat.lt_of_lt_of_le hc h.next) hb).trans (h.heap c hc hb)⟩
theorem ag.push {bs:List Nat} (h:ag bs M M') (x:RB) : ag bs M (M'.push x) :=
 ⟨h.base,Nat.le_succ_of_le h.next,fun c hc hb=>by
  have:=h.next
  simp only[RM.push]; rw[if_neg (by omega)]; exact h.heap c hc hb⟩
theorem ag.put {bs:List Nat} (h:ag bs M M') {b:Nat} (x:RB) (hb:M.next≤b∨b∈bs) : ag bs M (M'.put b x) :=
 ⟨h.base,h.next,fun c hc hcb=>by
  simp only[RM.put]; rw[if_neg]
  ·exact h.heap c hc hcb
  ·rintro rfl; rcases hb with hb | hb
   ·omega
   ·exact hcb hb⟩
theorem ag.del {bs:List Nat} (h:ag bs M M') {b:Nat} (hb:M.next≤b∨b∈bs) : ag bs M (M'.del b) :=
 ⟨h.base,h.next,fun c hc hcb=>by
  simp only[RM.del]; rw[if_neg]
  ·exact h.heap c hc hcb
  ·rintro rfl; rcases hb with hb | hb
   ·omega
   ·exact hcb hb⟩
theorem ag.mono {bs cs:List Nat} (h:ag bs M M') (hs:∀ b∈bs,b∈cs) : ag cs M M':=⟨h.base,h.next,fun c hc hb=>h.heap c hc fun h=>hb (hs c h)⟩
theorem ag.dU {bs:List Nat} {M1 M2:RM} {cs:List Nat} (h:ag bs M M1) (k:ag cs M1 M2) (hn:∀ c∈cs,M.next≤c∨c∈bs) : ag bs M M2 :=
 ⟨k.base.trans h.base,Nat.le_trans h.next k.next,fun c hc hb=>by
  rw[k.heap c (Nat.lt_of_lt_of_le hc h.next) (fun hm=>by rcases hn c hm with h1 | h1; omega; exact hb h1),h.heap c hc hb]⟩
theorem ag.cells {bs:List Nat} (h:ag bs M M') {b:Nat} (hlt:b<M.next) (hb:b ∉ bs) : M'.cells b=M.cells b:=by
 simp only[RM.cells,h.heap b hlt hb,RM.lo,h.base]
theorem ag.cell {bs:List Nat} (h:ag bs M M') {b o:Nat} (hlt:b<M.next) (hb:b ∉ bs) : M'.cell b o=M.cell b o:=by
 simp only[RM.cell,h.cells hlt hb]
theorem ag.loads {bs:List Nat} (h:ag bs M M') {b o k:Nat} (hlt:b<M.next) (hb:b ∉ bs) : M'.loads b o k=M.loads b o k:=by
 simp only[RM.loads,h.cells hlt hb]
@[go_sem] theorem RM.amG (x:RB) : (M.push x).next=M.next + 1:=rfl
@[go_sem] theorem RM.anl (b:Nat) (x:RB) : (M.put b x).next=M.next:=rfl
@[go_sem] theorem RM.anL (b:Nat) : (M.del b).next=M.next:=rfl
@[go_sem] theorem RM.aT (x:RB) : (M.push x).heap M.next=some x:=by simp[RM.push]
theorem RM.acd {x:RB} {c:Nat} (h:c≠M.next) : (M.push x).heap c=M.heap c:=by simp[RM.push,h]
@[go_sem] theorem RM.qY (b:Nat) (x:RB) : (M.put b x).heap b=some x:=by simp[RM.put]
end
abbrev bO:AV:=.sc (.slice none 0 0)
inductive aL (M:RM) (size:Nat) : AV→List AV→Nat→Prop
 | nil:aL M size bO [] 0
 | emp (b:Nat) : aL M size (.emp b) [] 0
 | slc (b o n:Nat) (cap:Cap) (cs:List AV) : b<M.next→M.loads b o (n * size)=some cs→aL M size (.slc b o n cap) cs n
section
variable {M M' : RM} {size:Nat} {v:AV} {cs:List AV} {n:Nat}
theorem ET {b o k:Nat} {cs:List AV} (h:M.loads b o k=some cs) : cs.length=k:=by
 unfold RM.loads at h
 split at h <;> first | (cases h; done) | skip
 split at h <;> first | (cases h; done) | skip
 rename_i hle
 have:=Option.some.inj h
 rw[← this,List.length_take,List.length_drop]; omega
theorem Y1 {b o k:Nat} {cs:List AV} (h:M.loads b o k=some cs) (i:Nat) (hi:i<k) : M.cell b (o + i)=cs[i]?:=by
 unfold RM.loads at h
 unfold RM.cell
 split at h <;> first | (cases h; done) | skip
 rename_i l hl
 split at h <;> first | (cases h; done) | skip
 cases h
 simp only[hl,Option.bind_some]
 rw[List.getElem?_take,if_pos hi,List.getElem?_drop]
theorem wC {b o k:Nat} {cs:List AV} (h:M.loads b o k=some cs) (i j:Nat) (hij:i + j≤k) : M.loads b (o + i) j=some ((cs.drop i).take j):=by
 unfold RM.loads at h ⊢
 cases hl:M.cells b with
 | none=>rw[hl] at h; cases h
 | some l =>
   rw[hl] at h
   simp only at h ⊢
   split at h
   ·rename_i hle
    have h:=Option.some.inj h
    subst h
    rw[if_pos (by omega),List.drop_take,List.drop_drop,List.take_take]
    congr 2
    omega
   ·cases h
theorem LG {b o:Nat} {l:List AV} (h:M.cells b=some l) (ho:o≤l.length) : M.loads b o 0=some []:=by
 simp[RM.loads,h,ho]
theorem aL.length (h:aL M size v cs n) : cs.length=n * size:=by
 cases h with
 | nil=>exact(Nat.zero_mul _).symm
 | emp=>exact(Nat.zero_mul _).symm
 | slc b o n cap cs hb0 hl=>exact ET hl
theorem aL.len (h:aL M size v cs n) {K:AV→Prop} : bH v K=K (N .i64 n):=by
 cases h with
 | nil=>exact Jd
 | emp b=>exact abb b
 | slc b o n cap cs hb0 hl=>exact jJ b o n cap
theorem aL.mJ (h:aL M size v cs n) (zs:List AV) : mJ M size zs false v=some (n,cs):=by
 cases h with
 | nil=>rfl
 | emp b=>rfl
 | slc b o n cap cs hb0 hl=>simp only[Go.Ab.mJ,hl]
theorem aL.pos (h:aL M size v cs n) (hn:0<n) : ∃ b o cap,v=.slc b o n cap∧b<M.next∧M.loads b o (n * size)=some cs:=by
 cases h with
 | nil=>omega
 | emp b=>omega
 | slc b o n cap cs hb0 hl=>exact⟨b,o,cap,rfl,hb0,hl⟩
theorem aL.DJ (h:aL M 1 v cs n) {l:List UInt8} (hb:dB byteOf cs=some l) : DJ M v=some l:=by
 cases h with
 | nil=>simp[dB] at hb; subst hb; rfl
 | emp b=>simp[dB] at hb; subst hb; rfl
 | slc b o n cap cs hb0 hl =>
   rw[Nat.mul_one] at hl
   simp only[Go.Ab.DJ,hl]; exact hb
def aD:AV→List Nat
 | .slc b _ _ _=>[b]
 | _=>[]
theorem aL.keep {bs:List Nat} (h:aL M size v cs n) (hk:ag bs M M') (hb:∀ b∈aD v,b ∉ bs) : aL M' size v cs n:=by
 cases h with
 | nil=>exact .nil
 | emp b=>exact .emp b
 | slc b o n cap cs hb0 hl =>
   exact .slc b o n cap cs (Nat.lt_of_lt_of_le hb0 hk.next) (by rw[hk.loads hb0 (hb b (by simp[aD]))]; exact hl)
inductive Own (M:RM) (base el size:Nat) : AV→List AV→Nat→Prop
 | nil:Own M base el size bO [] 0
 | ex0 (b o:Nat) : base≤b→b<M.next→(∃ l,M.cells b=some l∧o≤l.length)→Own M base el size (.slc b o 0 (.ex 0)) [] 0
 | op (b n:Nat) (cs:List AV) : base≤b→b<M.next→M.heap b=some (.row cs true el 0)→cs.length=n * size→Own M base el size (.slc b 0 n (.op size)) cs n
theorem Own.kU {base el:Nat} (h:Own M base el size v cs n) : aL M size v cs n:=by
 cases h with
 | nil=>exact .nil
 | ex0 b o hb hlt hc =>
   obtain⟨l,hl,ho⟩:=hc
   exact .slc b o 0 _ [] hlt (by rw[Nat.zero_mul]; exact LG hl ho)
 | op b n cs hb hlt hh hl =>
   refine .slc b 0 n _ cs hlt ?_
   rw[RM.bW hh (by omega)]
   simp[← hl]
theorem Own.blk {base el:Nat} (h:Own M base el size v cs n) : ∀ b∈aD v,base≤b∧b<M.next:=by
 cases h with
 | nil=>intro b hb; simp[aD] at hb
 | ex0 b o hb hlt hc=>intro c hc; simp[aD] at hc; subst hc; exact⟨hb,hlt⟩
 | op b n cs hb hlt hh hl=>intro c hc; simp[aD] at hc; subst hc; exact⟨hb,hlt⟩
theorem Own.keep {base el:Nat} {bs:List Nat} (h:Own M base el size v cs n) (hk:ag bs M M') (hb:∀ b∈aD v,b ∉ bs) : Own M' base el size v cs n:=by
 cases h with
 | nil=>exact .nil
 | ex0 b o h1 hlt hc=>exact .ex0 b o h1 (Nat.lt_of_lt_of_le hlt hk.next) (by rw[hk.cells hlt (hb b (by simp[aD]))]; exact hc)
 | op b n cs h1 hlt hh hl=>exact .op b n cs h1 (Nat.lt_of_lt_of_le hlt hk.next) (by rw[hk.heap b hlt (hb b (by simp[aD]))]; exact hh) hl
theorem Own.mono {base base' el:Nat} (h:Own M base el size v cs n) (hb:base'≤base) : Own M base' el size v cs n:=by
 cases h with
 | nil=>exact .nil
 | ex0 b o h1 hlt hc=>exact .ex0 b o (Nat.le_trans hb h1) hlt hc
 | op b n cs h1 hlt hh hl=>exact .op b n cs (Nat.le_trans hb h1) hlt hh hl
theorem xM {base el bytes:Nat} {zs:List AV} {zeros:Bool} {x:AV} {m:Nat} {ds:List AV} {K:ai} (h:Own M base el size v cs n) (hbase:base≤M.next) (hs:1≤size) (hx:mJ M size zs zeros x=some (m,ds)) (hd:ds.length=m * size)
  (h1:ds.all oneCell=true) (hb:(n + m) * bytes≤140737488355328) (hb2:n + m≤140737488355328)
  (hK:∀ v' M',Own M' base el size v' (cs++ds) (n + m)→ag (aD v) M M'→M.next≤M'.next→(v'=v∨∀ b∈aD v',M.next≤b)→K v' M') : appW el size bytes zs zeros v x M K:=by
 have hmb:m * bytes≤140737488355328:=Nat.le_trans (Nat.mul_le_mul_right _ (by omega)) hb
 refine⟨m,ds,hx,hmb,by omega, ?_⟩
 cases h with
 | nil =>
   by_cases hm:m=0
   ·subst hm
    have:ds=[]:=List.eq_nil_of_length_eq_zero (by simpa using hd)
    subst this
    exact⟨bO,M,by simp[qZ],hK _ _ .nil (ag.refl _ _) (Nat.le_refl _) (.inl rfl)⟩
   ·refine⟨.slc M.next 0 m (.op size),M.push (.row ds true el 0),by simp only[qZ,if_neg hm,h1,if_true],hK _ _ ?_ ((ag.refl _ _).push _) (by simp[RM.push]) (.inr fun b hb=>by simp[aD] at hb; omega)⟩
    simp only[List.nil_append,Nat.zero_add]
    exact .op _ _ _ hbase (by simp[RM.push]) (RM.aT _) hd
 | ex0 b o hb0 hlt hc =>
   obtain⟨l,hl,ho⟩:=hc
   by_cases hm:m=0
   ·subst hm
    have:ds=[]:=List.eq_nil_of_length_eq_zero (by simpa using hd)
    subst this
    exact⟨_,M,by simp[qZ],hK _ _ (.ex0 b o hb0 hlt ⟨l,hl,ho⟩) (ag.refl _ _) (Nat.le_refl _) (.inl rfl)⟩
   ·refine⟨.slc M.next 0 m (.op size),M.push (.row ds true el 0), ?_,hK _ _ ?_ ((ag.refl _ _).push _) (by simp[RM.push]) (.inr fun b hb=>by simp[aD] at hb; omega)⟩
    ·have hl0:M.loads b o (0 * size)=some []:=by rw[Nat.zero_mul]; exact LG hl ho
     simp only[qZ,if_neg hm]
     rw[if_neg (by omega),hl0]
     simp only[Nat.zero_add,List.nil_append]
     rw[if_pos ⟨hmb,by omega,h1⟩]
    ·simp only[List.nil_append,Nat.zero_add]
     exact .op _ _ _ hbase (by simp[RM.push]) (RM.aT _) hd
 | op b n cs hb0 hlt hh hl =>
   by_cases hm:m=0
   ·subst hm
    have:ds=[]:=List.eq_nil_of_length_eq_zero (by simpa using hd)
    subst this
    exact⟨_,M,by simp[qZ],hK _ _ (by simpa using .op b n cs hb0 hlt hh hl) (ag.refl _ _) (Nat.le_refl _) (.inl rfl)⟩
   ·have hpos:1≤m * size:=Nat.mul_pos (by omega) hs
    have hsum:(n + m) * size=n * size + m * size:=Nat.add_mul _ _ _
    refine⟨.slc M.next 0 (n + m) (.op size),(M.del b).push (.row (cs++ds) true el 0), ?_,hK _ _ ?_ (((ag.refl _ _).del (.inr (by simp[aD]))).push _) (by simp[RM.push,RM.del]) (.inr fun b hb=>by simp[aD] at hb; omega)⟩
    ·simp only[qZ,if_neg hm,hh,and_self,if_true]
     rw[if_neg (by omega),if_pos ⟨trivial,hb,hb2,trivial,hl,Nat.zero_le _,h1⟩]
    ·exact .op _ _ _ (show base≤M.next from hbase) (by simp[RM.push,RM.del]) (by simp[RM.push,RM.del]) (by rw[List.length_append,hl,hd,hsum])
theorem aL.Gy (h:aL M size v cs n) (neg:Bool) : (v=bO∧∀ K:AV→Prop,jq neg 2 v bO K=K (Bo (!neg)))∨(v≠bO∧∀ K:AV→Prop,jq neg 2 v bO K=K (Bo neg)):=by
 cases h with
 | nil=>exact .inl ⟨rfl,fun _=>MU neg⟩
 | emp b=>exact .inr ⟨by(intro h; cases h),fun _=>L6 neg b⟩
 | slc b o n cap cs hb0 hl=>exact .inr ⟨by(intro h; cases h),fun _=>LV neg b o n cap⟩
theorem Own.lit {base el T:Nat} (M:RM) (h:base≤M.next) : Own (M.push (.row [] false T 0)) base el size (.slc M.next 0 0 (.ex 0)) [] 0 :=
 .ex0 _ _ h (by simp[RM.push]) ⟨[],by simp[RM.cells,RM.push],Nat.le_refl _⟩
end
end Go.Ab
set_option maxRecDepth 4000
namespace Go.Ab
open Go
theorem wrap_u8 (n:Nat) : IntKind.wrap .u8 (n:Int)=((n % 256:Nat) : Int):=by
 simp only[IntKind.wrap,IntKind.bits,IntKind.signed,IntKind.max,IntKind.min]
 simp
theorem wrap_u64 (n:Nat) : IntKind.wrap .u64 (n:Int)=((n % 18446744073709551616:Nat) : Int):=by
 simp only[IntKind.wrap,IntKind.bits,IntKind.signed,IntKind.max,IntKind.min]
 simp
theorem xu {n:Int} (h0:0≤n) (h:n<256) : IntKind.wrap .u8 n=n:=by
 obtain⟨m,rfl⟩:=Int.eq_ofNat_of_zero_le h0
 rw[wrap_u8,Nat.mod_eq_of_lt (by omega)]
theorem lK {n:Int} (h0:0≤n) (h:n<18446744073709551616) : IntKind.wrap .u64 n=n:=by
 obtain⟨m,rfl⟩:=Int.eq_ofNat_of_zero_le h0
 rw[wrap_u64,Nat.mod_eq_of_lt (by omega)]
theorem bi {n:Int} (h0 : -9223372036854775808≤n) (h:n<9223372036854775808) : IntKind.wrap .i64 n=n:=by
 rw[IntKind.wrap_i64]; omega
theorem aej (k:Nat) (a b:Nat) : (BitVec.ofInt k (a:Int) &&& BitVec.ofInt k (b:Int)).toNat=(a &&& b) % 2 ^ k:=by
 rw[BitVec.toNat_and,BitVec.ofInt_natCast,BitVec.ofInt_natCast,BitVec.toNat_ofNat,BitVec.toNat_ofNat,← Nat.and_mod_two_pow]
theorem aeT (k:Nat) (a b:Nat) : (BitVec.ofInt k (a:Int) ^^^ BitVec.ofInt k (b:Int)).toNat=(a ^^^ b) % 2 ^ k:=by
 rw[BitVec.toNat_xor,BitVec.ofInt_natCast,BitVec.ofInt_natCast,BitVec.toNat_ofNat,BitVec.toNat_ofNat,← Nat.xor_mod_two_pow]
theorem ZU (a b:Nat) : ((a:Int).fdiv (b:Int))=((a / b:Nat) : Int):=by
 rw[Int.fdiv_eq_ediv_of_nonneg _ (by omega)]; rfl
def zu:IntKind→Nat
 | .u8=>8 | .u16=>16 | .u32=>32 | _=>64
def Dz:IntKind→Bool
 | .u8 | .u16 | .u32 | .u64=>true
 | _=>false
theorem IL {k:IntKind} (h:Dz k=true) (n:Nat) : k.wrap (n:Int)=((n % 2 ^ zu k:Nat) : Int):=by
 cases k <;> simp[Dz] at h <;> (simp only[IntKind.wrap,IntKind.bits,IntKind.signed,zu]; simp)
theorem Tc (k:IntKind) (h:Dz k=true) : k.bits=zu k:=by cases k <;> simp[Dz] at h <;> rfl
theorem Qg {k:IntKind} (h:Dz k=true) (a b:Nat) : acx k a b=(((a &&& b) % 2 ^ zu k:Nat) : Int):=by
 unfold acx
 rw[aej,IL h,Tc k h,Nat.mod_mod]
theorem aaz {k:IntKind} (h:Dz k=true) (a b:Nat) : Wi k a b=(((a ^^^ b) % 2 ^ zu k:Nat) : Int):=by
 unfold Wi
 rw[aeT,IL h,Tc k h,Nat.mod_mod]
theorem JA (k:IntKind) (a b:Nat) (hb:b≤k.bits) : Qw k a b=((a / 2 ^ b:Nat) : Int):=by
 unfold Qw
 rw[Int.toNat_natCast,Nat.min_eq_left hb,← ZU,Int.natCast_pow]; rfl
theorem Qm {k:IntKind} (h:Dz k=true) (a b:Nat) (hb:b≤k.bits) : Yc k a b=((a * 2 ^ b % 2 ^ zu k:Nat) : Int):=by
 unfold Yc
 rw[Int.toNat_natCast,Nat.min_eq_left hb,← IL h,Int.natCast_mul,Int.natCast_pow]
 rfl
theorem Kb (n:Nat) : (UInt8.ofNat n).toNat=n % 256:=by simp
end Go.Ab
namespace Go.Ab.aB
open Go Go.Ab
theorem OB {T size bytes:Nat} {zs:List AV} {M0:RM} {a0:AV} {cs:List AV} {n:Nat} (h:aL M0 size a0 cs n) (h1:cs.all oneCell=true) (hs:1≤size) (hn:n * bytes≤140737488355328) (hn2:n≤140737488355328) {Q:ai}
  (hQ:∀ v M',Own M' M0.next T size v cs n→ag [] M0 M'→Q v M') :
  jq false 2 a0 bO fun t4=>ay t4 (Q bO M0) (fw T 0 zs [] fun r f=>bP r f M0 fun t5 M=>appW T size bytes zs false t5 a0 M fun t7 M_0=>Q t7 M_0):=by
 rcases h.Gy false with⟨rfl,e⟩ | ⟨hne,e⟩
 ·rw[e]
  cases h
  exact⟨fun _=>hQ _ _ .nil (ag.refl _ _),fun h=>by simp at h⟩
 ·rw[e]
  refine⟨fun h=>by simp at h,fun _=>⟨[],rfl, ?_⟩⟩
  have hk:ag [] M0 (M0.push (.row [] false T 0)):=(ag.refl _ _).push _
  refine xM (base:=M0.next) (Own.lit M0 (Nat.le_refl _)) (by simp[RM.push]) hs ((h.keep hk (by simp)).mJ _) h.length h1 (by rw[Nat.zero_add]; exact hn) (by omega) ?_
  intro v' M' ho hk' hnx hv
  exact hQ v' M' (by simpa using ho) (hk.dU hk' (by simp[aD]))
def YO (T size bytes:Nat) (c:au) : Prop:=∀ {M0:RM} {a0:AV} {cs:List AV} {n:Nat},aL M0 size a0 cs n→cs.all oneCell=true→n * bytes≤140737488355328→n≤140737488355328→∀ {Q:ai},
 (∀ v M',Own M' M0.next T size v cs n→ag [] M0 M'→Q v M')→c [a0] M0 Q
abbrev Sb (l:List UInt8) : List AV:=l.map fun b=>N .u8 b.toNat
end Go.Ab.aB
namespace Go.Ab
open Go Go.RowKit
section
variable {P:Program}
theorem dw.opened {ρ:Ren} {M:RM} {w:World} {b n:Nat} {l:List AV} {el:Nat} {u:Value} (hw:dw P ρ M w) (hh:M.heap b=some (.row l true el 0)) (hl:l.length=n) (hv:ak ρ (.slc b 0 n (.op 1)) u) :
  ∃ c,n≤c∧ak ρ (.slc b 0 n (.ex c)) u∧dw P ρ (M.put b (.row (l++List.replicate (c - n) .top) true el 0)) w:=by
 obtain⟨A,hA⟩:=hw
 obtain⟨k,i,hb,hp,he,hk,rfl⟩:=x8 hv
 rcases hA.blk b _ hh with⟨y,hy,hle⟩ | ⟨_,e0,_⟩
 ·cases y <;> first | exact hle.elim | skip
  rename_i nn tree zs opn elem fz
  obtain⟨r1,rfl,rfl,rfl,r5⟩:=hle
  obtain⟨ob,hob,cs,fr,rfl,hrow⟩:=hA.rel.blk b i _ hb hy
  obtain⟨h0,hcs,hels⟩:=hrow.opn rfl
  have hk0:k=0:=by
   rcases Nat.eq_zero_or_pos k with e | e
   ·exact e
   ·have:0<k * i.esz:=Nat.mul_pos e h0
    omega
  subst hk0
  have hsh:=hrow.sh0
  rw[← he,Nat.mul_one,hsh,Nat.zero_add] at hcs
  refine⟨i.eF,by omega, ?_,⟨{ A with heap:=A.heap.set b (.row i.eF (Tree.ofList (l++List.replicate (i.eF - n) .top) 0 .leaf) [] true elem 0) },hA.next,⟨hA.rel.dom,fun b' i' x hb' hx=>?_,fun b1 b2 i1 i2 x1 x2 p1 p2 g1 g2 e=>?_,fun b' x hx=>?_,fun b' i' x hb' hx=>?_,hA.rel.inv⟩,hA.size,fun c x hx=>?_,hA.old⟩⟩
  ·have:=ak.gY (ρ:=ρ) b 0 n i.eF i hb
   rw[Nat.zero_mul] at *
   simpa using this
  ·simp only[Tree.bn] at hx
   by_cases e:b'=b
   ·subst e
    rw[if_pos rfl] at hx
    cases hx
    rw[hb] at hb'; cases hb'
    refine⟨_,hob,cs,fr,rfl,⟨by rw[hsh]; omega,fun j x hj=>?_,fun j h1 h2=>hrow.free j h1 h2,hrow.mark,fun _=>⟨h0,by rw[hsh,← he]; omega,hels⟩,hsh⟩⟩
    obtain⟨hjlt,hj2⟩:=jX hj
    rw[Tree.jP] at hj2
    split at hj2
    ·rename_i hlt
     rw[Nat.sub_zero] at hj2
     by_cases hjl:j<l.length
     ·rw[List.getElem?_append_left hjl] at hj2
      exact hrow.val j x (r5 j x hj2)
     ·rw[List.getElem?_append_right (by omega),List.getElem?_replicate] at hj2
      split at hj2
      ·cases hj2
       exact⟨cs[j]'(by omega),by rw[hsh,Nat.zero_add]; simp,.top _⟩
      ·cases hj2
    ·simp[Tree.get] at hj2
   ·rw[if_neg e] at hx
    exact hA.rel.blk b' i' x hb' hx
  ·have q:∀ {b1 x1},(A.heap.set b (bX.row i.eF (Tree.ofList (l++List.replicate (i.eF - n) .top) 0 .leaf) [] true elem 0)).get b1=some x1→∃ y,A.heap.get b1=some y:=by
    intro b1 x1 h
    rw[Tree.bn] at h
    by_cases e:b1=b
    ·subst e; exact⟨_,hy⟩
    ·rw[if_neg e] at h; exact⟨_,h⟩
   obtain⟨y1,e1⟩:=q g1
   obtain⟨y2,e2⟩:=q g2
   exact hA.rel.sep _ _ _ _ _ _ p1 p2 e1 e2 e
  ·simp only[Tree.bn] at hx
   by_cases e:b'=b
   ·subst e; exact hA.rel.top _ _ hy
   ·rw[if_neg e] at hx; exact hA.rel.top _ _ hx
  ·simp only[Tree.bn] at hx
   by_cases e:b'=b
   ·subst e; exact hA.rel.lo _ _ _ hb' hy
   ·rw[if_neg e] at hx; exact hA.rel.lo _ _ _ hb' hx
  ·simp only[RM.put] at hx
   simp only[Tree.bn]
   by_cases e:c=b
   ·subst e
    rw[if_pos rfl] at hx ⊢
    cases hx
    refine .inl ⟨_,rfl,by simp; omega,rfl,rfl,rfl,fun j v hj=>?_⟩
    have hjl:=(List.getElem?_eq_some_iff.1 hj).1
    exact vI (by simp at hjl; omega) (by rw[Tree.jP,if_pos (by omega)]; simpa using hj)
   ·rw[if_neg e] at hx ⊢
    exact hA.blk c x hx
 ·cases e0
theorem fQ.acC {f:FuncId} {b n:Nat} {l:List AV} {el:Nat} {rest:List AV} {M:RM} {Q:ai} (hP:Bu P f) (hh:M.heap b=some (.row l true el 0)) (hl:l.length=n)
  (h:∀ c,n≤c→fQ P f (.slc b 0 n (.ex c) :: rest) (M.put b (.row (l++List.replicate (c - n) .top) true el 0)) Q) : fQ P f (.slc b 0 n (.op 1) :: rest) M Q:=by
 refine⟨hP,fun ρ w us hargs hw=>?_⟩
 cases hargs with
 | cons _ u _ us hv hr =>
 obtain⟨c,hc,hv',hw'⟩:=hw.opened hh hl hv
 refine((h c hc).2 ρ w (u :: us) (.cons _ _ _ _ hv' hr) hw').mono fun e w' hR=>?_
 obtain⟨v',v,M',ρ',rfl,k1,k2,k3⟩:=hR
 exact⟨v',v,M',ρ',rfl,⟨k1.step,k1.rel,k1.base,k1.next⟩,k2,k3⟩
end
end Go.Ab
