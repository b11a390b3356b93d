/- Part 3 of the ground of the proofs of this seat (texts R7 to WDot). By an AI agent. -/
import Derived.Test.YtngfappichkflaaGreatSam2
import Derived.Scope
set_option linter.unusedVariables false
set_option linter.unusedSimpArgs false
namespace Go.Ab
open Go Go.RowKit
structure pz where
 vals:Tree AV
 M:RM
 bT:Tree (Option Nat)
abbrev KR:=AV→RM→Option Nat→Prop
def guardOf (ops:Array Oper) (wr:Tree Nat) (vals:Tree AV) (r:Row) : Option (Option (AV × Bool)) :=
 match r.o.guard with
 | none=>some none
 | some (j,want)=>match (ops[j]?).bind (·.dst) with
   | none=>none
   | some d=>match Nat.testBit r.m j,wr.get d with
     | true,some j'=>match Nat.beq j' j with
       | true=>some (some ((vals.get j).getD .top,want))
       | false=>none
     | _,_=>none
abbrev aj (x:AV) (want:Bool) (f g:ak→Prop) (k:ak) : Prop:=nA x want f g k
abbrev ae (x:AV) (want:Bool) (f g:KR→Prop) (k:KR) : Prop:=nA x want f g k
def Ai {α:Type} (g:Option (Option (AV × Bool))) (f skip:α→Prop) (k:α) : Prop :=
 match g with
 | none=>False
 | some none=>f k
 | some (some (x,want))=>nA x want f skip k
def sP (x:RB) (mk:Nat→AV) (M:RM) (k:KR) : Prop:=k (mk M.next) (M.push x) (some M.next)
def A7 (b:Option Nat) (M:RM) (x:RB) (mk:Nat→AV) (v:AV) : Prop :=
 match b with
 | some b=>M.heap b=some x∧mk b=v
 | none=>False
def adl (P:Program) (r:Row) (e:Operand→AV) (M:RM) (k:KR) : Prop :=
 match r.kd with
 | .pure | .read=>eH P r.o e M (fun v=>k v M none)
 | .alloc=>sj P r.o e (fun x mk=>sP x mk M k)
 | .tL=>False
def Fy (P:Program) (ops:Array Oper) (T0:Tree AV) (wr:Tree Nat) (lev:Nat) : List Row→pz→(pz→Prop)→Prop
 | [],s,K=>K s
 | r :: rest,s,K=>match Nat.beq r.lev lev && !jJ r.kd with
   | false=>Fy P ops T0 wr lev rest s K
   | true=>Ai (guardOf ops wr s.vals r) (adl P r (iq T0 wr s.vals r.m) s.M) (fun k=>k .undef s.M none) (fun v M' b=>Fy P ops T0 wr lev rest { vals:=s.vals.set r.i v,M:=M',bT:=s.bT.set r.i b } K)
def Wz (P:Program) (ops:Array Oper) (T0:Tree AV) (wr:Tree Nat) (r:Row) (s:pz) (K:Prop) : Prop :=
 match r.kd with
 | .read=>Ai (guardOf ops wr s.vals r) (fun k=>eH P r.o (iq T0 wr s.vals r.m) s.M (fun v=>v=(s.vals.get r.i).getD .top∧k)) (fun k=>k) K
 | .alloc=>Ai (guardOf ops wr s.vals r) (fun k=>sj P r.o (iq T0 wr s.vals r.m) (fun x mk=>A7 ((s.bT.get r.i).getD none) s.M x mk ((s.vals.get r.i).getD .top)∧k)) (fun k=>k) K
 | _=>K
def Pw (P:Program) (ops:Array Oper) (T0:Tree AV) (ri:RI) (lev:Nat) : List Row→pz→Prop→Prop
 | [],_,K=>K
 | r :: rest,s,K=>match Nat.ble r.lev lev && !jJ r.kd && ko ri.ms ri.es (lev + 1) r with
   | false=>Pw P ops T0 ri lev rest s K
   | true=>Wz P ops T0 ri.wr r s (Pw P ops T0 ri lev rest s K)
def xC (P:Program) (ops:Array Oper) (T0:Tree AV) (ri:RI) : Nat→List Nat→pz→(pz→Prop)→Prop
 | lev,[],s,K=>Fy P ops T0 ri.wr lev ri.rows s K
 | lev,x :: rest,s,K=>Fy P ops T0 ri.wr lev ri.rows s (fun s1=>match nth ri.rows x with
   | none=>False
   | some r=>Ai (guardOf ops ri.wr s1.vals r) (jL P r.o (iq T0 ri.wr s1.vals r.m) s1.M) (fun k=>k .undef s1.M)
     (fun v M'=>Pw P ops T0 ri lev ri.rows { vals:=s1.vals.set x v,M:=M',bT:=s1.bT } (xC P ops T0 ri (lev + 1) rest { vals:=s1.vals.set x v,M:=M',bT:=s1.bT } K)))
def Xg (P:Program) (nt:Nat) (ops:Array Oper) (T:Tree AV) (M:RM) (K:Tree AV→RM→Prop) : Prop :=
 match yF P nt ops with
 | none=>False
 | some ri=>match ri.rows.all (tN ri) with
   | false=>False
   | true=>xC P ops T ri 0 ri.es { vals:=.leaf,M,bT:=.leaf } (fun s=>K (Cr T s.vals ri.rows) s.M)
def Ve (g:Option (AV × Bool)) : Prop:=match g with | none=>True | some (x,want)=>x=Bo want
def Jl (g:Option (AV × Bool)) : Prop:=match g with | none=>False | some (x,want)=>x=.undef∨∃ b,x=Bo b∧b≠want
theorem uR {α:Type} {g:Option (Option (AV × Bool))} {f skip:α→Prop} {k:α} (h:Ai g f skip k) : ∃ g',g=some g'∧((Ve g'∧f k)∨(Jl g'∧skip k)):=by
 unfold Ai at h
 split at h <;> first | (cases h; done) | skip
 ·exact⟨none,rfl,.inl ⟨trivial,h⟩⟩
 ·rename_i x want
  refine⟨_,rfl, ?_⟩
  unfold nA at h
  split at h <;> first | (cases h; done) | skip
  ·split at h
   ·rename_i e; subst e; exact .inl ⟨rfl,h⟩
   ·rename_i b e; exact .inr ⟨.inr ⟨b,rfl,e⟩,h⟩
  ·exact .inr ⟨.inl rfl,h⟩
section
variable {P:Program} {nt:Nat} {ops:Array Oper} {ri:RI} {T0:Tree AV}
def uk (P:Program) (ops:Array Oper) (T0:Tree AV) (wr:Tree Nat) (s:pz) (r:Row) : Prop :=
 ∃ g,guardOf ops wr s.vals r=some g∧((Ve g∧∃ v,s.vals.get r.i=some v∧match r.kd with
   | .pure=>∀ M,mK P r.o (iq T0 wr s.vals r.m) M v
   | .read=>mK P r.o (iq T0 wr s.vals r.m) s.M v
   | .alloc=>∃ x mk b,Gx P r.o (iq T0 wr s.vals r.m) x mk∧s.bT.get r.i=some (some b)∧s.M.heap b=some x∧mk b=v
   | .tL=>False)∨(Jl g∧s.vals.get r.i=some .undef))
theorem mK.sub {o:Oper} {e:Operand→AV} {M M' : RM} {v:AV} (h:mK P o e M v) (hs:M.Sub M') : mK P o e M' v :=
 fun ρ w c M2 h2 hw he=>h ρ w c M2 (hs.trans h2) hw he
theorem Bi {vals LZ:Tree AV} {wr:Tree Nat} {m:Nat} (h:∀ j,Nat.testBit m j=true→LZ.get j=vals.get j) : iq T0 wr LZ m=iq T0 wr vals m:=by
 funext x
 cases x with
 | tmp t =>
   simp only[iq]
   cases hw:wr.get t with
   | none=>rfl
   | some j =>
     simp only
     cases hb:Nat.testBit m j with
     | false=>rfl
     | true=>simp only[h j hb]
 | const v=>rfl
 | global g=>rfl
 | func f=>rfl
theorem qj {vals LZ:Tree AV} {wr:Tree Nat} {r:Row} (h:∀ j,Nat.testBit r.m j=true→LZ.get j=vals.get j) : guardOf ops wr LZ r=guardOf ops wr vals r:=by
 unfold guardOf
 split
 ·rfl
 ·rename_i j want hg
  split
  ·rfl
  ·split
   ·rename_i hb _
    simp only[h j hb]
   ·rfl
theorem uk.keep {wr:Tree Nat} {s s' : pz} {r:Row} (h:uk P ops T0 wr s r) (hv:∀ j,Nat.testBit r.m j=true∨j=r.i→s'.vals.get j=s.vals.get j) (hb:s'.bT.get r.i=s.bT.get r.i) (hs:s.M.Sub s'.M) : uk P ops T0 wr s' r:=by
 obtain⟨g,hg,h⟩:=h
 have hi:=hv r.i (.inr rfl)
 have he:iq T0 wr s'.vals r.m=iq T0 wr s.vals r.m:=Bi fun j hj=>hv j (.inl hj)
 refine⟨g,by rw[← hg]; exact qj fun j hj=>hv j (.inl hj), ?_⟩
 rcases h with⟨hon,v,hvi,hk⟩ | ⟨hoff,hvi⟩
 ·refine .inl ⟨hon,v,by rw[hi]; exact hvi, ?_⟩
  rw[he]
  cases hkd:r.kd with
  | pure=>rw[hkd] at hk; exact hk
  | read=>rw[hkd] at hk; exact hk.sub hs
  | alloc =>
    rw[hkd] at hk
    obtain⟨x,mk,b,h1,h2,h3,h4⟩:=hk
    exact⟨x,mk,b,h1,by rw[hb]; exact h2,hs.2 _ _ h3,h4⟩
  | tL=>rw[hkd] at hk; exact hk
 ·exact .inr ⟨hoff,by rw[hi]; exact hvi⟩
def Fr (M:RM) : Prop:=∀ b,M.next≤b→M.heap b=none
theorem Fr.push {M:RM} (h:Fr M) (x:RB) : Fr (M.push x):=by
 intro b hb
 simp only[RM.push] at hb ⊢
 rw[if_neg (by omega)]
 exact h b (by omega)
theorem Fr.sub {M:RM} (h:Fr M) (x:RB) : M.Sub (M.push x):=by
 refine⟨rfl,fun b y hy=>?_⟩
 simp only[RM.push]
 split
 ·rename_i e; subst e; rw[h _ (Nat.le_refl _)] at hy; cases hy
 ·exact hy
theorem dU.fr {ρ:Ren} {M:RM} {w:World} (h:dU P ρ M w) : Fr M:=by
 intro b hb
 have hlo:=h.lo_le
 obtain⟨A,hA⟩:=h
 cases hx:M.heap b with
 | none=>rfl
 | some x =>
   rcases hA.blk b x hx with⟨y,hy,_⟩ | ⟨c,_,hlt,_⟩
   ·have:=hA.rel.top b y hy
    rw[hA.next] at this; omega
   ·omega
theorem Mw {ρ:Ren} {M:RM} {w:World} {o:Oper} {e:Operand→AV} {x:RB} {mk:Nat→AV} (h:dU P ρ M w) (hm:Gx P o e x mk) : dU P ρ (M.push x) w:=by
 obtain⟨y,_,hle⟩:=hm
 exact h.ab1 x y hle
structure Vy (P:Program) (ops:Array Oper) (T0:Tree AV) (ri:RI) (lev:Nat) (i0:Nat) (s s' : pz) : Prop where
 keep:∀ j,(∀ r,ri.rows[j]?=some r→i0≤j→¬ (r.lev=lev∧jJ r.kd=false))→s'.vals.get j=s.vals.get j∧s'.bT.get j=s.bT.get j
 done:∀ j r,ri.rows[j]?=some r→i0≤j→r.lev=lev→jJ r.kd=false→uk P ops T0 ri.wr s' r
 sub:s.M.Sub s'.M
 fr:Fr s'.M
 rel:∀ ρ w,dU P ρ s.M w→dU P ρ s'.M w
 next:s.M.next≤s'.M.next
 bT:∀ j b,s'.bT.get j=some (some b)→s.bT.get j=some (some b)∨(s.M.next≤b∧b<s'.M.next∧i0≤j∧∃ r,ri.rows[j]?=some r)
 Bc:∀ j1 j2 b,s'.bT.get j1=some (some b)→s'.bT.get j2=some (some b)→s.M.next≤b→j1=j2
theorem Bh (ht:ni P nt ops ri) {lev:Nat} {K:pz→Prop} : ∀ (rows:List Row) (i0:Nat) (s:pz),ri.rows.drop i0=rows→Fr s.M→(∀ j b,s.bT.get j=some (some b)→b<s.M.next)→Fy P ops T0 ri.wr lev rows s K→∃ s',K s'∧Vy P ops T0 ri lev i0 s s'
 | [],i0,s,hd,hf,hbd,h=>by
   refine⟨s,h,fun _ _=>⟨rfl,rfl⟩,fun j r hr hj=>?_,RM.Sub.refl _,hf,fun _ _ h=>h,Nat.le_refl _,fun j b hb=>.inl hb,fun j1 j2 b h1 _ hb=>absurd (hbd j1 b h1) (by omega)⟩
   have hlen:ri.rows.length≤i0:=List.drop_eq_nil_iff.1 hd
   have:=(List.getElem?_eq_some_iff.1 hr).1
   omega
 | r :: rows,i0,s,hd,hf,hbd,h=>by
   have hri:ri.rows[i0]?=some r:=by
    have h0:(ri.rows.drop i0)[0]?=some r:=by rw[hd]; rfl
    rw[List.getElem?_drop] at h0; exact h0
   have hd' : ri.rows.drop (i0 + 1)=rows:=by
    rw[← List.drop_drop (i:=1) (j:=i0)] <;> rw[hd]; rfl
   obtain⟨e1,e2,e3,e4,e5⟩:=ht.row hri
   simp only[Fy] at h
   split at h
   ·rename_i hk
    obtain⟨s',hK,hp⟩:=Bh ht rows (i0 + 1) s hd' hf hbd h
    have hne:¬ (r.lev=lev∧jJ r.kd=false):=by
     rintro⟨a,b⟩
     rw[rO a,b] at hk
     cases hk
    refine⟨s',hK,fun j hj=>hp.keep j fun r' hr' hj'=>hj r' hr' (by omega),fun j r' hr' hj hl he=>?_,hp.sub,hp.fr,hp.rel,hp.next,fun j b hb=>(hp.bT j b hb).imp id fun⟨a,b,c,d⟩=>⟨a,b,by omega,d⟩,hp.Bc⟩
    rcases Nat.lt_or_ge i0 j with hlt | hge
    ·exact hp.done j r' hr' hlt hl he
    ·have:j=i0:=by omega
     subst this
     rw[hri] at hr'; cases hr'
     exact absurd ⟨hl,he⟩ hne
   ·rename_i hk
    simp only[Bool.and_eq_true,Bool.not_eq_true'] at hk
    have xK:=bM hk.1
    obtain⟨g,hg,hcase⟩:=uR h
    -- whatever the row gives
    have fin:∀ (v:AV) (M' : RM) (b:Option Nat),s.M.Sub M'→Fr M'→s.M.next≤M'.next→(∀ ρ w,dU P ρ s.M w→dU P ρ M' w)→(∀ b',b=some b'→s.M.next≤b'∧b'<M'.next) →
      (∀ s2:pz,(∀ j,Nat.testBit r.m j=true→s2.vals.get j=s.vals.get j)→s2.vals.get r.i=some v→s2.bT.get r.i=some b→M'.Sub s2.M→uk P ops T0 ri.wr s2 r) →
      Fy P ops T0 ri.wr lev rows { vals:=s.vals.set r.i v,M:=M',bT:=s.bT.set r.i b } K→∃ s',K s'∧Vy P ops T0 ri lev i0 s s':=by
     intro v M' b hsub hfr hnx hrel hb hok h
     obtain⟨s',hK,hp⟩:=Bh ht rows (i0 + 1) _ hd' hfr (fun j b' hj=>by
      rw[Tree.bL] at hj
      split at hj
      ·cases hj; exact(hb b' rfl).2
      ·exact Nat.lt_of_lt_of_le (hbd j b' hj) hnx) h
     have QQ:=hp.keep r.i (fun r' hr' hj'=>by omega)
     simp only[Tree.bL,if_true] at QQ
     refine⟨s',hK,fun j hj=>?_,fun j r' hr' hj hl he=>?_,hsub.trans hp.sub,hp.fr,fun ρ w h=>hp.rel ρ w (hrel ρ w h),Nat.le_trans hnx hp.next,fun j b' hb'=>?_,fun j1 j2 b' h1 h2 hb'=>?_⟩
     ·have hji:j≠r.i:=fun e=>hj r (by rw[e,e1]; exact hri) (by omega) ⟨xK,hk.2⟩
      obtain⟨k1,k2⟩:=hp.keep j fun r' hr' hj'=>hj r' hr' (by omega)
      simp only[Tree.bL,if_neg hji] at k1 k2
      exact⟨k1,k2⟩
     ·rcases Nat.lt_or_ge i0 j with hlt | hge
      ·exact hp.done j r' hr' hlt hl he
      ·have:j=i0:=by omega
       subst this
       rw[hri] at hr'; cases hr'
       refine hok s' (fun q hq=>?_) QQ.1 QQ.2 hp.sub
       have hqlt:q<j:=by
        have hc:Closed ops.toList (fun i=>i<j):=fun i o ho hi e he' hb'=>by have:=ht.yZ i o ho e he' hb'; omega
        exact ht.ahead hc hri (fun e he' hb'=>ht.yZ j r.o e2 e he' hb') hq
       have hqi:q≠r.i:=by omega
       have:=(hp.keep q fun r' hr' hj'=>by omega).1
       rw[this]
       simp only[Tree.bL,if_neg hqi]
     ·rcases hp.bT j b' hb' with k | ⟨k1,k2,k3,k4⟩
      ·simp only[Tree.bL] at k
       split at k
       ·rename_i e
        cases k
        obtain⟨q1,q2⟩:=hb b' rfl
        exact .inr ⟨q1,Nat.lt_of_lt_of_le q2 hp.next,by omega,r,by rw[e,e1]; exact hri⟩
       ·exact .inl k
      ·simp only at k1
       exact .inr ⟨by omega,k2,by omega,k4⟩
     ·rcases Nat.lt_or_ge b' M'.next with hlt | hge
      ·have q:∀ j,s'.bT.get j=some (some b')→j=r.i:=by
        intro j hj
        rcases hp.bT j b' hj with k | ⟨k1,_⟩
        ·simp only[Tree.bL] at k
         split at k
         ·assumption
         ·have:=hbd j b' k; omega
        ·simp only at k1; omega
       rw[q j1 h1,q j2 h2]
      ·exact hp.Bc j1 j2 b' h1 h2 hge
    rcases hcase with⟨hon,hv⟩ | ⟨hoff,hv⟩
    ·unfold adl at hv
     have val:(r.kd=.pure∨r.kd=.read)→eH P r.o (iq T0 ri.wr s.vals r.m) s.M (fun v=>Fy P ops T0 ri.wr lev rows { vals:=s.vals.set r.i v,M:=s.M,bT:=s.bT.set r.i none } K)→∃ s',K s'∧Vy P ops T0 ri lev i0 s s':=by
      intro hkd hv
      obtain⟨v,hgv,hk2⟩:=Ce hv
      refine fin v s.M none (RM.Sub.refl _) hf (Nat.le_refl _) (fun _ _ h=>h) (fun b' h=>by cases h) (fun s2 q1 q2 q3 q4=>?_) hk2
      refine⟨g,by rw[← hg]; exact qj q1,.inl ⟨hon,v,q2, ?_⟩⟩
      rw[Bi q1]
      rcases hkd with hkd | hkd
      ·rw[hkd]
       rcases hgv with hgv | ⟨hrd,_⟩
       ·exact hgv
       ·rw[← e5,hkd] at hrd; cases hrd
      ·rw[hkd]
       rcases hgv with hgv | ⟨_,hgv⟩
       ·exact hgv _
       ·exact hgv.sub q4
     split at hv
     ·exact val (.inl ‹_›) hv
     ·exact val (.inr ‹_›) hv
     ·rename_i hkd
      obtain⟨x,mk,hm,hk2⟩:=BQ hv
      refine fin (mk s.M.next) (s.M.push x) (some s.M.next) (hf.sub x) (hf.push x) (by simp[RM.push]) (fun ρ w h=>Mw h hm) (fun b' h=>by cases h; simp[RM.push]) (fun s2 q1 q2 q3 q4=>?_) hk2
      refine⟨g,by rw[← hg]; exact qj q1,.inl ⟨hon,_,q2, ?_⟩⟩
      rw[Bi q1,hkd]
      exact⟨x,mk,s.M.next,hm,q3,q4.2 _ _ (by simp[RM.push]),rfl⟩
     ·cases hv
    ·refine fin .undef s.M none (RM.Sub.refl _) hf (Nat.le_refl _) (fun _ _ h=>h) (fun b' h=>by cases h) (fun s2 q1 q2 q3 q4=>?_) hv
     exact⟨g,by rw[← hg]; exact qj q1,.inr ⟨hoff,q2⟩⟩
end
section
variable {P:Program} {nt:Nat} {ops:Array Oper} {ri:RI} {T0:Tree AV}
theorem VB {wr:Tree Nat} {r:Row} {s s0:pz} {K:Prop} (h:Wz P ops T0 wr r s K) (hold:uk P ops T0 wr s0 r) (hv:∀ j,Nat.testBit r.m j=true∨j=r.i→s.vals.get j=s0.vals.get j) (hb:s.bT.get r.i=s0.bT.get r.i) :
  K∧uk P ops T0 wr s r:=by
 obtain⟨g,hg,hold⟩:=hold
 have hi:=hv r.i (.inr rfl)
 have he:iq T0 wr s.vals r.m=iq T0 wr s0.vals r.m:=Bi fun j hj=>hv j (.inl hj)
 have hg' : guardOf ops wr s.vals r=some g:=by rw[← hg]; exact qj fun j hj=>hv j (.inl hj)
 have Qf:Jl g→Ve g→False:=by
  intro h1 h2
  unfold Jl at h1
  unfold Ve at h2
  split at h1
  ·exact h1
  ·simp only at h2
   rcases h1 with h1 | ⟨b,h1,h3⟩
   ·rw[h2] at h1; cases h1
   ·rw[h2] at h1; cases h1; exact h3 rfl
 have XB:∀ {K'},K'→Jl g∧s0.vals.get r.i=some .undef→K'∧uk P ops T0 wr s r:=fun k h=>⟨k,g,hg',.inr ⟨h.1,by rw[hi]; exact h.2⟩⟩
 unfold Wz at h
 cases hkd:r.kd with
 | pure =>
   rw[hkd] at h
   refine⟨h,g,hg', ?_⟩
   rcases hold with⟨hon,v,hvi,hk⟩ | ⟨hoff,hvi⟩
   ·refine .inl ⟨hon,v,by rw[hi]; exact hvi, ?_⟩
    rw[hkd] at hk ⊢
    rw[he]; exact hk
   ·exact .inr ⟨hoff,by rw[hi]; exact hvi⟩
 | tL =>
   rcases hold with⟨hon,v,hvi,hk⟩ | ho
   ·rw[hkd] at hk; exact hk.elim
   ·rw[hkd] at h; exact XB h ho
 | read =>
   rw[hkd] at h
   obtain⟨g2,hg2,hcase⟩:=uR h
   rw[hg'] at hg2; cases hg2
   rcases hold with⟨hon,v,hvi,hk⟩ | ho
   ·rcases hcase with⟨_,hn⟩ | ⟨hoff,_⟩
    ·obtain⟨v',hgv,hv',hK⟩:=Ce hn
     have hgv:mK P r.o (iq T0 wr s.vals r.m) s.M v':=by rcases hgv with hgv | ⟨_,hgv⟩ <;> first | exact hgv _ | exact hgv
     rw[hi,hvi] at hv'
     simp only[Option.getD_some] at hv'
     subst hv'
     refine⟨hK,g,hg',.inl ⟨hon,v',by rw[hi]; exact hvi, ?_⟩⟩
     rw[hkd]; exact hgv
    ·exact(Qf hoff hon).elim
   ·rcases hcase with⟨hon,_⟩ | ⟨_,hK⟩
    ·exact(Qf ho.1 hon).elim
    ·exact XB hK ho
 | alloc =>
   rw[hkd] at h
   obtain⟨g2,hg2,hcase⟩:=uR h
   rw[hg'] at hg2; cases hg2
   rcases hold with⟨hon,v,hvi,hk⟩ | ho
   ·rcases hcase with⟨_,hn⟩ | ⟨hoff,_⟩
    ·obtain⟨x,mk,hm,hx,hK⟩:=BQ hn
     rw[hkd] at hk
     obtain⟨x0,mk0,b,_,h2,_,_⟩:=hk
     rw[hb,h2] at hx
     simp only[Option.getD_some] at hx
     rw[hi,hvi] at hx
     simp only[Option.getD_some] at hx
     refine⟨hK,g,hg',.inl ⟨hon,v,by rw[hi]; exact hvi, ?_⟩⟩
     rw[hkd]
     exact⟨x,mk,b,hm,by rw[hb]; exact h2,hx.1,hx.2⟩
    ·exact(Qf hoff hon).elim
   ·rcases hcase with⟨hon,_⟩ | ⟨_,hK⟩
    ·exact(Qf ho.1 hon).elim
    ·exact XB hK ho
theorem Jv {lev:Nat} {s s0:pz} {K:Prop} : ∀ (rows:List Row),Pw P ops T0 ri lev rows s K →
  (∀ r∈rows,jJ r.kd=false→r.lev≤lev→ko ri.ms ri.es (lev + 1) r=true→uk P ops T0 ri.wr s0 r∧(∀ j,Nat.testBit r.m j=true∨j=r.i→s.vals.get j=s0.vals.get j)∧s.bT.get r.i=s0.bT.get r.i) →
  K∧∀ r∈rows,jJ r.kd=false→r.lev≤lev→ko ri.ms ri.es (lev + 1) r=true→uk P ops T0 ri.wr s r
 | [],h,_=>⟨h,fun r hr=>by cases hr⟩
 | r :: rows,h,ho=>by
   simp only[Pw] at h
   split at h
   ·rename_i hc
    obtain⟨h1,h2⟩:=Jv rows h fun r' hr'=>ho r' (.tail _ hr')
    refine⟨h1,fun r' hr' e1 e2 e3=>?_⟩
    rcases List.mem_cons.1 hr' with e | hr'
    ·subst e
     rw[bE.2 e2,e1,e3] at hc
     cases hc
    ·exact h2 r' hr' e1 e2 e3
   ·rename_i hc
    simp only[Bool.and_eq_true,Bool.not_eq_true'] at hc
    obtain⟨⟨c1,c2⟩,c3⟩:=hc
    obtain⟨o1,o2,o3⟩:=ho r (.head _) c2 (bG c1) c3
    obtain⟨h1,h2⟩:=VB h o1 o2 o3
    obtain⟨h3,h4⟩:=Jv rows h1 fun r' hr'=>ho r' (.tail _ hr')
    refine⟨h3,fun r' hr' e1 e2 e3=>?_⟩
    rcases List.mem_cons.1 hr' with e | hr'
    ·subst e; exact h2
    ·exact h4 r' hr' e1 e2 e3
theorem acC {ρ:Ren} {i:gI} {x:RB} {y y' : dL} {ob:Obj} (h:zT x y) (h' : zT x y') (hb:jr P ρ i y ob) : jr P ρ i y' ob:=by
 cases x with
 | row l opn elem fz =>
   cases y <;> first | exact h.elim | skip
   cases y' <;> first | exact h'.elim | skip
   obtain⟨rfl,rfl,rfl,rfl,h5⟩:=h
   obtain⟨h1,rfl,rfl,rfl,h5'⟩:=h'
   subst h1
   obtain⟨c,fr,rfl,hr⟩:=hb
   refine⟨c,fr,rfl,hr.size,fun k u hk=>?_,hr.free,hr.mark,hr.opn,hr.sh0⟩
   have hlt:=AR hk
   have hv:l[k]?=some l[k]:=by simp[hlt]
   have e1:=h5' k _ hv
   rw[hk] at e1; cases e1
   exact hr.val k _ (h5 k _ hv)
 | ro c=>cases y <;> exact h.elim
 | map es c =>
   cases y <;> first | exact h.elim | skip
   cases y' <;> first | exact h'.elim | skip
   obtain⟨rfl,rfl⟩:=h
   obtain⟨rfl,rfl⟩:=h'
   exact hb
 | iter m a b c =>
   cases y <;> first | exact h.elim | skip
   cases y' <;> first | exact h'.elim | skip
   obtain⟨rfl,rfl,rfl,rfl⟩:=h
   obtain⟨rfl,rfl,rfl,rfl⟩:=h'
   exact hb
 | lS s p =>
   cases y <;> first | exact h.elim | skip
   cases y' <;> first | exact h'.elim | skip
   obtain⟨rfl,rfl⟩:=h
   obtain⟨rfl,rfl⟩:=h'
   exact hb
theorem YK {ρ:Ren} {M:RM} {w:World} {b:Nat} {x:RB} {y:dL} {ob:Obj} {i:gI} (hw:dU P ρ M w) (hi:i.cb=w.heap.size) (hb:ρ b=none) (hlt:b<M.next) (hx:M.heap b=some x) (hle:zT x y)
  (hrel:jr P ρ i y ob) : dU P (ρ.add b i) M (w.alloc ob)∧Step M.lo b ρ w (ρ.add b i) (w.alloc ob):=by
 obtain⟨A,hA⟩:=hw
 rcases hA.blk b x hx with⟨y',hy',Sk⟩ | ⟨c,rfl,_⟩
 ·obtain⟨h1,h2⟩:=Js hA.rel hA.size hi hb (by rw[hA.next]; exact hlt) hy' ((acC hle Sk hrel).mono (Ren.uV hb))
  have:=hA.size
  refine⟨⟨A,hA.next,h1,by simp; omega,fun c z hz=>?_,fun c hc=>?_⟩,h2⟩
  ·rcases hA.blk c z hz with k | ⟨d,rfl,hlt,elem,fr,hh⟩
   ·exact .inl k
   ·exact .inr ⟨d,rfl,hlt,elem,fr,by rw[heap_alloc_old w ob c (by omega)]; exact hh⟩
  ·unfold Ren.add
   rw[if_neg (fun e=>by subst e; rw[hA.old _ hc] at hb; cases hb)]
   exact hA.old c hc
 ·cases y <;> exact hle.elim
structure FB (P:Program) (nt:Nat) (ops:Array Oper) (ri:RI) (T0:Tree AV) (M0:RM) (ρ0:Ren) (w0:World) (k:Nat) (done rest:List Nat) (s:pz) (S:Nat→Prop) (ρ:Ren) (a:Act) (w:World) : Prop where
 es:ri.es=done++rest
 len:done.length=k
 closed:Closed ops.toList S
 dn:∀ x∈done,S x
 rs:∀ x∈rest,¬ S x
 lev:∀ (j:Nat) (r:Row),ri.rows[j]?=some r→jJ r.kd=false→S j→r.lev≤k
 size:a.tmps.size=nt
 defers:a.defers=[]
 slot:G9 ρ T0 ri.wr s.vals S a
 lZ:dU P ρ s.M w
 step:Step M0.lo M0.next ρ0 w0 ρ w
 base:s.M.base=M0.base
 next:M0.next≤s.M.next
 bid:∀ j b,s.bT.get j=some (some b)→M0.next≤b∧b<s.M.next∧(¬ S j→ρ b=none)∧j<ops.size
 Bc:∀ j1 j2 b,s.bT.get j1=some (some b)→s.bT.get j2=some (some b)→j1=j2
variable {M0:RM} {ρ0:Ren} {w0:World} {k:Nat} {done rest:List Nat} {s:pz} {S:Nat→Prop} {ρ:Ren} {a:Act} {w:World}
theorem Zm (ht:ni P nt ops ri) (hI:FB P nt ops ri T0 M0 ρ0 w0 k done rest s S ρ a w) {i:Nat} {r:Row} (hr:ri.rows[i]?=some r) (hns:¬ S i) (hd:∀ e∈r.o.after.toList,Region.binds .any e=true→S e.on)
  (hok:tN ri r=true) : ∀ x∈r.o.op.operands,aB ρ (iq T0 ri.wr s.vals r.m x) (a.eval x):=by
 intro x hx
 have hx' : FJ ri r x=true:=by
  unfold tN at hok
  exact List.all_eq_true.1 hok x (by simpa using hx)
 cases x with
 | tmp t =>
   obtain⟨h1,h2⟩:=hI.slot t
   simp only[iq,Act.eval]
   simp only[FJ] at hx'
   cases hw:ri.wr.get t with
   | none =>
     simp only
     exact h2 fun j hj=>by rw[hw] at hj; cases hj
   | some j =>
     rw[hw] at hx'
     simp only
     cases hb:Nat.testBit r.m j with
     | true =>
       simp only
       exact h1 j hw (ht.ahead hI.closed hr hd hb)
     | false =>
       simp only
       refine h2 fun j' hj'=>?_
       rw[hw] at hj'; cases hj'
       simp only[hb,Bool.false_or,Bool.or_eq_true] at hx'
       obtain⟨e1,_⟩:=ht.row hr
       rcases hx' with hx' | hx'
       ·rw[bM hx',e1]; exact hns
       ·intro hS
        rw[dG,e1] at hx'
        obtain⟨o,ho,_⟩:=ht.wrs t j hw
        exact hns (ht.CF hI.closed hS ho hx')
 | const v =>
   simp only[iq,nz,Act.eval]
   cases hv:jI v with
   | none=>exact .top _
   | some u=>exact iH hv
 | global g=>exact .top _
 | func f=>exact .fn _ _ _ _ _ rfl .nil .nil
theorem K9 (ht:ni P nt ops ri) (hI:FB P nt ops ri T0 M0 ρ0 w0 k done rest s S ρ a w) {i:Nat} {r:Row} (hr:ri.rows[i]?=some r) (hd:∀ e∈r.o.after.toList,Region.binds .any e=true→S e.on) {g:Option (AV × Bool)}
  (hg:guardOf ops ri.wr s.vals r=some g) : (Ve g→Region.wanted r.o (yielded ops a.tmps)=true)∧(Jl g→Region.wanted r.o (yielded ops a.tmps)=false):=by
 unfold guardOf at hg
 unfold Region.wanted
 split at hg
 ·rename_i hgu; simp only[hgu]; cases hg
  exact⟨fun _=>trivial,fun h=>h.elim⟩
 ·rename_i j want hgu
  simp only[hgu]
  split at hg <;> first | (cases hg; done) | skip
  rename_i d hdst
  split at hg <;> first | (cases hg; done) | skip
  rename_i j' hb hwr
  split at hg <;> first | (cases hg; done) | skip
  rename_i he
  cases hg
  have he:=bM he
  subst he
  have hv:=(hI.slot d).1 j' hwr (ht.ahead hI.closed hr hd hb)
  have hyv:yielded ops a.tmps j'=match a.tmps[d]? with | some (.bool b)=>some b | _=>none:=by
   unfold yielded; rw[hdst]; rfl
  have hget:∀ t:Bool,a.tmps.getD d undef=.bool t↔a.tmps[d]?=some (.bool t):=by
   intro t
   rw[Array.getD_eq_getD_getElem?]
   cases hx:a.tmps[d]? with
   | none=>simp[undef]
   | some y=>simp
  have off:(∀ b,a.tmps.getD d undef=.bool b→b≠want)→(yielded ops a.tmps j' == some want)=false:=by
   intro hn
   rw[hyv]
   cases hx:a.tmps[d]? with
   | none=>rfl
   | some y =>
     cases y <;> try rfl
     rename_i b
     have:=hn b ((hget b).2 hx)
     simpa using this
  constructor
  ·intro hon
   simp only[Ve] at hon
   rw[hon] at hv
   have hc:=(bi hv).1
   rw[hyv,(hget want).1 hc]; simp
  ·intro hoff
   simp only[Jl] at hoff
   refine off fun b hb'=>?_
   rcases hoff with hu | ⟨b',hu,hne⟩
   ·rw[hu] at hv
    obtain⟨vs,hc,hrl⟩:=CZ hv
    rw[hc] at hb'; cases hb'
   ·rw[hu] at hv
    rw[(bi hv).1] at hb'; cases hb'; exact hne
def P8 (P:Program) (ops:Array Oper) (T0:Tree AV) (ri:RI) (k:Nat) (s:pz) (K:pz→Prop) : List Nat→Prop
 | []=>K s
 | x :: rest=>∃ r,nth ri.rows x=some r∧Ai (guardOf ops ri.wr s.vals r) (jL P r.o (iq T0 ri.wr s.vals r.m) s.M) (fun k=>k .undef s.M)
    (fun v M'=>Pw P ops T0 ri k ri.rows { vals:=s.vals.set x v,M:=M',bT:=s.bT } (xC P ops T0 ri (k + 1) rest { vals:=s.vals.set x v,M:=M',bT:=s.bT } K))
theorem IE (ht:ni P nt ops ri) {K:pz→Prop} {es:List Nat} (hf:Fr s.M) (hbd:∀ j b,s.bT.get j=some (some b)→b<s.M.next) (h:xC P ops T0 ri k es s K) :
  ∃ s1,P8 P ops T0 ri k s1 K es∧Vy P ops T0 ri k 0 s s1:=by
 cases es with
 | nil =>
   rw[xC] at h
   exact Bh ht ri.rows 0 s rfl hf hbd h
 | cons x rest =>
   rw[xC] at h
   obtain⟨s1,hk,hp⟩:=Bh ht ri.rows 0 s rfl hf hbd h
   refine⟨s1, ?_,hp⟩
   split at hk
   ·cases hk
   ·rename_i r hr
    exact⟨r,hr,hk⟩
def Chk (P:Program) (ops:Array Oper) (T0:Tree AV) (ri:RI) (k:Nat) (s:pz) : Prop:=∀ r∈ri.rows,jJ r.kd=false→ko ri.ms ri.es k r=true→uk P ops T0 ri.wr s r
theorem DK {acc:List Nat} : ∀ (es:List Edge) (e:Edge),e∈es→Region.binds .any e=true→Nat.testBit (nQ acc es) e.on=true∧∀ j,Nat.testBit ((nth acc e.on).getD 0) j=true→Nat.testBit (nQ acc es) j=true
 | [],e,h,_=>by cases h
 | x :: es,e,h,hb=>by
   simp only[nQ]
   rcases List.mem_cons.1 h with rfl | h
   ·rw[hb]
    simp only
    refine⟨?_,fun j hj=>?_⟩
    ·rw[Nat.testBit_or,Nat.testBit_or,Nat.testBit_two_pow]; simp
    ·rw[Nat.testBit_or,Nat.testBit_or,hj]; simp
   ·obtain⟨h1,h2⟩:=DK (acc:=acc) es e h hb
    split
    ·refine⟨?_,fun j hj=>?_⟩
     ·rw[Nat.testBit_or,h1]; simp
     ·rw[Nat.testBit_or,h2 j hj]; simp
    ·exact⟨h1,h2⟩
theorem OG (ht:ni P nt ops ri) {q:Nat} {r:Row} (hq:ri.rows[q]?=some r) : ∃ pre,(∀ i,i<q→nth pre i=ri.ms[i]?)∧r.m=nQ pre r.o.after.toList:=by
 obtain⟨g1,g2,g3,g4,g5⟩:=ht.row hq
 obtain⟨pre,h1,h2,h3⟩:=(Am ops.toList []).2 q r.o g2
 simp only[List.length_nil,Nat.zero_add] at h1 h2 h3
 refine⟨pre,fun i hi=>by rw[dG,h2 i hi,← ht.ms], ?_⟩
 rw[← ht.ms,g3] at h3
 exact Option.some.inj h3
theorem Ko (ht:ni P nt ops ri) {q:Nat} {r:Row} (hq:ri.rows[q]?=some r) {e:Edge} (he:e∈r.o.after.toList) (hb:Region.binds .any e=true) : Nat.testBit r.m e.on=true:=by
 obtain⟨pre,_,h2⟩:=OG ht hq
 rw[h2]; exact(DK _ e he hb).1
theorem Ue (ht:ni P nt ops ri) : ∀ (q:Nat) {i:Nat} {r:Row} {o:Oper},ri.rows[q]?=some r→Nat.testBit r.m i=true→ops.toList[i]?=some o→∀ {e:Edge},e∈o.after.toList→Region.binds .any e=true→Nat.testBit r.m e.on=true:=by
 intro q
 induction q using Nat.strongRecOn with
 | _ q ih =>
   intro i r o hq hi ho e he hb
   obtain⟨g1,g2,g3,g4,g5⟩:=ht.row hq
   obtain⟨pre,h1,h2⟩:=OG ht hq
   have hi':=hi
   rw[h2] at hi'
   obtain⟨e0,he0,hb0,hcase⟩:=yN _ hi'
   have hlt:=ht.yZ q r.o g2 e0 he0 hb0
   obtain⟨r0,hr0,_⟩:=ht.ex (j:=e0.on) (o:=ops.toList[e0.on]'(by have:=(List.getElem?_eq_some_iff.1 g2).1; omega)) (by simp)
   obtain⟨k1,k2,k3,k4,k5⟩:=ht.row hr0
   have hsub:∀ j,Nat.testBit r0.m j=true→Nat.testBit r.m j=true:=by
    intro j hj
    rw[h2]
    refine(DK _ e0 he0 hb0).2 j ?_
    rw[h1 e0.on hlt,k3]; exact hj
   rcases hcase with rfl | ⟨m,hm,hmi⟩
   ·rw[k2] at ho; cases ho
    exact hsub _ (Ko ht hr0 he hb)
   ·rw[← dG,h1 e0.on hlt,k3] at hm
    cases hm
    exact hsub _ (ih e0.on hlt hr0 hmi ho he hb)
theorem Es {m m' : Nat} (h:∀ x,Nat.testBit m x=true→Nat.testBit m' x=true) : ∀ (es:List Nat) (i0 b b' : Nat),b≤b'→b'≤i0→mq m es i0 b≤mq m' es i0 b'
 | [],i0,b,b',hb,_=>by simpa [mq] using hb
 | x :: es,i0,b,b',hb,hi=>by
   simp only[mq]
   cases hm:Nat.testBit m x with
   | true =>
     rw[h x hm]
     exact Es h es (i0 + 1) _ _ (Nat.le_refl _) (Nat.le_refl _)
   | false =>
     cases hm' : Nat.testBit m' x with
     | true=>exact Es h es (i0 + 1) b (i0 + 1) (by omega) (Nat.le_refl _)
     | false=>exact Es h es (i0 + 1) b b' hb (by omega)
theorem aai (ht:ni P nt ops ri) {listed:Array Bool} (hsz:listed.size=ops.size) (hI:FB P nt ops ri T0 M0 ρ0 w0 k done rest s (eF listed) ρ a w) {i:Nat} {r:Row} (hi:i<ops.size) (hr:ri.rows[i]?=some r)
  (hd:∀ e∈r.o.after.toList,Region.binds .any e=true→eF listed e.on) (hk:jJ r.kd=false) (xK:r.lev≤k) {v:AV} {v' : Value} {ρ' : Ren} {w' : World} (hvi:s.vals.get i=some v) (hv:aB ρ' v v') (hle:ρ.le ρ')
  (hw:dU P ρ' s.M w') (hst:Step M0.lo M0.next ρ w ρ' w') (ZH:∀ j b,s.bT.get j=some (some b)→¬ eF (listed.setIfInBounds i true) j→ρ' b=none) :
  FB P nt ops ri T0 M0 ρ0 w0 k done rest s (eF (listed.setIfInBounds i true)) ρ' (a.put r.o.dst v') w':=by
 have hS:∀ j,eF (listed.setIfInBounds i true) j↔eF listed j∨j=i:=tX (by omega)
 obtain⟨e1,e2,_⟩:=ht.row hr
 refine⟨hI.es,hI.len, ?_,fun x hx=>(hS x).2 (.inl (hI.dn x hx)), ?_, ?_, ?_, ?_, ?_,hw,hI.step.trans hst (Nat.le_refl _),hI.base,hI.next,fun j b hb=>⟨(hI.bid j b hb).1,(hI.bid j b hb).2.1,ZH j b hb,(hI.bid j b hb).2.2.2⟩,hI.Bc⟩
 ·intro j o ho hj e he hb
  rcases(hS j).1 hj with hj | rfl
  ·exact(hS _).2 (.inl (hI.closed j o ho hj e he hb))
  ·rw[e2] at ho; cases ho
   exact(hS _).2 (.inl (hd e he hb))
 ·intro x hx hl
  rcases(hS x).1 hl with hl | rfl
  ·exact hI.rs x hx hl
  ·have:x∈ri.es:=by rw[hI.es]; exact List.mem_append_right _ hx
   rw[ht.tL hr,hk] at this
   cases this
 ·intro j r' hr' hk' hj
  rcases(hS j).1 hj with hj | rfl
  ·exact hI.lev j r' hr' hk' hj
  ·rw[hr] at hr'; cases hr'; exact xK
 ·cases hdst:r.o.dst <;> simp[Act.put,hI.size]
 ·cases hdst:r.o.dst <;> simp[Act.put,hI.defers]
 ·exact EH ht (fun t=>⟨fun j h1 h2=>((hI.slot t).1 j h1 h2).mono hle,fun h=>((hI.slot t).2 h).mono hle⟩) hI.size hr hv hvi hS
theorem aaT (ht:ni P nt ops ri) {listed:Array Bool} (hsz:listed.size=ops.size) {i:Nat} {rest' : List Nat} (hI:FB P nt ops ri T0 M0 ρ0 w0 k done (i :: rest') s (eF listed) ρ a w) (uD:Chk P ops T0 ri k s) {r:Row} (hi:i<ops.size) (hr:ri.rows[i]?=some r)
  (hd:∀ e∈r.o.after.toList,Region.binds .any e=true→eF listed e.on) (hnd:i ∉ rest') {v:AV} {v' : Value} {ρ' : Ren} {w' : World} {M' : RM} (hv:aB ρ' v v') {K:pz→Prop}
  (haft:After P s.M ρ w M' ρ' w') (hre:Pw P ops T0 ri k ri.rows { vals:=s.vals.set i v,M:=M',bT:=s.bT } (xC P ops T0 ri (k + 1) rest' { vals:=s.vals.set i v,M:=M',bT:=s.bT } K)) :
  ∃ s3,FB P nt ops ri T0 M0 ρ0 w0 (k + 1) (done++[i]) rest' s3 (eF (listed.setIfInBounds i true)) ρ' (a.put r.o.dst v') w'∧Chk P ops T0 ri (k + 1) s3∧P8 P ops T0 ri (k + 1) s3 K rest':=by
 have hS:∀ j,eF (listed.setIfInBounds i true) j↔eF listed j∨j=i:=tX (by omega)
 obtain⟨e1,e2,e3,e4,e5⟩:=ht.row hr
 have hmem:i∈ri.es:=by rw[hI.es]; simp
 have hke:=(ht.tL hr).1 hmem
 have hle:=haft.le hI.lZ
 -- an alive row that was done does not look at the effect
 have af3:ri.es[k]?=some i:=by
  rw[hI.es,List.getElem?_append_right (by rw[hI.len]; omega),hI.len]; simp
 have aez:∀ r'∈ri.rows,r'.lev≤k→Nat.testBit r'.m i=true→False:=by
  intro r' hr' hl hb
  obtain⟨q,hq⟩:=List.mem_iff_getElem?.1 hr'
  obtain⟨g1,g2,g3,g4,g5⟩:=ht.row hq
  have key:∀ (es:List Nat) (i0 mR k:Nat),es[k]?=some i→i0 + k + 1≤mq r'.m es i0 mR:=by
   intro es
   induction es with
   | nil=>intro i0 mR k h; simp at h
   | cons x es ih =>
     intro i0 mR k h
     simp only[mq]
     cases k with
     | zero =>
       simp at h; subst h
       rw[hb]
       simp only
       have mono:∀ (es:List Nat) (j mR:Nat),mR≤j→mR≤mq r'.m es j mR:=by
        intro es
        induction es with
        | nil=>intro j mR _; exact Nat.le_refl _
        | cons y es ih2 =>
          intro j mR hbj
          simp only[mq]
          split
          ·exact Nat.le_trans (by omega) (ih2 (j + 1) (j + 1) (Nat.le_refl _))
          ·exact ih2 (j + 1) mR (by omega)
       exact mono es (i0 + 1) (i0 + 1) (Nat.le_refl _)
     | succ k =>
       split
       ·have:=ih (i0 + 1) (i0 + 1) k (by simpa using h); omega
       ·have:=ih (i0 + 1) mR k (by simpa using h); omega
  have:=key ri.es 0 0 k af3
  rw[← g4] at this
  omega
 obtain⟨QJ,hrows⟩:=Jv (s0:=s) ri.rows hre fun r' hr' f1 f2 f3=>by
  refine⟨uD r' hr' f1 ?_,fun j hj=>?_,rfl⟩
  ·unfold ko at f3 ⊢
   rw[Bool.and_eq_true] at f3 ⊢
   refine⟨bE.2 f2, ?_⟩
   have f4:=f3.2
   rw[List.all_eq_true] at f4 ⊢
   intro x hx
   refine f4 x ?_
   have:=List.take_subset_take_left ri.es (Nat.le_succ k)
   exact this hx
  ·simp only[Tree.bL]
   rw[if_neg]
   rintro rfl
   rcases hj with hj | hj
   ·exact aez r' hr' f2 hj
   ·obtain⟨q,hq⟩:=List.mem_iff_getElem?.1 hr'
    obtain⟨g1,_⟩:=ht.row hq
    have:q=j:=by omega
    subst this
    rw[hr] at hq; cases hq
    rw[f1] at hke; cases hke
 obtain⟨s3,hcont,hp⟩:=IE (s := { vals:=s.vals.set i v,M:=M',bT:=s.bT }) ht (haft.rel.fr) (fun j b hb=>Nat.lt_of_lt_of_le (hI.bid j b hb).2.1 haft.next) QJ
 have hkeep:∀ j,eF listed j∨j=i→s3.vals.get j=(s.vals.set i v).get j:=by
  intro j hj
  refine(hp.keep j fun r' hr' _=>?_).1
  rintro⟨hl,hk'⟩
  rcases hj with hj | rfl
  ·have:=hI.lev j r' hr' hk' hj; omega
  ·rw[hr] at hr'; cases hr'; rw[hke] at hk'; cases hk'
 have hvi:s3.vals.get i=some v:=by rw[hkeep i (.inr rfl),Tree.bL,if_pos rfl]
 refine⟨s3,⟨by rw[hI.es]; simp,by simp[hI.len], ?_, ?_, ?_, ?_, ?_, ?_, ?_,hp.rel _ _ haft.rel,hI.step.trans (haft.step.Vj hI.base) hI.next, ?_, ?_, ?_, ?_⟩, ?_,hcont⟩
 ·intro j o ho hj e he hb
  rcases(hS j).1 hj with hj | rfl
  ·exact(hS _).2 (.inl (hI.closed j o ho hj e he hb))
  ·rw[e2] at ho; cases ho
   exact(hS _).2 (.inl (hd e he hb))
 ·intro x hx
  rcases List.mem_append.1 hx with hx | hx
  ·exact(hS x).2 (.inl (hI.dn x hx))
  ·simp at hx; subst hx; exact(hS x).2 (.inr rfl)
 ·intro x hx hl
  rcases(hS x).1 hl with hl | rfl
  ·exact hI.rs x (.tail _ hx) hl
  ·exact hnd hx
 ·intro j r' hr' hk' hj
  rcases(hS j).1 hj with hj | rfl
  ·have:=hI.lev j r' hr' hk' hj; omega
  ·rw[hr] at hr'; cases hr'; rw[hke] at hk'; cases hk'
 ·cases hdst:r.o.dst <;> simp[Act.put,hI.size]
 ·cases hdst:r.o.dst <;> simp[Act.put,hI.defers]
 ·refine EH ht (v:=v) (S:=eF listed) (fun t=>⟨fun j h1 h2=>?_,fun h=>((hI.slot t).2 h).mono hle⟩) hI.size hr hv hvi hS
  rw[hkeep j (.inl h2),Tree.bL]
  split
  ·rename_i e
   subst e
   exact absurd h2 (hI.rs j (.head _))
  ·exact((hI.slot t).1 j h1 h2).mono hle
 ·rw[hp.sub.1,← hI.base]; exact haft.base
 ·exact Nat.le_trans hI.next (Nat.le_trans haft.next hp.next)
 ·intro j b hb
  rcases hp.bT j b hb with h | ⟨h,h',_,r',hr'⟩
  ·obtain⟨b1,b2,b3,b4⟩:=hI.bid j b h
   refine⟨b1,Nat.lt_of_lt_of_le b2 (Nat.le_trans haft.next hp.next),fun hj=>?_,b4⟩
   rw[haft.step.ext b b2]
   exact b3 fun hl=>hj ((hS j).2 (.inl hl))
  ·refine⟨Nat.le_trans hI.next (Nat.le_trans haft.next h),h',fun _=>haft.rel.fresh h, ?_⟩
   obtain⟨g1,g2,_⟩:=ht.row hr'
   have:=(List.getElem?_eq_some_iff.1 g2).1
   rw[Array.length_toList] at this
   exact this
 ·intro j1 j2 b h1 h2
  rcases Nat.lt_or_ge b M'.next with hlt | hge
  ·have q:∀ j,s3.bT.get j=some (some b)→s.bT.get j=some (some b):=by
    intro j hj
    rcases hp.bT j b hj with k | ⟨k1,_⟩
    ·exact k
    ·simp only at k1; omega
   exact hI.Bc j1 j2 b (q j1 h1) (q j2 h2)
  ·exact hp.Bc j1 j2 b h1 h2 hge
 ·intro r' hr' f1 f3
  obtain⟨q,hq⟩:=List.mem_iff_getElem?.1 hr'
  obtain⟨g1,g2,g3,g4,g5⟩:=ht.row hq
  have f3':=f3
  unfold ko at f3'
  rw[Bool.and_eq_true] at f3'
  have hl:=bG f3'.1
  by_cases he:r'.lev=k + 1
  ·exact hp.done q r' hq (Nat.zero_le _) he f1
  ·have hl' : r'.lev≤k:=by omega
   refine(hrows r' hr' f1 hl' f3).keep (fun j hj=>?_) ?_ hp.sub
   ·refine(hp.keep j fun r2 hr2 _=>?_).1
    rintro⟨h1,h2⟩
    rcases hj with hj | hj
    ·
     have hjm:r2.lev≤r'.lev:=by
      obtain⟨q1,q2,q3,q4,q5⟩:=ht.row hr2
      have sub:∀ x,Nat.testBit r2.m x=true→Nat.testBit r'.m x=true:=by
       intro x hx
       have hcl:Closed ops.toList (fun i=>Nat.testBit r'.m i=true∨i=q):=by
        intro i o ho hi e he' hb'
        rcases hi with hi | rfl
        ·exact .inl (Ue ht _ hq hi ho he' hb')
        ·rw[g2] at ho; cases ho
         exact .inl (Ko ht hq he' hb')
       rcases ht.CF hcl (.inl hj) q2 (by rw[q3]; exact hx) with h | h
       ·exact h
       ·subst h
        exfalso
        have hlt:j<x:=by
         have hc:Closed ops.toList (fun i=>i<x):=fun i o ho hi e he' hb'=>by have:=ht.yZ i o ho e he' hb'; omega
         exact ht.ahead hc hq (fun e he' hb'=>ht.yZ x r'.o g2 e he' hb') hj
        have hlt2:x<j:=by
         have hc:Closed ops.toList (fun i=>i<j):=fun i o ho hi e he' hb'=>by have:=ht.yZ i o ho e he' hb'; omega
         exact ht.ahead hc hr2 (fun e he' hb'=>ht.yZ j r2.o q2 e he' hb') hx
        omega
      rw[q4,g4]
      exact Es sub ri.es 0 0 0 (Nat.le_refl _) (Nat.le_refl _)
     omega
    ·have:q=j:=by omega
     subst this
     rw[hq] at hr2; cases hr2; omega
   ·refine(hp.keep r'.i fun r2 hr2 _=>?_).2
    rw[g1,hq] at hr2; cases hr2
    rintro⟨h1,_⟩; omega
theorem Yv (hP:KV P) (ht:ni P nt ops ri) (zQ:∀ r∈ri.rows,tN ri r=true) {Q:Exit→Act→World→Prop} {K:pz→Prop}
  (hQ:∀ s ρ' a' w',K s→Step M0.lo M0.next ρ0 w0 ρ' w'→fC ρ' nt (Cr T0 s.vals ri.rows) a'→dU P ρ' s.M w'→s.M.base=M0.base→M0.next≤s.M.next→Q .normal a' w') :
  ∀ (fuel:Nat) (listed:Array Bool) (k:Nat) (done rest:List Nat) (s:pz) (ρ:Ren) (a:Act) (w:World),listed.size=ops.size→listed.toList.count false≤fuel →
    FB P nt ops ri T0 M0 ρ0 w0 k done rest s (eF listed) ρ a w→Chk P ops T0 ri k s→P8 P ops T0 ri k s K rest→wpAny P .any ops Q fuel listed a w:=by
 have fin:∀ (listed:Array Bool) (k:Nat) (done rest:List Nat) (s:pz) (ρ:Ren) (a:Act) (w:World),listed.size=ops.size→(∀ i,i<ops.size→eF listed i) →
   FB P nt ops ri T0 M0 ρ0 w0 k done rest s (eF listed) ρ a w→P8 P ops T0 ri k s K rest→Q .normal a w:=by
  intro listed k done rest s ρ a w hsz hall hI hcont
  have hrest:rest=[]:=by
   cases rest with
   | nil=>rfl
   | cons x rest =>
     have hx:x∈ri.es:=by rw[hI.es]; simp
     rw[ht.es,qD] at hx
     obtain⟨j,o,hj,rfl,_⟩:=hx
     have:=(List.getElem?_eq_some_iff.1 hj).1
     exact absurd (hall (0 + j) (by simpa using this)) (hI.rs _ (.head _))
  subst hrest
  have hcont:K s:=hcont
  refine hQ s ρ a w hcont hI.step ⟨hI.size,fun t=>?_,hI.defers⟩ hI.lZ hI.base hI.next
  obtain⟨g1,g2⟩:=hI.slot t
  refine Du t _ ri.rows T0 (fun r hr hd=>?_) ?_
  ·obtain⟨q,hq⟩:=List.mem_iff_getElem?.1 hr
   obtain⟨e1,e2,_⟩:=ht.row hq
   have hql:=(List.getElem?_eq_some_iff.1 e2).1
   have:=g1 r.i (ht.dst q r hq t hd).1 (by rw[e1]; exact hall q (by simpa using hql))
   exact this
  ·by_cases hex:∃ j,ri.wr.get t=some j
   ·obtain⟨j,hj⟩:=hex
    obtain⟨o,ho,hdo⟩:=ht.wrs t j hj
    obtain⟨r,hr,rfl⟩:=ht.ex ho
    exact .inl ⟨r,List.mem_of_getElem? hr,hdo⟩
   ·exact .inr (g2 fun j hj=>absurd ⟨j,hj⟩ hex)
 intro fuel
 induction fuel with
 | zero =>
   intro listed k done rest s ρ a w hsz hcnt hI uD hcont
   have hall:∀ i,i<ops.size→eF listed i:=fun i hi=>L6 (by omega) (by omega)
   refine⟨?_,fin listed k done rest s ρ a w hsz hall hI hcont⟩
   rw[List.eq_nil_iff_forall_not_mem]
   intro i hi
   obtain⟨h1,h2,_⟩:=AO hsz hi
   exact h2 (hall i h1)
 | succ fuel ih =>
   intro listed k done rest s ρ a w hsz hcnt hI uD hcont
   refine⟨fun hr=>fin listed k done rest s ρ a w hsz (EY ht hsz hr) hI hcont,fun i hi=>?_⟩
   obtain⟨hilt,hnl,o,ho,hd⟩:=AO hsz hi
   obtain⟨r,hr,rfl⟩:=ht.ex (j:=i) (o:=o) (by rw[Array.getElem?_toList]; exact ho)
   obtain⟨e1,e2,e3,e4,e5⟩:=ht.row hr
   have hrm:=List.mem_of_getElem? hr
   have he:=Zm ht hI hr hnl hd (zQ r hrm)
   unfold wpOp
   simp only[ho]
   cases hk:jJ r.kd with
   | false =>
     have hall:ko ri.ms ri.es k r=true:=by
      unfold ko
      rw[Bool.and_eq_true,List.all_eq_true]
      constructor
      ·rw[bE,e4]
       rcases yT (m:=r.m) ri.es 0 0 with h | ⟨q,x,a1,a2,a3⟩
       ·omega
       ·have hx:=ht.ahead hI.closed hr hd a2
        rw[a3]
        rcases Nat.lt_or_ge q k with h | h
        ·omega
        ·rw[hI.es,List.getElem?_append_right (by rw[hI.len]; exact h)] at a1
         exact absurd hx (hI.rs x (List.mem_of_getElem? a1))
      ·intro x hx
       rw[hI.es,List.take_left' hI.len] at hx
       rw[Bool.not_eq_true',← Bool.not_eq_true,e1,dG]
       intro hb
       have hxe:x∈ri.es:=by rw[hI.es]; exact List.mem_append_left _ hx
       rw[ht.es,qD] at hxe
       obtain⟨j,o',hj,hxj,_⟩:=hxe
       rw[Nat.zero_add] at hxj; subst hxj
       exact hnl (ht.CF hI.closed (hI.dn x hx) hj hb)
     have xK:r.lev≤k:=by
      unfold ko at hall
      rw[Bool.and_eq_true] at hall
      exact bG hall.1
     have hok:=uD r hrm hk hall
     have hnb:∀ j b,s.bT.get j=some (some b)→¬ eF (listed.setIfInBounds i true) j→ρ b=none:=fun j b hb hj =>
      (hI.bid j b hb).2.2.1 fun hl=>hj ((tX (by omega) j).2 (.inl hl))
     have next:∀ {v:AV} {v' : Value} {ρ' : Ren} {w' : World},s.vals.get i=some v→aB ρ' v v'→ρ.le ρ'→dU P ρ' s.M w'→Step M0.lo M0.next ρ w ρ' w' →
       (∀ j b,s.bT.get j=some (some b)→¬ eF (listed.setIfInBounds i true) j→ρ' b=none)→wpAny P .any ops Q fuel (listed.setIfInBounds i true) (a.put r.o.dst v') w':=by
      intro v v' ρ' w' hvi hv hle hw hst hb
      exact ih _ k done rest s ρ' _ w' (by simpa using hsz) (count_set (by omega) hnl hcnt) (aai ht hsz hI hilt hr hd hk xK hvi hv hle hw hst hb) uD hcont
     have Ht:ρ.le ρ:=fun _ _ h=>h
     obtain⟨g,hg,hcase⟩:=hok
     obtain⟨gon,aa9⟩:=K9 ht hI hr hd hg
     rw[e1] at hcase
     rcases hcase with⟨hon,v,hvi,hkd⟩ | ⟨hoff,hvi⟩
     ·rw[gon hon]
      simp only[if_true]
      refine .inl ?_
      have val:mK P r.o (iq T0 ri.wr s.vals r.m) s.M v→r.o.wp P a w (wpAny P .any ops Q fuel (listed.setIfInBounds i true)) Q:=by
       intro hgv
       obtain⟨v',h1,h2⟩:=hgv ρ w a.eval s.M (RM.Sub.refl _) hI.lZ he
       exact lJ r.o h1 (next hvi h2 Ht hI.lZ (Step.refl _ _ _) hnb)
      cases hkk:r.kd with
      | pure=>rw[hkk] at hkd; exact val (hkd _)
      | read=>rw[hkk] at hkd; exact val hkd
      | tL=>rw[hkk] at hkd; exact hkd.elim
      | alloc =>
        rw[hkk] at hkd
        obtain⟨x,mk,b,⟨y,hx,hle⟩,hbi,hy,hmk⟩:=hkd
        obtain⟨d,ob,u,inf,hrun,afS,hrel,aaE⟩:=su he hx w
        obtain⟨b1,b2,b3,b4⟩:=hI.bid i b hbi
        have hbn:=b3 hnl
        have hd' : dU P ρ s.M (if d=true then w.drew else w):=by cases d <;> simp[hI.lZ,hI.lZ.drew]
        have hsz' : (if d=true then w.drew else w).heap.size=w.heap.size:=by cases d <;> simp
        have hst' : Step M0.lo M0.next ρ w ρ (if d=true then w.drew else w):=by cases d <;> simp[Step.refl,Step.drew]
        obtain⟨h1,h2⟩:=YK hd' (by omega) hbn b2 hy hle hrel
        replace h2:=h2.Vj hI.base
        refine lJ r.o hrun (next hvi (hmk▸aaE _ b (by simp[Ren.add])) (Ren.uV hbn) h1 (hst'.trans h2 b1) fun j b' hb' hj=>?_)
        have hne:b'≠b:=by
         intro e
         subst e
         have hji:j≠i:=fun e=>hj ((tX (by omega) j).2 (.inr e))
         exact hji (hI.Bc j i b' hb' hbi)
        unfold Ren.add
        rw[if_neg hne]
        exact hnb j b' hb' hj
     ·rw[aa9 hoff]
      simp only[Bool.false_eq_true,if_false]
      exact next hvi (.tup _ _ .nil) Ht hI.lZ (Step.refl _ _ _) hnb
   | true =>
     have hie:i∈ri.es:=(ht.tL hr).2 hk
     rw[hI.es] at hie
     have hir:i∈rest:=by
      rcases List.mem_append.1 hie with h | h
      ·exact absurd (hI.dn i h) hnl
      ·exact h
     cases rest with
     | nil=>cases hir
     | cons x rest' =>
       have hxi:x=i:=by
        rcases List.mem_cons.1 hir with e | hm
        ·exact e.symm
        ·obtain⟨l1,l2,hl⟩:=List.append_of_mem hm
         have:=ht.chain (done++x :: l1) i l2 (by rw[hI.es,hl]; simp) x (by simp)
         rw[e3] at this
         exact absurd (ht.ahead hI.closed hr hd this) (hI.rs x (.head _))
       subst hxi
       have hnd:x ∉ rest':=by
        intro hm
        obtain⟨l1,l2,hl⟩:=List.append_of_mem hm
        have:=ht.chain (done++x :: l1) x l2 (by rw[hI.es,hl]; simp) x (by simp)
        rw[e3] at this
        exact hnl (ht.ahead hI.closed hr hd this)
       obtain⟨r',hr',hgs⟩:=hcont
       rw[dG,hr] at hr'; cases hr'
       obtain⟨g,hg,hcase⟩:=uR hgs
       obtain⟨gon,aa9⟩:=K9 ht hI hr hd hg
       have next:∀ {v:AV} {v' : Value} {ρ' : Ren} {w' : World} {M' : RM},aB ρ' v v'→After P s.M ρ w M' ρ' w' →
         Pw P ops T0 ri k ri.rows { vals:=s.vals.set x v,M:=M',bT:=s.bT } (xC P ops T0 ri (k + 1) rest' { vals:=s.vals.set x v,M:=M',bT:=s.bT } K) →
         wpAny P .any ops Q fuel (listed.setIfInBounds x true) (a.put r.o.dst v') w':=by
        intro v v' ρ' w' M' hv haft hre
        obtain⟨s3,h1,h2,h3⟩:=aaT ht hsz hI uD hilt hr hd hnd hv haft hre
        exact ih _ (k + 1) _ rest' s3 ρ' _ w' (by simpa using hsz) (count_set (by omega) hnl hcnt) h1 h2 h3
       rcases hcase with⟨hon,hn⟩ | ⟨hoff,hn⟩
       ·rw[gon hon]
        simp only[if_true]
        exact .inl (Vb (Ij hP (fun _=>rfl) hn) hI.lZ he fun v v' M' ρ' w' haft hv hk=>next hv haft hk)
       ·rw[aa9 hoff]
        simp only[Bool.false_eq_true,if_false]
        exact next (.tup _ _ .nil) (After.refl hI.lZ) hn
theorem IV {vals:Tree AV} {t:Nat} : ∀ (rows:List Row) (T:Tree AV),(∀ r∈rows,r.o.dst≠some t)→(Cr T vals rows).get t=T.get t
 | [],T,_=>rfl
 | r :: rows,T,h=>by
   simp only[Cr]
   cases hd:r.o.dst with
   | none=>exact IV rows T fun r' hr'=>h r' (.tail _ hr')
   | some d =>
     simp only
     rw[IV rows _ fun r' hr'=>h r' (.tail _ hr'),Tree.bL,if_neg]
     intro e; subst e
     exact h r (.head _) hd
theorem UE (hP:KV P) {id:Nat} {T:Tree AV} {M:RM} {K:Tree AV→RM→Prop} {Q:Exit→Act→World→Prop} (hM:After P M0 ρ0 w0 M ρ w) (hA:fC ρ nt T a)
  (hQ:∀ T' M' ρ' a' w',After P M0 ρ0 w0 M' ρ' w'→fC ρ' nt T' a'→K T' M'→(∀ t,(∀ o∈ops.toList,o.dst≠some t)→T'.get t=T.get t)→Q .normal a' w') (h:Xg P nt ops T M K) : (Code.region id ops true).wp P Q a w:=by
 unfold Xg at h
 split at h <;> first | (cases h; done) | skip
 rename_i ri hri
 split at h <;> first | (cases h; done) | skip
 rename_i zQ
 have ht:=Cy hri
 obtain⟨s1,h1,hp⟩:=IE ht hM.rel.fr (fun j b hb=>by simp[Tree.get] at hb) h
 have hno:∀ i,¬ eF (Array.replicate ops.size false) i:=by
  intro i h
  unfold eF at h
  simp only[Array.getD_eq_getD_getElem?,Array.getElem?_replicate] at h
  split at h <;> simp at h
 refine wp_region_any hP.mixed (Yv (M0:=M0) (ρ0:=ρ0) (w0:=w0) (T0:=T) hP ht (fun r hr=>List.all_eq_true.1 zQ r hr) (fun s ρ' a' w' k0 k1 k2 k3 k4 k5=>hQ _ _ ρ' a' w' ⟨k1,k3,k4,k5⟩ k2 k0 (fun t hnt=>IV ri.rows T fun r hr=>by
   obtain⟨q,hq⟩:=List.mem_iff_getElem?.1 hr
   exact hnt r.o (List.mem_of_getElem? (ht.row hq).2.1))) ops.size _ 0 [] ri.es s1 ρ a _ (by simp) (by simp) ?_ ?_ h1)
 ·refine⟨rfl,rfl,fun i o _ hi=>absurd hi (hno i),(fun x hx=>by cases hx),fun x _=>hno x,fun j r _ _ hj=>absurd hj (hno j),hA.size,hA.defers,fun t=>⟨fun j _ hj=>absurd hj (hno j),fun _=>hA.val t⟩,hp.rel _ _ hM.rel.drew,hM.step.trans (Step.drew (n:=M0.next)) (Nat.le_refl _),by rw[hp.sub.1]; exact hM.base,Nat.le_trans hM.next hp.next,fun j b hb'=>?_,fun j1 j2 b b1 b2=>?_⟩
  ·rcases hp.bT j b hb' with h | ⟨h,h',_,r,hr⟩
   ·simp[Tree.get] at h
   ·refine⟨Nat.le_trans hM.next h,h',fun _=>hM.rel.fresh h, ?_⟩
    obtain⟨g1,g2,_⟩:=ht.row hr
    have:=(List.getElem?_eq_some_iff.1 g2).1
    rw[Array.length_toList] at this
    exact this
  ·rcases hp.bT j1 b b1 with h | ⟨h,_⟩
   ·simp[Tree.get] at h
   ·exact hp.Bc j1 j2 b b1 b2 h
 ·intro r hr hk hal
  obtain⟨q,hq⟩:=List.mem_iff_getElem?.1 hr
  unfold ko at hal
  rw[Bool.and_eq_true] at hal
  exact hp.done q r hq (Nat.zero_le _) (by have:=bG hal.1; omega) hk
end
def Rl:Option Tmp→Nat
 | some d=>2 ^ d
 | none=>0
def Zb:Operand→Nat
 | .tmp t=>2 ^ t
 | _=>0
def Y0:List Operand→Nat
 | []=>0
 | x :: xs=>Zb x ||| Y0 xs
def abj (L m:Nat) : Nat:=L ^^^ (L &&& m)
def LC:List Oper→Nat
 | []=>0
 | o :: os=>Rl o.dst ||| LC os
def iA:Nat→Code→Nat
 | 0,_=>0
 | f + 1,c=>match c with
   | .region _ ops _=>LC ops.toList
   | .seq a b=>iA f a ||| iA f b
   | .cond _ a b=>iA f a ||| iA f b
   | .block _ c=>iA f c
   | .loop c=>iA f c
   | .scope c=>iA f c
   | _=>0
def UW:List Oper→Nat→Nat
 | [],L=>L
 | o :: os,L=>abj (UW os L) (Rl o.dst) ||| Y0 o.op.operands.toList
def Zg:List (Nat × Nat)→Nat→Nat
 | [],_=>0
 | (i,L) :: r,id=>match Nat.beq i id with
   | true=>L
   | false=>Zg r id
def iM (ret:Nat) : Nat→List (Nat × Nat)→Code→Nat→Nat
 | 0,_,_,_=>0
 | f + 1,env,c,L=>match c with
   | .skip=>L
   | .region _ ops _=>UW ops.toList L
   | .seq a b=>iM ret f env a (iM ret f env b L)
   | .cond c a b=>Zb c ||| iM ret f env a L ||| iM ret f env b L
   | .block id c=>iM ret f ((id,L) :: env) c L
   | .loop c=>iM ret f env c (iM ret f env c 0)
   | .exit id=>Zg env id
   | .ret=>ret
   | .scope c=>iM ret f env c L
   | .label _=>L
   | _=>0
def cap2 (n:Nat) : Nat:=match n with | 0=>0 | 1=>1 | _=>2
def vM (id:Nat) : Nat→Code→Nat
 | 0,_=>2
 | f + 1,c=>match c with
   | .seq a b=>cap2 (vM id f a + vM id f b)
   | .cond _ a b=>cap2 (vM id f a + vM id f b)
   | .block _ c=>vM id f c
   | .loop c=>vM id f c
   | .exit i=>match Nat.beq i id with | true=>1 | false=>0
   | _=>0
def zM:Nat→Code→Nat
 | 0,_=>2
 | f + 1,c=>match c with
   | .skip=>1
   | .region _ _ _=>1
   | .seq a b=>cap2 (zM f a * zM f b)
   | .cond _ a b=>cap2 (zM f a + zM f b)
   | .block id c=>cap2 (zM f c + vM id f c)
   | .scope c=>zM f c
   | .label _=>1
   | _=>0
def Db (m:Nat) : Nat→Nat→List Nat
 | _,0=>[]
 | i,n + 1=>match Nat.testBit m i with
   | true=>i :: Db m (i + 1) n
   | false=>Db m (i + 1) n
def bitsOf (m nt:Nat) : List Nat:=Db m 0 nt
def BI (T:Tree AV) : List Nat→List AV
 | []=>[]
 | t :: ts=>(T.get t).getD .top :: BI T ts
def aa:List AV→Nat→AV
 | [],_=>.top
 | x :: _,0=>x
 | _ :: xs,n + 1=>aa xs n
def Ew (T:Tree AV) : List Nat→Tree AV
 | []=>T
 | t :: ts=>Ew (T.set t .top) ts
def Qs (T:Tree AV) (xs:List AV) : Nat→List Nat→Tree AV
 | _,[]=>T
 | i,t :: ts=>Qs (T.set t (aa xs i)) xs (i + 1) ts
def DT (T:Tree AV) (asg vs:List Nat) (xs:List AV) : Tree AV:=Qs (Ew T asg) xs 0 vs
def au (x:AV) (p q:Prop) : Prop :=
 match x with
 | .sc (.bool b)=>(b=true→p)∧(b=false→q)
 | _=>False
def bR (f:(List AV→RM→Prop)→Prop) (g:List AV→RM→Prop) : Prop:=f g
def aM (body:(List AV→RM→Prop)→List AV→RM→Prop) (xs:List AV) (M:RM) : Prop :=
 ∃ (I:Nat→List AV→RM→Prop) (n:Nat),I n xs M∧∀ m ys M',I m ys M'→body (fun zs M''=>∃ m',m'<m∧I m' zs M'') ys M'
abbrev K3:=Ex→Tree AV→RM→Prop
def wpC (P:Program) (nt ret:Nat) : Nat→Code→List (Nat × Nat)→Nat→Tree AV→RM→K3→Prop
 | 0,_,_,_,_,_,_=>False
 | f + 1,c,env,L,T,M,K=>match c with
   | .skip=>K .normal T M
   | .region _ ops false=>Oc P nt ops ops.toList T M (fun T' M'=>K .normal T' M')
   | .region _ ops true=>Xg P nt ops T M (fun T' M'=>K .normal T' M')
   | .seq a b=>match Nat.ble (zM f a) 1 with
     | true=>wpC P nt ret f a env (iM ret f env b L) T M (fun e T' M'=>match e with
       | .normal=>wpC P nt ret f b env L T' M' K
       | e=>K e T' M')
     | false=>bR (fun J=>wpC P nt ret f a env (iM ret f env b L) T M (fun e T' M'=>match e with
       | .normal=>J (BI T' (bitsOf (iA f a &&& iM ret f env b L) nt)) M'
       | e=>K e T' M'))
       (fun xs M'=>wpC P nt ret f b env L (DT T (bitsOf (iA f a) nt) (bitsOf (iA f a &&& iM ret f env b L) nt) xs) M' K)
   | .cond c a b=>au (nz T c) (wpC P nt ret f a env L T M K) (wpC P nt ret f b env L T M K)
   | .block id c=>wpC P nt ret f c ((id,L) :: env) L T M (fun e T' M'=>match e with
     | .exit i=>match Nat.beq i id with
       | true=>K .normal T' M'
       | false=>K (.exit i) T' M'
     | e=>K e T' M')
   | .loop c=>aM (fun next xs M'=>wpC P nt ret f c env (iM ret f env c (iM ret f env c 0)) (DT T (bitsOf (iA f c) nt) (bitsOf (iA f c &&& iM ret f env c (iM ret f env c 0)) nt) xs) M'
     (fun e T' M'=>match e with
      | .normal=>next (BI T' (bitsOf (iA f c &&& iM ret f env c (iM ret f env c 0)) nt)) M'
      | e=>K e T' M'))
     (BI T (bitsOf (iA f c &&& iM ret f env c (iM ret f env c 0)) nt)) M
   | .exit id=>K (.exit id) T M
   | .ret=>K .ret T M
   | .scope c=>wpC P nt ret f c env L T M K
   | .label _=>K .normal T M
   | _=>False
def ZJ (P:Program) (T:Tree AV) (M:RM) (r:ResultVar) (K:AV→Prop) : Prop :=
 match r with
 | .tmp t=>K ((T.get t).getD .top)
 | .cell a t=>match dR P t with
   | some false=>az M ((T.get a).getD .top) K
   | some true=>match bK P t with
     | some n=>av M ((T.get a).getD .top) n K
     | none=>False
   | none=>False
def aa3 (P:Program) (T:Tree AV) (M:RM) : List ResultVar→(List AV→Prop)→Prop
 | [],K=>K []
 | r :: rs,K=>ZJ P T M r (fun v=>aa3 P T M rs (fun vs=>K (v :: vs)))
def ac7 (Q:ak) (M:RM) : List AV→Prop
 | [v]=>Q v M
 | vs=>Q (.tup vs) M
def Nh:List ResultVar→Nat
 | []=>0
 | .tmp t :: rs=>2 ^ t ||| Nh rs
 | .cell a _ :: rs=>2 ^ a ||| Nh rs
def YU (P:Program) (fn:Func) (c:Code) (args:List AV) (M:RM) (Q:ak) : Prop :=
 wpC P (args.length + (fn.ntmps - args.length)) (Nh fn.results.toList) 1000 c [] 0 (Tree.ofList args 0 .leaf) M
  (fun e T M'=>match e with
   | .exit _=>False
   | _=>aa3 P T M' fn.results.toList (ac7 Q M'))
section
variable {P:Program} {nt ret:Nat}
def WW (P:Program) (nt:Nat) (M0:RM) (ρ0:Ren) (w0:World) (T:Tree AV) (asg:Nat) (K:K3) (e:Exit) (a:Act) (w:World) : Prop :=
 ∃ x T' M' ρ',e=Om x∧After P M0 ρ0 w0 M' ρ' w∧fC ρ' nt T' a∧(∀ t,Nat.testBit asg t=false→T'.get t=T.get t)∧K x T' M'
theorem Qn {T:Tree AV} : ∀ (vs:List Nat) (i:Nat),aa (BI T vs) i=match vs[i]? with | some t=>(T.get t).getD .top | none=>.top
 | [],i=>by simp[BI,aa]
 | t :: vs,0=>by simp[BI,aa]
 | t :: vs,i + 1=>by simp[BI,aa,Qn vs i]
theorem Gc:∀ (asg:List Nat) (T:Tree AV) (t:Nat),(Ew T asg).get t=if t∈asg then some .top else T.get t
 | [],T,t=>by simp[Ew]
 | d :: asg,T,t=>by
   simp only[Ew,Gc asg,Tree.bL,List.mem_cons]
   by_cases h1:t∈asg
   ·simp[h1]
   ·by_cases h2:t=d <;> simp[h1,h2]
theorem Ja:∀ (vs:List Nat) (T:Tree AV) (xs:List AV) (i t:Nat),(t ∉ vs∧(Qs T xs i vs).get t=T.get t)∨∃ j,vs[j]?=some t∧(Qs T xs i vs).get t=some (aa xs (i + j))
 | [],T,xs,i,t=>.inl ⟨by simp,rfl⟩
 | d :: vs,T,xs,i,t=>by
   simp only[Qs]
   rcases Ja vs (T.set d (aa xs i)) xs (i + 1) t with⟨h1,h2⟩ | ⟨j,h1,h2⟩
   ·rw[Tree.bL] at h2
    by_cases e:t=d
    ·rw[if_pos e] at h2
     exact .inr ⟨0,by simp[e],h2⟩
    ·rw[if_neg e] at h2
     exact .inl ⟨by simp[e,h1],h2⟩
   ·exact .inr ⟨j + 1,by simpa using h1,by rw[h2]; congr 2; omega⟩
theorem EM {m:Nat} : ∀ (n i t:Nat),t∈Db m i n↔i≤t∧t<i + n∧Nat.testBit m t=true
 | 0,i,t=>by simp[Db]; omega
 | n + 1,i,t=>by
   simp only[Db]
   split
   ·rename_i h
    rw[List.mem_cons,EM n (i + 1) t]
    constructor
    ·rintro(rfl | ⟨a,b,c⟩)
     ·exact⟨Nat.le_refl _,by omega,h⟩
     ·exact⟨by omega,by omega,c⟩
    ·rintro⟨a,b,c⟩
     by_cases e:t=i
     ·exact .inl e
     ·exact .inr ⟨by omega,by omega,c⟩
   ·rename_i h
    rw[EM n (i + 1) t]
    constructor
    ·rintro⟨a,b,c⟩; exact⟨by omega,by omega,c⟩
    ·rintro⟨a,b,c⟩
     have:t≠i:=fun e=>by subst e; rw[h] at c; cases c
     exact⟨by omega,by omega,c⟩
theorem yG {m n t:Nat} : t∈bitsOf m n↔t<n∧Nat.testBit m t=true:=by
 unfold bitsOf; rw[EM]; simp
theorem GA {ρ:Ren} {T T' : Tree AV} {a:Act} {asg:Nat} {vs:List Nat} (h:fC ρ nt T' a) (hge:∀ t,nt≤t→aB ρ ((T.get t).getD .top) undef) (hk:∀ t,Nat.testBit asg t=false→T'.get t=T.get t) : fC ρ nt (DT T (bitsOf asg nt) vs (BI T' vs)) a:=by
 refine⟨h.size,fun t=>?_,h.defers⟩
 unfold DT
 rcases Ja vs (Ew T (bitsOf asg nt)) (BI T' vs) 0 t with⟨_,h2⟩ | ⟨j,h1,h2⟩
 ·rw[h2,Gc]
  split
  ·exact .top _
  ·rename_i hm
   by_cases hb:Nat.testBit asg t=true
   ·have hge' : nt≤t:=by
     rcases Nat.lt_or_ge t nt with hlt | hge
     ·exact absurd (yG.2 ⟨hlt,hb⟩) hm
     ·exact hge
    have hv:a.tmps.getD t undef=undef:=by
     rw[Array.getD_eq_getD_getElem?,Array.getElem?_eq_none (by rw[h.size]; exact hge')]; rfl
    rw[hv]; exact hge t hge'
   ·rw[← hk t (by simpa using hb)]
    exact h.val t
 ·rw[h2,Nat.zero_add,Qn,h1]
  exact h.val t
theorem Li {T:Tree AV} {asg:Nat} {vs:List Nat} {xs:List AV} (hvs:∀ t∈vs,Nat.testBit asg t=true) (t:Nat) (h:Nat.testBit asg t=false) : (DT T (bitsOf asg nt) vs xs).get t=T.get t:=by
 unfold DT
 rcases Ja vs (Ew T (bitsOf asg nt)) xs 0 t with⟨_,h2⟩ | ⟨j,h1,h2⟩
 ·rw[h2,Gc,if_neg]
  intro hm
  rw[(yG.1 hm).2] at h; cases h
 ·have:=hvs t (List.mem_of_getElem? h1)
  rw[h] at this; cases this
theorem fC.ge {ρ:Ren} {T:Tree AV} {a:Act} (h:fC ρ nt T a) : ∀ t,nt≤t→aB ρ ((T.get t).getD .top) undef:=by
 intro t ht
 have:=h.val t
 rw[Array.getD_eq_getD_getElem?,Array.getElem?_eq_none (by rw[h.size]; exact ht)] at this
 exact this
theorem Iq {c:Code} {Q:Exit→Act→World→Prop} : ∀ {n m:Nat} {a:Act} {w:World},n≤m→Code.rounds P c Q n a w→Code.rounds P c Q m a w
 | 0,_,_,_,_,h=>h.elim
 | n + 1,m + 1,a,w,hle,h=>by
   rw[rounds_succ] at h ⊢
   refine wp_mono h fun e a' w' hp=>?_
   cases e with
   | normal=>exact Iq (Nat.le_of_succ_le_succ hle) hp
   | exit id=>exact hp
   | ret=>exact hp
   | goto l=>exact hp
   | panic c=>exact hp
   | outgrown=>exact hp
theorem Dk {t:Nat} : ∀ (l:List Oper),Nat.testBit (LC l) t=false→∀ o∈l,o.dst≠some t
 | [],_,o,ho=>by cases ho
 | x :: l,h,o,ho=>by
   simp only[LC,Nat.testBit_or,Bool.or_eq_false_iff] at h
   rcases List.mem_cons.1 ho with rfl | ho
   ·intro e
    rw[e] at h
    simp[Rl,Nat.testBit_two_pow] at h
   ·exact Dk l h.2 o ho
theorem YG {ρ:Ren} {x:AV} {u:Value} {p q:Prop} (h:au x p q) (hx:aB ρ x u) : ∃ b,u=.bool b∧(b=true→p)∧(b=false→q):=by
 unfold au at h
 split at h <;> first | (cases h; done) | skip
 rename_i b
 exact⟨b,(bi hx).1,h.1,h.2⟩
theorem YH (hP:KV P) : ∀ (f:Nat) (c:Code) (env:List (Nat × Nat)) (L:Nat) (T:Tree AV) (M:RM) (K:K3),wpC P nt ret f c env L T M K →
  ∀ (M0:RM) (ρ0:Ren) (w0:World) (ρ:Ren) (a:Act) (w:World),After P M0 ρ0 w0 M ρ w→fC ρ nt T a→c.wp P (WW P nt M0 ρ0 w0 T (iA f c) K) a w:=by
 intro f
 induction f with
 | zero=>intro c env L T M K h; exact h.elim
 | succ f ih =>
   intro c env L T M K h M0 ρ0 w0 ρ a w hM hA
   cases c with
   | skip=>exact wp_skip ⟨.normal,T,M,ρ,rfl,hM,hA,fun _ _=>rfl,h⟩
   | region id ops d =>
     cases d with
     | false =>
       refine wp_region ?_
       have:=Eb (nt:=nt) hP (ops:=ops) (Q:=WW P nt M0 ρ0 w0 T (iA (f + 1) (.region id ops false)) K) (K:=fun T' M'=>K .normal T' M') (M0:=M0) (ρ0:=ρ0) (w0:=w0) (T0:=T)
        (fun T' M' ρ' a' w' k1 k2 k3 k4=>⟨.normal,T',M',ρ',rfl,k1,k2,fun t ht=>k4 t (Dk _ ht),k3⟩) ops.toList 0 (by simp) hA hM (fun _ _=>rfl) h
       rw[Array.length_toList,← List.range_eq_range'] at this
       exact this
     | true =>
       exact UE (nt:=nt) (T:=T) hP hM hA (fun T' M' ρ' a' w' k1 k2 k3 k4=>⟨.normal,T',M',ρ',rfl,k1,k2,fun t ht=>k4 t (Dk _ ht),k3⟩) h
   | seq c1 c2 =>
     simp only[wpC] at h
     refine wp_seq ?_
     split at h
     ·refine wp_mono (ih c1 _ _ _ _ _ h M0 ρ0 w0 ρ a w hM hA) fun e a' w' hp=>?_
      obtain⟨x,T1,M1,ρ1,rfl,k1,k2,k3,k4⟩:=hp
      cases x with
      | normal =>
        refine wp_mono (ih c2 _ _ _ _ _ k4 M0 ρ0 w0 ρ1 a' w' k1 k2) fun e a2 w2 hp=>?_
        obtain⟨x,T2,M2,ρ2,he,q1,q2,q3,q4⟩:=hp
        exact⟨x,T2,M2,ρ2,he,q1,q2,fun t ht=>by
         simp only[iA,Nat.testBit_or,Bool.or_eq_false_iff] at ht
         rw[q3 t ht.2,k3 t ht.1],q4⟩
      | exit i=>exact⟨.exit i,T1,M1,ρ1,rfl,k1,k2,fun t ht=>by
        simp only[iA,Nat.testBit_or,Bool.or_eq_false_iff] at ht
        exact k3 t ht.1,k4⟩
      | ret=>exact⟨.ret,T1,M1,ρ1,rfl,k1,k2,fun t ht=>by
        simp only[iA,Nat.testBit_or,Bool.or_eq_false_iff] at ht
        exact k3 t ht.1,k4⟩
     ·unfold bR at h
      refine wp_mono (ih c1 _ _ _ _ _ h M0 ρ0 w0 ρ a w hM hA) fun e a' w' hp=>?_
      obtain⟨x,T1,M1,ρ1,rfl,k1,k2,k3,k4⟩:=hp
      have hge:∀ t,nt≤t→aB ρ1 ((T.get t).getD .top) undef:=fun t ht=>by
       have h1:=k2.ge t ht
       by_cases hb:Nat.testBit (iA f c1) t=false
       ·rw[k3 t hb] at h1; exact h1
       ·have h0:=hA.ge t ht
        have hu:∀ (ρ ρ' : Ren) (x:AV),aB ρ x undef→aB ρ' x undef:=by
         intro ρ ρ' x hx
         unfold undef at hx ⊢
         cases hx with
         | top=>exact .top _
         | sc v p=>exact .sc _ p
         | tup xs vs a=>cases a; exact .tup _ _ .nil
        exact hu _ _ _ h0
      cases x with
      | normal =>
        refine wp_mono (ih c2 _ _ _ _ _ k4 M0 ρ0 w0 ρ1 a' w' k1 (GA k2 hge k3)) fun e a2 w2 hp=>?_
        obtain⟨x,T2,M2,ρ2,he,q1,q2,q3,q4⟩:=hp
        refine⟨x,T2,M2,ρ2,he,q1,q2,fun t ht=>?_,q4⟩
        simp only[iA,Nat.testBit_or,Bool.or_eq_false_iff] at ht
        rw[q3 t ht.2]
        refine Li (fun t' ht'=>?_) t ht.1
        have:=(yG.1 ht').2
        rw[Nat.testBit_and,Bool.and_eq_true] at this
        exact this.1
      | exit i=>exact⟨.exit i,T1,M1,ρ1,rfl,k1,k2,fun t ht=>by
        simp only[iA,Nat.testBit_or,Bool.or_eq_false_iff] at ht
        exact k3 t ht.1,k4⟩
      | ret=>exact⟨.ret,T1,M1,ρ1,rfl,k1,k2,fun t ht=>by
        simp only[iA,Nat.testBit_or,Bool.or_eq_false_iff] at ht
        exact k3 t ht.1,k4⟩
   | cond cnd c1 c2 =>
     simp only[wpC] at h
     obtain⟨b,hb,h1,h2⟩:=YG h (Bq hA cnd)
     cases b with
     | true =>
       refine wp_cond_true hb (wp_mono (ih c1 _ _ _ _ _ (h1 rfl) M0 ρ0 w0 ρ a w hM hA) fun e a' w' hp=>?_)
       obtain⟨x,T1,M1,ρ1,he,k1,k2,k3,k4⟩:=hp
       exact⟨x,T1,M1,ρ1,he,k1,k2,fun t ht=>by
         simp only[iA,Nat.testBit_or,Bool.or_eq_false_iff] at ht
         exact k3 t ht.1,k4⟩
     | false =>
       refine wp_cond_false hb (wp_mono (ih c2 _ _ _ _ _ (h2 rfl) M0 ρ0 w0 ρ a w hM hA) fun e a' w' hp=>?_)
       obtain⟨x,T1,M1,ρ1,he,k1,k2,k3,k4⟩:=hp
       exact⟨x,T1,M1,ρ1,he,k1,k2,fun t ht=>by
         simp only[iA,Nat.testBit_or,Bool.or_eq_false_iff] at ht
         exact k3 t ht.2,k4⟩
   | block id c1 =>
     simp only[wpC] at h
     refine wp_block (wp_mono (ih c1 _ _ _ _ _ h M0 ρ0 w0 ρ a w hM hA) fun e a' w' hp=>?_)
     obtain⟨x,T1,M1,ρ1,rfl,k1,k2,k3,k4⟩:=hp
     cases x with
     | normal=>exact⟨.normal,T1,M1,ρ1,rfl,k1,k2,k3,k4⟩
     | ret=>exact⟨.ret,T1,M1,ρ1,rfl,k1,k2,k3,k4⟩
     | exit i =>
       simp only at k4
       split at k4
       ·rename_i he
        have he:=bM he
        subst he
        simp only[Om,Exit.inBlock,if_true]
        exact⟨.normal,T1,M1,ρ1,rfl,k1,k2,k3,k4⟩
       ·rename_i he
        have he:=Bd he
        simp only[Om,Exit.inBlock,if_neg he]
        exact⟨.exit i,T1,M1,ρ1,rfl,k1,k2,k3,k4⟩
   | loop c1 =>
     simp only[wpC] at h
     obtain⟨I,n,hI,hbody⟩:=h
     have hvs:∀ t∈bitsOf (iA f c1 &&& iM ret f env c1 (iM ret f env c1 0)) nt,Nat.testBit (iA f c1) t=true:=fun t' ht'=>by
      have:=(yG.1 ht').2
      rw[Nat.testBit_and,Bool.and_eq_true] at this
      exact this.1
     generalize hv:bitsOf (iA f c1 &&& iM ret f env c1 (iM ret f env c1 0)) nt=vs at hI hbody hvs
     have hu:∀ (ρ ρ' : Ren) (x:AV),aB ρ x undef→aB ρ' x undef:=by
      intro ρ ρ' x hx
      unfold undef at hx ⊢
      cases hx with
      | top=>exact .top _
      | sc v p=>exact .sc _ p
      | tup xs vs a=>cases a; exact .tup _ _ .nil
     have hge:∀ (ρ1:Ren) t,nt≤t→aB ρ1 ((T.get t).getD .top) undef:=fun ρ1 t ht=>hu _ _ _ (hA.ge t ht)
     have key:∀ (m:Nat) (ys:List AV) (M1:RM) (ρ1:Ren) (a1:Act) (w1:World),I m ys M1→After P M0 ρ0 w0 M1 ρ1 w1→fC ρ1 nt (DT T (bitsOf (iA f c1) nt) vs ys) a1 →
       Code.rounds P c1 (WW P nt M0 ρ0 w0 T (iA (f + 1) (.loop c1)) K) (m + 1) a1 w1:=by
      intro m
      induction m using Nat.strongRecOn with
      | _ m ihm =>
        intro ys M1 ρ1 a1 w1 hIm hM1 hA1
        rw[rounds_succ]
        refine wp_mono (ih c1 _ _ _ _ _ (hbody m ys M1 hIm) M0 ρ0 w0 ρ1 a1 w1 hM1 hA1) fun e a' w' hp=>?_
        obtain⟨x,T2,M2,ρ2,rfl,k1,k2,k3,k4⟩:=hp
        have k3' : ∀ t,Nat.testBit (iA f c1) t=false→T2.get t=T.get t:=fun t ht=>by rw[k3 t ht]; exact Li hvs t ht
        cases x with
        | normal =>
          obtain⟨m',hlt,hI'⟩:=k4
          exact Iq (by omega) (ihm m' hlt _ M2 ρ2 a' w' hI' k1 (GA k2 (hge ρ2) k3'))
        | exit i=>exact⟨.exit i,T2,M2,ρ2,rfl,k1,k2,k3',k4⟩
        | ret=>exact⟨.ret,T2,M2,ρ2,rfl,k1,k2,k3',k4⟩
     exact wp_loop_rounds _ (key n _ M ρ a w hI hM (GA hA (hge ρ) fun _ _=>rfl))
   | exit id=>exact wp_exit ⟨.exit id,T,M,ρ,rfl,hM,hA,fun _ _=>rfl,h⟩
   | ret=>exact wp_ret ⟨.ret,T,M,ρ,rfl,hM,hA,fun _ _=>rfl,h⟩
   | rangeFunc=>simp[wpC] at h
   | scope c1 =>
     simp only[wpC] at h
     refine wp_scope_straight (wp_mono (ih c1 _ _ _ _ _ h M0 ρ0 w0 ρ a w hM hA) fun e a' w' hp=>?_)
     obtain⟨x,T1,M1,ρ1,rfl,k1,k2,k3,k4⟩:=hp
     cases x with
     | normal=>exact⟨.normal,T1,M1,ρ1,rfl,k1,k2,k3,k4⟩
     | exit i=>exact⟨.exit i,T1,M1,ρ1,rfl,k1,k2,k3,k4⟩
     | ret=>exact⟨.ret,T1,M1,ρ1,rfl,k1,k2,k3,k4⟩
   | label l=>exact wp_label ⟨.normal,T,M,ρ,rfl,hM,hA,fun _ _=>rfl,h⟩
   | goto=>simp[wpC] at h
   | refuse=>simp[wpC] at h
theorem X0 {ρ:Ren} {T:Tree AV} {M:RM} {a:Act} {w:World} (hA:fC ρ nt T a) (hw:dU P ρ M w) {r:ResultVar} {K:AV→Prop} (h:ZJ P T M r K) :
  ∃ v v',(uB a.tmps r).run P w=.ok v' w∧aB ρ v v'∧K v:=by
 cases r with
 | tmp t=>exact⟨_,_,rfl,hA.val t,h⟩
 | cell x t =>
   simp only[ZJ] at h
   have hv:=hA.val x
   split at h <;> first | (cases h; done) | skip
   ·rename_i ha
    obtain⟨b,p,v,hx,hl,hk⟩:=h
    rw[hx] at hv
    obtain⟨i,hb,hc⟩:=ek hv
    obtain⟨u,hu,hcell⟩:=Pv hw hb hl
    refine⟨v,u, ?_,hu,hk⟩
    simp only[uB,hc,asAddr,Sem.run_bind,Sem.run_pure,Result.andThen_ok,loadVar,ig ha,Bool.false_eq_true,if_false,load,Sem.run,hcell]
   ·rename_i ha
    split at h <;> first | (cases h; done) | skip
    rename_i n hs
    obtain⟨b,p,xs,hx,hl,hk⟩:=h
    rw[hx] at hv
    obtain⟨i,hb,hc⟩:=ek hv
    obtain⟨vs,hr,hlen,_,hrun⟩:=RM.mJ (P:=P) hw hb hl
    exact⟨.agg xs,.agg ⟨vs⟩,by simp only[uB,hc,asAddr,Sem.run_bind,Sem.run_pure,Result.andThen_ok,loadVar,ig ha,if_true,dM hs,hrun],.agg _ _ hr,hk⟩
theorem Dx {ρ:Ren} {T:Tree AV} {M:RM} {a:Act} {w:World} (hA:fC ρ nt T a) (hw:dU P ρ M w) : ∀ (rs:List ResultVar) (K:List AV→Prop),aa3 P T M rs K →
  ∃ vs us,(rs.mapM (uB a.tmps)).run P w=.ok us w∧bC ρ vs us∧K vs
 | [],K,h=>⟨[],[],by simp,.nil,h⟩
 | r :: rs,K,h=>by
   obtain⟨v,v',h1,h2,h3⟩:=X0 hA hw h
   obtain⟨vs,us,h4,h5,h6⟩:=Dx hA hw rs _ h3
   refine⟨v :: vs,v' :: us, ?_,.cons _ _ _ _ h2 h5,h6⟩
   simp only[List.mapM_cons,Sem.run_bind,h1,Result.andThen_ok,h4,Sem.run_pure]
theorem ND (hP:KV P) {f:FuncId} {fn:Func} {c:Code} {args:List AV} {M:RM} {Q:ak} (hfn:P.funcs[f]?=some fn) (hbody:fn.body=some c) (h:YU P fn c args M Q) : iG P f args M Q:=by
 refine⟨⟨fn,c,hfn,hbody⟩,fun ρ w us hargs hw=>?_⟩
 have hlen:=hargs.length
 have hA:fC ρ (args.length + (fn.ntmps - args.length)) (Tree.ofList args 0 .leaf) { tmps:=⟨us⟩++Array.replicate (fn.ntmps - (⟨us⟩ : Array Value).size) undef,defers:=[] } := by
  refine⟨by simp[hlen],fun t=>?_,rfl⟩
  rw[Tree.kT]
  by_cases ht:t<args.length
  ·rw[if_pos (by omega),Nat.sub_zero]
   obtain⟨u,hu,hv⟩:=hargs.get (n:=t) (x:=args[t]) (by simp[ht])
   rw[List.getElem?_eq_getElem ht]
   simp only[Option.getD_some]
   have:((⟨us⟩ : Array Value)++Array.replicate (fn.ntmps - (⟨us⟩ : Array Value).size) undef).getD t undef=u:=by
    rw[Array.getD_eq_getD_getElem?,Array.getElem?_append_left (by simp; omega)]
    simp[hu]
   rw[this]; exact hv
  ·rw[if_neg (by omega)]
   exact .top _
 refine calls_of_wp hfn hbody (wp_mono (YH hP 1000 c [] 0 _ M _ h M ρ w ρ _ w (After.refl hw) hA) fun e a w' hp=>?_)
 obtain⟨x,T',M',ρ',rfl,k1,k2,k3,k4⟩:=hp
 have key:(∃ vs us,(fn.results.toList.mapM (uB a.tmps)).run P w'=.ok us w'∧bC ρ' vs us∧ac7 Q M' vs) →
   a.defers=[]∧∃ v,(results fn a.tmps).run P w'=.ok v w'∧∃ v' v_1 ad9 ad8,Ending.returned v=.returned v'∧After P M ρ w ad9 ad8 w'∧aB ad8 v_1 v'∧Q v_1 ad9:=by
  rintro⟨vs,us,h1,h2,h3⟩
  have hres:(results fn a.tmps).run P w'=.ok (if h:(⟨us⟩ : Array Value).size=1 then(⟨us⟩ : Array Value)[0] else .tuple ⟨us⟩) w':=by
   have e:results fn a.tmps=(fn.results.mapM (uB a.tmps) >>= fun vs=>pure (if h:vs.size=1 then vs[0] else .tuple vs)):=rfl
   rw[e,Array.mapM_eq_mapM_toList]
   simp only[Sem.run_bind,Sem.run_map,h1,Result.andThen_ok,Sem.run_pure]
  refine⟨k2.defers,_,hres, ?_⟩
  cases h2 with
  | nil=>exact⟨_,_,M',ρ',rfl,k1,.tup _ _ .nil,h3⟩
  | cons x v xs vs2 hv htl =>
    cases htl with
    | nil=>exact⟨_,x,M',ρ',rfl,k1,hv,h3⟩
    | cons y u ys us2 hu afX=>exact⟨_,_,M',ρ',rfl,k1,.tup _ _ (.cons _ _ _ _ hv (.cons _ _ _ _ hu afX)),h3⟩
 cases x with
 | normal=>exact key (Dx k2 k1.rel _ _ k4)
 | ret=>exact key (Dx k2 k1.rel _ _ k4)
 | exit id=>exact k4.elim
abbrev ai:=List AV→RM→ak→Prop
def Oj (P:Program) (fn:Func) (args:List AV) (M:RM) (Q:ak) : Prop :=
 match fn.body with
 | some c=>YU P fn c args M Q
 | none=>False
theorem Zy (hP:KV P) {f:FuncId} {fn:Func} {args:List AV} {M:RM} {Q:ak} (hfn:P.funcs[f]?=some fn) (h:Oj P fn args M Q) : iG P f args M Q:=by
 unfold Oj at h
 split at h
 ·rename_i c hc; exact ND hP hfn hc h
 ·cases h
end
end Go.Ab
set_option maxRecDepth 100000
namespace Go.Ab.Vw
open Go Go.Ab
def sO (p1 p2:ai) (p3:Nat) (p4 p5 p6 p7 p8 p9:ai) (p10:Nat) (p11 p12 p13:ai) (a0 a1 a2 a3 a4:AV) (M0:RM) (Q:ak) : Prop :=
 p1 [] M0 fun xz s =>
 cK xz fun x0 =>
 au x0 (
 Q (Bo false) s) (
 bQ a0 fun x1 =>
 af .gtr x1 (N .i64 50) fun x2 =>
 au x2 (
 Q (Bo true) s) (
 p2 [a0] s fun e vk =>
 jo [(N .i64 0),(N .u64 0)] [(0,1,(N .i64 15)),(1,1,(N .u64 549755813888))] fun x3 =>
 bP (.row [(N .i64 0),(N .u64 0)] false p3 0) (fun n=>.ptr n 0) vk fun o vl =>
 aC vl o x3 2 fun vm =>
 aM (fun wh q l =>
 bQ e fun x4 =>
 af .lss (aa q 0) x4 fun x5 =>
 au x5 (
 ah e (aa q 0) 7 fun x7 =>
 aJ x7 0 fun x8 =>
 av l x8 2 fun x9 =>
 av l o 2 fun ya =>
 jw false [1,1] x9 ya fun g =>
 ae g false (fun c=>c e l none) (fun c=>c .undef l none) fun yb H n =>
 ae g false (fun v4=>v4 (aa q 0) H none) (fun c=>c .undef H none) fun yc S y7 =>
 ae g false (fun we=>ah yb yc 7 fun yd =>
 we yd S none) (fun c=>c .undef S none) fun ye D y3 =>
 ae g false (fun vy=>aJ ye 6 fun yf =>
 vy yf D none) (fun c=>c .undef D none) fun yg t y4 =>
 ae g false (fun vz=>az t yg fun yh =>
 vz yh t none) (fun c=>c .undef t none) fun yi u y5 =>
 ae g false (fun v0=>av u o 2 fun yj =>
 v0 yj u none) (fun c=>c .undef u none) fun yk E y6 =>
 aj g false (fun v1=>p4 [yi,yk] E fun yl vn =>
 v1 yl vn) (fun c=>c .undef E) fun ym F =>
 aL g (Bo true) ym fun yn =>
 au yn (
 Q (Bo true) F) (
 af .add (aa q 0) (N .i64 1) fun x6 =>
 wh [x6] F)) (
 p5 [e] l fun vi vo =>
 p6 [] vo fun j vp =>
 aM (fun wi C v =>
 bQ e fun yo =>
 af .lss (aa C 0) yo fun yp =>
 au yp (
 af .and a1 (N .i64 1023) fun yr =>
 af .add (aa C 0) yr fun ys =>
 bQ e fun yt =>
 af .rem ys yt fun yu =>
 ah e yu 7 fun yv =>
 av v yv 7 fun yw =>
 p7 [j,yw] v fun zb vq =>
 af .add (aa C 0) (N .i64 1) fun yq =>
 wi [yq] vq) (
 p8 [vi] v fun B vr =>
 p8 [j] vr fun vj G =>
 bQ B fun yx =>
 bQ vj fun yy =>
 af .neq yx yy fun yz =>
 au yz (
 Q (Bo false) G) (
 aM (fun wj r h =>
 bQ B fun y0 =>
 af .lss (aa r 0) y0 fun y1 =>
 au y1 (
 ah B (aa r 0) 3 fun wm =>
 av h wm 3 fun wn =>
 ah vj (aa r 0) 3 fun wo =>
 av h wo 3 fun wp =>
 jw true [2,2,1] wn wp fun wq =>
 au wq (
 Q (Bo false) h) (
 af .add (aa r 0) (N .i64 1) fun y2 =>
 wj [y2] h)) (
 av h o 2 fun wr =>
 p9 [j,wr,a2,a3,a4] h fun vc vs =>
 dm vc 0 fun ws =>
 dm vc 1 fun wt =>
 bP (.row [(N .i64 0),(N .u64 0),(N .i64 0),(St []),(St []),(St []),(.sc (.slice none 0 0))] false p10 0) (fun n=>.ptr n 0) vs fun vh vt =>
 aC vt vh ws 7 fun w =>
 af .neq wt (N .i64 0) fun wu =>
 au wu (
 Q (Bo true) w) (
 av w vh 7 fun wv =>
 p7 [j,wv] w fun y8 vu =>
 p11 [j,a2] vu fun vd I =>
 dm vd 0 fun ve =>
 dm vd 1 fun ww =>
 af .neq ww (N .i64 0) fun wx =>
 au wx (
 Q (Bo false) I) (
 aM (fun wk d x =>
 bQ ve fun wy =>
 af .lss (aa d 1) wy fun wz =>
 au wz (
 aj (aa d 0) false (fun v2=>v2 ve x) (fun c=>c .undef x) fun w1 L =>
 aj (aa d 0) false (fun v3=>v3 (aa d 1) L) (fun c=>c .undef L) fun w2 O =>
 aj (aa d 0) false (fun v5=>ah w1 w2 3 fun w3 =>
 v5 w3 O) (fun c=>c .undef O) fun w4 y =>
 aj (aa d 0) false (fun v6=>av y w4 3 fun w5 =>
 v6 w5 y) (fun c=>c .undef y) fun w6 P =>
 aj (aa d 0) false (fun v7=>v7 a3 P) (fun c=>c .undef P) fun w7 R =>
 aj (aa d 0) false (fun v8=>v8 a4 R) (fun c=>c .undef R) fun w8 U =>
 aj (aa d 0) false (fun v9=>jo [(St []),(St []),(N .i64 0)] [(0,1,w7),(1,1,w8),(2,1,(N .i64 1))] fun w9 =>
 v9 w9 U) (fun c=>c .undef U) fun xa V =>
 aj (aa d 0) false (fun wa=>jw false [2,2,1] w6 xa fun xb =>
 wa xb V) (fun c=>c .undef V) fun xc vv =>
 aL (aa d 0) (Bo true) xc fun xd =>
 af .add (aa d 1) (N .i64 1) fun w0 =>
 wk [xd,w0] vv) (
 p12 [e] x fun xe vw =>
 p13 [xe] vw fun p vx =>
 aM (fun wl m z =>
 bQ p fun xf =>
 af .lss (aa m 0) xf fun xg =>
 au xg (
 ah p (aa m 0) 1 fun xi =>
 az z xi fun xj =>
 p11 [vi,xj] z fun vf W =>
 dm vf 0 fun xk =>
 dm vf 1 fun y9 =>
 ah p (aa m 0) 1 fun xl =>
 az W xl fun xm =>
 p11 [j,xm] W fun vg A =>
 dm vg 0 fun xn =>
 dm vg 1 fun za =>
 ah p (aa m 0) 1 fun xo =>
 az A xo fun xp =>
 gV .neq xp a2 fun i =>
 aj i true (fun wb=>wb xk A) (fun c=>c .undef A) fun xq X =>
 aj i true (fun wc=>bQ xq fun xr =>
 wc xr X) (fun c=>c .undef X) fun xs Y =>
 aj i true (fun wd=>wd xn Y) (fun c=>c .undef Y) fun xt Z =>
 aj i true (fun wf=>bQ xt fun xu =>
 wf xu Z) (fun c=>c .undef Z) fun xv va =>
 aj i true (fun wg=>af .neq xs xv fun xw =>
 wg xw va) (fun c=>c .undef va) fun xx vb =>
 aL i xx (Bo false) fun xy =>
 au xy (
 Q (Bo false) vb) (
 af .add (aa m 0) (N .i64 1) fun xh =>
 wl [xh] vb)) (
 Q (aa d 0) z)) [(N .i64 0)] vx)) [(Bo false),(N .i64 0)] I)))) [(N .i64 0)] G))) [(N .i64 0)] vp)) [(N .i64 0)] vm))
def DX (p1 p2:ai) (a0:AV) (M0:RM) (Q:ak) : Prop :=
 p1 [] M0 fun g n =>
 aM (fun s h i =>
 jP true 1 g (.sc (.pointer none)) fun d =>
 aj d true (fun c=>c (aa h 0) i) (fun c=>c .undef i) fun C j =>
 aj d true (fun p=>p a0 j) (fun c=>c .undef j) fun t l =>
 aj d true (fun q=>bQ t fun u =>
 q u l) (fun c=>c .undef l) fun v m =>
 aj d true (fun r=>af .lss C v fun w =>
 r w m) (fun c=>c .undef m) fun x e =>
 aL d x (Bo false) fun y =>
 au y (
 ah a0 (aa h 0) 7 fun A =>
 av e A 7 fun B =>
 p2 [g,B] e fun D o =>
 af .add (aa h 0) (N .i64 1) fun z =>
 s [z] o) (
 Q g e)) [(N .i64 0)] n
def EK (p1:ai) (a0 a1:AV) (M0:RM) (Q:ak) : Prop :=
 p1 [a0,a1] M0 fun d c =>
 bQ d fun e =>
 af .eql e (N .i64 0) fun g =>
 au g (
 Q (.tup [(.sc (.slice none 0 0)),(N .i64 4)]) c) (
 Q (.tup [d,(N .i64 0)]) c)
def BD (p1:ai) (p2:Nat) (p3:ai) (p4:Nat) (p5:ai) (p6:Nat) (a0:AV) (M0:RM) (Q:ak) : Prop :=
 p1 [a0] M0 fun p r =>
 bQ p fun F =>
 aM (fun C c h =>
 af .lss (aa c 1) F fun G =>
 au G (
 ah p (aa c 1) 1 fun H =>
 az h H fun j =>
 jo [(St []),(St []),(N .i64 0)] [(0,1,j),(1,1,j)] fun I =>
 bP (.row [(St []),(St []),(N .i64 0)] false p2 0) (fun i=>.ptr i 0) h fun d s =>
 aC s d I 3 fun y =>
 p3 [a0,j] y fun q z =>
 bQ q fun L =>
 aM (fun D m e =>
 af .lss (aa m 0) L fun O =>
 au O (
 bR (fun n =>
 ah q (aa m 0) 3 fun P =>
 av e P 3 fun R =>
 bP (.row [(St []),(St []),(N .i64 0)] false p4 0) (fun i=>.ptr i 0) e fun l A =>
 aC A l R 3 fun o =>
 aJ d 2 fun S =>
 az o S fun U =>
 af .add U (N .i64 1) fun V =>
 aJ d 2 fun W =>
 aC o W V 1 fun g =>
 aJ l 0 fun X =>
 az g X fun Y =>
 gV .eql Y (St [102,110]) fun Z =>
 au Z (
 aJ l 1 fun va =>
 az g va fun vb =>
 aJ d 1 fun vc =>
 aC g vc vb 1 fun t =>
 n [] t) (
 n [] g)) (fun vj u =>
 af .add (aa m 0) (N .i64 1) fun vd =>
 D [vd] u)) (
 av e d 3 fun ve =>
 dW p2 1 [(St []),(St []),(N .i64 0)] [(0,3,ve)] fun E B =>
 bP E B e fun vf v =>
 appW p2 3 40 [(St []),(St []),(N .i64 0)] false (aa c 0) vf v fun vg w =>
 af .add (aa c 1) (N .i64 1) fun vh =>
 C [vg,vh] w)) [(N .i64 0)] z) (
 p5 [(aa c 0),(.fn (.func p6) [] [])] h fun vi x =>
 Q (aa c 0) x)) [(.sc (.slice none 0 0)),(N .i64 0)] r
def xQ (p1:Nat) (p2:ai) (a0:AV) (M0:RM) (Q:ak) : Prop :=
 bP (.row [(N .i64 0),(N .u64 0),(St []),(St []),(St [])] false p1 0) (fun c=>.ptr c 0) M0 fun e h =>
 bQ a0 fun S =>
 af .eql S (N .i64 0) fun U =>
 au U (
 jo [(N .i64 0),(N .u64 0),(St []),(St []),(St [])] [] fun y =>
 aC h e y 5 fun o =>
 av o e 5 fun w =>
 Q (.tup [w,(Bo false)]) o) (
 ah a0 (N .i64 0) 5 fun z =>
 av h z 5 fun A =>
 bP (.row [(N .i64 0),(N .u64 0),(St []),(St []),(St [])] false p1 0) (fun c=>.ptr c 0) h fun g q =>
 aC q g A 5 fun r =>
 bQ a0 fun B =>
 aM (fun v m d =>
 af .lss (aa m 0) B fun C =>
 au C (
 bR (fun n =>
 ah a0 (aa m 0) 5 fun D =>
 av d D 5 fun E =>
 bP (.row [(N .i64 0),(N .u64 0),(St []),(St []),(St [])] false p1 0) (fun c=>.ptr c 0) d fun l s =>
 aC s l E 5 fun i =>
 aJ g 0 fun F =>
 av i F 2 fun G =>
 aJ l 0 fun H =>
 av i H 2 fun I =>
 p2 [G,I] i fun L j =>
 au L (
 av j l 5 fun O =>
 aC j g O 5 fun t =>
 n [] t) (
 n [] j)) (fun V u =>
 af .add (aa m 0) (N .i64 1) fun P =>
 v [P] u)) (
 av d g 5 fun R =>
 aC d e R 5 fun p =>
 av p e 5 fun x =>
 Q (.tup [x,(Bo true)]) p)) [(N .i64 0)] r)
def Tz (p1:Nat) (p2:ai) (a0:AV) (M0:RM) (Q:ak) : Prop :=
 LV p1 96 [(N .i64 0),(N .u64 0),(N .i64 0),(St []),(St []),(St []),(.sc (.slice none 0 0))] (N .i64 0) (N .i64 0) fun U A =>
 bP U A M0 fun v4 u =>
 aM (fun R e h =>
 bQ a0 fun W =>
 af .lss (aa e 1) W fun X =>
 au X (
 bR (fun l =>
 ah a0 (aa e 1) 7 fun Z =>
 av h Z 7 fun va =>
 p2 [va] h fun vb v =>
 cK vb fun vc =>
 aM (fun S d g =>
 bQ (aa e 0) fun vd =>
 af .lss (aa d 1) vd fun ve =>
 au ve (
 ae (aa d 0) false (fun c=>c (aa e 0) g none) (fun c=>c .undef g none) fun vg s v6 =>
 ae (aa d 0) false (fun O=>O (aa d 1) s none) (fun c=>c .undef s none) fun vh t wg =>
 ae (aa d 0) false (fun P=>ah vg vh 7 fun vi =>
 P vi t none) (fun c=>c .undef t none) fun vj m v7 =>
 ae (aa d 0) false (fun C=>aJ vj 0 fun vk =>
 C vk m none) (fun c=>c .undef m none) fun vl i v8 =>
 ae (aa d 0) false (fun D=>av i vl 2 fun vm =>
 D vm i none) (fun c=>c .undef i none) fun vn n v9 =>
 ae (aa d 0) false (fun E=>E a0 n none) (fun c=>c .undef n none) fun vo o wa =>
 ae (aa d 0) false (fun F=>F (aa e 1) o none) (fun c=>c .undef o none) fun vp p wb =>
 ae (aa d 0) false (fun G=>ah vo vp 7 fun vq =>
 G vq p none) (fun c=>c .undef p none) fun vr q wc =>
 ae (aa d 0) false (fun H=>aJ vr 0 fun vs =>
 H vs q none) (fun c=>c .undef q none) fun vt j wd =>
 ae (aa d 0) false (fun I=>av j vt 2 fun vu =>
 I vu j none) (fun c=>c .undef j none) fun vv r we =>
 ae (aa d 0) false (fun L=>jw false [1,1] vn vv fun vw =>
 L vw r none) (fun c=>c .undef r none) fun vx w wf =>
 aL (aa d 0) (Bo true) vx fun vy =>
 af .add (aa d 1) (N .i64 1) fun vf =>
 S [vy,vf] w) (
 cK (aa d 0) fun vz =>
 au vz (
 ah a0 (aa e 1) 7 fun v0 =>
 av g v0 7 fun v1 =>
 dW p1 1 [(N .i64 0),(N .u64 0),(N .i64 0),(St []),(St []),(St []),(.sc (.slice none 0 0))] [(0,7,v1)] fun V B =>
 bP V B g fun v2 x =>
 appW p1 7 96 [(N .i64 0),(N .u64 0),(N .i64 0),(St []),(St []),(St []),(.sc (.slice none 0 0))] false (aa e 0) v2 x fun v3 y =>
 l [v3] y) (
 l [(aa e 0)] g))) [vc,(N .i64 0)] v) (fun v5 z =>
 af .add (aa e 1) (N .i64 1) fun Y =>
 R [(aa v5 0),Y] z)) (
 Q (aa e 0) h)) [v4,(N .i64 0)] u
def xU (p1 p2 p3:ai) (p4 p5:Nat) (a0 a1:AV) (M0:RM) (Q:ak) : Prop :=
 p1 [a0,a1] M0 fun E q =>
 p2 [E] q fun n r =>
 bQ n fun F =>
 aM (fun B e g =>
 af .lss (aa e 1) F fun G =>
 au G (
 ah n (aa e 1) 1 fun H =>
 az g H fun h =>
 p3 [h] g fun o v =>
 dm o 0 fun I =>
 dm o 1 fun vf =>
 bP (.row [(N .i64 0),(N .u64 0),(St []),(St []),(St [])] false p4 0) (fun d=>.ptr d 0) v fun i w =>
 aC w i I 5 fun x =>
 bP (.map [] 0) (fun d=>.map d) x fun p y =>
 bQ h fun L =>
 aM (fun C j c =>
 af .lss (aa j 0) L fun O =>
 au O (
 ah h (aa j 0) 5 fun P =>
 av c P 5 fun R =>
 bP (.row [(N .i64 0),(N .u64 0),(St []),(St []),(St [])] false p4 0) (fun d=>.ptr d 0) c fun m z =>
 aC z m R 5 fun l =>
 aJ m 4 fun S =>
 az l S fun U =>
 GJ false [2] l p U (Bo true) fun s =>
 af .add (aa j 0) (N .i64 1) fun V =>
 C [V] s) (
 aJ i 3 fun W =>
 az c W fun X =>
 aJ i 4 fun Y =>
 az c Y fun Z =>
 UN c p fun va =>
 jo [(St []),(St []),(N .i64 0)] [(0,1,X),(1,1,Z),(2,1,va)] fun vb =>
 dW p5 1 [(St []),(St []),(N .i64 0)] [(0,3,vb)] fun D A =>
 bP D A c fun vc t =>
 appW p5 3 40 [(St []),(St []),(N .i64 0)] false (aa e 0) vc t fun vd u =>
 af .add (aa e 1) (N .i64 1) fun ve =>
 B [vd,ve] u)) [(N .i64 0)] y) (
 Q (aa e 0) g)) [(.sc (.slice none 0 0)),(N .i64 0)] r
def iX (p1 p2:ai) (a0 a1:AV) (M0:RM) (Q:ak) : Prop :=
 bQ a0 fun c =>
 lG .u64 c fun g =>
 p1 [g] M0 fun h d =>
 p2 [a0,(N .i64 0),c,h,a1] d fun i e =>
 Q (.tup []) e
def xY (p1:Nat) (p2:ai) (p3:Nat) (p4:ai) (a0 a1:AV) (M0:RM) (Q:ak) : Prop :=
 gz p1 a0 fun t q =>
 bP t q M0 fun j m =>
 gz p1 a1 fun u r =>
 bP u r m fun l c =>
 aJ j 1 fun B =>
 az c B fun C =>
 aJ l 1 fun D =>
 az c D fun E =>
 aJ j 0 fun e =>
 az c e fun g =>
 aJ l 0 fun h =>
 az c h fun i =>
 p2 [C,E] c fun F d =>
 az d e fun w =>
 (w=g∧az d h fun x =>
 (x=i∧p2 [g,i] d fun y n =>
 dW p3 2 [(N .i64 0)] [(0,1,F),(1,1,y)] fun v s =>
 sP v s n fun z o G =>
 p4 [z] o fun A p =>
 Q A p))
def xP (p1 p2:Nat) (a0:AV) (M0:RM) (Q:ak) : Prop :=
 bQ a0 fun w3 =>
 aM (fun vo g j =>
 af .lss (aa g 1) w3 fun w4 =>
 au w4 (
 bR (fun H =>
 ah a0 (aa g 1) 5 fun vr =>
 av j vr 5 fun vs =>
 bP (.row [(N .i64 0),(N .u64 0),(St []),(St []),(St [])] false p1 0) (fun G=>.ptr G 0) j fun i I =>
 aC I i vs 5 fun r =>
 bR (fun q =>
 af .eql (aa g 1) (N .i64 0) fun d =>
 ae d false (fun c=>c a0 r none) (fun c=>c .undef r none) fun vt v G =>
 ae d false (fun vf=>vf (aa g 1) v none) (fun c=>c .undef v none) fun vu B xj =>
 ae d false (fun vn=>af .sub vu (N .i64 1) fun vv =>
 vn vv B none) (fun c=>c .undef B none) fun vw F w6 =>
 ae d false (fun X=>ah vt vw 5 fun vx =>
 X vx F none) (fun c=>c .undef F none) fun vy s w7 =>
 ae d false (fun Y=>aJ vy 2 fun vz =>
 Y vz s none) (fun c=>c .undef s none) fun v0 l w8 =>
 ae d false (fun Z=>az l v0 fun v1 =>
 Z v1 l none) (fun c=>c .undef l none) fun v2 t w9 =>
 ae d false (fun va=>aJ i 2 fun v3 =>
 va v3 t none) (fun c=>c .undef t none) fun v4 m xa =>
 ae d false (fun vb=>az m v4 fun v5 =>
 vb v5 m none) (fun c=>c .undef m none) fun v6 u xb =>
 ae d false (fun vc=>gV .neq v2 v6 fun v7 =>
 vc v7 u none) (fun c=>c .undef u none) fun v8 w xc =>
 aL d (Bo true) v8 fun e =>
 ae e false (fun vd=>vd a0 w none) (fun c=>c .undef w none) fun v9 x xd =>
 ae e false (fun ve=>ve (aa g 1) x none) (fun c=>c .undef x none) fun wa y xe =>
 ae e false (fun vg=>af .sub wa (N .i64 1) fun wb =>
 vg wb y none) (fun c=>c .undef y none) fun wc z xf =>
 ae e false (fun vh=>ah v9 wc 5 fun wd =>
 vh wd z none) (fun c=>c .undef z none) fun we A xg =>
 ae e false (fun vi=>aJ we 3 fun wf =>
 vi wf A none) (fun c=>c .undef A none) fun wg n xh =>
 ae e false (fun vj=>az n wg fun wh =>
 vj wh n none) (fun c=>c .undef n none) fun wi C xi =>
 ae e false (fun vk=>aJ i 3 fun wj =>
 vk wj C none) (fun c=>c .undef C none) fun wk o xk =>
 ae e false (fun vl=>az o wk fun wl =>
 vl wl o none) (fun c=>c .undef o none) fun wm D xl =>
 ae e false (fun vm=>gV .neq wi wm fun wn =>
 vm wn D none) (fun c=>c .undef D none) fun wo E xm =>
 aL e (Bo true) wo fun wp =>
 au wp (
 dW p2 1 [(.sc (.slice none 0 0))] [(0,1,(.sc (.slice none 0 0)))] fun vp V =>
 bP vp V E fun wq L =>
 appW p2 1 24 [(.sc (.slice none 0 0))] false (aa g 0) wq L fun wr O =>
 q [wr] O) (
 q [(aa g 0)] E)) (fun h p =>
 bQ (aa h 0) fun ws =>
 af .sub ws (N .i64 1) fun wt =>
 bQ (aa h 0) fun wu =>
 af .sub wu (N .i64 1) fun wv =>
 ah (aa h 0) wv 1 fun ww =>
 az p ww fun wx =>
 av p i 5 fun wy =>
 dW p1 1 [(N .i64 0),(N .u64 0),(St []),(St []),(St [])] [(0,5,wy)] fun vq W =>
 sP vq W p fun wz P xn =>
 appW p1 5 64 [(N .i64 0),(N .u64 0),(St []),(St []),(St [])] false wx wz P fun w0 R =>
 ah (aa h 0) wt 1 fun w1 =>
 aC R w1 w0 1 fun S =>
 H [(aa h 0)] S)) (fun w5 U =>
 af .add (aa g 1) (N .i64 1) fun w2 =>
 vo [(aa w5 0),w2] U)) (
 Q (aa g 0) j)) [(.sc (.slice none 0 0)),(N .i64 0)] M0
def fw (p1 p2 p3 p4 p5 p6:ai) (cv:(FuncId→ai)) (p7 p8 p9:ai) (a0 a1 a2 a3 a4:AV) (M0:RM) (Q:ak) : Prop :=
 aM (fun n c i =>
 af .sub (aa c 1) (aa c 0) fun W =>
 af .leq W (N .i64 12) fun v4 =>
 au v4 (
 p1 [a0,(aa c 0),(aa c 1),a4] i fun xi va =>
 Q (.tup []) va) (
 af .eql (aa c 2) (N .i64 0) fun v5 =>
 au v5 (
 p2 [a0,(aa c 0),(aa c 1),a4] i fun xj vb =>
 Q (.tup []) vb) (
 bR (fun p =>
 cK (aa c 3) fun v6 =>
 au v6 (
 p3 [a0,(aa c 0),(aa c 1),a4] i fun xk vc =>
 af .sub (aa c 2) (N .i64 1) fun v7 =>
 p [v7] vc) (
 p [(aa c 2)] i)) (fun h vd =>
 p4 [a0,(aa c 0),(aa c 1),a4] vd fun X E =>
 dm X 0 fun Y =>
 dm X 1 fun Z =>
 bR (fun r =>
 af .eql Z (N .i64 2) fun v8 =>
 au v8 (
 p5 [a0,(aa c 0),(aa c 1),a4] E fun xl vi =>
 af .sub (aa c 1) (N .i64 1) fun v9 =>
 af .sub Y (aa c 0) fun wa =>
 af .sub v9 wa fun wb =>
 r [wb,(N .i64 1)] vi) (
 r [Y,Z] E)) (fun j O =>
 bR (fun q =>
 aj (aa c 3) true (fun d=>d (aa c 4) O) (fun d=>d .undef O) fun wc s =>
 aL (aa c 3) wc (Bo false) fun o =>
 aj o true (fun vj=>vj (aa j 1) s) (fun d=>d .undef s) fun wd t =>
 aj o true (fun vk=>af .eql wd (N .i64 1) fun we =>
 vk we t) (fun d=>d .undef t) fun wf u =>
 aL o wf (Bo false) fun wg =>
 au wg (
 p6 [a0,(aa c 0),(aa c 1),a4] u fun wh v =>
 au wh (
 Q (.tup []) v) (
 q [] v)) (
 q [] u)) (fun xm w =>
 af .gtr (aa c 0) (N .i64 0) fun e =>
 ae e true (fun vl=>vl a4 w none) (fun d=>d .undef w none) fun wi x w4 =>
 ae e true (fun vm=>vm a0 x none) (fun d=>d .undef x none) fun wj y w5 =>
 ae e true (fun vn=>vn (aa c 0) y none) (fun d=>d .undef y none) fun wk z w6 =>
 ae e true (fun vo=>af .sub wk (N .i64 1) fun wl =>
 vo wl z none) (fun d=>d .undef z none) fun wm A w7 =>
 ae e true (fun vp=>ah wj wm 3 fun wn =>
 vp wn A none) (fun d=>d .undef A none) fun wo l w8 =>
 ae e true (fun vq=>av l wo 3 fun wp =>
 vq wp l none) (fun d=>d .undef l none) fun wq B w9 =>
 ae e true (fun vr=>vr a0 B none) (fun d=>d .undef B none) fun wr C xa =>
 ae e true (fun vs=>vs (aa j 0) C none) (fun d=>d .undef C none) fun ws D xb =>
 ae e true (fun vt=>ah wr ws 3 fun wt =>
 vt wt D none) (fun d=>d .undef D none) fun wu m xc =>
 ae e true (fun vu=>av m wu 3 fun wv =>
 vu wv m none) (fun d=>d .undef m none) fun ww F xd =>
 aj e true (fun vv=>bD cv wi [wq,ww] F fun wx ve =>
 vv wx ve) (fun d=>d .undef F) fun wy G =>
 ae e true (fun vw=>af .lss wy (N .i64 0) fun wz =>
 vw wz G none) (fun d=>d .undef G none) fun w0 H xe =>
 ae e true (fun vx=>cK w0 fun w1 =>
 vx w1 H none) (fun d=>d .undef H none) fun w2 I xf =>
 aL e w2 (Bo false) fun w3 =>
 au w3 (
 p7 [a0,(aa c 0),(aa c 1),(aa j 0),a4] I fun vy vf =>
 n [vy,(aa c 1),(aa h 0),(aa c 3),(aa c 4)] vf) (
 p8 [a0,(aa c 0),(aa c 1),(aa j 0),a4] I fun P L =>
 dm P 0 fun g =>
 dm P 1 fun R =>
 af .sub g (aa c 0) fun S =>
 af .sub (aa c 1) g fun U =>
 af .quo W (N .i64 8) fun V =>
 af .lss S U fun vz =>
 au vz (
 af .geq S V fun v0 =>
 p9 [a0,(aa c 0),g,(aa h 0),a4] L fun xg vg =>
 af .add g (N .i64 1) fun v1 =>
 n [v1,(aa c 1),(aa h 0),v0,R] vg) (
 af .geq U V fun v2 =>
 af .add g (N .i64 1) fun v3 =>
 p9 [a0,v3,(aa c 1),(aa h 0),a4] L fun xh vh =>
 n [(aa c 0),g,(aa h 0),v2,R] vh)))))))) [a1,a2,a3,(Bo true),(Bo true)] M0
def dX (cv:(FuncId→ai)) (a0 a1 a2 a3:AV) (M0:RM) (Q:ak) : Prop :=
 af .add a1 (N .i64 1) fun R =>
 aM (fun O j l =>
 af .lss (aa j 0) a2 fun S =>
 au S (
 aM (fun P e o =>
 af .gtr (aa e 0) a1 fun d =>
 ae d true (fun c=>c a3 o none) (fun c=>c .undef o none) fun V r vy =>
 ae d true (fun H=>H a0 r none) (fun c=>c .undef r none) fun W u v7 =>
 ae d true (fun L=>L (aa e 0) u none) (fun c=>c .undef u none) fun X v v8 =>
 ae d true (fun z=>ah W X 3 fun Y =>
 z Y v none) (fun c=>c .undef v none) fun Z h vz =>
 ae d true (fun A=>av h Z 3 fun va =>
 A va h none) (fun c=>c .undef h none) fun vb m v0 =>
 ae d true (fun B=>B a0 m none) (fun c=>c .undef m none) fun vc n v1 =>
 ae d true (fun C=>C (aa e 0) n none) (fun c=>c .undef n none) fun vd p v2 =>
 ae d true (fun D=>af .sub vd (N .i64 1) fun ve =>
 D ve p none) (fun c=>c .undef p none) fun vf q v3 =>
 ae d true (fun E=>ah vc vf 3 fun vg =>
 E vg q none) (fun c=>c .undef q none) fun vh i v4 =>
 ae d true (fun F=>av i vh 3 fun vi =>
 F vi i none) (fun c=>c .undef i none) fun vj s v5 =>
 aj d true (fun G=>bD cv V [vb,vj] s fun vk w =>
 G vk w) (fun c=>c .undef s) fun vl t =>
 ae d true (fun I=>af .lss vl (N .i64 0) fun vm =>
 I vm t none) (fun c=>c .undef t none) fun vn g v6 =>
 aL d vn (Bo false) fun vo =>
 au vo (
 af .sub (aa e 0) (N .i64 1) fun vq =>
 af .sub (aa e 0) (N .i64 1) fun vr =>
 ah a0 vr 3 fun vs =>
 av g vs 3 fun vt =>
 ah a0 (aa e 0) 3 fun vu =>
 av g vu 3 fun vv =>
 ah a0 (aa e 0) 3 fun vw =>
 aC g vw vt 3 fun x =>
 ah a0 vq 3 fun vx =>
 aC x vx vv 3 fun y =>
 af .sub (aa e 0) (N .i64 1) fun vp =>
 P [vp] y) (
 af .add (aa j 0) (N .i64 1) fun U =>
 O [U] g)) [(aa j 0)] l) (
 Q (.tup []) l)) [R] M0
def jN (p1:ai) (a0 a1 a2 a3:AV) (M0:RM) (Q:ak) : Prop :=
 af .sub a2 a1 fun e =>
 af .sub e (N .i64 1) fun p =>
 af .quo p (N .i64 2) fun q =>
 aM (fun n g h =>
 af .geq (aa g 0) (N .i64 0) fun r =>
 au r (
 p1 [a0,(aa g 0),e,a1,a3] h fun E i =>
 af .sub (aa g 0) (N .i64 1) fun s =>
 n [s] i) (
 af .sub e (N .i64 1) fun t =>
 aM (fun o c d =>
 af .geq (aa c 0) (N .i64 0) fun u =>
 au u (
 af .add a1 (aa c 0) fun w =>
 af .add a1 (aa c 0) fun x =>
 ah a0 x 3 fun y =>
 av d y 3 fun z =>
 ah a0 a1 3 fun A =>
 av d A 3 fun B =>
 ah a0 a1 3 fun C =>
 aC d C z 3 fun j =>
 ah a0 w 3 fun D =>
 aC j D B 3 fun l =>
 p1 [a0,(N .i64 0),(aa c 0),a1,a3] l fun F m =>
 af .sub (aa c 0) (N .i64 1) fun v =>
 o [v] m) (
 Q (.tup []) d)) [t] h)) [q] M0
def iC (p1:Nat) (p2 p3:ai) (a0 a1 a2 a3:AV) (M0:RM) (Q:ak) : Prop :=
 af .sub a2 a1 fun c =>
 af .geq c (N .i64 8) fun w =>
 au w (
 lG .u64 c fun x =>
 bP (.row [(N .u64 0)] false p1 0) (fun u=>.ptr u 0) M0 fun l o =>
 aC o l x 1 fun p =>
 p2 [c] p fun y q =>
 af .quo c (N .i64 4) fun z =>
 af .mul z (N .i64 2) fun A =>
 af .add a1 A fun B =>
 af .sub B (N .i64 1) fun C =>
 aM (fun v d i =>
 af .quo c (N .i64 4) fun D =>
 af .mul D (N .i64 2) fun E =>
 af .add a1 E fun F =>
 af .add F (N .i64 1) fun G =>
 af .leq (aa d 0) G fun H =>
 au H (
 bR (fun n =>
 p3 [l] i fun L j =>
 af .sub y (N .u64 1) fun O =>
 af .and L O fun P =>
 lG .i64 P fun g =>
 bR (fun h =>
 af .geq g c fun R =>
 au R (
 af .sub g c fun S =>
 h [S] j) (
 h [g] j)) (fun m e =>
 af .add a1 (aa m 0) fun U =>
 af .add a1 (aa m 0) fun V =>
 ah a0 V 3 fun W =>
 av e W 3 fun X =>
 ah a0 (aa d 0) 3 fun Y =>
 av e Y 3 fun Z =>
 ah a0 (aa d 0) 3 fun va =>
 aC e va X 3 fun s =>
 ah a0 U 3 fun vb =>
 aC s vb Z 3 fun t =>
 n [] t)) (fun vc r =>
 af .add (aa d 0) (N .i64 1) fun I =>
 v [I] r)) (
 Q (.tup []) i)) [C] q) (
 Q (.tup []) M0)
def jb (p1:Nat) (p2 p3:ai) (a0 a1 a2 a3:AV) (M0:RM) (Q:ak) : Prop :=
 af .sub a2 a1 fun d =>
 bP (.row [(N .i64 0)] false p1 0) (fun v=>.ptr v 0) M0 fun c g =>
 af .quo d (N .i64 4) fun w =>
 af .mul w (N .i64 1) fun x =>
 af .add a1 x fun n =>
 af .quo d (N .i64 4) fun y =>
 af .mul y (N .i64 2) fun z =>
 af .add a1 z fun h =>
 af .quo d (N .i64 4) fun A =>
 af .mul A (N .i64 3) fun B =>
 af .add a1 B fun o =>
 bR (fun l =>
 af .geq d (N .i64 8) fun C =>
 au C (
 bR (fun m =>
 af .geq d (N .i64 50) fun D =>
 au D (
 p2 [a0,n,c,a3] g fun E q =>
 p2 [a0,h,c,a3] q fun F r =>
 p2 [a0,o,c,a3] r fun G s =>
 m [E,F,G] s) (
 m [n,h,o] g)) (fun i t =>
 p3 [a0,(aa i 0),(aa i 1),(aa i 2),c,a3] t fun H u =>
 l [H] u)) (
 l [h] g)) (fun j e =>
 az e c fun p =>
 af .eql p (N .i64 0) fun I =>
 au I (
 Q (.tup [(aa j 0),(N .i64 1)]) e) (
 af .eql p (N .i64 12) fun L =>
 au L (
 Q (.tup [(aa j 0),(N .i64 2)]) e) (
 Q (.tup [(aa j 0),(N .i64 0)]) e)))
def iO (a0 a1 a2 a3:AV) (M0:RM) (Q:ak) : Prop :=
 af .sub a2 (N .i64 1) fun i =>
 aM (fun h c d =>
 af .lss (aa c 0) (aa c 1) fun j =>
 au j (
 ah a0 (aa c 1) 3 fun l =>
 av d l 3 fun m =>
 ah a0 (aa c 0) 3 fun n =>
 av d n 3 fun o =>
 ah a0 (aa c 0) 3 fun p =>
 aC d p m 3 fun e =>
 ah a0 (aa c 1) 3 fun q =>
 aC e q o 3 fun g =>
 af .add (aa c 0) (N .i64 1) fun r =>
 af .sub (aa c 1) (N .i64 1) fun s =>
 h [r,s] g) (
 Q (.tup []) d)) [a1,i] M0
def fF (cv:(FuncId→ai)) (a0 a1 a2 a3:AV) (M0:RM) (Q:ak) : Prop :=
 af .add a1 (N .i64 1) fun v5 =>
 aM (fun vg s t =>
 af .lss (aa s 1) (N .i64 5) fun v7 =>
 au v7 (
 bR (fun o =>
 aM (fun vh d w =>
 af .lss (aa d 0) a2 fun e =>
 ae e true (fun c=>c a3 w none) (fun c=>c .undef w none) fun v9 z xs =>
 ae e true (fun vc=>vc a0 z none) (fun c=>c .undef z none) fun wa E x2 =>
 ae e true (fun vf=>vf (aa d 0) E none) (fun c=>c .undef E none) fun wb G x3 =>
 ae e true (fun U=>ah wa wb 3 fun wc =>
 U wc G none) (fun c=>c .undef G none) fun wd q xt =>
 ae e true (fun V=>av q wd 3 fun we =>
 V we q none) (fun c=>c .undef q none) fun wf u xu =>
 ae e true (fun W=>W a0 u none) (fun c=>c .undef u none) fun wg v xv =>
 ae e true (fun X=>X (aa d 0) v none) (fun c=>c .undef v none) fun wh x xw =>
 ae e true (fun Y=>af .sub wh (N .i64 1) fun wi =>
 Y wi x none) (fun c=>c .undef x none) fun wj y xx =>
 ae e true (fun Z=>ah wg wj 3 fun wk =>
 Z wk y none) (fun c=>c .undef y none) fun wl r xy =>
 ae e true (fun va=>av r wl 3 fun wm =>
 va wm r none) (fun c=>c .undef r none) fun wn A xz =>
 aj e true (fun vb=>bD cv v9 [wf,wn] A fun wo H =>
 vb wo H) (fun c=>c .undef A) fun wp B =>
 ae e true (fun vd=>af .lss wp (N .i64 0) fun wq =>
 vd wq B none) (fun c=>c .undef B none) fun wr C x0 =>
 ae e true (fun ve=>cK wr fun ws =>
 ve ws C none) (fun c=>c .undef C none) fun wt i x1 =>
 aL e wt (Bo false) fun wu =>
 au wu (
 af .add (aa d 0) (N .i64 1) fun wv =>
 vh [wv] i) (
 af .eql (aa d 0) a2 fun ww =>
 au ww (
 Q (Bo true) i) (
 af .sub a2 a1 fun wx =>
 af .lss wx (N .i64 50) fun wy =>
 au wy (
 Q (Bo false) i) (
 af .sub (aa d 0) (N .i64 1) fun wz =>
 af .sub (aa d 0) (N .i64 1) fun w0 =>
 ah a0 w0 3 fun w1 =>
 av i w1 3 fun w2 =>
 ah a0 (aa d 0) 3 fun w3 =>
 av i w3 3 fun w4 =>
 ah a0 (aa d 0) 3 fun w5 =>
 aC i w5 w2 3 fun I =>
 ah a0 wz 3 fun w6 =>
 aC I w6 w4 3 fun D =>
 bR (fun p =>
 af .sub (aa d 0) a1 fun w7 =>
 af .geq w7 (N .i64 2) fun w8 =>
 au w8 (
 af .sub (aa d 0) (N .i64 1) fun w9 =>
 aM (fun vi g j =>
 af .geq (aa g 0) (N .i64 1) fun xa =>
 au xa (
 ah a0 (aa g 0) 3 fun xc =>
 av j xc 3 fun xd =>
 af .sub (aa g 0) (N .i64 1) fun xe =>
 ah a0 xe 3 fun xf =>
 av j xf 3 fun xg =>
 bD cv a3 [xd,xg] j fun xh l =>
 af .lss xh (N .i64 0) fun xi =>
 cK xi fun xj =>
 au xj (
 p [] l) (
 af .sub (aa g 0) (N .i64 1) fun xk =>
 af .sub (aa g 0) (N .i64 1) fun xl =>
 ah a0 xl 3 fun xm =>
 av l xm 3 fun xn =>
 ah a0 (aa g 0) 3 fun xo =>
 av l xo 3 fun xp =>
 ah a0 (aa g 0) 3 fun xq =>
 aC l xq xn 3 fun L =>
 ah a0 xk 3 fun vk =>
 aC L vk xp 3 fun O =>
 af .sub (aa g 0) (N .i64 1) fun xb =>
 vi [xb] O)) (
 p [] j)) [w9] D) (
 p [] D)) (fun x4 F =>
 af .sub a2 (aa d 0) fun vl =>
 af .geq vl (N .i64 2) fun vm =>
 au vm (
 af .add (aa d 0) (N .i64 1) fun vn =>
 aM (fun vj h m =>
 af .lss (aa h 0) a2 fun vo =>
 au vo (
 ah a0 (aa h 0) 3 fun vq =>
 av m vq 3 fun vr =>
 af .sub (aa h 0) (N .i64 1) fun vs =>
 ah a0 vs 3 fun vt =>
 av m vt 3 fun vu =>
 bD cv a3 [vr,vu] m fun vv n =>
 af .lss vv (N .i64 0) fun vw =>
 cK vw fun vx =>
 au vx (
 o [(aa d 0)] n) (
 af .sub (aa h 0) (N .i64 1) fun vy =>
 af .sub (aa h 0) (N .i64 1) fun vz =>
 ah a0 vz 3 fun v0 =>
 av n v0 3 fun v1 =>
 ah a0 (aa h 0) 3 fun v2 =>
 av n v2 3 fun v3 =>
 ah a0 (aa h 0) 3 fun v4 =>
 aC n v4 v1 3 fun P =>
 ah a0 vy 3 fun v6 =>
 aC P v6 v3 3 fun R =>
 af .add (aa h 0) (N .i64 1) fun vp =>
 vj [vp] R)) (
 o [(aa d 0)] m)) [vn] F) (
 o [(aa d 0)] F)))))) [(aa s 0)] t) (fun xr S =>
 af .add (aa s 1) (N .i64 1) fun v8 =>
 vg [(aa xr 0),v8] S)) (
 Q (Bo false) t)) [v5,(N .i64 0)] M0
def ic (cv:(FuncId→ai)) (a0 a1 a2 a3 a4:AV) (M0:RM) (Q:ak) : Prop :=
 ah a0 a3 3 fun vv =>
 av M0 vv 3 fun vw =>
 ah a0 a1 3 fun vx =>
 av M0 vx 3 fun vy =>
 ah a0 a1 3 fun vz =>
 aC M0 vz vw 3 fun L =>
 ah a0 a3 3 fun v0 =>
 aC L v0 vy 3 fun O =>
 af .add a1 (N .i64 1) fun v1 =>
 af .sub a2 (N .i64 1) fun v2 =>
 aM (fun vs o P =>
 aM (fun vt g v =>
 af .leq (aa g 0) (aa o 1) fun d =>
 ae d true (fun c=>c a4 v none) (fun c=>c .undef v none) fun v3 z xg =>
 ae d true (fun vj=>vj a0 z none) (fun c=>c .undef z none) fun v4 F xz =>
 ae d true (fun vr=>vr a1 F none) (fun c=>c .undef F none) fun v5 p xh =>
 ae d true (fun W=>ah v4 v5 3 fun v6 =>
 W v6 p none) (fun c=>c .undef p none) fun v7 j xi =>
 ae d true (fun X=>av j v7 3 fun v8 =>
 X v8 j none) (fun c=>c .undef j none) fun v9 q xj =>
 ae d true (fun Y=>Y a0 q none) (fun c=>c .undef q none) fun wa r xk =>
 ae d true (fun Z=>Z (aa g 0) r none) (fun c=>c .undef r none) fun wb s xl =>
 ae d true (fun va=>ah wa wb 3 fun wc =>
 va wc s none) (fun c=>c .undef s none) fun wd l xm =>
 ae d true (fun vb=>av l wd 3 fun we =>
 vb we l none) (fun c=>c .undef l none) fun wf t xn =>
 aj d true (fun vc=>bD cv v3 [v9,wf] t fun wg R =>
 vc wg R) (fun c=>c .undef t) fun wh u =>
 ae d true (fun vd=>af .lss wh (N .i64 0) fun wi =>
 vd wi u none) (fun c=>c .undef u none) fun wj w xo =>
 ae d true (fun ve=>cK wj fun wk =>
 ve wk w none) (fun c=>c .undef w none) fun wl x xp =>
 aL d wl (Bo false) fun wm =>
 au wm (
 af .add (aa g 0) (N .i64 1) fun wn =>
 vt [wn] x) (
 aM (fun vu h y =>
 af .leq (aa g 0) (aa h 0) fun e =>
 ae e true (fun vf=>vf a4 y none) (fun c=>c .undef y none) fun wo A xq =>
 ae e true (fun vg=>vg a0 A none) (fun c=>c .undef A none) fun wp B xr =>
 ae e true (fun vh=>vh a1 B none) (fun c=>c .undef B none) fun wq C xs =>
 ae e true (fun vi=>ah wp wq 3 fun wr =>
 vi wr C none) (fun c=>c .undef C none) fun ws m xt =>
 ae e true (fun vk=>av m ws 3 fun wt =>
 vk wt m none) (fun c=>c .undef m none) fun wu D xu =>
 ae e true (fun vl=>vl a0 D none) (fun c=>c .undef D none) fun wv E xv =>
 ae e true (fun vm=>vm (aa h 0) E none) (fun c=>c .undef E none) fun ww G xw =>
 ae e true (fun vn=>ah wv ww 3 fun wx =>
 vn wx G none) (fun c=>c .undef G none) fun wy n xx =>
 ae e true (fun vo=>av n wy 3 fun wz =>
 vo wz n none) (fun c=>c .undef n none) fun w0 H xy =>
 aj e true (fun vp=>bD cv wo [wu,w0] H fun w1 S =>
 vp w1 S) (fun c=>c .undef H) fun w2 I =>
 ae e true (fun vq=>af .lss w2 (N .i64 0) fun w3 =>
 vq w3 I none) (fun c=>c .undef I none) fun w4 i x0 =>
 aL e w4 (Bo false) fun w5 =>
 au w5 (
 af .sub (aa h 0) (N .i64 1) fun w6 =>
 vu [w6] i) (
 af .gtr (aa g 0) (aa h 0) fun w7 =>
 au w7 (
 Q (aa g 0) i) (
 ah a0 (aa h 0) 3 fun w8 =>
 av i w8 3 fun w9 =>
 ah a0 (aa g 0) 3 fun xa =>
 av i xa 3 fun xb =>
 ah a0 (aa g 0) 3 fun xc =>
 aC i xc w9 3 fun U =>
 ah a0 (aa h 0) 3 fun xd =>
 aC U xd xb 3 fun V =>
 af .add (aa g 0) (N .i64 1) fun xe =>
 af .sub (aa h 0) (N .i64 1) fun xf =>
 vs [xe,xf] V))) [(aa o 1)] x)) [(aa o 0)] P) [v1,v2] O
def jD (cv:(FuncId→ai)) (a0 a1 a2 a3 a4:AV) (M0:RM) (Q:ak) : Prop :=
 ah a0 a3 3 fun y8 =>
 av M0 y8 3 fun y9 =>
 ah a0 a1 3 fun za =>
 av M0 za 3 fun zb =>
 ah a0 a1 3 fun zc =>
 aC M0 zc y9 3 fun vt =>
 ah a0 a3 3 fun zd =>
 aC vt zd zb 3 fun vu =>
 af .add a1 (N .i64 1) fun ze =>
 af .sub a2 (N .i64 1) fun vs =>
 aM (fun xh l y =>
 af .leq (aa l 0) vs fun h =>
 ae h true (fun c=>c a4 y none) (fun c=>c .undef y none) fun zf Y e1 =>
 ae h true (fun wy=>wy a0 Y none) (fun c=>c .undef Y none) fun zg vd i1 =>
 ae h true (fun w7=>w7 (aa l 0) vd none) (fun c=>c .undef vd none) fun zh vl i9 =>
 ae h true (fun xe=>ah zg zh 3 fun zi =>
 xe zi vl none) (fun c=>c .undef vl none) fun zj q e8 =>
 ae h true (fun wg=>av q zj 3 fun zk =>
 wg zk q none) (fun c=>c .undef q none) fun zl O g9 =>
 ae h true (fun ws=>ws a0 O none) (fun c=>c .undef O none) fun zm X h4 =>
 ae h true (fun wv=>wv a1 X none) (fun c=>c .undef X none) fun zn Z h5 =>
 ae h true (fun ww=>ah zm zn 3 fun zo =>
 ww zo Z none) (fun c=>c .undef Z none) fun zp u h6 =>
 ae h true (fun wx=>av u zp 3 fun zq =>
 wx zq u none) (fun c=>c .undef u none) fun zr va h7 =>
 aj h true (fun wz=>bD cv zf [zl,zr] va fun zs v1 =>
 wz zs v1) (fun c=>c .undef va) fun zt vb =>
 ae h true (fun w0=>af .lss zt (N .i64 0) fun zu =>
 w0 zu vb none) (fun c=>c .undef vb none) fun zv vc h8 =>
 aL h zv (Bo false) fun zw =>
 au zw (
 af .add (aa l 0) (N .i64 1) fun zx =>
 xh [zx] vc) (
 aM (fun xj j ve =>
 af .leq (aa l 0) (aa j 0) fun e =>
 ae e true (fun w1=>w1 a4 ve none) (fun c=>c .undef ve none) fun zy vf h9 =>
 ae e true (fun w2=>w2 a0 vf none) (fun c=>c .undef vf none) fun zz vg i0 =>
 ae e true (fun w3=>w3 (aa j 0) vg none) (fun c=>c .undef vg none) fun z0 vh i2 =>
 ae e true (fun w4=>ah zz z0 3 fun z1 =>
 w4 z1 vh none) (fun c=>c .undef vh none) fun z2 v i3 =>
 ae e true (fun w5=>av v z2 3 fun z3 =>
 w5 z3 v none) (fun c=>c .undef v none) fun z4 vi i4 =>
 ae e true (fun w6=>w6 a0 vi none) (fun c=>c .undef vi none) fun z5 vj i5 =>
 ae e true (fun w8=>w8 a1 vj none) (fun c=>c .undef vj none) fun z6 vk i6 =>
 ae e true (fun w9=>ah z5 z6 3 fun z7 =>
 w9 z7 vk none) (fun c=>c .undef vk none) fun z8 w i7 =>
 ae e true (fun xa=>av w z8 3 fun z9 =>
 xa z9 w none) (fun c=>c .undef w none) fun c0 vm i8 =>
 aj e true (fun xb=>bD cv zy [z4,c0] vm fun c1 v2 =>
 xb c1 v2) (fun c=>c .undef vm) fun c2 vn =>
 ae e true (fun xc=>af .lss c2 (N .i64 0) fun c3 =>
 xc c3 vn none) (fun c=>c .undef vn none) fun c4 vo j0 =>
 ae e true (fun xd=>cK c4 fun c5 =>
 xd c5 vo none) (fun c=>c .undef vo none) fun c6 o j1 =>
 aL e c6 (Bo false) fun c7 =>
 au c7 (
 af .sub (aa j 0) (N .i64 1) fun c8 =>
 xj [c8] o) (
 af .gtr (aa l 0) (aa j 0) fun c9 =>
 au c9 (
 ah a0 a1 3 fun d0 =>
 av o d0 3 fun d1 =>
 ah a0 (aa j 0) 3 fun d2 =>
 av o d2 3 fun d3 =>
 ah a0 (aa j 0) 3 fun d4 =>
 aC o d4 d1 3 fun v3 =>
 ah a0 a1 3 fun d5 =>
 aC v3 d5 d3 3 fun v4 =>
 Q (.tup [(aa j 0),(Bo true)]) v4) (
 ah a0 (aa j 0) 3 fun d6 =>
 av o d6 3 fun d7 =>
 ah a0 (aa l 0) 3 fun d8 =>
 av o d8 3 fun d9 =>
 ah a0 (aa l 0) 3 fun e0 =>
 aC o e0 d7 3 fun v5 =>
 ah a0 (aa j 0) 3 fun xm =>
 aC v5 xm d9 3 fun v6 =>
 af .add (aa l 0) (N .i64 1) fun xn =>
 af .sub (aa j 0) (N .i64 1) fun xo =>
 aM (fun xk x v7 =>
 aM (fun xl m vp =>
 af .leq (aa m 0) (aa x 1) fun g =>
 ae g true (fun xf=>xf a4 vp none) (fun c=>c .undef vp none) fun xp vq j2 =>
 ae g true (fun xg=>xg a0 vq none) (fun c=>c .undef vq none) fun xq vr e2 =>
 ae g true (fun v8=>v8 (aa m 0) vr none) (fun c=>c .undef vr none) fun xr z e3 =>
 ae g true (fun v9=>ah xq xr 3 fun xs =>
 v9 xs z none) (fun c=>c .undef z none) fun xt p e4 =>
 ae g true (fun wa=>av p xt 3 fun xu =>
 wa xu p none) (fun c=>c .undef p none) fun xv A e5 =>
 ae g true (fun wb=>wb a0 A none) (fun c=>c .undef A none) fun xw B e6 =>
 ae g true (fun wc=>wc a1 B none) (fun c=>c .undef B none) fun xx C e7 =>
 ae g true (fun wd=>ah xw xx 3 fun xy =>
 wd xy C none) (fun c=>c .undef C none) fun xz r e9 =>
 ae g true (fun we=>av r xz 3 fun x0 =>
 we x0 r none) (fun c=>c .undef r none) fun x1 D g0 =>
 aj g true (fun wf=>bD cv xp [xv,x1] D fun x2 vv =>
 wf x2 vv) (fun c=>c .undef D) fun x3 E =>
 ae g true (fun wh=>af .lss x3 (N .i64 0) fun x4 =>
 wh x4 E none) (fun c=>c .undef E none) fun x5 F g1 =>
 aL g x5 (Bo false) fun x6 =>
 au x6 (
 af .add (aa m 0) (N .i64 1) fun x7 =>
 xl [x7] F) (
 aM (fun xi i G =>
 af .leq (aa m 0) (aa i 0) fun d =>
 ae d true (fun wi=>wi a4 G none) (fun c=>c .undef G none) fun x8 H g2 =>
 ae d true (fun wj=>wj a0 H none) (fun c=>c .undef H none) fun x9 I g3 =>
 ae d true (fun wk=>wk (aa i 0) I none) (fun c=>c .undef I none) fun ya L g4 =>
 ae d true (fun wl=>ah x9 ya 3 fun yb =>
 wl yb L none) (fun c=>c .undef L none) fun yc s g5 =>
 ae d true (fun wm=>av s yc 3 fun yd =>
 wm yd s none) (fun c=>c .undef s none) fun ye P g6 =>
 ae d true (fun wn=>wn a0 P none) (fun c=>c .undef P none) fun yf R g7 =>
 ae d true (fun wo=>wo a1 R none) (fun c=>c .undef R none) fun yg S g8 =>
 ae d true (fun wp=>ah yf yg 3 fun yh =>
 wp yh S none) (fun c=>c .undef S none) fun yi t h0 =>
 ae d true (fun wq=>av t yi 3 fun yj =>
 wq yj t none) (fun c=>c .undef t none) fun yk U h1 =>
 aj d true (fun wr=>bD cv x8 [ye,yk] U fun yl vw =>
 wr yl vw) (fun c=>c .undef U) fun ym V =>
 ae d true (fun wt=>af .lss ym (N .i64 0) fun yn =>
 wt yn V none) (fun c=>c .undef V none) fun yo W h2 =>
 ae d true (fun wu=>cK yo fun yp =>
 wu yp W none) (fun c=>c .undef W none) fun yq n h3 =>
 aL d yq (Bo false) fun yr =>
 au yr (
 af .sub (aa i 0) (N .i64 1) fun ys =>
 xi [ys] n) (
 af .gtr (aa m 0) (aa i 0) fun yt =>
 au yt (
 ah a0 a1 3 fun y2 =>
 av n y2 3 fun y3 =>
 ah a0 (aa i 0) 3 fun y4 =>
 av n y4 3 fun y5 =>
 ah a0 (aa i 0) 3 fun y6 =>
 aC n y6 y3 3 fun vx =>
 ah a0 a1 3 fun y7 =>
 aC vx y7 y5 3 fun vy =>
 Q (.tup [(aa i 0),(Bo false)]) vy) (
 ah a0 (aa i 0) 3 fun yu =>
 av n yu 3 fun yv =>
 ah a0 (aa m 0) 3 fun yw =>
 av n yw 3 fun yx =>
 ah a0 (aa m 0) 3 fun yy =>
 aC n yy yv 3 fun vz =>
 ah a0 (aa i 0) 3 fun yz =>
 aC vz yz yx 3 fun v0 =>
 af .add (aa m 0) (N .i64 1) fun y0 =>
 af .sub (aa i 0) (N .i64 1) fun y1 =>
 xk [y0,y1] v0))) [(aa x 1)] F)) [(aa x 0)] v7) [xn,xo] v6))) [vs] vc)) [ze] vu
def jS (cv:(FuncId→ai)) (a0 a1 a2 a3 a4:AV) (M0:RM) (Q:ak) : Prop :=
 aM (fun vb h j =>
 af .mul (N .i64 2) (aa h 0) fun vc =>
 af .add vc (N .i64 1) fun e =>
 af .geq e a2 fun vd =>
 au vd (
 Q (.tup []) j) (
 bR (fun o =>
 af .add e (N .i64 1) fun ve =>
 af .lss ve a2 fun d =>
 ae d true (fun c=>c a4 j none) (fun c=>c .undef j none) fun vf p wp =>
 ae d true (fun G=>G a0 p none) (fun c=>c .undef p none) fun vg r wv =>
 ae d true (fun W=>W a3 r none) (fun c=>c .undef r none) fun vh z w2 =>
 ae d true (fun va=>va e z none) (fun c=>c .undef z none) fun vi C w3 =>
 ae d true (fun H=>af .add vh vi fun vj =>
 H vj C none) (fun c=>c .undef C none) fun vk q wq =>
 ae d true (fun I=>ah vg vk 3 fun vl =>
 I vl q none) (fun c=>c .undef q none) fun vm l wr =>
 ae d true (fun L=>av l vm 3 fun vn =>
 L vn l none) (fun c=>c .undef l none) fun vo s ws =>
 ae d true (fun O=>O a0 s none) (fun c=>c .undef s none) fun vp t wt =>
 ae d true (fun P=>P a3 t none) (fun c=>c .undef t none) fun vq u wu =>
 ae d true (fun R=>R e u none) (fun c=>c .undef u none) fun vr v ww =>
 ae d true (fun S=>af .add vq vr fun vs =>
 S vs v none) (fun c=>c .undef v none) fun vt w wx =>
 ae d true (fun U=>af .add vt (N .i64 1) fun vu =>
 U vu w none) (fun c=>c .undef w none) fun vv x wy =>
 ae d true (fun V=>ah vp vv 3 fun vw =>
 V vw x none) (fun c=>c .undef x none) fun vx m wz =>
 ae d true (fun X=>av m vx 3 fun vy =>
 X vy m none) (fun c=>c .undef m none) fun vz y w0 =>
 aj d true (fun Y=>bD cv vf [vo,vz] y fun v0 D =>
 Y v0 D) (fun c=>c .undef y) fun v1 A =>
 ae d true (fun Z=>af .lss v1 (N .i64 0) fun v2 =>
 Z v2 A none) (fun c=>c .undef A none) fun v3 B w1 =>
 aL d v3 (Bo false) fun v4 =>
 au v4 (
 af .add e (N .i64 1) fun v5 =>
 o [v5] B) (
 o [e] B)) (fun i n =>
 af .add a3 (aa h 0) fun v6 =>
 ah a0 v6 3 fun v7 =>
 av n v7 3 fun v8 =>
 af .add a3 (aa i 0) fun v9 =>
 ah a0 v9 3 fun wa =>
 av n wa 3 fun wb =>
 bD cv a4 [v8,wb] n fun wc g =>
 af .lss wc (N .i64 0) fun wd =>
 cK wd fun we =>
 au we (
 Q (.tup []) g) (
 af .add a3 (aa h 0) fun wf =>
 af .add a3 (aa i 0) fun wg =>
 af .add a3 (aa i 0) fun wh =>
 ah a0 wh 3 fun wi =>
 av g wi 3 fun wj =>
 af .add a3 (aa h 0) fun wk =>
 ah a0 wk 3 fun wl =>
 av g wl 3 fun wm =>
 ah a0 wf 3 fun wn =>
 aC g wn wj 3 fun E =>
 ah a0 wg 3 fun wo =>
 aC E wo wm 3 fun F =>
 vb [(aa i 0)] F)))) [a1] M0
def gQ (p1:ai) (a0 a1 a2 a3:AV) (M0:RM) (Q:ak) : Prop :=
 af .sub a1 (N .i64 1) fun d =>
 af .add a1 (N .i64 1) fun e =>
 p1 [a0,d,a1,e,a2,a3] M0 fun g c =>
 Q g c
def kR (p1:ai) (a0 a1 a2 a3 a4 a5:AV) (M0:RM) (Q:ak) : Prop :=
 p1 [a0,a1,a2,a4,a5] M0 fun c g =>
 dm c 0 fun j =>
 dm c 1 fun l =>
 p1 [a0,l,a3,a4,a5] g fun d h =>
 dm d 0 fun m =>
 dm d 1 fun o =>
 p1 [a0,j,m,a4,a5] h fun e i =>
 dm e 0 fun p =>
 dm e 1 fun n =>
 Q n i
def kQ (cv:(FuncId→ai)) (a0 a1 a2 a3 a4:AV) (M0:RM) (Q:ak) : Prop :=
 ah a0 a2 3 fun e =>
 av M0 e 3 fun g =>
 ah a0 a1 3 fun h =>
 av M0 h 3 fun i =>
 bD cv a4 [g,i] M0 fun j c =>
 af .lss j (N .i64 0) fun l =>
 au l (
 dB a3 fun m =>
 az c m fun n =>
 af .add n (N .i64 1) fun o =>
 dB a3 fun p =>
 aC c p o 1 fun d =>
 Q (.tup [a2,a1]) d) (
 Q (.tup [a1,a2]) c)
end Go.Ab.Vw
namespace Go.Ab.ay
open Go Go.Ab
def Mm (p1:Nat) (M0:RM) (Q:ak) : Prop :=
 jo [(N .u64 0),(.sc (.slice none 0 0)),(N .u64 0),(.sc (.slice none 0 0)),(N .u64 0),(.sc (.slice none 0 0)),(N .u64 0),(.sc (.slice none 0 0)),(N .u64 0),(.sc (.slice none 0 0)),(N .u64 0),(.sc (.slice none 0 0)),(N .u64 0),(.sc (.slice none 0 0)),(N .u64 0),(.sc (.slice none 0 0)),(N .u64 0),(.sc (.slice none 0 0)),(N .u64 0),(.sc (.slice none 0 0)),(N .u64 0),(.sc (.slice none 0 0)),(N .u64 0),(.sc (.slice none 0 0)),(N .u64 0),(.sc (.slice none 0 0)),(N .u64 0),(.sc (.slice none 0 0)),(N .u64 0),(.sc (.slice none 0 0)),(N .u64 0),(.sc (.slice none 0 0))] [] fun g =>
 gz p1 g fun e d =>
 bP e d M0 fun h c =>
 Q h c
def Gg (p1:Nat) (p2 p3:ai) (a0 a1:AV) (M0:RM) (Q:ak) : Prop :=
 gz p1 a1 fun i h =>
 bP i h M0 fun d e =>
 av e d 2 fun t =>
 p2 [t] e fun u c =>
 cK u fun v =>
 au v (
 Q (N .i64 1) c) (
 aJ d 0 fun j =>
 az c j fun l =>
 dB a0 fun m =>
 aJ m 0 fun n =>
 Fw n l 16 2 fun o =>
 aJ d 1 fun p =>
 az c p fun q =>
 p3 [o,q] c fun r g =>
 cK r fun s =>
 au s (
 Q (N .i64 2) g) (
 Q (N .i64 0) g))
def IY (p1:Nat) (a0:AV) (M0:RM) (Q:ak) : Prop :=
 gz p1 a0 fun C t =>
 bP C t M0 fun d i =>
 aJ d 0 fun W =>
 az i W fun X =>
 af .geq X (N .i64 0) fun h =>
 aj h true (fun c=>aJ d 0 fun Y =>
 c Y i) (fun c=>c .undef i) fun Z j =>
 aj h true (fun x=>az j Z fun va =>
 x va j) (fun c=>c .undef j) fun vb q =>
 aj h true (fun A=>af .lss vb (N .i64 16) fun vc =>
 A vc q) (fun c=>c .undef q) fun vd r =>
 aL h vd (Bo false) fun e =>
 aj e true (fun B=>aJ d 1 fun D =>
 B D r) (fun c=>c .undef r) fun E l =>
 aj e true (fun u=>az l E fun F =>
 u F l) (fun c=>c .undef l) fun G n =>
 aj e true (fun v=>af .geq G (N .u64 1) fun H =>
 v H n) (fun c=>c .undef n) fun I o =>
 aL e I (Bo false) fun g =>
 aj g true (fun w=>aJ d 1 fun L =>
 w L o) (fun c=>c .undef o) fun O m =>
 aj g true (fun y=>az m O fun P =>
 y P m) (fun c=>c .undef m) fun R p =>
 aj g true (fun z=>af .leq R (N .u64 1099511627776) fun S =>
 z S p) (fun c=>c .undef p) fun U s =>
 aL g U (Bo false) fun V =>
 Q V s
def JN (p1:Nat) (a0:AV) (M0:RM) (Q:ak) : Prop :=
 gz p1 a0 fun C t =>
 bP C t M0 fun d i =>
 aJ d 0 fun W =>
 az i W fun X =>
 af .geq X (N .i64 0) fun h =>
 aj h true (fun c=>aJ d 0 fun Y =>
 c Y i) (fun c=>c .undef i) fun Z j =>
 aj h true (fun x=>az j Z fun va =>
 x va j) (fun c=>c .undef j) fun vb q =>
 aj h true (fun A=>af .lss vb (N .i64 16) fun vc =>
 A vc q) (fun c=>c .undef q) fun vd r =>
 aL h vd (Bo false) fun e =>
 aj e true (fun B=>aJ d 1 fun D =>
 B D r) (fun c=>c .undef r) fun E l =>
 aj e true (fun u=>az l E fun F =>
 u F l) (fun c=>c .undef l) fun G n =>
 aj e true (fun v=>af .geq G (N .u64 1) fun H =>
 v H n) (fun c=>c .undef n) fun I o =>
 aL e I (Bo false) fun g =>
 aj g true (fun w=>aJ d 1 fun L =>
 w L o) (fun c=>c .undef o) fun O m =>
 aj g true (fun y=>az m O fun P =>
 y P m) (fun c=>c .undef m) fun R p =>
 aj g true (fun z=>af .leq R (N .u64 1099511627776) fun S =>
 z S p) (fun c=>c .undef p) fun U s =>
 aL g U (Bo false) fun V =>
 Q V s
def EL (p1 p2:ai) (a0:AV) (M0:RM) (Q:ak) : Prop :=
 p1 [] M0 fun c d =>
 p2 [c,a0] d fun g e =>
 Q c e
def Gz (p1:Nat) (p2 p3:ai) (a0 a1:AV) (M0:RM) (Q:ak) : Prop :=
 gz p1 a1 fun C t =>
 bP C t M0 fun h i =>
 av i h 2 fun Y =>
 p2 [Y] i fun d j =>
 ae d true (fun c=>c a0 j none) (fun c=>c .undef j none) fun Z l vc =>
 ae d true (fun x=>aJ h 0 fun va =>
 x va l none) (fun c=>c .undef l none) fun vb g vi =>
 ae d true (fun B=>az g vb fun D =>
 B D g none) (fun c=>c .undef g none) fun E q vj =>
 ae d true (fun u=>dB Z fun F =>
 u F q none) (fun c=>c .undef q none) fun G m vd =>
 ae d true (fun v=>aJ G 0 fun H =>
 v H m none) (fun c=>c .undef m none) fun I n ve =>
 ae d true (fun w=>Fw I E 16 2 fun L =>
 w L n none) (fun c=>c .undef n none) fun O o vf =>
 ae d true (fun y=>aJ h 1 fun P =>
 y P o none) (fun c=>c .undef o none) fun R e vg =>
 ae d true (fun z=>az e R fun S =>
 z S e none) (fun c=>c .undef e none) fun U p vh =>
 aj d true (fun A=>p3 [O,U] p fun V r =>
 A V r) (fun c=>c .undef p) fun W s =>
 aL d W (Bo false) fun X =>
 Q X s
def XW (p1:Nat) (a0 a1:AV) (M0:RM) (Q:ak) : Prop :=
 gz p1 a1 fun i g =>
 bP i g M0 fun p e =>
 aM (fun h d c =>
 bQ a0 fun q =>
 af .lss (aa d 0) q fun r =>
 au r (
 ah a0 (aa d 0) 2 fun l =>
 av c l 2 fun m =>
 av c p 2 fun n =>
 jw false [1,1] m n fun o =>
 au o (
 Q (Bo true) c) (
 af .add (aa d 0) (N .i64 1) fun j =>
 h [j] c)) (
 Q (Bo false) c)) [(N .i64 0)] e
def acN (p1 p2 p3:ai) (a0:AV) (M0:RM) (Q:ak) : Prop :=
 p1 [] M0 fun h i =>
 aM (fun m c d =>
 bQ a0 fun n =>
 af .lss (aa c 1) n fun o =>
 au o (
 bR (fun g =>
 ah a0 (aa c 1) 2 fun q =>
 av d q 2 fun r =>
 p2 [h,r] d fun s e =>
 af .eql s (N .i64 0) fun t =>
 au t (
 ah a0 (aa c 1) 2 fun u =>
 av e u 2 fun v =>
 p3 [(aa c 0),v] e fun w j =>
 g [w] j) (
 g [(aa c 0)] e)) (fun x l =>
 af .add (aa c 1) (N .i64 1) fun p =>
 m [(aa x 0),p] l)) (
 Q (.tup [h,(aa c 0)]) d)) [(.sc (.slice none 0 0)),(N .i64 0)] i
def Ef (p1 p2:Nat) (p3 p4 p5 p6:ai) (a0 a1:AV) (M0:RM) (Q:ak) : Prop :=
 aM (fun u d e =>
 af .lss (aa d 0) (N .i64 16) fun vj =>
 au vj (
 dB a0 fun w =>
 aJ w 0 fun x =>
 Fw x (aa d 0) 16 2 fun c =>
 dB a1 fun y =>
 aJ y 0 fun z =>
 Fw z (aa d 0) 16 2 fun A =>
 av e A 2 fun B =>
 sP (.row [(N .u64 0),(.sc (.slice none 0 0))] false p1 0) (fun m=>.ptr m 0) e fun i n m =>
 aC n i B 2 fun g =>
 dB c fun C =>
 aJ C 0 fun D =>
 az g D fun E =>
 aJ i 0 fun F =>
 az g F fun G =>
 MK true E G fun H =>
 dB c fun I =>
 aJ I 0 fun L =>
 aC g L H 1 fun h =>
 dB c fun O =>
 aJ O 1 fun P =>
 az h P fun R =>
 aJ i 1 fun S =>
 az h S fun U =>
 dW p2 2 [(.sc (.slice none 0 0))] [(0,1,R),(1,1,U)] fun v t =>
 sP v t h fun V p vk =>
 p3 [V] p fun W q =>
 dB c fun X =>
 aJ X 1 fun Y =>
 aC q Y W 1 fun j =>
 dB c fun Z =>
 aJ Z 1 fun va =>
 az j va fun vb =>
 p4 [vb] j fun vl l =>
 dB c fun vc =>
 aJ vc 1 fun vd =>
 az l vd fun ve =>
 p5 [ve] l fun vf r =>
 dB c fun vg =>
 aJ vg 1 fun vh =>
 aC r vh vf 1 fun s =>
 p6 [c] s fun vm o =>
 af .add (aa d 0) (N .i64 1) fun vi =>
 u [vi] o) (
 Q (.tup []) e)) [(N .i64 0)] M0
def zU (p1:Nat) (p2:ai) (a0 a1:AV) (M0:RM) (Q:ak) : Prop :=
 dB a0 fun r =>
 aJ r 0 fun s =>
 av M0 s 32 fun t =>
 aM (fun p d i =>
 af .lss (aa d 0) (N .i64 16) fun u =>
 au u (
 Qb t (aa d 0) 16 2 fun v =>
 bP (.row [(N .u64 0),(.sc (.slice none 0 0))] false p1 0) (fun o=>.ptr o 0) i fun g n =>
 aC n g v 2 fun c =>
 dB a1 fun w =>
 aJ w 0 fun x =>
 Fw x (aa d 0) 16 2 fun l =>
 aJ g 0 fun y =>
 az c y fun z =>
 dB l fun A =>
 aJ A 0 fun B =>
 az c B fun C =>
 af .gtr z C fun D =>
 au D (
 Q (Bo false) c) (
 aJ g 1 fun E =>
 az c E fun m =>
 bQ m fun F =>
 aM (fun q h e =>
 af .lss (aa h 0) F fun G =>
 au G (
 ah m (aa h 0) 1 fun H =>
 az e H fun I =>
 p2 [l,I] e fun L j =>
 cK L fun O =>
 au O (
 Q (Bo false) j) (
 af .add (aa h 0) (N .i64 1) fun P =>
 q [P] j)) (
 af .add (aa d 0) (N .i64 1) fun R =>
 p [R] e)) [(N .i64 0)] c)) (
 Q (Bo true) i)) [(N .i64 0)] M0
def Qu (p1:Nat) (a0 a1:AV) (M0:RM) (Q:ak) : Prop :=
 gz p1 a0 fun O x =>
 bP O x M0 fun m v =>
 gz p1 a1 fun P y =>
 bP P y v fun n g =>
 aJ m 1 fun vp =>
 az g vp fun vq =>
 aJ n 1 fun vr =>
 az g vr fun vs =>
 af .lss vq vs fun d =>
 aj d false (fun c=>aJ m 1 fun R =>
 c R g) (fun c=>c .undef g) fun S l =>
 aj d false (fun I=>az l S fun U =>
 I U l) (fun c=>c .undef l) fun V u =>
 aj d false (fun L=>aJ n 1 fun W =>
 L W u) (fun c=>c .undef u) fun X h =>
 aj d false (fun z=>az h X fun Y =>
 z Y h) (fun c=>c .undef h) fun Z o =>
 aj d false (fun A=>af .eql V Z fun va =>
 A va o) (fun c=>c .undef o) fun vb p =>
 aj d false (fun B=>B vb p) (fun c=>c .undef p) fun e q =>
 aj e true (fun C=>aJ m 0 fun vc =>
 C vc q) (fun c=>c .undef q) fun vd i =>
 aj e true (fun D=>az i vd fun ve =>
 D ve i) (fun c=>c .undef i) fun vf r =>
 aj e true (fun E=>aJ n 0 fun vg =>
 E vg r) (fun c=>c .undef r) fun vh j =>
 aj e true (fun F=>az j vh fun vi =>
 F vi j) (fun c=>c .undef j) fun vj s =>
 aj e true (fun G=>af .lss vf vj fun vk =>
 G vk s) (fun c=>c .undef s) fun vl t =>
 aj d false (fun H=>aL e vl (Bo false) fun vm =>
 H vm t) (fun c=>c .undef t) fun vn w =>
 aL d (Bo true) vn fun vo =>
 Q vo w
def Jo (p1:Nat) (a0 a1:AV) (M0:RM) (Q:ak) : Prop :=
 gz p1 a0 fun O x =>
 bP O x M0 fun m v =>
 gz p1 a1 fun P y =>
 bP P y v fun n g =>
 aJ m 1 fun vp =>
 az g vp fun vq =>
 aJ n 1 fun vr =>
 az g vr fun vs =>
 af .lss vq vs fun d =>
 aj d false (fun c=>aJ m 1 fun R =>
 c R g) (fun c=>c .undef g) fun S l =>
 aj d false (fun I=>az l S fun U =>
 I U l) (fun c=>c .undef l) fun V u =>
 aj d false (fun L=>aJ n 1 fun W =>
 L W u) (fun c=>c .undef u) fun X h =>
 aj d false (fun z=>az h X fun Y =>
 z Y h) (fun c=>c .undef h) fun Z o =>
 aj d false (fun A=>af .eql V Z fun va =>
 A va o) (fun c=>c .undef o) fun vb p =>
 aj d false (fun B=>B vb p) (fun c=>c .undef p) fun e q =>
 aj e true (fun C=>aJ m 0 fun vc =>
 C vc q) (fun c=>c .undef q) fun vd i =>
 aj e true (fun D=>az i vd fun ve =>
 D ve i) (fun c=>c .undef i) fun vf r =>
 aj e true (fun E=>aJ n 0 fun vg =>
 E vg r) (fun c=>c .undef r) fun vh j =>
 aj e true (fun F=>az j vh fun vi =>
 F vi j) (fun c=>c .undef j) fun vj s =>
 aj e true (fun G=>af .lss vf vj fun vk =>
 G vk s) (fun c=>c .undef s) fun vl t =>
 aj d false (fun H=>aL e vl (Bo false) fun vm =>
 H vm t) (fun c=>c .undef t) fun vn w =>
 aL d (Bo true) vn fun vo =>
 Q vo w
def EI (p1:ai) (p2 p3:Nat) (p4 p5 p6:ai) (a0 a1:AV) (M0:RM) (Q:ak) : Prop :=
 dB a0 fun O =>
 aJ O 1 fun P =>
 az M0 P fun R =>
 p1 [R,a1] M0 fun v p =>
 dm v 0 fun S =>
 dm v 1 fun e =>
 aj e false (fun c=>c a1 p) (fun c=>c .undef p) fun U q =>
 aj e false (fun D=>D a0 q) (fun c=>c .undef q) fun V s =>
 aj e false (fun F=>dB V fun W =>
 F W s) (fun c=>c .undef s) fun X t =>
 aj e false (fun G=>aJ X 0 fun Y =>
 G Y t) (fun c=>c .undef t) fun Z m =>
 aj e false (fun H=>az m Z fun va =>
 H va m) (fun c=>c .undef m) fun vb r =>
 aj e false (fun E=>af .leq U vb fun vc =>
 E vc r) (fun c=>c .undef r) fun vd h =>
 aL e (Bo true) vd fun ve =>
 au ve (
 Q (Bo true) h) (
 dB a0 fun vf =>
 aJ vf 0 fun n =>
 az h n fun o =>
 dB a0 fun vi =>
 aJ vi 1 fun vj =>
 az h vj fun vk =>
 dW p2 1 [(N .u64 0)] [(0,1,a1)] fun I B =>
 sP I B h fun w x d =>
 sP (.row [(N .u64 0),(.sc (.slice none 0 0))] false p3 0) (fun d=>.ptr d 0) x fun g y u =>
 p4 [vk] y fun vl i =>
 az i n fun vh =>
 (vh=o∧dW p2 1 [(N .u64 0)] [(0,1,a1)] fun L C =>
 (A7 d i L C w∧(A7 u i (.row [(N .u64 0),(.sc (.slice none 0 0))] false p3 0) (fun d=>.ptr d 0) g∧p5 [vl,S,w] i fun vm l =>
 az l n fun vg =>
 (vg=o∧(A7 u l (.row [(N .u64 0),(.sc (.slice none 0 0))] false p3 0) (fun d=>.ptr d 0) g∧jo [(N .u64 0),(.sc (.slice none 0 0))] [(0,1,o),(1,1,vm)] fun vn =>
 aC l g vn 2 fun z =>
 p6 [g] z fun vu j =>
 aJ g 1 fun vo =>
 az j vo fun vp =>
 bQ vp fun vq =>
 af .gtr vq (N .i64 4096) fun vr =>
 au vr (
 Q (Bo false) j) (
 av j g 2 fun vs =>
 dB a0 fun vt =>
 aC j vt vs 2 fun A =>
 Q (Bo true) A)))))))
def Oq (p1:Nat) (a0:AV) (M0:RM) (Q:ak) : Prop :=
 jP false 2 a0 (.sc (.slice none 0 0)) fun h =>
 au h (
 Q (.sc (.slice none 0 0)) M0) (
 dW p1 0 [(N .u64 0)] [] fun g e =>
 bP g e M0 fun i c =>
 appW p1 1 8 [(N .u64 0)] false i a0 c fun j d =>
 Q j d)
def Eg (p1:ai) (a0 a1:AV) (M0:RM) (Q:ak) : Prop :=
 dB a0 fun P =>
 aJ P 1 fun w =>
 az M0 w fun x =>
 p1 [x,a1] M0 fun n g =>
 dm n 0 fun R =>
 dm n 1 fun y =>
 af .geq a1 (N .u64 1) fun d =>
 aj d true (fun c=>c a1 g) (fun c=>c .undef g) fun z h =>
 aj d true (fun q=>q a0 h) (fun c=>c .undef h) fun A l =>
 aj d true (fun t=>dB A fun B =>
 t B l) (fun c=>c .undef l) fun C m =>
 aj d true (fun u=>aJ C 0 fun D =>
 u D m) (fun c=>c .undef m) fun E e =>
 aj d true (fun v=>az e E fun F =>
 v F e) (fun c=>c .undef e) fun G i =>
 aj d true (fun r=>af .leq z G fun H =>
 r H i) (fun c=>c .undef i) fun I j =>
 aL d I (Bo false) fun o =>
 aj o false (fun s=>s y j) (fun c=>c .undef j) fun L p =>
 aL o (Bo true) L fun O =>
 Q O p
def uO (p1:Nat) (p2:ai) (p3:Nat) (a0:AV) (M0:RM) (Q:ak) : Prop :=
 bQ a0 fun p =>
 aM (fun n c e =>
 af .lss (aa c 1) p fun q =>
 au q (
 bR (fun i =>
 ah a0 (aa c 1) 1 fun r =>
 az e r fun s =>
 bQ s fun t =>
 af .add (aa c 0) t fun h =>
 af .lss h (N .i64 0) fun u =>
 au u (
 False) (
 i [h] e)) (fun D j =>
 af .add (aa c 1) (N .i64 1) fun v =>
 n [(aa D 0),v] j)) (
 p2 [(.sc (.slice none 0 0)),(aa c 0)] e fun w l =>
 bQ a0 fun x =>
 aM (fun o d g =>
 af .lss (aa d 1) x fun y =>
 au y (
 ah a0 (aa d 1) 1 fun z =>
 az g z fun A =>
 appW p3 1 8 [(N .u64 0)] false (aa d 0) A g fun B m =>
 af .add (aa d 1) (N .i64 1) fun C =>
 o [B,C] m) (
 Q (aa d 0) g)) [w,(N .i64 0)] l)) [(N .i64 0),(N .i64 0)] M0
def xZ (p1 p2:ai) (a0:AV) (M0:RM) (Q:ak) : Prop :=
 bQ a0 fun c =>
 lG .u64 c fun g =>
 p1 [g] M0 fun h d =>
 p2 [a0,(N .i64 0),c,h] d fun i e =>
 Q (.tup []) e
def sw (a0:AV) (M0:RM) (Q:ak) : Prop :=
 bQ a0 fun S =>
 af .lss S (N .i64 2) fun U =>
 au U (
 Q a0 M0) (
 aM (fun n e g =>
 bQ a0 fun p =>
 af .lss (aa e 0) p fun q =>
 au q (
 ah a0 (aa e 0) 1 fun s =>
 az g s fun t =>
 af .sub (aa e 0) (N .i64 1) fun u =>
 ah a0 u 1 fun v =>
 az g v fun w =>
 af .eql t w fun x =>
 au x (
 gq (bZ 1 a0 (some (aa e 0)) none none) fun h =>
 aM (fun o c d =>
 bQ h fun y =>
 af .lss (aa c 1) y fun z =>
 au z (
 bR (fun i =>
 ah h (aa c 1) 1 fun B =>
 az d B fun C =>
 af .sub (aa c 1) (N .i64 1) fun D =>
 ah h D 1 fun E =>
 az d E fun F =>
 af .neq C F fun G =>
 au G (
 ah h (aa c 1) 1 fun H =>
 az d H fun I =>
 ah a0 (aa c 0) 1 fun L =>
 aC d L I 1 fun j =>
 af .add (aa c 0) (N .i64 1) fun O =>
 i [O] j) (
 i [(aa c 0)] d)) (fun V l =>
 af .add (aa c 1) (N .i64 1) fun A =>
 o [(aa V 0),A] l)) (
 gq (bZ 1 a0 (some (aa c 0)) none none) fun P =>
 Lt [(N .u64 0)] P d fun W m =>
 gq (bZ 1 a0 none (some (aa c 0)) none) fun R =>
 Q R m)) [(aa e 0),(N .i64 1)] g) (
 af .add (aa e 0) (N .i64 1) fun r =>
 n [r] g)) (
 Q a0 g)) [(N .i64 1)] M0)
def u7 (a0:AV) (M0:RM) (Q:ak) : Prop :=
 aM (fun L g h =>
 dB a0 fun v5 =>
 aJ v5 1 fun v7 =>
 az h v7 fun v8 =>
 bQ v8 fun v9 =>
 af .lss (aa g 0) v9 fun d =>
 ae d true (fun c=>c a0 h none) (fun c=>c .undef h none) fun O m wa =>
 ae d true (fun x=>dB O fun P =>
 x P m none) (fun c=>c .undef m none) fun R s wj =>
 ae d true (fun H=>aJ R 1 fun S =>
 H S s none) (fun c=>c .undef s none) fun U l wm =>
 ae d true (fun I=>az l U fun V =>
 I V l none) (fun c=>c .undef l none) fun W n wb =>
 ae d true (fun y=>y (aa g 0) n none) (fun c=>c .undef n none) fun X o wc =>
 ae d true (fun z=>ah W X 1 fun Y =>
 z Y o none) (fun c=>c .undef o none) fun Z i wd =>
 ae d true (fun A=>az i Z fun va =>
 A va i none) (fun c=>c .undef i none) fun vb p we =>
 ae d true (fun B=>B a0 p none) (fun c=>c .undef p none) fun vc q wf =>
 ae d true (fun C=>dB vc fun vd =>
 C vd q none) (fun c=>c .undef q none) fun ve r wg =>
 ae d true (fun D=>aJ ve 0 fun vf =>
 D vf r none) (fun c=>c .undef r none) fun vg j wh =>
 ae d true (fun E=>az j vg fun vh =>
 E vh j none) (fun c=>c .undef j none) fun vi t wi =>
 ae d true (fun F=>af .add vi (N .u64 1) fun vj =>
 F vj t none) (fun c=>c .undef t none) fun vk u wk =>
 ae d true (fun G=>af .leq vb vk fun vl =>
 G vl u none) (fun c=>c .undef u none) fun vm e wl =>
 aL d vm (Bo false) fun vn =>
 au vn (
 dB a0 fun vo =>
 aJ vo 0 fun vp =>
 az e vp fun vq =>
 dB a0 fun vr =>
 aJ vr 1 fun vs =>
 az e vs fun vt =>
 ah vt (aa g 0) 1 fun vu =>
 az e vu fun vv =>
 MK true vq vv fun vw =>
 dB a0 fun vx =>
 aJ vx 0 fun vy =>
 aC e vy vw 1 fun v =>
 af .add (aa g 0) (N .i64 1) fun vz =>
 L [vz] v) (
 dB a0 fun v0 =>
 aJ v0 1 fun v1 =>
 az e v1 fun v2 =>
 gq (bZ 1 v2 (some (aa g 0)) none none) fun v3 =>
 dB a0 fun v4 =>
 aJ v4 1 fun v6 =>
 aC e v6 v3 1 fun w =>
 Q (.tup []) w)) [(N .i64 0)] M0
def nE (p1 p2:ai) (a0 a1:AV) (M0:RM) (Q:ak) : Prop :=
 bQ a0 fun D =>
 aM (fun C d h =>
 af .lss (aa d 0) (aa d 1) fun vd =>
 au vd (
 af .add (aa d 0) (aa d 1) fun ve =>
 lG .u64 ve fun vf =>
 Cv .shr vf (N .u64 1) fun vg =>
 lG .i64 vg fun l =>
 ah a0 l 1 fun vh =>
 az h vh fun vi =>
 p1 [vi,a1] h fun vj n =>
 au vj (
 af .add l (N .i64 1) fun vk =>
 C [vk,(aa d 1)] n) (
 C [(aa d 0),l] n)) (
 af .lss (aa d 0) D fun e =>
 aj e true (fun c=>c a0 h) (fun c=>c .undef h) fun vl o =>
 aj e true (fun R=>R (aa d 0) o) (fun c=>c .undef o) fun vm v =>
 aj e true (fun va=>ah vl vm 1 fun vn =>
 va vn v) (fun c=>c .undef v) fun vo j =>
 aj e true (fun vc=>az j vo fun vp =>
 vc vp j) (fun c=>c .undef j) fun vq B =>
 aj e true (fun H=>H a1 B) (fun c=>c .undef B) fun vr p =>
 aj e true (fun I=>af .eql vq vr fun vs =>
 I vs p) (fun c=>c .undef p) fun vt q =>
 aj e true (fun L=>L vt q) (fun c=>c .undef q) fun g r =>
 aj g false (fun O=>O a0 r) (fun c=>c .undef r) fun vu s =>
 aj g false (fun P=>P (aa d 0) s) (fun c=>c .undef s) fun vv t =>
 aj g false (fun S=>ah vu vv 1 fun vw =>
 S vw t) (fun c=>c .undef t) fun vx i =>
 aj g false (fun U=>az i vx fun vy =>
 U vy i) (fun c=>c .undef i) fun vz u =>
 aj g false (fun V=>p2 [vz] u fun v0 E =>
 V v0 E) (fun c=>c .undef u) fun v1 w =>
 aj g false (fun W=>W v1 w) (fun c=>c .undef w) fun m x =>
 aj m true (fun X=>X a1 x) (fun c=>c .undef x) fun v2 y =>
 aj m true (fun Y=>p2 [v2] y fun v3 F =>
 Y v3 F) (fun c=>c .undef y) fun v4 z =>
 aj g false (fun Z=>aL m v4 (Bo false) fun v5 =>
 Z v5 z) (fun c=>c .undef z) fun v6 A =>
 aj e true (fun vb=>aL g (Bo true) v6 fun v7 =>
 vb v7 A) (fun c=>c .undef A) fun v8 G =>
 aL e v8 (Bo false) fun v9 =>
 Q (.tup [(aa d 0),v9]) G)) [(N .i64 0),D] M0
def mI (p1:Nat) (p2 p3:ai) (a0 a1 a2:AV) (M0:RM) (Q:ak) : Prop :=
 gq (bZ 1 a0 (some a1) none none) fun V =>
 bQ a2 fun c =>
 af .eql c (N .i64 0) fun r =>
 au r (
 Q a0 M0) (
 bQ a0 fun e =>
 af .eql a1 e fun s =>
 au s (
 appW p1 1 8 [(N .u64 0)] false a0 a2 M0 fun t i =>
 Q t i) (
 af .add e c fun u =>
 BJ a0 fun v =>
 af .gtr u v fun w =>
 au w (
 gq (bZ 1 a0 none (some a1) none) fun x =>
 af .add e c fun y =>
 af .sub y a1 fun z =>
 appW p1 1 8 [(N .u64 0)] true x z M0 fun g j =>
 gq (bZ 1 g (some a1) none none) fun A =>
 Ba 1 A a2 j fun W l =>
 af .add a1 c fun B =>
 gq (bZ 1 g (some B) none none) fun C =>
 gq (bZ 1 a0 (some a1) none none) fun D =>
 Ba 1 C D l fun X m =>
 Q g m) (
 af .add e c fun E =>
 gq (bZ 1 a0 none (some E) none) fun d =>
 af .add a1 c fun F =>
 gq (bZ 1 d (some F) none none) fun G =>
 p2 [a2,G] M0 fun H h =>
 cK H fun I =>
 au I (
 af .add a1 c fun L =>
 gq (bZ 1 d (some L) none none) fun O =>
 gq (bZ 1 d (some a1) none none) fun P =>
 Ba 1 O P h fun Y n =>
 gq (bZ 1 d (some a1) none none) fun R =>
 Ba 1 R a2 n fun Z o =>
 Q d o) (
 gq (bZ 1 d (some e) none none) fun S =>
 Ba 1 S a2 h fun va p =>
 gq (bZ 1 d (some a1) none none) fun U =>
 p3 [U,c] p fun vb q =>
 Q d q))))
def xV (p1 p2:Nat) (a0 a1:AV) (M0:RM) (Q:ak) : Prop :=
 bR (fun g =>
 af .lss a1 (N .i64 0) fun t =>
 au t (
 False) (
 g [] M0)) (fun v d =>
 bR (fun c =>
 BJ a0 fun j =>
 bQ a0 fun l =>
 af .sub j l fun m =>
 af .sub a1 m fun e =>
 af .gtr e (N .i64 0) fun n =>
 au n (
 BJ a0 fun o =>
 gq (bZ 1 a0 none (some o) none) fun p =>
 appW p2 1 8 [(N .u64 0)] true p e d fun q h =>
 bQ a0 fun r =>
 gq (bZ 1 q none (some r) none) fun s =>
 c [s] h) (
 c [a0] d)) (fun u i =>
 Q (aa u 0) i))
def gF (p1 p2 p3 p4 p5 p6 p7 p8 p9 p10:ai) (a0 a1 a2 a3:AV) (M0:RM) (Q:ak) : Prop :=
 aM (fun n c i =>
 af .sub (aa c 1) (aa c 0) fun S =>
 af .leq S (N .i64 12) fun vz =>
 au vz (
 p1 [a0,(aa c 0),(aa c 1)] i fun w9 Y =>
 Q (.tup []) Y) (
 af .eql (aa c 2) (N .i64 0) fun v0 =>
 au v0 (
 p2 [a0,(aa c 0),(aa c 1)] i fun xa Z =>
 Q (.tup []) Z) (
 bR (fun p =>
 cK (aa c 3) fun v1 =>
 au v1 (
 p3 [a0,(aa c 0),(aa c 1)] i fun xb va =>
 af .sub (aa c 2) (N .i64 1) fun v2 =>
 p [v2] va) (
 p [(aa c 2)] i)) (fun h vb =>
 p4 [a0,(aa c 0),(aa c 1)] vb fun U E =>
 dm U 0 fun V =>
 dm U 1 fun W =>
 bR (fun r =>
 af .eql W (N .i64 2) fun v3 =>
 au v3 (
 p5 [a0,(aa c 0),(aa c 1)] E fun xc vg =>
 af .sub (aa c 1) (N .i64 1) fun v4 =>
 af .sub V (aa c 0) fun v5 =>
 af .sub v4 v5 fun v6 =>
 r [v6,(N .i64 1)] vg) (
 r [V,W] E)) (fun j I =>
 bR (fun q =>
 aj (aa c 3) true (fun d=>d (aa c 4) I) (fun d=>d .undef I) fun v7 s =>
 aL (aa c 3) v7 (Bo false) fun o =>
 aj o true (fun vh=>vh (aa j 1) s) (fun d=>d .undef s) fun v8 t =>
 aj o true (fun vi=>af .eql v8 (N .i64 1) fun v9 =>
 vi v9 t) (fun d=>d .undef t) fun wa u =>
 aL o wa (Bo false) fun wb =>
 au wb (
 p6 [a0,(aa c 0),(aa c 1)] u fun wc v =>
 au wc (
 Q (.tup []) v) (
 q [] v)) (
 q [] u)) (fun xd w =>
 af .gtr (aa c 0) (N .i64 0) fun e =>
 ae e true (fun vj=>vj a0 w none) (fun d=>d .undef w none) fun wd x wx =>
 ae e true (fun vk=>vk (aa c 0) x none) (fun d=>d .undef x none) fun we y wy =>
 ae e true (fun vl=>af .sub we (N .i64 1) fun wf =>
 vl wf y none) (fun d=>d .undef y none) fun wg z wz =>
 ae e true (fun vm=>ah wd wg 1 fun wh =>
 vm wh z none) (fun d=>d .undef z none) fun wi l w0 =>
 ae e true (fun vn=>az l wi fun wj =>
 vn wj l none) (fun d=>d .undef l none) fun wk A w1 =>
 ae e true (fun vo=>vo a0 A none) (fun d=>d .undef A none) fun wl B w2 =>
 ae e true (fun vp=>vp (aa j 0) B none) (fun d=>d .undef B none) fun wm C w3 =>
 ae e true (fun vq=>ah wl wm 1 fun wn =>
 vq wn C none) (fun d=>d .undef C none) fun wo m w4 =>
 ae e true (fun vr=>az m wo fun wp =>
 vr wp m none) (fun d=>d .undef m none) fun wq D w5 =>
 aj e true (fun vs=>p7 [wk,wq] D fun wr vc =>
 vs wr vc) (fun d=>d .undef D) fun ws F =>
 ae e true (fun vt=>cK ws fun wt =>
 vt wt F none) (fun d=>d .undef F none) fun wu G w6 =>
 aL e wu (Bo false) fun wv =>
 au wv (
 p8 [a0,(aa c 0),(aa c 1),(aa j 0)] G fun ww vd =>
 n [ww,(aa c 1),(aa h 0),(aa c 3),(aa c 4)] vd) (
 p9 [a0,(aa c 0),(aa c 1),(aa j 0)] G fun X H =>
 dm X 0 fun g =>
 dm X 1 fun L =>
 af .sub g (aa c 0) fun O =>
 af .sub (aa c 1) g fun P =>
 af .quo S (N .i64 8) fun R =>
 af .lss O P fun vu =>
 au vu (
 af .geq O R fun vv =>
 p10 [a0,(aa c 0),g,(aa h 0)] H fun w7 ve =>
 af .add g (N .i64 1) fun vw =>
 n [vw,(aa c 1),(aa h 0),vv,L] ve) (
 af .geq P R fun vx =>
 af .add g (N .i64 1) fun vy =>
 p10 [a0,vy,(aa c 1),(aa h 0)] H fun w8 vf =>
 n [(aa c 0),g,(aa h 0),vx,L] vf)))))))) [a1,a2,a3,(Bo true),(Bo true)] M0
def uU (p1 p2:ai) (a0:AV) (M0:RM) (Q:ak) : Prop :=
 au (Bo false) (
 lG .u32 a0 fun e =>
 p1 [e] M0 fun g c =>
 Q g c) (
 p2 [a0] M0 fun h d =>
 Q h d)
def xN (p1:ai) (a0 a1:AV) (M0:RM) (Q:ak) : Prop :=
 p1 [a0] M0 fun e g =>
 aj e true (fun c=>c a1 g) (fun c=>c .undef g) fun B h =>
 aj e true (fun p=>p1 [B] h fun C o =>
 p C o) (fun c=>c .undef h) fun D j =>
 aj e true (fun s=>cK D fun u =>
 s u j) (fun c=>c .undef j) fun v l =>
 aL e v (Bo false) fun d =>
 aj d false (fun t=>t a0 l) (fun c=>c .undef l) fun w m =>
 aj d false (fun q=>q a1 m) (fun c=>c .undef m) fun x i =>
 aj d false (fun r=>af .lss w x fun y =>
 r y i) (fun c=>c .undef i) fun z n =>
 aL d (Bo true) z fun A =>
 Q A n
def sK (a0:AV) (M0:RM) (Q:ak) : Prop :=
 af .neq a0 a0 fun c =>
 Q c M0
def eG (p1:ai) (a0 a1 a2:AV) (M0:RM) (Q:ak) : Prop :=
 af .add a1 (N .i64 1) fun vq =>
 aM (fun G j l =>
 af .lss (aa j 0) a2 fun I =>
 au I (
 aM (fun H e p =>
 af .gtr (aa e 0) a1 fun d =>
 ae d true (fun c=>c a0 p none) (fun c=>c .undef p none) fun O r vr =>
 ae d true (fun E=>E (aa e 0) r none) (fun c=>c .undef r none) fun P t vz =>
 ae d true (fun F=>ah O P 1 fun R =>
 F R t none) (fun c=>c .undef t none) fun S i vs =>
 ae d true (fun x=>az i S fun U =>
 x U i none) (fun c=>c .undef i none) fun V m vt =>
 ae d true (fun y=>y a0 m none) (fun c=>c .undef m none) fun W n vu =>
 ae d true (fun z=>z (aa e 0) n none) (fun c=>c .undef n none) fun X o vv =>
 ae d true (fun A=>af .sub X (N .i64 1) fun Y =>
 A Y o none) (fun c=>c .undef o none) fun Z q vw =>
 ae d true (fun B=>ah W Z 1 fun va =>
 B va q none) (fun c=>c .undef q none) fun vb h vx =>
 ae d true (fun C=>az h vb fun vc =>
 C vc h none) (fun c=>c .undef h none) fun vd s vy =>
 aj d true (fun D=>p1 [V,vd] s fun ve u =>
 D ve u) (fun c=>c .undef s) fun vf g =>
 aL d vf (Bo false) fun vg =>
 au vg (
 af .sub (aa e 0) (N .i64 1) fun vi =>
 af .sub (aa e 0) (N .i64 1) fun vj =>
 ah a0 vj 1 fun vk =>
 az g vk fun vl =>
 ah a0 (aa e 0) 1 fun vm =>
 az g vm fun vn =>
 ah a0 (aa e 0) 1 fun vo =>
 aC g vo vl 1 fun v =>
 ah a0 vi 1 fun vp =>
 aC v vp vn 1 fun w =>
 af .sub (aa e 0) (N .i64 1) fun vh =>
 H [vh] w) (
 af .add (aa j 0) (N .i64 1) fun L =>
 G [L] g)) [(aa j 0)] l) (
 Q (.tup []) l)) [vq] M0
def lC (p1:ai) (a0 a1 a2:AV) (M0:RM) (Q:ak) : Prop :=
 af .sub a2 a1 fun e =>
 af .sub e (N .i64 1) fun p =>
 af .quo p (N .i64 2) fun q =>
 aM (fun n g h =>
 af .geq (aa g 0) (N .i64 0) fun r =>
 au r (
 p1 [a0,(aa g 0),e,a1] h fun E i =>
 af .sub (aa g 0) (N .i64 1) fun s =>
 n [s] i) (
 af .sub e (N .i64 1) fun t =>
 aM (fun o c d =>
 af .geq (aa c 0) (N .i64 0) fun u =>
 au u (
 af .add a1 (aa c 0) fun w =>
 af .add a1 (aa c 0) fun x =>
 ah a0 x 1 fun y =>
 az d y fun z =>
 ah a0 a1 1 fun A =>
 az d A fun B =>
 ah a0 a1 1 fun C =>
 aC d C z 1 fun j =>
 ah a0 w 1 fun D =>
 aC j D B 1 fun l =>
 p1 [a0,(N .i64 0),(aa c 0),a1] l fun F m =>
 af .sub (aa c 0) (N .i64 1) fun v =>
 o [v] m) (
 Q (.tup []) d)) [t] h)) [q] M0
def jf (p1:Nat) (p2 p3:ai) (a0 a1 a2:AV) (M0:RM) (Q:ak) : Prop :=
 af .sub a2 a1 fun c =>
 af .geq c (N .i64 8) fun w =>
 au w (
 lG .u64 c fun x =>
 bP (.row [(N .u64 0)] false p1 0) (fun u=>.ptr u 0) M0 fun l o =>
 aC o l x 1 fun p =>
 p2 [c] p fun y q =>
 af .quo c (N .i64 4) fun z =>
 af .mul z (N .i64 2) fun A =>
 af .add a1 A fun B =>
 af .sub B (N .i64 1) fun C =>
 aM (fun v d i =>
 af .quo c (N .i64 4) fun D =>
 af .mul D (N .i64 2) fun E =>
 af .add a1 E fun F =>
 af .add F (N .i64 1) fun G =>
 af .leq (aa d 0) G fun H =>
 au H (
 bR (fun n =>
 p3 [l] i fun L j =>
 af .sub y (N .u64 1) fun O =>
 af .and L O fun P =>
 lG .i64 P fun g =>
 bR (fun h =>
 af .geq g c fun R =>
 au R (
 af .sub g c fun S =>
 h [S] j) (
 h [g] j)) (fun m e =>
 af .add a1 (aa m 0) fun U =>
 af .add a1 (aa m 0) fun V =>
 ah a0 V 1 fun W =>
 az e W fun X =>
 ah a0 (aa d 0) 1 fun Y =>
 az e Y fun Z =>
 ah a0 (aa d 0) 1 fun va =>
 aC e va X 1 fun s =>
 ah a0 U 1 fun vb =>
 aC s vb Z 1 fun t =>
 n [] t)) (fun vc r =>
 af .add (aa d 0) (N .i64 1) fun I =>
 v [I] r)) (
 Q (.tup []) i)) [C] q) (
 Q (.tup []) M0)
def jV (p1:Nat) (p2 p3:ai) (a0 a1 a2:AV) (M0:RM) (Q:ak) : Prop :=
 af .sub a2 a1 fun c =>
 bP (.row [(N .i64 0)] false p1 0) (fun v=>.ptr v 0) M0 fun d g =>
 af .quo c (N .i64 4) fun w =>
 af .mul w (N .i64 1) fun x =>
 af .add a1 x fun n =>
 af .quo c (N .i64 4) fun y =>
 af .mul y (N .i64 2) fun z =>
 af .add a1 z fun h =>
 af .quo c (N .i64 4) fun A =>
 af .mul A (N .i64 3) fun B =>
 af .add a1 B fun o =>
 bR (fun l =>
 af .geq c (N .i64 8) fun C =>
 au C (
 bR (fun m =>
 af .geq c (N .i64 50) fun D =>
 au D (
 p2 [a0,n,d] g fun E q =>
 p2 [a0,h,d] q fun F r =>
 p2 [a0,o,d] r fun G s =>
 m [E,F,G] s) (
 m [n,h,o] g)) (fun i t =>
 p3 [a0,(aa i 0),(aa i 1),(aa i 2),d] t fun H u =>
 l [H] u)) (
 l [h] g)) (fun j e =>
 az e d fun p =>
 af .eql p (N .i64 0) fun I =>
 au I (
 Q (.tup [(aa j 0),(N .i64 1)]) e) (
 af .eql p (N .i64 12) fun L =>
 au L (
 Q (.tup [(aa j 0),(N .i64 2)]) e) (
 Q (.tup [(aa j 0),(N .i64 0)]) e)))
def jB (a0 a1 a2:AV) (M0:RM) (Q:ak) : Prop :=
 af .sub a2 (N .i64 1) fun i =>
 aM (fun h c d =>
 af .lss (aa c 0) (aa c 1) fun j =>
 au j (
 ah a0 (aa c 1) 1 fun l =>
 az d l fun m =>
 ah a0 (aa c 0) 1 fun n =>
 az d n fun o =>
 ah a0 (aa c 0) 1 fun p =>
 aC d p m 1 fun e =>
 ah a0 (aa c 1) 1 fun q =>
 aC e q o 1 fun g =>
 af .add (aa c 0) (N .i64 1) fun r =>
 af .sub (aa c 1) (N .i64 1) fun s =>
 h [r,s] g) (
 Q (.tup []) d)) [a1,i] M0
def gm (p1:ai) (a0 a1 a2:AV) (M0:RM) (Q:ak) : Prop :=
 af .add a1 (N .i64 1) fun vq =>
 aM (fun vc s t =>
 af .lss (aa s 1) (N .i64 5) fun vz =>
 au vz (
 bR (fun o =>
 aM (fun vd d x =>
 af .lss (aa d 0) a2 fun e =>
 ae e true (fun c=>c a0 x none) (fun c=>c .undef x none) fun v1 z xj =>
 ae e true (fun va=>va (aa d 0) z none) (fun c=>c .undef z none) fun v2 D xs =>
 ae e true (fun vb=>ah v1 v2 1 fun v3 =>
 vb v3 D none) (fun c=>c .undef D none) fun v4 r xk =>
 ae e true (fun R=>az r v4 fun v5 =>
 R v5 r none) (fun c=>c .undef r none) fun v6 u xl =>
 ae e true (fun S=>S a0 u none) (fun c=>c .undef u none) fun v7 v xm =>
 ae e true (fun U=>U (aa d 0) v none) (fun c=>c .undef v none) fun v8 w xn =>
 ae e true (fun V=>af .sub v8 (N .i64 1) fun v9 =>
 V v9 w none) (fun c=>c .undef w none) fun wa y xo =>
 ae e true (fun W=>ah v7 wa 1 fun wb =>
 W wb y none) (fun c=>c .undef y none) fun wc q xp =>
 ae e true (fun X=>az q wc fun wd =>
 X wd q none) (fun c=>c .undef q none) fun we A xq =>
 aj e true (fun Y=>p1 [v6,we] A fun wf F =>
 Y wf F) (fun c=>c .undef A) fun wg B =>
 ae e true (fun Z=>cK wg fun wh =>
 Z wh B none) (fun c=>c .undef B none) fun wi i xr =>
 aL e wi (Bo false) fun wj =>
 au wj (
 af .add (aa d 0) (N .i64 1) fun wk =>
 vd [wk] i) (
 af .eql (aa d 0) a2 fun wl =>
 au wl (
 Q (Bo true) i) (
 af .sub a2 a1 fun wm =>
 af .lss wm (N .i64 50) fun wn =>
 au wn (
 Q (Bo false) i) (
 af .sub (aa d 0) (N .i64 1) fun wo =>
 af .sub (aa d 0) (N .i64 1) fun wp =>
 ah a0 wp 1 fun wq =>
 az i wq fun wr =>
 ah a0 (aa d 0) 1 fun ws =>
 az i ws fun wt =>
 ah a0 (aa d 0) 1 fun wu =>
 aC i wu wr 1 fun G =>
 ah a0 wo 1 fun wv =>
 aC G wv wt 1 fun C =>
 bR (fun p =>
 af .sub (aa d 0) a1 fun ww =>
 af .geq ww (N .i64 2) fun wx =>
 au wx (
 af .sub (aa d 0) (N .i64 1) fun wy =>
 aM (fun ve g j =>
 af .geq (aa g 0) (N .i64 1) fun wz =>
 au wz (
 ah a0 (aa g 0) 1 fun w1 =>
 az j w1 fun w2 =>
 af .sub (aa g 0) (N .i64 1) fun w3 =>
 ah a0 w3 1 fun w4 =>
 az j w4 fun w5 =>
 p1 [w2,w5] j fun w6 l =>
 cK w6 fun w7 =>
 au w7 (
 p [] l) (
 af .sub (aa g 0) (N .i64 1) fun w8 =>
 af .sub (aa g 0) (N .i64 1) fun w9 =>
 ah a0 w9 1 fun xa =>
 az l xa fun xb =>
 ah a0 (aa g 0) 1 fun xc =>
 az l xc fun xd =>
 ah a0 (aa g 0) 1 fun xe =>
 aC l xe xb 1 fun H =>
 ah a0 w8 1 fun xf =>
 aC H xf xd 1 fun I =>
 af .sub (aa g 0) (N .i64 1) fun w0 =>
 ve [w0] I)) (
 p [] j)) [wy] C) (
 p [] C)) (fun xt E =>
 af .sub a2 (aa d 0) fun xg =>
 af .geq xg (N .i64 2) fun xh =>
 au xh (
 af .add (aa d 0) (N .i64 1) fun vg =>
 aM (fun vf h m =>
 af .lss (aa h 0) a2 fun vh =>
 au vh (
 ah a0 (aa h 0) 1 fun vj =>
 az m vj fun vk =>
 af .sub (aa h 0) (N .i64 1) fun vl =>
 ah a0 vl 1 fun vm =>
 az m vm fun vn =>
 p1 [vk,vn] m fun vo n =>
 cK vo fun vp =>
 au vp (
 o [(aa d 0)] n) (
 af .sub (aa h 0) (N .i64 1) fun vr =>
 af .sub (aa h 0) (N .i64 1) fun vs =>
 ah a0 vs 1 fun vt =>
 az n vt fun vu =>
 ah a0 (aa h 0) 1 fun vv =>
 az n vv fun vw =>
 ah a0 (aa h 0) 1 fun vx =>
 aC n vx vu 1 fun L =>
 ah a0 vr 1 fun vy =>
 aC L vy vw 1 fun O =>
 af .add (aa h 0) (N .i64 1) fun vi =>
 vf [vi] O)) (
 o [(aa d 0)] m)) [vg] E) (
 o [(aa d 0)] E)))))) [(aa s 0)] t) (fun xi P =>
 af .add (aa s 1) (N .i64 1) fun v0 =>
 vc [(aa xi 0),v0] P)) (
 Q (Bo false) t)) [vq,(N .i64 0)] M0
def ja (p1:ai) (a0 a1 a2 a3:AV) (M0:RM) (Q:ak) : Prop :=
 ah a0 a3 1 fun vn =>
 az M0 vn fun vo =>
 ah a0 a1 1 fun vp =>
 az M0 vp fun vq =>
 ah a0 a1 1 fun vr =>
 aC M0 vr vo 1 fun F =>
 ah a0 a3 1 fun vs =>
 aC F vs vq 1 fun G =>
 af .add a1 (N .i64 1) fun vt =>
 af .sub a2 (N .i64 1) fun vu =>
 aM (fun vk o H =>
 aM (fun vl g v =>
 af .leq (aa g 0) (aa o 1) fun d =>
 ae d true (fun c=>c a0 v none) (fun c=>c .undef v none) fun vv z w2 =>
 ae d true (fun vf=>vf a1 z none) (fun c=>c .undef z none) fun vw E xi =>
 ae d true (fun vj=>ah vv vw 1 fun vx =>
 vj vx E none) (fun c=>c .undef E none) fun vy j w3 =>
 ae d true (fun R=>az j vy fun vz =>
 R vz j none) (fun c=>c .undef j none) fun v0 p w4 =>
 ae d true (fun S=>S a0 p none) (fun c=>c .undef p none) fun v1 q w5 =>
 ae d true (fun U=>U (aa g 0) q none) (fun c=>c .undef q none) fun v2 r w6 =>
 ae d true (fun V=>ah v1 v2 1 fun v3 =>
 V v3 r none) (fun c=>c .undef r none) fun v4 l w7 =>
 ae d true (fun W=>az l v4 fun v5 =>
 W v5 l none) (fun c=>c .undef l none) fun v6 s w8 =>
 aj d true (fun X=>p1 [v0,v6] s fun v7 I =>
 X v7 I) (fun c=>c .undef s) fun v8 t =>
 ae d true (fun Y=>cK v8 fun v9 =>
 Y v9 t none) (fun c=>c .undef t none) fun wa u w9 =>
 aL d wa (Bo false) fun wb =>
 au wb (
 af .add (aa g 0) (N .i64 1) fun wc =>
 vl [wc] u) (
 aM (fun vm h w =>
 af .leq (aa g 0) (aa h 0) fun e =>
 ae e true (fun Z=>Z a0 w none) (fun c=>c .undef w none) fun wd x xa =>
 ae e true (fun va=>va a1 x none) (fun c=>c .undef x none) fun we y xb =>
 ae e true (fun vb=>ah wd we 1 fun wf =>
 vb wf y none) (fun c=>c .undef y none) fun wg m xc =>
 ae e true (fun vc=>az m wg fun wh =>
 vc wh m none) (fun c=>c .undef m none) fun wi A xd =>
 ae e true (fun vd=>vd a0 A none) (fun c=>c .undef A none) fun wj B xe =>
 ae e true (fun ve=>ve (aa h 0) B none) (fun c=>c .undef B none) fun wk C xf =>
 ae e true (fun vg=>ah wj wk 1 fun wl =>
 vg wl C none) (fun c=>c .undef C none) fun wm n xg =>
 ae e true (fun vh=>az n wm fun wn =>
 vh wn n none) (fun c=>c .undef n none) fun wo D xh =>
 aj e true (fun vi=>p1 [wi,wo] D fun wp L =>
 vi wp L) (fun c=>c .undef D) fun wq i =>
 aL e wq (Bo false) fun wr =>
 au wr (
 af .sub (aa h 0) (N .i64 1) fun ws =>
 vm [ws] i) (
 af .gtr (aa g 0) (aa h 0) fun wt =>
 au wt (
 Q (aa g 0) i) (
 ah a0 (aa h 0) 1 fun wu =>
 az i wu fun wv =>
 ah a0 (aa g 0) 1 fun ww =>
 az i ww fun wx =>
 ah a0 (aa g 0) 1 fun wy =>
 aC i wy wv 1 fun O =>
 ah a0 (aa h 0) 1 fun wz =>
 aC O wz wx 1 fun P =>
 af .add (aa g 0) (N .i64 1) fun w0 =>
 af .sub (aa h 0) (N .i64 1) fun w1 =>
 vk [w0,w1] P))) [(aa o 1)] u)) [(aa o 0)] H) [vt,vu] G
def kU (p1:ai) (a0 a1 a2 a3:AV) (M0:RM) (Q:ak) : Prop :=
 ah a0 a3 1 fun yj =>
 az M0 yj fun yk =>
 ah a0 a1 1 fun yl =>
 az M0 yl fun ym =>
 ah a0 a1 1 fun yn =>
 aC M0 yn yk 1 fun vl =>
 ah a0 a3 1 fun yo =>
 aC vl yo ym 1 fun vm =>
 af .add a1 (N .i64 1) fun yp =>
 af .sub a2 (N .i64 1) fun vk =>
 aM (fun w1 l y =>
 af .leq (aa l 0) vk fun h =>
 ae h true (fun c=>c a0 y none) (fun c=>c .undef y none) fun yq R z3 =>
 ae h true (fun wj=>wj (aa l 0) R none) (fun c=>c .undef R none) fun yr Y d5 =>
 ae h true (fun ws=>ah yq yr 1 fun ys =>
 ws ys Y none) (fun c=>c .undef Y none) fun yt v e3 =>
 ae h true (fun v0=>az v yt fun yu =>
 v0 yu v none) (fun c=>c .undef v none) fun yv D c1 =>
 ae h true (fun wb=>wb a0 D none) (fun c=>c .undef D none) fun yw O c7 =>
 ae h true (fun wf=>wf a1 O none) (fun c=>c .undef O none) fun yx P c8 =>
 ae h true (fun wg=>ah yw yx 1 fun yy =>
 wg yy P none) (fun c=>c .undef P none) fun yz s c9 =>
 ae h true (fun wh=>az s yz fun y0 =>
 wh y0 s none) (fun c=>c .undef s none) fun y1 S d0 =>
 aj h true (fun wi=>p1 [yv,y1] S fun y2 vt =>
 wi y2 vt) (fun c=>c .undef S) fun y3 U =>
 aL h y3 (Bo false) fun y4 =>
 au y4 (
 af .add (aa l 0) (N .i64 1) fun y5 =>
 w1 [y5] U) (
 aM (fun w3 j V =>
 af .leq (aa l 0) (aa j 0) fun e =>
 ae e true (fun wk=>wk a0 V none) (fun c=>c .undef V none) fun y6 W d1 =>
 ae e true (fun wl=>wl (aa j 0) W none) (fun c=>c .undef W none) fun y7 X d2 =>
 ae e true (fun wm=>ah y6 y7 1 fun y8 =>
 wm y8 X none) (fun c=>c .undef X none) fun y9 t d3 =>
 ae e true (fun wn=>az t y9 fun za =>
 wn za t none) (fun c=>c .undef t none) fun zb Z d4 =>
 ae e true (fun wo=>wo a0 Z none) (fun c=>c .undef Z none) fun zc va d6 =>
 ae e true (fun wp=>wp a1 va none) (fun c=>c .undef va none) fun zd vb d7 =>
 ae e true (fun wq=>ah zc zd 1 fun ze =>
 wq ze vb none) (fun c=>c .undef vb none) fun zf u d8 =>
 ae e true (fun wr=>az u zf fun zg =>
 wr zg u none) (fun c=>c .undef u none) fun zh vc d9 =>
 aj e true (fun wt=>p1 [zb,zh] vc fun zi vu =>
 wt zi vu) (fun c=>c .undef vc) fun zj vd =>
 ae e true (fun wu=>cK zj fun zk =>
 wu zk vd none) (fun c=>c .undef vd none) fun zl o e0 =>
 aL e zl (Bo false) fun zm =>
 au zm (
 af .sub (aa j 0) (N .i64 1) fun zn =>
 w3 [zn] o) (
 af .gtr (aa l 0) (aa j 0) fun zo =>
 au zo (
 ah a0 a1 1 fun zp =>
 az o zp fun zq =>
 ah a0 (aa j 0) 1 fun zr =>
 az o zr fun zs =>
 ah a0 (aa j 0) 1 fun zt =>
 aC o zt zq 1 fun vv =>
 ah a0 a1 1 fun zu =>
 aC vv zu zs 1 fun vw =>
 Q (.tup [(aa j 0),(Bo true)]) vw) (
 ah a0 (aa j 0) 1 fun zv =>
 az o zv fun zw =>
 ah a0 (aa l 0) 1 fun zx =>
 az o zx fun zy =>
 ah a0 (aa l 0) 1 fun zz =>
 aC o zz zw 1 fun vx =>
 ah a0 (aa j 0) 1 fun z0 =>
 aC vx z0 zy 1 fun vy =>
 af .add (aa l 0) (N .i64 1) fun z1 =>
 af .sub (aa j 0) (N .i64 1) fun z2 =>
 aM (fun w4 x vz =>
 aM (fun w5 m ve =>
 af .leq (aa m 0) (aa x 1) fun g =>
 ae g true (fun wv=>wv a0 ve none) (fun c=>c .undef ve none) fun w6 vf e1 =>
 ae g true (fun ww=>ww (aa m 0) vf none) (fun c=>c .undef vf none) fun w7 vg e2 =>
 ae g true (fun wx=>ah w6 w7 1 fun w8 =>
 wx w8 vg none) (fun c=>c .undef vg none) fun w9 w e4 =>
 ae g true (fun wy=>az w w9 fun xa =>
 wy xa w none) (fun c=>c .undef w none) fun xb vh e5 =>
 ae g true (fun wz=>wz a0 vh none) (fun c=>c .undef vh none) fun xc vi e6 =>
 ae g true (fun w0=>w0 a1 vi none) (fun c=>c .undef vi none) fun xd vj z4 =>
 ae g true (fun v1=>ah xc xd 1 fun xe =>
 v1 xe vj none) (fun c=>c .undef vj none) fun xf p z5 =>
 ae g true (fun v2=>az p xf fun xg =>
 v2 xg p none) (fun c=>c .undef p none) fun xh z z6 =>
 aj g true (fun v3=>p1 [xb,xh] z fun xi vn =>
 v3 xi vn) (fun c=>c .undef z) fun xj A =>
 aL g xj (Bo false) fun xk =>
 au xk (
 af .add (aa m 0) (N .i64 1) fun xl =>
 w5 [xl] A) (
 aM (fun w2 i B =>
 af .leq (aa m 0) (aa i 0) fun d =>
 ae d true (fun v4=>v4 a0 B none) (fun c=>c .undef B none) fun xm C z7 =>
 ae d true (fun v5=>v5 (aa i 0) C none) (fun c=>c .undef C none) fun xn E z8 =>
 ae d true (fun v6=>ah xm xn 1 fun xo =>
 v6 xo E none) (fun c=>c .undef E none) fun xp q z9 =>
 ae d true (fun v7=>az q xp fun xq =>
 v7 xq q none) (fun c=>c .undef q none) fun xr F c0 =>
 ae d true (fun v8=>v8 a0 F none) (fun c=>c .undef F none) fun xs G c2 =>
 ae d true (fun v9=>v9 a1 G none) (fun c=>c .undef G none) fun xt H c3 =>
 ae d true (fun wa=>ah xs xt 1 fun xu =>
 wa xu H none) (fun c=>c .undef H none) fun xv r c4 =>
 ae d true (fun wc=>az r xv fun xw =>
 wc xw r none) (fun c=>c .undef r none) fun xx I c5 =>
 aj d true (fun wd=>p1 [xr,xx] I fun xy vo =>
 wd xy vo) (fun c=>c .undef I) fun xz L =>
 ae d true (fun we=>cK xz fun x0 =>
 we x0 L none) (fun c=>c .undef L none) fun x1 n c6 =>
 aL d x1 (Bo false) fun x2 =>
 au x2 (
 af .sub (aa i 0) (N .i64 1) fun x3 =>
 w2 [x3] n) (
 af .gtr (aa m 0) (aa i 0) fun x4 =>
 au x4 (
 ah a0 a1 1 fun yd =>
 az n yd fun ye =>
 ah a0 (aa i 0) 1 fun yf =>
 az n yf fun yg =>
 ah a0 (aa i 0) 1 fun yh =>
 aC n yh ye 1 fun vp =>
 ah a0 a1 1 fun yi =>
 aC vp yi yg 1 fun vq =>
 Q (.tup [(aa i 0),(Bo false)]) vq) (
 ah a0 (aa i 0) 1 fun x5 =>
 az n x5 fun x6 =>
 ah a0 (aa m 0) 1 fun x7 =>
 az n x7 fun x8 =>
 ah a0 (aa m 0) 1 fun x9 =>
 aC n x9 x6 1 fun vr =>
 ah a0 (aa i 0) 1 fun ya =>
 aC vr ya x8 1 fun vs =>
 af .add (aa m 0) (N .i64 1) fun yb =>
 af .sub (aa i 0) (N .i64 1) fun yc =>
 w4 [yb,yc] vs))) [(aa x 1)] A)) [(aa x 0)] vz) [z1,z2] vy))) [vk] U)) [yp] vm
def ru (a0:AV) (M0:RM) (Q:ak) : Prop :=
 bR (fun e =>
 af .geq a0 (N .u64 4294967296) fun w =>
 au w (
 Cv .shr a0 (N .u64 32) fun x =>
 e [x,(N .i64 32)] M0) (
 e [a0,(N .i64 0)] M0)) (fun c i =>
 bR (fun g =>
 af .geq (aa c 0) (N .u64 65536) fun y =>
 au y (
 Cv .shr (aa c 0) (N .u64 16) fun n =>
 af .add (aa c 1) (N .i64 16) fun o =>
 g [n,o] i) (
 g [(aa c 0),(aa c 1)] i)) (fun d j =>
 bR (fun h =>
 af .geq (aa d 0) (N .u64 256) fun p =>
 au p (
 Cv .shr (aa d 0) (N .u64 8) fun q =>
 af .add (aa d 1) (N .i64 8) fun r =>
 h [q,r] j) (
 h [(aa d 0),(aa d 1)] j)) (fun l m =>
 lG .u8 (aa l 0) fun s =>
 RU (St [0,1,2,2,3,3,3,3,4,4,4,4,4,4,4,4,5,5,5,5,5,5,5,5,5,5,5,5,5,5,5,5,6,6,6,6,6,6,6,6,6,6,6,6,6,6,6,6,6,6,6,6,6,6,6,6,6,6,6,6,6,6,6,6,7,7,7,7,7,7,7,7,7,7,7,7,7,7,7,7,7,7,7,7,7,7,7,7,7,7,7,7,7,7,7,7,7,7,7,7,7,7,7,7,7,7,7,7,7,7,7,7,7,7,7,7,7,7,7,7,7,7,7,7,7,7,7,7,8,8,8,8,8,8,8,8,8,8,8,8,8,8,8,8,8,8,8,8,8,8,8,8,8,8,8,8,8,8,8,8,8,8,8,8,8,8,8,8,8,8,8,8,8,8,8,8,8,8,8,8,8,8,8,8,8,8,8,8,8,8,8,8,8,8,8,8,8,8,8,8,8,8,8,8,8,8,8,8,8,8,8,8,8,8,8,8,8,8,8,8,8,8,8,8,8,8,8,8,8,8,8,8,8,8,8,8,8,8,8,8,8,8,8,8,8,8,8,8,8,8,8,8,8,8,8,8]) s fun t =>
 lG .i64 t fun u =>
 af .add (aa l 1) u fun v =>
 Q v m)))
def qE (a0:AV) (M0:RM) (Q:ak) : Prop :=
 af .neq a0 a0 fun c =>
 Q c M0
def lF (p1:ai) (a0 a1 a2 a3:AV) (M0:RM) (Q:ak) : Prop :=
 aM (fun X h j =>
 af .mul (N .i64 2) (aa h 0) fun Y =>
 af .add Y (N .i64 1) fun e =>
 af .geq e a2 fun Z =>
 au Z (
 Q (.tup []) j) (
 bR (fun o =>
 af .add e (N .i64 1) fun va =>
 af .lss va a2 fun d =>
 ae d true (fun c=>c a0 j none) (fun c=>c .undef j none) fun vb p wh =>
 ae d true (fun E=>E a3 p none) (fun c=>c .undef p none) fun vc r wo =>
 ae d true (fun S=>S e r none) (fun c=>c .undef r none) fun vd z wt =>
 ae d true (fun W=>af .add vc vd fun ve =>
 W ve z none) (fun c=>c .undef z none) fun vf A wi =>
 ae d true (fun F=>ah vb vf 1 fun vg =>
 F vg A none) (fun c=>c .undef A none) fun vh l wj =>
 ae d true (fun G=>az l vh fun vi =>
 G vi l none) (fun c=>c .undef l none) fun vj q wk =>
 ae d true (fun H=>H a0 q none) (fun c=>c .undef q none) fun vk s wl =>
 ae d true (fun I=>I a3 s none) (fun c=>c .undef s none) fun vl t wm =>
 ae d true (fun L=>L e t none) (fun c=>c .undef t none) fun vm u wn =>
 ae d true (fun O=>af .add vl vm fun vn =>
 O vn u none) (fun c=>c .undef u none) fun vo v wp =>
 ae d true (fun P=>af .add vo (N .i64 1) fun vp =>
 P vp v none) (fun c=>c .undef v none) fun vq w wq =>
 ae d true (fun R=>ah vk vq 1 fun vr =>
 R vr w none) (fun c=>c .undef w none) fun vs m wr =>
 ae d true (fun U=>az m vs fun vt =>
 U vt m none) (fun c=>c .undef m none) fun vu x ws =>
 aj d true (fun V=>p1 [vj,vu] x fun vv B =>
 V vv B) (fun c=>c .undef x) fun vw y =>
 aL d vw (Bo false) fun vx =>
 au vx (
 af .add e (N .i64 1) fun vy =>
 o [vy] y) (
 o [e] y)) (fun i n =>
 af .add a3 (aa h 0) fun vz =>
 ah a0 vz 1 fun v0 =>
 az n v0 fun v1 =>
 af .add a3 (aa i 0) fun v2 =>
 ah a0 v2 1 fun v3 =>
 az n v3 fun v4 =>
 p1 [v1,v4] n fun v5 g =>
 cK v5 fun v6 =>
 au v6 (
 Q (.tup []) g) (
 af .add a3 (aa h 0) fun v7 =>
 af .add a3 (aa i 0) fun v8 =>
 af .add a3 (aa i 0) fun v9 =>
 ah a0 v9 1 fun wa =>
 az g wa fun wb =>
 af .add a3 (aa h 0) fun wc =>
 ah a0 wc 1 fun wd =>
 az g wd fun we =>
 ah a0 v7 1 fun wf =>
 aC g wf wb 1 fun C =>
 ah a0 v8 1 fun wg =>
 aC C wg we 1 fun D =>
 X [(aa i 0)] D)))) [a1] M0
def sJ (p1:ai) (a0:AV) (M0:RM) (Q:ak) : Prop :=
 lG .u64 a0 fun d =>
 p1 [d] M0 fun e c =>
 Cv .shl (N .u64 1) e fun g =>
 Q g c
def mh (a0:AV) (M0:RM) (Q:ak) : Prop :=
 dB a0 fun z =>
 az M0 z fun A =>
 dB a0 fun B =>
 az M0 B fun C =>
 Cv .shl C (N .u64 13) fun D =>
 af .xor A D fun g =>
 dB a0 fun h =>
 aC M0 h g 1 fun c =>
 dB a0 fun i =>
 az c i fun j =>
 dB a0 fun l =>
 az c l fun m =>
 Cv .shr m (N .u64 7) fun n =>
 af .xor j n fun o =>
 dB a0 fun p =>
 aC c p o 1 fun d =>
 dB a0 fun q =>
 az d q fun r =>
 dB a0 fun s =>
 az d s fun t =>
 Cv .shl t (N .u64 17) fun u =>
 af .xor r u fun v =>
 dB a0 fun w =>
 aC d w v 1 fun e =>
 dB a0 fun x =>
 az e x fun y =>
 Q y e
def iU (p1:ai) (a0 a1 a2:AV) (M0:RM) (Q:ak) : Prop :=
 af .sub a1 (N .i64 1) fun g =>
 af .add a1 (N .i64 1) fun d =>
 p1 [a0,g,a1,d,a2] M0 fun e c =>
 Q e c
def mP (p1:ai) (a0 a1 a2 a3 a4:AV) (M0:RM) (Q:ak) : Prop :=
 p1 [a0,a1,a2,a4] M0 fun c g =>
 dm c 0 fun j =>
 dm c 1 fun l =>
 p1 [a0,l,a3,a4] g fun d h =>
 dm d 0 fun m =>
 dm d 1 fun o =>
 p1 [a0,j,m,a4] h fun e i =>
 dm e 0 fun p =>
 dm e 1 fun n =>
 Q n i
def mW (p1:ai) (a0 a1 a2 a3:AV) (M0:RM) (Q:ak) : Prop :=
 ah a0 a2 1 fun e =>
 az M0 e fun g =>
 ah a0 a1 1 fun h =>
 az M0 h fun i =>
 p1 [g,i] M0 fun j c =>
 au j (
 dB a3 fun l =>
 az c l fun m =>
 af .add m (N .i64 1) fun n =>
 dB a3 fun o =>
 aC c o n 1 fun d =>
 Q (.tup [a2,a1]) d) (
 Q (.tup [a1,a2]) c)
end Go.Ab.ay
