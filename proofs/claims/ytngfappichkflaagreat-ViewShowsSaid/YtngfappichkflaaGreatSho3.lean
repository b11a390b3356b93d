/- Part 3 of the ground of the proofs of this seat (texts R7 to WDot). By an AI agent. -/
import Derived.Test.YtngfappichkflaaGreatSho2
import Derived.Scope
set_option linter.unusedVariables false
set_option linter.unusedSimpArgs false
namespace Go.Ab
open Go Go.RowKit
structure rW where
 vals:Tree AV
 M:RM
 bR:Tree (Option Nat)
abbrev KR:=AV→RM→Option Nat→Prop
def guardOf (ops:Array Oper) (wr:Tree Nat) (vals:Tree AV) (r:Row) : Option (Option (AV × Bool)) :=
 match r.o.guard with
 | none=>some none
 | some (j,want)=>match (ops[j]?).bind (·.dst) with
   | none=>none
   | some d=>match Nat.testBit r.m j,wr.get d with
     | true,some j'=>match Nat.beq j' j with
       | true=>some (some ((vals.get j).getD .top,want))
       | false=>none
     | _,_=>none
abbrev ai (x:AV) (want:Bool) (f g:aj→Prop) (k:aj) : Prop:=pG x want f g k
abbrev ae (x:AV) (want:Bool) (f g:KR→Prop) (k:KR) : Prop:=pG x want f g k
abbrev Jy (x:AV) (want:Bool) (f g:Prop→Prop) (k:Prop) : Prop:=pG x want f g k
def Dh {α:Type} (g:Option (Option (AV × Bool))) (f skip:α→Prop) (k:α) : Prop :=
 match g with
 | none=>False
 | some none=>f k
 | some (some (x,want))=>pG x want f skip k
def vF (x:RB) (mk:Nat→AV) (M:RM) (k:KR) : Prop:=k (mk M.next) (M.push x) (some M.next)
def Eb (b:Option Nat) (M:RM) (x:RB) (mk:Nat→AV) (v:AV) : Prop :=
 match b with
 | some b=>M.heap b=some x∧mk b=v
 | none=>False
def aou (P:Program) (r:Row) (e:Operand→AV) (M:RM) (k:KR) : Prop :=
 match r.kd with
 | .pure | .read=>gm P r.o e M (fun v=>k v M none)
 | .alloc=>vB P r.o e (fun x mk=>vF x mk M k)
 | .wV=>False
def JN (P:Program) (ops:Array Oper) (T0:Tree AV) (wr:Tree Nat) (lev:Nat) : List Row→rW→(rW→Prop)→Prop
 | [],s,K=>K s
 | r :: rest,s,K=>match Nat.beq r.lev lev && !kX r.kd with
   | false=>JN P ops T0 wr lev rest s K
   | true=>Dh (guardOf ops wr s.vals r) (aou P r (jB T0 wr s.vals r.m) s.M) (fun k=>k .undef s.M none) (fun v M' b=>JN P ops T0 wr lev rest { vals:=s.vals.set r.i v,M:=M',bR:=s.bR.set r.i b } K)
def acX (P:Program) (ops:Array Oper) (T0:Tree AV) (wr:Tree Nat) (r:Row) (s:rW) (K:Prop) : Prop :=
 match r.kd with
 | .read=>Dh (guardOf ops wr s.vals r) (fun k=>gm P r.o (jB T0 wr s.vals r.m) s.M (fun v=>v=(s.vals.get r.i).getD .top∧k)) (fun k=>k) K
 | .alloc=>Dh (guardOf ops wr s.vals r) (fun k=>vB P r.o (jB T0 wr s.vals r.m) (fun x mk=>Eb ((s.bR.get r.i).getD none) s.M x mk ((s.vals.get r.i).getD .top)∧k)) (fun k=>k) K
 | _=>K
def UX (P:Program) (ops:Array Oper) (T0:Tree AV) (ri:RI) (lev:Nat) : List Row→rW→Prop→Prop
 | [],_,K=>K
 | r :: rest,s,K=>match Nat.ble r.lev lev && !kX r.kd && lU ri.ms ri.es (lev + 1) r with
   | false=>UX P ops T0 ri lev rest s K
   | true=>acX P ops T0 ri.wr r s (UX P ops T0 ri lev rest s K)
def Ac (P:Program) (ops:Array Oper) (T0:Tree AV) (ri:RI) : Nat→List Nat→rW→(rW→Prop)→Prop
 | lev,[],s,K=>JN P ops T0 ri.wr lev ri.rows s K
 | lev,x :: rest,s,K=>JN P ops T0 ri.wr lev ri.rows s (fun s1=>match nth ri.rows x with
   | none=>False
   | some r=>Dh (guardOf ops ri.wr s1.vals r) (kY P r.o (jB T0 ri.wr s1.vals r.m) s1.M) (fun k=>k .undef s1.M)
     (fun v M'=>UX P ops T0 ri lev ri.rows { vals:=s1.vals.set x v,M:=M',bR:=s1.bR } (Ac P ops T0 ri (lev + 1) rest { vals:=s1.vals.set x v,M:=M',bR:=s1.bR } K)))
def ach (P:Program) (nt:Nat) (ops:Array Oper) (T:Tree AV) (M:RM) (K:Tree AV→RM→Prop) : Prop :=
 match Ba P nt ops with
 | none=>False
 | some ri=>match ri.rows.all (wN ri) with
   | false=>False
   | true=>Ac P ops T ri 0 ri.es { vals:=.leaf,M,bR:=.leaf } (fun s=>K (Ep T s.vals ri.rows) s.M)
def GOn (g:Option (AV × Bool)) : Prop:=match g with | none=>True | some (x,want)=>x=Bo want
def OH (g:Option (AV × Bool)) : Prop:=match g with | none=>False | some (x,want)=>x=.undef∨∃ b,x=Bo b∧b≠want
theorem xA {α:Type} {g:Option (Option (AV × Bool))} {f skip:α→Prop} {k:α} (h:Dh g f skip k) : ∃ g',g=some g'∧((GOn g'∧f k)∨(OH g'∧skip k)):=by
 unfold Dh at h
 split at h <;> first | (cases h; done) | skip
 ·exact⟨none,rfl,.inl ⟨trivial,h⟩⟩
 ·rename_i x want
  refine⟨_,rfl, ?_⟩
  unfold pG at h
  split at h <;> first | (cases h; done) | skip
  ·split at h
   ·rename_i e; subst e; exact .inl ⟨rfl,h⟩
   ·rename_i b e; exact .inr ⟨.inr ⟨b,rfl,e⟩,h⟩
  ·exact .inr ⟨.inl rfl,h⟩
section
variable {P:Program} {nt:Nat} {ops:Array Oper} {ri:RI} {T0:Tree AV}
def xV (P:Program) (ops:Array Oper) (T0:Tree AV) (wr:Tree Nat) (s:rW) (r:Row) : Prop :=
 ∃ g,guardOf ops wr s.vals r=some g∧((GOn g∧∃ v,s.vals.get r.i=some v∧match r.kd with
   | .pure=>∀ M,oU P r.o (jB T0 wr s.vals r.m) M v
   | .read=>oU P r.o (jB T0 wr s.vals r.m) s.M v
   | .alloc=>∃ x mk b,Ki P r.o (jB T0 wr s.vals r.m) x mk∧s.bR.get r.i=some (some b)∧s.M.heap b=some x∧mk b=v
   | .wV=>False)∨(OH g∧s.vals.get r.i=some .undef))
theorem oU.sub {o:Oper} {e:Operand→AV} {M M' : RM} {v:AV} (h:oU P o e M v) (hs:M.Sub M') : oU P o e M' v :=
 fun ρ w c M2 h2 hw he=>h ρ w c M2 (hs.trans h2) hw he
theorem DF {vals PP:Tree AV} {wr:Tree Nat} {m:Nat} (h:∀ j,Nat.testBit m j=true→PP.get j=vals.get j) : jB T0 wr PP m=jB T0 wr vals m:=by
 funext x
 cases x with
 | tmp t =>
   simp only[jB]
   cases hw:wr.get t with
   | none=>rfl
   | some j =>
     simp only
     cases hb:Nat.testBit m j with
     | false=>rfl
     | true=>simp only[h j hb]
 | const v=>rfl
 | global g=>rfl
 | func f=>rfl
theorem sW {vals PP:Tree AV} {wr:Tree Nat} {r:Row} (h:∀ j,Nat.testBit r.m j=true→PP.get j=vals.get j) : guardOf ops wr PP r=guardOf ops wr vals r:=by
 unfold guardOf
 split
 ·rfl
 ·rename_i j want hg
  split
  ·rfl
  ·split
   ·rename_i hb _
    simp only[h j hb]
   ·rfl
theorem xV.keep {wr:Tree Nat} {s s' : rW} {r:Row} (h:xV P ops T0 wr s r) (hv:∀ j,Nat.testBit r.m j=true∨j=r.i→s'.vals.get j=s.vals.get j) (hb:s'.bR.get r.i=s.bR.get r.i) (hs:s.M.Sub s'.M) : xV P ops T0 wr s' r:=by
 obtain⟨g,hg,h⟩:=h
 have hi:=hv r.i (.inr rfl)
 have he:jB T0 wr s'.vals r.m=jB T0 wr s.vals r.m:=DF fun j hj=>hv j (.inl hj)
 refine⟨g,by rw[← hg]; exact sW fun j hj=>hv j (.inl hj), ?_⟩
 rcases h with⟨hon,v,hvi,hk⟩ | ⟨hoff,hvi⟩
 ·refine .inl ⟨hon,v,by rw[hi]; exact hvi, ?_⟩
  rw[he]
  cases hkd:r.kd with
  | pure=>rw[hkd] at hk; exact hk
  | read=>rw[hkd] at hk; exact hk.sub hs
  | alloc =>
    rw[hkd] at hk
    obtain⟨x,mk,b,h1,h2,h3,h4⟩:=hk
    exact⟨x,mk,b,h1,by rw[hb]; exact h2,hs.2 _ _ h3,h4⟩
  | wV=>rw[hkd] at hk; exact hk
 ·exact .inr ⟨hoff,by rw[hi]; exact hvi⟩
def Fr (M:RM) : Prop:=∀ b,M.next≤b→M.heap b=none
theorem Fr.push {M:RM} (h:Fr M) (x:RB) : Fr (M.push x):=by
 intro b hb
 simp only[RM.push] at hb ⊢
 rw[if_neg (by omega)]
 exact h b (by omega)
theorem Fr.sub {M:RM} (h:Fr M) (x:RB) : M.Sub (M.push x):=by
 refine⟨rfl,fun b y hy=>?_⟩
 simp only[RM.push]
 split
 ·rename_i e; subst e; rw[h _ (Nat.le_refl _)] at hy; cases hy
 ·exact hy
theorem ek.fr {ρ:Ren} {M:RM} {w:World} (h:ek P ρ M w) : Fr M:=by
 intro b hb
 have hlo:=h.lo_le
 obtain⟨A,hA⟩:=h
 cases hx:M.heap b with
 | none=>rfl
 | some x =>
   rcases hA.blk b x hx with⟨y,hy,_⟩ | ⟨c,_,hlt,_⟩
   ·have:=hA.rel.top b y hy
    rw[hA.next] at this; omega
   ·omega
theorem RN {ρ:Ren} {M:RM} {w:World} {o:Oper} {e:Operand→AV} {x:RB} {mk:Nat→AV} (h:ek P ρ M w) (hm:Ki P o e x mk) : ek P ρ (M.push x) w:=by
 obtain⟨y,_,hle⟩:=hm
 exact h.alz x y hle
structure adT (P:Program) (ops:Array Oper) (T0:Tree AV) (ri:RI) (lev:Nat) (i0:Nat) (s s' : rW) : Prop where
 keep:∀ j,(∀ r,ri.rows[j]?=some r→i0≤j→¬ (r.lev=lev∧kX r.kd=false))→s'.vals.get j=s.vals.get j∧s'.bR.get j=s.bR.get j
 done:∀ j r,ri.rows[j]?=some r→i0≤j→r.lev=lev→kX r.kd=false→xV P ops T0 ri.wr s' r
 sub:s.M.Sub s'.M
 fr:Fr s'.M
 rel:∀ ρ w,ek P ρ s.M w→ek P ρ s'.M w
 next:s.M.next≤s'.M.next
 bR:∀ j b,s'.bR.get j=some (some b)→s.bR.get j=some (some b)∨(s.M.next≤b∧b<s'.M.next∧i0≤j∧∃ r,ri.rows[j]?=some r)
 Dy:∀ j1 j2 b,s'.bR.get j1=some (some b)→s'.bR.get j2=some (some b)→s.M.next≤b→j1=j2
theorem Ee (ht:pY P nt ops ri) {lev:Nat} {K:rW→Prop} : ∀ (rows:List Row) (i0:Nat) (s:rW),ri.rows.drop i0=rows→Fr s.M→(∀ j b,s.bR.get j=some (some b)→b<s.M.next)→JN P ops T0 ri.wr lev rows s K→∃ s',K s'∧adT P ops T0 ri lev i0 s s'
 | [],i0,s,hd,hf,hbd,h=>by
   refine⟨s,h,fun _ _=>⟨rfl,rfl⟩,fun j r hr hj=>?_,RM.Sub.refl _,hf,fun _ _ h=>h,Nat.le_refl _,fun j b hb=>.inl hb,fun j1 j2 b h1 _ hb=>absurd (hbd j1 b h1) (by omega)⟩
   have hlen:ri.rows.length≤i0:=List.drop_eq_nil_iff.1 hd
   have:=(List.getElem?_eq_some_iff.1 hr).1
   omega
 | r :: rows,i0,s,hd,hf,hbd,h=>by
   have hri:ri.rows[i0]?=some r:=by
    have h0:(ri.rows.drop i0)[0]?=some r:=by rw[hd]; rfl
    rw[List.getElem?_drop] at h0; exact h0
   have hd' : ri.rows.drop (i0 + 1)=rows:=by
    rw[← List.drop_drop (i:=1) (j:=i0)] <;> rw[hd]; rfl
   obtain⟨e1,e2,e3,e4,e5⟩:=ht.row hri
   simp only[JN] at h
   split at h
   ·rename_i hk
    obtain⟨s',hK,hp⟩:=Ee ht rows (i0 + 1) s hd' hf hbd h
    have hne:¬ (r.lev=lev∧kX r.kd=false):=by
     rintro⟨a,b⟩
     rw[uW a,b] at hk
     cases hk
    refine⟨s',hK,fun j hj=>hp.keep j fun r' hr' hj'=>hj r' hr' (by omega),fun j r' hr' hj hl he=>?_,hp.sub,hp.fr,hp.rel,hp.next,fun j b hb=>(hp.bR j b hb).imp id fun⟨a,b,c,d⟩=>⟨a,b,by omega,d⟩,hp.Dy⟩
    rcases Nat.lt_or_ge i0 j with hlt | hge
    ·exact hp.done j r' hr' hlt hl he
    ·have:j=i0:=by omega
     subst this
     rw[hri] at hr'; cases hr'
     exact absurd ⟨hl,he⟩ hne
   ·rename_i hk
    simp only[Bool.and_eq_true,Bool.not_eq_true'] at hk
    have AA:=bI hk.1
    obtain⟨g,hg,hcase⟩:=xA h
    -- whatever the row gives
    have fin:∀ (v:AV) (M' : RM) (b:Option Nat),s.M.Sub M'→Fr M'→s.M.next≤M'.next→(∀ ρ w,ek P ρ s.M w→ek P ρ M' w)→(∀ b',b=some b'→s.M.next≤b'∧b'<M'.next) →
      (∀ s2:rW,(∀ j,Nat.testBit r.m j=true→s2.vals.get j=s.vals.get j)→s2.vals.get r.i=some v→s2.bR.get r.i=some b→M'.Sub s2.M→xV P ops T0 ri.wr s2 r) →
      JN P ops T0 ri.wr lev rows { vals:=s.vals.set r.i v,M:=M',bR:=s.bR.set r.i b } K→∃ s',K s'∧adT P ops T0 ri lev i0 s s':=by
     intro v M' b hsub hfr hnx hrel hb hok h
     obtain⟨s',hK,hp⟩:=Ee ht rows (i0 + 1) _ hd' hfr (fun j b' hj=>by
      rw[Tree.bJ] at hj
      split at hj
      ·cases hj; exact(hb b' rfl).2
      ·exact Nat.lt_of_lt_of_le (hbd j b' hj) hnx) h
     have WS:=hp.keep r.i (fun r' hr' hj'=>by omega)
     simp only[Tree.bJ,if_true] at WS
     refine⟨s',hK,fun j hj=>?_,fun j r' hr' hj hl he=>?_,hsub.trans hp.sub,hp.fr,fun ρ w h=>hp.rel ρ w (hrel ρ w h),Nat.le_trans hnx hp.next,fun j b' hb'=>?_,fun j1 j2 b' h1 h2 hb'=>?_⟩
     ·have hji:j≠r.i:=fun e=>hj r (by rw[e,e1]; exact hri) (by omega) ⟨AA,hk.2⟩
      obtain⟨k1,k2⟩:=hp.keep j fun r' hr' hj'=>hj r' hr' (by omega)
      simp only[Tree.bJ,if_neg hji] at k1 k2
      exact⟨k1,k2⟩
     ·rcases Nat.lt_or_ge i0 j with hlt | hge
      ·exact hp.done j r' hr' hlt hl he
      ·have:j=i0:=by omega
       subst this
       rw[hri] at hr'; cases hr'
       refine hok s' (fun q hq=>?_) WS.1 WS.2 hp.sub
       have hqlt:q<j:=by
        have hc:Closed ops.toList (fun i=>i<j):=fun i o ho hi e he' hb'=>by have:=ht.Bd i o ho e he' hb'; omega
        exact ht.ahead hc hri (fun e he' hb'=>ht.Bd j r.o e2 e he' hb') hq
       have hqi:q≠r.i:=by omega
       have:=(hp.keep q fun r' hr' hj'=>by omega).1
       rw[this]
       simp only[Tree.bJ,if_neg hqi]
     ·rcases hp.bR j b' hb' with k | ⟨k1,k2,k3,k4⟩
      ·simp only[Tree.bJ] at k
       split at k
       ·rename_i e
        cases k
        obtain⟨q1,q2⟩:=hb b' rfl
        exact .inr ⟨q1,Nat.lt_of_lt_of_le q2 hp.next,by omega,r,by rw[e,e1]; exact hri⟩
       ·exact .inl k
      ·simp only at k1
       exact .inr ⟨by omega,k2,by omega,k4⟩
     ·rcases Nat.lt_or_ge b' M'.next with hlt | hge
      ·have q:∀ j,s'.bR.get j=some (some b')→j=r.i:=by
        intro j hj
        rcases hp.bR j b' hj with k | ⟨k1,_⟩
        ·simp only[Tree.bJ] at k
         split at k
         ·assumption
         ·have:=hbd j b' k; omega
        ·simp only at k1; omega
       rw[q j1 h1,q j2 h2]
      ·exact hp.Dy j1 j2 b' h1 h2 hge
    rcases hcase with⟨hon,hv⟩ | ⟨hoff,hv⟩
    ·unfold aou at hv
     have val:(r.kd=.pure∨r.kd=.read)→gm P r.o (jB T0 ri.wr s.vals r.m) s.M (fun v=>JN P ops T0 ri.wr lev rows { vals:=s.vals.set r.i v,M:=s.M,bR:=s.bR.set r.i none } K)→∃ s',K s'∧adT P ops T0 ri lev i0 s s':=by
      intro hkd hv
      obtain⟨v,hgv,hk2⟩:=EE hv
      refine fin v s.M none (RM.Sub.refl _) hf (Nat.le_refl _) (fun _ _ h=>h) (fun b' h=>by cases h) (fun s2 q1 q2 q3 q4=>?_) hk2
      refine⟨g,by rw[← hg]; exact sW q1,.inl ⟨hon,v,q2, ?_⟩⟩
      rw[DF q1]
      rcases hkd with hkd | hkd
      ·rw[hkd]
       rcases hgv with hgv | ⟨hrd,_⟩
       ·exact hgv
       ·rw[← e5,hkd] at hrd; cases hrd
      ·rw[hkd]
       rcases hgv with hgv | ⟨_,hgv⟩
       ·exact hgv _
       ·exact hgv.sub q4
     split at hv
     ·exact val (.inl ‹_›) hv
     ·exact val (.inr ‹_›) hv
     ·rename_i hkd
      obtain⟨x,mk,hm,hk2⟩:=ER hv
      refine fin (mk s.M.next) (s.M.push x) (some s.M.next) (hf.sub x) (hf.push x) (by simp[RM.push]) (fun ρ w h=>RN h hm) (fun b' h=>by cases h; simp[RM.push]) (fun s2 q1 q2 q3 q4=>?_) hk2
      refine⟨g,by rw[← hg]; exact sW q1,.inl ⟨hon,_,q2, ?_⟩⟩
      rw[DF q1,hkd]
      exact⟨x,mk,s.M.next,hm,q3,q4.2 _ _ (by simp[RM.push]),rfl⟩
     ·cases hv
    ·refine fin .undef s.M none (RM.Sub.refl _) hf (Nat.le_refl _) (fun _ _ h=>h) (fun b' h=>by cases h) (fun s2 q1 q2 q3 q4=>?_) hv
     exact⟨g,by rw[← hg]; exact sW q1,.inr ⟨hoff,q2⟩⟩
end
section
variable {P:Program} {nt:Nat} {ops:Array Oper} {ri:RI} {T0:Tree AV}
theorem aeA {wr:Tree Nat} {r:Row} {s s0:rW} {K:Prop} (h:acX P ops T0 wr r s K) (hold:xV P ops T0 wr s0 r) (hv:∀ j,Nat.testBit r.m j=true∨j=r.i→s.vals.get j=s0.vals.get j) (hb:s.bR.get r.i=s0.bR.get r.i) :
  K∧xV P ops T0 wr s r:=by
 obtain⟨g,hg,hold⟩:=hold
 have hi:=hv r.i (.inr rfl)
 have he:jB T0 wr s.vals r.m=jB T0 wr s0.vals r.m:=DF fun j hj=>hv j (.inl hj)
 have hg' : guardOf ops wr s.vals r=some g:=by rw[← hg]; exact sW fun j hj=>hv j (.inl hj)
 have VK:OH g→GOn g→False:=by
  intro h1 h2
  unfold OH at h1
  unfold GOn at h2
  split at h1
  ·exact h1
  ·simp only at h2
   rcases h1 with h1 | ⟨b,h1,h3⟩
   ·rw[h2] at h1; cases h1
   ·rw[h2] at h1; cases h1; exact h3 rfl
 have acy:∀ {K'},K'→OH g∧s0.vals.get r.i=some .undef→K'∧xV P ops T0 wr s r:=fun k h=>⟨k,g,hg',.inr ⟨h.1,by rw[hi]; exact h.2⟩⟩
 unfold acX at h
 cases hkd:r.kd with
 | pure =>
   rw[hkd] at h
   refine⟨h,g,hg', ?_⟩
   rcases hold with⟨hon,v,hvi,hk⟩ | ⟨hoff,hvi⟩
   ·refine .inl ⟨hon,v,by rw[hi]; exact hvi, ?_⟩
    rw[hkd] at hk ⊢
    rw[he]; exact hk
   ·exact .inr ⟨hoff,by rw[hi]; exact hvi⟩
 | wV =>
   rcases hold with⟨hon,v,hvi,hk⟩ | ho
   ·rw[hkd] at hk; exact hk.elim
   ·rw[hkd] at h; exact acy h ho
 | read =>
   rw[hkd] at h
   obtain⟨g2,hg2,hcase⟩:=xA h
   rw[hg'] at hg2; cases hg2
   rcases hold with⟨hon,v,hvi,hk⟩ | ho
   ·rcases hcase with⟨_,hn⟩ | ⟨hoff,_⟩
    ·obtain⟨v',hgv,hv',hK⟩:=EE hn
     have hgv:oU P r.o (jB T0 wr s.vals r.m) s.M v':=by rcases hgv with hgv | ⟨_,hgv⟩ <;> first | exact hgv _ | exact hgv
     rw[hi,hvi] at hv'
     simp only[Option.getD_some] at hv'
     subst hv'
     refine⟨hK,g,hg',.inl ⟨hon,v',by rw[hi]; exact hvi, ?_⟩⟩
     rw[hkd]; exact hgv
    ·exact(VK hoff hon).elim
   ·rcases hcase with⟨hon,_⟩ | ⟨_,hK⟩
    ·exact(VK ho.1 hon).elim
    ·exact acy hK ho
 | alloc =>
   rw[hkd] at h
   obtain⟨g2,hg2,hcase⟩:=xA h
   rw[hg'] at hg2; cases hg2
   rcases hold with⟨hon,v,hvi,hk⟩ | ho
   ·rcases hcase with⟨_,hn⟩ | ⟨hoff,_⟩
    ·obtain⟨x,mk,hm,hx,hK⟩:=ER hn
     rw[hkd] at hk
     obtain⟨x0,mk0,b,_,h2,_,_⟩:=hk
     rw[hb,h2] at hx
     simp only[Option.getD_some] at hx
     rw[hi,hvi] at hx
     simp only[Option.getD_some] at hx
     refine⟨hK,g,hg',.inl ⟨hon,v,by rw[hi]; exact hvi, ?_⟩⟩
     rw[hkd]
     exact⟨x,mk,b,hm,by rw[hb]; exact h2,hx.1,hx.2⟩
    ·exact(VK hoff hon).elim
   ·rcases hcase with⟨hon,_⟩ | ⟨_,hK⟩
    ·exact(VK ho.1 hon).elim
    ·exact acy hK ho
theorem O6 {lev:Nat} {s s0:rW} {K:Prop} : ∀ (rows:List Row),UX P ops T0 ri lev rows s K →
  (∀ r∈rows,kX r.kd=false→r.lev≤lev→lU ri.ms ri.es (lev + 1) r=true→xV P ops T0 ri.wr s0 r∧(∀ j,Nat.testBit r.m j=true∨j=r.i→s.vals.get j=s0.vals.get j)∧s.bR.get r.i=s0.bR.get r.i) →
  K∧∀ r∈rows,kX r.kd=false→r.lev≤lev→lU ri.ms ri.es (lev + 1) r=true→xV P ops T0 ri.wr s r
 | [],h,_=>⟨h,fun r hr=>by cases hr⟩
 | r :: rows,h,ho=>by
   simp only[UX] at h
   split at h
   ·rename_i hc
    obtain⟨h1,h2⟩:=O6 rows h fun r' hr'=>ho r' (.tail _ hr')
    refine⟨h1,fun r' hr' e1 e2 e3=>?_⟩
    rcases List.mem_cons.1 hr' with e | hr'
    ·subst e
     rw[bB.2 e2,e1,e3] at hc
     cases hc
    ·exact h2 r' hr' e1 e2 e3
   ·rename_i hc
    simp only[Bool.and_eq_true,Bool.not_eq_true'] at hc
    obtain⟨⟨c1,c2⟩,c3⟩:=hc
    obtain⟨o1,o2,o3⟩:=ho r (.head _) c2 (bE c1) c3
    obtain⟨h1,h2⟩:=aeA h o1 o2 o3
    obtain⟨h3,h4⟩:=O6 rows h1 fun r' hr'=>ho r' (.tail _ hr')
    refine⟨h3,fun r' hr' e1 e2 e3=>?_⟩
    rcases List.mem_cons.1 hr' with e | hr'
    ·subst e; exact h2
    ·exact h4 r' hr' e1 e2 e3
theorem ak9 {ρ:Ren} {i:iU} {x:RB} {y y' : dN} {ob:Obj} (h:CU x y) (h' : CU x y') (hb:kJ P ρ i y ob) : kJ P ρ i y' ob:=by
 cases x with
 | row l opn elem fz =>
   cases y <;> first | exact h.elim | skip
   cases y' <;> first | exact h'.elim | skip
   obtain⟨rfl,rfl,rfl,rfl,h5⟩:=h
   obtain⟨h1,rfl,rfl,rfl,h5'⟩:=h'
   subst h1
   obtain⟨c,fr,rfl,hr⟩:=hb
   refine⟨c,fr,rfl,hr.size,fun k u hk=>?_,hr.free,hr.mark,hr.opn,hr.sh0⟩
   have hlt:=Dz hk
   have hv:l[k]?=some l[k]:=by simp[hlt]
   have e1:=h5' k _ hv
   rw[hk] at e1; cases e1
   exact hr.val k _ (h5 k _ hv)
 | ro c=>cases y <;> exact h.elim
 | map es c =>
   cases y <;> first | exact h.elim | skip
   cases y' <;> first | exact h'.elim | skip
   obtain⟨rfl,rfl⟩:=h
   obtain⟨rfl,rfl⟩:=h'
   exact hb
 | iter m a b c =>
   cases y <;> first | exact h.elim | skip
   cases y' <;> first | exact h'.elim | skip
   obtain⟨rfl,rfl,rfl,rfl⟩:=h
   obtain⟨rfl,rfl,rfl,rfl⟩:=h'
   exact hb
 | nT s p =>
   cases y <;> first | exact h.elim | skip
   cases y' <;> first | exact h'.elim | skip
   obtain⟨rfl,rfl⟩:=h
   obtain⟨rfl,rfl⟩:=h'
   exact hb
theorem ae0 {ρ:Ren} {M:RM} {w:World} {b:Nat} {x:RB} {y:dN} {ob:Obj} {i:iU} (hw:ek P ρ M w) (hi:i.cb=w.heap.size) (hb:ρ b=none) (hlt:b<M.next) (hx:M.heap b=some x) (hle:CU x y)
  (hrel:kJ P ρ i y ob) : ek P (ρ.add b i) M (w.alloc ob)∧Step M.lo b ρ w (ρ.add b i) (w.alloc ob):=by
 obtain⟨A,hA⟩:=hw
 rcases hA.blk b x hx with⟨y',hy',YE⟩ | ⟨c,rfl,_⟩
 ·obtain⟨h1,h2⟩:=MZ hA.rel hA.size hi hb (by rw[hA.next]; exact hlt) hy' ((ak9 hle YE hrel).mono (Ren.xK hb))
  have:=hA.size
  refine⟨⟨A,hA.next,h1,by simp; omega,fun c z hz=>?_,fun c hc=>?_⟩,h2⟩
  ·rcases hA.blk c z hz with k | ⟨d,rfl,hlt,elem,fr,hh⟩
   ·exact .inl k
   ·exact .inr ⟨d,rfl,hlt,elem,fr,by rw[heap_alloc_old w ob c (by omega)]; exact hh⟩
  ·unfold Ren.add
   rw[if_neg (fun e=>by subst e; rw[hA.old _ hc] at hb; cases hb)]
   exact hA.old c hc
 ·cases y <;> exact hle.elim
structure JF (P:Program) (nt:Nat) (ops:Array Oper) (ri:RI) (T0:Tree AV) (M0:RM) (ρ0:Ren) (w0:World) (k:Nat) (done rest:List Nat) (s:rW) (S:Nat→Prop) (ρ:Ren) (a:Act) (w:World) : Prop where
 es:ri.es=done++rest
 len:done.length=k
 closed:Closed ops.toList S
 dn:∀ x∈done,S x
 rs:∀ x∈rest,¬ S x
 lev:∀ (j:Nat) (r:Row),ri.rows[j]?=some r→kX r.kd=false→S j→r.lev≤k
 size:a.tmps.size=nt
 defers:a.defers=[]
 slot:Lh ρ T0 ri.wr s.vals S a
 oo:ek P ρ s.M w
 step:Step M0.lo M0.next ρ0 w0 ρ w
 base:s.M.base=M0.base
 next:M0.next≤s.M.next
 bid:∀ j b,s.bR.get j=some (some b)→M0.next≤b∧b<s.M.next∧(¬ S j→ρ b=none)∧j<ops.size
 Dy:∀ j1 j2 b,s.bR.get j1=some (some b)→s.bR.get j2=some (some b)→j1=j2
variable {M0:RM} {ρ0:Ren} {w0:World} {k:Nat} {done rest:List Nat} {s:rW} {S:Nat→Prop} {ρ:Ren} {a:Act} {w:World}
theorem aft (ht:pY P nt ops ri) (hI:JF P nt ops ri T0 M0 ρ0 w0 k done rest s S ρ a w) {i:Nat} {r:Row} (hr:ri.rows[i]?=some r) (hns:¬ S i) (hd:∀ e∈r.o.after.toList,Region.binds .any e=true→S e.on)
  (hok:wN ri r=true) : ∀ x∈r.o.op.operands,ay ρ (jB T0 ri.wr s.vals r.m x) (a.eval x):=by
 intro x hx
 have hx' : KX ri r x=true:=by
  unfold wN at hok
  exact List.all_eq_true.1 hok x (by simpa using hx)
 cases x with
 | tmp t =>
   obtain⟨h1,h2⟩:=hI.slot t
   simp only[jB,Act.eval]
   simp only[KX] at hx'
   cases hw:ri.wr.get t with
   | none =>
     simp only
     exact h2 fun j hj=>by rw[hw] at hj; cases hj
   | some j =>
     rw[hw] at hx'
     simp only
     cases hb:Nat.testBit r.m j with
     | true =>
       simp only
       exact h1 j hw (ht.ahead hI.closed hr hd hb)
     | false =>
       simp only
       refine h2 fun j' hj'=>?_
       rw[hw] at hj'; cases hj'
       simp only[hb,Bool.false_or,Bool.or_eq_true] at hx'
       obtain⟨e1,_⟩:=ht.row hr
       rcases hx' with hx' | hx'
       ·rw[bI hx',e1]; exact hns
       ·intro hS
        rw[dI,e1] at hx'
        obtain⟨o,ho,_⟩:=ht.wrs t j hw
        exact hns (ht.FK hI.closed hS ho hx')
 | const v =>
   simp only[jB,qg,Act.eval]
   cases hv:kW v with
   | none=>exact .top _
   | some u=>exact jM hv
 | global g=>exact .top _
 | func f=>exact .fn _ _ _ _ _ rfl .nil .nil
theorem QQ (ht:pY P nt ops ri) (hI:JF P nt ops ri T0 M0 ρ0 w0 k done rest s S ρ a w) {i:Nat} {r:Row} (hr:ri.rows[i]?=some r) (hd:∀ e∈r.o.after.toList,Region.binds .any e=true→S e.on) {g:Option (AV × Bool)}
  (hg:guardOf ops ri.wr s.vals r=some g) : (GOn g→Region.wanted r.o (yielded ops a.tmps)=true)∧(OH g→Region.wanted r.o (yielded ops a.tmps)=false):=by
 unfold guardOf at hg
 unfold Region.wanted
 split at hg
 ·rename_i hgu; simp only[hgu]; cases hg
  exact⟨fun _=>trivial,fun h=>h.elim⟩
 ·rename_i j want hgu
  simp only[hgu]
  split at hg <;> first | (cases hg; done) | skip
  rename_i d hdst
  split at hg <;> first | (cases hg; done) | skip
  rename_i j' hb hwr
  split at hg <;> first | (cases hg; done) | skip
  rename_i he
  cases hg
  have he:=bI he
  subst he
  have hv:=(hI.slot d).1 j' hwr (ht.ahead hI.closed hr hd hb)
  have hyv:yielded ops a.tmps j'=match a.tmps[d]? with | some (.bool b)=>some b | _=>none:=by
   unfold yielded; rw[hdst]; rfl
  have hget:∀ t:Bool,a.tmps.getD d undef=.bool t↔a.tmps[d]?=some (.bool t):=by
   intro t
   rw[Array.getD_eq_getD_getElem?]
   cases hx:a.tmps[d]? with
   | none=>simp[undef]
   | some y=>simp
  have off:(∀ b,a.tmps.getD d undef=.bool b→b≠want)→(yielded ops a.tmps j' == some want)=false:=by
   intro hn
   rw[hyv]
   cases hx:a.tmps[d]? with
   | none=>rfl
   | some y =>
     cases y <;> try rfl
     rename_i b
     have:=hn b ((hget b).2 hx)
     simpa using this
  constructor
  ·intro hon
   simp only[GOn] at hon
   rw[hon] at hv
   have hc:=(aX hv).1
   rw[hyv,(hget want).1 hc]; simp
  ·intro hoff
   simp only[OH] at hoff
   refine off fun b hb'=>?_
   rcases hoff with hu | ⟨b',hu,hne⟩
   ·rw[hu] at hv
    obtain⟨vs,hc,hrl⟩:=FD hv
    rw[hc] at hb'; cases hb'
   ·rw[hu] at hv
    rw[(aX hv).1] at hb'; cases hb'; exact hne
def VA (P:Program) (ops:Array Oper) (T0:Tree AV) (ri:RI) (k:Nat) (s:rW) (K:rW→Prop) : List Nat→Prop
 | []=>K s
 | x :: rest=>∃ r,nth ri.rows x=some r∧Dh (guardOf ops ri.wr s.vals r) (kY P r.o (jB T0 ri.wr s.vals r.m) s.M) (fun k=>k .undef s.M)
    (fun v M'=>UX P ops T0 ri k ri.rows { vals:=s.vals.set x v,M:=M',bR:=s.bR } (Ac P ops T0 ri (k + 1) rest { vals:=s.vals.set x v,M:=M',bR:=s.bR } K))
theorem MP (ht:pY P nt ops ri) {K:rW→Prop} {es:List Nat} (hf:Fr s.M) (hbd:∀ j b,s.bR.get j=some (some b)→b<s.M.next) (h:Ac P ops T0 ri k es s K) :
  ∃ s1,VA P ops T0 ri k s1 K es∧adT P ops T0 ri k 0 s s1:=by
 cases es with
 | nil =>
   rw[Ac] at h
   exact Ee ht ri.rows 0 s rfl hf hbd h
 | cons x rest =>
   rw[Ac] at h
   obtain⟨s1,hk,hp⟩:=Ee ht ri.rows 0 s rfl hf hbd h
   refine⟨s1, ?_,hp⟩
   split at hk
   ·cases hk
   ·rename_i r hr
    exact⟨r,hr,hk⟩
def Chk (P:Program) (ops:Array Oper) (T0:Tree AV) (ri:RI) (k:Nat) (s:rW) : Prop:=∀ r∈ri.rows,kX r.kd=false→lU ri.ms ri.es k r=true→xV P ops T0 ri.wr s r
theorem GK {acc:List Nat} : ∀ (es:List Edge) (e:Edge),e∈es→Region.binds .any e=true→Nat.testBit (qh acc es) e.on=true∧∀ j,Nat.testBit ((nth acc e.on).getD 0) j=true→Nat.testBit (qh acc es) j=true
 | [],e,h,_=>by cases h
 | x :: es,e,h,hb=>by
   simp only[qh]
   rcases List.mem_cons.1 h with rfl | h
   ·rw[hb]
    simp only
    refine⟨?_,fun j hj=>?_⟩
    ·rw[Nat.testBit_or,Nat.testBit_or,Nat.testBit_two_pow]; simp
    ·rw[Nat.testBit_or,Nat.testBit_or,hj]; simp
   ·obtain⟨h1,h2⟩:=GK (acc:=acc) es e h hb
    split
    ·refine⟨?_,fun j hj=>?_⟩
     ·rw[Nat.testBit_or,h1]; simp
     ·rw[Nat.testBit_or,h2 j hj]; simp
    ·exact⟨h1,h2⟩
theorem U9 (ht:pY P nt ops ri) {q:Nat} {r:Row} (hq:ri.rows[q]?=some r) : ∃ pre,(∀ i,i<q→nth pre i=ri.ms[i]?)∧r.m=qh pre r.o.after.toList:=by
 obtain⟨g1,g2,g3,g4,g5⟩:=ht.row hq
 obtain⟨pre,h1,h2,h3⟩:=(CY ops.toList []).2 q r.o g2
 simp only[List.length_nil,Nat.zero_add] at h1 h2 h3
 refine⟨pre,fun i hi=>by rw[dI,h2 i hi,← ht.ms], ?_⟩
 rw[← ht.ms,g3] at h3
 exact Option.some.inj h3
theorem Qu (ht:pY P nt ops ri) {q:Nat} {r:Row} (hq:ri.rows[q]?=some r) {e:Edge} (he:e∈r.o.after.toList) (hb:Region.binds .any e=true) : Nat.testBit r.m e.on=true:=by
 obtain⟨pre,_,h2⟩:=U9 ht hq
 rw[h2]; exact(GK _ e he hb).1
theorem aaC (ht:pY P nt ops ri) : ∀ (q:Nat) {i:Nat} {r:Row} {o:Oper},ri.rows[q]?=some r→Nat.testBit r.m i=true→ops.toList[i]?=some o→∀ {e:Edge},e∈o.after.toList→Region.binds .any e=true→Nat.testBit r.m e.on=true:=by
 intro q
 induction q using Nat.strongRecOn with
 | _ q ih =>
   intro i r o hq hi ho e he hb
   obtain⟨g1,g2,g3,g4,g5⟩:=ht.row hq
   obtain⟨pre,h1,h2⟩:=U9 ht hq
   have hi':=hi
   rw[h2] at hi'
   obtain⟨e0,he0,hb0,hcase⟩:=BB _ hi'
   have hlt:=ht.Bd q r.o g2 e0 he0 hb0
   obtain⟨r0,hr0,_⟩:=ht.ex (j:=e0.on) (o:=ops.toList[e0.on]'(by have:=(List.getElem?_eq_some_iff.1 g2).1; omega)) (by simp)
   obtain⟨k1,k2,k3,k4,k5⟩:=ht.row hr0
   have hsub:∀ j,Nat.testBit r0.m j=true→Nat.testBit r.m j=true:=by
    intro j hj
    rw[h2]
    refine(GK _ e0 he0 hb0).2 j ?_
    rw[h1 e0.on hlt,k3]; exact hj
   rcases hcase with rfl | ⟨m,hm,hmi⟩
   ·rw[k2] at ho; cases ho
    exact hsub _ (Qu ht hr0 he hb)
   ·rw[← dI,h1 e0.on hlt,k3] at hm
    cases hm
    exact hsub _ (ih e0.on hlt hr0 hmi ho he hb)
theorem Iz {m m' : Nat} (h:∀ x,Nat.testBit m x=true→Nat.testBit m' x=true) : ∀ (es:List Nat) (i0 b b' : Nat),b≤b'→b'≤i0→oK m es i0 b≤oK m' es i0 b'
 | [],i0,b,b',hb,_=>by simpa [oK] using hb
 | x :: es,i0,b,b',hb,hi=>by
   simp only[oK]
   cases hm:Nat.testBit m x with
   | true =>
     rw[h x hm]
     exact Iz h es (i0 + 1) _ _ (Nat.le_refl _) (Nat.le_refl _)
   | false =>
     cases hm' : Nat.testBit m' x with
     | true=>exact Iz h es (i0 + 1) b (i0 + 1) (by omega) (Nat.le_refl _)
     | false=>exact Iz h es (i0 + 1) b b' hb (by omega)
theorem aih (ht:pY P nt ops ri) {listed:Array Bool} (hsz:listed.size=ops.size) (hI:JF P nt ops ri T0 M0 ρ0 w0 k done rest s (fO listed) ρ a w) {i:Nat} {r:Row} (hi:i<ops.size) (hr:ri.rows[i]?=some r)
  (hd:∀ e∈r.o.after.toList,Region.binds .any e=true→fO listed e.on) (hk:kX r.kd=false) (AA:r.lev≤k) {v:AV} {v' : Value} {ρ' : Ren} {w' : World} (hvi:s.vals.get i=some v) (hv:ay ρ' v v') (hle:ρ.le ρ')
  (hw:ek P ρ' s.M w') (hst:Step M0.lo M0.next ρ w ρ' w') (aiN:∀ j b,s.bR.get j=some (some b)→¬ fO (listed.setIfInBounds i true) j→ρ' b=none) :
  JF P nt ops ri T0 M0 ρ0 w0 k done rest s (fO (listed.setIfInBounds i true)) ρ' (a.put r.o.dst v') w':=by
 have hS:∀ j,fO (listed.setIfInBounds i true) j↔fO listed j∨j=i:=wI (by omega)
 obtain⟨e1,e2,_⟩:=ht.row hr
 refine⟨hI.es,hI.len, ?_,fun x hx=>(hS x).2 (.inl (hI.dn x hx)), ?_, ?_, ?_, ?_, ?_,hw,hI.step.trans hst (Nat.le_refl _),hI.base,hI.next,fun j b hb=>⟨(hI.bid j b hb).1,(hI.bid j b hb).2.1,aiN j b hb,(hI.bid j b hb).2.2.2⟩,hI.Dy⟩
 ·intro j o ho hj e he hb
  rcases(hS j).1 hj with hj | rfl
  ·exact(hS _).2 (.inl (hI.closed j o ho hj e he hb))
  ·rw[e2] at ho; cases ho
   exact(hS _).2 (.inl (hd e he hb))
 ·intro x hx hl
  rcases(hS x).1 hl with hl | rfl
  ·exact hI.rs x hx hl
  ·have:x∈ri.es:=by rw[hI.es]; exact List.mem_append_right _ hx
   rw[ht.wV hr,hk] at this
   cases this
 ·intro j r' hr' hk' hj
  rcases(hS j).1 hj with hj | rfl
  ·exact hI.lev j r' hr' hk' hj
  ·rw[hr] at hr'; cases hr'; exact AA
 ·cases hdst:r.o.dst <;> simp[Act.put,hI.size]
 ·cases hdst:r.o.dst <;> simp[Act.put,hI.defers]
 ·exact GZ ht (fun t=>⟨fun j h1 h2=>((hI.slot t).1 j h1 h2).mono hle,fun h=>((hI.slot t).2 h).mono hle⟩) hI.size hr hv hvi hS
theorem aiK (ht:pY P nt ops ri) {listed:Array Bool} (hsz:listed.size=ops.size) {i:Nat} {rest' : List Nat} (hI:JF P nt ops ri T0 M0 ρ0 w0 k done (i :: rest') s (fO listed) ρ a w) (xH:Chk P ops T0 ri k s) {r:Row} (hi:i<ops.size) (hr:ri.rows[i]?=some r)
  (hd:∀ e∈r.o.after.toList,Region.binds .any e=true→fO listed e.on) (hnd:i ∉ rest') {v:AV} {v' : Value} {ρ' : Ren} {w' : World} {M' : RM} (hv:ay ρ' v v') {K:rW→Prop}
  (haft:After P s.M ρ w M' ρ' w') (hre:UX P ops T0 ri k ri.rows { vals:=s.vals.set i v,M:=M',bR:=s.bR } (Ac P ops T0 ri (k + 1) rest' { vals:=s.vals.set i v,M:=M',bR:=s.bR } K)) :
  ∃ s3,JF P nt ops ri T0 M0 ρ0 w0 (k + 1) (done++[i]) rest' s3 (fO (listed.setIfInBounds i true)) ρ' (a.put r.o.dst v') w'∧Chk P ops T0 ri (k + 1) s3∧VA P ops T0 ri (k + 1) s3 K rest':=by
 have hS:∀ j,fO (listed.setIfInBounds i true) j↔fO listed j∨j=i:=wI (by omega)
 obtain⟨e1,e2,e3,e4,e5⟩:=ht.row hr
 have hmem:i∈ri.es:=by rw[hI.es]; simp
 have hke:=(ht.wV hr).1 hmem
 have hle:=haft.le hI.oo
 -- an alive row that was done does not look at the effect
 have awo:ri.es[k]?=some i:=by
  rw[hI.es,List.getElem?_append_right (by rw[hI.len]; omega),hI.len]; simp
 have auj:∀ r'∈ri.rows,r'.lev≤k→Nat.testBit r'.m i=true→False:=by
  intro r' hr' hl hb
  obtain⟨q,hq⟩:=List.mem_iff_getElem?.1 hr'
  obtain⟨g1,g2,g3,g4,g5⟩:=ht.row hq
  have key:∀ (es:List Nat) (i0 pQ k:Nat),es[k]?=some i→i0 + k + 1≤oK r'.m es i0 pQ:=by
   intro es
   induction es with
   | nil=>intro i0 pQ k h; simp at h
   | cons x es ih =>
     intro i0 pQ k h
     simp only[oK]
     cases k with
     | zero =>
       simp at h; subst h
       rw[hb]
       simp only
       have mono:∀ (es:List Nat) (j pQ:Nat),pQ≤j→pQ≤oK r'.m es j pQ:=by
        intro es
        induction es with
        | nil=>intro j pQ _; exact Nat.le_refl _
        | cons y es ih2 =>
          intro j pQ hbj
          simp only[oK]
          split
          ·exact Nat.le_trans (by omega) (ih2 (j + 1) (j + 1) (Nat.le_refl _))
          ·exact ih2 (j + 1) pQ (by omega)
       exact mono es (i0 + 1) (i0 + 1) (Nat.le_refl _)
     | succ k =>
       split
       ·have:=ih (i0 + 1) (i0 + 1) k (by simpa using h); omega
       ·have:=ih (i0 + 1) pQ k (by simpa using h); omega
  have:=key ri.es 0 0 k awo
  rw[← g4] at this
  omega
 obtain⟨YJ,hrows⟩:=O6 (s0:=s) ri.rows hre fun r' hr' f1 f2 f3=>by
  refine⟨xH r' hr' f1 ?_,fun j hj=>?_,rfl⟩
  ·unfold lU at f3 ⊢
   rw[Bool.and_eq_true] at f3 ⊢
   refine⟨bB.2 f2, ?_⟩
   have f4:=f3.2
   rw[List.all_eq_true] at f4 ⊢
   intro x hx
   refine f4 x ?_
   have:=List.take_subset_take_left ri.es (Nat.le_succ k)
   exact this hx
  ·simp only[Tree.bJ]
   rw[if_neg]
   rintro rfl
   rcases hj with hj | hj
   ·exact auj r' hr' f2 hj
   ·obtain⟨q,hq⟩:=List.mem_iff_getElem?.1 hr'
    obtain⟨g1,_⟩:=ht.row hq
    have:q=j:=by omega
    subst this
    rw[hr] at hq; cases hq
    rw[f1] at hke; cases hke
 obtain⟨s3,hcont,hp⟩:=MP (s := { vals:=s.vals.set i v,M:=M',bR:=s.bR }) ht (haft.rel.fr) (fun j b hb=>Nat.lt_of_lt_of_le (hI.bid j b hb).2.1 haft.next) YJ
 have hkeep:∀ j,fO listed j∨j=i→s3.vals.get j=(s.vals.set i v).get j:=by
  intro j hj
  refine(hp.keep j fun r' hr' _=>?_).1
  rintro⟨hl,hk'⟩
  rcases hj with hj | rfl
  ·have:=hI.lev j r' hr' hk' hj; omega
  ·rw[hr] at hr'; cases hr'; rw[hke] at hk'; cases hk'
 have hvi:s3.vals.get i=some v:=by rw[hkeep i (.inr rfl),Tree.bJ,if_pos rfl]
 refine⟨s3,⟨by rw[hI.es]; simp,by simp[hI.len], ?_, ?_, ?_, ?_, ?_, ?_, ?_,hp.rel _ _ haft.rel,hI.step.trans (haft.step.abv hI.base) hI.next, ?_, ?_, ?_, ?_⟩, ?_,hcont⟩
 ·intro j o ho hj e he hb
  rcases(hS j).1 hj with hj | rfl
  ·exact(hS _).2 (.inl (hI.closed j o ho hj e he hb))
  ·rw[e2] at ho; cases ho
   exact(hS _).2 (.inl (hd e he hb))
 ·intro x hx
  rcases List.mem_append.1 hx with hx | hx
  ·exact(hS x).2 (.inl (hI.dn x hx))
  ·simp at hx; subst hx; exact(hS x).2 (.inr rfl)
 ·intro x hx hl
  rcases(hS x).1 hl with hl | rfl
  ·exact hI.rs x (.tail _ hx) hl
  ·exact hnd hx
 ·intro j r' hr' hk' hj
  rcases(hS j).1 hj with hj | rfl
  ·have:=hI.lev j r' hr' hk' hj; omega
  ·rw[hr] at hr'; cases hr'; rw[hke] at hk'; cases hk'
 ·cases hdst:r.o.dst <;> simp[Act.put,hI.size]
 ·cases hdst:r.o.dst <;> simp[Act.put,hI.defers]
 ·refine GZ ht (v:=v) (S:=fO listed) (fun t=>⟨fun j h1 h2=>?_,fun h=>((hI.slot t).2 h).mono hle⟩) hI.size hr hv hvi hS
  rw[hkeep j (.inl h2),Tree.bJ]
  split
  ·rename_i e
   subst e
   exact absurd h2 (hI.rs j (.head _))
  ·exact((hI.slot t).1 j h1 h2).mono hle
 ·rw[hp.sub.1,← hI.base]; exact haft.base
 ·exact Nat.le_trans hI.next (Nat.le_trans haft.next hp.next)
 ·intro j b hb
  rcases hp.bR j b hb with h | ⟨h,h',_,r',hr'⟩
  ·obtain⟨b1,b2,b3,b4⟩:=hI.bid j b h
   refine⟨b1,Nat.lt_of_lt_of_le b2 (Nat.le_trans haft.next hp.next),fun hj=>?_,b4⟩
   rw[haft.step.ext b b2]
   exact b3 fun hl=>hj ((hS j).2 (.inl hl))
  ·refine⟨Nat.le_trans hI.next (Nat.le_trans haft.next h),h',fun _=>haft.rel.fresh h, ?_⟩
   obtain⟨g1,g2,_⟩:=ht.row hr'
   have:=(List.getElem?_eq_some_iff.1 g2).1
   rw[Array.length_toList] at this
   exact this
 ·intro j1 j2 b h1 h2
  rcases Nat.lt_or_ge b M'.next with hlt | hge
  ·have q:∀ j,s3.bR.get j=some (some b)→s.bR.get j=some (some b):=by
    intro j hj
    rcases hp.bR j b hj with k | ⟨k1,_⟩
    ·exact k
    ·simp only at k1; omega
   exact hI.Dy j1 j2 b (q j1 h1) (q j2 h2)
  ·exact hp.Dy j1 j2 b h1 h2 hge
 ·intro r' hr' f1 f3
  obtain⟨q,hq⟩:=List.mem_iff_getElem?.1 hr'
  obtain⟨g1,g2,g3,g4,g5⟩:=ht.row hq
  have f3':=f3
  unfold lU at f3'
  rw[Bool.and_eq_true] at f3'
  have hl:=bE f3'.1
  by_cases he:r'.lev=k + 1
  ·exact hp.done q r' hq (Nat.zero_le _) he f1
  ·have hl' : r'.lev≤k:=by omega
   refine(hrows r' hr' f1 hl' f3).keep (fun j hj=>?_) ?_ hp.sub
   ·refine(hp.keep j fun r2 hr2 _=>?_).1
    rintro⟨h1,h2⟩
    rcases hj with hj | hj
    ·
     have hjm:r2.lev≤r'.lev:=by
      obtain⟨q1,q2,q3,q4,q5⟩:=ht.row hr2
      have sub:∀ x,Nat.testBit r2.m x=true→Nat.testBit r'.m x=true:=by
       intro x hx
       have hcl:Closed ops.toList (fun i=>Nat.testBit r'.m i=true∨i=q):=by
        intro i o ho hi e he' hb'
        rcases hi with hi | rfl
        ·exact .inl (aaC ht _ hq hi ho he' hb')
        ·rw[g2] at ho; cases ho
         exact .inl (Qu ht hq he' hb')
       rcases ht.FK hcl (.inl hj) q2 (by rw[q3]; exact hx) with h | h
       ·exact h
       ·subst h
        exfalso
        have hlt:j<x:=by
         have hc:Closed ops.toList (fun i=>i<x):=fun i o ho hi e he' hb'=>by have:=ht.Bd i o ho e he' hb'; omega
         exact ht.ahead hc hq (fun e he' hb'=>ht.Bd x r'.o g2 e he' hb') hj
        have hlt2:x<j:=by
         have hc:Closed ops.toList (fun i=>i<j):=fun i o ho hi e he' hb'=>by have:=ht.Bd i o ho e he' hb'; omega
         exact ht.ahead hc hr2 (fun e he' hb'=>ht.Bd j r2.o q2 e he' hb') hx
        omega
      rw[q4,g4]
      exact Iz sub ri.es 0 0 0 (Nat.le_refl _) (Nat.le_refl _)
     omega
    ·have:q=j:=by omega
     subst this
     rw[hq] at hr2; cases hr2; omega
   ·refine(hp.keep r'.i fun r2 hr2 _=>?_).2
    rw[g1,hq] at hr2; cases hr2
    rintro⟨h1,_⟩; omega
theorem aeQ (hP:Qc P) (ht:pY P nt ops ri) (CX:∀ r∈ri.rows,wN ri r=true) {Q:Exit→Act→World→Prop} {K:rW→Prop}
  (hQ:∀ s ρ' a' w',K s→Step M0.lo M0.next ρ0 w0 ρ' w'→gN ρ' nt (Ep T0 s.vals ri.rows) a'→ek P ρ' s.M w'→s.M.base=M0.base→M0.next≤s.M.next→Q .normal a' w') :
  ∀ (fuel:Nat) (listed:Array Bool) (k:Nat) (done rest:List Nat) (s:rW) (ρ:Ren) (a:Act) (w:World),listed.size=ops.size→listed.toList.count false≤fuel →
    JF P nt ops ri T0 M0 ρ0 w0 k done rest s (fO listed) ρ a w→Chk P ops T0 ri k s→VA P ops T0 ri k s K rest→wpAny P .any ops Q fuel listed a w:=by
 have fin:∀ (listed:Array Bool) (k:Nat) (done rest:List Nat) (s:rW) (ρ:Ren) (a:Act) (w:World),listed.size=ops.size→(∀ i,i<ops.size→fO listed i) →
   JF P nt ops ri T0 M0 ρ0 w0 k done rest s (fO listed) ρ a w→VA P ops T0 ri k s K rest→Q .normal a w:=by
  intro listed k done rest s ρ a w hsz hall hI hcont
  have hrest:rest=[]:=by
   cases rest with
   | nil=>rfl
   | cons x rest =>
     have hx:x∈ri.es:=by rw[hI.es]; simp
     rw[ht.es,uE] at hx
     obtain⟨j,o,hj,rfl,_⟩:=hx
     have:=(List.getElem?_eq_some_iff.1 hj).1
     exact absurd (hall (0 + j) (by simpa using this)) (hI.rs _ (.head _))
  subst hrest
  have hcont:K s:=hcont
  refine hQ s ρ a w hcont hI.step ⟨hI.size,fun t=>?_,hI.defers⟩ hI.oo hI.base hI.next
  obtain⟨g1,g2⟩:=hI.slot t
  refine Gi t _ ri.rows T0 (fun r hr hd=>?_) ?_
  ·obtain⟨q,hq⟩:=List.mem_iff_getElem?.1 hr
   obtain⟨e1,e2,_⟩:=ht.row hq
   have hql:=(List.getElem?_eq_some_iff.1 e2).1
   have:=g1 r.i (ht.dst q r hq t hd).1 (by rw[e1]; exact hall q (by simpa using hql))
   exact this
  ·by_cases hex:∃ j,ri.wr.get t=some j
   ·obtain⟨j,hj⟩:=hex
    obtain⟨o,ho,hdo⟩:=ht.wrs t j hj
    obtain⟨r,hr,rfl⟩:=ht.ex ho
    exact .inl ⟨r,List.mem_of_getElem? hr,hdo⟩
   ·exact .inr (g2 fun j hj=>absurd ⟨j,hj⟩ hex)
 intro fuel
 induction fuel with
 | zero =>
   intro listed k done rest s ρ a w hsz hcnt hI xH hcont
   have hall:∀ i,i<ops.size→fO listed i:=fun i hi=>Rb (by omega) (by omega)
   refine⟨?_,fin listed k done rest s ρ a w hsz hall hI hcont⟩
   rw[List.eq_nil_iff_forall_not_mem]
   intro i hi
   obtain⟨h1,h2,_⟩:=Ej hsz hi
   exact h2 (hall i h1)
 | succ fuel ih =>
   intro listed k done rest s ρ a w hsz hcnt hI xH hcont
   refine⟨fun hr=>fin listed k done rest s ρ a w hsz (Ja ht hsz hr) hI hcont,fun i hi=>?_⟩
   obtain⟨hilt,hnl,o,ho,hd⟩:=Ej hsz hi
   obtain⟨r,hr,rfl⟩:=ht.ex (j:=i) (o:=o) (by rw[Array.getElem?_toList]; exact ho)
   obtain⟨e1,e2,e3,e4,e5⟩:=ht.row hr
   have hrm:=List.mem_of_getElem? hr
   have he:=aft ht hI hr hnl hd (CX r hrm)
   unfold wpOp
   simp only[ho]
   cases hk:kX r.kd with
   | false =>
     have hall:lU ri.ms ri.es k r=true:=by
      unfold lU
      rw[Bool.and_eq_true,List.all_eq_true]
      constructor
      ·rw[bB,e4]
       rcases AZ (m:=r.m) ri.es 0 0 with h | ⟨q,x,a1,a2,a3⟩
       ·omega
       ·have hx:=ht.ahead hI.closed hr hd a2
        rw[a3]
        rcases Nat.lt_or_ge q k with h | h
        ·omega
        ·rw[hI.es,List.getElem?_append_right (by rw[hI.len]; exact h)] at a1
         exact absurd hx (hI.rs x (List.mem_of_getElem? a1))
      ·intro x hx
       rw[hI.es,List.take_left' hI.len] at hx
       rw[Bool.not_eq_true',← Bool.not_eq_true,e1,dI]
       intro hb
       have hxe:x∈ri.es:=by rw[hI.es]; exact List.mem_append_left _ hx
       rw[ht.es,uE] at hxe
       obtain⟨j,o',hj,hxj,_⟩:=hxe
       rw[Nat.zero_add] at hxj; subst hxj
       exact hnl (ht.FK hI.closed (hI.dn x hx) hj hb)
     have AA:r.lev≤k:=by
      unfold lU at hall
      rw[Bool.and_eq_true] at hall
      exact bE hall.1
     have hok:=xH r hrm hk hall
     have hnb:∀ j b,s.bR.get j=some (some b)→¬ fO (listed.setIfInBounds i true) j→ρ b=none:=fun j b hb hj =>
      (hI.bid j b hb).2.2.1 fun hl=>hj ((wI (by omega) j).2 (.inl hl))
     have next:∀ {v:AV} {v' : Value} {ρ' : Ren} {w' : World},s.vals.get i=some v→ay ρ' v v'→ρ.le ρ'→ek P ρ' s.M w'→Step M0.lo M0.next ρ w ρ' w' →
       (∀ j b,s.bR.get j=some (some b)→¬ fO (listed.setIfInBounds i true) j→ρ' b=none)→wpAny P .any ops Q fuel (listed.setIfInBounds i true) (a.put r.o.dst v') w':=by
      intro v v' ρ' w' hvi hv hle hw hst hb
      exact ih _ k done rest s ρ' _ w' (by simpa using hsz) (count_set (by omega) hnl hcnt) (aih ht hsz hI hilt hr hd hk AA hvi hv hle hw hst hb) xH hcont
     have LG:ρ.le ρ:=fun _ _ h=>h
     obtain⟨g,hg,hcase⟩:=hok
     obtain⟨gon,agP⟩:=QQ ht hI hr hd hg
     rw[e1] at hcase
     rcases hcase with⟨hon,v,hvi,hkd⟩ | ⟨hoff,hvi⟩
     ·rw[gon hon]
      simp only[if_true]
      refine .inl ?_
      have val:oU P r.o (jB T0 ri.wr s.vals r.m) s.M v→r.o.wp P a w (wpAny P .any ops Q fuel (listed.setIfInBounds i true)) Q:=by
       intro hgv
       obtain⟨v',h1,h2⟩:=hgv ρ w a.eval s.M (RM.Sub.refl _) hI.oo he
       exact nC r.o h1 (next hvi h2 LG hI.oo (Step.refl _ _ _) hnb)
      cases hkk:r.kd with
      | pure=>rw[hkk] at hkd; exact val (hkd _)
      | read=>rw[hkk] at hkd; exact val hkd
      | wV=>rw[hkk] at hkd; exact hkd.elim
      | alloc =>
        rw[hkk] at hkd
        obtain⟨x,mk,b,⟨y,hx,hle⟩,hbi,hy,hmk⟩:=hkd
        obtain⟨d,ob,u,inf,hrun,awc,hrel,ag0⟩:=vD he hx w
        obtain⟨b1,b2,b3,b4⟩:=hI.bid i b hbi
        have hbn:=b3 hnl
        have hd' : ek P ρ s.M (if d=true then w.drew else w):=by cases d <;> simp[hI.oo,hI.oo.drew]
        have hsz' : (if d=true then w.drew else w).heap.size=w.heap.size:=by cases d <;> simp
        have hst' : Step M0.lo M0.next ρ w ρ (if d=true then w.drew else w):=by cases d <;> simp[Step.refl,Step.drew]
        obtain⟨h1,h2⟩:=ae0 hd' (by omega) hbn b2 hy hle hrel
        replace h2:=h2.abv hI.base
        refine nC r.o hrun (next hvi (hmk▸ag0 _ b (by simp[Ren.add])) (Ren.xK hbn) h1 (hst'.trans h2 b1) fun j b' hb' hj=>?_)
        have hne:b'≠b:=by
         intro e
         subst e
         have hji:j≠i:=fun e=>hj ((wI (by omega) j).2 (.inr e))
         exact hji (hI.Dy j i b' hb' hbi)
        unfold Ren.add
        rw[if_neg hne]
        exact hnb j b' hb' hj
     ·rw[agP hoff]
      simp only[Bool.false_eq_true,if_false]
      exact next hvi (.tup _ _ .nil) LG hI.oo (Step.refl _ _ _) hnb
   | true =>
     have hie:i∈ri.es:=(ht.wV hr).2 hk
     rw[hI.es] at hie
     have hir:i∈rest:=by
      rcases List.mem_append.1 hie with h | h
      ·exact absurd (hI.dn i h) hnl
      ·exact h
     cases rest with
     | nil=>cases hir
     | cons x rest' =>
       have hxi:x=i:=by
        rcases List.mem_cons.1 hir with e | hm
        ·exact e.symm
        ·obtain⟨l1,l2,hl⟩:=List.append_of_mem hm
         have:=ht.chain (done++x :: l1) i l2 (by rw[hI.es,hl]; simp) x (by simp)
         rw[e3] at this
         exact absurd (ht.ahead hI.closed hr hd this) (hI.rs x (.head _))
       subst hxi
       have hnd:x ∉ rest':=by
        intro hm
        obtain⟨l1,l2,hl⟩:=List.append_of_mem hm
        have:=ht.chain (done++x :: l1) x l2 (by rw[hI.es,hl]; simp) x (by simp)
        rw[e3] at this
        exact hnl (ht.ahead hI.closed hr hd this)
       obtain⟨r',hr',hgs⟩:=hcont
       rw[dI,hr] at hr'; cases hr'
       obtain⟨g,hg,hcase⟩:=xA hgs
       obtain⟨gon,agP⟩:=QQ ht hI hr hd hg
       have next:∀ {v:AV} {v' : Value} {ρ' : Ren} {w' : World} {M' : RM},ay ρ' v v'→After P s.M ρ w M' ρ' w' →
         UX P ops T0 ri k ri.rows { vals:=s.vals.set x v,M:=M',bR:=s.bR } (Ac P ops T0 ri (k + 1) rest' { vals:=s.vals.set x v,M:=M',bR:=s.bR } K) →
         wpAny P .any ops Q fuel (listed.setIfInBounds x true) (a.put r.o.dst v') w':=by
        intro v v' ρ' w' M' hv haft hre
        obtain⟨s3,h1,h2,h3⟩:=aiK ht hsz hI xH hilt hr hd hnd hv haft hre
        exact ih _ (k + 1) _ rest' s3 ρ' _ w' (by simpa using hsz) (count_set (by omega) hnl hcnt) h1 h2 h3
       rcases hcase with⟨hon,hn⟩ | ⟨hoff,hn⟩
       ·rw[gon hon]
        simp only[if_true]
        exact .inl (abW (Ml hP (fun _=>rfl) hn) hI.oo he fun v v' M' ρ' w' haft hv hk=>next hv haft hk)
       ·rw[agP hoff]
        simp only[Bool.false_eq_true,if_false]
        exact next (.tup _ _ .nil) (After.refl hI.oo) hn
theorem Ng {vals:Tree AV} {t:Nat} : ∀ (rows:List Row) (T:Tree AV),(∀ r∈rows,r.o.dst≠some t)→(Ep T vals rows).get t=T.get t
 | [],T,_=>rfl
 | r :: rows,T,h=>by
   simp only[Ep]
   cases hd:r.o.dst with
   | none=>exact Ng rows T fun r' hr'=>h r' (.tail _ hr')
   | some d =>
     simp only
     rw[Ng rows _ fun r' hr'=>h r' (.tail _ hr'),Tree.bJ,if_neg]
     intro e; subst e
     exact h r (.head _) hd
theorem aa3 (hP:Qc P) {id:Nat} {T:Tree AV} {M:RM} {K:Tree AV→RM→Prop} {Q:Exit→Act→World→Prop} (hM:After P M0 ρ0 w0 M ρ w) (hA:gN ρ nt T a)
  (hQ:∀ T' M' ρ' a' w',After P M0 ρ0 w0 M' ρ' w'→gN ρ' nt T' a'→K T' M'→(∀ t,(∀ o∈ops.toList,o.dst≠some t)→T'.get t=T.get t)→Q .normal a' w') (h:ach P nt ops T M K) : (Code.region id ops true).wp P Q a w:=by
 unfold ach at h
 split at h <;> first | (cases h; done) | skip
 rename_i ri hri
 split at h <;> first | (cases h; done) | skip
 rename_i CX
 have ht:=FB hri
 obtain⟨s1,h1,hp⟩:=MP ht hM.rel.fr (fun j b hb=>by simp[Tree.get] at hb) h
 have hno:∀ i,¬ fO (Array.replicate ops.size false) i:=by
  intro i h
  unfold fO at h
  simp only[Array.getD_eq_getD_getElem?,Array.getElem?_replicate] at h
  split at h <;> simp at h
 refine wp_region_any hP.mixed (aeQ (M0:=M0) (ρ0:=ρ0) (w0:=w0) (T0:=T) hP ht (fun r hr=>List.all_eq_true.1 CX r hr) (fun s ρ' a' w' k0 k1 k2 k3 k4 k5=>hQ _ _ ρ' a' w' ⟨k1,k3,k4,k5⟩ k2 k0 (fun t hnt=>Ng ri.rows T fun r hr=>by
   obtain⟨q,hq⟩:=List.mem_iff_getElem?.1 hr
   exact hnt r.o (List.mem_of_getElem? (ht.row hq).2.1))) ops.size _ 0 [] ri.es s1 ρ a _ (by simp) (by simp) ?_ ?_ h1)
 ·refine⟨rfl,rfl,fun i o _ hi=>absurd hi (hno i),(fun x hx=>by cases hx),fun x _=>hno x,fun j r _ _ hj=>absurd hj (hno j),hA.size,hA.defers,fun t=>⟨fun j _ hj=>absurd hj (hno j),fun _=>hA.val t⟩,hp.rel _ _ hM.rel.drew,hM.step.trans (Step.drew (n:=M0.next)) (Nat.le_refl _),by rw[hp.sub.1]; exact hM.base,Nat.le_trans hM.next hp.next,fun j b hb'=>?_,fun j1 j2 b b1 b2=>?_⟩
  ·rcases hp.bR j b hb' with h | ⟨h,h',_,r,hr⟩
   ·simp[Tree.get] at h
   ·refine⟨Nat.le_trans hM.next h,h',fun _=>hM.rel.fresh h, ?_⟩
    obtain⟨g1,g2,_⟩:=ht.row hr
    have:=(List.getElem?_eq_some_iff.1 g2).1
    rw[Array.length_toList] at this
    exact this
  ·rcases hp.bR j1 b b1 with h | ⟨h,_⟩
   ·simp[Tree.get] at h
   ·exact hp.Dy j1 j2 b b1 b2 h
 ·intro r hr hk hal
  obtain⟨q,hq⟩:=List.mem_iff_getElem?.1 hr
  unfold lU at hal
  rw[Bool.and_eq_true] at hal
  exact hp.done q r hq (Nat.zero_le _) (by have:=bE hal.1; omega) hk
end
def Yl:Option Tmp→Nat
 | some d=>2 ^ d
 | none=>0
def afk:Operand→Nat
 | .tmp t=>2 ^ t
 | _=>0
def afJ:List Operand→Nat
 | []=>0
 | x :: xs=>afk x ||| afJ xs
def aik (L m:Nat) : Nat:=L ^^^ (L &&& m)
def Qt:List Oper→Nat
 | []=>0
 | o :: os=>Yl o.dst ||| Qt os
def jI:Nat→Code→Nat
 | 0,_=>0
 | f + 1,c=>match c with
   | .region _ ops _=>Qt ops.toList
   | .seq a b=>jI f a ||| jI f b
   | .cond _ a b=>jI f a ||| jI f b
   | .block _ c=>jI f c
   | .loop c=>jI f c
   | .scope c=>jI f c
   | _=>0
def abN:List Oper→Nat→Nat
 | [],L=>L
 | o :: os,L=>aik (abN os L) (Yl o.dst) ||| afJ o.op.operands.toList
def aeS:List (Nat × Nat)→Nat→Nat
 | [],_=>0
 | (i,L) :: r,id=>match Nat.beq i id with
   | true=>L
   | false=>aeS r id
def jO (ret:Nat) : Nat→List (Nat × Nat)→Code→Nat→Nat
 | 0,_,_,_=>0
 | f + 1,env,c,L=>match c with
   | .skip=>L
   | .region _ ops _=>abN ops.toList L
   | .seq a b=>jO ret f env a (jO ret f env b L)
   | .cond c a b=>afk c ||| jO ret f env a L ||| jO ret f env b L
   | .block id c=>jO ret f ((id,L) :: env) c L
   | .loop c=>jO ret f env c (jO ret f env c 0)
   | .exit id=>aeS env id
   | .ret=>ret
   | .scope c=>jO ret f env c L
   | .label _=>L
   | _=>0
def cap2 (n:Nat) : Nat:=match n with | 0=>0 | 1=>1 | _=>2
def yT (id:Nat) : Nat→Code→Nat
 | 0,_=>2
 | f + 1,c=>match c with
   | .seq a b=>cap2 (yT id f a + yT id f b)
   | .cond _ a b=>cap2 (yT id f a + yT id f b)
   | .block _ c=>yT id f c
   | .loop c=>yT id f c
   | .exit i=>match Nat.beq i id with | true=>1 | false=>0
   | _=>0
def Di:Nat→Code→Nat
 | 0,_=>2
 | f + 1,c=>match c with
   | .skip=>1
   | .region _ _ _=>1
   | .seq a b=>cap2 (Di f a * Di f b)
   | .cond _ a b=>cap2 (Di f a + Di f b)
   | .block id c=>cap2 (Di f c + yT id f c)
   | .scope c=>Di f c
   | .label _=>1
   | _=>0
def F8 (m:Nat) : Nat→Nat→List Nat
 | _,0=>[]
 | i,n + 1=>match Nat.testBit m i with
   | true=>i :: F8 m (i + 1) n
   | false=>F8 m (i + 1) n
def bitsOf (m nt:Nat) : List Nat:=F8 m 0 nt
def ES (T:Tree AV) : List Nat→List AV
 | []=>[]
 | t :: ts=>(T.get t).getD .top :: ES T ts
def aa:List AV→Nat→AV
 | [],_=>.top
 | x :: _,0=>x
 | _ :: xs,n + 1=>aa xs n
def Gz (T:Tree AV) : List Nat→Tree AV
 | []=>T
 | t :: ts=>Gz (T.set t .top) ts
def aau (T:Tree AV) (xs:List AV) : Nat→List Nat→Tree AV
 | _,[]=>T
 | i,t :: ts=>aau (T.set t (aa xs i)) xs (i + 1) ts
def Ih (T:Tree AV) (asg vs:List Nat) (xs:List AV) : Tree AV:=aau (Gz T asg) xs 0 vs
def av (x:AV) (p q:Prop) : Prop :=
 match x with
 | .sc (.bool b)=>(b=true→p)∧(b=false→q)
 | _=>False
def bQ (f:(List AV→RM→Prop)→Prop) (g:List AV→RM→Prop) : Prop:=f g
def aM (body:(List AV→RM→Prop)→List AV→RM→Prop) (xs:List AV) (M:RM) : Prop :=
 ∃ (I:Nat→List AV→RM→Prop) (n:Nat),I n xs M∧∀ m ys M',I m ys M'→body (fun zs M''=>∃ m',m'<m∧I m' zs M'') ys M'
abbrev K3:=Ex→Tree AV→RM→Prop
def wpC (P:Program) (nt ret:Nat) : Nat→Code→List (Nat × Nat)→Nat→Tree AV→RM→K3→Prop
 | 0,_,_,_,_,_,_=>False
 | f + 1,c,env,L,T,M,K=>match c with
   | .skip=>K .normal T M
   | .region _ ops false=>Sc P nt ops ops.toList T M (fun T' M'=>K .normal T' M')
   | .region _ ops true=>ach P nt ops T M (fun T' M'=>K .normal T' M')
   | .seq a b=>match Nat.ble (Di f a) 1 with
     | true=>wpC P nt ret f a env (jO ret f env b L) T M (fun e T' M'=>match e with
       | .normal=>wpC P nt ret f b env L T' M' K
       | e=>K e T' M')
     | false=>bQ (fun J=>wpC P nt ret f a env (jO ret f env b L) T M (fun e T' M'=>match e with
       | .normal=>J (ES T' (bitsOf (jI f a &&& jO ret f env b L) nt)) M'
       | e=>K e T' M'))
       (fun xs M'=>wpC P nt ret f b env L (Ih T (bitsOf (jI f a) nt) (bitsOf (jI f a &&& jO ret f env b L) nt) xs) M' K)
   | .cond c a b=>av (qg T c) (wpC P nt ret f a env L T M K) (wpC P nt ret f b env L T M K)
   | .block id c=>wpC P nt ret f c ((id,L) :: env) L T M (fun e T' M'=>match e with
     | .exit i=>match Nat.beq i id with
       | true=>K .normal T' M'
       | false=>K (.exit i) T' M'
     | e=>K e T' M')
   | .loop c=>aM (fun next xs M'=>wpC P nt ret f c env (jO ret f env c (jO ret f env c 0)) (Ih T (bitsOf (jI f c) nt) (bitsOf (jI f c &&& jO ret f env c (jO ret f env c 0)) nt) xs) M'
     (fun e T' M'=>match e with
      | .normal=>next (ES T' (bitsOf (jI f c &&& jO ret f env c (jO ret f env c 0)) nt)) M'
      | e=>K e T' M'))
     (ES T (bitsOf (jI f c &&& jO ret f env c (jO ret f env c 0)) nt)) M
   | .exit id=>K (.exit id) T M
   | .ret=>K .ret T M
   | .scope c=>wpC P nt ret f c env L T M K
   | .label _=>K .normal T M
   | _=>False
def ahw (P:Program) (T:Tree AV) (M:RM) (r:ResultVar) (K:AV→Prop) : Prop :=
 match r with
 | .tmp t=>K ((T.get t).getD .top)
 | .cell a t=>match eF P t with
   | some false=>au M ((T.get a).getD .top) K
   | some true=>match bH P t with
     | some n=>aB M ((T.get a).getD .top) n K
     | none=>False
   | none=>False
def aif (P:Program) (T:Tree AV) (M:RM) : List ResultVar→(List AV→Prop)→Prop
 | [],K=>K []
 | r :: rs,K=>ahw P T M r (fun v=>aif P T M rs (fun vs=>K (v :: vs)))
def aps (Q:aj) (M:RM) : List AV→Prop
 | [v]=>Q v M
 | vs=>Q (.tup vs) M
def S9:List ResultVar→Nat
 | []=>0
 | .tmp t :: rs=>2 ^ t ||| S9 rs
 | .cell a _ :: rs=>2 ^ a ||| S9 rs
def ae3 (P:Program) (fn:Func) (c:Code) (args:List AV) (M:RM) (Q:aj) : Prop :=
 wpC P (args.length + (fn.ntmps - args.length)) (S9 fn.results.toList) 1000 c [] 0 (Tree.ofList args 0 .leaf) M
  (fun e T M'=>match e with
   | .exit _=>False
   | _=>aif P T M' fn.results.toList (aps Q M'))
section
variable {P:Program} {nt ret:Nat}
def adQ (P:Program) (nt:Nat) (M0:RM) (ρ0:Ren) (w0:World) (T:Tree AV) (asg:Nat) (K:K3) (e:Exit) (a:Act) (w:World) : Prop :=
 ∃ x T' M' ρ',e=SK x∧After P M0 ρ0 w0 M' ρ' w∧gN ρ' nt T' a∧(∀ t,Nat.testBit asg t=false→T'.get t=T.get t)∧K x T' M'
theorem ZB {T:Tree AV} : ∀ (vs:List Nat) (i:Nat),aa (ES T vs) i=match vs[i]? with | some t=>(T.get t).getD .top | none=>.top
 | [],i=>by simp[ES,aa]
 | t :: vs,0=>by simp[ES,aa]
 | t :: vs,i + 1=>by simp[ES,aa,ZB vs i]
theorem JS:∀ (asg:List Nat) (T:Tree AV) (t:Nat),(Gz T asg).get t=if t∈asg then some .top else T.get t
 | [],T,t=>by simp[Gz]
 | d :: asg,T,t=>by
   simp only[Gz,JS asg,Tree.bJ,List.mem_cons]
   by_cases h1:t∈asg
   ·simp[h1]
   ·by_cases h2:t=d <;> simp[h1,h2]
theorem Nl:∀ (vs:List Nat) (T:Tree AV) (xs:List AV) (i t:Nat),(t ∉ vs∧(aau T xs i vs).get t=T.get t)∨∃ j,vs[j]?=some t∧(aau T xs i vs).get t=some (aa xs (i + j))
 | [],T,xs,i,t=>.inl ⟨by simp,rfl⟩
 | d :: vs,T,xs,i,t=>by
   simp only[aau]
   rcases Nl vs (T.set d (aa xs i)) xs (i + 1) t with⟨h1,h2⟩ | ⟨j,h1,h2⟩
   ·rw[Tree.bJ] at h2
    by_cases e:t=d
    ·rw[if_pos e] at h2
     exact .inr ⟨0,by simp[e],h2⟩
    ·rw[if_neg e] at h2
     exact .inl ⟨by simp[e,h1],h2⟩
   ·exact .inr ⟨j + 1,by simpa using h1,by rw[h2]; congr 2; omega⟩
theorem IJ {m:Nat} : ∀ (n i t:Nat),t∈F8 m i n↔i≤t∧t<i + n∧Nat.testBit m t=true
 | 0,i,t=>by simp[F8]; omega
 | n + 1,i,t=>by
   simp only[F8]
   split
   ·rename_i h
    rw[List.mem_cons,IJ n (i + 1) t]
    constructor
    ·rintro(rfl | ⟨a,b,c⟩)
     ·exact⟨Nat.le_refl _,by omega,h⟩
     ·exact⟨by omega,by omega,c⟩
    ·rintro⟨a,b,c⟩
     by_cases e:t=i
     ·exact .inl e
     ·exact .inr ⟨by omega,by omega,c⟩
   ·rename_i h
    rw[IJ n (i + 1) t]
    constructor
    ·rintro⟨a,b,c⟩; exact⟨by omega,by omega,c⟩
    ·rintro⟨a,b,c⟩
     have:t≠i:=fun e=>by subst e; rw[h] at c; cases c
     exact⟨by omega,by omega,c⟩
theorem Bp {m n t:Nat} : t∈bitsOf m n↔t<n∧Nat.testBit m t=true:=by
 unfold bitsOf; rw[IJ]; simp
theorem J7 {ρ:Ren} {T T' : Tree AV} {a:Act} {asg:Nat} {vs:List Nat} (h:gN ρ nt T' a) (hge:∀ t,nt≤t→ay ρ ((T.get t).getD .top) undef) (hk:∀ t,Nat.testBit asg t=false→T'.get t=T.get t) : gN ρ nt (Ih T (bitsOf asg nt) vs (ES T' vs)) a:=by
 refine⟨h.size,fun t=>?_,h.defers⟩
 unfold Ih
 rcases Nl vs (Gz T (bitsOf asg nt)) (ES T' vs) 0 t with⟨_,h2⟩ | ⟨j,h1,h2⟩
 ·rw[h2,JS]
  split
  ·exact .top _
  ·rename_i hm
   by_cases hb:Nat.testBit asg t=true
   ·have hge' : nt≤t:=by
     rcases Nat.lt_or_ge t nt with hlt | hge
     ·exact absurd (Bp.2 ⟨hlt,hb⟩) hm
     ·exact hge
    have hv:a.tmps.getD t undef=undef:=by
     rw[Array.getD_eq_getD_getElem?,Array.getElem?_eq_none (by rw[h.size]; exact hge')]; rfl
    rw[hv]; exact hge t hge'
   ·rw[← hk t (by simpa using hb)]
    exact h.val t
 ·rw[h2,Nat.zero_add,ZB,h1]
  exact h.val t
theorem PL {T:Tree AV} {asg:Nat} {vs:List Nat} {xs:List AV} (hvs:∀ t∈vs,Nat.testBit asg t=true) (t:Nat) (h:Nat.testBit asg t=false) : (Ih T (bitsOf asg nt) vs xs).get t=T.get t:=by
 unfold Ih
 rcases Nl vs (Gz T (bitsOf asg nt)) xs 0 t with⟨_,h2⟩ | ⟨j,h1,h2⟩
 ·rw[h2,JS,if_neg]
  intro hm
  rw[(Bp.1 hm).2] at h; cases h
 ·have:=hvs t (List.mem_of_getElem? h1)
  rw[h] at this; cases this
theorem gN.ge {ρ:Ren} {T:Tree AV} {a:Act} (h:gN ρ nt T a) : ∀ t,nt≤t→ay ρ ((T.get t).getD .top) undef:=by
 intro t ht
 have:=h.val t
 rw[Array.getD_eq_getD_getElem?,Array.getElem?_eq_none (by rw[h.size]; exact ht)] at this
 exact this
theorem MJ {c:Code} {Q:Exit→Act→World→Prop} : ∀ {n m:Nat} {a:Act} {w:World},n≤m→Code.rounds P c Q n a w→Code.rounds P c Q m a w
 | 0,_,_,_,_,h=>h.elim
 | n + 1,m + 1,a,w,hle,h=>by
   rw[rounds_succ] at h ⊢
   refine wp_mono h fun e a' w' hp=>?_
   cases e with
   | normal=>exact MJ (Nat.le_of_succ_le_succ hle) hp
   | exit id=>exact hp
   | ret=>exact hp
   | goto l=>exact hp
   | panic c=>exact hp
   | outgrown=>exact hp
theorem Iq {t:Nat} : ∀ (l:List Oper),Nat.testBit (Qt l) t=false→∀ o∈l,o.dst≠some t
 | [],_,o,ho=>by cases ho
 | x :: l,h,o,ho=>by
   simp only[Qt,Nat.testBit_or,Bool.or_eq_false_iff] at h
   rcases List.mem_cons.1 ho with rfl | ho
   ·intro e
    rw[e] at h
    simp[Yl,Nat.testBit_two_pow] at h
   ·exact Iq l h.2 o ho
theorem afV {ρ:Ren} {x:AV} {u:Value} {p q:Prop} (h:av x p q) (hx:ay ρ x u) : ∃ b,u=.bool b∧(b=true→p)∧(b=false→q):=by
 unfold av at h
 split at h <;> first | (cases h; done) | skip
 rename_i b
 exact⟨b,(aX hx).1,h.1,h.2⟩
theorem afd (hP:Qc P) : ∀ (f:Nat) (c:Code) (env:List (Nat × Nat)) (L:Nat) (T:Tree AV) (M:RM) (K:K3),wpC P nt ret f c env L T M K →
  ∀ (M0:RM) (ρ0:Ren) (w0:World) (ρ:Ren) (a:Act) (w:World),After P M0 ρ0 w0 M ρ w→gN ρ nt T a→c.wp P (adQ P nt M0 ρ0 w0 T (jI f c) K) a w:=by
 intro f
 induction f with
 | zero=>intro c env L T M K h; exact h.elim
 | succ f ih =>
   intro c env L T M K h M0 ρ0 w0 ρ a w hM hA
   cases c with
   | skip=>exact wp_skip ⟨.normal,T,M,ρ,rfl,hM,hA,fun _ _=>rfl,h⟩
   | region id ops d =>
     cases d with
     | false =>
       refine wp_region ?_
       have:=G5 (nt:=nt) hP (ops:=ops) (Q:=adQ P nt M0 ρ0 w0 T (jI (f + 1) (.region id ops false)) K) (K:=fun T' M'=>K .normal T' M') (M0:=M0) (ρ0:=ρ0) (w0:=w0) (T0:=T)
        (fun T' M' ρ' a' w' k1 k2 k3 k4=>⟨.normal,T',M',ρ',rfl,k1,k2,fun t ht=>k4 t (Iq _ ht),k3⟩) ops.toList 0 (by simp) hA hM (fun _ _=>rfl) h
       rw[Array.length_toList,← List.range_eq_range'] at this
       exact this
     | true =>
       exact aa3 (nt:=nt) (T:=T) hP hM hA (fun T' M' ρ' a' w' k1 k2 k3 k4=>⟨.normal,T',M',ρ',rfl,k1,k2,fun t ht=>k4 t (Iq _ ht),k3⟩) h
   | seq c1 c2 =>
     simp only[wpC] at h
     refine wp_seq ?_
     split at h
     ·refine wp_mono (ih c1 _ _ _ _ _ h M0 ρ0 w0 ρ a w hM hA) fun e a' w' hp=>?_
      obtain⟨x,T1,M1,ρ1,rfl,k1,k2,k3,k4⟩:=hp
      cases x with
      | normal =>
        refine wp_mono (ih c2 _ _ _ _ _ k4 M0 ρ0 w0 ρ1 a' w' k1 k2) fun e a2 w2 hp=>?_
        obtain⟨x,T2,M2,ρ2,he,q1,q2,q3,q4⟩:=hp
        exact⟨x,T2,M2,ρ2,he,q1,q2,fun t ht=>by
         simp only[jI,Nat.testBit_or,Bool.or_eq_false_iff] at ht
         rw[q3 t ht.2,k3 t ht.1],q4⟩
      | exit i=>exact⟨.exit i,T1,M1,ρ1,rfl,k1,k2,fun t ht=>by
        simp only[jI,Nat.testBit_or,Bool.or_eq_false_iff] at ht
        exact k3 t ht.1,k4⟩
      | ret=>exact⟨.ret,T1,M1,ρ1,rfl,k1,k2,fun t ht=>by
        simp only[jI,Nat.testBit_or,Bool.or_eq_false_iff] at ht
        exact k3 t ht.1,k4⟩
     ·unfold bQ at h
      refine wp_mono (ih c1 _ _ _ _ _ h M0 ρ0 w0 ρ a w hM hA) fun e a' w' hp=>?_
      obtain⟨x,T1,M1,ρ1,rfl,k1,k2,k3,k4⟩:=hp
      have hge:∀ t,nt≤t→ay ρ1 ((T.get t).getD .top) undef:=fun t ht=>by
       have h1:=k2.ge t ht
       by_cases hb:Nat.testBit (jI f c1) t=false
       ·rw[k3 t hb] at h1; exact h1
       ·have h0:=hA.ge t ht
        have hu:∀ (ρ ρ' : Ren) (x:AV),ay ρ x undef→ay ρ' x undef:=by
         intro ρ ρ' x hx
         unfold undef at hx ⊢
         cases hx with
         | top=>exact .top _
         | sc v p=>exact .sc _ p
         | tup xs vs a=>cases a; exact .tup _ _ .nil
        exact hu _ _ _ h0
      cases x with
      | normal =>
        refine wp_mono (ih c2 _ _ _ _ _ k4 M0 ρ0 w0 ρ1 a' w' k1 (J7 k2 hge k3)) fun e a2 w2 hp=>?_
        obtain⟨x,T2,M2,ρ2,he,q1,q2,q3,q4⟩:=hp
        refine⟨x,T2,M2,ρ2,he,q1,q2,fun t ht=>?_,q4⟩
        simp only[jI,Nat.testBit_or,Bool.or_eq_false_iff] at ht
        rw[q3 t ht.2]
        refine PL (fun t' ht'=>?_) t ht.1
        have:=(Bp.1 ht').2
        rw[Nat.testBit_and,Bool.and_eq_true] at this
        exact this.1
      | exit i=>exact⟨.exit i,T1,M1,ρ1,rfl,k1,k2,fun t ht=>by
        simp only[jI,Nat.testBit_or,Bool.or_eq_false_iff] at ht
        exact k3 t ht.1,k4⟩
      | ret=>exact⟨.ret,T1,M1,ρ1,rfl,k1,k2,fun t ht=>by
        simp only[jI,Nat.testBit_or,Bool.or_eq_false_iff] at ht
        exact k3 t ht.1,k4⟩
   | cond cnd c1 c2 =>
     simp only[wpC] at h
     obtain⟨b,hb,h1,h2⟩:=afV h (Em hA cnd)
     cases b with
     | true =>
       refine wp_cond_true hb (wp_mono (ih c1 _ _ _ _ _ (h1 rfl) M0 ρ0 w0 ρ a w hM hA) fun e a' w' hp=>?_)
       obtain⟨x,T1,M1,ρ1,he,k1,k2,k3,k4⟩:=hp
       exact⟨x,T1,M1,ρ1,he,k1,k2,fun t ht=>by
         simp only[jI,Nat.testBit_or,Bool.or_eq_false_iff] at ht
         exact k3 t ht.1,k4⟩
     | false =>
       refine wp_cond_false hb (wp_mono (ih c2 _ _ _ _ _ (h2 rfl) M0 ρ0 w0 ρ a w hM hA) fun e a' w' hp=>?_)
       obtain⟨x,T1,M1,ρ1,he,k1,k2,k3,k4⟩:=hp
       exact⟨x,T1,M1,ρ1,he,k1,k2,fun t ht=>by
         simp only[jI,Nat.testBit_or,Bool.or_eq_false_iff] at ht
         exact k3 t ht.2,k4⟩
   | block id c1 =>
     simp only[wpC] at h
     refine wp_block (wp_mono (ih c1 _ _ _ _ _ h M0 ρ0 w0 ρ a w hM hA) fun e a' w' hp=>?_)
     obtain⟨x,T1,M1,ρ1,rfl,k1,k2,k3,k4⟩:=hp
     cases x with
     | normal=>exact⟨.normal,T1,M1,ρ1,rfl,k1,k2,k3,k4⟩
     | ret=>exact⟨.ret,T1,M1,ρ1,rfl,k1,k2,k3,k4⟩
     | exit i =>
       simp only at k4
       split at k4
       ·rename_i he
        have he:=bI he
        subst he
        simp only[SK,Exit.inBlock,if_true]
        exact⟨.normal,T1,M1,ρ1,rfl,k1,k2,k3,k4⟩
       ·rename_i he
        have he:=DW he
        simp only[SK,Exit.inBlock,if_neg he]
        exact⟨.exit i,T1,M1,ρ1,rfl,k1,k2,k3,k4⟩
   | loop c1 =>
     simp only[wpC] at h
     obtain⟨I,n,hI,hbody⟩:=h
     have hvs:∀ t∈bitsOf (jI f c1 &&& jO ret f env c1 (jO ret f env c1 0)) nt,Nat.testBit (jI f c1) t=true:=fun t' ht'=>by
      have:=(Bp.1 ht').2
      rw[Nat.testBit_and,Bool.and_eq_true] at this
      exact this.1
     generalize hv:bitsOf (jI f c1 &&& jO ret f env c1 (jO ret f env c1 0)) nt=vs at hI hbody hvs
     have hu:∀ (ρ ρ' : Ren) (x:AV),ay ρ x undef→ay ρ' x undef:=by
      intro ρ ρ' x hx
      unfold undef at hx ⊢
      cases hx with
      | top=>exact .top _
      | sc v p=>exact .sc _ p
      | tup xs vs a=>cases a; exact .tup _ _ .nil
     have hge:∀ (ρ1:Ren) t,nt≤t→ay ρ1 ((T.get t).getD .top) undef:=fun ρ1 t ht=>hu _ _ _ (hA.ge t ht)
     have key:∀ (m:Nat) (ys:List AV) (M1:RM) (ρ1:Ren) (a1:Act) (w1:World),I m ys M1→After P M0 ρ0 w0 M1 ρ1 w1→gN ρ1 nt (Ih T (bitsOf (jI f c1) nt) vs ys) a1 →
       Code.rounds P c1 (adQ P nt M0 ρ0 w0 T (jI (f + 1) (.loop c1)) K) (m + 1) a1 w1:=by
      intro m
      induction m using Nat.strongRecOn with
      | _ m ihm =>
        intro ys M1 ρ1 a1 w1 hIm hM1 hA1
        rw[rounds_succ]
        refine wp_mono (ih c1 _ _ _ _ _ (hbody m ys M1 hIm) M0 ρ0 w0 ρ1 a1 w1 hM1 hA1) fun e a' w' hp=>?_
        obtain⟨x,T2,M2,ρ2,rfl,k1,k2,k3,k4⟩:=hp
        have k3' : ∀ t,Nat.testBit (jI f c1) t=false→T2.get t=T.get t:=fun t ht=>by rw[k3 t ht]; exact PL hvs t ht
        cases x with
        | normal =>
          obtain⟨m',hlt,hI'⟩:=k4
          exact MJ (by omega) (ihm m' hlt _ M2 ρ2 a' w' hI' k1 (J7 k2 (hge ρ2) k3'))
        | exit i=>exact⟨.exit i,T2,M2,ρ2,rfl,k1,k2,k3',k4⟩
        | ret=>exact⟨.ret,T2,M2,ρ2,rfl,k1,k2,k3',k4⟩
     exact wp_loop_rounds _ (key n _ M ρ a w hI hM (J7 hA (hge ρ) fun _ _=>rfl))
   | exit id=>exact wp_exit ⟨.exit id,T,M,ρ,rfl,hM,hA,fun _ _=>rfl,h⟩
   | ret=>exact wp_ret ⟨.ret,T,M,ρ,rfl,hM,hA,fun _ _=>rfl,h⟩
   | rangeFunc=>simp[wpC] at h
   | scope c1 =>
     simp only[wpC] at h
     refine wp_scope_straight (wp_mono (ih c1 _ _ _ _ _ h M0 ρ0 w0 ρ a w hM hA) fun e a' w' hp=>?_)
     obtain⟨x,T1,M1,ρ1,rfl,k1,k2,k3,k4⟩:=hp
     cases x with
     | normal=>exact⟨.normal,T1,M1,ρ1,rfl,k1,k2,k3,k4⟩
     | exit i=>exact⟨.exit i,T1,M1,ρ1,rfl,k1,k2,k3,k4⟩
     | ret=>exact⟨.ret,T1,M1,ρ1,rfl,k1,k2,k3,k4⟩
   | label l=>exact wp_label ⟨.normal,T,M,ρ,rfl,hM,hA,fun _ _=>rfl,h⟩
   | goto=>simp[wpC] at h
   | refuse=>simp[wpC] at h
theorem adN {ρ:Ren} {T:Tree AV} {M:RM} {a:Act} {w:World} (hA:gN ρ nt T a) (hw:ek P ρ M w) {r:ResultVar} {K:AV→Prop} (h:ahw P T M r K) :
  ∃ v v',(xO a.tmps r).run P w=.ok v' w∧ay ρ v v'∧K v:=by
 cases r with
 | tmp t=>exact⟨_,_,rfl,hA.val t,h⟩
 | cell x t =>
   simp only[ahw] at h
   have hv:=hA.val x
   split at h <;> first | (cases h; done) | skip
   ·rename_i ha
    obtain⟨b,p,v,hx,hl,hk⟩:=h
    rw[hx] at hv
    obtain⟨i,hb,hc⟩:=fK hv
    obtain⟨u,hu,hcell⟩:=UH hw hb hl
    refine⟨v,u, ?_,hu,hk⟩
    simp only[xO,hc,asAddr,Sem.run_bind,Sem.run_pure,Result.andThen_ok,loadVar,jm ha,Bool.false_eq_true,if_false,load,Sem.run,hcell]
   ·rename_i ha
    split at h <;> first | (cases h; done) | skip
    rename_i n hs
    obtain⟨b,p,xs,hx,hl,hk⟩:=h
    rw[hx] at hv
    obtain⟨i,hb,hc⟩:=fK hv
    obtain⟨vs,hr,hlen,_,hrun⟩:=RM.oP (P:=P) hw hb hl
    exact⟨.agg xs,.agg ⟨vs⟩,by simp only[xO,hc,asAddr,Sem.run_bind,Sem.run_pure,Result.andThen_ok,loadVar,jm ha,if_true,dR hs,hrun],.agg _ _ hr,hk⟩
theorem IE {ρ:Ren} {T:Tree AV} {M:RM} {a:Act} {w:World} (hA:gN ρ nt T a) (hw:ek P ρ M w) : ∀ (rs:List ResultVar) (K:List AV→Prop),aif P T M rs K →
  ∃ vs us,(rs.mapM (xO a.tmps)).run P w=.ok us w∧bn ρ vs us∧K vs
 | [],K,h=>⟨[],[],by simp,.nil,h⟩
 | r :: rs,K,h=>by
   obtain⟨v,v',h1,h2,h3⟩:=adN hA hw h
   obtain⟨vs,us,h4,h5,h6⟩:=IE hA hw rs _ h3
   refine⟨v :: vs,v' :: us, ?_,.cons _ _ _ _ h2 h5,h6⟩
   simp only[List.mapM_cons,Sem.run_bind,h1,Result.andThen_ok,h4,Sem.run_pure]
theorem Rx (hP:Qc P) {f:FuncId} {fn:Func} {c:Code} {args:List AV} {M:RM} {Q:aj} (hfn:P.funcs[f]?=some fn) (hbody:fn.body=some c) (h:ae3 P fn c args M Q) : iJ P f args M Q:=by
 refine⟨⟨fn,c,hfn,hbody⟩,fun ρ w us hargs hw=>?_⟩
 have hlen:=hargs.length
 have hA:gN ρ (args.length + (fn.ntmps - args.length)) (Tree.ofList args 0 .leaf) { tmps:=⟨us⟩++Array.replicate (fn.ntmps - (⟨us⟩ : Array Value).size) undef,defers:=[] } := by
  refine⟨by simp[hlen],fun t=>?_,rfl⟩
  rw[Tree.mK]
  by_cases ht:t<args.length
  ·rw[if_pos (by omega),Nat.sub_zero]
   obtain⟨u,hu,hv⟩:=hargs.get (n:=t) (x:=args[t]) (by simp[ht])
   rw[List.getElem?_eq_getElem ht]
   simp only[Option.getD_some]
   have:((⟨us⟩ : Array Value)++Array.replicate (fn.ntmps - (⟨us⟩ : Array Value).size) undef).getD t undef=u:=by
    rw[Array.getD_eq_getD_getElem?,Array.getElem?_append_left (by simp; omega)]
    simp[hu]
   rw[this]; exact hv
  ·rw[if_neg (by omega)]
   exact .top _
 refine calls_of_wp hfn hbody (wp_mono (afd hP 1000 c [] 0 _ M _ h M ρ w ρ _ w (After.refl hw) hA) fun e a w' hp=>?_)
 obtain⟨x,T',M',ρ',rfl,k1,k2,k3,k4⟩:=hp
 have key:(∃ vs us,(fn.results.toList.mapM (xO a.tmps)).run P w'=.ok us w'∧bn ρ' vs us∧aps Q M' vs) →
   a.defers=[]∧∃ v,(results fn a.tmps).run P w'=.ok v w'∧∃ v' v_1 aq1 amK,Ending.returned v=.returned v'∧After P M ρ w aq1 amK w'∧ay amK v_1 v'∧Q v_1 aq1:=by
  rintro⟨vs,us,h1,h2,h3⟩
  have hres:(results fn a.tmps).run P w'=.ok (if h:(⟨us⟩ : Array Value).size=1 then(⟨us⟩ : Array Value)[0] else .tuple ⟨us⟩) w':=by
   have e:results fn a.tmps=(fn.results.mapM (xO a.tmps) >>= fun vs=>pure (if h:vs.size=1 then vs[0] else .tuple vs)):=rfl
   rw[e,Array.mapM_eq_mapM_toList]
   simp only[Sem.run_bind,Sem.run_map,h1,Result.andThen_ok,Sem.run_pure]
  refine⟨k2.defers,_,hres, ?_⟩
  cases h2 with
  | nil=>exact⟨_,_,M',ρ',rfl,k1,.tup _ _ .nil,h3⟩
  | cons x v xs vs2 hv htl =>
    cases htl with
    | nil=>exact⟨_,x,M',ρ',rfl,k1,hv,h3⟩
    | cons y u ys us2 hu awI=>exact⟨_,_,M',ρ',rfl,k1,.tup _ _ (.cons _ _ _ _ hv (.cons _ _ _ _ hu awI)),h3⟩
 cases x with
 | normal=>exact key (IE k2 k1.rel _ _ k4)
 | ret=>exact key (IE k2 k1.rel _ _ k4)
 | exit id=>exact k4.elim
abbrev ak:=List AV→RM→aj→Prop
def RY (P:Program) (fn:Func) (args:List AV) (M:RM) (Q:aj) : Prop :=
 match fn.body with
 | some c=>ae3 P fn c args M Q
 | none=>False
theorem agi (hP:Qc P) {f:FuncId} {fn:Func} {args:List AV} {M:RM} {Q:aj} (hfn:P.funcs[f]?=some fn) (h:RY P fn args M Q) : iJ P f args M Q:=by
 unfold RY at h
 split at h
 ·rename_i c hc; exact Rx hP hfn hc h
 ·cases h
end
end Go.Ab
set_option maxRecDepth 100000
namespace Go.Ab.Vw
open Go Go.Ab
def uL (p1 p2 p3 p4 p5 p6 p7 p8 p9 p10 p11:ak) (a0 a1 a2:AV) (M0:RM) (Q:aj) : Prop :=
 p1 [] M0 fun t14 M =>
 dM t14 fun t15 =>
 av t15 (
 Q (Bo false) M) (
 bu a0 fun t17 =>
 af .gtr t17 (N .i64 60) fun t18 =>
 av t18 (
 Q (Bo true) M) (
 p2 [a0] M fun t20 M_0 =>
 p3 [t20] M_0 fun t21 M_1 =>
 p2 [a0] M_1 fun t23 M_2 =>
 p4 [t23] M_2 fun t24 M_3 =>
 p5 [t21,t24,a2] M_3 fun t28 M_4 =>
 dM t28 fun t29 =>
 av t29 (
 Q (Bo false) M_4) (
 p6 [t24] M_4 fun t31 M_5 =>
 p7 [t21] M_5 fun t33 M_6 =>
 bu t33 fun t35 =>
 bu t31 fun t37 =>
 af .neq t35 t37 fun t38 =>
 av t38 (
 Q (Bo false) M_6) (
 aM (fun next xs M_7 =>
 bu t31 fun t41 =>
 af .lss (aa xs 0) t41 fun t42 =>
 av t42 (
 ah t31 (aa xs 0) 1 fun t49 =>
 au M_7 t49 fun t50 =>
 p5 [t21,t24,t50] M_7 fun t51 M_8 =>
 dM t51 fun t52 =>
 av t52 (
 Q (Bo false) M_8) (
 aM (fun anV DL df =>
 bu t33 fun t55 =>
 af .lss (aa DL 1) t55 fun t56 =>
 av t56 (
 bQ (fun J =>
 ah t33 (aa DL 1) 3 fun t61 =>
 aI t61 0 fun t62 =>
 au df t62 fun t63 =>
 ah t31 (aa xs 0) 1 fun t66 =>
 au df t66 fun t67 =>
 fF .eql t63 t67 fun t68 =>
 ae t68 true (fun k=>k t33 df none) (fun k=>k .undef df none) fun t70 fA b =>
 ae t68 true (fun nG=>nG (aa DL 1) fA none) (fun k=>k .undef fA none) fun t71 fV adz =>
 ae t68 true (fun zo=>ah t70 t71 3 fun t72 =>
 zo t72 fV none) (fun k=>k .undef fV none) fun aoC dG IW =>
 ae t68 true (fun iZ=>aI aoC 1 fun t73 =>
 iZ t73 dG none) (fun k=>k .undef dG none) fun ae4 fD IM =>
 ae t68 true (fun nE=>au fD ae4 fun t74 =>
 nE t74 fD none) (fun k=>k .undef fD none) fun afq gF EZ =>
 ae t68 true (fun kQ=>kQ t24 gF none) (fun k=>k .undef gF none) fun t75 fo yB =>
 ae t68 true (fun iE=>iE t31 fo none) (fun k=>k .undef fo none) fun t76 iR Xx =>
 ae t68 true (fun sQ=>sQ (aa xs 0) iR none) (fun k=>k .undef iR none) fun t77 CF awR =>
 ae t68 true (fun Y0=>ah t76 t77 1 fun t78 =>
 Y0 t78 CF none) (fun k=>k .undef CF none) fun amN iC aet =>
 ae t68 true (fun CE=>au iC amN fun t79 =>
 CE t79 iC none) (fun k=>k .undef iC none) fun asb iL TC =>
 ai t68 true (fun zn=>p8 [t75,asb] iL fun t80 fG =>
 zn t80 fG) (fun k=>k .undef iL) fun ao1 il =>
 Jy t68 true (fun vL=>au il ae4 fun ap0 =>
 (ap0=afq∧vL)) (fun k=>k) (ae t68 true (fun Cj=>fF .eql afq ao1 fun t81 =>
 Cj t81 il none) (fun k=>k .undef il none) fun aom ic Oy =>
 aK t68 aom (Bo false) fun t82 =>
 ae t82 true (fun yG=>yG t33 ic none) (fun k=>k .undef ic none) fun t84 l8 apd =>
 ae t82 true (fun IC=>IC (aa DL 1) l8 none) (fun k=>k .undef l8 none) fun t85 ou agJ =>
 ae t82 true (fun Ic=>ah t84 t85 3 fun t86 =>
 Ic t86 ou none) (fun k=>k .undef ou none) fun aqU pR aeH =>
 ae t82 true (fun Ck=>aI aqU 2 fun t87 =>
 Ck t87 pR none) (fun k=>k .undef pR none) fun afg jh Tv =>
 ae t82 true (fun CZ=>au jh afg fun t88 =>
 CZ t88 jh none) (fun k=>k .undef jh none) fun aeW rO ahN =>
 ae t82 true (fun O7=>O7 t24 rO none) (fun k=>k .undef rO none) fun t89 rJ arc =>
 ae t82 true (fun X0=>X0 t31 rJ none) (fun k=>k .undef rJ none) fun t90 xW ao3 =>
 ae t82 true (fun Wd=>Wd (aa xs 0) xW none) (fun k=>k .undef xW none) fun t91 Fb awO =>
 ae t82 true (fun agK=>ah t90 t91 1 fun t92 =>
 agK t92 Fb none) (fun k=>k .undef Fb none) fun apa Yb b_85 =>
 ae t82 true (fun XF=>au Yb apa fun t93 =>
 XF t93 Yb none) (fun k=>k .undef Yb none) fun amB yY b_89 =>
 ai t82 true (fun av8=>p9 [t89,amB] yY fun t94 vZ =>
 av8 t94 vZ) (fun k=>k .undef yY) fun an9 Ia =>
 Jy t82 true (fun awz=>au Ia afg fun ank =>
 (ank=aeW∧awz)) (fun k=>k) (ae t82 true (fun agw=>bu an9 fun t95 =>
 agw t95 Ia none) (fun k=>k .undef Ia none) fun arR X8 awH =>
 ae t82 true (fun adS=>af .eql aeW arR fun t96 =>
 adS t96 X8 none) (fun k=>k .undef X8 none) fun akT rU ac4 =>
 aK t82 akT (Bo false) fun t97 =>
 av t97 (
 af .add (aa DL 0) (N .i64 1) fun t99 =>
 J [t99] rU) (
 J [(aa DL 0)] rU)))) (fun apQ IB =>
 af .add (aa DL 1) (N .i64 1) fun t58 =>
 anV [(aa apQ 0),t58] IB)) (
 af .neq (aa DL 0) (N .i64 1) fun lD =>
 ae lD false (fun acZ=>acZ (aa xs 0) df none) (fun k=>k .undef df none) fun wE xu atX =>
 ae lD false (fun PH=>af .gtr wE (N .i64 0) fun vP =>
 PH vP xu none) (fun k=>k .undef xu none) fun agV Qi b_112 =>
 ae lD false (fun at6=>at6 agV Qi none) (fun k=>k .undef Qi none) fun t105 Qw b_115 =>
 ae t105 true (fun ael=>ael t33 Qw none) (fun k=>k .undef Qw none) fun Cr Py asv =>
 ae t105 true (fun aef=>aef (aa xs 0) Py none) (fun k=>k .undef Py none) fun t107 qf VE =>
 ae t105 true (fun Bl=>ah Cr t107 3 fun vV =>
 Bl vV qf none) (fun k=>k .undef qf none) fun aia mM VP =>
 ae t105 true (fun Bz=>aI aia 1 fun t109 =>
 Bz t109 mM none) (fun k=>k .undef mM none) fun ais Bj akH =>
 ae t105 true (fun Bc=>au Bj ais fun wo =>
 Bc wo Bj none) (fun k=>k .undef Bj none) fun aiX vz aeD =>
 ae t105 true (fun acr=>acr t33 vz none) (fun k=>k .undef vz none) fun tu ajD b_136 =>
 ae t105 true (fun QG=>QG (aa xs 0) ajD none) (fun k=>k .undef ajD none) fun nA vg adi =>
 ae t105 true (fun IG=>af .sub nA (N .i64 1) fun sJ =>
 IG sJ vg none) (fun k=>k .undef vg none) fun ahs QP ato =>
 ae t105 true (fun aep=>ah tu ahs 3 fun H5 =>
 aep H5 QP none) (fun k=>k .undef QP none) fun aiI ajT b_147 =>
 ae t105 true (fun acb=>aI aiI 1 fun Dn =>
 acb Dn ajT none) (fun k=>k .undef ajT none) fun ahP xI auA =>
 ae t105 true (fun auy=>au xI ahP fun t116 =>
 auy t116 xI none) (fun k=>k .undef xI none) fun ajb VJ b_155 =>
 ae t105 true (fun auH=>fF .lss aiX ajb fun t117 =>
 auH t117 VJ none) (fun k=>k .undef VJ none) fun ahT Eh ajN =>
 ae t105 true (fun Qj=>Qj ahT Eh none) (fun k=>k .undef Eh none) fun qR aky b_162 =>
 ae qR false (fun ast=>ast t33 aky none) (fun k=>k .undef aky none) fun t119 akn b_165 =>
 ae qR false (fun asW=>asW (aa xs 0) akn none) (fun k=>k .undef akn none) fun tV akL b_168 =>
 ae qR false (fun aug=>ah t119 tV 3 fun Dp =>
 aug Dp akL none) (fun k=>k .undef akL none) fun aip Ea b_172 =>
 ae qR false (fun atG=>aI aip 1 fun sG =>
 atG sG Ea none) (fun k=>k .undef Ea none) fun ajh adY b_176 =>
 ae qR false (fun auL=>au adY ajh fun CQ =>
 auL CQ adY none) (fun k=>k .undef adY none) fun aix ajF b_180 =>
 ae qR false (fun atp=>atp t33 ajF none) (fun k=>k .undef ajF none) fun t124 zN asH =>
 ae qR false (fun acu=>acu (aa xs 0) zN none) (fun k=>k .undef zN none) fun ig ajO b_186 =>
 ae qR false (fun as9=>af .sub ig (N .i64 1) fun Gu =>
 as9 Gu ajO none) (fun k=>k .undef ajO none) fun ahH Pb asO =>
 ae qR false (fun adx=>ah t124 ahH 3 fun t127 =>
 adx t127 Pb none) (fun k=>k .undef Pb none) fun ahy Le asY =>
 ae qR false (fun ado=>aI ahy 1 fun Df =>
 ado Df Le none) (fun k=>k .undef Le none) fun agL LD auO =>
 ae qR false (fun acj=>au LD agL fun tN =>
 acj tN LD none) (fun k=>k .undef LD none) fun aiB aj6 b_202 =>
 ae qR false (fun aeK=>fF .eql aix aiB fun t130 =>
 aeK t130 aj6 none) (fun k=>k .undef aj6 none) fun aho Qr asB =>
 ae qR false (fun ace=>ace aho Qr none) (fun k=>k .undef Qr none) fun t131 akA b_209 =>
 ae t131 true (fun atD=>atD t33 akA none) (fun k=>k .undef akA none) fun yN ajK b_212 =>
 ae t131 true (fun atd=>atd (aa xs 0) ajK none) (fun k=>k .undef ajK none) fun G8 ajI b_215 =>
 ae t131 true (fun aur=>ah yN G8 3 fun yx =>
 aur yx ajI none) (fun k=>k .undef ajI none) fun aiJ ajp b_219 =>
 ae t131 true (fun aut=>aI aiJ 0 fun VT =>
 aut VT ajp none) (fun k=>k .undef ajp none) fun ah9 aee b_223 =>
 ae t131 true (fun ass=>au aee ah9 fun IA =>
 ass IA aee none) (fun k=>k .undef aee none) fun agQ aki b_227 =>
 ae t131 true (fun atg=>atg t33 aki none) (fun k=>k .undef aki none) fun Hr ajn b_230 =>
 ae t131 true (fun auq=>auq (aa xs 0) ajn none) (fun k=>k .undef ajn none) fun t138 aj1 b_233 =>
 ae t131 true (fun auo=>af .sub t138 (N .i64 1) fun t139 =>
 auo t139 aj1 none) (fun k=>k .undef aj1 none) fun agU akh b_237 =>
 ae t131 true (fun aui=>ah Hr agU 3 fun Yr =>
 aui Yr akh none) (fun k=>k .undef akh none) fun ag1 akd b_241 =>
 ae t131 true (fun auC=>aI ag1 0 fun t141 =>
 auC t141 akd none) (fun k=>k .undef akd none) fun ai5 aeE b_245 =>
 ae t131 true (fun auh=>au aeE ai5 fun O0 =>
 auh O0 aeE none) (fun k=>k .undef aeE none) fun aiT ajA b_249 =>
 ae t131 true (fun atv=>fF .leq agQ aiT fun t143 =>
 atv t143 ajA none) (fun k=>k .undef ajA none) fun ahR akF b_253 =>
 ae qR false (fun as3=>aK t131 ahR (Bo false) fun Yf =>
 as3 Yf akF none) (fun k=>k .undef akF none) fun ahL akq b_257 =>
 ae t105 true (fun asA=>aK qR (Bo true) ahL fun t145 =>
 asA t145 akq none) (fun k=>k .undef akq none) fun aio ajP b_261 =>
 ae lD false (fun asG=>aK t105 aio (Bo false) fun t146 =>
 asG t146 ajP none) (fun k=>k .undef ajP none) fun ajd aj0 b_265 =>
 aK lD (Bo true) ajd fun ahZ =>
 av ahZ (
 Q (Bo false) aj0) (
 af .add (aa xs 0) (N .i64 1) fun t44 =>
 next [t44] aj0))) [(N .i64 0),(N .i64 0)] M_8)) (
 p10 [t21,t24,a1] M_7 fun J8 akl =>
 ai J8 true (fun atQ=>atQ t21 akl) (fun k=>k .undef akl) fun awN ajy =>
 ai J8 true (fun asr=>asr t24 ajy) (fun k=>k .undef ajy) fun t154 ajB =>
 ai J8 true (fun atb=>p11 [awN,t154] ajB fun aat asT =>
 atb aat asT) (fun k=>k .undef ajB) fun aiU at5 =>
 aK J8 aiU (Bo false) fun t156 =>
 Q t156 at5)) [(N .i64 0)] M_6))))
def G7 (p1 p2:ak) (a0:AV) (M0:RM) (Q:aj) : Prop :=
 p1 [] M0 fun t5 M =>
 aM (fun next xs M_0 =>
 lJ true 1 t5 (.sc (.pointer none)) fun t7 =>
 ai t7 true (fun k=>k (aa xs 0) M_0) (fun k=>k .undef M_0) fun t9 M_1 =>
 ai t7 true (fun k_2=>k_2 a0 M_1) (fun k=>k .undef M_1) fun bW M_3 =>
 ai t7 true (fun k_4=>bu bW fun bM =>
 k_4 bM M_3) (fun k=>k .undef M_3) fun aul M_6 =>
 ai t7 true (fun k_7=>af .lss t9 aul fun t12 =>
 k_7 t12 M_6) (fun k=>k .undef M_6) fun atT M_9 =>
 aK t7 atT (Bo false) fun t13 =>
 av t13 (
 ah a0 (aa xs 0) 7 fun t19 =>
 aB M_9 t19 7 fun t20 =>
 p2 [t5,t20] M_9 fun t21 dW =>
 af .add (aa xs 0) (N .i64 1) fun t15 =>
 next [t15] dW) (
 Q t5 M_9)) [(N .i64 0)] M
def II (p1:ak) (a0 a1:AV) (M0:RM) (Q:aj) : Prop :=
 p1 [a0,a1] M0 fun t9 M =>
 bu t9 fun bM =>
 af .eql bM (N .i64 0) fun t12 =>
 av t12 (
 Q (.tup [(.sc (.slice none 0 0)),(N .i64 4)]) M) (
 Q (.tup [t9,(N .i64 0)]) M)
def EK (p1:ak) (p2:Nat) (p3:ak) (p4:Nat) (p5:ak) (p6:Nat) (a0:AV) (M0:RM) (Q:aj) : Prop :=
 p1 [a0] M0 fun bW M =>
 bu bW fun bM =>
 aM (fun next xs M_0 =>
 af .lss (aa xs 1) bM fun t13 =>
 av t13 (
 ah bW (aa xs 1) 1 fun t14 =>
 au M_0 t14 fun t15 =>
 q8 [(St []),(St []),(N .i64 0)] [(0,1,t15),(1,1,t15)] fun t18 =>
 bU (.row [(St []),(St []),(N .i64 0)] false p2 0) (fun b=>.ptr b 0) M_0 fun t6 M_1 =>
 aF M_1 t6 t18 3 fun M_2 =>
 p3 [a0,t15] M_2 fun t21 M_3 =>
 bu t21 fun t22 =>
 aM (fun ZH kT M_6 =>
 af .lss (aa kT 0) t22 fun t24 =>
 av t24 (
 bQ (fun J =>
 ah t21 (aa kT 0) 3 fun t25 =>
 aB M_6 t25 3 fun t26 =>
 bU (.row [(St []),(St []),(N .i64 0)] false p4 0) (fun b=>.ptr b 0) M_6 fun t8 M_7 =>
 aF M_7 t8 t26 3 fun M_8 =>
 aI t6 2 fun t27 =>
 au M_8 t27 fun t28 =>
 af .add t28 (N .i64 1) fun t29 =>
 aI t6 2 fun t30 =>
 aF M_8 t30 t29 1 fun M_9 =>
 aI t8 0 fun t31 =>
 au M_9 t31 fun t32 =>
 fF .eql t32 (St [102,110]) fun t33 =>
 av t33 (
 aI t8 1 fun t34 =>
 au M_9 t34 fun t35 =>
 aI t6 1 fun t36 =>
 aF M_9 t36 t35 1 fun dW =>
 J [] dW) (
 J [] M_9)) (fun xs_11 fA =>
 af .add (aa kT 0) (N .i64 1) fun t37 =>
 ZH [t37] fA)) (
 aB M_6 t6 3 fun t39 =>
 eB p2 1 [(St []),(St []),(N .i64 0)] [(0,3,t39)] fun r f =>
 bU r f M_6 fun t40 ed =>
 appW p2 3 40 [(St []),(St []),(N .i64 0)] false (aa xs 0) t40 ed fun t41 fV =>
 af .add (aa xs 1) (N .i64 1) fun t42 =>
 next [t41,t42] fV)) [(N .i64 0)] M_3) (
 p5 [(aa xs 0),(.fn (.func p6) [] [])] M_0 fun t44 fZ =>
 Q (aa xs 0) fZ)) [(.sc (.slice none 0 0)),(N .i64 0)] M
def Aw (p1:Nat) (p2:ak) (a0:AV) (M0:RM) (Q:aj) : Prop :=
 bU (.row [(N .i64 0),(N .u64 0),(St []),(St []),(St [])] false p1 0) (fun b=>.ptr b 0) M0 fun t2 M =>
 bu a0 fun t8 =>
 af .eql t8 (N .i64 0) fun t9 =>
 av t9 (
 q8 [(N .i64 0),(N .u64 0),(St []),(St []),(St [])] [] fun bW =>
 aF M t2 bW 5 fun M_0 =>
 aB M_0 t2 5 fun res =>
 Q (.tup [res,(Bo false)]) M_0) (
 ah a0 (N .i64 0) 5 fun t12 =>
 aB M t12 5 fun t13 =>
 bU (.row [(N .i64 0),(N .u64 0),(St []),(St []),(St [])] false p1 0) (fun b=>.ptr b 0) M fun t4 M_1 =>
 aF M_1 t4 t13 5 fun M_2 =>
 bu a0 fun t15 =>
 aM (fun next xs M_3 =>
 af .lss (aa xs 0) t15 fun t17 =>
 av t17 (
 bQ (fun J =>
 ah a0 (aa xs 0) 5 fun t18 =>
 aB M_3 t18 5 fun t19 =>
 bU (.row [(N .i64 0),(N .u64 0),(St []),(St []),(St [])] false p1 0) (fun b=>.ptr b 0) M_3 fun t6 M_4 =>
 aF M_4 t6 t19 5 fun M_5 =>
 aI t4 0 fun t20 =>
 aB M_5 t20 2 fun t21 =>
 aI t6 0 fun t22 =>
 aB M_5 t22 2 fun t23 =>
 p2 [t21,t23] M_5 fun t24 M_6 =>
 av t24 (
 aB M_6 t6 5 fun t25 =>
 aF M_6 t4 t25 5 fun M_7 =>
 J [] M_7) (
 J [] M_6)) (fun vO M_9 =>
 af .add (aa xs 0) (N .i64 1) fun t26 =>
 next [t26] M_9)) (
 aB M_3 t4 5 fun t27 =>
 aF M_3 t2 t27 5 fun dW =>
 aB dW t2 5 fun apx =>
 Q (.tup [apx,(Bo true)]) dW)) [(N .i64 0)] M_2)
def EW (p1 p2 p3 p4:ak) (p5 p6:Nat) (a0 a1:AV) (M0:RM) (Q:aj) : Prop :=
 p1 [a1] M0 fun t12 M =>
 p2 [a0] M fun t14 M_0 =>
 bu t14 fun t15 =>
 aM (fun next xs M_1 =>
 af .lss (aa xs 1) t15 fun t17 =>
 av t17 (
 bQ (fun J =>
 ah t14 (aa xs 1) 1 fun t18 =>
 au M_1 t18 fun t19 =>
 p1 [t19] M_1 fun t21 M_2 =>
 p3 [t21,t12] M_2 fun t23 M_3 =>
 p4 [a0,t19] M_3 fun t26 M_4 =>
 bu t26 fun t27 =>
 aM (fun ant nk M_7 =>
 af .lss (aa nk 1) t27 fun t29 =>
 av t29 (
 ah t26 (aa nk 1) 3 fun t30 =>
 aB M_7 t30 3 fun t31 =>
 bU (.row [(St []),(St []),(N .i64 0)] false p5 0) (fun b=>.ptr b 0) M_7 fun bW M_8 =>
 aF M_8 bW t31 3 fun M_9 =>
 ai (aa nk 0) false (fun k=>aI bW 1 fun t34 =>
 k t34 M_9) (fun k=>k .undef M_9) fun ao4 df =>
 ai (aa nk 0) false (fun nS=>au df ao4 fun t35 =>
 nS t35 df) (fun k=>k .undef df) fun ap6 fV =>
 ai (aa nk 0) false (fun qN=>p1 [ap6] fV fun t36 cK =>
 qN t36 cK) (fun k=>k .undef fV) fun anp dG =>
 ai (aa nk 0) false (fun sI=>sI t12 dG) (fun k=>k .undef dG) fun t37 jA =>
 ai (aa nk 0) false (fun nD=>p3 [anp,t37] jA fun t38 fD =>
 nD t38 fD) (fun k=>k .undef jA) fun amO iG =>
 aK (aa nk 0) (Bo true) amO fun t39 =>
 af .add (aa nk 1) (N .i64 1) fun t40 =>
 ant [t39,t40] iG) (
 av (aa nk 0) (
 eB p6 1 [(St [])] [(0,1,t19)] fun r f =>
 bU r f M_7 fun t44 fe =>
 appW p6 1 16 [(St [])] false (aa xs 0) t44 fe fun t45 gF =>
 J [t45] gF) (
 J [(aa xs 0)] M_7))) [t23,(N .i64 0)] M_4) (fun aua kw =>
 af .add (aa xs 1) (N .i64 1) fun t46 =>
 next [(aa aua 0),t46] kw)) (
 Q (aa xs 0) M_1)) [(.sc (.slice none 0 0)),(N .i64 0)] M_0
def vX (p1 p2:ak) (p3:Nat) (a0:AV) (M0:RM) (Q:aj) : Prop :=
 p1 [a0] M0 fun t7 M =>
 p2 [t7] M fun t8 M_0 =>
 bu t8 fun t9 =>
 aM (fun next xs M_1 =>
 af .lss (aa xs 1) t9 fun bM =>
 av bM (
 bQ (fun J =>
 ah t8 (aa xs 1) 1 fun t12 =>
 au M_1 t12 fun t13 =>
 bu t13 fun t15 =>
 af .gtr t15 (N .i64 1) fun t16 =>
 av t16 (
 appW p3 5 64 [(N .i64 0),(N .u64 0),(St []),(St []),(St [])] false (aa xs 0) t13 M_1 fun t19 M_2 =>
 J [t19] M_2) (
 J [(aa xs 0)] M_1)) (fun bG M_4 =>
 af .add (aa xs 1) (N .i64 1) fun t20 =>
 next [(aa bG 0),t20] M_4)) (
 Q (aa xs 0) M_1)) [(.sc (.slice none 0 0)),(N .i64 0)] M_0
def aaB (p1:Nat) (p2:ak) (a0:AV) (M0:RM) (Q:aj) : Prop :=
 Ho p1 96 [(N .i64 0),(N .u64 0),(N .i64 0),(St []),(St []),(St []),(.sc (.slice none 0 0))] (N .i64 0) (N .i64 0) fun r f =>
 bU r f M0 fun t7 M =>
 aM (fun next xs M_0 =>
 bu a0 fun bW =>
 af .lss (aa xs 1) bW fun bM =>
 av bM (
 bQ (fun J =>
 ah a0 (aa xs 1) 7 fun t16 =>
 aB M_0 t16 7 fun t17 =>
 p2 [t17] M_0 fun t18 M_1 =>
 dM t18 fun t19 =>
 aM (fun tJ bG M_4 =>
 bu (aa xs 0) fun t22 =>
 af .lss (aa bG 1) t22 fun t23 =>
 av t23 (
 ae (aa bG 0) false (fun k=>k (aa xs 0) M_4 none) (fun k=>k .undef M_4 none) fun t28 M_5 b =>
 ae (aa bG 0) false (fun k_6=>k_6 (aa bG 1) M_5 none) (fun k=>k .undef M_5 none) fun t29 M_7 b_8 =>
 ae (aa bG 0) false (fun k_9=>ah t28 t29 7 fun t30 =>
 k_9 t30 M_7 none) (fun k=>k .undef M_7 none) fun Yq df Kg =>
 ae (aa bG 0) false (fun nG=>aI Yq 0 fun t31 =>
 nG t31 df none) (fun k=>k .undef df none) fun YC fZ KP =>
 ae (aa bG 0) false (fun jG=>aB fZ YC 2 fun t32 =>
 jG t32 fZ none) (fun k=>k .undef fZ none) fun Ze dU Kh =>
 ae (aa bG 0) false (fun nD=>nD a0 dU none) (fun k=>k .undef dU none) fun t33 fD IM =>
 ae (aa bG 0) false (fun nE=>nE (aa xs 1) fD none) (fun k=>k .undef fD none) fun t34 fe Et =>
 ae (aa bG 0) false (fun l6=>ah t33 t34 7 fun t35 =>
 l6 t35 fe none) (fun k=>k .undef fe none) fun We fo yB =>
 ae (aa bG 0) false (fun iE=>aI We 0 fun t36 =>
 iE t36 fo none) (fun k=>k .undef fo none) fun X4 eY Kb =>
 ae (aa bG 0) false (fun jr=>aB eY X4 2 fun t37 =>
 jr t37 eY none) (fun k=>k .undef eY none) fun Xi dh CJ =>
 ae (aa bG 0) false (fun su=>mD false [1,1] Ze Xi fun t38 =>
 su t38 dh none) (fun k=>k .undef dh none) fun KO eT Cg =>
 aK (aa bG 0) (Bo true) KO fun t39 =>
 af .add (aa bG 1) (N .i64 1) fun t25 =>
 tJ [t39,t25] eT) (
 dM (aa bG 0) fun t41 =>
 av t41 (
 ah a0 (aa xs 1) 7 fun t45 =>
 aB M_4 t45 7 fun t46 =>
 eB p1 1 [(N .i64 0),(N .u64 0),(N .i64 0),(St []),(St []),(St []),(.sc (.slice none 0 0))] [(0,7,t46)] fun YP W9 =>
 bU YP W9 M_4 fun t47 jS =>
 appW p1 7 96 [(N .i64 0),(N .u64 0),(N .i64 0),(St []),(St []),(St []),(.sc (.slice none 0 0))] false (aa xs 0) t47 jS fun t48 fG =>
 J [t48] fG) (
 J [(aa xs 0)] M_4))) [t19,(N .i64 0)] M_1) (fun ll il =>
 af .add (aa xs 1) (N .i64 1) fun t13 =>
 next [(aa ll 0),t13] il)) (
 Q (aa xs 0) M_0)) [t7,(N .i64 0)] M
def Fe (p1 p2:ak) (a0 a1 a2:AV) (M0:RM) (Q:aj) : Prop :=
 p1 [a0,a2] M0 fun t14 M =>
 fI t14 0 fun t15 =>
 fI t14 1 fun t16 =>
 p2 [a1,a2] M fun t19 M_0 =>
 bu t19 fun t21 =>
 af .eql t21 (N .i64 0) fun t22 =>
 av t22 (
 af .eql t16 (N .i64 4) fun t24 =>
 ai t24 true (fun k=>k t15 M_0) (fun k=>k .undef M_0) fun t26 M_1 =>
 ai t24 true (fun k_2=>bu t26 fun t27 =>
 k_2 t27 M_1) (fun k=>k .undef M_1) fun asE M_4 =>
 ai t24 true (fun k_5=>af .eql asE (N .i64 0) fun t28 =>
 k_5 t28 M_4) (fun k=>k .undef M_4) fun auB M_7 =>
 aK t24 auB (Bo false) fun t29 =>
 Q t29 M_7) (
 af .neq t16 (N .i64 0) fun t31 =>
 ai t31 false (fun k_8=>k_8 t15 M_0) (fun k=>k .undef M_0) fun t33 M_9 =>
 ai t31 false (fun kN=>bu t33 fun t34 =>
 kN t34 M_9) (fun k=>k .undef M_9) fun apl fA =>
 ai t31 false (fun nG=>nG t19 fA) (fun k=>k .undef fA) fun t35 fV =>
 ai t31 false (fun qN=>bu t35 fun t36 =>
 qN t36 fV) (fun k=>k .undef fV) fun arz mq =>
 ai t31 false (fun nQ=>af .neq apl arz fun t37 =>
 nQ t37 mq) (fun k=>k .undef mq) fun amu jA =>
 aK t31 (Bo true) amu fun t38 =>
 av t38 (
 Q (Bo false) jA) (
 aM (fun next xs dz =>
 bu t15 fun t41 =>
 af .lss (aa xs 0) t41 fun t42 =>
 av t42 (
 ah t15 (aa xs 0) 3 fun t47 =>
 aI t47 0 fun t48 =>
 au dz t48 fun t49 =>
 ah t19 (aa xs 0) 3 fun t52 =>
 aI t52 0 fun t53 =>
 au dz t53 fun t54 =>
 fF .neq t49 t54 fun t55 =>
 ae t55 false (fun l9=>l9 t15 dz none) (fun k=>k .undef dz none) fun t57 iQ b =>
 ae t55 false (fun nE=>nE (aa xs 0) iQ none) (fun k=>k .undef iQ none) fun t58 fe Et =>
 ae t55 false (fun l6=>ah t57 t58 3 fun t59 =>
 l6 t59 fe none) (fun k=>k .undef fe none) fun ark fo yB =>
 ae t55 false (fun iE=>aI ark 1 fun t60 =>
 iE t60 fo none) (fun k=>k .undef fo none) fun aqr eY Kb =>
 ae t55 false (fun jr=>au eY aqr fun t61 =>
 jr t61 eY none) (fun k=>k .undef eY none) fun aqS dh CJ =>
 ae t55 false (fun su=>su t19 dh none) (fun k=>k .undef dh none) fun t62 vQ apX =>
 ae t55 false (fun wh=>wh (aa xs 0) vQ none) (fun k=>k .undef vQ none) fun t63 iL TC =>
 ae t55 false (fun zn=>ah t62 t63 3 fun t64 =>
 zn t64 iL none) (fun k=>k .undef iL none) fun ar8 mR ad8 =>
 ae t55 false (fun vL=>aI ar8 1 fun t65 =>
 vL t65 mR none) (fun k=>k .undef mR none) fun amD wz aow =>
 ae t55 false (fun N8=>au wz amD fun t66 =>
 N8 t66 wz none) (fun k=>k .undef wz none) fun ann ku aqW =>
 ae t55 false (fun ND=>fF .neq aqS ann fun t67 =>
 ND t67 ku none) (fun k=>k .undef ku none) fun aqm ou agJ =>
 aK t55 (Bo true) aqm fun t68 =>
 ae t68 false (fun Ic=>Ic t15 ou none) (fun k=>k .undef ou none) fun t70 qY aw7 =>
 ae t68 false (fun YH=>YH (aa xs 0) qY none) (fun k=>k .undef qY none) fun t71 WY avs =>
 ae t68 false (fun Oz=>ah t70 t71 3 fun t72 =>
 Oz t72 WY none) (fun k=>k .undef WY none) fun an5 om asa =>
 ae t68 false (fun Zz=>aI an5 2 fun t73 =>
 Zz t73 om none) (fun k=>k .undef om none) fun apE og axj =>
 ae t68 false (fun aiE=>au og apE fun t74 =>
 aiE t74 og none) (fun k=>k .undef og none) fun apc xW ao3 =>
 ae t68 false (fun Wd=>Wd t19 xW none) (fun k=>k .undef xW none) fun t75 Fb awO =>
 ae t68 false (fun agK=>agK (aa xs 0) Fb none) (fun k=>k .undef Fb none) fun t76 j6 ai9 =>
 ae t68 false (fun aie=>ah t75 t76 3 fun t77 =>
 aie t77 j6 none) (fun k=>k .undef j6 none) fun aql y5 aqV =>
 ae t68 false (fun NM=>aI aql 2 fun t78 =>
 NM t78 y5 none) (fun k=>k .undef y5 none) fun apJ vZ axf =>
 ae t68 false (fun aiG=>au vZ apJ fun t79 =>
 aiG t79 vZ none) (fun k=>k .undef vZ none) fun arp aqY b_96 =>
 ae t68 false (fun ahx=>af .neq apc arp fun t80 =>
 ahx t80 aqY none) (fun k=>k .undef aqY none) fun apr xD Vx =>
 aK t68 (Bo true) apr fun t81 =>
 av t81 (
 Q (Bo false) xD) (
 ah t15 (aa xs 0) 3 fun t84 =>
 aI t84 1 fun t85 =>
 aF xD t85 (St [115,112,111,105,108,116]) 1 fun VC =>
 af .add (aa xs 0) (N .i64 1) fun t44 =>
 next [t44] VC)) (
 Q (Bo true) dz)) [(N .i64 0)] jA))
def Rm (p1:ak) (a0 a1:AV) (M0:RM) (Q:aj) : Prop :=
 p1 [a0,a1] M0 fun t9 M =>
 aM (fun next xs M_0 =>
 bu t9 fun t12 =>
 af .lss (aa xs 0) t12 fun t13 =>
 av t13 (
 ah t9 (aa xs 0) 3 fun t18 =>
 aI t18 0 fun t19 =>
 au M_0 t19 fun t20 =>
 fF .eql t20 (St [102,110]) fun t21 =>
 av t21 (
 ah t9 (aa xs 0) 3 fun t24 =>
 aI t24 1 fun t25 =>
 au M_0 t25 fun t26 =>
 Q t26 M_0) (
 af .add (aa xs 0) (N .i64 1) fun t15 =>
 next [t15] M_0)) (
 Q a1 M_0)) [(N .i64 0)] M
def MV (p1:Nat) (a0 a1:AV) (M0:RM) (Q:aj) : Prop :=
 Ho p1 40 [(St []),(St []),(N .i64 0)] (N .i64 0) (N .i64 0) fun r f =>
 bU r f M0 fun bW M =>
 aM (fun next xs M_0 =>
 bu a0 fun t13 =>
 af .lss (aa xs 1) t13 fun t14 =>
 av t14 (
 bQ (fun J =>
 ah a0 (aa xs 1) 5 fun t19 =>
 aI t19 2 fun t20 =>
 au M_0 t20 fun t21 =>
 fF .neq t21 a1 fun t23 =>
 av t23 (
 J [(aa xs 0)] M_0) (
 aM (fun x9 fw M_3 =>
 af .lss (aa fw 1) (aa xs 1) fun t26 =>
 av t26 (
 bQ (fun J_4 =>
 ah a0 (aa fw 1) 5 fun t31 =>
 aI t31 2 fun t32 =>
 au M_3 t32 fun t33 =>
 fF .eql t33 a1 fun t35 =>
 ae t35 true (fun k=>k a0 M_3 none) (fun k=>k .undef M_3 none) fun t37 M_5 b =>
 ae t35 true (fun k_6=>k_6 (aa fw 1) M_5 none) (fun k=>k .undef M_5 none) fun t38 M_7 b_8 =>
 ae t35 true (fun k_9=>ah t37 t38 5 fun t39 =>
 k_9 t39 M_7 none) (fun k=>k .undef M_7 none) fun K7 df Kg =>
 ae t35 true (fun nG=>aI K7 3 fun t40 =>
 nG t40 df none) (fun k=>k .undef df none) fun KN fZ KP =>
 ae t35 true (fun jG=>au fZ KN fun t41 =>
 jG t41 fZ none) (fun k=>k .undef fZ none) fun ane dU Kh =>
 ae t35 true (fun nD=>nD a0 dU none) (fun k=>k .undef dU none) fun t42 fD IM =>
 ae t35 true (fun nE=>nE (aa xs 1) fD none) (fun k=>k .undef fD none) fun t43 fe Et =>
 ae t35 true (fun l6=>ah t42 t43 5 fun t44 =>
 l6 t44 fe none) (fun k=>k .undef fe none) fun Ka fo yB =>
 ae t35 true (fun iE=>aI Ka 3 fun t45 =>
 iE t45 fo none) (fun k=>k .undef fo none) fun an6 eY Kb =>
 ae t35 true (fun jr=>au eY an6 fun t46 =>
 jr t46 eY none) (fun k=>k .undef eY none) fun Ke dh CJ =>
 ae t35 true (fun su=>fF .eql ane Ke fun t47 =>
 su t47 dh none) (fun k=>k .undef dh none) fun am1 eT Cg =>
 aK t35 am1 (Bo false) fun t48 =>
 ae t48 true (fun zk=>zk a0 eT none) (fun k=>k .undef eT none) fun t50 l7 YB =>
 ae t48 true (fun Oj=>Oj (aa fw 1) l7 none) (fun k=>k .undef l7 none) fun t51 mR ad8 =>
 ae t48 true (fun vL=>ah t50 t51 5 fun t52 =>
 vL t52 mR none) (fun k=>k .undef mR none) fun anC wz aow =>
 ae t48 true (fun N8=>aI anC 4 fun t53 =>
 N8 t53 wz none) (fun k=>k .undef wz none) fun aoW ku aqW =>
 ae t48 true (fun ND=>au ku aoW fun t54 =>
 ND t54 ku none) (fun k=>k .undef ku none) fun aqd ou agJ =>
 ae t48 true (fun Ic=>Ic a0 ou none) (fun k=>k .undef ou none) fun t55 qY aw7 =>
 ae t48 true (fun YH=>YH (aa xs 1) qY none) (fun k=>k .undef qY none) fun t56 WY avs =>
 ae t48 true (fun Oz=>ah t55 t56 5 fun t57 =>
 Oz t57 WY none) (fun k=>k .undef WY none) fun ap8 om asa =>
 ae t48 true (fun Zz=>aI ap8 4 fun t58 =>
 Zz t58 om none) (fun k=>k .undef om none) fun Wm og axj =>
 ae t48 true (fun aiE=>au og Wm fun t59 =>
 aiE t59 og none) (fun k=>k .undef og none) fun arO xW ao3 =>
 ae t48 true (fun Wd=>fF .eql aqd arO fun t60 =>
 Wd t60 xW none) (fun k=>k .undef xW none) fun aqg GU avm =>
 aK t48 aqg (Bo false) fun t61 =>
 av t61 (
 J_4 [(N .i64 0)] GU) (
 J_4 [(aa fw 0)] GU)) (fun atH Yb =>
 af .add (aa fw 1) (N .i64 1) fun t28 =>
 x9 [(aa atH 0),t28] Yb)) (
 bQ (fun ar0 =>
 bu (aa xs 0) fun t63 =>
 af .eql t63 (N .i64 0) fun t64 =>
 ae t64 false (fun XF=>XF (aa xs 0) M_3 none) (fun k=>k .undef M_3 none) fun t66 y5 aqV =>
 ae t64 false (fun NM=>NM (aa xs 0) y5 none) (fun k=>k .undef y5 none) fun t67 aqv b_91 =>
 ae t64 false (fun ags=>bu t67 fun t68 =>
 ags t68 aqv none) (fun k=>k .undef aqv none) fun amt xY b_95 =>
 ae t64 false (fun agw=>af .sub amt (N .i64 1) fun t69 =>
 agw t69 xY none) (fun k=>k .undef xY none) fun aoF X8 awH =>
 ae t64 false (fun adS=>ah t66 aoF 3 fun t70 =>
 adS t70 X8 none) (fun k=>k .undef X8 none) fun akS rU ac4 =>
 ae t64 false (fun P5=>aI akS 0 fun t71 =>
 P5 t71 rU none) (fun k=>k .undef rU none) fun alm xk akb =>
 ae t64 false (fun IL=>au xk alm fun t72 =>
 IL t72 xk none) (fun k=>k .undef xk none) fun alQ uz aj3 =>
 ae t64 false (fun Gd=>Gd a0 uz none) (fun k=>k .undef uz none) fun t73 xJ ajJ =>
 ae t64 false (fun QI=>QI (aa xs 1) xJ none) (fun k=>k .undef xJ none) fun t74 qQ ajM =>
 ae t64 false (fun PQ=>ah t73 t74 5 fun t75 =>
 PQ t75 qQ none) (fun k=>k .undef qQ none) fun alW qf VE =>
 ae t64 false (fun Bl=>aI alW 3 fun t76 =>
 Bl t76 qf none) (fun k=>k .undef qf none) fun als mM VP =>
 ae t64 false (fun Bz=>au mM als fun t77 =>
 Bz t77 mM none) (fun k=>k .undef mM none) fun alT Bj akH =>
 ae t64 false (fun Bc=>fF .neq alQ alT fun t78 =>
 Bc t78 Bj none) (fun k=>k .undef Bj none) fun alI vz aeD =>
 aK t64 (Bo true) alI fun t79 =>
 av t79 (
 ah a0 (aa xs 1) 5 fun t83 =>
 aI t83 3 fun t84 =>
 au vz t84 fun t85 =>
 q8 [(St []),(St []),(N .i64 0)] [(0,1,t85)] fun t86 =>
 eB p1 1 [(St []),(St []),(N .i64 0)] [(0,3,t86)] fun asI auw =>
 bU asI auw vz fun t87 Be =>
 appW p1 3 40 [(St []),(St []),(N .i64 0)] false (aa xs 0) t87 Be fun t88 Re =>
 ar0 [t88] Re) (
 ar0 [(aa xs 0)] vz)) (fun XI akD =>
 bu (aa XI 0) fun t91 =>
 af .sub t91 (N .i64 1) fun t92 =>
 ah (aa XI 0) t92 3 fun t93 =>
 ah a0 (aa xs 1) 5 fun t97 =>
 aI t97 4 fun t98 =>
 au akD t98 fun t99 =>
 dx t93 fun kP =>
 aI kP 1 fun lD =>
 aF akD lD t99 1 fun akJ =>
 dx t93 fun vP =>
 aI vP 2 fun t105 =>
 au akJ t105 fun Cr =>
 af .add Cr (aa fw 0) fun vV =>
 dx t93 fun t109 =>
 aI t109 2 fun wo =>
 aF akJ wo vV 1 fun zx =>
 J [(aa XI 0)] zx))) [(N .i64 1),(N .i64 0)] M_0)) (fun anD atK =>
 af .add (aa xs 1) (N .i64 1) fun t16 =>
 next [(aa anD 0),t16] atK)) (
 Q (aa xs 0) M_0)) [bW,(N .i64 0)] M
def Am (p1 p2 p3 p4:ak) (a0 a1 a2:AV) (M0:RM) (Q:aj) : Prop :=
 p1 [a0,a2] M0 fun t16 M =>
 p2 [a1] M fun t18 M_0 =>
 aM (fun next xs M_1 =>
 bu t18 fun t21 =>
 af .lss (aa xs 1) t21 fun t22 =>
 av t22 (
 bQ (fun J =>
 ah t18 (aa xs 1) 1 fun t27 =>
 au M_1 t27 fun t28 =>
 p3 [t28,a2] M_1 fun t30 M_2 =>
 ah t18 (aa xs 1) 1 fun t34 =>
 au M_2 t34 fun t35 =>
 p4 [a1,t35] M_2 fun t36 M_3 =>
 aM (fun ZH kT M_6 =>
 bu t36 fun t39 =>
 af .lss (aa kT 1) t39 fun t40 =>
 av t40 (
 ai (aa kT 0) false (fun k=>k t36 M_6) (fun k=>k .undef M_6) fun t45 M_7 =>
 ai (aa kT 0) false (fun k_8=>k_8 (aa kT 1) M_7) (fun k=>k .undef M_7) fun t46 M_9 =>
 ai (aa kT 0) false (fun kN=>ah t45 t46 3 fun t47 =>
 kN t47 M_9) (fun k=>k .undef M_9) fun api fA =>
 ai (aa kT 0) false (fun nG=>aI api 1 fun t48 =>
 nG t48 fA) (fun k=>k .undef fA) fun anB fZ =>
 ai (aa kT 0) false (fun zo=>au fZ anB fun t49 =>
 zo t49 fZ) (fun k=>k .undef fZ) fun ap9 dG =>
 ai (aa kT 0) false (fun sI=>sI a2 dG) (fun k=>k .undef dG) fun t50 jA =>
 ai (aa kT 0) false (fun nD=>p3 [ap9,t50] jA fun t51 fD =>
 nD t51 fD) (fun k=>k .undef jA) fun apH iG =>
 aK (aa kT 0) (Bo true) apH fun t52 =>
 af .add (aa kT 1) (N .i64 1) fun t42 =>
 ZH [t52,t42] iG) (
 dM (aa kT 0) fun t54 =>
 av t54 (
 J [(aa xs 0)] M_6) (
 bu t16 fun t57 =>
 af .geq (aa xs 0) t57 fun t58 =>
 ae t58 false (fun mi=>mi t16 M_6 none) (fun k=>k .undef M_6 none) fun t60 gF b =>
 ae t58 false (fun l6=>l6 (aa xs 0) gF none) (fun k=>k .undef gF none) fun t61 kw Ot =>
 ae t58 false (fun CV=>ah t60 t61 1 fun t62 =>
 CV t62 kw none) (fun k=>k .undef kw none) fun arU iR Xx =>
 ae t58 false (fun sQ=>au iR arU fun t63 =>
 sQ t63 iR none) (fun k=>k .undef iR none) fun am8 jF ajm =>
 ae t58 false (fun yR=>yR t18 jF none) (fun k=>k .undef jF none) fun t64 iC aet =>
 ae t58 false (fun CE=>CE (aa xs 1) iC none) (fun k=>k .undef iC none) fun t65 mJ X7 =>
 ae t58 false (fun Cn=>ah t64 t65 1 fun t66 =>
 Cn t66 mJ none) (fun k=>k .undef mJ none) fun anT fG SY =>
 ae t58 false (fun Hw=>au fG anT fun t67 =>
 Hw t67 fG none) (fun k=>k .undef fG none) fun arV je SL =>
 ae t58 false (fun yJ=>fF .neq am8 arV fun t68 =>
 yJ t68 je none) (fun k=>k .undef je none) fun amP jE ah6 =>
 aK t58 (Bo true) amP fun t69 =>
 av t69 (
 Q (Bo false) jE) (
 af .add (aa xs 0) (N .i64 1) fun t71 =>
 J [t71] jE)))) [t30,(N .i64 0)] M_3) (fun aso fM =>
 af .add (aa xs 1) (N .i64 1) fun t24 =>
 next [(aa aso 0),t24] fM)) (
 bu t16 fun t74 =>
 af .eql (aa xs 0) t74 fun t75 =>
 Q t75 M_1)) [(N .i64 0),(N .i64 0)] M_0
def zl (p1 p2:ak) (p3:Nat) (p4:ak) (a0 a1:AV) (M0:RM) (Q:aj) : Prop :=
 p1 [a0] M0 fun t9 M =>
 aM (fun next xs M_0 =>
 bu a1 fun t12 =>
 af .lss (aa xs 1) t12 fun t13 =>
 av t13 (
 bQ (fun J =>
 ah a1 (aa xs 1) 5 fun t19 =>
 aI t19 2 fun t20 =>
 au M_0 t20 fun t21 =>
 ah a1 (aa xs 1) 5 fun t24 =>
 aI t24 3 fun t25 =>
 au M_0 t25 fun t26 =>
 p2 [a1,t21,t26] M_0 fun t27 M_1 =>
 bu t27 fun t28 =>
 af .gtr t28 (N .i64 1) fun t29 =>
 av t29 (
 ah a1 (aa xs 1) 5 fun t33 =>
 aB M_1 t33 5 fun t34 =>
 eB p3 1 [(N .i64 0),(N .u64 0),(St []),(St []),(St [])] [(0,5,t34)] fun r f =>
 bU r f M_1 fun t35 M_2 =>
 appW p3 5 64 [(N .i64 0),(N .u64 0),(St []),(St []),(St [])] false (aa xs 0) t35 M_2 fun t36 M_3 =>
 J [t36] M_3) (
 J [(aa xs 0)] M_1)) (fun xR M_5 =>
 af .add (aa xs 1) (N .i64 1) fun t15 =>
 next [(aa xR 0),t15] M_5)) (
 p4 [t9,(aa xs 0)] M_0 fun t39 M_6 =>
 Q t39 M_6)) [(.sc (.slice none 0 0)),(N .i64 0)] M
def Ay (p1 p2 p3:ak) (p4 p5:Nat) (a0 a1:AV) (M0:RM) (Q:aj) : Prop :=
 p1 [a0,a1] M0 fun t15 M =>
 p2 [t15] M fun t16 M_0 =>
 bu t16 fun t17 =>
 aM (fun next xs M_1 =>
 af .lss (aa xs 1) t17 fun t19 =>
 av t19 (
 ah t16 (aa xs 1) 1 fun t20 =>
 au M_1 t20 fun t21 =>
 p3 [t21] M_1 fun t24 M_2 =>
 fI t24 0 fun t25 =>
 fI t24 1 fun t26 =>
 bU (.row [(N .i64 0),(N .u64 0),(St []),(St []),(St [])] false p4 0) (fun b=>.ptr b 0) M_2 fun t8 M_3 =>
 aF M_3 t8 t25 5 fun M_4 =>
 bU (.map [] 0) (fun b=>.map b) M_4 fun t27 M_5 =>
 bu t21 fun t29 =>
 aM (fun aoq aiw M_8 =>
 af .lss (aa aiw 0) t29 fun t31 =>
 av t31 (
 ah t21 (aa aiw 0) 5 fun t32 =>
 aB M_8 t32 5 fun t33 =>
 bU (.row [(N .i64 0),(N .u64 0),(St []),(St []),(St [])] false p4 0) (fun b=>.ptr b 0) M_8 fun t12 M_9 =>
 aF M_9 t12 t33 5 fun dW =>
 aI t12 4 fun t35 =>
 au dW t35 fun t36 =>
 Lg false [2] dW t27 t36 (Bo true) fun df =>
 af .add (aa aiw 0) (N .i64 1) fun t37 =>
 aoq [t37] df) (
 aI t8 3 fun t39 =>
 au M_8 t39 fun t40 =>
 aI t8 4 fun t41 =>
 au M_8 t41 fun t42 =>
 abP M_8 t27 fun t44 =>
 q8 [(St []),(St []),(N .i64 0)] [(0,1,t40),(1,1,t42),(2,1,t44)] fun t45 =>
 eB p5 1 [(St []),(St []),(N .i64 0)] [(0,3,t45)] fun r f =>
 bU r f M_8 fun t46 fA =>
 appW p5 3 40 [(St []),(St []),(N .i64 0)] false (aa xs 0) t46 fA fun t47 ed =>
 af .add (aa xs 1) (N .i64 1) fun t48 =>
 next [t47,t48] ed)) [(N .i64 0)] M_5) (
 Q (aa xs 0) M_1)) [(.sc (.slice none 0 0)),(N .i64 0)] M_0
def jX (p1 p2:ak) (a0 a1:AV) (M0:RM) (Q:aj) : Prop :=
 bu a0 fun t6 =>
 qA .u64 t6 fun bW =>
 p1 [bW] M0 fun bM M =>
 p2 [a0,(N .i64 0),t6,bM,a1] M fun t13 M_0 =>
 Q (.tup []) M_0
def Az (p1:Nat) (p2:ak) (p3:Nat) (p4:ak) (a0 a1:AV) (M0:RM) (Q:aj) : Prop :=
 jR p1 a0 fun r f =>
 bU r f M0 fun t2 M =>
 jR p1 a1 fun r_0 f_1 =>
 bU r_0 f_1 M fun t3 M_2 =>
 aI t2 1 fun t5 =>
 au M_2 t5 fun t6 =>
 aI t3 1 fun t7 =>
 au M_2 t7 fun t8 =>
 aI t2 0 fun bW =>
 au M_2 bW fun bM =>
 aI t3 0 fun t12 =>
 au M_2 t12 fun t13 =>
 p2 [t6,t8] M_2 fun t9 M_3 =>
 au M_3 bW fun X3 =>
 (X3=bM∧au M_3 t12 fun Gg =>
 (Gg=t13∧p2 [bM,t13] M_3 fun t14 M_4 =>
 eB p3 2 [(N .i64 0)] [(0,1,t9),(1,1,t14)] fun r_5 f_6 =>
 vF r_5 f_6 M_4 fun t15 M_7 b =>
 p4 [t15] M_7 fun t16 M_8 =>
 Q t16 M_8))
def Cw (p1:Nat) (a0:AV) (M0:RM) (Q:aj) : Prop :=
 JV p1 a0 fun r f =>
 bU r f M0 fun t7 M =>
 bu t7 fun t9 =>
 aM (fun next xs M_0 =>
 af .lss (aa xs 0) t9 fun bM =>
 av bM (
 bQ (fun J =>
 ah t7 (aa xs 0) 1 fun t13 =>
 au M_0 t13 fun t14 =>
 af .geq t14 (N .u8 65) fun t16 =>
 ai t16 true (fun k=>k t14 M_0) (fun k=>k .undef M_0) fun t18 M_1 =>
 ai t16 true (fun k_2=>af .leq t18 (N .u8 90) fun t19 =>
 k_2 t19 M_1) (fun k=>k .undef M_1) fun ath M_4 =>
 aK t16 ath (Bo false) fun t20 =>
 av t20 (
 af .add t14 (N .u8 97) fun t24 =>
 af .sub t24 (N .u8 65) fun t25 =>
 ah t7 (aa xs 0) 1 fun t26 =>
 aF M_4 t26 t25 1 fun M_5 =>
 J [] M_5) (
 J [] M_4)) (fun nk M_7 =>
 af .add (aa xs 0) (N .i64 1) fun t27 =>
 next [t27] M_7)) (
 FE M_0 t7 fun t29 =>
 Q t29 M_0)) [(N .i64 0)] M
def sM (p1:ak) (a0 a1:AV) (M0:RM) (Q:aj) : Prop :=
 p1 [a0,a1] M0 fun t7 M =>
 af .geq t7 (N .i64 0) fun t8 =>
 Q t8 M
def Aj (p1 p2:Nat) (a0:AV) (M0:RM) (Q:aj) : Prop :=
 bu a0 fun t7 =>
 aM (fun next xs M =>
 af .lss (aa xs 1) t7 fun t9 =>
 av t9 (
 bQ (fun J =>
 ah a0 (aa xs 1) 5 fun bM =>
 aB M bM 5 fun t12 =>
 bU (.row [(N .i64 0),(N .u64 0),(St []),(St []),(St [])] false p1 0) (fun b=>.ptr b 0) M fun t5 M_0 =>
 aF M_0 t5 t12 5 fun M_1 =>
 bQ (fun J_2 =>
 af .eql (aa xs 1) (N .i64 0) fun t14 =>
 ae t14 false (fun k=>k a0 M_1 none) (fun k=>k .undef M_1 none) fun t16 M_3 b =>
 ae t14 false (fun k_4=>k_4 (aa xs 1) M_3 none) (fun k=>k .undef M_3 none) fun t17 M_5 b_6 =>
 ae t14 false (fun k_7=>af .sub t17 (N .i64 1) fun t18 =>
 k_7 t18 M_5 none) (fun k=>k .undef M_5 none) fun atq M_9 aim =>
 ae t14 false (fun nu=>ah t16 atq 5 fun t19 =>
 nu t19 M_9 none) (fun k=>k .undef M_9 none) fun apS ed adC =>
 ae t14 false (fun qN=>aI apS 2 fun t20 =>
 qN t20 ed none) (fun k=>k .undef ed none) fun aoN mq ana =>
 ae t14 false (fun sI=>au mq aoN fun t21 =>
 sI t21 mq none) (fun k=>k .undef mq none) fun arT dz KJ =>
 ae t14 false (fun nR=>aI t5 2 fun t22 =>
 nR t22 dz none) (fun k=>k .undef dz none) fun Yi fe Et =>
 ae t14 false (fun l6=>au fe Yi fun t23 =>
 l6 t23 fe none) (fun k=>k .undef fe none) fun ZN fo yB =>
 ae t14 false (fun iE=>fF .neq arT ZN fun t24 =>
 iE t24 fo none) (fun k=>k .undef fo none) fun YG eY Kb =>
 aK t14 (Bo true) YG fun t25 =>
 ae t25 false (fun jr=>jr a0 eY none) (fun k=>k .undef eY none) fun t27 jF ajm =>
 ae t25 false (fun yR=>yR (aa xs 1) jF none) (fun k=>k .undef jF none) fun t28 iC aet =>
 ae t25 false (fun CE=>af .sub t28 (N .i64 1) fun t29 =>
 CE t29 iC none) (fun k=>k .undef iC none) fun anL iL TC =>
 ae t25 false (fun zn=>ah t27 anL 5 fun t30 =>
 zn t30 iL none) (fun k=>k .undef iL none) fun amq mR ad8 =>
 ae t25 false (fun vL=>aI amq 3 fun t31 =>
 vL t31 mR none) (fun k=>k .undef mR none) fun ao8 wz aow =>
 ae t25 false (fun N8=>au wz ao8 fun t32 =>
 N8 t32 wz none) (fun k=>k .undef wz none) fun amA ku aqW =>
 ae t25 false (fun ND=>aI t5 3 fun t33 =>
 ND t33 ku none) (fun k=>k .undef ku none) fun aoO ou agJ =>
 ae t25 false (fun Ic=>au ou aoO fun t34 =>
 Ic t34 ou none) (fun k=>k .undef ou none) fun aqT pR aeH =>
 ae t25 false (fun Ck=>fF .neq amA aqT fun t35 =>
 Ck t35 pR none) (fun k=>k .undef pR none) fun aqk jh Tv =>
 aK t25 (Bo true) aqk fun t36 =>
 av t36 (
 eB p2 1 [(.sc (.slice none 0 0))] [(0,1,(.sc (.slice none 0 0)))] fun r f =>
 bU r f jh fun t38 om =>
 appW p2 1 24 [(.sc (.slice none 0 0))] false (aa xs 0) t38 om fun t39 EJ =>
 J_2 [t39] EJ) (
 J_2 [(aa xs 0)] jh)) (fun PW JD =>
 bu (aa PW 0) fun t42 =>
 af .sub t42 (N .i64 1) fun t43 =>
 bu (aa PW 0) fun t46 =>
 af .sub t46 (N .i64 1) fun t47 =>
 ah (aa PW 0) t47 1 fun t48 =>
 au JD t48 fun t49 =>
 aB JD t5 5 fun t50 =>
 eB p1 1 [(N .i64 0),(N .u64 0),(St []),(St []),(St [])] [(0,5,t50)] fun axa av6 =>
 vF axa av6 JD fun t51 Gr aoY =>
 appW p1 5 64 [(N .i64 0),(N .u64 0),(St []),(St []),(St [])] false t49 t51 Gr fun t52 xW =>
 ah (aa PW 0) t43 1 fun t53 =>
 aF xW t53 t52 1 fun AB =>
 J [(aa PW 0)] AB)) (fun zC Fb =>
 af .add (aa xs 1) (N .i64 1) fun t54 =>
 next [(aa zC 0),t54] Fb)) (
 Q (aa xs 0) M)) [(.sc (.slice none 0 0)),(N .i64 0)] M0
def Oi (p1:ak) (a0 a1:AV) (M0:RM) (Q:aj) : Prop :=
 p1 [a0] M0 fun t9 M =>
 p1 [a1] M fun bM M_0 =>
 aM (fun next xs M_1 =>
 oW bM fun t14 =>
 af .add (aa xs 0) t14 fun t15 =>
 oW t9 fun t17 =>
 af .leq t15 t17 fun t18 =>
 av t18 (
 oW bM fun t25 =>
 af .add (aa xs 0) t25 fun t26 =>
 iB (KL t9 (some (aa xs 0)) (some t26)) fun t27 =>
 fF .eql t27 bM fun t29 =>
 av t29 (
 Q (Bo true) M_1) (
 af .add (aa xs 0) (N .i64 1) fun t20 =>
 next [t20] M_1)) (
 Q (Bo false) M_1)) [(N .i64 0)] M_0
def gU (p1 p2 p3 p4 p5 p6:ak) (cv:(FuncId→ak)) (p7 p8 p9:ak) (a0 a1 a2 a3 a4:AV) (M0:RM) (Q:aj) : Prop :=
 aM (fun next xs M =>
 af .sub (aa xs 1) (aa xs 0) fun t23 =>
 af .leq t23 (N .i64 12) fun t25 =>
 av t25 (
 p1 [a0,(aa xs 0),(aa xs 1),a4] M fun t30 M_0 =>
 Q (.tup []) M_0) (
 af .eql (aa xs 2) (N .i64 0) fun t32 =>
 av t32 (
 p2 [a0,(aa xs 0),(aa xs 1),a4] M fun t37 M_1 =>
 Q (.tup []) M_1) (
 bQ (fun J =>
 dM (aa xs 3) fun t39 =>
 av t39 (
 p3 [a0,(aa xs 0),(aa xs 1),a4] M fun t44 M_2 =>
 af .sub (aa xs 2) (N .i64 1) fun t46 =>
 J [t46] M_2) (
 J [(aa xs 2)] M)) (fun bG M_4 =>
 p4 [a0,(aa xs 0),(aa xs 1),a4] M_4 fun t52 M_5 =>
 fI t52 0 fun t53 =>
 fI t52 1 fun t54 =>
 bQ (fun J_6 =>
 af .eql t54 (N .i64 2) fun t56 =>
 av t56 (
 p5 [a0,(aa xs 0),(aa xs 1),a4] M_5 fun t61 M_7 =>
 af .sub (aa xs 1) (N .i64 1) fun t63 =>
 af .sub t53 (aa xs 0) fun t66 =>
 af .sub t63 t66 fun t67 =>
 J_6 [t67,(N .i64 1)] M_7) (
 J_6 [t53,t54] M_5)) (fun vO M_9 =>
 bQ (fun La =>
 ai (aa xs 3) true (fun k=>k (aa xs 4) M_9) (fun k=>k .undef M_9) fun t70 df =>
 aK (aa xs 3) t70 (Bo false) fun t71 =>
 ai t71 true (fun nS=>nS (aa vO 1) df) (fun k=>k .undef df) fun t73 ed =>
 ai t71 true (fun ik=>af .eql t73 (N .i64 1) fun t74 =>
 ik t74 ed) (fun k=>k .undef ed) fun Zn cK =>
 aK t71 Zn (Bo false) fun t75 =>
 av t75 (
 p6 [a0,(aa xs 0),(aa xs 1),a4] cK fun t80 mq =>
 av t80 (
 Q (.tup []) mq) (
 La [] mq)) (
 La [] cK)) (fun aku dU =>
 af .gtr (aa xs 0) (N .i64 0) fun t82 =>
 ae t82 true (fun iZ=>iZ a4 dU none) (fun k=>k .undef dU none) fun t84 dz b =>
 ae t82 true (fun l9=>l9 a0 dz none) (fun k=>k .undef dz none) fun t85 iQ Jw =>
 ae t82 true (fun mi=>mi (aa xs 0) iQ none) (fun k=>k .undef iQ none) fun t86 gF EZ =>
 ae t82 true (fun kQ=>af .sub t86 (N .i64 1) fun t87 =>
 kQ t87 gF none) (fun k=>k .undef gF none) fun XQ fQ RU =>
 ae t82 true (fun vR=>ah t85 XQ 3 fun t88 =>
 vR t88 fQ none) (fun k=>k .undef fQ none) fun aap eU RA =>
 ae t82 true (fun zh=>aB eU aap 3 fun t89 =>
 zh t89 eU none) (fun k=>k .undef eU none) fun XU qX ag5 =>
 ae t82 true (fun wF=>wF a0 qX none) (fun k=>k .undef qX none) fun t90 eT Cg =>
 ae t82 true (fun zk=>zk (aa vO 0) eT none) (fun k=>k .undef eT none) fun t91 l7 YB =>
 ae t82 true (fun Oj=>ah t90 t91 3 fun t92 =>
 Oj t92 l7 none) (fun k=>k .undef l7 none) fun WN il awt =>
 ae t82 true (fun WJ=>aB il WN 3 fun t93 =>
 WJ t93 il none) (fun k=>k .undef il none) fun X6 yj awu =>
 ai t82 true (fun ajc=>cO cv t84 [XU,X6] yj fun t94 ku =>
 ajc t94 ku) (fun k=>k .undef yj) fun Zo fM =>
 ae t82 true (fun IC=>af .lss Zo (N .i64 0) fun t95 =>
 IC t95 fM none) (fun k=>k .undef fM none) fun Wt iO Nu =>
 ae t82 true (fun tT=>dM Wt fun t96 =>
 tT t96 iO none) (fun k=>k .undef iO none) fun YY kR aaf =>
 aK t82 YY (Bo false) fun t97 =>
 av t97 (
 p7 [a0,(aa xs 0),(aa xs 1),(aa vO 0),a4] kR fun wE x8 =>
 next [wE,(aa xs 1),(aa bG 0),(aa xs 3),(aa xs 4)] x8) (
 p8 [a0,(aa xs 0),(aa xs 1),(aa vO 0),a4] kR fun tu jh =>
 fI tu 0 fun nA =>
 fI tu 1 fun sJ =>
 af .sub nA (aa xs 0) fun t117 =>
 af .sub (aa xs 1) nA fun tV =>
 af .quo t23 (N .i64 8) fun sG =>
 af .lss t117 tV fun ig =>
 av ig (
 af .geq t117 sG fun Df =>
 p9 [a0,(aa xs 0),nA,(aa bG 0),a4] jh fun yx EN =>
 af .add nA (N .i64 1) fun IA =>
 next [IA,(aa xs 1),(aa bG 0),Df,sJ] EN) (
 af .geq tV sG fun t139 =>
 af .add nA (N .i64 1) fun O0 =>
 p9 [a0,O0,(aa xs 1),(aa bG 0),a4] jh fun t146 om =>
 next [(aa xs 0),nA,(aa bG 0),t139,sJ] om)))))))) [a1,a2,a3,(Bo true),(Bo true)] M0
def xN (p1:ak) (a0 a1:AV) (M0:RM) (Q:aj) : Prop :=
 p1 [a0,a1] M0 fun t7 M =>
 Q t7 M
def ab5 (p1:Nat) (a0:AV) (M0:RM) (Q:aj) : Prop :=
 JV p1 a0 fun r f =>
 bU r f M0 fun t6 M =>
 aM (fun next xs M_0 =>
 bu t6 fun t9 =>
 af .lss (aa xs 0) t9 fun bW =>
 av bW (
 bQ (fun J =>
 ah t6 (aa xs 0) 1 fun t15 =>
 au M_0 t15 fun t16 =>
 af .geq t16 (N .u8 65) fun t17 =>
 ai t17 true (fun k=>k t6 M_0) (fun k=>k .undef M_0) fun t19 M_1 =>
 ai t17 true (fun k_2=>k_2 (aa xs 0) M_1) (fun k=>k .undef M_1) fun t20 M_3 =>
 ai t17 true (fun k_4=>ah t19 t20 1 fun t21 =>
 k_4 t21 M_3) (fun k=>k .undef M_3) fun ata M_6 =>
 ai t17 true (fun k_7=>au M_6 ata fun t22 =>
 k_7 t22 M_6) (fun k=>k .undef M_6) fun acU M_9 =>
 ai t17 true (fun kN=>af .leq acU (N .u8 90) fun t23 =>
 kN t23 M_9) (fun k=>k .undef M_9) fun aq7 fA =>
 aK t17 aq7 (Bo false) fun t24 =>
 av t24 (
 ah t6 (aa xs 0) 1 fun t29 =>
 au fA t29 fun t30 =>
 af .add t30 (N .u8 32) fun t31 =>
 ah t6 (aa xs 0) 1 fun t32 =>
 aF fA t32 t31 1 fun ed =>
 J [] ed) (
 J [] fA)) (fun xs_14 fZ =>
 af .add (aa xs 0) (N .i64 1) fun t12 =>
 next [t12] fZ)) (
 FE M_0 t6 fun t34 =>
 Q t34 M_0)) [(N .i64 0)] M
def fq (cv:(FuncId→ak)) (a0 a1 a2 a3:AV) (M0:RM) (Q:aj) : Prop :=
 af .add a1 (N .i64 1) fun bM =>
 aM (fun next xs M =>
 af .lss (aa xs 0) a2 fun t14 =>
 av t14 (
 aM (fun qB bC M_2 =>
 af .gtr (aa bC 0) a1 fun t20 =>
 ae t20 true (fun k=>k a3 M_2 none) (fun k=>k .undef M_2 none) fun t22 M_3 b =>
 ae t20 true (fun k_4=>k_4 a0 M_3 none) (fun k=>k .undef M_3 none) fun t23 M_5 b_6 =>
 ae t20 true (fun k_7=>k_7 (aa bC 0) M_5 none) (fun k=>k .undef M_5 none) fun t24 M_8 b_9 =>
 ae t20 true (fun kN=>ah t23 t24 3 fun t25 =>
 kN t25 M_8 none) (fun k=>k .undef M_8 none) fun WL fA KZ =>
 ae t20 true (fun ik=>aB fA WL 3 fun t26 =>
 ik t26 fA none) (fun k=>k .undef fA none) fun WG cK Al =>
 ae t20 true (fun nQ=>nQ a0 cK none) (fun k=>k .undef cK none) fun t27 dU Kh =>
 ae t20 true (fun nD=>nD (aa bC 0) dU none) (fun k=>k .undef dU none) fun t28 fD IM =>
 ae t20 true (fun nE=>af .sub t28 (N .i64 1) fun t29 =>
 nE t29 fD none) (fun k=>k .undef fD none) fun WM gF EZ =>
 ae t20 true (fun kQ=>ah t27 WM 3 fun t30 =>
 kQ t30 gF none) (fun k=>k .undef gF none) fun XC fQ RU =>
 ae t20 true (fun vR=>aB fQ XC 3 fun t31 =>
 vR t31 fQ none) (fun k=>k .undef fQ none) fun YX eU RA =>
 ai t20 true (fun zh=>cO cv t22 [WG,YX] eU fun t32 dh =>
 zh t32 dh) (fun k=>k .undef eU) fun Zh iC =>
 ae t20 true (fun wF=>af .lss Zh (N .i64 0) fun t33 =>
 wF t33 iC none) (fun k=>k .undef iC none) fun XP mJ X7 =>
 aK t20 XP (Bo false) fun t34 =>
 av t34 (
 af .sub (aa bC 0) (N .i64 1) fun t41 =>
 af .sub (aa bC 0) (N .i64 1) fun t44 =>
 ah a0 t44 3 fun t45 =>
 aB mJ t45 3 fun t46 =>
 ah a0 (aa bC 0) 3 fun t49 =>
 aB mJ t49 3 fun t50 =>
 ah a0 (aa bC 0) 3 fun t51 =>
 aF mJ t51 t46 3 fun l7 =>
 ah a0 t41 3 fun t52 =>
 aF l7 t52 t50 3 fun jS =>
 af .sub (aa bC 0) (N .i64 1) fun t36 =>
 qB [t36] jS) (
 af .add (aa xs 0) (N .i64 1) fun t16 =>
 next [t16] mJ)) [(aa xs 0)] M) (
 Q (.tup []) M)) [bM] M0
def lG (p1:ak) (a0 a1 a2 a3:AV) (M0:RM) (Q:aj) : Prop :=
 af .sub a2 a1 fun t16 =>
 af .sub t16 (N .i64 1) fun t18 =>
 af .quo t18 (N .i64 2) fun t19 =>
 aM (fun next xs M =>
 af .geq (aa xs 0) (N .i64 0) fun t21 =>
 av t21 (
 p1 [a0,(aa xs 0),t16,a1,a3] M fun t29 M_0 =>
 af .sub (aa xs 0) (N .i64 1) fun t23 =>
 next [t23] M_0) (
 af .sub t16 (N .i64 1) fun t31 =>
 aM (fun x9 fw M_3 =>
 af .geq (aa fw 0) (N .i64 0) fun t33 =>
 av t33 (
 af .add a1 (aa fw 0) fun t41 =>
 af .add a1 (aa fw 0) fun t45 =>
 ah a0 t45 3 fun t46 =>
 aB M_3 t46 3 fun t47 =>
 ah a0 a1 3 fun t50 =>
 aB M_3 t50 3 fun t51 =>
 ah a0 a1 3 fun t52 =>
 aF M_3 t52 t47 3 fun M_4 =>
 ah a0 t41 3 fun t53 =>
 aF M_4 t53 t51 3 fun M_5 =>
 p1 [a0,(N .i64 0),(aa fw 0),a1,a3] M_5 fun t59 M_6 =>
 af .sub (aa fw 0) (N .i64 1) fun t35 =>
 x9 [t35] M_6) (
 Q (.tup []) M_3)) [t31] M)) [t19] M0
def jv (p1:Nat) (p2 p3:ak) (a0 a1 a2 a3:AV) (M0:RM) (Q:aj) : Prop :=
 af .sub a2 a1 fun t15 =>
 af .geq t15 (N .i64 8) fun t17 =>
 av t17 (
 qA .u64 t15 fun t19 =>
 bU (.row [(N .u64 0)] false p1 0) (fun b=>.ptr b 0) M0 fun t9 M =>
 aF M t9 t19 1 fun M_0 =>
 p2 [t15] M_0 fun t21 M_1 =>
 af .quo t15 (N .i64 4) fun t24 =>
 af .mul t24 (N .i64 2) fun t25 =>
 af .add a1 t25 fun t26 =>
 af .sub t26 (N .i64 1) fun t27 =>
 aM (fun next xs M_2 =>
 af .quo t15 (N .i64 4) fun t31 =>
 af .mul t31 (N .i64 2) fun t32 =>
 af .add a1 t32 fun t33 =>
 af .add t33 (N .i64 1) fun t34 =>
 af .leq (aa xs 0) t34 fun t35 =>
 av t35 (
 bQ (fun J =>
 p3 [t9] M_2 fun t38 M_3 =>
 af .sub t21 (N .u64 1) fun t40 =>
 af .and t38 t40 fun t41 =>
 qA .i64 t41 fun t42 =>
 bQ (fun J_4 =>
 af .geq t42 t15 fun t45 =>
 av t45 (
 af .sub t42 t15 fun t48 =>
 J_4 [t48] M_3) (
 J_4 [t42] M_3)) (fun kT M_6 =>
 af .add a1 (aa kT 0) fun t54 =>
 af .add a1 (aa kT 0) fun t58 =>
 ah a0 t58 3 fun t59 =>
 aB M_6 t59 3 fun t60 =>
 ah a0 (aa xs 0) 3 fun t63 =>
 aB M_6 t63 3 fun t64 =>
 ah a0 (aa xs 0) 3 fun t65 =>
 aF M_6 t65 t60 3 fun M_7 =>
 ah a0 t54 3 fun t66 =>
 aF M_7 t66 t64 3 fun M_8 =>
 J [] M_8)) (fun aoa dW =>
 af .add (aa xs 0) (N .i64 1) fun t37 =>
 next [t37] dW)) (
 Q (.tup []) M_2)) [t27] M_1) (
 Q (.tup []) M0)
def jZ (p1:Nat) (p2 p3:ak) (a0 a1 a2 a3:AV) (M0:RM) (Q:aj) : Prop :=
 af .sub a2 a1 fun t17 =>
 bU (.row [(N .i64 0)] false p1 0) (fun b=>.ptr b 0) M0 fun bM M =>
 af .quo t17 (N .i64 4) fun t20 =>
 af .mul t20 (N .i64 1) fun t21 =>
 af .add a1 t21 fun t22 =>
 af .quo t17 (N .i64 4) fun t25 =>
 af .mul t25 (N .i64 2) fun t26 =>
 af .add a1 t26 fun t27 =>
 af .quo t17 (N .i64 4) fun t30 =>
 af .mul t30 (N .i64 3) fun t31 =>
 af .add a1 t31 fun t32 =>
 bQ (fun J =>
 af .geq t17 (N .i64 8) fun t34 =>
 av t34 (
 bQ (fun J_0 =>
 af .geq t17 (N .i64 50) fun t36 =>
 av t36 (
 p2 [a0,t22,bM,a3] M fun t40 M_1 =>
 p2 [a0,t27,bM,a3] M_1 fun t44 M_2 =>
 p2 [a0,t32,bM,a3] M_2 fun t48 M_3 =>
 J_0 [t40,t44,t48] M_3) (
 J_0 [t22,t27,t32] M)) (fun xs M_4 =>
 p3 [a0,(aa xs 0),(aa xs 1),(aa xs 2),bM,a3] M_4 fun t54 M_5 =>
 J [t54] M_5)) (
 J [t27] M)) (fun nk M_7 =>
 au M_7 bM fun t55 =>
 af .eql t55 (N .i64 0) fun t58 =>
 av t58 (
 Q (.tup [(aa nk 0),(N .i64 1)]) M_7) (
 af .eql t55 (N .i64 12) fun t61 =>
 av t61 (
 Q (.tup [(aa nk 0),(N .i64 2)]) M_7) (
 Q (.tup [(aa nk 0),(N .i64 0)]) M_7)))
def jQ (a0 a1 a2 a3:AV) (M0:RM) (Q:aj) : Prop :=
 af .sub a2 (N .i64 1) fun t12 =>
 aM (fun next xs M =>
 af .lss (aa xs 0) (aa xs 1) fun t15 =>
 av t15 (
 ah a0 (aa xs 1) 3 fun t22 =>
 aB M t22 3 fun t23 =>
 ah a0 (aa xs 0) 3 fun t26 =>
 aB M t26 3 fun t27 =>
 ah a0 (aa xs 0) 3 fun t28 =>
 aF M t28 t23 3 fun M_0 =>
 ah a0 (aa xs 1) 3 fun t29 =>
 aF M_0 t29 t27 3 fun M_1 =>
 af .add (aa xs 0) (N .i64 1) fun t31 =>
 af .sub (aa xs 1) (N .i64 1) fun t33 =>
 next [t31,t33] M_1) (
 Q (.tup []) M)) [a1,t12] M0
def gT (cv:(FuncId→ak)) (a0 a1 a2 a3:AV) (M0:RM) (Q:aj) : Prop :=
 af .add a1 (N .i64 1) fun t14 =>
 aM (fun next xs M =>
 af .lss (aa xs 1) (N .i64 5) fun t16 =>
 av t16 (
 bQ (fun J =>
 aM (fun qB bC M_2 =>
 af .lss (aa bC 0) a2 fun t21 =>
 ae t21 true (fun k=>k a3 M_2 none) (fun k=>k .undef M_2 none) fun t23 M_3 b =>
 ae t21 true (fun k_4=>k_4 a0 M_3 none) (fun k=>k .undef M_3 none) fun t24 M_5 b_6 =>
 ae t21 true (fun k_7=>k_7 (aa bC 0) M_5 none) (fun k=>k .undef M_5 none) fun t25 M_8 b_9 =>
 ae t21 true (fun kN=>ah t24 t25 3 fun t26 =>
 kN t26 M_8 none) (fun k=>k .undef M_8 none) fun Zr fA KZ =>
 ae t21 true (fun ik=>aB fA Zr 3 fun t27 =>
 ik t27 fA none) (fun k=>k .undef fA none) fun YR cK Al =>
 ae t21 true (fun nQ=>nQ a0 cK none) (fun k=>k .undef cK none) fun t28 dU Kh =>
 ae t21 true (fun nD=>nD (aa bC 0) dU none) (fun k=>k .undef dU none) fun t29 fD IM =>
 ae t21 true (fun nE=>af .sub t29 (N .i64 1) fun t30 =>
 nE t30 fD none) (fun k=>k .undef fD none) fun Yn gF EZ =>
 ae t21 true (fun kQ=>ah t28 Yn 3 fun t31 =>
 kQ t31 gF none) (fun k=>k .undef gF none) fun Kk fQ RU =>
 ae t21 true (fun vR=>aB fQ Kk 3 fun t32 =>
 vR t32 fQ none) (fun k=>k .undef fQ none) fun KA eU RA =>
 ai t21 true (fun zh=>cO cv t23 [YR,KA] eU fun t33 dh =>
 zh t33 dh) (fun k=>k .undef eU) fun aab iC =>
 ae t21 true (fun wF=>af .lss aab (N .i64 0) fun t34 =>
 wF t34 iC none) (fun k=>k .undef iC none) fun Km mJ X7 =>
 ae t21 true (fun Cn=>dM Km fun t35 =>
 Cn t35 mJ none) (fun k=>k .undef mJ none) fun XT fG SY =>
 aK t21 XT (Bo false) fun t36 =>
 av t36 (
 af .add (aa bC 0) (N .i64 1) fun t38 =>
 qB [t38] fG) (
 af .eql (aa bC 0) a2 fun t41 =>
 av t41 (
 Q (Bo true) fG) (
 af .sub a2 a1 fun t44 =>
 af .lss t44 (N .i64 50) fun t45 =>
 av t45 (
 Q (Bo false) fG) (
 af .sub (aa bC 0) (N .i64 1) fun t50 =>
 af .sub (aa bC 0) (N .i64 1) fun t53 =>
 ah a0 t53 3 fun t54 =>
 aB fG t54 3 fun t55 =>
 ah a0 (aa bC 0) 3 fun t58 =>
 aB fG t58 3 fun t59 =>
 ah a0 (aa bC 0) 3 fun t60 =>
 aF fG t60 t55 3 fun il =>
 ah a0 t50 3 fun t61 =>
 aF il t61 t59 3 fun mW =>
 bQ (fun O9 =>
 af .sub (aa bC 0) a1 fun t64 =>
 af .geq t64 (N .i64 2) fun t65 =>
 av t65 (
 af .sub (aa bC 0) (N .i64 1) fun t67 =>
 aM (fun Tm mX ic =>
 af .geq (aa mX 0) (N .i64 1) fun t69 =>
 av t69 (
 ah a0 (aa mX 0) 3 fun t75 =>
 aB ic t75 3 fun t76 =>
 af .sub (aa mX 0) (N .i64 1) fun t79 =>
 ah a0 t79 3 fun t80 =>
 aB ic t80 3 fun t81 =>
 cO cv a3 [t76,t81] ic fun t82 jE =>
 af .lss t82 (N .i64 0) fun t83 =>
 dM t83 fun t84 =>
 av t84 (
 O9 [] jE) (
 af .sub (aa mX 0) (N .i64 1) fun t89 =>
 af .sub (aa mX 0) (N .i64 1) fun t92 =>
 ah a0 t92 3 fun t93 =>
 aB jE t93 3 fun t94 =>
 ah a0 (aa mX 0) 3 fun t97 =>
 aB jE t97 3 fun t98 =>
 ah a0 (aa mX 0) 3 fun t99 =>
 aF jE t99 t94 3 fun ku =>
 ah a0 t89 3 fun kP =>
 aF ku kP t98 3 fun l8 =>
 af .sub (aa mX 0) (N .i64 1) fun t71 =>
 Tm [t71] l8)) (
 O9 [] ic)) [t67] mW) (
 O9 [] mW)) (fun atV vM =>
 af .sub a2 (aa bC 0) fun wE =>
 af .geq wE (N .i64 2) fun vP =>
 av vP (
 af .add (aa bC 0) (N .i64 1) fun Cr =>
 aM (fun SE pz nK =>
 af .lss (aa pz 0) a2 fun t109 =>
 av t109 (
 ah a0 (aa pz 0) 3 fun Dn =>
 aB nK Dn 3 fun t116 =>
 af .sub (aa pz 0) (N .i64 1) fun t119 =>
 ah a0 t119 3 fun tV =>
 aB nK tV 3 fun Dp =>
 cO cv a3 [t116,Dp] nK fun sG qY =>
 af .lss sG (N .i64 0) fun CQ =>
 dM CQ fun t124 =>
 av t124 (
 J [(aa bC 0)] qY) (
 af .sub (aa pz 0) (N .i64 1) fun tN =>
 af .sub (aa pz 0) (N .i64 1) fun yN =>
 ah a0 yN 3 fun G8 =>
 aB qY G8 3 fun yx =>
 ah a0 (aa pz 0) 3 fun Hr =>
 aB qY Hr 3 fun t138 =>
 ah a0 (aa pz 0) 3 fun t139 =>
 aF qY t139 yx 3 fun pR =>
 ah a0 tN 3 fun Yr =>
 aF pR Yr t138 3 fun kR =>
 af .add (aa pz 0) (N .i64 1) fun tu =>
 SE [tu] kR)) (
 J [(aa bC 0)] nK)) [Cr] vM) (
 J [(aa bC 0)] vM)))))) [(aa xs 0)] M) (fun ab4 x8 =>
 af .add (aa xs 1) (N .i64 1) fun t18 =>
 next [(aa ab4 0),t18] x8)) (
 Q (Bo false) M)) [t14,(N .i64 0)] M0
def jf (cv:(FuncId→ak)) (a0 a1 a2 a3 a4:AV) (M0:RM) (Q:aj) : Prop :=
 ah a0 a3 3 fun t19 =>
 aB M0 t19 3 fun t20 =>
 ah a0 a1 3 fun t23 =>
 aB M0 t23 3 fun t24 =>
 ah a0 a1 3 fun t25 =>
 aF M0 t25 t20 3 fun M =>
 ah a0 a3 3 fun t26 =>
 aF M t26 t24 3 fun M_0 =>
 af .add a1 (N .i64 1) fun t28 =>
 af .sub a2 (N .i64 1) fun t30 =>
 aM (fun next xs M_1 =>
 aM (fun tJ bG M_4 =>
 af .leq (aa bG 0) (aa xs 1) fun t33 =>
 ae t33 true (fun k=>k a4 M_4 none) (fun k=>k .undef M_4 none) fun t35 M_5 b =>
 ae t33 true (fun k_6=>k_6 a0 M_5 none) (fun k=>k .undef M_5 none) fun t36 M_7 b_8 =>
 ae t33 true (fun k_9=>k_9 a1 M_7 none) (fun k=>k .undef M_7 none) fun t37 dW aqo =>
 ae t33 true (fun nS=>ah t36 t37 3 fun t38 =>
 nS t38 dW none) (fun k=>k .undef dW none) fun XY fV adz =>
 ae t33 true (fun zo=>aB fV XY 3 fun t39 =>
 zo t39 fV none) (fun k=>k .undef fV none) fun Xt dG IW =>
 ae t33 true (fun iZ=>iZ a0 dG none) (fun k=>k .undef dG none) fun t40 dz KJ =>
 ae t33 true (fun nR=>nR (aa bG 0) dz none) (fun k=>k .undef dz none) fun t41 iG XL =>
 ae t33 true (fun Co=>ah t40 t41 3 fun t42 =>
 Co t42 iG none) (fun k=>k .undef iG none) fun Xl kw Ot =>
 ae t33 true (fun CV=>aB kw Xl 3 fun t43 =>
 CV t43 kw none) (fun k=>k .undef kw none) fun Xb iR Xx =>
 ai t33 true (fun sQ=>cO cv t35 [Xt,Xb] iR fun t44 CF =>
 sQ t44 CF) (fun k=>k .undef iR) fun ZG dh =>
 ae t33 true (fun yR=>af .lss ZG (N .i64 0) fun t45 =>
 yR t45 dh none) (fun k=>k .undef dh none) fun XO vQ apX =>
 ae t33 true (fun wh=>dM XO fun t46 =>
 wh t46 vQ none) (fun k=>k .undef vQ none) fun XB l7 YB =>
 aK t33 XB (Bo false) fun t47 =>
 av t47 (
 af .add (aa bG 0) (N .i64 1) fun t49 =>
 tJ [t49] l7) (
 aM (fun Tk ll il =>
 af .leq (aa bG 0) (aa ll 0) fun t52 =>
 ae t52 true (fun vL=>vL a4 il none) (fun k=>k .undef il none) fun t54 je SL =>
 ae t52 true (fun yJ=>yJ a0 je none) (fun k=>k .undef je none) fun t55 ic Oy =>
 ae t52 true (fun yG=>yG a1 ic none) (fun k=>k .undef ic none) fun t56 l8 apd =>
 ae t52 true (fun IC=>ah t55 t56 3 fun t57 =>
 IC t57 l8 none) (fun k=>k .undef l8 none) fun YN iO Nu =>
 ae t52 true (fun tT=>aB iO YN 3 fun t58 =>
 tT t58 iO none) (fun k=>k .undef iO none) fun YO kR aaf =>
 ae t52 true (fun OG=>OG a0 kR none) (fun k=>k .undef kR none) fun t59 jh Tv =>
 ae t52 true (fun CZ=>CZ (aa ll 0) jh none) (fun k=>k .undef jh none) fun t60 EJ axm =>
 ae t52 true (fun agp=>ah t59 t60 3 fun t61 =>
 agp t61 EJ none) (fun k=>k .undef EJ none) fun XV rJ arc =>
 ae t52 true (fun X0=>aB rJ XV 3 fun t62 =>
 X0 t62 rJ none) (fun k=>k .undef rJ none) fun WX AB aph =>
 ai t52 true (fun MR=>cO cv t54 [YO,WX] AB fun t63 GU =>
 MR t63 GU) (fun k=>k .undef AB) fun ZQ j6 =>
 ae t52 true (fun Wj=>af .lss ZQ (N .i64 0) fun t64 =>
 Wj t64 j6 none) (fun k=>k .undef j6 none) fun Xh wu awX =>
 aK t52 Xh (Bo false) fun t65 =>
 av t65 (
 af .sub (aa ll 0) (N .i64 1) fun t67 =>
 Tk [t67] wu) (
 af .gtr (aa bG 0) (aa ll 0) fun t70 =>
 av t70 (
 Q (aa bG 0) wu) (
 ah a0 (aa ll 0) 3 fun t77 =>
 aB wu t77 3 fun t78 =>
 ah a0 (aa bG 0) 3 fun t81 =>
 aB wu t81 3 fun t82 =>
 ah a0 (aa bG 0) 3 fun t83 =>
 aF wu t83 t78 3 fun yY =>
 ah a0 (aa ll 0) 3 fun t84 =>
 aF yY t84 t82 3 fun Dj =>
 af .add (aa bG 0) (N .i64 1) fun t86 =>
 af .sub (aa ll 0) (N .i64 1) fun t88 =>
 next [t86,t88] Dj))) [(aa xs 1)] l7)) [(aa xs 0)] M_1) [t28,t30] M_0
def kU (cv:(FuncId→ak)) (a0 a1 a2 a3 a4:AV) (M0:RM) (Q:aj) : Prop :=
 ah a0 a3 3 fun t20 =>
 aB M0 t20 3 fun t21 =>
 ah a0 a1 3 fun t24 =>
 aB M0 t24 3 fun t25 =>
 ah a0 a1 3 fun t26 =>
 aF M0 t26 t21 3 fun M =>
 ah a0 a3 3 fun t27 =>
 aF M t27 t25 3 fun M_0 =>
 af .add a1 (N .i64 1) fun t29 =>
 af .sub a2 (N .i64 1) fun t31 =>
 aM (fun next xs M_1 =>
 af .leq (aa xs 0) t31 fun t34 =>
 ae t34 true (fun k=>k a4 M_1 none) (fun k=>k .undef M_1 none) fun t36 M_2 b =>
 ae t34 true (fun k_3=>k_3 a0 M_2 none) (fun k=>k .undef M_2 none) fun t37 M_4 b_5 =>
 ae t34 true (fun k_6=>k_6 (aa xs 0) M_4 none) (fun k=>k .undef M_4 none) fun t38 M_7 b_8 =>
 ae t34 true (fun k_9=>ah t37 t38 3 fun t39 =>
 k_9 t39 M_7 none) (fun k=>k .undef M_7 none) fun K7 df Kg =>
 ae t34 true (fun nG=>aB df K7 3 fun t40 =>
 nG t40 df none) (fun k=>k .undef df none) fun KN fZ KP =>
 ae t34 true (fun jG=>jG a0 fZ none) (fun k=>k .undef fZ none) fun t41 dG IW =>
 ae t34 true (fun iZ=>iZ a1 dG none) (fun k=>k .undef dG none) fun t42 dz KJ =>
 ae t34 true (fun nR=>ah t41 t42 3 fun t43 =>
 nR t43 dz none) (fun k=>k .undef dz none) fun Y5 fe Et =>
 ae t34 true (fun l6=>aB fe Y5 3 fun t44 =>
 l6 t44 fe none) (fun k=>k .undef fe none) fun Ka fo yB =>
 ai t34 true (fun iE=>cO cv t36 [KN,Ka] fo fun t45 iR =>
 iE t45 iR) (fun k=>k .undef fo) fun Ws eU =>
 ae t34 true (fun jr=>af .lss Ws (N .i64 0) fun t46 =>
 jr t46 eU none) (fun k=>k .undef eU none) fun Ke dh CJ =>
 aK t34 Ke (Bo false) fun t47 =>
 av t47 (
 af .add (aa xs 0) (N .i64 1) fun t49 =>
 next [t49] dh) (
 aM (fun FZ iy eT =>
 af .leq (aa xs 0) (aa iy 0) fun t52 =>
 ae t52 true (fun wh=>wh a4 eT none) (fun k=>k .undef eT none) fun t54 iL TC =>
 ae t52 true (fun zn=>zn a0 iL none) (fun k=>k .undef iL none) fun t55 fG SY =>
 ae t52 true (fun Hw=>Hw (aa iy 0) fG none) (fun k=>k .undef fG none) fun t56 mW arn =>
 ae t52 true (fun Cj=>ah t55 t56 3 fun t57 =>
 Cj t57 mW none) (fun k=>k .undef mW none) fun Yz ic Oy =>
 ae t52 true (fun yG=>aB ic Yz 3 fun t58 =>
 yG t58 ic none) (fun k=>k .undef ic none) fun aah fM Nq =>
 ae t52 true (fun wD=>wD a0 fM none) (fun k=>k .undef fM none) fun t59 iO Nu =>
 ae t52 true (fun tT=>tT a1 iO none) (fun k=>k .undef iO none) fun t60 pR aeH =>
 ae t52 true (fun Ck=>ah t59 t60 3 fun t61 =>
 Ck t61 pR none) (fun k=>k .undef pR none) fun aai jh Tv =>
 ae t52 true (fun CZ=>aB jh aai 3 fun t62 =>
 CZ t62 jh none) (fun k=>k .undef jh none) fun Xo rO ahN =>
 ai t52 true (fun O7=>cO cv t54 [aah,Xo] rO fun t63 rJ =>
 O7 t63 rJ) (fun k=>k .undef rO) fun aad Ez =>
 ae t52 true (fun Gc=>af .lss aad (N .i64 0) fun t64 =>
 Gc t64 Ez none) (fun k=>k .undef Ez none) fun YW CW aqN =>
 ae t52 true (fun O4=>dM YW fun t65 =>
 O4 t65 CW none) (fun k=>k .undef CW none) fun aan j6 ai9 =>
 aK t52 aan (Bo false) fun t66 =>
 av t66 (
 af .sub (aa iy 0) (N .i64 1) fun t68 =>
 FZ [t68] j6) (
 af .gtr (aa xs 0) (aa iy 0) fun t71 =>
 av t71 (
 ah a0 a1 3 fun t78 =>
 aB j6 t78 3 fun t79 =>
 ah a0 (aa iy 0) 3 fun t82 =>
 aB j6 t82 3 fun t83 =>
 ah a0 (aa iy 0) 3 fun t84 =>
 aF j6 t84 t79 3 fun yE =>
 ah a0 a1 3 fun t85 =>
 aF yE t85 t83 3 fun wu =>
 Q (.tup [(aa iy 0),(Bo true)]) wu) (
 ah a0 (aa iy 0) 3 fun t93 =>
 aB j6 t93 3 fun t94 =>
 ah a0 (aa xs 0) 3 fun t97 =>
 aB j6 t97 3 fun t98 =>
 ah a0 (aa xs 0) 3 fun t99 =>
 aF j6 t99 t94 3 fun y5 =>
 ah a0 (aa iy 0) 3 fun kP =>
 aF y5 kP t98 3 fun yY =>
 af .add (aa xs 0) (N .i64 1) fun Y8 =>
 af .sub (aa iy 0) (N .i64 1) fun vP =>
 aM (fun RX Gq vZ =>
 aM (fun TJ oV xY =>
 af .leq (aa oV 0) (aa Gq 1) fun t107 =>
 ae t107 true (fun HZ=>HZ a4 xY none) (fun k=>k .undef xY none) fun t109 CB anK =>
 ae t107 true (fun Ol=>Ol a0 CB none) (fun k=>k .undef CB none) fun wo xD Vx =>
 ae t107 true (fun Bu=>Bu (aa oV 0) xD none) (fun k=>k .undef xD none) fun tu rU ac4 =>
 ae t107 true (fun P5=>ah wo tu 3 fun nA =>
 P5 nA rU none) (fun k=>k .undef rU none) fun OL xk akb =>
 ae t107 true (fun IL=>aB xk OL 3 fun sJ =>
 IL sJ xk none) (fun k=>k .undef xk none) fun N7 uz aj3 =>
 ae t107 true (fun Gd=>Gd a0 uz none) (fun k=>k .undef uz none) fun H5 xJ ajJ =>
 ae t107 true (fun QI=>QI a1 xJ none) (fun k=>k .undef xJ none) fun Dn qQ ajM =>
 ae t107 true (fun PQ=>ah H5 Dn 3 fun t116 =>
 PQ t116 qQ none) (fun k=>k .undef qQ none) fun Oh qf VE =>
 ae t107 true (fun Bl=>aB qf Oh 3 fun t117 =>
 Bl t117 qf none) (fun k=>k .undef qf none) fun OE mM VP =>
 ai t107 true (fun Bz=>cO cv t109 [N7,OE] mM fun qR GA =>
 Bz qR GA) (fun k=>k .undef mM) fun OT Bf =>
 ae t107 true (fun Bc=>af .lss OT (N .i64 0) fun t119 =>
 Bc t119 Bf none) (fun k=>k .undef Bf none) fun OB vz aeD =>
 aK t107 OB (Bo false) fun tV =>
 av tV (
 af .add (aa oV 0) (N .i64 1) fun sG =>
 TJ [sG] vz) (
 aM (fun NC jd Be =>
 af .leq (aa oV 0) (aa jd 0) fun ig =>
 ae ig true (fun QG=>QG a4 Be none) (fun k=>k .undef Be none) fun t127 vg adi =>
 ae ig true (fun IG=>IG a0 vg none) (fun k=>k .undef vg none) fun Df zx ajV =>
 ae ig true (fun QM=>QM (aa jd 0) zx none) (fun k=>k .undef zx none) fun tN PE aty =>
 ae ig true (fun ac9=>ah Df tN 3 fun t130 =>
 ac9 t130 PE none) (fun k=>k .undef PE none) fun OI zu ajH =>
 ae ig true (fun Ph=>aB zu OI 3 fun t131 =>
 Ph t131 zu none) (fun k=>k .undef zu none) fun Nb zJ ajX =>
 ae ig true (fun Qf=>Qf a0 zJ none) (fun k=>k .undef zJ none) fun yN zq akp =>
 ae ig true (fun QV=>QV a1 zq none) (fun k=>k .undef zq none) fun G8 Eh ajN =>
 ae ig true (fun Qj=>ah yN G8 3 fun yx =>
 Qj yx Eh none) (fun k=>k .undef Eh none) fun Om Il atU =>
 ae ig true (fun adG=>aB Il Om 3 fun VT =>
 adG VT Il none) (fun k=>k .undef Il none) fun OU Dw ajZ =>
 ai ig true (fun Pg=>cO cv t127 [Nb,OU] Dw fun IA aeu =>
 Pg IA aeu) (fun k=>k .undef Dw) fun Nf Ea =>
 ae ig true (fun QC=>af .lss Nf (N .i64 0) fun Hr =>
 QC Hr Ea none) (fun k=>k .undef Ea none) fun Np Bn ajw =>
 ae ig true (fun Pp=>dM Np fun t138 =>
 Pp t138 Bn none) (fun k=>k .undef Bn none) fun NV nU ajE =>
 aK ig NV (Bo false) fun t139 =>
 av t139 (
 af .sub (aa jd 0) (N .i64 1) fun t141 =>
 NC [t141] nU) (
 af .gtr (aa oV 0) (aa jd 0) fun Yf =>
 av Yf (
 ah a0 a1 3 fun ah7 =>
 aB nU ah7 3 fun ait =>
 ah a0 (aa jd 0) 3 fun t173 =>
 aB nU t173 3 fun aiC =>
 ah a0 (aa jd 0) 3 fun t175 =>
 aF nU t175 ait 3 fun aeb =>
 ah a0 a1 3 fun agF =>
 aF aeb agF aiC 3 fun acp =>
 Q (.tup [(aa jd 0),(Bo false)]) acp) (
 ah a0 (aa jd 0) 3 fun J8 =>
 aB nU J8 3 fun t152 =>
 ah a0 (aa oV 0) 3 fun aat =>
 aB nU aat 3 fun t156 =>
 ah a0 (aa oV 0) 3 fun t157 =>
 aF nU t157 t152 3 fun zN =>
 ah a0 (aa jd 0) 3 fun ah3 =>
 aF zN ah3 t156 3 fun adL =>
 af .add (aa oV 0) (N .i64 1) fun t160 =>
 af .sub (aa jd 0) (N .i64 1) fun t162 =>
 RX [t160,t162] adL))) [(aa Gq 1)] vz)) [(aa Gq 0)] vZ) [Y8,vP] yY))) [t31] dh)) [t29] M_0
def lq (cv:(FuncId→ak)) (a0 a1 a2 a3 a4:AV) (M0:RM) (Q:aj) : Prop :=
 aM (fun next xs M =>
 af .mul (N .i64 2) (aa xs 0) fun t14 =>
 af .add t14 (N .i64 1) fun t15 =>
 af .geq t15 a2 fun t18 =>
 av t18 (
 Q (.tup []) M) (
 bQ (fun J =>
 af .add t15 (N .i64 1) fun t20 =>
 af .lss t20 a2 fun t22 =>
 ae t22 true (fun k=>k a4 M none) (fun k=>k .undef M none) fun t24 M_0 b =>
 ae t22 true (fun k_1=>k_1 a0 M_0 none) (fun k=>k .undef M_0 none) fun t25 M_2 b_3 =>
 ae t22 true (fun k_4=>k_4 a3 M_2 none) (fun k=>k .undef M_2 none) fun t26 M_5 b_6 =>
 ae t22 true (fun k_7=>k_7 t15 M_5 none) (fun k=>k .undef M_5 none) fun t27 M_8 b_9 =>
 ae t22 true (fun kN=>af .add t26 t27 fun t28 =>
 kN t28 M_8 none) (fun k=>k .undef M_8 none) fun Xr fA KZ =>
 ae t22 true (fun ik=>ah t25 Xr 3 fun t29 =>
 ik t29 fA none) (fun k=>k .undef fA none) fun WU cK Al =>
 ae t22 true (fun nQ=>aB cK WU 3 fun t30 =>
 nQ t30 cK none) (fun k=>k .undef cK none) fun Yc jA acS =>
 ae t22 true (fun l9=>l9 a0 jA none) (fun k=>k .undef jA none) fun t31 iQ Jw =>
 ae t22 true (fun mi=>mi a3 iQ none) (fun k=>k .undef iQ none) fun t32 gF EZ =>
 ae t22 true (fun kQ=>kQ t15 gF none) (fun k=>k .undef gF none) fun t33 fo yB =>
 ae t22 true (fun iE=>af .add t32 t33 fun t34 =>
 iE t34 fo none) (fun k=>k .undef fo none) fun YV eY Kb =>
 ae t22 true (fun jr=>af .add YV (N .i64 1) fun t35 =>
 jr t35 eY none) (fun k=>k .undef eY none) fun Ww dh CJ =>
 ae t22 true (fun su=>ah t31 Ww 3 fun t36 =>
 su t36 dh none) (fun k=>k .undef dh none) fun Zq eT Cg =>
 ae t22 true (fun zk=>aB eT Zq 3 fun t37 =>
 zk t37 eT none) (fun k=>k .undef eT none) fun WA jS ahf =>
 ai t22 true (fun OO=>cO cv t24 [Yc,WA] jS fun t38 il =>
 OO t38 il) (fun k=>k .undef jS) fun Yk je =>
 ae t22 true (fun Cj=>af .lss Yk (N .i64 0) fun t39 =>
 Cj t39 je none) (fun k=>k .undef je none) fun Wh ic Oy =>
 aK t22 Wh (Bo false) fun t40 =>
 av t40 (
 af .add t15 (N .i64 1) fun t42 =>
 J [t42] ic) (
 J [t15] ic)) (fun Bq l8 =>
 af .add a3 (aa xs 0) fun t47 =>
 ah a0 t47 3 fun t48 =>
 aB l8 t48 3 fun t49 =>
 af .add a3 (aa Bq 0) fun t53 =>
 ah a0 t53 3 fun t54 =>
 aB l8 t54 3 fun t55 =>
 cO cv a4 [t49,t55] l8 fun t56 fM =>
 af .lss t56 (N .i64 0) fun t57 =>
 dM t57 fun t58 =>
 av t58 (
 Q (.tup []) fM) (
 af .add a3 (aa xs 0) fun t62 =>
 af .add a3 (aa Bq 0) fun t66 =>
 af .add a3 (aa Bq 0) fun t70 =>
 ah a0 t70 3 fun t71 =>
 aB fM t71 3 fun t72 =>
 af .add a3 (aa xs 0) fun t76 =>
 ah a0 t76 3 fun t77 =>
 aB fM t77 3 fun t78 =>
 ah a0 t62 3 fun t79 =>
 aF fM t79 t72 3 fun vM =>
 ah a0 t66 3 fun t80 =>
 aF vM t80 t78 3 fun ou =>
 next [(aa Bq 0)] ou)))) [a1] M0
def ji (p1:ak) (a0 a1 a2 a3:AV) (M0:RM) (Q:aj) : Prop :=
 af .sub a1 (N .i64 1) fun bM =>
 af .add a1 (N .i64 1) fun t14 =>
 p1 [a0,bM,a1,t14,a2,a3] M0 fun t17 M =>
 Q t17 M
def mQ (p1:ak) (a0 a1 a2 a3 a4 a5:AV) (M0:RM) (Q:aj) : Prop :=
 p1 [a0,a1,a2,a4,a5] M0 fun t19 M =>
 fI t19 0 fun t20 =>
 fI t19 1 fun t21 =>
 p1 [a0,t21,a3,a4,a5] M fun t28 M_0 =>
 fI t28 0 fun t29 =>
 fI t28 1 fun t30 =>
 p1 [a0,t20,t29,a4,a5] M_0 fun t37 M_1 =>
 fI t37 0 fun t38 =>
 fI t37 1 fun t39 =>
 Q t39 M_1
def mV (cv:(FuncId→ak)) (a0 a1 a2 a3 a4:AV) (M0:RM) (Q:aj) : Prop :=
 ah a0 a2 3 fun t15 =>
 aB M0 t15 3 fun t16 =>
 ah a0 a1 3 fun t19 =>
 aB M0 t19 3 fun t20 =>
 cO cv a4 [t16,t20] M0 fun t21 M =>
 af .lss t21 (N .i64 0) fun t22 =>
 av t22 (
 dx a3 fun t24 =>
 au M t24 fun t25 =>
 af .add t25 (N .i64 1) fun t26 =>
 dx a3 fun t27 =>
 aF M t27 t26 1 fun M_0 =>
 Q (.tup [a2,a1]) M_0) (
 Q (.tup [a1,a2]) M)
end Go.Ab.Vw
namespace Go.Ab.aH
open Go Go.Ab
def SQ (p1:Nat) (M0:RM) (Q:aj) : Prop :=
 q8 [(N .u64 0),(.sc (.slice none 0 0)),(N .u64 0),(.sc (.slice none 0 0)),(N .u64 0),(.sc (.slice none 0 0)),(N .u64 0),(.sc (.slice none 0 0)),(N .u64 0),(.sc (.slice none 0 0)),(N .u64 0),(.sc (.slice none 0 0)),(N .u64 0),(.sc (.slice none 0 0)),(N .u64 0),(.sc (.slice none 0 0)),(N .u64 0),(.sc (.slice none 0 0)),(N .u64 0),(.sc (.slice none 0 0)),(N .u64 0),(.sc (.slice none 0 0)),(N .u64 0),(.sc (.slice none 0 0)),(N .u64 0),(.sc (.slice none 0 0)),(N .u64 0),(.sc (.slice none 0 0)),(N .u64 0),(.sc (.slice none 0 0)),(N .u64 0),(.sc (.slice none 0 0))] [] fun t1 =>
 jR p1 t1 fun r f =>
 bU r f M0 fun t2 M =>
 Q t2 M
def JB (p1:Nat) (p2 p3:ak) (a0 a1:AV) (M0:RM) (Q:aj) : Prop :=
 jR p1 a1 fun r f =>
 bU r f M0 fun t3 M =>
 aB M t3 2 fun t6 =>
 p2 [t6] M fun t7 M_0 =>
 dM t7 fun t8 =>
 av t8 (
 Q (N .i64 1) M_0) (
 aI t3 0 fun bM =>
 au M_0 bM fun t12 =>
 dx a0 fun t13 =>
 aI t13 0 fun t14 =>
 KF t14 t12 16 2 fun t15 =>
 aI t3 1 fun t16 =>
 au M_0 t16 fun t17 =>
 p3 [t15,t17] M_0 fun t18 M_1 =>
 dM t18 fun t19 =>
 av t19 (
 Q (N .i64 2) M_1) (
 Q (N .i64 0) M_1))
def Na (p1:Nat) (a0:AV) (M0:RM) (Q:aj) : Prop :=
 jR p1 a0 fun r f =>
 bU r f M0 fun t1 M =>
 aI t1 0 fun t3 =>
 au M t3 fun t4 =>
 af .geq t4 (N .i64 0) fun t5 =>
 ai t5 true (fun k=>aI t1 0 fun t7 =>
 k t7 M) (fun k=>k .undef M) fun ahi M_1 =>
 ai t5 true (fun k_2=>au M_1 ahi fun t8 =>
 k_2 t8 M_1) (fun k=>k .undef M_1) fun agZ M_4 =>
 ai t5 true (fun k_5=>af .lss agZ (N .i64 16) fun t9 =>
 k_5 t9 M_4) (fun k=>k .undef M_4) fun agO M_7 =>
 aK t5 agO (Bo false) fun bW =>
 ai bW true (fun k_8=>aI t1 1 fun t12 =>
 k_8 t12 M_7) (fun k=>k .undef M_7) fun adM dW =>
 ai bW true (fun nu=>au dW adM fun t13 =>
 nu t13 dW) (fun k=>k .undef dW) fun K8 ed =>
 ai bW true (fun ik=>af .geq K8 (N .u64 1) fun t14 =>
 ik t14 ed) (fun k=>k .undef ed) fun JU cK =>
 aK bW JU (Bo false) fun t15 =>
 ai t15 true (fun jG=>aI t1 1 fun t17 =>
 jG t17 cK) (fun k=>k .undef cK) fun Zc dU =>
 ai t15 true (fun iZ=>au dU Zc fun t18 =>
 iZ t18 dU) (fun k=>k .undef dU) fun aag fD =>
 ai t15 true (fun nR=>af .leq aag (N .u64 1099511627776) fun t19 =>
 nR t19 fD) (fun k=>k .undef fD) fun JY fe =>
 aK t15 JY (Bo false) fun t20 =>
 Q t20 fe
def Nv (p1:Nat) (a0:AV) (M0:RM) (Q:aj) : Prop :=
 jR p1 a0 fun r f =>
 bU r f M0 fun t1 M =>
 aI t1 0 fun t3 =>
 au M t3 fun t4 =>
 af .geq t4 (N .i64 0) fun t5 =>
 ai t5 true (fun k=>aI t1 0 fun t7 =>
 k t7 M) (fun k=>k .undef M) fun ahi M_1 =>
 ai t5 true (fun k_2=>au M_1 ahi fun t8 =>
 k_2 t8 M_1) (fun k=>k .undef M_1) fun agZ M_4 =>
 ai t5 true (fun k_5=>af .lss agZ (N .i64 16) fun t9 =>
 k_5 t9 M_4) (fun k=>k .undef M_4) fun agO M_7 =>
 aK t5 agO (Bo false) fun bW =>
 ai bW true (fun k_8=>aI t1 1 fun t12 =>
 k_8 t12 M_7) (fun k=>k .undef M_7) fun adM dW =>
 ai bW true (fun nu=>au dW adM fun t13 =>
 nu t13 dW) (fun k=>k .undef dW) fun K8 ed =>
 ai bW true (fun ik=>af .geq K8 (N .u64 1) fun t14 =>
 ik t14 ed) (fun k=>k .undef ed) fun JU cK =>
 aK bW JU (Bo false) fun t15 =>
 ai t15 true (fun jG=>aI t1 1 fun t17 =>
 jG t17 cK) (fun k=>k .undef cK) fun Zc dU =>
 ai t15 true (fun iZ=>au dU Zc fun t18 =>
 iZ t18 dU) (fun k=>k .undef dU) fun aag fD =>
 ai t15 true (fun nR=>af .leq aag (N .u64 1099511627776) fun t19 =>
 nR t19 fD) (fun k=>k .undef fD) fun JY fe =>
 aK t15 JY (Bo false) fun t20 =>
 Q t20 fe
def Hd (p1 p2:ak) (a0:AV) (M0:RM) (Q:aj) : Prop :=
 p1 [] M0 fun t4 M =>
 p2 [t4,a0] M fun t7 M_0 =>
 Q t4 M_0
def KS (p1:Nat) (p2 p3:ak) (a0 a1:AV) (M0:RM) (Q:aj) : Prop :=
 jR p1 a1 fun r f =>
 bU r f M0 fun t3 M =>
 aB M t3 2 fun t5 =>
 p2 [t5] M fun t6 M_0 =>
 ae t6 true (fun k=>k a0 M_0 none) (fun k=>k .undef M_0 none) fun t8 M_1 b =>
 ae t6 true (fun k_2=>aI t3 0 fun t9 =>
 k_2 t9 M_1 none) (fun k=>k .undef M_1 none) fun ai1 M_4 b_5 =>
 ae t6 true (fun k_6=>au M_4 ai1 fun bW =>
 k_6 bW M_4 none) (fun k=>k .undef M_4 none) fun as8 M_8 b_9 =>
 ae t6 true (fun kN=>dx t8 fun bM =>
 kN bM M_8 none) (fun k=>k .undef M_8 none) fun anS fA KZ =>
 ae t6 true (fun ik=>aI anS 0 fun t12 =>
 ik t12 fA none) (fun k=>k .undef fA none) fun ang cK Al =>
 ae t6 true (fun nQ=>KF ang as8 16 2 fun t13 =>
 nQ t13 cK none) (fun k=>k .undef cK none) fun arK jA acS =>
 ae t6 true (fun l9=>aI t3 1 fun t14 =>
 l9 t14 jA none) (fun k=>k .undef jA none) fun aod iG XL =>
 ae t6 true (fun Co=>au iG aod fun t15 =>
 Co t15 iG none) (fun k=>k .undef iG none) fun anv kw Ot =>
 ai t6 true (fun CV=>p3 [arK,anv] kw fun t16 nH =>
 CV t16 nH) (fun k=>k .undef kw) fun aqE eY =>
 aK t6 aqE (Bo false) fun t17 =>
 Q t17 eY
def acH (p1:Nat) (a0 a1:AV) (M0:RM) (Q:aj) : Prop :=
 jR p1 a1 fun r f =>
 bU r f M0 fun t3 M =>
 aM (fun next xs M_0 =>
 bu a0 fun t8 =>
 af .lss (aa xs 0) t8 fun t9 =>
 av t9 (
 ah a0 (aa xs 0) 2 fun t14 =>
 aB M_0 t14 2 fun t15 =>
 aB M_0 t3 2 fun t16 =>
 mD false [1,1] t15 t16 fun t17 =>
 av t17 (
 Q (Bo true) M_0) (
 af .add (aa xs 0) (N .i64 1) fun bM =>
 next [bM] M_0)) (
 Q (Bo false) M_0)) [(N .i64 0)] M
def aoL (p1 p2 p3:ak) (a0:AV) (M0:RM) (Q:aj) : Prop :=
 p1 [] M0 fun t7 M =>
 aM (fun next xs M_0 =>
 bu a0 fun bW =>
 af .lss (aa xs 1) bW fun bM =>
 av bM (
 bQ (fun J =>
 ah a0 (aa xs 1) 2 fun t17 =>
 aB M_0 t17 2 fun t18 =>
 p2 [t7,t18] M_0 fun t19 M_1 =>
 af .eql t19 (N .i64 0) fun t20 =>
 av t20 (
 ah a0 (aa xs 1) 2 fun t24 =>
 aB M_1 t24 2 fun t25 =>
 p3 [(aa xs 0),t25] M_1 fun t26 M_2 =>
 J [t26] M_2) (
 J [(aa xs 0)] M_1)) (fun bG M_4 =>
 af .add (aa xs 1) (N .i64 1) fun t13 =>
 next [(aa bG 0),t13] M_4)) (
 Q (.tup [t7,(aa xs 0)]) M_0)) [(.sc (.slice none 0 0)),(N .i64 0)] M
def Gt (p1 p2:Nat) (p3 p4 p5 p6:ak) (a0 a1:AV) (M0:RM) (Q:aj) : Prop :=
 aM (fun next xs M =>
 af .lss (aa xs 0) (N .i64 16) fun t8 =>
 av t8 (
 dx a0 fun t12 =>
 aI t12 0 fun t13 =>
 KF t13 (aa xs 0) 16 2 fun t14 =>
 dx a1 fun t17 =>
 aI t17 0 fun t18 =>
 KF t18 (aa xs 0) 16 2 fun t19 =>
 aB M t19 2 fun t20 =>
 vF (.row [(N .u64 0),(.sc (.slice none 0 0))] false p1 0) (fun b=>.ptr b 0) M fun t6 M_0 b =>
 aF M_0 t6 t20 2 fun M_1 =>
 dx t14 fun t23 =>
 aI t23 0 fun t24 =>
 au M_1 t24 fun t25 =>
 aI t6 0 fun t26 =>
 au M_1 t26 fun t27 =>
 Su true t25 t27 fun t28 =>
 dx t14 fun t29 =>
 aI t29 0 fun t30 =>
 aF M_1 t30 t28 1 fun M_2 =>
 dx t14 fun t33 =>
 aI t33 1 fun t34 =>
 au M_2 t34 fun t35 =>
 aI t6 1 fun t36 =>
 au M_2 t36 fun t37 =>
 eB p2 2 [(.sc (.slice none 0 0))] [(0,1,t35),(1,1,t37)] fun r f =>
 vF r f M_2 fun t38 M_3 b_4 =>
 p3 [t38] M_3 fun t39 M_5 =>
 dx t14 fun t40 =>
 aI t40 1 fun t41 =>
 aF M_5 t41 t39 1 fun M_6 =>
 dx t14 fun t43 =>
 aI t43 1 fun t44 =>
 au M_6 t44 fun t45 =>
 p4 [t45] M_6 fun t46 M_7 =>
 dx t14 fun t49 =>
 aI t49 1 fun t50 =>
 au M_7 t50 fun t51 =>
 p5 [t51] M_7 fun t52 M_8 =>
 dx t14 fun t53 =>
 aI t53 1 fun t54 =>
 aF M_8 t54 t52 1 fun M_9 =>
 p6 [t14] M_9 fun t56 dW =>
 af .add (aa xs 0) (N .i64 1) fun t57 =>
 next [t57] dW) (
 Q (.tup []) M)) [(N .i64 0)] M0
def BR (p1:Nat) (p2:ak) (a0 a1:AV) (M0:RM) (Q:aj) : Prop :=
 dx a0 fun bM =>
 aI bM 0 fun t12 =>
 aB M0 t12 32 fun t13 =>
 aM (fun next xs M =>
 af .lss (aa xs 0) (N .i64 16) fun t15 =>
 av t15 (
 Vt t13 (aa xs 0) 16 2 fun t17 =>
 bU (.row [(N .u64 0),(.sc (.slice none 0 0))] false p1 0) (fun b=>.ptr b 0) M fun t6 M_0 =>
 aF M_0 t6 t17 2 fun M_1 =>
 dx a1 fun t20 =>
 aI t20 0 fun t21 =>
 KF t21 (aa xs 0) 16 2 fun t22 =>
 aI t6 0 fun t23 =>
 au M_1 t23 fun t24 =>
 dx t22 fun t26 =>
 aI t26 0 fun t27 =>
 au M_1 t27 fun t28 =>
 af .gtr t24 t28 fun t29 =>
 av t29 (
 Q (Bo false) M_1) (
 aI t6 1 fun t30 =>
 au M_1 t30 fun t31 =>
 bu t31 fun t32 =>
 aM (fun tJ bG M_4 =>
 af .lss (aa bG 0) t32 fun t34 =>
 av t34 (
 ah t31 (aa bG 0) 1 fun t35 =>
 au M_4 t35 fun t36 =>
 p2 [t22,t36] M_4 fun t39 M_5 =>
 dM t39 fun t40 =>
 av t40 (
 Q (Bo false) M_5) (
 af .add (aa bG 0) (N .i64 1) fun t41 =>
 tJ [t41] M_5)) (
 af .add (aa xs 0) (N .i64 1) fun t42 =>
 next [t42] M_4)) [(N .i64 0)] M_1)) (
 Q (Bo true) M)) [(N .i64 0)] M0
def YZ (p1:Nat) (a0 a1:AV) (M0:RM) (Q:aj) : Prop :=
 jR p1 a0 fun r f =>
 bU r f M0 fun t2 M =>
 jR p1 a1 fun r_0 f_1 =>
 bU r_0 f_1 M fun t3 M_2 =>
 aI t2 1 fun t5 =>
 au M_2 t5 fun t6 =>
 aI t3 1 fun t7 =>
 au M_2 t7 fun t8 =>
 af .lss t6 t8 fun t9 =>
 ai t9 false (fun k=>aI t2 1 fun bM =>
 k bM M_2) (fun k=>k .undef M_2) fun acP M_4 =>
 ai t9 false (fun k_5=>au M_4 acP fun t12 =>
 k_5 t12 M_4) (fun k=>k .undef M_4) fun ack M_7 =>
 ai t9 false (fun k_8=>aI t3 1 fun t13 =>
 k_8 t13 M_7) (fun k=>k .undef M_7) fun Gg dW =>
 ai t9 false (fun nu=>au dW Gg fun t14 =>
 nu t14 dW) (fun k=>k .undef dW) fun ZL ed =>
 ai t9 false (fun ik=>af .eql ack ZL fun t15 =>
 ik t15 ed) (fun k=>k .undef ed) fun XX cK =>
 ai t9 false (fun jG=>jG XX cK) (fun k=>k .undef cK) fun t16 dG =>
 ai t16 true (fun sI=>aI t2 0 fun t17 =>
 sI t17 dG) (fun k=>k .undef dG) fun VR dz =>
 ai t16 true (fun l9=>au dz VR fun t18 =>
 l9 t18 dz) (fun k=>k .undef dz) fun Za iG =>
 ai t16 true (fun mi=>aI t3 0 fun t19 =>
 mi t19 iG) (fun k=>k .undef iG) fun Wi kg =>
 ai t16 true (fun kQ=>au kg Wi fun t20 =>
 kQ t20 kg) (fun k=>k .undef kg) fun Xm fQ =>
 ai t16 true (fun iE=>af .lss Za Xm fun t21 =>
 iE t21 fQ) (fun k=>k .undef fQ) fun JH eY =>
 ai t9 false (fun sQ=>aK t16 JH (Bo false) fun t22 =>
 sQ t22 eY) (fun k=>k .undef eY) fun K9 jF =>
 aK t9 (Bo true) K9 fun t23 =>
 Q t23 jF
def NR (p1:Nat) (a0 a1:AV) (M0:RM) (Q:aj) : Prop :=
 jR p1 a0 fun r f =>
 bU r f M0 fun t2 M =>
 jR p1 a1 fun r_0 f_1 =>
 bU r_0 f_1 M fun t3 M_2 =>
 aI t2 1 fun t5 =>
 au M_2 t5 fun t6 =>
 aI t3 1 fun t7 =>
 au M_2 t7 fun t8 =>
 af .lss t6 t8 fun t9 =>
 ai t9 false (fun k=>aI t2 1 fun bM =>
 k bM M_2) (fun k=>k .undef M_2) fun acP M_4 =>
 ai t9 false (fun k_5=>au M_4 acP fun t12 =>
 k_5 t12 M_4) (fun k=>k .undef M_4) fun ack M_7 =>
 ai t9 false (fun k_8=>aI t3 1 fun t13 =>
 k_8 t13 M_7) (fun k=>k .undef M_7) fun Gg dW =>
 ai t9 false (fun nu=>au dW Gg fun t14 =>
 nu t14 dW) (fun k=>k .undef dW) fun ZL ed =>
 ai t9 false (fun ik=>af .eql ack ZL fun t15 =>
 ik t15 ed) (fun k=>k .undef ed) fun XX cK =>
 ai t9 false (fun jG=>jG XX cK) (fun k=>k .undef cK) fun t16 dG =>
 ai t16 true (fun sI=>aI t2 0 fun t17 =>
 sI t17 dG) (fun k=>k .undef dG) fun VR dz =>
 ai t16 true (fun l9=>au dz VR fun t18 =>
 l9 t18 dz) (fun k=>k .undef dz) fun Za iG =>
 ai t16 true (fun mi=>aI t3 0 fun t19 =>
 mi t19 iG) (fun k=>k .undef iG) fun Wi kg =>
 ai t16 true (fun kQ=>au kg Wi fun t20 =>
 kQ t20 kg) (fun k=>k .undef kg) fun Xm fQ =>
 ai t16 true (fun iE=>af .lss Za Xm fun t21 =>
 iE t21 fQ) (fun k=>k .undef fQ) fun JH eY =>
 ai t9 false (fun sQ=>aK t16 JH (Bo false) fun t22 =>
 sQ t22 eY) (fun k=>k .undef eY) fun K9 jF =>
 aK t9 (Bo true) K9 fun t23 =>
 Q t23 jF
def Hq (p1:ak) (p2 p3:Nat) (p4 p5 p6:ak) (a0 a1:AV) (M0:RM) (Q:aj) : Prop :=
 dx a0 fun bW =>
 aI bW 1 fun bM =>
 au M0 bM fun t12 =>
 p1 [t12,a1] M0 fun t14 M =>
 fI t14 0 fun t15 =>
 fI t14 1 fun t16 =>
 ai t16 false (fun k=>k a1 M) (fun k=>k .undef M) fun t19 M_0 =>
 ai t16 false (fun k_1=>k_1 a0 M_0) (fun k=>k .undef M_0) fun t20 M_2 =>
 ai t16 false (fun k_3=>dx t20 fun t21 =>
 k_3 t21 M_2) (fun k=>k .undef M_2) fun adZ M_5 =>
 ai t16 false (fun k_6=>aI adZ 0 fun t22 =>
 k_6 t22 M_5) (fun k=>k .undef M_5) fun aed M_8 =>
 ai t16 false (fun k_9=>au M_8 aed fun t23 =>
 k_9 t23 M_8) (fun k=>k .undef M_8) fun Xu df =>
 ai t16 false (fun nS=>af .leq t19 Xu fun t24 =>
 nS t24 df) (fun k=>k .undef df) fun Wv fV =>
 aK t16 (Bo true) Wv fun t25 =>
 av t25 (
 Q (Bo true) fV) (
 dx a0 fun t27 =>
 aI t27 0 fun t28 =>
 au fV t28 fun t29 =>
 dx a0 fun t31 =>
 aI t31 1 fun t32 =>
 au fV t32 fun t33 =>
 eB p2 1 [(N .u64 0)] [(0,1,a1)] fun r f =>
 vF r f fV fun t37 fZ b =>
 vF (.row [(N .u64 0),(.sc (.slice none 0 0))] false p3 0) (fun b=>.ptr b 0) fZ fun t7 cK Al =>
 p4 [t33] cK fun t34 dG =>
 au dG t28 fun aoP =>
 (aoP=t29∧eB p2 1 [(N .u64 0)] [(0,1,a1)] fun avZ axk =>
 (Eb b dG avZ axk t37∧(Eb Al dG (.row [(N .u64 0),(.sc (.slice none 0 0))] false p3 0) (fun b=>.ptr b 0) t7∧p5 [t34,t15,t37] dG fun t38 dU =>
 au dU t28 fun ar6 =>
 (ar6=t29∧(Eb Al dU (.row [(N .u64 0),(.sc (.slice none 0 0))] false p3 0) (fun b=>.ptr b 0) t7∧q8 [(N .u64 0),(.sc (.slice none 0 0))] [(0,1,t29),(1,1,t38)] fun t39 =>
 aF dU t7 t39 2 fun jA =>
 p6 [t7] jA fun t40 dz =>
 aI t7 1 fun t41 =>
 au dz t41 fun t42 =>
 bu t42 fun t43 =>
 af .gtr t43 (N .i64 4096) fun t44 =>
 av t44 (
 Q (Bo false) dz) (
 aB dz t7 2 fun t46 =>
 dx a0 fun t47 =>
 aF dz t47 t46 2 fun fD =>
 Q (Bo true) fD)))))))
def Rp (p1:Nat) (a0:AV) (M0:RM) (Q:aj) : Prop :=
 lJ false 2 a0 (.sc (.slice none 0 0)) fun t4 =>
 av t4 (
 Q (.sc (.slice none 0 0)) M0) (
 eB p1 0 [(N .u64 0)] [] fun r f =>
 bU r f M0 fun t5 M =>
 appW p1 1 8 [(N .u64 0)] false t5 a0 M fun t7 M_0 =>
 Q t7 M_0)
def Iw (p1:ak) (a0 a1:AV) (M0:RM) (Q:aj) : Prop :=
 dx a0 fun t9 =>
 aI t9 1 fun bW =>
 au M0 bW fun bM =>
 p1 [bM,a1] M0 fun t13 M =>
 fI t13 0 fun t14 =>
 fI t13 1 fun t15 =>
 af .geq a1 (N .u64 1) fun t17 =>
 ai t17 true (fun k=>k a1 M) (fun k=>k .undef M) fun t19 M_0 =>
 ai t17 true (fun k_1=>k_1 a0 M_0) (fun k=>k .undef M_0) fun t20 M_2 =>
 ai t17 true (fun k_3=>dx t20 fun t21 =>
 k_3 t21 M_2) (fun k=>k .undef M_2) fun adZ M_5 =>
 ai t17 true (fun k_6=>aI adZ 0 fun t22 =>
 k_6 t22 M_5) (fun k=>k .undef M_5) fun aed M_8 =>
 ai t17 true (fun k_9=>au M_8 aed fun t23 =>
 k_9 t23 M_8) (fun k=>k .undef M_8) fun Xu df =>
 ai t17 true (fun nS=>af .leq t19 Xu fun t24 =>
 nS t24 df) (fun k=>k .undef df) fun Wv fV =>
 aK t17 Wv (Bo false) fun t25 =>
 ai t25 false (fun qN=>qN t15 fV) (fun k=>k .undef fV) fun t27 cK =>
 aK t25 (Bo true) t27 fun t28 =>
 Q t28 cK
def xU (p1:Nat) (p2:ak) (p3:Nat) (a0:AV) (M0:RM) (Q:aj) : Prop :=
 bu a0 fun bW =>
 aM (fun next xs M =>
 af .lss (aa xs 1) bW fun t12 =>
 av t12 (
 bQ (fun J =>
 ah a0 (aa xs 1) 1 fun t13 =>
 au M t13 fun t14 =>
 bu t14 fun t17 =>
 af .add (aa xs 0) t17 fun t18 =>
 af .lss t18 (N .i64 0) fun t20 =>
 av t20 (
 False) (
 J [t18] M)) (fun avo M_1 =>
 af .add (aa xs 1) (N .i64 1) fun t22 =>
 next [(aa avo 0),t22] M_1)) (
 p2 [(.sc (.slice none 0 0)),(aa xs 0)] M fun t24 M_2 =>
 bu a0 fun t26 =>
 aM (fun apV xR M_5 =>
 af .lss (aa xR 1) t26 fun t28 =>
 av t28 (
 ah a0 (aa xR 1) 1 fun t29 =>
 au M_5 t29 fun t30 =>
 appW p3 1 8 [(N .u64 0)] false (aa xR 0) t30 M_5 fun t33 M_6 =>
 af .add (aa xR 1) (N .i64 1) fun t34 =>
 apV [t33,t34] M_6) (
 Q (aa xR 0) M_5)) [t24,(N .i64 0)] M_2)) [(N .i64 0),(N .i64 0)] M0
def Ap (p1 p2:ak) (a0:AV) (M0:RM) (Q:aj) : Prop :=
 bu a0 fun t4 =>
 qA .u64 t4 fun t8 =>
 p1 [t8] M0 fun t9 M =>
 p2 [a0,(N .i64 0),t4,t9] M fun bW M_0 =>
 Q (.tup []) M_0
def wB (a0:AV) (M0:RM) (Q:aj) : Prop :=
 bu a0 fun t7 =>
 af .lss t7 (N .i64 2) fun t8 =>
 av t8 (
 Q a0 M0) (
 aM (fun next xs M =>
 bu a0 fun t12 =>
 af .lss (aa xs 0) t12 fun t13 =>
 av t13 (
 ah a0 (aa xs 0) 1 fun t18 =>
 au M t18 fun t19 =>
 af .sub (aa xs 0) (N .i64 1) fun t22 =>
 ah a0 t22 1 fun t23 =>
 au M t23 fun t24 =>
 af .eql t19 t24 fun t25 =>
 av t25 (
 iB (cZ 1 a0 (some (aa xs 0)) none none) fun t28 =>
 aM (fun qB bC M_2 =>
 bu t28 fun t31 =>
 af .lss (aa bC 1) t31 fun t32 =>
 av t32 (
 bQ (fun J =>
 ah t28 (aa bC 1) 1 fun t37 =>
 au M_2 t37 fun t38 =>
 af .sub (aa bC 1) (N .i64 1) fun t41 =>
 ah t28 t41 1 fun t42 =>
 au M_2 t42 fun t43 =>
 af .neq t38 t43 fun t44 =>
 av t44 (
 ah t28 (aa bC 1) 1 fun t49 =>
 au M_2 t49 fun t50 =>
 ah a0 (aa bC 0) 1 fun t51 =>
 aF M_2 t51 t50 1 fun M_3 =>
 af .add (aa bC 0) (N .i64 1) fun t53 =>
 J [t53] M_3) (
 J [(aa bC 0)] M_2)) (fun xR M_5 =>
 af .add (aa bC 1) (N .i64 1) fun t34 =>
 qB [(aa xR 0),t34] M_5)) (
 iB (cZ 1 a0 (some (aa bC 0)) none none) fun t56 =>
 Pw [(N .u64 0)] t56 M_2 fun u M_6 =>
 iB (cZ 1 a0 none (some (aa bC 0)) none) fun t59 =>
 Q t59 M_6)) [(aa xs 0),(N .i64 1)] M) (
 af .add (aa xs 0) (N .i64 1) fun t15 =>
 next [t15] M)) (
 Q a0 M)) [(N .i64 1)] M0)
def yF (a0:AV) (M0:RM) (Q:aj) : Prop :=
 aM (fun next xs M =>
 dx a0 fun t5 =>
 aI t5 1 fun t6 =>
 au M t6 fun t7 =>
 bu t7 fun t8 =>
 af .lss (aa xs 0) t8 fun t9 =>
 ae t9 true (fun k=>k a0 M none) (fun k=>k .undef M none) fun bM M_0 b =>
 ae t9 true (fun k_1=>dx bM fun t12 =>
 k_1 t12 M_0 none) (fun k=>k .undef M_0 none) fun auF M_3 b_4 =>
 ae t9 true (fun k_5=>aI auF 1 fun t13 =>
 k_5 t13 M_3 none) (fun k=>k .undef M_3 none) fun aek M_7 b_8 =>
 ae t9 true (fun k_9=>au M_7 aek fun t14 =>
 k_9 t14 M_7 none) (fun k=>k .undef M_7 none) fun Yw df Kg =>
 ae t9 true (fun nG=>nG (aa xs 0) df none) (fun k=>k .undef df none) fun t15 fV adz =>
 ae t9 true (fun zo=>ah Yw t15 1 fun t16 =>
 zo t16 fV none) (fun k=>k .undef fV none) fun anG dG IW =>
 ae t9 true (fun iZ=>au dG anG fun t17 =>
 iZ t17 dG none) (fun k=>k .undef dG none) fun amX fD IM =>
 ae t9 true (fun nE=>nE a0 fD none) (fun k=>k .undef fD none) fun t18 fe Et =>
 ae t9 true (fun l6=>dx t18 fun t19 =>
 l6 t19 fe none) (fun k=>k .undef fe none) fun aoE fo yB =>
 ae t9 true (fun iE=>aI aoE 0 fun t20 =>
 iE t20 fo none) (fun k=>k .undef fo none) fun aoG eY Kb =>
 ae t9 true (fun jr=>au eY aoG fun t21 =>
 jr t21 eY none) (fun k=>k .undef eY none) fun anc dh CJ =>
 ae t9 true (fun su=>af .add anc (N .u64 1) fun t22 =>
 su t22 dh none) (fun k=>k .undef dh none) fun aqc eT Cg =>
 ae t9 true (fun zk=>af .leq amX aqc fun t23 =>
 zk t23 eT none) (fun k=>k .undef eT none) fun aqa jS ahf =>
 aK t9 aqa (Bo false) fun t24 =>
 av t24 (
 dx a0 fun t27 =>
 aI t27 0 fun t28 =>
 au jS t28 fun t29 =>
 dx a0 fun t31 =>
 aI t31 1 fun t32 =>
 au jS t32 fun t33 =>
 ah t33 (aa xs 0) 1 fun t35 =>
 au jS t35 fun t36 =>
 Su true t29 t36 fun t37 =>
 dx a0 fun t38 =>
 aI t38 0 fun t39 =>
 aF jS t39 t37 1 fun mR =>
 af .add (aa xs 0) (N .i64 1) fun t41 =>
 next [t41] mR) (
 dx a0 fun t44 =>
 aI t44 1 fun t45 =>
 au jS t45 fun t46 =>
 iB (cZ 1 t46 (some (aa xs 0)) none none) fun t48 =>
 dx a0 fun t49 =>
 aI t49 1 fun t50 =>
 aF jS t50 t48 1 fun il =>
 Q (.tup []) il)) [(N .i64 0)] M0
def ql (p1 p2:ak) (a0 a1:AV) (M0:RM) (Q:aj) : Prop :=
 bu a0 fun bM =>
 aM (fun next xs M =>
 af .lss (aa xs 0) (aa xs 1) fun t15 =>
 av t15 (
 af .add (aa xs 0) (aa xs 1) fun t18 =>
 qA .u64 t18 fun t19 =>
 FP .shr t19 (N .u64 1) fun t20 =>
 qA .i64 t20 fun t21 =>
 ah a0 t21 1 fun t24 =>
 au M t24 fun t25 =>
 p1 [t25,a1] M fun t27 M_0 =>
 av t27 (
 af .add t21 (N .i64 1) fun t29 =>
 next [t29,(aa xs 1)] M_0) (
 next [(aa xs 0),t21] M_0)) (
 af .lss (aa xs 0) bM fun t34 =>
 ai t34 true (fun k=>k a0 M) (fun k=>k .undef M) fun t36 M_1 =>
 ai t34 true (fun k_2=>k_2 (aa xs 0) M_1) (fun k=>k .undef M_1) fun t37 M_3 =>
 ai t34 true (fun k_4=>ah t36 t37 1 fun t38 =>
 k_4 t38 M_3) (fun k=>k .undef M_3) fun aue M_6 =>
 ai t34 true (fun k_7=>au M_6 aue fun t39 =>
 k_7 t39 M_6) (fun k=>k .undef M_6) fun atn M_9 =>
 ai t34 true (fun kN=>kN a1 M_9) (fun k=>k .undef M_9) fun t40 df =>
 ai t34 true (fun nS=>af .eql atn t40 fun t41 =>
 nS t41 df) (fun k=>k .undef df) fun aqL fV =>
 ai t34 true (fun qN=>qN aqL fV) (fun k=>k .undef fV) fun t42 cK =>
 ai t42 false (fun jG=>jG a0 cK) (fun k=>k .undef cK) fun t43 dG =>
 ai t42 false (fun sI=>sI (aa xs 0) dG) (fun k=>k .undef dG) fun t44 jA =>
 ai t42 false (fun nD=>ah t43 t44 1 fun t45 =>
 nD t45 jA) (fun k=>k .undef jA) fun aq9 iQ =>
 ai t42 false (fun nE=>au iQ aq9 fun t46 =>
 nE t46 iQ) (fun k=>k .undef iQ) fun aqC gF =>
 ai t42 false (fun l6=>p2 [aqC] gF fun t47 kw =>
 l6 t47 kw) (fun k=>k .undef gF) fun ar1 fQ =>
 ai t42 false (fun iE=>iE ar1 fQ) (fun k=>k .undef fQ) fun t48 iR =>
 ai t48 true (fun Nw=>Nw a1 iR) (fun k=>k .undef iR) fun t49 eU =>
 ai t48 true (fun jr=>p2 [t49] eU fun t50 jF =>
 jr t50 jF) (fun k=>k .undef eU) fun amn qX =>
 ai t42 false (fun su=>aK t48 amn (Bo false) fun t51 =>
 su t51 qX) (fun k=>k .undef qX) fun apM eT =>
 ai t34 true (fun wh=>aK t42 (Bo true) apM fun t52 =>
 wh t52 eT) (fun k=>k .undef eT) fun arM l7 =>
 aK t34 arM (Bo false) fun t53 =>
 Q (.tup [(aa xs 0),t53]) l7)) [(N .i64 0),bM] M0
def pq (p1:Nat) (p2 p3:ak) (a0 a1 a2:AV) (M0:RM) (Q:aj) : Prop :=
 iB (cZ 1 a0 (some a1) none none) fun t12 =>
 bu a2 fun t14 =>
 af .eql t14 (N .i64 0) fun t16 =>
 av t16 (
 Q a0 M0) (
 bu a0 fun t19 =>
 af .eql a1 t19 fun t22 =>
 av t22 (
 appW p1 1 8 [(N .u64 0)] false a0 a2 M0 fun t25 M =>
 Q t25 M) (
 af .add t19 t14 fun t28 =>
 Fg a0 fun t30 =>
 af .gtr t28 t30 fun t31 =>
 av t31 (
 iB (cZ 1 a0 none (some a1) none) fun t34 =>
 af .add t19 t14 fun t37 =>
 af .sub t37 a1 fun t39 =>
 appW p1 1 8 [(N .u64 0)] true t34 t39 M0 fun t40 M_0 =>
 iB (cZ 1 t40 (some a1) none none) fun t43 =>
 El 1 t43 a2 M_0 fun t45 M_1 =>
 af .add a1 t14 fun t49 =>
 iB (cZ 1 t40 (some t49) none none) fun t50 =>
 iB (cZ 1 a0 (some a1) none none) fun t53 =>
 El 1 t50 t53 M_1 fun t54 M_2 =>
 Q t40 M_2) (
 af .add t19 t14 fun t59 =>
 iB (cZ 1 a0 none (some t59) none) fun t60 =>
 af .add a1 t14 fun t65 =>
 iB (cZ 1 t60 (some t65) none none) fun t66 =>
 p2 [a2,t66] M0 fun t67 M_3 =>
 dM t67 fun t68 =>
 av t68 (
 af .add a1 t14 fun t72 =>
 iB (cZ 1 t60 (some t72) none none) fun t73 =>
 iB (cZ 1 t60 (some a1) none none) fun t76 =>
 El 1 t73 t76 M_3 fun t77 M_4 =>
 iB (cZ 1 t60 (some a1) none none) fun t80 =>
 El 1 t80 a2 M_4 fun t82 M_5 =>
 Q t60 M_5) (
 iB (cZ 1 t60 (some t19) none none) fun t86 =>
 El 1 t86 a2 M_3 fun t88 M_6 =>
 iB (cZ 1 t60 (some a1) none none) fun t91 =>
 p3 [t91,t14] M_6 fun t93 M_7 =>
 Q t60 M_7))))
def AJ (p1 p2:Nat) (a0 a1:AV) (M0:RM) (Q:aj) : Prop :=
 bQ (fun J =>
 af .lss a1 (N .i64 0) fun t6 =>
 av t6 (
 False) (
 J [] M0)) (fun xs M =>
 bQ (fun J_0 =>
 Fg a0 fun bW =>
 bu a0 fun t12 =>
 af .sub bW t12 fun t13 =>
 af .sub a1 t13 fun t14 =>
 af .gtr t14 (N .i64 0) fun t16 =>
 av t16 (
 Fg a0 fun t19 =>
 iB (cZ 1 a0 none (some t19) none) fun t20 =>
 appW p2 1 8 [(N .u64 0)] true t20 t14 M fun t22 M_1 =>
 bu a0 fun t24 =>
 iB (cZ 1 t22 none (some t24) none) fun t25 =>
 J_0 [t25] M_1) (
 J_0 [a0] M)) (fun fw M_3 =>
 Q (aa fw 0) M_3))
def iP (p1 p2 p3 p4 p5 p6 p7 p8 p9 p10:ak) (a0 a1 a2 a3:AV) (M0:RM) (Q:aj) : Prop :=
 aM (fun next xs M =>
 af .sub (aa xs 1) (aa xs 0) fun t21 =>
 af .leq t21 (N .i64 12) fun t23 =>
 av t23 (
 p1 [a0,(aa xs 0),(aa xs 1)] M fun t27 M_0 =>
 Q (.tup []) M_0) (
 af .eql (aa xs 2) (N .i64 0) fun t29 =>
 av t29 (
 p2 [a0,(aa xs 0),(aa xs 1)] M fun t33 M_1 =>
 Q (.tup []) M_1) (
 bQ (fun J =>
 dM (aa xs 3) fun t35 =>
 av t35 (
 p3 [a0,(aa xs 0),(aa xs 1)] M fun t39 M_2 =>
 af .sub (aa xs 2) (N .i64 1) fun t41 =>
 J [t41] M_2) (
 J [(aa xs 2)] M)) (fun bG M_4 =>
 p4 [a0,(aa xs 0),(aa xs 1)] M_4 fun t46 M_5 =>
 fI t46 0 fun t47 =>
 fI t46 1 fun t48 =>
 bQ (fun J_6 =>
 af .eql t48 (N .i64 2) fun t50 =>
 av t50 (
 p5 [a0,(aa xs 0),(aa xs 1)] M_5 fun t54 M_7 =>
 af .sub (aa xs 1) (N .i64 1) fun t56 =>
 af .sub t47 (aa xs 0) fun t59 =>
 af .sub t56 t59 fun t60 =>
 J_6 [t60,(N .i64 1)] M_7) (
 J_6 [t47,t48] M_5)) (fun vO M_9 =>
 bQ (fun La =>
 ai (aa xs 3) true (fun k=>k (aa xs 4) M_9) (fun k=>k .undef M_9) fun t63 df =>
 aK (aa xs 3) t63 (Bo false) fun t64 =>
 ai t64 true (fun nS=>nS (aa vO 1) df) (fun k=>k .undef df) fun t66 ed =>
 ai t64 true (fun ik=>af .eql t66 (N .i64 1) fun t67 =>
 ik t67 ed) (fun k=>k .undef ed) fun ap5 cK =>
 aK t64 ap5 (Bo false) fun t68 =>
 av t68 (
 p6 [a0,(aa xs 0),(aa xs 1)] cK fun t72 mq =>
 av t72 (
 Q (.tup []) mq) (
 La [] mq)) (
 La [] cK)) (fun aku dU =>
 af .gtr (aa xs 0) (N .i64 0) fun t74 =>
 ae t74 true (fun iZ=>iZ a0 dU none) (fun k=>k .undef dU none) fun t76 dz b =>
 ae t74 true (fun l9=>l9 (aa xs 0) dz none) (fun k=>k .undef dz none) fun t77 iQ Jw =>
 ae t74 true (fun mi=>af .sub t77 (N .i64 1) fun t78 =>
 mi t78 iQ none) (fun k=>k .undef iQ none) fun amI kg adn =>
 ae t74 true (fun Ox=>ah t76 amI 1 fun t79 =>
 Ox t79 kg none) (fun k=>k .undef kg none) fun arF nH aol =>
 ae t74 true (fun Nw=>au nH arF fun t80 =>
 Nw t80 nH none) (fun k=>k .undef nH none) fun an7 CF awR =>
 ae t74 true (fun Y0=>Y0 a0 CF none) (fun k=>k .undef CF none) fun t81 qX ag5 =>
 ae t74 true (fun wF=>wF (aa vO 0) qX none) (fun k=>k .undef qX none) fun t82 eT Cg =>
 ae t74 true (fun zk=>ah t81 t82 1 fun t83 =>
 zk t83 eT none) (fun k=>k .undef eT none) fun aon jS ahf =>
 ae t74 true (fun OO=>au jS aon fun t84 =>
 OO t84 jS none) (fun k=>k .undef jS none) fun ao7 mW arn =>
 ai t74 true (fun Cj=>p7 [an7,ao7] mW fun t85 yj =>
 Cj t85 yj) (fun k=>k .undef mW) fun aqz jE =>
 ae t74 true (fun yG=>dM aqz fun t86 =>
 yG t86 jE none) (fun k=>k .undef jE none) fun Y3 fM Nq =>
 aK t74 Y3 (Bo false) fun t87 =>
 av t87 (
 p8 [a0,(aa xs 0),(aa xs 1),(aa vO 0)] fM fun t92 ou =>
 next [t92,(aa xs 1),(aa bG 0),(aa xs 3),(aa xs 4)] ou) (
 p9 [a0,(aa xs 0),(aa xs 1),(aa vO 0)] fM fun t99 iO =>
 fI t99 0 fun kP =>
 fI t99 1 fun lD =>
 af .sub kP (aa xs 0) fun t105 =>
 af .sub (aa xs 1) kP fun vV =>
 af .quo t21 (N .i64 8) fun wo =>
 af .lss t105 vV fun sJ =>
 av sJ (
 af .geq t105 wo fun t116 =>
 p10 [a0,(aa xs 0),kP,(aa bG 0)] iO fun Dp nK =>
 af .add kP (N .i64 1) fun CQ =>
 next [CQ,(aa xs 1),(aa bG 0),t116,lD] nK) (
 af .geq vV wo fun Gu =>
 af .add kP (N .i64 1) fun tN =>
 p10 [a0,tN,(aa xs 1),(aa bG 0)] iO fun yN qY =>
 next [(aa xs 0),kP,(aa bG 0),Gu,lD] qY)))))))) [a1,a2,a3,(Bo true),(Bo true)] M0
def xy (p1 p2:ak) (a0:AV) (M0:RM) (Q:aj) : Prop :=
 av (Bo false) (
 qA .u32 a0 fun t4 =>
 p1 [t4] M0 fun t5 M =>
 Q t5 M) (
 p2 [a0] M0 fun t7 M_0 =>
 Q t7 M_0)
def Aq (p1:ak) (a0 a1:AV) (M0:RM) (Q:aj) : Prop :=
 p1 [a0] M0 fun t6 M =>
 ai t6 true (fun k=>k a1 M) (fun k=>k .undef M) fun t8 M_0 =>
 ai t6 true (fun k_1=>p1 [t8] M_0 fun t9 M_2 =>
 k_1 t9 M_2) (fun k=>k .undef M_0) fun ai1 M_4 =>
 ai t6 true (fun k_5=>dM ai1 fun bW =>
 k_5 bW M_4) (fun k=>k .undef M_4) fun atN M_7 =>
 aK t6 atN (Bo false) fun bM =>
 ai bM false (fun k_8=>k_8 a0 M_7) (fun k=>k .undef M_7) fun t13 M_9 =>
 ai bM false (fun kN=>kN a1 M_9) (fun k=>k .undef M_9) fun t14 df =>
 ai bM false (fun nS=>af .lss t13 t14 fun t15 =>
 nS t15 df) (fun k=>k .undef df) fun ao2 fV =>
 aK bM (Bo true) ao2 fun t16 =>
 Q t16 fV
def vG (a0:AV) (M0:RM) (Q:aj) : Prop :=
 af .neq a0 a0 fun t5 =>
 Q t5 M0
def fU (p1:ak) (a0 a1 a2:AV) (M0:RM) (Q:aj) : Prop :=
 af .add a1 (N .i64 1) fun t9 =>
 aM (fun next xs M =>
 af .lss (aa xs 0) a2 fun t12 =>
 av t12 (
 aM (fun qB bC M_2 =>
 af .gtr (aa bC 0) a1 fun t18 =>
 ae t18 true (fun k=>k a0 M_2 none) (fun k=>k .undef M_2 none) fun t20 M_3 b =>
 ae t18 true (fun k_4=>k_4 (aa bC 0) M_3 none) (fun k=>k .undef M_3 none) fun t21 M_5 b_6 =>
 ae t18 true (fun k_7=>ah t20 t21 1 fun t22 =>
 k_7 t22 M_5 none) (fun k=>k .undef M_5 none) fun acU M_9 aim =>
 ae t18 true (fun nu=>au M_9 acU fun t23 =>
 nu t23 M_9 none) (fun k=>k .undef M_9 none) fun aoT ed adC =>
 ae t18 true (fun qN=>qN a0 ed none) (fun k=>k .undef ed none) fun t24 cK Al =>
 ae t18 true (fun nQ=>nQ (aa bC 0) cK none) (fun k=>k .undef cK none) fun t25 dU Kh =>
 ae t18 true (fun nD=>af .sub t25 (N .i64 1) fun t26 =>
 nD t26 dU none) (fun k=>k .undef dU none) fun aro iQ Jw =>
 ae t18 true (fun mi=>ah t24 aro 1 fun t27 =>
 mi t27 iQ none) (fun k=>k .undef iQ none) fun anf kg adn =>
 ae t18 true (fun Ox=>au kg anf fun t28 =>
 Ox t28 kg none) (fun k=>k .undef kg none) fun arG nH aol =>
 ai t18 true (fun Nw=>p1 [aoT,arG] nH fun t29 eU =>
 Nw t29 eU) (fun k=>k .undef nH) fun aox jF =>
 aK t18 aox (Bo false) fun t30 =>
 av t30 (
 af .sub (aa bC 0) (N .i64 1) fun t37 =>
 af .sub (aa bC 0) (N .i64 1) fun t40 =>
 ah a0 t40 1 fun t41 =>
 au jF t41 fun t42 =>
 ah a0 (aa bC 0) 1 fun t45 =>
 au jF t45 fun t46 =>
 ah a0 (aa bC 0) 1 fun t47 =>
 aF jF t47 t42 1 fun dh =>
 ah a0 t37 1 fun t48 =>
 aF dh t48 t46 1 fun qX =>
 af .sub (aa bC 0) (N .i64 1) fun t32 =>
 qB [t32] qX) (
 af .add (aa xs 0) (N .i64 1) fun t14 =>
 next [t14] jF)) [(aa xs 0)] M) (
 Q (.tup []) M)) [t9] M0
def nN (p1:ak) (a0 a1 a2:AV) (M0:RM) (Q:aj) : Prop :=
 af .sub a2 a1 fun t14 =>
 af .sub t14 (N .i64 1) fun t16 =>
 af .quo t16 (N .i64 2) fun t17 =>
 aM (fun next xs M =>
 af .geq (aa xs 0) (N .i64 0) fun t19 =>
 av t19 (
 p1 [a0,(aa xs 0),t14,a1] M fun t26 M_0 =>
 af .sub (aa xs 0) (N .i64 1) fun t21 =>
 next [t21] M_0) (
 af .sub t14 (N .i64 1) fun t28 =>
 aM (fun x9 fw M_3 =>
 af .geq (aa fw 0) (N .i64 0) fun t30 =>
 av t30 (
 af .add a1 (aa fw 0) fun t38 =>
 af .add a1 (aa fw 0) fun t42 =>
 ah a0 t42 1 fun t43 =>
 au M_3 t43 fun t44 =>
 ah a0 a1 1 fun t47 =>
 au M_3 t47 fun t48 =>
 ah a0 a1 1 fun t49 =>
 aF M_3 t49 t44 1 fun M_4 =>
 ah a0 t38 1 fun t50 =>
 aF M_4 t50 t48 1 fun M_5 =>
 p1 [a0,(N .i64 0),(aa fw 0),a1] M_5 fun t55 M_6 =>
 af .sub (aa fw 0) (N .i64 1) fun t32 =>
 x9 [t32] M_6) (
 Q (.tup []) M_3)) [t28] M)) [t17] M0
def kC (p1:Nat) (p2 p3:ak) (a0 a1 a2:AV) (M0:RM) (Q:aj) : Prop :=
 af .sub a2 a1 fun t13 =>
 af .geq t13 (N .i64 8) fun t15 =>
 av t15 (
 qA .u64 t13 fun t17 =>
 bU (.row [(N .u64 0)] false p1 0) (fun b=>.ptr b 0) M0 fun t7 M =>
 aF M t7 t17 1 fun M_0 =>
 p2 [t13] M_0 fun t19 M_1 =>
 af .quo t13 (N .i64 4) fun t22 =>
 af .mul t22 (N .i64 2) fun t23 =>
 af .add a1 t23 fun t24 =>
 af .sub t24 (N .i64 1) fun t25 =>
 aM (fun next xs M_2 =>
 af .quo t13 (N .i64 4) fun t29 =>
 af .mul t29 (N .i64 2) fun t30 =>
 af .add a1 t30 fun t31 =>
 af .add t31 (N .i64 1) fun t32 =>
 af .leq (aa xs 0) t32 fun t33 =>
 av t33 (
 bQ (fun J =>
 p3 [t7] M_2 fun t36 M_3 =>
 af .sub t19 (N .u64 1) fun t38 =>
 af .and t36 t38 fun t39 =>
 qA .i64 t39 fun t40 =>
 bQ (fun J_4 =>
 af .geq t40 t13 fun t43 =>
 av t43 (
 af .sub t40 t13 fun t46 =>
 J_4 [t46] M_3) (
 J_4 [t40] M_3)) (fun kT M_6 =>
 af .add a1 (aa kT 0) fun t52 =>
 af .add a1 (aa kT 0) fun t56 =>
 ah a0 t56 1 fun t57 =>
 au M_6 t57 fun t58 =>
 ah a0 (aa xs 0) 1 fun t61 =>
 au M_6 t61 fun t62 =>
 ah a0 (aa xs 0) 1 fun t63 =>
 aF M_6 t63 t58 1 fun M_7 =>
 ah a0 t52 1 fun t64 =>
 aF M_7 t64 t62 1 fun M_8 =>
 J [] M_8)) (fun aoa dW =>
 af .add (aa xs 0) (N .i64 1) fun t35 =>
 next [t35] dW)) (
 Q (.tup []) M_2)) [t25] M_1) (
 Q (.tup []) M0)
def lm (p1:Nat) (p2 p3:ak) (a0 a1 a2:AV) (M0:RM) (Q:aj) : Prop :=
 af .sub a2 a1 fun t15 =>
 bU (.row [(N .i64 0)] false p1 0) (fun b=>.ptr b 0) M0 fun t9 M =>
 af .quo t15 (N .i64 4) fun t18 =>
 af .mul t18 (N .i64 1) fun t19 =>
 af .add a1 t19 fun t20 =>
 af .quo t15 (N .i64 4) fun t23 =>
 af .mul t23 (N .i64 2) fun t24 =>
 af .add a1 t24 fun t25 =>
 af .quo t15 (N .i64 4) fun t28 =>
 af .mul t28 (N .i64 3) fun t29 =>
 af .add a1 t29 fun t30 =>
 bQ (fun J =>
 af .geq t15 (N .i64 8) fun t32 =>
 av t32 (
 bQ (fun J_0 =>
 af .geq t15 (N .i64 50) fun t34 =>
 av t34 (
 p2 [a0,t20,t9] M fun t37 M_1 =>
 p2 [a0,t25,t9] M_1 fun t40 M_2 =>
 p2 [a0,t30,t9] M_2 fun t43 M_3 =>
 J_0 [t37,t40,t43] M_3) (
 J_0 [t20,t25,t30] M)) (fun xs M_4 =>
 p3 [a0,(aa xs 0),(aa xs 1),(aa xs 2),t9] M_4 fun t48 M_5 =>
 J [t48] M_5)) (
 J [t25] M)) (fun nk M_7 =>
 au M_7 t9 fun t49 =>
 af .eql t49 (N .i64 0) fun t52 =>
 av t52 (
 Q (.tup [(aa nk 0),(N .i64 1)]) M_7) (
 af .eql t49 (N .i64 12) fun t55 =>
 av t55 (
 Q (.tup [(aa nk 0),(N .i64 2)]) M_7) (
 Q (.tup [(aa nk 0),(N .i64 0)]) M_7)))
def kL (a0 a1 a2:AV) (M0:RM) (Q:aj) : Prop :=
 af .sub a2 (N .i64 1) fun bW =>
 aM (fun next xs M =>
 af .lss (aa xs 0) (aa xs 1) fun t13 =>
 av t13 (
 ah a0 (aa xs 1) 1 fun t20 =>
 au M t20 fun t21 =>
 ah a0 (aa xs 0) 1 fun t24 =>
 au M t24 fun t25 =>
 ah a0 (aa xs 0) 1 fun t26 =>
 aF M t26 t21 1 fun M_0 =>
 ah a0 (aa xs 1) 1 fun t27 =>
 aF M_0 t27 t25 1 fun M_1 =>
 af .add (aa xs 0) (N .i64 1) fun t29 =>
 af .sub (aa xs 1) (N .i64 1) fun t31 =>
 next [t29,t31] M_1) (
 Q (.tup []) M)) [a1,bW] M0
def iH (p1:ak) (a0 a1 a2:AV) (M0:RM) (Q:aj) : Prop :=
 af .add a1 (N .i64 1) fun t12 =>
 aM (fun next xs M =>
 af .lss (aa xs 1) (N .i64 5) fun t14 =>
 av t14 (
 bQ (fun J =>
 aM (fun qB bC M_2 =>
 af .lss (aa bC 0) a2 fun t19 =>
 ae t19 true (fun k=>k a0 M_2 none) (fun k=>k .undef M_2 none) fun t21 M_3 b =>
 ae t19 true (fun k_4=>k_4 (aa bC 0) M_3 none) (fun k=>k .undef M_3 none) fun t22 M_5 b_6 =>
 ae t19 true (fun k_7=>ah t21 t22 1 fun t23 =>
 k_7 t23 M_5 none) (fun k=>k .undef M_5 none) fun asL M_9 aim =>
 ae t19 true (fun nu=>au M_9 asL fun t24 =>
 nu t24 M_9 none) (fun k=>k .undef M_9 none) fun apW ed adC =>
 ae t19 true (fun qN=>qN a0 ed none) (fun k=>k .undef ed none) fun t25 cK Al =>
 ae t19 true (fun nQ=>nQ (aa bC 0) cK none) (fun k=>k .undef cK none) fun t26 dU Kh =>
 ae t19 true (fun nD=>af .sub t26 (N .i64 1) fun t27 =>
 nD t27 dU none) (fun k=>k .undef dU none) fun aru iQ Jw =>
 ae t19 true (fun mi=>ah t25 aru 1 fun t28 =>
 mi t28 iQ none) (fun k=>k .undef iQ none) fun an4 kg adn =>
 ae t19 true (fun Ox=>au kg an4 fun t29 =>
 Ox t29 kg none) (fun k=>k .undef kg none) fun arA nH aol =>
 ai t19 true (fun Nw=>p1 [apW,arA] nH fun t30 eU =>
 Nw t30 eU) (fun k=>k .undef nH) fun aok jF =>
 ae t19 true (fun Y0=>dM aok fun t31 =>
 Y0 t31 jF none) (fun k=>k .undef jF none) fun aqI iC aet =>
 aK t19 aqI (Bo false) fun t32 =>
 av t32 (
 af .add (aa bC 0) (N .i64 1) fun t34 =>
 qB [t34] iC) (
 af .eql (aa bC 0) a2 fun t37 =>
 av t37 (
 Q (Bo true) iC) (
 af .sub a2 a1 fun t40 =>
 af .lss t40 (N .i64 50) fun t41 =>
 av t41 (
 Q (Bo false) iC) (
 af .sub (aa bC 0) (N .i64 1) fun t46 =>
 af .sub (aa bC 0) (N .i64 1) fun t49 =>
 ah a0 t49 1 fun t50 =>
 au iC t50 fun t51 =>
 ah a0 (aa bC 0) 1 fun t54 =>
 au iC t54 fun t55 =>
 ah a0 (aa bC 0) 1 fun t56 =>
 aF iC t56 t51 1 fun eT =>
 ah a0 t46 1 fun t57 =>
 aF eT t57 t55 1 fun mJ =>
 bQ (fun ahu =>
 af .sub (aa bC 0) a1 fun t60 =>
 af .geq t60 (N .i64 2) fun t61 =>
 av t61 (
 af .sub (aa bC 0) (N .i64 1) fun t63 =>
 aM (fun ak6 DN fG =>
 af .geq (aa DN 0) (N .i64 1) fun t65 =>
 av t65 (
 ah a0 (aa DN 0) 1 fun t70 =>
 au fG t70 fun t71 =>
 af .sub (aa DN 0) (N .i64 1) fun t74 =>
 ah a0 t74 1 fun t75 =>
 au fG t75 fun t76 =>
 p1 [t71,t76] fG fun t77 mR =>
 dM t77 fun t78 =>
 av t78 (
 ahu [] mR) (
 af .sub (aa DN 0) (N .i64 1) fun t83 =>
 af .sub (aa DN 0) (N .i64 1) fun t86 =>
 ah a0 t86 1 fun t87 =>
 au mR t87 fun t88 =>
 ah a0 (aa DN 0) 1 fun t91 =>
 au mR t91 fun t92 =>
 ah a0 (aa DN 0) 1 fun t93 =>
 aF mR t93 t88 1 fun il =>
 ah a0 t83 1 fun t94 =>
 aF il t94 t92 1 fun mW =>
 af .sub (aa DN 0) (N .i64 1) fun t67 =>
 ak6 [t67] mW)) (
 ahu [] fG)) [t63] mJ) (
 ahu [] mJ)) (fun xs_50 wz =>
 af .sub a2 (aa bC 0) fun t97 =>
 af .geq t97 (N .i64 2) fun t98 =>
 av t98 (
 af .add (aa bC 0) (N .i64 1) fun kP =>
 aM (fun alP Dx jE =>
 af .lss (aa Dx 0) a2 fun wE =>
 av wE (
 ah a0 (aa Dx 0) 1 fun vV =>
 au jE vV fun t109 =>
 af .sub (aa Dx 0) (N .i64 1) fun nA =>
 ah a0 nA 1 fun sJ =>
 au jE sJ fun H5 =>
 p1 [t109,H5] jE fun Dn ku =>
 dM Dn fun t116 =>
 av t116 (
 J [(aa bC 0)] ku) (
 af .sub (aa Dx 0) (N .i64 1) fun Dp =>
 af .sub (aa Dx 0) (N .i64 1) fun t124 =>
 ah a0 t124 1 fun ig =>
 au ku ig fun Gu =>
 ah a0 (aa Dx 0) 1 fun tN =>
 au ku tN fun t130 =>
 ah a0 (aa Dx 0) 1 fun t131 =>
 aF ku t131 Gu 1 fun l8 =>
 ah a0 Dp 1 fun yN =>
 aF l8 yN t130 1 fun fM =>
 af .add (aa Dx 0) (N .i64 1) fun t105 =>
 alP [t105] fM)) (
 J [(aa bC 0)] jE)) [kP] wz) (
 J [(aa bC 0)] wz)))))) [(aa xs 0)] M) (fun auv ou =>
 af .add (aa xs 1) (N .i64 1) fun t16 =>
 next [(aa auv 0),t16] ou)) (
 Q (Bo false) M)) [t12,(N .i64 0)] M0
def j4 (p1:ak) (a0 a1 a2 a3:AV) (M0:RM) (Q:aj) : Prop :=
 ah a0 a3 1 fun t17 =>
 au M0 t17 fun t18 =>
 ah a0 a1 1 fun t21 =>
 au M0 t21 fun t22 =>
 ah a0 a1 1 fun t23 =>
 aF M0 t23 t18 1 fun M =>
 ah a0 a3 1 fun t24 =>
 aF M t24 t22 1 fun M_0 =>
 af .add a1 (N .i64 1) fun t26 =>
 af .sub a2 (N .i64 1) fun t28 =>
 aM (fun next xs M_1 =>
 aM (fun tJ bG M_4 =>
 af .leq (aa bG 0) (aa xs 1) fun t31 =>
 ae t31 true (fun k=>k a0 M_4 none) (fun k=>k .undef M_4 none) fun t33 M_5 b =>
 ae t31 true (fun k_6=>k_6 a1 M_5 none) (fun k=>k .undef M_5 none) fun t34 M_7 b_8 =>
 ae t31 true (fun k_9=>ah t33 t34 1 fun t35 =>
 k_9 t35 M_7 none) (fun k=>k .undef M_7 none) fun amC df Kg =>
 ae t31 true (fun nG=>au df amC fun t36 =>
 nG t36 df none) (fun k=>k .undef df none) fun ar3 fZ KP =>
 ae t31 true (fun jG=>jG a0 fZ none) (fun k=>k .undef fZ none) fun t37 dG IW =>
 ae t31 true (fun iZ=>iZ (aa bG 0) dG none) (fun k=>k .undef dG none) fun t38 dz KJ =>
 ae t31 true (fun nR=>ah t37 t38 1 fun t39 =>
 nR t39 dz none) (fun k=>k .undef dz none) fun amr fe Et =>
 ae t31 true (fun l6=>au fe amr fun t40 =>
 l6 t40 fe none) (fun k=>k .undef fe none) fun ari fo yB =>
 ai t31 true (fun iE=>p1 [ar3,ari] fo fun t41 iR =>
 iE t41 iR) (fun k=>k .undef fo) fun arf eU =>
 ae t31 true (fun jr=>dM arf fun t42 =>
 jr t42 eU none) (fun k=>k .undef eU none) fun ap1 dh CJ =>
 aK t31 ap1 (Bo false) fun t43 =>
 av t43 (
 af .add (aa bG 0) (N .i64 1) fun t45 =>
 tJ [t45] dh) (
 aM (fun FZ iy eT =>
 af .leq (aa bG 0) (aa iy 0) fun t48 =>
 ae t48 true (fun wh=>wh a0 eT none) (fun k=>k .undef eT none) fun t50 iL TC =>
 ae t48 true (fun zn=>zn a1 iL none) (fun k=>k .undef iL none) fun t51 fG SY =>
 ae t48 true (fun Hw=>ah t50 t51 1 fun t52 =>
 Hw t52 fG none) (fun k=>k .undef fG none) fun anj je SL =>
 ae t48 true (fun yJ=>au je anj fun t53 =>
 yJ t53 je none) (fun k=>k .undef je none) fun aoA jE ah6 =>
 ae t48 true (fun MW=>MW a0 jE none) (fun k=>k .undef jE none) fun t54 fM Nq =>
 ae t48 true (fun wD=>wD (aa iy 0) fM none) (fun k=>k .undef fM none) fun t55 iO Nu =>
 ae t48 true (fun tT=>ah t54 t55 1 fun t56 =>
 tT t56 iO none) (fun k=>k .undef iO none) fun anI kR aaf =>
 ae t48 true (fun OG=>au kR anI fun t57 =>
 OG t57 kR none) (fun k=>k .undef kR none) fun ao0 EN awD =>
 ai t48 true (fun Xd=>p1 [aoA,ao0] EN fun t58 rO =>
 Xd t58 rO) (fun k=>k .undef EN) fun Wm og =>
 aK t48 Wm (Bo false) fun t59 =>
 av t59 (
 af .sub (aa iy 0) (N .i64 1) fun t61 =>
 FZ [t61] og) (
 af .gtr (aa bG 0) (aa iy 0) fun t64 =>
 av t64 (
 Q (aa bG 0) og) (
 ah a0 (aa iy 0) 1 fun t71 =>
 au og t71 fun t72 =>
 ah a0 (aa bG 0) 1 fun t75 =>
 au og t75 fun t76 =>
 ah a0 (aa bG 0) 1 fun t77 =>
 aF og t77 t72 1 fun rJ =>
 ah a0 (aa iy 0) 1 fun t78 =>
 aF rJ t78 t76 1 fun Gr =>
 af .add (aa bG 0) (N .i64 1) fun t80 =>
 af .sub (aa iy 0) (N .i64 1) fun t82 =>
 next [t80,t82] Gr))) [(aa xs 1)] dh)) [(aa xs 0)] M_1) [t26,t28] M_0
def mP (p1:ak) (a0 a1 a2 a3:AV) (M0:RM) (Q:aj) : Prop :=
 ah a0 a3 1 fun t18 =>
 au M0 t18 fun t19 =>
 ah a0 a1 1 fun t22 =>
 au M0 t22 fun t23 =>
 ah a0 a1 1 fun t24 =>
 aF M0 t24 t19 1 fun M =>
 ah a0 a3 1 fun t25 =>
 aF M t25 t23 1 fun M_0 =>
 af .add a1 (N .i64 1) fun t27 =>
 af .sub a2 (N .i64 1) fun t29 =>
 aM (fun next xs M_1 =>
 af .leq (aa xs 0) t29 fun t32 =>
 ae t32 true (fun k=>k a0 M_1 none) (fun k=>k .undef M_1 none) fun t34 M_2 b =>
 ae t32 true (fun k_3=>k_3 (aa xs 0) M_2 none) (fun k=>k .undef M_2 none) fun t35 M_4 b_5 =>
 ae t32 true (fun k_6=>ah t34 t35 1 fun t36 =>
 k_6 t36 M_4 none) (fun k=>k .undef M_4 none) fun atf M_8 b_9 =>
 ae t32 true (fun kN=>au M_8 atf fun t37 =>
 kN t37 M_8 none) (fun k=>k .undef M_8 none) fun aq5 fA KZ =>
 ae t32 true (fun ik=>ik a0 fA none) (fun k=>k .undef fA none) fun t38 fZ KP =>
 ae t32 true (fun jG=>jG a1 fZ none) (fun k=>k .undef fZ none) fun t39 dG IW =>
 ae t32 true (fun iZ=>ah t38 t39 1 fun t40 =>
 iZ t40 dG none) (fun k=>k .undef dG none) fun ams fD IM =>
 ae t32 true (fun nE=>au fD ams fun t41 =>
 nE t41 fD none) (fun k=>k .undef fD none) fun aoH gF EZ =>
 ai t32 true (fun kQ=>p1 [aq5,aoH] gF fun t42 fo =>
 kQ t42 fo) (fun k=>k .undef gF) fun aqR nH =>
 aK t32 aqR (Bo false) fun t43 =>
 av t43 (
 af .add (aa xs 0) (N .i64 1) fun t45 =>
 next [t45] nH) (
 aM (fun alg zD eU =>
 af .leq (aa xs 0) (aa zD 0) fun t48 =>
 ae t48 true (fun jr=>jr a0 eU none) (fun k=>k .undef eU none) fun t50 jF ajm =>
 ae t48 true (fun yR=>yR (aa zD 0) jF none) (fun k=>k .undef jF none) fun t51 iC aet =>
 ae t48 true (fun CE=>ah t50 t51 1 fun t52 =>
 CE t52 iC none) (fun k=>k .undef iC none) fun anH iL TC =>
 ae t48 true (fun zn=>au iL anH fun t53 =>
 zn t53 iL none) (fun k=>k .undef iL none) fun ap2 mR ad8 =>
 ae t48 true (fun vL=>vL a0 mR none) (fun k=>k .undef mR none) fun t54 je SL =>
 ae t48 true (fun yJ=>yJ a1 je none) (fun k=>k .undef je none) fun t55 ic Oy =>
 ae t48 true (fun yG=>ah t54 t55 1 fun t56 =>
 yG t56 ic none) (fun k=>k .undef ic none) fun aqj fM Nq =>
 ae t48 true (fun wD=>au fM aqj fun t57 =>
 wD t57 fM none) (fun k=>k .undef fM none) fun anU nK awk =>
 ai t48 true (fun agE=>p1 [ap2,anU] nK fun t58 kR =>
 agE t58 kR) (fun k=>k .undef nK) fun apf x8 =>
 ae t48 true (fun Oz=>dM apf fun t59 =>
 Oz t59 x8 none) (fun k=>k .undef x8 none) fun amH om asa =>
 aK t48 amH (Bo false) fun t60 =>
 av t60 (
 af .sub (aa zD 0) (N .i64 1) fun t62 =>
 alg [t62] om) (
 af .gtr (aa xs 0) (aa zD 0) fun t65 =>
 av t65 (
 ah a0 a1 1 fun t72 =>
 au om t72 fun t73 =>
 ah a0 (aa zD 0) 1 fun t76 =>
 au om t76 fun t77 =>
 ah a0 (aa zD 0) 1 fun t78 =>
 aF om t78 t73 1 fun rO =>
 ah a0 a1 1 fun t79 =>
 aF rO t79 t77 1 fun JD =>
 Q (.tup [(aa zD 0),(Bo true)]) JD) (
 ah a0 (aa zD 0) 1 fun t87 =>
 au om t87 fun t88 =>
 ah a0 (aa xs 0) 1 fun t91 =>
 au om t91 fun t92 =>
 ah a0 (aa xs 0) 1 fun t93 =>
 aF om t93 t88 1 fun og =>
 ah a0 (aa zD 0) 1 fun t94 =>
 aF og t94 t92 1 fun rJ =>
 af .add (aa xs 0) (N .i64 1) fun t96 =>
 af .sub (aa zD 0) (N .i64 1) fun t98 =>
 aM (fun ak3 adg xW =>
 aM (fun alM zC Fb =>
 af .leq (aa zC 0) (aa adg 1) fun lD =>
 ae lD true (fun O4=>O4 a0 Fb none) (fun k=>k .undef Fb none) fun wE OD b_83 =>
 ae lD true (fun Wj=>Wj (aa zC 0) OD none) (fun k=>k .undef OD none) fun vP yE av5 =>
 ae lD true (fun agy=>ah wE vP 1 fun t105 =>
 agy t105 yE none) (fun k=>k .undef yE none) fun ak1 Dj awK =>
 ae lD true (fun ah2=>au Dj ak1 fun Cr =>
 ah2 Cr Dj none) (fun k=>k .undef Dj none) fun amj Ia awT =>
 ae lD true (fun HZ=>HZ a0 Ia none) (fun k=>k .undef Ia none) fun t107 CB anK =>
 ae lD true (fun Ol=>Ol a1 CB none) (fun k=>k .undef CB none) fun vV xD Vx =>
 ae lD true (fun Bu=>ah t107 vV 1 fun t109 =>
 Bu t109 xD none) (fun k=>k .undef xD none) fun ahn LC atZ =>
 ae lD true (fun aco=>au LC ahn fun wo =>
 aco wo LC none) (fun k=>k .undef LC none) fun ai7 xu atX =>
 ai lD true (fun PH=>p1 [amj,ai7] xu fun tu uz =>
 PH tu uz) (fun k=>k .undef xu) fun ai8 akK =>
 aK lD ai8 (Bo false) fun nA =>
 av nA (
 af .add (aa zC 0) (N .i64 1) fun H5 =>
 alM [H5] akK) (
 aM (fun ahb uT Eg =>
 af .leq (aa zC 0) (aa uT 0) fun t117 =>
 ae t117 true (fun ael=>ael a0 Eg none) (fun k=>k .undef Eg none) fun t119 Py asv =>
 ae t117 true (fun aef=>aef (aa uT 0) Py none) (fun k=>k .undef Py none) fun tV qf VE =>
 ae t117 true (fun Bl=>ah t119 tV 1 fun Dp =>
 Bl Dp qf none) (fun k=>k .undef qf none) fun aiF mM VP =>
 ae t117 true (fun Bz=>au mM aiF fun sG =>
 Bz sG mM none) (fun k=>k .undef mM none) fun agD Bj akH =>
 ae t117 true (fun Bc=>Bc a0 Bj none) (fun k=>k .undef Bj none) fun CQ ajq b_132 =>
 ae t117 true (fun aub=>aub a1 ajq none) (fun k=>k .undef ajq none) fun t124 akI b_135 =>
 ae t117 true (fun asu=>ah CQ t124 1 fun ig =>
 asu ig akI none) (fun k=>k .undef akI none) fun ah8 vg adi =>
 ae t117 true (fun IG=>au vg ah8 fun Gu =>
 IG Gu vg none) (fun k=>k .undef vg none) fun agM QP ato =>
 ai t117 true (fun aep=>p1 [agD,agM] QP fun t127 VO =>
 aep t127 VO) (fun k=>k .undef QP) fun ahU ajC =>
 ae t117 true (fun acb=>dM ahU fun Df =>
 acb Df ajC none) (fun k=>k .undef ajC none) fun aiW xI auA =>
 aK t117 aiW (Bo false) fun tN =>
 av tN (
 af .sub (aa uT 0) (N .i64 1) fun t131 =>
 ahb [t131] xI) (
 af .gtr (aa zC 0) (aa uT 0) fun yx =>
 av yx (
 ah a0 a1 1 fun t159 =>
 au xI t159 fun t160 =>
 ah a0 (aa uT 0) 1 fun awp =>
 au xI awp fun t164 =>
 ah a0 (aa uT 0) 1 fun axe =>
 aF xI axe t160 1 fun zJ =>
 ah a0 a1 1 fun axc =>
 aF zJ axc t164 1 fun atO =>
 Q (.tup [(aa uT 0),(Bo false)]) atO) (
 ah a0 (aa uT 0) 1 fun t141 =>
 au xI t141 fun O0 =>
 ah a0 (aa zC 0) 1 fun t145 =>
 au xI t145 fun t146 =>
 ah a0 (aa zC 0) 1 fun ahZ =>
 aF xI ahZ O0 1 fun VJ =>
 ah a0 (aa uT 0) 1 fun t148 =>
 aF VJ t148 t146 1 fun zq =>
 af .add (aa zC 0) (N .i64 1) fun awn =>
 af .sub (aa uT 0) (N .i64 1) fun t152 =>
 ak3 [awn,t152] zq))) [(aa adg 1)] akK)) [(aa adg 0)] xW) [t96,t98] rJ))) [t29] nH)) [t27] M_0
def uN (a0:AV) (M0:RM) (Q:aj) : Prop :=
 bQ (fun J =>
 af .geq a0 (N .u64 4294967296) fun t4 =>
 av t4 (
 FP .shr a0 (N .u64 32) fun t6 =>
 J [t6,(N .i64 32)] M0) (
 J [a0,(N .i64 0)] M0)) (fun xs M =>
 bQ (fun J_0 =>
 af .geq (aa xs 0) (N .u64 65536) fun t8 =>
 av t8 (
 FP .shr (aa xs 0) (N .u64 16) fun bW =>
 af .add (aa xs 1) (N .i64 16) fun t12 =>
 J_0 [bW,t12] M) (
 J_0 [(aa xs 0),(aa xs 1)] M)) (fun bC M_2 =>
 bQ (fun J_3 =>
 af .geq (aa bC 0) (N .u64 256) fun t14 =>
 av t14 (
 FP .shr (aa bC 0) (N .u64 8) fun t16 =>
 af .add (aa bC 1) (N .i64 8) fun t18 =>
 J_3 [t16,t18] M_2) (
 J_3 [(aa bC 0),(aa bC 1)] M_2)) (fun xR M_5 =>
 qA .u8 (aa xR 0) fun t21 =>
 Xf (St [0,1,2,2,3,3,3,3,4,4,4,4,4,4,4,4,5,5,5,5,5,5,5,5,5,5,5,5,5,5,5,5,6,6,6,6,6,6,6,6,6,6,6,6,6,6,6,6,6,6,6,6,6,6,6,6,6,6,6,6,6,6,6,6,7,7,7,7,7,7,7,7,7,7,7,7,7,7,7,7,7,7,7,7,7,7,7,7,7,7,7,7,7,7,7,7,7,7,7,7,7,7,7,7,7,7,7,7,7,7,7,7,7,7,7,7,7,7,7,7,7,7,7,7,7,7,7,7,8,8,8,8,8,8,8,8,8,8,8,8,8,8,8,8,8,8,8,8,8,8,8,8,8,8,8,8,8,8,8,8,8,8,8,8,8,8,8,8,8,8,8,8,8,8,8,8,8,8,8,8,8,8,8,8,8,8,8,8,8,8,8,8,8,8,8,8,8,8,8,8,8,8,8,8,8,8,8,8,8,8,8,8,8,8,8,8,8,8,8,8,8,8,8,8,8,8,8,8,8,8,8,8,8,8,8,8,8,8,8,8,8,8,8,8,8,8,8,8,8,8,8,8,8,8,8,8]) t21 fun t22 =>
 qA .i64 t22 fun t23 =>
 af .add (aa xR 1) t23 fun t24 =>
 Q t24 M_5)))
def uw (a0:AV) (M0:RM) (Q:aj) : Prop :=
 af .neq a0 a0 fun t5 =>
 Q t5 M0
def nO (p1:ak) (a0 a1 a2 a3:AV) (M0:RM) (Q:aj) : Prop :=
 aM (fun next xs M =>
 af .mul (N .i64 2) (aa xs 0) fun t12 =>
 af .add t12 (N .i64 1) fun t13 =>
 af .geq t13 a2 fun t16 =>
 av t16 (
 Q (.tup []) M) (
 bQ (fun J =>
 af .add t13 (N .i64 1) fun t18 =>
 af .lss t18 a2 fun t20 =>
 ae t20 true (fun k=>k a0 M none) (fun k=>k .undef M none) fun t22 M_0 b =>
 ae t20 true (fun k_1=>k_1 a3 M_0 none) (fun k=>k .undef M_0 none) fun t23 M_2 b_3 =>
 ae t20 true (fun k_4=>k_4 t13 M_2 none) (fun k=>k .undef M_2 none) fun t24 M_5 b_6 =>
 ae t20 true (fun k_7=>af .add t23 t24 fun t25 =>
 k_7 t25 M_5 none) (fun k=>k .undef M_5 none) fun atW M_9 aim =>
 ae t20 true (fun nu=>ah t22 atW 1 fun t26 =>
 nu t26 M_9 none) (fun k=>k .undef M_9 none) fun am4 ed adC =>
 ae t20 true (fun qN=>au ed am4 fun t27 =>
 qN t27 ed none) (fun k=>k .undef ed none) fun aq8 mq ana =>
 ae t20 true (fun sI=>sI a0 mq none) (fun k=>k .undef mq none) fun t28 jA acS =>
 ae t20 true (fun l9=>l9 a3 jA none) (fun k=>k .undef jA none) fun t29 iQ Jw =>
 ae t20 true (fun mi=>mi t13 iQ none) (fun k=>k .undef iQ none) fun t30 gF EZ =>
 ae t20 true (fun kQ=>af .add t29 t30 fun t31 =>
 kQ t31 gF none) (fun k=>k .undef gF none) fun Kk fQ RU =>
 ae t20 true (fun vR=>af .add Kk (N .i64 1) fun t32 =>
 vR t32 fQ none) (fun k=>k .undef fQ none) fun KA eU RA =>
 ae t20 true (fun zh=>ah t28 KA 1 fun t33 =>
 zh t33 eU none) (fun k=>k .undef eU none) fun aoM qX ag5 =>
 ae t20 true (fun wF=>au qX aoM fun t34 =>
 wF t34 qX none) (fun k=>k .undef qX none) fun Km mJ X7 =>
 ai t20 true (fun Cn=>p1 [aq8,Km] mJ fun t35 jS =>
 Cn t35 jS) (fun k=>k .undef mJ) fun apm mR =>
 aK t20 apm (Bo false) fun t36 =>
 av t36 (
 af .add t13 (N .i64 1) fun t38 =>
 J [t38] mR) (
 J [t13] mR)) (fun Vy mW =>
 af .add a3 (aa xs 0) fun t42 =>
 ah a0 t42 1 fun t43 =>
 au mW t43 fun t44 =>
 af .add a3 (aa Vy 0) fun t48 =>
 ah a0 t48 1 fun t49 =>
 au mW t49 fun t50 =>
 p1 [t44,t50] mW fun t51 je =>
 dM t51 fun t52 =>
 av t52 (
 Q (.tup []) je) (
 af .add a3 (aa xs 0) fun t56 =>
 af .add a3 (aa Vy 0) fun t60 =>
 af .add a3 (aa Vy 0) fun t64 =>
 ah a0 t64 1 fun t65 =>
 au je t65 fun t66 =>
 af .add a3 (aa xs 0) fun t70 =>
 ah a0 t70 1 fun t71 =>
 au je t71 fun t72 =>
 ah a0 t56 1 fun t73 =>
 aF je t73 t66 1 fun wz =>
 ah a0 t60 1 fun t74 =>
 aF wz t74 t72 1 fun yj =>
 next [(aa Vy 0)] yj)))) [a1] M0
def wG (p1:ak) (a0:AV) (M0:RM) (Q:aj) : Prop :=
 qA .u64 a0 fun t4 =>
 p1 [t4] M0 fun t5 M =>
 FP .shl (N .u64 1) t5 fun t6 =>
 Q t6 M
def oO (a0:AV) (M0:RM) (Q:aj) : Prop :=
 dx a0 fun t4 =>
 au M0 t4 fun t5 =>
 dx a0 fun t7 =>
 au M0 t7 fun t8 =>
 FP .shl t8 (N .u64 13) fun t9 =>
 af .xor t5 t9 fun bW =>
 dx a0 fun bM =>
 aF M0 bM bW 1 fun M =>
 dx a0 fun t13 =>
 au M t13 fun t14 =>
 dx a0 fun t16 =>
 au M t16 fun t17 =>
 FP .shr t17 (N .u64 7) fun t18 =>
 af .xor t14 t18 fun t19 =>
 dx a0 fun t20 =>
 aF M t20 t19 1 fun M_0 =>
 dx a0 fun t22 =>
 au M_0 t22 fun t23 =>
 dx a0 fun t25 =>
 au M_0 t25 fun t26 =>
 FP .shl t26 (N .u64 17) fun t27 =>
 af .xor t23 t27 fun t28 =>
 dx a0 fun t29 =>
 aF M_0 t29 t28 1 fun M_1 =>
 dx a0 fun t31 =>
 au M_1 t31 fun t32 =>
 Q t32 M_1
def jY (p1:ak) (a0 a1 a2:AV) (M0:RM) (Q:aj) : Prop :=
 af .sub a1 (N .i64 1) fun t9 =>
 af .add a1 (N .i64 1) fun t12 =>
 p1 [a0,t9,a1,t12,a2] M0 fun t14 M =>
 Q t14 M
def pM (p1:ak) (a0 a1 a2 a3 a4:AV) (M0:RM) (Q:aj) : Prop :=
 p1 [a0,a1,a2,a4] M0 fun t16 M =>
 fI t16 0 fun t17 =>
 fI t16 1 fun t18 =>
 p1 [a0,t18,a3,a4] M fun t24 M_0 =>
 fI t24 0 fun t25 =>
 fI t24 1 fun t26 =>
 p1 [a0,t17,t25,a4] M_0 fun t32 M_1 =>
 fI t32 0 fun t33 =>
 fI t32 1 fun t34 =>
 Q t34 M_1
def pX (p1:ak) (a0 a1 a2 a3:AV) (M0:RM) (Q:aj) : Prop :=
 ah a0 a2 1 fun t12 =>
 au M0 t12 fun t13 =>
 ah a0 a1 1 fun t16 =>
 au M0 t16 fun t17 =>
 p1 [t13,t17] M0 fun t18 M =>
 av t18 (
 dx a3 fun t20 =>
 au M t20 fun t21 =>
 af .add t21 (N .i64 1) fun t22 =>
 dx a3 fun t23 =>
 aF M t23 t22 1 fun M_0 =>
 Q (.tup [a2,a1]) M_0) (
 Q (.tup [a1,a2]) M)
end Go.Ab.aH
