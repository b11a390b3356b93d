/- Part 3 of the ground of the proofs of this seat (texts R9 to H2). By an AI agent. -/
import Derived.Test.YtmjcgbaacndblaaGreatDoorHwp2
import Derived.Scope
import Derived.ChangeShapes
import Derived.OpenShut
import Derived.WideKeyArgs
import GoSem.ClaimJoined
import Derived.Lib.Bytealg
import Derived.Lib.DecodeN
import Derived.Lib.ValidU
import Derived.Lib.ValidLaws
import Derived.Carry
import Derived.JoinedCond
import Derived.SizedLaws
import GoSem.Extern.Atomic
import GoSem.Extern.MapsClone
import Derived.Lib.SlTrimSet
set_option linter.unusedVariables false
set_option linter.unusedSimpArgs false
namespace Go.Ab
open Go Go.RowKit
def GM:Option Tmp→Nat
 | some d=>2 ^ d
 | none=>0
def LX:Operand→Nat
 | .tmp t=>2 ^ t
 | _=>0
def LV:List Operand→Nat
 | []=>0
 | x :: xs=>LX x ||| LV xs
def Ng (L m:Nat) : Nat:=L ^^^ (L &&& m)
def Cn:List Oper→Nat
 | []=>0
 | o :: os=>GM o.dst ||| Cn os
def eF:Nat→Code→Nat
 | 0,_=>0
 | f + 1,c=>match c with
   | .region _ ops _=>Cn ops.toList
   | .seq a b=>eF f a ||| eF f b
   | .cond _ a b=>eF f a ||| eF f b
   | .block _ c=>eF f c
   | .loop c=>eF f c
   | .scope c=>eF f c
   | _=>0
def IA:List Oper→Nat→Nat
 | [],L=>L
 | o :: os,L=>Ng (IA os L) (GM o.dst) ||| LV o.op.operands.toList
def K7:List (Nat × Nat)→Nat→Nat
 | [],_=>0
 | (i,L) :: r,id=>match Nat.beq i id with
   | true=>L
   | false=>K7 r id
def eT (ret:Nat) : Nat→List (Nat × Nat)→Code→Nat→Nat
 | 0,_,_,_=>0
 | f + 1,env,c,L=>match c with
   | .skip=>L
   | .region _ ops _=>IA ops.toList L
   | .seq a b=>eT ret f env a (eT ret f env b L)
   | .cond c a b=>LX c ||| eT ret f env a L ||| eT ret f env b L
   | .block id c=>eT ret f ((id,L) :: env) c L
   | .loop c=>eT ret f env c (eT ret f env c 0)
   | .exit id=>K7 env id
   | .ret=>ret
   | .scope c=>eT ret f env c L
   | .label _=>L
   | _=>0
def cap2 (n:Nat) : Nat:=match n with | 0=>0 | 1=>1 | _=>2
def nY (id:Nat) : Nat→Code→Nat
 | 0,_=>2
 | f + 1,c=>match c with
   | .seq a b=>cap2 (nY id f a + nY id f b)
   | .cond _ a b=>cap2 (nY id f a + nY id f b)
   | .block _ c=>nY id f c
   | .loop c=>nY id f c
   | .exit i=>match Nat.beq i id with | true=>1 | false=>0
   | _=>0
def rO:Nat→Code→Nat
 | 0,_=>2
 | f + 1,c=>match c with
   | .skip=>1
   | .region _ _ _=>1
   | .seq a b=>cap2 (rO f a * rO f b)
   | .cond _ a b=>cap2 (rO f a + rO f b)
   | .block id c=>cap2 (rO f c + nY id f c)
   | .scope c=>rO f c
   | .label _=>1
   | _=>0
def uA (m:Nat) : Nat→Nat→List Nat
 | _,0=>[]
 | i,n + 1=>match Nat.testBit m i with
   | true=>i :: uA m (i + 1) n
   | false=>uA m (i + 1) n
def bitsOf (m nt:Nat) : List Nat:=uA m 0 nt
def tV (T:Tree AV) : List Nat→List AV
 | []=>[]
 | t :: ts=>(T.get t).getD .top :: tV T ts
def ax:List AV→Nat→AV
 | [],_=>.top
 | x :: _,0=>x
 | _ :: xs,n + 1=>ax xs n
def vV (T:Tree AV) : List Nat→Tree AV
 | []=>T
 | t :: ts=>vV (T.set t .top) ts
def GA (T:Tree AV) (xs:List AV) : Nat→List Nat→Tree AV
 | _,[]=>T
 | i,t :: ts=>GA (T.set t (ax xs i)) xs (i + 1) ts
def u7 (T:Tree AV) (asg vs:List Nat) (xs:List AV) : Tree AV:=GA (vV T asg) xs 0 vs
def au (x:AV) (p q:Prop) : Prop :=
 match x with
 | .sc (.bool b)=>(b=true→p)∧(b=false→q)
 | _=>False
def dN (f:(List AV→RM→Prop)→Prop) (g:List AV→RM→Prop) : Prop:=f g
def gu (body:(List AV→RM→Prop)→List AV→RM→Prop) (xs:List AV) (M:RM) : Prop :=
 ∃ (I:Nat→List AV→RM→Prop) (n:Nat),I n xs M∧∀ m ys M',I m ys M'→body (fun zs M''=>∃ m',m'<m∧I m' zs M'') ys M'
abbrev K3:=Ex→Tree AV→RM→Prop
def wpC (P:Program) (nt ret:Nat) : Nat→Code→List (Nat × Nat)→Nat→Tree AV→RM→K3→Prop
 | 0,_,_,_,_,_,_=>False
 | f + 1,c,env,L,T,M,K=>match c with
   | .skip=>K .normal T M
   | .region _ ops false=>Dp P nt ops ops.toList T M (fun T' M'=>K .normal T' M')
   | .region _ ops true=>I6 P nt ops T M (fun T' M'=>K .normal T' M')
   | .seq a b=>match Nat.ble (rO f a) 1 with
     | true=>wpC P nt ret f a env (eT ret f env b L) T M (fun e T' M'=>match e with
       | .normal=>wpC P nt ret f b env L T' M' K
       | e=>K e T' M')
     | false=>dN (fun J=>wpC P nt ret f a env (eT ret f env b L) T M (fun e T' M'=>match e with
       | .normal=>J (tV T' (bitsOf (eF f a &&& eT ret f env b L) nt)) M'
       | e=>K e T' M'))
       (fun xs M'=>wpC P nt ret f b env L (u7 T (bitsOf (eF f a) nt) (bitsOf (eF f a &&& eT ret f env b L) nt) xs) M' K)
   | .cond c a b=>au (qx T c) (wpC P nt ret f a env L T M K) (wpC P nt ret f b env L T M K)
   | .block id c=>wpC P nt ret f c ((id,L) :: env) L T M (fun e T' M'=>match e with
     | .exit i=>match Nat.beq i id with
       | true=>K .normal T' M'
       | false=>K (.exit i) T' M'
     | e=>K e T' M')
   | .loop c=>gu (fun next xs M'=>wpC P nt ret f c env (eT ret f env c (eT ret f env c 0)) (u7 T (bitsOf (eF f c) nt) (bitsOf (eF f c &&& eT ret f env c (eT ret f env c 0)) nt) xs) M'
     (fun e T' M'=>match e with
      | .normal=>next (tV T' (bitsOf (eF f c &&& eT ret f env c (eT ret f env c 0)) nt)) M'
      | e=>K e T' M'))
     (tV T (bitsOf (eF f c &&& eT ret f env c (eT ret f env c 0)) nt)) M
   | .exit id=>K (.exit id) T M
   | .ret=>K .ret T M
   | .scope c=>wpC P nt ret f c env L T M K
   | .label _=>K .normal T M
   | _=>False
def Nk (P:Program) (T:Tree AV) (M:RM) (r:ResultVar) (K:AV→Prop) : Prop :=
 match r with
 | .tmp t=>K ((T.get t).getD .top)
 | .cell a t=>match bL P t with
   | some false=>aj M ((T.get a).getD .top) K
   | some true=>match aL P t with
     | some n=>bu M ((T.get a).getD .top) n K
     | none=>False
   | none=>False
def Nu (P:Program) (T:Tree AV) (M:RM) : List ResultVar→(List AV→Prop)→Prop
 | [],K=>K []
 | r :: rs,K=>Nk P T M r (fun v=>Nu P T M rs (fun vs=>K (v :: vs)))
def Qr (Q:ah) (M:RM) : List AV→Prop
 | [v]=>Q v M
 | vs=>Q (.tup vs) M
def Du:List ResultVar→Nat
 | []=>0
 | .tmp t :: rs=>2 ^ t ||| Du rs
 | .cell a _ :: rs=>2 ^ a ||| Du rs
def KG (P:Program) (fn:Func) (c:Code) (args:List AV) (M:RM) (Q:ah) : Prop :=
 wpC P (args.length + (fn.ntmps - args.length)) (Du fn.results.toList) 1000 c [] 0 (Tree.ofList args 0 .leaf) M
  (fun e T M'=>match e with
   | .exit _=>False
   | _=>Nu P T M' fn.results.toList (Qr Q M'))
section
variable {P:Program} {nt ret:Nat}
def Jg (P:Program) (nt:Nat) (M0:RM) (ρ0:Ren) (w0:World) (T:Tree AV) (asg:Nat) (K:K3) (e:Exit) (a:Act) (w:World) : Prop :=
 ∃ x T' M' ρ',e=MK x∧After P M0 ρ0 w0 M' ρ' w∧fF ρ' nt T' a∧(∀ t,Nat.testBit asg t=false→T'.get t=T.get t)∧K x T' M'
theorem Fb {T:Tree AV} : ∀ (vs:List Nat) (i:Nat),ax (tV T vs) i=match vs[i]? with | some t=>(T.get t).getD .top | none=>.top
 | [],i=>by simp[tV,ax]
 | t :: vs,0=>by simp[tV,ax]
 | t :: vs,i + 1=>by simp[tV,ax,Fb vs i]
theorem wX:∀ (asg:List Nat) (T:Tree AV) (t:Nat),(vV T asg).get t=if t∈asg then some .top else T.get t
 | [],T,t=>by simp[vV]
 | d :: asg,T,t=>by
   simp only[vV,wX asg,Tree.aU,List.mem_cons]
   by_cases h1:t∈asg
   ·simp[h1]
   ·by_cases h2:t=d <;> simp[h1,h2]
theorem Ay:∀ (vs:List Nat) (T:Tree AV) (xs:List AV) (i t:Nat),(t ∉ vs∧(GA T xs i vs).get t=T.get t)∨∃ j,vs[j]?=some t∧(GA T xs i vs).get t=some (ax xs (i + j))
 | [],T,xs,i,t=>.inl ⟨by simp,rfl⟩
 | d :: vs,T,xs,i,t=>by
   simp only[GA]
   rcases Ay vs (T.set d (ax xs i)) xs (i + 1) t with⟨h1,h2⟩ | ⟨j,h1,h2⟩
   ·rw[Tree.aU] at h2
    by_cases e:t=d
    ·rw[if_pos e] at h2
     exact .inr ⟨0,by simp[e],h2⟩
    ·rw[if_neg e] at h2
     exact .inl ⟨by simp[e,h1],h2⟩
   ·exact .inr ⟨j + 1,by simpa using h1,by rw[h2]; congr 2; omega⟩
theorem uV {m:Nat} : ∀ (n i t:Nat),t∈uA m i n↔i≤t∧t<i + n∧Nat.testBit m t=true
 | 0,i,t=>by simp[uA]; omega
 | n + 1,i,t=>by
   simp only[uA]
   split
   ·rename_i h
    rw[List.mem_cons,uV n (i + 1) t]
    constructor
    ·rintro(rfl | ⟨a,b,c⟩)
     ·exact⟨Nat.le_refl _,by omega,h⟩
     ·exact⟨by omega,by omega,c⟩
    ·rintro⟨a,b,c⟩
     by_cases e:t=i
     ·exact .inl e
     ·exact .inr ⟨by omega,by omega,c⟩
   ·rename_i h
    rw[uV n (i + 1) t]
    constructor
    ·rintro⟨a,b,c⟩; exact⟨by omega,by omega,c⟩
    ·rintro⟨a,b,c⟩
     have:t≠i:=fun e=>by subst e; rw[h] at c; cases c
     exact⟨by omega,by omega,c⟩
theorem pU {m n t:Nat} : t∈bitsOf m n↔t<n∧Nat.testBit m t=true:=by
 unfold bitsOf; rw[uV]; simp
theorem yJ {ρ:Ren} {T T' : Tree AV} {a:Act} {asg:Nat} {vs:List Nat} (h:fF ρ nt T' a) (hge:∀ t,nt≤t→ag ρ ((T.get t).getD .top) undef) (hk:∀ t,Nat.testBit asg t=false→T'.get t=T.get t) : fF ρ nt (u7 T (bitsOf asg nt) vs (tV T' vs)) a:=by
 refine⟨h.size,fun t=>?_,h.defers⟩
 unfold u7
 rcases Ay vs (vV T (bitsOf asg nt)) (tV T' vs) 0 t with⟨_,h2⟩ | ⟨j,h1,h2⟩
 ·rw[h2,wX]
  split
  ·exact .top _
  ·rename_i hm
   by_cases hb:Nat.testBit asg t=true
   ·have hge' : nt≤t:=by
     rcases Nat.lt_or_ge t nt with hlt | hge
     ·exact absurd (pU.2 ⟨hlt,hb⟩) hm
     ·exact hge
    have hv:a.tmps.getD t undef=undef:=by
     rw[Array.getD_eq_getD_getElem?,Array.getElem?_eq_none (by rw[h.size]; exact hge')]; rfl
    rw[hv]; exact hge t hge'
   ·rw[← hk t (by simpa using hb)]
    exact h.val t
 ·rw[h2,Nat.zero_add,Fb,h1]
  exact h.val t
theorem BM {T:Tree AV} {asg:Nat} {vs:List Nat} {xs:List AV} (hvs:∀ t∈vs,Nat.testBit asg t=true) (t:Nat) (h:Nat.testBit asg t=false) : (u7 T (bitsOf asg nt) vs xs).get t=T.get t:=by
 unfold u7
 rcases Ay vs (vV T (bitsOf asg nt)) xs 0 t with⟨_,h2⟩ | ⟨j,h1,h2⟩
 ·rw[h2,wX,if_neg]
  intro hm
  rw[(pU.1 hm).2] at h; cases h
 ·have:=hvs t (List.mem_of_getElem? h1)
  rw[h] at this; cases this
theorem fF.ge {ρ:Ren} {T:Tree AV} {a:Act} (h:fF ρ nt T a) : ∀ t,nt≤t→ag ρ ((T.get t).getD .top) undef:=by
 intro t ht
 have:=h.val t
 rw[Array.getD_eq_getD_getElem?,Array.getElem?_eq_none (by rw[h.size]; exact ht)] at this
 exact this
theorem zN {c:Code} {Q:Exit→Act→World→Prop} : ∀ {n m:Nat} {a:Act} {w:World},n≤m→Code.rounds P c Q n a w→Code.rounds P c Q m a w
 | 0,_,_,_,_,h=>h.elim
 | n + 1,m + 1,a,w,hle,h=>by
   rw[rounds_succ] at h ⊢
   refine wp_mono h fun e a' w' hp=>?_
   cases e with
   | normal=>exact zN (Nat.le_of_succ_le_succ hle) hp
   | exit id=>exact hp
   | ret=>exact hp
   | goto l=>exact hp
   | panic c=>exact hp
   | outgrown=>exact hp
theorem vC {t:Nat} : ∀ (l:List Oper),Nat.testBit (Cn l) t=false→∀ o∈l,o.dst≠some t
 | [],_,o,ho=>by cases ho
 | x :: l,h,o,ho=>by
   simp only[Cn,Nat.testBit_or,Bool.or_eq_false_iff] at h
   rcases List.mem_cons.1 ho with rfl | ho
   ·intro e
    rw[e] at h
    simp[GM,Nat.testBit_two_pow] at h
   ·exact vC l h.2 o ho
theorem Mh {ρ:Ren} {x:AV} {u:Value} {p q:Prop} (h:au x p q) (hx:ag ρ x u) : ∃ b,u=.bool b∧(b=true→p)∧(b=false→q):=by
 unfold au at h
 split at h <;> first | (cases h; done) | skip
 rename_i b
 exact⟨b,(aB hx).1,h.1,h.2⟩
theorem KO (hP:yC P) : ∀ (f:Nat) (c:Code) (env:List (Nat × Nat)) (L:Nat) (T:Tree AV) (M:RM) (K:K3),wpC P nt ret f c env L T M K →
  ∀ (M0:RM) (ρ0:Ren) (w0:World) (ρ:Ren) (a:Act) (w:World),After P M0 ρ0 w0 M ρ w→fF ρ nt T a→c.wp P (Jg P nt M0 ρ0 w0 T (eF f c) K) a w:=by
 intro f
 induction f with
 | zero=>intro c env L T M K h; exact h.elim
 | succ f ih =>
   intro c env L T M K h M0 ρ0 w0 ρ a w hM hA
   cases c with
   | skip=>exact wp_skip ⟨.normal,T,M,ρ,rfl,hM,hA,fun _ _=>rfl,h⟩
   | region id ops d =>
     cases d with
     | false =>
       refine wp_region ?_
       have:=vQ (nt:=nt) hP (ops:=ops) (Q:=Jg P nt M0 ρ0 w0 T (eF (f + 1) (.region id ops false)) K) (K:=fun T' M'=>K .normal T' M') (M0:=M0) (ρ0:=ρ0) (w0:=w0) (T0:=T)
        (fun T' M' ρ' a' w' k1 k2 k3 k4=>⟨.normal,T',M',ρ',rfl,k1,k2,fun t ht=>k4 t (vC _ ht),k3⟩) ops.toList 0 (by simp) hA hM (fun _ _=>rfl) h
       rw[Array.length_toList,← List.range_eq_range'] at this
       exact this
     | true =>
       exact GX (nt:=nt) (T:=T) hP hM hA (fun T' M' ρ' a' w' k1 k2 k3 k4=>⟨.normal,T',M',ρ',rfl,k1,k2,fun t ht=>k4 t (vC _ ht),k3⟩) h
   | seq c1 c2 =>
     simp only[wpC] at h
     refine wp_seq ?_
     split at h
     ·refine wp_mono (ih c1 _ _ _ _ _ h M0 ρ0 w0 ρ a w hM hA) fun e a' w' hp=>?_
      obtain⟨x,T1,M1,ρ1,rfl,k1,k2,k3,k4⟩:=hp
      cases x with
      | normal =>
        refine wp_mono (ih c2 _ _ _ _ _ k4 M0 ρ0 w0 ρ1 a' w' k1 k2) fun e a2 w2 hp=>?_
        obtain⟨x,T2,M2,ρ2,he,q1,q2,q3,q4⟩:=hp
        exact⟨x,T2,M2,ρ2,he,q1,q2,fun t ht=>by
         simp only[eF,Nat.testBit_or,Bool.or_eq_false_iff] at ht
         rw[q3 t ht.2,k3 t ht.1],q4⟩
      | exit i=>exact⟨.exit i,T1,M1,ρ1,rfl,k1,k2,fun t ht=>by
        simp only[eF,Nat.testBit_or,Bool.or_eq_false_iff] at ht
        exact k3 t ht.1,k4⟩
      | ret=>exact⟨.ret,T1,M1,ρ1,rfl,k1,k2,fun t ht=>by
        simp only[eF,Nat.testBit_or,Bool.or_eq_false_iff] at ht
        exact k3 t ht.1,k4⟩
     ·unfold dN at h
      refine wp_mono (ih c1 _ _ _ _ _ h M0 ρ0 w0 ρ a w hM hA) fun e a' w' hp=>?_
      obtain⟨x,T1,M1,ρ1,rfl,k1,k2,k3,k4⟩:=hp
      have hge:∀ t,nt≤t→ag ρ1 ((T.get t).getD .top) undef:=fun t ht=>by
       have h1:=k2.ge t ht
       by_cases hb:Nat.testBit (eF f c1) t=false
       ·rw[k3 t hb] at h1; exact h1
       ·have h0:=hA.ge t ht
        have hu:∀ (ρ ρ' : Ren) (x:AV),ag ρ x undef→ag ρ' x undef:=by
         intro ρ ρ' x hx
         unfold undef at hx ⊢
         cases hx with
         | top=>exact .top _
         | sc v p=>exact .sc _ p
         | tup xs vs a=>cases a; exact .tup _ _ .nil
        exact hu _ _ _ h0
      cases x with
      | normal =>
        refine wp_mono (ih c2 _ _ _ _ _ k4 M0 ρ0 w0 ρ1 a' w' k1 (yJ k2 hge k3)) fun e a2 w2 hp=>?_
        obtain⟨x,T2,M2,ρ2,he,q1,q2,q3,q4⟩:=hp
        refine⟨x,T2,M2,ρ2,he,q1,q2,fun t ht=>?_,q4⟩
        simp only[eF,Nat.testBit_or,Bool.or_eq_false_iff] at ht
        rw[q3 t ht.2]
        refine BM (fun t' ht'=>?_) t ht.1
        have:=(pU.1 ht').2
        rw[Nat.testBit_and,Bool.and_eq_true] at this
        exact this.1
      | exit i=>exact⟨.exit i,T1,M1,ρ1,rfl,k1,k2,fun t ht=>by
        simp only[eF,Nat.testBit_or,Bool.or_eq_false_iff] at ht
        exact k3 t ht.1,k4⟩
      | ret=>exact⟨.ret,T1,M1,ρ1,rfl,k1,k2,fun t ht=>by
        simp only[eF,Nat.testBit_or,Bool.or_eq_false_iff] at ht
        exact k3 t ht.1,k4⟩
   | cond cnd c1 c2 =>
     simp only[wpC] at h
     obtain⟨b,hb,h1,h2⟩:=Mh h (Ee hA cnd)
     cases b with
     | true =>
       refine wp_cond_true hb (wp_mono (ih c1 _ _ _ _ _ (h1 rfl) M0 ρ0 w0 ρ a w hM hA) fun e a' w' hp=>?_)
       obtain⟨x,T1,M1,ρ1,he,k1,k2,k3,k4⟩:=hp
       exact⟨x,T1,M1,ρ1,he,k1,k2,fun t ht=>by
         simp only[eF,Nat.testBit_or,Bool.or_eq_false_iff] at ht
         exact k3 t ht.1,k4⟩
     | false =>
       refine wp_cond_false hb (wp_mono (ih c2 _ _ _ _ _ (h2 rfl) M0 ρ0 w0 ρ a w hM hA) fun e a' w' hp=>?_)
       obtain⟨x,T1,M1,ρ1,he,k1,k2,k3,k4⟩:=hp
       exact⟨x,T1,M1,ρ1,he,k1,k2,fun t ht=>by
         simp only[eF,Nat.testBit_or,Bool.or_eq_false_iff] at ht
         exact k3 t ht.2,k4⟩
   | block id c1 =>
     simp only[wpC] at h
     refine wp_block (wp_mono (ih c1 _ _ _ _ _ h M0 ρ0 w0 ρ a w hM hA) fun e a' w' hp=>?_)
     obtain⟨x,T1,M1,ρ1,rfl,k1,k2,k3,k4⟩:=hp
     cases x with
     | normal=>exact⟨.normal,T1,M1,ρ1,rfl,k1,k2,k3,k4⟩
     | ret=>exact⟨.ret,T1,M1,ρ1,rfl,k1,k2,k3,k4⟩
     | exit i =>
       simp only at k4
       split at k4
       ·rename_i he
        have he:=bK he
        subst he
        simp only[MK,Exit.inBlock,if_true]
        exact⟨.normal,T1,M1,ρ1,rfl,k1,k2,k3,k4⟩
       ·rename_i he
        have he:=Ct he
        simp only[MK,Exit.inBlock,if_neg he]
        exact⟨.exit i,T1,M1,ρ1,rfl,k1,k2,k3,k4⟩
   | loop c1 =>
     simp only[wpC] at h
     obtain⟨I,n,hI,hbody⟩:=h
     have hvs:∀ t∈bitsOf (eF f c1 &&& eT ret f env c1 (eT ret f env c1 0)) nt,Nat.testBit (eF f c1) t=true:=fun t' ht'=>by
      have:=(pU.1 ht').2
      rw[Nat.testBit_and,Bool.and_eq_true] at this
      exact this.1
     generalize hv:bitsOf (eF f c1 &&& eT ret f env c1 (eT ret f env c1 0)) nt=vs at hI hbody hvs
     have hu:∀ (ρ ρ' : Ren) (x:AV),ag ρ x undef→ag ρ' x undef:=by
      intro ρ ρ' x hx
      unfold undef at hx ⊢
      cases hx with
      | top=>exact .top _
      | sc v p=>exact .sc _ p
      | tup xs vs a=>cases a; exact .tup _ _ .nil
     have hge:∀ (ρ1:Ren) t,nt≤t→ag ρ1 ((T.get t).getD .top) undef:=fun ρ1 t ht=>hu _ _ _ (hA.ge t ht)
     have key:∀ (m:Nat) (ys:List AV) (M1:RM) (ρ1:Ren) (a1:Act) (w1:World),I m ys M1→After P M0 ρ0 w0 M1 ρ1 w1→fF ρ1 nt (u7 T (bitsOf (eF f c1) nt) vs ys) a1 →
       Code.rounds P c1 (Jg P nt M0 ρ0 w0 T (eF (f + 1) (.loop c1)) K) (m + 1) a1 w1:=by
      intro m
      induction m using Nat.strongRecOn with
      | _ m ihm =>
        intro ys M1 ρ1 a1 w1 hIm hM1 hA1
        rw[rounds_succ]
        refine wp_mono (ih c1 _ _ _ _ _ (hbody m ys M1 hIm) M0 ρ0 w0 ρ1 a1 w1 hM1 hA1) fun e a' w' hp=>?_
        obtain⟨x,T2,M2,ρ2,rfl,k1,k2,k3,k4⟩:=hp
        have k3' : ∀ t,Nat.testBit (eF f c1) t=false→T2.get t=T.get t:=fun t ht=>by rw[k3 t ht]; exact BM hvs t ht
        cases x with
        | normal =>
          obtain⟨m',hlt,hI'⟩:=k4
          exact zN (by omega) (ihm m' hlt _ M2 ρ2 a' w' hI' k1 (yJ k2 (hge ρ2) k3'))
        | exit i=>exact⟨.exit i,T2,M2,ρ2,rfl,k1,k2,k3',k4⟩
        | ret=>exact⟨.ret,T2,M2,ρ2,rfl,k1,k2,k3',k4⟩
     exact wp_loop_rounds _ (key n _ M ρ a w hI hM (yJ hA (hge ρ) fun _ _=>rfl))
   | exit id=>exact wp_exit ⟨.exit id,T,M,ρ,rfl,hM,hA,fun _ _=>rfl,h⟩
   | ret=>exact wp_ret ⟨.ret,T,M,ρ,rfl,hM,hA,fun _ _=>rfl,h⟩
   | rangeFunc=>simp[wpC] at h
   | scope c1 =>
     simp only[wpC] at h
     refine wp_scope_straight (wp_mono (ih c1 _ _ _ _ _ h M0 ρ0 w0 ρ a w hM hA) fun e a' w' hp=>?_)
     obtain⟨x,T1,M1,ρ1,rfl,k1,k2,k3,k4⟩:=hp
     cases x with
     | normal=>exact⟨.normal,T1,M1,ρ1,rfl,k1,k2,k3,k4⟩
     | exit i=>exact⟨.exit i,T1,M1,ρ1,rfl,k1,k2,k3,k4⟩
     | ret=>exact⟨.ret,T1,M1,ρ1,rfl,k1,k2,k3,k4⟩
   | label l=>exact wp_label ⟨.normal,T,M,ρ,rfl,hM,hA,fun _ _=>rfl,h⟩
   | goto=>simp[wpC] at h
   | refuse=>simp[wpC] at h
theorem Jv {ρ:Ren} {T:Tree AV} {M:RM} {a:Act} {w:World} (hA:fF ρ nt T a) (hw:bq P ρ M w) {r:ResultVar} {K:AV→Prop} (h:Nk P T M r K) :
  ∃ v v',(yN a.tmps r).run P w=.ok v' w∧ag ρ v v'∧K v:=by
 cases r with
 | tmp t=>exact⟨_,_,rfl,hA.val t,h⟩
 | cell x t =>
   simp only[Nk] at h
   have hv:=hA.val x
   split at h <;> first | (cases h; done) | skip
   ·rename_i ha
    obtain⟨b,p,v,hx,hl,hk⟩:=h
    rw[hx] at hv
    obtain⟨i,hb,hc⟩:=bP hv
    obtain⟨u,hu,hcell⟩:=wZ hw hb hl
    refine⟨v,u, ?_,hu,hk⟩
    simp only[yN,hc,asAddr,Sem.run_bind,Sem.run_pure,Result.andThen_ok,loadVar,fJ ha,Bool.false_eq_true,if_false,load,Sem.run,hcell]
   ·rename_i ha
    split at h <;> first | (cases h; done) | skip
    rename_i n hs
    obtain⟨b,p,xs,hx,hl,hk⟩:=h
    rw[hx] at hv
    obtain⟨i,hb,hc⟩:=bP hv
    obtain⟨vs,hr,hlen,_,hrun⟩:=RM.jm (P:=P) hw hb hl
    exact⟨.agg xs,.agg ⟨vs⟩,by simp only[yN,hc,asAddr,Sem.run_bind,Sem.run_pure,Result.andThen_ok,loadVar,fJ ha,if_true,bz hs,hrun],.agg _ _ hr,hk⟩
theorem uM {ρ:Ren} {T:Tree AV} {M:RM} {a:Act} {w:World} (hA:fF ρ nt T a) (hw:bq P ρ M w) : ∀ (rs:List ResultVar) (K:List AV→Prop),Nu P T M rs K →
  ∃ vs us,(rs.mapM (yN a.tmps)).run P w=.ok us w∧aD ρ vs us∧K vs
 | [],K,h=>⟨[],[],by simp,.nil,h⟩
 | r :: rs,K,h=>by
   obtain⟨v,v',h1,h2,h3⟩:=Jv hA hw h
   obtain⟨vs,us,h4,h5,h6⟩:=uM hA hw rs _ h3
   refine⟨v :: vs,v' :: us, ?_,.cons _ _ _ _ h2 h5,h6⟩
   simp only[List.mapM_cons,Sem.run_bind,h1,Result.andThen_ok,h4,Sem.run_pure]
theorem DF (hP:yC P) {f:FuncId} {fn:Func} {c:Code} {args:List AV} {M:RM} {Q:ah} (hfn:P.funcs[f]?=some fn) (hbody:fn.body=some c) (h:KG P fn c args M Q) : dL P f args M Q:=by
 refine⟨⟨fn,c,hfn,hbody⟩,fun ρ w us hargs hw=>?_⟩
 have hlen:=hargs.length
 have hA:fF ρ (args.length + (fn.ntmps - args.length)) (Tree.ofList args 0 .leaf) { tmps:=⟨us⟩++Array.replicate (fn.ntmps - (⟨us⟩ : Array Value).size) undef,defers:=[] } := by
  refine⟨by simp[hlen],fun t=>?_,rfl⟩
  rw[Tree.pW]
  by_cases ht:t<args.length
  ·rw[if_pos (by omega),Nat.sub_zero]
   obtain⟨u,hu,hv⟩:=hargs.get (n:=t) (x:=args[t]) (by simp[ht])
   rw[List.getElem?_eq_getElem ht]
   simp only[Option.getD_some]
   have:((⟨us⟩ : Array Value)++Array.replicate (fn.ntmps - (⟨us⟩ : Array Value).size) undef).getD t undef=u:=by
    rw[Array.getD_eq_getD_getElem?,Array.getElem?_append_left (by simp; omega)]
    simp[hu]
   rw[this]; exact hv
  ·rw[if_neg (by omega)]
   exact .top _
 refine calls_of_wp hfn hbody (wp_mono (KO hP 1000 c [] 0 _ M _ h M ρ w ρ _ w (After.refl hw) hA) fun e a w' hp=>?_)
 obtain⟨x,T',M',ρ',rfl,k1,k2,k3,k4⟩:=hp
 have key:(∃ vs us,(fn.results.toList.mapM (yN a.tmps)).run P w'=.ok us w'∧aD ρ' vs us∧Qr Q M' vs) →
   a.defers=[]∧∃ v,(results fn a.tmps).run P w'=.ok v w'∧∃ v' v_1 Qd Po,Ending.returned v=.returned v'∧After P M ρ w Qd Po w'∧ag Po v_1 v'∧Q v_1 Qd:=by
  rintro⟨vs,us,h1,h2,h3⟩
  have hres:(results fn a.tmps).run P w'=.ok (if h:(⟨us⟩ : Array Value).size=1 then(⟨us⟩ : Array Value)[0] else .tuple ⟨us⟩) w':=by
   have e:results fn a.tmps=(fn.results.mapM (yN a.tmps) >>= fun vs=>pure (if h:vs.size=1 then vs[0] else .tuple vs)):=rfl
   rw[e,Array.mapM_eq_mapM_toList]
   simp only[Sem.run_bind,Sem.run_map,h1,Result.andThen_ok,Sem.run_pure]
  refine⟨k2.defers,_,hres, ?_⟩
  cases h2 with
  | nil=>exact⟨_,_,M',ρ',rfl,k1,.tup _ _ .nil,h3⟩
  | cons x v xs vs2 hv htl =>
    cases htl with
    | nil=>exact⟨_,x,M',ρ',rfl,k1,hv,h3⟩
    | cons y u ys us2 hu Ud=>exact⟨_,_,M',ρ',rfl,k1,.tup _ _ (.cons _ _ _ _ hv (.cons _ _ _ _ hu Ud)),h3⟩
 cases x with
 | normal=>exact key (uM k2 k1.rel _ _ k4)
 | ret=>exact key (uM k2 k1.rel _ _ k4)
 | exit id=>exact k4.elim
abbrev ai:=List AV→RM→ah→Prop
def CF (P:Program) (fn:Func) (args:List AV) (M:RM) (Q:ah) : Prop :=
 match fn.body with
 | some c=>KG P fn c args M Q
 | none=>False
theorem KY (hP:yC P) {f:FuncId} {fn:Func} {args:List AV} {M:RM} {Q:ah} (hfn:P.funcs[f]?=some fn) (h:CF P fn args M Q) : dL P f args M Q:=by
 unfold CF at h
 split at h
 ·rename_i c hc; exact DF hP hfn hc h
 ·cases h
end
end Go.Ab
set_option maxRecDepth 100000
namespace Go.Ab.Hw
open Go Go.Ab
def mJ (p1:Nat) (p2 p3 p4:ai) (p5:Nat) (p6:ai) (a0 a1 a2 a3:AV) (M0:RM) (Q:ah) : Prop:=nW p1 a0 fun y6 w9=>bf y6 w9 M0 fun h wy=>nW p1 a1 fun y7 xa=>bf y7 xa wy fun l w1=>p2 [] w1 fun h7 u=>fQ h7 fun h8=>au h8 ( Q (Bo false) u) ( aQ h 3 fun h9=>aj u h9 fun i0=>aR i0 fun i1=>af .gtr i1 (N .i64 1000) fun q=>aa q false (fun c=>aQ l 3 fun i2=>c i2 u) (fun c=>c .undef u) fun i3 V=>aa q false (fun yr=>aj V i3 fun i4=>yr i4 V) (fun c=>c .undef V) fun i5 wo=>aa q false (fun y2=>aR i5 fun i6=>y2 i6 wo) (fun c=>c .undef wo) fun i7 vi=>aa q false (fun xj=>af .gtr i7 (N .i64 1000) fun i8=>xj i8 vi) (fun c=>c .undef vi) fun i9 vp=>ay q (Bo true) i9 fun w=>aa w false (fun xt=>xt a2 vp) (fun c=>c .undef vp) fun j0 vx=>aa w false (fun x1=>aR j0 fun j1=>x1 j1 vx) (fun c=>c .undef vx) fun j2 v4=>aa w false (fun yc=>af .gtr j2 (N .i64 40) fun j3=>yc j3 v4) (fun c=>c .undef v4) fun j4 v8=>ay w (Bo true) j4 fun r=>aa r false (fun yh=>aQ h 2 fun j5=>yh j5 v8) (fun c=>c .undef v8) fun j6 P=>aa r false (fun yi=>aj P j6 fun j7=>yi j7 P) (fun c=>c .undef P) fun j8 v9=>aa r false (fun yj=>aR j8 fun j9=>yj j9 v9) (fun c=>c .undef v9) fun l0 wa=>aa r false (fun yk=>af .gtr l0 (N .i64 20) fun l1=>yk l1 wa) (fun c=>c .undef wa) fun l2 wb=>ay r (Bo true) l2 fun s=>aa s false (fun yl=>aQ l 2 fun l3=>yl l3 wb) (fun c=>c .undef wb) fun l4 R=>aa s false (fun ym=>aj R l4 fun l5=>ym l5 R) (fun c=>c .undef R) fun l6 wc=>aa s false (fun yn=>aR l6 fun l7=>yn l7 wc) (fun c=>c .undef wc) fun l8 wd=>aa s false (fun yo=>af .gtr l8 (N .i64 20) fun l9=>yo l9 wd) (fun c=>c .undef wd) fun m0 S=>ay s (Bo true) m0 fun m1=>au m1 ( Q (Bo true) S) ( bu S h 4 fun m2=>p3 [m2] S fun ws we=>aC ws 0 fun m3=>aC ws 1 fun m4=>bu we l 4 fun m5=>p3 [m5] we fun wt U=>aC wt 0 fun wu=>aC wt 1 fun m6=>dN (fun vf=>au a3 ( bu U h 4 fun m7=>p4 [m7,a2] U fun wv w3=>aC wv 0 fun m8=>aC wv 1 fun m9=>vf [m8,m9] w3) ( vf [m3,m4] U)) (fun ve wf=>af .neq (ax ve 1) (N .i64 0) fun vc=>aa vc false (fun yp=>yp m6 wf) (fun c=>c .undef wf) fun n0 wg=>aa vc false (fun yq=>af .neq n0 (N .i64 0) fun n1=>yq n1 wg) (fun c=>c .undef wg) fun n2 wh=>ay vc (Bo true) n2 fun n3=>au n3 ( Q (Bo true) wh) ( dE p5 0 [(N .u8 0)] [] fun y8 xb=>bf y8 xb wh fun n4 w4=>appW p5 1 1 [(N .u8 0)] false n4 (ax ve 0) w4 fun n5 w5=>appW p5 1 1 [(N .u8 0)] false n5 wu w5 fun ww w6=>p6 [ww] w6 fun vd w7=>aC vd 0 fun n6=>aC vd 1 fun wx=>aC vd 2 fun n7=>bf (.row [(St []),(St []),(.sc (.slice none 0 0)),(.sc (.slice none 0 0))] false p1 0) (fun va=>.ptr va 0) w7 fun p w8=>aH w8 p n6 4 fun wi=>af .neq n7 (N .i64 0) fun t=>aa t false (fun ys=>ys wx wi) (fun c=>c .undef wi) fun n8 wj=>aa t false (fun yt=>yt (ax ve 0) wj) (fun c=>c .undef wj) fun n9 wk=>aa t false (fun yu=>aR n9 fun p0=>yu p0 wk) (fun c=>c .undef wk) fun p7 wl=>aa t false (fun yv=>af .neq n8 p7 fun p8=>yv p8 wl) (fun c=>c .undef wl) fun p9 wm=>ay t (Bo true) p9 fun m=>aa m false (fun yw=>aQ p 0 fun q0=>yw q0 wm) (fun c=>c .undef wm) fun q1 W=>aa m false (fun yx=>aj W q1 fun q2=>yx q2 W) (fun c=>c .undef W) fun q3 wn=>aa m false (fun yy=>aQ h 0 fun q4=>yy q4 wn) (fun c=>c .undef wn) fun q5 X=>aa m false (fun yz=>aj X q5 fun q6=>yz q6 X) (fun c=>c .undef X) fun q7 wp=>aa m false (fun y0=>aV .neq q3 q7 fun q8=>y0 q8 wp) (fun c=>c .undef wp) fun q9 wq=>ay m (Bo true) q9 fun n=>aa n false (fun y1=>aQ p 1 fun r0=>y1 r0 wq) (fun c=>c .undef wq) fun r1 Y=>aa n false (fun y3=>aj Y r1 fun y9=>y3 y9 Y) (fun c=>c .undef Y) fun za wr=>aa n false (fun y4=>aQ h 1 fun zb=>y4 zb wr) (fun c=>c .undef wr) fun zc Z=>aa n false (fun y5=>aj Z zc fun zd=>y5 zd Z) (fun c=>c .undef Z) fun ze vg=>aa n false (fun xc=>aV .neq za ze fun zf=>xc zf vg) (fun c=>c .undef vg) fun zg vh=>ay n (Bo true) zg fun e=>aa e false (fun xd=>aQ p 3 fun zh=>xd zh vh) (fun c=>c .undef vh) fun zi x=>aa e false (fun xe=>aj x zi fun zj=>xe zj x) (fun c=>c .undef x) fun zk y=>aa e false (fun xf=>cz y zk fun zl=>xf zl y) (fun c=>c .undef y) fun zm vj=>aa e false (fun xg=>aQ h 3 fun zn=>xg zn vj) (fun c=>c .undef vj) fun zo z=>aa e false (fun xh=>aj z zo fun zp=>xh zp z) (fun c=>c .undef z) fun zq A=>aa e false (fun xi=>cz A zq fun zr=>xi zr A) (fun c=>c .undef A) fun zs vk=>aa e false (fun xk=>aV .neq zm zs fun zt=>xk zt vk) (fun c=>c .undef vk) fun zu vl=>ay e (Bo true) zu fun d=>aa d false (fun xl=>aQ p 2 fun zv=>xl zv vl) (fun c=>c .undef vl) fun zw B=>aa d false (fun xm=>aj B zw fun zx=>xm zx B) (fun c=>c .undef B) fun zy vm=>aa d false (fun xn=>aR zy fun zz=>xn zz vm) (fun c=>c .undef vm) fun z0 vn=>aa d false (fun xo=>aQ h 2 fun z1=>xo z1 vn) (fun c=>c .undef vn) fun z2 C=>aa d false (fun xp=>aj C z2 fun z3=>xp z3 C) (fun c=>c .undef C) fun z4 vo=>aa d false (fun xq=>aR z4 fun z5=>xq z5 vo) (fun c=>c .undef vo) fun z6 vq=>aa d false (fun xr=>af .add z6 (N .i64 1) fun z7=>xr z7 vq) (fun c=>c .undef vq) fun z8 vr=>aa d false (fun xs=>af .neq z0 z8 fun z9=>xs z9 vr) (fun c=>c .undef vr) fun c0 vs=>ay d (Bo true) c0 fun c1=>au c1 ( Q (Bo false) vs) ( bH (dD 1 ww (some wx) none none) fun c2=>p6 [c2] vs fun vb wz=>aC vb 0 fun c3=>aC vb 1 fun c4=>aC vb 2 fun c5=>bf (.row [(St []),(St []),(.sc (.slice none 0 0)),(.sc (.slice none 0 0))] false p1 0) (fun va=>.ptr va 0) wz fun v w0=>aH w0 v c3 4 fun vt=>af .eql c5 (N .i64 0) fun o=>aa o true (fun xu=>xu c4 vt) (fun c=>c .undef vt) fun c6 vu=>aa o true (fun xv=>xv wu vu) (fun c=>c .undef vu) fun c7 vv=>aa o true (fun xw=>aR c7 fun c8=>xw c8 vv) (fun c=>c .undef vv) fun c9 vw=>aa o true (fun xx=>af .eql c6 c9 fun d0=>xx d0 vw) (fun c=>c .undef vw) fun d1 vy=>ay o d1 (Bo false) fun i=>aa i true (fun xy=>aQ v 0 fun d2=>xy d2 vy) (fun c=>c .undef vy) fun d3 D=>aa i true (fun xz=>aj D d3 fun d4=>xz d4 D) (fun c=>c .undef D) fun d5 vz=>aa i true (fun x0=>aQ l 0 fun d6=>x0 d6 vz) (fun c=>c .undef vz) fun d7 E=>aa i true (fun x2=>aj E d7 fun d8=>x2 d8 E) (fun c=>c .undef E) fun d9 v0=>aa i true (fun x3=>aV .eql d5 d9 fun e0=>x3 e0 v0) (fun c=>c .undef v0) fun e1 v1=>ay i e1 (Bo false) fun j=>aa j true (fun x4=>aQ v 1 fun e2=>x4 e2 v1) (fun c=>c .undef v1) fun e3 F=>aa j true (fun x5=>aj F e3 fun e4=>x5 e4 F) (fun c=>c .undef F) fun e5 v2=>aa j true (fun x6=>aQ l 1 fun e6=>x6 e6 v2) (fun c=>c .undef v2) fun e7 G=>aa j true (fun x7=>aj G e7 fun e8=>x7 e8 G) (fun c=>c .undef G) fun e9 v3=>aa j true (fun x8=>aV .eql e5 e9 fun g0=>x8 g0 v3) (fun c=>c .undef v3) fun g1 v5=>ay j g1 (Bo false) fun g=>aa g true (fun x9=>aQ v 3 fun g2=>x9 g2 v5) (fun c=>c .undef v5) fun g3 H=>aa g true (fun ya=>aj H g3 fun g4=>ya g4 H) (fun c=>c .undef H) fun g5 I=>aa g true (fun yb=>cz I g5 fun g6=>yb g6 I) (fun c=>c .undef I) fun g7 v6=>aa g true (fun yd=>aQ l 3 fun g8=>yd g8 v6) (fun c=>c .undef v6) fun g9 L=>aa g true (fun ye=>aj L g9 fun h0=>ye h0 L) (fun c=>c .undef L) fun h1 O=>aa g true (fun yf=>cz O h1 fun h2=>yf h2 O) (fun c=>c .undef O) fun h3 v7=>aa g true (fun yg=>aV .eql g7 h3 fun h4=>yg h4 v7) (fun c=>c .undef v7) fun h5 w2=>ay g h5 (Bo false) fun h6=>Q h6 w2)))))
def wI (p1 p2:Nat) (p3:ai) (p4:Nat) (p5 p6 p7 p8:ai) (p9:Nat) (p10:ai) (p11:Nat) (p12:ai) (M0:RM) (Q:ah) : Prop:=gH [(St []),(St [])] [(0,1,(St [88])),(1,1,(St [49]))] fun zu=>dE p1 1 [(St []),(St [])] [(0,2,zu)] fun x9 wy=>bf x9 wy M0 fun zv wb=>gH [(St []),(St []),(.sc (.slice none 0 0)),(.sc (.slice none 0 0))] [(0,1,(St [71,69,84])),(1,1,(St [47,97])),(2,1,zv)] fun zw=>bf (.row [(St []),(St []),(.sc (.slice none 0 0)),(.sc (.slice none 0 0))] false p2 0) (fun d=>.ptr d 0) wb fun l wc=>aH wc l zw 4 fun G=>bu G l 4 fun zx=>p3 [zx] G fun v2 wl=>aC v2 0 fun A=>aC v2 1 fun zy=>dE p4 0 [(N .u8 0)] [] fun yd w2=>bf yd w2 wl fun zz wv=>appW p4 1 1 [(N .u8 0)] false zz A wv fun z0 ww=>dE p4 1 [(N .u8 0)] [(0,1,(N .u8 120))] fun ye w3=>bf ye w3 ww fun z1 wx=>appW p4 1 1 [(N .u8 0)] false z0 z1 wx fun z2 wd=>p5 [z2] wd fun B we=>aC B 0 fun z3=>aC B 1 fun z4=>aC B 2 fun z5=>bf (.row [(St []),(St []),(.sc (.slice none 0 0)),(.sc (.slice none 0 0))] false p2 0) (fun d=>.ptr d 0) we fun v3 wf=>aH wf v3 z3 4 fun Z=>bu Z v3 4 fun z6=>p6 [z6,(St [120])] Z fun v4 wg=>aC v4 0 fun z7=>aC v4 1 fun z8=>dE p4 2 [(N .u8 0)] [(0,1,(N .u8 110)),(1,1,(N .u8 111))] fun ya wz=>bf ya wz wg fun z9 wi=>qj z9 wi fun c0 wj=>gH [(N .i64 0),(.sc (.slice none 0 0)),(.sc (.slice none 0 0))] [(0,1,(N .i64 404)),(2,1,c0)] fun c1=>p7 [c1] wj fun v5 wk=>aC v5 0 fun v6=>aC v5 1 fun c2=>p8 [v6] wk fun C wm=>aC C 0 fun c3=>aC C 1 fun c4=>aC C 2 fun c5=>bf (.row [(N .i64 0),(.sc (.slice none 0 0)),(.sc (.slice none 0 0))] false p9 0) (fun d=>.ptr d 0) wm fun m wn=>aH wn m c3 3 fun vc=>bu vc m 3 fun c6=>p10 [c6,(St [67,79,78,84,69,78,84,45,76,69,78,71,84,72])] vc fun v7 wo=>aC v7 0 fun c7=>aC v7 1 fun c8=>dE p4 4 [(N .u8 0)] [(0,1,(N .u8 97)),(1,1,(N .u8 98)),(2,1,(N .u8 99)),(3,1,(N .u8 100))] fun yb w0=>bf yb w0 wo fun c9 wp=>qj c9 wp fun d0 wq=>aQ l 3 fun d1=>aH wq d1 d0 1 fun vd=>bu vd l 4 fun d2=>dE p11 1 [(N .i64 0)] [(0,1,(N .i64 3))] fun yc w1=>bf yc w1 vd fun d3 wr=>p12 [d2,d3] wr fun v8 ws=>aC v8 0 fun v9=>aC v8 1 fun d4=>p5 [v9] ws fun D wt=>aC D 0 fun d5=>aC D 1 fun d6=>aC D 2 fun d7=>bf (.row [(St []),(St []),(.sc (.slice none 0 0)),(.sc (.slice none 0 0))] false p2 0) (fun d=>.ptr d 0) wt fun v1 wu=>aH wu v1 d5 4 fun ve=>af .eql zy (N .i64 0) fun o=>aa o true (fun c=>c A ve) (fun c=>c .undef ve) fun d8 r=>aa o true (fun xl=>cz r d8 fun d9=>xl d9 r) (fun c=>c .undef r) fun e0 vf=>aa o true (fun xm=>aV .eql e0 (St [71,69,84,32,47,97,32,72,84,84,80,47,49,46,49,13,10,88,58,32,49,13,10,67,111,110,116,101,110,116,45,76,101,110,103,116,104,58,32,48,13,10,13,10]) fun e1=>xm e1 vf) (fun c=>c .undef vf) fun e2 vg=>ay o e2 (Bo false) fun E=>aa E true (fun xn=>xn z5 vg) (fun c=>c .undef vg) fun e3 vh=>aa E true (fun xo=>af .eql e3 (N .i64 0) fun e4=>xo e4 vh) (fun c=>c .undef vh) fun e5 vi=>ay E e5 (Bo false) fun j=>aa j true (fun xp=>xp z4 vi) (fun c=>c .undef vi) fun e6 vj=>aa j true (fun xq=>xq A vj) (fun c=>c .undef vj) fun e7 vk=>aa j true (fun xr=>aR e7 fun e8=>xr e8 vk) (fun c=>c .undef vk) fun e9 vl=>aa j true (fun xs=>af .eql e6 e9 fun g0=>xs g0 vl) (fun c=>c .undef vl) fun g1 vm=>ay j g1 (Bo false) fun wa=>aa wa true (fun xt=>xt z8 vm) (fun c=>c .undef vm) fun g2 vn=>ay wa g2 (Bo false) fun F=>aa F true (fun xu=>xu z7 vn) (fun c=>c .undef vn) fun g3 vo=>aa F true (fun xv=>aV .eql g3 (St [49]) fun g4=>xv g4 vo) (fun c=>c .undef vo) fun g5 vp=>ay F g5 (Bo false) fun v=>aa v true (fun xw=>xw c2 vp) (fun c=>c .undef vp) fun yf vq=>aa v true (fun xx=>af .eql yf (N .i64 0) fun yg=>xx yg vq) (fun c=>c .undef vq) fun yh vr=>ay v yh (Bo false) fun w=>aa w true (fun xy=>xy c5 vr) (fun c=>c .undef vr) fun yi vs=>aa w true (fun xz=>af .eql yi (N .i64 0) fun yj=>xz yj vs) (fun c=>c .undef vs) fun yk vt=>ay w yk (Bo false) fun e=>aa e true (fun x0=>x0 c4 vt) (fun c=>c .undef vt) fun yl vu=>aa e true (fun x1=>x1 v6 vu) (fun c=>c .undef vu) fun ym vv=>aa e true (fun x2=>aR ym fun yn=>x2 yn vv) (fun c=>c .undef vv) fun yo vw=>aa e true (fun x3=>af .eql yl yo fun yp=>x3 yp vw) (fun c=>c .undef vw) fun yq vx=>ay e yq (Bo false) fun n=>aa n true (fun x4=>aQ m 0 fun yr=>x4 yr vx) (fun c=>c .undef vx) fun ys s=>aa n true (fun x5=>aj s ys fun yt=>x5 yt s) (fun c=>c .undef s) fun yu vy=>aa n true (fun x6=>af .eql yu (N .i64 404) fun yv=>x6 yv vy) (fun c=>c .undef vy) fun yw vz=>ay n yw (Bo false) fun g=>aa g true (fun x7=>aQ m 2 fun yx=>x7 yx vz) (fun c=>c .undef vz) fun yy t=>aa g true (fun x8=>aj t yy fun yz=>x8 yz t) (fun c=>c .undef t) fun y0 u=>aa g true (fun w4=>cz u y0 fun y1=>w4 y1 u) (fun c=>c .undef u) fun y2 H=>aa g true (fun w5=>aV .eql y2 (St [110,111]) fun y3=>w5 y3 H) (fun c=>c .undef H) fun y4 I=>ay g y4 (Bo false) fun v0=>aa v0 true (fun w6=>w6 c8 I) (fun c=>c .undef I) fun y5 L=>ay v0 y5 (Bo false) fun x=>aa x true (fun w7=>w7 c7 L) (fun c=>c .undef L) fun y6 O=>aa x true (fun w8=>aV .eql y6 (St [50]) fun y7=>w8 y7 O) (fun c=>c .undef O) fun y8 P=>ay x y8 (Bo false) fun y=>aa y true (fun w9=>w9 d4 P) (fun c=>c .undef P) fun y9 R=>aa y true (fun xa=>af .eql y9 (N .i64 0) fun za=>xa za R) (fun c=>c .undef R) fun zb S=>ay y zb (Bo false) fun z=>aa z true (fun xb=>xb d7 S) (fun c=>c .undef S) fun zc U=>aa z true (fun xc=>af .eql zc (N .i64 0) fun zd=>xc zd U) (fun c=>c .undef U) fun ze V=>ay z ze (Bo false) fun h=>aa h true (fun xd=>xd d6 V) (fun c=>c .undef V) fun zf W=>aa h true (fun xe=>xe v9 W) (fun c=>c .undef W) fun zg X=>aa h true (fun xf=>aR zg fun zh=>xf zh X) (fun c=>c .undef X) fun zi Y=>aa h true (fun xg=>af .eql zf zi fun zj=>xg zj Y) (fun c=>c .undef Y) fun zk va=>ay h zk (Bo false) fun i=>aa i true (fun xh=>aQ v1 3 fun zl=>xh zl va) (fun c=>c .undef va) fun zm p=>aa i true (fun xi=>aj p zm fun zn=>xi zn p) (fun c=>c .undef p) fun zo q=>aa i true (fun xj=>cz q zo fun zp=>xj zp q) (fun c=>c .undef q) fun zq vb=>aa i true (fun xk=>aV .eql zq (St [97,98,99,100]) fun zr=>xk zr vb) (fun c=>c .undef vb) fun zs wh=>ay i zs (Bo false) fun zt=>Q zt wh
def iY (p1 p2:Nat) (p3 p4:ai) (a0:AV) (M0:RM) (Q:ah) : Prop:=bf (.row [(St []),(St []),(.sc (.slice none 0 0)),(.sc (.slice none 0 0))] false p1 0) (fun g=>.ptr g 0) M0 fun c r=>bf (.row [(St []),(St []),(.sc (.slice none 0 0)),(.sc (.slice none 0 0))] false p1 0) (fun g=>.ptr g 0) r fun d s=>p3 [a0,(.fn (.func p2) [] [d])] s fun h j=>aC h 0 fun o=>aC h 1 fun y=>aC h 2 fun p=>af .neq p (N .i64 0) fun z=>au z ( gH [(St []),(St []),(.sc (.slice none 0 0)),(.sc (.slice none 0 0))] [] fun A=>aH j c A 4 fun l=>bu l c 4 fun v=>Q (.tup [v,(N .i64 0),p]) l) ( aQ d 2 fun B=>aH j B o 1 fun t=>p4 [a0,y,o] t fun i u=>aC i 0 fun C=>aC i 1 fun D=>aC i 2 fun q=>aQ d 3 fun E=>aH u E C 1 fun e=>af .neq q (N .i64 0) fun F=>au F ( gH [(St []),(St []),(.sc (.slice none 0 0)),(.sc (.slice none 0 0))] [] fun G=>aH e c G 4 fun m=>bu m c 4 fun w=>Q (.tup [w,(N .i64 0),q]) m) ( bu e d 4 fun H=>aH e c H 4 fun n=>bu n c 4 fun x=>Q (.tup [x,D,(N .i64 0)]) n))
def ik (p1:Nat) (p2 p3 p4:ai) (a0:AV) (M0:RM) (Q:ah) : Prop:=nW p1 a0 fun v u=>bf v u M0 fun d g=>bu g d 4 fun O=>p2 [O] g fun P c=>fQ P fun R=>au R ( Q (.tup [(.sc (.slice none 0 0)),(N .i64 1)]) c) ( aQ d 0 fun r=>aj c r fun s=>aV .add s (St [32]) fun U=>aQ d 1 fun h=>aj c h fun i=>aV .add U i fun x=>aV .add x (St [32]) fun y=>aV .add y (St [72,84,84,80,47,49,46,49]) fun z=>aQ d 2 fun j=>aj c j fun l=>aQ d 3 fun B=>aj c B fun C=>aR C fun D=>aQ d 3 fun m=>aj c m fun n=>aR n fun G=>aQ d 3 fun o=>aj c o fun p=>p3 [D] c fun E e=>aj e r fun S=>(S=s∧aj e h fun w=>(w=i∧aj e j fun A=>(A=l∧aj e m fun F=>(F=n∧aj e o fun H=>(H=p∧p4 [z,l,E,G,p] e fun q t=>aC q 0 fun I=>aC q 1 fun L=>Q (.tup [I,L]) t))))))
def gX (p1:Nat) (p2 p3 p4:ai) (a0:AV) (M0:RM) (Q:ah) : Prop:=nW p1 a0 fun C z=>bf C z M0 fun c l=>aQ c 0 fun vk=>aj l vk fun vl=>af .lss vl (N .i64 100) fun j=>aa j false (fun d=>aQ c 0 fun vm=>d vm l) (fun d=>d .undef l) fun vn m=>aa j false (fun A=>aj m vn fun D=>A D m) (fun d=>d .undef m) fun E u=>aa j false (fun B=>af .gtr E (N .i64 599) fun F=>B F u) (fun d=>d .undef u) fun G i=>ay j (Bo true) G fun H=>au H ( Q (.tup [(.sc (.slice none 0 0)),(N .i64 1)]) i) ( dN (fun t=>aQ c 0 fun I=>aj i I fun L=>af .quo L (N .i64 100) fun O=>af .eql O (N .i64 2) fun P=>au P ( t [(St [79,75])] i) ( t [(St [78,111])] i)) (fun vo e=>aQ c 0 fun R=>aj e R fun S=>aQ c 1 fun n=>aj e n fun o=>aQ c 2 fun v=>aj e v fun w=>aR w fun vb=>aQ c 2 fun p=>aj e p fun q=>aR q fun vf=>aQ c 2 fun r=>aj e r fun s=>p2 [S] e fun U g=>aj g n fun Z=>(Z=o∧aj g v fun va=>(va=w∧aj g p fun ve=>(ve=q∧aj g r fun vh=>(vh=s∧aV .add (St [72,84,84,80,47,49,46,49,32]) U fun V=>aV .add V (St [32]) fun W=>aV .add W (ax vo 0) fun X=>p3 [vb] g fun vc h=>aj h n fun Y=>(Y=o∧aj h p fun vd=>(vd=q∧aj h r fun vg=>(vg=s∧p4 [X,o,vc,vf,s] h fun x y=>aC x 0 fun vi=>aC x 1 fun vj=>Q (.tup [vi,vj]) y)))))))))
def iw (p1 p2:Nat) (p3 p4:ai) (a0:AV) (M0:RM) (Q:ah) : Prop:=bf (.row [(N .i64 0),(.sc (.slice none 0 0)),(.sc (.slice none 0 0))] false p1 0) (fun g=>.ptr g 0) M0 fun c r=>bf (.row [(N .i64 0),(.sc (.slice none 0 0)),(.sc (.slice none 0 0))] false p1 0) (fun g=>.ptr g 0) r fun d s=>p3 [a0,(.fn (.func p2) [] [d])] s fun h j=>aC h 0 fun o=>aC h 1 fun y=>aC h 2 fun p=>af .neq p (N .i64 0) fun z=>au z ( gH [(N .i64 0),(.sc (.slice none 0 0)),(.sc (.slice none 0 0))] [] fun A=>aH j c A 3 fun l=>bu l c 3 fun v=>Q (.tup [v,(N .i64 0),p]) l) ( aQ d 1 fun B=>aH j B o 1 fun t=>p4 [a0,y,o] t fun i u=>aC i 0 fun C=>aC i 1 fun D=>aC i 2 fun q=>aQ d 2 fun E=>aH u E C 1 fun e=>af .neq q (N .i64 0) fun F=>au F ( gH [(N .i64 0),(.sc (.slice none 0 0)),(.sc (.slice none 0 0))] [] fun G=>aH e c G 3 fun m=>bu m c 3 fun w=>Q (.tup [w,(N .i64 0),q]) m) ( bu e d 3 fun H=>aH e c H 3 fun n=>bu n c 3 fun x=>Q (.tup [x,D,(N .i64 0)]) n))
def jY (p1:Nat) (p2 p3:ai) (p4 p5:Nat) (p6:ai) (p7:Nat) (p8 p9:ai) (a0 a1:AV) (M0:RM) (Q:ah) : Prop:=nW p1 a0 fun vf U=>bf vf U M0 fun e n=>bu n e 4 fun vp=>p2 [vp] n fun vq j=>fQ vq fun vr=>au vr ( Q (.tup [(.sc (.slice none 0 0)),(N .i64 1)]) j) ( aQ e 3 fun vs=>aj j vs fun q=>p3 [a1] j fun vt x=>aR q fun vu=>dE p4 1 [(N .i64 0)] [(0,1,vu)] fun vi va=>bf vi va x fun vv E=>appW p4 1 8 [(N .i64 0)] false vt vv E fun r I=>aR r fun vw=>gu (fun ve c h=>af .lss (ax c 2) vw fun vx=>au vx ( dN (fun i=>dO r (ax c 2) 1 fun vy=>aj h vy fun vz=>aR (ax c 1) fun v0=>Dh false vz v0 fun d=>af .lss d (N .i64 1) fun v1=>au v1 ( i [(ax c 0),(ax c 1)] h) ( (( bH (dD 1 (ax c 1) none (some d) none) fun l=>dE p5 2 [(N .u8 0)] [(0,1,(N .u8 13)),(1,1,(N .u8 10))] fun vo vd=>uW vo vd h fun u P R=>p6 [d,(N .i64 16)] P fun v2 o=>bH (dD 1 (ax c 1) none (some d) none) fun v7=>(v7=l∧dE p5 2 [(N .u8 0)] [(0,1,(N .u8 13)),(1,1,(N .u8 10))] fun vk Y=>(EK R o vk Y u∧aV .add v2 (St [13,10]) fun s=>jI p5 s fun vg V=>uW vg V o fun t y S=>qj u y fun wb p=>jI p5 s fun vj X=>(EK S p vj X t∧bH (dD 1 (ax c 1) none (some d) none) fun v6=>(v6=l∧dE p7 4 [(.sc (.slice none 0 0))] [(0,1,(ax c 0)),(1,1,t),(2,1,l),(3,1,wb)] fun vh W=>uW vh W p fun wd z w1=>p8 [wd] z fun wf A=>bH (dD 1 (ax c 1) (some d) none none) fun wh=>i [wf,wh] A)))))∧( dE p5 2 [(N .u8 0)] [(0,1,(N .u8 13)),(1,1,(N .u8 10))] fun vl Z=>uW vl Z h fun wa B w2=>bH (dD 1 (ax c 1) none (some d) none) fun m=>qj wa B fun wc C=>bH (dD 1 (ax c 1) none (some d) none) fun v9=>(v9=m∧p6 [d,(N .i64 16)] C fun v3 D=>bH (dD 1 (ax c 1) none (some d) none) fun v8=>(v8=m∧aV .add v3 (St [13,10]) fun v4=>jI p5 v4 fun vm vb=>uW vm vb D fun v5 F w3=>dE p7 4 [(.sc (.slice none 0 0))] [(0,1,(ax c 0)),(1,1,v5),(2,1,m),(3,1,wc)] fun vn vc=>uW vn vc F fun we G w4=>p8 [we] G fun wg H=>bH (dD 1 (ax c 1) (some d) none none) fun wi=>i [wg,wi] H)))))) (fun w L=>af .add (ax c 2) (N .i64 1) fun wj=>ve [(ax w 0),(ax w 1),wj] L)) ( appW p5 1 1 [(N .u8 0)] false (ax c 0) (St [48,13,10,13,10]) h fun wk g=>aQ e 0 fun wl=>aj g wl fun wm=>aV .add wm (St [32]) fun wn=>aQ e 1 fun wo=>aj g wo fun wp=>aV .add wn wp fun wq=>aV .add wq (St [32]) fun wr=>aV .add wr (St [72,84,84,80,47,49,46,49]) fun ws=>aQ e 2 fun wt=>aj g wt fun wu=>gH [(St []),(St [])] [(0,1,(St [84,114,97,110,115,102,101,114,45,69,110,99,111,100,105,110,103])),(1,1,(St [99,104,117,110,107,101,100]))] fun wv=>aQ e 3 fun ww=>aj g ww fun wx=>aR wx fun wy=>p9 [ws,wu,wv,wy,wk] g fun v O=>aC v 0 fun wz=>aC v 1 fun w0=>Q (.tup [wz,w0]) O)) [(.sc (.slice none 0 0)),q,(N .i64 0)] I)
def iV (p1:Nat) (p2:ai) (a0 a1:AV) (M0:RM) (Q:ah) : Prop:=nW p1 a0 fun h g=>bf h g M0 fun l c=>aQ l 2 fun m=>aj c m fun n=>p2 [n,a1] c fun d e=>aC d 0 fun i=>aC d 1 fun j=>Q (.tup [i,j]) e
def iq (p1:Nat) (p2:ai) (a0 a1:AV) (M0:RM) (Q:ah) : Prop:=nW p1 a0 fun h g=>bf h g M0 fun l c=>aQ l 1 fun m=>aj c m fun n=>p2 [n,a1] c fun d e=>aC d 0 fun i=>aC d 1 fun j=>Q (.tup [i,j]) e
def mQ (p1:ai) (cv:(FuncId→ai)) (p2:ai) (p3:Nat) (a0 a1:AV) (M0:RM) (Q:ah) : Prop:=p1 [a0,(N .i64 0)] M0 fun g i=>aC g 0 fun A=>aC g 1 fun B=>aC g 2 fun l=>af .neq l (N .i64 0) fun C=>au C ( Q (.tup [(.sc (.slice none 0 0)),(N .i64 0),l]) i) ( yV cv a1 [A] i fun D j=>fQ D fun E=>au E ( Q (.tup [(.sc (.slice none 0 0)),(N .i64 0),(N .i64 14)]) j) ( gu (fun y d r=>p1 [a0,(ax d 1)] r fun h c=>aC h 0 fun m=>aC h 1 fun n=>aC h 2 fun o=>af .neq o (N .i64 0) fun F=>au F ( Q (.tup [(.sc (.slice none 0 0)),(N .i64 0),o]) c) ( aV .eql m (St []) fun G=>au G ( Q (.tup [(ax d 0),n,(N .i64 0)]) c) ( aR (ax d 0) fun H=>af .eql H (N .i64 32) fun I=>au I ( Q (.tup [(.sc (.slice none 0 0)),(N .i64 0),(N .i64 2)]) c) ( p2 [m] c fun p s=>aC p 0 fun L=>aC p 1 fun O=>bf (.row [(St []),(St [])] false p3 0) (fun w=>.ptr w 0) s fun q t=>aH t q L 2 fun e=>fQ O fun P=>au P ( Q (.tup [(.sc (.slice none 0 0)),(N .i64 0),(N .i64 14)]) e) ( bu e q 2 fun R=>dE p3 1 [(St []),(St [])] [(0,2,R)] fun z x=>bf z x e fun S u=>appW p3 2 32 [(St []),(St [])] false (ax d 0) S u fun U v=>y [U,n] v))))) [(.sc (.slice none 0 0)),B] j))
def gY (p1 p2 p3:ai) (a0 a1:AV) (M0:RM) (Q:ah) : Prop:=p1 [a0,(St [32])] M0 fun e n=>aR e fun v2=>af .neq v2 (N .i64 3) fun g=>aa g false (fun c=>c e n) (fun c=>c .undef n) fun X o=>aa g false (fun E=>dO X (N .i64 0) 1 fun Y=>E Y o) (fun c=>c .undef o) fun Z l=>aa g false (fun V=>aj l Z fun va=>V va l) (fun c=>c .undef l) fun vb y=>aa g false (fun W=>p2 [vb] y fun vc D=>W vc D) (fun c=>c .undef y) fun vd p=>aa g false (fun F=>fQ vd fun ve=>F ve p) (fun c=>c .undef p) fun vf q=>ay g (Bo true) vf fun d=>aa d false (fun G=>G e q) (fun c=>c .undef q) fun vg r=>aa d false (fun H=>dO vg (N .i64 1) 1 fun vh=>H vh r) (fun c=>c .undef r) fun vi j=>aa d false (fun I=>aj j vi fun vj=>I vj j) (fun c=>c .undef j) fun vk s=>aa d false (fun L=>p3 [vk] s fun vl B=>L vl B) (fun c=>c .undef s) fun vm t=>aa d false (fun O=>fQ vm fun vn=>O vn t) (fun c=>c .undef t) fun vo u=>ay d (Bo true) vo fun h=>aa h false (fun P=>P e u) (fun c=>c .undef u) fun vp v=>aa h false (fun R=>dO vp (N .i64 2) 1 fun vq=>R vq v) (fun c=>c .undef v) fun vr m=>aa h false (fun S=>aj m vr fun vs=>S vs m) (fun c=>c .undef m) fun vt w=>aa h false (fun U=>aV .neq vt (St [72,84,84,80,47,49,46,49]) fun vu=>U vu w) (fun c=>c .undef w) fun vv i=>ay h (Bo true) vv fun vw=>au vw ( Q (Bo false) i) ( dO e (N .i64 0) 1 fun vx=>aj i vx fun vy=>dO e (N .i64 1) 1 fun z=>aj i z fun A=>aQ a1 0 fun v0=>aH i v0 vy 1 fun x=>aj x z fun vz=>(vz=A∧aQ a1 1 fun v1=>aH x v1 A 1 fun C=>Q (Bo true) C))
def je (p1 p2:ai) (p3:Nat) (a0:AV) (M0:RM) (Q:ah) : Prop:=p1 [a0,(N .i64 1),(N .i64 8)] M0 fun d e=>aa d true (fun c=>c a0 e) (fun c=>c .undef e) fun l g=>aa d true (fun j=>p2 [l,(.fn (.func p3) [] [])] g fun m h=>j m h) (fun c=>c .undef g) fun n i=>ay d n (Bo false) fun o=>Q o i
def jR (p1 p2:ai) (p3:Nat) (a0:AV) (M0:RM) (Q:ah) : Prop:=p1 [a0,(St [47])] M0 fun d g=>aa d true (fun c=>c a0 g) (fun c=>c .undef g) fun w h=>aa d true (fun o=>bZ w fun x=>o x h) (fun c=>c .undef h) fun y i=>aa d true (fun p=>af .leq y (N .i64 201) fun z=>p z i) (fun c=>c .undef i) fun A j=>ay d A (Bo false) fun e=>aa e true (fun q=>q a0 j) (fun c=>c .undef j) fun s l=>aa e true (fun r=>p2 [s,(.fn (.func p3) [] [])] l fun t m=>r t m) (fun c=>c .undef l) fun u n=>ay e u (Bo false) fun v=>Q v n
def nD (p1 p2 p3 p4 p5:ai) (p6:Nat) (p7 p8:ai) (a0 a1 a2:AV) (M0:RM) (Q:ah) : Prop:=p1 [a2,(St [116,114,97,110,115,102,101,114,45,101,110,99,111,100,105,110,103])] M0 fun r I=>p1 [a2,(St [99,111,110,116,101,110,116,45,108,101,110,103,116,104])] I fun d i=>aR r fun vl=>af .gtr vl (N .i64 0) fun vm=>au vm ( aR r fun vn=>af .gtr vn (N .i64 1) fun e=>aa e false (fun c=>c r i) (fun c=>c .undef i) fun vo t=>aa e false (fun X=>dO vo (N .i64 0) 1 fun vp=>X vp t) (fun c=>c .undef t) fun vq n=>aa e false (fun vi=>aj n vq fun vr=>vi vr n) (fun c=>c .undef n) fun vs G=>aa e false (fun vk=>p2 [vs] G fun vt S=>vk vt S) (fun c=>c .undef G) fun vu u=>aa e false (fun U=>aV .neq vu (St [99,104,117,110,107,101,100]) fun vv=>U vv u) (fun c=>c .undef u) fun vw v=>ay e (Bo true) vw fun j=>aa j false (fun V=>V d v) (fun c=>c .undef v) fun vx w=>aa j false (fun W=>aR vx fun vy=>W vy w) (fun c=>c .undef w) fun vz x=>aa j false (fun Y=>af .gtr vz (N .i64 0) fun v0=>Y v0 x) (fun c=>c .undef x) fun v1 y=>ay j (Bo true) v1 fun v2=>au v2 ( Q (.tup [(.sc (.slice none 0 0)),(N .i64 0),(N .i64 14)]) y) ( p3 [a0,a1] y fun s L=>aC s 0 fun v3=>aC s 1 fun v4=>aC s 2 fun v5=>Q (.tup [v3,v4,v5]) L)) ( aR d fun v6=>af .eql v6 (N .i64 0) fun v7=>au v7 ( Q (.tup [(.sc (.slice none 0 0)),a1,(N .i64 0)]) i) ( aR d fun v8=>af .gtr v8 (N .i64 1) fun g=>aa g false (fun Z=>Z d i) (fun c=>c .undef i) fun v9 z=>aa g false (fun va=>dO v9 (N .i64 0) 1 fun wa=>va wa z) (fun c=>c .undef z) fun wb m=>aa g false (fun vb=>aj m wb fun wc=>vb wc m) (fun c=>c .undef m) fun wd A=>aa g false (fun vc=>p4 [wd,(N .i64 1),(N .i64 9)] A fun we O=>vc we O) (fun c=>c .undef A) fun wf B=>aa g false (fun vd=>fQ wf fun wg=>vd wg B) (fun c=>c .undef B) fun wh C=>ay g (Bo true) wh fun h=>aa h false (fun ve=>ve d C) (fun c=>c .undef C) fun wi D=>aa h false (fun vf=>dO wi (N .i64 0) 1 fun wj=>vf wj D) (fun c=>c .undef D) fun wk o=>aa h false (fun vg=>aj o wk fun wl=>vg wl o) (fun c=>c .undef o) fun wm E=>aa h false (fun vh=>p5 [wm,(.fn (.func p6) [] [])] E fun wn P=>vh wn P) (fun c=>c .undef E) fun wo F=>aa h false (fun vj=>fQ wo fun wp=>vj wp F) (fun c=>c .undef F) fun wq p=>ay h (Bo true) wq fun wr=>au wr ( Q (.tup [(.sc (.slice none 0 0)),(N .i64 0),(N .i64 14)]) p) ( dO d (N .i64 0) 1 fun ws=>aj p ws fun wt=>p7 [wt] p fun H q=>aC H 0 fun l=>aC H 1 fun w2=>af .gtr l (N .i64 16384) fun wu=>au wu ( Q (.tup [(.sc (.slice none 0 0)),(N .i64 0),(N .i64 2)]) q) ( aR a0 fun wv=>af .sub wv a1 fun ww=>af .gtr l ww fun wx=>au wx ( Q (.tup [(.sc (.slice none 0 0)),(N .i64 0),(N .i64 15)]) q) ( af .add a1 l fun wy=>bH (dD 1 a0 (some a1) (some wy) none) fun wz=>p8 [wz] q fun w0 R=>af .add a1 l fun w1=>Q (.tup [w0,w1,(N .i64 0)]) R)))))
def iN (p1:Nat) (p2 p3:ai) (a0:AV) (M0:RM) (Q:ah) : Prop:=nW p1 a0 fun q n=>bf q n M0 fun j g=>aQ j 0 fun s=>aj g s fun t=>p2 [t] g fun d h=>aa d true (fun c=>aQ j 1 fun u=>c u h) (fun c=>c .undef h) fun v e=>aa d true (fun o=>aj e v fun w=>o w e) (fun c=>c .undef e) fun x i=>aa d true (fun p=>p3 [x] i fun y l=>p y l) (fun c=>c .undef i) fun z m=>ay d z (Bo false) fun r=>Q r m
def kJ (p1:Nat) (p2 p3 p4:ai) (p5:Nat) (a0 a1 a2 a3 a4:AV) (M0:RM) (Q:ah) : Prop:=nW p1 a2 fun vp W=>bf vp W M0 fun H I=>aV .add a0 (St [13,10]) fun vr=>aR a1 fun vs=>gu (fun vo j e=>af .lss (ax j 1) vs fun vt=>au vt ( dO a1 (ax j 1) 2 fun vu=>bu e vu 2 fun vv=>bf (.row [(St []),(St [])] false p1 0) (fun V=>.ptr V 0) e fun d L=>aH L d vv 2 fun t=>aQ d 0 fun vw=>aj t vw fun vx=>p2 [vx] t fun vy x=>fQ vy fun g=>aa g false (fun c=>aQ d 1 fun vz=>c vz x) (fun c=>c .undef x) fun v0 p=>aa g false (fun vm=>aj p v0 fun v1=>vm v1 p) (fun c=>c .undef p) fun v2 F=>aa g false (fun vn=>p3 [v2] F fun v3 O=>vn v3 O) (fun c=>c .undef F) fun v4 r=>aa g false (fun Y=>fQ v4 fun v5=>Y v5 r) (fun c=>c .undef r) fun v6 s=>ay g (Bo true) v6 fun h=>aa h false (fun Z=>aQ d 0 fun v7=>Z v7 s) (fun c=>c .undef s) fun v8 n=>aa h false (fun va=>aj n v8 fun v9=>va v9 n) (fun c=>c .undef n) fun wa u=>aa h false (fun vb=>p4 [wa] u fun wb P=>vb wb P) (fun c=>c .undef u) fun wc v=>aa h false (fun vc=>aV .eql wc (St [116,114,97,110,115,102,101,114,45,101,110,99,111,100,105,110,103]) fun wd=>vc wd v) (fun c=>c .undef v) fun we w=>ay h (Bo true) we fun i=>aa i false (fun vd=>aQ d 0 fun wf=>vd wf w) (fun c=>c .undef w) fun wg o=>aa i false (fun ve=>aj o wg fun wh=>ve wh o) (fun c=>c .undef o) fun wi y=>aa i false (fun vf=>p4 [wi] y fun wj R=>vf wj R) (fun c=>c .undef y) fun wk z=>aa i false (fun vg=>aV .eql wk (St [99,111,110,116,101,110,116,45,108,101,110,103,116,104]) fun wl=>vg wl z) (fun c=>c .undef z) fun wm l=>ay i (Bo true) wm fun wn=>au wn ( Q (.tup [(.sc (.slice none 0 0)),(N .i64 1)]) l) ( aQ d 0 fun wo=>aj l wo fun wp=>aV .add wp (St [58,32]) fun wq=>aQ d 1 fun wr=>aj l wr fun ws=>aV .add wq ws fun wt=>aV .add wt (St [13,10]) fun wu=>aV .add (ax j 0) wu fun wv=>af .add (ax j 1) (N .i64 1) fun ww=>vo [wv,ww] l)) ( aQ H 0 fun wx=>aj e wx fun wy=>aV .add wy (St [58,32]) fun wz=>aQ H 1 fun w0=>aj e w0 fun w1=>aV .add wz w1 fun w2=>aV .add w2 (St [13,10]) fun w3=>aV .add w3 (St [13,10]) fun w4=>aV .add (ax j 0) w4 fun G=>aR a1 fun w5=>af .add w5 (N .i64 1) fun w6=>af .gtr w6 (N .i64 32) fun m=>aa m false (fun vh=>vh G e) (fun c=>c .undef e) fun w7 A=>aa m false (fun vi=>bZ w7 fun w8=>vi w8 A) (fun c=>c .undef A) fun w9 B=>aa m false (fun vj=>af .gtr w9 (N .i64 2048) fun xa=>vj xa B) (fun c=>c .undef B) fun xb C=>ay m (Bo true) xb fun q=>aa q false (fun vk=>vk a3 C) (fun c=>c .undef C) fun xc D=>aa q false (fun vl=>af .gtr xc (N .i64 16384) fun xd=>vl xd D) (fun c=>c .undef D) fun xe E=>ay q (Bo true) xe fun xf=>au xf ( Q (.tup [(.sc (.slice none 0 0)),(N .i64 2)]) E) ( jI p5 G fun vq X=>bf vq X E fun xg S=>appW p5 1 1 [(N .u8 0)] false xg a4 S fun xh U=>Q (.tup [xh,(N .i64 0)]) U))) [vr,(N .i64 0)] I
def kI (p1:Nat) (p2:ai) (a0:AV) (M0:RM) (Q:ah) : Prop:=bf (.row [(St []),(St [])] false p1 0) (fun h=>.ptr h 0) M0 fun d e=>p2 [a0] e fun j g=>gH [(St []),(St [])] [(0,1,(St [67,111,110,116,101,110,116,45,76,101,110,103,116,104])),(1,1,j)] fun l=>aH g d l 2 fun c=>bu c d 2 fun i=>Q i c
def gJ (p1 p2:ai) (p3 p4:Nat) (p5:ai) (a0 a1:AV) (M0:RM) (Q:ah) : Prop:=p1 [a0,(St [72,84,84,80,47,49,46,49,32])] M0 fun E n=>aC E 0 fun g=>aC E 1 fun vf=>fQ vf fun h=>aa h false (fun c=>c g n) (fun c=>c .undef n) fun vg o=>aa h false (fun L=>bZ vg fun vh=>L vh o) (fun c=>c .undef o) fun vi w=>aa h false (fun Z=>af .lss vi (N .i64 4) fun vj=>Z vj w) (fun c=>c .undef w) fun vk B=>ay h (Bo true) vk fun d=>aa d false (fun vd=>vd g B) (fun c=>c .undef B) fun vl C=>aa d false (fun ve=>bH (cZ vl none (some (N .i64 3))) fun vm=>ve vm C) (fun c=>c .undef C) fun vn p=>aa d false (fun O=>p2 [vn,(.fn (.func p3) [] [])] p fun vo F=>O vo F) (fun c=>c .undef p) fun vp q=>aa d false (fun P=>fQ vp fun vq=>P vq q) (fun c=>c .undef q) fun vr r=>ay d (Bo true) vr fun i=>aa i false (fun R=>R g r) (fun c=>c .undef r) fun vs s=>aa i false (fun S=>dZ vs (N .i64 3) fun vt=>S vt s) (fun c=>c .undef s) fun vu t=>aa i false (fun U=>af .neq vu (N .u8 32) fun vv=>U vv t) (fun c=>c .undef t) fun vw u=>ay i (Bo true) vw fun e=>aa e false (fun V=>V g u) (fun c=>c .undef u) fun vx v=>aa e false (fun W=>bH (cZ vx (some (N .i64 3)) none) fun vy=>W vy v) (fun c=>c .undef v) fun vz x=>aa e false (fun X=>p2 [vz,(.fn (.func p4) [] [])] x fun v0 G=>X v0 G) (fun c=>c .undef x) fun v1 y=>aa e false (fun Y=>fQ v1 fun v2=>Y v2 y) (fun c=>c .undef y) fun v3 z=>ay e (Bo true) v3 fun v4=>au v4 ( Q (Bo false) z) ( bH (cZ g none (some (N .i64 3))) fun v5=>p5 [v5] z fun D H=>aC D 0 fun v6=>aC D 1 fun wh=>aQ a1 0 fun v7=>aH H v7 v6 1 fun l=>aQ a1 0 fun v8=>aj l v8 fun v9=>af .geq v9 (N .i64 100) fun j=>aa j true (fun va=>aQ a1 0 fun wa=>va wa l) (fun c=>c .undef l) fun wb m=>aa j true (fun vb=>aj m wb fun wc=>vb wc m) (fun c=>c .undef m) fun wd A=>aa j true (fun vc=>af .leq wd (N .i64 599) fun we=>vc we A) (fun c=>c .undef A) fun wf I=>ay j wf (Bo false) fun wg=>Q wg I)
def nT (p1:Nat) (cv:(FuncId→ai)) (a0 a1:AV) (M0:RM) (Q:ah) : Prop:=jI p1 a0 fun l i=>bf l i M0 fun g h=>aR g fun s=>gu (fun j d c=>af .lss (ax d 0) s fun m=>au m ( dO g (ax d 0) 1 fun n=>aj c n fun o=>yV cv a1 [o] c fun p e=>fQ p fun q=>au q ( Q (Bo false) e) ( af .add (ax d 0) (N .i64 1) fun r=>j [r] e)) ( Q (Bo true) c)) [(N .i64 0)] h
def mi (a0:AV) (M0:RM) (Q:ah) : Prop:=af .geq a0 (N .u8 48) fun d=>aa d true (fun c=>c a0 M0) (fun c=>c .undef M0) fun i e=>aa d true (fun h=>af .leq i (N .u8 57) fun j=>h j e) (fun c=>c .undef e) fun l g=>ay d l (Bo false) fun m=>Q m g
def fU (a0:AV) (M0:RM) (Q:ah) : Prop:=af .geq a0 (N .u8 32) fun d=>aa d true (fun c=>c a0 M0) (fun c=>c .undef M0) fun i e=>aa d true (fun h=>af .leq i (N .u8 126) fun j=>h j e) (fun c=>c .undef e) fun l g=>ay d l (Bo false) fun m=>Q m g
def uf (p1:Nat) (a0:AV) (M0:RM) (Q:ah) : Prop:=gI false 2 a0 (.sc (.slice none 0 0)) fun h=>au h ( Q (.sc (.slice none 0 0)) M0) ( dE p1 0 [(N .i64 0)] [] fun g e=>bf g e M0 fun i c=>appW p1 1 8 [(N .i64 0)] false i a0 c fun j d=>Q j d)
def pI (p1:Nat) (p2:ai) (p3:Nat) (a0:AV) (M0:RM) (Q:ah) : Prop:=aR a0 fun p=>gu (fun n c e=>af .lss (ax c 1) p fun q=>au q ( dN (fun i=>dO a0 (ax c 1) 1 fun r=>aj e r fun s=>aR s fun t=>af .add (ax c 0) t fun h=>af .lss h (N .i64 0) fun u=>au u ( False) ( i [h] e)) (fun D j=>af .add (ax c 1) (N .i64 1) fun v=>n [(ax D 0),v] j)) ( p2 [(.sc (.slice none 0 0)),(ax c 0)] e fun w l=>aR a0 fun x=>gu (fun o d g=>af .lss (ax d 1) x fun y=>au y ( dO a0 (ax d 1) 1 fun z=>aj g z fun A=>appW p3 1 1 [(N .u8 0)] false (ax d 0) A g fun B m=>af .add (ax d 1) (N .i64 1) fun C=>o [B,C] m) ( Q (ax d 0) g)) [w,(N .i64 0)] l)) [(N .i64 0),(N .i64 0)] M0
def nO (p1:ai) (a0 a1:AV) (M0:RM) (Q:ah) : Prop:=p1 [a0,a1] M0 fun d c=>Q d c
def mE (p1:ai) (a0 a1:AV) (M0:RM) (Q:ah) : Prop:=p1 [a0,a1] M0 fun d c=>aR d fun e=>af .gtr e (N .i64 0) fun g=>au g ( dO d (N .i64 0) 1 fun h=>aj c h fun i=>Q (.tup [i,(Bo true)]) c) ( Q (.tup [(St []),(Bo false)]) c)
def nk (p1:Nat) (p2:ai) (a0 a1:AV) (M0:RM) (Q:ah) : Prop:=aR a0 fun j=>Dh false j (N .i64 2048) fun l=>bH (dD 1 a0 (some a1) (some l) none) fun m=>dE p1 2 [(N .u8 0)] [(0,1,(N .u8 13)),(1,1,(N .u8 10))] fun i h=>bf i h M0 fun n e=>qj n e fun o g=>p2 [m,o] g fun d c=>af .geq d (N .i64 0) fun p=>au p ( af .add a1 d fun q=>bH (dD 1 a0 (some a1) (some q) none) fun r=>cz c r fun s=>af .add a1 d fun t=>af .add t (N .i64 2) fun u=>Q (.tup [s,u,(N .i64 0)]) c) ( aR a0 fun v=>af .lss v (N .i64 2048) fun w=>au w ( Q (.tup [(St []),(N .i64 0),(N .i64 15)]) c) ( Q (.tup [(St []),(N .i64 0),(N .i64 2)]) c))
def lg (p1:Nat) (p2 p3 p4 p5:ai) (a0:AV) (M0:RM) (Q:ah) : Prop:=bf (.row [(St []),(St [])] false p1 0) (fun e=>.ptr e 0) M0 fun t u=>p2 [a0,(St [58])] u fun n v=>aC n 0 fun G=>aC n 1 fun H=>aC n 2 fun g=>p3 [H,(St [32,9])] v fun I w=>gH [(St []),(St [])] [(0,1,G),(1,1,I)] fun L=>bf (.row [(St []),(St [])] false p1 0) (fun e=>.ptr e 0) w fun d y=>aH y d L 2 fun l=>bu l d 2 fun o=>lN g true (fun c=>aQ d 0 fun R=>c R l none) (fun c=>c .undef l none) fun S m e=>lN g true (fun E=>aj m S fun U=>E U m none) (fun c=>c .undef m none) fun V s vh=>aa g true (fun A=>p4 [V] s fun W x=>A W x) (fun c=>c .undef s) fun X i=>bu i d 2 fun P=>(P=o∧ay g X (Bo false) fun h=>lN h true (fun B=>aQ d 1 fun Y=>B Y i none) (fun c=>c .undef i none) fun Z j vf=>lN h true (fun C=>aj j Z fun va=>C va j none) (fun c=>c .undef j none) fun vb p vg=>aa h true (fun D=>p5 [vb] p fun vc z=>D vc z) (fun c=>c .undef p) fun vd q=>bu q d 2 fun O=>(O=o∧ay h vd (Bo false) fun ve=>aH q t o 2 fun r=>bu r t 2 fun F=>Q (.tup [F,ve]) r))
def lq (a0 a1 a2:AV) (M0:RM) (Q:ah) : Prop:=bZ a0 fun u=>af .geq u a1 fun d=>aa d true (fun c=>c a0 M0) (fun c=>c .undef M0) fun n e=>aa d true (fun j=>bZ n fun o=>j o e) (fun c=>c .undef e) fun p g=>aa d true (fun l=>l a2 g) (fun c=>c .undef g) fun q h=>aa d true (fun m=>af .leq p q fun r=>m r h) (fun c=>c .undef h) fun s i=>ay d s (Bo false) fun t=>Q t i
def ma (a0:AV) (M0:RM) (Q:ah) : Prop:=af .geq a0 (N .u8 65) fun d=>aa d true (fun c=>c a0 M0) (fun c=>c .undef M0) fun i e=>aa d true (fun h=>af .leq i (N .u8 90) fun j=>h j e) (fun c=>c .undef e) fun l g=>ay d l (Bo false) fun m=>Q m g
def kL (a0:AV) (M0:RM) (Q:ah) : Prop:=af .geq a0 (N .u8 33) fun d=>aa d true (fun c=>c a0 M0) (fun c=>c .undef M0) fun i e=>aa d true (fun h=>af .leq i (N .u8 126) fun j=>h j e) (fun c=>c .undef e) fun l g=>ay d l (Bo false) fun m=>Q m g
def mh (p1:Nat) (p2:ai) (p3:Nat) (a0 a1:AV) (M0:RM) (Q:ah) : Prop:=aR a0 fun G=>gu (fun r c d=>af .lss (ax c 1) G fun t=>au t ( dN (fun h=>dO a0 (ax c 1) 2 fun u=>bu d u 2 fun v=>bf (.row [(St []),(St [])] false p1 0) (fun p=>.ptr p 0) d fun g j=>aH j g v 2 fun i=>aQ g 0 fun w=>aj i w fun x=>p2 [x] i fun y l=>p2 [a1] l fun z e=>aV .eql y z fun A=>au A ( aQ g 1 fun B=>aj e B fun C=>dE p3 1 [(St [])] [(0,1,C)] fun s q=>bf s q e fun D m=>appW p3 1 16 [(St [])] false (ax c 0) D m fun E n=>h [E] n) ( h [(ax c 0)] e)) (fun H o=>af .add (ax c 1) (N .i64 1) fun F=>r [(ax H 0),F] o)) ( Q (ax c 0) d)) [(.sc (.slice none 0 0)),(N .i64 0)] M0
def mf (p1:Nat) (a0:AV) (M0:RM) (Q:ah) : Prop:=jI p1 a0 fun t q=>bf t q M0 fun e n=>aR e fun F=>gu (fun s g c=>af .lss (ax g 0) F fun u=>au u ( dN (fun j=>dO e (ax g 0) 1 fun v=>aj c v fun h=>af .geq h (N .u8 65) fun i=>aa i true (fun d=>d h c) (fun d=>d .undef c) fun w l=>aa i true (fun r=>af .leq w (N .u8 90) fun x=>r x l) (fun d=>d .undef l) fun y m=>ay i y (Bo false) fun z=>au z ( af .add h (N .u8 97) fun A=>af .sub A (N .u8 65) fun B=>dO e (ax g 0) 1 fun C=>aH m C B 1 fun o=>j [] o) ( j [] m)) (fun G p=>af .add (ax g 0) (N .i64 1) fun D=>s [D] p)) ( cz c e fun E=>Q E c)) [(N .i64 0)] n
def jZ (p1:ai) (p2:Nat) (a0 a1:AV) (M0:RM) (Q:ah) : Prop:=gu (fun n g l=>p1 [a0,(ax g 0)] l fun h c=>aC h 0 fun d=>aC h 1 fun e=>aC h 2 fun i=>af .neq i (N .i64 0) fun o=>au o ( Q (.tup [(.sc (.slice none 0 0)),(N .i64 0),i]) c) ( aR (ax g 1) fun p=>af .sub (N .i64 16384) p fun q=>af .gtr d q fun r=>au r ( Q (.tup [(.sc (.slice none 0 0)),(N .i64 0),(N .i64 2)]) c) ( af .add d (N .i64 2) fun s=>aR a0 fun t=>af .sub t e fun u=>af .gtr s u fun v=>au v ( Q (.tup [(.sc (.slice none 0 0)),(N .i64 0),(N .i64 15)]) c) ( af .add e d fun w=>af .add e d fun x=>af .add x (N .i64 2) fun y=>bH (dD 1 a0 (some w) (some y) none) fun z=>cz c z fun A=>aV .neq A (St [13,10]) fun B=>au B ( Q (.tup [(.sc (.slice none 0 0)),(N .i64 0),(N .i64 14)]) c) ( af .add e d fun C=>af .add C (N .i64 2) fun j=>af .eql d (N .i64 0) fun D=>au D ( Q (.tup [(ax g 1),j,(N .i64 0)]) c) ( af .add e d fun E=>bH (dD 1 a0 (some e) (some E) none) fun F=>appW p2 1 1 [(N .u8 0)] false (ax g 1) F c fun G m=>n [j,G] m)))))) [a1,(.sc (.slice none 0 0))] M0
def jL (p1 p2 p3:ai) (p4:Nat) (a0:AV) (M0:RM) (Q:ah) : Prop:=p1 [a0,(N .i64 1),(N .i64 40)] M0 fun d e=>aa d true (fun c=>c a0 e) (fun c=>c .undef e) fun o g=>aa d true (fun m=>p2 [o] g fun p i=>m p i) (fun c=>c .undef g) fun q h=>aa d true (fun n=>p3 [q,(.fn (.func p4) [] [])] h fun r j=>n r j) (fun c=>c .undef h) fun s l=>ay d s (Bo false) fun t=>Q t l
def jy (p1 p2:ai) (p3:Nat) (a0:AV) (M0:RM) (Q:ah) : Prop:=p1 [a0,(St [32,9])] M0 fun m e=>aV .eql a0 m fun d=>aa d true (fun c=>c a0 e) (fun c=>c .undef e) fun n g=>aa d true (fun j=>p2 [n,(.fn (.func p3) [] [])] g fun o h=>j o h) (fun c=>c .undef g) fun p i=>ay d p (Bo false) fun l=>Q l i
def tZ (p1 p2:Nat) (a0 a1:AV) (M0:RM) (Q:ah) : Prop:=dN (fun g=>af .lss a1 (N .i64 0) fun t=>au t ( False) ( g [] M0)) (fun v d=>dN (fun c=>uY a0 fun j=>aR a0 fun l=>af .sub j l fun m=>af .sub a1 m fun e=>af .gtr e (N .i64 0) fun n=>au n ( uY a0 fun o=>bH (dD 1 a0 none (some o) none) fun p=>appW p2 1 1 [(N .u8 0)] true p e d fun q h=>aR a0 fun r=>bH (dD 1 q none (some r) none) fun s=>c [s] h) ( c [a0] d)) (fun u i=>Q (ax u 0) i))
def fE (p1:ai) (p2:Nat) (p3 p4 p5:ai) (a0 a1:AV) (M0:RM) (Q:ah) : Prop:=af .eql a1 (N .i64 10) fun x=>au x ( af .leq (N .i64 0) a0 fun g=>aa g true (fun c=>c a0 M0) (fun c=>c .undef M0) fun y j=>aa g true (fun w=>af .lss y (N .i64 100) fun z=>w z j) (fun c=>c .undef j) fun A l=>ay g A (Bo false) fun B=>au B ( p1 [a0] l fun C r=>Q C r) ( bf (.row [(N .u8 0),(N .u8 0),(N .u8 0),(N .u8 0),(N .u8 0),(N .u8 0),(N .u8 0),(N .u8 0),(N .u8 0),(N .u8 0),(N .u8 0),(N .u8 0),(N .u8 0),(N .u8 0),(N .u8 0),(N .u8 0),(N .u8 0),(N .u8 0),(N .u8 0),(N .u8 0),(N .u8 0),(N .u8 0),(N .u8 0),(N .u8 0)] false p2 0) (fun v=>.ptr v 0) l fun d m=>il .u64 a0 fun o=>dN (fun i=>af .lss a0 (N .i64 0) fun D=>au D ( Fg o fun E=>i [E] m) ( i [o] m)) (fun q s=>p3 [(ax q 0)] s fun h t=>af .add (N .i64 1) h fun F=>bH (qM 24 1 d (some (N .i64 1)) (some F)) fun G=>p4 [G,(ax q 0)] t fun Y e=>af .lss a0 (N .i64 0) fun H=>au H ( mV d (N .i64 0) 24 1 fun I=>aH e I (N .u8 45) 1 fun n=>af .add (N .i64 1) h fun L=>bH (qM 24 1 d none (some L)) fun O=>cz n O fun P=>Q P n) ( af .add (N .i64 1) h fun R=>bH (qM 24 1 d (some (N .i64 1)) (some R)) fun S=>cz e S fun U=>Q U e)))) ( il .u64 a0 fun V=>af .lss a0 (N .i64 0) fun W=>p5 [(.sc (.slice none 0 0)),V,a1,W,(Bo false)] M0 fun p u=>aC p 0 fun Z=>aC p 1 fun X=>Q X u)
def ny (p1:Nat) (p2 p3 p4 p5:ai) (p6:Nat) (p7:ai) (a0 a1:AV) (M0:RM) (Q:ah) : Prop:=bH (dD 1 a0 (some a1) none none) fun L=>dE p1 2 [(N .u8 0)] [(0,1,(N .u8 13)),(1,1,(N .u8 10))] fun I A=>bf I A M0 fun O v=>qj O v fun P w=>p2 [L,P] w fun l m=>aC l 0 fun e=>aC l 1 fun vr=>aC l 2 fun t=>fQ t fun h=>aa h true (fun c=>c e m) (fun c=>c .undef m) fun R p=>aa h true (fun G=>aR R fun S=>G S p) (fun c=>c .undef p) fun U r=>aa h true (fun H=>af .gtr U (N .i64 10) fun V=>H V r) (fun c=>c .undef r) fun W g=>ay h W (Bo false) fun X=>au X ( Q (.tup [(N .i64 0),(N .i64 0),(N .i64 14)]) g) ( fQ t fun Y=>au Y ( Q (.tup [(N .i64 0),(N .i64 0),(N .i64 15)]) g) ( cz g e fun Z=>p3 [Z,(N .i64 1),(N .i64 8)] g fun va s=>fQ va fun d=>aa d false (fun B=>B e s) (fun c=>c .undef s) fun vb i=>aa d false (fun C=>cz i vb fun vc=>C vc i) (fun c=>c .undef i) fun vd n=>aa d false (fun D=>p4 [vd] n fun ve x=>D ve x) (fun c=>c .undef n) fun vf o=>aa d false (fun E=>p5 [vf,(.fn (.func p6) [] [])] o fun vg y=>E vg y) (fun c=>c .undef o) fun vh q=>aa d false (fun F=>fQ vh fun vi=>F vi q) (fun c=>c .undef q) fun vj j=>ay d (Bo true) vj fun vk=>au vk ( Q (.tup [(N .i64 0),(N .i64 0),(N .i64 14)]) j) ( cz j e fun vl=>p7 [vl,(N .i64 16),(N .i64 64)] j fun u z=>aC u 0 fun vm=>aC u 1 fun vs=>il .i64 vm fun vn=>aR e fun vo=>af .add a1 vo fun vp=>af .add vp (N .i64 2) fun vq=>Q (.tup [vn,vq,(N .i64 0)]) z)))
def jf (p1:ai) (a0:AV) (M0:RM) (Q:ah) : Prop:=af .geq a0 (N .u8 97) fun e=>aa e true (fun c=>c a0 M0) (fun c=>c .undef M0) fun B h=>aa e true (fun p=>af .leq B (N .u8 122) fun C=>p C h) (fun c=>c .undef h) fun D j=>ay e D (Bo false) fun g=>aa g false (fun r=>r a0 j) (fun c=>c .undef j) fun u l=>aa g false (fun s=>p1 [u] l fun v o=>s v o) (fun c=>c .undef l) fun w m=>ay g (Bo true) w fun d=>aa d false (fun t=>t a0 m) (fun c=>c .undef m) fun x i=>aa d false (fun q=>af .eql x (N .u8 45) fun y=>q y i) (fun c=>c .undef i) fun z n=>ay d (Bo true) z fun A=>Q A n
def iU (a0:AV) (M0:RM) (Q:ah) : Prop:=af .geq a0 (N .u8 32) fun d=>aa d true (fun c=>c a0 M0) (fun c=>c .undef M0) fun s g=>aa d true (fun l=>af .leq s (N .u8 126) fun t=>l t g) (fun c=>c .undef g) fun u h=>ay d u (Bo false) fun e=>aa e false (fun m=>m a0 h) (fun c=>c .undef h) fun o i=>aa e false (fun n=>af .eql o (N .u8 9) fun p=>n p i) (fun c=>c .undef i) fun q j=>ay e (Bo true) q fun r=>Q r j
def fw (p1 p2:Nat) (p3 p4:ai) (p5:Nat) (a0 a1 a2 a3 a4:AV) (M0:RM) (Q:ah) : Prop:=dN (fun G=>af .lss a2 (N .i64 2) fun i=>aa i false (fun c=>c a2 M0) (fun c=>c .undef M0) fun vf p=>aa i false (fun Y=>af .eql vf (N .i64 10) fun vg=>Y vg p) (fun c=>c .undef p) fun vh s=>ay i (Bo true) vh fun j=>aa j false (fun Z=>Z a2 s) (fun c=>c .undef s) fun vi v=>aa j false (fun va=>af .gtr vi (N .i64 36) fun vj=>va vj v) (fun c=>c .undef v) fun vk V=>ay j (Bo true) vk fun vl=>au vl ( False) ( G [] V)) (fun wb W=>bf (.row [(N .u8 0),(N .u8 0),(N .u8 0),(N .u8 0),(N .u8 0),(N .u8 0),(N .u8 0),(N .u8 0),(N .u8 0),(N .u8 0),(N .u8 0),(N .u8 0),(N .u8 0),(N .u8 0),(N .u8 0),(N .u8 0),(N .u8 0),(N .u8 0),(N .u8 0),(N .u8 0),(N .u8 0),(N .u8 0),(N .u8 0),(N .u8 0),(N .u8 0),(N .u8 0),(N .u8 0),(N .u8 0),(N .u8 0),(N .u8 0),(N .u8 0),(N .u8 0),(N .u8 0),(N .u8 0),(N .u8 0),(N .u8 0),(N .u8 0),(N .u8 0),(N .u8 0),(N .u8 0),(N .u8 0),(N .u8 0),(N .u8 0),(N .u8 0),(N .u8 0),(N .u8 0),(N .u8 0),(N .u8 0),(N .u8 0),(N .u8 0),(N .u8 0),(N .u8 0),(N .u8 0),(N .u8 0),(N .u8 0),(N .u8 0),(N .u8 0),(N .u8 0),(N .u8 0),(N .u8 0),(N .u8 0),(N .u8 0),(N .u8 0),(N .u8 0),(N .u8 0)] false p2 0) (fun X=>.ptr X 0) W fun d w=>dN (fun m=>au a3 ( Fg a1 fun vm=>m [vm] w) ( m [a1] w)) (fun D H=>dN (fun n=>p3 [a2] H fun vn q=>au vn ( il .u64 a2 fun vo=>p4 [vo] q fun vp I=>il .u64 vp fun vq=>il .u64 a2 fun vr=>il .u64 a2 fun vs=>af .sub vs (N .u64 1) fun vt=>gu (fun vb e r=>af .geq (ax e 0) vr fun vu=>au vu ( af .sub (ax e 1) (N .i64 1) fun x=>af .and (ax e 0) vt fun vv=>dZ (St [48,49,50,51,52,53,54,55,56,57,97,98,99,100,101,102,103,104,105,106,107,108,109,110,111,112,113,114,115,116,117,118,119,120,121,122]) vv fun vw=>mV d x 65 1 fun vx=>aH r vx vw 1 fun L=>zU .shr (ax e 0) vq fun vy=>vb [vy,x] L) ( af .sub (ax e 1) (N .i64 1) fun y=>dZ (St [48,49,50,51,52,53,54,55,56,57,97,98,99,100,101,102,103,104,105,106,107,108,109,110,111,112,113,114,115,116,117,118,119,120,121,122]) (ax e 0) fun vz=>mV d y 65 1 fun v0=>aH r v0 vz 1 fun O=>n [y] O)) [(ax D 0),(N .i64 65)] I) ( il .u64 a2 fun l=>gu (fun vc g t=>af .geq (ax g 0) l fun v1=>au v1 ( af .sub (ax g 1) (N .i64 1) fun z=>af .quo (ax g 0) l fun A=>af .mul A l fun v2=>af .sub (ax g 0) v2 fun v3=>dZ (St [48,49,50,51,52,53,54,55,56,57,97,98,99,100,101,102,103,104,105,106,107,108,109,110,111,112,113,114,115,116,117,118,119,120,121,122]) v3 fun v4=>mV d z 65 1 fun v5=>aH t v5 v4 1 fun P=>vc [A,z] P) ( af .sub (ax g 1) (N .i64 1) fun B=>dZ (St [48,49,50,51,52,53,54,55,56,57,97,98,99,100,101,102,103,104,105,106,107,108,109,110,111,112,113,114,115,116,117,118,119,120,121,122]) (ax g 0) fun v6=>mV d B 65 1 fun v7=>aH t v7 v6 1 fun R=>n [B] R)) [(ax D 0),(N .i64 65)] q)) (fun E u=>dN (fun o=>au a3 ( af .sub (ax E 0) (N .i64 1) fun C=>mV d C 65 1 fun v8=>aH u v8 (N .u8 45) 1 fun S=>o [C] S) ( o [(ax E 0)] u)) (fun F h=>au a4 ( bH (qM 65 1 d (some (ax F 0)) none) fun v9=>appW p5 1 1 [(N .u8 0)] false a0 v9 h fun wa U=>Q (.tup [wa,(St [])]) U) ( bH (qM 65 1 d (some (ax F 0)) none) fun vd=>cz h vd fun ve=>Q (.tup [(.sc (.slice none 0 0)),ve]) h)))))
def bM (p1:ai) (p2:Nat) (p3 p4 p5:ai) (a0 a1:AV) (M0:RM) (Q:ah) : Prop:=bZ a1 fun e=>af .eql e (N .i64 0) fun q=>aa q false (fun c=>c a1 M0) (fun c=>c .undef M0) fun w2 w=>aa q false (fun vk=>vk a0 w) (fun c=>c .undef w) fun w3 x=>aa q false (fun vn=>aV .eql w2 w3 fun w4=>vn w4 x) (fun c=>c .undef x) fun w5 h=>ay q (Bo true) w5 fun w6=>au w6 ( Q (N .i64 0) h) ( af .eql e (N .i64 1) fun w7=>au w7 ( dZ a1 (N .i64 0) fun w8=>p1 [a0,w8] h fun w9 vj=>Q w9 vj) ( bZ a0 fun xa=>af .geq e xa fun xb=>au xb ( Q (N .i64 (-1)) h) ( aj h (Dw h p2) fun xc=>af .leq e xc fun r=>aa r true (fun v3=>v3 a0 h) (fun c=>c .undef h) fun xd vb=>aa r true (fun v8=>bZ xd fun xe=>v8 xe vb) (fun c=>c .undef vb) fun xf y=>aa r true (fun vl=>af .leq xf (N .i64 64) fun xg=>vl xg y) (fun c=>c .undef y) fun xh z=>ay r xh (Bo false) fun xi=>au xi ( p3 [a0,a1] z fun xj vh=>Q xj vh) ( dZ a1 (N .i64 0) fun vf=>dZ a1 (N .i64 1) fun xk=>bZ a0 fun xl=>af .sub xl e fun xm=>af .add xm (N .i64 1) fun t=>gu (fun v9 j s=>af .lss (ax j 0) t fun xn=>au xn ( dN (fun v=>dZ a0 (ax j 0) fun xo=>af .neq xo vf fun xp=>au xp ( af .add (ax j 0) (N .i64 1) fun xq=>bH (cZ a0 (some xq) (some t)) fun xr=>p1 [xr,vf] s fun vg A=>af .lss vg (N .i64 0) fun xs=>au xs ( Q (N .i64 (-1)) A) ( af .add vg (N .i64 1) fun xt=>af .add (ax j 0) xt fun xu=>v [xu] A)) ( v [(ax j 0)] s)) (fun o B=>af .add (ax o 0) (N .i64 1) fun xv=>dZ a0 xv fun xw=>af .eql xw xk fun d=>aa d true (fun vm=>vm a0 B) (fun c=>c .undef B) fun xx C=>aa d true (fun vo=>vo (ax o 0) C) (fun c=>c .undef C) fun xy D=>aa d true (fun vp=>vp (ax o 0) D) (fun c=>c .undef D) fun xz E=>aa d true (fun vq=>vq e E) (fun c=>c .undef E) fun x0 F=>aa d true (fun vr=>af .add xz x0 fun x1=>vr x1 F) (fun c=>c .undef F) fun x2 G=>aa d true (fun vs=>bH (cZ xx (some xy) (some x2)) fun x3=>vs x3 G) (fun c=>c .undef G) fun x4 H=>aa d true (fun vt=>vt a1 H) (fun c=>c .undef H) fun x5 I=>aa d true (fun vu=>aV .eql x4 x5 fun x6=>vu x6 I) (fun c=>c .undef I) fun x7 l=>ay d x7 (Bo false) fun x8=>au x8 ( Q (ax o 0) l) ( af .add (ax o 0) (N .i64 1) fun g=>af .add (ax j 1) (N .i64 1) fun u=>aj l (Dw l p2) fun wa=>af .leq e wa fun n=>aa n true (fun vv=>vv u l) (fun c=>c .undef l) fun wb L=>aa n true (fun vw=>vw g L) (fun c=>c .undef L) fun wc O=>aa n true (fun vx=>p4 [wc] O fun wd vi=>vx wd vi) (fun c=>c .undef O) fun we P=>aa n true (fun vy=>af .gtr wb we fun wf=>vy wf P) (fun c=>c .undef P) fun wg m=>ay n wg (Bo false) fun wh=>au wh ( bH (cZ a0 (some g) none) fun wi=>p3 [wi,a1] m fun vd R=>af .geq vd (N .i64 0) fun wj=>au wj ( af .add vd g fun wk=>Q wk R) ( Q (N .i64 (-1)) R)) ( aj m (Dw m p2) fun wl=>af .gtr e wl fun i=>aa i true (fun vz=>vz u m) (fun c=>c .undef m) fun wm S=>aa i true (fun v0=>v0 g S) (fun c=>c .undef S) fun wn U=>aa i true (fun v1=>zU .shr wn (N .u64 4) fun wo=>v1 wo U) (fun c=>c .undef U) fun wp V=>aa i true (fun v2=>af .add (N .i64 4) wp fun wq=>v2 wq V) (fun c=>c .undef V) fun wr W=>aa i true (fun v4=>af .geq wm wr fun ws=>v4 ws W) (fun c=>c .undef W) fun wt X=>ay i wt (Bo false) fun p=>aa p true (fun v5=>v5 g X) (fun c=>c .undef X) fun wu Y=>aa p true (fun v6=>v6 t Y) (fun c=>c .undef Y) fun wv Z=>aa p true (fun v7=>af .lss wu wv fun ww=>v7 ww Z) (fun c=>c .undef Z) fun wx va=>ay p wx (Bo false) fun wy=>au wy ( bH (cZ a0 (some g) none) fun wz=>p5 [wz,a1] va fun ve vc=>af .lss ve (N .i64 0) fun w0=>au w0 ( Q (N .i64 (-1)) vc) ( af .add g ve fun w1=>Q w1 vc)) ( v9 [g,u] va))))) ( Q (N .i64 (-1)) s)) [(N .i64 0),(N .i64 0)] z))))
def uh (p1:ai) (a0 a1:AV) (M0:RM) (Q:ah) : Prop:=p1 [a0,a1] M0 fun c d=>af .geq c (N .i64 0) fun e=>au e ( bH (dD 1 a0 none (some c) none) fun g=>aR a1 fun h=>af .add c h fun i=>bH (dD 1 a0 (some i) none none) fun j=>Q (.tup [g,j,(Bo true)]) d) ( Q (.tup [a0,(.sc (.slice none 0 0)),(Bo false)]) d)
def lu (p1:ai) (a0:AV) (M0:RM) (Q:ah) : Prop:=p1 [a0] M0 fun d g=>aa d false (fun c=>c a0 g) (fun c=>c .undef g) fun y h=>aa d false (fun o=>af .geq y (N .u8 97) fun z=>o z h) (fun c=>c .undef h) fun A j=>aa d false (fun q=>q A j) (fun c=>c .undef j) fun e l=>aa e true (fun r=>r a0 l) (fun c=>c .undef l) fun B m=>aa e true (fun s=>af .leq B (N .u8 102) fun t=>s t m) (fun c=>c .undef m) fun u i=>aa d false (fun p=>ay e u (Bo false) fun v=>p v i) (fun c=>c .undef i) fun w n=>ay d (Bo true) w fun x=>Q x n
def jM (p1 p2:ai) (a0 a1 a2:AV) (M0:RM) (Q:ah) : Prop:=p1 [a0,a1,a2] M0 fun d c=>aC d 0 fun e=>aC d 1 fun g=>KD true g (.sc .nilIface) fun i=>au i ( p2 [(St [80,97,114,115,101,85,105,110,116]),a0,a1,a2,g] c fun j h=>Q (.tup [e,j]) h) ( Q (.tup [e,(.sc .nilIface)]) c)
def fI (p1:Nat) (p2:ai) (p3:Nat) (p4:ai) (a0 a1 a2:AV) (M0:RM) (Q:ah) : Prop:=aV .eql a0 (St []) fun xt=>au xt ( Q (.tup [(N .u64 0),(.ifc p1 (N .i64 2))]) M0) ( af .eql a1 (N .i64 0) fun xu=>dN (fun g=>af .leq (N .i64 2) a1 fun z=>aa z true (fun c=>c a1 M0) (fun c=>c .undef M0) fun xv G=>aa z true (fun vz=>af .leq xv (N .i64 36) fun xw=>vz xw G) (fun c=>c .undef G) fun xx i=>ay z xx (Bo false) fun xy=>au xy ( g [a0,a1] i) ( af .eql a1 (N .i64 0) fun xz=>au xz ( dZ a0 (N .i64 0) fun x0=>af .eql x0 (N .u8 48) fun x1=>au x1 ( bZ a0 fun x3=>af .geq x3 (N .i64 3) fun l=>aa l true (fun v7=>v7 a0 i) (fun c=>c .undef i) fun x4 V=>aa l true (fun wc=>dZ x4 (N .i64 1) fun x5=>wc x5 V) (fun c=>c .undef V) fun x6 vd=>aa l true (fun wl=>p2 [x6] vd fun x7 vx=>wl x7 vx) (fun c=>c .undef vd) fun x8 H=>aa l true (fun v0=>af .eql x8 (N .u8 98) fun x9=>v0 x9 H) (fun c=>c .undef H) fun ya s=>ay l ya (Bo false) fun yb=>au yb ( bH (cZ a0 (some (N .i64 2)) none) fun yc=>g [yc,(N .i64 2)] s) ( bZ a0 fun yd=>af .geq yd (N .i64 3) fun m=>aa m true (fun v1=>v1 a0 s) (fun c=>c .undef s) fun ye I=>aa m true (fun v2=>dZ ye (N .i64 1) fun yf=>v2 yf I) (fun c=>c .undef I) fun yg L=>aa m true (fun v3=>p2 [yg] L fun yh vp=>v3 yh vp) (fun c=>c .undef L) fun yi O=>aa m true (fun v4=>af .eql yi (N .u8 111) fun yj=>v4 yj O) (fun c=>c .undef O) fun yk t=>ay m yk (Bo false) fun yl=>au yl ( bH (cZ a0 (some (N .i64 2)) none) fun ym=>g [ym,(N .i64 8)] t) ( bZ a0 fun yn=>af .geq yn (N .i64 3) fun n=>aa n true (fun v5=>v5 a0 t) (fun c=>c .undef t) fun yo P=>aa n true (fun v6=>dZ yo (N .i64 1) fun yp=>v6 yp P) (fun c=>c .undef P) fun yq R=>aa n true (fun v8=>p2 [yq] R fun yr vq=>v8 yr vq) (fun c=>c .undef R) fun ys S=>aa n true (fun v9=>af .eql ys (N .u8 120) fun yt=>v9 yt S) (fun c=>c .undef S) fun yu U=>ay n yu (Bo false) fun yv=>au yv ( bH (cZ a0 (some (N .i64 2)) none) fun yw=>g [yw,(N .i64 16)] U) ( bH (cZ a0 (some (N .i64 1)) none) fun x2=>g [x2,(N .i64 8)] U)))) ( g [a0,(N .i64 10)] i)) ( Q (.tup [(N .u64 0),(.ifc p1 (N .i64 3))]) i))) (fun h u=>dN (fun D=>af .eql a2 (N .i64 0) fun yx=>au yx ( D [(N .i64 64)] u) ( af .lss a2 (N .i64 0) fun A=>aa A false (fun wa=>wa a2 u) (fun c=>c .undef u) fun yy W=>aa A false (fun wb=>af .gtr yy (N .i64 64) fun yz=>wb yz W) (fun c=>c .undef W) fun y0 X=>ay A (Bo true) y0 fun y1=>au y1 ( Q (.tup [(N .u64 0),(.ifc p1 (N .i64 4))]) X) ( D [a2] X))) (fun y9 v=>dN (fun r=>af .eql (ax h 1) (N .i64 10) fun y5=>au y5 ( r [(N .u64 1844674407370955162)] v) ( af .eql (ax h 1) (N .i64 16) fun y6=>au y6 ( r [(N .u64 1152921504606846976)] v) ( il .u64 (ax h 1) fun y2=>af .quo (N .u64 18446744073709551615) y2 fun y3=>af .add y3 (N .u64 1) fun y4=>r [y4] v))) (fun za vr=>il .u64 (ax y9 0) fun y7=>zU .shl (N .u64 1) y7 fun y8=>af .sub y8 (N .u64 1) fun B=>jI p3 (ax h 0) fun wr vy=>bf wr vy vr fun vn vs=>aR vn fun ws=>gu (fun wq d j=>af .lss (ax d 2) ws fun wt=>au wt ( dN (fun E=>dO vn (ax d 2) 1 fun wu=>aj j wu fun e=>dN (fun F=>af .eql e (N .u8 95) fun vl=>aa vl true (fun wd=>wd xu j) (fun c=>c .undef j) fun wv w=>ay vl wv (Bo false) fun ww=>au ww ( E [(Bo true),(ax d 1)] w) ( af .leq (N .u8 48) e fun x=>aa x true (fun we=>we e w) (fun c=>c .undef w) fun wx Y=>aa x true (fun wf=>af .leq wx (N .u8 57) fun wy=>wf wy Y) (fun c=>c .undef Y) fun wz Z=>ay x wz (Bo false) fun w0=>au w0 ( af .sub e (N .u8 48) fun w1=>F [(ax d 0),w1] Z) ( p2 [e] Z fun w2 va=>af .leq (N .u8 97) w2 fun p=>aa p true (fun wg=>wg e va) (fun c=>c .undef va) fun w3 vb=>aa p true (fun wh=>p2 [w3] vb fun w4 vt=>wh w4 vt) (fun c=>c .undef vb) fun w5 vc=>aa p true (fun wi=>af .leq w5 (N .u8 122) fun w6=>wi w6 vc) (fun c=>c .undef vc) fun w7 ve=>ay p w7 (Bo false) fun w8=>au w8 ( p2 [e] ve fun w9 vu=>af .sub w9 (N .u8 97) fun xa=>af .add xa (N .u8 10) fun xb=>F [(ax d 0),xb] vu) ( Q (.tup [(N .u64 0),(.ifc p1 (N .i64 2))]) ve)))) (fun C o=>il .u8 (ax h 1) fun xc=>af .geq (ax C 1) xc fun xd=>au xd ( Q (.tup [(N .u64 0),(.ifc p1 (N .i64 2))]) o) ( af .geq (ax d 1) (ax za 0) fun xe=>au xe ( Q (.tup [B,(.ifc p1 (N .i64 1))]) o) ( il .u64 (ax h 1) fun xf=>af .mul (ax d 1) xf fun vm=>il .u64 (ax C 1) fun xg=>af .add vm xg fun y=>af .lss y vm fun q=>aa q false (fun wj=>wj y o) (fun c=>c .undef o) fun xh vf=>aa q false (fun wk=>wk B vf) (fun c=>c .undef vf) fun xi vg=>aa q false (fun wm=>af .gtr xh xi fun xj=>wm xj vg) (fun c=>c .undef vg) fun xk vh=>ay q (Bo true) xk fun xl=>au xl ( Q (.tup [B,(.ifc p1 (N .i64 1))]) vh) ( E [(ax C 0),y] vh))))) (fun vo vv=>af .add (ax d 2) (N .i64 1) fun xm=>wq [(ax vo 0),(ax vo 1),xm] vv)) ( aa (ax d 0) true (fun wn=>wn a0 j) (fun c=>c .undef j) fun xn vi=>aa (ax d 0) true (fun wo=>p4 [xn] vi fun xo vw=>wo xo vw) (fun c=>c .undef vi) fun xp vj=>aa (ax d 0) true (fun wp=>fQ xp fun xq=>wp xq vj) (fun c=>c .undef vj) fun xr vk=>ay (ax d 0) xr (Bo false) fun xs=>au xs ( Q (.tup [(N .u64 0),(.ifc p1 (N .i64 2))]) vk) ( Q (.tup [(ax d 1),(.sc .nilIface)]) vk))) [(Bo false),(N .u64 0),(N .i64 0)] vs))))
def eU (a0:AV) (M0:RM) (Q:ah) : Prop:=af .sub a0 (N .i64 1) fun c=>af .and a0 c fun d=>af .eql d (N .i64 0) fun e=>Q e M0
def gZ (a0:AV) (M0:RM) (Q:ah) : Prop:=af .or a0 (N .u8 32) fun c=>Q c M0
end Go.Ab.Hw
namespace Go.Ab.Vl
open Go Go.Ab
def pG (p1:ai) (a0 a1:AV) (M0:RM) (Q:ah) : Prop:=p1 [a0,a1] M0 fun c d=>aC c 0 fun e=>aC c 1 fun g=>aC c 2 fun h=>Q (.tup [e,g,h]) d
def gW (p1:ai) (a0 a1:AV) (M0:RM) (Q:ah) : Prop:=p1 [a0,a1] M0 fun d c=>Q d c
def si (p1:ai) (a0:AV) (M0:RM) (Q:ah) : Prop:=bZ a0 fun z=>af .geq z (N .i64 1) fun e=>aa e true (fun c=>c a0 M0) (fun c=>c .undef M0) fun A g=>aa e true (fun o=>bZ A fun B=>o B g) (fun c=>c .undef g) fun C i=>aa e true (fun q=>af .leq C (N .i64 20) fun D=>q D i) (fun c=>c .undef i) fun E j=>ay e E (Bo false) fun d=>aa d true (fun r=>r a0 j) (fun c=>c .undef j) fun t l=>aa d true (fun s=>p1 [t,(St [97,98,99,100,101,102,103,104,105,106,107,108,109,110,111,112,113,114,115,116,117,118,119,120,121,122,48,49,50,51,52,53,54,55,56,57,45])] l fun u n=>s u n) (fun c=>c .undef l) fun v h=>aa d true (fun p=>aV .eql v (St []) fun w=>p w h) (fun c=>c .undef h) fun x m=>ay d x (Bo false) fun y=>Q y m
def pJ (p1:Nat) (p2 p3 p4:ai) (a0 a1:AV) (M0:RM) (Q:ah) : Prop:=jI p1 a0 fun x s=>bf x s M0 fun o p=>aR o fun O=>gu (fun w g e=>af .lss (ax g 0) O fun y=>au y ( dO o (ax g 0) 1 fun z=>aj e z fun n=>p2 [n] e fun A h=>fQ A fun d=>aa d false (fun c=>c a1 h) (fun c=>c .undef h) fun B j=>aa d false (fun t=>t n j) (fun c=>c .undef j) fun C l=>aa d false (fun u=>p3 [B,C] l fun D r=>u D r) (fun c=>c .undef l) fun E m=>aa d false (fun v=>af .geq E (N .i64 0) fun F=>v F m) (fun c=>c .undef m) fun G i=>ay d (Bo true) G fun H=>au H ( Q (Bo false) i) ( af .add (ax g 0) (N .i64 1) fun I=>w [I] i)) ( p4 [a0] e fun L q=>Q L q)) [(N .i64 0)] p
def nN (p1:ai) (a0 a1:AV) (M0:RM) (Q:ah) : Prop:=p1 [a0,a1] M0 fun d c=>Q d c
def gF (p1:ai) (a0 a1:AV) (M0:RM) (Q:ah) : Prop:=p1 [a0,a1] M0 fun c d=>af .geq c (N .i64 0) fun e=>au e ( bH (cZ a0 none (some c)) fun g=>bZ a1 fun h=>af .add c h fun i=>bH (cZ a0 (some i) none) fun j=>Q (.tup [g,j,(Bo true)]) d) ( Q (.tup [a0,(St []),(Bo false)]) d)
def uI (p1 p2 p3:ai) (p4:Nat) (p5 p6 p7 p8:ai) (a0 a1:AV) (M0:RM) (Q:ah) : Prop:=aV .eql a0 (St []) fun h=>aa h false (fun c=>c a1 M0) (fun c=>c .undef M0) fun C i=>aa h false (fun y=>aV .eql C (St []) fun D=>y D i) (fun c=>c .undef i) fun E e=>ay h (Bo true) E fun F=>au F ( Q a0 e) ( bZ a1 fun G=>af .eql G (N .i64 1) fun d=>aa d true (fun z=>z a1 e) (fun c=>c .undef e) fun H m=>aa d true (fun A=>dZ H (N .i64 0) fun I=>A I m) (fun c=>c .undef m) fun L n=>aa d true (fun B=>af .lss L (N .u8 128) fun O=>B O n) (fun c=>c .undef n) fun P j=>ay d P (Bo false) fun R=>au R ( dZ a1 (N .i64 0) fun S=>dZ a1 (N .i64 0) fun V=>p1 [a0,S] j fun U p=>p2 [U,V] p fun W q=>Q W q) ( p3 [a1] j fun o r=>aC o 0 fun X=>aC o 1 fun Y=>bf (.row [(Bo false),(Bo false),(Bo false),(Bo false),(Bo false),(Bo false),(Bo false),(Bo false),(Bo false),(Bo false),(Bo false),(Bo false),(Bo false),(Bo false),(Bo false),(Bo false),(Bo false),(Bo false),(Bo false),(Bo false),(Bo false),(Bo false),(Bo false),(Bo false),(Bo false),(Bo false),(Bo false),(Bo false),(Bo false),(Bo false),(Bo false),(Bo false),(Bo false),(Bo false),(Bo false),(Bo false),(Bo false),(Bo false),(Bo false),(Bo false),(Bo false),(Bo false),(Bo false),(Bo false),(Bo false),(Bo false),(Bo false),(Bo false),(Bo false),(Bo false),(Bo false),(Bo false),(Bo false),(Bo false),(Bo false),(Bo false),(Bo false),(Bo false),(Bo false),(Bo false),(Bo false),(Bo false),(Bo false),(Bo false),(Bo false),(Bo false),(Bo false),(Bo false),(Bo false),(Bo false),(Bo false),(Bo false),(Bo false),(Bo false),(Bo false),(Bo false),(Bo false),(Bo false),(Bo false),(Bo false),(Bo false),(Bo false),(Bo false),(Bo false),(Bo false),(Bo false),(Bo false),(Bo false),(Bo false),(Bo false),(Bo false),(Bo false),(Bo false),(Bo false),(Bo false),(Bo false),(Bo false),(Bo false),(Bo false),(Bo false),(Bo false),(Bo false),(Bo false),(Bo false),(Bo false),(Bo false),(Bo false),(Bo false),(Bo false),(Bo false),(Bo false),(Bo false),(Bo false),(Bo false),(Bo false),(Bo false),(Bo false),(Bo false),(Bo false),(Bo false),(Bo false),(Bo false),(Bo false),(Bo false),(Bo false),(Bo false),(Bo false),(Bo false),(Bo false),(Bo false),(Bo false),(Bo false),(Bo false),(Bo false),(Bo false),(Bo false),(Bo false),(Bo false),(Bo false),(Bo false),(Bo false),(Bo false),(Bo false),(Bo false),(Bo false),(Bo false),(Bo false),(Bo false),(Bo false),(Bo false),(Bo false),(Bo false),(Bo false),(Bo false),(Bo false),(Bo false),(Bo false),(Bo false),(Bo false),(Bo false),(Bo false),(Bo false),(Bo false),(Bo false),(Bo false),(Bo false),(Bo false),(Bo false),(Bo false),(Bo false),(Bo false),(Bo false),(Bo false),(Bo false),(Bo false),(Bo false),(Bo false),(Bo false),(Bo false),(Bo false),(Bo false),(Bo false),(Bo false),(Bo false),(Bo false),(Bo false),(Bo false),(Bo false),(Bo false),(Bo false),(Bo false),(Bo false),(Bo false),(Bo false),(Bo false),(Bo false),(Bo false),(Bo false),(Bo false),(Bo false),(Bo false),(Bo false),(Bo false),(Bo false),(Bo false),(Bo false),(Bo false),(Bo false),(Bo false),(Bo false),(Bo false),(Bo false),(Bo false),(Bo false),(Bo false),(Bo false),(Bo false),(Bo false),(Bo false),(Bo false),(Bo false),(Bo false),(Bo false),(Bo false),(Bo false),(Bo false),(Bo false),(Bo false),(Bo false),(Bo false),(Bo false),(Bo false),(Bo false),(Bo false),(Bo false),(Bo false),(Bo false),(Bo false),(Bo false),(Bo false),(Bo false),(Bo false),(Bo false),(Bo false),(Bo false),(Bo false),(Bo false),(Bo false),(Bo false),(Bo false),(Bo false),(Bo false),(Bo false),(Bo false),(Bo false),(Bo false)] false p4 0) (fun x=>.ptr x 0) r fun g s=>aH s g X 256 fun l=>au Y ( p5 [a0,g] l fun Z t=>p6 [Z,g] t fun va u=>Q va u) ( p7 [a0,a1] l fun vb v=>p8 [vb,a1] v fun vc w=>Q vc w)))
def wC (p1:Nat) (a0:AV) (M0:RM) (Q:ah) : Prop:=jI p1 a0 fun t q=>bf t q M0 fun e n=>aR e fun F=>gu (fun s g c=>af .lss (ax g 0) F fun u=>au u ( dN (fun j=>dO e (ax g 0) 1 fun v=>aj c v fun h=>af .geq h (N .u8 65) fun i=>aa i true (fun d=>d h c) (fun d=>d .undef c) fun w l=>aa i true (fun r=>af .leq w (N .u8 90) fun x=>r x l) (fun d=>d .undef l) fun y m=>ay i y (Bo false) fun z=>au z ( af .add h (N .u8 97) fun A=>af .sub A (N .u8 65) fun B=>dO e (ax g 0) 1 fun C=>aH m C B 1 fun o=>j [] o) ( j [] m)) (fun G p=>af .add (ax g 0) (N .i64 1) fun D=>s [D] p)) ( cz c e fun E=>Q E c)) [(N .i64 0)] n
def ek (a0 a1:AV) (M0:RM) (Q:ah) : Prop:=bZ a0 fun B=>bZ a1 fun C=>af .geq B C fun d=>aa d true (fun c=>c a0 M0) (fun c=>c .undef M0) fun r e=>aa d true (fun m=>m a1 e) (fun c=>c .undef e) fun s g=>aa d true (fun o=>bZ s fun t=>o t g) (fun c=>c .undef g) fun u h=>aa d true (fun p=>bH (cZ r none (some u)) fun v=>p v h) (fun c=>c .undef h) fun w i=>aa d true (fun q=>q a1 i) (fun c=>c .undef i) fun x j=>aa d true (fun n=>aV .eql w x fun y=>n y j) (fun c=>c .undef j) fun z l=>ay d z (Bo false) fun A=>Q A l
def bM (p1 p2 p3 p4:ai) (a0 a1:AV) (M0:RM) (Q:ah) : Prop:=bZ a1 fun e=>af .eql e (N .i64 0) fun q=>aa q false (fun c=>c a1 M0) (fun c=>c .undef M0) fun w2 w=>aa q false (fun vk=>vk a0 w) (fun c=>c .undef w) fun w3 x=>aa q false (fun vn=>aV .eql w2 w3 fun w4=>vn w4 x) (fun c=>c .undef x) fun w5 h=>ay q (Bo true) w5 fun w6=>au w6 ( Q (N .i64 0) h) ( af .eql e (N .i64 1) fun w7=>au w7 ( dZ a1 (N .i64 0) fun w8=>p1 [a0,w8] h fun w9 vj=>Q w9 vj) ( bZ a0 fun xa=>af .geq e xa fun xb=>au xb ( Q (N .i64 (-1)) h) ( aj h .top fun xc=>af .leq e xc fun r=>aa r true (fun v3=>v3 a0 h) (fun c=>c .undef h) fun xd vb=>aa r true (fun v8=>bZ xd fun xe=>v8 xe vb) (fun c=>c .undef vb) fun xf y=>aa r true (fun vl=>af .leq xf (N .i64 64) fun xg=>vl xg y) (fun c=>c .undef y) fun xh z=>ay r xh (Bo false) fun xi=>au xi ( p2 [a0,a1] z fun xj vh=>Q xj vh) ( dZ a1 (N .i64 0) fun vf=>dZ a1 (N .i64 1) fun xk=>bZ a0 fun xl=>af .sub xl e fun xm=>af .add xm (N .i64 1) fun t=>gu (fun v9 j s=>af .lss (ax j 0) t fun xn=>au xn ( dN (fun v=>dZ a0 (ax j 0) fun xo=>af .neq xo vf fun xp=>au xp ( af .add (ax j 0) (N .i64 1) fun xq=>bH (cZ a0 (some xq) (some t)) fun xr=>p1 [xr,vf] s fun vg A=>af .lss vg (N .i64 0) fun xs=>au xs ( Q (N .i64 (-1)) A) ( af .add vg (N .i64 1) fun xt=>af .add (ax j 0) xt fun xu=>v [xu] A)) ( v [(ax j 0)] s)) (fun m B=>af .add (ax m 0) (N .i64 1) fun xv=>dZ a0 xv fun xw=>af .eql xw xk fun d=>aa d true (fun vm=>vm a0 B) (fun c=>c .undef B) fun xx C=>aa d true (fun vo=>vo (ax m 0) C) (fun c=>c .undef C) fun xy D=>aa d true (fun vp=>vp (ax m 0) D) (fun c=>c .undef D) fun xz E=>aa d true (fun vq=>vq e E) (fun c=>c .undef E) fun x0 F=>aa d true (fun vr=>af .add xz x0 fun x1=>vr x1 F) (fun c=>c .undef F) fun x2 G=>aa d true (fun vs=>bH (cZ xx (some xy) (some x2)) fun x3=>vs x3 G) (fun c=>c .undef G) fun x4 H=>aa d true (fun vt=>vt a1 H) (fun c=>c .undef H) fun x5 I=>aa d true (fun vu=>aV .eql x4 x5 fun x6=>vu x6 I) (fun c=>c .undef I) fun x7 n=>ay d x7 (Bo false) fun x8=>au x8 ( Q (ax m 0) n) ( af .add (ax m 0) (N .i64 1) fun g=>af .add (ax j 1) (N .i64 1) fun u=>aj n .top fun wa=>af .leq e wa fun l=>aa l true (fun vv=>vv u n) (fun c=>c .undef n) fun wb L=>aa l true (fun vw=>vw g L) (fun c=>c .undef L) fun wc O=>aa l true (fun vx=>p3 [wc] O fun wd vi=>vx wd vi) (fun c=>c .undef O) fun we P=>aa l true (fun vy=>af .gtr wb we fun wf=>vy wf P) (fun c=>c .undef P) fun wg o=>ay l wg (Bo false) fun wh=>au wh ( bH (cZ a0 (some g) none) fun wi=>p2 [wi,a1] o fun vd R=>af .geq vd (N .i64 0) fun wj=>au wj ( af .add vd g fun wk=>Q wk R) ( Q (N .i64 (-1)) R)) ( aj o .top fun wl=>af .gtr e wl fun i=>aa i true (fun vz=>vz u o) (fun c=>c .undef o) fun wm S=>aa i true (fun v0=>v0 g S) (fun c=>c .undef S) fun wn U=>aa i true (fun v1=>zU .shr wn (N .u64 4) fun wo=>v1 wo U) (fun c=>c .undef U) fun wp V=>aa i true (fun v2=>af .add (N .i64 4) wp fun wq=>v2 wq V) (fun c=>c .undef V) fun wr W=>aa i true (fun v4=>af .geq wm wr fun ws=>v4 ws W) (fun c=>c .undef W) fun wt X=>ay i wt (Bo false) fun p=>aa p true (fun v5=>v5 g X) (fun c=>c .undef X) fun wu Y=>aa p true (fun v6=>v6 t Y) (fun c=>c .undef Y) fun wv Z=>aa p true (fun v7=>af .lss wu wv fun ww=>v7 ww Z) (fun c=>c .undef Z) fun wx va=>ay p wx (Bo false) fun wy=>au wy ( bH (cZ a0 (some g) none) fun wz=>p4 [wz,a1] va fun ve vc=>af .lss ve (N .i64 0) fun w0=>au w0 ( Q (N .i64 (-1)) vc) ( af .add g ve fun w1=>Q w1 vc)) ( v9 [g,u] va))))) ( Q (N .i64 (-1)) s)) [(N .i64 0),(N .i64 0)] z))))
def jQ (p1:ai) (a0 a1:AV) (M0:RM) (Q:ah) : Prop:=p1 [a0,a1] M0 fun c d=>aC c 0 fun g=>aC c 1 fun e=>Q (.tup [g,e]) d
def eB (p1:ai) (a0 a1:AV) (M0:RM) (Q:ah) : Prop:=p1 [a0,a1] M0 fun g c=>fQ g fun h=>au h ( Q (.tup [a0,(Bo false)]) c) ( bZ a1 fun d=>bH (cZ a0 (some d) none) fun e=>Q (.tup [e,(Bo true)]) c)
end Go.Ab.Vl
namespace Go.Ab
open Go Go.RowKit
def RM.cell (M:RM) (b o:Nat) : Option AV:=(M.cells b).bind (·[o]?)
section
variable {M M' : RM} {K:AV→Prop} {KQ:ah}
theorem dX {b o:Nat} {v:AV} : M.loads b o 1=some [v]↔M.cell b o=some v:=by
 unfold RM.loads RM.cell
 cases hc:M.cells b with
 | none=>simp
 | some l =>
   simp only[Option.bind_some]
   constructor
   ·intro h
    split at h
    ·rename_i hlt
     have h1:=Option.some.inj h
     have:((l.drop o).take 1)[0]?=some v:=by rw[h1]; rfl
     rw[List.getElem?_take,if_pos (by omega),List.getElem?_drop] at this
     simpa using this
    ·cases h
   ·intro h
    have hlt:=(List.getElem?_eq_some_iff.1 h).1
    rw[if_pos (by omega)]
    congr 1
    rw[List.drop_eq_getElem_cons hlt]
    simp only[List.take_succ_cons,List.take_zero]
    congr 1
    exact(List.getElem?_eq_some_iff.1 h).2
@[go_sem] theorem dU (b o:Nat) : aj M (.ptr b o) K=∃ v,M.cell b o=some v∧K v:=by
 apply propext; unfold aj
 constructor
 ·rintro⟨b',o',v,h,hl,hk⟩; cases h; exact⟨v,dX.1 hl,hk⟩
 ·rintro⟨v,hl,hk⟩; exact⟨b,o,v,rfl,dX.2 hl,hk⟩
@[go_sem] theorem wU (b o n:Nat) : bu M (.ptr b o) n K=∃ vs,M.loads b o n=some vs∧K (.agg vs):=by
 apply propext; unfold bu
 constructor
 ·rintro⟨b',o',v,h,hl,hk⟩; cases h; exact⟨v,hl,hk⟩
 ·rintro⟨v,hl,hk⟩; exact⟨b,o,v,rfl,hl,hk⟩
@[go_sem] theorem Cr (b p:Nat) (x:AV) (n:Nat) (K:RM→Prop) : aH M (.ptr b p) x n K=(x.cells.length=n∧∃ M',M.stores b p x.cells=some M'∧K M'):=by
 apply propext; unfold aH
 constructor
 ·rintro⟨b',o',M',h,h1,h2,hk⟩; cases h; exact⟨h1,M',h2,hk⟩
 ·rintro⟨h1,M',h2,hk⟩; exact⟨b,p,M',rfl,h1,h2,hk⟩
def JZ (k:IntKind) (a b:Int) : Int:=k.wrap (BitVec.ofInt k.bits a &&& BitVec.ofInt k.bits b).toNat
def Sa (k:IntKind) (a b:Int) : Int:=k.wrap (BitVec.ofInt k.bits a ||| BitVec.ofInt k.bits b).toNat
def Tt (k:IntKind) (a b:Int) : Int:=k.wrap (BitVec.ofInt k.bits a ^^^ BitVec.ofInt k.bits b).toNat
def OM (k:IntKind) (a b:Int) : Int:=k.wrap (BitVec.ofInt k.bits a &&& ~~~BitVec.ofInt k.bits b).toNat
def QI (k:IntKind) (a b:Int) : Int:=k.wrap (a * 2 ^ (min b.toNat k.bits))
def MB (k:IntKind) (a b:Int) : Int:=a.fdiv (2 ^ (min b.toNat k.bits))
section
variable (k:IntKind) (a b:Int)
theorem eH {op:BinOp} {v:Value} (h:rQ op k a b=some v) : af op (N k a) (N k b) K=K (.sc v):=by
 apply propext; unfold af
 constructor
 ·rintro⟨k',a',b',u,h1,h2,h3,hk⟩; cases h1; cases h2; rw[h] at h3; cases h3; exact hk
 ·intro hk; exact⟨k,a,b,v,rfl,rfl,h,hk⟩
@[go_sem] theorem vH:af .add (N k a) (N k b) K=K (N k (k.wrap (a + b))):=eH k a b rfl
@[go_sem] theorem ku:af .sub (N k a) (N k b) K=K (N k (k.wrap (a - b))):=eH k a b rfl
@[go_sem] theorem MF:af .mul (N k a) (N k b) K=K (N k (k.wrap (a * b))):=eH k a b rfl
@[go_sem] theorem F7:af .and (N k a) (N k b) K=K (N k (JZ k a b)):=eH k a b rfl
@[go_sem] theorem OH:af .or (N k a) (N k b) K=K (N k (Sa k a b)):=eH k a b rfl
@[go_sem] theorem Uq:af .xor (N k a) (N k b) K=K (N k (Tt k a b)):=eH k a b rfl
@[go_sem] theorem QS:af .andNot (N k a) (N k b) K=K (N k (OM k a b)):=eH k a b rfl
@[go_sem] theorem bI:af .eql (N k a) (N k b) K=K (Bo (a == b)):=eH k a b rfl
@[go_sem] theorem fD:af .neq (N k a) (N k b) K=K (Bo (a != b)):=eH k a b rfl
@[go_sem] theorem iI:af .lss (N k a) (N k b) K=K (Bo (decide (a<b))):=eH k a b rfl
@[go_sem] theorem rG:af .leq (N k a) (N k b) K=K (Bo (decide (a≤b))):=eH k a b rfl
@[go_sem] theorem dI:af .gtr (N k a) (N k b) K=K (Bo (decide (a > b))):=eH k a b rfl
@[go_sem] theorem dJ:af .geq (N k a) (N k b) K=K (Bo (decide (a ≥ b))):=eH k a b rfl
@[go_sem] theorem Ni:af .quo (N k a) (N k b) K=(b≠0∧K (N k (k.wrap (a.tdiv b)))):=by
 apply propext; unfold af rQ
 constructor
 ·rintro⟨k',a',b',u,h1,h2,h3,hk⟩; cases h1; cases h2
  simp only at h3
  split at h3
  ·cases h3
  ·cases h3; exact⟨‹_›,hk⟩
 ·rintro⟨h0,hk⟩; exact⟨k,a,b,_,rfl,rfl,by simp only[if_neg h0],hk⟩
@[go_sem] theorem TU:af .rem (N k a) (N k b) K=(b≠0∧K (N k (a.tmod b))):=by
 apply propext; unfold af rQ
 constructor
 ·rintro⟨k',a',b',u,h1,h2,h3,hk⟩; cases h1; cases h2
  simp only at h3
  split at h3
  ·cases h3
  ·cases h3; exact⟨‹_›,hk⟩
 ·rintro⟨h0,hk⟩; exact⟨k,a,b,_,rfl,rfl,by simp only[if_neg h0],hk⟩
variable (l:IntKind)
@[go_sem] theorem O1:zU .shl (N k a) (N l b) K=(0≤b∧K (N k (QI k a b))):=by
 apply propext; unfold zU Cm
 constructor
 ·rintro⟨k',a',l',b',u,h1,h2,h3,hk⟩; cases h1; cases h2
  split at h3
  ·cases h3
  ·cases h3; exact⟨by omega,hk⟩
 ·rintro⟨h0,hk⟩; exact⟨k,a,l,b,_,rfl,rfl,by rw[if_neg (by omega)]; rfl,hk⟩
@[go_sem] theorem OP:zU .shr (N k a) (N l b) K=(0≤b∧K (N k (MB k a b))):=by
 apply propext; unfold zU Cm
 constructor
 ·rintro⟨k',a',l',b',u,h1,h2,h3,hk⟩; cases h1; cases h2
  split at h3
  ·cases h3
  ·cases h3; exact⟨by omega,hk⟩
 ·rintro⟨h0,hk⟩; exact⟨k,a,l,b,_,rfl,rfl,by rw[if_neg (by omega)]; rfl,hk⟩
@[go_sem] theorem Ut {l:IntKind} {a:Int} {K:AV→Prop} : Kz (N l a) K=K (St (Utf8.encode a).data.toList):=by
 apply propext; unfold Kz
 constructor
 ·rintro⟨l',n,h,hk⟩; cases h; exact hk
 ·intro h; exact⟨_,_,rfl,h⟩
@[go_sem] theorem lS:il k (N l a) K=K (N k (k.wrap a)):=by
 apply propext; unfold il
 constructor
 ·rintro⟨l',n,h,hk⟩; cases h; exact hk
 ·intro hk; exact⟨l,a,rfl,hk⟩
@[go_sem] theorem Ll (mx:Bool) : Dh mx (N k a) (N k b) K=K (N k (if mx then(if b > a then b else a) else(if b<a then b else a))):=by
 apply propext; unfold Dh
 constructor
 ·rintro⟨k',a',b',h1,h2,hk⟩; cases h1; cases h2; exact hk
 ·intro hk; exact⟨k,a,b,rfl,rfl,hk⟩
@[go_sem] theorem UA:Fg (N k a) K=K (N k (k.wrap (0 - a))):=by
 apply propext; unfold Fg
 constructor
 ·rintro⟨k',a',h1,hk⟩; cases h1; exact hk
 ·intro hk; exact⟨k,a,rfl,hk⟩
end
@[go_sem] theorem di (b:Bool) : fQ (Bo b) K=K (Bo (!b)):=by
 apply propext; unfold fQ
 constructor
 ·rintro⟨b',h,hk⟩; cases h; exact hk
 ·intro hk; exact⟨b,rfl,hk⟩
@[go_sem] theorem Rz (neg a b:Bool) : yM neg (Bo a) (Bo b) K=K (Bo ((a == b) != neg)):=by
 apply propext; unfold yM
 constructor
 ·rintro⟨a',b',h,h',hk⟩; cases h; cases h'; exact hk
 ·intro hk; exact⟨a,b,rfl,rfl,hk⟩
@[go_sem] theorem Fx (t:Bool) (a b:AV) : ay (Bo t) a b K=K (if t then a else b):=by
 apply propext; unfold ay
 constructor
 ·rintro⟨t',h,hk⟩; cases h; exact hk
 ·intro hk; exact⟨t,rfl,hk⟩
@[go_sem] theorem Gd (b:Bool) (p q:Prop) : au (Bo b) p q=((b=true→p)∧(b=false→q)):=rfl
@[go_sem] theorem RU {α:Type} (b want:Bool) (f g:α→Prop) (k:α) : lJ (Bo b) want f g k=if b=want then f k else g k:=rfl
@[go_sem] theorem PW {α:Type} (want:Bool) (f g:α→Prop) (k:α) : lJ .undef want f g k=g k:=rfl
@[go_sem] theorem TF (b o:Nat) : MR (.ptr b o) K=K (.ptr b o):=by
 apply propext; unfold MR
 constructor
 ·rintro⟨b',o',h,hk⟩; cases h; exact hk
 ·intro hk; exact⟨b,o,rfl,hk⟩
@[go_sem] theorem jD (b o n:Nat) : aQ (.ptr b o) n K=K (.ptr b (o + n)):=by
 apply propext; unfold aQ
 constructor
 ·rintro⟨b',o',h,hk⟩; cases h; exact hk
 ·intro hk; exact⟨b,o,rfl,hk⟩
@[go_sem] theorem rH (b p len:Nat) (cap:Cap) (k:IntKind) (n:Int) (size:Nat) : dO (.slc b p len cap) (N k n) size K=(0≤n∧n<len∧K (.ptr b (p + n.toNat * size))):=by
 apply propext; unfold dO
 constructor
 ·rintro⟨b',p',l',c',k',n',h,h',h0,h1,hk⟩; cases h; cases h'; exact⟨h0,h1,hk⟩
 ·rintro⟨h0,h1,hk⟩; exact⟨b,p,len,cap,k,n,rfl,rfl,h0,h1,hk⟩
@[go_sem] theorem Nb (b p:Nat) (k:IntKind) (n:Int) (len size:Nat) : mV (.ptr b p) (N k n) len size K=(0≤n∧n<len∧K (.ptr b (p + n.toNat * size))):=by
 apply propext; unfold mV
 constructor
 ·rintro⟨b',p',k',n',h,h',h0,h1,hk⟩; cases h; cases h'; exact⟨h0,h1,hk⟩
 ·rintro⟨h0,h1,hk⟩; exact⟨b,p,k,n,rfl,rfl,h0,h1,hk⟩
@[go_sem] theorem Sy (cs:List AV) (off:Nat) : JI (.agg cs) off K=∃ v,cs[off]?=some v∧K v:=by
 apply propext; unfold JI
 constructor
 ·rintro⟨cs',v,h,h1,hk⟩; cases h; exact⟨v,h1,hk⟩
 ·rintro⟨v,h1,hk⟩; exact⟨cs,v,rfl,h1,hk⟩
@[go_sem] theorem RX (cs:List AV) (off n:Nat) : Jh (.agg cs) off n K=(off + n≤cs.length∧K (.agg ((cs.drop off).take n))):=by
 apply propext; unfold Jh
 constructor
 ·rintro⟨cs',h,h1,hk⟩; cases h; exact⟨h1,hk⟩
 ·rintro⟨h1,hk⟩; exact⟨cs,rfl,h1,hk⟩
@[go_sem] theorem Sj (cs:List AV) (k:IntKind) (n:Int) (len:Nat) : JH (.agg cs) (N k n) len K=(0≤n∧n<len∧∃ v,cs[n.toNat]?=some v∧K v):=by
 apply propext; unfold JH
 constructor
 ·rintro⟨cs',k',n',v,h,h',h0,h1,h2,hk⟩; cases h; cases h'; exact⟨h0,h1,v,h2,hk⟩
 ·rintro⟨h0,h1,v,h2,hk⟩; exact⟨cs,k,n,v,rfl,rfl,h0,h1,h2,hk⟩
@[go_sem] theorem Si (cs:List AV) (k:IntKind) (n:Int) (len size:Nat) : J3 (.agg cs) (N k n) len size K=(0≤n∧n<len∧n.toNat * size + size≤cs.length∧K (.agg ((cs.drop (n.toNat * size)).take size))):=by
 apply propext; unfold J3
 constructor
 ·rintro⟨cs',k',n',h,h',h0,h1,h2,hk⟩; cases h; cases h'; exact⟨h0,h1,h2,hk⟩
 ·rintro⟨h0,h1,h2,hk⟩; exact⟨cs,k,n,rfl,rfl,h0,h1,h2,hk⟩
@[go_sem] theorem Pf (s:List UInt8) (k:IntKind) (n:Int) : dZ (St s) (N k n) K=(0≤n∧∃ b,s[n.toNat]?=some b∧K (N .u8 b.toNat)):=by
 apply propext; unfold dZ
 constructor
 ·rintro⟨s',k',n',b,h,h',h0,h1,hk⟩; cases h; cases h'; exact⟨h0,b,h1,hk⟩
 ·rintro⟨h0,b,h1,hk⟩; exact⟨s,k,n,b,rfl,rfl,h0,h1,hk⟩
@[go_sem] theorem Af (vs:List AV) (i:Nat) : aC (.tup vs) i K=∃ v,vs[i]?=some v∧K v:=by
 apply propext; unfold aC
 constructor
 ·rintro⟨cs',v,h,h1,hk⟩; cases h; exact⟨v,h1,hk⟩
 ·rintro⟨v,h1,hk⟩; exact⟨vs,v,rfl,h1,hk⟩
@[go_sem] theorem eP (v:AV) : bH (some v) K=K v:=by
 apply propext; unfold bH
 constructor
 ·rintro⟨v',h,hk⟩; cases h; exact hk
 ·intro hk; exact⟨v,rfl,hk⟩
@[go_sem] theorem kC (b o n:Nat) (c:Cap) : aR (.slc b o n c) K=K (N .i64 n):=by
 apply propext; unfold aR
 constructor
 ·rintro⟨n',h,hk⟩; cases h; exact hk
 ·intro hk; exact⟨n,rfl,hk⟩
@[go_sem] theorem Nj (b:Nat) : aR (.emp b) K=K (N .i64 0):=by
 apply propext; unfold aR
 constructor
 ·rintro⟨n',h,hk⟩; cases h; exact hk
 ·intro hk; exact⟨0,rfl,hk⟩
@[go_sem] theorem AU:aR (.sc (.slice none 0 0)) K=K (N .i64 0):=by
 apply propext; unfold aR
 constructor
 ·rintro⟨n',h,hk⟩; cases h; exact hk
 ·intro hk; exact⟨0,rfl,hk⟩
@[go_sem] theorem mH (s:List UInt8) : bZ (St s) K=K (N .i64 s.length):=by
 apply propext; unfold bZ
 constructor
 ·rintro⟨s',h,hk⟩; cases h; exact hk
 ·intro hk; exact⟨s,rfl,hk⟩
@[go_sem] theorem Uu (b o n c:Nat) : uY (.slc b o n (.ex c)) K=K (N .i64 c):=by
 apply propext; unfold uY
 constructor
 ·rintro⟨n',h,hk⟩; cases h; exact hk
 ·intro hk; exact⟨c,rfl,hk⟩
@[go_sem] theorem TJ:uY (.sc (.slice none 0 0)) K=K (N .i64 0):=by
 apply propext; unfold uY
 constructor
 ·rintro⟨n',h,hk⟩; cases h; exact hk
 ·intro hk; exact⟨0,rfl,hk⟩
@[go_sem] theorem Un (s:List UInt8) : isStr (St s) K=K (St s):=by
 apply propext; unfold isStr
 constructor
 ·rintro⟨s',h,hk⟩; cases h; exact hk
 ·intro hk; exact⟨s,rfl,hk⟩
@[go_sem] theorem Ho {x:AV} {s:List UInt8} (h:uU M x=some s) : cz M x K=K (St s):=by
 apply propext; unfold cz
 constructor
 ·rintro⟨s',h',hk⟩; rw[h] at h'; cases h'; exact hk
 ·intro hk; exact⟨s,h,hk⟩
theorem mM {op:BinOp} {a b:List UInt8} {v:AV} (h:uO op a b=some v) : aV op (St a) (St b) K=K v:=by
 apply propext; unfold aV
 constructor
 ·rintro⟨a',b',u,h1,h2,h3,hk⟩; cases h1; cases h2; rw[h] at h3; cases h3; exact hk
 ·intro hk; exact⟨a,b,v,rfl,rfl,h,hk⟩
@[go_sem] theorem dS (a b:List UInt8) : aV .eql (St a) (St b) K=K (Bo (a == b)):=by rw[← fM]; exact mM rfl
@[go_sem] theorem uR (a b:List UInt8) : aV .neq (St a) (St b) K=K (Bo (a != b)):=by rw[bne,← fM]; exact mM rfl
@[go_sem] theorem Ti (a b:List UInt8) : aV .lss (St a) (St b) K=K (Bo (Op.bytesLess a b)):=mM rfl
@[go_sem] theorem Tp (a b:List UInt8) : aV .leq (St a) (St b) K=K (Bo (Op.bytesLess a b || a == b)):=by rw[← fM]; exact mM rfl
@[go_sem] theorem TT (a b:List UInt8) : aV .gtr (St a) (St b) K=K (Bo (!(Op.bytesLess a b || a == b))):=by rw[← fM]; exact mM rfl
@[go_sem] theorem Tz (a b:List UInt8) : aV .geq (St a) (St b) K=K (Bo (!Op.bytesLess a b)):=mM rfl
@[go_sem] theorem bN (a b:List UInt8) : aV .add (St a) (St b) K=(a.length + b.length≤9223372036854775807∧K (St (a++b))):=by
 apply propext; unfold aV
 constructor
 ·rintro⟨a',b',u,h1,h2,h3,hk⟩; cases h1; cases h2
  simp only[uO] at h3
  split at h3
  ·rename_i hb; cases h3; exact⟨aK hb,hk⟩
  ·cases h3
 ·rintro⟨h0,hk⟩; exact⟨a,b,_,rfl,rfl,by simp only[uO,aG.2 h0],hk⟩
theorem iP {neg:Bool} {tag:Nat} {x y:AV} {r:Bool} (ht:ET x=tag) (h:uQ x y=some r) : gI neg tag x y K=K (Bo (r != neg)):=by
 apply propext; unfold gI
 constructor
 ·rintro⟨_,r',h',hk⟩; rw[h] at h'; cases h'; exact hk
 ·intro hk; exact⟨ht,r,h,hk⟩
@[go_sem] theorem C9 (neg:Bool) : gI neg 2 (.sc (.slice none 0 0)) (.sc (.slice none 0 0)) K=K (Bo (!neg)):=(iP (tag:=2) (r:=true) rfl rfl).trans (by cases neg <;> rfl)
@[go_sem] theorem Dn (neg:Bool) (b:Nat) : gI neg 2 (.emp b) (.sc (.slice none 0 0)) K=K (Bo neg):=(iP (tag:=2) (r:=false) rfl rfl).trans (by cases neg <;> rfl)
@[go_sem] theorem Dc (neg:Bool) (b o n:Nat) (c:Cap) : gI neg 2 (.slc b o n c) (.sc (.slice none 0 0)) K=K (Bo neg):=(iP (tag:=2) (r:=false) rfl rfl).trans (by cases neg <;> rfl)
@[go_sem] theorem OQ (neg:Bool) (b o:Nat) : gI neg 1 (.ptr b o) (.sc (.pointer none)) K=K (Bo neg):=(iP (tag:=1) (r:=false) rfl rfl).trans (by cases neg <;> rfl)
@[go_sem] theorem NY (neg:Bool) : gI neg 1 (.sc (.pointer none)) (.sc (.pointer none)) K=K (Bo (!neg)):=(iP (tag:=1) (r:=true) rfl rfl).trans (by cases neg <;> rfl)
@[go_sem] theorem OD (neg:Bool) (b:Nat) : gI neg 3 (.map b) (.sc (.map none)) K=K (Bo neg):=(iP (tag:=3) (r:=false) rfl rfl).trans (by cases neg <;> rfl)
@[go_sem] theorem Pm (neg:Bool) (f:Fn) (xs ys:List AV) : gI neg 4 (.fn f xs ys) (.sc .nilFunc) K=K (Bo neg):=(iP (tag:=4) (r:=false) rfl rfl).trans (by cases neg <;> rfl)
@[go_sem] theorem Ry (neg:Bool) (ks:List Nat) (cs ds:List AV) : xV neg ks (.agg cs) (.agg ds) K=(cs.length=ks.length∧ds.length=ks.length∧∃ r,bO ks cs ds=some r∧K (Bo (r != neg))):=by
 apply propext; unfold xV
 constructor
 ·rintro⟨a',b',r,h1,h2,h3,h4,h5,hk⟩; cases h1; cases h2; exact⟨h3,h4,r,h5,hk⟩
 ·rintro⟨h3,h4,r,h5,hk⟩; exact⟨cs,ds,r,rfl,rfl,h3,h4,h5,hk⟩
@[go_sem] theorem Aj (C:FuncId→ai) (g:FuncId) (first cap args:List AV) : yV C (.fn (.func g) first cap) args M KQ=C g (first++args++cap) M KQ:=by
 apply propext; unfold yV
 constructor
 ·rintro⟨g',f',c',h,hk⟩; cases h; exact hk
 ·intro hk; exact⟨g,first,cap,rfl,hk⟩
@[go_sem] theorem jl (cs:List AV) (parts:List (Nat × Nat × AV)) : gH cs parts K=∃ cs',oD cs parts=some cs'∧K (.agg cs'):=rfl
@[go_sem] theorem aT (x:RB) (mk:Nat→AV) : bf x mk M KQ=KQ (mk M.next) (M.push x):=rfl
@[go_sem] theorem DJ (x:RB) (mk:Nat→AV) (k:KR) : uW x mk M k=k (mk M.next) (M.push x) (some M.next):=rfl
@[go_sem] theorem oq (f:(List AV→RM→Prop)→Prop) (g:List AV→RM→Prop) : dN f g=f g:=rfl
@[go_sem] theorem bB (x:AV) (xs:List AV) : ax (x :: xs) 0=x:=rfl
@[go_sem] theorem cO (x:AV) (xs:List AV) (n:Nat) : ax (x :: xs) (n + 1)=ax xs n:=rfl
@[go_sem] theorem Re (b:Nat) (x:RB) (mk:Nat→AV) (v:AV) : EK (some b) M x mk v=(M.heap b=some x∧mk b=v):=rfl
end
section
variable {M M' : RM}
theorem RM.sV {b:Nat} {l:List AV} {opn:Bool} {el fz:Nat} (h:M.heap b=some (.row l opn el fz)) : M.cells b=some l:=by simp[RM.cells,h]
theorem RM.Nz {b o:Nat} {l:List AV} {opn:Bool} {el fz:Nat} (h:M.heap b=some (.row l opn el fz)) : M.cell b o=l[o]?:=by simp[RM.cell,RM.sV h]
theorem RM.gU {b o k:Nat} {l:List AV} {opn:Bool} {el fz:Nat} (h:M.heap b=some (.row l opn el fz)) (hk:o + k≤l.length) : M.loads b o k=some ((l.drop o).take k):=by
 simp[RM.loads,RM.sV h,hk]
theorem RM.KC {b o:Nat} {l vs:List AV} {opn:Bool} {el fz:Nat} (h:M.heap b=some (.row l opn el fz)) (h1:o + vs.length≤l.length) (h2:fz≤o) (h3:vs.all oneCell=true) :
  M.stores b o vs=some (M.put b (.row (l.take o++vs++l.drop (o + vs.length)) opn el fz)):=by
 simp only[RM.stores,h]
 rw[if_pos ⟨h1,h2,h3⟩]
structure ae (bs:List Nat) (M M' : RM) : Prop where
 base:M'.base=M.base
 next:M.next≤M'.next
 heap:∀ c,c<M.next→c ∉ bs→M'.heap c=M.heap c
theorem ae.refl (bs:List Nat) (M:RM) : ae bs M M:=⟨rfl,Nat.le_refl _,fun _ _ _=>rfl⟩
theorem ae.trans {bs:List Nat} {M1 M2:RM} (h:ae bs M M1) (k:ae bs M1 M2) : ae bs M M2 :=
 ⟨k.base.trans h.base,Nat.le_trans h.next k.next,fun c hc hb=>(k.heap c (Nat.lt_of_lt_of_le hc h.next) hb).trans (h.heap c hc hb)⟩
theorem ae.push {bs:List Nat} (h:ae bs M M') (x:RB) : ae bs M (M'.push x) :=
 ⟨h.base,Nat.le_succ_of_le h.next,fun c hc hb=>by
  have:=h.next
  simp only[RM.push]; rw[if_neg (by omega)]; exact h.heap c hc hb⟩
theorem ae.put {bs:List Nat} (h:ae bs M M') {b:Nat} (x:RB) (hb:M.next≤b∨b∈bs) : ae bs M (M'.put b x) :=
 ⟨h.base,h.next,fun c hc hcb=>by
  simp only[RM.put]; rw[if_neg]
  ·exact h.heap c hc hcb
  ·rintro rfl; rcases hb with hb | hb
   ·omega
   ·exact hcb hb⟩
theorem ae.del {bs:List Nat} (h:ae bs M M') {b:Nat} (hb:M.next≤b∨b∈bs) : ae bs M (M'.del b) :=
 ⟨h.base,h.next,fun c hc hcb=>by
  simp only[RM.del]; rw[if_neg]
  ·exact h.heap c hc hcb
  ·rintro rfl; rcases hb with hb | hb
   ·omega
   ·exact hcb hb⟩
theorem ae.mono {bs cs:List Nat} (h:ae bs M M') (hs:∀ b∈bs,b∈cs) : ae cs M M':=⟨h.base,h.next,fun c hc hb=>h.heap c hc fun h=>hb (hs c h)⟩
theorem ae.cells {bs:List Nat} (h:ae bs M M') {b:Nat} (hlt:b<M.next) (hb:b ∉ bs) : M'.cells b=M.cells b:=by
 simp only[RM.cells,h.heap b hlt hb,RM.lo,h.base]
theorem ae.cell {bs:List Nat} (h:ae bs M M') {b o:Nat} (hlt:b<M.next) (hb:b ∉ bs) : M'.cell b o=M.cell b o:=by
 simp only[RM.cell,h.cells hlt hb]
theorem ae.loads {bs:List Nat} (h:ae bs M M') {b o k:Nat} (hlt:b<M.next) (hb:b ∉ bs) : M'.loads b o k=M.loads b o k:=by
 simp only[RM.loads,h.cells hlt hb]
@[go_sem] theorem RM.RQ (x:RB) : (M.push x).next=M.next + 1:=rfl
@[go_sem] theorem RM.SI (b:Nat) (x:RB) : (M.put b x).next=M.next:=rfl
@[go_sem] theorem RM.Tf (b:Nat) : (M.del b).next=M.next:=rfl
@[go_sem] theorem RM.mo (x:RB) : (M.push x).heap M.next=some x:=by simp[RM.push]
theorem RM.MZ {x:RB} {c:Nat} (h:c≠M.next) : (M.push x).heap c=M.heap c:=by simp[RM.push,h]
@[go_sem] theorem RM.Am (b:Nat) (x:RB) : (M.put b x).heap b=some x:=by simp[RM.put]
end
abbrev aJ:AV:=.sc (.slice none 0 0)
inductive aF (M:RM) (size:Nat) : AV→List AV→Nat→Prop
 | nil:aF M size aJ [] 0
 | emp (b:Nat) : aF M size (.emp b) [] 0
 | slc (b o n:Nat) (cap:Cap) (cs:List AV) : b<M.next→M.loads b o (n * size)=some cs→aF M size (.slc b o n cap) cs n
section
variable {M M' : RM} {size:Nat} {v:AV} {cs:List AV} {n:Nat}
theorem D9 {b o k:Nat} {cs:List AV} (h:M.loads b o k=some cs) : cs.length=k:=by
 unfold RM.loads at h
 split at h <;> first | (cases h; done) | skip
 split at h <;> first | (cases h; done) | skip
 rename_i hle
 have:=Option.some.inj h
 rw[← this,List.length_take,List.length_drop]; omega
theorem La {b o k:Nat} {cs:List AV} (h:M.loads b o k=some cs) (i:Nat) (hi:i<k) : M.cell b (o + i)=cs[i]?:=by
 unfold RM.loads at h
 unfold RM.cell
 split at h <;> first | (cases h; done) | skip
 rename_i l hl
 split at h <;> first | (cases h; done) | skip
 cases h
 simp only[hl,Option.bind_some]
 rw[List.getElem?_take,if_pos hi,List.getElem?_drop]
theorem sW {b o k:Nat} {cs:List AV} (h:M.loads b o k=some cs) (i j:Nat) (hij:i + j≤k) : M.loads b (o + i) j=some ((cs.drop i).take j):=by
 unfold RM.loads at h ⊢
 cases hl:M.cells b with
 | none=>rw[hl] at h; cases h
 | some l =>
   rw[hl] at h
   simp only at h ⊢
   split at h
   ·rename_i hle
    have h:=Option.some.inj h
    subst h
    rw[if_pos (by omega),List.drop_take,List.drop_drop,List.take_take]
    congr 2
    omega
   ·cases h
theorem Bj {b o:Nat} {l:List AV} (h:M.cells b=some l) (ho:o≤l.length) : M.loads b o 0=some []:=by
 simp[RM.loads,h,ho]
theorem aF.length (h:aF M size v cs n) : cs.length=n * size:=by
 cases h with
 | nil=>exact(Nat.zero_mul _).symm
 | emp=>exact(Nat.zero_mul _).symm
 | slc b o n cap cs hb0 hl=>exact D9 hl
theorem aF.len (h:aF M size v cs n) {K:AV→Prop} : aR v K=K (N .i64 n):=by
 cases h with
 | nil=>exact AU
 | emp b=>exact Nj b
 | slc b o n cap cs hb0 hl=>exact kC b o n cap
theorem aF.ni (h:aF M size v cs n) (zs:List AV) : ni M size zs false v=some (n,cs):=by
 cases h with
 | nil=>rfl
 | emp b=>rfl
 | slc b o n cap cs hb0 hl=>simp only[Go.Ab.ni,hl]
theorem aF.pos (h:aF M size v cs n) (hn:0<n) : ∃ b o cap,v=.slc b o n cap∧b<M.next∧M.loads b o (n * size)=some cs:=by
 cases h with
 | nil=>omega
 | emp b=>omega
 | slc b o n cap cs hb0 hl=>exact⟨b,o,cap,rfl,hb0,hl⟩
theorem aF.uU (h:aF M 1 v cs n) {l:List UInt8} (hb:bS byteOf cs=some l) : uU M v=some l:=by
 cases h with
 | nil=>simp[bS] at hb; subst hb; rfl
 | emp b=>simp[bS] at hb; subst hb; rfl
 | slc b o n cap cs hb0 hl =>
   rw[Nat.mul_one] at hl
   simp only[Go.Ab.uU,hl]; exact hb
def aP:AV→List Nat
 | .slc b _ _ _=>[b]
 | _=>[]
theorem aF.keep {bs:List Nat} (h:aF M size v cs n) (hk:ae bs M M') (hb:∀ b∈aP v,b ∉ bs) : aF M' size v cs n:=by
 cases h with
 | nil=>exact .nil
 | emp b=>exact .emp b
 | slc b o n cap cs hb0 hl =>
   exact .slc b o n cap cs (Nat.lt_of_lt_of_le hb0 hk.next) (by rw[hk.loads hb0 (hb b (by simp[aP]))]; exact hl)
inductive Own (M:RM) (base el size:Nat) : AV→List AV→Nat→Prop
 | nil:Own M base el size aJ [] 0
 | ex0 (b o:Nat) : base≤b→b<M.next→(∃ l,M.cells b=some l∧o≤l.length)→Own M base el size (.slc b o 0 (.ex 0)) [] 0
 | op (b n:Nat) (cs:List AV) : base≤b→b<M.next→M.heap b=some (.row cs true el 0)→cs.length=n * size→Own M base el size (.slc b 0 n (.op size)) cs n
theorem Own.kY {base el:Nat} (h:Own M base el size v cs n) : aF M size v cs n:=by
 cases h with
 | nil=>exact .nil
 | ex0 b o hb hlt hc =>
   obtain⟨l,hl,ho⟩:=hc
   exact .slc b o 0 _ [] hlt (by rw[Nat.zero_mul]; exact Bj hl ho)
 | op b n cs hb hlt hh hl =>
   refine .slc b 0 n _ cs hlt ?_
   rw[RM.gU hh (by omega)]
   simp[← hl]
theorem Own.blk {base el:Nat} (h:Own M base el size v cs n) : ∀ b∈aP v,base≤b∧b<M.next:=by
 cases h with
 | nil=>intro b hb; simp[aP] at hb
 | ex0 b o hb hlt hc=>intro c hc; simp[aP] at hc; subst hc; exact⟨hb,hlt⟩
 | op b n cs hb hlt hh hl=>intro c hc; simp[aP] at hc; subst hc; exact⟨hb,hlt⟩
theorem Own.keep {base el:Nat} {bs:List Nat} (h:Own M base el size v cs n) (hk:ae bs M M') (hb:∀ b∈aP v,b ∉ bs) : Own M' base el size v cs n:=by
 cases h with
 | nil=>exact .nil
 | ex0 b o h1 hlt hc=>exact .ex0 b o h1 (Nat.lt_of_lt_of_le hlt hk.next) (by rw[hk.cells hlt (hb b (by simp[aP]))]; exact hc)
 | op b n cs h1 hlt hh hl=>exact .op b n cs h1 (Nat.lt_of_lt_of_le hlt hk.next) (by rw[hk.heap b hlt (hb b (by simp[aP]))]; exact hh) hl
theorem Own.mono {base base' el:Nat} (h:Own M base el size v cs n) (hb:base'≤base) : Own M base' el size v cs n:=by
 cases h with
 | nil=>exact .nil
 | ex0 b o h1 hlt hc=>exact .ex0 b o (Nat.le_trans hb h1) hlt hc
 | op b n cs h1 hlt hh hl=>exact .op b n cs (Nat.le_trans hb h1) hlt hh hl
theorem yL {base el bytes:Nat} {zs:List AV} {zeros:Bool} {x:AV} {m:Nat} {ds:List AV} {K:ah} (h:Own M base el size v cs n) (hbase:base≤M.next) (hs:1≤size) (hx:ni M size zs zeros x=some (m,ds)) (hd:ds.length=m * size)
  (h1:ds.all oneCell=true) (hb:(n + m) * bytes≤140737488355328) (hb2:n + m≤140737488355328)
  (hK:∀ v' M',Own M' base el size v' (cs++ds) (n + m)→ae (aP v) M M'→M.next≤M'.next→(v'=v∨∀ b∈aP v',M.next≤b)→K v' M') : appW el size bytes zs zeros v x M K:=by
 have hmb:m * bytes≤140737488355328:=Nat.le_trans (Nat.mul_le_mul_right _ (by omega)) hb
 refine⟨m,ds,hx,hmb,by omega, ?_⟩
 cases h with
 | nil =>
   by_cases hm:m=0
   ·subst hm
    have:ds=[]:=List.eq_nil_of_length_eq_zero (by simpa using hd)
    subst this
    exact⟨aJ,M,by simp[rq],hK _ _ .nil (ae.refl _ _) (Nat.le_refl _) (.inl rfl)⟩
   ·refine⟨.slc M.next 0 m (.op size),M.push (.row ds true el 0),by simp only[rq,if_neg hm,h1,if_true],hK _ _ ?_ ((ae.refl _ _).push _) (by simp[RM.push]) (.inr fun b hb=>by simp[aP] at hb; omega)⟩
    simp only[List.nil_append,Nat.zero_add]
    exact .op _ _ _ hbase (by simp[RM.push]) (RM.mo _) hd
 | ex0 b o hb0 hlt hc =>
   obtain⟨l,hl,ho⟩:=hc
   by_cases hm:m=0
   ·subst hm
    have:ds=[]:=List.eq_nil_of_length_eq_zero (by simpa using hd)
    subst this
    exact⟨_,M,by simp[rq],hK _ _ (.ex0 b o hb0 hlt ⟨l,hl,ho⟩) (ae.refl _ _) (Nat.le_refl _) (.inl rfl)⟩
   ·refine⟨.slc M.next 0 m (.op size),M.push (.row ds true el 0), ?_,hK _ _ ?_ ((ae.refl _ _).push _) (by simp[RM.push]) (.inr fun b hb=>by simp[aP] at hb; omega)⟩
    ·have hl0:M.loads b o (0 * size)=some []:=by rw[Nat.zero_mul]; exact Bj hl ho
     simp only[rq,if_neg hm]
     rw[if_neg (by omega),hl0]
     simp only[Nat.zero_add,List.nil_append]
     rw[if_pos ⟨hmb,by omega,h1⟩]
    ·simp only[List.nil_append,Nat.zero_add]
     exact .op _ _ _ hbase (by simp[RM.push]) (RM.mo _) hd
 | op b n cs hb0 hlt hh hl =>
   by_cases hm:m=0
   ·subst hm
    have:ds=[]:=List.eq_nil_of_length_eq_zero (by simpa using hd)
    subst this
    exact⟨_,M,by simp[rq],hK _ _ (by simpa using .op b n cs hb0 hlt hh hl) (ae.refl _ _) (Nat.le_refl _) (.inl rfl)⟩
   ·have hpos:1≤m * size:=Nat.mul_pos (by omega) hs
    have hsum:(n + m) * size=n * size + m * size:=Nat.add_mul _ _ _
    refine⟨.slc M.next 0 (n + m) (.op size),(M.del b).push (.row (cs++ds) true el 0), ?_,hK _ _ ?_ (((ae.refl _ _).del (.inr (by simp[aP]))).push _) (by simp[RM.push,RM.del]) (.inr fun b hb=>by simp[aP] at hb; omega)⟩
    ·simp only[rq,if_neg hm,hh,and_self,if_true]
     rw[if_neg (by omega),if_pos ⟨trivial,hb,hb2,trivial,hl,Nat.zero_le _,h1⟩]
    ·exact .op _ _ _ (show base≤M.next from hbase) (by simp[RM.push,RM.del]) (by simp[RM.push,RM.del]) (by rw[List.length_append,hl,hd,hsum])
theorem aF.uQ (h:aF M size v cs n) (neg:Bool) : (v=aJ∧∀ K:AV→Prop,gI neg 2 v aJ K=K (Bo (!neg)))∨(v≠aJ∧∀ K:AV→Prop,gI neg 2 v aJ K=K (Bo neg)):=by
 cases h with
 | nil=>exact .inl ⟨rfl,fun _=>C9 neg⟩
 | emp b=>exact .inr ⟨by(intro h; cases h),fun _=>Dn neg b⟩
 | slc b o n cap cs hb0 hl=>exact .inr ⟨by(intro h; cases h),fun _=>Dc neg b o n cap⟩
theorem Own.lit {base el T:Nat} (M:RM) (h:base≤M.next) : Own (M.push (.row [] false T 0)) base el size (.slc M.next 0 0 (.ex 0)) [] 0 :=
 .ex0 _ _ h (by simp[RM.push]) ⟨[],by simp[RM.cells,RM.push],Nat.le_refl _⟩
end
end Go.Ab
set_option maxRecDepth 4000
namespace Go.Ab
open Go
theorem wrap_u8 (n:Nat) : IntKind.wrap .u8 (n:Int)=((n % 256:Nat) : Int):=by
 simp only[IntKind.wrap,IntKind.bits,IntKind.signed,IntKind.max,IntKind.min]
 simp
theorem jB {n:Int} (h0:0≤n) (h:n<256) : IntKind.wrap .u8 n=n:=by
 obtain⟨m,rfl⟩:=Int.eq_ofNat_of_zero_le h0
 rw[wrap_u8,Nat.mod_eq_of_lt (by omega)]
theorem gT {n:Int} (h0 : -9223372036854775808≤n) (h:n<9223372036854775808) : IntKind.wrap .i64 n=n:=by
 rw[IntKind.wrap_i64]; omega
theorem OA (k:Nat) (a b:Nat) : (BitVec.ofInt k (a:Int) &&& BitVec.ofInt k (b:Int)).toNat=(a &&& b) % 2 ^ k:=by
 rw[BitVec.toNat_and,BitVec.ofInt_natCast,BitVec.ofInt_natCast,BitVec.toNat_ofNat,BitVec.toNat_ofNat,← Nat.and_mod_two_pow]
def BR:IntKind→Nat
 | .u8=>8 | .u16=>16 | .u32=>32 | _=>64
def Co:IntKind→Bool
 | .u8 | .u16 | .u32 | .u64=>true
 | _=>false
theorem NG {k:IntKind} (h:Co k=true) (n:Nat) : k.wrap (n:Int)=((n % 2 ^ BR k:Nat) : Int):=by
 cases k <;> simp[Co] at h <;> (simp only[IntKind.wrap,IntKind.bits,IntKind.signed,BR]; simp)
theorem NQ (k:IntKind) (h:Co k=true) : k.bits=BR k:=by cases k <;> simp[Co] at h <;> rfl
theorem Nl {k:IntKind} (h:Co k=true) (a b:Nat) : JZ k a b=(((a &&& b) % 2 ^ BR k:Nat) : Int):=by
 unfold JZ
 rw[OA,NG h,NQ k h,Nat.mod_mod]
theorem Qj (n:Nat) : (UInt8.ofNat n).toNat=n % 256:=by simp
end Go.Ab
namespace Go.Ab
open Go Go.RowKit
section
variable {P:Program}
end
def RM.old (base:Base) (w:World) : RM where
 next:=base.n
 heap:=fun b=>if b<base.n then(match w.heap[b]? with | some (.cells c _ _)=>some (.ro c) | _=>none) else none
 base:=base
def EZ (n:Nat) : Ren:=fun b=>if b<n then some ⟨b,0,0,0⟩ else none
theorem Nw {P:Program} {base:Base} {w:World} (hn:base.n=w.heap.size) (hi:base.inv w) : bq P (EZ base.n) (RM.old base w) w:=by
 refine⟨{ next:=base.n,heap:=.leaf },rfl,⟨fun b i h=>?_,fun b i x _ h=>by simp[Tree.get] at h,fun b _ i _ x _ _ _ h=>by simp[Tree.get] at h,fun b x h=>by simp[Tree.get] at h,fun b i x _ h=>by simp[Tree.get] at h,hi⟩,by simp[RM.old,RM.lo,hn],fun b x h=>.inr ?_,fun c hc=>by have hc' : c<base.n:=hc; simp only[EZ]; rw[if_pos hc']⟩
 ·simp only[EZ] at h
  split at h <;> first | (cases h; done) | skip
  cases h
  exact⟨by assumption,by rw[← hn]; assumption⟩
 ·simp only[RM.old] at h
  split at h <;> first | (cases h; done) | skip
  rename_i hlt
  split at h <;> first | (cases h; done) | skip
  rename_i c el fr hh
  cases h
  exact⟨c,rfl,hlt,el,fr,hh⟩
theorem RM.Me {base:Base} {w:World} {b:Nat} {c:Array Value} {el:TypeId} {fr:_} (hb:b<base.n) (h:w.heap[b]?=some (.cells c el fr)) : (RM.old base w).cells b=some (c.toList.map (mq base.n)):=by
 simp only[RM.cells,RM.old,if_pos hb,h]
def mD (lo:Nat) : Value→AV
 | .agg cs=>.agg (cs.toList.map (mq lo))
 | v=>mq lo v
theorem Fe {ρ:Ren} {lo:Nat} (h:∀ c,c<lo→ρ c=some ⟨c,0,0,0⟩) : ∀ (vs:List Value),aD ρ (vs.map (mq lo)) vs
 | []=>.nil
 | v :: vs=>.cons _ _ _ _ (AX h v) (Fe h vs)
theorem Nc {ρ:Ren} {lo:Nat} (h:∀ c,c<lo→ρ c=some ⟨c,0,0,0⟩) (v:Value) : ag ρ (mD lo v) v:=by
 unfold mD
 split
 ·exact .agg _ _ (Fe h _)
 ·exact AX h v
theorem DR {ρ:Ren} {lo:Nat} (h:∀ c,c<lo→ρ c=some ⟨c,0,0,0⟩) : ∀ (vs:List Value),aD ρ (vs.map (mD lo)) vs
 | []=>.nil
 | v :: vs=>.cons _ _ _ _ (Nc h v) (DR h vs)
theorem dL.close {P:Program} {f:FuncId} {base:Base} {w:World} {us:Array Value} (hn:base.n=w.heap.size) (hi:base.inv w)
  (h:dL P f (us.toList.map (mD base.n)) (RM.old base w) fun v _=>v=Bo true) :
  Calls P f us w fun e w'=>e=.returned (.bool true)∧Below w.heap.size w w':=by
 have hr:=Nw (P:=P) hn hi
 refine((h.2 (EZ base.n) w us.toList (DR (fun c hc=>by simp only[EZ]; rw[if_pos hc]) _) hr)).mono fun e w' hR=>?_
 obtain⟨v',v,M',ρ',rfl,k1,k2,rfl⟩:=hR
 obtain⟨rfl,_⟩:=aB k2
 refine⟨rfl,k1.step.os,k1.step.tape,k1.step.output,k1.step.size,fun k hk=>k1.step.low k ?_⟩
 show k<base.n
 rw[hn]; exact hk
def oQ:Option TypeDesc→Bool
 | some .bool | some (.int _) | some .string | some (.slice _) | some (.struct _) | some (.array _ _)=>false
 | _=>true
inductive Fits (P:Program) (M:RM) : TypeId→List AV→Prop
 | bool (t:TypeId) (b:Bool) : P.underlying t=some .bool→Fits P M t [Bo b]
 | int (t:TypeId) (k:IntKind) (n:Int) : P.underlying t=some (.int k)→k.min≤n→n≤k.max→Fits P M t [N k n]
 | str (t:TypeId) (s:List UInt8) : P.underlying t=some .string→s.length≤reachBytes→Fits P M t [St s]
 | JY (t e:TypeId) : P.underlying t=some (.slice e)→Fits P M t [aJ]
 | emp (t e:TypeId) (b:Nat) : P.underlying t=some (.slice e)→Fits P M t [.emp b]
 | slc (t e:TypeId) (b o n c:Nat) (cs:List AV) : P.underlying t=some (.slice e)→b<M.next→n≤c→c * P.bytesOf e≤reachBytes→M.loads b o (n * P.cellsOf e)=some cs →
   (∀ i,i<n→Fits P M e ((cs.drop (i * P.cellsOf e)).take (P.cellsOf e)))→Fits P M t [.slc b o n (.ex c)]
 | struct (t:TypeId) (fs:Array Field) (cs:List AV) : P.underlying t=some (.struct fs)→cs.length=P.cellsOf t →
   (∀ (i:Nat) (f:Field),fs[i]?=some f→Fits P M f.type ((cs.drop f.offset).take (P.cellsOf f.type)))→Fits P M t cs
 | array (t e:TypeId) (n:Nat) (cs:List AV) : P.underlying t=some (.array n e)→cs.length=P.cellsOf t →
   (∀ i,i<n→Fits P M e ((cs.drop (i * P.cellsOf e)).take (P.cellsOf e)))→Fits P M t cs
 | other (t:TypeId) (cs:List AV) : oQ (P.underlying t)=true→Fits P M t cs
 | zero (t e:TypeId) (cs:List AV) : P.underlying t=some (.slice e)→P.cellsOf e=0→Fits P M t cs
theorem wN (a:Addr) : a.add 0=a:=by simp[Addr.add]
theorem qc {w:World} {base:Nat} {a:Addr} {n:Nat} {cs:List Value} (h:w.cells? base a n=some cs) : cs.length=n∧∀ i,i<n→w.cell? (a.add i)=cs[i]?:=by
 unfold World.cells? at h
 split at h
 ·exact⟨by simpa using mapM_some_length h,fun i hi=>mapM_some_get h i i (by simp[hi])⟩
 ·cases h
theorem cell?_at {w:World} {a:Addr} {v:Value} (h:w.cell? a=some v) : ∃ c el fr,w.heap[a.block]?=some (.cells c el fr)∧a.spot=none∧a.off<c.size∧c[a.off]?=some v:=by
 unfold World.cell? at h
 split at h
 ·rename_i c el fr hh
  split at h
  ·cases h
  ·rename_i hs
   exact⟨c,el,fr,hh,by simpa using hs,(Array.getElem?_eq_some_iff.1 h).1,h⟩
 ·cases h
section
variable {H:Type} {enc:TypeId × Value→H} {P:Program} {base:Base} {w:World}
theorem om {e:TypeId} {ds:List (DataW H)} {d:DataW H} (hd:d∈ds) {x:Nat} (hx:x∈d.weights P e) : x∈DataW.weightsAll P e ds:=by
 induction ds with
 | nil=>cases hd
 | cons y ys ih =>
   simp only[DataW.weightsAll,List.mem_append]
   rcases List.mem_cons.1 hd with rfl | hd
   ·exact .inl hx
   ·exact .inr (ih hd)
theorem sU {x:Nat} : ∀ (ts:List TypeId) (ds:List (DataW H)) (i:Nat) (t:TypeId) (d:DataW H),ts[i]?=some t→ds[i]?=some d→x∈d.weights P t→x∈DataW.weightsEach P ts ds
 | [],_,_,_,_,h,_,_=>by simp at h
 | _ :: _,[],_,_,_,_,h,_=>by simp at h
 | t :: ts,d :: ds,0,t',d',h,h',hx=>by
   simp at h h'; subst h h'
   simp only[DataW.weightsEach,List.mem_append]; exact .inl hx
 | t :: ts,d :: ds,i + 1,t',d',h,h',hx=>by
   simp only[DataW.weightsEach,List.mem_append]
   exact .inr (sU ts ds i t' d' (by simpa using h) (by simpa using h') hx)
theorem FH (hn:base.n=w.heap.size) {held:Bool} : ∀ (fuel:Nat) (t:TypeId) (cs:List Value) (x:DataW H × List MemPlace),DataW.trod enc P w 0 (fun _=>true) held fuel t cs=some x →
  (∀ y∈x.1.weights P t,y≤reachBytes)→Fits P (RM.old base w) t (cs.map (mq base.n)):=by
 intro fuel
 induction fuel with
 | zero=>intro t cs x h; simp[DataW.trod] at h
 | succ m ih =>
   intro t cs x h hw
   cases hu:P.underlying t with
   | none=>exact .other _ _ (by rw[hu]; rfl)
   | some d =>
     cases d with
     | bool =>
       obtain⟨b,rfl,rfl⟩:=DataW.trod_bool hu h
       exact .bool t b hu
     | int k =>
       obtain⟨n,rfl,rfl,hwf⟩:=DataW.trod_int hu h
       simp only[Lit.wf,Bool.and_eq_true,decide_eq_true_eq] at hwf
       exact .int t k n hu hwf.1 hwf.2
     | string =>
       obtain⟨s,rfl,rfl,_⟩:=DataW.trod_string hu h
       exact .str t s.data.toList hu (hw _ (by simp[DataW.weights]))
     | slice e =>
       rcases DataW.trod_slice hu h with⟨rfl,rfl⟩ | ⟨a,len,cap,elems,rest,n,hm,rfl,rfl,_,hlc,_,hel,hget,hrest,_⟩
       ·exact .JY t e hu
       ·cases hm
        rcases Nat.eq_zero_or_pos (P.cellsOf e) with hz | hz
        ·exact .zero t e _ hu hz
        rcases Nat.eq_zero_or_pos cap with hc | hc
        ·have hl0:len=0:=by omega
         subst hc hl0
         exact .emp t e 0 hu
        ·obtain⟨hr1,hr2⟩:=hrest rfl
         have every:∀ i,i<cap→∃ es y,w.cells? 0 (a.add (i * P.cellsOf e)) (P.cellsOf e)=some es∧DataW.trod enc P w 0 (fun _=>true) held m e es=some y∧(y∈elems∨y∈rest):=by
          intro i hi
          by_cases hil:i<len
          ·have h1:=hget i hil
           have h2:elems[i]?=some (elems[i]'(by omega)):=by simp[hel,hil]
           rw[h2] at h1
           obtain⟨es,e1,e2⟩:=Option.bind_eq_some_iff.1 h1
           exact⟨es,_,e1,e2,.inl (List.getElem_mem _)⟩
          ·have h1:=hr2 (i - len) (by omega)
           rw[show len + (i - len)=i by omega] at h1
           have h2:rest[i - len]?=some (rest[i - len]'(by omega)):=by
            rw[List.getElem?_eq_getElem]
           rw[h2] at h1
           obtain⟨es,e1,e2⟩:=Option.bind_eq_some_iff.1 h1
           exact⟨es,_,e1,e2,.inr (List.getElem_mem _)⟩
         obtain⟨es0,_,k0,_,_⟩:=every 0 hc
         obtain⟨kl0,kg0⟩:=qc k0
         have hc0:=kg0 0 hz
         rw[List.getElem?_eq_getElem (by omega)] at hc0
         obtain⟨c,el,fr,hh,hsp,_,_⟩:=cell?_at hc0
         obtain⟨b,o,sp⟩:=a
         rw[Nat.zero_mul,wN,wN] at hh hsp
         simp only at hh hsp
         subst hsp
         have hblt:b<base.n:=by rw[hn]; exact(Array.getElem?_eq_some_iff.1 hh).1
         have hlast:o + cap * P.cellsOf e≤c.size:=by
          obtain⟨es1,_,k1,_,_⟩:=every (cap - 1) (by omega)
          obtain⟨kl1,kg1⟩:=qc k1
          have hc1:=kg1 (P.cellsOf e - 1) (by omega)
          rw[List.getElem?_eq_getElem (by omega)] at hc1
          obtain⟨c',el',fr',hh',_,hlt,_⟩:=cell?_at hc1
          rw[dh,dh] at hh' hlt
          simp only at hh' hlt
          rw[hh] at hh'
          cases hh'
          have:cap * P.cellsOf e=(cap - 1) * P.cellsOf e + P.cellsOf e:=by
           rw[← Nat.succ_mul]; congr 1; omega
          omega
         have Ue:mq base.n (.slice (some ⟨b,o,none⟩) len cap)=.slc b o len (.ex cap):=by
          obtain⟨cap,rfl⟩ : ∃ k,cap=k + 1:=⟨cap - 1,by omega⟩
          simp only[mq,if_pos hblt]
         have hcells:=RM.Me hblt hh
         have hle:len * P.cellsOf e≤cap * P.cellsOf e:=Nat.mul_le_mul_right _ hlc
         have hload:(RM.old base w).loads b o (len * P.cellsOf e)=some (((c.toList.map (mq base.n)).drop o).take (len * P.cellsOf e)):=by
          simp only[RM.loads,hcells]
          rw[if_pos (by simp; omega)]
         simp only[List.map_cons,List.map_nil,Ue]
         refine .slc t e b o len cap _ hu hblt hlc ?_ hload fun i hi=>?_
         ·have:=hw ((elems.length + rest.length) * P.bytesOf e) (by simp[DataW.weights,hu])
          rwa [hel,hr1,show len + (cap - len)=cap by omega] at this
         ·obtain⟨es,y,k1,k2,k3⟩:=every i (by omega)
          have hlen:=(qc k1).1
          have hes:((((c.toList.map (mq base.n)).drop o).take (len * P.cellsOf e)).drop (i * P.cellsOf e)).take (P.cellsOf e)=es.map (mq base.n):=by
           have hii:i * P.cellsOf e + P.cellsOf e≤len * P.cellsOf e:=by rw[← Nat.succ_mul]; exact Nat.mul_le_mul_right _ hi
           apply List.ext_getElem?
           intro j
           by_cases hj:j<P.cellsOf e
           ·have hg:=(qc k1).2 j hj
            rw[List.getElem?_take,if_pos hj,List.getElem?_drop,List.getElem?_take,if_pos (by omega),List.getElem?_drop,List.getElem?_map,List.getElem?_map,← hg]
            rw[dh,dh]
            simp only[World.cell?,hh]
            rw[Array.getElem?_toList]
            simp[Nat.add_assoc]
           ·rw[List.getElem?_eq_none (by simp; omega),List.getElem?_eq_none (by simp; omega)]
          rw[hes]
          refine ih e es y k2 fun z hz=>hw z ?_
          simp only[DataW.weights,hu,List.mem_cons,List.mem_append]
          rcases k3 with k3 | k3
          ·exact .inr (.inl (om (List.mem_map_of_mem k3) hz))
          ·exact .inr (.inr (om (List.mem_map_of_mem k3) hz))
     | struct fs =>
       obtain⟨xs,n,hm,rfl,hl,hxl,hget⟩:=DataW.trod_struct hu h
       cases hm
       refine .struct t fs _ hu (by simpa using hl) fun i f hf=>?_
       have h1:=hget i f hf
       have hi:i<fs.size:=(Array.getElem?_eq_some_iff.1 hf).1
       rw[List.getElem?_eq_getElem (by omega)] at h1
       rw[← List.map_drop,← List.map_take]
       refine ih _ _ _ h1 fun z hz=>hw z ?_
       simp only[DataW.weights,hu]
       refine sU _ _ i f.type _ (by simp[hf]) (by rw[List.getElem?_map,List.getElem?_eq_getElem (by omega)]; rfl) hz
     | array n e =>
       obtain⟨xs,m',hm,rfl,hl,hxl,hget⟩:=DataW.trod_array hu h
       cases hm
       refine .array t e n _ hu (by simpa using hl) fun i hi=>?_
       have h1:=hget i hi
       rw[List.getElem?_eq_getElem (by omega)] at h1
       rw[← List.map_drop,← List.map_take]
       refine ih _ _ _ h1 fun z hz=>hw z ?_
       simp only[DataW.weights,hu]
       exact om (List.mem_map_of_mem (List.getElem_mem _)) hz
     | _=>exact .other _ _ (by rw[hu]; rfl)
end
section
variable {P:Program} {M:RM} {t:TypeId} {cs:List AV}
theorem Fits.ML (h:Fits P M t cs) (hu:P.underlying t=some .bool) : ∃ b,cs=[Bo b]:=by
 cases h <;> simp_all [oQ]
theorem Fits.Iq (h:Fits P M t cs) {k:IntKind} (hu:P.underlying t=some (.int k)) : ∃ n:Int,cs=[N k n]∧k.min≤n∧n≤k.max:=by
 cases h with
 | int _ k' n h1 h2 h3=>rw[hu] at h1; cases h1; exact⟨n,rfl,h2,h3⟩
 | _=>simp_all [oQ]
theorem Fits.yQ (h:Fits P M t cs) (hu:P.underlying t=some .string) : ∃ s,cs=[St s]∧s.length≤reachBytes:=by
 cases h with
 | str _ s h1 h2=>exact⟨s,rfl,h2⟩
 | _=>simp_all [oQ]
theorem Fits.Bg (h:Fits P M t cs) {fs:Array Field} (hu:P.underlying t=some (.struct fs)) : cs.length=P.cellsOf t∧∀ (i:Nat) (f:Field),fs[i]?=some f→Fits P M f.type ((cs.drop f.offset).take (P.cellsOf f.type)):=by
 cases h with
 | struct _ fs' _ h1 h2 h3=>rw[hu] at h1; cases h1; exact⟨h2,h3⟩
 | _=>simp_all [oQ]
theorem Fits.yI (h:Fits P M t cs) {e:TypeId} (hu:P.underlying t=some (.slice e)) (hz:0<P.cellsOf e) :
  ∃ v n ds,cs=[v]∧aF M (P.cellsOf e) v ds n∧n * P.bytesOf e≤reachBytes∧∀ i,i<n→Fits P M e ((ds.drop (i * P.cellsOf e)).take (P.cellsOf e)):=by
 cases h with
 | JY _ e' h1=>exact⟨_,0,[],rfl,.nil,by simp,fun i hi=>absurd hi (by omega)⟩
 | emp _ e' b h1=>exact⟨_,0,[],rfl,.emp b,by simp,fun i hi=>absurd hi (by omega)⟩
 | slc _ e' b o n c ds h1 h2 h3 h4 h5 h6 =>
   rw[hu] at h1; cases h1
   exact⟨_,n,ds,rfl,.slc b o n _ ds h2 h5,Nat.le_trans (Nat.mul_le_mul_right _ h3) h4,h6⟩
 | zero _ e' _ h1 h2=>rw[hu] at h1; cases h1; omega
 | _=>simp_all [oQ]
theorem sP {α:Type} {size:Nat} (enc:α→List AV) (p:α→Prop) (hs:∀ a,(enc a).length=size) : ∀ (n:Nat) (ds:List AV),ds.length=n * size→(∀ i,i<n→∃ a,p a∧(ds.drop (i * size)).take size=enc a) →
  ∃ xs:List α,xs.length=n∧ds=xs.flatMap enc∧∀ x∈xs,p x
 | 0,ds,hl,_=>⟨[],rfl,by simpa using hl,by simp⟩
 | n + 1,ds,hl,h=>by
   obtain⟨a,pa,ha⟩:=h 0 (by omega)
   simp only[Nat.zero_mul,List.drop_zero] at ha
   have hl' : (ds.drop size).length=n * size:=by rw[List.length_drop,hl,Nat.succ_mul]; omega
   obtain⟨xs,h1,h2,h3⟩:=sP enc p hs n (ds.drop size) hl' fun i hi=>by
    obtain⟨b,pb,hb⟩:=h (i + 1) (by omega)
    refine⟨b,pb, ?_⟩
    rw[List.drop_drop,← hb,Nat.succ_mul,Nat.add_comm]
   refine⟨a :: xs,by simp[h1], ?_,fun x hx=>?_⟩
   ·rw[List.flatMap_cons,← h2,← ha,List.take_append_drop]
   ·rcases List.mem_cons.1 hx with rfl | hx
    ·exact pa
    ·exact h3 x hx
end
def xN (P:Program) (t:TypeId) : Bool :=
 match P.underlying t with
 | some (.struct _) | some (.array _ _)=>true
 | _=>false
def kT (P:Program) (M:RM) (t:TypeId) (v:AV) : Prop :=
 match xN P t with
 | true=>∃ cs,v=.agg cs∧Fits P M t cs
 | false=>Fits P M t [v]
theorem kT.agg {P:Program} {M:RM} {t:TypeId} {v:AV} (h:kT P M t v) (ha:xN P t=true) : ∃ cs,v=.agg cs∧Fits P M t cs:=by
 unfold kT at h; rw[ha] at h; exact h
theorem kT.one {P:Program} {M:RM} {t:TypeId} {v:AV} (h:kT P M t v) (ha:xN P t=false) : Fits P M t [v]:=by
 unfold kT at h; rw[ha] at h; exact h
section
variable {H:Type} {enc:TypeId × Value→H} {P:Program} {base:Base} {w:World}
theorem GL {r:Reach} {b:Nat} {t:TypeId} {cs:Array Value} (h:Cell.okWide P w r b t (.agg cs)) : False:=by
 unfold Cell.okWide at h
 split at h <;> first | (rename_i e _; cases e; done) | skip
 all_goals first | (rename_i e; cases e; done) | skip
 unfold Cell.ok at h
 split at h <;> first | exact h | simp_all
theorem Mt (hn:base.n=w.heap.size) {r:Reach} {b:Nat} {held:Bool} {t:TypeId} {v:Value} {d:DataW H} {ps:List MemPlace} (hv:Value.okWide P w r b t v) (h:DataW.Trod enc P w 0 (fun _=>true) held t v d ps)
  (hw:∀ y∈d.weights P t,y≤reachBytes) : kT P (RM.old base w) t (mD base.n v):=by
 obtain⟨fuel,hf⟩:=h
 have hfit:=FH hn fuel t _ _ hf hw
 unfold kT
 cases ha:xN P t with
 | true =>
   have:∃ cs,v=.agg cs:=by
    unfold Value.okWide at hv
    unfold xN at ha
    split at hv
    ·obtain⟨cs,h,_⟩:=hv; exact⟨cs,h⟩
    ·obtain⟨cs,h,_⟩:=hv; exact⟨cs,h⟩
    ·split at ha <;> simp_all
   obtain⟨cs,rfl⟩:=this
   exact⟨_,rfl,hfit⟩
 | false =>
   have hc:Cell.okWide P w r b t v:=by
    unfold Value.okWide at hv
    unfold xN at ha
    split at hv
    ·simp_all
    ·simp_all
    ·exact hv
   have:v.cells.toList=[v]∧mD base.n v=mq base.n v:=by
    cases v with
    | agg cs=>exact(GL hc).elim
    | _=>exact⟨rfl,rfl⟩
   rw[this.1] at hfit
   rw[this.2]
   exact hfit
theorem Ga (hn:base.n=w.heap.size) {r:Reach} {b:Nat} {held:Bool} : ∀ {ts:List TypeId} {vs:List Value} {ds:List (DataW H)} {ps:List MemPlace},DataW.TrodAll enc P w 0 (fun _=>true) held ts vs ds ps →
  (∀ (j:Nat) t v,ts[j]?=some t→vs[j]?=some v→Value.okWide P w r b t v)→(∀ y∈DataW.weightsEach P ts ds,y≤reachBytes) →
  ∀ (j:Nat) t v,ts[j]?=some t→vs[j]?=some v→kT P (RM.old base w) t (mD base.n v)
 | [],_,_,_,_,_,_,j,t,v,h,_=>by simp at h
 | t0 :: ts,vs,ds,ps,h,hv,hw,j,t,v,hj,hvj=>by
   cases vs with
   | nil=>simp at hvj
   | cons v0 vs =>
   cases ds with
   | nil=>exact h.elim
   | cons d ds =>
   obtain⟨p,q,h1,h2,_⟩:=h
   cases j with
   | zero =>
     simp at hj hvj; subst hj hvj
     exact Mt hn (hv 0 _ _ rfl rfl) h1 fun y hy=>hw y (by simp[DataW.weightsEach,hy])
   | succ j =>
     exact Ga hn h2 (fun j t v a b=>hv (j + 1) t v (by simpa using a) (by simpa using b)) (fun y hy=>hw y (by simp[DataW.weightsEach,hy])) j t v (by simpa using hj) (by simpa using hvj)
theorem wF (hl:laidOutB P=true) {W W' : World} {sp:Nat→Bool} (hb:Below W.heap.size W W') : ∀ {ts:List TypeId} {vs:List Value} {ds:List (DataW H)} {ps:List MemPlace},
  (∀ t∈ts,P.readableRec t=true∧t<P.types.size)→DataW.TrodAll enc P W 0 (fun _=>true) true ts vs ds ps→(∀ p∈ps,p.block<W.heap.size)→(∀ p∈ps,sp p.block=true)→DataW.TrodAll enc P W' 0 sp true ts vs ds ps
 | [],vs,ds,ps,_,h,_,_=>by
   cases vs <;> cases ds <;> first | exact h | exact h.elim
 | t :: ts,vs,ds,ps,hr,h,hlt,hsp=>by
   cases vs with
   | nil=>cases ds <;> exact h.elim
   | cons v vs =>
   cases ds with
   | nil=>exact h.elim
   | cons d ds =>
   obtain⟨p,q,h1,h2,rfl⟩:=h
   have hrt:=hr t (List.mem_cons_self ..)
   exact⟨p,q,WideElems.Trod_stays hl hrt.1 hrt.2 h1 (fun x hx=>hb.same (hlt x (List.mem_append_left _ hx))) (fun x hx=>hsp x (List.mem_append_left _ hx)),
    wF hl hb (fun t ht=>hr t (List.mem_cons_of_mem _ ht)) h2 (fun x hx=>hlt x (List.mem_append_right _ hx)) (fun x hx=>hsp x (List.mem_append_right _ hx)),rfl⟩
end
def RB.cells (lo:Nat) : RB→Option (List AV)
 | .row l _ _ _=>some l
 | .ro c=>some (c.toList.map (mq lo))
 | _=>none
@[go_sem] theorem RB.sV (lo:Nat) (l:List AV) (p:Bool) (e f:Nat) : RB.cells lo (.row l p e f)=some l:=rfl
theorem RM.qP (M:RM) (b:Nat) : M.cells b=(M.heap b).bind (RB.cells M.lo):=by
 unfold RM.cells RB.cells
 cases M.heap b with
 | none=>rfl
 | some x=>cases x <;> rfl
def qY (l:Option (List AV)) (o k:Nat) : Option (List AV) :=
 match l with
 | some l=>if o + k≤l.length then some ((l.drop o).take k) else none
 | none=>none
@[go_sem] theorem QR (l:List AV) (o k:Nat) : qY (some l) o k=if o + k≤l.length then some ((l.drop o).take k) else none:=rfl
theorem RM.zZ (M:RM) (b o k:Nat) : M.loads b o k=qY (M.cells b) o k:=rfl
section
variable {M M' : RM}
@[go_sem] theorem RM.L6 (x:RB) (c:Nat) : (M.push x).heap c=if c=M.next then some x else M.heap c:=rfl
@[go_sem] theorem RM.heap_put (b:Nat) (x:RB) (c:Nat) : (M.put b x).heap c=if c=b then some x else M.heap c:=rfl
@[go_sem] theorem RM.Ui (b:Nat) (c:Nat) : (M.del b).heap c=if c=b then none else M.heap c:=rfl
@[go_sem] theorem RM.Sd (x:RB) : (M.push x).base=M.base:=rfl
@[go_sem] theorem RM.Um (b:Nat) (x:RB) : (M.put b x).base=M.base:=rfl
@[go_sem] theorem RM.SH (b:Nat) : (M.del b).base=M.base:=rfl
theorem RM.Cc (x:RB) (c:Nat) : (M.push x).cells c=if c=M.next then x.cells M.lo else M.cells c:=by
 simp only[RM.qP,RM.L6]
 split <;> rfl
theorem RM.Em (b:Nat) (x:RB) (c:Nat) : (M.put b x).cells c=if c=b then x.cells M.lo else M.cells c:=by
 simp only[RM.qP,RM.heap_put]
 split <;> rfl
@[go_sem] theorem RM.Sb (x:RB) (c o:Nat) : (M.push x).cell c o=if c=M.next then(x.cells M.lo).bind (·[o]?) else M.cell c o:=by
 simp only[RM.cell,RM.Cc]
 split <;> rfl
@[go_sem] theorem RM.SC (b:Nat) (x:RB) (c o:Nat) : (M.put b x).cell c o=if c=b then(x.cells M.lo).bind (·[o]?) else M.cell c o:=by
 simp only[RM.cell,RM.Em]
 split <;> rfl
@[go_sem] theorem RM.RL (x:RB) (c o k:Nat) : (M.push x).loads c o k=if c=M.next then qY (x.cells M.lo) o k else M.loads c o k:=by
 simp only[RM.zZ,RM.Cc]
 split <;> rfl
@[go_sem] theorem RM.RZ (b:Nat) (x:RB) (c o k:Nat) : (M.put b x).loads c o k=if c=b then qY (x.cells M.lo) o k else M.loads c o k:=by
 simp only[RM.zZ,RM.Em]
 split <;> rfl
def kQ (l:List AV) (fz o:Nat) (vs:List AV) : Option (List AV) :=
 if o + vs.length≤l.length∧fz≤o∧vs.all oneCell=true then some (l.take o++vs++l.drop (o + vs.length)) else none
theorem rZ {l vs:List AV} {fz o:Nat} (h1:o + vs.length≤l.length) (h2:fz≤o) (h3:vs.all oneCell=true) : kQ l fz o vs=some (l.take o++vs++l.drop (o + vs.length)):=if_pos ⟨h1,h2,h3⟩
@[go_sem] theorem EA {l vs:List AV} (h:vs.length=l.length) (h3:vs.all oneCell=true) : kQ l 0 0 vs=some vs:=by
 rw[rZ (by omega) (Nat.le_refl _) h3]
 simp[h]
theorem RM.tu {b o:Nat} {vs l:List AV} {p:Bool} {e f:Nat} (h:M.heap b=some (.row l p e f)) : M.stores b o vs=(kQ l f o vs).map fun l'=>M.put b (.row l' p e f):=by
 simp only[RM.stores,h,kQ]
 split <;> rfl
theorem RM.NN {x y:RB} : (M.push x).put M.next y=M.push y:=by
 simp only[RM.put,RM.push]
 congr 1
 funext c
 split <;> rfl
theorem RM.Fy {x y:RB} {b:Nat} (hb:b≠M.next) : (M.push x).put b y=(M.put b y).push x:=by
 simp only[RM.put,RM.push]
 congr 1
 funext c
 by_cases h1:c=b
 ·subst h1; simp[hb]
 ·simp[h1]
theorem RM.BK {l vs:List AV} {p:Bool} {e f o:Nat} : (M.push (.row l p e f)).stores M.next o vs=(kQ l f o vs).map fun l'=>M.push (.row l' p e f):=by
 rw[RM.tu (RM.mo _)]
 congr 1
 funext l'
 exact RM.NN
theorem RM.Bp {M:RM} {b o:Nat} {vs:List AV} : M.stores b o vs=match M.heap b with
  | some (.row l p e f)=>(kQ l f o vs).map fun l'=>M.put b (.row l' p e f)
  | _=>none:=by
 cases h:M.heap b with
 | none=>simp[RM.stores,h]
 | some x =>
   cases x with
   | row l p e f=>rw[RM.tu h]
   | _=>simp[RM.stores,h]
@[go_sem] theorem RM.Ci {x:RB} {vs:List AV} {c o:Nat} (hc:c≠M.next) : (M.push x).stores c o vs=(M.stores c o vs).map (·.push x):=by
 rw[RM.Bp,RM.Bp,RM.MZ hc]
 split
 ·simp only[Option.map_map]
  congr 1
  funext l'
  exact RM.Fy hc
 ·rfl
@[go_sem] theorem RM.QU {l vs:List AV} {p:Bool} {e f c o:Nat} : (M.push (.row l p e f)).stores c o vs =
  if c=M.next then(kQ l f o vs).map fun l'=>M.push (.row l' p e f) else(M.stores c o vs).map (·.push (.row l p e f)):=by
 split
 ·rename_i h; subst h; exact RM.BK
 ·rename_i h; exact RM.Ci h
@[go_sem] theorem RM.N8 {b o:Nat} {l vs:List AV} {p:Bool} {e f:Nat} : (M.put b (.row l p e f)).stores b o vs=(kQ l f o vs).map fun l'=>M.put b (.row l' p e f):=by
 rw[RM.tu (RM.Am _ _)]
 congr 1
 funext l'
 simp only[RM.put]
 congr 1
 funext c
 split <;> rfl
@[go_sem] theorem Dm {α:Type} (a:α) (K:α→Prop) : (∃ x,some a=some x∧K x)=K a:=by simp
@[go_sem] theorem QV {α β:Type} (f:α→β) (x:α) : (some x).map f=some (f x):=rfl
attribute [go_sem] Int.natCast_nonneg Int.toNat_natCast Nat.mul_one true_implies false_implies Bool.false_eq_true Bool.true_eq_false Bool.not_true Bool.not_false Bool.and_self Bool.and_true Bool.true_and Nat.le_refl List.append_nil List.nil_append if_true if_false Nat.lt_irrefl Nat.add_one_ne_zero true_and and_true Nat.zero_add Nat.add_zero List.drop_zero List.getElem?_cons_zero List.getElem?_cons_succ Option.bind_some List.take_succ_cons List.take_zero List.drop_succ_cons List.drop_nil List.take_nil
attribute [go_sem] nW List.all_cons List.all_nil List.length_cons List.length_nil
@[go_sem] theorem Sw (cs:List AV) : (AV.agg cs).cells=cs:=rfl
@[go_sem] theorem SX (v:Value) : (AV.sc v).cells=[.sc v]:=rfl
@[go_sem] theorem Sv (b o:Nat) : (AV.ptr b o).cells=[.ptr b o]:=rfl
@[go_sem] theorem Sc (b o n:Nat) (c:Cap) : (AV.slc b o n c).cells=[.slc b o n c]:=rfl
@[go_sem] theorem Sq (b:Nat) : (AV.emp b).cells=[.emp b]:=rfl
@[go_sem] theorem Sr (b:Nat) : (AV.map b).cells=[.map b]:=rfl
@[go_sem] theorem Tv (f:Fn) (xs ys:List AV) : (AV.fn f xs ys).cells=[.fn f xs ys]:=rfl
@[go_sem] theorem Uz (v:Value) : oneCell (.sc v)=true:=rfl
@[go_sem] theorem Uw (b o:Nat) : oneCell (.ptr b o)=true:=rfl
@[go_sem] theorem Uv (b o n:Nat) (c:Cap) : oneCell (.slc b o n c)=true:=rfl
@[go_sem] theorem Ux (b:Nat) : oneCell (.emp b)=true:=rfl
@[go_sem] theorem Uy (b:Nat) : oneCell (.map b)=true:=rfl
@[go_sem] theorem UD (f:Fn) (xs ys:List AV) : oneCell (.fn f xs ys)=true:=rfl
end
theorem RM.Mv {M:RM} {b:Nat} {l:List AV} {p:Bool} {e f:Nat} (h:M.heap b=some (.row l p e f)) (o k:Nat) : M.loads b o k=qY (some l) o k:=by rw[RM.zZ,RM.sV h]
theorem RM.cell_of {M:RM} {b:Nat} {l:List AV} {p:Bool} {e f:Nat} (h:M.heap b=some (.row l p e f)) (o:Nat) : M.cell b o=l[o]?:=RM.Nz h
theorem RM.xI {M:RM} {b:Nat} {l:List AV} {p:Bool} {e f:Nat} (h:M.heap b=some (.row l p e f)) (o:Nat) (vs:List AV) : M.stores b o vs=(kQ l f o vs).map fun l'=>M.put b (.row l' p e f):=RM.tu h
theorem ae.aO {bs:List Nat} {M M' : RM} (h:ae bs M M') {b:Nat} {x:RB} (hh:M.heap b=some x) (hlt:b<M.next) (hb:b ∉ bs) : M'.heap b=some x:=by rw[h.heap b hlt hb,hh]
inductive UE where
 | val (v:AV)
 | rows (n:Nat) (v:AV) (bs:List (Nat × fZ)) (n' : Nat)
structure Qv where
 args:List AV
 fp:List (Nat × fZ):=[]
 dead:List Nat:=[]
 nx:Nat:=0
 ans:UE
def LM:Tree fZ→List (Nat × fZ)→Tree fZ
 | t,[]=>t
 | t,(b,x) :: r=>LM (t.set b x) r
def L9:Tree fZ→List Nat→Tree fZ
 | t,[]=>t
 | t,b :: r=>L9 (t.del b) r
def IG (A:AW) : List (Nat × fZ)→Bool
 | []=>true
 | (b,x) :: r=>match A.heap.get b with
   | some y=>Rf x y && IG A r
   | none=>false
def TK (A:AW) (e:Qv) : Option (AV × AW) :=
 match IG A e.fp with
 | false=>none
 | true=>match e.ans with
   | .val v=>some (v,A)
   | .rows n v bs n'=>match Nat.beq n A.next with
     | true=>some (v,{ next:=n',heap:=LM (L9 A.heap e.dead) bs })
     | false=>none
abbrev Table:=List (Nat × List Qv)
section
variable {P:Program} {X:Ext}
def Rx (P:Program) (I:World→Prop) (f:Nat) (e:Qv) : Prop :=
 ∀ (base:Base),(∀ w,base.inv w→I w)→∀ A v A',TK A e=some (v,A')→∀ (ρ:Ren) (w:World) (us:List Value),aD ρ e.args us→bE P base ρ A w→base≤w.heap.size →
   Calls P f ⟨us⟩ w fun r w'=>∃ ρ' v',r=.returned v'∧Step base A.next ρ w ρ' w'∧bE P base ρ' A' w'∧A.next≤A'.next∧ag ρ' v v'
def Ob (P:Program) (I:World→Prop) (T:Table) : Prop:=∀ g∈T,∀ e∈g.2,Rx P I g.1 e
theorem bE.none {P:Program} {base:Base} {n:Nat} {w:World} (hi:base.inv w) : bE P base (fun _=>none) { next:=n,heap:=.leaf } w :=
 ⟨fun _ _ h=>(by cases h),fun _ _ _ h=>(by cases h),fun _ _ _ _ _ _ h=>(by cases h),fun _ _ h=>(by simp[Tree.get] at h),fun _ _ _ h=>(by cases h),hi⟩
def only(ρ:Ren) (ks:List Nat) : Ren:=fun b=>if b∈ks then ρ b else none
theorem Ob.nil {I:World→Prop} : Ob P I []:=fun g hg=>by cases hg
open Go.WideShapes Go.ChangeShapes in
open Go.WideShapes Go.ChangeShapes in
end
structure Enc (α:Type) where
 size:Nat
 cells:α→List AV
 len:∀ a,(cells a).length=size
 one:∀ a,(cells a).all oneCell=true
section
variable {α:Type} (E:Enc α)
def Enc.row (xs:List α) : List AV:=xs.flatMap E.cells
theorem Enc.O9:E.row []=[]:=rfl
theorem Enc.kN (x:α) (xs:List α) : E.row (x :: xs)=E.cells x++E.row xs:=rfl
theorem Enc.nG (xs ys:List α) : E.row (xs++ys)=E.row xs++E.row ys:=by simp[Enc.row]
theorem Enc.row_one (x:α) : E.row [x]=E.cells x:=by simp[Enc.row]
theorem Enc.fH:∀ (xs:List α),(E.row xs).length=xs.length * E.size
 | []=>by simp[Enc.row]
 | x :: xs=>by rw[Enc.kN,List.length_append,E.len,Enc.fH xs,List.length_cons,Nat.succ_mul,Nat.add_comm]
theorem Enc.qC:∀ (xs:List α),(E.row xs).all oneCell=true
 | []=>by simp[Enc.row]
 | x :: xs=>by rw[Enc.kN,List.all_append,E.one,Enc.qC xs]; rfl
theorem Enc.vF:∀ (xs:List α) (i:Nat),(E.row xs).drop (i * E.size)=E.row (xs.drop i)
 | [],i=>by simp[Enc.row]
 | x :: xs,0=>by simp
 | x :: xs,i + 1=>by
   rw[Enc.kN,Nat.succ_mul,Nat.add_comm,← List.drop_drop,List.drop_left' (E.len x),Enc.vF xs i]
   rfl
theorem Enc.AB:∀ (xs:List α) (i:Nat),(E.row xs).take (i * E.size)=E.row (xs.take i)
 | [],i=>by simp[Enc.row]
 | x :: xs,0=>by simp[Enc.row]
 | x :: xs,i + 1=>by
   rw[Enc.kN,Nat.succ_mul,Nat.add_comm,List.take_append,List.take_of_length_le (by rw[E.len]; omega),E.len,Nat.add_sub_cancel_left,Enc.AB xs i]
   rfl
theorem Enc.CX {xs:List α} {i:Nat} (hi:i<xs.length) : ((E.row xs).drop (i * E.size)).take E.size=E.cells xs[i]:=by
 rw[Enc.vF,List.drop_eq_getElem_cons hi,Enc.kN]
 rw[List.take_append_of_le_length (by rw[E.len]; exact Nat.le_refl _),List.take_of_length_le (by rw[E.len]; exact Nat.le_refl _)]
abbrev Sl (M:RM) (v:AV) (xs:List α) : Prop:=aF M E.size v (E.row xs) xs.length
abbrev Ow (M:RM) (base el:Nat) (v:AV) (xs:List α) : Prop:=Own M base el E.size v (E.row xs) xs.length
variable {E} {M M' : RM} {v:AV} {xs:List α}
theorem Sl.elem (h:Sl E M v xs) {i:Nat} (hi:i<xs.length) : ∃ b o,b<M.next∧b∈aP v∧(∀ (kd:IntKind) (K:AV→Prop),dO v (N kd (i:Int)) E.size K=K (.ptr b o))∧M.loads b o E.size=some (E.cells xs[i]):=by
 obtain⟨b,o,cap,rfl,hb,hl⟩:=h.pos (by omega)
 have hsum:i * E.size + E.size≤xs.length * E.size:=by rw[← Nat.succ_mul]; exact Nat.mul_le_mul_right _ hi
 refine⟨b,o + i * E.size,hb,by simp[aP],fun kd K=>?_, ?_⟩
 ·rw[rH]
  simp only[Int.toNat_natCast]
  exact propext ⟨fun h=>h.2.2,fun h=>⟨by omega,by omega,h⟩⟩
 ·rw[sW hl (i * E.size) E.size hsum,E.CX hi]
theorem Sl.at (h:Sl E M v xs) {i:Nat} (sz:Nat) (j:Int) (hi:i<xs.length) (hsz:E.size=sz:=by rfl) (hj:j=(i:Int):=by rfl) : ∃ b o,b<M.next∧b∈aP v∧(∀ (kd:IntKind) (K:AV→Prop),dO v (N kd j) sz K=K (.ptr b o))∧M.loads b o sz=some (E.cells xs[i]):=by
 subst hsz hj; exact h.elem hi
theorem EE {b o k:Nat} {cs:List AV} (h:M.loads b o k=some cs) {j:Nat} {x:AV} (hj:cs[j]?=some x) : M.cell b (o + j)=some x:=by
 have hlt:j<k:=by rw[← D9 h]; exact(List.getElem?_eq_some_iff.1 hj).1
 rw[La h j hlt,hj]
theorem DI {b o k:Nat} {cs:List AV} (h:M.loads b o k=some cs) {x:AV} (hj:cs[0]?=some x) : M.cell b o=some x:=EE h hj
theorem mF {base T bytes:Nat} {zs:List AV} {u:AV} {ys:List α} {K:ah} (ho:Ow E M base T v xs) (hb:base≤M.next) (hs:1≤E.size) (hu:Sl E M u ys)
  (hn:(xs.length + ys.length) * bytes≤140737488355328) (hn2:xs.length + ys.length≤140737488355328)
  (hK:∀ v' M',Ow E M' base T v' (xs++ys)→ae (aP v) M M'→M.next≤M'.next→(v'=v∨∀ b∈aP v',M.next≤b)→K v' M') :
  appW T E.size bytes zs false v u M K:=by
 refine yL ho hb hs (aF.ni hu _) (E.fH ys) (E.qC ys) hn hn2 ?_
 intro v' M' h1 h2 h3 h4
 refine hK v' M' ?_ h2 h3 h4
 rw[← E.nG] at h1
 simpa [Ow] using h1
theorem Sl.new {T c:Nat} {p:Bool} (ys:List α) : Sl E (M.push (.row (E.row ys) p T 0)) (.slc M.next 0 ys.length (.ex c)) ys :=
 .slc _ _ _ _ _ (by simp[RM.push]) (by rw[RM.gU (RM.mo _) (by rw[E.fH]; omega),List.drop_zero,← E.fH,List.take_length])
theorem zD {base T bytes:Nat} {zs:List AV} {a:α} {K:ah} (ho:Ow E M base T v xs) (hb:base≤M.next) (hs:1≤E.size)
  (hn:(xs.length + 1) * bytes≤140737488355328) (hn2:xs.length + 1≤140737488355328)
  (hK:∀ v' M',Ow E M' base T v' (xs++[a])→ae (aP v) M M'→M.next≤M'.next→(v'=v∨∀ b∈aP v',M.next≤b)→K v' M') :
  appW T E.size bytes zs false v (.slc M.next 0 1 (.ex 1)) (M.push (.row (E.cells a) false T 0)) K:=by
 have hk:ae [] M (M.push (.row (E.cells a) false T 0)):=(ae.refl _ _).push _
 refine mF (ys:=[a]) (Own.keep ho hk (by simp)) (Nat.le_trans hb hk.next) hs (by rw[← E.row_one]; exact Sl.new [a]) hn hn2 ?_
 intro v' M' h1 h2 h3 h4
 exact hK v' M' h1 ((hk.mono (by simp)).trans h2) (Nat.le_trans hk.next h3) (h4.imp id fun h b hb=>Nat.le_trans hk.next (h b hb))
@[go_sem] theorem EH {T:Nat} {zs:List AV} {K:RB→(Nat→AV)→Prop} : dE T 0 zs [] K=K (.row [] false T 0) (fun b=>.slc b 0 0 (.ex 0)):=by
 apply propext; unfold dE
 constructor
 ·rintro⟨l,h,hk⟩; cases h; exact hk
 ·intro hk; exact⟨_,rfl,hk⟩
theorem zB {T size:Nat} {zs:List AV} {x:AV} {K:RB→(Nat→AV)→Prop} (h:x.cells.length=size) (h1:x.cells.all oneCell=true) (hz:zs.length=size) :
  dE T 1 zs [(0,size,x)] K=K (.row x.cells false T 0) (fun b=>.slc b 0 1 (.ex 1)):=by
 have:oC (cB zs 1) [(0,size,x)]=some x.cells:=by
  simp only[oC,cB,List.append_nil,h1,h,Nat.zero_add,hz,Nat.le_refl,and_self,if_true,List.take_zero,List.nil_append]
  rw[List.drop_of_length_le (by omega),List.append_nil]
 apply propext; unfold dE
 constructor
 ·rintro⟨l,h,hk⟩; rw[this] at h; cases h; exact hk
 ·intro hk; exact⟨_,this,hk⟩
theorem Ow.lit (E:Enc α) {T:Nat} (M:RM) : Ow E (M.push (.row [] false T 0)) M.next T (.slc M.next 0 0 (.ex 0)) []:=Own.lit M (Nat.le_refl _)
theorem vI {i:Nat} (h:i<9223372036854775807) : IntKind.wrap .i64 ((i:Int) + 1)=((i + 1:Nat) : Int):=by
 rw[gT (by omega) (by omega)]; rfl
end
@[go_sem] theorem Rj:bO [] [] []=some true:=rfl
@[go_sem] theorem Rp (ks:List Nat) (k:IntKind) (a b:Int) (xs ys:List AV) : bO (1 :: ks) (N k a :: xs) (N k b :: ys)=if a=b then bO ks xs ys else some false:=by
 simp only[bO,nJ,if_true]
 by_cases h:a=b
 ·simp[h]
 ·have:(a == b)=false:=by simp[h]
  simp[this,h]
@[go_sem] theorem Ro (ks:List Nat) (a b:List UInt8) (xs ys:List AV) : bO (2 :: ks) (St a :: xs) (St b :: ys)=if a=b then bO ks xs ys else some false:=by
 simp only[bO,nJ]
 by_cases h:a=b
 ·simp[h]
 ·have:(a == b)=false:=by simp[h]
  simp[this,h]
@[go_sem] theorem QT (ks:List Nat) (a b:Bool) (xs ys:List AV) : bO (3 :: ks) (Bo a :: xs) (Bo b :: ys)=if a=b then bO ks xs ys else some false:=by
 simp only[bO,nJ]
 by_cases h:a=b
 ·simp[h]
 ·have:(a == b)=false:=by simp[h]
  simp[this,h]
theorem dx (x:AV) (w:Bool) (f g:ah→Prop) (F G:AV→RM→ah→Prop) (k:ah) :
  aa x w f g (fun v M=>aa x w (F v M) (G v M) k)=aa x w (fun k'=>f fun v M=>F v M k') (fun k'=>g fun v M=>G v M k') k:=by
 unfold aa lJ
 split
 ·split <;> simp_all
 ·rfl
 ·rfl
theorem eG {body:(List AV→RM→Prop)→List AV→RM→Prop} {xs:List AV} {M:RM} (I:Nat→List AV→RM→Prop) (n:Nat) (h0:I n xs M)
  (hb:∀ (next:List AV→RM→Prop) m ys M',(∀ m' zs M'',m'<m→I m' zs M''→next zs M'')→I m ys M'→body next ys M') : gu body xs M :=
 ⟨I,n,h0,fun m ys M' hI=>hb _ m ys M' (fun m' zs M'' hlt h=>⟨m',hlt,h⟩) hI⟩
abbrev By (b:UInt8) : AV:=N .u8 (b.toNat:Int)
def BY:Enc UInt8:=⟨1,fun b=>[By b],fun _=>rfl,fun _=>rfl⟩
theorem Ch (s:List UInt8) : BY.row s=s.map By:=by
 induction s with
 | nil=>rfl
 | cons b s ih=>rw[Enc.kN,ih]; rfl
def nE:Enc (List UInt8):=⟨1,fun s=>[St s],fun _=>rfl,fun _=>rfl⟩
def INT:Enc Int:=⟨1,fun n=>[N .i64 n],fun _=>rfl,fun _=>rfl⟩
theorem Bv:∀ (s:List UInt8),bS byteOf (s.map By)=some s
 | []=>rfl
 | b :: s=>by
   simp only[List.map_cons,bS,byteOf,Bv s]
   simp
section
variable {α:Type} {E:Enc α} {M M' : RM} {v:AV} {xs:List α}
theorem Sl.str {s:List UInt8} (h:Sl BY M v s) {K:AV→Prop} : cz M v K=K (St s) :=
 Ho (aF.uU h (by rw[Ch]; exact Bv s))
structure Rw (E:Enc α) (M:RM) (b:Nat) (opn:Bool) (el:Nat) (xs:List α) : Prop where
 heap:M.heap b=some (.row (E.row xs) opn el 0)
 lt:b<M.next
theorem Rw.sl {b el:Nat} {p:Bool} {cap:Cap} (h:Rw E M b p el xs) : Sl E M (.slc b 0 xs.length cap) xs:=by
 refine .slc _ _ _ _ _ h.lt ?_
 rw[RM.gU h.heap (by rw[E.fH]; omega),List.drop_zero,← E.fH,List.take_length]
theorem Rw.keep {b el:Nat} {p:Bool} {bs:List Nat} (h:Rw E M b p el xs) (hk:ae bs M M') (hb:b ∉ bs) : Rw E M' b p el xs :=
 ⟨hk.aO h.heap h.lt hb,Nat.lt_of_lt_of_le h.lt hk.next⟩
theorem Rw.new {el:Nat} {p:Bool} (M:RM) (xs:List α) : Rw E (M.push (.row (E.row xs) p el 0)) M.next p el xs :=
 ⟨RM.mo _,by simp[RM.push]⟩
theorem Rw.load {b el:Nat} {p:Bool} (h:Rw E M b p el xs) {i:Nat} (hi:i<xs.length) : M.loads b (i * E.size) E.size=some (E.cells xs[i]):=by
 have hsum:i * E.size + E.size≤xs.length * E.size:=by rw[← Nat.succ_mul]; exact Nat.mul_le_mul_right _ hi
 rw[RM.gU h.heap (by rw[E.fH]; exact hsum),E.CX hi]
theorem Enc.OB (E:Enc α) {xs:List α} {i:Nat} (hi:i<xs.length) (x:α) : E.row (xs.set i x)=(E.row xs).take (i * E.size)++E.cells x++(E.row xs).drop (i * E.size + E.size):=by
 rw[E.AB,← Nat.succ_mul,E.vF,List.set_eq_take_append_cons_drop,if_pos hi,E.nG,E.kN,List.append_assoc]
theorem Rw.store {b el:Nat} {p:Bool} (h:Rw E M b p el xs) {i:Nat} (hi:i<xs.length) (x:α) :
  M.stores b (i * E.size) (E.cells x)=some (M.put b (.row (E.row (xs.set i x)) p el 0))∧Rw E (M.put b (.row (E.row (xs.set i x)) p el 0)) b p el (xs.set i x):=by
 have hsum:i * E.size + E.size≤xs.length * E.size:=by rw[← Nat.succ_mul]; exact Nat.mul_le_mul_right _ hi
 refine⟨?_,RM.Am _ _,h.lt⟩
 rw[RM.KC h.heap (by rw[E.len,E.fH]; exact hsum) (Nat.zero_le _) (E.one x),E.OB hi,E.len]
theorem Rw.aj {b el:Nat} {p:Bool} (h:Rw E M b p el xs) {i:Nat} (hi:i<xs.length) (hsz:E.size=1:=by rfl) {x:AV} (hx:E.cells xs[i]=[x]:=by rfl) : M.cell b i=some x:=by
 have:=h.load hi
 rw[hsz,Nat.mul_one] at this
 exact DI this (by rw[hx]; rfl)
theorem Rw.Mj {b el:Nat} {p:Bool} (h:Rw E M b p el xs) {i:Nat} (hi:i<xs.length) (x:α) (hsz:E.size=1:=by rfl) {u:AV} (hx:E.cells x=[u]:=by rfl) :
  M.stores b i [u]=some (M.put b (.row (E.row (xs.set i x)) p el 0))∧Rw E (M.put b (.row (E.row (xs.set i x)) p el 0)) b p el (xs.set i x):=by
 have:=h.store hi x
 rw[hsz,Nat.mul_one,hx] at this
 exact this
end
@[go_sem] theorem iB (el:Nat) (s:List UInt8) (K:RB→(Nat→AV)→Prop) : jI el (St s) K=K (.row (BY.row s) true el 0) (fun b=>.slc b 0 s.length (.op 1)):=by
 rw[Ch]
 apply propext; unfold jI
 constructor
 ·rintro⟨s',h,hk⟩; cases h; exact hk
 ·intro hk; exact⟨s,rfl,hk⟩
def bU (b:UInt8) : UInt8:=if 65≤b.toNat∧b.toNat≤90 then b + 32 else b
def low (s:List UInt8) : List UInt8:=s.map bU
def Ah (c:ai) : Prop:=∀ {M:RM} {s:List UInt8} {Q:ah},s.length<9223372036854775807→(∀ M',ae [] M M'→Q (St (low s)) M')→c [St s] M Q
def upTo (f:UInt8→UInt8) (i:Nat) (s:List UInt8) : List UInt8:=(s.take i).map f++s.drop i
theorem LK (f:UInt8→UInt8) (s:List UInt8) : upTo f 0 s=s:=by simp[upTo]
theorem MV (f:UInt8→UInt8) (s:List UInt8) : upTo f s.length s=s.map f:=by simp[upTo]
theorem FX (f:UInt8→UInt8) (i:Nat) (s:List UInt8) : (upTo f i s).length=s.length:=by
 simp[upTo]; omega
theorem F6 (f:UInt8→UInt8) {i:Nat} {s:List UInt8} (hi:i<s.length) : (upTo f i s)[i]?=some s[i]:=by
 simp only[upTo]
 rw[List.getElem?_append_right (by simp; omega)]
 simp
 rw[Nat.min_eq_left (by omega),Nat.sub_self,Nat.add_zero,List.getElem?_eq_getElem hi]
theorem Fz (f:UInt8→UInt8) {i:Nat} {s:List UInt8} (hi:i<s.length) : (upTo f i s).set i (f s[i])=upTo f (i + 1) s:=by
 simp only[upTo]
 have hl:((s.take i).map f).length=i:=by simp; omega
 rw[List.set_append_right _ _ (by omega),hl,Nat.sub_self,List.drop_eq_getElem_cons hi,List.set_cons_zero,List.take_succ_eq_append_getElem hi,List.map_append,List.append_assoc]
 rfl
theorem Lc (f:UInt8→UInt8) {i:Nat} {s:List UInt8} (hi:i<s.length) (h:f s[i]=s[i]) : upTo f (i + 1) s=upTo f i s:=by
 rw[← Fz f hi,h]
 apply List.ext_getElem?
 intro j
 rw[List.getElem?_set]
 split
 ·rename_i e; subst e
  rw[F6 f hi]; simp[FX,hi]
 ·rfl
theorem Cj (b:UInt8) : b.toNat<256:=b.toNat_lt
structure qL (n:Nat) (bs:List Nat) (M M' : RM) : Prop where
 base:M'.base=M.base
 next:M.next≤M'.next
 heap:∀ c,c<n→c ∉ bs→M'.heap c=M.heap c
theorem qL.refl (n:Nat) (bs:List Nat) (M:RM) : qL n bs M M:=⟨rfl,Nat.le_refl _,fun _ _ _=>rfl⟩
theorem qL.trans {n:Nat} {bs:List Nat} {M M1 M2:RM} (h:qL n bs M M1) (k:qL n bs M1 M2) : qL n bs M M2 :=
 ⟨k.base.trans h.base,Nat.le_trans h.next k.next,fun c h1 h2=>(k.heap c h1 h2).trans (h.heap c h1 h2)⟩
theorem ae.to {bs cs:List Nat} {n:Nat} {M M' : RM} (h:ae bs M M') (hn:n≤M.next) (hb:∀ b∈bs,n≤b∨b∈cs) : qL n cs M M' :=
 ⟨h.base,h.next,fun c h1 h2=>h.heap c (Nat.lt_of_lt_of_le h1 hn) (fun hm=>by rcases hb c hm with h3 | h3; omega; exact h2 h3)⟩
theorem Own.same {M M' : RM} {n el size n0:Nat} {v:AV} {cs:List AV} (h:Own M n0 el size v cs n) (hn:M'.next=M.next) (hb:∀ c∈aP v,M'.heap c=M.heap c) (hbase:M'.base=M.base) : Own M' n0 el size v cs n:=by
 cases h with
 | nil=>exact .nil
 | ex0 b o h1 h2 h3=>exact .ex0 b o h1 (by omega) (by simpa [RM.qP,hb b (by simp[aP]),RM.lo,hbase] using h3)
 | op b n cs h1 h2 h3 h4=>exact .op b n cs h1 (by omega) (by rw[hb b (by simp[aP]),h3]) h4
theorem Own.one {M:RM} {n el size n0:Nat} {v:AV} {cs:List AV} (h:Own M n0 el size v cs n) : oneCell v=true:=by
 cases h <;> rfl
theorem Own.cells {M:RM} {n el size n0:Nat} {v:AV} {cs:List AV} (h:Own M n0 el size v cs n) : v.cells=[v]:=by
 cases h <;> rfl
end Go.Ab
set_option maxRecDepth 10000
namespace Go.Ab.Vl
open Go Go.Ab
structure RV (TB T8 n0:Nat) (M:RM) (b:Nat) (xs:List UInt8) : Prop where
 lt:b<n0
 hn:n0≤M.next
 row:∃ addr buf,M.heap b=some (.row [addr,buf] false TB 0)∧(addr=.sc (.pointer none)∨addr=.ptr b 0)∧Ow BY M n0 T8 buf xs∧(xs=[]→buf=aJ)
theorem RV.new {TB T8 n0 b:Nat} {M:RM} (hh:M.heap b=some (.row [.sc (.pointer none),aJ] false TB 0)) (hb:b<n0) (hn:n0≤M.next) : RV TB T8 n0 M b [] :=
 ⟨hb,hn,_,_,hh,.inl rfl,.nil,fun _=>rfl⟩
theorem qy {s:List UInt8} {i:Nat} (hi:i<s.length) (kd:IntKind) (K:AV→Prop) : dZ (St s) (N kd (i:Int)) K=K (By s[i]):=by
 rw[Pf]
 apply propext
 constructor
 ·rintro⟨_,b,hb,hk⟩
  rw[Int.toNat_natCast,List.getElem?_eq_getElem hi] at hb
  cases hb; exact hk
 ·intro hk; exact⟨by omega,s[i],by rw[Int.toNat_natCast,List.getElem?_eq_getElem hi],hk⟩
def Pz (d:UInt8) : Prop:=d.toNat=92∨d.toNat=44∨d.toNat=59∨d.toNat=58
instance (d:UInt8) : Decidable (Pz d):=inferInstanceAs (Decidable (_∨_))
def UB (d:UInt8) : Prop:=d.toNat=110∨d.toNat=78
instance (d:UInt8) : Decidable (UB d):=inferInstanceAs (Decidable (_∨_))
def gD (c:ai) : Prop:=∀ {M:RM} {s:List UInt8} {x:UInt8} {Q:ah},Q (N .i64 (Lib.indexByte s x)) M→c [St s,By x] M Q
theorem DD (l:List UInt8) (x:UInt8) : (Lib.indexByte l x ≥ 0)↔x∈l:=by
 induction l with
 | nil=>simp[Lib.indexByte]
 | cons y ys ih =>
   simp only[Lib.indexByte]
   have:=Lib.indexByte_ge ys x
   by_cases h:y=x
   ·subst h; simp
   ·have hb:(y == x)=false:=by simpa using h
    have h' : ¬ x=y:=fun e=>h e.symm
    simp only[hb,List.mem_cons,h',false_or]
    rw[← ih]
    simp
    split <;> omega
def FU (x:UInt8) : List UInt8→List UInt8→Bool→List (List UInt8)
 | [],cur,_=>[cur]
 | c :: s,cur,odd=>if c=x∧odd=false then cur :: FU x s [] (decide (c.toNat=92) && !odd) else FU x s (cur++[c]) (decide (c.toNat=92) && !odd)
def parts (x:UInt8) (s:List UInt8) : List (List UInt8):=FU x s [] false
def GI (T:Nat) (c:ai) : Prop:=∀ {M:RM} {s:List UInt8} {x:UInt8} {Q:ah},s.length≤1000000→(∀ v M',Ow nE M' M.next T v (parts x s)→ae [] M M'→Q v M')→c [St s,By x] M Q
theorem iJ {s:List UInt8} {l h:Nat} (h1:l≤h) (h2:h≤s.length) (k1 k2:IntKind) : cZ (St s) (some (N k1 (l:Int))) (some (N k2 (h:Int)))=some (St ((s.drop l).take (h - l))):=by
 simp only[cZ,bnd]
 simp[h1,h2]
theorem fO {s:List UInt8} {l:Nat} (h1:l≤s.length) (k1:IntKind) : cZ (St s) (some (N k1 (l:Int))) none=some (St (s.drop l)):=by
 simp only[cZ,bnd]
 simp[h1]
 rw[List.take_of_length_le (by simp)]
set_option maxRecDepth 100000
def UC (n b0 b1 b2 b3:Nat) : Nat:=if Lib.decodeN n b0 b1 b2 b3=(65533,1) then 0 else(Lib.decodeN n b0 b1 b2 b3).2
section
variable {n b0 b1 b2 b3:Nat}
end
def bt (s:List UInt8) (i:Nat) : Nat:=(s.getD i 0).toNat
def rk (s:List UInt8) : Nat:=if s=[] then 0 else UC s.length (bt s 0) (bt s 1) (bt s 2) (bt s 3)
def acc (v0:Nat) (s:List UInt8) : Nat→Nat
 | 0=>v0
 | k + 1=>64 * acc v0 s k + bt s (k + 1) - 128
def Oi (f:(List AV→RM→Prop)→Prop) (g:List AV→RM→Prop) : Prop:=f g
theorem BO (f:(List AV→RM→Prop)→Prop) (g:List AV→RM→Prop) : dN f g=Oi f g:=rfl
theorem BH {H:(List AV→RM→Prop)→Prop} {G:List AV→RM→Prop} (P:List AV→RM→Prop) (hT:∀ xs M,P xs M→G xs M)
  (hH:∀ J:List AV→RM→Prop,(∀ xs M,P xs M→J xs M)→H J) : Oi H G:=hH G hT
theorem Aq {x:Int} (h : -9223372036854775808≤x) (k:x<9223372036854775808) : IntKind.wrap .i64 x=x:=gT (by omega) (by omega)
set_option maxRecDepth 10000
theorem OG {s:List UInt8} (h:s≠[]) {k:Nat} (hk:1≤k) : (s.drop k).length<s.length:=by
 have:=List.length_pos_iff.2 h
 simp; omega
def PU (s:List UInt8) : Bool:=if s=[] then true else if h:rk s=0 then false else PU (s.drop (rk s)) termination_by s.length decreasing_by exact OG (by assumption) (by omega)
theorem IU {n0 T8:Nat} {M:RM} {v:AV} {xs s:List UInt8} {K:AV→RM→Prop} (ho:Ow BY M n0 T8 v xs) (hn:n0≤M.next) (hl:xs.length + s.length≤140737488355328)
  (hK:∀ v' M',Ow BY M' n0 T8 v' (xs++s)→ae (aP v) M M'→K v' M') : appW T8 1 1 [N .u8 0] false v (St s) M K:=by
 have hnew:ni M 1 [N .u8 0] false (St s)=some (s.length,BY.row s):=by simp only[ni,Ch,if_true]
 refine yL ho hn (Nat.le_refl _) hnew (by rw[BY.fH]; rfl) (BY.qC s) (by omega) (by omega) fun v' M2 h2 k2 hnx2 hv=>hK v' M2 ?_ k2
 rw[← BY.nG] at h2
 show Own M2 n0 T8 1 v' (BY.row (xs++s)) (xs++s).length
 rw[List.length_append]; exact h2
theorem gQ {s:List UInt8} {h:Nat} (h2:h≤s.length) (k2:IntKind) : cZ (St s) none (some (N k2 (h:Int)))=some (St (s.take h)):=by
 have:=iJ (s:=s) (l:=0) (h:=h) (by omega) h2 .i64 k2
 rw[List.drop_zero,Nat.sub_zero] at this; exact this
def strip (s:List UInt8) : List UInt8:=if s.drop (s.length - 1)=[13] then s.take (s.length - 1) else s
def BD (c:ai) : Prop:=∀ {M:RM} {s:List UInt8} {Q:ah},Q (N .i64 (Lib.indexByte s 10)) M→c [St s,St [10]] M Q
def ES (c:ai) : Prop:=∀ {M:RM} {s:List UInt8} {Q:ah},s.length≤1000000000→Q (St (strip s)) M→c [St s,St [13]] M Q
def Dq (s:List UInt8) : Prop:=∀ b∈s,b.toNat≠10
theorem Dq.take {s:List UInt8} (h:Dq s) (n:Nat) : Dq (s.take n):=fun b hb=>h b (List.mem_of_mem_take hb)
theorem Dq.drop {s:List UInt8} (h:Dq s) (n:Nat) : Dq (s.drop n):=fun b hb=>h b (List.mem_of_mem_drop hb)
def GH (c:UInt8) : Bool:=(decide (32≤c.toNat) && decide (c.toNat≠127)) || decide (c.toNat=9)
def Qa (c:ai) : Prop:=∀ {M:RM} {x:UInt8} {Q:ah},Q (Bo (GH x)) M→c [By x] M Q
def bU (c:UInt8) : UInt8:=if 65≤c.toNat∧c.toNat≤90 then UInt8.ofNat (c.toNat + 32) else c
def Qb (c:ai) : Prop:=∀ {M:RM} {s:List UInt8} {Q:ah},s.length≤1000000000→(∀ M',ae [] M M'→Q (St (s.map bU)) M')→c [St s] M Q
theorem IX {s:List UInt8} {i:Nat} (hi:i<s.length) : ((s.take i).map bU).length=i:=by simp; omega
theorem MS {s:List UInt8} {i:Nat} (hi:i<s.length) (x:UInt8) : ((s.take i).map bU++s.drop i).set i x=(s.take i).map bU++x :: s.drop (i + 1):=by
 have hl:=IX hi
 rw[List.drop_eq_getElem_cons hi,List.set_append_right _ _ (by omega),hl,Nat.sub_self,List.set_cons_zero]
theorem Gv {s:List UInt8} {i:Nat} (hi:i<s.length) : (s.take (i + 1)).map bU++s.drop (i + 1)=(s.take i).map bU++bU s[i] :: s.drop (i + 1):=by
 rw[List.take_succ_eq_append_getElem hi,List.map_append,List.append_assoc]
 rfl
theorem Ou {s:List UInt8} {i:Nat} (hi:i<s.length) (h:i<((s.take i).map bU++s.drop i).length) : ((s.take i).map bU++s.drop i)[i]=s[i]:=by
 have hl:=IX hi
 rw[List.getElem_append_right (by omega)]
 simp only[hl,Nat.sub_self,List.getElem_drop,Nat.add_zero]
theorem CE {T8:Nat} : Qb fun args M Q=>∃ a0,args=[a0]∧wC T8 a0 M Q:=by
 intro M s Q hl hQ
 refine⟨_,rfl, ?_⟩
 unfold wC
 simp only[dx,aT,iB,kC]
 have hk1:ae [] M (M.push (.row (BY.row s) true T8 0)):=(ae.refl _ _).push _
 have hr1:Rw BY (M.push (.row (BY.row s) true T8 0)) M.next true T8 s:=Rw.new M s
 generalize M.push (.row (BY.row s) true T8 0)=M1 at *
 refine eG (fun m ys M3=>∃ i:Nat,m=s.length - i∧ys=[N .i64 i]∧i≤s.length∧Rw BY M3 M.next true T8 ((s.take i).map bU++s.drop i)∧ae [] M M3) _
  ⟨0,rfl,rfl,Nat.zero_le _,by simpa using hr1,hk1⟩ ?_
 rintro next m ys M3 hnext ⟨i,rfl,rfl,hi,hR,hK⟩
 simp only[go_sem]
 refine⟨fun hlt=>?_,fun hge=>?_⟩
 ·have hlt:i<s.length:=by simpa using hlt
  have hlen:i<((s.take i).map bU++s.drop i).length:=by simp; omega
  have hc:=hR.aj hlen
  have w1:=vI (show i<9223372036854775807 by omega)
  rw[Ou hlt hlen] at hc
  refine⟨by omega,_,hc, ?_⟩
  have same:bU s[i]=s[i]→next [N .i64 ((i + 1:Nat) : Int)] M3:=fun h=>by
   refine hnext _ _ _ (by omega) ⟨i + 1,rfl,rfl,by omega, ?_,hK⟩
   rw[Gv hlt,h,← List.drop_eq_getElem_cons hlt]
   exact hR
  have cb:=Cj s[i]
  simp only[w1]
  by_cases h1:65≤s[i].toNat
  ·have e1:((s[i].toNat:Int) ≥ 65):=by omega
   by_cases h2:s[i].toNat≤90
   ·have e2:((s[i].toNat:Int)≤90):=by omega
    have hlow:bU s[i]=UInt8.ofNat (s[i].toNat + 32):=by rw[bU,if_pos ⟨h1,h2⟩]
    have wv:N IntKind.u8 (IntKind.u8.wrap (IntKind.u8.wrap ((s[i].toNat:Int) + 97) - 65))=By (bU s[i]):=by
     rw[hlow,By,Qj,Nat.mod_eq_of_lt (by omega)]
     congr 1
     rw[show IntKind.u8.wrap ((s[i].toNat:Int) + 97)=(s[i].toNat:Int) + 97 from jB (by omega) (by omega)]
     rw[jB (by omega) (by omega)]; omega
    obtain⟨hs,hR'⟩:=hR.Mj hlen (bU s[i])
    simp only[e1,e2,decide_true,go_sem]
    rw[MS hlt] at hs hR'
    refine⟨by omega,_,(congrArg (fun x=>M3.stores M.next i [x]) wv).trans hs, ?_⟩
    refine hnext _ _ _ (by omega) ⟨i + 1,rfl,rfl,by omega, ?_,hK.put _ (.inl (Nat.le_refl _))⟩
    rw[Gv hlt]
    exact hR'
   ·have e2:¬ ((s[i].toNat:Int)≤90):=by omega
    simp only[e1,e2,decide_true,decide_false,go_sem]
    exact same (by rw[bU,if_neg (by omega)])
  ·have e1:¬ ((s[i].toNat:Int) ≥ 65):=by omega
   simp only[e1,decide_false,go_sem]
   exact same (by rw[bU,if_neg (by omega)])
 ·have:i=s.length:=by simp at hge; omega
  subst this
  rw[List.take_length,List.drop_length,List.append_nil] at hR
  have:=hR.sl (cap:=.op 1)
  rw[List.length_map] at this
  rw[Sl.str this]
  exact hQ M3 hK
def Qp (B:Base) (c:ai) : Prop:=∀ {M:RM} {s:List UInt8} {Q:ah},M.base=B→s.length≤1000000000→Q (Bo (PU s)) M→c [St s] M Q
def okB (x:List UInt8) (c:UInt8) : Bool:=GH c && !(decide (c∈x))
def EQ (x s:List UInt8) : Bool:=s.all (okB x) && PU s
def Kl (B:Base) (c:ai) : Prop:=∀ {M:RM} {s x:List UInt8} {Q:ah},M.base=B→s.length≤1000000000→(∀ M',ae [] M M'→Q (Bo (EQ x s)) M')→c [St s,St x] M Q
theorem uH {B:Base} {T8:Nat} {cp ci cv:ai} (hp:Qa cp) (hi:gD ci) (hv:Qp B cv) : Kl B fun args M Q=>∃ a0 a1,args=[a0,a1]∧pJ T8 cp ci cv a0 a1 M Q:=by
 intro M s x Q hM hl hQ
 refine⟨_,_,rfl, ?_⟩
 unfold pJ
 simp only[dx,aT,iB,kC]
 have hk1:ae [] M (M.push (.row (BY.row s) true T8 0)):=(ae.refl _ _).push _
 have hr1:Rw BY (M.push (.row (BY.row s) true T8 0)) M.next true T8 s:=Rw.new M s
 generalize M.push (.row (BY.row s) true T8 0)=M1 at *
 refine eG (fun m ys M3=>M3=M1∧∃ i:Nat,m=s.length - i∧ys=[N .i64 i]∧i≤s.length∧(s.take i).all (okB x)=true) _
  ⟨rfl,0,rfl,rfl,Nat.zero_le _,by simp⟩ ?_
 rintro next m ys M3 hnext ⟨hM3,i,rfl,rfl,hile,hall⟩
 subst hM3
 simp only[go_sem]
 refine⟨fun hlt=>?_,fun hge=>?_⟩
 ·have hlt:i<s.length:=by simpa using hlt
  have hc:=hr1.aj hlt
  have htk:=List.take_succ_eq_append_getElem hlt
  have hmem:=List.getElem_mem hlt
  generalize s[i]=c at *
  have w1:=vI (show i<9223372036854775807 by omega)
  have bad:okB x c=false→Q (Bo false) M3:=fun h=>by
   have:EQ x s=false:=by
    have h2:s.all (okB x)=false:=by
     rw[List.all_eq_false]
     exact⟨c,hmem,by rw[h]; simp⟩
    rw[EQ,h2]; rfl
   rw[← this]; exact hQ M3 hk1
  have good:okB x c=true→next [N .i64 ((i + 1:Nat) : Int)] M3:=fun h=>by
   refine hnext _ _ _ (by omega) ⟨rfl,i + 1,rfl,rfl,by omega, ?_⟩
   rw[htk,List.all_append,hall]
   simp[h]
  refine⟨by omega,By c,hc,hp ?_⟩
  cases hpl:GH c with
  | false =>
    simp only[go_sem]
    exact bad (by simp[okB,hpl])
  | true =>
    simp only[go_sem]
    refine hi ?_
    have hge:=DD x c
    by_cases hcx:c∈x
    ·have e1:decide (Lib.indexByte x c ≥ 0)=true:=decide_eq_true (hge.2 hcx)
     simp only[go_sem,e1]
     exact bad (by simp[okB,hcx])
    ·have e1:decide (Lib.indexByte x c ≥ 0)=false:=decide_eq_false fun h=>hcx (hge.1 h)
     simp only[go_sem,e1,w1]
     exact good (by simp[okB,hcx,hpl])
 ·have:i=s.length:=by simp at hge; omega
  subst this
  rw[List.take_length] at hall
  refine hv (by rw[hk1.base,hM]) hl ?_
  have:=hQ M3 hk1
  rw[EQ,hall,Bool.true_and] at this
  exact this
def Tc:List UInt8:=[97,98,99,100,101,102,103,104,105,106,107,108,109,110,111,112,113,114,115,116,117,118,119,120,121,122,48,49,50,51,52,53,54,55,56,57,45]
def MM (B:Base) (f:List UInt8→List UInt8) (c:ai) : Prop:=∀ {M:RM} {s:List UInt8} {Q:ah},M.base=B→s.length≤1000000000→(∀ M',ae [] M M'→Q (St (f s)) M')→c [St s,St Tc] M Q
def Ol (f:List UInt8→List UInt8) (s:List UInt8) : Bool:=decide (1≤s.length) && decide (s.length≤20) && (f s == [])
def Lr (B:Base) (f:List UInt8→List UInt8) (c:ai) : Prop:=∀ {M:RM} {s:List UInt8} {Q:ah},M.base=B→s.length≤1000000000→(∀ M',ae [] M M'→Q (Bo (Ol f s)) M')→c [St s] M Q
theorem wJ {B:Base} {f:List UInt8→List UInt8} {ct:ai} (ht:MM B f ct) : Lr B f fun args M Q=>∃ a0,args=[a0]∧si ct a0 M Q:=by
 intro M s Q hM hl hQ
 refine⟨_,rfl, ?_⟩
 unfold si
 simp only[dx]
 rw[mH,dJ]
 unfold Ol at hQ
 by_cases h1:1≤s.length
 ·have e1:decide ((s.length:Int) ≥ 1)=true:=by simp; omega
  rw[e1]
  by_cases h2:s.length≤20
  ·have e2:decide ((s.length:Int)≤20)=true:=by simp; omega
   simp only[go_sem,e2]
   refine ht hM hl fun M1 k1=>?_
   simp only[go_sem]
   have:=hQ M1 k1
   simpa [h1,h2] using this
  ·have e2:decide ((s.length:Int)≤20)=false:=by simp; omega
   simp only[go_sem,e2]
   simpa [h1,h2] using hQ M (ae.refl _ _)
 ·have e1:decide ((s.length:Int) ≥ 1)=false:=by simp; omega
  rw[e1]
  simp only[go_sem]
  simpa [h1] using hQ M (ae.refl _ _)
def brk (x:UInt8) : List UInt8→Option (List UInt8 × List UInt8)
 | []=>none
 | c :: t=>if c=x then some ([],t) else(brk x t).map fun p=>(c :: p.1,p.2)
theorem uz (x:UInt8) : ∀ s:List UInt8,(brk x s=none∧Lib.indexByte s x=-1∧x ∉ s)∨∃ a b,brk x s=some (a,b)∧Lib.indexByte s x=(a.length:Int)∧s=a++x :: b∧x ∉ a
 | []=>.inl ⟨rfl,rfl,by simp⟩
 | c :: t=>by
   by_cases h:c=x
   ·subst h
    exact .inr ⟨[],t,by simp[brk],by simp[Lib.indexByte],rfl,by simp⟩
   ·have hc:(c == x)=false:=by simpa using h
    rcases uz x t with⟨h1,h2,h4⟩ | ⟨a,b,h1,h2,h3,h4⟩
    ·exact .inl ⟨by simp[brk,h,h1],by simp[Lib.indexByte,hc,h2],by simp[h4,Ne.symm h]⟩
    ·refine .inr ⟨c :: a,b,by simp[brk,h,h1], ?_,by rw[h3]; rfl,by simp[h4,Ne.symm h]⟩
     have:((a.length:Int) == -1)=false:=by simp
     simp[Lib.indexByte,hc,h2,this]
def uJ (x:UInt8) (c:ai) : Prop:=∀ {M:RM} {s:List UInt8} {Q:ah},Q (N .i64 (Lib.indexByte s x)) M→c [St s,St [x]] M Q
theorem zT {x:UInt8} {ci xx c1 c2:ai} (hi:gD ci) : uJ x fun args M Q=>∃ a0 a1,args=[a0,a1]∧bM ci xx c1 c2 a0 a1 M Q:=by
 intro M s Q hQ
 refine⟨_,_,rfl, ?_⟩
 unfold bM
 rw[mH,bI,show((([x] : List UInt8).length:Int) == 0)=false from rfl]
 simp only[dx]
 by_cases h:[x]=s
 ·subst h
  have:Lib.indexByte [x] x=0:=by simp[Lib.indexByte]
  rw[this] at hQ
  simp only[go_sem,beq_self_eq_true]
  exact hQ
 ·have h' : (([x] : List UInt8) == s)=false:=by simp[h]
  simp only[go_sem,h']
  exact⟨fun _=>⟨by omega,x,rfl,hi hQ⟩,fun h=>absurd h (by decide)⟩
def pR (x:UInt8) (s:List UInt8) : AV:=match brk x s with
 | some (a,b)=>.tup [St a,St b,Bo true]
 | none=>.tup [St s,St [],Bo false]
def kV (x:UInt8) (c:ai) : Prop:=∀ {M:RM} {s:List UInt8} {Q:ah},s.length≤1000000000→Q (pR x s) M→c [St s,St [x]] M Q
theorem CW {x:UInt8} {ci:ai} (hi:uJ x ci) : kV x fun args M Q=>∃ a0 a1,args=[a0,a1]∧gF ci a0 a1 M Q:=by
 intro M s Q hl hQ
 refine⟨_,_,rfl, ?_⟩
 unfold gF
 refine hi ?_
 unfold pR at hQ
 rcases uz x s with⟨h1,h2,_⟩ | ⟨a,b,h1,h2,h3,_⟩
 ·rw[h1] at hQ
  simp only[go_sem,h2]
  exact⟨fun h=>absurd h (by decide),fun _=>hQ⟩
 ·rw[h1] at hQ
  have hsl:=congrArg List.length h3
  simp at hsl
  rw[h2,dJ,show decide ((a.length:Int) ≥ 0)=true by simp]
  refine⟨fun _=>?_,fun h=>by cases h⟩
  rw[gQ (by omega)]
  simp only[go_sem]
  rw[show IntKind.wrap .i64 ((a.length:Int) + ((1:Nat) : Int))=((a.length + 1:Nat) : Int) by rw[Aq (by omega) (by omega)]; omega]
  rw[fO (by omega)]
  simp only[go_sem]
  rw[h3]
  rw[show(a++x :: b).take a.length=a by simp,show(a++x :: b).drop (a.length + 1)=b by rw[← List.drop_drop]; simp]
  exact hQ
theorem Lh {x:UInt8} {ci:ai} (hi:kV x ci) : kV x fun args M Q=>∃ a0 a1,args=[a0,a1]∧pG ci a0 a1 M Q:=by
 intro M s Q hl hQ
 refine⟨_,_,rfl, ?_⟩
 unfold pG
 refine hi hl ?_
 unfold pR at hQ ⊢
 cases h:brk x s with
 | none=>rw[h] at hQ; simpa only[go_sem] using hQ
 | some p=>rw[h] at hQ; simpa only[go_sem] using hQ
end Go.Ab.Vl
namespace Go.Ab
open Go Go.RowKit
section
variable {P:Program} {ρ:Ren} {M:RM} {w w' : World}
theorem bE.below {base:Base} {A:AW} (h:bE P base ρ A w) (hb:Below w.heap.size w w') (hn:base.n≤w.heap.size) : bE P base ρ A w' where
 dom b i hbi:=⟨(h.dom b i hbi).1,Nat.lt_of_lt_of_le (h.dom b i hbi).2 hb.size⟩
 blk b i x hbi hx:=let ⟨o,ho,hr⟩:=h.blk b i x hbi hx; ⟨o,by rw[hb.block _ (h.dom b i hbi).2]; exact ho,hr⟩
 sep:=h.sep
 top:=h.top
 lo:=h.lo
 inv:=base.low w w' (fun c hc=>hb.block c (Nat.lt_of_lt_of_le hc hn)) h.inv
theorem Step.of_below {base n:Nat} (hb:Below w.heap.size w w') (hn:base≤w.heap.size) : Step base n ρ w ρ w' where
 os:=hb.os
 tape:=hb.tape
 output:=hb.output
 size:=hb.size
 frame c hc _:=hb.block c hc
 ext _ _:=rfl
 fresh b i h:=.inl ⟨b,i,h,rfl⟩
 low c hc:=hb.block c (Nat.lt_of_lt_of_le hc hn)
theorem After.below (h:bq P ρ M w) (hb:Below w.heap.size w w') : After P M ρ w M ρ w':=by
 obtain⟨A,hA⟩:=h
 refine gB hA (Step.of_below hb hA.size) (hA.rel.below hb hA.size) rfl hA.next (Nat.le_refl _) fun b x hx=>?_
 rcases hA.blk b x hx with h | ⟨c,rfl,_⟩
 ·exact .inl h
 ·exact .inr ⟨c,rfl,hx⟩
theorem bq.inv (h:bq P ρ M w) : M.base.inv w:=by
 obtain⟨A,hA⟩:=h
 exact hA.rel.inv
theorem dL.r9 {f:FuncId} {args:List AV} {v:AV} {Q:ah} (hP:CQ P f)
  (h:∀ (ρ:Ren) (w:World) (us:List Value),aD ρ args us→bq P ρ M w→Calls P f ⟨us⟩ w fun e w'=>∃ v',e=.returned v'∧Below w.heap.size w w'∧ag ρ v v') (hQ:Q v M) : dL P f args M Q:=by
 refine⟨hP,fun ρ w us hargs hw=>(h ρ w us hargs hw).mono fun e w' hR=>?_⟩
 obtain⟨v',rfl,hb,hv⟩:=hR
 exact⟨v',v,M,ρ,rfl,After.below hw hb,hv,hQ⟩
end
structure pq (α:Type) where
 size:Nat
 rel:RM→List AV→α→(Nat→Prop)→Prop
 len:∀ {M cs a S},rel M cs a S→cs.length=size
 one:∀ {M cs a S},rel M cs a S→cs.all oneCell=true
 mono:∀ {M cs a S S'},rel M cs a S→(∀ b,S b→S' b)→rel M cs a S'
 lt:∀ {M cs a S},rel M cs a S→rel M cs a (fun b=>S b∧b<M.next)
 keep:∀ {M M' cs a S bs},rel M cs a S→ae bs M M'→(∀ b∈bs,¬ S b)→rel M' cs a S
def Enc.Ce {α:Type} (E:Enc α) : pq α where
 size:=E.size
 rel _ cs a _:=cs=E.cells a
 len h:=by subst h; exact E.len _
 one h:=by subst h; exact E.one _
 mono h _:=h
 lt h:=h
 keep h _ _:=h
inductive fo {α:Type} (R:pq α) (M:RM) (S:Nat→Prop) : List AV→List α→Prop
 | nil:fo R M S [] []
 | cons {cs ds:List AV} {a:α} {xs:List α} : R.rel M cs a S→fo R M S ds xs→fo R M S (cs++ds) (a :: xs)
section
variable {α:Type} {R:pq α} {M M' : RM} {S S' : Nat→Prop} {cs ds:List AV} {xs ys:List α} {a:α}
theorem fo.len (h:fo R M S cs xs) : cs.length=xs.length * R.size:=by
 induction h with
 | nil=>simp
 | cons h1 _ ih=>rw[List.length_append,R.len h1,ih,List.length_cons,Nat.succ_mul,Nat.add_comm]
theorem fo.one (h:fo R M S cs xs) : cs.all oneCell=true:=by
 induction h with
 | nil=>rfl
 | cons h1 _ ih=>rw[List.all_append,R.one h1,ih]; rfl
theorem fo.mono (h:fo R M S cs xs) (hs:∀ b,S b→S' b) : fo R M S' cs xs:=by
 induction h with
 | nil=>exact .nil
 | cons h1 _ ih=>exact .cons (R.mono h1 hs) ih
theorem fo.lt (h:fo R M S cs xs) : fo R M (fun b=>S b∧b<M.next) cs xs:=by
 induction h with
 | nil=>exact .nil
 | cons h1 _ ih=>exact .cons (R.lt h1) ih
theorem fo.keep {bs:List Nat} (h:fo R M S cs xs) (hk:ae bs M M') (hb:∀ b∈bs,¬ S b) : fo R M' S cs xs:=by
 induction h with
 | nil=>exact .nil
 | cons h1 _ ih=>exact .cons (R.keep h1 hk hb) ih
theorem fo.get (h:fo R M S cs xs) : ∀ {i:Nat} (hi:i<xs.length),R.rel M ((cs.drop (i * R.size)).take R.size) xs[i] S:=by
 induction h with
 | nil=>intro i hi; simp at hi
 | cons h1 h2 ih =>
   rename_i c1 d1 a1 x1
   intro i hi
   cases i with
   | zero =>
     rw[Nat.zero_mul,List.drop_zero,List.take_append_of_le_length (by rw[R.len h1]; exact Nat.le_refl _),List.take_of_length_le (by rw[R.len h1]; exact Nat.le_refl _)]
     exact h1
   | succ i =>
     rw[Nat.succ_mul,Nat.add_comm,← List.drop_drop,List.drop_left' (R.len h1)]
     exact ih (by simpa using hi)
theorem fo.take (h:fo R M S cs xs) : ∀ (k:Nat),fo R M S (cs.take (k * R.size)) (xs.take k):=by
 induction h with
 | nil=>intro k; simp; exact .nil
 | cons h1 h2 ih =>
   intro k
   cases k with
   | zero=>simp; exact .nil
   | succ k =>
     rw[Nat.succ_mul,Nat.add_comm,List.take_append,List.take_of_length_le (by rw[R.len h1]; omega),R.len h1,Nat.add_sub_cancel_left]
     exact .cons h1 (ih k)
theorem fo.drop (h:fo R M S cs xs) : ∀ (k:Nat),fo R M S (cs.drop (k * R.size)) (xs.drop k):=by
 induction h with
 | nil=>intro k; simp; exact .nil
 | cons h1 h2 ih =>
   intro k
   cases k with
   | zero=>simp; exact .cons h1 h2
   | succ k =>
     rw[Nat.succ_mul,Nat.add_comm,← List.drop_drop,List.drop_left' (R.len h1)]
     exact ih k
theorem fo.cells {E:Enc α} : ∀ {cs:List AV} {xs:List α},fo E.Ce M S cs xs→cs=E.row xs
 | _,_,.nil=>rfl
 | _,_,.cons h1 h2=>by rw[Enc.kN,fo.cells h2]; rw[show _=_ from h1]
def nP (R:pq α) (M:RM) (v:AV) (xs:List α) (S:Nat→Prop) : Prop :=
 ∃ cs,aF M R.size v cs xs.length∧(∀ b∈aP v,S b)∧fo R M S cs xs
theorem aF.lt {size n:Nat} {v:AV} (h:aF M size v cs n) : ∀ b∈aP v,b<M.next:=by
 cases h with
 | nil=>intro b hb; simp[aP] at hb
 | emp=>intro b hb; simp[aP] at hb
 | slc b o n cap cs hb _=>intro c hc; simp[aP] at hc; omega
theorem aF.one {size n:Nat} {v:AV} (h:aF M size v cs n) : oneCell v=true:=by
 cases h <;> rfl
theorem aF.cells {size n:Nat} {v:AV} (h:aF M size v cs n) : v.cells=[v]:=by
 cases h <;> rfl
variable {v:AV}
theorem nP.mono (h:nP R M v xs S) (hs:∀ b,S b→S' b) : nP R M v xs S':=let ⟨cs,h1,h2,h3⟩:=h; ⟨cs,h1,fun b hb=>hs b (h2 b hb),h3.mono hs⟩
theorem nP.lt (h:nP R M v xs S) : nP R M v xs (fun b=>S b∧b<M.next):=let ⟨cs,h1,h2,h3⟩:=h; ⟨cs,h1,fun b hb=>⟨h2 b hb,h1.lt b hb⟩,h3.lt⟩
theorem nP.keep {bs:List Nat} (h:nP R M v xs S) (hk:ae bs M M') (hb:∀ b∈bs,¬ S b) : nP R M' v xs S :=
 let ⟨cs,h1,h2,h3⟩:=h; ⟨cs,h1.keep hk (fun b hv hbs=>hb b hbs (h2 b hv)),h2,h3.keep hk hb⟩
theorem nP.len (h:nP R M v xs S) {K:AV→Prop} : aR v K=K (N .i64 xs.length):=let ⟨cs,h1,_,_⟩:=h; h1.len
theorem nP.one (h:nP R M v xs S) : oneCell v=true:=let ⟨cs,h1,_,_⟩:=h; h1.one
theorem nP.cells (h:nP R M v xs S) : v.cells=[v]:=let ⟨cs,h1,_,_⟩:=h; h1.cells
theorem nP.at (h:nP R M v xs S) {i:Nat} (sz:Nat) (j:Int) (hi:i<xs.length) (hsz:R.size=sz:=by rfl) (hj:j=(i:Int):=by rfl) :
  ∃ b o cs,b<M.next∧b∈aP v∧(∀ (kd:IntKind) (K:AV→Prop),dO v (N kd j) sz K=K (.ptr b o))∧M.loads b o sz=some cs∧R.rel M cs xs[i] S:=by
 subst hsz hj
 obtain⟨cs,h1,h2,h3⟩:=h
 obtain⟨b,o,cap,rfl,hb,hl⟩:=h1.pos (by omega)
 have hsum:i * R.size + R.size≤xs.length * R.size:=by rw[← Nat.succ_mul]; exact Nat.mul_le_mul_right _ hi
 refine⟨b,o + i * R.size,(cs.drop (i * R.size)).take R.size,hb,by simp[aP],fun kd K=>?_, ?_,h3.get hi⟩
 ·rw[rH]
  simp only[Int.toNat_natCast]
  exact propext ⟨fun h=>h.2.2,fun h=>⟨by omega,by omega,h⟩⟩
 ·rw[sW hl (i * R.size) R.size hsum]
def pq.slice (R:pq α) : pq (List α) where
 size:=1
 rel M cs xs S:=∃ v,cs=[v]∧nP R M v xs S
 len h:=by obtain⟨v,rfl,_⟩:=h; rfl
 one h:=by obtain⟨v,rfl,h⟩:=h; simp[h.one]
 mono h hs:=by obtain⟨v,rfl,h⟩:=h; exact⟨v,rfl,h.mono hs⟩
 lt h:=by obtain⟨v,rfl,h⟩:=h; exact⟨v,rfl,h.lt⟩
 keep h hk hb:=by obtain⟨v,rfl,h⟩:=h; exact⟨v,rfl,h.keep hk hb⟩
def qF (R:pq α) (M:RM) (base el:Nat) (v:AV) (xs:List α) (S:Nat→Prop) : Prop :=
 ∃ cs,Own M base el R.size v cs xs.length∧fo R M S cs xs
theorem qF.mono {base el:Nat} (h:qF R M base el v xs S) (hs:∀ b,S b→S' b) : qF R M base el v xs S':=let ⟨cs,h1,h2⟩:=h; ⟨cs,h1,h2.mono hs⟩
theorem qF.lt {base el:Nat} (h:qF R M base el v xs S) : qF R M base el v xs (fun b=>S b∧b<M.next):=let ⟨cs,h1,h2⟩:=h; ⟨cs,h1,h2.lt⟩
theorem qF.keep {base el:Nat} {bs:List Nat} (h:qF R M base el v xs S) (hk:ae bs M M') (hb:∀ b∈bs,¬ S b) (hv:∀ b∈aP v,b ∉ bs) : qF R M' base el v xs S :=
 let ⟨cs,h1,h2⟩:=h; ⟨cs,h1.keep hk hv,h2.keep hk hb⟩
theorem qF.len {base el:Nat} (h:qF R M base el v xs S) {K:AV→Prop} : aR v K=K (N .i64 xs.length):=let ⟨cs,h1,_⟩:=h; h1.kY.len
theorem qF.cells {base el:Nat} (h:qF R M base el v xs S) : v.cells=[v]:=let ⟨cs,h1,_⟩:=h; h1.cells
theorem qF.one {base el:Nat} (h:qF R M base el v xs S) : oneCell v=true:=let ⟨cs,h1,_⟩:=h; h1.one
end
section
variable {M M' : RM} {b i n e f:Nat} {l:List AV} {p:Bool} {x:AV}
theorem aI {K:AV→Prop} (h:M.heap b=some (.row l p e f)) (hx:l[i]?=some x) : aj M (.ptr b i) K=K x:=by
 rw[dU,RM.cell_of h,hx]; simp
theorem bJ {K:AV→Prop} (h:M.heap b=some (.row l p e f)) (hn:l.length=n) : bu M (.ptr b 0) n K=K (.agg l):=by
 rw[wU,RM.Mv h]
 have:qY (some l) 0 n=some l:=by simp[qY,← hn]
 rw[this]; simp
theorem Lg {K:RM→Prop} (h:M.heap b=some (.row l p e 0)) (hi:i<l.length) (hc:x.cells=[x]) (h1:oneCell x=true) : aH M (.ptr b i) x 1 K=K (M.put b (.row (l.set i x) p e 0)):=by
 rw[Cr,hc,RM.xI h,rZ (by simp only[List.length_cons,List.length_nil]; omega) (Nat.zero_le _) (by simp[h1])]
 have:l.take i++[x]++l.drop (i + 1)=l.set i x:=by
  rw[List.set_eq_take_append_cons_drop,if_pos hi]; simp
 simp[this]
theorem fT {K:RM→Prop} (l' : List AV) (h:M.heap b=some (.row l p e 0)) (hi:i<l.length) (hc:x.cells=[x]) (h1:oneCell x=true) (hl:l.set i x=l') : aH M (.ptr b i) x 1 K=K (M.put b (.row l' p e 0)):=by
 rw[Lg h hi hc h1,hl]
theorem jb {K:AV→Prop} : aQ (.ptr b 0) n K=K (.ptr b n):=by rw[jD,Nat.zero_add]
theorem JJ {K:RM→Prop} (h:M.heap b=some (.row l p e 0)) (hn:x.cells.length=n) (hl:l.length=n) (h1:x.cells.all oneCell=true) : aH M (.ptr b 0) x n K=K (M.put b (.row x.cells p e 0)):=by
 rw[Cr,RM.xI h,EA (by rw[hn,hl]) h1]
 simp[hn]
theorem tL {c:Nat} {y z:RB} (h:M.heap b=some y) (hb:b≠c) : (M.put c z).heap b=some y:=by
 simp only[RM.put]; rw[if_neg hb]; exact h
theorem aN (y:RB) : (M.put b y).heap b=some y:=RM.Am _ _
theorem FI (c:Nat) (y:RB) : (M.put c y).next=M.next:=rfl
theorem ae.new {bs:List Nat} (h:ae bs M M') {b:Nat} (y:RB) (hb:M.next≤b) : ae bs M (M'.put b y):=h.put y (.inl hb)
end
variable {M:RM}
theorem aY {a:AV} {l:List AV} {K:AV→Prop} : aC (.tup (a :: l)) 0 K=K a:=by rw[Af]; simp
theorem aZ {a b:AV} {l:List AV} {K:AV→Prop} : aC (.tup (a :: b :: l)) 1 K=K b:=by rw[Af]; simp
theorem dW {a b c:AV} {l:List AV} {K:AV→Prop} : aC (.tup (a :: b :: c :: l)) 2 K=K c:=by rw[Af]; simp
theorem bF {p q:Prop} : au (Bo true) p q=p:=by simp[Gd]
theorem bg {p q:Prop} : au (Bo false) p q=q:=by simp[Gd]
theorem dQ {b:Bool} {p q:Prop} (h1:b=true→p) (h2:b=false→q) : au (Bo b) p q:=⟨h1,h2⟩
theorem cK {f g:ah→Prop} {k:ah} : aa (Bo true) true f g k=f k:=rfl
theorem bR {f g:ah→Prop} {k:ah} : aa (Bo false) false f g k=f k:=rfl
theorem dH {f g:ah→Prop} {k:ah} : aa (Bo true) false f g k=g k:=rfl
theorem jq {f g:ah→Prop} {k:ah} : aa (Bo false) true f g k=g k:=rfl
theorem Ed {f g:KR→Prop} {k:KR} : lN (Bo true) true f g k=f k:=rfl
theorem xQ {f g:KR→Prop} {k:KR} : lN (Bo false) true f g k=g k:=rfl
theorem bY {a b:AV} {K:AV→Prop} : ay (Bo true) a b K=K a:=by rw[Fx]; rfl
theorem dF {a b:AV} {K:AV→Prop} : ay (Bo false) a b K=K b:=by rw[Fx]; rfl
theorem aF.known {size:Nat} {v:AV} {cs:List AV} {n:Nat} (h:aF M size v cs n) : known v=true:=by
 cases h <;> rfl
theorem jr {t:TypeId} {cs:List AV} {K:RB→(Nat→AV)→Prop} (h1:cs.all oneCell=true) (h2:1≤cs.length) : nW t (.agg cs) K=K (.row cs false t 0) (fun b=>.ptr b 0):=by
 unfold nW
 exact propext ⟨fun h=>h.2.2,fun h=>⟨h1,h2,h⟩⟩
theorem Bi {x y a b:AV} (h1:known x=true) (h2:x.cells=[x]) (h3:known y=true) (h4:y.cells=[y]) : oD [a,b] [(0,1,x),(1,1,y)]=some [x,y]:=by
 simp[oD,h1,h2,h3,h4]
def pq.pre {α β:Type} (E:Enc α) (R:pq β) : pq (α × β) where
 size:=E.size + R.size
 rel M cs a S:=∃ ds,cs=E.cells a.1++ds∧R.rel M ds a.2 S
 len h:=by obtain⟨ds,rfl,h⟩:=h; rw[List.length_append,E.len,R.len h]
 one h:=by obtain⟨ds,rfl,h⟩:=h; rw[List.all_append,E.one,R.one h]; rfl
 mono h hs:=by obtain⟨ds,rfl,h⟩:=h; exact⟨ds,rfl,R.mono h hs⟩
 lt h:=by obtain⟨ds,rfl,h⟩:=h; exact⟨ds,rfl,R.lt h⟩
 keep h hk hb:=by obtain⟨ds,rfl,h⟩:=h; exact⟨ds,rfl,R.keep h hk hb⟩
def pq.post {α β:Type} (R:pq α) (E:Enc β) : pq (α × β) where
 size:=R.size + E.size
 rel M cs a S:=∃ ds,cs=ds++E.cells a.2∧R.rel M ds a.1 S
 len h:=by obtain⟨ds,rfl,h⟩:=h; rw[List.length_append,E.len,R.len h]
 one h:=by obtain⟨ds,rfl,h⟩:=h; rw[List.all_append,E.one,R.one h]; rfl
 mono h hs:=by obtain⟨ds,rfl,h⟩:=h; exact⟨ds,rfl,R.mono h hs⟩
 lt h:=by obtain⟨ds,rfl,h⟩:=h; exact⟨ds,rfl,R.lt h⟩
 keep h hk hb:=by obtain⟨ds,rfl,h⟩:=h; exact⟨ds,rfl,R.keep h hk hb⟩
def pq.map {α β:Type} (R:pq α) (g:β→α) : pq β where
 size:=R.size
 rel M cs a S:=R.rel M cs (g a) S
 len h:=R.len h
 one h:=R.one h
 mono h hs:=R.mono h hs
 lt h:=R.lt h
 keep h hk hb:=R.keep h hk hb
end Go.Ab
namespace Go.Ab
open Go Go.RowKit Go.ChangeShapes
section
variable {H:Type} {enc:TypeId × Value→H} {P:Program} {w:World} {base:Nat} {spare:Nat→Bool} {held:Bool}
end
end Go.Ab
namespace Go.Ab
open Go Go.ChangeShapes
end Go.Ab
namespace Go.Ab
open Go Go.RowKit
section
variable {P:Program} {f:FuncId} {fn:Func} {w w' : World} {M:RM}
end
end Go.Ab
namespace Go.Ab.Sm
open Go Go.Ab
section
variable {i j:Nat} {K:AV→Prop}
theorem addN (h:i + j<4611686018427387904) : af .add (N .i64 (i:Int)) (N .i64 (j:Int)) K=K (N .i64 ((i + j:Nat) : Int)):=by
 rw[vH,gT (by omega) (by omega),Int.natCast_add]
theorem add1 (h:i<4611686018427387904) : af .add (N .i64 (i:Int)) (N .i64 1) K=K (N .i64 ((i + 1:Nat) : Int)):=by
 rw[vH,vI (by omega)]
theorem I7 (h:j≤i) (hb:i<4611686018427387904) : af .sub (N .i64 (i:Int)) (N .i64 (j:Int)) K=K (N .i64 ((i - j:Nat) : Int)):=by
 rw[ku,gT (by omega) (by omega),show(i:Int) - (j:Int)=((i - j:Nat) : Int) by omega]
theorem Au:af .lss (N .i64 (i:Int)) (N .i64 (j:Int)) K=K (Bo (decide (i<j))):=by rw[iI,show decide ((i:Int)<(j:Int))=decide (i<j) by simp]
theorem Ko:af .gtr (N .i64 (i:Int)) (N .i64 (j:Int)) K=K (Bo (decide (i > j))):=by rw[dI,show decide ((i:Int) > (j:Int))=decide (i > j) by simp]
theorem Uf:af .eql (N .i64 (i:Int)) (N .i64 (j:Int)) K=K (Bo (decide (i=j))):=by
 rw[bI,show((i:Int) == (j:Int))=decide (i=j) by by_cases h:i=j <;> simp[h]; omega]
end
section
variable {M:RM} {c p:Bool} {f:ah→Prop} {P:RM→Prop} {G:AV→RM→Prop}
theorem oH (hf:c=true→∀ k:ah,k (Bo p) M→f k) (hG:G (Bo (c && p)) M) :
  aa (Bo c) true f (fun k=>k .undef M) (fun t M'=>ay (Bo c) t (Bo false) fun u=>G u M'):=by
 cases c with
 | false=>rw[jq]; dsimp only; rw[dF]; exact hG
 | true=>rw[cK]; exact hf rfl _ (by rw[bY]; exact hG)
theorem CL (hf:c=false→∀ k:ah,k (Bo p) M→f k) (hG:G (Bo (c || p)) M) :
  aa (Bo c) false f (fun k=>k .undef M) (fun t M'=>ay (Bo c) (Bo true) t fun u=>G u M'):=by
 cases c with
 | true=>rw[dH]; dsimp only; rw[bY]; exact hG
 | false=>rw[bR]; exact hf rfl _ (by rw[dF]; exact hG)
theorem BU (h0:P M) (hf:c=true→∀ k:ah,(∀ M',P M'→k (Bo p) M')→f k) (hG:∀ M',P M'→G (Bo (c && p)) M') :
  aa (Bo c) true f (fun k=>k .undef M) (fun t M'=>ay (Bo c) t (Bo false) fun u=>G u M'):=by
 cases c with
 | false=>rw[jq]; dsimp only; rw[dF]; exact hG M h0
 | true=>rw[cK]; exact hf rfl _ fun M' h=>by rw[bY]; exact hG M' h
theorem Ae (h0:P M) (hf:c=false→∀ k:ah,(∀ M',P M'→k (Bo p) M')→f k) (hG:∀ M',P M'→G (Bo (c || p)) M') :
  aa (Bo c) false f (fun k=>k .undef M) (fun t M'=>ay (Bo c) (Bo true) t fun u=>G u M'):=by
 cases c with
 | true=>rw[dH]; dsimp only; rw[bY]; exact hG M h0
 | false=>rw[bR]; exact hf rfl _ fun M' h=>by rw[dF]; exact hG M' h
end
section
variable {M:RM} {c p:Bool} {f:KR→Prop} {G:AV→RM→Prop}
end
theorem Ak {a:Int} {K:AV→Prop} : af .neq (N .i64 a) (N .i64 a) K=K (Bo false):=by rw[fD,bne_self_eq_false]
end Go.Ab.Sm
namespace Go.Ab
open Go Go.RowKit
inductive ja (B:Nat) (P:Program) (M:RM) : TypeId→List AV→Prop
 | bool (t:TypeId) (b:Bool) : P.underlying t=some .bool→ja B P M t [Bo b]
 | int (t:TypeId) (k:IntKind) (n:Int) : P.underlying t=some (.int k)→k.min≤n→n≤k.max→ja B P M t [N k n]
 | str (t:TypeId) (s:List UInt8) : P.underlying t=some .string→s.length≤B→ja B P M t [St s]
 | JY (t e:TypeId) : P.underlying t=some (.slice e)→ja B P M t [aJ]
 | emp (t e:TypeId) (b:Nat) : P.underlying t=some (.slice e)→ja B P M t [.emp b]
 | slc (t e:TypeId) (b o n c:Nat) (cs:List AV) : P.underlying t=some (.slice e)→b<M.next→n≤c→n≤B→M.loads b o (n * P.cellsOf e)=some cs →
   (∀ i,i<n→ja B P M e ((cs.drop (i * P.cellsOf e)).take (P.cellsOf e)))→ja B P M t [.slc b o n (.ex c)]
 | struct (t:TypeId) (fs:Array Field) (cs:List AV) : P.underlying t=some (.struct fs)→cs.length=P.cellsOf t →
   (∀ (i:Nat) (f:Field),fs[i]?=some f→ja B P M f.type ((cs.drop f.offset).take (P.cellsOf f.type)))→ja B P M t cs
 | array (t e:TypeId) (n:Nat) (cs:List AV) : P.underlying t=some (.array n e)→cs.length=P.cellsOf t →
   (∀ i,i<n→ja B P M e ((cs.drop (i * P.cellsOf e)).take (P.cellsOf e)))→ja B P M t cs
 | other (t:TypeId) (cs:List AV) : oQ (P.underlying t)=true→ja B P M t cs
 | zero (t e:TypeId) (cs:List AV) : P.underlying t=some (.slice e)→P.cellsOf e=0→ja B P M t cs
section
variable {H:Type} {enc:TypeId × Value→H} {P:Program} {base:Base} {w:World}
variable {bulk:DataW H→Nat} {B:Nat}
structure UF (bulk:DataW H→Nat) : Prop where
 str:∀ bs:List UInt8,bs.length≤bulk (.lit (.string bs))
 len:∀ es sp:List (DataW H),es.length≤bulk (.slice es sp)
 elem:∀ (es sp:List (DataW H)) d,d∈es→bulk d≤bulk (.slice es sp)
 spare:∀ (es sp:List (DataW H)) d,d∈sp→bulk d≤bulk (.slice es sp)
 agg:∀ (ps:List (DataW H)) d,d∈ps→bulk d≤bulk (.agg ps)
end
section
variable {P:Program} {M:RM} {t:TypeId} {cs:List AV} {B:Nat}
def I8:AV→Prop
 | .slc _ _ n (.ex c)=>n≤c
 | .slc _ _ _ (.op e)=>e=1
 | _=>True
end
def Fp (B:Nat) (P:Program) (M:RM) (t:TypeId) (v:AV) : Prop :=
 match xN P t with
 | true=>∃ cs,v=.agg cs∧ja B P M t cs
 | false=>ja B P M t [v]
theorem Fp.one {B:Nat} {P:Program} {M:RM} {t:TypeId} {v:AV} (h:Fp B P M t v) (ha:xN P t=false) : ja B P M t [v]:=by
 unfold Fp at h; rw[ha] at h; exact h
section
variable {H:Type} {enc:TypeId × Value→H} {P:Program} {base:Base} {w:World} {bulk:DataW H→Nat} {B:Nat}
end
end Go.Ab
namespace Go.Ab.Hw
open Go Go.Ab Go.Ab.Sm
open Go.Ab.Vl (brk kV gD fO iJ gQ Aq)
abbrev Str:=List UInt8
structure Bs (M:RM) (v:AV) (b:Str) : Prop where
 sl:Sl BY M v b
 cap:I8 v
theorem Bs.keep {M M' : RM} {v:AV} {b:Str} {bs:List Nat} (h:Bs M v b) (k:ae bs M M') (hb:∀ x∈aP v,x ∉ bs) : Bs M' v b:=⟨aF.keep h.sl k hb,h.cap⟩
theorem Bs.len {M:RM} {v:AV} {b:Str} (h:Bs M v b) {K:AV→Prop} : aR v K=K (N .i64 (b.length:Int)):=aF.len h.sl
theorem Bs.str {M:RM} {v:AV} {b:Str} (h:Bs M v b) {K:AV→Prop} : cz M v K=K (St b):=Sl.str h.sl
theorem OC {M:RM} {base T n:Nat} {v:AV} {cs:List AV} (h:Own M base T 1 v cs n) : I8 v:=by
 cases h with
 | nil=>trivial
 | ex0 b o _ _ _=>exact Nat.le_refl _
 | op b n cs _ _ _ _=>rfl
theorem Bs.own {M:RM} {base T:Nat} {v:AV} {b:Str} (h:Ow BY M base T v b) : Bs M v b:=⟨Own.kY h,OC h⟩
theorem Cz {M:RM} {b o n:Nat} {x:Str} (h:M.loads b o (n * 1)=some (BY.row x)) {l u:Nat} (h1:l≤u) (h2:u≤n) : M.loads b (o + l * 1) ((u - l) * 1)=some (BY.row ((x.drop l).take (u - l))):=by
 have:=sW h (l * 1) ((u - l) * 1) (by omega)
 rw[this]
 congr 1
 have e1:=BY.vF x l
 have e2:=BY.AB (x.drop l) (u - l)
 rw[show l * 1=l * BY.size from rfl,e1,show(u - l) * 1=(u - l) * BY.size from rfl,e2]
theorem Bs.sub {M:RM} {v:AV} {b:Str} (h:Bs M v b) {lo hi:Option AV} {l u:Nat} (e1:bnd 0 lo=some l) (e2:bnd b.length hi=some u) (h1:l≤u) (h2:u≤b.length) {K:AV→Prop}
  (hK:∀ v',Bs M v' ((b.drop l).take (u - l))→(∀ x∈aP v',x∈aP v)→K v') : bH (dD 1 v lo hi none) K:=by
 obtain⟨hs,hc⟩:=h
 have hlen:((b.drop l).take (u - l)).length=u - l:=by simp; omega
 have zero:u=l→∀ {w:AV},aF M 1 w [] 0→Sl BY M w ((b.drop l).take (u - l)):=by
  intro e w hw
  subst e
  rw[Nat.sub_self,List.take_zero]
  exact hw
 unfold Sl at hs
 generalize hn:b.length=n at *
 generalize hcs:BY.row b=cs at *
 cases hs with
 | nil =>
   have l0:l=0:=by omega
   have u0:u=0:=by omega
   subst l0 u0
   exact⟨aJ,by simp only[dD,aJ,e1,e2],hK _ ⟨zero rfl .nil,trivial⟩ (fun x hx=>hx)⟩
 | emp b0 =>
   have l0:l=0:=by omega
   have u0:u=0:=by omega
   subst l0 u0
   exact⟨.emp b0,by simp only[dD,e1,e2],hK _ ⟨zero rfl (.emp _),trivial⟩ (fun x hx=>hx)⟩
 | slc b0 o _ cap cs hb hl =>
   subst hcs
   have hl':=Cz hl h1 h2
   have whole:∀ cap',I8 (.slc b0 (o + l * 1) (u - l) cap')→(Bs M (.slc b0 (o + l * 1) (u - l) cap') ((b.drop l).take (u - l))):=fun cap' hcap=>⟨by
    unfold Sl; rw[hlen]; exact .slc _ _ _ _ _ hb hl',hcap⟩
   cases cap with
   | ex c =>
     have hcn:n≤c:=hc
     by_cases e:c=l
     ·subst e
      have hu:u=c:=by omega
      subst hu
      refine⟨.slc b0 o 0 (.ex 0),by simp only[dD,e1,e2]; rw[if_pos ⟨Nat.le_refl _,Nat.le_refl _⟩]; simp,hK _ ⟨zero rfl (.slc _ _ _ _ _ hb ?_),Nat.le_refl _⟩ (fun x hx=>hx)⟩
      have:=Cz hl (Nat.le_refl 0) (Nat.zero_le n)
      simpa [BY,Enc.row] using this
     ·exact⟨_,by simp only[dD,e1,e2]; rw[if_pos ⟨h1,by omega⟩,if_neg e],hK _ (whole _ (by show u - l≤c - l; omega)) (fun x hx=>hx)⟩
   | op esz =>
     have he:esz=1:=hc
     subst he
     by_cases e:n≤l
     ·have hu:u=l:=by omega
      exact⟨.emp b0,by simp only[dD,e1,e2]; simp[h1,h2,e],hK _ ⟨zero hu (.emp _),trivial⟩ (fun x hx=>by simp[aP] at hx)⟩
     ·exact⟨_,by simp only[dD,e1,e2]; simp only[and_true]; rw[if_pos ⟨h1,h2⟩,if_neg e],hK _ (whole (.op 1) rfl) (fun x hx=>hx)⟩
theorem jX (d n:Nat) (k:IntKind) : bnd d (some (N k (n:Int)))=some n:=by simp[bnd]
theorem Dt (d:Nat) : bnd d none=some d:=rfl
def pre (p s:Str) : Bool:=decide (p.length≤s.length) && (s.take p.length == p)
def A7 (c:ai) : Prop:=∀ {M:RM} {s p:Str} {Q:ah},Q (Bo (pre p s)) M→c [St s,St p] M Q
theorem Ew:A7 fun args M Q=>∃ a0 a1,args=[a0,a1]∧Vl.ek a0 a1 M Q:=by
 intro M s p Q hQ
 refine⟨_,_,rfl, ?_⟩
 unfold Go.Ab.Vl.ek
 simp only[dx,mH,dJ]
 unfold pre at hQ
 by_cases h:p.length≤s.length
 ·have e:decide ((s.length:Int) ≥ (p.length:Int))=true:=by simp[h]
  rw[e]
  simp only[go_sem,if_true]
  rw[gQ h]
  simpa only[go_sem,h,decide_true,Bool.true_and,if_true] using hQ
 ·have e:decide ((s.length:Int) ≥ (p.length:Int))=false:=by simp; omega
  rw[e]
  simpa [go_sem,h] using hQ
theorem NR {ch:ai} (hh:A7 ch) : A7 fun args M Q=>∃ a0 a1,args=[a0,a1]∧Vl.nN ch a0 a1 M Q:=by
 intro M s p Q hQ
 exact⟨_,_,rfl,hh hQ⟩
def xU (p s:Str) : AV:=if pre p s then .tup [St (s.drop p.length),Bo true] else .tup [St s,Bo false]
def qD (c:ai) : Prop:=∀ {M:RM} {s p:Str} {Q:ah},Q (xU p s) M→c [St s,St p] M Q
theorem AO {ch:ai} (hh:A7 ch) : qD fun args M Q=>∃ a0 a1,args=[a0,a1]∧Vl.eB ch a0 a1 M Q:=by
 intro M s p Q hQ
 refine⟨_,_,rfl, ?_⟩
 unfold Go.Ab.Vl.eB
 refine hh ?_
 unfold xU at hQ
 cases h:pre p s
 ·rw[h] at hQ; simpa [go_sem] using hQ
 ·rw[h] at hQ
  have hl:p.length≤s.length:=by unfold pre at h; simp at h; exact h.1
  simp only[di,Bool.not_true,bg,mH]
  rw[fO hl]
  simpa [go_sem] using hQ
theorem G7 {ch:ai} (hh:qD ch) : qD fun args M Q=>∃ a0 a1,args=[a0,a1]∧Vl.jQ ch a0 a1 M Q:=by
 intro M s p Q hQ
 refine⟨_,_,rfl, ?_⟩
 unfold Go.Ab.Vl.jQ
 refine hh ?_
 unfold xU at hQ ⊢
 cases h:pre p s <;> rw[h] at hQ <;> simpa [go_sem] using hQ
def uJ (x:UInt8) (c:ai) : Prop:=∀ {M:RM} {s:List UInt8} {Q:ah},Q (N .i64 (Lib.indexByte s x)) M→c [St s,St [x]] M Q
theorem zT {x:UInt8} {g:Nat} {ci xx c1 c2:ai} (hi:gD ci) : uJ x fun args M Q=>∃ a0 a1,args=[a0,a1]∧bM ci g xx c1 c2 a0 a1 M Q:=by
 intro M s Q hQ
 refine⟨_,_,rfl, ?_⟩
 unfold bM
 rw[mH,bI,show((([x] : List UInt8).length:Int) == 0)=false from rfl]
 simp only[dx]
 by_cases h:[x]=s
 ·subst h
  have:Lib.indexByte [x] x=0:=by simp[Lib.indexByte]
  rw[this] at hQ
  simp only[go_sem,beq_self_eq_true]
  exact hQ
 ·have h' : (([x] : List UInt8) == s)=false:=by simp[h]
  simp only[go_sem,h']
  exact⟨fun _=>⟨by omega,x,rfl,hi hQ⟩,fun h=>absurd h (by decide)⟩
def gV (s:Str) (a b:Int) : Bool:=decide ((s.length:Int) ≥ a) && decide ((s.length:Int)≤b)
def qB (c:ai) : Prop:=∀ {M:RM} {s:Str} {a b:Int} {Q:ah},Q (Bo (gV s a b)) M→c [St s,N .i64 a,N .i64 b] M Q
theorem Hg:qB fun args M Q=>∃ a0 a1 a2,args=[a0,a1,a2]∧lq a0 a1 a2 M Q:=by
 intro M s a b Q hQ
 refine⟨_,_,_,rfl, ?_⟩
 unfold lq
 simp only[dx,mH,dJ]
 refine oH (fun _ k hk=>?_) hQ
 simpa only[go_sem] using hk
theorem CE {T8:Nat} : Ah fun args M Q=>∃ a0,args=[a0]∧mf T8 a0 M Q:=by
 intro M s Q hl hQ
 refine⟨_,rfl, ?_⟩
 unfold mf
 simp only[dx,aT,iB,kC]
 have hk1:ae [] M (M.push (.row (BY.row s) true T8 0)):=(ae.refl _ _).push _
 have hr1:Rw BY (M.push (.row (BY.row s) true T8 0)) M.next true T8 s:=Rw.new M s
 generalize M.push (.row (BY.row s) true T8 0)=M1 at *
 refine eG (fun m ys M3=>∃ i:Nat,m=s.length - i∧ys=[N .i64 i]∧i≤s.length∧Rw BY M3 M.next true T8 (upTo bU i s)∧ae [] M M3) _
  ⟨0,rfl,rfl,Nat.zero_le _,by rw[LK]; exact hr1,hk1⟩ ?_
 rintro next m ys M3 hnext ⟨i,rfl,rfl,hi,hR,hK⟩
 simp only[go_sem]
 refine⟨fun hlt=>?_,fun hge=>?_⟩
 ·have hlt:i<s.length:=by simpa using hlt
  have hlen:i<(upTo bU i s).length:=by rw[FX]; exact hlt
  have hg:=F6 bU hlt
  have hc:=hR.aj hlen
  have w1:=vI (show i<9223372036854775807 by omega)
  have hge:(upTo bU i s)[i]=s[i]:=Option.some.inj ((List.getElem?_eq_getElem hlen).symm.trans hg)
  rw[hge] at hc
  refine⟨by omega,_,hc, ?_⟩
  have same:bU s[i]=s[i]→next [N .i64 ((i + 1:Nat) : Int)] M3:=fun h=>by
   refine hnext _ _ _ (by omega) ⟨i + 1,rfl,rfl,by omega, ?_,hK⟩
   rw[Lc bU hlt h]
   exact hR
  have cb:=Cj s[i]
  simp only[w1]
  by_cases h1:65≤s[i].toNat
  ·have e1:((s[i].toNat:Int) ≥ 65):=by omega
   by_cases h2:s[i].toNat≤90
   ·have e2:((s[i].toNat:Int)≤90):=by omega
    have hlow:bU s[i]=s[i] + 32:=by rw[bU,if_pos ⟨h1,h2⟩]
    have hn:(bU s[i]).toNat=s[i].toNat + 32:=by
     rw[hlow,UInt8.toNat_add]
     show(s[i].toNat + 32) % 256=_
     omega
    have wv:N IntKind.u8 (IntKind.u8.wrap (IntKind.u8.wrap ((s[i].toNat:Int) + 97) - 65))=By (bU s[i]):=by
     rw[By,hn]
     congr 1
     rw[show IntKind.u8.wrap ((s[i].toNat:Int) + 97)=(s[i].toNat:Int) + 97 from jB (by omega) (by omega)]
     rw[jB (by omega) (by omega)]; omega
    obtain⟨hs,hR'⟩:=hR.Mj hlen (bU s[i])
    simp only[e1,e2,decide_true,go_sem]
    rw[Fz bU hlt] at hs hR'
    refine⟨by omega,_,(congrArg (fun x=>M3.stores M.next i [x]) wv).trans hs, ?_⟩
    exact hnext _ _ _ (by omega) ⟨i + 1,rfl,rfl,by omega,hR',hK.put _ (.inl (Nat.le_refl _))⟩
   ·have e2:¬ ((s[i].toNat:Int)≤90):=by omega
    simp only[e1,e2,decide_true,decide_false,go_sem]
    exact same (by rw[bU,if_neg (by omega)])
  ·have e1:¬ ((s[i].toNat:Int) ≥ 65):=by omega
   simp only[e1,decide_false,go_sem]
   exact same (by rw[bU,if_neg (by omega)])
 ·have:i=s.length:=by simp at hge; omega
  subst this
  rw[MV] at hR
  have:=hR.sl (cap:=.op 1)
  rw[List.length_map] at this
  rw[Sl.str this]
  exact hQ M3 hK
end Go.Ab.Hw
namespace Go.Ab.Hw
open Go Go.Ab Go.Ab.Sm
open Go.Ab.Vl (brk kV pR gD fO iJ gQ Aq)
theorem jJ {M:RM} {b n:Nat} {l cs:List AV} {p:Bool} {e:Nat} {K:RM→Prop} (h:M.heap b=some (.row l p e 0)) (hn:cs.length=n) (hl:l.length=n) (h1:cs.all oneCell=true) :
  aH M (.ptr b 0) (.agg cs) n K=K (M.put b (.row cs p e 0)):=JJ (x:=.agg cs) h hn hl h1
def dM (x:UInt8) : Bool:=decide ((x.toNat:Int) ≥ 48) && decide ((x.toNat:Int)≤57)
def oN (x:UInt8) : Bool:=decide ((x.toNat:Int) ≥ 65) && decide ((x.toNat:Int)≤90)
def xE (x:UInt8) : Bool:=decide ((x.toNat:Int) ≥ 33) && decide ((x.toNat:Int)≤126)
def p32 (x:UInt8) : Bool:=decide ((x.toNat:Int) ≥ 32) && decide ((x.toNat:Int)≤126)
def ru (x:UInt8) : Bool:=(decide ((x.toNat:Int) ≥ 32) && decide ((x.toNat:Int)≤126)) || ((x.toNat:Int) == 9)
def sJ (x:UInt8) : Bool:=(decide ((x.toNat:Int) ≥ 97) && decide ((x.toNat:Int)≤122)) || dM x || ((x.toNat:Int) == 45)
def jE (x:UInt8) : Bool:=dM x || (decide ((x.toNat:Int) ≥ 97) && decide ((x.toNat:Int)≤102))
def oK (p:UInt8→Bool) (c:ai) : Prop:=∀ {M:RM} {x:UInt8} {Q:ah},Q (Bo (p x)) M→c [By x] M Q
theorem Kk:oK dM fun args M Q=>∃ a0,args=[a0]∧mi a0 M Q:=by
 intro M x Q hQ
 refine⟨_,rfl, ?_⟩
 unfold mi
 simp only[dx,dJ]
 exact oH (fun _ k hk=>by simpa only[go_sem] using hk) hQ
theorem J5:oK oN fun args M Q=>∃ a0,args=[a0]∧ma a0 M Q:=by
 intro M x Q hQ
 refine⟨_,rfl, ?_⟩
 unfold ma
 simp only[dx,dJ]
 exact oH (fun _ k hk=>by simpa only[go_sem] using hk) hQ
theorem FC:oK xE fun args M Q=>∃ a0,args=[a0]∧kL a0 M Q:=by
 intro M x Q hQ
 refine⟨_,rfl, ?_⟩
 unfold kL
 simp only[dx,dJ]
 exact oH (fun _ k hk=>by simpa only[go_sem] using hk) hQ
theorem MI:oK p32 fun args M Q=>∃ a0,args=[a0]∧fU a0 M Q:=by
 intro M x Q hQ
 refine⟨_,rfl, ?_⟩
 unfold fU
 simp only[dx,dJ]
 exact oH (fun _ k hk=>by simpa only[go_sem] using hk) hQ
theorem NI:oK ru fun args M Q=>∃ a0,args=[a0]∧iU a0 M Q:=by
 intro M x Q hQ
 refine⟨_,rfl, ?_⟩
 unfold iU
 simp only[dx,dJ]
 refine oH (fun _ k hk=>by simpa only[go_sem] using hk) ?_
 exact CL (fun _ k hk=>by simpa only[go_sem] using hk) hQ
theorem Kh {cd:ai} (hd:oK dM cd) : oK sJ fun args M Q=>∃ a0,args=[a0]∧jf cd a0 M Q:=by
 intro M x Q hQ
 refine⟨_,rfl, ?_⟩
 unfold jf
 simp only[dx,dJ]
 refine oH (fun _ k hk=>by simpa only[go_sem] using hk) ?_
 refine CL (p:=dM x) (fun _ k hk=>hd hk) ?_
 exact CL (fun _ k hk=>by simpa only[go_sem] using hk) hQ
theorem KV {cd:ai} (hd:oK dM cd) : oK jE fun args M Q=>∃ a0,args=[a0]∧lu cd a0 M Q:=by
 intro M x Q hQ
 refine⟨_,rfl, ?_⟩
 unfold lu
 refine hd ?_
 unfold jE at hQ
 cases h:dM x <;> rw[h] at hQ
 ·by_cases h1:(x.toNat:Int) ≥ 97
  ·simpa [go_sem,h1] using hQ
  ·simpa [go_sem,h1] using hQ
 ·simpa [go_sem] using hQ
def lc (p:UInt8→Bool) (f:AV) (c:ai) : Prop:=∀ {M:RM} {s:Str} {Q:ah},s.length<4611686018427387904→(∀ M',ae [] M M'→Q (Bo (s.all p)) M')→c [St s,f] M Q
theorem lZ {T8 g:Nat} {p:UInt8→Bool} {cv:FuncId→ai} (hp:oK p (cv g)) : lc p (.fn (.func g) [] []) fun args M Q=>∃ a0 a1,args=[a0,a1]∧nT T8 cv a0 a1 M Q:=by
 intro M s Q hl hQ
 refine⟨_,_,rfl, ?_⟩
 unfold nT
 simp only[aT,iB,kC]
 have hk1:ae [] M (M.push (.row (BY.row s) true T8 0)):=(ae.refl _ _).push _
 have hr1:Rw BY (M.push (.row (BY.row s) true T8 0)) M.next true T8 s:=Rw.new M s
 generalize M.push (.row (BY.row s) true T8 0)=M1 at *
 have e:∀ i,i<s.length→s.all p=((s.take i).all p && s[i]!.toNat.ble 255 && (s.drop i).all p):=fun i hi=>by
  have:s[i]!.toNat.ble 255=true:=by
   have:=Cj s[i]!
   exact Nat.ble_eq_true_of_le (by omega)
  rw[this,Bool.and_true,← List.all_append,List.take_append_drop]
 refine eG (fun m ys M3=>∃ i:Nat,m=s.length - i∧ys=[N .i64 i]∧i≤s.length∧(s.take i).all p=true∧M3=M1) _ ⟨0,rfl,rfl,Nat.zero_le _,rfl,rfl⟩ ?_
 rintro next m ys M3 hnext ⟨i,rfl,rfl,hi,hA,rfl⟩
 simp only[bB,Au]
 refine dQ (fun h=>?_) fun h=>?_
 ·have hlt:i<s.length:=by simpa using h
  have hc:=hr1.aj hlt
  rw[rH]
  refine⟨by omega,by omega, ?_⟩
  rw[dU]
  refine⟨By s[i],by simpa using hc, ?_⟩
  rw[Aj]
  simp only[List.nil_append,List.append_nil]
  refine hp ?_
  simp only[di]
  have hd:s.drop i=s[i] :: s.drop (i + 1):=List.drop_eq_getElem_cons hlt
  refine dQ (fun h=>?_) fun h=>?_
  ·have hf:p s[i]=false:=by simpa using h
   have:s.all p=false:=by
    rw[← List.take_append_drop i s,List.all_append,hd,List.all_cons,hf]; simp
   rw[← this]; exact hQ _ hk1
  ·have ht:p s[i]=true:=by simpa using h
   rw[add1 (by omega)]
   refine hnext _ _ _ (by omega) ⟨i + 1,rfl,rfl,by omega, ?_,rfl⟩
   rw[List.take_succ_eq_append_getElem hlt,List.all_append,hA]; simp[ht]
 ·have:i=s.length:=by simp at h; omega
  subst this
  rw[List.take_length] at hA
  rw[← hA]; exact hQ _ hk1
def lW (p:Str→Bool) (c:ai) : Prop:=∀ {M:RM} {s:Str} {Q:ah},s.length<4611686018427387904→(∀ M',ae [] M M'→Q (Bo (p s)) M')→c [St s] M Q
def dP (s:Str) : Bool:=gV s 1 40 && (low s).all sJ
theorem wJ {g:Nat} {cw cs ca:ai} (hw:qB cw) (hs:Ah cs) (ha:lc sJ (.fn (.func g) [] []) ca) : lW dP fun args M Q=>∃ a0,args=[a0]∧jL cw cs ca g a0 M Q:=by
 intro M s Q hl hQ
 refine⟨_,rfl, ?_⟩
 unfold jL
 refine hw ?_
 simp only[dx]
 refine BU (P:=ae [] M) (p:=(low s).all sJ) (ae.refl _ _) (fun _ k hk=>?_) hQ
 refine hs (by omega) fun M1 k1=>?_
 exact ha (by rw[low,List.length_map]; exact hl) fun M2 k2=>hk M2 (k1.trans k2)
def trimB (s:Str) : Str:=Lib.trimS s [32,9]
def ES (B:Base) (c:ai) : Prop:=∀ {M:RM} {s:Str} {Q:ah},M.base=B→s.length<4611686018427387904→(∀ M',ae [] M M'→Q (St (trimB s)) M')→c [St s,St [32,9]] M Q
def Cq (B:Base) (p:Str→Bool) (c:ai) : Prop:=∀ {M:RM} {s:Str} {Q:ah},M.base=B→s.length<4611686018427387904→(∀ M',ae [] M M'→Q (Bo (p s)) M')→c [St s] M Q
def bQ (s:Str) : Bool:=(s == trimB s) && s.all ru
theorem uH {B:Base} {g:Nat} {ct ca:ai} (ht:ES B ct) (ha:lc ru (.fn (.func g) [] []) ca) : Cq B bQ fun args M Q=>∃ a0,args=[a0]∧jy ct ca g a0 M Q:=by
 intro M s Q hB hl hQ
 refine⟨_,rfl, ?_⟩
 unfold jy
 refine ht hB hl fun M1 k1=>?_
 simp only[dx,dS]
 refine BU (P:=ae [] M) (p:=s.all ru) k1 (fun _ k hk=>?_) hQ
 exact ha hl fun M2 k2=>hk M2 (k1.trans k2)
def fK (s:Str) : Bool:=gV s 1 8 && s.all oN
theorem Cf {g:Nat} {cw ca:ai} (hw:qB cw) (ha:lc oN (.fn (.func g) [] []) ca) : lW fK fun args M Q=>∃ a0,args=[a0]∧je cw ca g a0 M Q:=by
 intro M s Q hl hQ
 refine⟨_,rfl, ?_⟩
 unfold je
 refine hw ?_
 simp only[dx]
 exact BU (P:=ae [] M) (p:=s.all oN) (ae.refl _ _) (fun _ k hk=>ha hl hk) hQ
def ic (s:Str) : Bool:=pre [47] s && decide ((s.length:Int)≤201) && s.all xE
theorem Eu {g:Nat} {cp ca:ai} (hp:A7 cp) (ha:lc xE (.fn (.func g) [] []) ca) : lW ic fun args M Q=>∃ a0,args=[a0]∧jR cp ca g a0 M Q:=by
 intro M s Q hl hQ
 refine⟨_,rfl, ?_⟩
 unfold jR
 refine hp ?_
 simp only[dx]
 refine oH (p:=decide ((s.length:Int)≤201)) (fun _ k hk=>by simpa only[go_sem] using hk) ?_
 exact BU (P:=ae [] M) (p:=s.all xE) (ae.refl _ _) (fun _ k hk=>ha hl hk) hQ
abbrev Hd:=Str × Str
def HD:Enc Hd:=⟨2,fun h=>[St h.1,St h.2],fun _=>rfl,fun _=>rfl⟩
def eO (s:Str) : Option Hd:=match brk 58 s with
 | none=>none
 | some (a,b)=>match dP a && bQ (trimB b) with
   | true=>some (a,trimB b)
   | false=>none
def Di (B:Base) (c:ai) : Prop:=∀ {M:RM} {s:Str} {Q:ah},M.base=B→s.length≤1000000 →
 (∀ h M',eO s=some h→ae [] M M'→Q (.tup [.agg [St h.1,St h.2],Bo true]) M')→(∀ a b M',eO s=none→ae [] M M'→Q (.tup [.agg [St a,St b],Bo false]) M')→c [St s] M Q
theorem DT (s:Str) : (trimB s).length≤s.length:=by
 have h1:∀ (p:UInt8→Bool) (l:Str),(l.dropWhile p).length≤l.length:=fun p l=>List.IsSuffix.length_le (List.dropWhile_suffix p)
 unfold trimB Lib.trimS Lib.trimLeftS Lib.trimRightS
 refine Nat.le_trans (h1 _ _) ?_
 rw[List.length_reverse]
 refine Nat.le_trans (h1 _ _) ?_
 rw[List.length_reverse]
 exact Nat.le_refl _
theorem IV {x:UInt8} {s a b:Str} (h:brk x s=some (a,b)) : a.length + 1 + b.length=s.length:=by
 rcases Vl.uz x s with⟨h1,_⟩ | ⟨a',b',h1,_,h3,_⟩
 ·rw[h] at h1; cases h1
 ·rw[h] at h1; cases h1
  rw[h3]; simp; omega
theorem Ia {B:Base} {T:Nat} {cc ct cn cg:ai} (hc:kV 58 cc) (ht:ES B ct) (hn:lW dP cn) (hg:Cq B bQ cg) : Di B fun args M Q=>∃ a0,args=[a0]∧lg T cc ct cn cg a0 M Q:=by
 intro M s Q hB hl hQ hQ2
 refine⟨_,rfl, ?_⟩
 unfold lg
 simp only[aT]
 have k0:ae [] M (M.push (.row [St [],St []] false T 0)):=(ae.refl _ _).push _
 have n0:(M.push (.row [St [],St []] false T 0)).heap M.next=some (.row [St [],St []] false T 0):=by simp[RM.push]
 have l0:M.next<(M.push (.row [St [],St []] false T 0)).next:=by simp[RM.push]
 generalize M.push (.row [St [],St []] false T 0)=M0 at *
 refine hc (by omega) ?_
 have main:∀ (a b:Str) (ok:Bool),a.length≤s.length→b.length≤s.length →
   (ok=true→brk 58 s=some (a,b))→(ok=false→brk 58 s=none) →
   ct [St b,St [32,9]] M0 (fun t16 M_1=>gH [(St []),(St [])] [(0,1,St a),(1,1,t16)] fun t17=>bf (.row [(St []),(St [])] false T 0) (fun b=>.ptr b 0) M_1 fun t7 M_2=>aH M_2 t7 t17 2 fun M_3=>bu M_3 t7 2 fun t18=>lN (Bo ok) true (fun k=>aQ t7 0 fun t21=>k t21 M_3 none) (fun k=>k .undef M_3 none) fun RJ M_5 b=>lN (Bo ok) true (fun k_6=>aj M_5 RJ fun t22=>k_6 t22 M_5 none) (fun k=>k .undef M_5 none) fun Rs M_8 b_9=>aa (Bo ok) true (fun TR=>cn [Rs] M_8 fun t23 NH=>TR t23 NH) (fun k=>k .undef M_8) fun QO I4=>bu I4 t7 2 fun P5=>(P5=t18∧ay (Bo ok) QO (Bo false) fun t24=>lN t24 true (fun SY=>aQ t7 1 fun t26=>SY t26 I4 none) (fun k=>k .undef I4 none) fun PH MO b_17=>lN t24 true (fun SV=>aj MO PH fun t27=>SV t27 MO none) (fun k=>k .undef MO none) fun Ps J7 b_21=>aa t24 true (fun TN=>cg [Ps] J7 fun t28 Nq=>TN t28 Nq) (fun k=>k .undef J7) fun Px PD=>bu PD t7 2 fun Qc=>(Qc=t18∧ay t24 Px (Bo false) fun t29=>aH PD (.ptr M.next 0) t18 2 fun AP=>bu AP (.ptr M.next 0) 2 fun res=>Q (.tup [res,t29]) AP))):=by
  intro a b ok ha hb e1 e2
  have htb:=DT b
  refine ht (k0.base.trans hB) (by omega) fun M1 k1=>?_
  have n1:=k1.aO n0 l0 (by simp)
  have l1:M.next<M1.next:=Nat.lt_of_lt_of_le l0 k1.next
  rw[jl]
  refine⟨[St a,St (trimB b)],Bi rfl rfl rfl rfl, ?_⟩
  simp only[aT]
  have n2:(M1.push (.row [St [],St []] false T 0)).heap M1.next=some (.row [St [],St []] false T 0):=by simp[RM.push]
  rw[jJ n2 (by rfl) (by rfl) (by rfl)]
  have k3:ae [] M1 ((M1.push (.row [St [],St []] false T 0)).put M1.next (.row [St a,St (trimB b)] false T 0)):=((ae.refl _ _).push _).new _ (Nat.le_refl _)
  have n3:((M1.push (.row [St [],St []] false T 0)).put M1.next (.row [St a,St (trimB b)] false T 0)).heap M1.next=some (.row [St a,St (trimB b)] false T 0):=aN _
  have l3:M1.next<((M1.push (.row [St [],St []] false T 0)).put M1.next (.row [St a,St (trimB b)] false T 0)).next:=by simp[RM.push,RM.put]
  generalize (M1.push (.row [St [],St []] false T 0)).put M1.next (.row [St a,St (trimB b)] false T 0)=M3 at *
  rw[bJ n3 (by rfl)]
  have kM:ae [] M M3:=k0.trans (k1.trans k3)
  have fin:∀ (M5:RM) (r:Bool),ae [] M3 M5→((eO s=some (a,trimB b)∧r=true)∨(eO s=none∧r=false)) →
    aH M5 (.ptr M.next 0) (.agg [St a,St (trimB b)]) 2 fun AP=>bu AP (.ptr M.next 0) 2 fun res=>Q (.tup [res,Bo r]) AP:=by
   intro M5 r k5 hr
   have n5:=k5.aO (k3.aO n1 l1 (by simp)) (Nat.lt_of_lt_of_le l1 k3.next) (by simp)
   rw[jJ n5 (by rfl) (by rfl) (by rfl)]
   rw[bJ (aN _) (by rfl)]
   have kk:ae [] M (M5.put M.next (.row [St a,St (trimB b)] false T 0)):=(kM.trans k5).new _ (Nat.le_refl _)
   rcases hr with⟨h1,rfl⟩ | ⟨h1,rfl⟩
   ·exact hQ _ _ h1 kk
   ·exact hQ2 _ _ _ h1 kk
  cases ok with
  | false =>
    have e:eO s=none:=by unfold eO; rw[e2 rfl]
    have hf:=fin M3 false (ae.refl _ _) (.inr ⟨e,rfl⟩)
    simp only[xQ,jq]
    rw[bJ n3 (by rfl)]
    refine⟨rfl, ?_⟩
    simp only[dF,xQ,jq]
    rw[bJ n3 (by rfl)]
    refine⟨rfl, ?_⟩
    try simp only[dF]
    exact hf
  | true =>
    simp only[Ed,jb]
    rw[aI n3 (by rfl:([St a,St (trimB b)] : List AV)[0]?=some (St a))]
    simp only[cK]
    refine hn (by omega) fun M4 k4=>?_
    try dsimp only
    have n4:=k4.aO n3 l3 (by simp)
    have l4:M1.next<M4.next:=Nat.lt_of_lt_of_le l3 k4.next
    rw[bJ n4 (by rfl)]
    refine⟨rfl, ?_⟩
    simp only[bY]
    cases hgn:dP a with
    | false =>
      have e:eO s=none:=by unfold eO; rw[e1 rfl]; simp[hgn]
      simp only[xQ,jq]
      rw[bJ n4 (by rfl)]
      refine⟨rfl, ?_⟩
      simp only[dF]
      exact fin M4 false k4 (.inr ⟨e,rfl⟩)
    | true =>
      simp only[Ed]
      rw[aI n4 (by rfl:([St a,St (trimB b)] : List AV)[1]?=some (St (trimB b)))]
      simp only[cK]
      refine hg ((k0.trans (k1.trans (k3.trans k4))).base.trans hB) (by omega) fun M5 k5=>?_
      try dsimp only
      have n5:=k5.aO n4 l4 (by simp)
      rw[bJ n5 (by rfl)]
      refine⟨rfl, ?_⟩
      simp only[bY]
      refine fin M5 _ (k4.trans k5) ?_
      unfold eO
      rw[e1 rfl]
      simp only[hgn,Bool.true_and]
      cases bQ (trimB b) <;> simp
 unfold pR
 cases hb:brk 58 s with
 | none =>
   simp only[aY,aZ,dW]
   exact main s [] false (Nat.le_refl _) (by simp) (fun h=>by cases h) (fun _=>hb)
 | some p =>
   obtain⟨a,b⟩:=p
   have:=IV hb
   simp only[aY,aZ,dW]
   exact main a b true (by omega) (by omega) (fun _=>hb) (fun h=>by cases h)
end Go.Ab.Hw
