/- Part 3 of the ground of the proofs of this seat (texts R9 to H2). By an AI agent. -/
import Derived.Test.YtmjcgbaacndblaaGreatDoorHwl2
import Derived.Scope
import Derived.ChangeShapes
import Derived.OpenShut
import Derived.WideKeyArgs
import GoSem.ClaimJoined
import Derived.Lib.Bytealg
import Derived.Lib.DecodeN
import Derived.Lib.ValidU
import Derived.Lib.ValidLaws
import Derived.Carry
import Derived.JoinedCond
import Derived.SizedLaws
import GoSem.Extern.Atomic
import GoSem.Extern.MapsClone
import Derived.Lib.SlTrimSet
set_option linter.unusedVariables false
set_option linter.unusedSimpArgs false
namespace Go.Ab
open Go Go.RowKit
def FI:Option Tmp→Nat
 | some d=>2 ^ d
 | none=>0
def KJ:Operand→Nat
 | .tmp t=>2 ^ t
 | _=>0
def L6:List Operand→Nat
 | []=>0
 | x :: xs=>KJ x ||| L6 xs
def MI (L m:Nat) : Nat:=L ^^^ (L &&& m)
def A8:List Oper→Nat
 | []=>0
 | o :: os=>FI o.dst ||| A8 os
def dZ:Nat→Code→Nat
 | 0,_=>0
 | f + 1,c=>match c with
   | .region _ ops _=>A8 ops.toList
   | .seq a b=>dZ f a ||| dZ f b
   | .cond _ a b=>dZ f a ||| dZ f b
   | .block _ c=>dZ f c
   | .loop c=>dZ f c
   | .scope c=>dZ f c
   | _=>0
def HZ:List Oper→Nat→Nat
 | [],L=>L
 | o :: os,L=>MI (HZ os L) (FI o.dst) ||| L6 o.op.operands.toList
def LU:List (Nat × Nat)→Nat→Nat
 | [],_=>0
 | (i,L) :: r,id=>match Nat.beq i id with
   | true=>L
   | false=>LU r id
def eH (ret:Nat) : Nat→List (Nat × Nat)→Code→Nat→Nat
 | 0,_,_,_=>0
 | f + 1,env,c,L=>match c with
   | .skip=>L
   | .region _ ops _=>HZ ops.toList L
   | .seq a b=>eH ret f env a (eH ret f env b L)
   | .cond c a b=>KJ c ||| eH ret f env a L ||| eH ret f env b L
   | .block id c=>eH ret f ((id,L) :: env) c L
   | .loop c=>eH ret f env c (eH ret f env c 0)
   | .exit id=>LU env id
   | .ret=>ret
   | .scope c=>eH ret f env c L
   | .label _=>L
   | _=>0
def cap2 (n:Nat) : Nat:=match n with | 0=>0 | 1=>1 | _=>2
def nG (id:Nat) : Nat→Code→Nat
 | 0,_=>2
 | f + 1,c=>match c with
   | .seq a b=>cap2 (nG id f a + nG id f b)
   | .cond _ a b=>cap2 (nG id f a + nG id f b)
   | .block _ c=>nG id f c
   | .loop c=>nG id f c
   | .exit i=>match Nat.beq i id with | true=>1 | false=>0
   | _=>0
def qi:Nat→Code→Nat
 | 0,_=>2
 | f + 1,c=>match c with
   | .skip=>1
   | .region _ _ _=>1
   | .seq a b=>cap2 (qi f a * qi f b)
   | .cond _ a b=>cap2 (qi f a + qi f b)
   | .block id c=>cap2 (qi f c + nG id f c)
   | .scope c=>qi f c
   | .label _=>1
   | _=>0
def uu (m:Nat) : Nat→Nat→List Nat
 | _,0=>[]
 | i,n + 1=>match Nat.testBit m i with
   | true=>i :: uu m (i + 1) n
   | false=>uu m (i + 1) n
def bitsOf (m nt:Nat) : List Nat:=uu m 0 nt
def sZ (T:Tree AV) : List Nat→List AV
 | []=>[]
 | t :: ts=>(T.get t).getD .top :: sZ T ts
def ak:List AV→Nat→AV
 | [],_=>.top
 | x :: _,0=>x
 | _ :: xs,n + 1=>ak xs n
def uO (T:Tree AV) : List Nat→Tree AV
 | []=>T
 | t :: ts=>uO (T.set t .top) ts
def Fz (T:Tree AV) (xs:List AV) : Nat→List Nat→Tree AV
 | _,[]=>T
 | i,t :: ts=>Fz (T.set t (ak xs i)) xs (i + 1) ts
def vH (T:Tree AV) (asg vs:List Nat) (xs:List AV) : Tree AV:=Fz (uO T asg) xs 0 vs
def ax (x:AV) (p q:Prop) : Prop :=
 match x with
 | .sc (.bool b)=>(b=true→p)∧(b=false→q)
 | _=>False
def dG (f:(List AV→RM→Prop)→Prop) (g:List AV→RM→Prop) : Prop:=f g
def fw (body:(List AV→RM→Prop)→List AV→RM→Prop) (xs:List AV) (M:RM) : Prop :=
 ∃ (I:Nat→List AV→RM→Prop) (n:Nat),I n xs M∧∀ m ys M',I m ys M'→body (fun zs M''=>∃ m',m'<m∧I m' zs M'') ys M'
abbrev K3:=Ex→Tree AV→RM→Prop
def wpC (P:Program) (nt ret:Nat) : Nat→Code→List (Nat × Nat)→Nat→Tree AV→RM→K3→Prop
 | 0,_,_,_,_,_,_=>False
 | f + 1,c,env,L,T,M,K=>match c with
   | .skip=>K .normal T M
   | .region _ ops false=>Dc P nt ops ops.toList T M (fun T' M'=>K .normal T' M')
   | .region _ ops true=>Jm P nt ops T M (fun T' M'=>K .normal T' M')
   | .seq a b=>match Nat.ble (qi f a) 1 with
     | true=>wpC P nt ret f a env (eH ret f env b L) T M (fun e T' M'=>match e with
       | .normal=>wpC P nt ret f b env L T' M' K
       | e=>K e T' M')
     | false=>dG (fun J=>wpC P nt ret f a env (eH ret f env b L) T M (fun e T' M'=>match e with
       | .normal=>J (sZ T' (bitsOf (dZ f a &&& eH ret f env b L) nt)) M'
       | e=>K e T' M'))
       (fun xs M'=>wpC P nt ret f b env L (vH T (bitsOf (dZ f a) nt) (bitsOf (dZ f a &&& eH ret f env b L) nt) xs) M' K)
   | .cond c a b=>ax (pV T c) (wpC P nt ret f a env L T M K) (wpC P nt ret f b env L T M K)
   | .block id c=>wpC P nt ret f c ((id,L) :: env) L T M (fun e T' M'=>match e with
     | .exit i=>match Nat.beq i id with
       | true=>K .normal T' M'
       | false=>K (.exit i) T' M'
     | e=>K e T' M')
   | .loop c=>fw (fun next xs M'=>wpC P nt ret f c env (eH ret f env c (eH ret f env c 0)) (vH T (bitsOf (dZ f c) nt) (bitsOf (dZ f c &&& eH ret f env c (eH ret f env c 0)) nt) xs) M'
     (fun e T' M'=>match e with
      | .normal=>next (sZ T' (bitsOf (dZ f c &&& eH ret f env c (eH ret f env c 0)) nt)) M'
      | e=>K e T' M'))
     (sZ T (bitsOf (dZ f c &&& eH ret f env c (eH ret f env c 0)) nt)) M
   | .exit id=>K (.exit id) T M
   | .ret=>K .ret T M
   | .scope c=>wpC P nt ret f c env L T M K
   | .label _=>K .normal T M
   | _=>False
def Ms (P:Program) (T:Tree AV) (M:RM) (r:ResultVar) (K:AV→Prop) : Prop :=
 match r with
 | .tmp t=>K ((T.get t).getD .top)
 | .cell a t=>match bL P t with
   | some false=>aj M ((T.get a).getD .top) K
   | some true=>match aJ P t with
     | some n=>bF M ((T.get a).getD .top) n K
     | none=>False
   | none=>False
def MQ (P:Program) (T:Tree AV) (M:RM) : List ResultVar→(List AV→Prop)→Prop
 | [],K=>K []
 | r :: rs,K=>Ms P T M r (fun v=>MQ P T M rs (fun vs=>K (v :: vs)))
def Qo (Q:ah) (M:RM) : List AV→Prop
 | [v]=>Q v M
 | vs=>Q (.tup vs) M
def De:List ResultVar→Nat
 | []=>0
 | .tmp t :: rs=>2 ^ t ||| De rs
 | .cell a _ :: rs=>2 ^ a ||| De rs
def Kw (P:Program) (fn:Func) (c:Code) (args:List AV) (M:RM) (Q:ah) : Prop :=
 wpC P (args.length + (fn.ntmps - args.length)) (De fn.results.toList) 1000 c [] 0 (Tree.ofList args 0 .leaf) M
  (fun e T M'=>match e with
   | .exit _=>False
   | _=>MQ P T M' fn.results.toList (Qo Q M'))
section
variable {P:Program} {nt ret:Nat}
def J5 (P:Program) (nt:Nat) (M0:RM) (ρ0:Ren) (w0:World) (T:Tree AV) (asg:Nat) (K:K3) (e:Exit) (a:Act) (w:World) : Prop :=
 ∃ x T' M' ρ',e=ND x∧After P M0 ρ0 w0 M' ρ' w∧fA ρ' nt T' a∧(∀ t,Nat.testBit asg t=false→T'.get t=T.get t)∧K x T' M'
theorem FM {T:Tree AV} : ∀ (vs:List Nat) (i:Nat),ak (sZ T vs) i=match vs[i]? with | some t=>(T.get t).getD .top | none=>.top
 | [],i=>by simp[sZ,ak]
 | t :: vs,0=>by simp[sZ,ak]
 | t :: vs,i + 1=>by simp[sZ,ak,FM vs i]
theorem xD:∀ (asg:List Nat) (T:Tree AV) (t:Nat),(uO T asg).get t=if t∈asg then some .top else T.get t
 | [],T,t=>by simp[uO]
 | d :: asg,T,t=>by
   simp only[uO,xD asg,Tree.aU,List.mem_cons]
   by_cases h1:t∈asg
   ·simp[h1]
   ·by_cases h2:t=d <;> simp[h1,h2]
theorem Ag:∀ (vs:List Nat) (T:Tree AV) (xs:List AV) (i t:Nat),(t ∉ vs∧(Fz T xs i vs).get t=T.get t)∨∃ j,vs[j]?=some t∧(Fz T xs i vs).get t=some (ak xs (i + j))
 | [],T,xs,i,t=>.inl ⟨by simp,rfl⟩
 | d :: vs,T,xs,i,t=>by
   simp only[Fz]
   rcases Ag vs (T.set d (ak xs i)) xs (i + 1) t with⟨h1,h2⟩ | ⟨j,h1,h2⟩
   ·rw[Tree.aU] at h2
    by_cases e:t=d
    ·rw[if_pos e] at h2
     exact .inr ⟨0,by simp[e],h2⟩
    ·rw[if_neg e] at h2
     exact .inl ⟨by simp[e,h1],h2⟩
   ·exact .inr ⟨j + 1,by simpa using h1,by rw[h2]; congr 2; omega⟩
theorem uL {m:Nat} : ∀ (n i t:Nat),t∈uu m i n↔i≤t∧t<i + n∧Nat.testBit m t=true
 | 0,i,t=>by simp[uu]; omega
 | n + 1,i,t=>by
   simp only[uu]
   split
   ·rename_i h
    rw[List.mem_cons,uL n (i + 1) t]
    constructor
    ·rintro(rfl | ⟨a,b,c⟩)
     ·exact⟨Nat.le_refl _,by omega,h⟩
     ·exact⟨by omega,by omega,c⟩
    ·rintro⟨a,b,c⟩
     by_cases e:t=i
     ·exact .inl e
     ·exact .inr ⟨by omega,by omega,c⟩
   ·rename_i h
    rw[uL n (i + 1) t]
    constructor
    ·rintro⟨a,b,c⟩; exact⟨by omega,by omega,c⟩
    ·rintro⟨a,b,c⟩
     have:t≠i:=fun e=>by subst e; rw[h] at c; cases c
     exact⟨by omega,by omega,c⟩
theorem pI {m n t:Nat} : t∈bitsOf m n↔t<n∧Nat.testBit m t=true:=by
 unfold bitsOf; rw[uL]; simp
theorem xZ {ρ:Ren} {T T' : Tree AV} {a:Act} {asg:Nat} {vs:List Nat} (h:fA ρ nt T' a) (hge:∀ t,nt≤t→ag ρ ((T.get t).getD .top) undef) (hk:∀ t,Nat.testBit asg t=false→T'.get t=T.get t) : fA ρ nt (vH T (bitsOf asg nt) vs (sZ T' vs)) a:=by
 refine⟨h.size,fun t=>?_,h.defers⟩
 unfold vH
 rcases Ag vs (uO T (bitsOf asg nt)) (sZ T' vs) 0 t with⟨_,h2⟩ | ⟨j,h1,h2⟩
 ·rw[h2,xD]
  split
  ·exact .top _
  ·rename_i hm
   by_cases hb:Nat.testBit asg t=true
   ·have hge' : nt≤t:=by
     rcases Nat.lt_or_ge t nt with hlt | hge
     ·exact absurd (pI.2 ⟨hlt,hb⟩) hm
     ·exact hge
    have hv:a.tmps.getD t undef=undef:=by
     rw[Array.getD_eq_getD_getElem?,Array.getElem?_eq_none (by rw[h.size]; exact hge')]; rfl
    rw[hv]; exact hge t hge'
   ·rw[← hk t (by simpa using hb)]
    exact h.val t
 ·rw[h2,Nat.zero_add,FM,h1]
  exact h.val t
theorem Cg {T:Tree AV} {asg:Nat} {vs:List Nat} {xs:List AV} (hvs:∀ t∈vs,Nat.testBit asg t=true) (t:Nat) (h:Nat.testBit asg t=false) : (vH T (bitsOf asg nt) vs xs).get t=T.get t:=by
 unfold vH
 rcases Ag vs (uO T (bitsOf asg nt)) xs 0 t with⟨_,h2⟩ | ⟨j,h1,h2⟩
 ·rw[h2,xD,if_neg]
  intro hm
  rw[(pI.1 hm).2] at h; cases h
 ·have:=hvs t (List.mem_of_getElem? h1)
  rw[h] at this; cases this
theorem fA.ge {ρ:Ren} {T:Tree AV} {a:Act} (h:fA ρ nt T a) : ∀ t,nt≤t→ag ρ ((T.get t).getD .top) undef:=by
 intro t ht
 have:=h.val t
 rw[Array.getD_eq_getD_getElem?,Array.getElem?_eq_none (by rw[h.size]; exact ht)] at this
 exact this
theorem zN {c:Code} {Q:Exit→Act→World→Prop} : ∀ {n m:Nat} {a:Act} {w:World},n≤m→Code.rounds P c Q n a w→Code.rounds P c Q m a w
 | 0,_,_,_,_,h=>h.elim
 | n + 1,m + 1,a,w,hle,h=>by
   rw[rounds_succ] at h ⊢
   refine wp_mono h fun e a' w' hp=>?_
   cases e with
   | normal=>exact zN (Nat.le_of_succ_le_succ hle) hp
   | exit id=>exact hp
   | ret=>exact hp
   | goto l=>exact hp
   | panic c=>exact hp
   | outgrown=>exact hp
theorem vJ {t:Nat} : ∀ (l:List Oper),Nat.testBit (A8 l) t=false→∀ o∈l,o.dst≠some t
 | [],_,o,ho=>by cases ho
 | x :: l,h,o,ho=>by
   simp only[A8,Nat.testBit_or,Bool.or_eq_false_iff] at h
   rcases List.mem_cons.1 ho with rfl | ho
   ·intro e
    rw[e] at h
    simp[FI,Nat.testBit_two_pow] at h
   ·exact vJ l h.2 o ho
theorem KI {ρ:Ren} {x:AV} {u:Value} {p q:Prop} (h:ax x p q) (hx:ag ρ x u) : ∃ b,u=.bool b∧(b=true→p)∧(b=false→q):=by
 unfold ax at h
 split at h <;> first | (cases h; done) | skip
 rename_i b
 exact⟨b,(aB hx).1,h.1,h.2⟩
theorem La (hP:yA P) : ∀ (f:Nat) (c:Code) (env:List (Nat × Nat)) (L:Nat) (T:Tree AV) (M:RM) (K:K3),wpC P nt ret f c env L T M K →
  ∀ (M0:RM) (ρ0:Ren) (w0:World) (ρ:Ren) (a:Act) (w:World),After P M0 ρ0 w0 M ρ w→fA ρ nt T a→c.wp P (J5 P nt M0 ρ0 w0 T (dZ f c) K) a w:=by
 intro f
 induction f with
 | zero=>intro c env L T M K h; exact h.elim
 | succ f ih =>
   intro c env L T M K h M0 ρ0 w0 ρ a w hM hA
   cases c with
   | skip=>exact wp_skip ⟨.normal,T,M,ρ,rfl,hM,hA,fun _ _=>rfl,h⟩
   | region id ops d =>
     cases d with
     | false =>
       refine wp_region ?_
       have:=uN (nt:=nt) hP (ops:=ops) (Q:=J5 P nt M0 ρ0 w0 T (dZ (f + 1) (.region id ops false)) K) (K:=fun T' M'=>K .normal T' M') (M0:=M0) (ρ0:=ρ0) (w0:=w0) (T0:=T)
        (fun T' M' ρ' a' w' k1 k2 k3 k4=>⟨.normal,T',M',ρ',rfl,k1,k2,fun t ht=>k4 t (vJ _ ht),k3⟩) ops.toList 0 (by simp) hA hM (fun _ _=>rfl) h
       rw[Array.length_toList,← List.range_eq_range'] at this
       exact this
     | true =>
       exact GI (nt:=nt) (T:=T) hP hM hA (fun T' M' ρ' a' w' k1 k2 k3 k4=>⟨.normal,T',M',ρ',rfl,k1,k2,fun t ht=>k4 t (vJ _ ht),k3⟩) h
   | seq c1 c2 =>
     simp only[wpC] at h
     refine wp_seq ?_
     split at h
     ·refine wp_mono (ih c1 _ _ _ _ _ h M0 ρ0 w0 ρ a w hM hA) fun e a' w' hp=>?_
      obtain⟨x,T1,M1,ρ1,rfl,k1,k2,k3,k4⟩:=hp
      cases x with
      | normal =>
        refine wp_mono (ih c2 _ _ _ _ _ k4 M0 ρ0 w0 ρ1 a' w' k1 k2) fun e a2 w2 hp=>?_
        obtain⟨x,T2,M2,ρ2,he,q1,q2,q3,q4⟩:=hp
        exact⟨x,T2,M2,ρ2,he,q1,q2,fun t ht=>by
         simp only[dZ,Nat.testBit_or,Bool.or_eq_false_iff] at ht
         rw[q3 t ht.2,k3 t ht.1],q4⟩
      | exit i=>exact⟨.exit i,T1,M1,ρ1,rfl,k1,k2,fun t ht=>by
        simp only[dZ,Nat.testBit_or,Bool.or_eq_false_iff] at ht
        exact k3 t ht.1,k4⟩
      | ret=>exact⟨.ret,T1,M1,ρ1,rfl,k1,k2,fun t ht=>by
        simp only[dZ,Nat.testBit_or,Bool.or_eq_false_iff] at ht
        exact k3 t ht.1,k4⟩
     ·unfold dG at h
      refine wp_mono (ih c1 _ _ _ _ _ h M0 ρ0 w0 ρ a w hM hA) fun e a' w' hp=>?_
      obtain⟨x,T1,M1,ρ1,rfl,k1,k2,k3,k4⟩:=hp
      have hge:∀ t,nt≤t→ag ρ1 ((T.get t).getD .top) undef:=fun t ht=>by
       have h1:=k2.ge t ht
       by_cases hb:Nat.testBit (dZ f c1) t=false
       ·rw[k3 t hb] at h1; exact h1
       ·have h0:=hA.ge t ht
        have hu:∀ (ρ ρ' : Ren) (x:AV),ag ρ x undef→ag ρ' x undef:=by
         intro ρ ρ' x hx
         unfold undef at hx ⊢
         cases hx with
         | top=>exact .top _
         | sc v p=>exact .sc _ p
         | tup xs vs a=>cases a; exact .tup _ _ .nil
        exact hu _ _ _ h0
      cases x with
      | normal =>
        refine wp_mono (ih c2 _ _ _ _ _ k4 M0 ρ0 w0 ρ1 a' w' k1 (xZ k2 hge k3)) fun e a2 w2 hp=>?_
        obtain⟨x,T2,M2,ρ2,he,q1,q2,q3,q4⟩:=hp
        refine⟨x,T2,M2,ρ2,he,q1,q2,fun t ht=>?_,q4⟩
        simp only[dZ,Nat.testBit_or,Bool.or_eq_false_iff] at ht
        rw[q3 t ht.2]
        refine Cg (fun t' ht'=>?_) t ht.1
        have:=(pI.1 ht').2
        rw[Nat.testBit_and,Bool.and_eq_true] at this
        exact this.1
      | exit i=>exact⟨.exit i,T1,M1,ρ1,rfl,k1,k2,fun t ht=>by
        simp only[dZ,Nat.testBit_or,Bool.or_eq_false_iff] at ht
        exact k3 t ht.1,k4⟩
      | ret=>exact⟨.ret,T1,M1,ρ1,rfl,k1,k2,fun t ht=>by
        simp only[dZ,Nat.testBit_or,Bool.or_eq_false_iff] at ht
        exact k3 t ht.1,k4⟩
   | cond cnd c1 c2 =>
     simp only[wpC] at h
     obtain⟨b,hb,h1,h2⟩:=KI h (DR hA cnd)
     cases b with
     | true =>
       refine wp_cond_true hb (wp_mono (ih c1 _ _ _ _ _ (h1 rfl) M0 ρ0 w0 ρ a w hM hA) fun e a' w' hp=>?_)
       obtain⟨x,T1,M1,ρ1,he,k1,k2,k3,k4⟩:=hp
       exact⟨x,T1,M1,ρ1,he,k1,k2,fun t ht=>by
         simp only[dZ,Nat.testBit_or,Bool.or_eq_false_iff] at ht
         exact k3 t ht.1,k4⟩
     | false =>
       refine wp_cond_false hb (wp_mono (ih c2 _ _ _ _ _ (h2 rfl) M0 ρ0 w0 ρ a w hM hA) fun e a' w' hp=>?_)
       obtain⟨x,T1,M1,ρ1,he,k1,k2,k3,k4⟩:=hp
       exact⟨x,T1,M1,ρ1,he,k1,k2,fun t ht=>by
         simp only[dZ,Nat.testBit_or,Bool.or_eq_false_iff] at ht
         exact k3 t ht.2,k4⟩
   | block id c1 =>
     simp only[wpC] at h
     refine wp_block (wp_mono (ih c1 _ _ _ _ _ h M0 ρ0 w0 ρ a w hM hA) fun e a' w' hp=>?_)
     obtain⟨x,T1,M1,ρ1,rfl,k1,k2,k3,k4⟩:=hp
     cases x with
     | normal=>exact⟨.normal,T1,M1,ρ1,rfl,k1,k2,k3,k4⟩
     | ret=>exact⟨.ret,T1,M1,ρ1,rfl,k1,k2,k3,k4⟩
     | exit i =>
       simp only at k4
       split at k4
       ·rename_i he
        have he:=bK he
        subst he
        simp only[ND,Exit.inBlock,if_true]
        exact⟨.normal,T1,M1,ρ1,rfl,k1,k2,k3,k4⟩
       ·rename_i he
        have he:=BX he
        simp only[ND,Exit.inBlock,if_neg he]
        exact⟨.exit i,T1,M1,ρ1,rfl,k1,k2,k3,k4⟩
   | loop c1 =>
     simp only[wpC] at h
     obtain⟨I,n,hI,hbody⟩:=h
     have hvs:∀ t∈bitsOf (dZ f c1 &&& eH ret f env c1 (eH ret f env c1 0)) nt,Nat.testBit (dZ f c1) t=true:=fun t' ht'=>by
      have:=(pI.1 ht').2
      rw[Nat.testBit_and,Bool.and_eq_true] at this
      exact this.1
     generalize hv:bitsOf (dZ f c1 &&& eH ret f env c1 (eH ret f env c1 0)) nt=vs at hI hbody hvs
     have hu:∀ (ρ ρ' : Ren) (x:AV),ag ρ x undef→ag ρ' x undef:=by
      intro ρ ρ' x hx
      unfold undef at hx ⊢
      cases hx with
      | top=>exact .top _
      | sc v p=>exact .sc _ p
      | tup xs vs a=>cases a; exact .tup _ _ .nil
     have hge:∀ (ρ1:Ren) t,nt≤t→ag ρ1 ((T.get t).getD .top) undef:=fun ρ1 t ht=>hu _ _ _ (hA.ge t ht)
     have key:∀ (m:Nat) (ys:List AV) (M1:RM) (ρ1:Ren) (a1:Act) (w1:World),I m ys M1→After P M0 ρ0 w0 M1 ρ1 w1→fA ρ1 nt (vH T (bitsOf (dZ f c1) nt) vs ys) a1 →
       Code.rounds P c1 (J5 P nt M0 ρ0 w0 T (dZ (f + 1) (.loop c1)) K) (m + 1) a1 w1:=by
      intro m
      induction m using Nat.strongRecOn with
      | _ m ihm =>
        intro ys M1 ρ1 a1 w1 hIm hM1 hA1
        rw[rounds_succ]
        refine wp_mono (ih c1 _ _ _ _ _ (hbody m ys M1 hIm) M0 ρ0 w0 ρ1 a1 w1 hM1 hA1) fun e a' w' hp=>?_
        obtain⟨x,T2,M2,ρ2,rfl,k1,k2,k3,k4⟩:=hp
        have k3' : ∀ t,Nat.testBit (dZ f c1) t=false→T2.get t=T.get t:=fun t ht=>by rw[k3 t ht]; exact Cg hvs t ht
        cases x with
        | normal =>
          obtain⟨m',hlt,hI'⟩:=k4
          exact zN (by omega) (ihm m' hlt _ M2 ρ2 a' w' hI' k1 (xZ k2 (hge ρ2) k3'))
        | exit i=>exact⟨.exit i,T2,M2,ρ2,rfl,k1,k2,k3',k4⟩
        | ret=>exact⟨.ret,T2,M2,ρ2,rfl,k1,k2,k3',k4⟩
     exact wp_loop_rounds _ (key n _ M ρ a w hI hM (xZ hA (hge ρ) fun _ _=>rfl))
   | exit id=>exact wp_exit ⟨.exit id,T,M,ρ,rfl,hM,hA,fun _ _=>rfl,h⟩
   | ret=>exact wp_ret ⟨.ret,T,M,ρ,rfl,hM,hA,fun _ _=>rfl,h⟩
   | rangeFunc=>simp[wpC] at h
   | scope c1 =>
     simp only[wpC] at h
     refine wp_scope_straight (wp_mono (ih c1 _ _ _ _ _ h M0 ρ0 w0 ρ a w hM hA) fun e a' w' hp=>?_)
     obtain⟨x,T1,M1,ρ1,rfl,k1,k2,k3,k4⟩:=hp
     cases x with
     | normal=>exact⟨.normal,T1,M1,ρ1,rfl,k1,k2,k3,k4⟩
     | exit i=>exact⟨.exit i,T1,M1,ρ1,rfl,k1,k2,k3,k4⟩
     | ret=>exact⟨.ret,T1,M1,ρ1,rfl,k1,k2,k3,k4⟩
   | label l=>exact wp_label ⟨.normal,T,M,ρ,rfl,hM,hA,fun _ _=>rfl,h⟩
   | goto=>simp[wpC] at h
   | refuse=>simp[wpC] at h
theorem Jv {ρ:Ren} {T:Tree AV} {M:RM} {a:Act} {w:World} (hA:fA ρ nt T a) (hw:bz P ρ M w) {r:ResultVar} {K:AV→Prop} (h:Ms P T M r K) :
  ∃ v v',(yL a.tmps r).run P w=.ok v' w∧ag ρ v v'∧K v:=by
 cases r with
 | tmp t=>exact⟨_,_,rfl,hA.val t,h⟩
 | cell x t =>
   simp only[Ms] at h
   have hv:=hA.val x
   split at h <;> first | (cases h; done) | skip
   ·rename_i ha
    obtain⟨b,p,v,hx,hl,hk⟩:=h
    rw[hx] at hv
    obtain⟨i,hb,hc⟩:=bQ hv
    obtain⟨u,hu,hcell⟩:=xB hw hb hl
    refine⟨v,u, ?_,hu,hk⟩
    simp only[yL,hc,asAddr,Sem.run_bind,Sem.run_pure,Result.andThen_ok,loadVar,fG ha,Bool.false_eq_true,if_false,load,Sem.run,hcell]
   ·rename_i ha
    split at h <;> first | (cases h; done) | skip
    rename_i n hs
    obtain⟨b,p,xs,hx,hl,hk⟩:=h
    rw[hx] at hv
    obtain⟨i,hb,hc⟩:=bQ hv
    obtain⟨vs,hr,hlen,_,hrun⟩:=RM.jl (P:=P) hw hb hl
    exact⟨.agg xs,.agg ⟨vs⟩,by simp only[yL,hc,asAddr,Sem.run_bind,Sem.run_pure,Result.andThen_ok,loadVar,fG ha,if_true,bB hs,hrun],.agg _ _ hr,hk⟩
theorem uY {ρ:Ren} {T:Tree AV} {M:RM} {a:Act} {w:World} (hA:fA ρ nt T a) (hw:bz P ρ M w) : ∀ (rs:List ResultVar) (K:List AV→Prop),MQ P T M rs K →
  ∃ vs us,(rs.mapM (yL a.tmps)).run P w=.ok us w∧aC ρ vs us∧K vs
 | [],K,h=>⟨[],[],by simp,.nil,h⟩
 | r :: rs,K,h=>by
   obtain⟨v,v',h1,h2,h3⟩:=Jv hA hw h
   obtain⟨vs,us,h4,h5,h6⟩:=uY hA hw rs _ h3
   refine⟨v :: vs,v' :: us, ?_,.cons _ _ _ _ h2 h5,h6⟩
   simp only[List.mapM_cons,Sem.run_bind,h1,Result.andThen_ok,h4,Sem.run_pure]
theorem Cy (hP:yA P) {f:FuncId} {fn:Func} {c:Code} {args:List AV} {M:RM} {Q:ah} (hfn:P.funcs[f]?=some fn) (hbody:fn.body=some c) (h:Kw P fn c args M Q) : dH P f args M Q:=by
 refine⟨⟨fn,c,hfn,hbody⟩,fun ρ w us hargs hw=>?_⟩
 have hlen:=hargs.length
 have hA:fA ρ (args.length + (fn.ntmps - args.length)) (Tree.ofList args 0 .leaf) { tmps:=⟨us⟩++Array.replicate (fn.ntmps - (⟨us⟩ : Array Value).size) undef,defers:=[] } := by
  refine⟨by simp[hlen],fun t=>?_,rfl⟩
  rw[Tree.pq]
  by_cases ht:t<args.length
  ·rw[if_pos (by omega),Nat.sub_zero]
   obtain⟨u,hu,hv⟩:=hargs.get (n:=t) (x:=args[t]) (by simp[ht])
   rw[List.getElem?_eq_getElem ht]
   simp only[Option.getD_some]
   have:((⟨us⟩ : Array Value)++Array.replicate (fn.ntmps - (⟨us⟩ : Array Value).size) undef).getD t undef=u:=by
    rw[Array.getD_eq_getD_getElem?,Array.getElem?_append_left (by simp; omega)]
    simp[hu]
   rw[this]; exact hv
  ·rw[if_neg (by omega)]
   exact .top _
 refine calls_of_wp hfn hbody (wp_mono (La hP 1000 c [] 0 _ M _ h M ρ w ρ _ w (After.refl hw) hA) fun e a w' hp=>?_)
 obtain⟨x,T',M',ρ',rfl,k1,k2,k3,k4⟩:=hp
 have key:(∃ vs us,(fn.results.toList.mapM (yL a.tmps)).run P w'=.ok us w'∧aC ρ' vs us∧Qo Q M' vs) →
   a.defers=[]∧∃ v,(results fn a.tmps).run P w'=.ok v w'∧∃ v' v_1 O8 Pq,Ending.returned v=.returned v'∧After P M ρ w O8 Pq w'∧ag Pq v_1 v'∧Q v_1 O8:=by
  rintro⟨vs,us,h1,h2,h3⟩
  have hres:(results fn a.tmps).run P w'=.ok (if h:(⟨us⟩ : Array Value).size=1 then(⟨us⟩ : Array Value)[0] else .tuple ⟨us⟩) w':=by
   have e:results fn a.tmps=(fn.results.mapM (yL a.tmps) >>= fun vs=>pure (if h:vs.size=1 then vs[0] else .tuple vs)):=rfl
   rw[e,Array.mapM_eq_mapM_toList]
   simp only[Sem.run_bind,Sem.run_map,h1,Result.andThen_ok,Sem.run_pure]
  refine⟨k2.defers,_,hres, ?_⟩
  cases h2 with
  | nil=>exact⟨_,_,M',ρ',rfl,k1,.tup _ _ .nil,h3⟩
  | cons x v xs vs2 hv htl =>
    cases htl with
    | nil=>exact⟨_,x,M',ρ',rfl,k1,hv,h3⟩
    | cons y u ys us2 hu Tq=>exact⟨_,_,M',ρ',rfl,k1,.tup _ _ (.cons _ _ _ _ hv (.cons _ _ _ _ hu Tq)),h3⟩
 cases x with
 | normal=>exact key (uY k2 k1.rel _ _ k4)
 | ret=>exact key (uY k2 k1.rel _ _ k4)
 | exit id=>exact k4.elim
abbrev ai:=List AV→RM→ah→Prop
def CR (P:Program) (fn:Func) (args:List AV) (M:RM) (Q:ah) : Prop :=
 match fn.body with
 | some c=>Kw P fn c args M Q
 | none=>False
theorem K4 (hP:yA P) {f:FuncId} {fn:Func} {args:List AV} {M:RM} {Q:ah} (hfn:P.funcs[f]?=some fn) (h:CR P fn args M Q) : dH P f args M Q:=by
 unfold CR at h
 split at h
 ·rename_i c hc; exact Cy hP hfn hc h
 ·cases h
end
end Go.Ab
set_option maxRecDepth 100000
namespace Go.Ab.Hw
open Go Go.Ab
def kQ (p1:Nat) (p2 p3:ai) (p4:Nat) (p5:ai) (a0 a1:AV) (M0:RM) (Q:ah) : Prop:=oP p1 a0 fun xz wi=>bg xz wi M0 fun i v9=>p2 [] v9 fun yv w=>fQ yv fun zc=>ax zc ( Q (Bo false) w) ( aS i 3 fun zs=>aj w zs fun zt=>aR zt fun zu=>af .gtr zu (N .i64 1000) fun t=>aa t false (fun c=>aS i 2 fun zv=>c zv w) (fun c=>c .undef w) fun zw H=>aa t false (fun w7=>aj H zw fun zx=>w7 zx H) (fun c=>c .undef H) fun zy vq=>aa t false (fun xj=>aR zy fun zz=>xj zz vq) (fun c=>c .undef vq) fun z0 v0=>aa t false (fun xt=>af .gtr z0 (N .i64 20) fun z1=>xt z1 v0) (fun c=>c .undef v0) fun z2 A=>ay t (Bo true) z2 fun z3=>ax z3 ( Q (Bo true) A) ( bF A i 4 fun z4=>p3 [z4] A fun v6 Y=>aD v6 0 fun v7=>aD v6 1 fun z5=>af .neq z5 (N .i64 0) fun z6=>ax z6 ( Q (Bo true) Y) ( dC p4 0 [(N .u8 0)] [] fun x0 wj=>bg x0 wj Y fun z7 wa=>appW p4 1 1 [(N .u8 0)] false z7 v7 wa fun e wc=>fw (fun xx d q=>aR e fun z8=>aS i 3 fun z9=>aj q z9 fun c0=>aR c0 fun c1=>af .sub z8 c1 fun c2=>af .lss (ak d 1) c2 fun c3=>ax c3 ( dG (fun v=>dG (fun U=>bV e (ak d 1) 1 fun c5=>aj q c5 fun c6=>af .eql c6 (N .u8 10) fun c7=>ax c7 ( af .add (ak d 0) (N .i64 1) fun c8=>U [c8] q) ( U [(ak d 0)] q)) (fun u l=>af .eql (ak u 0) (N .i64 0) fun c9=>ax c9 ( v [(ak u 0),(ak d 1)] l) ( bV e (ak d 1) 1 fun d0=>aj l d0 fun d1=>af .eql d1 (N .u8 58) fun d2=>ax d2 ( fw (fun xy x vh=>aR e fun d3=>af .lss (ak x 0) d3 fun o=>aa o true (fun w4=>w4 e vh) (fun c=>c .undef vh) fun d4 vi=>aa o true (fun w5=>w5 (ak x 0) vi) (fun c=>c .undef vi) fun d5 vj=>aa o true (fun w6=>bV d4 d5 1 fun d6=>w6 d6 vj) (fun c=>c .undef vj) fun d7 I=>aa o true (fun w8=>aj I d7 fun d8=>w8 d8 I) (fun c=>c .undef I) fun d9 vk=>aa o true (fun w9=>af .neq d9 (N .u8 10) fun e0=>w9 e0 vk) (fun c=>c .undef vk) fun e1 vl=>ay o e1 (Bo false) fun e2=>ax e2 ( af .add (ak x 0) (N .i64 1) fun e3=>xy [e3] vl) ( v [(ak u 0),(ak x 0)] vl)) [(ak d 1)] l) ( bV e (ak d 1) 1 fun e4=>aj l e4 fun e5=>af .geq e5 (N .u8 97) fun p=>aa p true (fun xa=>xa e l) (fun c=>c .undef l) fun e6 vm=>aa p true (fun xb=>xb (ak d 1) vm) (fun c=>c .undef vm) fun e7 vn=>aa p true (fun xc=>bV e6 e7 1 fun e8=>xc e8 vn) (fun c=>c .undef vn) fun e9 L=>aa p true (fun xd=>aj L e9 fun g0=>xd g0 L) (fun c=>c .undef L) fun g1 vo=>aa p true (fun xe=>af .leq g1 (N .u8 122) fun g2=>xe g2 vo) (fun c=>c .undef vo) fun g3 vp=>ay p g3 (Bo false) fun j=>aa j true (fun xf=>xf a1 vp) (fun c=>c .undef vp) fun g4 vr=>aa j true (fun xg=>xg (ak d 1) vr) (fun c=>c .undef vr) fun g5 vs=>aa j true (fun xh=>af .rem g5 (N .i64 30) fun g6=>xh g6 vs) (fun c=>c .undef vs) fun g7 vt=>aa j true (fun xi=>gZ .u64 g7 fun g8=>xi g8 vt) (fun c=>c .undef vt) fun g9 vu=>aa j true (fun xk=>wR .shr g4 g9 fun h0=>xk h0 vu) (fun c=>c .undef vu) fun h1 vv=>aa j true (fun xl=>af .and h1 (N .i64 1) fun h2=>xl h2 vv) (fun c=>c .undef vv) fun h3 vw=>aa j true (fun xm=>af .eql h3 (N .i64 1) fun h4=>xm h4 vw) (fun c=>c .undef vw) fun h5 O=>ay j h5 (Bo false) fun h6=>ax h6 ( bV e (ak d 1) 1 fun h7=>aj O h7 fun h8=>af .sub h8 (N .u8 32) fun h9=>bV e (ak d 1) 1 fun x1=>aG O x1 h9 1 fun wd=>v [(ak u 0),(ak d 1)] wd) ( v [(ak u 0),(ak d 1)] O))))) (fun v8 we=>af .add (ak v8 1) (N .i64 1) fun c4=>xx [(ak v8 0),c4] we)) ( p5 [e] q fun S wf=>aD S 0 fun x2=>aD S 1 fun x3=>aD S 2 fun x4=>bg (.row [(St []),(St []),(.sc (.slice none 0 0)),(.sc (.slice none 0 0))] false p1 0) (fun wh=>.ptr wh 0) wf fun r wg=>aG wg r x2 4 fun vx=>af .eql x4 (N .i64 0) fun s=>aa s true (fun xn=>xn x3 vx) (fun c=>c .undef vx) fun x5 vy=>aa s true (fun xo=>xo v7 vy) (fun c=>c .undef vy) fun x6 vz=>aa s true (fun xp=>aR x6 fun x7=>xp x7 vz) (fun c=>c .undef vz) fun x8 v1=>aa s true (fun xq=>af .eql x5 x8 fun x9=>xq x9 v1) (fun c=>c .undef v1) fun ya v2=>ay s ya (Bo false) fun m=>aa m true (fun xr=>aS r 0 fun yb=>xr yb v2) (fun c=>c .undef v2) fun yc P=>aa m true (fun xs=>aj P yc fun yd=>xs yd P) (fun c=>c .undef P) fun ye v3=>aa m true (fun xu=>aS i 0 fun yf=>xu yf v3) (fun c=>c .undef v3) fun yg R=>aa m true (fun xv=>aj R yg fun yh=>xv yh R) (fun c=>c .undef R) fun yi v4=>aa m true (fun xw=>aW .eql ye yi fun yj=>xw yj v4) (fun c=>c .undef v4) fun yk v5=>ay m yk (Bo false) fun n=>aa n true (fun wk=>aS r 1 fun yl=>wk yl v5) (fun c=>c .undef v5) fun ym y=>aa n true (fun wl=>aj y ym fun yn=>wl yn y) (fun c=>c .undef y) fun yo V=>aa n true (fun wm=>aS i 1 fun yp=>wm yp V) (fun c=>c .undef V) fun yq z=>aa n true (fun wn=>aj z yq fun yr=>wn yr z) (fun c=>c .undef z) fun ys W=>aa n true (fun wo=>aW .eql yo ys fun yt=>wo yt W) (fun c=>c .undef W) fun yu X=>ay n yu (Bo false) fun h=>aa h true (fun wp=>aS r 3 fun yw=>wp yw X) (fun c=>c .undef X) fun yx B=>aa h true (fun wq=>aj B yx fun yy=>wq yy B) (fun c=>c .undef B) fun yz C=>aa h true (fun wr=>dM C yz fun y0=>wr y0 C) (fun c=>c .undef C) fun y1 Z=>aa h true (fun ws=>aS i 3 fun y2=>ws y2 Z) (fun c=>c .undef Z) fun y3 D=>aa h true (fun wt=>aj D y3 fun y4=>wt y4 D) (fun c=>c .undef D) fun y5 E=>aa h true (fun wu=>dM E y5 fun y6=>wu y6 E) (fun c=>c .undef E) fun y7 va=>aa h true (fun wv=>aW .eql y1 y7 fun y8=>wv y8 va) (fun c=>c .undef va) fun y9 vb=>ay h y9 (Bo false) fun g=>aa g true (fun ww=>aS r 2 fun za=>ww za vb) (fun c=>c .undef vb) fun zb F=>aa g true (fun wx=>aj F zb fun zd=>wx zd F) (fun c=>c .undef F) fun ze vc=>aa g true (fun wy=>aR ze fun zf=>wy zf vc) (fun c=>c .undef vc) fun zg vd=>aa g true (fun wz=>aS i 2 fun zh=>wz zh vd) (fun c=>c .undef vd) fun zi G=>aa g true (fun w0=>aj G zi fun zj=>w0 zj G) (fun c=>c .undef G) fun zk ve=>aa g true (fun w1=>aR zk fun zl=>w1 zl ve) (fun c=>c .undef ve) fun zm vf=>aa g true (fun w2=>af .add zm (N .i64 1) fun zn=>w2 zn vf) (fun c=>c .undef vf) fun zo vg=>aa g true (fun w3=>af .eql zg zo fun zp=>w3 zp vg) (fun c=>c .undef vg) fun zq wb=>ay g zq (Bo false) fun zr=>Q zr wb)) [(N .i64 0),(N .i64 0)] wc)))
def vV (p1 p2:Nat) (p3:ai) (p4:Nat) (p5 p6 p7 p8:ai) (p9:Nat) (p10:ai) (p11:Nat) (p12:ai) (M0:RM) (Q:ah) : Prop:=gH [(St []),(St [])] [(0,1,(St [88])),(1,1,(St [49]))] fun zu=>dC p1 1 [(St []),(St [])] [(0,2,zu)] fun x9 wy=>bg x9 wy M0 fun zv wb=>gH [(St []),(St []),(.sc (.slice none 0 0)),(.sc (.slice none 0 0))] [(0,1,(St [71,69,84])),(1,1,(St [47,97])),(2,1,zv)] fun zw=>bg (.row [(St []),(St []),(.sc (.slice none 0 0)),(.sc (.slice none 0 0))] false p2 0) (fun d=>.ptr d 0) wb fun l wc=>aG wc l zw 4 fun G=>bF G l 4 fun zx=>p3 [zx] G fun v2 wl=>aD v2 0 fun A=>aD v2 1 fun zy=>dC p4 0 [(N .u8 0)] [] fun yd w2=>bg yd w2 wl fun zz wv=>appW p4 1 1 [(N .u8 0)] false zz A wv fun z0 ww=>dC p4 1 [(N .u8 0)] [(0,1,(N .u8 120))] fun ye w3=>bg ye w3 ww fun z1 wx=>appW p4 1 1 [(N .u8 0)] false z0 z1 wx fun z2 wd=>p5 [z2] wd fun B we=>aD B 0 fun z3=>aD B 1 fun z4=>aD B 2 fun z5=>bg (.row [(St []),(St []),(.sc (.slice none 0 0)),(.sc (.slice none 0 0))] false p2 0) (fun d=>.ptr d 0) we fun v3 wf=>aG wf v3 z3 4 fun Z=>bF Z v3 4 fun z6=>p6 [z6,(St [120])] Z fun v4 wg=>aD v4 0 fun z7=>aD v4 1 fun z8=>dC p4 2 [(N .u8 0)] [(0,1,(N .u8 110)),(1,1,(N .u8 111))] fun ya wz=>bg ya wz wg fun z9 wi=>pJ z9 wi fun c0 wj=>gH [(N .i64 0),(.sc (.slice none 0 0)),(.sc (.slice none 0 0))] [(0,1,(N .i64 404)),(2,1,c0)] fun c1=>p7 [c1] wj fun v5 wk=>aD v5 0 fun v6=>aD v5 1 fun c2=>p8 [v6] wk fun C wm=>aD C 0 fun c3=>aD C 1 fun c4=>aD C 2 fun c5=>bg (.row [(N .i64 0),(.sc (.slice none 0 0)),(.sc (.slice none 0 0))] false p9 0) (fun d=>.ptr d 0) wm fun m wn=>aG wn m c3 3 fun vc=>bF vc m 3 fun c6=>p10 [c6,(St [67,79,78,84,69,78,84,45,76,69,78,71,84,72])] vc fun v7 wo=>aD v7 0 fun c7=>aD v7 1 fun c8=>dC p4 4 [(N .u8 0)] [(0,1,(N .u8 97)),(1,1,(N .u8 98)),(2,1,(N .u8 99)),(3,1,(N .u8 100))] fun yb w0=>bg yb w0 wo fun c9 wp=>pJ c9 wp fun d0 wq=>aS l 3 fun d1=>aG wq d1 d0 1 fun vd=>bF vd l 4 fun d2=>dC p11 1 [(N .i64 0)] [(0,1,(N .i64 3))] fun yc w1=>bg yc w1 vd fun d3 wr=>p12 [d2,d3] wr fun v8 ws=>aD v8 0 fun v9=>aD v8 1 fun d4=>p5 [v9] ws fun D wt=>aD D 0 fun d5=>aD D 1 fun d6=>aD D 2 fun d7=>bg (.row [(St []),(St []),(.sc (.slice none 0 0)),(.sc (.slice none 0 0))] false p2 0) (fun d=>.ptr d 0) wt fun v1 wu=>aG wu v1 d5 4 fun ve=>af .eql zy (N .i64 0) fun o=>aa o true (fun c=>c A ve) (fun c=>c .undef ve) fun d8 r=>aa o true (fun xl=>dM r d8 fun d9=>xl d9 r) (fun c=>c .undef r) fun e0 vf=>aa o true (fun xm=>aW .eql e0 (St [71,69,84,32,47,97,32,72,84,84,80,47,49,46,49,13,10,88,58,32,49,13,10,67,111,110,116,101,110,116,45,76,101,110,103,116,104,58,32,48,13,10,13,10]) fun e1=>xm e1 vf) (fun c=>c .undef vf) fun e2 vg=>ay o e2 (Bo false) fun E=>aa E true (fun xn=>xn z5 vg) (fun c=>c .undef vg) fun e3 vh=>aa E true (fun xo=>af .eql e3 (N .i64 0) fun e4=>xo e4 vh) (fun c=>c .undef vh) fun e5 vi=>ay E e5 (Bo false) fun j=>aa j true (fun xp=>xp z4 vi) (fun c=>c .undef vi) fun e6 vj=>aa j true (fun xq=>xq A vj) (fun c=>c .undef vj) fun e7 vk=>aa j true (fun xr=>aR e7 fun e8=>xr e8 vk) (fun c=>c .undef vk) fun e9 vl=>aa j true (fun xs=>af .eql e6 e9 fun g0=>xs g0 vl) (fun c=>c .undef vl) fun g1 vm=>ay j g1 (Bo false) fun wa=>aa wa true (fun xt=>xt z8 vm) (fun c=>c .undef vm) fun g2 vn=>ay wa g2 (Bo false) fun F=>aa F true (fun xu=>xu z7 vn) (fun c=>c .undef vn) fun g3 vo=>aa F true (fun xv=>aW .eql g3 (St [49]) fun g4=>xv g4 vo) (fun c=>c .undef vo) fun g5 vp=>ay F g5 (Bo false) fun v=>aa v true (fun xw=>xw c2 vp) (fun c=>c .undef vp) fun yf vq=>aa v true (fun xx=>af .eql yf (N .i64 0) fun yg=>xx yg vq) (fun c=>c .undef vq) fun yh vr=>ay v yh (Bo false) fun w=>aa w true (fun xy=>xy c5 vr) (fun c=>c .undef vr) fun yi vs=>aa w true (fun xz=>af .eql yi (N .i64 0) fun yj=>xz yj vs) (fun c=>c .undef vs) fun yk vt=>ay w yk (Bo false) fun e=>aa e true (fun x0=>x0 c4 vt) (fun c=>c .undef vt) fun yl vu=>aa e true (fun x1=>x1 v6 vu) (fun c=>c .undef vu) fun ym vv=>aa e true (fun x2=>aR ym fun yn=>x2 yn vv) (fun c=>c .undef vv) fun yo vw=>aa e true (fun x3=>af .eql yl yo fun yp=>x3 yp vw) (fun c=>c .undef vw) fun yq vx=>ay e yq (Bo false) fun n=>aa n true (fun x4=>aS m 0 fun yr=>x4 yr vx) (fun c=>c .undef vx) fun ys s=>aa n true (fun x5=>aj s ys fun yt=>x5 yt s) (fun c=>c .undef s) fun yu vy=>aa n true (fun x6=>af .eql yu (N .i64 404) fun yv=>x6 yv vy) (fun c=>c .undef vy) fun yw vz=>ay n yw (Bo false) fun g=>aa g true (fun x7=>aS m 2 fun yx=>x7 yx vz) (fun c=>c .undef vz) fun yy t=>aa g true (fun x8=>aj t yy fun yz=>x8 yz t) (fun c=>c .undef t) fun y0 u=>aa g true (fun w4=>dM u y0 fun y1=>w4 y1 u) (fun c=>c .undef u) fun y2 H=>aa g true (fun w5=>aW .eql y2 (St [110,111]) fun y3=>w5 y3 H) (fun c=>c .undef H) fun y4 I=>ay g y4 (Bo false) fun v0=>aa v0 true (fun w6=>w6 c8 I) (fun c=>c .undef I) fun y5 L=>ay v0 y5 (Bo false) fun x=>aa x true (fun w7=>w7 c7 L) (fun c=>c .undef L) fun y6 O=>aa x true (fun w8=>aW .eql y6 (St [50]) fun y7=>w8 y7 O) (fun c=>c .undef O) fun y8 P=>ay x y8 (Bo false) fun y=>aa y true (fun w9=>w9 d4 P) (fun c=>c .undef P) fun y9 R=>aa y true (fun xa=>af .eql y9 (N .i64 0) fun za=>xa za R) (fun c=>c .undef R) fun zb S=>ay y zb (Bo false) fun z=>aa z true (fun xb=>xb d7 S) (fun c=>c .undef S) fun zc U=>aa z true (fun xc=>af .eql zc (N .i64 0) fun zd=>xc zd U) (fun c=>c .undef U) fun ze V=>ay z ze (Bo false) fun h=>aa h true (fun xd=>xd d6 V) (fun c=>c .undef V) fun zf W=>aa h true (fun xe=>xe v9 W) (fun c=>c .undef W) fun zg X=>aa h true (fun xf=>aR zg fun zh=>xf zh X) (fun c=>c .undef X) fun zi Y=>aa h true (fun xg=>af .eql zf zi fun zj=>xg zj Y) (fun c=>c .undef Y) fun zk va=>ay h zk (Bo false) fun i=>aa i true (fun xh=>aS v1 3 fun zl=>xh zl va) (fun c=>c .undef va) fun zm p=>aa i true (fun xi=>aj p zm fun zn=>xi zn p) (fun c=>c .undef p) fun zo q=>aa i true (fun xj=>dM q zo fun zp=>xj zp q) (fun c=>c .undef q) fun zq vb=>aa i true (fun xk=>aW .eql zq (St [97,98,99,100]) fun zr=>xk zr vb) (fun c=>c .undef vb) fun zs wh=>ay i zs (Bo false) fun zt=>Q zt wh
def iN (p1 p2:Nat) (p3 p4:ai) (a0:AV) (M0:RM) (Q:ah) : Prop:=bg (.row [(St []),(St []),(.sc (.slice none 0 0)),(.sc (.slice none 0 0))] false p1 0) (fun g=>.ptr g 0) M0 fun c r=>bg (.row [(St []),(St []),(.sc (.slice none 0 0)),(.sc (.slice none 0 0))] false p1 0) (fun g=>.ptr g 0) r fun d s=>p3 [a0,(.fn (.func p2) [] [d])] s fun h j=>aD h 0 fun o=>aD h 1 fun y=>aD h 2 fun p=>af .neq p (N .i64 0) fun z=>ax z ( gH [(St []),(St []),(.sc (.slice none 0 0)),(.sc (.slice none 0 0))] [] fun A=>aG j c A 4 fun l=>bF l c 4 fun v=>Q (.tup [v,(N .i64 0),p]) l) ( aS d 2 fun B=>aG j B o 1 fun t=>p4 [a0,y,o] t fun i u=>aD i 0 fun C=>aD i 1 fun D=>aD i 2 fun q=>aS d 3 fun E=>aG u E C 1 fun e=>af .neq q (N .i64 0) fun F=>ax F ( gH [(St []),(St []),(.sc (.slice none 0 0)),(.sc (.slice none 0 0))] [] fun G=>aG e c G 4 fun m=>bF m c 4 fun w=>Q (.tup [w,(N .i64 0),q]) m) ( bF e d 4 fun H=>aG e c H 4 fun n=>bF n c 4 fun x=>Q (.tup [x,D,(N .i64 0)]) n))
def ik (p1:Nat) (p2 p3 p4:ai) (a0:AV) (M0:RM) (Q:ah) : Prop:=oP p1 a0 fun v u=>bg v u M0 fun d g=>bF g d 4 fun O=>p2 [O] g fun P c=>fQ P fun R=>ax R ( Q (.tup [(.sc (.slice none 0 0)),(N .i64 1)]) c) ( aS d 0 fun r=>aj c r fun s=>aW .add s (St [32]) fun U=>aS d 1 fun h=>aj c h fun i=>aW .add U i fun x=>aW .add x (St [32]) fun y=>aW .add y (St [72,84,84,80,47,49,46,49]) fun z=>aS d 2 fun j=>aj c j fun l=>aS d 3 fun B=>aj c B fun C=>aR C fun D=>aS d 3 fun m=>aj c m fun n=>aR n fun G=>aS d 3 fun o=>aj c o fun p=>p3 [D] c fun E e=>aj e r fun S=>(S=s∧aj e h fun w=>(w=i∧aj e j fun A=>(A=l∧aj e m fun F=>(F=n∧aj e o fun H=>(H=p∧p4 [z,l,E,G,p] e fun q t=>aD q 0 fun I=>aD q 1 fun L=>Q (.tup [I,L]) t))))))
def gX (p1:Nat) (p2 p3 p4:ai) (a0:AV) (M0:RM) (Q:ah) : Prop:=oP p1 a0 fun C z=>bg C z M0 fun c l=>aS c 0 fun vk=>aj l vk fun vl=>af .lss vl (N .i64 100) fun j=>aa j false (fun d=>aS c 0 fun vm=>d vm l) (fun d=>d .undef l) fun vn m=>aa j false (fun A=>aj m vn fun D=>A D m) (fun d=>d .undef m) fun E u=>aa j false (fun B=>af .gtr E (N .i64 599) fun F=>B F u) (fun d=>d .undef u) fun G i=>ay j (Bo true) G fun H=>ax H ( Q (.tup [(.sc (.slice none 0 0)),(N .i64 1)]) i) ( dG (fun t=>aS c 0 fun I=>aj i I fun L=>af .quo L (N .i64 100) fun O=>af .eql O (N .i64 2) fun P=>ax P ( t [(St [79,75])] i) ( t [(St [78,111])] i)) (fun vo e=>aS c 0 fun R=>aj e R fun S=>aS c 1 fun n=>aj e n fun o=>aS c 2 fun v=>aj e v fun w=>aR w fun vb=>aS c 2 fun p=>aj e p fun q=>aR q fun vf=>aS c 2 fun r=>aj e r fun s=>p2 [S] e fun U g=>aj g n fun Z=>(Z=o∧aj g v fun va=>(va=w∧aj g p fun ve=>(ve=q∧aj g r fun vh=>(vh=s∧aW .add (St [72,84,84,80,47,49,46,49,32]) U fun V=>aW .add V (St [32]) fun W=>aW .add W (ak vo 0) fun X=>p3 [vb] g fun vc h=>aj h n fun Y=>(Y=o∧aj h p fun vd=>(vd=q∧aj h r fun vg=>(vg=s∧p4 [X,o,vc,vf,s] h fun x y=>aD x 0 fun vi=>aD x 1 fun vj=>Q (.tup [vi,vj]) y)))))))))
def il (p1 p2:Nat) (p3 p4:ai) (a0:AV) (M0:RM) (Q:ah) : Prop:=bg (.row [(N .i64 0),(.sc (.slice none 0 0)),(.sc (.slice none 0 0))] false p1 0) (fun g=>.ptr g 0) M0 fun c r=>bg (.row [(N .i64 0),(.sc (.slice none 0 0)),(.sc (.slice none 0 0))] false p1 0) (fun g=>.ptr g 0) r fun d s=>p3 [a0,(.fn (.func p2) [] [d])] s fun h j=>aD h 0 fun o=>aD h 1 fun y=>aD h 2 fun p=>af .neq p (N .i64 0) fun z=>ax z ( gH [(N .i64 0),(.sc (.slice none 0 0)),(.sc (.slice none 0 0))] [] fun A=>aG j c A 3 fun l=>bF l c 3 fun v=>Q (.tup [v,(N .i64 0),p]) l) ( aS d 1 fun B=>aG j B o 1 fun t=>p4 [a0,y,o] t fun i u=>aD i 0 fun C=>aD i 1 fun D=>aD i 2 fun q=>aS d 2 fun E=>aG u E C 1 fun e=>af .neq q (N .i64 0) fun F=>ax F ( gH [(N .i64 0),(.sc (.slice none 0 0)),(.sc (.slice none 0 0))] [] fun G=>aG e c G 3 fun m=>bF m c 3 fun w=>Q (.tup [w,(N .i64 0),q]) m) ( bF e d 3 fun H=>aG e c H 3 fun n=>bF n c 3 fun x=>Q (.tup [x,D,(N .i64 0)]) n))
def jV (p1:Nat) (p2 p3:ai) (p4 p5:Nat) (p6:ai) (p7:Nat) (p8 p9:ai) (a0 a1:AV) (M0:RM) (Q:ah) : Prop:=oP p1 a0 fun vf U=>bg vf U M0 fun e n=>bF n e 4 fun vp=>p2 [vp] n fun vq j=>fQ vq fun vr=>ax vr ( Q (.tup [(.sc (.slice none 0 0)),(N .i64 1)]) j) ( aS e 3 fun vs=>aj j vs fun q=>p3 [a1] j fun vt x=>aR q fun vu=>dC p4 1 [(N .i64 0)] [(0,1,vu)] fun vi va=>bg vi va x fun vv E=>appW p4 1 8 [(N .i64 0)] false vt vv E fun r I=>aR r fun vw=>fw (fun ve c h=>af .lss (ak c 2) vw fun vx=>ax vx ( dG (fun i=>bV r (ak c 2) 1 fun vy=>aj h vy fun vz=>aR (ak c 1) fun v0=>Cw false vz v0 fun d=>af .lss d (N .i64 1) fun v1=>ax v1 ( i [(ak c 0),(ak c 1)] h) ( (( bI (dE 1 (ak c 1) none (some d) none) fun l=>dC p5 2 [(N .u8 0)] [(0,1,(N .u8 13)),(1,1,(N .u8 10))] fun vo vd=>uT vo vd h fun u P R=>p6 [d,(N .i64 16)] P fun v2 o=>bI (dE 1 (ak c 1) none (some d) none) fun v7=>(v7=l∧dC p5 2 [(N .u8 0)] [(0,1,(N .u8 13)),(1,1,(N .u8 10))] fun vk Y=>(Er R o vk Y u∧aW .add v2 (St [13,10]) fun s=>jG p5 s fun vg V=>uT vg V o fun t y S=>pJ u y fun wb p=>jG p5 s fun vj X=>(Er S p vj X t∧bI (dE 1 (ak c 1) none (some d) none) fun v6=>(v6=l∧dC p7 4 [(.sc (.slice none 0 0))] [(0,1,(ak c 0)),(1,1,t),(2,1,l),(3,1,wb)] fun vh W=>uT vh W p fun wd z w1=>p8 [wd] z fun wf A=>bI (dE 1 (ak c 1) (some d) none none) fun wh=>i [wf,wh] A)))))∧( dC p5 2 [(N .u8 0)] [(0,1,(N .u8 13)),(1,1,(N .u8 10))] fun vl Z=>uT vl Z h fun wa B w2=>bI (dE 1 (ak c 1) none (some d) none) fun m=>pJ wa B fun wc C=>bI (dE 1 (ak c 1) none (some d) none) fun v9=>(v9=m∧p6 [d,(N .i64 16)] C fun v3 D=>bI (dE 1 (ak c 1) none (some d) none) fun v8=>(v8=m∧aW .add v3 (St [13,10]) fun v4=>jG p5 v4 fun vm vb=>uT vm vb D fun v5 F w3=>dC p7 4 [(.sc (.slice none 0 0))] [(0,1,(ak c 0)),(1,1,v5),(2,1,m),(3,1,wc)] fun vn vc=>uT vn vc F fun we G w4=>p8 [we] G fun wg H=>bI (dE 1 (ak c 1) (some d) none none) fun wi=>i [wg,wi] H)))))) (fun w L=>af .add (ak c 2) (N .i64 1) fun wj=>ve [(ak w 0),(ak w 1),wj] L)) ( appW p5 1 1 [(N .u8 0)] false (ak c 0) (St [48,13,10,13,10]) h fun wk g=>aS e 0 fun wl=>aj g wl fun wm=>aW .add wm (St [32]) fun wn=>aS e 1 fun wo=>aj g wo fun wp=>aW .add wn wp fun wq=>aW .add wq (St [32]) fun wr=>aW .add wr (St [72,84,84,80,47,49,46,49]) fun ws=>aS e 2 fun wt=>aj g wt fun wu=>gH [(St []),(St [])] [(0,1,(St [84,114,97,110,115,102,101,114,45,69,110,99,111,100,105,110,103])),(1,1,(St [99,104,117,110,107,101,100]))] fun wv=>aS e 3 fun ww=>aj g ww fun wx=>aR wx fun wy=>p9 [ws,wu,wv,wy,wk] g fun v O=>aD v 0 fun wz=>aD v 1 fun w0=>Q (.tup [wz,w0]) O)) [(.sc (.slice none 0 0)),q,(N .i64 0)] I)
def iI (p1:Nat) (p2:ai) (a0 a1:AV) (M0:RM) (Q:ah) : Prop:=oP p1 a0 fun h g=>bg h g M0 fun l c=>aS l 2 fun m=>aj c m fun n=>p2 [n,a1] c fun d e=>aD d 0 fun i=>aD d 1 fun j=>Q (.tup [i,j]) e
def ig (p1:Nat) (p2:ai) (a0 a1:AV) (M0:RM) (Q:ah) : Prop:=oP p1 a0 fun h g=>bg h g M0 fun l c=>aS l 1 fun m=>aj c m fun n=>p2 [n,a1] c fun d e=>aD d 0 fun i=>aD d 1 fun j=>Q (.tup [i,j]) e
def mH (p1:ai) (cv:(FuncId→ai)) (p2:ai) (p3:Nat) (a0 a1:AV) (M0:RM) (Q:ah) : Prop:=p1 [a0,(N .i64 0)] M0 fun g i=>aD g 0 fun A=>aD g 1 fun B=>aD g 2 fun l=>af .neq l (N .i64 0) fun C=>ax C ( Q (.tup [(.sc (.slice none 0 0)),(N .i64 0),l]) i) ( yT cv a1 [A] i fun D j=>fQ D fun E=>ax E ( Q (.tup [(.sc (.slice none 0 0)),(N .i64 0),(N .i64 14)]) j) ( fw (fun y d r=>p1 [a0,(ak d 1)] r fun h c=>aD h 0 fun m=>aD h 1 fun n=>aD h 2 fun o=>af .neq o (N .i64 0) fun F=>ax F ( Q (.tup [(.sc (.slice none 0 0)),(N .i64 0),o]) c) ( aW .eql m (St []) fun G=>ax G ( Q (.tup [(ak d 0),n,(N .i64 0)]) c) ( aR (ak d 0) fun H=>af .eql H (N .i64 32) fun I=>ax I ( Q (.tup [(.sc (.slice none 0 0)),(N .i64 0),(N .i64 2)]) c) ( p2 [m] c fun p s=>aD p 0 fun L=>aD p 1 fun O=>bg (.row [(St []),(St [])] false p3 0) (fun w=>.ptr w 0) s fun q t=>aG t q L 2 fun e=>fQ O fun P=>ax P ( Q (.tup [(.sc (.slice none 0 0)),(N .i64 0),(N .i64 14)]) e) ( bF e q 2 fun R=>dC p3 1 [(St []),(St [])] [(0,2,R)] fun z x=>bg z x e fun S u=>appW p3 2 32 [(St []),(St [])] false (ak d 0) S u fun U v=>y [U,n] v))))) [(.sc (.slice none 0 0)),B] j))
def gU (p1 p2 p3:ai) (a0 a1:AV) (M0:RM) (Q:ah) : Prop:=p1 [a0,(St [32])] M0 fun e n=>aR e fun v2=>af .neq v2 (N .i64 3) fun g=>aa g false (fun c=>c e n) (fun c=>c .undef n) fun X o=>aa g false (fun E=>bV X (N .i64 0) 1 fun Y=>E Y o) (fun c=>c .undef o) fun Z l=>aa g false (fun V=>aj l Z fun va=>V va l) (fun c=>c .undef l) fun vb y=>aa g false (fun W=>p2 [vb] y fun vc D=>W vc D) (fun c=>c .undef y) fun vd p=>aa g false (fun F=>fQ vd fun ve=>F ve p) (fun c=>c .undef p) fun vf q=>ay g (Bo true) vf fun d=>aa d false (fun G=>G e q) (fun c=>c .undef q) fun vg r=>aa d false (fun H=>bV vg (N .i64 1) 1 fun vh=>H vh r) (fun c=>c .undef r) fun vi j=>aa d false (fun I=>aj j vi fun vj=>I vj j) (fun c=>c .undef j) fun vk s=>aa d false (fun L=>p3 [vk] s fun vl B=>L vl B) (fun c=>c .undef s) fun vm t=>aa d false (fun O=>fQ vm fun vn=>O vn t) (fun c=>c .undef t) fun vo u=>ay d (Bo true) vo fun h=>aa h false (fun P=>P e u) (fun c=>c .undef u) fun vp v=>aa h false (fun R=>bV vp (N .i64 2) 1 fun vq=>R vq v) (fun c=>c .undef v) fun vr m=>aa h false (fun S=>aj m vr fun vs=>S vs m) (fun c=>c .undef m) fun vt w=>aa h false (fun U=>aW .neq vt (St [72,84,84,80,47,49,46,49]) fun vu=>U vu w) (fun c=>c .undef w) fun vv i=>ay h (Bo true) vv fun vw=>ax vw ( Q (Bo false) i) ( bV e (N .i64 0) 1 fun vx=>aj i vx fun vy=>bV e (N .i64 1) 1 fun z=>aj i z fun A=>aS a1 0 fun v0=>aG i v0 vy 1 fun x=>aj x z fun vz=>(vz=A∧aS a1 1 fun v1=>aG x v1 A 1 fun C=>Q (Bo true) C))
def ja (p1 p2:ai) (p3:Nat) (a0:AV) (M0:RM) (Q:ah) : Prop:=p1 [a0,(N .i64 1),(N .i64 8)] M0 fun d e=>aa d true (fun c=>c a0 e) (fun c=>c .undef e) fun l g=>aa d true (fun j=>p2 [l,(.fn (.func p3) [] [])] g fun m h=>j m h) (fun c=>c .undef g) fun n i=>ay d n (Bo false) fun o=>Q o i
def jN (p1 p2:ai) (p3:Nat) (a0:AV) (M0:RM) (Q:ah) : Prop:=p1 [a0,(St [47])] M0 fun d g=>aa d true (fun c=>c a0 g) (fun c=>c .undef g) fun w h=>aa d true (fun o=>cz w fun x=>o x h) (fun c=>c .undef h) fun y i=>aa d true (fun p=>af .leq y (N .i64 201) fun z=>p z i) (fun c=>c .undef i) fun A j=>ay d A (Bo false) fun e=>aa e true (fun q=>q a0 j) (fun c=>c .undef j) fun s l=>aa e true (fun r=>p2 [s,(.fn (.func p3) [] [])] l fun t m=>r t m) (fun c=>c .undef l) fun u n=>ay e u (Bo false) fun v=>Q v n
def mY (p1 p2 p3 p4 p5:ai) (p6:Nat) (p7 p8:ai) (a0 a1 a2:AV) (M0:RM) (Q:ah) : Prop:=p1 [a2,(St [116,114,97,110,115,102,101,114,45,101,110,99,111,100,105,110,103])] M0 fun r I=>p1 [a2,(St [99,111,110,116,101,110,116,45,108,101,110,103,116,104])] I fun d i=>aR r fun vl=>af .gtr vl (N .i64 0) fun vm=>ax vm ( aR r fun vn=>af .gtr vn (N .i64 1) fun e=>aa e false (fun c=>c r i) (fun c=>c .undef i) fun vo t=>aa e false (fun X=>bV vo (N .i64 0) 1 fun vp=>X vp t) (fun c=>c .undef t) fun vq n=>aa e false (fun vi=>aj n vq fun vr=>vi vr n) (fun c=>c .undef n) fun vs G=>aa e false (fun vk=>p2 [vs] G fun vt S=>vk vt S) (fun c=>c .undef G) fun vu u=>aa e false (fun U=>aW .neq vu (St [99,104,117,110,107,101,100]) fun vv=>U vv u) (fun c=>c .undef u) fun vw v=>ay e (Bo true) vw fun j=>aa j false (fun V=>V d v) (fun c=>c .undef v) fun vx w=>aa j false (fun W=>aR vx fun vy=>W vy w) (fun c=>c .undef w) fun vz x=>aa j false (fun Y=>af .gtr vz (N .i64 0) fun v0=>Y v0 x) (fun c=>c .undef x) fun v1 y=>ay j (Bo true) v1 fun v2=>ax v2 ( Q (.tup [(.sc (.slice none 0 0)),(N .i64 0),(N .i64 14)]) y) ( p3 [a0,a1] y fun s L=>aD s 0 fun v3=>aD s 1 fun v4=>aD s 2 fun v5=>Q (.tup [v3,v4,v5]) L)) ( aR d fun v6=>af .eql v6 (N .i64 0) fun v7=>ax v7 ( Q (.tup [(.sc (.slice none 0 0)),a1,(N .i64 0)]) i) ( aR d fun v8=>af .gtr v8 (N .i64 1) fun g=>aa g false (fun Z=>Z d i) (fun c=>c .undef i) fun v9 z=>aa g false (fun va=>bV v9 (N .i64 0) 1 fun wa=>va wa z) (fun c=>c .undef z) fun wb m=>aa g false (fun vb=>aj m wb fun wc=>vb wc m) (fun c=>c .undef m) fun wd A=>aa g false (fun vc=>p4 [wd,(N .i64 1),(N .i64 9)] A fun we O=>vc we O) (fun c=>c .undef A) fun wf B=>aa g false (fun vd=>fQ wf fun wg=>vd wg B) (fun c=>c .undef B) fun wh C=>ay g (Bo true) wh fun h=>aa h false (fun ve=>ve d C) (fun c=>c .undef C) fun wi D=>aa h false (fun vf=>bV wi (N .i64 0) 1 fun wj=>vf wj D) (fun c=>c .undef D) fun wk o=>aa h false (fun vg=>aj o wk fun wl=>vg wl o) (fun c=>c .undef o) fun wm E=>aa h false (fun vh=>p5 [wm,(.fn (.func p6) [] [])] E fun wn P=>vh wn P) (fun c=>c .undef E) fun wo F=>aa h false (fun vj=>fQ wo fun wp=>vj wp F) (fun c=>c .undef F) fun wq p=>ay h (Bo true) wq fun wr=>ax wr ( Q (.tup [(.sc (.slice none 0 0)),(N .i64 0),(N .i64 14)]) p) ( bV d (N .i64 0) 1 fun ws=>aj p ws fun wt=>p7 [wt] p fun H q=>aD H 0 fun l=>aD H 1 fun w2=>af .gtr l (N .i64 16384) fun wu=>ax wu ( Q (.tup [(.sc (.slice none 0 0)),(N .i64 0),(N .i64 2)]) q) ( aR a0 fun wv=>af .sub wv a1 fun ww=>af .gtr l ww fun wx=>ax wx ( Q (.tup [(.sc (.slice none 0 0)),(N .i64 0),(N .i64 15)]) q) ( af .add a1 l fun wy=>bI (dE 1 a0 (some a1) (some wy) none) fun wz=>p8 [wz] q fun w0 R=>af .add a1 l fun w1=>Q (.tup [w0,w1,(N .i64 0)]) R)))))
def iP (p1:Nat) (p2 p3:ai) (a0:AV) (M0:RM) (Q:ah) : Prop:=oP p1 a0 fun q n=>bg q n M0 fun j g=>aS j 0 fun s=>aj g s fun t=>p2 [t] g fun d h=>aa d true (fun c=>aS j 1 fun u=>c u h) (fun c=>c .undef h) fun v e=>aa d true (fun o=>aj e v fun w=>o w e) (fun c=>c .undef e) fun x i=>aa d true (fun p=>p3 [x] i fun y l=>p y l) (fun c=>c .undef i) fun z m=>ay d z (Bo false) fun r=>Q r m
def j3 (p1:Nat) (p2 p3 p4:ai) (p5:Nat) (a0 a1 a2 a3 a4:AV) (M0:RM) (Q:ah) : Prop:=oP p1 a2 fun vp W=>bg vp W M0 fun H I=>aW .add a0 (St [13,10]) fun vr=>aR a1 fun vs=>fw (fun vo j e=>af .lss (ak j 1) vs fun vt=>ax vt ( bV a1 (ak j 1) 2 fun vu=>bF e vu 2 fun vv=>bg (.row [(St []),(St [])] false p1 0) (fun V=>.ptr V 0) e fun d L=>aG L d vv 2 fun t=>aS d 0 fun vw=>aj t vw fun vx=>p2 [vx] t fun vy x=>fQ vy fun g=>aa g false (fun c=>aS d 1 fun vz=>c vz x) (fun c=>c .undef x) fun v0 p=>aa g false (fun vm=>aj p v0 fun v1=>vm v1 p) (fun c=>c .undef p) fun v2 F=>aa g false (fun vn=>p3 [v2] F fun v3 O=>vn v3 O) (fun c=>c .undef F) fun v4 r=>aa g false (fun Y=>fQ v4 fun v5=>Y v5 r) (fun c=>c .undef r) fun v6 s=>ay g (Bo true) v6 fun h=>aa h false (fun Z=>aS d 0 fun v7=>Z v7 s) (fun c=>c .undef s) fun v8 n=>aa h false (fun va=>aj n v8 fun v9=>va v9 n) (fun c=>c .undef n) fun wa u=>aa h false (fun vb=>p4 [wa] u fun wb P=>vb wb P) (fun c=>c .undef u) fun wc v=>aa h false (fun vc=>aW .eql wc (St [116,114,97,110,115,102,101,114,45,101,110,99,111,100,105,110,103]) fun wd=>vc wd v) (fun c=>c .undef v) fun we w=>ay h (Bo true) we fun i=>aa i false (fun vd=>aS d 0 fun wf=>vd wf w) (fun c=>c .undef w) fun wg o=>aa i false (fun ve=>aj o wg fun wh=>ve wh o) (fun c=>c .undef o) fun wi y=>aa i false (fun vf=>p4 [wi] y fun wj R=>vf wj R) (fun c=>c .undef y) fun wk z=>aa i false (fun vg=>aW .eql wk (St [99,111,110,116,101,110,116,45,108,101,110,103,116,104]) fun wl=>vg wl z) (fun c=>c .undef z) fun wm l=>ay i (Bo true) wm fun wn=>ax wn ( Q (.tup [(.sc (.slice none 0 0)),(N .i64 1)]) l) ( aS d 0 fun wo=>aj l wo fun wp=>aW .add wp (St [58,32]) fun wq=>aS d 1 fun wr=>aj l wr fun ws=>aW .add wq ws fun wt=>aW .add wt (St [13,10]) fun wu=>aW .add (ak j 0) wu fun wv=>af .add (ak j 1) (N .i64 1) fun ww=>vo [wv,ww] l)) ( aS H 0 fun wx=>aj e wx fun wy=>aW .add wy (St [58,32]) fun wz=>aS H 1 fun w0=>aj e w0 fun w1=>aW .add wz w1 fun w2=>aW .add w2 (St [13,10]) fun w3=>aW .add w3 (St [13,10]) fun w4=>aW .add (ak j 0) w4 fun G=>aR a1 fun w5=>af .add w5 (N .i64 1) fun w6=>af .gtr w6 (N .i64 32) fun m=>aa m false (fun vh=>vh G e) (fun c=>c .undef e) fun w7 A=>aa m false (fun vi=>cz w7 fun w8=>vi w8 A) (fun c=>c .undef A) fun w9 B=>aa m false (fun vj=>af .gtr w9 (N .i64 2048) fun xa=>vj xa B) (fun c=>c .undef B) fun xb C=>ay m (Bo true) xb fun q=>aa q false (fun vk=>vk a3 C) (fun c=>c .undef C) fun xc D=>aa q false (fun vl=>af .gtr xc (N .i64 16384) fun xd=>vl xd D) (fun c=>c .undef D) fun xe E=>ay q (Bo true) xe fun xf=>ax xf ( Q (.tup [(.sc (.slice none 0 0)),(N .i64 2)]) E) ( jG p5 G fun vq X=>bg vq X E fun xg S=>appW p5 1 1 [(N .u8 0)] false xg a4 S fun xh U=>Q (.tup [xh,(N .i64 0)]) U))) [vr,(N .i64 0)] I
def j5 (p1:Nat) (p2:ai) (a0:AV) (M0:RM) (Q:ah) : Prop:=bg (.row [(St []),(St [])] false p1 0) (fun h=>.ptr h 0) M0 fun d e=>p2 [a0] e fun j g=>gH [(St []),(St [])] [(0,1,(St [67,111,110,116,101,110,116,45,76,101,110,103,116,104])),(1,1,j)] fun l=>aG g d l 2 fun c=>bF c d 2 fun i=>Q i c
def gJ (p1 p2:ai) (p3 p4:Nat) (p5:ai) (a0 a1:AV) (M0:RM) (Q:ah) : Prop:=p1 [a0,(St [72,84,84,80,47,49,46,49,32])] M0 fun E n=>aD E 0 fun g=>aD E 1 fun vf=>fQ vf fun h=>aa h false (fun c=>c g n) (fun c=>c .undef n) fun vg o=>aa h false (fun L=>cz vg fun vh=>L vh o) (fun c=>c .undef o) fun vi w=>aa h false (fun Z=>af .lss vi (N .i64 4) fun vj=>Z vj w) (fun c=>c .undef w) fun vk B=>ay h (Bo true) vk fun d=>aa d false (fun vd=>vd g B) (fun c=>c .undef B) fun vl C=>aa d false (fun ve=>bI (df vl none (some (N .i64 3))) fun vm=>ve vm C) (fun c=>c .undef C) fun vn p=>aa d false (fun O=>p2 [vn,(.fn (.func p3) [] [])] p fun vo F=>O vo F) (fun c=>c .undef p) fun vp q=>aa d false (fun P=>fQ vp fun vq=>P vq q) (fun c=>c .undef q) fun vr r=>ay d (Bo true) vr fun i=>aa i false (fun R=>R g r) (fun c=>c .undef r) fun vs s=>aa i false (fun S=>dX vs (N .i64 3) fun vt=>S vt s) (fun c=>c .undef s) fun vu t=>aa i false (fun U=>af .neq vu (N .u8 32) fun vv=>U vv t) (fun c=>c .undef t) fun vw u=>ay i (Bo true) vw fun e=>aa e false (fun V=>V g u) (fun c=>c .undef u) fun vx v=>aa e false (fun W=>bI (df vx (some (N .i64 3)) none) fun vy=>W vy v) (fun c=>c .undef v) fun vz x=>aa e false (fun X=>p2 [vz,(.fn (.func p4) [] [])] x fun v0 G=>X v0 G) (fun c=>c .undef x) fun v1 y=>aa e false (fun Y=>fQ v1 fun v2=>Y v2 y) (fun c=>c .undef y) fun v3 z=>ay e (Bo true) v3 fun v4=>ax v4 ( Q (Bo false) z) ( bI (df g none (some (N .i64 3))) fun v5=>p5 [v5] z fun D H=>aD D 0 fun v6=>aD D 1 fun wh=>aS a1 0 fun v7=>aG H v7 v6 1 fun l=>aS a1 0 fun v8=>aj l v8 fun v9=>af .geq v9 (N .i64 100) fun j=>aa j true (fun va=>aS a1 0 fun wa=>va wa l) (fun c=>c .undef l) fun wb m=>aa j true (fun vb=>aj m wb fun wc=>vb wc m) (fun c=>c .undef m) fun wd A=>aa j true (fun vc=>af .leq wd (N .i64 599) fun we=>vc we A) (fun c=>c .undef A) fun wf I=>ay j wf (Bo false) fun wg=>Q wg I)
def nK (p1:Nat) (cv:(FuncId→ai)) (a0 a1:AV) (M0:RM) (Q:ah) : Prop:=jG p1 a0 fun l i=>bg l i M0 fun g h=>aR g fun s=>fw (fun j d c=>af .lss (ak d 0) s fun m=>ax m ( bV g (ak d 0) 1 fun n=>aj c n fun o=>yT cv a1 [o] c fun p e=>fQ p fun q=>ax q ( Q (Bo false) e) ( af .add (ak d 0) (N .i64 1) fun r=>j [r] e)) ( Q (Bo true) c)) [(N .i64 0)] h
def lY (a0:AV) (M0:RM) (Q:ah) : Prop:=af .geq a0 (N .u8 48) fun d=>aa d true (fun c=>c a0 M0) (fun c=>c .undef M0) fun i e=>aa d true (fun h=>af .leq i (N .u8 57) fun j=>h j e) (fun c=>c .undef e) fun l g=>ay d l (Bo false) fun m=>Q m g
def fT (a0:AV) (M0:RM) (Q:ah) : Prop:=af .geq a0 (N .u8 32) fun d=>aa d true (fun c=>c a0 M0) (fun c=>c .undef M0) fun i e=>aa d true (fun h=>af .leq i (N .u8 126) fun j=>h j e) (fun c=>c .undef e) fun l g=>ay d l (Bo false) fun m=>Q m g
def tJ (p1:Nat) (a0:AV) (M0:RM) (Q:ah) : Prop:=gG false 2 a0 (.sc (.slice none 0 0)) fun h=>ax h ( Q (.sc (.slice none 0 0)) M0) ( dC p1 0 [(N .i64 0)] [] fun g e=>bg g e M0 fun i c=>appW p1 1 8 [(N .i64 0)] false i a0 c fun j d=>Q j d)
def oN (p1:Nat) (p2:ai) (p3:Nat) (a0:AV) (M0:RM) (Q:ah) : Prop:=aR a0 fun p=>fw (fun n c e=>af .lss (ak c 1) p fun q=>ax q ( dG (fun i=>bV a0 (ak c 1) 1 fun r=>aj e r fun s=>aR s fun t=>af .add (ak c 0) t fun h=>af .lss h (N .i64 0) fun u=>ax u ( False) ( i [h] e)) (fun D j=>af .add (ak c 1) (N .i64 1) fun v=>n [(ak D 0),v] j)) ( p2 [(.sc (.slice none 0 0)),(ak c 0)] e fun w l=>aR a0 fun x=>fw (fun o d g=>af .lss (ak d 1) x fun y=>ax y ( bV a0 (ak d 1) 1 fun z=>aj g z fun A=>appW p3 1 1 [(N .u8 0)] false (ak d 0) A g fun B m=>af .add (ak d 1) (N .i64 1) fun C=>o [B,C] m) ( Q (ak d 0) g)) [w,(N .i64 0)] l)) [(N .i64 0),(N .i64 0)] M0
def nD (p1:ai) (a0 a1:AV) (M0:RM) (Q:ah) : Prop:=p1 [a0,a1] M0 fun d c=>Q d c
def lJ (p1:ai) (a0 a1:AV) (M0:RM) (Q:ah) : Prop:=p1 [a0,a1] M0 fun d c=>aR d fun e=>af .gtr e (N .i64 0) fun g=>ax g ( bV d (N .i64 0) 1 fun h=>aj c h fun i=>Q (.tup [i,(Bo true)]) c) ( Q (.tup [(St []),(Bo false)]) c)
def mE (p1:Nat) (p2:ai) (a0 a1:AV) (M0:RM) (Q:ah) : Prop:=aR a0 fun j=>Cw false j (N .i64 2048) fun l=>bI (dE 1 a0 (some a1) (some l) none) fun m=>dC p1 2 [(N .u8 0)] [(0,1,(N .u8 13)),(1,1,(N .u8 10))] fun i h=>bg i h M0 fun n e=>pJ n e fun o g=>p2 [m,o] g fun d c=>af .geq d (N .i64 0) fun p=>ax p ( af .add a1 d fun q=>bI (dE 1 a0 (some a1) (some q) none) fun r=>dM c r fun s=>af .add a1 d fun t=>af .add t (N .i64 2) fun u=>Q (.tup [s,u,(N .i64 0)]) c) ( aR a0 fun v=>af .lss v (N .i64 2048) fun w=>ax w ( Q (.tup [(St []),(N .i64 0),(N .i64 15)]) c) ( Q (.tup [(St []),(N .i64 0),(N .i64 2)]) c))
def kY (p1:Nat) (p2 p3 p4 p5:ai) (a0:AV) (M0:RM) (Q:ah) : Prop:=bg (.row [(St []),(St [])] false p1 0) (fun e=>.ptr e 0) M0 fun t u=>p2 [a0,(St [58])] u fun n v=>aD n 0 fun G=>aD n 1 fun H=>aD n 2 fun g=>p3 [H,(St [32,9])] v fun I w=>gH [(St []),(St [])] [(0,1,G),(1,1,I)] fun L=>bg (.row [(St []),(St [])] false p1 0) (fun e=>.ptr e 0) w fun d y=>aG y d L 2 fun l=>bF l d 2 fun o=>lF g true (fun c=>aS d 0 fun R=>c R l none) (fun c=>c .undef l none) fun S m e=>lF g true (fun E=>aj m S fun U=>E U m none) (fun c=>c .undef m none) fun V s vh=>aa g true (fun A=>p4 [V] s fun W x=>A W x) (fun c=>c .undef s) fun X i=>bF i d 2 fun P=>(P=o∧ay g X (Bo false) fun h=>lF h true (fun B=>aS d 1 fun Y=>B Y i none) (fun c=>c .undef i none) fun Z j vf=>lF h true (fun C=>aj j Z fun va=>C va j none) (fun c=>c .undef j none) fun vb p vg=>aa h true (fun D=>p5 [vb] p fun vc z=>D vc z) (fun c=>c .undef p) fun vd q=>bF q d 2 fun O=>(O=o∧ay h vd (Bo false) fun ve=>aG q t o 2 fun r=>bF r t 2 fun F=>Q (.tup [F,ve]) r))
def kT (a0 a1 a2:AV) (M0:RM) (Q:ah) : Prop:=cz a0 fun u=>af .geq u a1 fun d=>aa d true (fun c=>c a0 M0) (fun c=>c .undef M0) fun n e=>aa d true (fun j=>cz n fun o=>j o e) (fun c=>c .undef e) fun p g=>aa d true (fun l=>l a2 g) (fun c=>c .undef g) fun q h=>aa d true (fun m=>af .leq p q fun r=>m r h) (fun c=>c .undef h) fun s i=>ay d s (Bo false) fun t=>Q t i
def lW (a0:AV) (M0:RM) (Q:ah) : Prop:=af .geq a0 (N .u8 65) fun d=>aa d true (fun c=>c a0 M0) (fun c=>c .undef M0) fun i e=>aa d true (fun h=>af .leq i (N .u8 90) fun j=>h j e) (fun c=>c .undef e) fun l g=>ay d l (Bo false) fun m=>Q m g
def kg (a0:AV) (M0:RM) (Q:ah) : Prop:=af .geq a0 (N .u8 33) fun d=>aa d true (fun c=>c a0 M0) (fun c=>c .undef M0) fun i e=>aa d true (fun h=>af .leq i (N .u8 126) fun j=>h j e) (fun c=>c .undef e) fun l g=>ay d l (Bo false) fun m=>Q m g
def lS (p1:Nat) (p2:ai) (p3:Nat) (a0 a1:AV) (M0:RM) (Q:ah) : Prop:=aR a0 fun G=>fw (fun r c d=>af .lss (ak c 1) G fun t=>ax t ( dG (fun h=>bV a0 (ak c 1) 2 fun u=>bF d u 2 fun v=>bg (.row [(St []),(St [])] false p1 0) (fun p=>.ptr p 0) d fun g j=>aG j g v 2 fun i=>aS g 0 fun w=>aj i w fun x=>p2 [x] i fun y l=>p2 [a1] l fun z e=>aW .eql y z fun A=>ax A ( aS g 1 fun B=>aj e B fun C=>dC p3 1 [(St [])] [(0,1,C)] fun s q=>bg s q e fun D m=>appW p3 1 16 [(St [])] false (ak c 0) D m fun E n=>h [E] n) ( h [(ak c 0)] e)) (fun H o=>af .add (ak c 1) (N .i64 1) fun F=>r [(ak H 0),F] o)) ( Q (ak c 0) d)) [(.sc (.slice none 0 0)),(N .i64 0)] M0
def lN (p1:Nat) (a0:AV) (M0:RM) (Q:ah) : Prop:=jG p1 a0 fun t q=>bg t q M0 fun e n=>aR e fun F=>fw (fun s g c=>af .lss (ak g 0) F fun u=>ax u ( dG (fun j=>bV e (ak g 0) 1 fun v=>aj c v fun h=>af .geq h (N .u8 65) fun i=>aa i true (fun d=>d h c) (fun d=>d .undef c) fun w l=>aa i true (fun r=>af .leq w (N .u8 90) fun x=>r x l) (fun d=>d .undef l) fun y m=>ay i y (Bo false) fun z=>ax z ( af .add h (N .u8 97) fun A=>af .sub A (N .u8 65) fun B=>bV e (ak g 0) 1 fun C=>aG m C B 1 fun o=>j [] o) ( j [] m)) (fun G p=>af .add (ak g 0) (N .i64 1) fun D=>s [D] p)) ( dM c e fun E=>Q E c)) [(N .i64 0)] n
def jT (p1:ai) (p2:Nat) (a0 a1:AV) (M0:RM) (Q:ah) : Prop:=fw (fun n g l=>p1 [a0,(ak g 0)] l fun h c=>aD h 0 fun d=>aD h 1 fun e=>aD h 2 fun i=>af .neq i (N .i64 0) fun o=>ax o ( Q (.tup [(.sc (.slice none 0 0)),(N .i64 0),i]) c) ( aR (ak g 1) fun p=>af .sub (N .i64 16384) p fun q=>af .gtr d q fun r=>ax r ( Q (.tup [(.sc (.slice none 0 0)),(N .i64 0),(N .i64 2)]) c) ( af .add d (N .i64 2) fun s=>aR a0 fun t=>af .sub t e fun u=>af .gtr s u fun v=>ax v ( Q (.tup [(.sc (.slice none 0 0)),(N .i64 0),(N .i64 15)]) c) ( af .add e d fun w=>af .add e d fun x=>af .add x (N .i64 2) fun y=>bI (dE 1 a0 (some w) (some y) none) fun z=>dM c z fun A=>aW .neq A (St [13,10]) fun B=>ax B ( Q (.tup [(.sc (.slice none 0 0)),(N .i64 0),(N .i64 14)]) c) ( af .add e d fun C=>af .add C (N .i64 2) fun j=>af .eql d (N .i64 0) fun D=>ax D ( Q (.tup [(ak g 1),j,(N .i64 0)]) c) ( af .add e d fun E=>bI (dE 1 a0 (some e) (some E) none) fun F=>appW p2 1 1 [(N .u8 0)] false (ak g 1) F c fun G m=>n [j,G] m)))))) [a1,(.sc (.slice none 0 0))] M0
def jL (p1 p2 p3:ai) (p4:Nat) (a0:AV) (M0:RM) (Q:ah) : Prop:=p1 [a0,(N .i64 1),(N .i64 40)] M0 fun d e=>aa d true (fun c=>c a0 e) (fun c=>c .undef e) fun o g=>aa d true (fun m=>p2 [o] g fun p i=>m p i) (fun c=>c .undef g) fun q h=>aa d true (fun n=>p3 [q,(.fn (.func p4) [] [])] h fun r j=>n r j) (fun c=>c .undef h) fun s l=>ay d s (Bo false) fun t=>Q t l
def jw (p1 p2:ai) (p3:Nat) (a0:AV) (M0:RM) (Q:ah) : Prop:=p1 [a0,(St [32,9])] M0 fun m e=>aW .eql a0 m fun d=>aa d true (fun c=>c a0 e) (fun c=>c .undef e) fun n g=>aa d true (fun j=>p2 [n,(.fn (.func p3) [] [])] g fun o h=>j o h) (fun c=>c .undef g) fun p i=>ay d p (Bo false) fun l=>Q l i
def tC (p1 p2:Nat) (a0 a1:AV) (M0:RM) (Q:ah) : Prop:=dG (fun g=>af .lss a1 (N .i64 0) fun t=>ax t ( False) ( g [] M0)) (fun v d=>dG (fun c=>u6 a0 fun j=>aR a0 fun l=>af .sub j l fun m=>af .sub a1 m fun e=>af .gtr e (N .i64 0) fun n=>ax n ( u6 a0 fun o=>bI (dE 1 a0 none (some o) none) fun p=>appW p2 1 1 [(N .u8 0)] true p e d fun q h=>aR a0 fun r=>bI (dE 1 q none (some r) none) fun s=>c [s] h) ( c [a0] d)) (fun u i=>Q (ak u 0) i))
def fF (p1:ai) (p2:Nat) (p3 p4 p5:ai) (a0 a1:AV) (M0:RM) (Q:ah) : Prop:=af .eql a1 (N .i64 10) fun x=>ax x ( af .leq (N .i64 0) a0 fun g=>aa g true (fun c=>c a0 M0) (fun c=>c .undef M0) fun y j=>aa g true (fun w=>af .lss y (N .i64 100) fun z=>w z j) (fun c=>c .undef j) fun A l=>ay g A (Bo false) fun B=>ax B ( p1 [a0] l fun C r=>Q C r) ( bg (.row [(N .u8 0),(N .u8 0),(N .u8 0),(N .u8 0),(N .u8 0),(N .u8 0),(N .u8 0),(N .u8 0),(N .u8 0),(N .u8 0),(N .u8 0),(N .u8 0),(N .u8 0),(N .u8 0),(N .u8 0),(N .u8 0),(N .u8 0),(N .u8 0),(N .u8 0),(N .u8 0),(N .u8 0),(N .u8 0),(N .u8 0),(N .u8 0)] false p2 0) (fun v=>.ptr v 0) l fun d m=>gZ .u64 a0 fun o=>dG (fun i=>af .lss a0 (N .i64 0) fun D=>ax D ( Fh o fun E=>i [E] m) ( i [o] m)) (fun q s=>p3 [(ak q 0)] s fun h t=>af .add (N .i64 1) h fun F=>bI (qV 24 1 d (some (N .i64 1)) (some F)) fun G=>p4 [G,(ak q 0)] t fun Y e=>af .lss a0 (N .i64 0) fun H=>ax H ( mQ d (N .i64 0) 24 1 fun I=>aG e I (N .u8 45) 1 fun n=>af .add (N .i64 1) h fun L=>bI (qV 24 1 d none (some L)) fun O=>dM n O fun P=>Q P n) ( af .add (N .i64 1) h fun R=>bI (qV 24 1 d (some (N .i64 1)) (some R)) fun S=>dM e S fun U=>Q U e)))) ( gZ .u64 a0 fun V=>af .lss a0 (N .i64 0) fun W=>p5 [(.sc (.slice none 0 0)),V,a1,W,(Bo false)] M0 fun p u=>aD p 0 fun Z=>aD p 1 fun X=>Q X u)
def mJ (p1:Nat) (p2 p3 p4 p5:ai) (p6:Nat) (p7:ai) (a0 a1:AV) (M0:RM) (Q:ah) : Prop:=bI (dE 1 a0 (some a1) none none) fun L=>dC p1 2 [(N .u8 0)] [(0,1,(N .u8 13)),(1,1,(N .u8 10))] fun I A=>bg I A M0 fun O v=>pJ O v fun P w=>p2 [L,P] w fun l m=>aD l 0 fun e=>aD l 1 fun vr=>aD l 2 fun t=>fQ t fun h=>aa h true (fun c=>c e m) (fun c=>c .undef m) fun R p=>aa h true (fun G=>aR R fun S=>G S p) (fun c=>c .undef p) fun U r=>aa h true (fun H=>af .gtr U (N .i64 10) fun V=>H V r) (fun c=>c .undef r) fun W g=>ay h W (Bo false) fun X=>ax X ( Q (.tup [(N .i64 0),(N .i64 0),(N .i64 14)]) g) ( fQ t fun Y=>ax Y ( Q (.tup [(N .i64 0),(N .i64 0),(N .i64 15)]) g) ( dM g e fun Z=>p3 [Z,(N .i64 1),(N .i64 8)] g fun va s=>fQ va fun d=>aa d false (fun B=>B e s) (fun c=>c .undef s) fun vb i=>aa d false (fun C=>dM i vb fun vc=>C vc i) (fun c=>c .undef i) fun vd n=>aa d false (fun D=>p4 [vd] n fun ve x=>D ve x) (fun c=>c .undef n) fun vf o=>aa d false (fun E=>p5 [vf,(.fn (.func p6) [] [])] o fun vg y=>E vg y) (fun c=>c .undef o) fun vh q=>aa d false (fun F=>fQ vh fun vi=>F vi q) (fun c=>c .undef q) fun vj j=>ay d (Bo true) vj fun vk=>ax vk ( Q (.tup [(N .i64 0),(N .i64 0),(N .i64 14)]) j) ( dM j e fun vl=>p7 [vl,(N .i64 16),(N .i64 64)] j fun u z=>aD u 0 fun vm=>aD u 1 fun vs=>gZ .i64 vm fun vn=>aR e fun vo=>af .add a1 vo fun vp=>af .add vp (N .i64 2) fun vq=>Q (.tup [vn,vq,(N .i64 0)]) z)))
def jb (p1:ai) (a0:AV) (M0:RM) (Q:ah) : Prop:=af .geq a0 (N .u8 97) fun e=>aa e true (fun c=>c a0 M0) (fun c=>c .undef M0) fun B h=>aa e true (fun p=>af .leq B (N .u8 122) fun C=>p C h) (fun c=>c .undef h) fun D j=>ay e D (Bo false) fun g=>aa g false (fun r=>r a0 j) (fun c=>c .undef j) fun u l=>aa g false (fun s=>p1 [u] l fun v o=>s v o) (fun c=>c .undef l) fun w m=>ay g (Bo true) w fun d=>aa d false (fun t=>t a0 m) (fun c=>c .undef m) fun x i=>aa d false (fun q=>af .eql x (N .u8 45) fun y=>q y i) (fun c=>c .undef i) fun z n=>ay d (Bo true) z fun A=>Q A n
def iL (a0:AV) (M0:RM) (Q:ah) : Prop:=af .geq a0 (N .u8 32) fun d=>aa d true (fun c=>c a0 M0) (fun c=>c .undef M0) fun s g=>aa d true (fun l=>af .leq s (N .u8 126) fun t=>l t g) (fun c=>c .undef g) fun u h=>ay d u (Bo false) fun e=>aa e false (fun m=>m a0 h) (fun c=>c .undef h) fun o i=>aa e false (fun n=>af .eql o (N .u8 9) fun p=>n p i) (fun c=>c .undef i) fun q j=>ay e (Bo true) q fun r=>Q r j
def fo (p1 p2:Nat) (p3 p4:ai) (p5:Nat) (a0 a1 a2 a3 a4:AV) (M0:RM) (Q:ah) : Prop:=dG (fun G=>af .lss a2 (N .i64 2) fun i=>aa i false (fun c=>c a2 M0) (fun c=>c .undef M0) fun vf p=>aa i false (fun Y=>af .eql vf (N .i64 10) fun vg=>Y vg p) (fun c=>c .undef p) fun vh s=>ay i (Bo true) vh fun j=>aa j false (fun Z=>Z a2 s) (fun c=>c .undef s) fun vi v=>aa j false (fun va=>af .gtr vi (N .i64 36) fun vj=>va vj v) (fun c=>c .undef v) fun vk V=>ay j (Bo true) vk fun vl=>ax vl ( False) ( G [] V)) (fun wb W=>bg (.row [(N .u8 0),(N .u8 0),(N .u8 0),(N .u8 0),(N .u8 0),(N .u8 0),(N .u8 0),(N .u8 0),(N .u8 0),(N .u8 0),(N .u8 0),(N .u8 0),(N .u8 0),(N .u8 0),(N .u8 0),(N .u8 0),(N .u8 0),(N .u8 0),(N .u8 0),(N .u8 0),(N .u8 0),(N .u8 0),(N .u8 0),(N .u8 0),(N .u8 0),(N .u8 0),(N .u8 0),(N .u8 0),(N .u8 0),(N .u8 0),(N .u8 0),(N .u8 0),(N .u8 0),(N .u8 0),(N .u8 0),(N .u8 0),(N .u8 0),(N .u8 0),(N .u8 0),(N .u8 0),(N .u8 0),(N .u8 0),(N .u8 0),(N .u8 0),(N .u8 0),(N .u8 0),(N .u8 0),(N .u8 0),(N .u8 0),(N .u8 0),(N .u8 0),(N .u8 0),(N .u8 0),(N .u8 0),(N .u8 0),(N .u8 0),(N .u8 0),(N .u8 0),(N .u8 0),(N .u8 0),(N .u8 0),(N .u8 0),(N .u8 0),(N .u8 0),(N .u8 0)] false p2 0) (fun X=>.ptr X 0) W fun d w=>dG (fun m=>ax a3 ( Fh a1 fun vm=>m [vm] w) ( m [a1] w)) (fun D H=>dG (fun n=>p3 [a2] H fun vn q=>ax vn ( gZ .u64 a2 fun vo=>p4 [vo] q fun vp I=>gZ .u64 vp fun vq=>gZ .u64 a2 fun vr=>gZ .u64 a2 fun vs=>af .sub vs (N .u64 1) fun vt=>fw (fun vb e r=>af .geq (ak e 0) vr fun vu=>ax vu ( af .sub (ak e 1) (N .i64 1) fun x=>af .and (ak e 0) vt fun vv=>dX (St [48,49,50,51,52,53,54,55,56,57,97,98,99,100,101,102,103,104,105,106,107,108,109,110,111,112,113,114,115,116,117,118,119,120,121,122]) vv fun vw=>mQ d x 65 1 fun vx=>aG r vx vw 1 fun L=>wR .shr (ak e 0) vq fun vy=>vb [vy,x] L) ( af .sub (ak e 1) (N .i64 1) fun y=>dX (St [48,49,50,51,52,53,54,55,56,57,97,98,99,100,101,102,103,104,105,106,107,108,109,110,111,112,113,114,115,116,117,118,119,120,121,122]) (ak e 0) fun vz=>mQ d y 65 1 fun v0=>aG r v0 vz 1 fun O=>n [y] O)) [(ak D 0),(N .i64 65)] I) ( gZ .u64 a2 fun l=>fw (fun vc g t=>af .geq (ak g 0) l fun v1=>ax v1 ( af .sub (ak g 1) (N .i64 1) fun z=>af .quo (ak g 0) l fun A=>af .mul A l fun v2=>af .sub (ak g 0) v2 fun v3=>dX (St [48,49,50,51,52,53,54,55,56,57,97,98,99,100,101,102,103,104,105,106,107,108,109,110,111,112,113,114,115,116,117,118,119,120,121,122]) v3 fun v4=>mQ d z 65 1 fun v5=>aG t v5 v4 1 fun P=>vc [A,z] P) ( af .sub (ak g 1) (N .i64 1) fun B=>dX (St [48,49,50,51,52,53,54,55,56,57,97,98,99,100,101,102,103,104,105,106,107,108,109,110,111,112,113,114,115,116,117,118,119,120,121,122]) (ak g 0) fun v6=>mQ d B 65 1 fun v7=>aG t v7 v6 1 fun R=>n [B] R)) [(ak D 0),(N .i64 65)] q)) (fun E u=>dG (fun o=>ax a3 ( af .sub (ak E 0) (N .i64 1) fun C=>mQ d C 65 1 fun v8=>aG u v8 (N .u8 45) 1 fun S=>o [C] S) ( o [(ak E 0)] u)) (fun F h=>ax a4 ( bI (qV 65 1 d (some (ak F 0)) none) fun v9=>appW p5 1 1 [(N .u8 0)] false a0 v9 h fun wa U=>Q (.tup [wa,(St [])]) U) ( bI (qV 65 1 d (some (ak F 0)) none) fun vd=>dM h vd fun ve=>Q (.tup [(.sc (.slice none 0 0)),ve]) h)))))
def bM (p1:ai) (p2:Nat) (p3 p4 p5:ai) (a0 a1:AV) (M0:RM) (Q:ah) : Prop:=cz a1 fun e=>af .eql e (N .i64 0) fun q=>aa q false (fun c=>c a1 M0) (fun c=>c .undef M0) fun w2 w=>aa q false (fun vk=>vk a0 w) (fun c=>c .undef w) fun w3 x=>aa q false (fun vn=>aW .eql w2 w3 fun w4=>vn w4 x) (fun c=>c .undef x) fun w5 h=>ay q (Bo true) w5 fun w6=>ax w6 ( Q (N .i64 0) h) ( af .eql e (N .i64 1) fun w7=>ax w7 ( dX a1 (N .i64 0) fun w8=>p1 [a0,w8] h fun w9 vj=>Q w9 vj) ( cz a0 fun xa=>af .geq e xa fun xb=>ax xb ( Q (N .i64 (-1)) h) ( aj h (Cm h p2) fun xc=>af .leq e xc fun r=>aa r true (fun v3=>v3 a0 h) (fun c=>c .undef h) fun xd vb=>aa r true (fun v8=>cz xd fun xe=>v8 xe vb) (fun c=>c .undef vb) fun xf y=>aa r true (fun vl=>af .leq xf (N .i64 64) fun xg=>vl xg y) (fun c=>c .undef y) fun xh z=>ay r xh (Bo false) fun xi=>ax xi ( p3 [a0,a1] z fun xj vh=>Q xj vh) ( dX a1 (N .i64 0) fun vf=>dX a1 (N .i64 1) fun xk=>cz a0 fun xl=>af .sub xl e fun xm=>af .add xm (N .i64 1) fun t=>fw (fun v9 j s=>af .lss (ak j 0) t fun xn=>ax xn ( dG (fun v=>dX a0 (ak j 0) fun xo=>af .neq xo vf fun xp=>ax xp ( af .add (ak j 0) (N .i64 1) fun xq=>bI (df a0 (some xq) (some t)) fun xr=>p1 [xr,vf] s fun vg A=>af .lss vg (N .i64 0) fun xs=>ax xs ( Q (N .i64 (-1)) A) ( af .add vg (N .i64 1) fun xt=>af .add (ak j 0) xt fun xu=>v [xu] A)) ( v [(ak j 0)] s)) (fun o B=>af .add (ak o 0) (N .i64 1) fun xv=>dX a0 xv fun xw=>af .eql xw xk fun d=>aa d true (fun vm=>vm a0 B) (fun c=>c .undef B) fun xx C=>aa d true (fun vo=>vo (ak o 0) C) (fun c=>c .undef C) fun xy D=>aa d true (fun vp=>vp (ak o 0) D) (fun c=>c .undef D) fun xz E=>aa d true (fun vq=>vq e E) (fun c=>c .undef E) fun x0 F=>aa d true (fun vr=>af .add xz x0 fun x1=>vr x1 F) (fun c=>c .undef F) fun x2 G=>aa d true (fun vs=>bI (df xx (some xy) (some x2)) fun x3=>vs x3 G) (fun c=>c .undef G) fun x4 H=>aa d true (fun vt=>vt a1 H) (fun c=>c .undef H) fun x5 I=>aa d true (fun vu=>aW .eql x4 x5 fun x6=>vu x6 I) (fun c=>c .undef I) fun x7 l=>ay d x7 (Bo false) fun x8=>ax x8 ( Q (ak o 0) l) ( af .add (ak o 0) (N .i64 1) fun g=>af .add (ak j 1) (N .i64 1) fun u=>aj l (Cm l p2) fun wa=>af .leq e wa fun n=>aa n true (fun vv=>vv u l) (fun c=>c .undef l) fun wb L=>aa n true (fun vw=>vw g L) (fun c=>c .undef L) fun wc O=>aa n true (fun vx=>p4 [wc] O fun wd vi=>vx wd vi) (fun c=>c .undef O) fun we P=>aa n true (fun vy=>af .gtr wb we fun wf=>vy wf P) (fun c=>c .undef P) fun wg m=>ay n wg (Bo false) fun wh=>ax wh ( bI (df a0 (some g) none) fun wi=>p3 [wi,a1] m fun vd R=>af .geq vd (N .i64 0) fun wj=>ax wj ( af .add vd g fun wk=>Q wk R) ( Q (N .i64 (-1)) R)) ( aj m (Cm m p2) fun wl=>af .gtr e wl fun i=>aa i true (fun vz=>vz u m) (fun c=>c .undef m) fun wm S=>aa i true (fun v0=>v0 g S) (fun c=>c .undef S) fun wn U=>aa i true (fun v1=>wR .shr wn (N .u64 4) fun wo=>v1 wo U) (fun c=>c .undef U) fun wp V=>aa i true (fun v2=>af .add (N .i64 4) wp fun wq=>v2 wq V) (fun c=>c .undef V) fun wr W=>aa i true (fun v4=>af .geq wm wr fun ws=>v4 ws W) (fun c=>c .undef W) fun wt X=>ay i wt (Bo false) fun p=>aa p true (fun v5=>v5 g X) (fun c=>c .undef X) fun wu Y=>aa p true (fun v6=>v6 t Y) (fun c=>c .undef Y) fun wv Z=>aa p true (fun v7=>af .lss wu wv fun ww=>v7 ww Z) (fun c=>c .undef Z) fun wx va=>ay p wx (Bo false) fun wy=>ax wy ( bI (df a0 (some g) none) fun wz=>p5 [wz,a1] va fun ve vc=>af .lss ve (N .i64 0) fun w0=>ax w0 ( Q (N .i64 (-1)) vc) ( af .add g ve fun w1=>Q w1 vc)) ( v9 [g,u] va))))) ( Q (N .i64 (-1)) s)) [(N .i64 0),(N .i64 0)] z))))
def tN (p1:ai) (a0 a1:AV) (M0:RM) (Q:ah) : Prop:=p1 [a0,a1] M0 fun c d=>af .geq c (N .i64 0) fun e=>ax e ( bI (dE 1 a0 none (some c) none) fun g=>aR a1 fun h=>af .add c h fun i=>bI (dE 1 a0 (some i) none none) fun j=>Q (.tup [g,j,(Bo true)]) d) ( Q (.tup [a0,(.sc (.slice none 0 0)),(Bo false)]) d)
def kX (p1:ai) (a0:AV) (M0:RM) (Q:ah) : Prop:=p1 [a0] M0 fun d g=>aa d false (fun c=>c a0 g) (fun c=>c .undef g) fun y h=>aa d false (fun o=>af .geq y (N .u8 97) fun z=>o z h) (fun c=>c .undef h) fun A j=>aa d false (fun q=>q A j) (fun c=>c .undef j) fun e l=>aa e true (fun r=>r a0 l) (fun c=>c .undef l) fun B m=>aa e true (fun s=>af .leq B (N .u8 102) fun t=>s t m) (fun c=>c .undef m) fun u i=>aa d false (fun p=>ay e u (Bo false) fun v=>p v i) (fun c=>c .undef i) fun w n=>ay d (Bo true) w fun x=>Q x n
def jJ (p1 p2:ai) (a0 a1 a2:AV) (M0:RM) (Q:ah) : Prop:=p1 [a0,a1,a2] M0 fun d c=>aD d 0 fun e=>aD d 1 fun g=>KD true g (.sc .nilIface) fun i=>ax i ( p2 [(St [80,97,114,115,101,85,105,110,116]),a0,a1,a2,g] c fun j h=>Q (.tup [e,j]) h) ( Q (.tup [e,(.sc .nilIface)]) c)
def fD (p1:Nat) (p2:ai) (p3:Nat) (p4:ai) (a0 a1 a2:AV) (M0:RM) (Q:ah) : Prop:=aW .eql a0 (St []) fun xt=>ax xt ( Q (.tup [(N .u64 0),(.ifc p1 (N .i64 2))]) M0) ( af .eql a1 (N .i64 0) fun xu=>dG (fun g=>af .leq (N .i64 2) a1 fun z=>aa z true (fun c=>c a1 M0) (fun c=>c .undef M0) fun xv G=>aa z true (fun vz=>af .leq xv (N .i64 36) fun xw=>vz xw G) (fun c=>c .undef G) fun xx i=>ay z xx (Bo false) fun xy=>ax xy ( g [a0,a1] i) ( af .eql a1 (N .i64 0) fun xz=>ax xz ( dX a0 (N .i64 0) fun x0=>af .eql x0 (N .u8 48) fun x1=>ax x1 ( cz a0 fun x3=>af .geq x3 (N .i64 3) fun l=>aa l true (fun v7=>v7 a0 i) (fun c=>c .undef i) fun x4 V=>aa l true (fun wc=>dX x4 (N .i64 1) fun x5=>wc x5 V) (fun c=>c .undef V) fun x6 vd=>aa l true (fun wl=>p2 [x6] vd fun x7 vx=>wl x7 vx) (fun c=>c .undef vd) fun x8 H=>aa l true (fun v0=>af .eql x8 (N .u8 98) fun x9=>v0 x9 H) (fun c=>c .undef H) fun ya s=>ay l ya (Bo false) fun yb=>ax yb ( bI (df a0 (some (N .i64 2)) none) fun yc=>g [yc,(N .i64 2)] s) ( cz a0 fun yd=>af .geq yd (N .i64 3) fun m=>aa m true (fun v1=>v1 a0 s) (fun c=>c .undef s) fun ye I=>aa m true (fun v2=>dX ye (N .i64 1) fun yf=>v2 yf I) (fun c=>c .undef I) fun yg L=>aa m true (fun v3=>p2 [yg] L fun yh vp=>v3 yh vp) (fun c=>c .undef L) fun yi O=>aa m true (fun v4=>af .eql yi (N .u8 111) fun yj=>v4 yj O) (fun c=>c .undef O) fun yk t=>ay m yk (Bo false) fun yl=>ax yl ( bI (df a0 (some (N .i64 2)) none) fun ym=>g [ym,(N .i64 8)] t) ( cz a0 fun yn=>af .geq yn (N .i64 3) fun n=>aa n true (fun v5=>v5 a0 t) (fun c=>c .undef t) fun yo P=>aa n true (fun v6=>dX yo (N .i64 1) fun yp=>v6 yp P) (fun c=>c .undef P) fun yq R=>aa n true (fun v8=>p2 [yq] R fun yr vq=>v8 yr vq) (fun c=>c .undef R) fun ys S=>aa n true (fun v9=>af .eql ys (N .u8 120) fun yt=>v9 yt S) (fun c=>c .undef S) fun yu U=>ay n yu (Bo false) fun yv=>ax yv ( bI (df a0 (some (N .i64 2)) none) fun yw=>g [yw,(N .i64 16)] U) ( bI (df a0 (some (N .i64 1)) none) fun x2=>g [x2,(N .i64 8)] U)))) ( g [a0,(N .i64 10)] i)) ( Q (.tup [(N .u64 0),(.ifc p1 (N .i64 3))]) i))) (fun h u=>dG (fun D=>af .eql a2 (N .i64 0) fun yx=>ax yx ( D [(N .i64 64)] u) ( af .lss a2 (N .i64 0) fun A=>aa A false (fun wa=>wa a2 u) (fun c=>c .undef u) fun yy W=>aa A false (fun wb=>af .gtr yy (N .i64 64) fun yz=>wb yz W) (fun c=>c .undef W) fun y0 X=>ay A (Bo true) y0 fun y1=>ax y1 ( Q (.tup [(N .u64 0),(.ifc p1 (N .i64 4))]) X) ( D [a2] X))) (fun y9 v=>dG (fun r=>af .eql (ak h 1) (N .i64 10) fun y5=>ax y5 ( r [(N .u64 1844674407370955162)] v) ( af .eql (ak h 1) (N .i64 16) fun y6=>ax y6 ( r [(N .u64 1152921504606846976)] v) ( gZ .u64 (ak h 1) fun y2=>af .quo (N .u64 18446744073709551615) y2 fun y3=>af .add y3 (N .u64 1) fun y4=>r [y4] v))) (fun za vr=>gZ .u64 (ak y9 0) fun y7=>wR .shl (N .u64 1) y7 fun y8=>af .sub y8 (N .u64 1) fun B=>jG p3 (ak h 0) fun wr vy=>bg wr vy vr fun vn vs=>aR vn fun ws=>fw (fun wq d j=>af .lss (ak d 2) ws fun wt=>ax wt ( dG (fun E=>bV vn (ak d 2) 1 fun wu=>aj j wu fun e=>dG (fun F=>af .eql e (N .u8 95) fun vl=>aa vl true (fun wd=>wd xu j) (fun c=>c .undef j) fun wv w=>ay vl wv (Bo false) fun ww=>ax ww ( E [(Bo true),(ak d 1)] w) ( af .leq (N .u8 48) e fun x=>aa x true (fun we=>we e w) (fun c=>c .undef w) fun wx Y=>aa x true (fun wf=>af .leq wx (N .u8 57) fun wy=>wf wy Y) (fun c=>c .undef Y) fun wz Z=>ay x wz (Bo false) fun w0=>ax w0 ( af .sub e (N .u8 48) fun w1=>F [(ak d 0),w1] Z) ( p2 [e] Z fun w2 va=>af .leq (N .u8 97) w2 fun p=>aa p true (fun wg=>wg e va) (fun c=>c .undef va) fun w3 vb=>aa p true (fun wh=>p2 [w3] vb fun w4 vt=>wh w4 vt) (fun c=>c .undef vb) fun w5 vc=>aa p true (fun wi=>af .leq w5 (N .u8 122) fun w6=>wi w6 vc) (fun c=>c .undef vc) fun w7 ve=>ay p w7 (Bo false) fun w8=>ax w8 ( p2 [e] ve fun w9 vu=>af .sub w9 (N .u8 97) fun xa=>af .add xa (N .u8 10) fun xb=>F [(ak d 0),xb] vu) ( Q (.tup [(N .u64 0),(.ifc p1 (N .i64 2))]) ve)))) (fun C o=>gZ .u8 (ak h 1) fun xc=>af .geq (ak C 1) xc fun xd=>ax xd ( Q (.tup [(N .u64 0),(.ifc p1 (N .i64 2))]) o) ( af .geq (ak d 1) (ak za 0) fun xe=>ax xe ( Q (.tup [B,(.ifc p1 (N .i64 1))]) o) ( gZ .u64 (ak h 1) fun xf=>af .mul (ak d 1) xf fun vm=>gZ .u64 (ak C 1) fun xg=>af .add vm xg fun y=>af .lss y vm fun q=>aa q false (fun wj=>wj y o) (fun c=>c .undef o) fun xh vf=>aa q false (fun wk=>wk B vf) (fun c=>c .undef vf) fun xi vg=>aa q false (fun wm=>af .gtr xh xi fun xj=>wm xj vg) (fun c=>c .undef vg) fun xk vh=>ay q (Bo true) xk fun xl=>ax xl ( Q (.tup [B,(.ifc p1 (N .i64 1))]) vh) ( E [(ak C 0),y] vh))))) (fun vo vv=>af .add (ak d 2) (N .i64 1) fun xm=>wq [(ak vo 0),(ak vo 1),xm] vv)) ( aa (ak d 0) true (fun wn=>wn a0 j) (fun c=>c .undef j) fun xn vi=>aa (ak d 0) true (fun wo=>p4 [xn] vi fun xo vw=>wo xo vw) (fun c=>c .undef vi) fun xp vj=>aa (ak d 0) true (fun wp=>fQ xp fun xq=>wp xq vj) (fun c=>c .undef vj) fun xr vk=>ay (ak d 0) xr (Bo false) fun xs=>ax xs ( Q (.tup [(N .u64 0),(.ifc p1 (N .i64 2))]) vk) ( Q (.tup [(ak d 1),(.sc .nilIface)]) vk))) [(Bo false),(N .u64 0),(N .i64 0)] vs))))
def eP (a0:AV) (M0:RM) (Q:ah) : Prop:=af .sub a0 (N .i64 1) fun c=>af .and a0 c fun d=>af .eql d (N .i64 0) fun e=>Q e M0
def gW (a0:AV) (M0:RM) (Q:ah) : Prop:=af .or a0 (N .u8 32) fun c=>Q c M0
end Go.Ab.Hw
namespace Go.Ab.Vl
open Go Go.Ab
def oO (p1:ai) (a0 a1:AV) (M0:RM) (Q:ah) : Prop:=p1 [a0,a1] M0 fun c d=>aD c 0 fun e=>aD c 1 fun g=>aD c 2 fun h=>Q (.tup [e,g,h]) d
def gV (p1:ai) (a0 a1:AV) (M0:RM) (Q:ah) : Prop:=p1 [a0,a1] M0 fun d c=>Q d c
def rE (p1:ai) (a0:AV) (M0:RM) (Q:ah) : Prop:=cz a0 fun z=>af .geq z (N .i64 1) fun e=>aa e true (fun c=>c a0 M0) (fun c=>c .undef M0) fun A g=>aa e true (fun o=>cz A fun B=>o B g) (fun c=>c .undef g) fun C i=>aa e true (fun q=>af .leq C (N .i64 20) fun D=>q D i) (fun c=>c .undef i) fun E j=>ay e E (Bo false) fun d=>aa d true (fun r=>r a0 j) (fun c=>c .undef j) fun t l=>aa d true (fun s=>p1 [t,(St [97,98,99,100,101,102,103,104,105,106,107,108,109,110,111,112,113,114,115,116,117,118,119,120,121,122,48,49,50,51,52,53,54,55,56,57,45])] l fun u n=>s u n) (fun c=>c .undef l) fun v h=>aa d true (fun p=>aW .eql v (St []) fun w=>p w h) (fun c=>c .undef h) fun x m=>ay d x (Bo false) fun y=>Q y m
def oU (p1:Nat) (p2 p3 p4:ai) (a0 a1:AV) (M0:RM) (Q:ah) : Prop:=jG p1 a0 fun x s=>bg x s M0 fun o p=>aR o fun O=>fw (fun w g e=>af .lss (ak g 0) O fun y=>ax y ( bV o (ak g 0) 1 fun z=>aj e z fun n=>p2 [n] e fun A h=>fQ A fun d=>aa d false (fun c=>c a1 h) (fun c=>c .undef h) fun B j=>aa d false (fun t=>t n j) (fun c=>c .undef j) fun C l=>aa d false (fun u=>p3 [B,C] l fun D r=>u D r) (fun c=>c .undef l) fun E m=>aa d false (fun v=>af .geq E (N .i64 0) fun F=>v F m) (fun c=>c .undef m) fun G i=>ay d (Bo true) G fun H=>ax H ( Q (Bo false) i) ( af .add (ak g 0) (N .i64 1) fun I=>w [I] i)) ( p4 [a0] e fun L q=>Q L q)) [(N .i64 0)] p
def nz (p1:ai) (a0 a1:AV) (M0:RM) (Q:ah) : Prop:=p1 [a0,a1] M0 fun d c=>Q d c
def gB (p1:ai) (a0 a1:AV) (M0:RM) (Q:ah) : Prop:=p1 [a0,a1] M0 fun c d=>af .geq c (N .i64 0) fun e=>ax e ( bI (df a0 none (some c)) fun g=>cz a1 fun h=>af .add c h fun i=>bI (df a0 (some i) none) fun j=>Q (.tup [g,j,(Bo true)]) d) ( Q (.tup [a0,(St []),(Bo false)]) d)
def uk (p1 p2 p3:ai) (p4:Nat) (p5 p6 p7 p8:ai) (a0 a1:AV) (M0:RM) (Q:ah) : Prop:=aW .eql a0 (St []) fun h=>aa h false (fun c=>c a1 M0) (fun c=>c .undef M0) fun C i=>aa h false (fun y=>aW .eql C (St []) fun D=>y D i) (fun c=>c .undef i) fun E e=>ay h (Bo true) E fun F=>ax F ( Q a0 e) ( cz a1 fun G=>af .eql G (N .i64 1) fun d=>aa d true (fun z=>z a1 e) (fun c=>c .undef e) fun H m=>aa d true (fun A=>dX H (N .i64 0) fun I=>A I m) (fun c=>c .undef m) fun L n=>aa d true (fun B=>af .lss L (N .u8 128) fun O=>B O n) (fun c=>c .undef n) fun P j=>ay d P (Bo false) fun R=>ax R ( dX a1 (N .i64 0) fun S=>dX a1 (N .i64 0) fun V=>p1 [a0,S] j fun U p=>p2 [U,V] p fun W q=>Q W q) ( p3 [a1] j fun o r=>aD o 0 fun X=>aD o 1 fun Y=>bg (.row [(Bo false),(Bo false),(Bo false),(Bo false),(Bo false),(Bo false),(Bo false),(Bo false),(Bo false),(Bo false),(Bo false),(Bo false),(Bo false),(Bo false),(Bo false),(Bo false),(Bo false),(Bo false),(Bo false),(Bo false),(Bo false),(Bo false),(Bo false),(Bo false),(Bo false),(Bo false),(Bo false),(Bo false),(Bo false),(Bo false),(Bo false),(Bo false),(Bo false),(Bo false),(Bo false),(Bo false),(Bo false),(Bo false),(Bo false),(Bo false),(Bo false),(Bo false),(Bo false),(Bo false),(Bo false),(Bo false),(Bo false),(Bo false),(Bo false),(Bo false),(Bo false),(Bo false),(Bo false),(Bo false),(Bo false),(Bo false),(Bo false),(Bo false),(Bo false),(Bo false),(Bo false),(Bo false),(Bo false),(Bo false),(Bo false),(Bo false),(Bo false),(Bo false),(Bo false),(Bo false),(Bo false),(Bo false),(Bo false),(Bo false),(Bo false),(Bo false),(Bo false),(Bo false),(Bo false),(Bo false),(Bo false),(Bo false),(Bo false),(Bo false),(Bo false),(Bo false),(Bo false),(Bo false),(Bo false),(Bo false),(Bo false),(Bo false),(Bo false),(Bo false),(Bo false),(Bo false),(Bo false),(Bo false),(Bo false),(Bo false),(Bo false),(Bo false),(Bo false),(Bo false),(Bo false),(Bo false),(Bo false),(Bo false),(Bo false),(Bo false),(Bo false),(Bo false),(Bo false),(Bo false),(Bo false),(Bo false),(Bo false),(Bo false),(Bo false),(Bo false),(Bo false),(Bo false),(Bo false),(Bo false),(Bo false),(Bo false),(Bo false),(Bo false),(Bo false),(Bo false),(Bo false),(Bo false),(Bo false),(Bo false),(Bo false),(Bo false),(Bo false),(Bo false),(Bo false),(Bo false),(Bo false),(Bo false),(Bo false),(Bo false),(Bo false),(Bo false),(Bo false),(Bo false),(Bo false),(Bo false),(Bo false),(Bo false),(Bo false),(Bo false),(Bo false),(Bo false),(Bo false),(Bo false),(Bo false),(Bo false),(Bo false),(Bo false),(Bo false),(Bo false),(Bo false),(Bo false),(Bo false),(Bo false),(Bo false),(Bo false),(Bo false),(Bo false),(Bo false),(Bo false),(Bo false),(Bo false),(Bo false),(Bo false),(Bo false),(Bo false),(Bo false),(Bo false),(Bo false),(Bo false),(Bo false),(Bo false),(Bo false),(Bo false),(Bo false),(Bo false),(Bo false),(Bo false),(Bo false),(Bo false),(Bo false),(Bo false),(Bo false),(Bo false),(Bo false),(Bo false),(Bo false),(Bo false),(Bo false),(Bo false),(Bo false),(Bo false),(Bo false),(Bo false),(Bo false),(Bo false),(Bo false),(Bo false),(Bo false),(Bo false),(Bo false),(Bo false),(Bo false),(Bo false),(Bo false),(Bo false),(Bo false),(Bo false),(Bo false),(Bo false),(Bo false),(Bo false),(Bo false),(Bo false),(Bo false),(Bo false),(Bo false),(Bo false),(Bo false),(Bo false),(Bo false),(Bo false),(Bo false),(Bo false),(Bo false),(Bo false),(Bo false),(Bo false),(Bo false),(Bo false),(Bo false),(Bo false),(Bo false),(Bo false),(Bo false),(Bo false),(Bo false),(Bo false),(Bo false),(Bo false),(Bo false),(Bo false)] false p4 0) (fun x=>.ptr x 0) r fun g s=>aG s g X 256 fun l=>ax Y ( p5 [a0,g] l fun Z t=>p6 [Z,g] t fun va u=>Q va u) ( p7 [a0,a1] l fun vb v=>p8 [vb,a1] v fun vc w=>Q vc w)))
def wC (p1:Nat) (a0:AV) (M0:RM) (Q:ah) : Prop:=jG p1 a0 fun t q=>bg t q M0 fun e n=>aR e fun F=>fw (fun s g c=>af .lss (ak g 0) F fun u=>ax u ( dG (fun j=>bV e (ak g 0) 1 fun v=>aj c v fun h=>af .geq h (N .u8 65) fun i=>aa i true (fun d=>d h c) (fun d=>d .undef c) fun w l=>aa i true (fun r=>af .leq w (N .u8 90) fun x=>r x l) (fun d=>d .undef l) fun y m=>ay i y (Bo false) fun z=>ax z ( af .add h (N .u8 97) fun A=>af .sub A (N .u8 65) fun B=>bV e (ak g 0) 1 fun C=>aG m C B 1 fun o=>j [] o) ( j [] m)) (fun G p=>af .add (ak g 0) (N .i64 1) fun D=>s [D] p)) ( dM c e fun E=>Q E c)) [(N .i64 0)] n
def dW (a0 a1:AV) (M0:RM) (Q:ah) : Prop:=cz a0 fun B=>cz a1 fun C=>af .geq B C fun d=>aa d true (fun c=>c a0 M0) (fun c=>c .undef M0) fun r e=>aa d true (fun m=>m a1 e) (fun c=>c .undef e) fun s g=>aa d true (fun o=>cz s fun t=>o t g) (fun c=>c .undef g) fun u h=>aa d true (fun p=>bI (df r none (some u)) fun v=>p v h) (fun c=>c .undef h) fun w i=>aa d true (fun q=>q a1 i) (fun c=>c .undef i) fun x j=>aa d true (fun n=>aW .eql w x fun y=>n y j) (fun c=>c .undef j) fun z l=>ay d z (Bo false) fun A=>Q A l
def bM (p1 p2 p3 p4:ai) (a0 a1:AV) (M0:RM) (Q:ah) : Prop:=cz a1 fun e=>af .eql e (N .i64 0) fun q=>aa q false (fun c=>c a1 M0) (fun c=>c .undef M0) fun w2 w=>aa q false (fun vk=>vk a0 w) (fun c=>c .undef w) fun w3 x=>aa q false (fun vn=>aW .eql w2 w3 fun w4=>vn w4 x) (fun c=>c .undef x) fun w5 h=>ay q (Bo true) w5 fun w6=>ax w6 ( Q (N .i64 0) h) ( af .eql e (N .i64 1) fun w7=>ax w7 ( dX a1 (N .i64 0) fun w8=>p1 [a0,w8] h fun w9 vj=>Q w9 vj) ( cz a0 fun xa=>af .geq e xa fun xb=>ax xb ( Q (N .i64 (-1)) h) ( aj h .top fun xc=>af .leq e xc fun r=>aa r true (fun v3=>v3 a0 h) (fun c=>c .undef h) fun xd vb=>aa r true (fun v8=>cz xd fun xe=>v8 xe vb) (fun c=>c .undef vb) fun xf y=>aa r true (fun vl=>af .leq xf (N .i64 64) fun xg=>vl xg y) (fun c=>c .undef y) fun xh z=>ay r xh (Bo false) fun xi=>ax xi ( p2 [a0,a1] z fun xj vh=>Q xj vh) ( dX a1 (N .i64 0) fun vf=>dX a1 (N .i64 1) fun xk=>cz a0 fun xl=>af .sub xl e fun xm=>af .add xm (N .i64 1) fun t=>fw (fun v9 j s=>af .lss (ak j 0) t fun xn=>ax xn ( dG (fun v=>dX a0 (ak j 0) fun xo=>af .neq xo vf fun xp=>ax xp ( af .add (ak j 0) (N .i64 1) fun xq=>bI (df a0 (some xq) (some t)) fun xr=>p1 [xr,vf] s fun vg A=>af .lss vg (N .i64 0) fun xs=>ax xs ( Q (N .i64 (-1)) A) ( af .add vg (N .i64 1) fun xt=>af .add (ak j 0) xt fun xu=>v [xu] A)) ( v [(ak j 0)] s)) (fun m B=>af .add (ak m 0) (N .i64 1) fun xv=>dX a0 xv fun xw=>af .eql xw xk fun d=>aa d true (fun vm=>vm a0 B) (fun c=>c .undef B) fun xx C=>aa d true (fun vo=>vo (ak m 0) C) (fun c=>c .undef C) fun xy D=>aa d true (fun vp=>vp (ak m 0) D) (fun c=>c .undef D) fun xz E=>aa d true (fun vq=>vq e E) (fun c=>c .undef E) fun x0 F=>aa d true (fun vr=>af .add xz x0 fun x1=>vr x1 F) (fun c=>c .undef F) fun x2 G=>aa d true (fun vs=>bI (df xx (some xy) (some x2)) fun x3=>vs x3 G) (fun c=>c .undef G) fun x4 H=>aa d true (fun vt=>vt a1 H) (fun c=>c .undef H) fun x5 I=>aa d true (fun vu=>aW .eql x4 x5 fun x6=>vu x6 I) (fun c=>c .undef I) fun x7 n=>ay d x7 (Bo false) fun x8=>ax x8 ( Q (ak m 0) n) ( af .add (ak m 0) (N .i64 1) fun g=>af .add (ak j 1) (N .i64 1) fun u=>aj n .top fun wa=>af .leq e wa fun l=>aa l true (fun vv=>vv u n) (fun c=>c .undef n) fun wb L=>aa l true (fun vw=>vw g L) (fun c=>c .undef L) fun wc O=>aa l true (fun vx=>p3 [wc] O fun wd vi=>vx wd vi) (fun c=>c .undef O) fun we P=>aa l true (fun vy=>af .gtr wb we fun wf=>vy wf P) (fun c=>c .undef P) fun wg o=>ay l wg (Bo false) fun wh=>ax wh ( bI (df a0 (some g) none) fun wi=>p2 [wi,a1] o fun vd R=>af .geq vd (N .i64 0) fun wj=>ax wj ( af .add vd g fun wk=>Q wk R) ( Q (N .i64 (-1)) R)) ( aj o .top fun wl=>af .gtr e wl fun i=>aa i true (fun vz=>vz u o) (fun c=>c .undef o) fun wm S=>aa i true (fun v0=>v0 g S) (fun c=>c .undef S) fun wn U=>aa i true (fun v1=>wR .shr wn (N .u64 4) fun wo=>v1 wo U) (fun c=>c .undef U) fun wp V=>aa i true (fun v2=>af .add (N .i64 4) wp fun wq=>v2 wq V) (fun c=>c .undef V) fun wr W=>aa i true (fun v4=>af .geq wm wr fun ws=>v4 ws W) (fun c=>c .undef W) fun wt X=>ay i wt (Bo false) fun p=>aa p true (fun v5=>v5 g X) (fun c=>c .undef X) fun wu Y=>aa p true (fun v6=>v6 t Y) (fun c=>c .undef Y) fun wv Z=>aa p true (fun v7=>af .lss wu wv fun ww=>v7 ww Z) (fun c=>c .undef Z) fun wx va=>ay p wx (Bo false) fun wy=>ax wy ( bI (df a0 (some g) none) fun wz=>p4 [wz,a1] va fun ve vc=>af .lss ve (N .i64 0) fun w0=>ax w0 ( Q (N .i64 (-1)) vc) ( af .add g ve fun w1=>Q w1 vc)) ( v9 [g,u] va))))) ( Q (N .i64 (-1)) s)) [(N .i64 0),(N .i64 0)] z))))
def jK (p1:ai) (a0 a1:AV) (M0:RM) (Q:ah) : Prop:=p1 [a0,a1] M0 fun c d=>aD c 0 fun g=>aD c 1 fun e=>Q (.tup [g,e]) d
def eu (p1:ai) (a0 a1:AV) (M0:RM) (Q:ah) : Prop:=p1 [a0,a1] M0 fun g c=>fQ g fun h=>ax h ( Q (.tup [a0,(Bo false)]) c) ( cz a1 fun d=>bI (df a0 (some d) none) fun e=>Q (.tup [e,(Bo true)]) c)
end Go.Ab.Vl
namespace Go.Ab
open Go Go.RowKit
def RM.cell (M:RM) (b o:Nat) : Option AV:=(M.cells b).bind (·[o]?)
section
variable {M M' : RM} {K:AV→Prop} {KQ:ah}
theorem dV {b o:Nat} {v:AV} : M.loads b o 1=some [v]↔M.cell b o=some v:=by
 unfold RM.loads RM.cell
 cases hc:M.cells b with
 | none=>simp
 | some l =>
   simp only[Option.bind_some]
   constructor
   ·intro h
    split at h
    ·rename_i hlt
     have h1:=Option.some.inj h
     have:((l.drop o).take 1)[0]?=some v:=by rw[h1]; rfl
     rw[List.getElem?_take,if_pos (by omega),List.getElem?_drop] at this
     simpa using this
    ·cases h
   ·intro h
    have hlt:=(List.getElem?_eq_some_iff.1 h).1
    rw[if_pos (by omega)]
    congr 1
    rw[List.drop_eq_getElem_cons hlt]
    simp only[List.take_succ_cons,List.take_zero]
    congr 1
    exact(List.getElem?_eq_some_iff.1 h).2
@[go_sem] theorem dR (b o:Nat) : aj M (.ptr b o) K=∃ v,M.cell b o=some v∧K v:=by
 apply propext; unfold aj
 constructor
 ·rintro⟨b',o',v,h,hl,hk⟩; cases h; exact⟨v,dV.1 hl,hk⟩
 ·rintro⟨v,hl,hk⟩; exact⟨b,o,v,rfl,dV.2 hl,hk⟩
@[go_sem] theorem xM (b o n:Nat) : bF M (.ptr b o) n K=∃ vs,M.loads b o n=some vs∧K (.agg vs):=by
 apply propext; unfold bF
 constructor
 ·rintro⟨b',o',v,h,hl,hk⟩; cases h; exact⟨v,hl,hk⟩
 ·rintro⟨v,hl,hk⟩; exact⟨b,o,v,rfl,hl,hk⟩
@[go_sem] theorem vB (b p:Nat) (x:AV) (n:Nat) (K:RM→Prop) : aG M (.ptr b p) x n K=(x.cells.length=n∧∃ M',M.stores b p x.cells=some M'∧K M'):=by
 apply propext; unfold aG
 constructor
 ·rintro⟨b',o',M',h,h1,h2,hk⟩; cases h; exact⟨h1,M',h2,hk⟩
 ·rintro⟨h1,M',h2,hk⟩; exact⟨b,p,M',rfl,h1,h2,hk⟩
def JP (k:IntKind) (a b:Int) : Int:=k.wrap (BitVec.ofInt k.bits a &&& BitVec.ofInt k.bits b).toNat
def RU (k:IntKind) (a b:Int) : Int:=k.wrap (BitVec.ofInt k.bits a ||| BitVec.ofInt k.bits b).toNat
def Sc (k:IntKind) (a b:Int) : Int:=k.wrap (BitVec.ofInt k.bits a ^^^ BitVec.ofInt k.bits b).toNat
def Ob (k:IntKind) (a b:Int) : Int:=k.wrap (BitVec.ofInt k.bits a &&& ~~~BitVec.ofInt k.bits b).toNat
def Qe (k:IntKind) (a b:Int) : Int:=k.wrap (a * 2 ^ (min b.toNat k.bits))
def NF (k:IntKind) (a b:Int) : Int:=a.fdiv (2 ^ (min b.toNat k.bits))
section
variable (k:IntKind) (a b:Int)
theorem eF {op:BinOp} {v:Value} (h:qP op k a b=some v) : af op (N k a) (N k b) K=K (.sc v):=by
 apply propext; unfold af
 constructor
 ·rintro⟨k',a',b',u,h1,h2,h3,hk⟩; cases h1; cases h2; rw[h] at h3; cases h3; exact hk
 ·intro hk; exact⟨k,a,b,v,rfl,rfl,h,hk⟩
@[go_sem] theorem vN:af .add (N k a) (N k b) K=K (N k (k.wrap (a + b))):=eF k a b rfl
@[go_sem] theorem jv:af .sub (N k a) (N k b) K=K (N k (k.wrap (a - b))):=eF k a b rfl
@[go_sem] theorem ME:af .mul (N k a) (N k b) K=K (N k (k.wrap (a * b))):=eF k a b rfl
@[go_sem] theorem AL:af .and (N k a) (N k b) K=K (N k (JP k a b)):=eF k a b rfl
@[go_sem] theorem OP:af .or (N k a) (N k b) K=K (N k (RU k a b)):=eF k a b rfl
@[go_sem] theorem Ti:af .xor (N k a) (N k b) K=K (N k (Sc k a b)):=eF k a b rfl
@[go_sem] theorem QB:af .andNot (N k a) (N k b) K=K (N k (Ob k a b)):=eF k a b rfl
@[go_sem] theorem aX:af .eql (N k a) (N k b) K=K (Bo (a == b)):=eF k a b rfl
@[go_sem] theorem gD:af .neq (N k a) (N k b) K=K (Bo (a != b)):=eF k a b rfl
@[go_sem] theorem iQ:af .lss (N k a) (N k b) K=K (Bo (decide (a<b))):=eF k a b rfl
@[go_sem] theorem nR:af .leq (N k a) (N k b) K=K (Bo (decide (a≤b))):=eF k a b rfl
@[go_sem] theorem ed:af .gtr (N k a) (N k b) K=K (Bo (decide (a > b))):=eF k a b rfl
@[go_sem] theorem dx:af .geq (N k a) (N k b) K=K (Bo (decide (a ≥ b))):=eF k a b rfl
@[go_sem] theorem Nc:af .quo (N k a) (N k b) K=(b≠0∧K (N k (k.wrap (a.tdiv b)))):=by
 apply propext; unfold af qP
 constructor
 ·rintro⟨k',a',b',u,h1,h2,h3,hk⟩; cases h1; cases h2
  simp only at h3
  split at h3
  ·cases h3
  ·cases h3; exact⟨‹_›,hk⟩
 ·rintro⟨h0,hk⟩; exact⟨k,a,b,_,rfl,rfl,by simp only[if_neg h0],hk⟩
@[go_sem] theorem Nw:af .rem (N k a) (N k b) K=(b≠0∧K (N k (a.tmod b))):=by
 apply propext; unfold af qP
 constructor
 ·rintro⟨k',a',b',u,h1,h2,h3,hk⟩; cases h1; cases h2
  simp only at h3
  split at h3
  ·cases h3
  ·cases h3; exact⟨‹_›,hk⟩
 ·rintro⟨h0,hk⟩; exact⟨k,a,b,_,rfl,rfl,by simp only[if_neg h0],hk⟩
variable (l:IntKind)
@[go_sem] theorem OI:wR .shl (N k a) (N l b) K=(0≤b∧K (N k (Qe k a b))):=by
 apply propext; unfold wR Bj
 constructor
 ·rintro⟨k',a',l',b',u,h1,h2,h3,hk⟩; cases h1; cases h2
  split at h3
  ·cases h3
  ·cases h3; exact⟨by omega,hk⟩
 ·rintro⟨h0,hk⟩; exact⟨k,a,l,b,_,rfl,rfl,by rw[if_neg (by omega)]; rfl,hk⟩
@[go_sem] theorem Iw:wR .shr (N k a) (N l b) K=(0≤b∧K (N k (NF k a b))):=by
 apply propext; unfold wR Bj
 constructor
 ·rintro⟨k',a',l',b',u,h1,h2,h3,hk⟩; cases h1; cases h2
  split at h3
  ·cases h3
  ·cases h3; exact⟨by omega,hk⟩
 ·rintro⟨h0,hk⟩; exact⟨k,a,l,b,_,rfl,rfl,by rw[if_neg (by omega)]; rfl,hk⟩
@[go_sem] theorem Uf {l:IntKind} {a:Int} {K:AV→Prop} : JC (N l a) K=K (St (Utf8.encode a).data.toList):=by
 apply propext; unfold JC
 constructor
 ·rintro⟨l',n,h,hk⟩; cases h; exact hk
 ·intro h; exact⟨_,_,rfl,h⟩
@[go_sem] theorem kG:gZ k (N l a) K=K (N k (k.wrap a)):=by
 apply propext; unfold gZ
 constructor
 ·rintro⟨l',n,h,hk⟩; cases h; exact hk
 ·intro hk; exact⟨l,a,rfl,hk⟩
@[go_sem] theorem Ls (mx:Bool) : Cw mx (N k a) (N k b) K=K (N k (if mx then(if b > a then b else a) else(if b<a then b else a))):=by
 apply propext; unfold Cw
 constructor
 ·rintro⟨k',a',b',h1,h2,hk⟩; cases h1; cases h2; exact hk
 ·intro hk; exact⟨k,a,b,rfl,rfl,hk⟩
@[go_sem] theorem Uq:Fh (N k a) K=K (N k (k.wrap (0 - a))):=by
 apply propext; unfold Fh
 constructor
 ·rintro⟨k',a',h1,hk⟩; cases h1; exact hk
 ·intro hk; exact⟨k,a,rfl,hk⟩
end
@[go_sem] theorem di (b:Bool) : fQ (Bo b) K=K (Bo (!b)):=by
 apply propext; unfold fQ
 constructor
 ·rintro⟨b',h,hk⟩; cases h; exact hk
 ·intro hk; exact⟨b,rfl,hk⟩
@[go_sem] theorem QK (neg a b:Bool) : yS neg (Bo a) (Bo b) K=K (Bo ((a == b) != neg)):=by
 apply propext; unfold yS
 constructor
 ·rintro⟨a',b',h,h',hk⟩; cases h; cases h'; exact hk
 ·intro hk; exact⟨a,b,rfl,rfl,hk⟩
@[go_sem] theorem FO (t:Bool) (a b:AV) : ay (Bo t) a b K=K (if t then a else b):=by
 apply propext; unfold ay
 constructor
 ·rintro⟨t',h,hk⟩; cases h; exact hk
 ·intro hk; exact⟨t,rfl,hk⟩
@[go_sem] theorem Fa (b:Bool) (p q:Prop) : ax (Bo b) p q=((b=true→p)∧(b=false→q)):=rfl
@[go_sem] theorem Rq {α:Type} (b want:Bool) (f g:α→Prop) (k:α) : lg (Bo b) want f g k=if b=want then f k else g k:=rfl
@[go_sem] theorem PV {α:Type} (want:Bool) (f g:α→Prop) (k:α) : lg .undef want f g k=g k:=rfl
@[go_sem] theorem SY (b o:Nat) : MG (.ptr b o) K=K (.ptr b o):=by
 apply propext; unfold MG
 constructor
 ·rintro⟨b',o',h,hk⟩; cases h; exact hk
 ·intro hk; exact⟨b,o,rfl,hk⟩
@[go_sem] theorem jD (b o n:Nat) : aS (.ptr b o) n K=K (.ptr b (o + n)):=by
 apply propext; unfold aS
 constructor
 ·rintro⟨b',o',h,hk⟩; cases h; exact hk
 ·intro hk; exact⟨b,o,rfl,hk⟩
@[go_sem] theorem nI (b p len:Nat) (cap:Cap) (k:IntKind) (n:Int) (size:Nat) : bV (.slc b p len cap) (N k n) size K=(0≤n∧n<len∧K (.ptr b (p + n.toNat * size))):=by
 apply propext; unfold bV
 constructor
 ·rintro⟨b',p',l',c',k',n',h,h',h0,h1,hk⟩; cases h; cases h'; exact⟨h0,h1,hk⟩
 ·rintro⟨h0,h1,hk⟩; exact⟨b,p,len,cap,k,n,rfl,rfl,h0,h1,hk⟩
@[go_sem] theorem MS (b p:Nat) (k:IntKind) (n:Int) (len size:Nat) : mQ (.ptr b p) (N k n) len size K=(0≤n∧n<len∧K (.ptr b (p + n.toNat * size))):=by
 apply propext; unfold mQ
 constructor
 ·rintro⟨b',p',k',n',h,h',h0,h1,hk⟩; cases h; cases h'; exact⟨h0,h1,hk⟩
 ·rintro⟨h0,h1,hk⟩; exact⟨b,p,k,n,rfl,rfl,h0,h1,hk⟩
@[go_sem] theorem RL (cs:List AV) (off:Nat) : Kg (.agg cs) off K=∃ v,cs[off]?=some v∧K v:=by
 apply propext; unfold Kg
 constructor
 ·rintro⟨cs',v,h,h1,hk⟩; cases h; exact⟨v,h1,hk⟩
 ·rintro⟨v,h1,hk⟩; exact⟨cs,v,rfl,h1,hk⟩
@[go_sem] theorem RQ (cs:List AV) (off n:Nat) : I5 (.agg cs) off n K=(off + n≤cs.length∧K (.agg ((cs.drop off).take n))):=by
 apply propext; unfold I5
 constructor
 ·rintro⟨cs',h,h1,hk⟩; cases h; exact⟨h1,hk⟩
 ·rintro⟨h1,hk⟩; exact⟨cs,rfl,h1,hk⟩
@[go_sem] theorem RA (cs:List AV) (k:IntKind) (n:Int) (len:Nat) : Jh (.agg cs) (N k n) len K=(0≤n∧n<len∧∃ v,cs[n.toNat]?=some v∧K v):=by
 apply propext; unfold Jh
 constructor
 ·rintro⟨cs',k',n',v,h,h',h0,h1,h2,hk⟩; cases h; cases h'; exact⟨h0,h1,v,h2,hk⟩
 ·rintro⟨h0,h1,v,h2,hk⟩; exact⟨cs,k,n,v,rfl,rfl,h0,h1,h2,hk⟩
@[go_sem] theorem RV (cs:List AV) (k:IntKind) (n:Int) (len size:Nat) : JY (.agg cs) (N k n) len size K=(0≤n∧n<len∧n.toNat * size + size≤cs.length∧K (.agg ((cs.drop (n.toNat * size)).take size))):=by
 apply propext; unfold JY
 constructor
 ·rintro⟨cs',k',n',h,h',h0,h1,h2,hk⟩; cases h; cases h'; exact⟨h0,h1,h2,hk⟩
 ·rintro⟨h0,h1,h2,hk⟩; exact⟨cs,k,n,rfl,rfl,h0,h1,h2,hk⟩
@[go_sem] theorem OB (s:List UInt8) (k:IntKind) (n:Int) : dX (St s) (N k n) K=(0≤n∧∃ b,s[n.toNat]?=some b∧K (N .u8 b.toNat)):=by
 apply propext; unfold dX
 constructor
 ·rintro⟨s',k',n',b,h,h',h0,h1,hk⟩; cases h; cases h'; exact⟨h0,b,h1,hk⟩
 ·rintro⟨h0,b,h1,hk⟩; exact⟨s,k,n,b,rfl,rfl,h0,h1,hk⟩
@[go_sem] theorem Af (vs:List AV) (i:Nat) : aD (.tup vs) i K=∃ v,vs[i]?=some v∧K v:=by
 apply propext; unfold aD
 constructor
 ·rintro⟨cs',v,h,h1,hk⟩; cases h; exact⟨v,h1,hk⟩
 ·rintro⟨v,h1,hk⟩; exact⟨vs,v,rfl,h1,hk⟩
@[go_sem] theorem eB (v:AV) : bI (some v) K=K v:=by
 apply propext; unfold bI
 constructor
 ·rintro⟨v',h,hk⟩; cases h; exact hk
 ·intro hk; exact⟨v,rfl,hk⟩
@[go_sem] theorem jo (b o n:Nat) (c:Cap) : aR (.slc b o n c) K=K (N .i64 n):=by
 apply propext; unfold aR
 constructor
 ·rintro⟨n',h,hk⟩; cases h; exact hk
 ·intro hk; exact⟨n,rfl,hk⟩
@[go_sem] theorem Mq (b:Nat) : aR (.emp b) K=K (N .i64 0):=by
 apply propext; unfold aR
 constructor
 ·rintro⟨n',h,hk⟩; cases h; exact hk
 ·intro hk; exact⟨0,rfl,hk⟩
@[go_sem] theorem zZ:aR (.sc (.slice none 0 0)) K=K (N .i64 0):=by
 apply propext; unfold aR
 constructor
 ·rintro⟨n',h,hk⟩; cases h; exact hk
 ·intro hk; exact⟨0,rfl,hk⟩
@[go_sem] theorem mf (s:List UInt8) : cz (St s) K=K (N .i64 s.length):=by
 apply propext; unfold cz
 constructor
 ·rintro⟨s',h,hk⟩; cases h; exact hk
 ·intro hk; exact⟨s,rfl,hk⟩
@[go_sem] theorem Ug (b o n c:Nat) : u6 (.slc b o n (.ex c)) K=K (N .i64 c):=by
 apply propext; unfold u6
 constructor
 ·rintro⟨n',h,hk⟩; cases h; exact hk
 ·intro hk; exact⟨c,rfl,hk⟩
@[go_sem] theorem Tp:u6 (.sc (.slice none 0 0)) K=K (N .i64 0):=by
 apply propext; unfold u6
 constructor
 ·rintro⟨n',h,hk⟩; cases h; exact hk
 ·intro hk; exact⟨0,rfl,hk⟩
@[go_sem] theorem RY (s:List UInt8) : isStr (St s) K=K (St s):=by
 apply propext; unfold isStr
 constructor
 ·rintro⟨s',h,hk⟩; cases h; exact hk
 ·intro hk; exact⟨s,rfl,hk⟩
@[go_sem] theorem G5 {x:AV} {s:List UInt8} (h:vL M x=some s) : dM M x K=K (St s):=by
 apply propext; unfold dM
 constructor
 ·rintro⟨s',h',hk⟩; rw[h] at h'; cases h'; exact hk
 ·intro hk; exact⟨s,h,hk⟩
theorem mi {op:BinOp} {a b:List UInt8} {v:AV} (h:uG op a b=some v) : aW op (St a) (St b) K=K v:=by
 apply propext; unfold aW
 constructor
 ·rintro⟨a',b',u,h1,h2,h3,hk⟩; cases h1; cases h2; rw[h] at h3; cases h3; exact hk
 ·intro hk; exact⟨a,b,v,rfl,rfl,h,hk⟩
@[go_sem] theorem dQ (a b:List UInt8) : aW .eql (St a) (St b) K=K (Bo (a == b)):=by rw[← fH]; exact mi rfl
@[go_sem] theorem zX (a b:List UInt8) : aW .neq (St a) (St b) K=K (Bo (a != b)):=by rw[bne,← fH]; exact mi rfl
@[go_sem] theorem TP (a b:List UInt8) : aW .lss (St a) (St b) K=K (Bo (Op.bytesLess a b)):=mi rfl
@[go_sem] theorem SN (a b:List UInt8) : aW .leq (St a) (St b) K=K (Bo (Op.bytesLess a b || a == b)):=by rw[← fH]; exact mi rfl
@[go_sem] theorem Tj (a b:List UInt8) : aW .gtr (St a) (St b) K=K (Bo (!(Op.bytesLess a b || a == b))):=by rw[← fH]; exact mi rfl
@[go_sem] theorem SG (a b:List UInt8) : aW .geq (St a) (St b) K=K (Bo (!Op.bytesLess a b)):=mi rfl
@[go_sem] theorem bN (a b:List UInt8) : aW .add (St a) (St b) K=(a.length + b.length≤9223372036854775807∧K (St (a++b))):=by
 apply propext; unfold aW
 constructor
 ·rintro⟨a',b',u,h1,h2,h3,hk⟩; cases h1; cases h2
  simp only[uG] at h3
  split at h3
  ·rename_i hb; cases h3; exact⟨aI hb,hk⟩
  ·cases h3
 ·rintro⟨h0,hk⟩; exact⟨a,b,_,rfl,rfl,by simp only[uG,aF.2 h0],hk⟩
theorem iO {neg:Bool} {tag:Nat} {x y:AV} {r:Bool} (ht:EH x=tag) (h:uK x y=some r) : gG neg tag x y K=K (Bo (r != neg)):=by
 apply propext; unfold gG
 constructor
 ·rintro⟨_,r',h',hk⟩; rw[h] at h'; cases h'; exact hk
 ·intro hk; exact⟨ht,r,h,hk⟩
@[go_sem] theorem Dn (neg:Bool) : gG neg 2 (.sc (.slice none 0 0)) (.sc (.slice none 0 0)) K=K (Bo (!neg)):=(iO (tag:=2) (r:=true) rfl rfl).trans (by cases neg <;> rfl)
@[go_sem] theorem Dj (neg:Bool) (b:Nat) : gG neg 2 (.emp b) (.sc (.slice none 0 0)) K=K (Bo neg):=(iO (tag:=2) (r:=false) rfl rfl).trans (by cases neg <;> rfl)
@[go_sem] theorem CF (neg:Bool) (b o n:Nat) (c:Cap) : gG neg 2 (.slc b o n c) (.sc (.slice none 0 0)) K=K (Bo neg):=(iO (tag:=2) (r:=false) rfl rfl).trans (by cases neg <;> rfl)
@[go_sem] theorem Oe (neg:Bool) (b o:Nat) : gG neg 1 (.ptr b o) (.sc (.pointer none)) K=K (Bo neg):=(iO (tag:=1) (r:=false) rfl rfl).trans (by cases neg <;> rfl)
@[go_sem] theorem NU (neg:Bool) : gG neg 1 (.sc (.pointer none)) (.sc (.pointer none)) K=K (Bo (!neg)):=(iO (tag:=1) (r:=true) rfl rfl).trans (by cases neg <;> rfl)
@[go_sem] theorem Oj (neg:Bool) (b:Nat) : gG neg 3 (.map b) (.sc (.map none)) K=K (Bo neg):=(iO (tag:=3) (r:=false) rfl rfl).trans (by cases neg <;> rfl)
@[go_sem] theorem O1 (neg:Bool) (f:Fn) (xs ys:List AV) : gG neg 4 (.fn f xs ys) (.sc .nilFunc) K=K (Bo neg):=(iO (tag:=4) (r:=false) rfl rfl).trans (by cases neg <;> rfl)
@[go_sem] theorem QO (neg:Bool) (ks:List Nat) (cs ds:List AV) : xP neg ks (.agg cs) (.agg ds) K=(cs.length=ks.length∧ds.length=ks.length∧∃ r,bO ks cs ds=some r∧K (Bo (r != neg))):=by
 apply propext; unfold xP
 constructor
 ·rintro⟨a',b',r,h1,h2,h3,h4,h5,hk⟩; cases h1; cases h2; exact⟨h3,h4,r,h5,hk⟩
 ·rintro⟨h3,h4,r,h5,hk⟩; exact⟨cs,ds,r,rfl,rfl,h3,h4,h5,hk⟩
@[go_sem] theorem Ar (C:FuncId→ai) (g:FuncId) (first cap args:List AV) : yT C (.fn (.func g) first cap) args M KQ=C g (first++args++cap) M KQ:=by
 apply propext; unfold yT
 constructor
 ·rintro⟨g',f',c',h,hk⟩; cases h; exact hk
 ·intro hk; exact⟨g,first,cap,rfl,hk⟩
@[go_sem] theorem jm (cs:List AV) (parts:List (Nat × Nat × AV)) : gH cs parts K=∃ cs',nZ cs parts=some cs'∧K (.agg cs'):=rfl
@[go_sem] theorem aT (x:RB) (mk:Nat→AV) : bg x mk M KQ=KQ (mk M.next) (M.push x):=rfl
@[go_sem] theorem Cr (x:RB) (mk:Nat→AV) (k:KR) : uT x mk M k=k (mk M.next) (M.push x) (some M.next):=rfl
@[go_sem] theorem nJ (f:(List AV→RM→Prop)→Prop) (g:List AV→RM→Prop) : dG f g=f g:=rfl
@[go_sem] theorem aZ (x:AV) (xs:List AV) : ak (x :: xs) 0=x:=rfl
@[go_sem] theorem bZ (x:AV) (xs:List AV) (n:Nat) : ak (x :: xs) (n + 1)=ak xs n:=rfl
@[go_sem] theorem QJ (b:Nat) (x:RB) (mk:Nat→AV) (v:AV) : Er (some b) M x mk v=(M.heap b=some x∧mk b=v):=rfl
end
section
variable {M M' : RM}
theorem RM.rW {b:Nat} {l:List AV} {opn:Bool} {el fz:Nat} (h:M.heap b=some (.row l opn el fz)) : M.cells b=some l:=by simp[RM.cells,h]
theorem RM.Ml {b o:Nat} {l:List AV} {opn:Bool} {el fz:Nat} (h:M.heap b=some (.row l opn el fz)) : M.cell b o=l[o]?:=by simp[RM.cell,RM.rW h]
theorem RM.gP {b o k:Nat} {l:List AV} {opn:Bool} {el fz:Nat} (h:M.heap b=some (.row l opn el fz)) (hk:o + k≤l.length) : M.loads b o k=some ((l.drop o).take k):=by
 simp[RM.loads,RM.rW h,hk]
theorem RM.JI {b o:Nat} {l vs:List AV} {opn:Bool} {el fz:Nat} (h:M.heap b=some (.row l opn el fz)) (h1:o + vs.length≤l.length) (h2:fz≤o) (h3:vs.all oneCell=true) :
  M.stores b o vs=some (M.put b (.row (l.take o++vs++l.drop (o + vs.length)) opn el fz)):=by
 simp only[RM.stores,h]
 rw[if_pos ⟨h1,h2,h3⟩]
structure ae (bs:List Nat) (M M' : RM) : Prop where
 base:M'.base=M.base
 next:M.next≤M'.next
 heap:∀ c,c<M.next→c ∉ bs→M'.heap c=M.heap c
theorem ae.refl (bs:List Nat) (M:RM) : ae bs M M:=⟨rfl,Nat.le_refl _,fun _ _ _=>rfl⟩
theorem ae.trans {bs:List Nat} {M1 M2:RM} (h:ae bs M M1) (k:ae bs M1 M2) : ae bs M M2 :=
 ⟨k.base.trans h.base,Nat.le_trans h.next k.next,fun c hc hb=>(k.heap c (Nat.lt_of_lt_of_le hc h.next) hb).trans (h.heap c hc hb)⟩
theorem ae.push {bs:List Nat} (h:ae bs M M') (x:RB) : ae bs M (M'.push x) :=
 ⟨h.base,Nat.le_succ_of_le h.next,fun c hc hb=>by
  have:=h.next
  simp only[RM.push]; rw[if_neg (by omega)]; exact h.heap c hc hb⟩
theorem ae.put {bs:List Nat} (h:ae bs M M') {b:Nat} (x:RB) (hb:M.next≤b∨b∈bs) : ae bs M (M'.put b x) :=
 ⟨h.base,h.next,fun c hc hcb=>by
  simp only[RM.put]; rw[if_neg]
  ·exact h.heap c hc hcb
  ·rintro rfl; rcases hb with hb | hb
   ·omega
   ·exact hcb hb⟩
theorem ae.del {bs:List Nat} (h:ae bs M M') {b:Nat} (hb:M.next≤b∨b∈bs) : ae bs M (M'.del b) :=
 ⟨h.base,h.next,fun c hc hcb=>by
  simp only[RM.del]; rw[if_neg]
  ·exact h.heap c hc hcb
  ·rintro rfl; rcases hb with hb | hb
   ·omega
   ·exact hcb hb⟩
theorem ae.mono {bs cs:List Nat} (h:ae bs M M') (hs:∀ b∈bs,b∈cs) : ae cs M M':=⟨h.base,h.next,fun c hc hb=>h.heap c hc fun h=>hb (hs c h)⟩
theorem ae.cells {bs:List Nat} (h:ae bs M M') {b:Nat} (hlt:b<M.next) (hb:b ∉ bs) : M'.cells b=M.cells b:=by
 simp only[RM.cells,h.heap b hlt hb,RM.lo,h.base]
theorem ae.cell {bs:List Nat} (h:ae bs M M') {b o:Nat} (hlt:b<M.next) (hb:b ∉ bs) : M'.cell b o=M.cell b o:=by
 simp only[RM.cell,h.cells hlt hb]
theorem ae.loads {bs:List Nat} (h:ae bs M M') {b o k:Nat} (hlt:b<M.next) (hb:b ∉ bs) : M'.loads b o k=M.loads b o k:=by
 simp only[RM.loads,h.cells hlt hb]
@[go_sem] theorem RM.RO (x:RB) : (M.push x).next=M.next + 1:=rfl
@[go_sem] theorem RM.TN (b:Nat) (x:RB) : (M.put b x).next=M.next:=rfl
@[go_sem] theorem RM.SK (b:Nat) : (M.del b).next=M.next:=rfl
@[go_sem] theorem RM.lV (x:RB) : (M.push x).heap M.next=some x:=by simp[RM.push]
theorem RM.MJ {x:RB} {c:Nat} (h:c≠M.next) : (M.push x).heap c=M.heap c:=by simp[RM.push,h]
@[go_sem] theorem RM.Ad (b:Nat) (x:RB) : (M.put b x).heap b=some x:=by simp[RM.put]
end
abbrev aH:AV:=.sc (.slice none 0 0)
inductive aK (M:RM) (size:Nat) : AV→List AV→Nat→Prop
 | nil:aK M size aH [] 0
 | emp (b:Nat) : aK M size (.emp b) [] 0
 | slc (b o n:Nat) (cap:Cap) (cs:List AV) : b<M.next→M.loads b o (n * size)=some cs→aK M size (.slc b o n cap) cs n
section
variable {M M' : RM} {size:Nat} {v:AV} {cs:List AV} {n:Nat}
theorem Ea {b o k:Nat} {cs:List AV} (h:M.loads b o k=some cs) : cs.length=k:=by
 unfold RM.loads at h
 split at h <;> first | (cases h; done) | skip
 split at h <;> first | (cases h; done) | skip
 rename_i hle
 have:=Option.some.inj h
 rw[← this,List.length_take,List.length_drop]; omega
theorem K5 {b o k:Nat} {cs:List AV} (h:M.loads b o k=some cs) (i:Nat) (hi:i<k) : M.cell b (o + i)=cs[i]?:=by
 unfold RM.loads at h
 unfold RM.cell
 split at h <;> first | (cases h; done) | skip
 rename_i l hl
 split at h <;> first | (cases h; done) | skip
 cases h
 simp only[hl,Option.bind_some]
 rw[List.getElem?_take,if_pos hi,List.getElem?_drop]
theorem sG {b o k:Nat} {cs:List AV} (h:M.loads b o k=some cs) (i j:Nat) (hij:i + j≤k) : M.loads b (o + i) j=some ((cs.drop i).take j):=by
 unfold RM.loads at h ⊢
 cases hl:M.cells b with
 | none=>rw[hl] at h; cases h
 | some l =>
   rw[hl] at h
   simp only at h ⊢
   split at h
   ·rename_i hle
    have h:=Option.some.inj h
    subst h
    rw[if_pos (by omega),List.drop_take,List.drop_drop,List.take_take]
    congr 2
    omega
   ·cases h
theorem BC {b o:Nat} {l:List AV} (h:M.cells b=some l) (ho:o≤l.length) : M.loads b o 0=some []:=by
 simp[RM.loads,h,ho]
theorem aK.length (h:aK M size v cs n) : cs.length=n * size:=by
 cases h with
 | nil=>exact(Nat.zero_mul _).symm
 | emp=>exact(Nat.zero_mul _).symm
 | slc b o n cap cs hb0 hl=>exact Ea hl
theorem aK.len (h:aK M size v cs n) {K:AV→Prop} : aR v K=K (N .i64 n):=by
 cases h with
 | nil=>exact zZ
 | emp b=>exact Mq b
 | slc b o n cap cs hb0 hl=>exact jo b o n cap
theorem aK.mR (h:aK M size v cs n) (zs:List AV) : mR M size zs false v=some (n,cs):=by
 cases h with
 | nil=>rfl
 | emp b=>rfl
 | slc b o n cap cs hb0 hl=>simp only[Go.Ab.mR,hl]
theorem aK.pos (h:aK M size v cs n) (hn:0<n) : ∃ b o cap,v=.slc b o n cap∧b<M.next∧M.loads b o (n * size)=some cs:=by
 cases h with
 | nil=>omega
 | emp b=>omega
 | slc b o n cap cs hb0 hl=>exact⟨b,o,cap,rfl,hb0,hl⟩
theorem aK.vL (h:aK M 1 v cs n) {l:List UInt8} (hb:bT byteOf cs=some l) : vL M v=some l:=by
 cases h with
 | nil=>simp[bT] at hb; subst hb; rfl
 | emp b=>simp[bT] at hb; subst hb; rfl
 | slc b o n cap cs hb0 hl =>
   rw[Nat.mul_one] at hl
   simp only[Go.Ab.vL,hl]; exact hb
def aL:AV→List Nat
 | .slc b _ _ _=>[b]
 | _=>[]
theorem aK.keep {bs:List Nat} (h:aK M size v cs n) (hk:ae bs M M') (hb:∀ b∈aL v,b ∉ bs) : aK M' size v cs n:=by
 cases h with
 | nil=>exact .nil
 | emp b=>exact .emp b
 | slc b o n cap cs hb0 hl =>
   exact .slc b o n cap cs (Nat.lt_of_lt_of_le hb0 hk.next) (by rw[hk.loads hb0 (hb b (by simp[aL]))]; exact hl)
inductive Own (M:RM) (base el size:Nat) : AV→List AV→Nat→Prop
 | nil:Own M base el size aH [] 0
 | ex0 (b o:Nat) : base≤b→b<M.next→(∃ l,M.cells b=some l∧o≤l.length)→Own M base el size (.slc b o 0 (.ex 0)) [] 0
 | op (b n:Nat) (cs:List AV) : base≤b→b<M.next→M.heap b=some (.row cs true el 0)→cs.length=n * size→Own M base el size (.slc b 0 n (.op size)) cs n
theorem Own.l8 {base el:Nat} (h:Own M base el size v cs n) : aK M size v cs n:=by
 cases h with
 | nil=>exact .nil
 | ex0 b o hb hlt hc =>
   obtain⟨l,hl,ho⟩:=hc
   exact .slc b o 0 _ [] hlt (by rw[Nat.zero_mul]; exact BC hl ho)
 | op b n cs hb hlt hh hl =>
   refine .slc b 0 n _ cs hlt ?_
   rw[RM.gP hh (by omega)]
   simp[← hl]
theorem Own.blk {base el:Nat} (h:Own M base el size v cs n) : ∀ b∈aL v,base≤b∧b<M.next:=by
 cases h with
 | nil=>intro b hb; simp[aL] at hb
 | ex0 b o hb hlt hc=>intro c hc; simp[aL] at hc; subst hc; exact⟨hb,hlt⟩
 | op b n cs hb hlt hh hl=>intro c hc; simp[aL] at hc; subst hc; exact⟨hb,hlt⟩
theorem Own.keep {base el:Nat} {bs:List Nat} (h:Own M base el size v cs n) (hk:ae bs M M') (hb:∀ b∈aL v,b ∉ bs) : Own M' base el size v cs n:=by
 cases h with
 | nil=>exact .nil
 | ex0 b o h1 hlt hc=>exact .ex0 b o h1 (Nat.lt_of_lt_of_le hlt hk.next) (by rw[hk.cells hlt (hb b (by simp[aL]))]; exact hc)
 | op b n cs h1 hlt hh hl=>exact .op b n cs h1 (Nat.lt_of_lt_of_le hlt hk.next) (by rw[hk.heap b hlt (hb b (by simp[aL]))]; exact hh) hl
theorem Own.mono {base base' el:Nat} (h:Own M base el size v cs n) (hb:base'≤base) : Own M base' el size v cs n:=by
 cases h with
 | nil=>exact .nil
 | ex0 b o h1 hlt hc=>exact .ex0 b o (Nat.le_trans hb h1) hlt hc
 | op b n cs h1 hlt hh hl=>exact .op b n cs (Nat.le_trans hb h1) hlt hh hl
theorem yN {base el bytes:Nat} {zs:List AV} {zeros:Bool} {x:AV} {m:Nat} {ds:List AV} {K:ah} (h:Own M base el size v cs n) (hbase:base≤M.next) (hs:1≤size) (hx:mR M size zs zeros x=some (m,ds)) (hd:ds.length=m * size)
  (h1:ds.all oneCell=true) (hb:(n + m) * bytes≤140737488355328) (hb2:n + m≤140737488355328)
  (hK:∀ v' M',Own M' base el size v' (cs++ds) (n + m)→ae (aL v) M M'→M.next≤M'.next→(v'=v∨∀ b∈aL v',M.next≤b)→K v' M') : appW el size bytes zs zeros v x M K:=by
 have hmb:m * bytes≤140737488355328:=Nat.le_trans (Nat.mul_le_mul_right _ (by omega)) hb
 refine⟨m,ds,hx,hmb,by omega, ?_⟩
 cases h with
 | nil =>
   by_cases hm:m=0
   ·subst hm
    have:ds=[]:=List.eq_nil_of_length_eq_zero (by simpa using hd)
    subst this
    exact⟨aH,M,by simp[qA],hK _ _ .nil (ae.refl _ _) (Nat.le_refl _) (.inl rfl)⟩
   ·refine⟨.slc M.next 0 m (.op size),M.push (.row ds true el 0),by simp only[qA,if_neg hm,h1,if_true],hK _ _ ?_ ((ae.refl _ _).push _) (by simp[RM.push]) (.inr fun b hb=>by simp[aL] at hb; omega)⟩
    simp only[List.nil_append,Nat.zero_add]
    exact .op _ _ _ hbase (by simp[RM.push]) (RM.lV _) hd
 | ex0 b o hb0 hlt hc =>
   obtain⟨l,hl,ho⟩:=hc
   by_cases hm:m=0
   ·subst hm
    have:ds=[]:=List.eq_nil_of_length_eq_zero (by simpa using hd)
    subst this
    exact⟨_,M,by simp[qA],hK _ _ (.ex0 b o hb0 hlt ⟨l,hl,ho⟩) (ae.refl _ _) (Nat.le_refl _) (.inl rfl)⟩
   ·refine⟨.slc M.next 0 m (.op size),M.push (.row ds true el 0), ?_,hK _ _ ?_ ((ae.refl _ _).push _) (by simp[RM.push]) (.inr fun b hb=>by simp[aL] at hb; omega)⟩
    ·have hl0:M.loads b o (0 * size)=some []:=by rw[Nat.zero_mul]; exact BC hl ho
     simp only[qA,if_neg hm]
     rw[if_neg (by omega),hl0]
     simp only[Nat.zero_add,List.nil_append]
     rw[if_pos ⟨hmb,by omega,h1⟩]
    ·simp only[List.nil_append,Nat.zero_add]
     exact .op _ _ _ hbase (by simp[RM.push]) (RM.lV _) hd
 | op b n cs hb0 hlt hh hl =>
   by_cases hm:m=0
   ·subst hm
    have:ds=[]:=List.eq_nil_of_length_eq_zero (by simpa using hd)
    subst this
    exact⟨_,M,by simp[qA],hK _ _ (by simpa using .op b n cs hb0 hlt hh hl) (ae.refl _ _) (Nat.le_refl _) (.inl rfl)⟩
   ·have hpos:1≤m * size:=Nat.mul_pos (by omega) hs
    have hsum:(n + m) * size=n * size + m * size:=Nat.add_mul _ _ _
    refine⟨.slc M.next 0 (n + m) (.op size),(M.del b).push (.row (cs++ds) true el 0), ?_,hK _ _ ?_ (((ae.refl _ _).del (.inr (by simp[aL]))).push _) (by simp[RM.push,RM.del]) (.inr fun b hb=>by simp[aL] at hb; omega)⟩
    ·simp only[qA,if_neg hm,hh,and_self,if_true]
     rw[if_neg (by omega),if_pos ⟨trivial,hb,hb2,trivial,hl,Nat.zero_le _,h1⟩]
    ·exact .op _ _ _ (show base≤M.next from hbase) (by simp[RM.push,RM.del]) (by simp[RM.push,RM.del]) (by rw[List.length_append,hl,hd,hsum])
theorem aK.uK (h:aK M size v cs n) (neg:Bool) : (v=aH∧∀ K:AV→Prop,gG neg 2 v aH K=K (Bo (!neg)))∨(v≠aH∧∀ K:AV→Prop,gG neg 2 v aH K=K (Bo neg)):=by
 cases h with
 | nil=>exact .inl ⟨rfl,fun _=>Dn neg⟩
 | emp b=>exact .inr ⟨by(intro h; cases h),fun _=>Dj neg b⟩
 | slc b o n cap cs hb0 hl=>exact .inr ⟨by(intro h; cases h),fun _=>CF neg b o n cap⟩
theorem Own.lit {base el T:Nat} (M:RM) (h:base≤M.next) : Own (M.push (.row [] false T 0)) base el size (.slc M.next 0 0 (.ex 0)) [] 0 :=
 .ex0 _ _ h (by simp[RM.push]) ⟨[],by simp[RM.cells,RM.push],Nat.le_refl _⟩
end
end Go.Ab
set_option maxRecDepth 4000
namespace Go.Ab
open Go
theorem wrap_u8 (n:Nat) : IntKind.wrap .u8 (n:Int)=((n % 256:Nat) : Int):=by
 simp only[IntKind.wrap,IntKind.bits,IntKind.signed,IntKind.max,IntKind.min]
 simp
theorem iq {n:Int} (h0:0≤n) (h:n<256) : IntKind.wrap .u8 n=n:=by
 obtain⟨m,rfl⟩:=Int.eq_ofNat_of_zero_le h0
 rw[wrap_u8,Nat.mod_eq_of_lt (by omega)]
theorem gQ {n:Int} (h0 : -9223372036854775808≤n) (h:n<9223372036854775808) : IntKind.wrap .i64 n=n:=by
 rw[IntKind.wrap_i64]; omega
theorem OW (k:Nat) (a b:Nat) : (BitVec.ofInt k (a:Int) &&& BitVec.ofInt k (b:Int)).toNat=(a &&& b) % 2 ^ k:=by
 rw[BitVec.toNat_and,BitVec.ofInt_natCast,BitVec.ofInt_natCast,BitVec.toNat_ofNat,BitVec.toNat_ofNat,← Nat.and_mod_two_pow]
def AY:IntKind→Nat
 | .u8=>8 | .u16=>16 | .u32=>32 | _=>64
def BP:IntKind→Bool
 | .u8 | .u16 | .u32 | .u64=>true
 | _=>false
theorem Ma {k:IntKind} (h:BP k=true) (n:Nat) : k.wrap (n:Int)=((n % 2 ^ AY k:Nat) : Int):=by
 cases k <;> simp[BP] at h <;> (simp only[IntKind.wrap,IntKind.bits,IntKind.signed,AY]; simp)
theorem MV (k:IntKind) (h:BP k=true) : k.bits=AY k:=by cases k <;> simp[BP] at h <;> rfl
theorem Nr {k:IntKind} (h:BP k=true) (a b:Nat) : JP k a b=(((a &&& b) % 2 ^ AY k:Nat) : Int):=by
 unfold JP
 rw[OW,Ma h,MV k h,Nat.mod_mod]
theorem O6 (n:Nat) : (UInt8.ofNat n).toNat=n % 256:=by simp
end Go.Ab
namespace Go.Ab
open Go Go.RowKit
section
variable {P:Program}
end
def RM.old (base:Base) (w:World) : RM where
 next:=base.n
 heap:=fun b=>if b<base.n then(match w.heap[b]? with | some (.cells c _ _)=>some (.ro c) | _=>none) else none
 base:=base
def F3 (n:Nat) : Ren:=fun b=>if b<n then some ⟨b,0,0,0⟩ else none
theorem Mm {P:Program} {base:Base} {w:World} (hn:base.n=w.heap.size) (hi:base.inv w) : bz P (F3 base.n) (RM.old base w) w:=by
 refine⟨{ next:=base.n,heap:=.leaf },rfl,⟨fun b i h=>?_,fun b i x _ h=>by simp[Tree.get] at h,fun b _ i _ x _ _ _ h=>by simp[Tree.get] at h,fun b x h=>by simp[Tree.get] at h,fun b i x _ h=>by simp[Tree.get] at h,hi⟩,by simp[RM.old,RM.lo,hn],fun b x h=>.inr ?_,fun c hc=>by have hc' : c<base.n:=hc; simp only[F3]; rw[if_pos hc']⟩
 ·simp only[F3] at h
  split at h <;> first | (cases h; done) | skip
  cases h
  exact⟨by assumption,by rw[← hn]; assumption⟩
 ·simp only[RM.old] at h
  split at h <;> first | (cases h; done) | skip
  rename_i hlt
  split at h <;> first | (cases h; done) | skip
  rename_i c el fr hh
  cases h
  exact⟨c,rfl,hlt,el,fr,hh⟩
theorem RM.LP {base:Base} {w:World} {b:Nat} {c:Array Value} {el:TypeId} {fr:_} (hb:b<base.n) (h:w.heap[b]?=some (.cells c el fr)) : (RM.old base w).cells b=some (c.toList.map (lT base.n)):=by
 simp only[RM.cells,RM.old,if_pos hb,h]
def qJ (lo:Nat) : Value→AV
 | .agg cs=>.agg (cs.toList.map (lT lo))
 | v=>lT lo v
theorem EJ {ρ:Ren} {lo:Nat} (h:∀ c,c<lo→ρ c=some ⟨c,0,0,0⟩) : ∀ (vs:List Value),aC ρ (vs.map (lT lo)) vs
 | []=>.nil
 | v :: vs=>.cons _ _ _ _ (Aw h v) (EJ h vs)
theorem L9 {ρ:Ren} {lo:Nat} (h:∀ c,c<lo→ρ c=some ⟨c,0,0,0⟩) (v:Value) : ag ρ (qJ lo v) v:=by
 unfold qJ
 split
 ·exact .agg _ _ (EJ h _)
 ·exact Aw h v
theorem DC {ρ:Ren} {lo:Nat} (h:∀ c,c<lo→ρ c=some ⟨c,0,0,0⟩) : ∀ (vs:List Value),aC ρ (vs.map (qJ lo)) vs
 | []=>.nil
 | v :: vs=>.cons _ _ _ _ (L9 h v) (DC h vs)
theorem dH.close {P:Program} {f:FuncId} {base:Base} {w:World} {us:Array Value} (hn:base.n=w.heap.size) (hi:base.inv w)
  (h:dH P f (us.toList.map (qJ base.n)) (RM.old base w) fun v _=>v=Bo true) :
  Calls P f us w fun e w'=>e=.returned (.bool true)∧Below w.heap.size w w':=by
 have hr:=Mm (P:=P) hn hi
 refine((h.2 (F3 base.n) w us.toList (DC (fun c hc=>by simp only[F3]; rw[if_pos hc]) _) hr)).mono fun e w' hR=>?_
 obtain⟨v',v,M',ρ',rfl,k1,k2,rfl⟩:=hR
 obtain⟨rfl,_⟩:=aB k2
 refine⟨rfl,k1.step.os,k1.step.tape,k1.step.output,k1.step.size,fun k hk=>k1.step.low k ?_⟩
 show k<base.n
 rw[hn]; exact hk
def qL:Option TypeDesc→Bool
 | some .bool | some (.int _) | some .string | some (.slice _) | some (.struct _) | some (.array _ _)=>false
 | _=>true
inductive Fits (P:Program) (M:RM) : TypeId→List AV→Prop
 | bool (t:TypeId) (b:Bool) : P.underlying t=some .bool→Fits P M t [Bo b]
 | int (t:TypeId) (k:IntKind) (n:Int) : P.underlying t=some (.int k)→k.min≤n→n≤k.max→Fits P M t [N k n]
 | str (t:TypeId) (s:List UInt8) : P.underlying t=some .string→s.length≤reachBytes→Fits P M t [St s]
 | JB (t e:TypeId) : P.underlying t=some (.slice e)→Fits P M t [aH]
 | emp (t e:TypeId) (b:Nat) : P.underlying t=some (.slice e)→Fits P M t [.emp b]
 | slc (t e:TypeId) (b o n c:Nat) (cs:List AV) : P.underlying t=some (.slice e)→b<M.next→n≤c→c * P.bytesOf e≤reachBytes→M.loads b o (n * P.cellsOf e)=some cs →
   (∀ i,i<n→Fits P M e ((cs.drop (i * P.cellsOf e)).take (P.cellsOf e)))→Fits P M t [.slc b o n (.ex c)]
 | struct (t:TypeId) (fs:Array Field) (cs:List AV) : P.underlying t=some (.struct fs)→cs.length=P.cellsOf t →
   (∀ (i:Nat) (f:Field),fs[i]?=some f→Fits P M f.type ((cs.drop f.offset).take (P.cellsOf f.type)))→Fits P M t cs
 | array (t e:TypeId) (n:Nat) (cs:List AV) : P.underlying t=some (.array n e)→cs.length=P.cellsOf t →
   (∀ i,i<n→Fits P M e ((cs.drop (i * P.cellsOf e)).take (P.cellsOf e)))→Fits P M t cs
 | other (t:TypeId) (cs:List AV) : qL (P.underlying t)=true→Fits P M t cs
 | zero (t e:TypeId) (cs:List AV) : P.underlying t=some (.slice e)→P.cellsOf e=0→Fits P M t cs
theorem vR (a:Addr) : a.add 0=a:=by simp[Addr.add]
theorem pg {w:World} {base:Nat} {a:Addr} {n:Nat} {cs:List Value} (h:w.cells? base a n=some cs) : cs.length=n∧∀ i,i<n→w.cell? (a.add i)=cs[i]?:=by
 unfold World.cells? at h
 split at h
 ·exact⟨by simpa using mapM_some_length h,fun i hi=>mapM_some_get h i i (by simp[hi])⟩
 ·cases h
theorem cell?_at {w:World} {a:Addr} {v:Value} (h:w.cell? a=some v) : ∃ c el fr,w.heap[a.block]?=some (.cells c el fr)∧a.spot=none∧a.off<c.size∧c[a.off]?=some v:=by
 unfold World.cell? at h
 split at h
 ·rename_i c el fr hh
  split at h
  ·cases h
  ·rename_i hs
   exact⟨c,el,fr,hh,by simpa using hs,(Array.getElem?_eq_some_iff.1 h).1,h⟩
 ·cases h
section
variable {H:Type} {enc:TypeId × Value→H} {P:Program} {base:Base} {w:World}
theorem nM {e:TypeId} {ds:List (DataW H)} {d:DataW H} (hd:d∈ds) {x:Nat} (hx:x∈d.weights P e) : x∈DataW.weightsAll P e ds:=by
 induction ds with
 | nil=>cases hd
 | cons y ys ih =>
   simp only[DataW.weightsAll,List.mem_append]
   rcases List.mem_cons.1 hd with rfl | hd
   ·exact .inl hx
   ·exact .inr (ih hd)
theorem sw {x:Nat} : ∀ (ts:List TypeId) (ds:List (DataW H)) (i:Nat) (t:TypeId) (d:DataW H),ts[i]?=some t→ds[i]?=some d→x∈d.weights P t→x∈DataW.weightsEach P ts ds
 | [],_,_,_,_,h,_,_=>by simp at h
 | _ :: _,[],_,_,_,_,h,_=>by simp at h
 | t :: ts,d :: ds,0,t',d',h,h',hx=>by
   simp at h h'; subst h h'
   simp only[DataW.weightsEach,List.mem_append]; exact .inl hx
 | t :: ts,d :: ds,i + 1,t',d',h,h',hx=>by
   simp only[DataW.weightsEach,List.mem_append]
   exact .inr (sw ts ds i t' d' (by simpa using h) (by simpa using h') hx)
theorem Gj (hn:base.n=w.heap.size) {held:Bool} : ∀ (fuel:Nat) (t:TypeId) (cs:List Value) (x:DataW H × List MemPlace),DataW.trod enc P w 0 (fun _=>true) held fuel t cs=some x →
  (∀ y∈x.1.weights P t,y≤reachBytes)→Fits P (RM.old base w) t (cs.map (lT base.n)):=by
 intro fuel
 induction fuel with
 | zero=>intro t cs x h; simp[DataW.trod] at h
 | succ m ih =>
   intro t cs x h hw
   cases hu:P.underlying t with
   | none=>exact .other _ _ (by rw[hu]; rfl)
   | some d =>
     cases d with
     | bool =>
       obtain⟨b,rfl,rfl⟩:=DataW.trod_bool hu h
       exact .bool t b hu
     | int k =>
       obtain⟨n,rfl,rfl,hwf⟩:=DataW.trod_int hu h
       simp only[Lit.wf,Bool.and_eq_true,decide_eq_true_eq] at hwf
       exact .int t k n hu hwf.1 hwf.2
     | string =>
       obtain⟨s,rfl,rfl,_⟩:=DataW.trod_string hu h
       exact .str t s.data.toList hu (hw _ (by simp[DataW.weights]))
     | slice e =>
       rcases DataW.trod_slice hu h with⟨rfl,rfl⟩ | ⟨a,len,cap,elems,rest,n,hm,rfl,rfl,_,hlc,_,hel,hget,hrest,_⟩
       ·exact .JB t e hu
       ·cases hm
        rcases Nat.eq_zero_or_pos (P.cellsOf e) with hz | hz
        ·exact .zero t e _ hu hz
        rcases Nat.eq_zero_or_pos cap with hc | hc
        ·have hl0:len=0:=by omega
         subst hc hl0
         exact .emp t e 0 hu
        ·obtain⟨hr1,hr2⟩:=hrest rfl
         have every:∀ i,i<cap→∃ es y,w.cells? 0 (a.add (i * P.cellsOf e)) (P.cellsOf e)=some es∧DataW.trod enc P w 0 (fun _=>true) held m e es=some y∧(y∈elems∨y∈rest):=by
          intro i hi
          by_cases hil:i<len
          ·have h1:=hget i hil
           have h2:elems[i]?=some (elems[i]'(by omega)):=by simp[hel,hil]
           rw[h2] at h1
           obtain⟨es,e1,e2⟩:=Option.bind_eq_some_iff.1 h1
           exact⟨es,_,e1,e2,.inl (List.getElem_mem _)⟩
          ·have h1:=hr2 (i - len) (by omega)
           rw[show len + (i - len)=i by omega] at h1
           have h2:rest[i - len]?=some (rest[i - len]'(by omega)):=by
            rw[List.getElem?_eq_getElem]
           rw[h2] at h1
           obtain⟨es,e1,e2⟩:=Option.bind_eq_some_iff.1 h1
           exact⟨es,_,e1,e2,.inr (List.getElem_mem _)⟩
         obtain⟨es0,_,k0,_,_⟩:=every 0 hc
         obtain⟨kl0,kg0⟩:=pg k0
         have hc0:=kg0 0 hz
         rw[List.getElem?_eq_getElem (by omega)] at hc0
         obtain⟨c,el,fr,hh,hsp,_,_⟩:=cell?_at hc0
         obtain⟨b,o,sp⟩:=a
         rw[Nat.zero_mul,vR,vR] at hh hsp
         simp only at hh hsp
         subst hsp
         have hblt:b<base.n:=by rw[hn]; exact(Array.getElem?_eq_some_iff.1 hh).1
         have hlast:o + cap * P.cellsOf e≤c.size:=by
          obtain⟨es1,_,k1,_,_⟩:=every (cap - 1) (by omega)
          obtain⟨kl1,kg1⟩:=pg k1
          have hc1:=kg1 (P.cellsOf e - 1) (by omega)
          rw[List.getElem?_eq_getElem (by omega)] at hc1
          obtain⟨c',el',fr',hh',_,hlt,_⟩:=cell?_at hc1
          rw[dh,dh] at hh' hlt
          simp only at hh' hlt
          rw[hh] at hh'
          cases hh'
          have:cap * P.cellsOf e=(cap - 1) * P.cellsOf e + P.cellsOf e:=by
           rw[← Nat.succ_mul]; congr 1; omega
          omega
         have SX:lT base.n (.slice (some ⟨b,o,none⟩) len cap)=.slc b o len (.ex cap):=by
          obtain⟨cap,rfl⟩ : ∃ k,cap=k + 1:=⟨cap - 1,by omega⟩
          simp only[lT,if_pos hblt]
         have hcells:=RM.LP hblt hh
         have hle:len * P.cellsOf e≤cap * P.cellsOf e:=Nat.mul_le_mul_right _ hlc
         have hload:(RM.old base w).loads b o (len * P.cellsOf e)=some (((c.toList.map (lT base.n)).drop o).take (len * P.cellsOf e)):=by
          simp only[RM.loads,hcells]
          rw[if_pos (by simp; omega)]
         simp only[List.map_cons,List.map_nil,SX]
         refine .slc t e b o len cap _ hu hblt hlc ?_ hload fun i hi=>?_
         ·have:=hw ((elems.length + rest.length) * P.bytesOf e) (by simp[DataW.weights,hu])
          rwa [hel,hr1,show len + (cap - len)=cap by omega] at this
         ·obtain⟨es,y,k1,k2,k3⟩:=every i (by omega)
          have hlen:=(pg k1).1
          have hes:((((c.toList.map (lT base.n)).drop o).take (len * P.cellsOf e)).drop (i * P.cellsOf e)).take (P.cellsOf e)=es.map (lT base.n):=by
           have hii:i * P.cellsOf e + P.cellsOf e≤len * P.cellsOf e:=by rw[← Nat.succ_mul]; exact Nat.mul_le_mul_right _ hi
           apply List.ext_getElem?
           intro j
           by_cases hj:j<P.cellsOf e
           ·have hg:=(pg k1).2 j hj
            rw[List.getElem?_take,if_pos hj,List.getElem?_drop,List.getElem?_take,if_pos (by omega),List.getElem?_drop,List.getElem?_map,List.getElem?_map,← hg]
            rw[dh,dh]
            simp only[World.cell?,hh]
            rw[Array.getElem?_toList]
            simp[Nat.add_assoc]
           ·rw[List.getElem?_eq_none (by simp; omega),List.getElem?_eq_none (by simp; omega)]
          rw[hes]
          refine ih e es y k2 fun z hz=>hw z ?_
          simp only[DataW.weights,hu,List.mem_cons,List.mem_append]
          rcases k3 with k3 | k3
          ·exact .inr (.inl (nM (List.mem_map_of_mem k3) hz))
          ·exact .inr (.inr (nM (List.mem_map_of_mem k3) hz))
     | struct fs =>
       obtain⟨xs,n,hm,rfl,hl,hxl,hget⟩:=DataW.trod_struct hu h
       cases hm
       refine .struct t fs _ hu (by simpa using hl) fun i f hf=>?_
       have h1:=hget i f hf
       have hi:i<fs.size:=(Array.getElem?_eq_some_iff.1 hf).1
       rw[List.getElem?_eq_getElem (by omega)] at h1
       rw[← List.map_drop,← List.map_take]
       refine ih _ _ _ h1 fun z hz=>hw z ?_
       simp only[DataW.weights,hu]
       refine sw _ _ i f.type _ (by simp[hf]) (by rw[List.getElem?_map,List.getElem?_eq_getElem (by omega)]; rfl) hz
     | array n e =>
       obtain⟨xs,m',hm,rfl,hl,hxl,hget⟩:=DataW.trod_array hu h
       cases hm
       refine .array t e n _ hu (by simpa using hl) fun i hi=>?_
       have h1:=hget i hi
       rw[List.getElem?_eq_getElem (by omega)] at h1
       rw[← List.map_drop,← List.map_take]
       refine ih _ _ _ h1 fun z hz=>hw z ?_
       simp only[DataW.weights,hu]
       exact nM (List.mem_map_of_mem (List.getElem_mem _)) hz
     | _=>exact .other _ _ (by rw[hu]; rfl)
end
section
variable {P:Program} {M:RM} {t:TypeId} {cs:List AV}
theorem Fits.Ho (h:Fits P M t cs) {k:IntKind} (hu:P.underlying t=some (.int k)) : ∃ n:Int,cs=[N k n]∧k.min≤n∧n≤k.max:=by
 cases h with
 | int _ k' n h1 h2 h3=>rw[hu] at h1; cases h1; exact⟨n,rfl,h2,h3⟩
 | _=>simp_all [qL]
theorem Fits.yB (h:Fits P M t cs) (hu:P.underlying t=some .string) : ∃ s,cs=[St s]∧s.length≤reachBytes:=by
 cases h with
 | str _ s h1 h2=>exact⟨s,rfl,h2⟩
 | _=>simp_all [qL]
theorem Fits.Bg (h:Fits P M t cs) {fs:Array Field} (hu:P.underlying t=some (.struct fs)) : cs.length=P.cellsOf t∧∀ (i:Nat) (f:Field),fs[i]?=some f→Fits P M f.type ((cs.drop f.offset).take (P.cellsOf f.type)):=by
 cases h with
 | struct _ fs' _ h1 h2 h3=>rw[hu] at h1; cases h1; exact⟨h2,h3⟩
 | _=>simp_all [qL]
theorem Fits.DY (h:Fits P M t cs) {e:TypeId} (hu:P.underlying t=some (.slice e)) (hz:0<P.cellsOf e) :
  ∃ v n ds,cs=[v]∧aK M (P.cellsOf e) v ds n∧n * P.bytesOf e≤reachBytes∧∀ i,i<n→Fits P M e ((ds.drop (i * P.cellsOf e)).take (P.cellsOf e)):=by
 cases h with
 | JB _ e' h1=>exact⟨_,0,[],rfl,.nil,by simp,fun i hi=>absurd hi (by omega)⟩
 | emp _ e' b h1=>exact⟨_,0,[],rfl,.emp b,by simp,fun i hi=>absurd hi (by omega)⟩
 | slc _ e' b o n c ds h1 h2 h3 h4 h5 h6 =>
   rw[hu] at h1; cases h1
   exact⟨_,n,ds,rfl,.slc b o n _ ds h2 h5,Nat.le_trans (Nat.mul_le_mul_right _ h3) h4,h6⟩
 | zero _ e' _ h1 h2=>rw[hu] at h1; cases h1; omega
 | _=>simp_all [qL]
theorem wK {α:Type} {size:Nat} (enc:α→List AV) (p:α→Prop) (hs:∀ a,(enc a).length=size) : ∀ (n:Nat) (ds:List AV),ds.length=n * size→(∀ i,i<n→∃ a,p a∧(ds.drop (i * size)).take size=enc a) →
  ∃ xs:List α,xs.length=n∧ds=xs.flatMap enc∧∀ x∈xs,p x
 | 0,ds,hl,_=>⟨[],rfl,by simpa using hl,by simp⟩
 | n + 1,ds,hl,h=>by
   obtain⟨a,pa,ha⟩:=h 0 (by omega)
   simp only[Nat.zero_mul,List.drop_zero] at ha
   have hl' : (ds.drop size).length=n * size:=by rw[List.length_drop,hl,Nat.succ_mul]; omega
   obtain⟨xs,h1,h2,h3⟩:=wK enc p hs n (ds.drop size) hl' fun i hi=>by
    obtain⟨b,pb,hb⟩:=h (i + 1) (by omega)
    refine⟨b,pb, ?_⟩
    rw[List.drop_drop,← hb,Nat.succ_mul,Nat.add_comm]
   refine⟨a :: xs,by simp[h1], ?_,fun x hx=>?_⟩
   ·rw[List.flatMap_cons,← h2,← ha,List.take_append_drop]
   ·rcases List.mem_cons.1 hx with rfl | hx
    ·exact pa
    ·exact h3 x hx
end
def wM (P:Program) (t:TypeId) : Bool :=
 match P.underlying t with
 | some (.struct _) | some (.array _ _)=>true
 | _=>false
def mW (P:Program) (M:RM) (t:TypeId) (v:AV) : Prop :=
 match wM P t with
 | true=>∃ cs,v=.agg cs∧Fits P M t cs
 | false=>Fits P M t [v]
theorem mW.agg {P:Program} {M:RM} {t:TypeId} {v:AV} (h:mW P M t v) (ha:wM P t=true) : ∃ cs,v=.agg cs∧Fits P M t cs:=by
 unfold mW at h; rw[ha] at h; exact h
theorem mW.one {P:Program} {M:RM} {t:TypeId} {v:AV} (h:mW P M t v) (ha:wM P t=false) : Fits P M t [v]:=by
 unfold mW at h; rw[ha] at h; exact h
section
variable {H:Type} {enc:TypeId × Value→H} {P:Program} {base:Base} {w:World}
theorem FC {r:Reach} {b:Nat} {t:TypeId} {cs:Array Value} (h:Cell.okWide P w r b t (.agg cs)) : False:=by
 unfold Cell.okWide at h
 split at h <;> first | (rename_i e _; cases e; done) | skip
 all_goals first | (rename_i e; cases e; done) | skip
 unfold Cell.ok at h
 split at h <;> first | exact h | simp_all
theorem Nj (hn:base.n=w.heap.size) {r:Reach} {b:Nat} {held:Bool} {t:TypeId} {v:Value} {d:DataW H} {ps:List MemPlace} (hv:Value.okWide P w r b t v) (h:DataW.Trod enc P w 0 (fun _=>true) held t v d ps)
  (hw:∀ y∈d.weights P t,y≤reachBytes) : mW P (RM.old base w) t (qJ base.n v):=by
 obtain⟨fuel,hf⟩:=h
 have hfit:=Gj hn fuel t _ _ hf hw
 unfold mW
 cases ha:wM P t with
 | true =>
   have:∃ cs,v=.agg cs:=by
    unfold Value.okWide at hv
    unfold wM at ha
    split at hv
    ·obtain⟨cs,h,_⟩:=hv; exact⟨cs,h⟩
    ·obtain⟨cs,h,_⟩:=hv; exact⟨cs,h⟩
    ·split at ha <;> simp_all
   obtain⟨cs,rfl⟩:=this
   exact⟨_,rfl,hfit⟩
 | false =>
   have hc:Cell.okWide P w r b t v:=by
    unfold Value.okWide at hv
    unfold wM at ha
    split at hv
    ·simp_all
    ·simp_all
    ·exact hv
   have:v.cells.toList=[v]∧qJ base.n v=lT base.n v:=by
    cases v with
    | agg cs=>exact(FC hc).elim
    | _=>exact⟨rfl,rfl⟩
   rw[this.1] at hfit
   rw[this.2]
   exact hfit
theorem Fv (hn:base.n=w.heap.size) {r:Reach} {b:Nat} {held:Bool} : ∀ {ts:List TypeId} {vs:List Value} {ds:List (DataW H)} {ps:List MemPlace},DataW.TrodAll enc P w 0 (fun _=>true) held ts vs ds ps →
  (∀ (j:Nat) t v,ts[j]?=some t→vs[j]?=some v→Value.okWide P w r b t v)→(∀ y∈DataW.weightsEach P ts ds,y≤reachBytes) →
  ∀ (j:Nat) t v,ts[j]?=some t→vs[j]?=some v→mW P (RM.old base w) t (qJ base.n v)
 | [],_,_,_,_,_,_,j,t,v,h,_=>by simp at h
 | t0 :: ts,vs,ds,ps,h,hv,hw,j,t,v,hj,hvj=>by
   cases vs with
   | nil=>simp at hvj
   | cons v0 vs =>
   cases ds with
   | nil=>exact h.elim
   | cons d ds =>
   obtain⟨p,q,h1,h2,_⟩:=h
   cases j with
   | zero =>
     simp at hj hvj; subst hj hvj
     exact Nj hn (hv 0 _ _ rfl rfl) h1 fun y hy=>hw y (by simp[DataW.weightsEach,hy])
   | succ j =>
     exact Fv hn h2 (fun j t v a b=>hv (j + 1) t v (by simpa using a) (by simpa using b)) (fun y hy=>hw y (by simp[DataW.weightsEach,hy])) j t v (by simpa using hj) (by simpa using hvj)
theorem wB (hl:laidOutB P=true) {W W' : World} {sp:Nat→Bool} (hb:Below W.heap.size W W') : ∀ {ts:List TypeId} {vs:List Value} {ds:List (DataW H)} {ps:List MemPlace},
  (∀ t∈ts,P.readableRec t=true∧t<P.types.size)→DataW.TrodAll enc P W 0 (fun _=>true) true ts vs ds ps→(∀ p∈ps,p.block<W.heap.size)→(∀ p∈ps,sp p.block=true)→DataW.TrodAll enc P W' 0 sp true ts vs ds ps
 | [],vs,ds,ps,_,h,_,_=>by
   cases vs <;> cases ds <;> first | exact h | exact h.elim
 | t :: ts,vs,ds,ps,hr,h,hlt,hsp=>by
   cases vs with
   | nil=>cases ds <;> exact h.elim
   | cons v vs =>
   cases ds with
   | nil=>exact h.elim
   | cons d ds =>
   obtain⟨p,q,h1,h2,rfl⟩:=h
   have hrt:=hr t (List.mem_cons_self ..)
   exact⟨p,q,WideElems.Trod_stays hl hrt.1 hrt.2 h1 (fun x hx=>hb.same (hlt x (List.mem_append_left _ hx))) (fun x hx=>hsp x (List.mem_append_left _ hx)),
    wB hl hb (fun t ht=>hr t (List.mem_cons_of_mem _ ht)) h2 (fun x hx=>hlt x (List.mem_append_right _ hx)) (fun x hx=>hsp x (List.mem_append_right _ hx)),rfl⟩
end
def RB.cells (lo:Nat) : RB→Option (List AV)
 | .row l _ _ _=>some l
 | .ro c=>some (c.toList.map (lT lo))
 | _=>none
@[go_sem] theorem RB.rW (lo:Nat) (l:List AV) (p:Bool) (e f:Nat) : RB.cells lo (.row l p e f)=some l:=rfl
theorem RM.qZ (M:RM) (b:Nat) : M.cells b=(M.heap b).bind (RB.cells M.lo):=by
 unfold RM.cells RB.cells
 cases M.heap b with
 | none=>rfl
 | some x=>cases x <;> rfl
def qx (l:Option (List AV)) (o k:Nat) : Option (List AV) :=
 match l with
 | some l=>if o + k≤l.length then some ((l.drop o).take k) else none
 | none=>none
@[go_sem] theorem QA (l:List AV) (o k:Nat) : qx (some l) o k=if o + k≤l.length then some ((l.drop o).take k) else none:=rfl
theorem RM.zT (M:RM) (b o k:Nat) : M.loads b o k=qx (M.cells b) o k:=rfl
section
variable {M M' : RM}
@[go_sem] theorem RM.Kv (x:RB) (c:Nat) : (M.push x).heap c=if c=M.next then some x else M.heap c:=rfl
@[go_sem] theorem RM.heap_put (b:Nat) (x:RB) (c:Nat) : (M.put b x).heap c=if c=b then some x else M.heap c:=rfl
@[go_sem] theorem RM.Tz (b:Nat) (c:Nat) : (M.del b).heap c=if c=b then none else M.heap c:=rfl
@[go_sem] theorem RM.Ru (x:RB) : (M.push x).base=M.base:=rfl
@[go_sem] theorem RM.SF (b:Nat) (x:RB) : (M.put b x).base=M.base:=rfl
@[go_sem] theorem RM.SV (b:Nat) : (M.del b).base=M.base:=rfl
theorem RM.Cb (x:RB) (c:Nat) : (M.push x).cells c=if c=M.next then x.cells M.lo else M.cells c:=by
 simp only[RM.qZ,RM.Kv]
 split <;> rfl
theorem RM.Dr (b:Nat) (x:RB) (c:Nat) : (M.put b x).cells c=if c=b then x.cells M.lo else M.cells c:=by
 simp only[RM.qZ,RM.heap_put]
 split <;> rfl
@[go_sem] theorem RM.Rx (x:RB) (c o:Nat) : (M.push x).cell c o=if c=M.next then(x.cells M.lo).bind (·[o]?) else M.cell c o:=by
 simp only[RM.cell,RM.Cb]
 split <;> rfl
@[go_sem] theorem RM.Tg (b:Nat) (x:RB) (c o:Nat) : (M.put b x).cell c o=if c=b then(x.cells M.lo).bind (·[o]?) else M.cell c o:=by
 simp only[RM.cell,RM.Dr]
 split <;> rfl
@[go_sem] theorem RM.Ra (x:RB) (c o k:Nat) : (M.push x).loads c o k=if c=M.next then qx (x.cells M.lo) o k else M.loads c o k:=by
 simp only[RM.zT,RM.Cb]
 split <;> rfl
@[go_sem] theorem RM.RH (b:Nat) (x:RB) (c o k:Nat) : (M.put b x).loads c o k=if c=b then qx (x.cells M.lo) o k else M.loads c o k:=by
 simp only[RM.zT,RM.Dr]
 split <;> rfl
def kL (l:List AV) (fz o:Nat) (vs:List AV) : Option (List AV) :=
 if o + vs.length≤l.length∧fz≤o∧vs.all oneCell=true then some (l.take o++vs++l.drop (o + vs.length)) else none
theorem qO {l vs:List AV} {fz o:Nat} (h1:o + vs.length≤l.length) (h2:fz≤o) (h3:vs.all oneCell=true) : kL l fz o vs=some (l.take o++vs++l.drop (o + vs.length)):=if_pos ⟨h1,h2,h3⟩
@[go_sem] theorem Ei {l vs:List AV} (h:vs.length=l.length) (h3:vs.all oneCell=true) : kL l 0 0 vs=some vs:=by
 rw[qO (by omega) (Nat.le_refl _) h3]
 simp[h]
theorem RM.sI {b o:Nat} {vs l:List AV} {p:Bool} {e f:Nat} (h:M.heap b=some (.row l p e f)) : M.stores b o vs=(kL l f o vs).map fun l'=>M.put b (.row l' p e f):=by
 simp only[RM.stores,h,kL]
 split <;> rfl
theorem RM.MF {x y:RB} : (M.push x).put M.next y=M.push y:=by
 simp only[RM.put,RM.push]
 congr 1
 funext c
 split <;> rfl
theorem RM.EP {x y:RB} {b:Nat} (hb:b≠M.next) : (M.push x).put b y=(M.put b y).push x:=by
 simp only[RM.put,RM.push]
 congr 1
 funext c
 by_cases h1:c=b
 ·subst h1; simp[hb]
 ·simp[h1]
theorem RM.BV {l vs:List AV} {p:Bool} {e f o:Nat} : (M.push (.row l p e f)).stores M.next o vs=(kL l f o vs).map fun l'=>M.push (.row l' p e f):=by
 rw[RM.sI (RM.lV _)]
 congr 1
 funext l'
 exact RM.MF
theorem RM.BB {M:RM} {b o:Nat} {vs:List AV} : M.stores b o vs=match M.heap b with
  | some (.row l p e f)=>(kL l f o vs).map fun l'=>M.put b (.row l' p e f)
  | _=>none:=by
 cases h:M.heap b with
 | none=>simp[RM.stores,h]
 | some x =>
   cases x with
   | row l p e f=>rw[RM.sI h]
   | _=>simp[RM.stores,h]
@[go_sem] theorem RM.BR {x:RB} {vs:List AV} {c o:Nat} (hc:c≠M.next) : (M.push x).stores c o vs=(M.stores c o vs).map (·.push x):=by
 rw[RM.BB,RM.BB,RM.MJ hc]
 split
 ·simp only[Option.map_map]
  congr 1
  funext l'
  exact RM.EP hc
 ·rfl
@[go_sem] theorem RM.QD {l vs:List AV} {p:Bool} {e f c o:Nat} : (M.push (.row l p e f)).stores c o vs =
  if c=M.next then(kL l f o vs).map fun l'=>M.push (.row l' p e f) else(M.stores c o vs).map (·.push (.row l p e f)):=by
 split
 ·rename_i h; subst h; exact RM.BV
 ·rename_i h; exact RM.BR h
@[go_sem] theorem RM.NS {b o:Nat} {l vs:List AV} {p:Bool} {e f:Nat} : (M.put b (.row l p e f)).stores b o vs=(kL l f o vs).map fun l'=>M.put b (.row l' p e f):=by
 rw[RM.sI (RM.Ad _ _)]
 congr 1
 funext l'
 simp only[RM.put]
 congr 1
 funext c
 split <;> rfl
@[go_sem] theorem Dp {α:Type} (a:α) (K:α→Prop) : (∃ x,some a=some x∧K x)=K a:=by simp
@[go_sem] theorem QC {α β:Type} (f:α→β) (x:α) : (some x).map f=some (f x):=rfl
attribute [go_sem] Int.natCast_nonneg Int.toNat_natCast Nat.mul_one true_implies false_implies Bool.false_eq_true Bool.true_eq_false Bool.not_true Bool.not_false Bool.and_self Bool.and_true Bool.true_and Nat.le_refl List.append_nil List.nil_append if_true if_false Nat.lt_irrefl Nat.add_one_ne_zero true_and and_true Nat.zero_add Nat.add_zero List.drop_zero List.getElem?_cons_zero List.getElem?_cons_succ Option.bind_some List.take_succ_cons List.take_zero List.drop_succ_cons List.drop_nil List.take_nil
attribute [go_sem] oP List.all_cons List.all_nil List.length_cons List.length_nil
@[go_sem] theorem Rt (cs:List AV) : (AV.agg cs).cells=cs:=rfl
@[go_sem] theorem TJ (v:Value) : (AV.sc v).cells=[.sc v]:=rfl
@[go_sem] theorem RG (b o:Nat) : (AV.ptr b o).cells=[.ptr b o]:=rfl
@[go_sem] theorem RX (b o n:Nat) (c:Cap) : (AV.slc b o n c).cells=[.slc b o n c]:=rfl
@[go_sem] theorem RN (b:Nat) : (AV.emp b).cells=[.emp b]:=rfl
@[go_sem] theorem Ry (b:Nat) : (AV.map b).cells=[.map b]:=rfl
@[go_sem] theorem Tk (f:Fn) (xs ys:List AV) : (AV.fn f xs ys).cells=[.fn f xs ys]:=rfl
@[go_sem] theorem Uo (v:Value) : oneCell (.sc v)=true:=rfl
@[go_sem] theorem Ue (b o:Nat) : oneCell (.ptr b o)=true:=rfl
@[go_sem] theorem Uh (b o n:Nat) (c:Cap) : oneCell (.slc b o n c)=true:=rfl
@[go_sem] theorem Ud (b:Nat) : oneCell (.emp b)=true:=rfl
@[go_sem] theorem Uc (b:Nat) : oneCell (.map b)=true:=rfl
@[go_sem] theorem Uk (f:Fn) (xs ys:List AV) : oneCell (.fn f xs ys)=true:=rfl
end
theorem RM.Me {M:RM} {b:Nat} {l:List AV} {p:Bool} {e f:Nat} (h:M.heap b=some (.row l p e f)) (o k:Nat) : M.loads b o k=qx (some l) o k:=by rw[RM.zT,RM.rW h]
theorem RM.cell_of {M:RM} {b:Nat} {l:List AV} {p:Bool} {e f:Nat} (h:M.heap b=some (.row l p e f)) (o:Nat) : M.cell b o=l[o]?:=RM.Ml h
theorem RM.wZ {M:RM} {b:Nat} {l:List AV} {p:Bool} {e f:Nat} (h:M.heap b=some (.row l p e f)) (o:Nat) (vs:List AV) : M.stores b o vs=(kL l f o vs).map fun l'=>M.put b (.row l' p e f):=RM.sI h
theorem ae.aP {bs:List Nat} {M M' : RM} (h:ae bs M M') {b:Nat} {x:RB} (hh:M.heap b=some x) (hlt:b<M.next) (hb:b ∉ bs) : M'.heap b=some x:=by rw[h.heap b hlt hb,hh]
inductive Ui where
 | val (v:AV)
 | rows (n:Nat) (v:AV) (bs:List (Nat × gm)) (n' : Nat)
structure PR where
 args:List AV
 fp:List (Nat × gm):=[]
 dead:List Nat:=[]
 nx:Nat:=0
 ans:Ui
def KC:Tree gm→List (Nat × gm)→Tree gm
 | t,[]=>t
 | t,(b,x) :: r=>KC (t.set b x) r
def Lm:Tree gm→List Nat→Tree gm
 | t,[]=>t
 | t,b :: r=>Lm (t.del b) r
def CE (A:AW) : List (Nat × gm)→Bool
 | []=>true
 | (b,x) :: r=>match A.heap.get b with
   | some y=>Q8 x y && CE A r
   | none=>false
def Pw (A:AW) (e:PR) : Option (AV × AW) :=
 match CE A e.fp with
 | false=>none
 | true=>match e.ans with
   | .val v=>some (v,A)
   | .rows n v bs n'=>match Nat.beq n A.next with
     | true=>some (v,{ next:=n',heap:=KC (Lm A.heap e.dead) bs })
     | false=>none
abbrev Table:=List (Nat × List PR)
def Rs:List Nat→Nat→Bool
 | [],_=>false
 | k :: ks,b=>match Nat.beq k b with
   | true=>true
   | false=>Rs ks b
mutual
def within (ks:List Nat) : AV→Bool
 | .sc _ | .top | .atl _=>true
 | .ptr b _ | .slc b _ _ _ | .emp b | .map b=>Rs ks b
 | .fn _ xs ys=>yO ks xs && yO ks ys
 | .ifc _ x=>within ks x
 | .agg xs | .tup xs=>yO ks xs
def yO (ks:List Nat) : List AV→Bool
 | []=>true
 | x :: xs=>within ks x && yO ks xs
end
section
variable {P:Program} {X:Ext}
def JV (P:Program) (I:World→Prop) (f:Nat) (e:PR) : Prop :=
 ∀ (base:Base),(∀ w,base.inv w→I w)→∀ A v A',Pw A e=some (v,A')→∀ (ρ:Ren) (w:World) (us:List Value),aC ρ e.args us→bE P base ρ A w→base≤w.heap.size →
   Calls P f ⟨us⟩ w fun r w'=>∃ ρ' v',r=.returned v'∧Step base A.next ρ w ρ' w'∧bE P base ρ' A' w'∧A.next≤A'.next∧ag ρ' v v'
def NI (P:Program) (I:World→Prop) (T:Table) : Prop:=∀ g∈T,∀ e∈g.2,JV P I g.1 e
theorem bE.none {P:Program} {base:Base} {n:Nat} {w:World} (hi:base.inv w) : bE P base (fun _=>none) { next:=n,heap:=.leaf } w :=
 ⟨fun _ _ h=>(by cases h),fun _ _ _ h=>(by cases h),fun _ _ _ _ _ _ h=>(by cases h),fun _ _ h=>(by simp[Tree.get] at h),fun _ _ _ h=>(by cases h),hi⟩
def only(ρ:Ren) (ks:List Nat) : Ren:=fun b=>if b∈ks then ρ b else none
theorem NI.nil {I:World→Prop} : NI P I []:=fun g hg=>by cases hg
open Go.WideShapes Go.ChangeShapes in
open Go.WideShapes Go.ChangeShapes in
theorem JV.val {P:Program} {I:World→Prop} {f:Nat} {args:List AV} {v:AV} (hv:within [] v=true)
  (h:∀ w,I w→∀ (ρ:Ren) us,aC ρ args us→Calls P f ⟨us⟩ w fun e w'=>(∃ u,e=.returned u∧∀ ρ:Ren,ag ρ v u)∧w'=w) : JV P I f { args,ans:=.val v } := by
 intro base hI A v0 A' ha ρ w us hargs hw hb
 simp only[Pw,CE] at ha
 cases ha
 refine(h w (hI w hw.inv) ρ us hargs).mono fun e w' hR=>?_
 obtain⟨⟨u,rfl,hu⟩,rfl⟩:=hR
 exact⟨ρ,u,rfl,Step.refl _ _ _,hw,Nat.le_refl _,hu ρ⟩
end
structure Enc (α:Type) where
 size:Nat
 cells:α→List AV
 len:∀ a,(cells a).length=size
 one:∀ a,(cells a).all oneCell=true
section
variable {α:Type} (E:Enc α)
def Enc.row (xs:List α) : List AV:=xs.flatMap E.cells
theorem Enc.Oz:E.row []=[]:=rfl
theorem Enc.kw (x:α) (xs:List α) : E.row (x :: xs)=E.cells x++E.row xs:=rfl
theorem Enc.mU (xs ys:List α) : E.row (xs++ys)=E.row xs++E.row ys:=by simp[Enc.row]
theorem Enc.row_one (x:α) : E.row [x]=E.cells x:=by simp[Enc.row]
theorem Enc.fC:∀ (xs:List α),(E.row xs).length=xs.length * E.size
 | []=>by simp[Enc.row]
 | x :: xs=>by rw[Enc.kw,List.length_append,E.len,Enc.fC xs,List.length_cons,Nat.succ_mul,Nat.add_comm]
theorem Enc.qg:∀ (xs:List α),(E.row xs).all oneCell=true
 | []=>by simp[Enc.row]
 | x :: xs=>by rw[Enc.kw,List.all_append,E.one,Enc.qg xs]; rfl
theorem Enc.vK:∀ (xs:List α) (i:Nat),(E.row xs).drop (i * E.size)=E.row (xs.drop i)
 | [],i=>by simp[Enc.row]
 | x :: xs,0=>by simp
 | x :: xs,i + 1=>by
   rw[Enc.kw,Nat.succ_mul,Nat.add_comm,← List.drop_drop,List.drop_left' (E.len x),Enc.vK xs i]
   rfl
theorem Enc.Ak:∀ (xs:List α) (i:Nat),(E.row xs).take (i * E.size)=E.row (xs.take i)
 | [],i=>by simp[Enc.row]
 | x :: xs,0=>by simp[Enc.row]
 | x :: xs,i + 1=>by
   rw[Enc.kw,Nat.succ_mul,Nat.add_comm,List.take_append,List.take_of_length_le (by rw[E.len]; omega),E.len,Nat.add_sub_cancel_left,Enc.Ak xs i]
   rfl
theorem Enc.CB {xs:List α} {i:Nat} (hi:i<xs.length) : ((E.row xs).drop (i * E.size)).take E.size=E.cells xs[i]:=by
 rw[Enc.vK,List.drop_eq_getElem_cons hi,Enc.kw]
 rw[List.take_append_of_le_length (by rw[E.len]; exact Nat.le_refl _),List.take_of_length_le (by rw[E.len]; exact Nat.le_refl _)]
abbrev Sl (M:RM) (v:AV) (xs:List α) : Prop:=aK M E.size v (E.row xs) xs.length
abbrev Ow (M:RM) (base el:Nat) (v:AV) (xs:List α) : Prop:=Own M base el E.size v (E.row xs) xs.length
variable {E} {M M' : RM} {v:AV} {xs:List α}
theorem Sl.elem (h:Sl E M v xs) {i:Nat} (hi:i<xs.length) : ∃ b o,b<M.next∧b∈aL v∧(∀ (kd:IntKind) (K:AV→Prop),bV v (N kd (i:Int)) E.size K=K (.ptr b o))∧M.loads b o E.size=some (E.cells xs[i]):=by
 obtain⟨b,o,cap,rfl,hb,hl⟩:=h.pos (by omega)
 have hsum:i * E.size + E.size≤xs.length * E.size:=by rw[← Nat.succ_mul]; exact Nat.mul_le_mul_right _ hi
 refine⟨b,o + i * E.size,hb,by simp[aL],fun kd K=>?_, ?_⟩
 ·rw[nI]
  simp only[Int.toNat_natCast]
  exact propext ⟨fun h=>h.2.2,fun h=>⟨by omega,by omega,h⟩⟩
 ·rw[sG hl (i * E.size) E.size hsum,E.CB hi]
theorem Sl.at (h:Sl E M v xs) {i:Nat} (sz:Nat) (j:Int) (hi:i<xs.length) (hsz:E.size=sz:=by rfl) (hj:j=(i:Int):=by rfl) : ∃ b o,b<M.next∧b∈aL v∧(∀ (kd:IntKind) (K:AV→Prop),bV v (N kd j) sz K=K (.ptr b o))∧M.loads b o sz=some (E.cells xs[i]):=by
 subst hsz hj; exact h.elem hi
theorem Eh {b o k:Nat} {cs:List AV} (h:M.loads b o k=some cs) {j:Nat} {x:AV} (hj:cs[j]?=some x) : M.cell b (o + j)=some x:=by
 have hlt:j<k:=by rw[← Ea h]; exact(List.getElem?_eq_some_iff.1 hj).1
 rw[K5 h j hlt,hj]
theorem Cz {b o k:Nat} {cs:List AV} (h:M.loads b o k=some cs) {x:AV} (hj:cs[0]?=some x) : M.cell b o=some x:=Eh h hj
theorem nW {base T bytes:Nat} {zs:List AV} {u:AV} {ys:List α} {K:ah} (ho:Ow E M base T v xs) (hb:base≤M.next) (hs:1≤E.size) (hu:Sl E M u ys)
  (hn:(xs.length + ys.length) * bytes≤140737488355328) (hn2:xs.length + ys.length≤140737488355328)
  (hK:∀ v' M',Ow E M' base T v' (xs++ys)→ae (aL v) M M'→M.next≤M'.next→(v'=v∨∀ b∈aL v',M.next≤b)→K v' M') :
  appW T E.size bytes zs false v u M K:=by
 refine yN ho hb hs (aK.mR hu _) (E.fC ys) (E.qg ys) hn hn2 ?_
 intro v' M' h1 h2 h3 h4
 refine hK v' M' ?_ h2 h3 h4
 rw[← E.mU] at h1
 simpa [Ow] using h1
theorem Sl.new {T c:Nat} {p:Bool} (ys:List α) : Sl E (M.push (.row (E.row ys) p T 0)) (.slc M.next 0 ys.length (.ex c)) ys :=
 .slc _ _ _ _ _ (by simp[RM.push]) (by rw[RM.gP (RM.lV _) (by rw[E.fC]; omega),List.drop_zero,← E.fC,List.take_length])
theorem yK {base T bytes:Nat} {zs:List AV} {a:α} {K:ah} (ho:Ow E M base T v xs) (hb:base≤M.next) (hs:1≤E.size)
  (hn:(xs.length + 1) * bytes≤140737488355328) (hn2:xs.length + 1≤140737488355328)
  (hK:∀ v' M',Ow E M' base T v' (xs++[a])→ae (aL v) M M'→M.next≤M'.next→(v'=v∨∀ b∈aL v',M.next≤b)→K v' M') :
  appW T E.size bytes zs false v (.slc M.next 0 1 (.ex 1)) (M.push (.row (E.cells a) false T 0)) K:=by
 have hk:ae [] M (M.push (.row (E.cells a) false T 0)):=(ae.refl _ _).push _
 refine nW (ys:=[a]) (Own.keep ho hk (by simp)) (Nat.le_trans hb hk.next) hs (by rw[← E.row_one]; exact Sl.new [a]) hn hn2 ?_
 intro v' M' h1 h2 h3 h4
 exact hK v' M' h1 ((hk.mono (by simp)).trans h2) (Nat.le_trans hk.next h3) (h4.imp id fun h b hb=>Nat.le_trans hk.next (h b hb))
@[go_sem] theorem Ey {T:Nat} {zs:List AV} {K:RB→(Nat→AV)→Prop} : dC T 0 zs [] K=K (.row [] false T 0) (fun b=>.slc b 0 0 (.ex 0)):=by
 apply propext; unfold dC
 constructor
 ·rintro⟨l,h,hk⟩; cases h; exact hk
 ·intro hk; exact⟨_,rfl,hk⟩
theorem yG {T size:Nat} {zs:List AV} {x:AV} {K:RB→(Nat→AV)→Prop} (h:x.cells.length=size) (h1:x.cells.all oneCell=true) (hz:zs.length=size) :
  dC T 1 zs [(0,size,x)] K=K (.row x.cells false T 0) (fun b=>.slc b 0 1 (.ex 1)):=by
 have:ol (cK zs 1) [(0,size,x)]=some x.cells:=by
  simp only[ol,cK,List.append_nil,h1,h,Nat.zero_add,hz,Nat.le_refl,and_self,if_true,List.take_zero,List.nil_append]
  rw[List.drop_of_length_le (by omega),List.append_nil]
 apply propext; unfold dC
 constructor
 ·rintro⟨l,h,hk⟩; rw[this] at h; cases h; exact hk
 ·intro hk; exact⟨_,this,hk⟩
theorem Ow.lit (E:Enc α) {T:Nat} (M:RM) : Ow E (M.push (.row [] false T 0)) M.next T (.slc M.next 0 0 (.ex 0)) []:=Own.lit M (Nat.le_refl _)
theorem uU {i:Nat} (h:i<9223372036854775807) : IntKind.wrap .i64 ((i:Int) + 1)=((i + 1:Nat) : Int):=by
 rw[gQ (by omega) (by omega)]; rfl
end
@[go_sem] theorem Re:bO [] [] []=some true:=rfl
@[go_sem] theorem QN (ks:List Nat) (k:IntKind) (a b:Int) (xs ys:List AV) : bO (1 :: ks) (N k a :: xs) (N k b :: ys)=if a=b then bO ks xs ys else some false:=by
 simp only[bO,mX,if_true]
 by_cases h:a=b
 ·simp[h]
 ·have:(a == b)=false:=by simp[h]
  simp[this,h]
@[go_sem] theorem QG (ks:List Nat) (a b:List UInt8) (xs ys:List AV) : bO (2 :: ks) (St a :: xs) (St b :: ys)=if a=b then bO ks xs ys else some false:=by
 simp only[bO,mX]
 by_cases h:a=b
 ·simp[h]
 ·have:(a == b)=false:=by simp[h]
  simp[this,h]
@[go_sem] theorem QE (ks:List Nat) (a b:Bool) (xs ys:List AV) : bO (3 :: ks) (Bo a :: xs) (Bo b :: ys)=if a=b then bO ks xs ys else some false:=by
 simp only[bO,mX]
 by_cases h:a=b
 ·simp[h]
 ·have:(a == b)=false:=by simp[h]
  simp[this,h]
theorem dB (x:AV) (w:Bool) (f g:ah→Prop) (F G:AV→RM→ah→Prop) (k:ah) :
  aa x w f g (fun v M=>aa x w (F v M) (G v M) k)=aa x w (fun k'=>f fun v M=>F v M k') (fun k'=>g fun v M=>G v M k') k:=by
 unfold aa lg
 split
 ·split <;> simp_all
 ·rfl
 ·rfl
theorem dL {body:(List AV→RM→Prop)→List AV→RM→Prop} {xs:List AV} {M:RM} (I:Nat→List AV→RM→Prop) (n:Nat) (h0:I n xs M)
  (hb:∀ (next:List AV→RM→Prop) m ys M',(∀ m' zs M'',m'<m→I m' zs M''→next zs M'')→I m ys M'→body next ys M') : fw body xs M :=
 ⟨I,n,h0,fun m ys M' hI=>hb _ m ys M' (fun m' zs M'' hlt h=>⟨m',hlt,h⟩) hI⟩
abbrev By (b:UInt8) : AV:=N .u8 (b.toNat:Int)
def BY:Enc UInt8:=⟨1,fun b=>[By b],fun _=>rfl,fun _=>rfl⟩
theorem xC (s:List UInt8) : BY.row s=s.map By:=by
 induction s with
 | nil=>rfl
 | cons b s ih=>rw[Enc.kw,ih]; rfl
def mq:Enc (List UInt8):=⟨1,fun s=>[St s],fun _=>rfl,fun _=>rfl⟩
def INT:Enc Int:=⟨1,fun n=>[N .i64 n],fun _=>rfl,fun _=>rfl⟩
theorem Bd:∀ (s:List UInt8),bT byteOf (s.map By)=some s
 | []=>rfl
 | b :: s=>by
   simp only[List.map_cons,bT,byteOf,Bd s]
   simp
section
variable {α:Type} {E:Enc α} {M M' : RM} {v:AV} {xs:List α}
theorem Sl.str {s:List UInt8} (h:Sl BY M v s) {K:AV→Prop} : dM M v K=K (St s) :=
 G5 (aK.vL h (by rw[xC]; exact Bd s))
structure Rw (E:Enc α) (M:RM) (b:Nat) (opn:Bool) (el:Nat) (xs:List α) : Prop where
 heap:M.heap b=some (.row (E.row xs) opn el 0)
 lt:b<M.next
theorem Rw.sl {b el:Nat} {p:Bool} {cap:Cap} (h:Rw E M b p el xs) : Sl E M (.slc b 0 xs.length cap) xs:=by
 refine .slc _ _ _ _ _ h.lt ?_
 rw[RM.gP h.heap (by rw[E.fC]; omega),List.drop_zero,← E.fC,List.take_length]
theorem Rw.keep {b el:Nat} {p:Bool} {bs:List Nat} (h:Rw E M b p el xs) (hk:ae bs M M') (hb:b ∉ bs) : Rw E M' b p el xs :=
 ⟨hk.aP h.heap h.lt hb,Nat.lt_of_lt_of_le h.lt hk.next⟩
theorem Rw.new {el:Nat} {p:Bool} (M:RM) (xs:List α) : Rw E (M.push (.row (E.row xs) p el 0)) M.next p el xs :=
 ⟨RM.lV _,by simp[RM.push]⟩
theorem Rw.load {b el:Nat} {p:Bool} (h:Rw E M b p el xs) {i:Nat} (hi:i<xs.length) : M.loads b (i * E.size) E.size=some (E.cells xs[i]):=by
 have hsum:i * E.size + E.size≤xs.length * E.size:=by rw[← Nat.succ_mul]; exact Nat.mul_le_mul_right _ hi
 rw[RM.gP h.heap (by rw[E.fC]; exact hsum),E.CB hi]
theorem Enc.Om (E:Enc α) {xs:List α} {i:Nat} (hi:i<xs.length) (x:α) : E.row (xs.set i x)=(E.row xs).take (i * E.size)++E.cells x++(E.row xs).drop (i * E.size + E.size):=by
 rw[E.Ak,← Nat.succ_mul,E.vK,List.set_eq_take_append_cons_drop,if_pos hi,E.mU,E.kw,List.append_assoc]
theorem Rw.store {b el:Nat} {p:Bool} (h:Rw E M b p el xs) {i:Nat} (hi:i<xs.length) (x:α) :
  M.stores b (i * E.size) (E.cells x)=some (M.put b (.row (E.row (xs.set i x)) p el 0))∧Rw E (M.put b (.row (E.row (xs.set i x)) p el 0)) b p el (xs.set i x):=by
 have hsum:i * E.size + E.size≤xs.length * E.size:=by rw[← Nat.succ_mul]; exact Nat.mul_le_mul_right _ hi
 refine⟨?_,RM.Ad _ _,h.lt⟩
 rw[RM.JI h.heap (by rw[E.len,E.fC]; exact hsum) (Nat.zero_le _) (E.one x),E.Om hi,E.len]
theorem Rw.aj {b el:Nat} {p:Bool} (h:Rw E M b p el xs) {i:Nat} (hi:i<xs.length) (hsz:E.size=1:=by rfl) {x:AV} (hx:E.cells xs[i]=[x]:=by rfl) : M.cell b i=some x:=by
 have:=h.load hi
 rw[hsz,Nat.mul_one] at this
 exact Cz this (by rw[hx]; rfl)
theorem Rw.FP {b el:Nat} {p:Bool} (h:Rw E M b p el xs) {i:Nat} (hi:i<xs.length) (x:α) (hsz:E.size=1:=by rfl) {u:AV} (hx:E.cells x=[u]:=by rfl) :
  M.stores b i [u]=some (M.put b (.row (E.row (xs.set i x)) p el 0))∧Rw E (M.put b (.row (E.row (xs.set i x)) p el 0)) b p el (xs.set i x):=by
 have:=h.store hi x
 rw[hsz,Nat.mul_one,hx] at this
 exact this
end
@[go_sem] theorem iB (el:Nat) (s:List UInt8) (K:RB→(Nat→AV)→Prop) : jG el (St s) K=K (.row (BY.row s) true el 0) (fun b=>.slc b 0 s.length (.op 1)):=by
 rw[xC]
 apply propext; unfold jG
 constructor
 ·rintro⟨s',h,hk⟩; cases h; exact hk
 ·intro hk; exact⟨s,rfl,hk⟩
def bJ (b:UInt8) : UInt8:=if 65≤b.toNat∧b.toNat≤90 then b + 32 else b
def low (s:List UInt8) : List UInt8:=s.map bJ
def Au (c:ai) : Prop:=∀ {M:RM} {s:List UInt8} {Q:ah},s.length<9223372036854775807→(∀ M',ae [] M M'→Q (St (low s)) M')→c [St s] M Q
def upTo (f:UInt8→UInt8) (i:Nat) (s:List UInt8) : List UInt8:=(s.take i).map f++s.drop i
theorem KH (f:UInt8→UInt8) (s:List UInt8) : upTo f 0 s=s:=by simp[upTo]
theorem Nb (f:UInt8→UInt8) (s:List UInt8) : upTo f s.length s=s.map f:=by simp[upTo]
theorem EL (f:UInt8→UInt8) (i:Nat) (s:List UInt8) : (upTo f i s).length=s.length:=by
 simp[upTo]; omega
theorem Gi (f:UInt8→UInt8) {i:Nat} {s:List UInt8} (hi:i<s.length) : (upTo f i s)[i]?=some s[i]:=by
 simp only[upTo]
 rw[List.getElem?_append_right (by simp; omega)]
 simp
 rw[Nat.min_eq_left (by omega),Nat.sub_self,Nat.add_zero,List.getElem?_eq_getElem hi]
theorem Fg (f:UInt8→UInt8) {i:Nat} {s:List UInt8} (hi:i<s.length) : (upTo f i s).set i (f s[i])=upTo f (i + 1) s:=by
 simp only[upTo]
 have hl:((s.take i).map f).length=i:=by simp; omega
 rw[List.set_append_right _ _ (by omega),hl,Nat.sub_self,List.drop_eq_getElem_cons hi,List.set_cons_zero,List.take_succ_eq_append_getElem hi,List.map_append,List.append_assoc]
 rfl
theorem KX (f:UInt8→UInt8) {i:Nat} {s:List UInt8} (hi:i<s.length) (h:f s[i]=s[i]) : upTo f (i + 1) s=upTo f i s:=by
 rw[← Fg f hi,h]
 apply List.ext_getElem?
 intro j
 rw[List.getElem?_set]
 split
 ·rename_i e; subst e
  rw[Gi f hi]; simp[EL,hi]
 ·rfl
theorem yQ (b:UInt8) : b.toNat<256:=b.toNat_lt
structure qm (n:Nat) (bs:List Nat) (M M' : RM) : Prop where
 base:M'.base=M.base
 next:M.next≤M'.next
 heap:∀ c,c<n→c ∉ bs→M'.heap c=M.heap c
theorem qm.refl (n:Nat) (bs:List Nat) (M:RM) : qm n bs M M:=⟨rfl,Nat.le_refl _,fun _ _ _=>rfl⟩
theorem qm.trans {n:Nat} {bs:List Nat} {M M1 M2:RM} (h:qm n bs M M1) (k:qm n bs M1 M2) : qm n bs M M2 :=
 ⟨k.base.trans h.base,Nat.le_trans h.next k.next,fun c h1 h2=>(k.heap c h1 h2).trans (h.heap c h1 h2)⟩
theorem ae.to {bs cs:List Nat} {n:Nat} {M M' : RM} (h:ae bs M M') (hn:n≤M.next) (hb:∀ b∈bs,n≤b∨b∈cs) : qm n cs M M' :=
 ⟨h.base,h.next,fun c h1 h2=>h.heap c (Nat.lt_of_lt_of_le h1 hn) (fun hm=>by rcases hb c hm with h3 | h3; omega; exact h2 h3)⟩
theorem Own.same {M M' : RM} {n el size n0:Nat} {v:AV} {cs:List AV} (h:Own M n0 el size v cs n) (hn:M'.next=M.next) (hb:∀ c∈aL v,M'.heap c=M.heap c) (hbase:M'.base=M.base) : Own M' n0 el size v cs n:=by
 cases h with
 | nil=>exact .nil
 | ex0 b o h1 h2 h3=>exact .ex0 b o h1 (by omega) (by simpa [RM.qZ,hb b (by simp[aL]),RM.lo,hbase] using h3)
 | op b n cs h1 h2 h3 h4=>exact .op b n cs h1 (by omega) (by rw[hb b (by simp[aL]),h3]) h4
theorem Own.one {M:RM} {n el size n0:Nat} {v:AV} {cs:List AV} (h:Own M n0 el size v cs n) : oneCell v=true:=by
 cases h <;> rfl
theorem Own.cells {M:RM} {n el size n0:Nat} {v:AV} {cs:List AV} (h:Own M n0 el size v cs n) : v.cells=[v]:=by
 cases h <;> rfl
end Go.Ab
set_option maxRecDepth 10000
namespace Go.Ab.Vl
open Go Go.Ab
structure RJ (TB T8 n0:Nat) (M:RM) (b:Nat) (xs:List UInt8) : Prop where
 lt:b<n0
 hn:n0≤M.next
 row:∃ addr buf,M.heap b=some (.row [addr,buf] false TB 0)∧(addr=.sc (.pointer none)∨addr=.ptr b 0)∧Ow BY M n0 T8 buf xs∧(xs=[]→buf=aH)
theorem RJ.new {TB T8 n0 b:Nat} {M:RM} (hh:M.heap b=some (.row [.sc (.pointer none),aH] false TB 0)) (hb:b<n0) (hn:n0≤M.next) : RJ TB T8 n0 M b [] :=
 ⟨hb,hn,_,_,hh,.inl rfl,.nil,fun _=>rfl⟩
theorem mh {s:List UInt8} {i:Nat} (hi:i<s.length) (kd:IntKind) (K:AV→Prop) : dX (St s) (N kd (i:Int)) K=K (By s[i]):=by
 rw[OB]
 apply propext
 constructor
 ·rintro⟨_,b,hb,hk⟩
  rw[Int.toNat_natCast,List.getElem?_eq_getElem hi] at hb
  cases hb; exact hk
 ·intro hk; exact⟨by omega,s[i],by rw[Int.toNat_natCast,List.getElem?_eq_getElem hi],hk⟩
def Ps (d:UInt8) : Prop:=d.toNat=92∨d.toNat=44∨d.toNat=59∨d.toNat=58
instance (d:UInt8) : Decidable (Ps d):=inferInstanceAs (Decidable (_∨_))
def Uj (d:UInt8) : Prop:=d.toNat=110∨d.toNat=78
instance (d:UInt8) : Decidable (Uj d):=inferInstanceAs (Decidable (_∨_))
def gy (c:ai) : Prop:=∀ {M:RM} {s:List UInt8} {x:UInt8} {Q:ah},Q (N .i64 (Lib.indexByte s x)) M→c [St s,By x] M Q
theorem Df (l:List UInt8) (x:UInt8) : (Lib.indexByte l x ≥ 0)↔x∈l:=by
 induction l with
 | nil=>simp[Lib.indexByte]
 | cons y ys ih =>
   simp only[Lib.indexByte]
   have:=Lib.indexByte_ge ys x
   by_cases h:y=x
   ·subst h; simp
   ·have hb:(y == x)=false:=by simpa using h
    have h' : ¬ x=y:=fun e=>h e.symm
    simp only[hb,List.mem_cons,h',false_or]
    rw[← ih]
    simp
    split <;> omega
def Fw (x:UInt8) : List UInt8→List UInt8→Bool→List (List UInt8)
 | [],cur,_=>[cur]
 | c :: s,cur,odd=>if c=x∧odd=false then cur :: Fw x s [] (decide (c.toNat=92) && !odd) else Fw x s (cur++[c]) (decide (c.toNat=92) && !odd)
def parts (x:UInt8) (s:List UInt8) : List (List UInt8):=Fw x s [] false
def FE (T:Nat) (c:ai) : Prop:=∀ {M:RM} {s:List UInt8} {x:UInt8} {Q:ah},s.length≤1000000→(∀ v M',Ow mq M' M.next T v (parts x s)→ae [] M M'→Q v M')→c [St s,By x] M Q
theorem fI {s:List UInt8} {l h:Nat} (h1:l≤h) (h2:h≤s.length) (k1 k2:IntKind) : df (St s) (some (N k1 (l:Int))) (some (N k2 (h:Int)))=some (St ((s.drop l).take (h - l))):=by
 simp only[df,bnd]
 simp[h1,h2]
theorem dU {s:List UInt8} {l:Nat} (h1:l≤s.length) (k1:IntKind) : df (St s) (some (N k1 (l:Int))) none=some (St (s.drop l)):=by
 simp only[df,bnd]
 simp[h1]
 rw[List.take_of_length_le (by simp)]
set_option maxRecDepth 100000
def Um (n b0 b1 b2 b3:Nat) : Nat:=if Lib.decodeN n b0 b1 b2 b3=(65533,1) then 0 else(Lib.decodeN n b0 b1 b2 b3).2
section
variable {n b0 b1 b2 b3:Nat}
end
def bt (s:List UInt8) (i:Nat) : Nat:=(s.getD i 0).toNat
def rk (s:List UInt8) : Nat:=if s=[] then 0 else Um s.length (bt s 0) (bt s 1) (bt s 2) (bt s 3)
def acc (v0:Nat) (s:List UInt8) : Nat→Nat
 | 0=>v0
 | k + 1=>64 * acc v0 s k + bt s (k + 1) - 128
def NW (f:(List AV→RM→Prop)→Prop) (g:List AV→RM→Prop) : Prop:=f g
theorem oV (f:(List AV→RM→Prop)→Prop) (g:List AV→RM→Prop) : dG f g=NW f g:=rfl
theorem mO {H:(List AV→RM→Prop)→Prop} {G:List AV→RM→Prop} (P:List AV→RM→Prop) (hT:∀ xs M,P xs M→G xs M)
  (hH:∀ J:List AV→RM→Prop,(∀ xs M,P xs M→J xs M)→H J) : NW H G:=hH G hT
theorem zR {x:Int} (h : -9223372036854775808≤x) (k:x<9223372036854775808) : IntKind.wrap .i64 x=x:=gQ (by omega) (by omega)
set_option maxRecDepth 10000
theorem OO {s:List UInt8} (h:s≠[]) {k:Nat} (hk:1≤k) : (s.drop k).length<s.length:=by
 have:=List.length_pos_iff.2 h
 simp; omega
def Pf (s:List UInt8) : Bool:=if s=[] then true else if h:rk s=0 then false else Pf (s.drop (rk s)) termination_by s.length decreasing_by exact OO (by assumption) (by omega)
theorem Hq {n0 T8:Nat} {M:RM} {v:AV} {xs s:List UInt8} {K:AV→RM→Prop} (ho:Ow BY M n0 T8 v xs) (hn:n0≤M.next) (hl:xs.length + s.length≤140737488355328)
  (hK:∀ v' M',Ow BY M' n0 T8 v' (xs++s)→ae (aL v) M M'→K v' M') : appW T8 1 1 [N .u8 0] false v (St s) M K:=by
 have hnew:mR M 1 [N .u8 0] false (St s)=some (s.length,BY.row s):=by simp only[mR,xC,if_true]
 refine yN ho hn (Nat.le_refl _) hnew (by rw[BY.fC]; rfl) (BY.qg s) (by omega) (by omega) fun v' M2 h2 k2 hnx2 hv=>hK v' M2 ?_ k2
 rw[← BY.mU] at h2
 show Own M2 n0 T8 1 v' (BY.row (xs++s)) (xs++s).length
 rw[List.length_append]; exact h2
theorem fe {s:List UInt8} {h:Nat} (h2:h≤s.length) (k2:IntKind) : df (St s) none (some (N k2 (h:Int)))=some (St (s.take h)):=by
 have:=fI (s:=s) (l:=0) (h:=h) (by omega) h2 .i64 k2
 rw[List.drop_zero,Nat.sub_zero] at this; exact this
def strip (s:List UInt8) : List UInt8:=if s.drop (s.length - 1)=[13] then s.take (s.length - 1) else s
def Ba (c:ai) : Prop:=∀ {M:RM} {s:List UInt8} {Q:ah},Q (N .i64 (Lib.indexByte s 10)) M→c [St s,St [10]] M Q
def Es (c:ai) : Prop:=∀ {M:RM} {s:List UInt8} {Q:ah},s.length≤1000000000→Q (St (strip s)) M→c [St s,St [13]] M Q
def CO (s:List UInt8) : Prop:=∀ b∈s,b.toNat≠10
theorem CO.take {s:List UInt8} (h:CO s) (n:Nat) : CO (s.take n):=fun b hb=>h b (List.mem_of_mem_take hb)
theorem CO.drop {s:List UInt8} (h:CO s) (n:Nat) : CO (s.drop n):=fun b hb=>h b (List.mem_of_mem_drop hb)
def FH (c:UInt8) : Bool:=(decide (32≤c.toNat) && decide (c.toNat≠127)) || decide (c.toNat=9)
def P8 (c:ai) : Prop:=∀ {M:RM} {x:UInt8} {Q:ah},Q (Bo (FH x)) M→c [By x] M Q
def bJ (c:UInt8) : UInt8:=if 65≤c.toNat∧c.toNat≤90 then UInt8.ofNat (c.toNat + 32) else c
def PT (c:ai) : Prop:=∀ {M:RM} {s:List UInt8} {Q:ah},s.length≤1000000000→(∀ M',ae [] M M'→Q (St (s.map bJ)) M')→c [St s] M Q
theorem Hg {s:List UInt8} {i:Nat} (hi:i<s.length) : ((s.take i).map bJ).length=i:=by simp; omega
theorem MX {s:List UInt8} {i:Nat} (hi:i<s.length) (x:UInt8) : ((s.take i).map bJ++s.drop i).set i x=(s.take i).map bJ++x :: s.drop (i + 1):=by
 have hl:=Hg hi
 rw[List.drop_eq_getElem_cons hi,List.set_append_right _ _ (by omega),hl,Nat.sub_self,List.set_cons_zero]
theorem F4 {s:List UInt8} {i:Nat} (hi:i<s.length) : (s.take (i + 1)).map bJ++s.drop (i + 1)=(s.take i).map bJ++bJ s[i] :: s.drop (i + 1):=by
 rw[List.take_succ_eq_append_getElem hi,List.map_append,List.append_assoc]
 rfl
theorem Oc {s:List UInt8} {i:Nat} (hi:i<s.length) (h:i<((s.take i).map bJ++s.drop i).length) : ((s.take i).map bJ++s.drop i)[i]=s[i]:=by
 have hl:=Hg hi
 rw[List.getElem_append_right (by omega)]
 simp only[hl,Nat.sub_self,List.getElem_drop,Nat.add_zero]
theorem BQ {T8:Nat} : PT fun args M Q=>∃ a0,args=[a0]∧wC T8 a0 M Q:=by
 intro M s Q hl hQ
 refine⟨_,rfl, ?_⟩
 unfold wC
 simp only[dB,aT,iB,jo]
 have hk1:ae [] M (M.push (.row (BY.row s) true T8 0)):=(ae.refl _ _).push _
 have hr1:Rw BY (M.push (.row (BY.row s) true T8 0)) M.next true T8 s:=Rw.new M s
 generalize M.push (.row (BY.row s) true T8 0)=M1 at *
 refine dL (fun m ys M3=>∃ i:Nat,m=s.length - i∧ys=[N .i64 i]∧i≤s.length∧Rw BY M3 M.next true T8 ((s.take i).map bJ++s.drop i)∧ae [] M M3) _
  ⟨0,rfl,rfl,Nat.zero_le _,by simpa using hr1,hk1⟩ ?_
 rintro next m ys M3 hnext ⟨i,rfl,rfl,hi,hR,hK⟩
 simp only[go_sem]
 refine⟨fun hlt=>?_,fun hge=>?_⟩
 ·have hlt:i<s.length:=by simpa using hlt
  have hlen:i<((s.take i).map bJ++s.drop i).length:=by simp; omega
  have hc:=hR.aj hlen
  have w1:=uU (show i<9223372036854775807 by omega)
  rw[Oc hlt hlen] at hc
  refine⟨by omega,_,hc, ?_⟩
  have same:bJ s[i]=s[i]→next [N .i64 ((i + 1:Nat) : Int)] M3:=fun h=>by
   refine hnext _ _ _ (by omega) ⟨i + 1,rfl,rfl,by omega, ?_,hK⟩
   rw[F4 hlt,h,← List.drop_eq_getElem_cons hlt]
   exact hR
  have cb:=yQ s[i]
  simp only[w1]
  by_cases h1:65≤s[i].toNat
  ·have e1:((s[i].toNat:Int) ≥ 65):=by omega
   by_cases h2:s[i].toNat≤90
   ·have e2:((s[i].toNat:Int)≤90):=by omega
    have hlow:bJ s[i]=UInt8.ofNat (s[i].toNat + 32):=by rw[bJ,if_pos ⟨h1,h2⟩]
    have wv:N IntKind.u8 (IntKind.u8.wrap (IntKind.u8.wrap ((s[i].toNat:Int) + 97) - 65))=By (bJ s[i]):=by
     rw[hlow,By,O6,Nat.mod_eq_of_lt (by omega)]
     congr 1
     rw[show IntKind.u8.wrap ((s[i].toNat:Int) + 97)=(s[i].toNat:Int) + 97 from iq (by omega) (by omega)]
     rw[iq (by omega) (by omega)]; omega
    obtain⟨hs,hR'⟩:=hR.FP hlen (bJ s[i])
    simp only[e1,e2,decide_true,go_sem]
    rw[MX hlt] at hs hR'
    refine⟨by omega,_,(congrArg (fun x=>M3.stores M.next i [x]) wv).trans hs, ?_⟩
    refine hnext _ _ _ (by omega) ⟨i + 1,rfl,rfl,by omega, ?_,hK.put _ (.inl (Nat.le_refl _))⟩
    rw[F4 hlt]
    exact hR'
   ·have e2:¬ ((s[i].toNat:Int)≤90):=by omega
    simp only[e1,e2,decide_true,decide_false,go_sem]
    exact same (by rw[bJ,if_neg (by omega)])
  ·have e1:¬ ((s[i].toNat:Int) ≥ 65):=by omega
   simp only[e1,decide_false,go_sem]
   exact same (by rw[bJ,if_neg (by omega)])
 ·have:i=s.length:=by simp at hge; omega
  subst this
  rw[List.take_length,List.drop_length,List.append_nil] at hR
  have:=hR.sl (cap:=.op 1)
  rw[List.length_map] at this
  rw[Sl.str this]
  exact hQ M3 hK
def Qd (B:Base) (c:ai) : Prop:=∀ {M:RM} {s:List UInt8} {Q:ah},M.base=B→s.length≤1000000000→Q (Bo (Pf s)) M→c [St s] M Q
def okB (x:List UInt8) (c:UInt8) : Bool:=FH c && !(decide (c∈x))
def EF (x s:List UInt8) : Bool:=s.all (okB x) && Pf s
def JJ (B:Base) (c:ai) : Prop:=∀ {M:RM} {s x:List UInt8} {Q:ah},M.base=B→s.length≤1000000000→(∀ M',ae [] M M'→Q (Bo (EF x s)) M')→c [St s,St x] M Q
theorem tY {B:Base} {T8:Nat} {cp ci cv:ai} (hp:P8 cp) (hi:gy ci) (hv:Qd B cv) : JJ B fun args M Q=>∃ a0 a1,args=[a0,a1]∧oU T8 cp ci cv a0 a1 M Q:=by
 intro M s x Q hM hl hQ
 refine⟨_,_,rfl, ?_⟩
 unfold oU
 simp only[dB,aT,iB,jo]
 have hk1:ae [] M (M.push (.row (BY.row s) true T8 0)):=(ae.refl _ _).push _
 have hr1:Rw BY (M.push (.row (BY.row s) true T8 0)) M.next true T8 s:=Rw.new M s
 generalize M.push (.row (BY.row s) true T8 0)=M1 at *
 refine dL (fun m ys M3=>M3=M1∧∃ i:Nat,m=s.length - i∧ys=[N .i64 i]∧i≤s.length∧(s.take i).all (okB x)=true) _
  ⟨rfl,0,rfl,rfl,Nat.zero_le _,by simp⟩ ?_
 rintro next m ys M3 hnext ⟨hM3,i,rfl,rfl,hile,hall⟩
 subst hM3
 simp only[go_sem]
 refine⟨fun hlt=>?_,fun hge=>?_⟩
 ·have hlt:i<s.length:=by simpa using hlt
  have hc:=hr1.aj hlt
  have htk:=List.take_succ_eq_append_getElem hlt
  have hmem:=List.getElem_mem hlt
  generalize s[i]=c at *
  have w1:=uU (show i<9223372036854775807 by omega)
  have bad:okB x c=false→Q (Bo false) M3:=fun h=>by
   have:EF x s=false:=by
    have h2:s.all (okB x)=false:=by
     rw[List.all_eq_false]
     exact⟨c,hmem,by rw[h]; simp⟩
    rw[EF,h2]; rfl
   rw[← this]; exact hQ M3 hk1
  have good:okB x c=true→next [N .i64 ((i + 1:Nat) : Int)] M3:=fun h=>by
   refine hnext _ _ _ (by omega) ⟨rfl,i + 1,rfl,rfl,by omega, ?_⟩
   rw[htk,List.all_append,hall]
   simp[h]
  refine⟨by omega,By c,hc,hp ?_⟩
  cases hpl:FH c with
  | false =>
    simp only[go_sem]
    exact bad (by simp[okB,hpl])
  | true =>
    simp only[go_sem]
    refine hi ?_
    have hge:=Df x c
    by_cases hcx:c∈x
    ·have e1:decide (Lib.indexByte x c ≥ 0)=true:=decide_eq_true (hge.2 hcx)
     simp only[go_sem,e1]
     exact bad (by simp[okB,hcx])
    ·have e1:decide (Lib.indexByte x c ≥ 0)=false:=decide_eq_false fun h=>hcx (hge.1 h)
     simp only[go_sem,e1,w1]
     exact good (by simp[okB,hcx,hpl])
 ·have:i=s.length:=by simp at hge; omega
  subst this
  rw[List.take_length] at hall
  refine hv (by rw[hk1.base,hM]) hl ?_
  have:=hQ M3 hk1
  rw[EF,hall,Bool.true_and] at this
  exact this
def Sy:List UInt8:=[97,98,99,100,101,102,103,104,105,106,107,108,109,110,111,112,113,114,115,116,117,118,119,120,121,122,48,49,50,51,52,53,54,55,56,57,45]
def MK (B:Base) (f:List UInt8→List UInt8) (c:ai) : Prop:=∀ {M:RM} {s:List UInt8} {Q:ah},M.base=B→s.length≤1000000000→(∀ M',ae [] M M'→Q (St (f s)) M')→c [St s,St Sy] M Q
def NN (f:List UInt8→List UInt8) (s:List UInt8) : Bool:=decide (1≤s.length) && decide (s.length≤20) && (f s == [])
def Lg (B:Base) (f:List UInt8→List UInt8) (c:ai) : Prop:=∀ {M:RM} {s:List UInt8} {Q:ah},M.base=B→s.length≤1000000000→(∀ M',ae [] M M'→Q (Bo (NN f s)) M')→c [St s] M Q
theorem vZ {B:Base} {f:List UInt8→List UInt8} {ct:ai} (ht:MK B f ct) : Lg B f fun args M Q=>∃ a0,args=[a0]∧rE ct a0 M Q:=by
 intro M s Q hM hl hQ
 refine⟨_,rfl, ?_⟩
 unfold rE
 simp only[dB]
 rw[mf,dx]
 unfold NN at hQ
 by_cases h1:1≤s.length
 ·have e1:decide ((s.length:Int) ≥ 1)=true:=by simp; omega
  rw[e1]
  by_cases h2:s.length≤20
  ·have e2:decide ((s.length:Int)≤20)=true:=by simp; omega
   simp only[go_sem,e2]
   refine ht hM hl fun M1 k1=>?_
   simp only[go_sem]
   have:=hQ M1 k1
   simpa [h1,h2] using this
  ·have e2:decide ((s.length:Int)≤20)=false:=by simp; omega
   simp only[go_sem,e2]
   simpa [h1,h2] using hQ M (ae.refl _ _)
 ·have e1:decide ((s.length:Int) ≥ 1)=false:=by simp; omega
  rw[e1]
  simp only[go_sem]
  simpa [h1] using hQ M (ae.refl _ _)
def brk (x:UInt8) : List UInt8→Option (List UInt8 × List UInt8)
 | []=>none
 | c :: t=>if c=x then some ([],t) else(brk x t).map fun p=>(c :: p.1,p.2)
theorem uq (x:UInt8) : ∀ s:List UInt8,(brk x s=none∧Lib.indexByte s x=-1∧x ∉ s)∨∃ a b,brk x s=some (a,b)∧Lib.indexByte s x=(a.length:Int)∧s=a++x :: b∧x ∉ a
 | []=>.inl ⟨rfl,rfl,by simp⟩
 | c :: t=>by
   by_cases h:c=x
   ·subst h
    exact .inr ⟨[],t,by simp[brk],by simp[Lib.indexByte],rfl,by simp⟩
   ·have hc:(c == x)=false:=by simpa using h
    rcases uq x t with⟨h1,h2,h4⟩ | ⟨a,b,h1,h2,h3,h4⟩
    ·exact .inl ⟨by simp[brk,h,h1],by simp[Lib.indexByte,hc,h2],by simp[h4,Ne.symm h]⟩
    ·refine .inr ⟨c :: a,b,by simp[brk,h,h1], ?_,by rw[h3]; rfl,by simp[h4,Ne.symm h]⟩
     have:((a.length:Int) == -1)=false:=by simp
     simp[Lib.indexByte,hc,h2,this]
def uf (x:UInt8) (c:ai) : Prop:=∀ {M:RM} {s:List UInt8} {Q:ah},Q (N .i64 (Lib.indexByte s x)) M→c [St s,St [x]] M Q
theorem zJ {x:UInt8} {ci xx c1 c2:ai} (hi:gy ci) : uf x fun args M Q=>∃ a0 a1,args=[a0,a1]∧bM ci xx c1 c2 a0 a1 M Q:=by
 intro M s Q hQ
 refine⟨_,_,rfl, ?_⟩
 unfold bM
 rw[mf,aX,show((([x] : List UInt8).length:Int) == 0)=false from rfl]
 simp only[dB]
 by_cases h:[x]=s
 ·subst h
  have:Lib.indexByte [x] x=0:=by simp[Lib.indexByte]
  rw[this] at hQ
  simp only[go_sem,beq_self_eq_true]
  exact hQ
 ·have h' : (([x] : List UInt8) == s)=false:=by simp[h]
  simp only[go_sem,h']
  exact⟨fun _=>⟨by omega,x,rfl,hi hQ⟩,fun h=>absurd h (by decide)⟩
def pz (x:UInt8) (s:List UInt8) : AV:=match brk x s with
 | some (a,b)=>.tup [St a,St b,Bo true]
 | none=>.tup [St s,St [],Bo false]
def kP (x:UInt8) (c:ai) : Prop:=∀ {M:RM} {s:List UInt8} {Q:ah},s.length≤1000000000→Q (pz x s) M→c [St s,St [x]] M Q
theorem Co {x:UInt8} {ci:ai} (hi:uf x ci) : kP x fun args M Q=>∃ a0 a1,args=[a0,a1]∧gB ci a0 a1 M Q:=by
 intro M s Q hl hQ
 refine⟨_,_,rfl, ?_⟩
 unfold gB
 refine hi ?_
 unfold pz at hQ
 rcases uq x s with⟨h1,h2,_⟩ | ⟨a,b,h1,h2,h3,_⟩
 ·rw[h1] at hQ
  simp only[go_sem,h2]
  exact⟨fun h=>absurd h (by decide),fun _=>hQ⟩
 ·rw[h1] at hQ
  have hsl:=congrArg List.length h3
  simp at hsl
  rw[h2,dx,show decide ((a.length:Int) ≥ 0)=true by simp]
  refine⟨fun _=>?_,fun h=>by cases h⟩
  rw[fe (by omega)]
  simp only[go_sem]
  rw[show IntKind.wrap .i64 ((a.length:Int) + ((1:Nat) : Int))=((a.length + 1:Nat) : Int) by rw[zR (by omega) (by omega)]; omega]
  rw[dU (by omega)]
  simp only[go_sem]
  rw[h3]
  rw[show(a++x :: b).take a.length=a by simp,show(a++x :: b).drop (a.length + 1)=b by rw[← List.drop_drop]; simp]
  exact hQ
theorem KN {x:UInt8} {ci:ai} (hi:kP x ci) : kP x fun args M Q=>∃ a0 a1,args=[a0,a1]∧oO ci a0 a1 M Q:=by
 intro M s Q hl hQ
 refine⟨_,_,rfl, ?_⟩
 unfold oO
 refine hi hl ?_
 unfold pz at hQ ⊢
 cases h:brk x s with
 | none=>rw[h] at hQ; simpa only[go_sem] using hQ
 | some p=>rw[h] at hQ; simpa only[go_sem] using hQ
end Go.Ab.Vl
namespace Go.Ab
open Go Go.RowKit
section
variable {P:Program} {ρ:Ren} {M:RM} {w w' : World}
theorem bE.below {base:Base} {A:AW} (h:bE P base ρ A w) (hb:Below w.heap.size w w') (hn:base.n≤w.heap.size) : bE P base ρ A w' where
 dom b i hbi:=⟨(h.dom b i hbi).1,Nat.lt_of_lt_of_le (h.dom b i hbi).2 hb.size⟩
 blk b i x hbi hx:=let ⟨o,ho,hr⟩:=h.blk b i x hbi hx; ⟨o,by rw[hb.block _ (h.dom b i hbi).2]; exact ho,hr⟩
 sep:=h.sep
 top:=h.top
 lo:=h.lo
 inv:=base.low w w' (fun c hc=>hb.block c (Nat.lt_of_lt_of_le hc hn)) h.inv
theorem Step.of_below {base n:Nat} (hb:Below w.heap.size w w') (hn:base≤w.heap.size) : Step base n ρ w ρ w' where
 os:=hb.os
 tape:=hb.tape
 output:=hb.output
 size:=hb.size
 frame c hc _:=hb.block c hc
 ext _ _:=rfl
 fresh b i h:=.inl ⟨b,i,h,rfl⟩
 low c hc:=hb.block c (Nat.lt_of_lt_of_le hc hn)
theorem After.below (h:bz P ρ M w) (hb:Below w.heap.size w w') : After P M ρ w M ρ w':=by
 obtain⟨A,hA⟩:=h
 refine gz hA (Step.of_below hb hA.size) (hA.rel.below hb hA.size) rfl hA.next (Nat.le_refl _) fun b x hx=>?_
 rcases hA.blk b x hx with h | ⟨c,rfl,_⟩
 ·exact .inl h
 ·exact .inr ⟨c,rfl,hx⟩
theorem bz.inv (h:bz P ρ M w) : M.base.inv w:=by
 obtain⟨A,hA⟩:=h
 exact hA.rel.inv
theorem dH.qH {f:FuncId} {args:List AV} {v:AV} {Q:ah} (hP:CJ P f)
  (h:∀ (ρ:Ren) (w:World) (us:List Value),aC ρ args us→bz P ρ M w→Calls P f ⟨us⟩ w fun e w'=>∃ v',e=.returned v'∧Below w.heap.size w w'∧ag ρ v v') (hQ:Q v M) : dH P f args M Q:=by
 refine⟨hP,fun ρ w us hargs hw=>(h ρ w us hargs hw).mono fun e w' hR=>?_⟩
 obtain⟨v',rfl,hb,hv⟩:=hR
 exact⟨v',v,M,ρ,rfl,After.below hw hb,hv,hQ⟩
end
structure oG (α:Type) where
 size:Nat
 rel:RM→List AV→α→(Nat→Prop)→Prop
 len:∀ {M cs a S},rel M cs a S→cs.length=size
 one:∀ {M cs a S},rel M cs a S→cs.all oneCell=true
 mono:∀ {M cs a S S'},rel M cs a S→(∀ b,S b→S' b)→rel M cs a S'
 lt:∀ {M cs a S},rel M cs a S→rel M cs a (fun b=>S b∧b<M.next)
 keep:∀ {M M' cs a S bs},rel M cs a S→ae bs M M'→(∀ b∈bs,¬ S b)→rel M' cs a S
def Enc.BH {α:Type} (E:Enc α) : oG α where
 size:=E.size
 rel _ cs a _:=cs=E.cells a
 len h:=by subst h; exact E.len _
 one h:=by subst h; exact E.one _
 mono h _:=h
 lt h:=h
 keep h _ _:=h
inductive eU {α:Type} (R:oG α) (M:RM) (S:Nat→Prop) : List AV→List α→Prop
 | nil:eU R M S [] []
 | cons {cs ds:List AV} {a:α} {xs:List α} : R.rel M cs a S→eU R M S ds xs→eU R M S (cs++ds) (a :: xs)
section
variable {α:Type} {R:oG α} {M M' : RM} {S S' : Nat→Prop} {cs ds:List AV} {xs ys:List α} {a:α}
theorem eU.len (h:eU R M S cs xs) : cs.length=xs.length * R.size:=by
 induction h with
 | nil=>simp
 | cons h1 _ ih=>rw[List.length_append,R.len h1,ih,List.length_cons,Nat.succ_mul,Nat.add_comm]
theorem eU.one (h:eU R M S cs xs) : cs.all oneCell=true:=by
 induction h with
 | nil=>rfl
 | cons h1 _ ih=>rw[List.all_append,R.one h1,ih]; rfl
theorem eU.mono (h:eU R M S cs xs) (hs:∀ b,S b→S' b) : eU R M S' cs xs:=by
 induction h with
 | nil=>exact .nil
 | cons h1 _ ih=>exact .cons (R.mono h1 hs) ih
theorem eU.lt (h:eU R M S cs xs) : eU R M (fun b=>S b∧b<M.next) cs xs:=by
 induction h with
 | nil=>exact .nil
 | cons h1 _ ih=>exact .cons (R.lt h1) ih
theorem eU.keep {bs:List Nat} (h:eU R M S cs xs) (hk:ae bs M M') (hb:∀ b∈bs,¬ S b) : eU R M' S cs xs:=by
 induction h with
 | nil=>exact .nil
 | cons h1 _ ih=>exact .cons (R.keep h1 hk hb) ih
theorem eU.get (h:eU R M S cs xs) : ∀ {i:Nat} (hi:i<xs.length),R.rel M ((cs.drop (i * R.size)).take R.size) xs[i] S:=by
 induction h with
 | nil=>intro i hi; simp at hi
 | cons h1 h2 ih =>
   rename_i c1 d1 a1 x1
   intro i hi
   cases i with
   | zero =>
     rw[Nat.zero_mul,List.drop_zero,List.take_append_of_le_length (by rw[R.len h1]; exact Nat.le_refl _),List.take_of_length_le (by rw[R.len h1]; exact Nat.le_refl _)]
     exact h1
   | succ i =>
     rw[Nat.succ_mul,Nat.add_comm,← List.drop_drop,List.drop_left' (R.len h1)]
     exact ih (by simpa using hi)
theorem eU.take (h:eU R M S cs xs) : ∀ (k:Nat),eU R M S (cs.take (k * R.size)) (xs.take k):=by
 induction h with
 | nil=>intro k; simp; exact .nil
 | cons h1 h2 ih =>
   intro k
   cases k with
   | zero=>simp; exact .nil
   | succ k =>
     rw[Nat.succ_mul,Nat.add_comm,List.take_append,List.take_of_length_le (by rw[R.len h1]; omega),R.len h1,Nat.add_sub_cancel_left]
     exact .cons h1 (ih k)
theorem eU.drop (h:eU R M S cs xs) : ∀ (k:Nat),eU R M S (cs.drop (k * R.size)) (xs.drop k):=by
 induction h with
 | nil=>intro k; simp; exact .nil
 | cons h1 h2 ih =>
   intro k
   cases k with
   | zero=>simp; exact .cons h1 h2
   | succ k =>
     rw[Nat.succ_mul,Nat.add_comm,← List.drop_drop,List.drop_left' (R.len h1)]
     exact ih k
theorem eU.cells {E:Enc α} : ∀ {cs:List AV} {xs:List α},eU E.BH M S cs xs→cs=E.row xs
 | _,_,.nil=>rfl
 | _,_,.cons h1 h2=>by rw[Enc.kw,eU.cells h2]; rw[show _=_ from h1]
def nE (R:oG α) (M:RM) (v:AV) (xs:List α) (S:Nat→Prop) : Prop :=
 ∃ cs,aK M R.size v cs xs.length∧(∀ b∈aL v,S b)∧eU R M S cs xs
theorem aK.lt {size n:Nat} {v:AV} (h:aK M size v cs n) : ∀ b∈aL v,b<M.next:=by
 cases h with
 | nil=>intro b hb; simp[aL] at hb
 | emp=>intro b hb; simp[aL] at hb
 | slc b o n cap cs hb _=>intro c hc; simp[aL] at hc; omega
theorem aK.one {size n:Nat} {v:AV} (h:aK M size v cs n) : oneCell v=true:=by
 cases h <;> rfl
theorem aK.cells {size n:Nat} {v:AV} (h:aK M size v cs n) : v.cells=[v]:=by
 cases h <;> rfl
variable {v:AV}
theorem nE.mono (h:nE R M v xs S) (hs:∀ b,S b→S' b) : nE R M v xs S':=let ⟨cs,h1,h2,h3⟩:=h; ⟨cs,h1,fun b hb=>hs b (h2 b hb),h3.mono hs⟩
theorem nE.lt (h:nE R M v xs S) : nE R M v xs (fun b=>S b∧b<M.next):=let ⟨cs,h1,h2,h3⟩:=h; ⟨cs,h1,fun b hb=>⟨h2 b hb,h1.lt b hb⟩,h3.lt⟩
theorem nE.keep {bs:List Nat} (h:nE R M v xs S) (hk:ae bs M M') (hb:∀ b∈bs,¬ S b) : nE R M' v xs S :=
 let ⟨cs,h1,h2,h3⟩:=h; ⟨cs,h1.keep hk (fun b hv hbs=>hb b hbs (h2 b hv)),h2,h3.keep hk hb⟩
theorem nE.len (h:nE R M v xs S) {K:AV→Prop} : aR v K=K (N .i64 xs.length):=let ⟨cs,h1,_,_⟩:=h; h1.len
theorem nE.one (h:nE R M v xs S) : oneCell v=true:=let ⟨cs,h1,_,_⟩:=h; h1.one
theorem nE.cells (h:nE R M v xs S) : v.cells=[v]:=let ⟨cs,h1,_,_⟩:=h; h1.cells
theorem nE.at (h:nE R M v xs S) {i:Nat} (sz:Nat) (j:Int) (hi:i<xs.length) (hsz:R.size=sz:=by rfl) (hj:j=(i:Int):=by rfl) :
  ∃ b o cs,b<M.next∧b∈aL v∧(∀ (kd:IntKind) (K:AV→Prop),bV v (N kd j) sz K=K (.ptr b o))∧M.loads b o sz=some cs∧R.rel M cs xs[i] S:=by
 subst hsz hj
 obtain⟨cs,h1,h2,h3⟩:=h
 obtain⟨b,o,cap,rfl,hb,hl⟩:=h1.pos (by omega)
 have hsum:i * R.size + R.size≤xs.length * R.size:=by rw[← Nat.succ_mul]; exact Nat.mul_le_mul_right _ hi
 refine⟨b,o + i * R.size,(cs.drop (i * R.size)).take R.size,hb,by simp[aL],fun kd K=>?_, ?_,h3.get hi⟩
 ·rw[nI]
  simp only[Int.toNat_natCast]
  exact propext ⟨fun h=>h.2.2,fun h=>⟨by omega,by omega,h⟩⟩
 ·rw[sG hl (i * R.size) R.size hsum]
def oG.slice (R:oG α) : oG (List α) where
 size:=1
 rel M cs xs S:=∃ v,cs=[v]∧nE R M v xs S
 len h:=by obtain⟨v,rfl,_⟩:=h; rfl
 one h:=by obtain⟨v,rfl,h⟩:=h; simp[h.one]
 mono h hs:=by obtain⟨v,rfl,h⟩:=h; exact⟨v,rfl,h.mono hs⟩
 lt h:=by obtain⟨v,rfl,h⟩:=h; exact⟨v,rfl,h.lt⟩
 keep h hk hb:=by obtain⟨v,rfl,h⟩:=h; exact⟨v,rfl,h.keep hk hb⟩
def ql (R:oG α) (M:RM) (base el:Nat) (v:AV) (xs:List α) (S:Nat→Prop) : Prop :=
 ∃ cs,Own M base el R.size v cs xs.length∧eU R M S cs xs
theorem ql.mono {base el:Nat} (h:ql R M base el v xs S) (hs:∀ b,S b→S' b) : ql R M base el v xs S':=let ⟨cs,h1,h2⟩:=h; ⟨cs,h1,h2.mono hs⟩
theorem ql.lt {base el:Nat} (h:ql R M base el v xs S) : ql R M base el v xs (fun b=>S b∧b<M.next):=let ⟨cs,h1,h2⟩:=h; ⟨cs,h1,h2.lt⟩
theorem ql.keep {base el:Nat} {bs:List Nat} (h:ql R M base el v xs S) (hk:ae bs M M') (hb:∀ b∈bs,¬ S b) (hv:∀ b∈aL v,b ∉ bs) : ql R M' base el v xs S :=
 let ⟨cs,h1,h2⟩:=h; ⟨cs,h1.keep hk hv,h2.keep hk hb⟩
theorem ql.len {base el:Nat} (h:ql R M base el v xs S) {K:AV→Prop} : aR v K=K (N .i64 xs.length):=let ⟨cs,h1,_⟩:=h; h1.l8.len
theorem ql.cells {base el:Nat} (h:ql R M base el v xs S) : v.cells=[v]:=let ⟨cs,h1,_⟩:=h; h1.cells
theorem ql.one {base el:Nat} (h:ql R M base el v xs S) : oneCell v=true:=let ⟨cs,h1,_⟩:=h; h1.one
end
section
variable {M M' : RM} {b i n e f:Nat} {l:List AV} {p:Bool} {x:AV}
theorem aO {K:AV→Prop} (h:M.heap b=some (.row l p e f)) (hx:l[i]?=some x) : aj M (.ptr b i) K=K x:=by
 rw[dR,RM.cell_of h,hx]; simp
theorem bW {K:AV→Prop} (h:M.heap b=some (.row l p e f)) (hn:l.length=n) : bF M (.ptr b 0) n K=K (.agg l):=by
 rw[xM,RM.Me h]
 have:qx (some l) 0 n=some l:=by simp[qx,← hn]
 rw[this]; simp
theorem LV {K:RM→Prop} (h:M.heap b=some (.row l p e 0)) (hi:i<l.length) (hc:x.cells=[x]) (h1:oneCell x=true) : aG M (.ptr b i) x 1 K=K (M.put b (.row (l.set i x) p e 0)):=by
 rw[vB,hc,RM.wZ h,qO (by simp only[List.length_cons,List.length_nil]; omega) (Nat.zero_le _) (by simp[h1])]
 have:l.take i++[x]++l.drop (i + 1)=l.set i x:=by
  rw[List.set_eq_take_append_cons_drop,if_pos hi]; simp
 simp[this]
theorem fP {K:RM→Prop} (l' : List AV) (h:M.heap b=some (.row l p e 0)) (hi:i<l.length) (hc:x.cells=[x]) (h1:oneCell x=true) (hl:l.set i x=l') : aG M (.ptr b i) x 1 K=K (M.put b (.row l' p e 0)):=by
 rw[LV h hi hc h1,hl]
theorem jd {K:AV→Prop} : aS (.ptr b 0) n K=K (.ptr b n):=by rw[jD,Nat.zero_add]
theorem IR {K:RM→Prop} (h:M.heap b=some (.row l p e 0)) (hn:x.cells.length=n) (hl:l.length=n) (h1:x.cells.all oneCell=true) : aG M (.ptr b 0) x n K=K (M.put b (.row x.cells p e 0)):=by
 rw[vB,RM.wZ h,Ei (by rw[hn,hl]) h1]
 simp[hn]
theorem tL {c:Nat} {y z:RB} (h:M.heap b=some y) (hb:b≠c) : (M.put c z).heap b=some y:=by
 simp only[RM.put]; rw[if_neg hb]; exact h
theorem aN (y:RB) : (M.put b y).heap b=some y:=RM.Ad _ _
theorem Gd (c:Nat) (y:RB) : (M.put c y).next=M.next:=rfl
theorem ae.new {bs:List Nat} (h:ae bs M M') {b:Nat} (y:RB) (hb:M.next≤b) : ae bs M (M'.put b y):=h.put y (.inl hb)
end
variable {M:RM}
theorem bn {a:AV} {l:List AV} {K:AV→Prop} : aD (.tup (a :: l)) 0 K=K a:=by rw[Af]; simp
theorem bq {a b:AV} {l:List AV} {K:AV→Prop} : aD (.tup (a :: b :: l)) 1 K=K b:=by rw[Af]; simp
theorem eO {a b c:AV} {l:List AV} {K:AV→Prop} : aD (.tup (a :: b :: c :: l)) 2 K=K c:=by rw[Af]; simp
theorem bP {p q:Prop} : ax (Bo true) p q=p:=by simp[Fa]
theorem aY {p q:Prop} : ax (Bo false) p q=q:=by simp[Fa]
theorem cO {b:Bool} {p q:Prop} (h1:b=true→p) (h2:b=false→q) : ax (Bo b) p q:=⟨h1,h2⟩
theorem bR {f g:ah→Prop} {k:ah} : aa (Bo true) true f g k=f k:=rfl
theorem dN {f g:ah→Prop} {k:ah} : aa (Bo false) false f g k=f k:=rfl
theorem eX {f g:ah→Prop} {k:ah} : aa (Bo true) false f g k=g k:=rfl
theorem fU {f g:ah→Prop} {k:ah} : aa (Bo false) true f g k=g k:=rfl
theorem Dz {f g:KR→Prop} {k:KR} : lF (Bo true) true f g k=f k:=rfl
theorem wL {f g:KR→Prop} {k:KR} : lF (Bo false) true f g k=g k:=rfl
theorem cZ {a b:AV} {K:AV→Prop} : ay (Bo true) a b K=K a:=by rw[FO]; rfl
theorem dK {a b:AV} {K:AV→Prop} : ay (Bo false) a b K=K b:=by rw[FO]; rfl
theorem aK.known {size:Nat} {v:AV} {cs:List AV} {n:Nat} (h:aK M size v cs n) : known v=true:=by
 cases h <;> rfl
theorem ku {t:TypeId} {cs:List AV} {K:RB→(Nat→AV)→Prop} (h1:cs.all oneCell=true) (h2:1≤cs.length) : oP t (.agg cs) K=K (.row cs false t 0) (fun b=>.ptr b 0):=by
 unfold oP
 exact propext ⟨fun h=>h.2.2,fun h=>⟨h1,h2,h⟩⟩
theorem Bu {x y a b:AV} (h1:known x=true) (h2:x.cells=[x]) (h3:known y=true) (h4:y.cells=[y]) : nZ [a,b] [(0,1,x),(1,1,y)]=some [x,y]:=by
 simp[nZ,h1,h2,h3,h4]
def oG.pre {α β:Type} (E:Enc α) (R:oG β) : oG (α × β) where
 size:=E.size + R.size
 rel M cs a S:=∃ ds,cs=E.cells a.1++ds∧R.rel M ds a.2 S
 len h:=by obtain⟨ds,rfl,h⟩:=h; rw[List.length_append,E.len,R.len h]
 one h:=by obtain⟨ds,rfl,h⟩:=h; rw[List.all_append,E.one,R.one h]; rfl
 mono h hs:=by obtain⟨ds,rfl,h⟩:=h; exact⟨ds,rfl,R.mono h hs⟩
 lt h:=by obtain⟨ds,rfl,h⟩:=h; exact⟨ds,rfl,R.lt h⟩
 keep h hk hb:=by obtain⟨ds,rfl,h⟩:=h; exact⟨ds,rfl,R.keep h hk hb⟩
def oG.post {α β:Type} (R:oG α) (E:Enc β) : oG (α × β) where
 size:=R.size + E.size
 rel M cs a S:=∃ ds,cs=ds++E.cells a.2∧R.rel M ds a.1 S
 len h:=by obtain⟨ds,rfl,h⟩:=h; rw[List.length_append,E.len,R.len h]
 one h:=by obtain⟨ds,rfl,h⟩:=h; rw[List.all_append,E.one,R.one h]; rfl
 mono h hs:=by obtain⟨ds,rfl,h⟩:=h; exact⟨ds,rfl,R.mono h hs⟩
 lt h:=by obtain⟨ds,rfl,h⟩:=h; exact⟨ds,rfl,R.lt h⟩
 keep h hk hb:=by obtain⟨ds,rfl,h⟩:=h; exact⟨ds,rfl,R.keep h hk hb⟩
def oG.map {α β:Type} (R:oG α) (g:β→α) : oG β where
 size:=R.size
 rel M cs a S:=R.rel M cs (g a) S
 len h:=R.len h
 one h:=R.one h
 mono h hs:=R.mono h hs
 lt h:=R.lt h
 keep h hk hb:=R.keep h hk hb
end Go.Ab
namespace Go.Ab
open Go Go.RowKit Go.ChangeShapes
section
variable {H:Type} {enc:TypeId × Value→H} {P:Program} {w:World} {base:Nat} {spare:Nat→Bool} {held:Bool}
end
end Go.Ab
namespace Go.Ab
open Go Go.ChangeShapes
end Go.Ab
namespace Go.Ab
open Go Go.RowKit
section
variable {P:Program} {f:FuncId} {fn:Func} {w w' : World} {M:RM}
end
end Go.Ab
namespace Go.Ab.Sm
open Go Go.Ab
section
variable {i j:Nat} {K:AV→Prop}
theorem addN (h:i + j<4611686018427387904) : af .add (N .i64 (i:Int)) (N .i64 (j:Int)) K=K (N .i64 ((i + j:Nat) : Int)):=by
 rw[vN,gQ (by omega) (by omega),Int.natCast_add]
theorem add1 (h:i<4611686018427387904) : af .add (N .i64 (i:Int)) (N .i64 1) K=K (N .i64 ((i + 1:Nat) : Int)):=by
 rw[vN,uU (by omega)]
theorem FL (h:j≤i) (hb:i<4611686018427387904) : af .sub (N .i64 (i:Int)) (N .i64 (j:Int)) K=K (N .i64 ((i - j:Nat) : Int)):=by
 rw[jv,gQ (by omega) (by omega),show(i:Int) - (j:Int)=((i - j:Nat) : Int) by omega]
theorem vC:af .lss (N .i64 (i:Int)) (N .i64 (j:Int)) K=K (Bo (decide (i<j))):=by rw[iQ,show decide ((i:Int)<(j:Int))=decide (i<j) by simp]
theorem I8:af .gtr (N .i64 (i:Int)) (N .i64 (j:Int)) K=K (Bo (decide (i > j))):=by rw[ed,show decide ((i:Int) > (j:Int))=decide (i > j) by simp]
theorem TC:af .eql (N .i64 (i:Int)) (N .i64 (j:Int)) K=K (Bo (decide (i=j))):=by
 rw[aX,show((i:Int) == (j:Int))=decide (i=j) by by_cases h:i=j <;> simp[h]; omega]
end
section
variable {M:RM} {c p:Bool} {f:ah→Prop} {P:RM→Prop} {G:AV→RM→Prop}
theorem ou (hf:c=true→∀ k:ah,k (Bo p) M→f k) (hG:G (Bo (c && p)) M) :
  aa (Bo c) true f (fun k=>k .undef M) (fun t M'=>ay (Bo c) t (Bo false) fun u=>G u M'):=by
 cases c with
 | false=>rw[fU]; dsimp only; rw[dK]; exact hG
 | true=>rw[bR]; exact hf rfl _ (by rw[cZ]; exact hG)
theorem CL (hf:c=false→∀ k:ah,k (Bo p) M→f k) (hG:G (Bo (c || p)) M) :
  aa (Bo c) false f (fun k=>k .undef M) (fun t M'=>ay (Bo c) (Bo true) t fun u=>G u M'):=by
 cases c with
 | true=>rw[eX]; dsimp only; rw[cZ]; exact hG
 | false=>rw[dN]; exact hf rfl _ (by rw[dK]; exact hG)
theorem BD (h0:P M) (hf:c=true→∀ k:ah,(∀ M',P M'→k (Bo p) M')→f k) (hG:∀ M',P M'→G (Bo (c && p)) M') :
  aa (Bo c) true f (fun k=>k .undef M) (fun t M'=>ay (Bo c) t (Bo false) fun u=>G u M'):=by
 cases c with
 | false=>rw[fU]; dsimp only; rw[dK]; exact hG M h0
 | true=>rw[bR]; exact hf rfl _ fun M' h=>by rw[cZ]; exact hG M' h
theorem Ai (h0:P M) (hf:c=false→∀ k:ah,(∀ M',P M'→k (Bo p) M')→f k) (hG:∀ M',P M'→G (Bo (c || p)) M') :
  aa (Bo c) false f (fun k=>k .undef M) (fun t M'=>ay (Bo c) (Bo true) t fun u=>G u M'):=by
 cases c with
 | true=>rw[eX]; dsimp only; rw[cZ]; exact hG M h0
 | false=>rw[dN]; exact hf rfl _ fun M' h=>by rw[dK]; exact hG M' h
end
section
variable {M:RM} {c p:Bool} {f:KR→Prop} {G:AV→RM→Prop}
end
theorem Ay {a:Int} {K:AV→Prop} : af .neq (N .i64 a) (N .i64 a) K=K (Bo false):=by rw[gD,bne_self_eq_false]
end Go.Ab.Sm
namespace Go.Ab
open Go Go.RowKit
inductive iU (B:Nat) (P:Program) (M:RM) : TypeId→List AV→Prop
 | bool (t:TypeId) (b:Bool) : P.underlying t=some .bool→iU B P M t [Bo b]
 | int (t:TypeId) (k:IntKind) (n:Int) : P.underlying t=some (.int k)→k.min≤n→n≤k.max→iU B P M t [N k n]
 | str (t:TypeId) (s:List UInt8) : P.underlying t=some .string→s.length≤B→iU B P M t [St s]
 | JB (t e:TypeId) : P.underlying t=some (.slice e)→iU B P M t [aH]
 | emp (t e:TypeId) (b:Nat) : P.underlying t=some (.slice e)→iU B P M t [.emp b]
 | slc (t e:TypeId) (b o n c:Nat) (cs:List AV) : P.underlying t=some (.slice e)→b<M.next→n≤c→n≤B→M.loads b o (n * P.cellsOf e)=some cs →
   (∀ i,i<n→iU B P M e ((cs.drop (i * P.cellsOf e)).take (P.cellsOf e)))→iU B P M t [.slc b o n (.ex c)]
 | struct (t:TypeId) (fs:Array Field) (cs:List AV) : P.underlying t=some (.struct fs)→cs.length=P.cellsOf t →
   (∀ (i:Nat) (f:Field),fs[i]?=some f→iU B P M f.type ((cs.drop f.offset).take (P.cellsOf f.type)))→iU B P M t cs
 | array (t e:TypeId) (n:Nat) (cs:List AV) : P.underlying t=some (.array n e)→cs.length=P.cellsOf t →
   (∀ i,i<n→iU B P M e ((cs.drop (i * P.cellsOf e)).take (P.cellsOf e)))→iU B P M t cs
 | other (t:TypeId) (cs:List AV) : qL (P.underlying t)=true→iU B P M t cs
 | zero (t e:TypeId) (cs:List AV) : P.underlying t=some (.slice e)→P.cellsOf e=0→iU B P M t cs
section
variable {H:Type} {enc:TypeId × Value→H} {P:Program} {base:Base} {w:World}
variable {bulk:DataW H→Nat} {B:Nat}
structure Ur (bulk:DataW H→Nat) : Prop where
 str:∀ bs:List UInt8,bs.length≤bulk (.lit (.string bs))
 len:∀ es sp:List (DataW H),es.length≤bulk (.slice es sp)
 elem:∀ (es sp:List (DataW H)) d,d∈es→bulk d≤bulk (.slice es sp)
 spare:∀ (es sp:List (DataW H)) d,d∈sp→bulk d≤bulk (.slice es sp)
 agg:∀ (ps:List (DataW H)) d,d∈ps→bulk d≤bulk (.agg ps)
end
section
variable {P:Program} {M:RM} {t:TypeId} {cs:List AV} {B:Nat}
def Jy:AV→Prop
 | .slc _ _ n (.ex c)=>n≤c
 | .slc _ _ _ (.op e)=>e=1
 | _=>True
end
def EZ (B:Nat) (P:Program) (M:RM) (t:TypeId) (v:AV) : Prop :=
 match wM P t with
 | true=>∃ cs,v=.agg cs∧iU B P M t cs
 | false=>iU B P M t [v]
theorem EZ.one {B:Nat} {P:Program} {M:RM} {t:TypeId} {v:AV} (h:EZ B P M t v) (ha:wM P t=false) : iU B P M t [v]:=by
 unfold EZ at h; rw[ha] at h; exact h
section
variable {H:Type} {enc:TypeId × Value→H} {P:Program} {base:Base} {w:World} {bulk:DataW H→Nat} {B:Nat}
end
end Go.Ab
namespace Go.Ab.Hw
open Go Go.Ab Go.Ab.Sm
open Go.Ab.Vl (brk kP gy dU fI fe zR)
abbrev Str:=List UInt8
structure Bs (M:RM) (v:AV) (b:Str) : Prop where
 sl:Sl BY M v b
 cap:Jy v
theorem Bs.keep {M M' : RM} {v:AV} {b:Str} {bs:List Nat} (h:Bs M v b) (k:ae bs M M') (hb:∀ x∈aL v,x ∉ bs) : Bs M' v b:=⟨aK.keep h.sl k hb,h.cap⟩
theorem Bs.len {M:RM} {v:AV} {b:Str} (h:Bs M v b) {K:AV→Prop} : aR v K=K (N .i64 (b.length:Int)):=aK.len h.sl
theorem Bs.str {M:RM} {v:AV} {b:Str} (h:Bs M v b) {K:AV→Prop} : dM M v K=K (St b):=Sl.str h.sl
theorem Oh {M:RM} {base T n:Nat} {v:AV} {cs:List AV} (h:Own M base T 1 v cs n) : Jy v:=by
 cases h with
 | nil=>trivial
 | ex0 b o _ _ _=>exact Nat.le_refl _
 | op b n cs _ _ _ _=>rfl
theorem Bs.own {M:RM} {base T:Nat} {v:AV} {b:Str} (h:Ow BY M base T v b) : Bs M v b:=⟨Own.l8 h,Oh h⟩
theorem A9 {M:RM} {b o n:Nat} {x:Str} (h:M.loads b o (n * 1)=some (BY.row x)) {l u:Nat} (h1:l≤u) (h2:u≤n) : M.loads b (o + l * 1) ((u - l) * 1)=some (BY.row ((x.drop l).take (u - l))):=by
 have:=sG h (l * 1) ((u - l) * 1) (by omega)
 rw[this]
 congr 1
 have e1:=BY.vK x l
 have e2:=BY.Ak (x.drop l) (u - l)
 rw[show l * 1=l * BY.size from rfl,e1,show(u - l) * 1=(u - l) * BY.size from rfl,e2]
theorem Bs.sub {M:RM} {v:AV} {b:Str} (h:Bs M v b) {lo hi:Option AV} {l u:Nat} (e1:bnd 0 lo=some l) (e2:bnd b.length hi=some u) (h1:l≤u) (h2:u≤b.length) {K:AV→Prop}
  (hK:∀ v',Bs M v' ((b.drop l).take (u - l))→(∀ x∈aL v',x∈aL v)→K v') : bI (dE 1 v lo hi none) K:=by
 obtain⟨hs,hc⟩:=h
 have hlen:((b.drop l).take (u - l)).length=u - l:=by simp; omega
 have zero:u=l→∀ {w:AV},aK M 1 w [] 0→Sl BY M w ((b.drop l).take (u - l)):=by
  intro e w hw
  subst e
  rw[Nat.sub_self,List.take_zero]
  exact hw
 unfold Sl at hs
 generalize hn:b.length=n at *
 generalize hcs:BY.row b=cs at *
 cases hs with
 | nil =>
   have l0:l=0:=by omega
   have u0:u=0:=by omega
   subst l0 u0
   exact⟨aH,by simp only[dE,aH,e1,e2],hK _ ⟨zero rfl .nil,trivial⟩ (fun x hx=>hx)⟩
 | emp b0 =>
   have l0:l=0:=by omega
   have u0:u=0:=by omega
   subst l0 u0
   exact⟨.emp b0,by simp only[dE,e1,e2],hK _ ⟨zero rfl (.emp _),trivial⟩ (fun x hx=>hx)⟩
 | slc b0 o _ cap cs hb hl =>
   subst hcs
   have hl':=A9 hl h1 h2
   have whole:∀ cap',Jy (.slc b0 (o + l * 1) (u - l) cap')→(Bs M (.slc b0 (o + l * 1) (u - l) cap') ((b.drop l).take (u - l))):=fun cap' hcap=>⟨by
    unfold Sl; rw[hlen]; exact .slc _ _ _ _ _ hb hl',hcap⟩
   cases cap with
   | ex c =>
     have hcn:n≤c:=hc
     by_cases e:c=l
     ·subst e
      have hu:u=c:=by omega
      subst hu
      refine⟨.slc b0 o 0 (.ex 0),by simp only[dE,e1,e2]; rw[if_pos ⟨Nat.le_refl _,Nat.le_refl _⟩]; simp,hK _ ⟨zero rfl (.slc _ _ _ _ _ hb ?_),Nat.le_refl _⟩ (fun x hx=>hx)⟩
      have:=A9 hl (Nat.le_refl 0) (Nat.zero_le n)
      simpa [BY,Enc.row] using this
     ·exact⟨_,by simp only[dE,e1,e2]; rw[if_pos ⟨h1,by omega⟩,if_neg e],hK _ (whole _ (by show u - l≤c - l; omega)) (fun x hx=>hx)⟩
   | op esz =>
     have he:esz=1:=hc
     subst he
     by_cases e:n≤l
     ·have hu:u=l:=by omega
      exact⟨.emp b0,by simp only[dE,e1,e2]; simp[h1,h2,e],hK _ ⟨zero hu (.emp _),trivial⟩ (fun x hx=>by simp[aL] at hx)⟩
     ·exact⟨_,by simp only[dE,e1,e2]; simp only[and_true]; rw[if_pos ⟨h1,h2⟩,if_neg e],hK _ (whole (.op 1) rfl) (fun x hx=>hx)⟩
theorem kR (d n:Nat) (k:IntKind) : bnd d (some (N k (n:Int)))=some n:=by simp[bnd]
theorem Gr (d:Nat) : bnd d none=some d:=rfl
def pre (p s:Str) : Bool:=decide (p.length≤s.length) && (s.take p.length == p)
def AO (c:ai) : Prop:=∀ {M:RM} {s p:Str} {Q:ah},Q (Bo (pre p s)) M→c [St s,St p] M Q
theorem El:AO fun args M Q=>∃ a0 a1,args=[a0,a1]∧Vl.dW a0 a1 M Q:=by
 intro M s p Q hQ
 refine⟨_,_,rfl, ?_⟩
 unfold Go.Ab.Vl.dW
 simp only[dB,mf,dx]
 unfold pre at hQ
 by_cases h:p.length≤s.length
 ·have e:decide ((s.length:Int) ≥ (p.length:Int))=true:=by simp[h]
  rw[e]
  simp only[go_sem,if_true]
  rw[fe h]
  simpa only[go_sem,h,decide_true,Bool.true_and,if_true] using hQ
 ·have e:decide ((s.length:Int) ≥ (p.length:Int))=false:=by simp; omega
  rw[e]
  simpa [go_sem,h] using hQ
theorem MW {ch:ai} (hh:AO ch) : AO fun args M Q=>∃ a0 a1,args=[a0,a1]∧Vl.nz ch a0 a1 M Q:=by
 intro M s p Q hQ
 exact⟨_,_,rfl,hh hQ⟩
def wN (p s:Str) : AV:=if pre p s then .tup [St (s.drop p.length),Bo true] else .tup [St s,Bo false]
def qf (c:ai) : Prop:=∀ {M:RM} {s p:Str} {Q:ah},Q (wN p s) M→c [St s,St p] M Q
theorem Ah {ch:ai} (hh:AO ch) : qf fun args M Q=>∃ a0 a1,args=[a0,a1]∧Vl.eu ch a0 a1 M Q:=by
 intro M s p Q hQ
 refine⟨_,_,rfl, ?_⟩
 unfold Go.Ab.Vl.eu
 refine hh ?_
 unfold wN at hQ
 cases h:pre p s
 ·rw[h] at hQ; simpa [go_sem] using hQ
 ·rw[h] at hQ
  have hl:p.length≤s.length:=by unfold pre at h; simp at h; exact h.1
  simp only[di,Bool.not_true,aY,mf]
  rw[dU hl]
  simpa [go_sem] using hQ
theorem GK {ch:ai} (hh:qf ch) : qf fun args M Q=>∃ a0 a1,args=[a0,a1]∧Vl.jK ch a0 a1 M Q:=by
 intro M s p Q hQ
 refine⟨_,_,rfl, ?_⟩
 unfold Go.Ab.Vl.jK
 refine hh ?_
 unfold wN at hQ ⊢
 cases h:pre p s <;> rw[h] at hQ <;> simpa [go_sem] using hQ
def uf (x:UInt8) (c:ai) : Prop:=∀ {M:RM} {s:List UInt8} {Q:ah},Q (N .i64 (Lib.indexByte s x)) M→c [St s,St [x]] M Q
theorem zJ {x:UInt8} {g:Nat} {ci xx c1 c2:ai} (hi:gy ci) : uf x fun args M Q=>∃ a0 a1,args=[a0,a1]∧bM ci g xx c1 c2 a0 a1 M Q:=by
 intro M s Q hQ
 refine⟨_,_,rfl, ?_⟩
 unfold bM
 rw[mf,aX,show((([x] : List UInt8).length:Int) == 0)=false from rfl]
 simp only[dB]
 by_cases h:[x]=s
 ·subst h
  have:Lib.indexByte [x] x=0:=by simp[Lib.indexByte]
  rw[this] at hQ
  simp only[go_sem,beq_self_eq_true]
  exact hQ
 ·have h' : (([x] : List UInt8) == s)=false:=by simp[h]
  simp only[go_sem,h']
  exact⟨fun _=>⟨by omega,x,rfl,hi hQ⟩,fun h=>absurd h (by decide)⟩
def gT (s:Str) (a b:Int) : Bool:=decide ((s.length:Int) ≥ a) && decide ((s.length:Int)≤b)
def qb (c:ai) : Prop:=∀ {M:RM} {s:Str} {a b:Int} {Q:ah},Q (Bo (gT s a b)) M→c [St s,N .i64 a,N .i64 b] M Q
theorem G6:qb fun args M Q=>∃ a0 a1 a2,args=[a0,a1,a2]∧kT a0 a1 a2 M Q:=by
 intro M s a b Q hQ
 refine⟨_,_,_,rfl, ?_⟩
 unfold kT
 simp only[dB,mf,dx]
 refine ou (fun _ k hk=>?_) hQ
 simpa only[go_sem] using hk
theorem BQ {T8:Nat} : Au fun args M Q=>∃ a0,args=[a0]∧lN T8 a0 M Q:=by
 intro M s Q hl hQ
 refine⟨_,rfl, ?_⟩
 unfold lN
 simp only[dB,aT,iB,jo]
 have hk1:ae [] M (M.push (.row (BY.row s) true T8 0)):=(ae.refl _ _).push _
 have hr1:Rw BY (M.push (.row (BY.row s) true T8 0)) M.next true T8 s:=Rw.new M s
 generalize M.push (.row (BY.row s) true T8 0)=M1 at *
 refine dL (fun m ys M3=>∃ i:Nat,m=s.length - i∧ys=[N .i64 i]∧i≤s.length∧Rw BY M3 M.next true T8 (upTo bJ i s)∧ae [] M M3) _
  ⟨0,rfl,rfl,Nat.zero_le _,by rw[KH]; exact hr1,hk1⟩ ?_
 rintro next m ys M3 hnext ⟨i,rfl,rfl,hi,hR,hK⟩
 simp only[go_sem]
 refine⟨fun hlt=>?_,fun hge=>?_⟩
 ·have hlt:i<s.length:=by simpa using hlt
  have hlen:i<(upTo bJ i s).length:=by rw[EL]; exact hlt
  have hg:=Gi bJ hlt
  have hc:=hR.aj hlen
  have w1:=uU (show i<9223372036854775807 by omega)
  have hge:(upTo bJ i s)[i]=s[i]:=Option.some.inj ((List.getElem?_eq_getElem hlen).symm.trans hg)
  rw[hge] at hc
  refine⟨by omega,_,hc, ?_⟩
  have same:bJ s[i]=s[i]→next [N .i64 ((i + 1:Nat) : Int)] M3:=fun h=>by
   refine hnext _ _ _ (by omega) ⟨i + 1,rfl,rfl,by omega, ?_,hK⟩
   rw[KX bJ hlt h]
   exact hR
  have cb:=yQ s[i]
  simp only[w1]
  by_cases h1:65≤s[i].toNat
  ·have e1:((s[i].toNat:Int) ≥ 65):=by omega
   by_cases h2:s[i].toNat≤90
   ·have e2:((s[i].toNat:Int)≤90):=by omega
    have hlow:bJ s[i]=s[i] + 32:=by rw[bJ,if_pos ⟨h1,h2⟩]
    have hn:(bJ s[i]).toNat=s[i].toNat + 32:=by
     rw[hlow,UInt8.toNat_add]
     show(s[i].toNat + 32) % 256=_
     omega
    have wv:N IntKind.u8 (IntKind.u8.wrap (IntKind.u8.wrap ((s[i].toNat:Int) + 97) - 65))=By (bJ s[i]):=by
     rw[By,hn]
     congr 1
     rw[show IntKind.u8.wrap ((s[i].toNat:Int) + 97)=(s[i].toNat:Int) + 97 from iq (by omega) (by omega)]
     rw[iq (by omega) (by omega)]; omega
    obtain⟨hs,hR'⟩:=hR.FP hlen (bJ s[i])
    simp only[e1,e2,decide_true,go_sem]
    rw[Fg bJ hlt] at hs hR'
    refine⟨by omega,_,(congrArg (fun x=>M3.stores M.next i [x]) wv).trans hs, ?_⟩
    exact hnext _ _ _ (by omega) ⟨i + 1,rfl,rfl,by omega,hR',hK.put _ (.inl (Nat.le_refl _))⟩
   ·have e2:¬ ((s[i].toNat:Int)≤90):=by omega
    simp only[e1,e2,decide_true,decide_false,go_sem]
    exact same (by rw[bJ,if_neg (by omega)])
  ·have e1:¬ ((s[i].toNat:Int) ≥ 65):=by omega
   simp only[e1,decide_false,go_sem]
   exact same (by rw[bJ,if_neg (by omega)])
 ·have:i=s.length:=by simp at hge; omega
  subst this
  rw[Nb] at hR
  have:=hR.sl (cap:=.op 1)
  rw[List.length_map] at this
  rw[Sl.str this]
  exact hQ M3 hK
end Go.Ab.Hw
namespace Go.Ab.Hw
open Go Go.Ab Go.Ab.Sm
open Go.Ab.Vl (brk kP pz gy dU fI fe zR)
theorem jH {M:RM} {b n:Nat} {l cs:List AV} {p:Bool} {e:Nat} {K:RM→Prop} (h:M.heap b=some (.row l p e 0)) (hn:cs.length=n) (hl:l.length=n) (h1:cs.all oneCell=true) :
  aG M (.ptr b 0) (.agg cs) n K=K (M.put b (.row cs p e 0)):=IR (x:=.agg cs) h hn hl h1
def dI (x:UInt8) : Bool:=decide ((x.toNat:Int) ≥ 48) && decide ((x.toNat:Int)≤57)
def oM (x:UInt8) : Bool:=decide ((x.toNat:Int) ≥ 65) && decide ((x.toNat:Int)≤90)
def wH (x:UInt8) : Bool:=decide ((x.toNat:Int) ≥ 33) && decide ((x.toNat:Int)≤126)
def p32 (x:UInt8) : Bool:=decide ((x.toNat:Int) ≥ 32) && decide ((x.toNat:Int)≤126)
def qy (x:UInt8) : Bool:=(decide ((x.toNat:Int) ≥ 32) && decide ((x.toNat:Int)≤126)) || ((x.toNat:Int) == 9)
def rV (x:UInt8) : Bool:=(decide ((x.toNat:Int) ≥ 97) && decide ((x.toNat:Int)≤122)) || dI x || ((x.toNat:Int) == 45)
def jW (x:UInt8) : Bool:=dI x || (decide ((x.toNat:Int) ≥ 97) && decide ((x.toNat:Int)≤102))
def ow (p:UInt8→Bool) (c:ai) : Prop:=∀ {M:RM} {x:UInt8} {Q:ah},Q (Bo (p x)) M→c [By x] M Q
theorem IM:ow dI fun args M Q=>∃ a0,args=[a0]∧lY a0 M Q:=by
 intro M x Q hQ
 refine⟨_,rfl, ?_⟩
 unfold lY
 simp only[dB,dx]
 exact ou (fun _ k hk=>by simpa only[go_sem] using hk) hQ
theorem Ke:ow oM fun args M Q=>∃ a0,args=[a0]∧lW a0 M Q:=by
 intro M x Q hQ
 refine⟨_,rfl, ?_⟩
 unfold lW
 simp only[dB,dx]
 exact ou (fun _ k hk=>by simpa only[go_sem] using hk) hQ
theorem Gn:ow wH fun args M Q=>∃ a0,args=[a0]∧kg a0 M Q:=by
 intro M x Q hQ
 refine⟨_,rfl, ?_⟩
 unfold kg
 simp only[dB,dx]
 exact ou (fun _ k hk=>by simpa only[go_sem] using hk) hQ
theorem Mx:ow p32 fun args M Q=>∃ a0,args=[a0]∧fT a0 M Q:=by
 intro M x Q hQ
 refine⟨_,rfl, ?_⟩
 unfold fT
 simp only[dB,dx]
 exact ou (fun _ k hk=>by simpa only[go_sem] using hk) hQ
theorem MB:ow qy fun args M Q=>∃ a0,args=[a0]∧iL a0 M Q:=by
 intro M x Q hQ
 refine⟨_,rfl, ?_⟩
 unfold iL
 simp only[dB,dx]
 refine ou (fun _ k hk=>by simpa only[go_sem] using hk) ?_
 exact CL (fun _ k hk=>by simpa only[go_sem] using hk) hQ
theorem Jd {cd:ai} (hd:ow dI cd) : ow rV fun args M Q=>∃ a0,args=[a0]∧jb cd a0 M Q:=by
 intro M x Q hQ
 refine⟨_,rfl, ?_⟩
 unfold jb
 simp only[dB,dx]
 refine ou (fun _ k hk=>by simpa only[go_sem] using hk) ?_
 refine CL (p:=dI x) (fun _ k hk=>hd hk) ?_
 exact CL (fun _ k hk=>by simpa only[go_sem] using hk) hQ
theorem LW {cd:ai} (hd:ow dI cd) : ow jW fun args M Q=>∃ a0,args=[a0]∧kX cd a0 M Q:=by
 intro M x Q hQ
 refine⟨_,rfl, ?_⟩
 unfold kX
 refine hd ?_
 unfold jW at hQ
 cases h:dI x <;> rw[h] at hQ
 ·by_cases h1:(x.toNat:Int) ≥ 97
  ·simpa [go_sem,h1] using hQ
  ·simpa [go_sem,h1] using hQ
 ·simpa [go_sem] using hQ
def kU (p:UInt8→Bool) (f:AV) (c:ai) : Prop:=∀ {M:RM} {s:Str} {Q:ah},s.length<4611686018427387904→(∀ M',ae [] M M'→Q (Bo (s.all p)) M')→c [St s,f] M Q
theorem lZ {T8 g:Nat} {p:UInt8→Bool} {cv:FuncId→ai} (hp:ow p (cv g)) : kU p (.fn (.func g) [] []) fun args M Q=>∃ a0 a1,args=[a0,a1]∧nK T8 cv a0 a1 M Q:=by
 intro M s Q hl hQ
 refine⟨_,_,rfl, ?_⟩
 unfold nK
 simp only[aT,iB,jo]
 have hk1:ae [] M (M.push (.row (BY.row s) true T8 0)):=(ae.refl _ _).push _
 have hr1:Rw BY (M.push (.row (BY.row s) true T8 0)) M.next true T8 s:=Rw.new M s
 generalize M.push (.row (BY.row s) true T8 0)=M1 at *
 have e:∀ i,i<s.length→s.all p=((s.take i).all p && s[i]!.toNat.ble 255 && (s.drop i).all p):=fun i hi=>by
  have:s[i]!.toNat.ble 255=true:=by
   have:=yQ s[i]!
   exact Nat.ble_eq_true_of_le (by omega)
  rw[this,Bool.and_true,← List.all_append,List.take_append_drop]
 refine dL (fun m ys M3=>∃ i:Nat,m=s.length - i∧ys=[N .i64 i]∧i≤s.length∧(s.take i).all p=true∧M3=M1) _ ⟨0,rfl,rfl,Nat.zero_le _,rfl,rfl⟩ ?_
 rintro next m ys M3 hnext ⟨i,rfl,rfl,hi,hA,rfl⟩
 simp only[aZ,vC]
 refine cO (fun h=>?_) fun h=>?_
 ·have hlt:i<s.length:=by simpa using h
  have hc:=hr1.aj hlt
  rw[nI]
  refine⟨by omega,by omega, ?_⟩
  rw[dR]
  refine⟨By s[i],by simpa using hc, ?_⟩
  rw[Ar]
  simp only[List.nil_append,List.append_nil]
  refine hp ?_
  simp only[di]
  have hd:s.drop i=s[i] :: s.drop (i + 1):=List.drop_eq_getElem_cons hlt
  refine cO (fun h=>?_) fun h=>?_
  ·have hf:p s[i]=false:=by simpa using h
   have:s.all p=false:=by
    rw[← List.take_append_drop i s,List.all_append,hd,List.all_cons,hf]; simp
   rw[← this]; exact hQ _ hk1
  ·have ht:p s[i]=true:=by simpa using h
   rw[add1 (by omega)]
   refine hnext _ _ _ (by omega) ⟨i + 1,rfl,rfl,by omega, ?_,rfl⟩
   rw[List.take_succ_eq_append_getElem hlt,List.all_append,hA]; simp[ht]
 ·have:i=s.length:=by simp at h; omega
  subst this
  rw[List.take_length] at hA
  rw[← hA]; exact hQ _ hk1
def lI (p:Str→Bool) (c:ai) : Prop:=∀ {M:RM} {s:Str} {Q:ah},s.length<4611686018427387904→(∀ M',ae [] M M'→Q (Bo (p s)) M')→c [St s] M Q
def cB (s:Str) : Bool:=gT s 1 40 && (low s).all rV
theorem vZ {g:Nat} {cw cs ca:ai} (hw:qb cw) (hs:Au cs) (ha:kU rV (.fn (.func g) [] []) ca) : lI cB fun args M Q=>∃ a0,args=[a0]∧jL cw cs ca g a0 M Q:=by
 intro M s Q hl hQ
 refine⟨_,rfl, ?_⟩
 unfold jL
 refine hw ?_
 simp only[dB]
 refine BD (P:=ae [] M) (p:=(low s).all rV) (ae.refl _ _) (fun _ k hk=>?_) hQ
 refine hs (by omega) fun M1 k1=>?_
 exact ha (by rw[low,List.length_map]; exact hl) fun M2 k2=>hk M2 (k1.trans k2)
def trimB (s:Str) : Str:=Lib.trimS s [32,9]
def Es (B:Base) (c:ai) : Prop:=∀ {M:RM} {s:Str} {Q:ah},M.base=B→s.length<4611686018427387904→(∀ M',ae [] M M'→Q (St (trimB s)) M')→c [St s,St [32,9]] M Q
def Bw (B:Base) (p:Str→Bool) (c:ai) : Prop:=∀ {M:RM} {s:Str} {Q:ah},M.base=B→s.length<4611686018427387904→(∀ M',ae [] M M'→Q (Bo (p s)) M')→c [St s] M Q
def bS (s:Str) : Bool:=(s == trimB s) && s.all qy
theorem tY {B:Base} {g:Nat} {ct ca:ai} (ht:Es B ct) (ha:kU qy (.fn (.func g) [] []) ca) : Bw B bS fun args M Q=>∃ a0,args=[a0]∧jw ct ca g a0 M Q:=by
 intro M s Q hB hl hQ
 refine⟨_,rfl, ?_⟩
 unfold jw
 refine ht hB hl fun M1 k1=>?_
 simp only[dB,dQ]
 refine BD (P:=ae [] M) (p:=s.all qy) k1 (fun _ k hk=>?_) hQ
 exact ha hl fun M2 k2=>hk M2 (k1.trans k2)
def fJ (s:Str) : Bool:=gT s 1 8 && s.all oM
theorem BM {g:Nat} {cw ca:ai} (hw:qb cw) (ha:kU oM (.fn (.func g) [] []) ca) : lI fJ fun args M Q=>∃ a0,args=[a0]∧ja cw ca g a0 M Q:=by
 intro M s Q hl hQ
 refine⟨_,rfl, ?_⟩
 unfold ja
 refine hw ?_
 simp only[dB]
 exact BD (P:=ae [] M) (p:=s.all oM) (ae.refl _ _) (fun _ k hk=>ha hl hk) hQ
def gY (s:Str) : Bool:=pre [47] s && decide ((s.length:Int)≤201) && s.all wH
theorem Ee {g:Nat} {cp ca:ai} (hp:AO cp) (ha:kU wH (.fn (.func g) [] []) ca) : lI gY fun args M Q=>∃ a0,args=[a0]∧jN cp ca g a0 M Q:=by
 intro M s Q hl hQ
 refine⟨_,rfl, ?_⟩
 unfold jN
 refine hp ?_
 simp only[dB]
 refine ou (p:=decide ((s.length:Int)≤201)) (fun _ k hk=>by simpa only[go_sem] using hk) ?_
 exact BD (P:=ae [] M) (p:=s.all wH) (ae.refl _ _) (fun _ k hk=>ha hl hk) hQ
abbrev Hd:=Str × Str
def HD:Enc Hd:=⟨2,fun h=>[St h.1,St h.2],fun _=>rfl,fun _=>rfl⟩
def eD (s:Str) : Option Hd:=match brk 58 s with
 | none=>none
 | some (a,b)=>match cB a && bS (trimB b) with
   | true=>some (a,trimB b)
   | false=>none
def Cq (B:Base) (c:ai) : Prop:=∀ {M:RM} {s:Str} {Q:ah},M.base=B→s.length≤1000000 →
 (∀ h M',eD s=some h→ae [] M M'→Q (.tup [.agg [St h.1,St h.2],Bo true]) M')→(∀ a b M',eD s=none→ae [] M M'→Q (.tup [.agg [St a,St b],Bo false]) M')→c [St s] M Q
theorem DD (s:Str) : (trimB s).length≤s.length:=by
 have h1:∀ (p:UInt8→Bool) (l:Str),(l.dropWhile p).length≤l.length:=fun p l=>List.IsSuffix.length_le (List.dropWhile_suffix p)
 unfold trimB Lib.trimS Lib.trimLeftS Lib.trimRightS
 refine Nat.le_trans (h1 _ _) ?_
 rw[List.length_reverse]
 refine Nat.le_trans (h1 _ _) ?_
 rw[List.length_reverse]
 exact Nat.le_refl _
theorem Im {x:UInt8} {s a b:Str} (h:brk x s=some (a,b)) : a.length + 1 + b.length=s.length:=by
 rcases Vl.uq x s with⟨h1,_⟩ | ⟨a',b',h1,_,h3,_⟩
 ·rw[h] at h1; cases h1
 ·rw[h] at h1; cases h1
  rw[h3]; simp; omega
theorem Gx {B:Base} {T:Nat} {cc ct cn cg:ai} (hc:kP 58 cc) (ht:Es B ct) (hn:lI cB cn) (hg:Bw B bS cg) : Cq B fun args M Q=>∃ a0,args=[a0]∧kY T cc ct cn cg a0 M Q:=by
 intro M s Q hB hl hQ hQ2
 refine⟨_,rfl, ?_⟩
 unfold kY
 simp only[aT]
 have k0:ae [] M (M.push (.row [St [],St []] false T 0)):=(ae.refl _ _).push _
 have n0:(M.push (.row [St [],St []] false T 0)).heap M.next=some (.row [St [],St []] false T 0):=by simp[RM.push]
 have l0:M.next<(M.push (.row [St [],St []] false T 0)).next:=by simp[RM.push]
 generalize M.push (.row [St [],St []] false T 0)=M0 at *
 refine hc (by omega) ?_
 have main:∀ (a b:Str) (ok:Bool),a.length≤s.length→b.length≤s.length →
   (ok=true→brk 58 s=some (a,b))→(ok=false→brk 58 s=none) →
   ct [St b,St [32,9]] M0 (fun t16 M_1=>gH [(St []),(St [])] [(0,1,St a),(1,1,t16)] fun t17=>bg (.row [(St []),(St [])] false T 0) (fun b=>.ptr b 0) M_1 fun t7 M_2=>aG M_2 t7 t17 2 fun M_3=>bF M_3 t7 2 fun t18=>lF (Bo ok) true (fun k=>aS t7 0 fun t21=>k t21 M_3 none) (fun k=>k .undef M_3 none) fun Rj M_5 b=>lF (Bo ok) true (fun k_6=>aj M_5 Rj fun t22=>k_6 t22 M_5 none) (fun k=>k .undef M_5 none) fun Ri M_8 b_9=>aa (Bo ok) true (fun Sb=>cn [Ri] M_8 fun t23 MU=>Sb t23 MU) (fun k=>k .undef M_8) fun PZ J7=>bF J7 t7 2 fun Ph=>(Ph=t18∧ay (Bo ok) PZ (Bo false) fun t24=>lF t24 true (fun Si=>aS t7 1 fun t26=>Si t26 J7 none) (fun k=>k .undef J7 none) fun PY Mo b_17=>lF t24 true (fun S9=>aj Mo PY fun t27=>S9 t27 Mo none) (fun k=>k .undef Mo none) fun Qk Kb b_21=>aa t24 true (fun TV=>cg [Qk] Kb fun t28 Mg=>TV t28 Mg) (fun k=>k .undef Kb) fun PN P6=>bF P6 t7 2 fun O9=>(O9=t18∧ay t24 PN (Bo false) fun t29=>aG P6 (.ptr M.next 0) t18 2 fun Aj=>bF Aj (.ptr M.next 0) 2 fun res=>Q (.tup [res,t29]) Aj))):=by
  intro a b ok ha hb e1 e2
  have htb:=DD b
  refine ht (k0.base.trans hB) (by omega) fun M1 k1=>?_
  have n1:=k1.aP n0 l0 (by simp)
  have l1:M.next<M1.next:=Nat.lt_of_lt_of_le l0 k1.next
  rw[jm]
  refine⟨[St a,St (trimB b)],Bu rfl rfl rfl rfl, ?_⟩
  simp only[aT]
  have n2:(M1.push (.row [St [],St []] false T 0)).heap M1.next=some (.row [St [],St []] false T 0):=by simp[RM.push]
  rw[jH n2 (by rfl) (by rfl) (by rfl)]
  have k3:ae [] M1 ((M1.push (.row [St [],St []] false T 0)).put M1.next (.row [St a,St (trimB b)] false T 0)):=((ae.refl _ _).push _).new _ (Nat.le_refl _)
  have n3:((M1.push (.row [St [],St []] false T 0)).put M1.next (.row [St a,St (trimB b)] false T 0)).heap M1.next=some (.row [St a,St (trimB b)] false T 0):=aN _
  have l3:M1.next<((M1.push (.row [St [],St []] false T 0)).put M1.next (.row [St a,St (trimB b)] false T 0)).next:=by simp[RM.push,RM.put]
  generalize (M1.push (.row [St [],St []] false T 0)).put M1.next (.row [St a,St (trimB b)] false T 0)=M3 at *
  rw[bW n3 (by rfl)]
  have kM:ae [] M M3:=k0.trans (k1.trans k3)
  have fin:∀ (M5:RM) (r:Bool),ae [] M3 M5→((eD s=some (a,trimB b)∧r=true)∨(eD s=none∧r=false)) →
    aG M5 (.ptr M.next 0) (.agg [St a,St (trimB b)]) 2 fun Aj=>bF Aj (.ptr M.next 0) 2 fun res=>Q (.tup [res,Bo r]) Aj:=by
   intro M5 r k5 hr
   have n5:=k5.aP (k3.aP n1 l1 (by simp)) (Nat.lt_of_lt_of_le l1 k3.next) (by simp)
   rw[jH n5 (by rfl) (by rfl) (by rfl)]
   rw[bW (aN _) (by rfl)]
   have kk:ae [] M (M5.put M.next (.row [St a,St (trimB b)] false T 0)):=(kM.trans k5).new _ (Nat.le_refl _)
   rcases hr with⟨h1,rfl⟩ | ⟨h1,rfl⟩
   ·exact hQ _ _ h1 kk
   ·exact hQ2 _ _ _ h1 kk
  cases ok with
  | false =>
    have e:eD s=none:=by unfold eD; rw[e2 rfl]
    have hf:=fin M3 false (ae.refl _ _) (.inr ⟨e,rfl⟩)
    simp only[wL,fU]
    rw[bW n3 (by rfl)]
    refine⟨rfl, ?_⟩
    simp only[dK,wL,fU]
    rw[bW n3 (by rfl)]
    refine⟨rfl, ?_⟩
    try simp only[dK]
    exact hf
  | true =>
    simp only[Dz,jd]
    rw[aO n3 (by rfl:([St a,St (trimB b)] : List AV)[0]?=some (St a))]
    simp only[bR]
    refine hn (by omega) fun M4 k4=>?_
    try dsimp only
    have n4:=k4.aP n3 l3 (by simp)
    have l4:M1.next<M4.next:=Nat.lt_of_lt_of_le l3 k4.next
    rw[bW n4 (by rfl)]
    refine⟨rfl, ?_⟩
    simp only[cZ]
    cases hgn:cB a with
    | false =>
      have e:eD s=none:=by unfold eD; rw[e1 rfl]; simp[hgn]
      simp only[wL,fU]
      rw[bW n4 (by rfl)]
      refine⟨rfl, ?_⟩
      simp only[dK]
      exact fin M4 false k4 (.inr ⟨e,rfl⟩)
    | true =>
      simp only[Dz]
      rw[aO n4 (by rfl:([St a,St (trimB b)] : List AV)[1]?=some (St (trimB b)))]
      simp only[bR]
      refine hg ((k0.trans (k1.trans (k3.trans k4))).base.trans hB) (by omega) fun M5 k5=>?_
      try dsimp only
      have n5:=k5.aP n4 l4 (by simp)
      rw[bW n5 (by rfl)]
      refine⟨rfl, ?_⟩
      simp only[cZ]
      refine fin M5 _ (k4.trans k5) ?_
      unfold eD
      rw[e1 rfl]
      simp only[hgn,Bool.true_and]
      cases bS (trimB b) <;> simp
 unfold pz
 cases hb:brk 58 s with
 | none =>
   simp only[bn,bq,eO]
   exact main s [] false (Nat.le_refl _) (by simp) (fun h=>by cases h) (fun _=>hb)
 | some p =>
   obtain⟨a,b⟩:=p
   have:=Im hb
   simp only[bn,bq,eO]
   exact main a b true (by omega) (by omega) (fun _=>hb) (fun h=>by cases h)
end Go.Ab.Hw
