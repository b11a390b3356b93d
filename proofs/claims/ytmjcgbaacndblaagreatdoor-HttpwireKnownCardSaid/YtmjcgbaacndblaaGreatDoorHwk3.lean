/- Part 3 of the ground of the proofs of this seat (texts R9 to H4). By an AI agent. -/
import Derived.Test.YtmjcgbaacndblaaGreatDoorHwk2
import Derived.Scope
import Derived.ChangeShapes
import Derived.OpenShut
import Derived.WideKeyArgs
import GoSem.ClaimJoined
import Derived.Lib.Bytealg
import Derived.Lib.DecodeN
import Derived.Lib.ValidU
import Derived.Lib.ValidLaws
import Derived.Carry
import Derived.JoinedCond
import Derived.SizedLaws
import GoSem.Extern.Atomic
import GoSem.Extern.MapsClone
import Derived.Lib.SlTrimSet
import Derived.Lib.IndexMore
set_option linter.unusedVariables false
set_option linter.unusedSimpArgs false
namespace Go.Ab
open Go Go.RowKit
def EQ:Option Tmp→Nat
 | some d=>2 ^ d
 | none=>0
def I5:Operand→Nat
 | .tmp t=>2 ^ t
 | _=>0
def J8:List Operand→Nat
 | []=>0
 | x :: xs=>I5 x ||| J8 xs
def KT (L m:Nat) : Nat:=L ^^^ (L &&& m)
def zR:List Oper→Nat
 | []=>0
 | o :: os=>EQ o.dst ||| zR os
def dP:Nat→Code→Nat
 | 0,_=>0
 | f + 1,c=>match c with
   | .region _ ops _=>zR ops.toList
   | .seq a b=>dP f a ||| dP f b
   | .cond _ a b=>dP f a ||| dP f b
   | .block _ c=>dP f c
   | .loop c=>dP f c
   | .scope c=>dP f c
   | _=>0
def FX:List Oper→Nat→Nat
 | [],L=>L
 | o :: os,L=>KT (FX os L) (EQ o.dst) ||| J8 o.op.operands.toList
def Jt:List (Nat × Nat)→Nat→Nat
 | [],_=>0
 | (i,L) :: r,id=>match Nat.beq i id with
   | true=>L
   | false=>Jt r id
def dZ (ret:Nat) : Nat→List (Nat × Nat)→Code→Nat→Nat
 | 0,_,_,_=>0
 | f + 1,env,c,L=>match c with
   | .skip=>L
   | .region _ ops _=>FX ops.toList L
   | .seq a b=>dZ ret f env a (dZ ret f env b L)
   | .cond c a b=>I5 c ||| dZ ret f env a L ||| dZ ret f env b L
   | .block id c=>dZ ret f ((id,L) :: env) c L
   | .loop c=>dZ ret f env c (dZ ret f env c 0)
   | .exit id=>Jt env id
   | .ret=>ret
   | .scope c=>dZ ret f env c L
   | .label _=>L
   | _=>0
def cap2 (n:Nat) : Nat:=match n with | 0=>0 | 1=>1 | _=>2
def mY (id:Nat) : Nat→Code→Nat
 | 0,_=>2
 | f + 1,c=>match c with
   | .seq a b=>cap2 (mY id f a + mY id f b)
   | .cond _ a b=>cap2 (mY id f a + mY id f b)
   | .block _ c=>mY id f c
   | .loop c=>mY id f c
   | .exit i=>match Nat.beq i id with | true=>1 | false=>0
   | _=>0
def qo:Nat→Code→Nat
 | 0,_=>2
 | f + 1,c=>match c with
   | .skip=>1
   | .region _ _ _=>1
   | .seq a b=>cap2 (qo f a * qo f b)
   | .cond _ a b=>cap2 (qo f a + qo f b)
   | .block id c=>cap2 (qo f c + mY id f c)
   | .scope c=>qo f c
   | .label _=>1
   | _=>0
def sS (m:Nat) : Nat→Nat→List Nat
 | _,0=>[]
 | i,n + 1=>match Nat.testBit m i with
   | true=>i :: sS m (i + 1) n
   | false=>sS m (i + 1) n
def bitsOf (m nt:Nat) : List Nat:=sS m 0 nt
def ru (T:Tree AV) : List Nat→List AV
 | []=>[]
 | t :: ts=>(T.get t).getD .top :: ru T ts
def au:List AV→Nat→AV
 | [],_=>.top
 | x :: _,0=>x
 | _ :: xs,n + 1=>au xs n
def uJ (T:Tree AV) : List Nat→Tree AV
 | []=>T
 | t :: ts=>uJ (T.set t .top) ts
def ER (T:Tree AV) (xs:List AV) : Nat→List Nat→Tree AV
 | _,[]=>T
 | i,t :: ts=>ER (T.set t (au xs i)) xs (i + 1) ts
def uq (T:Tree AV) (asg vs:List Nat) (xs:List AV) : Tree AV:=ER (uJ T asg) xs 0 vs
def ak (x:AV) (p q:Prop) : Prop :=
 match x with
 | .sc (.bool b)=>(b=true→p)∧(b=false→q)
 | _=>False
def dF (f:(List AV→RM→Prop)→Prop) (g:List AV→RM→Prop) : Prop:=f g
def fI (body:(List AV→RM→Prop)→List AV→RM→Prop) (xs:List AV) (M:RM) : Prop :=
 ∃ (I:Nat→List AV→RM→Prop) (n:Nat),I n xs M∧∀ m ys M',I m ys M'→body (fun zs M''=>∃ m',m'<m∧I m' zs M'') ys M'
abbrev K3:=Ex→Tree AV→RM→Prop
def wpC (P:Program) (nt ret:Nat) : Nat→Code→List (Nat × Nat)→Nat→Tree AV→RM→K3→Prop
 | 0,_,_,_,_,_,_=>False
 | f + 1,c,env,L,T,M,K=>match c with
   | .skip=>K .normal T M
   | .region _ ops false=>BZ P nt ops ops.toList T M (fun T' M'=>K .normal T' M')
   | .region _ ops true=>HV P nt ops T M (fun T' M'=>K .normal T' M')
   | .seq a b=>match Nat.ble (qo f a) 1 with
     | true=>wpC P nt ret f a env (dZ ret f env b L) T M (fun e T' M'=>match e with
       | .normal=>wpC P nt ret f b env L T' M' K
       | e=>K e T' M')
     | false=>dF (fun J=>wpC P nt ret f a env (dZ ret f env b L) T M (fun e T' M'=>match e with
       | .normal=>J (ru T' (bitsOf (dP f a &&& dZ ret f env b L) nt)) M'
       | e=>K e T' M'))
       (fun xs M'=>wpC P nt ret f b env L (uq T (bitsOf (dP f a) nt) (bitsOf (dP f a &&& dZ ret f env b L) nt) xs) M' K)
   | .cond c a b=>ak (oP T c) (wpC P nt ret f a env L T M K) (wpC P nt ret f b env L T M K)
   | .block id c=>wpC P nt ret f c ((id,L) :: env) L T M (fun e T' M'=>match e with
     | .exit i=>match Nat.beq i id with
       | true=>K .normal T' M'
       | false=>K (.exit i) T' M'
     | e=>K e T' M')
   | .loop c=>fI (fun next xs M'=>wpC P nt ret f c env (dZ ret f env c (dZ ret f env c 0)) (uq T (bitsOf (dP f c) nt) (bitsOf (dP f c &&& dZ ret f env c (dZ ret f env c 0)) nt) xs) M'
     (fun e T' M'=>match e with
      | .normal=>next (ru T' (bitsOf (dP f c &&& dZ ret f env c (dZ ret f env c 0)) nt)) M'
      | e=>K e T' M'))
     (ru T (bitsOf (dP f c &&& dZ ret f env c (dZ ret f env c 0)) nt)) M
   | .exit id=>K (.exit id) T M
   | .ret=>K .ret T M
   | .scope c=>wpC P nt ret f c env L T M K
   | .label _=>K .normal T M
   | _=>False
def Ll (P:Program) (T:Tree AV) (M:RM) (r:ResultVar) (K:AV→Prop) : Prop :=
 match r with
 | .tmp t=>K ((T.get t).getD .top)
 | .cell a t=>match bI P t with
   | some false=>ax M ((T.get a).getD .top) K
   | some true=>match aJ P t with
     | some n=>bF M ((T.get a).getD .top) n K
     | none=>False
   | none=>False
def KM (P:Program) (T:Tree AV) (M:RM) : List ResultVar→(List AV→Prop)→Prop
 | [],K=>K []
 | r :: rs,K=>Ll P T M r (fun v=>KM P T M rs (fun vs=>K (v :: vs)))
def NN (Q:ah) (M:RM) : List AV→Prop
 | [v]=>Q v M
 | vs=>Q (.tup vs) M
def Bq:List ResultVar→Nat
 | []=>0
 | .tmp t :: rs=>2 ^ t ||| Bq rs
 | .cell a _ :: rs=>2 ^ a ||| Bq rs
def Ka (P:Program) (fn:Func) (c:Code) (args:List AV) (M:RM) (Q:ah) : Prop :=
 wpC P (args.length + (fn.ntmps - args.length)) (Bq fn.results.toList) 1000 c [] 0 (Tree.ofList args 0 .leaf) M
  (fun e T M'=>match e with
   | .exit _=>False
   | _=>KM P T M' fn.results.toList (NN Q M'))
section
variable {P:Program} {nt ret:Nat}
def Hr (P:Program) (nt:Nat) (M0:RM) (ρ0:Ren) (w0:World) (T:Tree AV) (asg:Nat) (K:K3) (e:Exit) (a:Act) (w:World) : Prop :=
 ∃ x T' M' ρ',e=Kr x∧After P M0 ρ0 w0 M' ρ' w∧eZ ρ' nt T' a∧(∀ t,Nat.testBit asg t=false→T'.get t=T.get t)∧K x T' M'
theorem ET {T:Tree AV} : ∀ (vs:List Nat) (i:Nat),au (ru T vs) i=match vs[i]? with | some t=>(T.get t).getD .top | none=>.top
 | [],i=>by simp[ru,au]
 | t :: vs,0=>by simp[ru,au]
 | t :: vs,i + 1=>by simp[ru,au,ET vs i]
theorem vO:∀ (asg:List Nat) (T:Tree AV) (t:Nat),(uJ T asg).get t=if t∈asg then some .top else T.get t
 | [],T,t=>by simp[uJ]
 | d :: asg,T,t=>by
   simp only[uJ,vO asg,Tree.aQ,List.mem_cons]
   by_cases h1:t∈asg
   ·simp[h1]
   ·by_cases h2:t=d <;> simp[h1,h2]
theorem zB:∀ (vs:List Nat) (T:Tree AV) (xs:List AV) (i t:Nat),(t ∉ vs∧(ER T xs i vs).get t=T.get t)∨∃ j,vs[j]?=some t∧(ER T xs i vs).get t=some (au xs (i + j))
 | [],T,xs,i,t=>.inl ⟨by simp,rfl⟩
 | d :: vs,T,xs,i,t=>by
   simp only[ER]
   rcases zB vs (T.set d (au xs i)) xs (i + 1) t with⟨h1,h2⟩ | ⟨j,h1,h2⟩
   ·rw[Tree.aQ] at h2
    by_cases e:t=d
    ·rw[if_pos e] at h2
     exact .inr ⟨0,by simp[e],h2⟩
    ·rw[if_neg e] at h2
     exact .inl ⟨by simp[e,h1],h2⟩
   ·exact .inr ⟨j + 1,by simpa using h1,by rw[h2]; congr 2; omega⟩
theorem uo {m:Nat} : ∀ (n i t:Nat),t∈sS m i n↔i≤t∧t<i + n∧Nat.testBit m t=true
 | 0,i,t=>by simp[sS]; omega
 | n + 1,i,t=>by
   simp only[sS]
   split
   ·rename_i h
    rw[List.mem_cons,uo n (i + 1) t]
    constructor
    ·rintro(rfl | ⟨a,b,c⟩)
     ·exact⟨Nat.le_refl _,by omega,h⟩
     ·exact⟨by omega,by omega,c⟩
    ·rintro⟨a,b,c⟩
     by_cases e:t=i
     ·exact .inl e
     ·exact .inr ⟨by omega,by omega,c⟩
   ·rename_i h
    rw[uo n (i + 1) t]
    constructor
    ·rintro⟨a,b,c⟩; exact⟨by omega,by omega,c⟩
    ·rintro⟨a,b,c⟩
     have:t≠i:=fun e=>by subst e; rw[h] at c; cases c
     exact⟨by omega,by omega,c⟩
theorem oq {m n t:Nat} : t∈bitsOf m n↔t<n∧Nat.testBit m t=true:=by
 unfold bitsOf; rw[uo]; simp
theorem wK {ρ:Ren} {T T' : Tree AV} {a:Act} {asg:Nat} {vs:List Nat} (h:eZ ρ nt T' a) (hge:∀ t,nt≤t→ag ρ ((T.get t).getD .top) undef) (hk:∀ t,Nat.testBit asg t=false→T'.get t=T.get t) : eZ ρ nt (uq T (bitsOf asg nt) vs (ru T' vs)) a:=by
 refine⟨h.size,fun t=>?_,h.defers⟩
 unfold uq
 rcases zB vs (uJ T (bitsOf asg nt)) (ru T' vs) 0 t with⟨_,h2⟩ | ⟨j,h1,h2⟩
 ·rw[h2,vO]
  split
  ·exact .top _
  ·rename_i hm
   by_cases hb:Nat.testBit asg t=true
   ·have hge' : nt≤t:=by
     rcases Nat.lt_or_ge t nt with hlt | hge
     ·exact absurd (oq.2 ⟨hlt,hb⟩) hm
     ·exact hge
    have hv:a.tmps.getD t undef=undef:=by
     rw[Array.getD_eq_getD_getElem?,Array.getElem?_eq_none (by rw[h.size]; exact hge')]; rfl
    rw[hv]; exact hge t hge'
   ·rw[← hk t (by simpa using hb)]
    exact h.val t
 ·rw[h2,Nat.zero_add,ET,h1]
  exact h.val t
theorem Ac {T:Tree AV} {asg:Nat} {vs:List Nat} {xs:List AV} (hvs:∀ t∈vs,Nat.testBit asg t=true) (t:Nat) (h:Nat.testBit asg t=false) : (uq T (bitsOf asg nt) vs xs).get t=T.get t:=by
 unfold uq
 rcases zB vs (uJ T (bitsOf asg nt)) xs 0 t with⟨_,h2⟩ | ⟨j,h1,h2⟩
 ·rw[h2,vO,if_neg]
  intro hm
  rw[(oq.1 hm).2] at h; cases h
 ·have:=hvs t (List.mem_of_getElem? h1)
  rw[h] at this; cases this
theorem eZ.ge {ρ:Ren} {T:Tree AV} {a:Act} (h:eZ ρ nt T a) : ∀ t,nt≤t→ag ρ ((T.get t).getD .top) undef:=by
 intro t ht
 have:=h.val t
 rw[Array.getD_eq_getD_getElem?,Array.getElem?_eq_none (by rw[h.size]; exact ht)] at this
 exact this
theorem xU {c:Code} {Q:Exit→Act→World→Prop} : ∀ {n m:Nat} {a:Act} {w:World},n≤m→Code.rounds P c Q n a w→Code.rounds P c Q m a w
 | 0,_,_,_,_,h=>h.elim
 | n + 1,m + 1,a,w,hle,h=>by
   rw[rounds_succ] at h ⊢
   refine wp_mono h fun e a' w' hp=>?_
   cases e with
   | normal=>exact xU (Nat.le_of_succ_le_succ hle) hp
   | exit id=>exact hp
   | ret=>exact hp
   | goto l=>exact hp
   | panic c=>exact hp
   | outgrown=>exact hp
theorem uB {t:Nat} : ∀ (l:List Oper),Nat.testBit (zR l) t=false→∀ o∈l,o.dst≠some t
 | [],_,o,ho=>by cases ho
 | x :: l,h,o,ho=>by
   simp only[zR,Nat.testBit_or,Bool.or_eq_false_iff] at h
   rcases List.mem_cons.1 ho with rfl | ho
   ·intro e
    rw[e] at h
    simp[EQ,Nat.testBit_two_pow] at h
   ·exact uB l h.2 o ho
theorem Jr {ρ:Ren} {x:AV} {u:Value} {p q:Prop} (h:ak x p q) (hx:ag ρ x u) : ∃ b,u=.bool b∧(b=true→p)∧(b=false→q):=by
 unfold ak at h
 split at h <;> first | (cases h; done) | skip
 rename_i b
 exact⟨b,(aB hx).1,h.1,h.2⟩
theorem Ju (hP:vP P) : ∀ (f:Nat) (c:Code) (env:List (Nat × Nat)) (L:Nat) (T:Tree AV) (M:RM) (K:K3),wpC P nt ret f c env L T M K →
  ∀ (M0:RM) (ρ0:Ren) (w0:World) (ρ:Ren) (a:Act) (w:World),After P M0 ρ0 w0 M ρ w→eZ ρ nt T a→c.wp P (Hr P nt M0 ρ0 w0 T (dP f c) K) a w:=by
 intro f
 induction f with
 | zero=>intro c env L T M K h; exact h.elim
 | succ f ih =>
   intro c env L T M K h M0 ρ0 w0 ρ a w hM hA
   cases c with
   | skip=>exact wp_skip ⟨.normal,T,M,ρ,rfl,hM,hA,fun _ _=>rfl,h⟩
   | region id ops d =>
     cases d with
     | false =>
       refine wp_region ?_
       have:=tQ (nt:=nt) hP (ops:=ops) (Q:=Hr P nt M0 ρ0 w0 T (dP (f + 1) (.region id ops false)) K) (K:=fun T' M'=>K .normal T' M') (M0:=M0) (ρ0:=ρ0) (w0:=w0) (T0:=T)
        (fun T' M' ρ' a' w' k1 k2 k3 k4=>⟨.normal,T',M',ρ',rfl,k1,k2,fun t ht=>k4 t (uB _ ht),k3⟩) ops.toList 0 (by simp) hA hM (fun _ _=>rfl) h
       rw[Array.length_toList,← List.range_eq_range'] at this
       exact this
     | true =>
       exact Fh (nt:=nt) (T:=T) hP hM hA (fun T' M' ρ' a' w' k1 k2 k3 k4=>⟨.normal,T',M',ρ',rfl,k1,k2,fun t ht=>k4 t (uB _ ht),k3⟩) h
   | seq c1 c2 =>
     simp only[wpC] at h
     refine wp_seq ?_
     split at h
     ·refine wp_mono (ih c1 _ _ _ _ _ h M0 ρ0 w0 ρ a w hM hA) fun e a' w' hp=>?_
      obtain⟨x,T1,M1,ρ1,rfl,k1,k2,k3,k4⟩:=hp
      cases x with
      | normal =>
        refine wp_mono (ih c2 _ _ _ _ _ k4 M0 ρ0 w0 ρ1 a' w' k1 k2) fun e a2 w2 hp=>?_
        obtain⟨x,T2,M2,ρ2,he,q1,q2,q3,q4⟩:=hp
        exact⟨x,T2,M2,ρ2,he,q1,q2,fun t ht=>by
         simp only[dP,Nat.testBit_or,Bool.or_eq_false_iff] at ht
         rw[q3 t ht.2,k3 t ht.1],q4⟩
      | exit i=>exact⟨.exit i,T1,M1,ρ1,rfl,k1,k2,fun t ht=>by
        simp only[dP,Nat.testBit_or,Bool.or_eq_false_iff] at ht
        exact k3 t ht.1,k4⟩
      | ret=>exact⟨.ret,T1,M1,ρ1,rfl,k1,k2,fun t ht=>by
        simp only[dP,Nat.testBit_or,Bool.or_eq_false_iff] at ht
        exact k3 t ht.1,k4⟩
     ·unfold dF at h
      refine wp_mono (ih c1 _ _ _ _ _ h M0 ρ0 w0 ρ a w hM hA) fun e a' w' hp=>?_
      obtain⟨x,T1,M1,ρ1,rfl,k1,k2,k3,k4⟩:=hp
      have hge:∀ t,nt≤t→ag ρ1 ((T.get t).getD .top) undef:=fun t ht=>by
       have h1:=k2.ge t ht
       by_cases hb:Nat.testBit (dP f c1) t=false
       ·rw[k3 t hb] at h1; exact h1
       ·have h0:=hA.ge t ht
        have hu:∀ (ρ ρ' : Ren) (x:AV),ag ρ x undef→ag ρ' x undef:=by
         intro ρ ρ' x hx
         unfold undef at hx ⊢
         cases hx with
         | top=>exact .top _
         | sc v p=>exact .sc _ p
         | tup xs vs a=>cases a; exact .tup _ _ .nil
        exact hu _ _ _ h0
      cases x with
      | normal =>
        refine wp_mono (ih c2 _ _ _ _ _ k4 M0 ρ0 w0 ρ1 a' w' k1 (wK k2 hge k3)) fun e a2 w2 hp=>?_
        obtain⟨x,T2,M2,ρ2,he,q1,q2,q3,q4⟩:=hp
        refine⟨x,T2,M2,ρ2,he,q1,q2,fun t ht=>?_,q4⟩
        simp only[dP,Nat.testBit_or,Bool.or_eq_false_iff] at ht
        rw[q3 t ht.2]
        refine Ac (fun t' ht'=>?_) t ht.1
        have:=(oq.1 ht').2
        rw[Nat.testBit_and,Bool.and_eq_true] at this
        exact this.1
      | exit i=>exact⟨.exit i,T1,M1,ρ1,rfl,k1,k2,fun t ht=>by
        simp only[dP,Nat.testBit_or,Bool.or_eq_false_iff] at ht
        exact k3 t ht.1,k4⟩
      | ret=>exact⟨.ret,T1,M1,ρ1,rfl,k1,k2,fun t ht=>by
        simp only[dP,Nat.testBit_or,Bool.or_eq_false_iff] at ht
        exact k3 t ht.1,k4⟩
   | cond cnd c1 c2 =>
     simp only[wpC] at h
     obtain⟨b,hb,h1,h2⟩:=Jr h (Cr hA cnd)
     cases b with
     | true =>
       refine wp_cond_true hb (wp_mono (ih c1 _ _ _ _ _ (h1 rfl) M0 ρ0 w0 ρ a w hM hA) fun e a' w' hp=>?_)
       obtain⟨x,T1,M1,ρ1,he,k1,k2,k3,k4⟩:=hp
       exact⟨x,T1,M1,ρ1,he,k1,k2,fun t ht=>by
         simp only[dP,Nat.testBit_or,Bool.or_eq_false_iff] at ht
         exact k3 t ht.1,k4⟩
     | false =>
       refine wp_cond_false hb (wp_mono (ih c2 _ _ _ _ _ (h2 rfl) M0 ρ0 w0 ρ a w hM hA) fun e a' w' hp=>?_)
       obtain⟨x,T1,M1,ρ1,he,k1,k2,k3,k4⟩:=hp
       exact⟨x,T1,M1,ρ1,he,k1,k2,fun t ht=>by
         simp only[dP,Nat.testBit_or,Bool.or_eq_false_iff] at ht
         exact k3 t ht.2,k4⟩
   | block id c1 =>
     simp only[wpC] at h
     refine wp_block (wp_mono (ih c1 _ _ _ _ _ h M0 ρ0 w0 ρ a w hM hA) fun e a' w' hp=>?_)
     obtain⟨x,T1,M1,ρ1,rfl,k1,k2,k3,k4⟩:=hp
     cases x with
     | normal=>exact⟨.normal,T1,M1,ρ1,rfl,k1,k2,k3,k4⟩
     | ret=>exact⟨.ret,T1,M1,ρ1,rfl,k1,k2,k3,k4⟩
     | exit i =>
       simp only at k4
       split at k4
       ·rename_i he
        have he:=bH he
        subst he
        simp only[Kr,Exit.inBlock,if_true]
        exact⟨.normal,T1,M1,ρ1,rfl,k1,k2,k3,k4⟩
       ·rename_i he
        have he:=Ba he
        simp only[Kr,Exit.inBlock,if_neg he]
        exact⟨.exit i,T1,M1,ρ1,rfl,k1,k2,k3,k4⟩
   | loop c1 =>
     simp only[wpC] at h
     obtain⟨I,n,hI,hbody⟩:=h
     have hvs:∀ t∈bitsOf (dP f c1 &&& dZ ret f env c1 (dZ ret f env c1 0)) nt,Nat.testBit (dP f c1) t=true:=fun t' ht'=>by
      have:=(oq.1 ht').2
      rw[Nat.testBit_and,Bool.and_eq_true] at this
      exact this.1
     generalize hv:bitsOf (dP f c1 &&& dZ ret f env c1 (dZ ret f env c1 0)) nt=vs at hI hbody hvs
     have hu:∀ (ρ ρ' : Ren) (x:AV),ag ρ x undef→ag ρ' x undef:=by
      intro ρ ρ' x hx
      unfold undef at hx ⊢
      cases hx with
      | top=>exact .top _
      | sc v p=>exact .sc _ p
      | tup xs vs a=>cases a; exact .tup _ _ .nil
     have hge:∀ (ρ1:Ren) t,nt≤t→ag ρ1 ((T.get t).getD .top) undef:=fun ρ1 t ht=>hu _ _ _ (hA.ge t ht)
     have key:∀ (m:Nat) (ys:List AV) (M1:RM) (ρ1:Ren) (a1:Act) (w1:World),I m ys M1→After P M0 ρ0 w0 M1 ρ1 w1→eZ ρ1 nt (uq T (bitsOf (dP f c1) nt) vs ys) a1 →
       Code.rounds P c1 (Hr P nt M0 ρ0 w0 T (dP (f + 1) (.loop c1)) K) (m + 1) a1 w1:=by
      intro m
      induction m using Nat.strongRecOn with
      | _ m ihm =>
        intro ys M1 ρ1 a1 w1 hIm hM1 hA1
        rw[rounds_succ]
        refine wp_mono (ih c1 _ _ _ _ _ (hbody m ys M1 hIm) M0 ρ0 w0 ρ1 a1 w1 hM1 hA1) fun e a' w' hp=>?_
        obtain⟨x,T2,M2,ρ2,rfl,k1,k2,k3,k4⟩:=hp
        have k3' : ∀ t,Nat.testBit (dP f c1) t=false→T2.get t=T.get t:=fun t ht=>by rw[k3 t ht]; exact Ac hvs t ht
        cases x with
        | normal =>
          obtain⟨m',hlt,hI'⟩:=k4
          exact xU (by omega) (ihm m' hlt _ M2 ρ2 a' w' hI' k1 (wK k2 (hge ρ2) k3'))
        | exit i=>exact⟨.exit i,T2,M2,ρ2,rfl,k1,k2,k3',k4⟩
        | ret=>exact⟨.ret,T2,M2,ρ2,rfl,k1,k2,k3',k4⟩
     exact wp_loop_rounds _ (key n _ M ρ a w hI hM (wK hA (hge ρ) fun _ _=>rfl))
   | exit id=>exact wp_exit ⟨.exit id,T,M,ρ,rfl,hM,hA,fun _ _=>rfl,h⟩
   | ret=>exact wp_ret ⟨.ret,T,M,ρ,rfl,hM,hA,fun _ _=>rfl,h⟩
   | rangeFunc=>simp[wpC] at h
   | scope c1 =>
     simp only[wpC] at h
     refine wp_scope_straight (wp_mono (ih c1 _ _ _ _ _ h M0 ρ0 w0 ρ a w hM hA) fun e a' w' hp=>?_)
     obtain⟨x,T1,M1,ρ1,rfl,k1,k2,k3,k4⟩:=hp
     cases x with
     | normal=>exact⟨.normal,T1,M1,ρ1,rfl,k1,k2,k3,k4⟩
     | exit i=>exact⟨.exit i,T1,M1,ρ1,rfl,k1,k2,k3,k4⟩
     | ret=>exact⟨.ret,T1,M1,ρ1,rfl,k1,k2,k3,k4⟩
   | label l=>exact wp_label ⟨.normal,T,M,ρ,rfl,hM,hA,fun _ _=>rfl,h⟩
   | goto=>simp[wpC] at h
   | refuse=>simp[wpC] at h
theorem IB {ρ:Ren} {T:Tree AV} {M:RM} {a:Act} {w:World} (hA:eZ ρ nt T a) (hw:bi P ρ M w) {r:ResultVar} {K:AV→Prop} (h:Ll P T M r K) :
  ∃ v v',(wX a.tmps r).run P w=.ok v' w∧ag ρ v v'∧K v:=by
 cases r with
 | tmp t=>exact⟨_,_,rfl,hA.val t,h⟩
 | cell x t =>
   simp only[Ll] at h
   have hv:=hA.val x
   split at h <;> first | (cases h; done) | skip
   ·rename_i ha
    obtain⟨b,p,v,hx,hl,hk⟩:=h
    rw[hx] at hv
    obtain⟨i,hb,hc⟩:=bM hv
    obtain⟨u,hu,hcell⟩:=vF hw hb hl
    refine⟨v,u, ?_,hu,hk⟩
    simp only[wX,hc,asAddr,Sem.run_bind,Sem.run_pure,Result.andThen_ok,loadVar,fw ha,Bool.false_eq_true,if_false,load,Sem.run,hcell]
   ·rename_i ha
    split at h <;> first | (cases h; done) | skip
    rename_i n hs
    obtain⟨b,p,xs,hx,hl,hk⟩:=h
    rw[hx] at hv
    obtain⟨i,hb,hc⟩:=bM hv
    obtain⟨vs,hr,hlen,_,hrun⟩:=RM.iX (P:=P) hw hb hl
    exact⟨.agg xs,.agg ⟨vs⟩,by simp only[wX,hc,asAddr,Sem.run_bind,Sem.run_pure,Result.andThen_ok,loadVar,fw ha,if_true,bn hs,hrun],.agg _ _ hr,hk⟩
theorem uF {ρ:Ren} {T:Tree AV} {M:RM} {a:Act} {w:World} (hA:eZ ρ nt T a) (hw:bi P ρ M w) : ∀ (rs:List ResultVar) (K:List AV→Prop),KM P T M rs K →
  ∃ vs us,(rs.mapM (wX a.tmps)).run P w=.ok us w∧aD ρ vs us∧K vs
 | [],K,h=>⟨[],[],by simp,.nil,h⟩
 | r :: rs,K,h=>by
   obtain⟨v,v',h1,h2,h3⟩:=IB hA hw h
   obtain⟨vs,us,h4,h5,h6⟩:=uF hA hw rs _ h3
   refine⟨v :: vs,v' :: us, ?_,.cons _ _ _ _ h2 h5,h6⟩
   simp only[List.mapM_cons,Sem.run_bind,h1,Result.andThen_ok,h4,Sem.run_pure]
theorem Bw (hP:vP P) {f:FuncId} {fn:Func} {c:Code} {args:List AV} {M:RM} {Q:ah} (hfn:P.funcs[f]?=some fn) (hbody:fn.body=some c) (h:Ka P fn c args M Q) : dm P f args M Q:=by
 refine⟨⟨fn,c,hfn,hbody⟩,fun ρ w us hargs hw=>?_⟩
 have hlen:=hargs.length
 have hA:eZ ρ (args.length + (fn.ntmps - args.length)) (Tree.ofList args 0 .leaf) { tmps:=⟨us⟩++Array.replicate (fn.ntmps - (⟨us⟩ : Array Value).size) undef,defers:=[] } := by
  refine⟨by simp[hlen],fun t=>?_,rfl⟩
  rw[Tree.oG]
  by_cases ht:t<args.length
  ·rw[if_pos (by omega),Nat.sub_zero]
   obtain⟨u,hu,hv⟩:=hargs.get (n:=t) (x:=args[t]) (by simp[ht])
   rw[List.getElem?_eq_getElem ht]
   simp only[Option.getD_some]
   have:((⟨us⟩ : Array Value)++Array.replicate (fn.ntmps - (⟨us⟩ : Array Value).size) undef).getD t undef=u:=by
    rw[Array.getD_eq_getD_getElem?,Array.getElem?_append_left (by simp; omega)]
    simp[hu]
   rw[this]; exact hv
  ·rw[if_neg (by omega)]
   exact .top _
 refine calls_of_wp hfn hbody (wp_mono (Ju hP 1000 c [] 0 _ M _ h M ρ w ρ _ w (After.refl hw) hA) fun e a w' hp=>?_)
 obtain⟨x,T',M',ρ',rfl,k1,k2,k3,k4⟩:=hp
 have key:(∃ vs us,(fn.results.toList.mapM (wX a.tmps)).run P w'=.ok us w'∧aD ρ' vs us∧NN Q M' vs) →
   a.defers=[]∧∃ v,(results fn a.tmps).run P w'=.ok v w'∧∃ v' v_1 Np Oe,Ending.returned v=.returned v'∧After P M ρ w Np Oe w'∧ag Oe v_1 v'∧Q v_1 Np:=by
  rintro⟨vs,us,h1,h2,h3⟩
  have hres:(results fn a.tmps).run P w'=.ok (if h:(⟨us⟩ : Array Value).size=1 then(⟨us⟩ : Array Value)[0] else .tuple ⟨us⟩) w':=by
   have e:results fn a.tmps=(fn.results.mapM (wX a.tmps) >>= fun vs=>pure (if h:vs.size=1 then vs[0] else .tuple vs)):=rfl
   rw[e,Array.mapM_eq_mapM_toList]
   simp only[Sem.run_bind,Sem.run_map,h1,Result.andThen_ok,Sem.run_pure]
  refine⟨k2.defers,_,hres, ?_⟩
  cases h2 with
  | nil=>exact⟨_,_,M',ρ',rfl,k1,.tup _ _ .nil,h3⟩
  | cons x v xs vs2 hv htl =>
    cases htl with
    | nil=>exact⟨_,x,M',ρ',rfl,k1,hv,h3⟩
    | cons y u ys us2 hu QJ=>exact⟨_,_,M',ρ',rfl,k1,.tup _ _ (.cons _ _ _ _ hv (.cons _ _ _ _ hu QJ)),h3⟩
 cases x with
 | normal=>exact key (uF k2 k1.rel _ _ k4)
 | ret=>exact key (uF k2 k1.rel _ _ k4)
 | exit id=>exact k4.elim
abbrev ai:=List AV→RM→ah→Prop
def BJ (P:Program) (fn:Func) (args:List AV) (M:RM) (Q:ah) : Prop :=
 match fn.body with
 | some c=>Ka P fn c args M Q
 | none=>False
theorem JP (hP:vP P) {f:FuncId} {fn:Func} {args:List AV} {M:RM} {Q:ah} (hfn:P.funcs[f]?=some fn) (h:BJ P fn args M Q) : dm P f args M Q:=by
 unfold BJ at h
 split at h
 ·rename_i c hc; exact Bw hP hfn hc h
 ·cases h
end
end Go.Ab
set_option maxRecDepth 100000
namespace Go.Ab.Hw
open Go Go.Ab
def lM (p1:ai) (p2:Nat) (p3:ai) (p4:Nat) (p5 p6 p7:ai) (p8:Nat) (M0:RM) (Q:ah) : Prop:=p1 [] M0 fun vk n=>fF vk fun vl=>ak vl ( Q (Bo false) n) ( bX p2 15 [(N .u8 0)] [(0,1,(N .u8 71)),(1,1,(N .u8 69)),(2,1,(N .u8 84)),(3,1,(N .u8 32)),(4,1,(N .u8 47)),(5,1,(N .u8 97)),(6,1,(N .u8 32)),(7,1,(N .u8 72)),(8,1,(N .u8 84)),(9,1,(N .u8 84)),(10,1,(N .u8 80)),(11,1,(N .u8 47)),(12,1,(N .u8 49)),(13,1,(N .u8 46)),(14,1,(N .u8 49))] fun vf V=>aV vf V n fun vm y=>kX vm y fun vn z=>p3 [vn] z fun e I=>aC e 0 fun vo=>aC e 1 fun wg=>aC e 2 fun vp=>aV (.row [(St []),(St []),(.sc (.slice none 0 0)),(.sc (.slice none 0 0))] false p4 0) (fun d=>.ptr d 0) I fun vi L=>aF L vi vo 4 fun P=>bX p2 16 [(N .u8 0)] [(0,1,(N .u8 103)),(1,1,(N .u8 101)),(2,1,(N .u8 116)),(3,1,(N .u8 32)),(4,1,(N .u8 47)),(5,1,(N .u8 32)),(6,1,(N .u8 72)),(7,1,(N .u8 84)),(8,1,(N .u8 84)),(9,1,(N .u8 80)),(10,1,(N .u8 47)),(11,1,(N .u8 49)),(12,1,(N .u8 46)),(13,1,(N .u8 49)),(14,1,(N .u8 13)),(15,1,(N .u8 10))] fun vh X=>aV vh X P fun vq R=>kX vq R fun vr S=>p3 [vr] S fun g U=>aC g 0 fun vs=>aC g 1 fun wh=>aC g 2 fun vt=>aV (.row [(St []),(St []),(.sc (.slice none 0 0)),(.sc (.slice none 0 0))] false p4 0) (fun d=>.ptr d 0) U fun vy A=>aF A vy vs 4 fun B=>eQ [(St []),(St []),(.sc (.slice none 0 0)),(.sc (.slice none 0 0))] [(0,1,(St [71,69,84])),(1,1,(St [97]))] fun vu=>p5 [vu] B fun w C=>aC w 0 fun wi=>aC w 1 fun vv=>eQ [(N .i64 0),(.sc (.slice none 0 0)),(.sc (.slice none 0 0))] [(0,1,(N .i64 99))] fun vw=>p6 [vw] C fun x D=>aC x 0 fun wj=>aC x 1 fun vx=>bX p2 40 [(N .u8 0)] [(0,1,(N .u8 72)),(1,1,(N .u8 84)),(2,1,(N .u8 84)),(3,1,(N .u8 80)),(4,1,(N .u8 47)),(5,1,(N .u8 49)),(6,1,(N .u8 46)),(7,1,(N .u8 49)),(8,1,(N .u8 32)),(9,1,(N .u8 50)),(10,1,(N .u8 48)),(11,1,(N .u8 48)),(12,1,(N .u8 32)),(13,1,(N .u8 13)),(14,1,(N .u8 10)),(15,1,(N .u8 67)),(16,1,(N .u8 111)),(17,1,(N .u8 110)),(18,1,(N .u8 116)),(19,1,(N .u8 101)),(20,1,(N .u8 110)),(21,1,(N .u8 116)),(22,1,(N .u8 45)),(23,1,(N .u8 76)),(24,1,(N .u8 101)),(25,1,(N .u8 110)),(26,1,(N .u8 103)),(27,1,(N .u8 116)),(28,1,(N .u8 104)),(29,1,(N .u8 58)),(30,1,(N .u8 32)),(31,1,(N .u8 49)),(32,1,(N .u8 54)),(33,1,(N .u8 51)),(34,1,(N .u8 56)),(35,1,(N .u8 53)),(36,1,(N .u8 13)),(37,1,(N .u8 10)),(38,1,(N .u8 13)),(39,1,(N .u8 10))] fun vg W=>aV vg W D fun vz E=>kX vz E fun v0 F=>p7 [v0] F fun h G=>aC h 0 fun v1=>aC h 1 fun wk=>aC h 2 fun v2=>aV (.row [(N .i64 0),(.sc (.slice none 0 0)),(.sc (.slice none 0 0))] false p8 0) (fun d=>.ptr d 0) G fun vj H=>aF H vj v1 3 fun o=>af .eql vp (N .i64 15) fun i=>aa i true (fun c=>c vt o) (fun c=>c .undef o) fun v3 p=>aa i true (fun Y=>af .eql v3 (N .i64 14) fun v4=>Y v4 p) (fun c=>c .undef p) fun v5 q=>ay i v5 (Bo false) fun j=>aa j true (fun Z=>Z vv q) (fun c=>c .undef q) fun v6 r=>aa j true (fun va=>af .eql v6 (N .i64 1) fun v7=>va v7 r) (fun c=>c .undef r) fun v8 s=>ay j v8 (Bo false) fun l=>aa l true (fun vb=>vb vx s) (fun c=>c .undef s) fun v9 t=>aa l true (fun vc=>af .eql v9 (N .i64 1) fun wa=>vc wa t) (fun c=>c .undef t) fun wb u=>ay l wb (Bo false) fun m=>aa m true (fun vd=>vd v2 u) (fun c=>c .undef u) fun wc v=>aa m true (fun ve=>af .eql wc (N .i64 2) fun wd=>ve wd v) (fun c=>c .undef v) fun we O=>ay m we (Bo false) fun wf=>Q wf O)
def uK (p1 p2:Nat) (p3:ai) (p4:Nat) (p5 p6 p7 p8:ai) (p9:Nat) (p10:ai) (p11:Nat) (p12:ai) (M0:RM) (Q:ah) : Prop:=eQ [(St []),(St [])] [(0,1,(St [88])),(1,1,(St [49]))] fun zu=>bX p1 1 [(St []),(St [])] [(0,2,zu)] fun x9 wy=>aV x9 wy M0 fun zv wb=>eQ [(St []),(St []),(.sc (.slice none 0 0)),(.sc (.slice none 0 0))] [(0,1,(St [71,69,84])),(1,1,(St [47,97])),(2,1,zv)] fun zw=>aV (.row [(St []),(St []),(.sc (.slice none 0 0)),(.sc (.slice none 0 0))] false p2 0) (fun d=>.ptr d 0) wb fun l wc=>aF wc l zw 4 fun G=>bF G l 4 fun zx=>p3 [zx] G fun v2 wl=>aC v2 0 fun A=>aC v2 1 fun zy=>bX p4 0 [(N .u8 0)] [] fun yd w2=>aV yd w2 wl fun zz wv=>appW p4 1 1 [(N .u8 0)] false zz A wv fun z0 ww=>bX p4 1 [(N .u8 0)] [(0,1,(N .u8 120))] fun ye w3=>aV ye w3 ww fun z1 wx=>appW p4 1 1 [(N .u8 0)] false z0 z1 wx fun z2 wd=>p5 [z2] wd fun B we=>aC B 0 fun z3=>aC B 1 fun z4=>aC B 2 fun z5=>aV (.row [(St []),(St []),(.sc (.slice none 0 0)),(.sc (.slice none 0 0))] false p2 0) (fun d=>.ptr d 0) we fun v3 wf=>aF wf v3 z3 4 fun Z=>bF Z v3 4 fun z6=>p6 [z6,(St [120])] Z fun v4 wg=>aC v4 0 fun z7=>aC v4 1 fun z8=>bX p4 2 [(N .u8 0)] [(0,1,(N .u8 110)),(1,1,(N .u8 111))] fun ya wz=>aV ya wz wg fun z9 wi=>kX z9 wi fun c0 wj=>eQ [(N .i64 0),(.sc (.slice none 0 0)),(.sc (.slice none 0 0))] [(0,1,(N .i64 404)),(2,1,c0)] fun c1=>p7 [c1] wj fun v5 wk=>aC v5 0 fun v6=>aC v5 1 fun c2=>p8 [v6] wk fun C wm=>aC C 0 fun c3=>aC C 1 fun c4=>aC C 2 fun c5=>aV (.row [(N .i64 0),(.sc (.slice none 0 0)),(.sc (.slice none 0 0))] false p9 0) (fun d=>.ptr d 0) wm fun m wn=>aF wn m c3 3 fun vc=>bF vc m 3 fun c6=>p10 [c6,(St [67,79,78,84,69,78,84,45,76,69,78,71,84,72])] vc fun v7 wo=>aC v7 0 fun c7=>aC v7 1 fun c8=>bX p4 4 [(N .u8 0)] [(0,1,(N .u8 97)),(1,1,(N .u8 98)),(2,1,(N .u8 99)),(3,1,(N .u8 100))] fun yb w0=>aV yb w0 wo fun c9 wp=>kX c9 wp fun d0 wq=>aY l 3 fun d1=>aF wq d1 d0 1 fun vd=>bF vd l 4 fun d2=>bX p11 1 [(N .i64 0)] [(0,1,(N .i64 3))] fun yc w1=>aV yc w1 vd fun d3 wr=>p12 [d2,d3] wr fun v8 ws=>aC v8 0 fun v9=>aC v8 1 fun d4=>p5 [v9] ws fun D wt=>aC D 0 fun d5=>aC D 1 fun d6=>aC D 2 fun d7=>aV (.row [(St []),(St []),(.sc (.slice none 0 0)),(.sc (.slice none 0 0))] false p2 0) (fun d=>.ptr d 0) wt fun v1 wu=>aF wu v1 d5 4 fun ve=>af .eql zy (N .i64 0) fun o=>aa o true (fun c=>c A ve) (fun c=>c .undef ve) fun d8 r=>aa o true (fun xl=>eD r d8 fun d9=>xl d9 r) (fun c=>c .undef r) fun e0 vf=>aa o true (fun xm=>aW .eql e0 (St [71,69,84,32,47,97,32,72,84,84,80,47,49,46,49,13,10,88,58,32,49,13,10,67,111,110,116,101,110,116,45,76,101,110,103,116,104,58,32,48,13,10,13,10]) fun e1=>xm e1 vf) (fun c=>c .undef vf) fun e2 vg=>ay o e2 (Bo false) fun E=>aa E true (fun xn=>xn z5 vg) (fun c=>c .undef vg) fun e3 vh=>aa E true (fun xo=>af .eql e3 (N .i64 0) fun e4=>xo e4 vh) (fun c=>c .undef vh) fun e5 vi=>ay E e5 (Bo false) fun j=>aa j true (fun xp=>xp z4 vi) (fun c=>c .undef vi) fun e6 vj=>aa j true (fun xq=>xq A vj) (fun c=>c .undef vj) fun e7 vk=>aa j true (fun xr=>bg e7 fun e8=>xr e8 vk) (fun c=>c .undef vk) fun e9 vl=>aa j true (fun xs=>af .eql e6 e9 fun g0=>xs g0 vl) (fun c=>c .undef vl) fun g1 vm=>ay j g1 (Bo false) fun wa=>aa wa true (fun xt=>xt z8 vm) (fun c=>c .undef vm) fun g2 vn=>ay wa g2 (Bo false) fun F=>aa F true (fun xu=>xu z7 vn) (fun c=>c .undef vn) fun g3 vo=>aa F true (fun xv=>aW .eql g3 (St [49]) fun g4=>xv g4 vo) (fun c=>c .undef vo) fun g5 vp=>ay F g5 (Bo false) fun v=>aa v true (fun xw=>xw c2 vp) (fun c=>c .undef vp) fun yf vq=>aa v true (fun xx=>af .eql yf (N .i64 0) fun yg=>xx yg vq) (fun c=>c .undef vq) fun yh vr=>ay v yh (Bo false) fun w=>aa w true (fun xy=>xy c5 vr) (fun c=>c .undef vr) fun yi vs=>aa w true (fun xz=>af .eql yi (N .i64 0) fun yj=>xz yj vs) (fun c=>c .undef vs) fun yk vt=>ay w yk (Bo false) fun e=>aa e true (fun x0=>x0 c4 vt) (fun c=>c .undef vt) fun yl vu=>aa e true (fun x1=>x1 v6 vu) (fun c=>c .undef vu) fun ym vv=>aa e true (fun x2=>bg ym fun yn=>x2 yn vv) (fun c=>c .undef vv) fun yo vw=>aa e true (fun x3=>af .eql yl yo fun yp=>x3 yp vw) (fun c=>c .undef vw) fun yq vx=>ay e yq (Bo false) fun n=>aa n true (fun x4=>aY m 0 fun yr=>x4 yr vx) (fun c=>c .undef vx) fun ys s=>aa n true (fun x5=>ax s ys fun yt=>x5 yt s) (fun c=>c .undef s) fun yu vy=>aa n true (fun x6=>af .eql yu (N .i64 404) fun yv=>x6 yv vy) (fun c=>c .undef vy) fun yw vz=>ay n yw (Bo false) fun g=>aa g true (fun x7=>aY m 2 fun yx=>x7 yx vz) (fun c=>c .undef vz) fun yy t=>aa g true (fun x8=>ax t yy fun yz=>x8 yz t) (fun c=>c .undef t) fun y0 u=>aa g true (fun w4=>eD u y0 fun y1=>w4 y1 u) (fun c=>c .undef u) fun y2 H=>aa g true (fun w5=>aW .eql y2 (St [110,111]) fun y3=>w5 y3 H) (fun c=>c .undef H) fun y4 I=>ay g y4 (Bo false) fun v0=>aa v0 true (fun w6=>w6 c8 I) (fun c=>c .undef I) fun y5 L=>ay v0 y5 (Bo false) fun x=>aa x true (fun w7=>w7 c7 L) (fun c=>c .undef L) fun y6 O=>aa x true (fun w8=>aW .eql y6 (St [50]) fun y7=>w8 y7 O) (fun c=>c .undef O) fun y8 P=>ay x y8 (Bo false) fun y=>aa y true (fun w9=>w9 d4 P) (fun c=>c .undef P) fun y9 R=>aa y true (fun xa=>af .eql y9 (N .i64 0) fun za=>xa za R) (fun c=>c .undef R) fun zb S=>ay y zb (Bo false) fun z=>aa z true (fun xb=>xb d7 S) (fun c=>c .undef S) fun zc U=>aa z true (fun xc=>af .eql zc (N .i64 0) fun zd=>xc zd U) (fun c=>c .undef U) fun ze V=>ay z ze (Bo false) fun h=>aa h true (fun xd=>xd d6 V) (fun c=>c .undef V) fun zf W=>aa h true (fun xe=>xe v9 W) (fun c=>c .undef W) fun zg X=>aa h true (fun xf=>bg zg fun zh=>xf zh X) (fun c=>c .undef X) fun zi Y=>aa h true (fun xg=>af .eql zf zi fun zj=>xg zj Y) (fun c=>c .undef Y) fun zk va=>ay h zk (Bo false) fun i=>aa i true (fun xh=>aY v1 3 fun zl=>xh zl va) (fun c=>c .undef va) fun zm p=>aa i true (fun xi=>ax p zm fun zn=>xi zn p) (fun c=>c .undef p) fun zo q=>aa i true (fun xj=>eD q zo fun zp=>xj zp q) (fun c=>c .undef q) fun zq vb=>aa i true (fun xk=>aW .eql zq (St [97,98,99,100]) fun zr=>xk zr vb) (fun c=>c .undef vb) fun zs wh=>ay i zs (Bo false) fun zt=>Q zt wh
def iB (p1 p2:Nat) (p3 p4:ai) (a0:AV) (M0:RM) (Q:ah) : Prop:=aV (.row [(St []),(St []),(.sc (.slice none 0 0)),(.sc (.slice none 0 0))] false p1 0) (fun g=>.ptr g 0) M0 fun c r=>aV (.row [(St []),(St []),(.sc (.slice none 0 0)),(.sc (.slice none 0 0))] false p1 0) (fun g=>.ptr g 0) r fun d s=>p3 [a0,(.fn (.func p2) [] [d])] s fun h j=>aC h 0 fun o=>aC h 1 fun y=>aC h 2 fun p=>af .neq p (N .i64 0) fun z=>ak z ( eQ [(St []),(St []),(.sc (.slice none 0 0)),(.sc (.slice none 0 0))] [] fun A=>aF j c A 4 fun l=>bF l c 4 fun v=>Q (.tup [v,(N .i64 0),p]) l) ( aY d 2 fun B=>aF j B o 1 fun t=>p4 [a0,y,o] t fun i u=>aC i 0 fun C=>aC i 1 fun D=>aC i 2 fun q=>aY d 3 fun E=>aF u E C 1 fun e=>af .neq q (N .i64 0) fun F=>ak F ( eQ [(St []),(St []),(.sc (.slice none 0 0)),(.sc (.slice none 0 0))] [] fun G=>aF e c G 4 fun m=>bF m c 4 fun w=>Q (.tup [w,(N .i64 0),q]) m) ( bF e d 4 fun H=>aF e c H 4 fun n=>bF n c 4 fun x=>Q (.tup [x,D,(N .i64 0)]) n))
def gP (p1:Nat) (p2 p3 p4:ai) (a0:AV) (M0:RM) (Q:ah) : Prop:=qw p1 a0 fun v u=>aV v u M0 fun d g=>bF g d 4 fun O=>p2 [O] g fun P c=>fF P fun R=>ak R ( Q (.tup [(.sc (.slice none 0 0)),(N .i64 1)]) c) ( aY d 0 fun r=>ax c r fun s=>aW .add s (St [32]) fun U=>aY d 1 fun h=>ax c h fun i=>aW .add U i fun x=>aW .add x (St [32]) fun y=>aW .add y (St [72,84,84,80,47,49,46,49]) fun z=>aY d 2 fun j=>ax c j fun l=>aY d 3 fun B=>ax c B fun C=>bg C fun D=>aY d 3 fun m=>ax c m fun n=>bg n fun G=>aY d 3 fun o=>ax c o fun p=>p3 [D] c fun E e=>ax e r fun S=>(S=s∧ax e h fun w=>(w=i∧ax e j fun A=>(A=l∧ax e m fun F=>(F=n∧ax e o fun H=>(H=p∧p4 [z,l,E,G,p] e fun q t=>aC q 0 fun I=>aC q 1 fun L=>Q (.tup [I,L]) t))))))
def gI (p1:Nat) (p2 p3 p4:ai) (a0:AV) (M0:RM) (Q:ah) : Prop:=qw p1 a0 fun C z=>aV C z M0 fun c l=>aY c 0 fun vk=>ax l vk fun vl=>af .lss vl (N .i64 100) fun j=>aa j false (fun d=>aY c 0 fun vm=>d vm l) (fun d=>d .undef l) fun vn m=>aa j false (fun A=>ax m vn fun D=>A D m) (fun d=>d .undef m) fun E u=>aa j false (fun B=>af .gtr E (N .i64 599) fun F=>B F u) (fun d=>d .undef u) fun G i=>ay j (Bo true) G fun H=>ak H ( Q (.tup [(.sc (.slice none 0 0)),(N .i64 1)]) i) ( dF (fun t=>aY c 0 fun I=>ax i I fun L=>af .quo L (N .i64 100) fun O=>af .eql O (N .i64 2) fun P=>ak P ( t [(St [79,75])] i) ( t [(St [78,111])] i)) (fun vo e=>aY c 0 fun R=>ax e R fun S=>aY c 1 fun n=>ax e n fun o=>aY c 2 fun v=>ax e v fun w=>bg w fun vb=>aY c 2 fun p=>ax e p fun q=>bg q fun vf=>aY c 2 fun r=>ax e r fun s=>p2 [S] e fun U g=>ax g n fun Z=>(Z=o∧ax g v fun va=>(va=w∧ax g p fun ve=>(ve=q∧ax g r fun vh=>(vh=s∧aW .add (St [72,84,84,80,47,49,46,49,32]) U fun V=>aW .add V (St [32]) fun W=>aW .add W (au vo 0) fun X=>p3 [vb] g fun vc h=>ax h n fun Y=>(Y=o∧ax h p fun vd=>(vd=q∧ax h r fun vg=>(vg=s∧p4 [X,o,vc,vf,s] h fun x y=>aC x 0 fun vi=>aC x 1 fun vj=>Q (.tup [vi,vj]) y)))))))))
def gQ (p1 p2:Nat) (p3 p4:ai) (a0:AV) (M0:RM) (Q:ah) : Prop:=aV (.row [(N .i64 0),(.sc (.slice none 0 0)),(.sc (.slice none 0 0))] false p1 0) (fun g=>.ptr g 0) M0 fun c r=>aV (.row [(N .i64 0),(.sc (.slice none 0 0)),(.sc (.slice none 0 0))] false p1 0) (fun g=>.ptr g 0) r fun d s=>p3 [a0,(.fn (.func p2) [] [d])] s fun h j=>aC h 0 fun o=>aC h 1 fun y=>aC h 2 fun p=>af .neq p (N .i64 0) fun z=>ak z ( eQ [(N .i64 0),(.sc (.slice none 0 0)),(.sc (.slice none 0 0))] [] fun A=>aF j c A 3 fun l=>bF l c 3 fun v=>Q (.tup [v,(N .i64 0),p]) l) ( aY d 1 fun B=>aF j B o 1 fun t=>p4 [a0,y,o] t fun i u=>aC i 0 fun C=>aC i 1 fun D=>aC i 2 fun q=>aY d 2 fun E=>aF u E C 1 fun e=>af .neq q (N .i64 0) fun F=>ak F ( eQ [(N .i64 0),(.sc (.slice none 0 0)),(.sc (.slice none 0 0))] [] fun G=>aF e c G 3 fun m=>bF m c 3 fun w=>Q (.tup [w,(N .i64 0),q]) m) ( bF e d 3 fun H=>aF e c H 3 fun n=>bF n c 3 fun x=>Q (.tup [x,D,(N .i64 0)]) n))
def jK (p1:Nat) (p2 p3:ai) (p4 p5:Nat) (p6:ai) (p7:Nat) (p8 p9:ai) (a0 a1:AV) (M0:RM) (Q:ah) : Prop:=qw p1 a0 fun vf U=>aV vf U M0 fun e n=>bF n e 4 fun vp=>p2 [vp] n fun vq j=>fF vq fun vr=>ak vr ( Q (.tup [(.sc (.slice none 0 0)),(N .i64 1)]) j) ( aY e 3 fun vs=>ax j vs fun q=>p3 [a1] j fun vt x=>bg q fun vu=>bX p4 1 [(N .i64 0)] [(0,1,vu)] fun vi va=>aV vi va x fun vv E=>appW p4 1 8 [(N .i64 0)] false vt vv E fun r I=>bg r fun vw=>fI (fun ve c h=>af .lss (au c 2) vw fun vx=>ak vx ( dF (fun i=>dz r (au c 2) 1 fun vy=>ax h vy fun vz=>bg (au c 1) fun v0=>Ca false vz v0 fun d=>af .lss d (N .i64 1) fun v1=>ak v1 ( i [(au c 0),(au c 1)] h) ( (( bG (di 1 (au c 1) none (some d) none) fun l=>bX p5 2 [(N .u8 0)] [(0,1,(N .u8 13)),(1,1,(N .u8 10))] fun vo vd=>uf vo vd h fun u P R=>p6 [d,(N .i64 16)] P fun v2 o=>bG (di 1 (au c 1) none (some d) none) fun v7=>(v7=l∧bX p5 2 [(N .u8 0)] [(0,1,(N .u8 13)),(1,1,(N .u8 10))] fun vk Y=>(Dw R o vk Y u∧aW .add v2 (St [13,10]) fun s=>jl p5 s fun vg V=>uf vg V o fun t y S=>kX u y fun wb p=>jl p5 s fun vj X=>(Dw S p vj X t∧bG (di 1 (au c 1) none (some d) none) fun v6=>(v6=l∧bX p7 4 [(.sc (.slice none 0 0))] [(0,1,(au c 0)),(1,1,t),(2,1,l),(3,1,wb)] fun vh W=>uf vh W p fun wd z w1=>p8 [wd] z fun wf A=>bG (di 1 (au c 1) (some d) none none) fun wh=>i [wf,wh] A)))))∧( bX p5 2 [(N .u8 0)] [(0,1,(N .u8 13)),(1,1,(N .u8 10))] fun vl Z=>uf vl Z h fun wa B w2=>bG (di 1 (au c 1) none (some d) none) fun m=>kX wa B fun wc C=>bG (di 1 (au c 1) none (some d) none) fun v9=>(v9=m∧p6 [d,(N .i64 16)] C fun v3 D=>bG (di 1 (au c 1) none (some d) none) fun v8=>(v8=m∧aW .add v3 (St [13,10]) fun v4=>jl p5 v4 fun vm vb=>uf vm vb D fun v5 F w3=>bX p7 4 [(.sc (.slice none 0 0))] [(0,1,(au c 0)),(1,1,v5),(2,1,m),(3,1,wc)] fun vn vc=>uf vn vc F fun we G w4=>p8 [we] G fun wg H=>bG (di 1 (au c 1) (some d) none none) fun wi=>i [wg,wi] H)))))) (fun w L=>af .add (au c 2) (N .i64 1) fun wj=>ve [(au w 0),(au w 1),wj] L)) ( appW p5 1 1 [(N .u8 0)] false (au c 0) (St [48,13,10,13,10]) h fun wk g=>aY e 0 fun wl=>ax g wl fun wm=>aW .add wm (St [32]) fun wn=>aY e 1 fun wo=>ax g wo fun wp=>aW .add wn wp fun wq=>aW .add wq (St [32]) fun wr=>aW .add wr (St [72,84,84,80,47,49,46,49]) fun ws=>aY e 2 fun wt=>ax g wt fun wu=>eQ [(St []),(St [])] [(0,1,(St [84,114,97,110,115,102,101,114,45,69,110,99,111,100,105,110,103])),(1,1,(St [99,104,117,110,107,101,100]))] fun wv=>aY e 3 fun ww=>ax g ww fun wx=>bg wx fun wy=>p9 [ws,wu,wv,wy,wk] g fun v O=>aC v 0 fun wz=>aC v 1 fun w0=>Q (.tup [wz,w0]) O)) [(.sc (.slice none 0 0)),q,(N .i64 0)] I)
def iw (p1:Nat) (p2:ai) (a0 a1:AV) (M0:RM) (Q:ah) : Prop:=qw p1 a0 fun h g=>aV h g M0 fun l c=>aY l 2 fun m=>ax c m fun n=>p2 [n,a1] c fun d e=>aC d 0 fun i=>aC d 1 fun j=>Q (.tup [i,j]) e
def gN (p1:Nat) (p2:ai) (a0 a1:AV) (M0:RM) (Q:ah) : Prop:=qw p1 a0 fun h g=>aV h g M0 fun l c=>aY l 1 fun m=>ax c m fun n=>p2 [n,a1] c fun d e=>aC d 0 fun i=>aC d 1 fun j=>Q (.tup [i,j]) e
def mD (p1:ai) (cv:(FuncId→ai)) (p2:ai) (p3:Nat) (a0 a1:AV) (M0:RM) (Q:ah) : Prop:=p1 [a0,(N .i64 0)] M0 fun g i=>aC g 0 fun A=>aC g 1 fun B=>aC g 2 fun l=>af .neq l (N .i64 0) fun C=>ak C ( Q (.tup [(.sc (.slice none 0 0)),(N .i64 0),l]) i) ( xE cv a1 [A] i fun D j=>fF D fun E=>ak E ( Q (.tup [(.sc (.slice none 0 0)),(N .i64 0),(N .i64 14)]) j) ( fI (fun y d r=>p1 [a0,(au d 1)] r fun h c=>aC h 0 fun m=>aC h 1 fun n=>aC h 2 fun o=>af .neq o (N .i64 0) fun F=>ak F ( Q (.tup [(.sc (.slice none 0 0)),(N .i64 0),o]) c) ( aW .eql m (St []) fun G=>ak G ( Q (.tup [(au d 0),n,(N .i64 0)]) c) ( bg (au d 0) fun H=>af .eql H (N .i64 32) fun I=>ak I ( Q (.tup [(.sc (.slice none 0 0)),(N .i64 0),(N .i64 2)]) c) ( p2 [m] c fun p s=>aC p 0 fun L=>aC p 1 fun O=>aV (.row [(St []),(St [])] false p3 0) (fun w=>.ptr w 0) s fun q t=>aF t q L 2 fun e=>fF O fun P=>ak P ( Q (.tup [(.sc (.slice none 0 0)),(N .i64 0),(N .i64 14)]) e) ( bF e q 2 fun R=>bX p3 1 [(St []),(St [])] [(0,2,R)] fun z x=>aV z x e fun S u=>appW p3 2 32 [(St []),(St [])] false (au d 0) S u fun U v=>y [U,n] v))))) [(.sc (.slice none 0 0)),B] j))
def gG (p1 p2 p3:ai) (a0 a1:AV) (M0:RM) (Q:ah) : Prop:=p1 [a0,(St [32])] M0 fun e n=>bg e fun v2=>af .neq v2 (N .i64 3) fun g=>aa g false (fun c=>c e n) (fun c=>c .undef n) fun X o=>aa g false (fun E=>dz X (N .i64 0) 1 fun Y=>E Y o) (fun c=>c .undef o) fun Z l=>aa g false (fun V=>ax l Z fun va=>V va l) (fun c=>c .undef l) fun vb y=>aa g false (fun W=>p2 [vb] y fun vc D=>W vc D) (fun c=>c .undef y) fun vd p=>aa g false (fun F=>fF vd fun ve=>F ve p) (fun c=>c .undef p) fun vf q=>ay g (Bo true) vf fun d=>aa d false (fun G=>G e q) (fun c=>c .undef q) fun vg r=>aa d false (fun H=>dz vg (N .i64 1) 1 fun vh=>H vh r) (fun c=>c .undef r) fun vi j=>aa d false (fun I=>ax j vi fun vj=>I vj j) (fun c=>c .undef j) fun vk s=>aa d false (fun L=>p3 [vk] s fun vl B=>L vl B) (fun c=>c .undef s) fun vm t=>aa d false (fun O=>fF vm fun vn=>O vn t) (fun c=>c .undef t) fun vo u=>ay d (Bo true) vo fun h=>aa h false (fun P=>P e u) (fun c=>c .undef u) fun vp v=>aa h false (fun R=>dz vp (N .i64 2) 1 fun vq=>R vq v) (fun c=>c .undef v) fun vr m=>aa h false (fun S=>ax m vr fun vs=>S vs m) (fun c=>c .undef m) fun vt w=>aa h false (fun U=>aW .neq vt (St [72,84,84,80,47,49,46,49]) fun vu=>U vu w) (fun c=>c .undef w) fun vv i=>ay h (Bo true) vv fun vw=>ak vw ( Q (Bo false) i) ( dz e (N .i64 0) 1 fun vx=>ax i vx fun vy=>dz e (N .i64 1) 1 fun z=>ax i z fun A=>aY a1 0 fun v0=>aF i v0 vy 1 fun x=>ax x z fun vz=>(vz=A∧aY a1 1 fun v1=>aF x v1 A 1 fun C=>Q (Bo true) C))
def iN (p1 p2:ai) (p3:Nat) (a0:AV) (M0:RM) (Q:ah) : Prop:=p1 [a0,(N .i64 1),(N .i64 8)] M0 fun d e=>aa d true (fun c=>c a0 e) (fun c=>c .undef e) fun l g=>aa d true (fun j=>p2 [l,(.fn (.func p3) [] [])] g fun m h=>j m h) (fun c=>c .undef g) fun n i=>ay d n (Bo false) fun o=>Q o i
def jA (p1 p2:ai) (p3:Nat) (a0:AV) (M0:RM) (Q:ah) : Prop:=p1 [a0,(St [47])] M0 fun d g=>aa d true (fun c=>c a0 g) (fun c=>c .undef g) fun w h=>aa d true (fun o=>bW w fun x=>o x h) (fun c=>c .undef h) fun y i=>aa d true (fun p=>af .leq y (N .i64 201) fun z=>p z i) (fun c=>c .undef i) fun A j=>ay d A (Bo false) fun e=>aa e true (fun q=>q a0 j) (fun c=>c .undef j) fun s l=>aa e true (fun r=>p2 [s,(.fn (.func p3) [] [])] l fun t m=>r t m) (fun c=>c .undef l) fun u n=>ay e u (Bo false) fun v=>Q v n
def mo (p1 p2 p3 p4 p5:ai) (p6:Nat) (p7 p8:ai) (a0 a1 a2:AV) (M0:RM) (Q:ah) : Prop:=p1 [a2,(St [116,114,97,110,115,102,101,114,45,101,110,99,111,100,105,110,103])] M0 fun r I=>p1 [a2,(St [99,111,110,116,101,110,116,45,108,101,110,103,116,104])] I fun d i=>bg r fun vl=>af .gtr vl (N .i64 0) fun vm=>ak vm ( bg r fun vn=>af .gtr vn (N .i64 1) fun e=>aa e false (fun c=>c r i) (fun c=>c .undef i) fun vo t=>aa e false (fun X=>dz vo (N .i64 0) 1 fun vp=>X vp t) (fun c=>c .undef t) fun vq n=>aa e false (fun vi=>ax n vq fun vr=>vi vr n) (fun c=>c .undef n) fun vs G=>aa e false (fun vk=>p2 [vs] G fun vt S=>vk vt S) (fun c=>c .undef G) fun vu u=>aa e false (fun U=>aW .neq vu (St [99,104,117,110,107,101,100]) fun vv=>U vv u) (fun c=>c .undef u) fun vw v=>ay e (Bo true) vw fun j=>aa j false (fun V=>V d v) (fun c=>c .undef v) fun vx w=>aa j false (fun W=>bg vx fun vy=>W vy w) (fun c=>c .undef w) fun vz x=>aa j false (fun Y=>af .gtr vz (N .i64 0) fun v0=>Y v0 x) (fun c=>c .undef x) fun v1 y=>ay j (Bo true) v1 fun v2=>ak v2 ( Q (.tup [(.sc (.slice none 0 0)),(N .i64 0),(N .i64 14)]) y) ( p3 [a0,a1] y fun s L=>aC s 0 fun v3=>aC s 1 fun v4=>aC s 2 fun v5=>Q (.tup [v3,v4,v5]) L)) ( bg d fun v6=>af .eql v6 (N .i64 0) fun v7=>ak v7 ( Q (.tup [(.sc (.slice none 0 0)),a1,(N .i64 0)]) i) ( bg d fun v8=>af .gtr v8 (N .i64 1) fun g=>aa g false (fun Z=>Z d i) (fun c=>c .undef i) fun v9 z=>aa g false (fun va=>dz v9 (N .i64 0) 1 fun wa=>va wa z) (fun c=>c .undef z) fun wb m=>aa g false (fun vb=>ax m wb fun wc=>vb wc m) (fun c=>c .undef m) fun wd A=>aa g false (fun vc=>p4 [wd,(N .i64 1),(N .i64 9)] A fun we O=>vc we O) (fun c=>c .undef A) fun wf B=>aa g false (fun vd=>fF wf fun wg=>vd wg B) (fun c=>c .undef B) fun wh C=>ay g (Bo true) wh fun h=>aa h false (fun ve=>ve d C) (fun c=>c .undef C) fun wi D=>aa h false (fun vf=>dz wi (N .i64 0) 1 fun wj=>vf wj D) (fun c=>c .undef D) fun wk o=>aa h false (fun vg=>ax o wk fun wl=>vg wl o) (fun c=>c .undef o) fun wm E=>aa h false (fun vh=>p5 [wm,(.fn (.func p6) [] [])] E fun wn P=>vh wn P) (fun c=>c .undef E) fun wo F=>aa h false (fun vj=>fF wo fun wp=>vj wp F) (fun c=>c .undef F) fun wq p=>ay h (Bo true) wq fun wr=>ak wr ( Q (.tup [(.sc (.slice none 0 0)),(N .i64 0),(N .i64 14)]) p) ( dz d (N .i64 0) 1 fun ws=>ax p ws fun wt=>p7 [wt] p fun H q=>aC H 0 fun l=>aC H 1 fun w2=>af .gtr l (N .i64 16384) fun wu=>ak wu ( Q (.tup [(.sc (.slice none 0 0)),(N .i64 0),(N .i64 2)]) q) ( bg a0 fun wv=>af .sub wv a1 fun ww=>af .gtr l ww fun wx=>ak wx ( Q (.tup [(.sc (.slice none 0 0)),(N .i64 0),(N .i64 15)]) q) ( af .add a1 l fun wy=>bG (di 1 a0 (some a1) (some wy) none) fun wz=>p8 [wz] q fun w0 R=>af .add a1 l fun w1=>Q (.tup [w0,w1,(N .i64 0)]) R)))))
def iF (p1:Nat) (p2 p3:ai) (a0:AV) (M0:RM) (Q:ah) : Prop:=qw p1 a0 fun q n=>aV q n M0 fun j g=>aY j 0 fun s=>ax g s fun t=>p2 [t] g fun d h=>aa d true (fun c=>aY j 1 fun u=>c u h) (fun c=>c .undef h) fun v e=>aa d true (fun o=>ax e v fun w=>o w e) (fun c=>c .undef e) fun x i=>aa d true (fun p=>p3 [x] i fun y l=>p y l) (fun c=>c .undef i) fun z m=>ay d z (Bo false) fun r=>Q r m
def jJ (p1:Nat) (p2 p3 p4:ai) (p5:Nat) (a0 a1 a2 a3 a4:AV) (M0:RM) (Q:ah) : Prop:=qw p1 a2 fun vp W=>aV vp W M0 fun H I=>aW .add a0 (St [13,10]) fun vr=>bg a1 fun vs=>fI (fun vo j e=>af .lss (au j 1) vs fun vt=>ak vt ( dz a1 (au j 1) 2 fun vu=>bF e vu 2 fun vv=>aV (.row [(St []),(St [])] false p1 0) (fun V=>.ptr V 0) e fun d L=>aF L d vv 2 fun t=>aY d 0 fun vw=>ax t vw fun vx=>p2 [vx] t fun vy x=>fF vy fun g=>aa g false (fun c=>aY d 1 fun vz=>c vz x) (fun c=>c .undef x) fun v0 p=>aa g false (fun vm=>ax p v0 fun v1=>vm v1 p) (fun c=>c .undef p) fun v2 F=>aa g false (fun vn=>p3 [v2] F fun v3 O=>vn v3 O) (fun c=>c .undef F) fun v4 r=>aa g false (fun Y=>fF v4 fun v5=>Y v5 r) (fun c=>c .undef r) fun v6 s=>ay g (Bo true) v6 fun h=>aa h false (fun Z=>aY d 0 fun v7=>Z v7 s) (fun c=>c .undef s) fun v8 n=>aa h false (fun va=>ax n v8 fun v9=>va v9 n) (fun c=>c .undef n) fun wa u=>aa h false (fun vb=>p4 [wa] u fun wb P=>vb wb P) (fun c=>c .undef u) fun wc v=>aa h false (fun vc=>aW .eql wc (St [116,114,97,110,115,102,101,114,45,101,110,99,111,100,105,110,103]) fun wd=>vc wd v) (fun c=>c .undef v) fun we w=>ay h (Bo true) we fun i=>aa i false (fun vd=>aY d 0 fun wf=>vd wf w) (fun c=>c .undef w) fun wg o=>aa i false (fun ve=>ax o wg fun wh=>ve wh o) (fun c=>c .undef o) fun wi y=>aa i false (fun vf=>p4 [wi] y fun wj R=>vf wj R) (fun c=>c .undef y) fun wk z=>aa i false (fun vg=>aW .eql wk (St [99,111,110,116,101,110,116,45,108,101,110,103,116,104]) fun wl=>vg wl z) (fun c=>c .undef z) fun wm l=>ay i (Bo true) wm fun wn=>ak wn ( Q (.tup [(.sc (.slice none 0 0)),(N .i64 1)]) l) ( aY d 0 fun wo=>ax l wo fun wp=>aW .add wp (St [58,32]) fun wq=>aY d 1 fun wr=>ax l wr fun ws=>aW .add wq ws fun wt=>aW .add wt (St [13,10]) fun wu=>aW .add (au j 0) wu fun wv=>af .add (au j 1) (N .i64 1) fun ww=>vo [wv,ww] l)) ( aY H 0 fun wx=>ax e wx fun wy=>aW .add wy (St [58,32]) fun wz=>aY H 1 fun w0=>ax e w0 fun w1=>aW .add wz w1 fun w2=>aW .add w2 (St [13,10]) fun w3=>aW .add w3 (St [13,10]) fun w4=>aW .add (au j 0) w4 fun G=>bg a1 fun w5=>af .add w5 (N .i64 1) fun w6=>af .gtr w6 (N .i64 32) fun m=>aa m false (fun vh=>vh G e) (fun c=>c .undef e) fun w7 A=>aa m false (fun vi=>bW w7 fun w8=>vi w8 A) (fun c=>c .undef A) fun w9 B=>aa m false (fun vj=>af .gtr w9 (N .i64 2048) fun xa=>vj xa B) (fun c=>c .undef B) fun xb C=>ay m (Bo true) xb fun q=>aa q false (fun vk=>vk a3 C) (fun c=>c .undef C) fun xc D=>aa q false (fun vl=>af .gtr xc (N .i64 16384) fun xd=>vl xd D) (fun c=>c .undef D) fun xe E=>ay q (Bo true) xe fun xf=>ak xf ( Q (.tup [(.sc (.slice none 0 0)),(N .i64 2)]) E) ( jl p5 G fun vq X=>aV vq X E fun xg S=>appW p5 1 1 [(N .u8 0)] false xg a4 S fun xh U=>Q (.tup [xh,(N .i64 0)]) U))) [vr,(N .i64 0)] I
def jO (p1:Nat) (p2:ai) (a0:AV) (M0:RM) (Q:ah) : Prop:=aV (.row [(St []),(St [])] false p1 0) (fun h=>.ptr h 0) M0 fun d e=>p2 [a0] e fun j g=>eQ [(St []),(St [])] [(0,1,(St [67,111,110,116,101,110,116,45,76,101,110,103,116,104])),(1,1,j)] fun l=>aF g d l 2 fun c=>bF c d 2 fun i=>Q i c
def gu (p1 p2:ai) (p3 p4:Nat) (p5:ai) (a0 a1:AV) (M0:RM) (Q:ah) : Prop:=p1 [a0,(St [72,84,84,80,47,49,46,49,32])] M0 fun E n=>aC E 0 fun g=>aC E 1 fun vf=>fF vf fun h=>aa h false (fun c=>c g n) (fun c=>c .undef n) fun vg o=>aa h false (fun L=>bW vg fun vh=>L vh o) (fun c=>c .undef o) fun vi w=>aa h false (fun Z=>af .lss vi (N .i64 4) fun vj=>Z vj w) (fun c=>c .undef w) fun vk B=>ay h (Bo true) vk fun d=>aa d false (fun vd=>vd g B) (fun c=>c .undef B) fun vl C=>aa d false (fun ve=>bG (bY vl none (some (N .i64 3))) fun vm=>ve vm C) (fun c=>c .undef C) fun vn p=>aa d false (fun O=>p2 [vn,(.fn (.func p3) [] [])] p fun vo F=>O vo F) (fun c=>c .undef p) fun vp q=>aa d false (fun P=>fF vp fun vq=>P vq q) (fun c=>c .undef q) fun vr r=>ay d (Bo true) vr fun i=>aa i false (fun R=>R g r) (fun c=>c .undef r) fun vs s=>aa i false (fun S=>dN vs (N .i64 3) fun vt=>S vt s) (fun c=>c .undef s) fun vu t=>aa i false (fun U=>af .neq vu (N .u8 32) fun vv=>U vv t) (fun c=>c .undef t) fun vw u=>ay i (Bo true) vw fun e=>aa e false (fun V=>V g u) (fun c=>c .undef u) fun vx v=>aa e false (fun W=>bG (bY vx (some (N .i64 3)) none) fun vy=>W vy v) (fun c=>c .undef v) fun vz x=>aa e false (fun X=>p2 [vz,(.fn (.func p4) [] [])] x fun v0 G=>X v0 G) (fun c=>c .undef x) fun v1 y=>aa e false (fun Y=>fF v1 fun v2=>Y v2 y) (fun c=>c .undef y) fun v3 z=>ay e (Bo true) v3 fun v4=>ak v4 ( Q (Bo false) z) ( bG (bY g none (some (N .i64 3))) fun v5=>p5 [v5] z fun D H=>aC D 0 fun v6=>aC D 1 fun wh=>aY a1 0 fun v7=>aF H v7 v6 1 fun l=>aY a1 0 fun v8=>ax l v8 fun v9=>af .geq v9 (N .i64 100) fun j=>aa j true (fun va=>aY a1 0 fun wa=>va wa l) (fun c=>c .undef l) fun wb m=>aa j true (fun vb=>ax m wb fun wc=>vb wc m) (fun c=>c .undef m) fun wd A=>aa j true (fun vc=>af .leq wd (N .i64 599) fun we=>vc we A) (fun c=>c .undef A) fun wf I=>ay j wf (Bo false) fun wg=>Q wg I)
def mU (p1:Nat) (cv:(FuncId→ai)) (a0 a1:AV) (M0:RM) (Q:ah) : Prop:=jl p1 a0 fun l i=>aV l i M0 fun g h=>bg g fun s=>fI (fun j d c=>af .lss (au d 0) s fun m=>ak m ( dz g (au d 0) 1 fun n=>ax c n fun o=>xE cv a1 [o] c fun p e=>fF p fun q=>ak q ( Q (Bo false) e) ( af .add (au d 0) (N .i64 1) fun r=>j [r] e)) ( Q (Bo true) c)) [(N .i64 0)] h
def lm (a0:AV) (M0:RM) (Q:ah) : Prop:=af .geq a0 (N .u8 48) fun d=>aa d true (fun c=>c a0 M0) (fun c=>c .undef M0) fun i e=>aa d true (fun h=>af .leq i (N .u8 57) fun j=>h j e) (fun c=>c .undef e) fun l g=>ay d l (Bo false) fun m=>Q m g
def fB (a0:AV) (M0:RM) (Q:ah) : Prop:=af .geq a0 (N .u8 32) fun d=>aa d true (fun c=>c a0 M0) (fun c=>c .undef M0) fun i e=>aa d true (fun h=>af .leq i (N .u8 126) fun j=>h j e) (fun c=>c .undef e) fun l g=>ay d l (Bo false) fun m=>Q m g
def rH (p1:Nat) (a0:AV) (M0:RM) (Q:ah) : Prop:=fU false 2 a0 (.sc (.slice none 0 0)) fun h=>ak h ( Q (.sc (.slice none 0 0)) M0) ( bX p1 0 [(N .i64 0)] [] fun g e=>aV g e M0 fun i c=>appW p1 1 8 [(N .i64 0)] false i a0 c fun j d=>Q j d)
def og (p1:Nat) (p2:ai) (p3:Nat) (a0:AV) (M0:RM) (Q:ah) : Prop:=bg a0 fun p=>fI (fun n c e=>af .lss (au c 1) p fun q=>ak q ( dF (fun i=>dz a0 (au c 1) 1 fun r=>ax e r fun s=>bg s fun t=>af .add (au c 0) t fun h=>af .lss h (N .i64 0) fun u=>ak u ( False) ( i [h] e)) (fun D j=>af .add (au c 1) (N .i64 1) fun v=>n [(au D 0),v] j)) ( p2 [(.sc (.slice none 0 0)),(au c 0)] e fun w l=>bg a0 fun x=>fI (fun o d g=>af .lss (au d 1) x fun y=>ak y ( dz a0 (au d 1) 1 fun z=>ax g z fun A=>appW p3 1 1 [(N .u8 0)] false (au d 0) A g fun B m=>af .add (au d 1) (N .i64 1) fun C=>o [B,C] m) ( Q (au d 0) g)) [w,(N .i64 0)] l)) [(N .i64 0),(N .i64 0)] M0
def mM (p1:ai) (a0 a1:AV) (M0:RM) (Q:ah) : Prop:=p1 [a0,a1] M0 fun d c=>Q d c
def lH (p1:ai) (a0 a1:AV) (M0:RM) (Q:ah) : Prop:=p1 [a0,a1] M0 fun d c=>bg d fun e=>af .gtr e (N .i64 0) fun g=>ak g ( dz d (N .i64 0) 1 fun h=>ax c h fun i=>Q (.tup [i,(Bo true)]) c) ( Q (.tup [(St []),(Bo false)]) c)
def mf (p1:Nat) (p2:ai) (a0 a1:AV) (M0:RM) (Q:ah) : Prop:=bg a0 fun j=>Ca false j (N .i64 2048) fun l=>bG (di 1 a0 (some a1) (some l) none) fun m=>bX p1 2 [(N .u8 0)] [(0,1,(N .u8 13)),(1,1,(N .u8 10))] fun i h=>aV i h M0 fun n e=>kX n e fun o g=>p2 [m,o] g fun d c=>af .geq d (N .i64 0) fun p=>ak p ( af .add a1 d fun q=>bG (di 1 a0 (some a1) (some q) none) fun r=>eD c r fun s=>af .add a1 d fun t=>af .add t (N .i64 2) fun u=>Q (.tup [s,u,(N .i64 0)]) c) ( bg a0 fun v=>af .lss v (N .i64 2048) fun w=>ak w ( Q (.tup [(St []),(N .i64 0),(N .i64 15)]) c) ( Q (.tup [(St []),(N .i64 0),(N .i64 2)]) c))
def kK (p1:Nat) (p2 p3 p4 p5:ai) (a0:AV) (M0:RM) (Q:ah) : Prop:=aV (.row [(St []),(St [])] false p1 0) (fun e=>.ptr e 0) M0 fun t u=>p2 [a0,(St [58])] u fun n v=>aC n 0 fun G=>aC n 1 fun H=>aC n 2 fun g=>p3 [H,(St [32,9])] v fun I w=>eQ [(St []),(St [])] [(0,1,G),(1,1,I)] fun L=>aV (.row [(St []),(St [])] false p1 0) (fun e=>.ptr e 0) w fun d y=>aF y d L 2 fun l=>bF l d 2 fun o=>kW g true (fun c=>aY d 0 fun R=>c R l none) (fun c=>c .undef l none) fun S m e=>kW g true (fun E=>ax m S fun U=>E U m none) (fun c=>c .undef m none) fun V s vh=>aa g true (fun A=>p4 [V] s fun W x=>A W x) (fun c=>c .undef s) fun X i=>bF i d 2 fun P=>(P=o∧ay g X (Bo false) fun h=>kW h true (fun B=>aY d 1 fun Y=>B Y i none) (fun c=>c .undef i none) fun Z j vf=>kW h true (fun C=>ax j Z fun va=>C va j none) (fun c=>c .undef j none) fun vb p vg=>aa h true (fun D=>p5 [vb] p fun vc z=>D vc z) (fun c=>c .undef p) fun vd q=>bF q d 2 fun O=>(O=o∧ay h vd (Bo false) fun ve=>aF q t o 2 fun r=>bF r t 2 fun F=>Q (.tup [F,ve]) r))
def kC (a0 a1 a2:AV) (M0:RM) (Q:ah) : Prop:=bW a0 fun u=>af .geq u a1 fun d=>aa d true (fun c=>c a0 M0) (fun c=>c .undef M0) fun n e=>aa d true (fun j=>bW n fun o=>j o e) (fun c=>c .undef e) fun p g=>aa d true (fun l=>l a2 g) (fun c=>c .undef g) fun q h=>aa d true (fun m=>af .leq p q fun r=>m r h) (fun c=>c .undef h) fun s i=>ay d s (Bo false) fun t=>Q t i
def ll (a0:AV) (M0:RM) (Q:ah) : Prop:=af .geq a0 (N .u8 65) fun d=>aa d true (fun c=>c a0 M0) (fun c=>c .undef M0) fun i e=>aa d true (fun h=>af .leq i (N .u8 90) fun j=>h j e) (fun c=>c .undef e) fun l g=>ay d l (Bo false) fun m=>Q m g
def jY (a0:AV) (M0:RM) (Q:ah) : Prop:=af .geq a0 (N .u8 33) fun d=>aa d true (fun c=>c a0 M0) (fun c=>c .undef M0) fun i e=>aa d true (fun h=>af .leq i (N .u8 126) fun j=>h j e) (fun c=>c .undef e) fun l g=>ay d l (Bo false) fun m=>Q m g
def lv (p1:Nat) (p2:ai) (p3:Nat) (a0 a1:AV) (M0:RM) (Q:ah) : Prop:=bg a0 fun G=>fI (fun r c d=>af .lss (au c 1) G fun t=>ak t ( dF (fun h=>dz a0 (au c 1) 2 fun u=>bF d u 2 fun v=>aV (.row [(St []),(St [])] false p1 0) (fun p=>.ptr p 0) d fun g j=>aF j g v 2 fun i=>aY g 0 fun w=>ax i w fun x=>p2 [x] i fun y l=>p2 [a1] l fun z e=>aW .eql y z fun A=>ak A ( aY g 1 fun B=>ax e B fun C=>bX p3 1 [(St [])] [(0,1,C)] fun s q=>aV s q e fun D m=>appW p3 1 16 [(St [])] false (au c 0) D m fun E n=>h [E] n) ( h [(au c 0)] e)) (fun H o=>af .add (au c 1) (N .i64 1) fun F=>r [(au H 0),F] o)) ( Q (au c 0) d)) [(.sc (.slice none 0 0)),(N .i64 0)] M0
def lc (p1:Nat) (a0:AV) (M0:RM) (Q:ah) : Prop:=jl p1 a0 fun t q=>aV t q M0 fun e n=>bg e fun F=>fI (fun s g c=>af .lss (au g 0) F fun u=>ak u ( dF (fun j=>dz e (au g 0) 1 fun v=>ax c v fun h=>af .geq h (N .u8 65) fun i=>aa i true (fun d=>d h c) (fun d=>d .undef c) fun w l=>aa i true (fun r=>af .leq w (N .u8 90) fun x=>r x l) (fun d=>d .undef l) fun y m=>ay i y (Bo false) fun z=>ak z ( af .add h (N .u8 97) fun A=>af .sub A (N .u8 65) fun B=>dz e (au g 0) 1 fun C=>aF m C B 1 fun o=>j [] o) ( j [] m)) (fun G p=>af .add (au g 0) (N .i64 1) fun D=>s [D] p)) ( eD c e fun E=>Q E c)) [(N .i64 0)] n
def jQ (p1:ai) (p2:Nat) (a0 a1:AV) (M0:RM) (Q:ah) : Prop:=fI (fun n g l=>p1 [a0,(au g 0)] l fun h c=>aC h 0 fun d=>aC h 1 fun e=>aC h 2 fun i=>af .neq i (N .i64 0) fun o=>ak o ( Q (.tup [(.sc (.slice none 0 0)),(N .i64 0),i]) c) ( bg (au g 1) fun p=>af .sub (N .i64 16384) p fun q=>af .gtr d q fun r=>ak r ( Q (.tup [(.sc (.slice none 0 0)),(N .i64 0),(N .i64 2)]) c) ( af .add d (N .i64 2) fun s=>bg a0 fun t=>af .sub t e fun u=>af .gtr s u fun v=>ak v ( Q (.tup [(.sc (.slice none 0 0)),(N .i64 0),(N .i64 15)]) c) ( af .add e d fun w=>af .add e d fun x=>af .add x (N .i64 2) fun y=>bG (di 1 a0 (some w) (some y) none) fun z=>eD c z fun A=>aW .neq A (St [13,10]) fun B=>ak B ( Q (.tup [(.sc (.slice none 0 0)),(N .i64 0),(N .i64 14)]) c) ( af .add e d fun C=>af .add C (N .i64 2) fun j=>af .eql d (N .i64 0) fun D=>ak D ( Q (.tup [(au g 1),j,(N .i64 0)]) c) ( af .add e d fun E=>bG (di 1 a0 (some e) (some E) none) fun F=>appW p2 1 1 [(N .u8 0)] false (au g 1) F c fun G m=>n [j,G] m)))))) [a1,(.sc (.slice none 0 0))] M0
def jr (p1 p2 p3:ai) (p4:Nat) (a0:AV) (M0:RM) (Q:ah) : Prop:=p1 [a0,(N .i64 1),(N .i64 40)] M0 fun d e=>aa d true (fun c=>c a0 e) (fun c=>c .undef e) fun o g=>aa d true (fun m=>p2 [o] g fun p i=>m p i) (fun c=>c .undef g) fun q h=>aa d true (fun n=>p3 [q,(.fn (.func p4) [] [])] h fun r j=>n r j) (fun c=>c .undef h) fun s l=>ay d s (Bo false) fun t=>Q t l
def ja (p1 p2:ai) (p3:Nat) (a0:AV) (M0:RM) (Q:ah) : Prop:=p1 [a0,(St [32,9])] M0 fun m e=>aW .eql a0 m fun d=>aa d true (fun c=>c a0 e) (fun c=>c .undef e) fun n g=>aa d true (fun j=>p2 [n,(.fn (.func p3) [] [])] g fun o h=>j o h) (fun c=>c .undef g) fun p i=>ay d p (Bo false) fun l=>Q l i
def rR (p1 p2:Nat) (a0 a1:AV) (M0:RM) (Q:ah) : Prop:=dF (fun g=>af .lss a1 (N .i64 0) fun t=>ak t ( False) ( g [] M0)) (fun v d=>dF (fun c=>tC a0 fun j=>bg a0 fun l=>af .sub j l fun m=>af .sub a1 m fun e=>af .gtr e (N .i64 0) fun n=>ak n ( tC a0 fun o=>bG (di 1 a0 none (some o) none) fun p=>appW p2 1 1 [(N .u8 0)] true p e d fun q h=>bg a0 fun r=>bG (di 1 q none (some r) none) fun s=>c [s] h) ( c [a0] d)) (fun u i=>Q (au u 0) i))
def fe (p1:ai) (p2:Nat) (p3 p4 p5:ai) (a0 a1:AV) (M0:RM) (Q:ah) : Prop:=af .eql a1 (N .i64 10) fun x=>ak x ( af .leq (N .i64 0) a0 fun g=>aa g true (fun c=>c a0 M0) (fun c=>c .undef M0) fun y j=>aa g true (fun w=>af .lss y (N .i64 100) fun z=>w z j) (fun c=>c .undef j) fun A l=>ay g A (Bo false) fun B=>ak B ( p1 [a0] l fun C r=>Q C r) ( aV (.row [(N .u8 0),(N .u8 0),(N .u8 0),(N .u8 0),(N .u8 0),(N .u8 0),(N .u8 0),(N .u8 0),(N .u8 0),(N .u8 0),(N .u8 0),(N .u8 0),(N .u8 0),(N .u8 0),(N .u8 0),(N .u8 0),(N .u8 0),(N .u8 0),(N .u8 0),(N .u8 0),(N .u8 0),(N .u8 0),(N .u8 0),(N .u8 0)] false p2 0) (fun v=>.ptr v 0) l fun d m=>gM .u64 a0 fun o=>dF (fun i=>af .lss a0 (N .i64 0) fun D=>ak D ( EC o fun E=>i [E] m) ( i [o] m)) (fun q s=>p3 [(au q 0)] s fun h t=>af .add (N .i64 1) h fun F=>bG (pO 24 1 d (some (N .i64 1)) (some F)) fun G=>p4 [G,(au q 0)] t fun Y e=>af .lss a0 (N .i64 0) fun H=>ak H ( mi d (N .i64 0) 24 1 fun I=>aF e I (N .u8 45) 1 fun n=>af .add (N .i64 1) h fun L=>bG (pO 24 1 d none (some L)) fun O=>eD n O fun P=>Q P n) ( af .add (N .i64 1) h fun R=>bG (pO 24 1 d (some (N .i64 1)) (some R)) fun S=>eD e S fun U=>Q U e)))) ( gM .u64 a0 fun V=>af .lss a0 (N .i64 0) fun W=>p5 [(.sc (.slice none 0 0)),V,a1,W,(Bo false)] M0 fun p u=>aC p 0 fun Z=>aC p 1 fun X=>Q X u)
def lW (p1:Nat) (p2 p3 p4 p5:ai) (p6:Nat) (p7:ai) (a0 a1:AV) (M0:RM) (Q:ah) : Prop:=bG (di 1 a0 (some a1) none none) fun L=>bX p1 2 [(N .u8 0)] [(0,1,(N .u8 13)),(1,1,(N .u8 10))] fun I A=>aV I A M0 fun O v=>kX O v fun P w=>p2 [L,P] w fun l m=>aC l 0 fun e=>aC l 1 fun vr=>aC l 2 fun t=>fF t fun h=>aa h true (fun c=>c e m) (fun c=>c .undef m) fun R p=>aa h true (fun G=>bg R fun S=>G S p) (fun c=>c .undef p) fun U r=>aa h true (fun H=>af .gtr U (N .i64 10) fun V=>H V r) (fun c=>c .undef r) fun W g=>ay h W (Bo false) fun X=>ak X ( Q (.tup [(N .i64 0),(N .i64 0),(N .i64 14)]) g) ( fF t fun Y=>ak Y ( Q (.tup [(N .i64 0),(N .i64 0),(N .i64 15)]) g) ( eD g e fun Z=>p3 [Z,(N .i64 1),(N .i64 8)] g fun va s=>fF va fun d=>aa d false (fun B=>B e s) (fun c=>c .undef s) fun vb i=>aa d false (fun C=>eD i vb fun vc=>C vc i) (fun c=>c .undef i) fun vd n=>aa d false (fun D=>p4 [vd] n fun ve x=>D ve x) (fun c=>c .undef n) fun vf o=>aa d false (fun E=>p5 [vf,(.fn (.func p6) [] [])] o fun vg y=>E vg y) (fun c=>c .undef o) fun vh q=>aa d false (fun F=>fF vh fun vi=>F vi q) (fun c=>c .undef q) fun vj j=>ay d (Bo true) vj fun vk=>ak vk ( Q (.tup [(N .i64 0),(N .i64 0),(N .i64 14)]) j) ( eD j e fun vl=>p7 [vl,(N .i64 16),(N .i64 64)] j fun u z=>aC u 0 fun vm=>aC u 1 fun vs=>gM .i64 vm fun vn=>bg e fun vo=>af .add a1 vo fun vp=>af .add vp (N .i64 2) fun vq=>Q (.tup [vn,vq,(N .i64 0)]) z)))
def iU (p1:ai) (a0:AV) (M0:RM) (Q:ah) : Prop:=af .geq a0 (N .u8 97) fun e=>aa e true (fun c=>c a0 M0) (fun c=>c .undef M0) fun B h=>aa e true (fun p=>af .leq B (N .u8 122) fun C=>p C h) (fun c=>c .undef h) fun D j=>ay e D (Bo false) fun g=>aa g false (fun r=>r a0 j) (fun c=>c .undef j) fun u l=>aa g false (fun s=>p1 [u] l fun v o=>s v o) (fun c=>c .undef l) fun w m=>ay g (Bo true) w fun d=>aa d false (fun t=>t a0 m) (fun c=>c .undef m) fun x i=>aa d false (fun q=>af .eql x (N .u8 45) fun y=>q y i) (fun c=>c .undef i) fun z n=>ay d (Bo true) z fun A=>Q A n
def iD (a0:AV) (M0:RM) (Q:ah) : Prop:=af .geq a0 (N .u8 32) fun d=>aa d true (fun c=>c a0 M0) (fun c=>c .undef M0) fun s g=>aa d true (fun l=>af .leq s (N .u8 126) fun t=>l t g) (fun c=>c .undef g) fun u h=>ay d u (Bo false) fun e=>aa e false (fun m=>m a0 h) (fun c=>c .undef h) fun o i=>aa e false (fun n=>af .eql o (N .u8 9) fun p=>n p i) (fun c=>c .undef i) fun q j=>ay e (Bo true) q fun r=>Q r j
def eH (p1 p2:Nat) (p3 p4:ai) (p5:Nat) (a0 a1 a2 a3 a4:AV) (M0:RM) (Q:ah) : Prop:=dF (fun G=>af .lss a2 (N .i64 2) fun i=>aa i false (fun c=>c a2 M0) (fun c=>c .undef M0) fun vf p=>aa i false (fun Y=>af .eql vf (N .i64 10) fun vg=>Y vg p) (fun c=>c .undef p) fun vh s=>ay i (Bo true) vh fun j=>aa j false (fun Z=>Z a2 s) (fun c=>c .undef s) fun vi v=>aa j false (fun va=>af .gtr vi (N .i64 36) fun vj=>va vj v) (fun c=>c .undef v) fun vk V=>ay j (Bo true) vk fun vl=>ak vl ( False) ( G [] V)) (fun wb W=>aV (.row [(N .u8 0),(N .u8 0),(N .u8 0),(N .u8 0),(N .u8 0),(N .u8 0),(N .u8 0),(N .u8 0),(N .u8 0),(N .u8 0),(N .u8 0),(N .u8 0),(N .u8 0),(N .u8 0),(N .u8 0),(N .u8 0),(N .u8 0),(N .u8 0),(N .u8 0),(N .u8 0),(N .u8 0),(N .u8 0),(N .u8 0),(N .u8 0),(N .u8 0),(N .u8 0),(N .u8 0),(N .u8 0),(N .u8 0),(N .u8 0),(N .u8 0),(N .u8 0),(N .u8 0),(N .u8 0),(N .u8 0),(N .u8 0),(N .u8 0),(N .u8 0),(N .u8 0),(N .u8 0),(N .u8 0),(N .u8 0),(N .u8 0),(N .u8 0),(N .u8 0),(N .u8 0),(N .u8 0),(N .u8 0),(N .u8 0),(N .u8 0),(N .u8 0),(N .u8 0),(N .u8 0),(N .u8 0),(N .u8 0),(N .u8 0),(N .u8 0),(N .u8 0),(N .u8 0),(N .u8 0),(N .u8 0),(N .u8 0),(N .u8 0),(N .u8 0),(N .u8 0)] false p2 0) (fun X=>.ptr X 0) W fun d w=>dF (fun m=>ak a3 ( EC a1 fun vm=>m [vm] w) ( m [a1] w)) (fun D H=>dF (fun n=>p3 [a2] H fun vn q=>ak vn ( gM .u64 a2 fun vo=>p4 [vo] q fun vp I=>gM .u64 vp fun vq=>gM .u64 a2 fun vr=>gM .u64 a2 fun vs=>af .sub vs (N .u64 1) fun vt=>fI (fun vb e r=>af .geq (au e 0) vr fun vu=>ak vu ( af .sub (au e 1) (N .i64 1) fun x=>af .and (au e 0) vt fun vv=>dN (St [48,49,50,51,52,53,54,55,56,57,97,98,99,100,101,102,103,104,105,106,107,108,109,110,111,112,113,114,115,116,117,118,119,120,121,122]) vv fun vw=>mi d x 65 1 fun vx=>aF r vx vw 1 fun L=>xY .shr (au e 0) vq fun vy=>vb [vy,x] L) ( af .sub (au e 1) (N .i64 1) fun y=>dN (St [48,49,50,51,52,53,54,55,56,57,97,98,99,100,101,102,103,104,105,106,107,108,109,110,111,112,113,114,115,116,117,118,119,120,121,122]) (au e 0) fun vz=>mi d y 65 1 fun v0=>aF r v0 vz 1 fun O=>n [y] O)) [(au D 0),(N .i64 65)] I) ( gM .u64 a2 fun l=>fI (fun vc g t=>af .geq (au g 0) l fun v1=>ak v1 ( af .sub (au g 1) (N .i64 1) fun z=>af .quo (au g 0) l fun A=>af .mul A l fun v2=>af .sub (au g 0) v2 fun v3=>dN (St [48,49,50,51,52,53,54,55,56,57,97,98,99,100,101,102,103,104,105,106,107,108,109,110,111,112,113,114,115,116,117,118,119,120,121,122]) v3 fun v4=>mi d z 65 1 fun v5=>aF t v5 v4 1 fun P=>vc [A,z] P) ( af .sub (au g 1) (N .i64 1) fun B=>dN (St [48,49,50,51,52,53,54,55,56,57,97,98,99,100,101,102,103,104,105,106,107,108,109,110,111,112,113,114,115,116,117,118,119,120,121,122]) (au g 0) fun v6=>mi d B 65 1 fun v7=>aF t v7 v6 1 fun R=>n [B] R)) [(au D 0),(N .i64 65)] q)) (fun E u=>dF (fun o=>ak a3 ( af .sub (au E 0) (N .i64 1) fun C=>mi d C 65 1 fun v8=>aF u v8 (N .u8 45) 1 fun S=>o [C] S) ( o [(au E 0)] u)) (fun F h=>ak a4 ( bG (pO 65 1 d (some (au F 0)) none) fun v9=>appW p5 1 1 [(N .u8 0)] false a0 v9 h fun wa U=>Q (.tup [wa,(St [])]) U) ( bG (pO 65 1 d (some (au F 0)) none) fun vd=>eD h vd fun ve=>Q (.tup [(.sc (.slice none 0 0)),ve]) h)))))
def bJ (p1:ai) (p2:Nat) (p3 p4 p5:ai) (a0 a1:AV) (M0:RM) (Q:ah) : Prop:=bW a1 fun e=>af .eql e (N .i64 0) fun q=>aa q false (fun c=>c a1 M0) (fun c=>c .undef M0) fun w2 w=>aa q false (fun vk=>vk a0 w) (fun c=>c .undef w) fun w3 x=>aa q false (fun vn=>aW .eql w2 w3 fun w4=>vn w4 x) (fun c=>c .undef x) fun w5 h=>ay q (Bo true) w5 fun w6=>ak w6 ( Q (N .i64 0) h) ( af .eql e (N .i64 1) fun w7=>ak w7 ( dN a1 (N .i64 0) fun w8=>p1 [a0,w8] h fun w9 vj=>Q w9 vj) ( bW a0 fun xa=>af .geq e xa fun xb=>ak xb ( Q (N .i64 (-1)) h) ( ax h (BD h p2) fun xc=>af .leq e xc fun r=>aa r true (fun v3=>v3 a0 h) (fun c=>c .undef h) fun xd vb=>aa r true (fun v8=>bW xd fun xe=>v8 xe vb) (fun c=>c .undef vb) fun xf y=>aa r true (fun vl=>af .leq xf (N .i64 64) fun xg=>vl xg y) (fun c=>c .undef y) fun xh z=>ay r xh (Bo false) fun xi=>ak xi ( p3 [a0,a1] z fun xj vh=>Q xj vh) ( dN a1 (N .i64 0) fun vf=>dN a1 (N .i64 1) fun xk=>bW a0 fun xl=>af .sub xl e fun xm=>af .add xm (N .i64 1) fun t=>fI (fun v9 j s=>af .lss (au j 0) t fun xn=>ak xn ( dF (fun v=>dN a0 (au j 0) fun xo=>af .neq xo vf fun xp=>ak xp ( af .add (au j 0) (N .i64 1) fun xq=>bG (bY a0 (some xq) (some t)) fun xr=>p1 [xr,vf] s fun vg A=>af .lss vg (N .i64 0) fun xs=>ak xs ( Q (N .i64 (-1)) A) ( af .add vg (N .i64 1) fun xt=>af .add (au j 0) xt fun xu=>v [xu] A)) ( v [(au j 0)] s)) (fun o B=>af .add (au o 0) (N .i64 1) fun xv=>dN a0 xv fun xw=>af .eql xw xk fun d=>aa d true (fun vm=>vm a0 B) (fun c=>c .undef B) fun xx C=>aa d true (fun vo=>vo (au o 0) C) (fun c=>c .undef C) fun xy D=>aa d true (fun vp=>vp (au o 0) D) (fun c=>c .undef D) fun xz E=>aa d true (fun vq=>vq e E) (fun c=>c .undef E) fun x0 F=>aa d true (fun vr=>af .add xz x0 fun x1=>vr x1 F) (fun c=>c .undef F) fun x2 G=>aa d true (fun vs=>bG (bY xx (some xy) (some x2)) fun x3=>vs x3 G) (fun c=>c .undef G) fun x4 H=>aa d true (fun vt=>vt a1 H) (fun c=>c .undef H) fun x5 I=>aa d true (fun vu=>aW .eql x4 x5 fun x6=>vu x6 I) (fun c=>c .undef I) fun x7 l=>ay d x7 (Bo false) fun x8=>ak x8 ( Q (au o 0) l) ( af .add (au o 0) (N .i64 1) fun g=>af .add (au j 1) (N .i64 1) fun u=>ax l (BD l p2) fun wa=>af .leq e wa fun n=>aa n true (fun vv=>vv u l) (fun c=>c .undef l) fun wb L=>aa n true (fun vw=>vw g L) (fun c=>c .undef L) fun wc O=>aa n true (fun vx=>p4 [wc] O fun wd vi=>vx wd vi) (fun c=>c .undef O) fun we P=>aa n true (fun vy=>af .gtr wb we fun wf=>vy wf P) (fun c=>c .undef P) fun wg m=>ay n wg (Bo false) fun wh=>ak wh ( bG (bY a0 (some g) none) fun wi=>p3 [wi,a1] m fun vd R=>af .geq vd (N .i64 0) fun wj=>ak wj ( af .add vd g fun wk=>Q wk R) ( Q (N .i64 (-1)) R)) ( ax m (BD m p2) fun wl=>af .gtr e wl fun i=>aa i true (fun vz=>vz u m) (fun c=>c .undef m) fun wm S=>aa i true (fun v0=>v0 g S) (fun c=>c .undef S) fun wn U=>aa i true (fun v1=>xY .shr wn (N .u64 4) fun wo=>v1 wo U) (fun c=>c .undef U) fun wp V=>aa i true (fun v2=>af .add (N .i64 4) wp fun wq=>v2 wq V) (fun c=>c .undef V) fun wr W=>aa i true (fun v4=>af .geq wm wr fun ws=>v4 ws W) (fun c=>c .undef W) fun wt X=>ay i wt (Bo false) fun p=>aa p true (fun v5=>v5 g X) (fun c=>c .undef X) fun wu Y=>aa p true (fun v6=>v6 t Y) (fun c=>c .undef Y) fun wv Z=>aa p true (fun v7=>af .lss wu wv fun ww=>v7 ww Z) (fun c=>c .undef Z) fun wx va=>ay p wx (Bo false) fun wy=>ak wy ( bG (bY a0 (some g) none) fun wz=>p5 [wz,a1] va fun ve vc=>af .lss ve (N .i64 0) fun w0=>ak w0 ( Q (N .i64 (-1)) vc) ( af .add g ve fun w1=>Q w1 vc)) ( v9 [g,u] va))))) ( Q (N .i64 (-1)) s)) [(N .i64 0),(N .i64 0)] z))))
def rV (p1:ai) (a0 a1:AV) (M0:RM) (Q:ah) : Prop:=p1 [a0,a1] M0 fun c d=>af .geq c (N .i64 0) fun e=>ak e ( bG (di 1 a0 none (some c) none) fun g=>bg a1 fun h=>af .add c h fun i=>bG (di 1 a0 (some i) none none) fun j=>Q (.tup [g,j,(Bo true)]) d) ( Q (.tup [a0,(.sc (.slice none 0 0)),(Bo false)]) d)
def kL (p1:ai) (a0:AV) (M0:RM) (Q:ah) : Prop:=p1 [a0] M0 fun d g=>aa d false (fun c=>c a0 g) (fun c=>c .undef g) fun y h=>aa d false (fun o=>af .geq y (N .u8 97) fun z=>o z h) (fun c=>c .undef h) fun A j=>aa d false (fun q=>q A j) (fun c=>c .undef j) fun e l=>aa e true (fun r=>r a0 l) (fun c=>c .undef l) fun B m=>aa e true (fun s=>af .leq B (N .u8 102) fun t=>s t m) (fun c=>c .undef m) fun u i=>aa d false (fun p=>ay e u (Bo false) fun v=>p v i) (fun c=>c .undef i) fun w n=>ay d (Bo true) w fun x=>Q x n
def jB (p1 p2:ai) (a0 a1 a2:AV) (M0:RM) (Q:ah) : Prop:=p1 [a0,a1,a2] M0 fun d c=>aC d 0 fun e=>aC d 1 fun g=>Jw true g (.sc .nilIface) fun i=>ak i ( p2 [(St [80,97,114,115,101,85,105,110,116]),a0,a1,a2,g] c fun j h=>Q (.tup [e,j]) h) ( Q (.tup [e,(.sc .nilIface)]) c)
def eT (p1:Nat) (p2:ai) (p3:Nat) (p4:ai) (a0 a1 a2:AV) (M0:RM) (Q:ah) : Prop:=aW .eql a0 (St []) fun xt=>ak xt ( Q (.tup [(N .u64 0),(.ifc p1 (N .i64 2))]) M0) ( af .eql a1 (N .i64 0) fun xu=>dF (fun g=>af .leq (N .i64 2) a1 fun z=>aa z true (fun c=>c a1 M0) (fun c=>c .undef M0) fun xv G=>aa z true (fun vz=>af .leq xv (N .i64 36) fun xw=>vz xw G) (fun c=>c .undef G) fun xx i=>ay z xx (Bo false) fun xy=>ak xy ( g [a0,a1] i) ( af .eql a1 (N .i64 0) fun xz=>ak xz ( dN a0 (N .i64 0) fun x0=>af .eql x0 (N .u8 48) fun x1=>ak x1 ( bW a0 fun x3=>af .geq x3 (N .i64 3) fun l=>aa l true (fun v7=>v7 a0 i) (fun c=>c .undef i) fun x4 V=>aa l true (fun wc=>dN x4 (N .i64 1) fun x5=>wc x5 V) (fun c=>c .undef V) fun x6 vd=>aa l true (fun wl=>p2 [x6] vd fun x7 vx=>wl x7 vx) (fun c=>c .undef vd) fun x8 H=>aa l true (fun v0=>af .eql x8 (N .u8 98) fun x9=>v0 x9 H) (fun c=>c .undef H) fun ya s=>ay l ya (Bo false) fun yb=>ak yb ( bG (bY a0 (some (N .i64 2)) none) fun yc=>g [yc,(N .i64 2)] s) ( bW a0 fun yd=>af .geq yd (N .i64 3) fun m=>aa m true (fun v1=>v1 a0 s) (fun c=>c .undef s) fun ye I=>aa m true (fun v2=>dN ye (N .i64 1) fun yf=>v2 yf I) (fun c=>c .undef I) fun yg L=>aa m true (fun v3=>p2 [yg] L fun yh vp=>v3 yh vp) (fun c=>c .undef L) fun yi O=>aa m true (fun v4=>af .eql yi (N .u8 111) fun yj=>v4 yj O) (fun c=>c .undef O) fun yk t=>ay m yk (Bo false) fun yl=>ak yl ( bG (bY a0 (some (N .i64 2)) none) fun ym=>g [ym,(N .i64 8)] t) ( bW a0 fun yn=>af .geq yn (N .i64 3) fun n=>aa n true (fun v5=>v5 a0 t) (fun c=>c .undef t) fun yo P=>aa n true (fun v6=>dN yo (N .i64 1) fun yp=>v6 yp P) (fun c=>c .undef P) fun yq R=>aa n true (fun v8=>p2 [yq] R fun yr vq=>v8 yr vq) (fun c=>c .undef R) fun ys S=>aa n true (fun v9=>af .eql ys (N .u8 120) fun yt=>v9 yt S) (fun c=>c .undef S) fun yu U=>ay n yu (Bo false) fun yv=>ak yv ( bG (bY a0 (some (N .i64 2)) none) fun yw=>g [yw,(N .i64 16)] U) ( bG (bY a0 (some (N .i64 1)) none) fun x2=>g [x2,(N .i64 8)] U)))) ( g [a0,(N .i64 10)] i)) ( Q (.tup [(N .u64 0),(.ifc p1 (N .i64 3))]) i))) (fun h u=>dF (fun D=>af .eql a2 (N .i64 0) fun yx=>ak yx ( D [(N .i64 64)] u) ( af .lss a2 (N .i64 0) fun A=>aa A false (fun wa=>wa a2 u) (fun c=>c .undef u) fun yy W=>aa A false (fun wb=>af .gtr yy (N .i64 64) fun yz=>wb yz W) (fun c=>c .undef W) fun y0 X=>ay A (Bo true) y0 fun y1=>ak y1 ( Q (.tup [(N .u64 0),(.ifc p1 (N .i64 4))]) X) ( D [a2] X))) (fun y9 v=>dF (fun r=>af .eql (au h 1) (N .i64 10) fun y5=>ak y5 ( r [(N .u64 1844674407370955162)] v) ( af .eql (au h 1) (N .i64 16) fun y6=>ak y6 ( r [(N .u64 1152921504606846976)] v) ( gM .u64 (au h 1) fun y2=>af .quo (N .u64 18446744073709551615) y2 fun y3=>af .add y3 (N .u64 1) fun y4=>r [y4] v))) (fun za vr=>gM .u64 (au y9 0) fun y7=>xY .shl (N .u64 1) y7 fun y8=>af .sub y8 (N .u64 1) fun B=>jl p3 (au h 0) fun wr vy=>aV wr vy vr fun vn vs=>bg vn fun ws=>fI (fun wq d j=>af .lss (au d 2) ws fun wt=>ak wt ( dF (fun E=>dz vn (au d 2) 1 fun wu=>ax j wu fun e=>dF (fun F=>af .eql e (N .u8 95) fun vl=>aa vl true (fun wd=>wd xu j) (fun c=>c .undef j) fun wv w=>ay vl wv (Bo false) fun ww=>ak ww ( E [(Bo true),(au d 1)] w) ( af .leq (N .u8 48) e fun x=>aa x true (fun we=>we e w) (fun c=>c .undef w) fun wx Y=>aa x true (fun wf=>af .leq wx (N .u8 57) fun wy=>wf wy Y) (fun c=>c .undef Y) fun wz Z=>ay x wz (Bo false) fun w0=>ak w0 ( af .sub e (N .u8 48) fun w1=>F [(au d 0),w1] Z) ( p2 [e] Z fun w2 va=>af .leq (N .u8 97) w2 fun p=>aa p true (fun wg=>wg e va) (fun c=>c .undef va) fun w3 vb=>aa p true (fun wh=>p2 [w3] vb fun w4 vt=>wh w4 vt) (fun c=>c .undef vb) fun w5 vc=>aa p true (fun wi=>af .leq w5 (N .u8 122) fun w6=>wi w6 vc) (fun c=>c .undef vc) fun w7 ve=>ay p w7 (Bo false) fun w8=>ak w8 ( p2 [e] ve fun w9 vu=>af .sub w9 (N .u8 97) fun xa=>af .add xa (N .u8 10) fun xb=>F [(au d 0),xb] vu) ( Q (.tup [(N .u64 0),(.ifc p1 (N .i64 2))]) ve)))) (fun C o=>gM .u8 (au h 1) fun xc=>af .geq (au C 1) xc fun xd=>ak xd ( Q (.tup [(N .u64 0),(.ifc p1 (N .i64 2))]) o) ( af .geq (au d 1) (au za 0) fun xe=>ak xe ( Q (.tup [B,(.ifc p1 (N .i64 1))]) o) ( gM .u64 (au h 1) fun xf=>af .mul (au d 1) xf fun vm=>gM .u64 (au C 1) fun xg=>af .add vm xg fun y=>af .lss y vm fun q=>aa q false (fun wj=>wj y o) (fun c=>c .undef o) fun xh vf=>aa q false (fun wk=>wk B vf) (fun c=>c .undef vf) fun xi vg=>aa q false (fun wm=>af .gtr xh xi fun xj=>wm xj vg) (fun c=>c .undef vg) fun xk vh=>ay q (Bo true) xk fun xl=>ak xl ( Q (.tup [B,(.ifc p1 (N .i64 1))]) vh) ( E [(au C 0),y] vh))))) (fun vo vv=>af .add (au d 2) (N .i64 1) fun xm=>wq [(au vo 0),(au vo 1),xm] vv)) ( aa (au d 0) true (fun wn=>wn a0 j) (fun c=>c .undef j) fun xn vi=>aa (au d 0) true (fun wo=>p4 [xn] vi fun xo vw=>wo xo vw) (fun c=>c .undef vi) fun xp vj=>aa (au d 0) true (fun wp=>fF xp fun xq=>wp xq vj) (fun c=>c .undef vj) fun xr vk=>ay (au d 0) xr (Bo false) fun xs=>ak xs ( Q (.tup [(N .u64 0),(.ifc p1 (N .i64 2))]) vk) ( Q (.tup [(au d 1),(.sc .nilIface)]) vk))) [(Bo false),(N .u64 0),(N .i64 0)] vs))))
def ed (a0:AV) (M0:RM) (Q:ah) : Prop:=af .sub a0 (N .i64 1) fun c=>af .and a0 c fun d=>af .eql d (N .i64 0) fun e=>Q e M0
def gF (a0:AV) (M0:RM) (Q:ah) : Prop:=af .or a0 (N .u8 32) fun c=>Q c M0
end Go.Ab.Hw
namespace Go.Ab.Vl
open Go Go.Ab
def nZ (p1:ai) (a0 a1:AV) (M0:RM) (Q:ah) : Prop:=p1 [a0,a1] M0 fun c d=>aC c 0 fun e=>aC c 1 fun g=>aC c 2 fun h=>Q (.tup [e,g,h]) d
def gJ (p1:ai) (a0 a1:AV) (M0:RM) (Q:ah) : Prop:=p1 [a0,a1] M0 fun d c=>Q d c
def pV (p1:ai) (a0:AV) (M0:RM) (Q:ah) : Prop:=bW a0 fun z=>af .geq z (N .i64 1) fun e=>aa e true (fun c=>c a0 M0) (fun c=>c .undef M0) fun A g=>aa e true (fun o=>bW A fun B=>o B g) (fun c=>c .undef g) fun C i=>aa e true (fun q=>af .leq C (N .i64 20) fun D=>q D i) (fun c=>c .undef i) fun E j=>ay e E (Bo false) fun d=>aa d true (fun r=>r a0 j) (fun c=>c .undef j) fun t l=>aa d true (fun s=>p1 [t,(St [97,98,99,100,101,102,103,104,105,106,107,108,109,110,111,112,113,114,115,116,117,118,119,120,121,122,48,49,50,51,52,53,54,55,56,57,45])] l fun u n=>s u n) (fun c=>c .undef l) fun v h=>aa d true (fun p=>aW .eql v (St []) fun w=>p w h) (fun c=>c .undef h) fun x m=>ay d x (Bo false) fun y=>Q y m
def om (p1:Nat) (p2 p3 p4:ai) (a0 a1:AV) (M0:RM) (Q:ah) : Prop:=jl p1 a0 fun x s=>aV x s M0 fun o p=>bg o fun O=>fI (fun w g e=>af .lss (au g 0) O fun y=>ak y ( dz o (au g 0) 1 fun z=>ax e z fun n=>p2 [n] e fun A h=>fF A fun d=>aa d false (fun c=>c a1 h) (fun c=>c .undef h) fun B j=>aa d false (fun t=>t n j) (fun c=>c .undef j) fun C l=>aa d false (fun u=>p3 [B,C] l fun D r=>u D r) (fun c=>c .undef l) fun E m=>aa d false (fun v=>af .geq E (N .i64 0) fun F=>v F m) (fun c=>c .undef m) fun G i=>ay d (Bo true) G fun H=>ak H ( Q (Bo false) i) ( af .add (au g 0) (N .i64 1) fun I=>w [I] i)) ( p4 [a0] e fun L q=>Q L q)) [(N .i64 0)] p
def mO (p1:ai) (a0 a1:AV) (M0:RM) (Q:ah) : Prop:=p1 [a0,a1] M0 fun d c=>Q d c
def fT (p1:ai) (a0 a1:AV) (M0:RM) (Q:ah) : Prop:=p1 [a0,a1] M0 fun c d=>af .geq c (N .i64 0) fun e=>ak e ( bG (bY a0 none (some c)) fun g=>bW a1 fun h=>af .add c h fun i=>bG (bY a0 (some i) none) fun j=>Q (.tup [g,j,(Bo true)]) d) ( Q (.tup [a0,(St []),(Bo false)]) d)
def sw (p1 p2 p3:ai) (p4:Nat) (p5 p6 p7 p8:ai) (a0 a1:AV) (M0:RM) (Q:ah) : Prop:=aW .eql a0 (St []) fun h=>aa h false (fun c=>c a1 M0) (fun c=>c .undef M0) fun C i=>aa h false (fun y=>aW .eql C (St []) fun D=>y D i) (fun c=>c .undef i) fun E e=>ay h (Bo true) E fun F=>ak F ( Q a0 e) ( bW a1 fun G=>af .eql G (N .i64 1) fun d=>aa d true (fun z=>z a1 e) (fun c=>c .undef e) fun H m=>aa d true (fun A=>dN H (N .i64 0) fun I=>A I m) (fun c=>c .undef m) fun L n=>aa d true (fun B=>af .lss L (N .u8 128) fun O=>B O n) (fun c=>c .undef n) fun P j=>ay d P (Bo false) fun R=>ak R ( dN a1 (N .i64 0) fun S=>dN a1 (N .i64 0) fun V=>p1 [a0,S] j fun U p=>p2 [U,V] p fun W q=>Q W q) ( p3 [a1] j fun o r=>aC o 0 fun X=>aC o 1 fun Y=>aV (.row [(Bo false),(Bo false),(Bo false),(Bo false),(Bo false),(Bo false),(Bo false),(Bo false),(Bo false),(Bo false),(Bo false),(Bo false),(Bo false),(Bo false),(Bo false),(Bo false),(Bo false),(Bo false),(Bo false),(Bo false),(Bo false),(Bo false),(Bo false),(Bo false),(Bo false),(Bo false),(Bo false),(Bo false),(Bo false),(Bo false),(Bo false),(Bo false),(Bo false),(Bo false),(Bo false),(Bo false),(Bo false),(Bo false),(Bo false),(Bo false),(Bo false),(Bo false),(Bo false),(Bo false),(Bo false),(Bo false),(Bo false),(Bo false),(Bo false),(Bo false),(Bo false),(Bo false),(Bo false),(Bo false),(Bo false),(Bo false),(Bo false),(Bo false),(Bo false),(Bo false),(Bo false),(Bo false),(Bo false),(Bo false),(Bo false),(Bo false),(Bo false),(Bo false),(Bo false),(Bo false),(Bo false),(Bo false),(Bo false),(Bo false),(Bo false),(Bo false),(Bo false),(Bo false),(Bo false),(Bo false),(Bo false),(Bo false),(Bo false),(Bo false),(Bo false),(Bo false),(Bo false),(Bo false),(Bo false),(Bo false),(Bo false),(Bo false),(Bo false),(Bo false),(Bo false),(Bo false),(Bo false),(Bo false),(Bo false),(Bo false),(Bo false),(Bo false),(Bo false),(Bo false),(Bo false),(Bo false),(Bo false),(Bo false),(Bo false),(Bo false),(Bo false),(Bo false),(Bo false),(Bo false),(Bo false),(Bo false),(Bo false),(Bo false),(Bo false),(Bo false),(Bo false),(Bo false),(Bo false),(Bo false),(Bo false),(Bo false),(Bo false),(Bo false),(Bo false),(Bo false),(Bo false),(Bo false),(Bo false),(Bo false),(Bo false),(Bo false),(Bo false),(Bo false),(Bo false),(Bo false),(Bo false),(Bo false),(Bo false),(Bo false),(Bo false),(Bo false),(Bo false),(Bo false),(Bo false),(Bo false),(Bo false),(Bo false),(Bo false),(Bo false),(Bo false),(Bo false),(Bo false),(Bo false),(Bo false),(Bo false),(Bo false),(Bo false),(Bo false),(Bo false),(Bo false),(Bo false),(Bo false),(Bo false),(Bo false),(Bo false),(Bo false),(Bo false),(Bo false),(Bo false),(Bo false),(Bo false),(Bo false),(Bo false),(Bo false),(Bo false),(Bo false),(Bo false),(Bo false),(Bo false),(Bo false),(Bo false),(Bo false),(Bo false),(Bo false),(Bo false),(Bo false),(Bo false),(Bo false),(Bo false),(Bo false),(Bo false),(Bo false),(Bo false),(Bo false),(Bo false),(Bo false),(Bo false),(Bo false),(Bo false),(Bo false),(Bo false),(Bo false),(Bo false),(Bo false),(Bo false),(Bo false),(Bo false),(Bo false),(Bo false),(Bo false),(Bo false),(Bo false),(Bo false),(Bo false),(Bo false),(Bo false),(Bo false),(Bo false),(Bo false),(Bo false),(Bo false),(Bo false),(Bo false),(Bo false),(Bo false),(Bo false),(Bo false),(Bo false),(Bo false),(Bo false),(Bo false),(Bo false),(Bo false),(Bo false),(Bo false),(Bo false),(Bo false),(Bo false),(Bo false),(Bo false),(Bo false),(Bo false),(Bo false),(Bo false),(Bo false),(Bo false),(Bo false),(Bo false),(Bo false),(Bo false),(Bo false)] false p4 0) (fun x=>.ptr x 0) r fun g s=>aF s g X 256 fun l=>ak Y ( p5 [a0,g] l fun Z t=>p6 [Z,g] t fun va u=>Q va u) ( p7 [a0,a1] l fun vb v=>p8 [vb,a1] v fun vc w=>Q vc w)))
def uO (p1:Nat) (a0:AV) (M0:RM) (Q:ah) : Prop:=jl p1 a0 fun t q=>aV t q M0 fun e n=>bg e fun F=>fI (fun s g c=>af .lss (au g 0) F fun u=>ak u ( dF (fun j=>dz e (au g 0) 1 fun v=>ax c v fun h=>af .geq h (N .u8 65) fun i=>aa i true (fun d=>d h c) (fun d=>d .undef c) fun w l=>aa i true (fun r=>af .leq w (N .u8 90) fun x=>r x l) (fun d=>d .undef l) fun y m=>ay i y (Bo false) fun z=>ak z ( af .add h (N .u8 97) fun A=>af .sub A (N .u8 65) fun B=>dz e (au g 0) 1 fun C=>aF m C B 1 fun o=>j [] o) ( j [] m)) (fun G p=>af .add (au g 0) (N .i64 1) fun D=>s [D] p)) ( eD c e fun E=>Q E c)) [(N .i64 0)] n
def dM (a0 a1:AV) (M0:RM) (Q:ah) : Prop:=bW a0 fun B=>bW a1 fun C=>af .geq B C fun d=>aa d true (fun c=>c a0 M0) (fun c=>c .undef M0) fun r e=>aa d true (fun m=>m a1 e) (fun c=>c .undef e) fun s g=>aa d true (fun o=>bW s fun t=>o t g) (fun c=>c .undef g) fun u h=>aa d true (fun p=>bG (bY r none (some u)) fun v=>p v h) (fun c=>c .undef h) fun w i=>aa d true (fun q=>q a1 i) (fun c=>c .undef i) fun x j=>aa d true (fun n=>aW .eql w x fun y=>n y j) (fun c=>c .undef j) fun z l=>ay d z (Bo false) fun A=>Q A l
def bJ (p1 p2 p3 p4:ai) (a0 a1:AV) (M0:RM) (Q:ah) : Prop:=bW a1 fun e=>af .eql e (N .i64 0) fun q=>aa q false (fun c=>c a1 M0) (fun c=>c .undef M0) fun w2 w=>aa q false (fun vk=>vk a0 w) (fun c=>c .undef w) fun w3 x=>aa q false (fun vn=>aW .eql w2 w3 fun w4=>vn w4 x) (fun c=>c .undef x) fun w5 h=>ay q (Bo true) w5 fun w6=>ak w6 ( Q (N .i64 0) h) ( af .eql e (N .i64 1) fun w7=>ak w7 ( dN a1 (N .i64 0) fun w8=>p1 [a0,w8] h fun w9 vj=>Q w9 vj) ( bW a0 fun xa=>af .geq e xa fun xb=>ak xb ( Q (N .i64 (-1)) h) ( ax h .top fun xc=>af .leq e xc fun r=>aa r true (fun v3=>v3 a0 h) (fun c=>c .undef h) fun xd vb=>aa r true (fun v8=>bW xd fun xe=>v8 xe vb) (fun c=>c .undef vb) fun xf y=>aa r true (fun vl=>af .leq xf (N .i64 64) fun xg=>vl xg y) (fun c=>c .undef y) fun xh z=>ay r xh (Bo false) fun xi=>ak xi ( p2 [a0,a1] z fun xj vh=>Q xj vh) ( dN a1 (N .i64 0) fun vf=>dN a1 (N .i64 1) fun xk=>bW a0 fun xl=>af .sub xl e fun xm=>af .add xm (N .i64 1) fun t=>fI (fun v9 j s=>af .lss (au j 0) t fun xn=>ak xn ( dF (fun v=>dN a0 (au j 0) fun xo=>af .neq xo vf fun xp=>ak xp ( af .add (au j 0) (N .i64 1) fun xq=>bG (bY a0 (some xq) (some t)) fun xr=>p1 [xr,vf] s fun vg A=>af .lss vg (N .i64 0) fun xs=>ak xs ( Q (N .i64 (-1)) A) ( af .add vg (N .i64 1) fun xt=>af .add (au j 0) xt fun xu=>v [xu] A)) ( v [(au j 0)] s)) (fun m B=>af .add (au m 0) (N .i64 1) fun xv=>dN a0 xv fun xw=>af .eql xw xk fun d=>aa d true (fun vm=>vm a0 B) (fun c=>c .undef B) fun xx C=>aa d true (fun vo=>vo (au m 0) C) (fun c=>c .undef C) fun xy D=>aa d true (fun vp=>vp (au m 0) D) (fun c=>c .undef D) fun xz E=>aa d true (fun vq=>vq e E) (fun c=>c .undef E) fun x0 F=>aa d true (fun vr=>af .add xz x0 fun x1=>vr x1 F) (fun c=>c .undef F) fun x2 G=>aa d true (fun vs=>bG (bY xx (some xy) (some x2)) fun x3=>vs x3 G) (fun c=>c .undef G) fun x4 H=>aa d true (fun vt=>vt a1 H) (fun c=>c .undef H) fun x5 I=>aa d true (fun vu=>aW .eql x4 x5 fun x6=>vu x6 I) (fun c=>c .undef I) fun x7 n=>ay d x7 (Bo false) fun x8=>ak x8 ( Q (au m 0) n) ( af .add (au m 0) (N .i64 1) fun g=>af .add (au j 1) (N .i64 1) fun u=>ax n .top fun wa=>af .leq e wa fun l=>aa l true (fun vv=>vv u n) (fun c=>c .undef n) fun wb L=>aa l true (fun vw=>vw g L) (fun c=>c .undef L) fun wc O=>aa l true (fun vx=>p3 [wc] O fun wd vi=>vx wd vi) (fun c=>c .undef O) fun we P=>aa l true (fun vy=>af .gtr wb we fun wf=>vy wf P) (fun c=>c .undef P) fun wg o=>ay l wg (Bo false) fun wh=>ak wh ( bG (bY a0 (some g) none) fun wi=>p2 [wi,a1] o fun vd R=>af .geq vd (N .i64 0) fun wj=>ak wj ( af .add vd g fun wk=>Q wk R) ( Q (N .i64 (-1)) R)) ( ax o .top fun wl=>af .gtr e wl fun i=>aa i true (fun vz=>vz u o) (fun c=>c .undef o) fun wm S=>aa i true (fun v0=>v0 g S) (fun c=>c .undef S) fun wn U=>aa i true (fun v1=>xY .shr wn (N .u64 4) fun wo=>v1 wo U) (fun c=>c .undef U) fun wp V=>aa i true (fun v2=>af .add (N .i64 4) wp fun wq=>v2 wq V) (fun c=>c .undef V) fun wr W=>aa i true (fun v4=>af .geq wm wr fun ws=>v4 ws W) (fun c=>c .undef W) fun wt X=>ay i wt (Bo false) fun p=>aa p true (fun v5=>v5 g X) (fun c=>c .undef X) fun wu Y=>aa p true (fun v6=>v6 t Y) (fun c=>c .undef Y) fun wv Z=>aa p true (fun v7=>af .lss wu wv fun ww=>v7 ww Z) (fun c=>c .undef Z) fun wx va=>ay p wx (Bo false) fun wy=>ak wy ( bG (bY a0 (some g) none) fun wz=>p4 [wz,a1] va fun ve vc=>af .lss ve (N .i64 0) fun w0=>ak w0 ( Q (N .i64 (-1)) vc) ( af .add g ve fun w1=>Q w1 vc)) ( v9 [g,u] va))))) ( Q (N .i64 (-1)) s)) [(N .i64 0),(N .i64 0)] z))))
def jv (p1:ai) (a0 a1:AV) (M0:RM) (Q:ah) : Prop:=p1 [a0,a1] M0 fun c d=>aC c 0 fun g=>aC c 1 fun e=>Q (.tup [g,e]) d
def dS (p1:ai) (a0 a1:AV) (M0:RM) (Q:ah) : Prop:=p1 [a0,a1] M0 fun g c=>fF g fun h=>ak h ( Q (.tup [a0,(Bo false)]) c) ( bW a1 fun d=>bG (bY a0 (some d) none) fun e=>Q (.tup [e,(Bo true)]) c)
end Go.Ab.Vl
namespace Go.Ab
open Go Go.RowKit
def RM.cell (M:RM) (b o:Nat) : Option AV:=(M.cells b).bind (·[o]?)
section
variable {M M' : RM} {K:AV→Prop} {KQ:ah}
theorem dK {b o:Nat} {v:AV} : M.loads b o 1=some [v]↔M.cell b o=some v:=by
 unfold RM.loads RM.cell
 cases hc:M.cells b with
 | none=>simp
 | some l =>
   simp only[Option.bind_some]
   constructor
   ·intro h
    split at h
    ·rename_i hlt
     have h1:=Option.some.inj h
     have:((l.drop o).take 1)[0]?=some v:=by rw[h1]; rfl
     rw[List.getElem?_take,if_pos (by omega),List.getElem?_drop] at this
     simpa using this
    ·cases h
   ·intro h
    have hlt:=(List.getElem?_eq_some_iff.1 h).1
    rw[if_pos (by omega)]
    congr 1
    rw[List.drop_eq_getElem_cons hlt]
    simp only[List.take_succ_cons,List.take_zero]
    congr 1
    exact(List.getElem?_eq_some_iff.1 h).2
@[go_sem] theorem dE (b o:Nat) : ax M (.ptr b o) K=∃ v,M.cell b o=some v∧K v:=by
 apply propext; unfold ax
 constructor
 ·rintro⟨b',o',v,h,hl,hk⟩; cases h; exact⟨v,dK.1 hl,hk⟩
 ·rintro⟨v,hl,hk⟩; exact⟨b,o,v,rfl,dK.2 hl,hk⟩
@[go_sem] theorem vH (b o n:Nat) : bF M (.ptr b o) n K=∃ vs,M.loads b o n=some vs∧K (.agg vs):=by
 apply propext; unfold bF
 constructor
 ·rintro⟨b',o',v,h,hl,hk⟩; cases h; exact⟨v,hl,hk⟩
 ·rintro⟨v,hl,hk⟩; exact⟨b,o,v,rfl,hl,hk⟩
@[go_sem] theorem Ay (b p:Nat) (x:AV) (n:Nat) (K:RM→Prop) : aF M (.ptr b p) x n K=(x.cells.length=n∧∃ M',M.stores b p x.cells=some M'∧K M'):=by
 apply propext; unfold aF
 constructor
 ·rintro⟨b',o',M',h,h1,h2,hk⟩; cases h; exact⟨h1,M',h2,hk⟩
 ·rintro⟨h1,M',h2,hk⟩; exact⟨b,p,M',rfl,h1,h2,hk⟩
def Iq (k:IntKind) (a b:Int) : Int:=k.wrap (BitVec.ofInt k.bits a &&& BitVec.ofInt k.bits b).toNat
def Pw (k:IntKind) (a b:Int) : Int:=k.wrap (BitVec.ofInt k.bits a ||| BitVec.ofInt k.bits b).toNat
def P6 (k:IntKind) (a b:Int) : Int:=k.wrap (BitVec.ofInt k.bits a ^^^ BitVec.ofInt k.bits b).toNat
def Mf (k:IntKind) (a b:Int) : Int:=k.wrap (BitVec.ofInt k.bits a &&& ~~~BitVec.ofInt k.bits b).toNat
def MX (k:IntKind) (a b:Int) : Int:=k.wrap (a * 2 ^ (min b.toNat k.bits))
def Lj (k:IntKind) (a b:Int) : Int:=a.fdiv (2 ^ (min b.toNat k.bits))
section
variable (k:IntKind) (a b:Int)
theorem dX {op:BinOp} {v:Value} (h:pz op k a b=some v) : af op (N k a) (N k b) K=K (.sc v):=by
 apply propext; unfold af
 constructor
 ·rintro⟨k',a',b',u,h1,h2,h3,hk⟩; cases h1; cases h2; rw[h] at h3; cases h3; exact hk
 ·intro hk; exact⟨k,a,b,v,rfl,rfl,h,hk⟩
@[go_sem] theorem ui:af .add (N k a) (N k b) K=K (N k (k.wrap (a + b))):=dX k a b rfl
@[go_sem] theorem jS:af .sub (N k a) (N k b) K=K (N k (k.wrap (a - b))):=dX k a b rfl
@[go_sem] theorem K5:af .mul (N k a) (N k b) K=K (N k (k.wrap (a * b))):=dX k a b rfl
@[go_sem] theorem DR:af .and (N k a) (N k b) K=K (N k (Iq k a b)):=dX k a b rfl
@[go_sem] theorem LU:af .or (N k a) (N k b) K=K (N k (Pw k a b)):=dX k a b rfl
@[go_sem] theorem Qv:af .xor (N k a) (N k b) K=K (N k (P6 k a b)):=dX k a b rfl
@[go_sem] theorem Om:af .andNot (N k a) (N k b) K=K (N k (Mf k a b)):=dX k a b rfl
@[go_sem] theorem bB:af .eql (N k a) (N k b) K=K (Bo (a == b)):=dX k a b rfl
@[go_sem] theorem iE:af .neq (N k a) (N k b) K=K (Bo (a != b)):=dX k a b rfl
@[go_sem] theorem iG:af .lss (N k a) (N k b) K=K (Bo (decide (a<b))):=dX k a b rfl
@[go_sem] theorem qj:af .leq (N k a) (N k b) K=K (Bo (decide (a≤b))):=dX k a b rfl
@[go_sem] theorem fo:af .gtr (N k a) (N k b) K=K (Bo (decide (a > b))):=dX k a b rfl
@[go_sem] theorem dh:af .geq (N k a) (N k b) K=K (Bo (decide (a ≥ b))):=dX k a b rfl
@[go_sem] theorem KU:af .quo (N k a) (N k b) K=(b≠0∧K (N k (k.wrap (a.tdiv b)))):=by
 apply propext; unfold af pz
 constructor
 ·rintro⟨k',a',b',u,h1,h2,h3,hk⟩; cases h1; cases h2
  simp only at h3
  split at h3
  ·cases h3
  ·cases h3; exact⟨‹_›,hk⟩
 ·rintro⟨h0,hk⟩; exact⟨k,a,b,_,rfl,rfl,by simp only[if_neg h0],hk⟩
@[go_sem] theorem Ql:af .rem (N k a) (N k b) K=(b≠0∧K (N k (a.tmod b))):=by
 apply propext; unfold af pz
 constructor
 ·rintro⟨k',a',b',u,h1,h2,h3,hk⟩; cases h1; cases h2
  simp only at h3
  split at h3
  ·cases h3
  ·cases h3; exact⟨‹_›,hk⟩
 ·rintro⟨h0,hk⟩; exact⟨k,a,b,_,rfl,rfl,by simp only[if_neg h0],hk⟩
variable (l:IntKind)
@[go_sem] theorem L9:xY .shl (N k a) (N l b) K=(0≤b∧K (N k (MX k a b))):=by
 apply propext; unfold xY Ai
 constructor
 ·rintro⟨k',a',l',b',u,h1,h2,h3,hk⟩; cases h1; cases h2
  split at h3
  ·cases h3
  ·cases h3; exact⟨by omega,hk⟩
 ·rintro⟨h0,hk⟩; exact⟨k,a,l,b,_,rfl,rfl,by rw[if_neg (by omega)]; rfl,hk⟩
@[go_sem] theorem Mk:xY .shr (N k a) (N l b) K=(0≤b∧K (N k (Lj k a b))):=by
 apply propext; unfold xY Ai
 constructor
 ·rintro⟨k',a',l',b',u,h1,h2,h3,hk⟩; cases h1; cases h2
  split at h3
  ·cases h3
  ·cases h3; exact⟨by omega,hk⟩
 ·rintro⟨h0,hk⟩; exact⟨k,a,l,b,_,rfl,rfl,by rw[if_neg (by omega)]; rfl,hk⟩
@[go_sem] theorem Rl {l:IntKind} {a:Int} {K:AV→Prop} : Ih (N l a) K=K (St (Utf8.encode a).data.toList):=by
 apply propext; unfold Ih
 constructor
 ·rintro⟨l',n,h,hk⟩; cases h; exact hk
 ·intro h; exact⟨_,_,rfl,h⟩
@[go_sem] theorem kU:gM k (N l a) K=K (N k (k.wrap a)):=by
 apply propext; unfold gM
 constructor
 ·rintro⟨l',n,h,hk⟩; cases h; exact hk
 ·intro hk; exact⟨l,a,rfl,hk⟩
@[go_sem] theorem IX (mx:Bool) : Ca mx (N k a) (N k b) K=K (N k (if mx then(if b > a then b else a) else(if b<a then b else a))):=by
 apply propext; unfold Ca
 constructor
 ·rintro⟨k',a',b',h1,h2,hk⟩; cases h1; cases h2; exact hk
 ·intro hk; exact⟨k,a,b,rfl,rfl,hk⟩
@[go_sem] theorem Ro:EC (N k a) K=K (N k (k.wrap (0 - a))):=by
 apply propext; unfold EC
 constructor
 ·rintro⟨k',a',h1,hk⟩; cases h1; exact hk
 ·intro hk; exact⟨k,a,rfl,hk⟩
end
@[go_sem] theorem cB (b:Bool) : fF (Bo b) K=K (Bo (!b)):=by
 apply propext; unfold fF
 constructor
 ·rintro⟨b',h,hk⟩; cases h; exact hk
 ·intro hk; exact⟨b,rfl,hk⟩
@[go_sem] theorem Pb (neg a b:Bool) : xI neg (Bo a) (Bo b) K=K (Bo ((a == b) != neg)):=by
 apply propext; unfold xI
 constructor
 ·rintro⟨a',b',h,h',hk⟩; cases h; cases h'; exact hk
 ·intro hk; exact⟨a,b,rfl,rfl,hk⟩
@[go_sem] theorem Ej (t:Bool) (a b:AV) : ay (Bo t) a b K=K (if t then a else b):=by
 apply propext; unfold ay
 constructor
 ·rintro⟨t',h,hk⟩; cases h; exact hk
 ·intro hk; exact⟨t,rfl,hk⟩
@[go_sem] theorem Ez (b:Bool) (p q:Prop) : ak (Bo b) p q=((b=true→p)∧(b=false→q)):=rfl
@[go_sem] theorem Pt {α:Type} (b want:Bool) (f g:α→Prop) (k:α) : kV (Bo b) want f g k=if b=want then f k else g k:=rfl
@[go_sem] theorem NE {α:Type} (want:Bool) (f g:α→Prop) (k:α) : kV .undef want f g k=g k:=rfl
@[go_sem] theorem Q0 (b o:Nat) : KO (.ptr b o) K=K (.ptr b o):=by
 apply propext; unfold KO
 constructor
 ·rintro⟨b',o',h,hk⟩; cases h; exact hk
 ·intro hk; exact⟨b,o,rfl,hk⟩
@[go_sem] theorem jg (b o n:Nat) : aY (.ptr b o) n K=K (.ptr b (o + n)):=by
 apply propext; unfold aY
 constructor
 ·rintro⟨b',o',h,hk⟩; cases h; exact hk
 ·intro hk; exact⟨b,o,rfl,hk⟩
@[go_sem] theorem pW (b p len:Nat) (cap:Cap) (k:IntKind) (n:Int) (size:Nat) : dz (.slc b p len cap) (N k n) size K=(0≤n∧n<len∧K (.ptr b (p + n.toNat * size))):=by
 apply propext; unfold dz
 constructor
 ·rintro⟨b',p',l',c',k',n',h,h',h0,h1,hk⟩; cases h; cases h'; exact⟨h0,h1,hk⟩
 ·rintro⟨h0,h1,hk⟩; exact⟨b,p,len,cap,k,n,rfl,rfl,h0,h1,hk⟩
@[go_sem] theorem Kh (b p:Nat) (k:IntKind) (n:Int) (len size:Nat) : mi (.ptr b p) (N k n) len size K=(0≤n∧n<len∧K (.ptr b (p + n.toNat * size))):=by
 apply propext; unfold mi
 constructor
 ·rintro⟨b',p',k',n',h,h',h0,h1,hk⟩; cases h; cases h'; exact⟨h0,h1,hk⟩
 ·rintro⟨h0,h1,hk⟩; exact⟨b,p,k,n,rfl,rfl,h0,h1,hk⟩
@[go_sem] theorem Pp (cs:List AV) (off:Nat) : IP (.agg cs) off K=∃ v,cs[off]?=some v∧K v:=by
 apply propext; unfold IP
 constructor
 ·rintro⟨cs',v,h,h1,hk⟩; cases h; exact⟨v,h1,hk⟩
 ·rintro⟨v,h1,hk⟩; exact⟨cs,v,rfl,h1,hk⟩
@[go_sem] theorem PQ (cs:List AV) (off n:Nat) : IQ (.agg cs) off n K=(off + n≤cs.length∧K (.agg ((cs.drop off).take n))):=by
 apply propext; unfold IQ
 constructor
 ·rintro⟨cs',h,h1,hk⟩; cases h; exact⟨h1,hk⟩
 ·rintro⟨h1,hk⟩; exact⟨cs,rfl,h1,hk⟩
@[go_sem] theorem PN (cs:List AV) (k:IntKind) (n:Int) (len:Nat) : Il (.agg cs) (N k n) len K=(0≤n∧n<len∧∃ v,cs[n.toNat]?=some v∧K v):=by
 apply propext; unfold Il
 constructor
 ·rintro⟨cs',k',n',v,h,h',h0,h1,h2,hk⟩; cases h; cases h'; exact⟨h0,h1,v,h2,hk⟩
 ·rintro⟨h0,h1,v,h2,hk⟩; exact⟨cs,k,n,v,rfl,rfl,h0,h1,h2,hk⟩
@[go_sem] theorem Pn (cs:List AV) (k:IntKind) (n:Int) (len size:Nat) : Io (.agg cs) (N k n) len size K=(0≤n∧n<len∧n.toNat * size + size≤cs.length∧K (.agg ((cs.drop (n.toNat * size)).take size))):=by
 apply propext; unfold Io
 constructor
 ·rintro⟨cs',k',n',h,h',h0,h1,h2,hk⟩; cases h; cases h'; exact⟨h0,h1,h2,hk⟩
 ·rintro⟨h0,h1,h2,hk⟩; exact⟨cs,k,n,rfl,rfl,h0,h1,h2,hk⟩
@[go_sem] theorem Mr (s:List UInt8) (k:IntKind) (n:Int) : dN (St s) (N k n) K=(0≤n∧∃ b,s[n.toNat]?=some b∧K (N .u8 b.toNat)):=by
 apply propext; unfold dN
 constructor
 ·rintro⟨s',k',n',b,h,h',h0,h1,hk⟩; cases h; cases h'; exact⟨h0,b,h1,hk⟩
 ·rintro⟨h0,b,h1,hk⟩; exact⟨s,k,n,b,rfl,rfl,h0,h1,hk⟩
@[go_sem] theorem yX (vs:List AV) (i:Nat) : aC (.tup vs) i K=∃ v,vs[i]?=some v∧K v:=by
 apply propext; unfold aC
 constructor
 ·rintro⟨cs',v,h,h1,hk⟩; cases h; exact⟨v,h1,hk⟩
 ·rintro⟨v,h1,hk⟩; exact⟨vs,v,rfl,h1,hk⟩
@[go_sem] theorem dU (v:AV) : bG (some v) K=K v:=by
 apply propext; unfold bG
 constructor
 ·rintro⟨v',h,hk⟩; cases h; exact hk
 ·intro hk; exact⟨v,rfl,hk⟩
@[go_sem] theorem jL (b o n:Nat) (c:Cap) : bg (.slc b o n c) K=K (N .i64 n):=by
 apply propext; unfold bg
 constructor
 ·rintro⟨n',h,hk⟩; cases h; exact hk
 ·intro hk; exact⟨n,rfl,hk⟩
@[go_sem] theorem Ls (b:Nat) : bg (.emp b) K=K (N .i64 0):=by
 apply propext; unfold bg
 constructor
 ·rintro⟨n',h,hk⟩; cases h; exact hk
 ·intro hk; exact⟨0,rfl,hk⟩
@[go_sem] theorem yR:bg (.sc (.slice none 0 0)) K=K (N .i64 0):=by
 apply propext; unfold bg
 constructor
 ·rintro⟨n',h,hk⟩; cases h; exact hk
 ·intro hk; exact⟨0,rfl,hk⟩
@[go_sem] theorem lK (s:List UInt8) : bW (St s) K=K (N .i64 s.length):=by
 apply propext; unfold bW
 constructor
 ·rintro⟨s',h,hk⟩; cases h; exact hk
 ·intro hk; exact⟨s,rfl,hk⟩
@[go_sem] theorem Rj (b o n c:Nat) : tC (.slc b o n (.ex c)) K=K (N .i64 c):=by
 apply propext; unfold tC
 constructor
 ·rintro⟨n',h,hk⟩; cases h; exact hk
 ·intro hk; exact⟨c,rfl,hk⟩
@[go_sem] theorem QH:tC (.sc (.slice none 0 0)) K=K (N .i64 0):=by
 apply propext; unfold tC
 constructor
 ·rintro⟨n',h,hk⟩; cases h; exact hk
 ·intro hk; exact⟨0,rfl,hk⟩
@[go_sem] theorem Qc (s:List UInt8) : isStr (St s) K=K (St s):=by
 apply propext; unfold isStr
 constructor
 ·rintro⟨s',h,hk⟩; cases h; exact hk
 ·intro hk; exact⟨s,rfl,hk⟩
@[go_sem] theorem Fq {x:AV} {s:List UInt8} (h:tY M x=some s) : eD M x K=K (St s):=by
 apply propext; unfold eD
 constructor
 ·rintro⟨s',h',hk⟩; rw[h] at h'; cases h'; exact hk
 ·intro hk; exact⟨s,h,hk⟩
theorem lN {op:BinOp} {a b:List UInt8} {v:AV} (h:uu op a b=some v) : aW op (St a) (St b) K=K v:=by
 apply propext; unfold aW
 constructor
 ·rintro⟨a',b',u,h1,h2,h3,hk⟩; cases h1; cases h2; rw[h] at h3; cases h3; exact hk
 ·intro hk; exact⟨a,b,v,rfl,rfl,h,hk⟩
@[go_sem] theorem dQ (a b:List UInt8) : aW .eql (St a) (St b) K=K (Bo (a == b)):=by rw[← fq]; exact lN rfl
@[go_sem] theorem yH (a b:List UInt8) : aW .neq (St a) (St b) K=K (Bo (a != b)):=by rw[bne,← fq]; exact lN rfl
@[go_sem] theorem Qd (a b:List UInt8) : aW .lss (St a) (St b) K=K (Bo (Op.bytesLess a b)):=lN rfl
@[go_sem] theorem Qq (a b:List UInt8) : aW .leq (St a) (St b) K=K (Bo (Op.bytesLess a b || a == b)):=by rw[← fq]; exact lN rfl
@[go_sem] theorem Qw (a b:List UInt8) : aW .gtr (St a) (St b) K=K (Bo (!(Op.bytesLess a b || a == b))):=by rw[← fq]; exact lN rfl
@[go_sem] theorem Qo (a b:List UInt8) : aW .geq (St a) (St b) K=K (Bo (!Op.bytesLess a b)):=lN rfl
@[go_sem] theorem bL (a b:List UInt8) : aW .add (St a) (St b) K=(a.length + b.length≤9223372036854775807∧K (St (a++b))):=by
 apply propext; unfold aW
 constructor
 ·rintro⟨a',b',u,h1,h2,h3,hk⟩; cases h1; cases h2
  simp only[uu] at h3
  split at h3
  ·rename_i hb; cases h3; exact⟨aI hb,hk⟩
  ·cases h3
 ·rintro⟨h0,hk⟩; exact⟨a,b,_,rfl,rfl,by simp only[uu,aG.2 h0],hk⟩
theorem iH {neg:Bool} {tag:Nat} {x y:AV} {r:Bool} (ht:Dq x=tag) (h:sW x y=some r) : fU neg tag x y K=K (Bo (r != neg)):=by
 apply propext; unfold fU
 constructor
 ·rintro⟨_,r',h',hk⟩; rw[h] at h'; cases h'; exact hk
 ·intro hk; exact⟨ht,r,h,hk⟩
@[go_sem] theorem BX (neg:Bool) : fU neg 2 (.sc (.slice none 0 0)) (.sc (.slice none 0 0)) K=K (Bo (!neg)):=(iH (tag:=2) (r:=true) rfl rfl).trans (by cases neg <;> rfl)
@[go_sem] theorem Cc (neg:Bool) (b:Nat) : fU neg 2 (.emp b) (.sc (.slice none 0 0)) K=K (Bo neg):=(iH (tag:=2) (r:=false) rfl rfl).trans (by cases neg <;> rfl)
@[go_sem] theorem Bv (neg:Bool) (b o n:Nat) (c:Cap) : fU neg 2 (.slc b o n c) (.sc (.slice none 0 0)) K=K (Bo neg):=(iH (tag:=2) (r:=false) rfl rfl).trans (by cases neg <;> rfl)
@[go_sem] theorem Mj (neg:Bool) (b o:Nat) : fU neg 1 (.ptr b o) (.sc (.pointer none)) K=K (Bo neg):=(iH (tag:=1) (r:=false) rfl rfl).trans (by cases neg <;> rfl)
@[go_sem] theorem Lv (neg:Bool) : fU neg 1 (.sc (.pointer none)) (.sc (.pointer none)) K=K (Bo (!neg)):=(iH (tag:=1) (r:=true) rfl rfl).trans (by cases neg <;> rfl)
@[go_sem] theorem Mg (neg:Bool) (b:Nat) : fU neg 3 (.map b) (.sc (.map none)) K=K (Bo neg):=(iH (tag:=3) (r:=false) rfl rfl).trans (by cases neg <;> rfl)
@[go_sem] theorem MG (neg:Bool) (f:Fn) (xs ys:List AV) : fU neg 4 (.fn f xs ys) (.sc .nilFunc) K=K (Bo neg):=(iH (tag:=4) (r:=false) rfl rfl).trans (by cases neg <;> rfl)
@[go_sem] theorem OY (neg:Bool) (ks:List Nat) (cs ds:List AV) : vR neg ks (.agg cs) (.agg ds) K=(cs.length=ks.length∧ds.length=ks.length∧∃ r,bK ks cs ds=some r∧K (Bo (r != neg))):=by
 apply propext; unfold vR
 constructor
 ·rintro⟨a',b',r,h1,h2,h3,h4,h5,hk⟩; cases h1; cases h2; exact⟨h3,h4,r,h5,hk⟩
 ·rintro⟨h3,h4,r,h5,hk⟩; exact⟨cs,ds,r,rfl,rfl,h3,h4,h5,hk⟩
@[go_sem] theorem zF (C:FuncId→ai) (g:FuncId) (first cap args:List AV) : xE C (.fn (.func g) first cap) args M KQ=C g (first++args++cap) M KQ:=by
 apply propext; unfold xE
 constructor
 ·rintro⟨g',f',c',h,hk⟩; cases h; exact hk
 ·intro hk; exact⟨g,first,cap,rfl,hk⟩
@[go_sem] theorem gy (cs:List AV) (parts:List (Nat × Nat × AV)) : eQ cs parts K=∃ cs',nM cs parts=some cs'∧K (.agg cs'):=rfl
@[go_sem] theorem aS (x:RB) (mk:Nat→AV) : aV x mk M KQ=KQ (mk M.next) (M.push x):=rfl
@[go_sem] theorem BV (x:RB) (mk:Nat→AV) (k:KR) : uf x mk M k=k (mk M.next) (M.push x) (some M.next):=rfl
@[go_sem] theorem mP (f:(List AV→RM→Prop)→Prop) (g:List AV→RM→Prop) : dF f g=f g:=rfl
@[go_sem] theorem bE (x:AV) (xs:List AV) : au (x :: xs) 0=x:=rfl
@[go_sem] theorem df (x:AV) (xs:List AV) (n:Nat) : au (x :: xs) (n + 1)=au xs n:=rfl
@[go_sem] theorem O9 (b:Nat) (x:RB) (mk:Nat→AV) (v:AV) : Dw (some b) M x mk v=(M.heap b=some x∧mk b=v):=rfl
end
section
variable {M M' : RM}
theorem RM.qN {b:Nat} {l:List AV} {opn:Bool} {el fz:Nat} (h:M.heap b=some (.row l opn el fz)) : M.cells b=some l:=by simp[RM.cells,h]
theorem RM.Kt {b o:Nat} {l:List AV} {opn:Bool} {el fz:Nat} (h:M.heap b=some (.row l opn el fz)) : M.cell b o=l[o]?:=by simp[RM.cell,RM.qN h]
theorem RM.gD {b o k:Nat} {l:List AV} {opn:Bool} {el fz:Nat} (h:M.heap b=some (.row l opn el fz)) (hk:o + k≤l.length) : M.loads b o k=some ((l.drop o).take k):=by
 simp[RM.loads,RM.qN h,hk]
theorem RM.Im {b o:Nat} {l vs:List AV} {opn:Bool} {el fz:Nat} (h:M.heap b=some (.row l opn el fz)) (h1:o + vs.length≤l.length) (h2:fz≤o) (h3:vs.all oneCell=true) :
  M.stores b o vs=some (M.put b (.row (l.take o++vs++l.drop (o + vs.length)) opn el fz)):=by
 simp only[RM.stores,h]
 rw[if_pos ⟨h1,h2,h3⟩]
structure ae (bs:List Nat) (M M' : RM) : Prop where
 base:M'.base=M.base
 next:M.next≤M'.next
 heap:∀ c,c<M.next→c ∉ bs→M'.heap c=M.heap c
theorem ae.refl (bs:List Nat) (M:RM) : ae bs M M:=⟨rfl,Nat.le_refl _,fun _ _ _=>rfl⟩
theorem ae.trans {bs:List Nat} {M1 M2:RM} (h:ae bs M M1) (k:ae bs M1 M2) : ae bs M M2 :=
 ⟨k.base.trans h.base,Nat.le_trans h.next k.next,fun c hc hb=>(k.heap c (Nat.lt_of_lt_of_le hc h.next) hb).trans (h.heap c hc hb)⟩
theorem ae.push {bs:List Nat} (h:ae bs M M') (x:RB) : ae bs M (M'.push x) :=
 ⟨h.base,Nat.le_succ_of_le h.next,fun c hc hb=>by
  have:=h.next
  simp only[RM.push]; rw[if_neg (by omega)]; exact h.heap c hc hb⟩
theorem ae.put {bs:List Nat} (h:ae bs M M') {b:Nat} (x:RB) (hb:M.next≤b∨b∈bs) : ae bs M (M'.put b x) :=
 ⟨h.base,h.next,fun c hc hcb=>by
  simp only[RM.put]; rw[if_neg]
  ·exact h.heap c hc hcb
  ·rintro rfl; rcases hb with hb | hb
   ·omega
   ·exact hcb hb⟩
theorem ae.del {bs:List Nat} (h:ae bs M M') {b:Nat} (hb:M.next≤b∨b∈bs) : ae bs M (M'.del b) :=
 ⟨h.base,h.next,fun c hc hcb=>by
  simp only[RM.del]; rw[if_neg]
  ·exact h.heap c hc hcb
  ·rintro rfl; rcases hb with hb | hb
   ·omega
   ·exact hcb hb⟩
theorem ae.mono {bs cs:List Nat} (h:ae bs M M') (hs:∀ b∈bs,b∈cs) : ae cs M M':=⟨h.base,h.next,fun c hc hb=>h.heap c hc fun h=>hb (hs c h)⟩
theorem ae.cells {bs:List Nat} (h:ae bs M M') {b:Nat} (hlt:b<M.next) (hb:b ∉ bs) : M'.cells b=M.cells b:=by
 simp only[RM.cells,h.heap b hlt hb,RM.lo,h.base]
theorem ae.cell {bs:List Nat} (h:ae bs M M') {b o:Nat} (hlt:b<M.next) (hb:b ∉ bs) : M'.cell b o=M.cell b o:=by
 simp only[RM.cell,h.cells hlt hb]
theorem ae.loads {bs:List Nat} (h:ae bs M M') {b o k:Nat} (hlt:b<M.next) (hb:b ∉ bs) : M'.loads b o k=M.loads b o k:=by
 simp only[RM.loads,h.cells hlt hb]
@[go_sem] theorem RM.Pz (x:RB) : (M.push x).next=M.next + 1:=rfl
@[go_sem] theorem RM.QS (b:Nat) (x:RB) : (M.put b x).next=M.next:=rfl
@[go_sem] theorem RM.Re (b:Nat) : (M.del b).next=M.next:=rfl
@[go_sem] theorem RM.lq (x:RB) : (M.push x).heap M.next=some x:=by simp[RM.push]
theorem RM.KA {x:RB} {c:Nat} (h:c≠M.next) : (M.push x).heap c=M.heap c:=by simp[RM.push,h]
@[go_sem] theorem RM.zL (b:Nat) (x:RB) : (M.put b x).heap b=some x:=by simp[RM.put]
end
abbrev aH:AV:=.sc (.slice none 0 0)
inductive aL (M:RM) (size:Nat) : AV→List AV→Nat→Prop
 | nil:aL M size aH [] 0
 | emp (b:Nat) : aL M size (.emp b) [] 0
 | slc (b o n:Nat) (cap:Cap) (cs:List AV) : b<M.next→M.loads b o (n * size)=some cs→aL M size (.slc b o n cap) cs n
section
variable {M M' : RM} {size:Nat} {v:AV} {cs:List AV} {n:Nat}
theorem CF {b o k:Nat} {cs:List AV} (h:M.loads b o k=some cs) : cs.length=k:=by
 unfold RM.loads at h
 split at h <;> first | (cases h; done) | skip
 split at h <;> first | (cases h; done) | skip
 rename_i hle
 have:=Option.some.inj h
 rw[← this,List.length_take,List.length_drop]; omega
theorem JD {b o k:Nat} {cs:List AV} (h:M.loads b o k=some cs) (i:Nat) (hi:i<k) : M.cell b (o + i)=cs[i]?:=by
 unfold RM.loads at h
 unfold RM.cell
 split at h <;> first | (cases h; done) | skip
 rename_i l hl
 split at h <;> first | (cases h; done) | skip
 cases h
 simp only[hl,Option.bind_some]
 rw[List.getElem?_take,if_pos hi,List.getElem?_drop]
theorem qL {b o k:Nat} {cs:List AV} (h:M.loads b o k=some cs) (i j:Nat) (hij:i + j≤k) : M.loads b (o + i) j=some ((cs.drop i).take j):=by
 unfold RM.loads at h ⊢
 cases hl:M.cells b with
 | none=>rw[hl] at h; cases h
 | some l =>
   rw[hl] at h
   simp only at h ⊢
   split at h
   ·rename_i hle
    have h:=Option.some.inj h
    subst h
    rw[if_pos (by omega),List.drop_take,List.drop_drop,List.take_take]
    congr 2
    omega
   ·cases h
theorem Be {b o:Nat} {l:List AV} (h:M.cells b=some l) (ho:o≤l.length) : M.loads b o 0=some []:=by
 simp[RM.loads,h,ho]
theorem aL.length (h:aL M size v cs n) : cs.length=n * size:=by
 cases h with
 | nil=>exact(Nat.zero_mul _).symm
 | emp=>exact(Nat.zero_mul _).symm
 | slc b o n cap cs hb0 hl=>exact CF hl
theorem aL.len (h:aL M size v cs n) {K:AV→Prop} : bg v K=K (N .i64 n):=by
 cases h with
 | nil=>exact yR
 | emp b=>exact Ls b
 | slc b o n cap cs hb0 hl=>exact jL b o n cap
theorem aL.mh (h:aL M size v cs n) (zs:List AV) : mh M size zs false v=some (n,cs):=by
 cases h with
 | nil=>rfl
 | emp b=>rfl
 | slc b o n cap cs hb0 hl=>simp only[Go.Ab.mh,hl]
theorem aL.pos (h:aL M size v cs n) (hn:0<n) : ∃ b o cap,v=.slc b o n cap∧b<M.next∧M.loads b o (n * size)=some cs:=by
 cases h with
 | nil=>omega
 | emp b=>omega
 | slc b o n cap cs hb0 hl=>exact⟨b,o,cap,rfl,hb0,hl⟩
theorem aL.tY (h:aL M 1 v cs n) {l:List UInt8} (hb:bN byteOf cs=some l) : tY M v=some l:=by
 cases h with
 | nil=>simp[bN] at hb; subst hb; rfl
 | emp b=>simp[bN] at hb; subst hb; rfl
 | slc b o n cap cs hb0 hl =>
   rw[Nat.mul_one] at hl
   simp only[Go.Ab.tY,hl]; exact hb
def aN:AV→List Nat
 | .slc b _ _ _=>[b]
 | _=>[]
theorem aL.keep {bs:List Nat} (h:aL M size v cs n) (hk:ae bs M M') (hb:∀ b∈aN v,b ∉ bs) : aL M' size v cs n:=by
 cases h with
 | nil=>exact .nil
 | emp b=>exact .emp b
 | slc b o n cap cs hb0 hl =>
   exact .slc b o n cap cs (Nat.lt_of_lt_of_le hb0 hk.next) (by rw[hk.loads hb0 (hb b (by simp[aN]))]; exact hl)
inductive Own (M:RM) (base el size:Nat) : AV→List AV→Nat→Prop
 | nil:Own M base el size aH [] 0
 | ex0 (b o:Nat) : base≤b→b<M.next→(∃ l,M.cells b=some l∧o≤l.length)→Own M base el size (.slc b o 0 (.ex 0)) [] 0
 | op (b n:Nat) (cs:List AV) : base≤b→b<M.next→M.heap b=some (.row cs true el 0)→cs.length=n * size→Own M base el size (.slc b 0 n (.op size)) cs n
theorem Own.ol {base el:Nat} (h:Own M base el size v cs n) : aL M size v cs n:=by
 cases h with
 | nil=>exact .nil
 | ex0 b o hb hlt hc =>
   obtain⟨l,hl,ho⟩:=hc
   exact .slc b o 0 _ [] hlt (by rw[Nat.zero_mul]; exact Be hl ho)
 | op b n cs hb hlt hh hl =>
   refine .slc b 0 n _ cs hlt ?_
   rw[RM.gD hh (by omega)]
   simp[← hl]
theorem Own.blk {base el:Nat} (h:Own M base el size v cs n) : ∀ b∈aN v,base≤b∧b<M.next:=by
 cases h with
 | nil=>intro b hb; simp[aN] at hb
 | ex0 b o hb hlt hc=>intro c hc; simp[aN] at hc; subst hc; exact⟨hb,hlt⟩
 | op b n cs hb hlt hh hl=>intro c hc; simp[aN] at hc; subst hc; exact⟨hb,hlt⟩
theorem Own.keep {base el:Nat} {bs:List Nat} (h:Own M base el size v cs n) (hk:ae bs M M') (hb:∀ b∈aN v,b ∉ bs) : Own M' base el size v cs n:=by
 cases h with
 | nil=>exact .nil
 | ex0 b o h1 hlt hc=>exact .ex0 b o h1 (Nat.lt_of_lt_of_le hlt hk.next) (by rw[hk.cells hlt (hb b (by simp[aN]))]; exact hc)
 | op b n cs h1 hlt hh hl=>exact .op b n cs h1 (Nat.lt_of_lt_of_le hlt hk.next) (by rw[hk.heap b hlt (hb b (by simp[aN]))]; exact hh) hl
theorem Own.mono {base base' el:Nat} (h:Own M base el size v cs n) (hb:base'≤base) : Own M base' el size v cs n:=by
 cases h with
 | nil=>exact .nil
 | ex0 b o h1 hlt hc=>exact .ex0 b o (Nat.le_trans hb h1) hlt hc
 | op b n cs h1 hlt hh hl=>exact .op b n cs (Nat.le_trans hb h1) hlt hh hl
theorem xD {base el bytes:Nat} {zs:List AV} {zeros:Bool} {x:AV} {m:Nat} {ds:List AV} {K:ah} (h:Own M base el size v cs n) (hbase:base≤M.next) (hs:1≤size) (hx:mh M size zs zeros x=some (m,ds)) (hd:ds.length=m * size)
  (h1:ds.all oneCell=true) (hb:(n + m) * bytes≤140737488355328) (hb2:n + m≤140737488355328)
  (hK:∀ v' M',Own M' base el size v' (cs++ds) (n + m)→ae (aN v) M M'→M.next≤M'.next→(v'=v∨∀ b∈aN v',M.next≤b)→K v' M') : appW el size bytes zs zeros v x M K:=by
 have hmb:m * bytes≤140737488355328:=Nat.le_trans (Nat.mul_le_mul_right _ (by omega)) hb
 refine⟨m,ds,hx,hmb,by omega, ?_⟩
 cases h with
 | nil =>
   by_cases hm:m=0
   ·subst hm
    have:ds=[]:=List.eq_nil_of_length_eq_zero (by simpa using hd)
    subst this
    exact⟨aH,M,by simp[qz],hK _ _ .nil (ae.refl _ _) (Nat.le_refl _) (.inl rfl)⟩
   ·refine⟨.slc M.next 0 m (.op size),M.push (.row ds true el 0),by simp only[qz,if_neg hm,h1,if_true],hK _ _ ?_ ((ae.refl _ _).push _) (by simp[RM.push]) (.inr fun b hb=>by simp[aN] at hb; omega)⟩
    simp only[List.nil_append,Nat.zero_add]
    exact .op _ _ _ hbase (by simp[RM.push]) (RM.lq _) hd
 | ex0 b o hb0 hlt hc =>
   obtain⟨l,hl,ho⟩:=hc
   by_cases hm:m=0
   ·subst hm
    have:ds=[]:=List.eq_nil_of_length_eq_zero (by simpa using hd)
    subst this
    exact⟨_,M,by simp[qz],hK _ _ (.ex0 b o hb0 hlt ⟨l,hl,ho⟩) (ae.refl _ _) (Nat.le_refl _) (.inl rfl)⟩
   ·refine⟨.slc M.next 0 m (.op size),M.push (.row ds true el 0), ?_,hK _ _ ?_ ((ae.refl _ _).push _) (by simp[RM.push]) (.inr fun b hb=>by simp[aN] at hb; omega)⟩
    ·have hl0:M.loads b o (0 * size)=some []:=by rw[Nat.zero_mul]; exact Be hl ho
     simp only[qz,if_neg hm]
     rw[if_neg (by omega),hl0]
     simp only[Nat.zero_add,List.nil_append]
     rw[if_pos ⟨hmb,by omega,h1⟩]
    ·simp only[List.nil_append,Nat.zero_add]
     exact .op _ _ _ hbase (by simp[RM.push]) (RM.lq _) hd
 | op b n cs hb0 hlt hh hl =>
   by_cases hm:m=0
   ·subst hm
    have:ds=[]:=List.eq_nil_of_length_eq_zero (by simpa using hd)
    subst this
    exact⟨_,M,by simp[qz],hK _ _ (by simpa using .op b n cs hb0 hlt hh hl) (ae.refl _ _) (Nat.le_refl _) (.inl rfl)⟩
   ·have hpos:1≤m * size:=Nat.mul_pos (by omega) hs
    have hsum:(n + m) * size=n * size + m * size:=Nat.add_mul _ _ _
    refine⟨.slc M.next 0 (n + m) (.op size),(M.del b).push (.row (cs++ds) true el 0), ?_,hK _ _ ?_ (((ae.refl _ _).del (.inr (by simp[aN]))).push _) (by simp[RM.push,RM.del]) (.inr fun b hb=>by simp[aN] at hb; omega)⟩
    ·simp only[qz,if_neg hm,hh,and_self,if_true]
     rw[if_neg (by omega),if_pos ⟨trivial,hb,hb2,trivial,hl,Nat.zero_le _,h1⟩]
    ·exact .op _ _ _ (show base≤M.next from hbase) (by simp[RM.push,RM.del]) (by simp[RM.push,RM.del]) (by rw[List.length_append,hl,hd,hsum])
theorem aL.sW (h:aL M size v cs n) (neg:Bool) : (v=aH∧∀ K:AV→Prop,fU neg 2 v aH K=K (Bo (!neg)))∨(v≠aH∧∀ K:AV→Prop,fU neg 2 v aH K=K (Bo neg)):=by
 cases h with
 | nil=>exact .inl ⟨rfl,fun _=>BX neg⟩
 | emp b=>exact .inr ⟨by(intro h; cases h),fun _=>Cc neg b⟩
 | slc b o n cap cs hb0 hl=>exact .inr ⟨by(intro h; cases h),fun _=>Bv neg b o n cap⟩
theorem Own.lit {base el T:Nat} (M:RM) (h:base≤M.next) : Own (M.push (.row [] false T 0)) base el size (.slc M.next 0 0 (.ex 0)) [] 0 :=
 .ex0 _ _ h (by simp[RM.push]) ⟨[],by simp[RM.cells,RM.push],Nat.le_refl _⟩
end
end Go.Ab
set_option maxRecDepth 4000
namespace Go.Ab
open Go
theorem wrap_u8 (n:Nat) : IntKind.wrap .u8 (n:Int)=((n % 256:Nat) : Int):=by
 simp only[IntKind.wrap,IntKind.bits,IntKind.signed,IntKind.max,IntKind.min]
 simp
theorem jh {n:Int} (h0:0≤n) (h:n<256) : IntKind.wrap .u8 n=n:=by
 obtain⟨m,rfl⟩:=Int.eq_ofNat_of_zero_le h0
 rw[wrap_u8,Nat.mod_eq_of_lt (by omega)]
theorem gB {n:Int} (h0 : -9223372036854775808≤n) (h:n<9223372036854775808) : IntKind.wrap .i64 n=n:=by
 rw[IntKind.wrap_i64]; omega
theorem Ml (k:Nat) (a b:Nat) : (BitVec.ofInt k (a:Int) &&& BitVec.ofInt k (b:Int)).toNat=(a &&& b) % 2 ^ k:=by
 rw[BitVec.toNat_and,BitVec.ofInt_natCast,BitVec.ofInt_natCast,BitVec.toNat_ofNat,BitVec.toNat_ofNat,← Nat.and_mod_two_pow]
def Ap:IntKind→Nat
 | .u8=>8 | .u16=>16 | .u32=>32 | _=>64
def Aa:IntKind→Bool
 | .u8 | .u16 | .u32 | .u64=>true
 | _=>false
theorem KN {k:IntKind} (h:Aa k=true) (n:Nat) : k.wrap (n:Int)=((n % 2 ^ Ap k:Nat) : Int):=by
 cases k <;> simp[Aa] at h <;> (simp only[IntKind.wrap,IntKind.bits,IntKind.signed,Ap]; simp)
theorem Kn (k:IntKind) (h:Aa k=true) : k.bits=Ap k:=by cases k <;> simp[Aa] at h <;> rfl
theorem K4 {k:IntKind} (h:Aa k=true) (a b:Nat) : Iq k a b=(((a &&& b) % 2 ^ Ap k:Nat) : Int):=by
 unfold Iq
 rw[Ml,KN h,Kn k h,Nat.mod_mod]
theorem MP (n:Nat) : (UInt8.ofNat n).toNat=n % 256:=by simp
end Go.Ab
namespace Go.Ab
open Go Go.RowKit
section
variable {P:Program}
end
def RM.old (base:Base) (w:World) : RM where
 next:=base.n
 heap:=fun b=>if b<base.n then(match w.heap[b]? with | some (.cells c _ _)=>some (.ro c) | _=>none) else none
 base:=base
def EU (n:Nat) : Ren:=fun b=>if b<n then some ⟨b,0,0,0⟩ else none
theorem KD {P:Program} {base:Base} {w:World} (hn:base.n=w.heap.size) (hi:base.inv w) : bi P (EU base.n) (RM.old base w) w:=by
 refine⟨{ next:=base.n,heap:=.leaf },rfl,⟨fun b i h=>?_,fun b i x _ h=>by simp[Tree.get] at h,fun b _ i _ x _ _ _ h=>by simp[Tree.get] at h,fun b x h=>by simp[Tree.get] at h,fun b i x _ h=>by simp[Tree.get] at h,hi⟩,by simp[RM.old,RM.lo,hn],fun b x h=>.inr ?_,fun c hc=>by have hc' : c<base.n:=hc; simp only[EU]; rw[if_pos hc']⟩
 ·simp only[EU] at h
  split at h <;> first | (cases h; done) | skip
  cases h
  exact⟨by assumption,by rw[← hn]; assumption⟩
 ·simp only[RM.old] at h
  split at h <;> first | (cases h; done) | skip
  rename_i hlt
  split at h <;> first | (cases h; done) | skip
  rename_i c el fr hh
  cases h
  exact⟨c,rfl,hlt,el,fr,hh⟩
def IR (lo:Nat) : Value→AV
 | .agg cs=>.agg (cs.toList.map (zJ lo))
 | v=>zJ lo v
theorem Ea {ρ:Ren} {lo:Nat} (h:∀ c,c<lo→ρ c=some ⟨c,0,0,0⟩) : ∀ (vs:List Value),aD ρ (vs.map (zJ lo)) vs
 | []=>.nil
 | v :: vs=>.cons _ _ _ _ (yT h v) (Ea h vs)
theorem KZ {ρ:Ren} {lo:Nat} (h:∀ c,c<lo→ρ c=some ⟨c,0,0,0⟩) (v:Value) : ag ρ (IR lo v) v:=by
 unfold IR
 split
 ·exact .agg _ _ (Ea h _)
 ·exact yT h v
theorem Cs {ρ:Ren} {lo:Nat} (h:∀ c,c<lo→ρ c=some ⟨c,0,0,0⟩) : ∀ (vs:List Value),aD ρ (vs.map (IR lo)) vs
 | []=>.nil
 | v :: vs=>.cons _ _ _ _ (KZ h v) (Cs h vs)
theorem dm.close {P:Program} {f:FuncId} {base:Base} {w:World} {us:Array Value} (hn:base.n=w.heap.size) (hi:base.inv w)
  (h:dm P f (us.toList.map (IR base.n)) (RM.old base w) fun v _=>v=Bo true) :
  Calls P f us w fun e w'=>e=.returned (.bool true)∧Below w.heap.size w w':=by
 have hr:=KD (P:=P) hn hi
 refine((h.2 (EU base.n) w us.toList (Cs (fun c hc=>by simp only[EU]; rw[if_pos hc]) _) hr)).mono fun e w' hR=>?_
 obtain⟨v',v,M',ρ',rfl,k1,k2,rfl⟩:=hR
 obtain⟨rfl,_⟩:=aB k2
 refine⟨rfl,k1.step.os,k1.step.tape,k1.step.output,k1.step.size,fun k hk=>k1.step.low k ?_⟩
 show k<base.n
 rw[hn]; exact hk
def JM:Option TypeDesc→Bool
 | some .bool | some (.int _) | some .string | some (.slice _) | some (.struct _) | some (.array _ _)=>false
 | _=>true
inductive Fits (P:Program) (M:RM) : TypeId→List AV→Prop
 | bool (t:TypeId) (b:Bool) : P.underlying t=some .bool→Fits P M t [Bo b]
 | int (t:TypeId) (k:IntKind) (n:Int) : P.underlying t=some (.int k)→k.min≤n→n≤k.max→Fits P M t [N k n]
 | str (t:TypeId) (s:List UInt8) : P.underlying t=some .string→s.length≤reachBytes→Fits P M t [St s]
 | Qu (t e:TypeId) : P.underlying t=some (.slice e)→Fits P M t [aH]
 | emp (t e:TypeId) (b:Nat) : P.underlying t=some (.slice e)→Fits P M t [.emp b]
 | slc (t e:TypeId) (b o n c:Nat) (cs:List AV) : P.underlying t=some (.slice e)→b<M.next→n≤c→c * P.bytesOf e≤reachBytes→M.loads b o (n * P.cellsOf e)=some cs →
   (∀ i,i<n→Fits P M e ((cs.drop (i * P.cellsOf e)).take (P.cellsOf e)))→Fits P M t [.slc b o n (.ex c)]
 | struct (t:TypeId) (fs:Array Field) (cs:List AV) : P.underlying t=some (.struct fs)→cs.length=P.cellsOf t →
   (∀ (i:Nat) (f:Field),fs[i]?=some f→Fits P M f.type ((cs.drop f.offset).take (P.cellsOf f.type)))→Fits P M t cs
 | array (t e:TypeId) (n:Nat) (cs:List AV) : P.underlying t=some (.array n e)→cs.length=P.cellsOf t →
   (∀ i,i<n→Fits P M e ((cs.drop (i * P.cellsOf e)).take (P.cellsOf e)))→Fits P M t cs
 | other (t:TypeId) (cs:List AV) : JM (P.underlying t)=true→Fits P M t cs
 | zero (t e:TypeId) (cs:List AV) : P.underlying t=some (.slice e)→P.cellsOf e=0→Fits P M t cs
section
variable {H:Type} {enc:TypeId × Value→H} {P:Program} {base:Base} {w:World}
end
section
variable {P:Program} {M:RM} {t:TypeId} {cs:List AV}
end
def Lg (P:Program) (t:TypeId) : Bool :=
 match P.underlying t with
 | some (.struct _) | some (.array _ _)=>true
 | _=>false
def xA (P:Program) (M:RM) (t:TypeId) (v:AV) : Prop :=
 match Lg P t with
 | true=>∃ cs,v=.agg cs∧Fits P M t cs
 | false=>Fits P M t [v]
theorem xA.agg {P:Program} {M:RM} {t:TypeId} {v:AV} (h:xA P M t v) (ha:Lg P t=true) : ∃ cs,v=.agg cs∧Fits P M t cs:=by
 unfold xA at h; rw[ha] at h; exact h
theorem xA.one {P:Program} {M:RM} {t:TypeId} {v:AV} (h:xA P M t v) (ha:Lg P t=false) : Fits P M t [v]:=by
 unfold xA at h; rw[ha] at h; exact h
section
variable {H:Type} {enc:TypeId × Value→H} {P:Program} {base:Base} {w:World}
end
def RB.cells (lo:Nat) : RB→Option (List AV)
 | .row l _ _ _=>some l
 | .ro c=>some (c.toList.map (zJ lo))
 | _=>none
@[go_sem] theorem RB.qN (lo:Nat) (l:List AV) (p:Bool) (e f:Nat) : RB.cells lo (.row l p e f)=some l:=rfl
theorem RM.pu (M:RM) (b:Nat) : M.cells b=(M.heap b).bind (RB.cells M.lo):=by
 unfold RM.cells RB.cells
 cases M.heap b with
 | none=>rfl
 | some x=>cases x <;> rfl
def qb (l:Option (List AV)) (o k:Nat) : Option (List AV) :=
 match l with
 | some l=>if o + k≤l.length then some ((l.drop o).take k) else none
 | none=>none
@[go_sem] theorem Oj (l:List AV) (o k:Nat) : qb (some l) o k=if o + k≤l.length then some ((l.drop o).take k) else none:=rfl
theorem RM.yB (M:RM) (b o k:Nat) : M.loads b o k=qb (M.cells b) o k:=rfl
section
variable {M M' : RM}
@[go_sem] theorem RM.JO (x:RB) (c:Nat) : (M.push x).heap c=if c=M.next then some x else M.heap c:=rfl
@[go_sem] theorem RM.heap_put (b:Nat) (x:RB) (c:Nat) : (M.put b x).heap c=if c=b then some x else M.heap c:=rfl
@[go_sem] theorem RM.QT (b:Nat) (c:Nat) : (M.del b).heap c=if c=b then none else M.heap c:=rfl
@[go_sem] theorem RM.Pv (x:RB) : (M.push x).base=M.base:=rfl
@[go_sem] theorem RM.PX (b:Nat) (x:RB) : (M.put b x).base=M.base:=rfl
@[go_sem] theorem RM.Qx (b:Nat) : (M.del b).base=M.base:=rfl
theorem RM.zQ (x:RB) (c:Nat) : (M.push x).cells c=if c=M.next then x.cells M.lo else M.cells c:=by
 simp only[RM.pu,RM.JO]
 split <;> rfl
theorem RM.CG (b:Nat) (x:RB) (c:Nat) : (M.put b x).cells c=if c=b then x.cells M.lo else M.cells c:=by
 simp only[RM.pu,RM.heap_put]
 split <;> rfl
@[go_sem] theorem RM.Py (x:RB) (c o:Nat) : (M.push x).cell c o=if c=M.next then(x.cells M.lo).bind (·[o]?) else M.cell c o:=by
 simp only[RM.cell,RM.zQ]
 split <;> rfl
@[go_sem] theorem RM.QY (b:Nat) (x:RB) (c o:Nat) : (M.put b x).cell c o=if c=b then(x.cells M.lo).bind (·[o]?) else M.cell c o:=by
 simp only[RM.cell,RM.CG]
 split <;> rfl
@[go_sem] theorem RM.OC (x:RB) (c o k:Nat) : (M.push x).loads c o k=if c=M.next then qb (x.cells M.lo) o k else M.loads c o k:=by
 simp only[RM.yB,RM.zQ]
 split <;> rfl
@[go_sem] theorem RM.PE (b:Nat) (x:RB) (c o k:Nat) : (M.put b x).loads c o k=if c=b then qb (x.cells M.lo) o k else M.loads c o k:=by
 simp only[RM.yB,RM.CG]
 split <;> rfl
def ko (l:List AV) (fz o:Nat) (vs:List AV) : Option (List AV) :=
 if o + vs.length≤l.length∧fz≤o∧vs.all oneCell=true then some (l.take o++vs++l.drop (o + vs.length)) else none
theorem qa {l vs:List AV} {fz o:Nat} (h1:o + vs.length≤l.length) (h2:fz≤o) (h3:vs.all oneCell=true) : ko l fz o vs=some (l.take o++vs++l.drop (o + vs.length)):=if_pos ⟨h1,h2,h3⟩
@[go_sem] theorem Df {l vs:List AV} (h:vs.length=l.length) (h3:vs.all oneCell=true) : ko l 0 0 vs=some vs:=by
 rw[qa (by omega) (Nat.le_refl _) h3]
 simp[h]
theorem RM.qK {b o:Nat} {vs l:List AV} {p:Bool} {e f:Nat} (h:M.heap b=some (.row l p e f)) : M.stores b o vs=(ko l f o vs).map fun l'=>M.put b (.row l' p e f):=by
 simp only[RM.stores,h,ko]
 split <;> rfl
theorem RM.Kk {x y:RB} : (M.push x).put M.next y=M.push y:=by
 simp only[RM.put,RM.push]
 congr 1
 funext c
 split <;> rfl
theorem RM.E8 {x y:RB} {b:Nat} (hb:b≠M.next) : (M.push x).put b y=(M.put b y).push x:=by
 simp only[RM.put,RM.push]
 congr 1
 funext c
 by_cases h1:c=b
 ·subst h1; simp[hb]
 ·simp[h1]
theorem RM.Bp {l vs:List AV} {p:Bool} {e f o:Nat} : (M.push (.row l p e f)).stores M.next o vs=(ko l f o vs).map fun l'=>M.push (.row l' p e f):=by
 rw[RM.qK (RM.lq _)]
 congr 1
 funext l'
 exact RM.Kk
theorem RM.zP {M:RM} {b o:Nat} {vs:List AV} : M.stores b o vs=match M.heap b with
  | some (.row l p e f)=>(ko l f o vs).map fun l'=>M.put b (.row l' p e f)
  | _=>none:=by
 cases h:M.heap b with
 | none=>simp[RM.stores,h]
 | some x =>
   cases x with
   | row l p e f=>rw[RM.qK h]
   | _=>simp[RM.stores,h]
@[go_sem] theorem RM.zW {x:RB} {vs:List AV} {c o:Nat} (hc:c≠M.next) : (M.push x).stores c o vs=(M.stores c o vs).map (·.push x):=by
 rw[RM.zP,RM.zP,RM.KA hc]
 split
 ·simp only[Option.map_map]
  congr 1
  funext l'
  exact RM.E8 hc
 ·rfl
@[go_sem] theorem RM.Ol {l vs:List AV} {p:Bool} {e f c o:Nat} : (M.push (.row l p e f)).stores c o vs =
  if c=M.next then(ko l f o vs).map fun l'=>M.push (.row l' p e f) else(M.stores c o vs).map (·.push (.row l p e f)):=by
 split
 ·rename_i h; subst h; exact RM.Bp
 ·rename_i h; exact RM.zW h
@[go_sem] theorem RM.Lu {b o:Nat} {l vs:List AV} {p:Bool} {e f:Nat} : (M.put b (.row l p e f)).stores b o vs=(ko l f o vs).map fun l'=>M.put b (.row l' p e f):=by
 rw[RM.qK (RM.zL _ _)]
 congr 1
 funext l'
 simp only[RM.put]
 congr 1
 funext c
 split <;> rfl
@[go_sem] theorem Cf {α:Type} (a:α) (K:α→Prop) : (∃ x,some a=some x∧K x)=K a:=by simp
@[go_sem] theorem Oo {α β:Type} (f:α→β) (x:α) : (some x).map f=some (f x):=rfl
attribute [go_sem] Int.natCast_nonneg Int.toNat_natCast Nat.mul_one true_implies false_implies Bool.false_eq_true Bool.true_eq_false Bool.not_true Bool.not_false Bool.and_self Bool.and_true Bool.true_and Nat.le_refl List.append_nil List.nil_append if_true if_false Nat.lt_irrefl Nat.add_one_ne_zero true_and and_true Nat.zero_add Nat.add_zero List.drop_zero List.getElem?_cons_zero List.getElem?_cons_succ Option.bind_some List.take_succ_cons List.take_zero List.drop_succ_cons List.drop_nil List.take_nil
attribute [go_sem] qw List.all_cons List.all_nil List.length_cons List.length_nil
@[go_sem] theorem PU (cs:List AV) : (AV.agg cs).cells=cs:=rfl
@[go_sem] theorem QV (v:Value) : (AV.sc v).cells=[.sc v]:=rfl
@[go_sem] theorem Po (b o:Nat) : (AV.ptr b o).cells=[.ptr b o]:=rfl
@[go_sem] theorem Px (b o n:Nat) (c:Cap) : (AV.slc b o n c).cells=[.slc b o n c]:=rfl
@[go_sem] theorem PI (b:Nat) : (AV.emp b).cells=[.emp b]:=rfl
@[go_sem] theorem PP (b:Nat) : (AV.map b).cells=[.map b]:=rfl
@[go_sem] theorem Qi (f:Fn) (xs ys:List AV) : (AV.fn f xs ys).cells=[.fn f xs ys]:=rfl
@[go_sem] theorem Rn (v:Value) : oneCell (.sc v)=true:=rfl
@[go_sem] theorem Ri (b o:Nat) : oneCell (.ptr b o)=true:=rfl
@[go_sem] theorem Rh (b o n:Nat) (c:Cap) : oneCell (.slc b o n c)=true:=rfl
@[go_sem] theorem Rk (b:Nat) : oneCell (.emp b)=true:=rfl
@[go_sem] theorem Rm (b:Nat) : oneCell (.map b)=true:=rfl
@[go_sem] theorem Rt (f:Fn) (xs ys:List AV) : oneCell (.fn f xs ys)=true:=rfl
end
theorem RM.KE {M:RM} {b:Nat} {l:List AV} {p:Bool} {e f:Nat} (h:M.heap b=some (.row l p e f)) (o k:Nat) : M.loads b o k=qb (some l) o k:=by rw[RM.yB,RM.qN h]
theorem RM.cell_of {M:RM} {b:Nat} {l:List AV} {p:Bool} {e f:Nat} (h:M.heap b=some (.row l p e f)) (o:Nat) : M.cell b o=l[o]?:=RM.Kt h
theorem RM.vV {M:RM} {b:Nat} {l:List AV} {p:Bool} {e f:Nat} (h:M.heap b=some (.row l p e f)) (o:Nat) (vs:List AV) : M.stores b o vs=(ko l f o vs).map fun l'=>M.put b (.row l' p e f):=RM.qK h
theorem ae.aO {bs:List Nat} {M M' : RM} (h:ae bs M M') {b:Nat} {x:RB} (hh:M.heap b=some x) (hlt:b<M.next) (hb:b ∉ bs) : M'.heap b=some x:=by rw[h.heap b hlt hb,hh]
inductive Rq where
 | val (v:AV)
 | rows (n:Nat) (v:AV) (bs:List (Nat × fK)) (n' : Nat)
structure NZ where
 args:List AV
 fp:List (Nat × fK):=[]
 dead:List Nat:=[]
 nx:Nat:=0
 ans:Rq
def Jp:Tree fK→List (Nat × fK)→Tree fK
 | t,[]=>t
 | t,(b,x) :: r=>Jp (t.set b x) r
def JZ:Tree fK→List Nat→Tree fK
 | t,[]=>t
 | t,b :: r=>JZ (t.del b) r
def Gl (A:AW) : List (Nat × fK)→Bool
 | []=>true
 | (b,x) :: r=>match A.heap.get b with
   | some y=>OQ x y && Gl A r
   | none=>false
def Q9 (A:AW) (e:NZ) : Option (AV × AW) :=
 match Gl A e.fp with
 | false=>none
 | true=>match e.ans with
   | .val v=>some (v,A)
   | .rows n v bs n'=>match Nat.beq n A.next with
     | true=>some (v,{ next:=n',heap:=Jp (JZ A.heap e.dead) bs })
     | false=>none
abbrev Table:=List (Nat × List NZ)
section
variable {P:Program} {X:Ext}
def OD (P:Program) (I:World→Prop) (f:Nat) (e:NZ) : Prop :=
 ∀ (base:Base),(∀ w,base.inv w→I w)→∀ A v A',Q9 A e=some (v,A')→∀ (ρ:Ren) (w:World) (us:List Value),aD ρ e.args us→bu P base ρ A w→base≤w.heap.size →
   Calls P f ⟨us⟩ w fun r w'=>∃ ρ' v',r=.returned v'∧Step base A.next ρ w ρ' w'∧bu P base ρ' A' w'∧A.next≤A'.next∧ag ρ' v v'
def LB (P:Program) (I:World→Prop) (T:Table) : Prop:=∀ g∈T,∀ e∈g.2,OD P I g.1 e
theorem bu.none {P:Program} {base:Base} {n:Nat} {w:World} (hi:base.inv w) : bu P base (fun _=>none) { next:=n,heap:=.leaf } w :=
 ⟨fun _ _ h=>(by cases h),fun _ _ _ h=>(by cases h),fun _ _ _ _ _ _ h=>(by cases h),fun _ _ h=>(by simp[Tree.get] at h),fun _ _ _ h=>(by cases h),hi⟩
def only(ρ:Ren) (ks:List Nat) : Ren:=fun b=>if b∈ks then ρ b else none
theorem LB.nil {I:World→Prop} : LB P I []:=fun g hg=>by cases hg
open Go.WideShapes Go.ChangeShapes in
open Go.WideShapes Go.ChangeShapes in
end
structure Enc (α:Type) where
 size:Nat
 cells:α→List AV
 len:∀ a,(cells a).length=size
 one:∀ a,(cells a).all oneCell=true
section
variable {α:Type} (E:Enc α)
def Enc.row (xs:List α) : List AV:=xs.flatMap E.cells
theorem Enc.LW:E.row []=[]:=rfl
theorem Enc.jX (x:α) (xs:List α) : E.row (x :: xs)=E.cells x++E.row xs:=rfl
theorem Enc.lZ (xs ys:List α) : E.row (xs++ys)=E.row xs++E.row ys:=by simp[Enc.row]
theorem Enc.row_one (x:α) : E.row [x]=E.cells x:=by simp[Enc.row]
theorem Enc.eY:∀ (xs:List α),(E.row xs).length=xs.length * E.size
 | []=>by simp[Enc.row]
 | x :: xs=>by rw[Enc.jX,List.length_append,E.len,Enc.eY xs,List.length_cons,Nat.succ_mul,Nat.add_comm]
theorem Enc.o8:∀ (xs:List α),(E.row xs).all oneCell=true
 | []=>by simp[Enc.row]
 | x :: xs=>by rw[Enc.jX,List.all_append,E.one,Enc.o8 xs]; rfl
theorem Enc.ul:∀ (xs:List α) (i:Nat),(E.row xs).drop (i * E.size)=E.row (xs.drop i)
 | [],i=>by simp[Enc.row]
 | x :: xs,0=>by simp
 | x :: xs,i + 1=>by
   rw[Enc.jX,Nat.succ_mul,Nat.add_comm,← List.drop_drop,List.drop_left' (E.len x),Enc.ul xs i]
   rfl
theorem Enc.yQ:∀ (xs:List α) (i:Nat),(E.row xs).take (i * E.size)=E.row (xs.take i)
 | [],i=>by simp[Enc.row]
 | x :: xs,0=>by simp[Enc.row]
 | x :: xs,i + 1=>by
   rw[Enc.jX,Nat.succ_mul,Nat.add_comm,List.take_append,List.take_of_length_le (by rw[E.len]; omega),E.len,Nat.add_sub_cancel_left,Enc.yQ xs i]
   rfl
theorem Enc.Bz {xs:List α} {i:Nat} (hi:i<xs.length) : ((E.row xs).drop (i * E.size)).take E.size=E.cells xs[i]:=by
 rw[Enc.ul,List.drop_eq_getElem_cons hi,Enc.jX]
 rw[List.take_append_of_le_length (by rw[E.len]; exact Nat.le_refl _),List.take_of_length_le (by rw[E.len]; exact Nat.le_refl _)]
abbrev Sl (M:RM) (v:AV) (xs:List α) : Prop:=aL M E.size v (E.row xs) xs.length
abbrev Ow (M:RM) (base el:Nat) (v:AV) (xs:List α) : Prop:=Own M base el E.size v (E.row xs) xs.length
variable {E} {M M' : RM} {v:AV} {xs:List α}
theorem Sl.elem (h:Sl E M v xs) {i:Nat} (hi:i<xs.length) : ∃ b o,b<M.next∧b∈aN v∧(∀ (kd:IntKind) (K:AV→Prop),dz v (N kd (i:Int)) E.size K=K (.ptr b o))∧M.loads b o E.size=some (E.cells xs[i]):=by
 obtain⟨b,o,cap,rfl,hb,hl⟩:=h.pos (by omega)
 have hsum:i * E.size + E.size≤xs.length * E.size:=by rw[← Nat.succ_mul]; exact Nat.mul_le_mul_right _ hi
 refine⟨b,o + i * E.size,hb,by simp[aN],fun kd K=>?_, ?_⟩
 ·rw[pW]
  simp only[Int.toNat_natCast]
  exact propext ⟨fun h=>h.2.2,fun h=>⟨by omega,by omega,h⟩⟩
 ·rw[qL hl (i * E.size) E.size hsum,E.Bz hi]
theorem Sl.at (h:Sl E M v xs) {i:Nat} (sz:Nat) (j:Int) (hi:i<xs.length) (hsz:E.size=sz:=by rfl) (hj:j=(i:Int):=by rfl) : ∃ b o,b<M.next∧b∈aN v∧(∀ (kd:IntKind) (K:AV→Prop),dz v (N kd j) sz K=K (.ptr b o))∧M.loads b o sz=some (E.cells xs[i]):=by
 subst hsz hj; exact h.elem hi
theorem Dj {b o k:Nat} {cs:List AV} (h:M.loads b o k=some cs) {j:Nat} {x:AV} (hj:cs[j]?=some x) : M.cell b (o + j)=some x:=by
 have hlt:j<k:=by rw[← CF h]; exact(List.getElem?_eq_some_iff.1 hj).1
 rw[JD h j hlt,hj]
theorem BA {b o k:Nat} {cs:List AV} (h:M.loads b o k=some cs) {x:AV} (hj:cs[0]?=some x) : M.cell b o=some x:=Dj h hj
theorem pg {base T bytes:Nat} {zs:List AV} {u:AV} {ys:List α} {K:ah} (ho:Ow E M base T v xs) (hb:base≤M.next) (hs:1≤E.size) (hu:Sl E M u ys)
  (hn:(xs.length + ys.length) * bytes≤140737488355328) (hn2:xs.length + ys.length≤140737488355328)
  (hK:∀ v' M',Ow E M' base T v' (xs++ys)→ae (aN v) M M'→M.next≤M'.next→(v'=v∨∀ b∈aN v',M.next≤b)→K v' M') :
  appW T E.size bytes zs false v u M K:=by
 refine xD ho hb hs (aL.mh hu _) (E.eY ys) (E.o8 ys) hn hn2 ?_
 intro v' M' h1 h2 h3 h4
 refine hK v' M' ?_ h2 h3 h4
 rw[← E.lZ] at h1
 simpa [Ow] using h1
theorem Sl.new {T c:Nat} {p:Bool} (ys:List α) : Sl E (M.push (.row (E.row ys) p T 0)) (.slc M.next 0 ys.length (.ex c)) ys :=
 .slc _ _ _ _ _ (by simp[RM.push]) (by rw[RM.gD (RM.lq _) (by rw[E.eY]; omega),List.drop_zero,← E.eY,List.take_length])
theorem wS {base T bytes:Nat} {zs:List AV} {a:α} {K:ah} (ho:Ow E M base T v xs) (hb:base≤M.next) (hs:1≤E.size)
  (hn:(xs.length + 1) * bytes≤140737488355328) (hn2:xs.length + 1≤140737488355328)
  (hK:∀ v' M',Ow E M' base T v' (xs++[a])→ae (aN v) M M'→M.next≤M'.next→(v'=v∨∀ b∈aN v',M.next≤b)→K v' M') :
  appW T E.size bytes zs false v (.slc M.next 0 1 (.ex 1)) (M.push (.row (E.cells a) false T 0)) K:=by
 have hk:ae [] M (M.push (.row (E.cells a) false T 0)):=(ae.refl _ _).push _
 refine pg (ys:=[a]) (Own.keep ho hk (by simp)) (Nat.le_trans hb hk.next) hs (by rw[← E.row_one]; exact Sl.new [a]) hn hn2 ?_
 intro v' M' h1 h2 h3 h4
 exact hK v' M' h1 ((hk.mono (by simp)).trans h2) (Nat.le_trans hk.next h3) (h4.imp id fun h b hb=>Nat.le_trans hk.next (h b hb))
@[go_sem] theorem Iu {T:Nat} {zs:List AV} {K:RB→(Nat→AV)→Prop} : bX T 0 zs [] K=K (.row [] false T 0) (fun b=>.slc b 0 0 (.ex 0)):=by
 apply propext; unfold bX
 constructor
 ·rintro⟨l,h,hk⟩; cases h; exact hk
 ·intro hk; exact⟨_,rfl,hk⟩
theorem wQ {T size:Nat} {zs:List AV} {x:AV} {K:RB→(Nat→AV)→Prop} (h:x.cells.length=size) (h1:x.cells.all oneCell=true) (hz:zs.length=size) :
  bX T 1 zs [(0,size,x)] K=K (.row x.cells false T 0) (fun b=>.slc b 0 1 (.ex 1)):=by
 have:nJ (bV zs 1) [(0,size,x)]=some x.cells:=by
  simp only[nJ,bV,List.append_nil,h1,h,Nat.zero_add,hz,Nat.le_refl,and_self,if_true,List.take_zero,List.nil_append]
  rw[List.drop_of_length_le (by omega),List.append_nil]
 apply propext; unfold bX
 constructor
 ·rintro⟨l,h,hk⟩; rw[this] at h; cases h; exact hk
 ·intro hk; exact⟨_,this,hk⟩
theorem Ow.lit (E:Enc α) {T:Nat} (M:RM) : Ow E (M.push (.row [] false T 0)) M.next T (.slc M.next 0 0 (.ex 0)) []:=Own.lit M (Nat.le_refl _)
theorem tJ {i:Nat} (h:i<9223372036854775807) : IntKind.wrap .i64 ((i:Int) + 1)=((i + 1:Nat) : Int):=by
 rw[gB (by omega) (by omega)]; rfl
end
@[go_sem] theorem O1:bK [] [] []=some true:=rfl
@[go_sem] theorem Oz (ks:List Nat) (k:IntKind) (a b:Int) (xs ys:List AV) : bK (1 :: ks) (N k a :: xs) (N k b :: ys)=if a=b then bK ks xs ys else some false:=by
 simp only[bK,lT,if_true]
 by_cases h:a=b
 ·simp[h]
 ·have:(a == b)=false:=by simp[h]
  simp[this,h]
@[go_sem] theorem Pf (ks:List Nat) (a b:List UInt8) (xs ys:List AV) : bK (2 :: ks) (St a :: xs) (St b :: ys)=if a=b then bK ks xs ys else some false:=by
 simp only[bK,lT]
 by_cases h:a=b
 ·simp[h]
 ·have:(a == b)=false:=by simp[h]
  simp[this,h]
@[go_sem] theorem Oq (ks:List Nat) (a b:Bool) (xs ys:List AV) : bK (3 :: ks) (Bo a :: xs) (Bo b :: ys)=if a=b then bK ks xs ys else some false:=by
 simp only[bK,lT]
 by_cases h:a=b
 ·simp[h]
 ·have:(a == b)=false:=by simp[h]
  simp[this,h]
theorem cO (x:AV) (w:Bool) (f g:ah→Prop) (F G:AV→RM→ah→Prop) (k:ah) :
  aa x w f g (fun v M=>aa x w (F v M) (G v M) k)=aa x w (fun k'=>f fun v M=>F v M k') (fun k'=>g fun v M=>G v M k') k:=by
 unfold aa kV
 split
 ·split <;> simp_all
 ·rfl
 ·rfl
theorem dW {body:(List AV→RM→Prop)→List AV→RM→Prop} {xs:List AV} {M:RM} (I:Nat→List AV→RM→Prop) (n:Nat) (h0:I n xs M)
  (hb:∀ (next:List AV→RM→Prop) m ys M',(∀ m' zs M'',m'<m→I m' zs M''→next zs M'')→I m ys M'→body next ys M') : fI body xs M :=
 ⟨I,n,h0,fun m ys M' hI=>hb _ m ys M' (fun m' zs M'' hlt h=>⟨m',hlt,h⟩) hI⟩
abbrev By (b:UInt8) : AV:=N .u8 (b.toNat:Int)
def BY:Enc UInt8:=⟨1,fun b=>[By b],fun _=>rfl,fun _=>rfl⟩
theorem AO (s:List UInt8) : BY.row s=s.map By:=by
 induction s with
 | nil=>rfl
 | cons b s ih=>rw[Enc.jX,ih]; rfl
def mg:Enc (List UInt8):=⟨1,fun s=>[St s],fun _=>rfl,fun _=>rfl⟩
def INT:Enc Int:=⟨1,fun n=>[N .i64 n],fun _=>rfl,fun _=>rfl⟩
theorem Bf:∀ (s:List UInt8),bN byteOf (s.map By)=some s
 | []=>rfl
 | b :: s=>by
   simp only[List.map_cons,bN,byteOf,Bf s]
   simp
section
variable {α:Type} {E:Enc α} {M M' : RM} {v:AV} {xs:List α}
theorem Sl.str {s:List UInt8} (h:Sl BY M v s) {K:AV→Prop} : eD M v K=K (St s) :=
 Fq (aL.tY h (by rw[AO]; exact Bf s))
structure Rw (E:Enc α) (M:RM) (b:Nat) (opn:Bool) (el:Nat) (xs:List α) : Prop where
 heap:M.heap b=some (.row (E.row xs) opn el 0)
 lt:b<M.next
theorem Rw.sl {b el:Nat} {p:Bool} {cap:Cap} (h:Rw E M b p el xs) : Sl E M (.slc b 0 xs.length cap) xs:=by
 refine .slc _ _ _ _ _ h.lt ?_
 rw[RM.gD h.heap (by rw[E.eY]; omega),List.drop_zero,← E.eY,List.take_length]
theorem Rw.keep {b el:Nat} {p:Bool} {bs:List Nat} (h:Rw E M b p el xs) (hk:ae bs M M') (hb:b ∉ bs) : Rw E M' b p el xs :=
 ⟨hk.aO h.heap h.lt hb,Nat.lt_of_lt_of_le h.lt hk.next⟩
theorem Rw.new {el:Nat} {p:Bool} (M:RM) (xs:List α) : Rw E (M.push (.row (E.row xs) p el 0)) M.next p el xs :=
 ⟨RM.lq _,by simp[RM.push]⟩
theorem Rw.load {b el:Nat} {p:Bool} (h:Rw E M b p el xs) {i:Nat} (hi:i<xs.length) : M.loads b (i * E.size) E.size=some (E.cells xs[i]):=by
 have hsum:i * E.size + E.size≤xs.length * E.size:=by rw[← Nat.succ_mul]; exact Nat.mul_le_mul_right _ hi
 rw[RM.gD h.heap (by rw[E.eY]; exact hsum),E.Bz hi]
theorem Enc.Mv (E:Enc α) {xs:List α} {i:Nat} (hi:i<xs.length) (x:α) : E.row (xs.set i x)=(E.row xs).take (i * E.size)++E.cells x++(E.row xs).drop (i * E.size + E.size):=by
 rw[E.yQ,← Nat.succ_mul,E.ul,List.set_eq_take_append_cons_drop,if_pos hi,E.lZ,E.jX,List.append_assoc]
theorem Rw.store {b el:Nat} {p:Bool} (h:Rw E M b p el xs) {i:Nat} (hi:i<xs.length) (x:α) :
  M.stores b (i * E.size) (E.cells x)=some (M.put b (.row (E.row (xs.set i x)) p el 0))∧Rw E (M.put b (.row (E.row (xs.set i x)) p el 0)) b p el (xs.set i x):=by
 have hsum:i * E.size + E.size≤xs.length * E.size:=by rw[← Nat.succ_mul]; exact Nat.mul_le_mul_right _ hi
 refine⟨?_,RM.zL _ _,h.lt⟩
 rw[RM.Im h.heap (by rw[E.len,E.eY]; exact hsum) (Nat.zero_le _) (E.one x),E.Mv hi,E.len]
theorem Rw.ax {b el:Nat} {p:Bool} (h:Rw E M b p el xs) {i:Nat} (hi:i<xs.length) (hsz:E.size=1:=by rfl) {x:AV} (hx:E.cells xs[i]=[x]:=by rfl) : M.cell b i=some x:=by
 have:=h.load hi
 rw[hsz,Nat.mul_one] at this
 exact BA this (by rw[hx]; rfl)
theorem Rw.JQ {b el:Nat} {p:Bool} (h:Rw E M b p el xs) {i:Nat} (hi:i<xs.length) (x:α) (hsz:E.size=1:=by rfl) {u:AV} (hx:E.cells x=[u]:=by rfl) :
  M.stores b i [u]=some (M.put b (.row (E.row (xs.set i x)) p el 0))∧Rw E (M.put b (.row (E.row (xs.set i x)) p el 0)) b p el (xs.set i x):=by
 have:=h.store hi x
 rw[hsz,Nat.mul_one,hx] at this
 exact this
end
@[go_sem] theorem gV (el:Nat) (s:List UInt8) (K:RB→(Nat→AV)→Prop) : jl el (St s) K=K (.row (BY.row s) true el 0) (fun b=>.slc b 0 s.length (.op 1)):=by
 rw[AO]
 apply propext; unfold jl
 constructor
 ·rintro⟨s',h,hk⟩; cases h; exact hk
 ·intro hk; exact⟨s,rfl,hk⟩
def bU (b:UInt8) : UInt8:=if 65≤b.toNat∧b.toNat≤90 then b + 32 else b
def low (s:List UInt8) : List UInt8:=s.map bU
def yG (c:ai) : Prop:=∀ {M:RM} {s:List UInt8} {Q:ah},s.length<9223372036854775807→(∀ M',ae [] M M'→Q (St (low s)) M')→c [St s] M Q
def upTo (f:UInt8→UInt8) (i:Nat) (s:List UInt8) : List UInt8:=(s.take i).map f++s.drop i
theorem JN (f:UInt8→UInt8) (s:List UInt8) : upTo f 0 s=s:=by simp[upTo]
theorem KG (f:UInt8→UInt8) (s:List UInt8) : upTo f s.length s=s.map f:=by simp[upTo]
theorem Ey (f:UInt8→UInt8) (i:Nat) (s:List UInt8) : (upTo f i s).length=s.length:=by
 simp[upTo]; omega
theorem Eb (f:UInt8→UInt8) {i:Nat} {s:List UInt8} (hi:i<s.length) : (upTo f i s)[i]?=some s[i]:=by
 simp only[upTo]
 rw[List.getElem?_append_right (by simp; omega)]
 simp
 rw[Nat.min_eq_left (by omega),Nat.sub_self,Nat.add_zero,List.getElem?_eq_getElem hi]
theorem Ff (f:UInt8→UInt8) {i:Nat} {s:List UInt8} (hi:i<s.length) : (upTo f i s).set i (f s[i])=upTo f (i + 1) s:=by
 simp only[upTo]
 have hl:((s.take i).map f).length=i:=by simp; omega
 rw[List.set_append_right _ _ (by omega),hl,Nat.sub_self,List.drop_eq_getElem_cons hi,List.set_cons_zero,List.take_succ_eq_append_getElem hi,List.map_append,List.append_assoc]
 rfl
theorem Jq (f:UInt8→UInt8) {i:Nat} {s:List UInt8} (hi:i<s.length) (h:f s[i]=s[i]) : upTo f (i + 1) s=upTo f i s:=by
 rw[← Ff f hi,h]
 apply List.ext_getElem?
 intro j
 rw[List.getElem?_set]
 split
 ·rename_i e; subst e
  rw[Eb f hi]; simp[Ey,hi]
 ·rfl
theorem Aq (b:UInt8) : b.toNat<256:=b.toNat_lt
structure qf (n:Nat) (bs:List Nat) (M M' : RM) : Prop where
 base:M'.base=M.base
 next:M.next≤M'.next
 heap:∀ c,c<n→c ∉ bs→M'.heap c=M.heap c
theorem qf.refl (n:Nat) (bs:List Nat) (M:RM) : qf n bs M M:=⟨rfl,Nat.le_refl _,fun _ _ _=>rfl⟩
theorem qf.trans {n:Nat} {bs:List Nat} {M M1 M2:RM} (h:qf n bs M M1) (k:qf n bs M1 M2) : qf n bs M M2 :=
 ⟨k.base.trans h.base,Nat.le_trans h.next k.next,fun c h1 h2=>(k.heap c h1 h2).trans (h.heap c h1 h2)⟩
theorem ae.to {bs cs:List Nat} {n:Nat} {M M' : RM} (h:ae bs M M') (hn:n≤M.next) (hb:∀ b∈bs,n≤b∨b∈cs) : qf n cs M M' :=
 ⟨h.base,h.next,fun c h1 h2=>h.heap c (Nat.lt_of_lt_of_le h1 hn) (fun hm=>by rcases hb c hm with h3 | h3; omega; exact h2 h3)⟩
theorem Own.same {M M' : RM} {n el size n0:Nat} {v:AV} {cs:List AV} (h:Own M n0 el size v cs n) (hn:M'.next=M.next) (hb:∀ c∈aN v,M'.heap c=M.heap c) (hbase:M'.base=M.base) : Own M' n0 el size v cs n:=by
 cases h with
 | nil=>exact .nil
 | ex0 b o h1 h2 h3=>exact .ex0 b o h1 (by omega) (by simpa [RM.pu,hb b (by simp[aN]),RM.lo,hbase] using h3)
 | op b n cs h1 h2 h3 h4=>exact .op b n cs h1 (by omega) (by rw[hb b (by simp[aN]),h3]) h4
theorem Own.one {M:RM} {n el size n0:Nat} {v:AV} {cs:List AV} (h:Own M n0 el size v cs n) : oneCell v=true:=by
 cases h <;> rfl
theorem Own.cells {M:RM} {n el size n0:Nat} {v:AV} {cs:List AV} (h:Own M n0 el size v cs n) : v.cells=[v]:=by
 cases h <;> rfl
end Go.Ab
set_option maxRecDepth 10000
namespace Go.Ab.Vl
open Go Go.Ab
structure PV (TB T8 n0:Nat) (M:RM) (b:Nat) (xs:List UInt8) : Prop where
 lt:b<n0
 hn:n0≤M.next
 row:∃ addr buf,M.heap b=some (.row [addr,buf] false TB 0)∧(addr=.sc (.pointer none)∨addr=.ptr b 0)∧Ow BY M n0 T8 buf xs∧(xs=[]→buf=aH)
theorem PV.new {TB T8 n0 b:Nat} {M:RM} (hh:M.heap b=some (.row [.sc (.pointer none),aH] false TB 0)) (hb:b<n0) (hn:n0≤M.next) : PV TB T8 n0 M b [] :=
 ⟨hb,hn,_,_,hh,.inl rfl,.nil,fun _=>rfl⟩
theorem oV {s:List UInt8} {i:Nat} (hi:i<s.length) (kd:IntKind) (K:AV→Prop) : dN (St s) (N kd (i:Int)) K=K (By s[i]):=by
 rw[Mr]
 apply propext
 constructor
 ·rintro⟨_,b,hb,hk⟩
  rw[Int.toNat_natCast,List.getElem?_eq_getElem hi] at hb
  cases hb; exact hk
 ·intro hk; exact⟨by omega,s[i],by rw[Int.toNat_natCast,List.getElem?_eq_getElem hi],hk⟩
def NC (d:UInt8) : Prop:=d.toNat=92∨d.toNat=44∨d.toNat=59∨d.toNat=58
instance (d:UInt8) : Decidable (NC d):=inferInstanceAs (Decidable (_∨_))
def Ru (d:UInt8) : Prop:=d.toNat=110∨d.toNat=78
instance (d:UInt8) : Decidable (Ru d):=inferInstanceAs (Decidable (_∨_))
def fQ (c:ai) : Prop:=∀ {M:RM} {s:List UInt8} {x:UInt8} {Q:ah},Q (N .i64 (Lib.indexByte s x)) M→c [St s,By x] M Q
theorem BP (l:List UInt8) (x:UInt8) : (Lib.indexByte l x ≥ 0)↔x∈l:=by
 induction l with
 | nil=>simp[Lib.indexByte]
 | cons y ys ih =>
   simp only[Lib.indexByte]
   have:=Lib.indexByte_ge ys x
   by_cases h:y=x
   ·subst h; simp
   ·have hb:(y == x)=false:=by simpa using h
    have h' : ¬ x=y:=fun e=>h e.symm
    simp only[hb,List.mem_cons,h',false_or]
    rw[← ih]
    simp
    split <;> omega
def DU (x:UInt8) : List UInt8→List UInt8→Bool→List (List UInt8)
 | [],cur,_=>[cur]
 | c :: s,cur,odd=>if c=x∧odd=false then cur :: DU x s [] (decide (c.toNat=92) && !odd) else DU x s (cur++[c]) (decide (c.toNat=92) && !odd)
def parts (x:UInt8) (s:List UInt8) : List (List UInt8):=DU x s [] false
def Er (T:Nat) (c:ai) : Prop:=∀ {M:RM} {s:List UInt8} {x:UInt8} {Q:ah},s.length≤1000000→(∀ v M',Ow mg M' M.next T v (parts x s)→ae [] M M'→Q v M')→c [St s,By x] M Q
theorem iC {s:List UInt8} {l h:Nat} (h1:l≤h) (h2:h≤s.length) (k1 k2:IntKind) : bY (St s) (some (N k1 (l:Int))) (some (N k2 (h:Int)))=some (St ((s.drop l).take (h - l))):=by
 simp only[bY,bnd]
 simp[h1,h2]
theorem fA {s:List UInt8} {l:Nat} (h1:l≤s.length) (k1:IntKind) : bY (St s) (some (N k1 (l:Int))) none=some (St (s.drop l)):=by
 simp only[bY,bnd]
 simp[h1]
 rw[List.take_of_length_le (by simp)]
set_option maxRecDepth 100000
def Rp (n b0 b1 b2 b3:Nat) : Nat:=if Lib.decodeN n b0 b1 b2 b3=(65533,1) then 0 else(Lib.decodeN n b0 b1 b2 b3).2
section
variable {n b0 b1 b2 b3:Nat}
end
def bt (s:List UInt8) (i:Nat) : Nat:=(s.getD i 0).toNat
def rk (s:List UInt8) : Nat:=if s=[] then 0 else Rp s.length (bt s 0) (bt s 1) (bt s 2) (bt s 3)
def acc (v0:Nat) (s:List UInt8) : Nat→Nat
 | 0=>v0
 | k + 1=>64 * acc v0 s k + bt s (k + 1) - 128
theorem zA {x:Int} (h : -9223372036854775808≤x) (k:x<9223372036854775808) : IntKind.wrap .i64 x=x:=gB (by omega) (by omega)
set_option maxRecDepth 10000
theorem LY {s:List UInt8} (h:s≠[]) {k:Nat} (hk:1≤k) : (s.drop k).length<s.length:=by
 have:=List.length_pos_iff.2 h
 simp; omega
def NS (s:List UInt8) : Bool:=if s=[] then true else if h:rk s=0 then false else NS (s.drop (rk s)) termination_by s.length decreasing_by exact LY (by assumption) (by omega)
theorem Gr {n0 T8:Nat} {M:RM} {v:AV} {xs s:List UInt8} {K:AV→RM→Prop} (ho:Ow BY M n0 T8 v xs) (hn:n0≤M.next) (hl:xs.length + s.length≤140737488355328)
  (hK:∀ v' M',Ow BY M' n0 T8 v' (xs++s)→ae (aN v) M M'→K v' M') : appW T8 1 1 [N .u8 0] false v (St s) M K:=by
 have hnew:mh M 1 [N .u8 0] false (St s)=some (s.length,BY.row s):=by simp only[mh,AO,if_true]
 refine xD ho hn (Nat.le_refl _) hnew (by rw[BY.eY]; rfl) (BY.o8 s) (by omega) (by omega) fun v' M2 h2 k2 hnx2 hv=>hK v' M2 ?_ k2
 rw[← BY.lZ] at h2
 show Own M2 n0 T8 1 v' (BY.row (xs++s)) (xs++s).length
 rw[List.length_append]; exact h2
theorem gz {s:List UInt8} {h:Nat} (h2:h≤s.length) (k2:IntKind) : bY (St s) none (some (N k2 (h:Int)))=some (St (s.take h)):=by
 have:=iC (s:=s) (l:=0) (h:=h) (by omega) h2 .i64 k2
 rw[List.drop_zero,Nat.sub_zero] at this; exact this
def strip (s:List UInt8) : List UInt8:=if s.drop (s.length - 1)=[13] then s.take (s.length - 1) else s
def Bh (c:ai) : Prop:=∀ {M:RM} {s:List UInt8} {Q:ah},Q (N .i64 (Lib.indexByte s 10)) M→c [St s,St [10]] M Q
def DF (c:ai) : Prop:=∀ {M:RM} {s:List UInt8} {Q:ah},s.length≤1000000000→Q (St (strip s)) M→c [St s,St [13]] M Q
def BQ (s:List UInt8) : Prop:=∀ b∈s,b.toNat≠10
theorem BQ.take {s:List UInt8} (h:BQ s) (n:Nat) : BQ (s.take n):=fun b hb=>h b (List.mem_of_mem_take hb)
theorem BQ.drop {s:List UInt8} (h:BQ s) (n:Nat) : BQ (s.drop n):=fun b hb=>h b (List.mem_of_mem_drop hb)
def Et (c:UInt8) : Bool:=(decide (32≤c.toNat) && decide (c.toNat≠127)) || decide (c.toNat=9)
def N7 (c:ai) : Prop:=∀ {M:RM} {x:UInt8} {Q:ah},Q (Bo (Et x)) M→c [By x] M Q
def bU (c:UInt8) : UInt8:=if 65≤c.toNat∧c.toNat≤90 then UInt8.ofNat (c.toNat + 32) else c
def Ni (c:ai) : Prop:=∀ {M:RM} {s:List UInt8} {Q:ah},s.length≤1000000000→(∀ M',ae [] M M'→Q (St (s.map bU)) M')→c [St s] M Q
theorem Gs {s:List UInt8} {i:Nat} (hi:i<s.length) : ((s.take i).map bU).length=i:=by simp; omega
theorem KC {s:List UInt8} {i:Nat} (hi:i<s.length) (x:UInt8) : ((s.take i).map bU++s.drop i).set i x=(s.take i).map bU++x :: s.drop (i + 1):=by
 have hl:=Gs hi
 rw[List.drop_eq_getElem_cons hi,List.set_append_right _ _ (by omega),hl,Nat.sub_self,List.set_cons_zero]
theorem DY {s:List UInt8} {i:Nat} (hi:i<s.length) : (s.take (i + 1)).map bU++s.drop (i + 1)=(s.take i).map bU++bU s[i] :: s.drop (i + 1):=by
 rw[List.take_succ_eq_append_getElem hi,List.map_append,List.append_assoc]
 rfl
theorem Mm {s:List UInt8} {i:Nat} (hi:i<s.length) (h:i<((s.take i).map bU++s.drop i).length) : ((s.take i).map bU++s.drop i)[i]=s[i]:=by
 have hl:=Gs hi
 rw[List.getElem_append_right (by omega)]
 simp only[hl,Nat.sub_self,List.getElem_drop,Nat.add_zero]
theorem AX {T8:Nat} : Ni fun args M Q=>∃ a0,args=[a0]∧uO T8 a0 M Q:=by
 intro M s Q hl hQ
 refine⟨_,rfl, ?_⟩
 unfold uO
 simp only[cO,aS,gV,jL]
 have hk1:ae [] M (M.push (.row (BY.row s) true T8 0)):=(ae.refl _ _).push _
 have hr1:Rw BY (M.push (.row (BY.row s) true T8 0)) M.next true T8 s:=Rw.new M s
 generalize M.push (.row (BY.row s) true T8 0)=M1 at *
 refine dW (fun m ys M3=>∃ i:Nat,m=s.length - i∧ys=[N .i64 i]∧i≤s.length∧Rw BY M3 M.next true T8 ((s.take i).map bU++s.drop i)∧ae [] M M3) _
  ⟨0,rfl,rfl,Nat.zero_le _,by simpa using hr1,hk1⟩ ?_
 rintro next m ys M3 hnext ⟨i,rfl,rfl,hi,hR,hK⟩
 simp only[go_sem]
 refine⟨fun hlt=>?_,fun hge=>?_⟩
 ·have hlt:i<s.length:=by simpa using hlt
  have hlen:i<((s.take i).map bU++s.drop i).length:=by simp; omega
  have hc:=hR.ax hlen
  have w1:=tJ (show i<9223372036854775807 by omega)
  rw[Mm hlt hlen] at hc
  refine⟨by omega,_,hc, ?_⟩
  have same:bU s[i]=s[i]→next [N .i64 ((i + 1:Nat) : Int)] M3:=fun h=>by
   refine hnext _ _ _ (by omega) ⟨i + 1,rfl,rfl,by omega, ?_,hK⟩
   rw[DY hlt,h,← List.drop_eq_getElem_cons hlt]
   exact hR
  have cb:=Aq s[i]
  simp only[w1]
  by_cases h1:65≤s[i].toNat
  ·have e1:((s[i].toNat:Int) ≥ 65):=by omega
   by_cases h2:s[i].toNat≤90
   ·have e2:((s[i].toNat:Int)≤90):=by omega
    have hlow:bU s[i]=UInt8.ofNat (s[i].toNat + 32):=by rw[bU,if_pos ⟨h1,h2⟩]
    have wv:N IntKind.u8 (IntKind.u8.wrap (IntKind.u8.wrap ((s[i].toNat:Int) + 97) - 65))=By (bU s[i]):=by
     rw[hlow,By,MP,Nat.mod_eq_of_lt (by omega)]
     congr 1
     rw[show IntKind.u8.wrap ((s[i].toNat:Int) + 97)=(s[i].toNat:Int) + 97 from jh (by omega) (by omega)]
     rw[jh (by omega) (by omega)]; omega
    obtain⟨hs,hR'⟩:=hR.JQ hlen (bU s[i])
    simp only[e1,e2,decide_true,go_sem]
    rw[KC hlt] at hs hR'
    refine⟨by omega,_,(congrArg (fun x=>M3.stores M.next i [x]) wv).trans hs, ?_⟩
    refine hnext _ _ _ (by omega) ⟨i + 1,rfl,rfl,by omega, ?_,hK.put _ (.inl (Nat.le_refl _))⟩
    rw[DY hlt]
    exact hR'
   ·have e2:¬ ((s[i].toNat:Int)≤90):=by omega
    simp only[e1,e2,decide_true,decide_false,go_sem]
    exact same (by rw[bU,if_neg (by omega)])
  ·have e1:¬ ((s[i].toNat:Int) ≥ 65):=by omega
   simp only[e1,decide_false,go_sem]
   exact same (by rw[bU,if_neg (by omega)])
 ·have:i=s.length:=by simp at hge; omega
  subst this
  rw[List.take_length,List.drop_length,List.append_nil] at hR
  have:=hR.sl (cap:=.op 1)
  rw[List.length_map] at this
  rw[Sl.str this]
  exact hQ M3 hK
def Nk (B:Base) (c:ai) : Prop:=∀ {M:RM} {s:List UInt8} {Q:ah},M.base=B→s.length≤1000000000→Q (Bo (NS s)) M→c [St s] M Q
def okB (x:List UInt8) (c:UInt8) : Bool:=Et c && !(decide (c∈x))
def DD (x s:List UInt8) : Bool:=s.all (okB x) && NS s
def Ia (B:Base) (c:ai) : Prop:=∀ {M:RM} {s x:List UInt8} {Q:ah},M.base=B→s.length≤1000000000→(∀ M',ae [] M M'→Q (Bo (DD x s)) M')→c [St s,St x] M Q
theorem su {B:Base} {T8:Nat} {cp ci cv:ai} (hp:N7 cp) (hi:fQ ci) (hv:Nk B cv) : Ia B fun args M Q=>∃ a0 a1,args=[a0,a1]∧om T8 cp ci cv a0 a1 M Q:=by
 intro M s x Q hM hl hQ
 refine⟨_,_,rfl, ?_⟩
 unfold om
 simp only[cO,aS,gV,jL]
 have hk1:ae [] M (M.push (.row (BY.row s) true T8 0)):=(ae.refl _ _).push _
 have hr1:Rw BY (M.push (.row (BY.row s) true T8 0)) M.next true T8 s:=Rw.new M s
 generalize M.push (.row (BY.row s) true T8 0)=M1 at *
 refine dW (fun m ys M3=>M3=M1∧∃ i:Nat,m=s.length - i∧ys=[N .i64 i]∧i≤s.length∧(s.take i).all (okB x)=true) _
  ⟨rfl,0,rfl,rfl,Nat.zero_le _,by simp⟩ ?_
 rintro next m ys M3 hnext ⟨hM3,i,rfl,rfl,hile,hall⟩
 subst hM3
 simp only[go_sem]
 refine⟨fun hlt=>?_,fun hge=>?_⟩
 ·have hlt:i<s.length:=by simpa using hlt
  have hc:=hr1.ax hlt
  have htk:=List.take_succ_eq_append_getElem hlt
  have hmem:=List.getElem_mem hlt
  generalize s[i]=c at *
  have w1:=tJ (show i<9223372036854775807 by omega)
  have bad:okB x c=false→Q (Bo false) M3:=fun h=>by
   have:DD x s=false:=by
    have h2:s.all (okB x)=false:=by
     rw[List.all_eq_false]
     exact⟨c,hmem,by rw[h]; simp⟩
    rw[DD,h2]; rfl
   rw[← this]; exact hQ M3 hk1
  have good:okB x c=true→next [N .i64 ((i + 1:Nat) : Int)] M3:=fun h=>by
   refine hnext _ _ _ (by omega) ⟨rfl,i + 1,rfl,rfl,by omega, ?_⟩
   rw[htk,List.all_append,hall]
   simp[h]
  refine⟨by omega,By c,hc,hp ?_⟩
  cases hpl:Et c with
  | false =>
    simp only[go_sem]
    exact bad (by simp[okB,hpl])
  | true =>
    simp only[go_sem]
    refine hi ?_
    have hge:=BP x c
    by_cases hcx:c∈x
    ·have e1:decide (Lib.indexByte x c ≥ 0)=true:=decide_eq_true (hge.2 hcx)
     simp only[go_sem,e1]
     exact bad (by simp[okB,hcx])
    ·have e1:decide (Lib.indexByte x c ≥ 0)=false:=decide_eq_false fun h=>hcx (hge.1 h)
     simp only[go_sem,e1,w1]
     exact good (by simp[okB,hcx,hpl])
 ·have:i=s.length:=by simp at hge; omega
  subst this
  rw[List.take_length] at hall
  refine hv (by rw[hk1.base,hM]) hl ?_
  have:=hQ M3 hk1
  rw[DD,hall,Bool.true_and] at this
  exact this
def Qp:List UInt8:=[97,98,99,100,101,102,103,104,105,106,107,108,109,110,111,112,113,114,115,116,117,118,119,120,121,122,48,49,50,51,52,53,54,55,56,57,45]
def KS (B:Base) (f:List UInt8→List UInt8) (c:ai) : Prop:=∀ {M:RM} {s:List UInt8} {Q:ah},M.base=B→s.length≤1000000000→(∀ M',ae [] M M'→Q (St (f s)) M')→c [St s,St Qp] M Q
def LG (f:List UInt8→List UInt8) (s:List UInt8) : Bool:=decide (1≤s.length) && decide (s.length≤20) && (f s == [])
def Jn (B:Base) (f:List UInt8→List UInt8) (c:ai) : Prop:=∀ {M:RM} {s:List UInt8} {Q:ah},M.base=B→s.length≤1000000000→(∀ M',ae [] M M'→Q (Bo (LG f s)) M')→c [St s] M Q
theorem uM {B:Base} {f:List UInt8→List UInt8} {ct:ai} (ht:KS B f ct) : Jn B f fun args M Q=>∃ a0,args=[a0]∧pV ct a0 M Q:=by
 intro M s Q hM hl hQ
 refine⟨_,rfl, ?_⟩
 unfold pV
 simp only[cO]
 rw[lK,dh]
 unfold LG at hQ
 by_cases h1:1≤s.length
 ·have e1:decide ((s.length:Int) ≥ 1)=true:=by simp; omega
  rw[e1]
  by_cases h2:s.length≤20
  ·have e2:decide ((s.length:Int)≤20)=true:=by simp; omega
   simp only[go_sem,e2]
   refine ht hM hl fun M1 k1=>?_
   simp only[go_sem]
   have:=hQ M1 k1
   simpa [h1,h2] using this
  ·have e2:decide ((s.length:Int)≤20)=false:=by simp; omega
   simp only[go_sem,e2]
   simpa [h1,h2] using hQ M (ae.refl _ _)
 ·have e1:decide ((s.length:Int) ≥ 1)=false:=by simp; omega
  rw[e1]
  simp only[go_sem]
  simpa [h1] using hQ M (ae.refl _ _)
def brk (x:UInt8) : List UInt8→Option (List UInt8 × List UInt8)
 | []=>none
 | c :: t=>if c=x then some ([],t) else(brk x t).map fun p=>(c :: p.1,p.2)
theorem sO (x:UInt8) : ∀ s:List UInt8,(brk x s=none∧Lib.indexByte s x=-1∧x ∉ s)∨∃ a b,brk x s=some (a,b)∧Lib.indexByte s x=(a.length:Int)∧s=a++x :: b∧x ∉ a
 | []=>.inl ⟨rfl,rfl,by simp⟩
 | c :: t=>by
   by_cases h:c=x
   ·subst h
    exact .inr ⟨[],t,by simp[brk],by simp[Lib.indexByte],rfl,by simp⟩
   ·have hc:(c == x)=false:=by simpa using h
    rcases sO x t with⟨h1,h2,h4⟩ | ⟨a,b,h1,h2,h3,h4⟩
    ·exact .inl ⟨by simp[brk,h,h1],by simp[Lib.indexByte,hc,h2],by simp[h4,Ne.symm h]⟩
    ·refine .inr ⟨c :: a,b,by simp[brk,h,h1], ?_,by rw[h3]; rfl,by simp[h4,Ne.symm h]⟩
     have:((a.length:Int) == -1)=false:=by simp
     simp[Lib.indexByte,hc,h2,this]
def sI (x:UInt8) (c:ai) : Prop:=∀ {M:RM} {s:List UInt8} {Q:ah},Q (N .i64 (Lib.indexByte s x)) M→c [St s,St [x]] M Q
theorem xN {x:UInt8} {ci xx c1 c2:ai} (hi:fQ ci) : sI x fun args M Q=>∃ a0 a1,args=[a0,a1]∧bJ ci xx c1 c2 a0 a1 M Q:=by
 intro M s Q hQ
 refine⟨_,_,rfl, ?_⟩
 unfold bJ
 rw[lK,bB,show((([x] : List UInt8).length:Int) == 0)=false from rfl]
 simp only[cO]
 by_cases h:[x]=s
 ·subst h
  have:Lib.indexByte [x] x=0:=by simp[Lib.indexByte]
  rw[this] at hQ
  simp only[go_sem,beq_self_eq_true]
  exact hQ
 ·have h' : (([x] : List UInt8) == s)=false:=by simp[h]
  simp only[go_sem,h']
  exact⟨fun _=>⟨by omega,x,rfl,hi hQ⟩,fun h=>absurd h (by decide)⟩
def ow (x:UInt8) (s:List UInt8) : AV:=match brk x s with
 | some (a,b)=>.tup [St a,St b,Bo true]
 | none=>.tup [St s,St [],Bo false]
def j4 (x:UInt8) (c:ai) : Prop:=∀ {M:RM} {s:List UInt8} {Q:ah},s.length≤1000000000→Q (ow x s) M→c [St s,St [x]] M Q
theorem BS {x:UInt8} {ci:ai} (hi:sI x ci) : j4 x fun args M Q=>∃ a0 a1,args=[a0,a1]∧fT ci a0 a1 M Q:=by
 intro M s Q hl hQ
 refine⟨_,_,rfl, ?_⟩
 unfold fT
 refine hi ?_
 unfold ow at hQ
 rcases sO x s with⟨h1,h2,_⟩ | ⟨a,b,h1,h2,h3,_⟩
 ·rw[h1] at hQ
  simp only[go_sem,h2]
  exact⟨fun h=>absurd h (by decide),fun _=>hQ⟩
 ·rw[h1] at hQ
  have hsl:=congrArg List.length h3
  simp at hsl
  rw[h2,dh,show decide ((a.length:Int) ≥ 0)=true by simp]
  refine⟨fun _=>?_,fun h=>by cases h⟩
  rw[gz (by omega)]
  simp only[go_sem]
  rw[show IntKind.wrap .i64 ((a.length:Int) + ((1:Nat) : Int))=((a.length + 1:Nat) : Int) by rw[zA (by omega) (by omega)]; omega]
  rw[fA (by omega)]
  simp only[go_sem]
  rw[h3]
  rw[show(a++x :: b).take a.length=a by simp,show(a++x :: b).drop (a.length + 1)=b by rw[← List.drop_drop]; simp]
  exact hQ
theorem Jc {x:UInt8} {ci:ai} (hi:j4 x ci) : j4 x fun args M Q=>∃ a0 a1,args=[a0,a1]∧nZ ci a0 a1 M Q:=by
 intro M s Q hl hQ
 refine⟨_,_,rfl, ?_⟩
 unfold nZ
 refine hi hl ?_
 unfold ow at hQ ⊢
 cases h:brk x s with
 | none=>rw[h] at hQ; simpa only[go_sem] using hQ
 | some p=>rw[h] at hQ; simpa only[go_sem] using hQ
end Go.Ab.Vl
namespace Go.Ab
open Go Go.RowKit
section
variable {P:Program} {ρ:Ren} {M:RM} {w w' : World}
theorem bu.below {base:Base} {A:AW} (h:bu P base ρ A w) (hb:Below w.heap.size w w') (hn:base.n≤w.heap.size) : bu P base ρ A w' where
 dom b i hbi:=⟨(h.dom b i hbi).1,Nat.lt_of_lt_of_le (h.dom b i hbi).2 hb.size⟩
 blk b i x hbi hx:=let ⟨o,ho,hr⟩:=h.blk b i x hbi hx; ⟨o,by rw[hb.block _ (h.dom b i hbi).2]; exact ho,hr⟩
 sep:=h.sep
 top:=h.top
 lo:=h.lo
 inv:=base.low w w' (fun c hc=>hb.block c (Nat.lt_of_lt_of_le hc hn)) h.inv
theorem Step.of_below {base n:Nat} (hb:Below w.heap.size w w') (hn:base≤w.heap.size) : Step base n ρ w ρ w' where
 os:=hb.os
 tape:=hb.tape
 output:=hb.output
 size:=hb.size
 frame c hc _:=hb.block c hc
 ext _ _:=rfl
 fresh b i h:=.inl ⟨b,i,h,rfl⟩
 low c hc:=hb.block c (Nat.lt_of_lt_of_le hc hn)
theorem After.below (h:bi P ρ M w) (hb:Below w.heap.size w w') : After P M ρ w M ρ w':=by
 obtain⟨A,hA⟩:=h
 refine fP hA (Step.of_below hb hA.size) (hA.rel.below hb hA.size) rfl hA.next (Nat.le_refl _) fun b x hx=>?_
 rcases hA.blk b x hx with h | ⟨c,rfl,_⟩
 ·exact .inl h
 ·exact .inr ⟨c,rfl,hx⟩
theorem bi.inv (h:bi P ρ M w) : M.base.inv w:=by
 obtain⟨A,hA⟩:=h
 exact hA.rel.inv
theorem dm.qg {f:FuncId} {args:List AV} {v:AV} {Q:ah} (hP:BC P f)
  (h:∀ (ρ:Ren) (w:World) (us:List Value),aD ρ args us→bi P ρ M w→Calls P f ⟨us⟩ w fun e w'=>∃ v',e=.returned v'∧Below w.heap.size w w'∧ag ρ v v') (hQ:Q v M) : dm P f args M Q:=by
 refine⟨hP,fun ρ w us hargs hw=>(h ρ w us hargs hw).mono fun e w' hR=>?_⟩
 obtain⟨v',rfl,hb,hv⟩:=hR
 exact⟨v',v,M,ρ,rfl,After.below hw hb,hv,hQ⟩
end
structure nU (α:Type) where
 size:Nat
 rel:RM→List AV→α→(Nat→Prop)→Prop
 len:∀ {M cs a S},rel M cs a S→cs.length=size
 one:∀ {M cs a S},rel M cs a S→cs.all oneCell=true
 mono:∀ {M cs a S S'},rel M cs a S→(∀ b,S b→S' b)→rel M cs a S'
 lt:∀ {M cs a S},rel M cs a S→rel M cs a (fun b=>S b∧b<M.next)
 keep:∀ {M M' cs a S bs},rel M cs a S→ae bs M M'→(∀ b∈bs,¬ S b)→rel M' cs a S
def Enc.AU {α:Type} (E:Enc α) : nU α where
 size:=E.size
 rel _ cs a _:=cs=E.cells a
 len h:=by subst h; exact E.len _
 one h:=by subst h; exact E.one _
 mono h _:=h
 lt h:=h
 keep h _ _:=h
inductive eB {α:Type} (R:nU α) (M:RM) (S:Nat→Prop) : List AV→List α→Prop
 | nil:eB R M S [] []
 | cons {cs ds:List AV} {a:α} {xs:List α} : R.rel M cs a S→eB R M S ds xs→eB R M S (cs++ds) (a :: xs)
section
variable {α:Type} {R:nU α} {M M' : RM} {S S' : Nat→Prop} {cs ds:List AV} {xs ys:List α} {a:α}
theorem eB.len (h:eB R M S cs xs) : cs.length=xs.length * R.size:=by
 induction h with
 | nil=>simp
 | cons h1 _ ih=>rw[List.length_append,R.len h1,ih,List.length_cons,Nat.succ_mul,Nat.add_comm]
theorem eB.one (h:eB R M S cs xs) : cs.all oneCell=true:=by
 induction h with
 | nil=>rfl
 | cons h1 _ ih=>rw[List.all_append,R.one h1,ih]; rfl
theorem eB.mono (h:eB R M S cs xs) (hs:∀ b,S b→S' b) : eB R M S' cs xs:=by
 induction h with
 | nil=>exact .nil
 | cons h1 _ ih=>exact .cons (R.mono h1 hs) ih
theorem eB.lt (h:eB R M S cs xs) : eB R M (fun b=>S b∧b<M.next) cs xs:=by
 induction h with
 | nil=>exact .nil
 | cons h1 _ ih=>exact .cons (R.lt h1) ih
theorem eB.keep {bs:List Nat} (h:eB R M S cs xs) (hk:ae bs M M') (hb:∀ b∈bs,¬ S b) : eB R M' S cs xs:=by
 induction h with
 | nil=>exact .nil
 | cons h1 _ ih=>exact .cons (R.keep h1 hk hb) ih
theorem eB.get (h:eB R M S cs xs) : ∀ {i:Nat} (hi:i<xs.length),R.rel M ((cs.drop (i * R.size)).take R.size) xs[i] S:=by
 induction h with
 | nil=>intro i hi; simp at hi
 | cons h1 h2 ih =>
   rename_i c1 d1 a1 x1
   intro i hi
   cases i with
   | zero =>
     rw[Nat.zero_mul,List.drop_zero,List.take_append_of_le_length (by rw[R.len h1]; exact Nat.le_refl _),List.take_of_length_le (by rw[R.len h1]; exact Nat.le_refl _)]
     exact h1
   | succ i =>
     rw[Nat.succ_mul,Nat.add_comm,← List.drop_drop,List.drop_left' (R.len h1)]
     exact ih (by simpa using hi)
theorem eB.take (h:eB R M S cs xs) : ∀ (k:Nat),eB R M S (cs.take (k * R.size)) (xs.take k):=by
 induction h with
 | nil=>intro k; simp; exact .nil
 | cons h1 h2 ih =>
   intro k
   cases k with
   | zero=>simp; exact .nil
   | succ k =>
     rw[Nat.succ_mul,Nat.add_comm,List.take_append,List.take_of_length_le (by rw[R.len h1]; omega),R.len h1,Nat.add_sub_cancel_left]
     exact .cons h1 (ih k)
theorem eB.drop (h:eB R M S cs xs) : ∀ (k:Nat),eB R M S (cs.drop (k * R.size)) (xs.drop k):=by
 induction h with
 | nil=>intro k; simp; exact .nil
 | cons h1 h2 ih =>
   intro k
   cases k with
   | zero=>simp; exact .cons h1 h2
   | succ k =>
     rw[Nat.succ_mul,Nat.add_comm,← List.drop_drop,List.drop_left' (R.len h1)]
     exact ih k
theorem eB.cells {E:Enc α} : ∀ {cs:List AV} {xs:List α},eB E.AU M S cs xs→cs=E.row xs
 | _,_,.nil=>rfl
 | _,_,.cons h1 h2=>by rw[Enc.jX,eB.cells h2]; rw[show _=_ from h1]
def mK (R:nU α) (M:RM) (v:AV) (xs:List α) (S:Nat→Prop) : Prop :=
 ∃ cs,aL M R.size v cs xs.length∧(∀ b∈aN v,S b)∧eB R M S cs xs
theorem aL.lt {size n:Nat} {v:AV} (h:aL M size v cs n) : ∀ b∈aN v,b<M.next:=by
 cases h with
 | nil=>intro b hb; simp[aN] at hb
 | emp=>intro b hb; simp[aN] at hb
 | slc b o n cap cs hb _=>intro c hc; simp[aN] at hc; omega
theorem aL.one {size n:Nat} {v:AV} (h:aL M size v cs n) : oneCell v=true:=by
 cases h <;> rfl
theorem aL.cells {size n:Nat} {v:AV} (h:aL M size v cs n) : v.cells=[v]:=by
 cases h <;> rfl
variable {v:AV}
theorem mK.mono (h:mK R M v xs S) (hs:∀ b,S b→S' b) : mK R M v xs S':=let ⟨cs,h1,h2,h3⟩:=h; ⟨cs,h1,fun b hb=>hs b (h2 b hb),h3.mono hs⟩
theorem mK.lt (h:mK R M v xs S) : mK R M v xs (fun b=>S b∧b<M.next):=let ⟨cs,h1,h2,h3⟩:=h; ⟨cs,h1,fun b hb=>⟨h2 b hb,h1.lt b hb⟩,h3.lt⟩
theorem mK.keep {bs:List Nat} (h:mK R M v xs S) (hk:ae bs M M') (hb:∀ b∈bs,¬ S b) : mK R M' v xs S :=
 let ⟨cs,h1,h2,h3⟩:=h; ⟨cs,h1.keep hk (fun b hv hbs=>hb b hbs (h2 b hv)),h2,h3.keep hk hb⟩
theorem mK.len (h:mK R M v xs S) {K:AV→Prop} : bg v K=K (N .i64 xs.length):=let ⟨cs,h1,_,_⟩:=h; h1.len
theorem mK.one (h:mK R M v xs S) : oneCell v=true:=let ⟨cs,h1,_,_⟩:=h; h1.one
theorem mK.cells (h:mK R M v xs S) : v.cells=[v]:=let ⟨cs,h1,_,_⟩:=h; h1.cells
theorem mK.at (h:mK R M v xs S) {i:Nat} (sz:Nat) (j:Int) (hi:i<xs.length) (hsz:R.size=sz:=by rfl) (hj:j=(i:Int):=by rfl) :
  ∃ b o cs,b<M.next∧b∈aN v∧(∀ (kd:IntKind) (K:AV→Prop),dz v (N kd j) sz K=K (.ptr b o))∧M.loads b o sz=some cs∧R.rel M cs xs[i] S:=by
 subst hsz hj
 obtain⟨cs,h1,h2,h3⟩:=h
 obtain⟨b,o,cap,rfl,hb,hl⟩:=h1.pos (by omega)
 have hsum:i * R.size + R.size≤xs.length * R.size:=by rw[← Nat.succ_mul]; exact Nat.mul_le_mul_right _ hi
 refine⟨b,o + i * R.size,(cs.drop (i * R.size)).take R.size,hb,by simp[aN],fun kd K=>?_, ?_,h3.get hi⟩
 ·rw[pW]
  simp only[Int.toNat_natCast]
  exact propext ⟨fun h=>h.2.2,fun h=>⟨by omega,by omega,h⟩⟩
 ·rw[qL hl (i * R.size) R.size hsum]
def nU.slice (R:nU α) : nU (List α) where
 size:=1
 rel M cs xs S:=∃ v,cs=[v]∧mK R M v xs S
 len h:=by obtain⟨v,rfl,_⟩:=h; rfl
 one h:=by obtain⟨v,rfl,h⟩:=h; simp[h.one]
 mono h hs:=by obtain⟨v,rfl,h⟩:=h; exact⟨v,rfl,h.mono hs⟩
 lt h:=by obtain⟨v,rfl,h⟩:=h; exact⟨v,rfl,h.lt⟩
 keep h hk hb:=by obtain⟨v,rfl,h⟩:=h; exact⟨v,rfl,h.keep hk hb⟩
def qc (R:nU α) (M:RM) (base el:Nat) (v:AV) (xs:List α) (S:Nat→Prop) : Prop :=
 ∃ cs,Own M base el R.size v cs xs.length∧eB R M S cs xs
theorem qc.mono {base el:Nat} (h:qc R M base el v xs S) (hs:∀ b,S b→S' b) : qc R M base el v xs S':=let ⟨cs,h1,h2⟩:=h; ⟨cs,h1,h2.mono hs⟩
theorem qc.lt {base el:Nat} (h:qc R M base el v xs S) : qc R M base el v xs (fun b=>S b∧b<M.next):=let ⟨cs,h1,h2⟩:=h; ⟨cs,h1,h2.lt⟩
theorem qc.keep {base el:Nat} {bs:List Nat} (h:qc R M base el v xs S) (hk:ae bs M M') (hb:∀ b∈bs,¬ S b) (hv:∀ b∈aN v,b ∉ bs) : qc R M' base el v xs S :=
 let ⟨cs,h1,h2⟩:=h; ⟨cs,h1.keep hk hv,h2.keep hk hb⟩
theorem qc.len {base el:Nat} (h:qc R M base el v xs S) {K:AV→Prop} : bg v K=K (N .i64 xs.length):=let ⟨cs,h1,_⟩:=h; h1.ol.len
theorem qc.cells {base el:Nat} (h:qc R M base el v xs S) : v.cells=[v]:=let ⟨cs,h1,_⟩:=h; h1.cells
theorem qc.one {base el:Nat} (h:qc R M base el v xs S) : oneCell v=true:=let ⟨cs,h1,_⟩:=h; h1.one
end
section
variable {M M' : RM} {b i n e f:Nat} {l:List AV} {p:Bool} {x:AV}
theorem bq {K:AV→Prop} (h:M.heap b=some (.row l p e f)) (hx:l[i]?=some x) : ax M (.ptr b i) K=K x:=by
 rw[dE,RM.cell_of h,hx]; simp
theorem bS {K:AV→Prop} (h:M.heap b=some (.row l p e f)) (hn:l.length=n) : bF M (.ptr b 0) n K=K (.agg l):=by
 rw[vH,RM.KE h]
 have:qb (some l) 0 n=some l:=by simp[qb,← hn]
 rw[this]; simp
theorem Jj {K:RM→Prop} (h:M.heap b=some (.row l p e 0)) (hi:i<l.length) (hc:x.cells=[x]) (h1:oneCell x=true) : aF M (.ptr b i) x 1 K=K (M.put b (.row (l.set i x) p e 0)):=by
 rw[Ay,hc,RM.vV h,qa (by simp only[List.length_cons,List.length_nil]; omega) (Nat.zero_le _) (by simp[h1])]
 have:l.take i++[x]++l.drop (i + 1)=l.set i x:=by
  rw[List.set_eq_take_append_cons_drop,if_pos hi]; simp
 simp[this]
theorem fE {K:RM→Prop} (l' : List AV) (h:M.heap b=some (.row l p e 0)) (hi:i<l.length) (hc:x.cells=[x]) (h1:oneCell x=true) (hl:l.set i x=l') : aF M (.ptr b i) x 1 K=K (M.put b (.row l' p e 0)):=by
 rw[Jj h hi hc h1,hl]
theorem j3 {K:AV→Prop} : aY (.ptr b 0) n K=K (.ptr b n):=by rw[jg,Nat.zero_add]
theorem Ij {K:RM→Prop} (h:M.heap b=some (.row l p e 0)) (hn:x.cells.length=n) (hl:l.length=n) (h1:x.cells.all oneCell=true) : aF M (.ptr b 0) x n K=K (M.put b (.row x.cells p e 0)):=by
 rw[Ay,RM.vV h,Df (by rw[hn,hl]) h1]
 simp[hn]
theorem rU {c:Nat} {y z:RB} (h:M.heap b=some y) (hb:b≠c) : (M.put c z).heap b=some y:=by
 simp only[RM.put]; rw[if_neg hb]; exact h
theorem aM (y:RB) : (M.put b y).heap b=some y:=RM.zL _ _
theorem EW (c:Nat) (y:RB) : (M.put c y).next=M.next:=rfl
theorem ae.new {bs:List Nat} (h:ae bs M M') {b:Nat} (y:RB) (hb:M.next≤b) : ae bs M (M'.put b y):=h.put y (.inl hb)
end
variable {M:RM}
theorem aT {a:AV} {l:List AV} {K:AV→Prop} : aC (.tup (a :: l)) 0 K=K a:=by rw[yX]; simp
theorem aU {a b:AV} {l:List AV} {K:AV→Prop} : aC (.tup (a :: b :: l)) 1 K=K b:=by rw[yX]; simp
theorem dG {a b c:AV} {l:List AV} {K:AV→Prop} : aC (.tup (a :: b :: c :: l)) 2 K=K c:=by rw[yX]; simp
theorem bR {p q:Prop} : ak (Bo true) p q=p:=by simp[Ez]
theorem bf {p q:Prop} : ak (Bo false) p q=q:=by simp[Ez]
theorem dL {b:Bool} {p q:Prop} (h1:b=true→p) (h2:b=false→q) : ak (Bo b) p q:=⟨h1,h2⟩
theorem bZ {f g:ah→Prop} {k:ah} : aa (Bo true) true f g k=f k:=rfl
theorem dI {f g:ah→Prop} {k:ah} : aa (Bo false) false f g k=f k:=rfl
theorem fG {f g:ah→Prop} {k:ah} : aa (Bo true) false f g k=g k:=rfl
theorem iW {f g:ah→Prop} {k:ah} : aa (Bo false) true f g k=g k:=rfl
theorem Cw {f g:KR→Prop} {k:KR} : kW (Bo true) true f g k=f k:=rfl
theorem vS {f g:KR→Prop} {k:KR} : kW (Bo false) true f g k=g k:=rfl
theorem dx {a b:AV} {K:AV→Prop} : ay (Bo true) a b K=K a:=by rw[Ej]; rfl
theorem dY {a b:AV} {K:AV→Prop} : ay (Bo false) a b K=K b:=by rw[Ej]; rfl
theorem aL.known {size:Nat} {v:AV} {cs:List AV} {n:Nat} (h:aL M size v cs n) : known v=true:=by
 cases h <;> rfl
theorem lh {t:TypeId} {cs:List AV} {K:RB→(Nat→AV)→Prop} (h1:cs.all oneCell=true) (h2:1≤cs.length) : qw t (.agg cs) K=K (.row cs false t 0) (fun b=>.ptr b 0):=by
 unfold qw
 exact propext ⟨fun h=>h.2.2,fun h=>⟨h1,h2,h⟩⟩
theorem zT {x y a b:AV} (h1:known x=true) (h2:x.cells=[x]) (h3:known y=true) (h4:y.cells=[y]) : nM [a,b] [(0,1,x),(1,1,y)]=some [x,y]:=by
 simp[nM,h1,h2,h3,h4]
def nU.pre {α β:Type} (E:Enc α) (R:nU β) : nU (α × β) where
 size:=E.size + R.size
 rel M cs a S:=∃ ds,cs=E.cells a.1++ds∧R.rel M ds a.2 S
 len h:=by obtain⟨ds,rfl,h⟩:=h; rw[List.length_append,E.len,R.len h]
 one h:=by obtain⟨ds,rfl,h⟩:=h; rw[List.all_append,E.one,R.one h]; rfl
 mono h hs:=by obtain⟨ds,rfl,h⟩:=h; exact⟨ds,rfl,R.mono h hs⟩
 lt h:=by obtain⟨ds,rfl,h⟩:=h; exact⟨ds,rfl,R.lt h⟩
 keep h hk hb:=by obtain⟨ds,rfl,h⟩:=h; exact⟨ds,rfl,R.keep h hk hb⟩
def nU.post {α β:Type} (R:nU α) (E:Enc β) : nU (α × β) where
 size:=R.size + E.size
 rel M cs a S:=∃ ds,cs=ds++E.cells a.2∧R.rel M ds a.1 S
 len h:=by obtain⟨ds,rfl,h⟩:=h; rw[List.length_append,E.len,R.len h]
 one h:=by obtain⟨ds,rfl,h⟩:=h; rw[List.all_append,E.one,R.one h]; rfl
 mono h hs:=by obtain⟨ds,rfl,h⟩:=h; exact⟨ds,rfl,R.mono h hs⟩
 lt h:=by obtain⟨ds,rfl,h⟩:=h; exact⟨ds,rfl,R.lt h⟩
 keep h hk hb:=by obtain⟨ds,rfl,h⟩:=h; exact⟨ds,rfl,R.keep h hk hb⟩
def nU.map {α β:Type} (R:nU α) (g:β→α) : nU β where
 size:=R.size
 rel M cs a S:=R.rel M cs (g a) S
 len h:=R.len h
 one h:=R.one h
 mono h hs:=R.mono h hs
 lt h:=R.lt h
 keep h hk hb:=R.keep h hk hb
end Go.Ab
namespace Go.Ab
open Go Go.RowKit Go.ChangeShapes
section
variable {H:Type} {enc:TypeId × Value→H} {P:Program} {w:World} {base:Nat} {spare:Nat→Bool} {held:Bool}
end
end Go.Ab
namespace Go.Ab
open Go Go.ChangeShapes
end Go.Ab
namespace Go.Ab
open Go Go.RowKit
section
variable {P:Program} {f:FuncId} {fn:Func} {w w' : World} {M:RM}
end
end Go.Ab
namespace Go.Ab.Sm
open Go Go.Ab
section
variable {i j:Nat} {K:AV→Prop}
theorem addN (h:i + j<4611686018427387904) : af .add (N .i64 (i:Int)) (N .i64 (j:Int)) K=K (N .i64 ((i + j:Nat) : Int)):=by
 rw[ui,gB (by omega) (by omega),Int.natCast_add]
theorem add1 (h:i<4611686018427387904) : af .add (N .i64 (i:Int)) (N .i64 1) K=K (N .i64 ((i + 1:Nat) : Int)):=by
 rw[ui,tJ (by omega)]
theorem Gv (h:j≤i) (hb:i<4611686018427387904) : af .sub (N .i64 (i:Int)) (N .i64 (j:Int)) K=K (N .i64 ((i - j:Nat) : Int)):=by
 rw[jS,gB (by omega) (by omega),show(i:Int) - (j:Int)=((i - j:Nat) : Int) by omega]
theorem yO:af .lss (N .i64 (i:Int)) (N .i64 (j:Int)) K=K (Bo (decide (i<j))):=by rw[iG,show decide ((i:Int)<(j:Int))=decide (i<j) by simp]
theorem IM:af .gtr (N .i64 (i:Int)) (N .i64 (j:Int)) K=K (Bo (decide (i > j))):=by rw[fo,show decide ((i:Int) > (j:Int))=decide (i > j) by simp]
theorem Qt:af .eql (N .i64 (i:Int)) (N .i64 (j:Int)) K=K (Bo (decide (i=j))):=by
 rw[bB,show((i:Int) == (j:Int))=decide (i=j) by by_cases h:i=j <;> simp[h]; omega]
end
section
variable {M:RM} {c p:Bool} {f:ah→Prop} {P:RM→Prop} {G:AV→RM→Prop}
theorem nL (hf:c=true→∀ k:ah,k (Bo p) M→f k) (hG:G (Bo (c && p)) M) :
  aa (Bo c) true f (fun k=>k .undef M) (fun t M'=>ay (Bo c) t (Bo false) fun u=>G u M'):=by
 cases c with
 | false=>rw[iW]; dsimp only; rw[dY]; exact hG
 | true=>rw[bZ]; exact hf rfl _ (by rw[dx]; exact hG)
theorem Bu (hf:c=false→∀ k:ah,k (Bo p) M→f k) (hG:G (Bo (c || p)) M) :
  aa (Bo c) false f (fun k=>k .undef M) (fun t M'=>ay (Bo c) (Bo true) t fun u=>G u M'):=by
 cases c with
 | true=>rw[fG]; dsimp only; rw[dx]; exact hG
 | false=>rw[dI]; exact hf rfl _ (by rw[dY]; exact hG)
theorem Ar (h0:P M) (hf:c=true→∀ k:ah,(∀ M',P M'→k (Bo p) M')→f k) (hG:∀ M',P M'→G (Bo (c && p)) M') :
  aa (Bo c) true f (fun k=>k .undef M) (fun t M'=>ay (Bo c) t (Bo false) fun u=>G u M'):=by
 cases c with
 | false=>rw[iW]; dsimp only; rw[dY]; exact hG M h0
 | true=>rw[bZ]; exact hf rfl _ fun M' h=>by rw[dx]; exact hG M' h
theorem yL (h0:P M) (hf:c=false→∀ k:ah,(∀ M',P M'→k (Bo p) M')→f k) (hG:∀ M',P M'→G (Bo (c || p)) M') :
  aa (Bo c) false f (fun k=>k .undef M) (fun t M'=>ay (Bo c) (Bo true) t fun u=>G u M'):=by
 cases c with
 | true=>rw[fG]; dsimp only; rw[dx]; exact hG M h0
 | false=>rw[dI]; exact hf rfl _ fun M' h=>by rw[dY]; exact hG M' h
end
section
variable {M:RM} {c p:Bool} {f:KR→Prop} {G:AV→RM→Prop}
end
theorem yZ {a:Int} {K:AV→Prop} : af .neq (N .i64 a) (N .i64 a) K=K (Bo false):=by rw[iE,bne_self_eq_false]
end Go.Ab.Sm
namespace Go.Ab
open Go Go.RowKit
inductive j6 (B:Nat) (P:Program) (M:RM) : TypeId→List AV→Prop
 | bool (t:TypeId) (b:Bool) : P.underlying t=some .bool→j6 B P M t [Bo b]
 | int (t:TypeId) (k:IntKind) (n:Int) : P.underlying t=some (.int k)→k.min≤n→n≤k.max→j6 B P M t [N k n]
 | str (t:TypeId) (s:List UInt8) : P.underlying t=some .string→s.length≤B→j6 B P M t [St s]
 | Qu (t e:TypeId) : P.underlying t=some (.slice e)→j6 B P M t [aH]
 | emp (t e:TypeId) (b:Nat) : P.underlying t=some (.slice e)→j6 B P M t [.emp b]
 | slc (t e:TypeId) (b o n c:Nat) (cs:List AV) : P.underlying t=some (.slice e)→b<M.next→n≤c→n≤B→M.loads b o (n * P.cellsOf e)=some cs →
   (∀ i,i<n→j6 B P M e ((cs.drop (i * P.cellsOf e)).take (P.cellsOf e)))→j6 B P M t [.slc b o n (.ex c)]
 | struct (t:TypeId) (fs:Array Field) (cs:List AV) : P.underlying t=some (.struct fs)→cs.length=P.cellsOf t →
   (∀ (i:Nat) (f:Field),fs[i]?=some f→j6 B P M f.type ((cs.drop f.offset).take (P.cellsOf f.type)))→j6 B P M t cs
 | array (t e:TypeId) (n:Nat) (cs:List AV) : P.underlying t=some (.array n e)→cs.length=P.cellsOf t →
   (∀ i,i<n→j6 B P M e ((cs.drop (i * P.cellsOf e)).take (P.cellsOf e)))→j6 B P M t cs
 | other (t:TypeId) (cs:List AV) : JM (P.underlying t)=true→j6 B P M t cs
 | zero (t e:TypeId) (cs:List AV) : P.underlying t=some (.slice e)→P.cellsOf e=0→j6 B P M t cs
section
variable {H:Type} {enc:TypeId × Value→H} {P:Program} {base:Base} {w:World}
variable {bulk:DataW H→Nat} {B:Nat}
structure Rs (bulk:DataW H→Nat) : Prop where
 str:∀ bs:List UInt8,bs.length≤bulk (.lit (.string bs))
 len:∀ es sp:List (DataW H),es.length≤bulk (.slice es sp)
 elem:∀ (es sp:List (DataW H)) d,d∈es→bulk d≤bulk (.slice es sp)
 spare:∀ (es sp:List (DataW H)) d,d∈sp→bulk d≤bulk (.slice es sp)
 agg:∀ (ps:List (DataW H)) d,d∈ps→bulk d≤bulk (.agg ps)
end
section
variable {P:Program} {M:RM} {t:TypeId} {cs:List AV} {B:Nat}
def KV:AV→Prop
 | .slc _ _ n (.ex c)=>n≤c
 | .slc _ _ _ (.op e)=>e=1
 | _=>True
end
section
variable {H:Type} {enc:TypeId × Value→H} {P:Program} {base:Base} {w:World} {bulk:DataW H→Nat} {B:Nat}
end
end Go.Ab
namespace Go.Ab.Hw
open Go Go.Ab Go.Ab.Sm
open Go.Ab.Vl (brk j4 fQ fA iC gz zA)
abbrev Str:=List UInt8
structure Bs (M:RM) (v:AV) (b:Str) : Prop where
 sl:Sl BY M v b
 cap:KV v
theorem Bs.keep {M M' : RM} {v:AV} {b:Str} {bs:List Nat} (h:Bs M v b) (k:ae bs M M') (hb:∀ x∈aN v,x ∉ bs) : Bs M' v b:=⟨aL.keep h.sl k hb,h.cap⟩
theorem Bs.len {M:RM} {v:AV} {b:Str} (h:Bs M v b) {K:AV→Prop} : bg v K=K (N .i64 (b.length:Int)):=aL.len h.sl
theorem Bs.str {M:RM} {v:AV} {b:Str} (h:Bs M v b) {K:AV→Prop} : eD M v K=K (St b):=Sl.str h.sl
theorem Mq {M:RM} {base T n:Nat} {v:AV} {cs:List AV} (h:Own M base T 1 v cs n) : KV v:=by
 cases h with
 | nil=>trivial
 | ex0 b o _ _ _=>exact Nat.le_refl _
 | op b n cs _ _ _ _=>rfl
theorem Bs.own {M:RM} {base T:Nat} {v:AV} {b:Str} (h:Ow BY M base T v b) : Bs M v b:=⟨Own.ol h,Mq h⟩
theorem Ag {M:RM} {b o n:Nat} {x:Str} (h:M.loads b o (n * 1)=some (BY.row x)) {l u:Nat} (h1:l≤u) (h2:u≤n) : M.loads b (o + l * 1) ((u - l) * 1)=some (BY.row ((x.drop l).take (u - l))):=by
 have:=qL h (l * 1) ((u - l) * 1) (by omega)
 rw[this]
 congr 1
 have e1:=BY.ul x l
 have e2:=BY.yQ (x.drop l) (u - l)
 rw[show l * 1=l * BY.size from rfl,e1,show(u - l) * 1=(u - l) * BY.size from rfl,e2]
theorem Bs.sub {M:RM} {v:AV} {b:Str} (h:Bs M v b) {lo hi:Option AV} {l u:Nat} (e1:bnd 0 lo=some l) (e2:bnd b.length hi=some u) (h1:l≤u) (h2:u≤b.length) {K:AV→Prop}
  (hK:∀ v',Bs M v' ((b.drop l).take (u - l))→(∀ x∈aN v',x∈aN v)→K v') : bG (di 1 v lo hi none) K:=by
 obtain⟨hs,hc⟩:=h
 have hlen:((b.drop l).take (u - l)).length=u - l:=by simp; omega
 have zero:u=l→∀ {w:AV},aL M 1 w [] 0→Sl BY M w ((b.drop l).take (u - l)):=by
  intro e w hw
  subst e
  rw[Nat.sub_self,List.take_zero]
  exact hw
 unfold Sl at hs
 generalize hn:b.length=n at *
 generalize hcs:BY.row b=cs at *
 cases hs with
 | nil =>
   have l0:l=0:=by omega
   have u0:u=0:=by omega
   subst l0 u0
   exact⟨aH,by simp only[di,aH,e1,e2],hK _ ⟨zero rfl .nil,trivial⟩ (fun x hx=>hx)⟩
 | emp b0 =>
   have l0:l=0:=by omega
   have u0:u=0:=by omega
   subst l0 u0
   exact⟨.emp b0,by simp only[di,e1,e2],hK _ ⟨zero rfl (.emp _),trivial⟩ (fun x hx=>hx)⟩
 | slc b0 o _ cap cs hb hl =>
   subst hcs
   have hl':=Ag hl h1 h2
   have whole:∀ cap',KV (.slc b0 (o + l * 1) (u - l) cap')→(Bs M (.slc b0 (o + l * 1) (u - l) cap') ((b.drop l).take (u - l))):=fun cap' hcap=>⟨by
    unfold Sl; rw[hlen]; exact .slc _ _ _ _ _ hb hl',hcap⟩
   cases cap with
   | ex c =>
     have hcn:n≤c:=hc
     by_cases e:c=l
     ·subst e
      have hu:u=c:=by omega
      subst hu
      refine⟨.slc b0 o 0 (.ex 0),by simp only[di,e1,e2]; rw[if_pos ⟨Nat.le_refl _,Nat.le_refl _⟩]; simp,hK _ ⟨zero rfl (.slc _ _ _ _ _ hb ?_),Nat.le_refl _⟩ (fun x hx=>hx)⟩
      have:=Ag hl (Nat.le_refl 0) (Nat.zero_le n)
      simpa [BY,Enc.row] using this
     ·exact⟨_,by simp only[di,e1,e2]; rw[if_pos ⟨h1,by omega⟩,if_neg e],hK _ (whole _ (by show u - l≤c - l; omega)) (fun x hx=>hx)⟩
   | op esz =>
     have he:esz=1:=hc
     subst he
     by_cases e:n≤l
     ·have hu:u=l:=by omega
      exact⟨.emp b0,by simp only[di,e1,e2]; simp[h1,h2,e],hK _ ⟨zero hu (.emp _),trivial⟩ (fun x hx=>by simp[aN] at hx)⟩
     ·exact⟨_,by simp only[di,e1,e2]; simp only[and_true]; rw[if_pos ⟨h1,h2⟩,if_neg e],hK _ (whole (.op 1) rfl) (fun x hx=>hx)⟩
theorem kI (d n:Nat) (k:IntKind) : bnd d (some (N k (n:Int)))=some n:=by simp[bnd]
theorem El (d:Nat) : bnd d none=some d:=rfl
def pre (p s:Str) : Bool:=decide (p.length≤s.length) && (s.take p.length == p)
def zD (c:ai) : Prop:=∀ {M:RM} {s p:Str} {Q:ah},Q (Bo (pre p s)) M→c [St s,St p] M Q
theorem De:zD fun args M Q=>∃ a0 a1,args=[a0,a1]∧Vl.dM a0 a1 M Q:=by
 intro M s p Q hQ
 refine⟨_,_,rfl, ?_⟩
 unfold Go.Ab.Vl.dM
 simp only[cO,lK,dh]
 unfold pre at hQ
 by_cases h:p.length≤s.length
 ·have e:decide ((s.length:Int) ≥ (p.length:Int))=true:=by simp[h]
  rw[e]
  simp only[go_sem,if_true]
  rw[gz h]
  simpa only[go_sem,h,decide_true,Bool.true_and,if_true] using hQ
 ·have e:decide ((s.length:Int) ≥ (p.length:Int))=false:=by simp; omega
  rw[e]
  simpa [go_sem,h] using hQ
theorem Ky {ch:ai} (hh:zD ch) : zD fun args M Q=>∃ a0 a1,args=[a0,a1]∧Vl.mO ch a0 a1 M Q:=by
 intro M s p Q hQ
 exact⟨_,_,rfl,hh hQ⟩
def u6 (p s:Str) : AV:=if pre p s then .tup [St (s.drop p.length),Bo true] else .tup [St s,Bo false]
def oZ (c:ai) : Prop:=∀ {M:RM} {s p:Str} {Q:ah},Q (u6 p s) M→c [St s,St p] M Q
theorem yJ {ch:ai} (hh:zD ch) : oZ fun args M Q=>∃ a0 a1,args=[a0,a1]∧Vl.dS ch a0 a1 M Q:=by
 intro M s p Q hQ
 refine⟨_,_,rfl, ?_⟩
 unfold Go.Ab.Vl.dS
 refine hh ?_
 unfold u6 at hQ
 cases h:pre p s
 ·rw[h] at hQ; simpa [go_sem] using hQ
 ·rw[h] at hQ
  have hl:p.length≤s.length:=by unfold pre at h; simp at h; exact h.1
  simp only[cB,Bool.not_true,bf,lK]
  rw[fA hl]
  simpa [go_sem] using hQ
theorem FH {ch:ai} (hh:oZ ch) : oZ fun args M Q=>∃ a0 a1,args=[a0,a1]∧Vl.jv ch a0 a1 M Q:=by
 intro M s p Q hQ
 refine⟨_,_,rfl, ?_⟩
 unfold Go.Ab.Vl.jv
 refine hh ?_
 unfold u6 at hQ ⊢
 cases h:pre p s <;> rw[h] at hQ <;> simpa [go_sem] using hQ
def sI (x:UInt8) (c:ai) : Prop:=∀ {M:RM} {s:List UInt8} {Q:ah},Q (N .i64 (Lib.indexByte s x)) M→c [St s,St [x]] M Q
theorem xN {x:UInt8} {g:Nat} {ci xx c1 c2:ai} (hi:fQ ci) : sI x fun args M Q=>∃ a0 a1,args=[a0,a1]∧bJ ci g xx c1 c2 a0 a1 M Q:=by
 intro M s Q hQ
 refine⟨_,_,rfl, ?_⟩
 unfold bJ
 rw[lK,bB,show((([x] : List UInt8).length:Int) == 0)=false from rfl]
 simp only[cO]
 by_cases h:[x]=s
 ·subst h
  have:Lib.indexByte [x] x=0:=by simp[Lib.indexByte]
  rw[this] at hQ
  simp only[go_sem,beq_self_eq_true]
  exact hQ
 ·have h' : (([x] : List UInt8) == s)=false:=by simp[h]
  simp only[go_sem,h']
  exact⟨fun _=>⟨by omega,x,rfl,hi hQ⟩,fun h=>absurd h (by decide)⟩
def iL (s:Str) (a b:Int) : Bool:=decide ((s.length:Int) ≥ a) && decide ((s.length:Int)≤b)
def oW (c:ai) : Prop:=∀ {M:RM} {s:Str} {a b:Int} {Q:ah},Q (Bo (iL s a b)) M→c [St s,N .i64 a,N .i64 b] M Q
theorem FN:oW fun args M Q=>∃ a0 a1 a2,args=[a0,a1,a2]∧kC a0 a1 a2 M Q:=by
 intro M s a b Q hQ
 refine⟨_,_,_,rfl, ?_⟩
 unfold kC
 simp only[cO,lK,dh]
 refine nL (fun _ k hk=>?_) hQ
 simpa only[go_sem] using hk
theorem AX {T8:Nat} : yG fun args M Q=>∃ a0,args=[a0]∧lc T8 a0 M Q:=by
 intro M s Q hl hQ
 refine⟨_,rfl, ?_⟩
 unfold lc
 simp only[cO,aS,gV,jL]
 have hk1:ae [] M (M.push (.row (BY.row s) true T8 0)):=(ae.refl _ _).push _
 have hr1:Rw BY (M.push (.row (BY.row s) true T8 0)) M.next true T8 s:=Rw.new M s
 generalize M.push (.row (BY.row s) true T8 0)=M1 at *
 refine dW (fun m ys M3=>∃ i:Nat,m=s.length - i∧ys=[N .i64 i]∧i≤s.length∧Rw BY M3 M.next true T8 (upTo bU i s)∧ae [] M M3) _
  ⟨0,rfl,rfl,Nat.zero_le _,by rw[JN]; exact hr1,hk1⟩ ?_
 rintro next m ys M3 hnext ⟨i,rfl,rfl,hi,hR,hK⟩
 simp only[go_sem]
 refine⟨fun hlt=>?_,fun hge=>?_⟩
 ·have hlt:i<s.length:=by simpa using hlt
  have hlen:i<(upTo bU i s).length:=by rw[Ey]; exact hlt
  have hg:=Eb bU hlt
  have hc:=hR.ax hlen
  have w1:=tJ (show i<9223372036854775807 by omega)
  have hge:(upTo bU i s)[i]=s[i]:=Option.some.inj ((List.getElem?_eq_getElem hlen).symm.trans hg)
  rw[hge] at hc
  refine⟨by omega,_,hc, ?_⟩
  have same:bU s[i]=s[i]→next [N .i64 ((i + 1:Nat) : Int)] M3:=fun h=>by
   refine hnext _ _ _ (by omega) ⟨i + 1,rfl,rfl,by omega, ?_,hK⟩
   rw[Jq bU hlt h]
   exact hR
  have cb:=Aq s[i]
  simp only[w1]
  by_cases h1:65≤s[i].toNat
  ·have e1:((s[i].toNat:Int) ≥ 65):=by omega
   by_cases h2:s[i].toNat≤90
   ·have e2:((s[i].toNat:Int)≤90):=by omega
    have hlow:bU s[i]=s[i] + 32:=by rw[bU,if_pos ⟨h1,h2⟩]
    have hn:(bU s[i]).toNat=s[i].toNat + 32:=by
     rw[hlow,UInt8.toNat_add]
     show(s[i].toNat + 32) % 256=_
     omega
    have wv:N IntKind.u8 (IntKind.u8.wrap (IntKind.u8.wrap ((s[i].toNat:Int) + 97) - 65))=By (bU s[i]):=by
     rw[By,hn]
     congr 1
     rw[show IntKind.u8.wrap ((s[i].toNat:Int) + 97)=(s[i].toNat:Int) + 97 from jh (by omega) (by omega)]
     rw[jh (by omega) (by omega)]; omega
    obtain⟨hs,hR'⟩:=hR.JQ hlen (bU s[i])
    simp only[e1,e2,decide_true,go_sem]
    rw[Ff bU hlt] at hs hR'
    refine⟨by omega,_,(congrArg (fun x=>M3.stores M.next i [x]) wv).trans hs, ?_⟩
    exact hnext _ _ _ (by omega) ⟨i + 1,rfl,rfl,by omega,hR',hK.put _ (.inl (Nat.le_refl _))⟩
   ·have e2:¬ ((s[i].toNat:Int)≤90):=by omega
    simp only[e1,e2,decide_true,decide_false,go_sem]
    exact same (by rw[bU,if_neg (by omega)])
  ·have e1:¬ ((s[i].toNat:Int) ≥ 65):=by omega
   simp only[e1,decide_false,go_sem]
   exact same (by rw[bU,if_neg (by omega)])
 ·have:i=s.length:=by simp at hge; omega
  subst this
  rw[KG] at hR
  have:=hR.sl (cap:=.op 1)
  rw[List.length_map] at this
  rw[Sl.str this]
  exact hQ M3 hK
end Go.Ab.Hw
namespace Go.Ab.Hw
open Go Go.Ab Go.Ab.Sm
open Go.Ab.Vl (brk j4 ow fQ fA iC gz zA)
theorem jm {M:RM} {b n:Nat} {l cs:List AV} {p:Bool} {e:Nat} {K:RM→Prop} (h:M.heap b=some (.row l p e 0)) (hn:cs.length=n) (hl:l.length=n) (h1:cs.all oneCell=true) :
  aF M (.ptr b 0) (.agg cs) n K=K (M.put b (.row cs p e 0)):=Ij (x:=.agg cs) h hn hl h1
def dD (x:UInt8) : Bool:=decide ((x.toNat:Int) ≥ 48) && decide ((x.toNat:Int)≤57)
def qC (x:UInt8) : Bool:=decide ((x.toNat:Int) ≥ 65) && decide ((x.toNat:Int)≤90)
def zO (x:UInt8) : Bool:=decide ((x.toNat:Int) ≥ 33) && decide ((x.toNat:Int)≤126)
def p32 (x:UInt8) : Bool:=decide ((x.toNat:Int) ≥ 32) && decide ((x.toNat:Int)≤126)
def zG (x:UInt8) : Bool:=(decide ((x.toNat:Int) ≥ 32) && decide ((x.toNat:Int)≤126)) || ((x.toNat:Int) == 9)
def ug (x:UInt8) : Bool:=(decide ((x.toNat:Int) ≥ 97) && decide ((x.toNat:Int)≤122)) || dD x || ((x.toNat:Int) == 45)
def kF (x:UInt8) : Bool:=dD x || (decide ((x.toNat:Int) ≥ 97) && decide ((x.toNat:Int)≤102))
def nP (p:UInt8→Bool) (c:ai) : Prop:=∀ {M:RM} {x:UInt8} {Q:ah},Q (Bo (p x)) M→c [By x] M Q
theorem IV:nP dD fun args M Q=>∃ a0,args=[a0]∧lm a0 M Q:=by
 intro M x Q hQ
 refine⟨_,rfl, ?_⟩
 unfold lm
 simp only[cO,dh]
 exact nL (fun _ k hk=>by simpa only[go_sem] using hk) hQ
theorem Iw:nP qC fun args M Q=>∃ a0,args=[a0]∧ll a0 M Q:=by
 intro M x Q hQ
 refine⟨_,rfl, ?_⟩
 unfold ll
 simp only[cO,dh]
 exact nL (fun _ k hk=>by simpa only[go_sem] using hk) hQ
theorem EE:nP zO fun args M Q=>∃ a0,args=[a0]∧jY a0 M Q:=by
 intro M x Q hQ
 refine⟨_,rfl, ?_⟩
 unfold jY
 simp only[cO,dh]
 exact nL (fun _ k hk=>by simpa only[go_sem] using hk) hQ
theorem Kj:nP p32 fun args M Q=>∃ a0,args=[a0]∧fB a0 M Q:=by
 intro M x Q hQ
 refine⟨_,rfl, ?_⟩
 unfold fB
 simp only[cO,dh]
 exact nL (fun _ k hk=>by simpa only[go_sem] using hk) hQ
theorem Ld:nP zG fun args M Q=>∃ a0,args=[a0]∧iD a0 M Q:=by
 intro M x Q hQ
 refine⟨_,rfl, ?_⟩
 unfold iD
 simp only[cO,dh]
 refine nL (fun _ k hk=>by simpa only[go_sem] using hk) ?_
 exact Bu (fun _ k hk=>by simpa only[go_sem] using hk) hQ
theorem GV {cd:ai} (hd:nP dD cd) : nP ug fun args M Q=>∃ a0,args=[a0]∧iU cd a0 M Q:=by
 intro M x Q hQ
 refine⟨_,rfl, ?_⟩
 unfold iU
 simp only[cO,dh]
 refine nL (fun _ k hk=>by simpa only[go_sem] using hk) ?_
 refine Bu (p:=dD x) (fun _ k hk=>hd hk) ?_
 exact Bu (fun _ k hk=>by simpa only[go_sem] using hk) hQ
theorem Ji {cd:ai} (hd:nP dD cd) : nP kF fun args M Q=>∃ a0,args=[a0]∧kL cd a0 M Q:=by
 intro M x Q hQ
 refine⟨_,rfl, ?_⟩
 unfold kL
 refine hd ?_
 unfold kF at hQ
 cases h:dD x <;> rw[h] at hQ
 ·by_cases h1:(x.toNat:Int) ≥ 97
  ·simpa [go_sem,h1] using hQ
  ·simpa [go_sem,h1] using hQ
 ·simpa [go_sem] using hQ
def kJ (p:UInt8→Bool) (f:AV) (c:ai) : Prop:=∀ {M:RM} {s:Str} {Q:ah},s.length<4611686018427387904→(∀ M',ae [] M M'→Q (Bo (s.all p)) M')→c [St s,f] M Q
theorem lF {T8 g:Nat} {p:UInt8→Bool} {cv:FuncId→ai} (hp:nP p (cv g)) : kJ p (.fn (.func g) [] []) fun args M Q=>∃ a0 a1,args=[a0,a1]∧mU T8 cv a0 a1 M Q:=by
 intro M s Q hl hQ
 refine⟨_,_,rfl, ?_⟩
 unfold mU
 simp only[aS,gV,jL]
 have hk1:ae [] M (M.push (.row (BY.row s) true T8 0)):=(ae.refl _ _).push _
 have hr1:Rw BY (M.push (.row (BY.row s) true T8 0)) M.next true T8 s:=Rw.new M s
 generalize M.push (.row (BY.row s) true T8 0)=M1 at *
 have e:∀ i,i<s.length→s.all p=((s.take i).all p && s[i]!.toNat.ble 255 && (s.drop i).all p):=fun i hi=>by
  have:s[i]!.toNat.ble 255=true:=by
   have:=Aq s[i]!
   exact Nat.ble_eq_true_of_le (by omega)
  rw[this,Bool.and_true,← List.all_append,List.take_append_drop]
 refine dW (fun m ys M3=>∃ i:Nat,m=s.length - i∧ys=[N .i64 i]∧i≤s.length∧(s.take i).all p=true∧M3=M1) _ ⟨0,rfl,rfl,Nat.zero_le _,rfl,rfl⟩ ?_
 rintro next m ys M3 hnext ⟨i,rfl,rfl,hi,hA,rfl⟩
 simp only[bE,yO]
 refine dL (fun h=>?_) fun h=>?_
 ·have hlt:i<s.length:=by simpa using h
  have hc:=hr1.ax hlt
  rw[pW]
  refine⟨by omega,by omega, ?_⟩
  rw[dE]
  refine⟨By s[i],by simpa using hc, ?_⟩
  rw[zF]
  simp only[List.nil_append,List.append_nil]
  refine hp ?_
  simp only[cB]
  have hd:s.drop i=s[i] :: s.drop (i + 1):=List.drop_eq_getElem_cons hlt
  refine dL (fun h=>?_) fun h=>?_
  ·have hf:p s[i]=false:=by simpa using h
   have:s.all p=false:=by
    rw[← List.take_append_drop i s,List.all_append,hd,List.all_cons,hf]; simp
   rw[← this]; exact hQ _ hk1
  ·have ht:p s[i]=true:=by simpa using h
   rw[add1 (by omega)]
   refine hnext _ _ _ (by omega) ⟨i + 1,rfl,rfl,by omega, ?_,rfl⟩
   rw[List.take_succ_eq_append_getElem hlt,List.all_append,hA]; simp[ht]
 ·have:i=s.length:=by simp at h; omega
  subst this
  rw[List.take_length] at hA
  rw[← hA]; exact hQ _ hk1
def kY (p:Str→Bool) (c:ai) : Prop:=∀ {M:RM} {s:Str} {Q:ah},s.length<4611686018427387904→(∀ M',ae [] M M'→Q (Bo (p s)) M')→c [St s] M Q
def jG (s:Str) : Bool:=iL s 1 40 && (low s).all ug
theorem uM {g:Nat} {cw cs ca:ai} (hw:oW cw) (hs:yG cs) (ha:kJ ug (.fn (.func g) [] []) ca) : kY jG fun args M Q=>∃ a0,args=[a0]∧jr cw cs ca g a0 M Q:=by
 intro M s Q hl hQ
 refine⟨_,rfl, ?_⟩
 unfold jr
 refine hw ?_
 simp only[cO]
 refine Ar (P:=ae [] M) (p:=(low s).all ug) (ae.refl _ _) (fun _ k hk=>?_) hQ
 refine hs (by omega) fun M1 k1=>?_
 exact ha (by rw[low,List.length_map]; exact hl) fun M2 k2=>hk M2 (k1.trans k2)
def trimB (s:Str) : Str:=Lib.trimS s [32,9]
def DF (B:Base) (c:ai) : Prop:=∀ {M:RM} {s:Str} {Q:ah},M.base=B→s.length<4611686018427387904→(∀ M',ae [] M M'→Q (St (trimB s)) M')→c [St s,St [32,9]] M Q
def A7 (B:Base) (p:Str→Bool) (c:ai) : Prop:=∀ {M:RM} {s:Str} {Q:ah},M.base=B→s.length<4611686018427387904→(∀ M',ae [] M M'→Q (Bo (p s)) M')→c [St s] M Q
def ig (s:Str) : Bool:=(s == trimB s) && s.all zG
theorem su {B:Base} {g:Nat} {ct ca:ai} (ht:DF B ct) (ha:kJ zG (.fn (.func g) [] []) ca) : A7 B ig fun args M Q=>∃ a0,args=[a0]∧ja ct ca g a0 M Q:=by
 intro M s Q hB hl hQ
 refine⟨_,rfl, ?_⟩
 unfold ja
 refine ht hB hl fun M1 k1=>?_
 simp only[cO,dQ]
 refine Ar (P:=ae [] M) (p:=s.all zG) k1 (fun _ k hk=>?_) hQ
 exact ha hl fun M2 k2=>hk M2 (k1.trans k2)
def ik (s:Str) : Bool:=iL s 1 8 && s.all qC
theorem Af {g:Nat} {cw ca:ai} (hw:oW cw) (ha:kJ qC (.fn (.func g) [] []) ca) : kY ik fun args M Q=>∃ a0,args=[a0]∧iN cw ca g a0 M Q:=by
 intro M s Q hl hQ
 refine⟨_,rfl, ?_⟩
 unfold iN
 refine hw ?_
 simp only[cO]
 exact Ar (P:=ae [] M) (p:=s.all qC) (ae.refl _ _) (fun _ k hk=>ha hl hk) hQ
def jd (s:Str) : Bool:=pre [47] s && decide ((s.length:Int)≤201) && s.all zO
theorem Dh {g:Nat} {cp ca:ai} (hp:zD cp) (ha:kJ zO (.fn (.func g) [] []) ca) : kY jd fun args M Q=>∃ a0,args=[a0]∧jA cp ca g a0 M Q:=by
 intro M s Q hl hQ
 refine⟨_,rfl, ?_⟩
 unfold jA
 refine hp ?_
 simp only[cO]
 refine nL (p:=decide ((s.length:Int)≤201)) (fun _ k hk=>by simpa only[go_sem] using hk) ?_
 exact Ar (P:=ae [] M) (p:=s.all zO) (ae.refl _ _) (fun _ k hk=>ha hl hk) hQ
abbrev Hd:=Str × Str
def HD:Enc Hd:=⟨2,fun h=>[St h.1,St h.2],fun _=>rfl,fun _=>rfl⟩
def eU (s:Str) : Option Hd:=match brk 58 s with
 | none=>none
 | some (a,b)=>match jG a && ig (trimB b) with
   | true=>some (a,trimB b)
   | false=>none
def BI (B:Base) (c:ai) : Prop:=∀ {M:RM} {s:Str} {Q:ah},M.base=B→s.length≤1000000 →
 (∀ h M',eU s=some h→ae [] M M'→Q (.tup [.agg [St h.1,St h.2],Bo true]) M')→(∀ a b M',eU s=none→ae [] M M'→Q (.tup [.agg [St a,St b],Bo false]) M')→c [St s] M Q
theorem Cy (s:Str) : (trimB s).length≤s.length:=by
 have h1:∀ (p:UInt8→Bool) (l:Str),(l.dropWhile p).length≤l.length:=fun p l=>List.IsSuffix.length_le (List.dropWhile_suffix p)
 unfold trimB Lib.trimS Lib.trimLeftS Lib.trimRightS
 refine Nat.le_trans (h1 _ _) ?_
 rw[List.length_reverse]
 refine Nat.le_trans (h1 _ _) ?_
 rw[List.length_reverse]
 exact Nat.le_refl _
theorem Gc {x:UInt8} {s a b:Str} (h:brk x s=some (a,b)) : a.length + 1 + b.length=s.length:=by
 rcases Vl.sO x s with⟨h1,_⟩ | ⟨a',b',h1,_,h3,_⟩
 ·rw[h] at h1; cases h1
 ·rw[h] at h1; cases h1
  rw[h3]; simp; omega
theorem Fj {B:Base} {T:Nat} {cc ct cn cg:ai} (hc:j4 58 cc) (ht:DF B ct) (hn:kY jG cn) (hg:A7 B ig cg) : BI B fun args M Q=>∃ a0,args=[a0]∧kK T cc ct cn cg a0 M Q:=by
 intro M s Q hB hl hQ hQ2
 refine⟨_,rfl, ?_⟩
 unfold kK
 simp only[aS]
 have k0:ae [] M (M.push (.row [St [],St []] false T 0)):=(ae.refl _ _).push _
 have n0:(M.push (.row [St [],St []] false T 0)).heap M.next=some (.row [St [],St []] false T 0):=by simp[RM.push]
 have l0:M.next<(M.push (.row [St [],St []] false T 0)).next:=by simp[RM.push]
 generalize M.push (.row [St [],St []] false T 0)=M0 at *
 refine hc (by omega) ?_
 have main:∀ (a b:Str) (ok:Bool),a.length≤s.length→b.length≤s.length →
   (ok=true→brk 58 s=some (a,b))→(ok=false→brk 58 s=none) →
   ct [St b,St [32,9]] M0 (fun t16 M_1=>eQ [(St []),(St [])] [(0,1,St a),(1,1,t16)] fun t17=>aV (.row [(St []),(St [])] false T 0) (fun b=>.ptr b 0) M_1 fun t7 M_2=>aF M_2 t7 t17 2 fun M_3=>bF M_3 t7 2 fun t18=>kW (Bo ok) true (fun k=>aY t7 0 fun t21=>k t21 M_3 none) (fun k=>k .undef M_3 none) fun OT M_5 b=>kW (Bo ok) true (fun k_6=>ax M_5 OT fun t22=>k_6 t22 M_5 none) (fun k=>k .undef M_5 none) fun OZ M_8 b_9=>aa (Bo ok) true (fun Rf=>cn [OZ] M_8 fun t23 Le=>Rf t23 Le) (fun k=>k .undef M_8) fun MQ GR=>bF GR t7 2 fun Ny=>(Ny=t18∧ay (Bo ok) MQ (Bo false) fun t24=>kW t24 true (fun Qn=>aY t7 1 fun t26=>Qn t26 GR none) (fun k=>k .undef GR none) fun Nj KY b_17=>kW t24 true (fun Q4=>ax KY Nj fun t27=>Q4 t27 KY none) (fun k=>k .undef KY none) fun Nw G7 b_21=>aa t24 true (fun QW=>cg [Nw] G7 fun t28 KX=>QW t28 KX) (fun k=>k .undef G7) fun NQ MU=>bF MU t7 2 fun Oa=>(Oa=t18∧ay t24 NQ (Bo false) fun t29=>aF MU (.ptr M.next 0) t18 2 fun yK=>bF yK (.ptr M.next 0) 2 fun res=>Q (.tup [res,t29]) yK))):=by
  intro a b ok ha hb e1 e2
  have htb:=Cy b
  refine ht (k0.base.trans hB) (by omega) fun M1 k1=>?_
  have n1:=k1.aO n0 l0 (by simp)
  have l1:M.next<M1.next:=Nat.lt_of_lt_of_le l0 k1.next
  rw[gy]
  refine⟨[St a,St (trimB b)],zT rfl rfl rfl rfl, ?_⟩
  simp only[aS]
  have n2:(M1.push (.row [St [],St []] false T 0)).heap M1.next=some (.row [St [],St []] false T 0):=by simp[RM.push]
  rw[jm n2 (by rfl) (by rfl) (by rfl)]
  have k3:ae [] M1 ((M1.push (.row [St [],St []] false T 0)).put M1.next (.row [St a,St (trimB b)] false T 0)):=((ae.refl _ _).push _).new _ (Nat.le_refl _)
  have n3:((M1.push (.row [St [],St []] false T 0)).put M1.next (.row [St a,St (trimB b)] false T 0)).heap M1.next=some (.row [St a,St (trimB b)] false T 0):=aM _
  have l3:M1.next<((M1.push (.row [St [],St []] false T 0)).put M1.next (.row [St a,St (trimB b)] false T 0)).next:=by simp[RM.push,RM.put]
  generalize (M1.push (.row [St [],St []] false T 0)).put M1.next (.row [St a,St (trimB b)] false T 0)=M3 at *
  rw[bS n3 (by rfl)]
  have kM:ae [] M M3:=k0.trans (k1.trans k3)
  have fin:∀ (M5:RM) (r:Bool),ae [] M3 M5→((eU s=some (a,trimB b)∧r=true)∨(eU s=none∧r=false)) →
    aF M5 (.ptr M.next 0) (.agg [St a,St (trimB b)]) 2 fun yK=>bF yK (.ptr M.next 0) 2 fun res=>Q (.tup [res,Bo r]) yK:=by
   intro M5 r k5 hr
   have n5:=k5.aO (k3.aO n1 l1 (by simp)) (Nat.lt_of_lt_of_le l1 k3.next) (by simp)
   rw[jm n5 (by rfl) (by rfl) (by rfl)]
   rw[bS (aM _) (by rfl)]
   have kk:ae [] M (M5.put M.next (.row [St a,St (trimB b)] false T 0)):=(kM.trans k5).new _ (Nat.le_refl _)
   rcases hr with⟨h1,rfl⟩ | ⟨h1,rfl⟩
   ·exact hQ _ _ h1 kk
   ·exact hQ2 _ _ _ h1 kk
  cases ok with
  | false =>
    have e:eU s=none:=by unfold eU; rw[e2 rfl]
    have hf:=fin M3 false (ae.refl _ _) (.inr ⟨e,rfl⟩)
    simp only[vS,iW]
    rw[bS n3 (by rfl)]
    refine⟨rfl, ?_⟩
    simp only[dY,vS,iW]
    rw[bS n3 (by rfl)]
    refine⟨rfl, ?_⟩
    try simp only[dY]
    exact hf
  | true =>
    simp only[Cw,j3]
    rw[bq n3 (by rfl:([St a,St (trimB b)] : List AV)[0]?=some (St a))]
    simp only[bZ]
    refine hn (by omega) fun M4 k4=>?_
    try dsimp only
    have n4:=k4.aO n3 l3 (by simp)
    have l4:M1.next<M4.next:=Nat.lt_of_lt_of_le l3 k4.next
    rw[bS n4 (by rfl)]
    refine⟨rfl, ?_⟩
    simp only[dx]
    cases hgn:jG a with
    | false =>
      have e:eU s=none:=by unfold eU; rw[e1 rfl]; simp[hgn]
      simp only[vS,iW]
      rw[bS n4 (by rfl)]
      refine⟨rfl, ?_⟩
      simp only[dY]
      exact fin M4 false k4 (.inr ⟨e,rfl⟩)
    | true =>
      simp only[Cw]
      rw[bq n4 (by rfl:([St a,St (trimB b)] : List AV)[1]?=some (St (trimB b)))]
      simp only[bZ]
      refine hg ((k0.trans (k1.trans (k3.trans k4))).base.trans hB) (by omega) fun M5 k5=>?_
      try dsimp only
      have n5:=k5.aO n4 l4 (by simp)
      rw[bS n5 (by rfl)]
      refine⟨rfl, ?_⟩
      simp only[dx]
      refine fin M5 _ (k4.trans k5) ?_
      unfold eU
      rw[e1 rfl]
      simp only[hgn,Bool.true_and]
      cases ig (trimB b) <;> simp
 unfold ow
 cases hb:brk 58 s with
 | none =>
   simp only[aT,aU,dG]
   exact main s [] false (Nat.le_refl _) (by simp) (fun h=>by cases h) (fun _=>hb)
 | some p =>
   obtain⟨a,b⟩:=p
   have:=Gc hb
   simp only[aT,aU,dG]
   exact main a b true (by omega) (by omega) (fun _=>hb) (fun h=>by cases h)
def crlf:Str→Option (Str × Str)
 | []=>none
 | [_]=>none
 | x :: y :: t=>match x == 13 && y == 10 with
   | true=>some ([],t)
   | false=>match crlf (y :: t) with
     | none=>none
     | some p=>some (x :: p.1,p.2)
theorem tT:∀ s:Str,(crlf s=none∧Lib.index s [13,10]=-1)∨∃ a b,crlf s=some (a,b)∧Lib.index s [13,10]=(a.length:Int)∧s=a++13 :: 10 :: b
 | []=>.inl ⟨rfl,by decide⟩
 | [x]=>.inl ⟨rfl,by
   have h:([13,10] : Str).isPrefixOf [x]=false:=by simp[List.isPrefixOf]
   simp[Lib.index,h]⟩
 | x :: y :: t=>by
   unfold crlf
   cases h:x == 13 && y == 10
   ·have hp:([13,10] : Str).isPrefixOf (x :: y :: t)=false:=by
     simp only[List.isPrefixOf,Bool.and_true]
     rw[show((13:UInt8) == x)=(x == 13) from Bool.beq_comm ..,show((10:UInt8) == y)=(y == 10) from Bool.beq_comm ..]
     exact h
    rcases tT (y :: t) with⟨h1,h2⟩ | ⟨a,b,h1,h2,h3⟩
    ·refine .inl ⟨by simp only[h1], ?_⟩
     rw[Lib.index,hp]
     simp[h2]
    ·refine .inr ⟨x :: a,b,by simp only[h1], ?_,by rw[h3]; rfl⟩
     rw[Lib.index,hp]
     simp only[h2]
     have:((a.length:Int) == -1)=false:=by simp
     simp[this]
   ·simp only[Bool.and_eq_true,beq_iff_eq] at h
    obtain⟨rfl,rfl⟩:=h
    exact .inr ⟨[],t,rfl,by simp[Lib.index,List.isPrefixOf],rfl⟩
def Bh (B:Base) (c:ai) : Prop:=∀ {M:RM} {v w:AV} {s:Str} {Q:ah},M.base=B→Bs M v s→Bs M w [13,10]→s.length≤1000000000→Q (N .i64 (Lib.index s [13,10])) M→c [v,w] M Q
theorem En {T:Nat} {M:RM} {K:ah} (hK:∀ v M',Bs M' v [13,10]→ae [] M M'→K v M') :
  bX T 2 [(N .u8 0)] [(0,1,(N .u8 13)),(1,1,(N .u8 10))] fun r f=>aV r f M fun t14 M=>kX t14 M fun t15 M_0=>K t15 M_0:=by
 refine⟨[N .u8 13,N .u8 10],rfl, ?_⟩
 simp only[aS]
 refine⟨M.next,0,2,2,[N .u8 13,N .u8 10],T,rfl,by simp[RM.push], ?_⟩
 refine hK _ _ ⟨?_,Nat.le_refl _⟩ (((ae.refl _ _).push _).new _ (Nat.le_refl _))
 refine aL.slc _ _ _ _ _ (by simp[RM.push,RM.put]) ?_
 rw[RM.gD (aM _) (by decide)]
 rfl
def nK (b:Str) (at' : Nat) : Except Nat (Str × Nat):=match crlf ((b.take 2048).drop at') with
 | some p=>.ok (p.1,at' + p.1.length + 2)
 | none=>match Nat.blt b.length 2048 with
   | true=>.error 15
   | false=>.error 2
def GJ (B:Base) (c:ai) : Prop:=∀ {M:RM} {v:AV} {b:Str} {at' : Nat} {Q:ah},M.base=B→Bs M v b→at'≤b.length→at'≤2048→b.length≤1000000000 →
 (∀ s n M',nK b at'=.ok (s,n)→n≤b.length→n≤2048→s.length≤2048→ae [] M M'→Q (.tup [St s,N .i64 (n:Int),N .i64 0]) M')→(∀ (e:Nat) M',nK b at'=.error e→(e=15∨e=2)→ae [] M M'→Q (.tup [St [],N .i64 0,N .i64 (e:Int)]) M')→c [v,N .i64 (at' : Int)] M Q
theorem J6 {B:Base} {T:Nat} {ci:ai} (hi:Bh B ci) : GJ B fun args M Q=>∃ a0 a1,args=[a0,a1]∧mf T ci a0 a1 M Q:=by
 intro M v b at' Q hB hv h1 h2 hl hQ hE
 refine⟨_,_,rfl, ?_⟩
 unfold mf
 rw[hv.len,IX]
 have hm:(if false=true then(if (2048:Int) > (b.length:Int) then(2048:Int) else(b.length:Int)) else if (2048:Int)<(b.length:Int) then 2048 else(b.length:Int))=((min b.length 2048:Nat) : Int):=by
  simp only[Bool.false_eq_true,if_false]
  split <;> omega
 rw[hm]
 refine hv.sub (kI _ _ _) (kI _ _ _) (by omega) (by omega) fun v' hv' hsub=>?_
 have hw:(b.drop at').take (min b.length 2048 - at')=(b.take 2048).drop at':=by
  rw[List.drop_take]
  apply List.take_eq_take_iff.2
  rw[List.length_drop]; omega
 rw[hw] at hv'
 refine En fun w M1 hw1 k1=>?_
 have hwl:((b.take 2048).drop at').length=min 2048 b.length - at':=by simp
 refine hi (k1.base.trans hB) (hv'.keep k1 (by simp)) hw1 (by rw[hwl]; omega) ?_
 have hv1:=hv.keep k1 (by simp)
 rcases tT ((b.take 2048).drop at') with⟨e1,e2⟩ | ⟨a,r,e1,e2,e3⟩
 ·rw[e2,dh,show decide ((-1:Int) ≥ 0)=false from rfl,bf,hv1.len,iG]
  by_cases hs:b.length<2048
  ·rw[show decide ((b.length:Int)<2048)=true by simp; omega,bR]
   exact hE 15 _ (by unfold nK; rw[e1]; rw[show Nat.blt b.length 2048=true by rw[Nat.blt_eq]; exact hs]) (.inl rfl) k1
  ·rw[show decide ((b.length:Int)<2048)=false by simp; omega,bf]
   have:Nat.blt b.length 2048=false:=by
    cases h:Nat.blt b.length 2048
    ·rfl
    ·rw[Nat.blt_eq] at h; exact absurd h hs
   exact hE 2 _ (by unfold nK; rw[e1]; simp only[this]) (.inr rfl) k1
 ·have hal:a.length + 2 + r.length=min 2048 b.length - at':=by
   rw[← hwl,e3]; simp; omega
  rw[e2,dh,show decide ((a.length:Int) ≥ 0)=true by simp,bR,addN (by omega)]
  refine hv1.sub (kI _ _ _) (kI _ _ _) (by omega) (by omega) fun v2 hv2 _=>?_
  have htk:(b.drop at').take (at' + a.length - at')=a:=by
   have:(b.drop at').take a.length=((b.take 2048).drop at').take a.length:=by
    rw[List.drop_take,List.take_take]; congr 1; omega
   rw[Nat.add_sub_cancel_left,this,e3]; simp
  rw[htk] at hv2
  rw[hv2.str,addN (by omega),show(N .i64 2)=(N .i64 ((2:Nat) : Int)) from rfl,addN (by omega)]
  exact hQ _ _ _ (by unfold nK; rw[e1]) (by omega) (by omega) (by omega) k1
def hloop (b:Str) : Nat→Nat→List Hd→Except Nat (List Hd × Nat)
 | f,at',l=>match nK b at' with
   | .error e=>.error e
   | .ok (s,n)=>match s with
     | []=>.ok (l,n)
     | _ :: _=>match f with
       | 0=>.error 2
       | f + 1=>match eU s with
         | none=>.error 14
         | some h=>hloop b f n (l++[h])
theorem lu (b:Str) (f at' : Nat) (l:List Hd) : hloop b f at' l=(match nK b at' with
  | .error e=>.error e
  | .ok (s,n)=>match s with
    | []=>.ok (l,n)
    | _ :: _=>match f with
      | 0=>.error 2
      | f + 1=>match eU s with
        | none=>.error 14
        | some h=>hloop b f n (l++[h])):=by rw[hloop.eq_def]
def headD (p:Str→Bool) (b:Str) : Except Nat (Str × List Hd × Nat):=match nK b 0 with
 | .error e=>.error e
 | .ok (s,n)=>match p s with
   | false=>.error 14
   | true=>match hloop b 32 n [] with
     | .error e=>.error e
     | .ok (l,at')=>.ok (s,l,at')
def Ad (B:Base) (cv:FuncId→ai) (a1:AV) (p:Str→Bool) (br:Nat) (X0:RB) (X:Str→RB) : Prop:=∀ {M:RM} {s:Str} {K:ah},M.base=B→br<M.next→M.heap br=some X0→s.length≤2048 →
 (p s=false→∀ M',ae [br] M M'→K (Bo false) M')→(p s=true→∀ M',ae [br] M M'→M'.heap br=some (X s)→K (Bo true) M')→xE cv a1 [St s] M K
def Dy (B:Base) (a1:AV) (p:Str→Bool) (br:Nat) (X0:RB) (X:Str→RB) (T:Nat) (c:ai) : Prop:=∀ {M:RM} {v:AV} {b:Str} {Q:ah},M.base=B→Bs M v b→b.length≤1000000000→br<M.next→br ∉ aN v→M.heap br=some X0 →
 (∀ (e:Nat) M',headD p b=.error e→(e=15∨e=2∨e=14)→ae [br] M M'→Q (.tup [aH,N .i64 0,N .i64 (e:Int)]) M') →
 (∀ s l at' hv M',headD p b=.ok (s,l,at')→at'≤b.length→s.length≤2048→l.length≤32→ae [br] M M'→M'.heap br=some (X s)→Ow HD M' M.next T hv l→Q (.tup [hv,N .i64 (at' : Int),N .i64 0]) M')→c [v,a1] M Q
theorem J9 {B:Base} {a1:AV} {p:Str→Bool} {br:Nat} {X0:RB} {X:Str→RB} {T:Nat} {cl ch:ai} {cv:FuncId→ai} (hL:GJ B cl) (hH:BI B ch) (hF:Ad B cv a1 p br X0 X) :
  Dy B a1 p br X0 X T fun args M Q=>∃ a0 a1,args=[a0,a1]∧mD cl cv ch T a0 a1 M Q:=by
 intro M v b Q hB hv hl hbr hbv hX0 hE hQ
 refine⟨_,_,rfl, ?_⟩
 unfold mD
 refine hL (at':=0) hB hv (Nat.zero_le _) (Nat.zero_le _) hl (fun s n M1 e1 n1 n2 hs k1=>?_) (fun e M1 e1 he k1=>?_)
 rotate_left
 ·simp only[aT,aU,dG,iE]
  rw[show(((e:Nat) : Int) != 0)=true by rcases he with rfl | rfl <;> rfl,bR]
  exact hE e M1 (by unfold headD; rw[e1]) (by omega) (k1.mono (by simp))
 simp only[aT,aU,dG,yZ,bf]
 have hX1:=k1.aO hX0 hbr (by simp)
 refine hF (k1.base.trans hB) (Nat.lt_of_lt_of_le hbr k1.next) hX1 hs (fun hp M2 k2=>?_) (fun hp M2 k2 hX2=>?_)
 ·simp only[cB,Bool.not_false,bR]
  exact hE 14 M2 (by unfold headD; rw[e1]; simp only[hp]) (by omega) ((k1.mono (by simp)).trans k2)
 simp only[cB,Bool.not_true,bf]
 have k12:ae [br] M M2:=(k1.mono (by simp)).trans k2
 have target:∀ r,hloop b 32 n []=r→headD p b=(match r with | .error e=>.error e | .ok (l,at')=>.ok (s,l,at')):=by
  rintro r rfl
  unfold headD; rw[e1]; simp only[hp]
 have hbM:∀ x,M.next≤x→x≠br:=fun x hx e=>by omega
 refine dW (fun m ys M3=>∃ (at' : Nat) (hv:AV) (l:List Hd),ys=[hv,N .i64 (at' : Int)]∧l.length + m=32∧at'≤b.length∧at'≤2048∧Ow HD M3 M.next T hv l∧ae [br] M M3∧M3.heap br=some (X s)∧hloop b m at' l=hloop b 32 n []) _
  ⟨n,aH,[],rfl,rfl,n1,n2,.nil,k12,hX2,rfl⟩ ?_
 rintro next m ys M3 hnext ⟨at',hv',l,rfl,hlen,ha1,ha2,hO,k3,hX3,heq⟩
 simp only[bE,df]
 have hv3:=hv.keep k3 (fun x hx hb=>by simp at hb; subst hb; exact hbv hx)
 refine hL (k3.base.trans hB) hv3 ha1 ha2 hl (fun t n' M4 e4 n41 n42 ht k4=>?_) (fun e M4 e4 he k4=>?_)
 rotate_left
 ·simp only[aT,aU,dG,iE]
  rw[show(((e:Nat) : Int) != 0)=true by rcases he with rfl | rfl <;> rfl,bR]
  refine hE e M4 (target (.error e) ?_) (by omega) (k3.trans (k4.mono (by simp)))
  rw[← heq,lu,e4]
 simp only[aT,aU,dG,yZ,bf,dQ]
 have hO4:Ow HD M4 M.next T hv' l:=hO.keep k4 (by simp)
 have k34:ae [br] M M4:=k3.trans (k4.mono (by simp))
 have hX4:=k4.aO hX3 (Nat.lt_of_lt_of_le hbr k3.next) (by simp)
 cases t with
 | nil =>
   rw[show(([] : List UInt8) == [])=true from rfl,bR]
   refine hQ s l n' hv' M4 (target (.ok (l,n')) ?_) n41 hs (by omega) k34 hX4 hO4
   rw[← heq,lu,e4]
 | cons t0 ts =>
   rw[show((t0 :: ts:List UInt8) == [])=false from rfl,bf,hO4.ol.len,bB]
   cases m with
   | zero =>
     rw[show((l.length:Int) == 32)=true by simp; omega,bR]
     refine hE 2 M4 (target (.error 2) ?_) (by omega) k34
     rw[← heq,lu,e4]
   | succ m =>
     rw[show((l.length:Int) == 32)=false by simp; omega,bf]
     have tail:∀ (a c:Str) (ok:Bool) (M5:RM),ae [] M4 M5→((ok=true∧eU (t0 :: ts)=some (a,c))∨(ok=false∧eU (t0 :: ts)=none)) →
       (aC (.tup [.agg [St a,St c],Bo ok]) 0 fun t46=>aC (.tup [.agg [St a,St c],Bo ok]) 1 fun t47 =>
        aV (.row [(St []),(St [])] false T 0) (fun b=>.ptr b 0) M5 fun t8 M_4=>aF M_4 t8 t46 2 fun M_5=>fF t47 fun t49=>ak t49 ( Q (.tup [(.sc (.slice none 0 0)),(N .i64 0),(N .i64 14)]) M_5) ( bF M_5 t8 2 fun t51=>bX T 1 [(St []),(St [])] [(0,2,t51)] fun r f=>aV r f M_5 fun t52 M_6=>appW T 2 32 [(St []),(St [])] false hv' t52 M_6 fun t53 M_7=>next [t53,N .i64 (n' : Int)] M_7)):=by
      intro a c ok M5 k5 hr
      simp only[aT,aU,aS]
      have n5:(M5.push (.row [St [],St []] false T 0)).heap M5.next=some (.row [St [],St []] false T 0):=by simp[RM.push]
      rw[jm n5 (by rfl) (by rfl) (by rfl)]
      have k6:ae [] M5 ((M5.push (.row [St [],St []] false T 0)).put M5.next (.row [St a,St c] false T 0)):=((ae.refl _ _).push _).new _ (Nat.le_refl _)
      have n6:((M5.push (.row [St [],St []] false T 0)).put M5.next (.row [St a,St c] false T 0)).heap M5.next=some (.row [St a,St c] false T 0):=aM _
      generalize (M5.push (.row [St [],St []] false T 0)).put M5.next (.row [St a,St c] false T 0)=M6 at *
      have k46:ae [] M4 M6:=k5.trans k6
      rcases hr with⟨rfl,hh⟩ | ⟨rfl,hh⟩
      ·simp only[cB,Bool.not_true,bf]
       rw[bS n6 (by rfl),wQ (by rfl) (by rfl) (by rfl)]
       simp only[aS]
       refine wS (E:=HD) (a:=(a,c)) (hO4.keep k46 (by simp)) (Nat.le_trans (Nat.le_trans k34.next k46.next) (Nat.le_refl _)) (by decide) (by omega) (by omega) fun v7 M7 o7 k7 _ _=>?_
       have hb7:∀ x∈aN hv',x≠br:=fun x hx=>hbM x (hO4.blk x hx).1
       refine hnext m _ _ (by omega) ⟨n',v7,l++[(a,c)],rfl,by simp; omega,n41,n42,o7, ?_, ?_, ?_⟩
       ·have:=(k34.trans (k46.mono (by simp)))
        refine⟨k7.base.trans this.base,Nat.le_trans this.next k7.next,fun x hx hb=>?_⟩
        have hlt:=Nat.lt_of_lt_of_le hx this.next
        rw[k7.heap x hlt (fun h=>by have:=(hO4.blk x h).1; omega),this.heap x hx hb]
       ·have h6:=k46.aO hX4 (Nat.lt_of_lt_of_le hbr k34.next) (by simp)
        exact k7.aO h6 (Nat.lt_of_lt_of_le hbr (Nat.le_trans k34.next k46.next)) (fun h=>hb7 _ h rfl)
       ·rw[← heq,lu b (m + 1),e4]
        simp only[hh]
      ·simp only[cB,Bool.not_false,bR]
       refine hE 14 M6 (target (.error 14) ?_) (by omega) (k34.trans (k46.mono (by simp)))
       rw[← heq,lu,e4]
       simp only[hh]
     refine hH (k34.base.trans hB) (by omega) (fun h M5 hh k5=>?_) (fun a c M5 hh k5=>?_)
     ·exact tail h.1 h.2 true M5 k5 (.inl ⟨rfl,hh⟩)
     ·exact tail a c false M5 k5 (.inr ⟨rfl,hh⟩)
def isNamed (n:Str) (h:Hd) : Bool:=low h.1 == low n
def bT (l:List Hd) (n:Str) : List Str:=(l.filter (isNamed n)).map (·.2)
theorem Ii {l:List Hd} {n:Str} {i:Nat} (hi:i<l.length) : bT (l.take (i + 1)) n=bT (l.take i) n++(if isNamed n l[i] then[l[i].2] else[]):=by
 unfold bT
 rw[List.take_succ_eq_append_getElem hi,List.filter_append,List.map_append]
 congr 1
 cases h:isNamed n l[i] <;> simp[h]
def Bd (T:Nat) (c:ai) : Prop:=∀ {M:RM} {v:AV} {l:List Hd} {n:Str} {Q:ah},Sl HD M v l→l.length≤1000000→(∀ h∈l,h.1.length<4611686018427387904)→n.length<4611686018427387904 →
 (∀ v' M',Ow mg M' M.next T v' (bT l n)→ae [] M M'→Q v' M')→c [v,St n] M Q
theorem IA {TH T:Nat} {cs:ai} (hs:yG cs) : Bd T fun args M Q=>∃ a0 a1,args=[a0,a1]∧lv TH cs T a0 a1 M Q:=by
 intro M v l n Q hv hl hnl hn hQ
 refine⟨_,_,rfl, ?_⟩
 unfold lv
 rw[aL.len hv]
 refine dW (fun m ys M3=>∃ (i:Nat) (o:AV),m=l.length - i∧ys=[o,N .i64 (i:Int)]∧i≤l.length∧Ow mg M3 M.next T o (bT (l.take i) n)∧ae [] M M3) _ ⟨0,aH,rfl,rfl,Nat.zero_le _,.nil,ae.refl _ _⟩ ?_
 rintro next m ys M3 hnext ⟨i,o,rfl,rfl,hi,hO,k3⟩
 simp only[bE,df,yO]
 refine dL (fun h=>?_) fun h=>?_
 ·have hlt:i<l.length:=by simpa using h
  have hv3:Sl HD M3 v l:=aL.keep hv k3 (by simp)
  obtain⟨b,off,hb,_,hix,hld⟩:=hv3.at 2 (i:Int) hlt
  rw[mP,hix,vH]
  refine⟨_,hld, ?_⟩
  simp only[aS]
  have n4:(M3.push (.row [St [],St []] false TH 0)).heap M3.next=some (.row [St [],St []] false TH 0):=by simp[RM.push]
  rw[jm n4 (by rfl) (by rfl) (by rfl)]
  have k4:ae [] M3 ((M3.push (.row [St [],St []] false TH 0)).put M3.next (.row (HD.cells l[i]) false TH 0)):=((ae.refl _ _).push _).new _ (Nat.le_refl _)
  have n5:((M3.push (.row [St [],St []] false TH 0)).put M3.next (.row (HD.cells l[i]) false TH 0)).heap M3.next=some (.row (HD.cells l[i]) false TH 0):=aM _
  have l5:M3.next<((M3.push (.row [St [],St []] false TH 0)).put M3.next (.row (HD.cells l[i]) false TH 0)).next:=by simp[RM.push,RM.put]
  generalize (M3.push (.row [St [],St []] false TH 0)).put M3.next (.row (HD.cells l[i]) false TH 0)=M4 at *
  rw[j3,bq n5 (by rfl:(HD.cells l[i])[0]?=some (St l[i].1))]
  refine hs (by have:=hnl l[i] (List.getElem_mem hlt); omega) fun M5 k5=>?_
  refine hs (by omega) fun M6 k6=>?_
  have k46:=k4.trans (k5.trans k6)
  have n6:=(k5.trans k6).aO n5 l5 (by simp)
  simp only[dQ,add1 (show i<4611686018427387904 by omega)]
  have nt:=Ii (n:=n) hlt
  refine dL (fun h=>?_) fun h=>?_
  ·have hin:isNamed n l[i]=true:=h
   rw[hin,if_pos rfl] at nt
   rw[j3,bq n6 (by rfl:(HD.cells l[i])[1]?=some (St l[i].2)),wQ (by rfl) (by rfl) (by rfl)]
   simp only[aS]
   have hO6:Ow mg M6 M.next T o (bT (l.take i) n):=hO.keep k46 (by simp)
   have hlen:(bT (l.take i) n).length≤1000000:=by
    unfold bT
    rw[List.length_map]
    refine Nat.le_trans (List.length_filter_le _ _) ?_
    simp; omega
   refine wS (E:=mg) (a:=l[i].2) hO6 (Nat.le_trans k3.next k46.next) (by decide) (by omega) (by omega) fun v7 M7 o7 k7 _ _=>?_
   refine hnext _ _ _ (by omega) ⟨i + 1,v7,rfl,rfl,by omega,by rw[nt]; exact o7, ?_⟩
   have kk:=k3.trans k46
   refine⟨k7.base.trans kk.base,Nat.le_trans kk.next k7.next,fun x hx hb=>?_⟩
   rw[k7.heap x (Nat.lt_of_lt_of_le hx kk.next) (fun h=>by have:=(hO6.blk x h).1; omega),kk.heap x hx hb]
  ·have hin:isNamed n l[i]=false:=h
   rw[hin,if_neg (by decide),List.append_nil] at nt
   exact hnext _ _ _ (by omega) ⟨i + 1,o,rfl,rfl,by omega,by rw[nt]; exact hO.keep k46 (by simp),k3.trans k46⟩
 ·have:i=l.length:=by simp at h; omega
  subst this
  rw[List.take_length] at hO
  exact hQ o M3 hO k3
def jW:List Str→AV
 | []=>.tup [St [],Bo false]
 | s :: _=>.tup [St s,Bo true]
def GL (c:ai) : Prop:=∀ {M:RM} {v:AV} {l:List Hd} {n:Str} {Q:ah},Sl HD M v l→l.length≤1000000→(∀ h∈l,h.1.length<4611686018427387904)→n.length<4611686018427387904 →
 (∀ M',ae [] M M'→Q (jW (bT l n)) M')→c [v,St n] M Q
theorem Hu {T:Nat} {cn:ai} (hn:Bd T cn) : GL fun args M Q=>∃ a0 a1,args=[a0,a1]∧lH cn a0 a1 M Q:=by
 intro M v l n Q hv hl h1 h2 hQ
 refine⟨_,_,rfl, ?_⟩
 unfold lH
 refine hn hv hl h1 h2 fun v' M1 o k1=>?_
 have hs:Sl mg M1 v' (bT l n):=Own.ol o
 rw[hs.len,fo]
 have hQ:=hQ M1 k1
 generalize bT l n=xs at *
 cases xs with
 | nil =>
   rw[show decide ((([] : List Str).length:Int) > 0)=false from rfl,bf]
   exact hQ
 | cons x xs =>
   rw[show decide (((x :: xs).length:Int) > 0)=true by simp,bR]
   obtain⟨b,o',_,_,hix,hld⟩:=hs.at 1 0 (i:=0) (by simp)
   rw[hix,dE]
   exact⟨_,dK.1 hld,hQ⟩
theorem Ko {T:Nat} {cf:ai} (hf:GL cf) {M:RM} {x y v:AV} {tl:List AV} {l:List Hd} {n:Str} {Q:ah} (hv:Sl HD M v l) (hl:l.length≤1000000) (h1:∀ h∈l,h.1.length<4611686018427387904) (h2:n.length<4611686018427387904)
  (hc:(x :: y :: v :: tl).all oneCell=true) (hQ:∀ M',ae [] M M'→Q (jW (bT l n)) M') : iw T cf (.agg (x :: y :: v :: tl)) (St n) M Q:=by
 unfold iw
 rw[lh hc (by simp)]
 simp only[aS]
 have k1:ae [] M (M.push (.row (x :: y :: v :: tl) false T 0)):=(ae.refl _ _).push _
 have n1:(M.push (.row (x :: y :: v :: tl) false T 0)).heap M.next=some (.row (x :: y :: v :: tl) false T 0):=by simp[RM.push]
 rw[j3,bq n1 (by rfl:(x :: y :: v :: tl)[2]?=some v)]
 refine hf (aL.keep hv k1 (by simp)) hl h1 h2 fun M2 k2=>?_
 have:=hQ M2 (k1.trans k2)
 generalize bT l n=xs at *
 cases xs <;> simpa only[jW,aT,aU] using this
theorem JR {T:Nat} {cf:ai} (hf:GL cf) {M:RM} {x v:AV} {tl:List AV} {l:List Hd} {n:Str} {Q:ah} (hv:Sl HD M v l) (hl:l.length≤1000000) (h1:∀ h∈l,h.1.length<4611686018427387904) (h2:n.length<4611686018427387904)
  (hc:(x :: v :: tl).all oneCell=true) (hQ:∀ M',ae [] M M'→Q (jW (bT l n)) M') : gN T cf (.agg (x :: v :: tl)) (St n) M Q:=by
 unfold gN
 rw[lh hc (by simp)]
 simp only[aS]
 have k1:ae [] M (M.push (.row (x :: v :: tl) false T 0)):=(ae.refl _ _).push _
 have n1:(M.push (.row (x :: v :: tl) false T 0)).heap M.next=some (.row (x :: v :: tl) false T 0):=by simp[RM.push]
 rw[j3,bq n1 (by rfl:(x :: v :: tl)[1]?=some v)]
 refine hf (aL.keep hv k1 (by simp)) hl h1 h2 fun M2 k2=>?_
 have:=hQ M2 (k1.trans k2)
 generalize bT l n=xs at *
 cases xs <;> simpa only[jW,aT,aU] using this
def GQ (B:Base) (c:ai) : Prop:=∀ {M:RM} {v w:AV} {s:Str} {Q:ah},M.base=B→Bs M v s→Bs M w [13,10]→s.length≤1000000000 →
 (∀ a r v1 v2,crlf s=some (a,r)→Bs M v1 a→Q (.tup [v1,v2,Bo true]) M)→(crlf s=none→Q (.tup [v,aH,Bo false]) M)→c [v,w] M Q
theorem pY {s a r:Str} (h:crlf s=some (a,r)) : s=a++13 :: 10 :: r∧a.length + 2 + r.length=s.length:=by
 rcases tT s with⟨h1,_⟩ | ⟨a',r',h1,_,h3⟩
 ·rw[h] at h1; cases h1
 ·rw[h] at h1; cases h1
  refine⟨h3, ?_⟩
  rw[h3]; simp; omega
theorem JF {B:Base} {ci:ai} (hi:Bh B ci) : GQ B fun args M Q=>∃ a0 a1,args=[a0,a1]∧rV ci a0 a1 M Q:=by
 intro M v w s Q hB hv hw hl hQ hN
 refine⟨_,_,rfl, ?_⟩
 unfold rV
 refine hi hB hv hw hl ?_
 rcases tT s with⟨e1,e2⟩ | ⟨a,r,e1,e2,e3⟩
 ·rw[e2,dh,show decide ((-1:Int) ≥ 0)=false from rfl,bf]
  exact hN e1
 ·have hal:=(pY e1).2
  rw[e2,dh,show decide ((a.length:Int) ≥ 0)=true by simp,bR]
  refine hv.sub (El 0) (kI _ _ _) (Nat.zero_le _) (by omega) fun v1 hv1 _=>?_
  rw[hw.len,addN (show a.length + ([13,10] : Str).length<4611686018427387904 by simp; omega)]
  refine hv.sub (kI _ _ _) (El _) (by simp; omega) (Nat.le_refl _) fun v2 hv2 _=>?_
  refine hQ a r v1 v2 e1 ?_
  have:(s.drop 0).take (a.length - 0)=a:=by rw[e3]; simp
  rw[this] at hv1; exact hv1
def lG (x:UInt8) : Nat:=if x.toNat≤57 then x.toNat - 48 else if x.toNat≤90 then x.toNat - 55 else x.toNat - 87
def kH (s:Str) : Nat:=s.foldl (fun n x=>n * 16 + lG x) 0
def jk (s:Str) : Nat:=s.foldl (fun n x=>n * 10 + (x.toNat - 48)) 0
def BG (c:ai) : Prop:=∀ {M:RM} {s:Str} {Q:ah},1≤s.length→s.length≤8→(low s).all kF=true→(∀ M',ae [] M M'→Q (.tup [N .u64 (kH s:Int),.sc .nilIface]) M')→c [St s,N .i64 16,N .i64 64] M Q
def Hq (c:ai) : Prop:=∀ {M:RM} {s:Str} {Q:ah},1≤s.length→s.length≤9→s.all dD=true→(∀ M',ae [] M M'→Q (.tup [N .i64 (jk s:Int),.sc .nilIface]) M')→c [St s] M Q
theorem Gq {x:UInt8} (h:kF (bU x)=true) : lG x<16:=by
 unfold kF dD at h
 unfold lG
 simp only[Bool.or_eq_true,Bool.and_eq_true,decide_eq_true_eq] at h
 have hx:=Aq x
 have hl:(bU x).toNat=x.toNat∨((bU x).toNat=x.toNat + 32∧65≤x.toNat∧x.toNat≤90):=by
  unfold bU
  split
  ·right
   refine⟨?_,by omega,by omega⟩
   rw[UInt8.toNat_add]
   show(x.toNat + 32) % 256=_
   omega
  ·exact .inl rfl
 split
 ·omega
 ·split <;> omega
theorem DW:∀ (s:Str) (n:Nat),(low s).all kF=true→s.foldl (fun n x=>n * 16 + lG x) n<(n + 1) * 16 ^ s.length
 | [],n,_=>by simp
 | x :: s,n,h=>by
   simp only[low,List.map_cons,List.all_cons,Bool.and_eq_true] at h
   have hd:=Gq h.1
   have:=DW s (n * 16 + lG x) h.2
   rw[List.foldl_cons]
   refine Nat.lt_of_lt_of_le this ?_
   rw[List.length_cons,Nat.pow_succ,Nat.mul_comm (16 ^ s.length) 16,← Nat.mul_assoc]
   exact Nat.mul_le_mul_right _ (by omega)
theorem Gg {s:Str} (h:(low s).all kF=true) (hl:s.length≤8) : kH s<4294967296:=by
 have:=DW s 0 h
 unfold kH
 refine Nat.lt_of_lt_of_le this ?_
 rw[Nat.zero_add,Nat.one_mul]
 exact Nat.le_trans (Nat.pow_le_pow_right (by decide) hl) (by decide)
def nW (s:Str) : Bool:=iL s 1 8 && (low s).all kF
def nN (r:Str) : Except Nat (Nat × Str):=match crlf r with
 | none=>match Nat.blt 10 r.length with
   | true=>.error 14
   | false=>.error 15
 | some p=>match nW p.1 with
   | true=>.ok (kH p.1,p.2)
   | false=>.error 14
def IU (B:Base) (c:ai) : Prop:=∀ {M:RM} {v:AV} {b:Str} {at' : Nat} {Q:ah},M.base=B→Bs M v b→at'≤b.length→b.length≤1000000000 →
 (∀ n r at2 M',nN (b.drop at')=.ok (n,r)→at2≤b.length→at' + 2<at2→b.drop at2=r→n<4294967296→ae [] M M'→Q (.tup [N .i64 (n:Int),N .i64 (at2:Int),N .i64 0]) M') →
 (∀ (e:Nat) M',nN (b.drop at')=.error e→(e=14∨e=15)→ae [] M M'→Q (.tup [N .i64 0,N .i64 0,N .i64 (e:Int)]) M')→c [v,N .i64 (at' : Int)] M Q
theorem JS {B:Base} {T g:Nat} {cc cw cs ca cp:ai} (hc:GQ B cc) (hw:oW cw) (hs:yG cs) (ha:kJ kF (.fn (.func g) [] []) ca) (hp:BG cp) :
  IU B fun args M Q=>∃ a0 a1,args=[a0,a1]∧lW T cc cw cs ca g cp a0 a1 M Q:=by
 intro M v b at' Q hB hv h1 hl hQ hE
 refine⟨_,_,rfl, ?_⟩
 unfold lW
 refine hv.sub (kI _ _ _) (El _) h1 (Nat.le_refl _) fun v1 hv1 _=>?_
 have hd:(b.drop at').take (b.length - at')=b.drop at':=List.take_of_length_le (by simp)
 rw[hd] at hv1
 refine En fun w M1 hw1 k1=>?_
 have hv2:=hv1.keep k1 (by simp)
 have hdl:(b.drop at').length=b.length - at':=by simp
 refine hc (k1.base.trans hB) hv2 hw1 (by rw[hdl]; omega) (fun a r u1 u2 hcr hu1=>?_) (fun hcr=>?_)
 ·have hlen:=(pY hcr).2
  simp only[aT,aU,dG,cB,Bool.not_true,cO,iW,dY,bf]
  rw[hu1.str]
  refine hw ?_
  simp only[cB]
  -- the two tests
  have tail:∀ M2,ae [] M M2→Bs M2 u1 a→((ak (Bo (!nW a)) (Q (.tup [(N .i64 0),(N .i64 0),(N .i64 14)]) M2) (
    eD M2 u1 fun t44=>cp [t44,(N .i64 16),(N .i64 64)] M2 fun t45 yK=>aC t45 0 fun t46=>aC t45 1 fun t47=>gM .i64 t46 fun t49=>bg u1 fun t52=>af .add (N .i64 (at' : Int)) t52 fun t53=>af .add t53 (N .i64 2) fun t54=>Q (.tup [t49,t54,(N .i64 0)]) yK))):=by
   intro M2 k2 hu2
   refine dL (fun h=>?_) fun h=>?_
   ·have hk:nW a=false:=by simpa using h
    exact hE 14 M2 (by unfold nN; rw[hcr]; simp only[hk]) (.inl rfl) k2
   ·have hk:nW a=true:=by simpa using h
    have hk':=hk
    unfold nW iL at hk'
    simp only[Bool.and_eq_true,decide_eq_true_eq] at hk'
    rw[hu2.str]
    refine hp (by omega) (by omega) hk'.2 fun M3 k3=>?_
    have hlt:=Gg hk'.2 (by omega)
    simp only[aT,aU,kU]
    rw[gB (by omega) (by omega),hu2.len,addN (by omega),show(N .i64 2)=(N .i64 ((2:Nat) : Int)) from rfl,addN (by omega)]
    refine hQ (kH a) r (at' + a.length + 2) M3 (by unfold nN; rw[hcr]; simp only[hk]) (by omega) (by omega) ?_ hlt (k2.trans k3)
    have e3:=(pY hcr).1
    rw[show at' + a.length + 2=at' + (a.length + 2) by omega,← List.drop_drop,e3,← List.drop_drop]
    simp
  cases hwi:iL a 1 8 with
  | false =>
    simp only[Bool.not_false,fG,dx]
    have:=tail M1 k1 hu1
    unfold nW at this
    rw[hwi] at this
    simpa only[Bool.false_and,Bool.not_false] using this
  | true =>
    simp only[Bool.not_true,dI,dY]
    rw[hu1.str]
    refine hs (by omega) fun M2 k2=>?_
    refine ha (by rw[low,List.length_map]; omega) fun M3 k3=>?_
    have k23:=k2.trans k3
    have:=tail M3 (k1.trans k23) (hu1.keep k23 (by simp))
    unfold nW at this
    rw[hwi] at this
    simpa only[cB,Bool.true_and,dY] using this
 ·simp only[aT,aU,dG,cB,Bool.not_false,cO,bZ,dx]
  rw[hv2.len,fo,hdl]
  by_cases h10:10<b.length - at'
  ·rw[show decide (((b.length - at' : Nat) : Int) > 10)=true by simp; omega,bR]
   exact hE 14 M1 (by unfold nN; rw[hcr]; simp only[hdl]; rw[show Nat.blt 10 (b.length - at')=true by rw[Nat.blt_eq]; exact h10]) (.inl rfl) k1
  ·rw[show decide (((b.length - at' : Nat) : Int) > 10)=false by simp; omega,bf,bR]
   refine hE 15 M1 ?_ (.inr rfl) k1
   unfold nN; rw[hcr]; simp only[hdl]
   have:Nat.blt 10 (b.length - at')=false:=by
    cases h:Nat.blt 10 (b.length - at')
    ·rfl
    ·rw[Nat.blt_eq] at h; exact absurd h h10
   rw[this]
end Go.Ab.Hw
