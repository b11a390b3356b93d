/- Part 3 of the ground of the proofs of this seat (texts R9 to WVl). By an AI agent. -/
import Derived.Test.YtckpmlcaaagnkaaDoorDkc2
import Derived.Scope
import Derived.ChangeShapes
import Derived.OpenShut
import Derived.WideKeyArgs
import GoSem.ClaimJoined
import Derived.Carry
import Derived.JoinedCond
import Derived.SizedLaws
import GoSem.Extern.Atomic
import GoSem.Extern.MapsClone
import Derived.Laws.AppendOwn
set_option linter.unusedVariables false
set_option linter.unusedSimpArgs false
namespace Go.Ab
open Go Go.RowKit
def zO:Option Tmp→Nat
 | some d=>2 ^ d
 | none=>0
def ED:Operand→Nat
 | .tmp t=>2 ^ t
 | _=>0
def Ed:List Operand→Nat
 | []=>0
 | x :: xs=>ED x ||| Ed xs
def FH (L m:Nat) : Nat:=L ^^^ (L &&& m)
def uI:List Oper→Nat
 | []=>0
 | o :: os=>zO o.dst ||| uI os
def cB:Nat→Code→Nat
 | 0,_=>0
 | f + 1,c=>match c with
   | .region _ ops _=>uI ops.toList
   | .seq a b=>cB f a ||| cB f b
   | .cond _ a b=>cB f a ||| cB f b
   | .block _ c=>cB f c
   | .loop c=>cB f c
   | .scope c=>cB f c
   | _=>0
def BU:List Oper→Nat→Nat
 | [],L=>L
 | o :: os,L=>FH (BU os L) (zO o.dst) ||| Ed o.op.operands.toList
def En:List (Nat × Nat)→Nat→Nat
 | [],_=>0
 | (i,L) :: r,id=>match Nat.beq i id with
   | true=>L
   | false=>En r id
def di (ret:Nat) : Nat→List (Nat × Nat)→Code→Nat→Nat
 | 0,_,_,_=>0
 | f + 1,env,c,L=>match c with
   | .skip=>L
   | .region _ ops _=>BU ops.toList L
   | .seq a b=>di ret f env a (di ret f env b L)
   | .cond c a b=>ED c ||| di ret f env a L ||| di ret f env b L
   | .block id c=>di ret f ((id,L) :: env) c L
   | .loop c=>di ret f env c (di ret f env c 0)
   | .exit id=>En env id
   | .ret=>ret
   | .scope c=>di ret f env c L
   | .label _=>L
   | _=>0
def cap2 (n:Nat) : Nat:=match n with | 0=>0 | 1=>1 | _=>2
def jT (id:Nat) : Nat→Code→Nat
 | 0,_=>2
 | f + 1,c=>match c with
   | .seq a b=>cap2 (jT id f a + jT id f b)
   | .cond _ a b=>cap2 (jT id f a + jT id f b)
   | .block _ c=>jT id f c
   | .loop c=>jT id f c
   | .exit i=>match Nat.beq i id with | true=>1 | false=>0
   | _=>0
def mr:Nat→Code→Nat
 | 0,_=>2
 | f + 1,c=>match c with
   | .skip=>1
   | .region _ _ _=>1
   | .seq a b=>cap2 (mr f a * mr f b)
   | .cond _ a b=>cap2 (mr f a + mr f b)
   | .block id c=>cap2 (mr f c + jT id f c)
   | .scope c=>mr f c
   | .label _=>1
   | _=>0
def nQ (m:Nat) : Nat→Nat→List Nat
 | _,0=>[]
 | i,n + 1=>match Nat.testBit m i with
   | true=>i :: nQ m (i + 1) n
   | false=>nQ m (i + 1) n
def bitsOf (m nt:Nat) : List Nat:=nQ m 0 nt
def nk (T:Tree AV) : List Nat→List AV
 | []=>[]
 | t :: ts=>(T.get t).getD .top :: nk T ts
def bG:List AV→Nat→AV
 | [],_=>.top
 | x :: _,0=>x
 | _ :: xs,n + 1=>bG xs n
def nW (T:Tree AV) : List Nat→Tree AV
 | []=>T
 | t :: ts=>nW (T.set t .top) ts
def zW (T:Tree AV) (xs:List AV) : Nat→List Nat→Tree AV
 | _,[]=>T
 | i,t :: ts=>zW (T.set t (bG xs i)) xs (i + 1) ts
def o5 (T:Tree AV) (asg vs:List Nat) (xs:List AV) : Tree AV:=zW (nW T asg) xs 0 vs
def bB (x:AV) (p q:Prop) : Prop :=
 match x with
 | .sc (.bool b)=>(b=true→p)∧(b=false→q)
 | _=>False
def q9 (f:(List AV→RM→Prop)→Prop) (g:List AV→RM→Prop) : Prop:=f g
def nT (body:(List AV→RM→Prop)→List AV→RM→Prop) (xs:List AV) (M:RM) : Prop :=
 ∃ (I:Nat→List AV→RM→Prop) (n:Nat),I n xs M∧∀ m ys M',I m ys M'→body (fun zs M''=>∃ m',m'<m∧I m' zs M'') ys M'
abbrev K3:=Ex→Tree AV→RM→Prop
def wpC (P:Program) (nt ret:Nat) : Nat→Code→List (Nat × Nat)→Nat→Tree AV→RM→K3→Prop
 | 0,_,_,_,_,_,_=>False
 | f + 1,c,env,L,T,M,K=>match c with
   | .skip=>K .normal T M
   | .region _ ops false=>vW P nt ops ops.toList T M (fun T' M'=>K .normal T' M')
   | .region _ ops true=>Dr P nt ops T M (fun T' M'=>K .normal T' M')
   | .seq a b=>match Nat.ble (mr f a) 1 with
     | true=>wpC P nt ret f a env (di ret f env b L) T M (fun e T' M'=>match e with
       | .normal=>wpC P nt ret f b env L T' M' K
       | e=>K e T' M')
     | false=>q9 (fun J=>wpC P nt ret f a env (di ret f env b L) T M (fun e T' M'=>match e with
       | .normal=>J (nk T' (bitsOf (cB f a &&& di ret f env b L) nt)) M'
       | e=>K e T' M'))
       (fun xs M'=>wpC P nt ret f b env L (o5 T (bitsOf (cB f a) nt) (bitsOf (cB f a &&& di ret f env b L) nt) xs) M' K)
   | .cond c a b=>bB (lm T c) (wpC P nt ret f a env L T M K) (wpC P nt ret f b env L T M K)
   | .block id c=>wpC P nt ret f c ((id,L) :: env) L T M (fun e T' M'=>match e with
     | .exit i=>match Nat.beq i id with
       | true=>K .normal T' M'
       | false=>K (.exit i) T' M'
     | e=>K e T' M')
   | .loop c=>nT (fun next xs M'=>wpC P nt ret f c env (di ret f env c (di ret f env c 0)) (o5 T (bitsOf (cB f c) nt) (bitsOf (cB f c &&& di ret f env c (di ret f env c 0)) nt) xs) M'
     (fun e T' M'=>match e with
      | .normal=>next (nk T' (bitsOf (cB f c &&& di ret f env c (di ret f env c 0)) nt)) M'
      | e=>K e T' M'))
     (nk T (bitsOf (cB f c &&& di ret f env c (di ret f env c 0)) nt)) M
   | .exit id=>K (.exit id) T M
   | .ret=>K .ret T M
   | .scope c=>wpC P nt ret f c env L T M K
   | .label _=>K .normal T M
   | _=>False
def FK (P:Program) (T:Tree AV) (M:RM) (r:ResultVar) (K:AV→Prop) : Prop :=
 match r with
 | .tmp t=>K ((T.get t).getD .top)
 | .cell a t=>match bq P t with
   | some false=>aD M ((T.get a).getD .top) K
   | some true=>match aA P t with
     | some n=>kg M ((T.get a).getD .top) n K
     | none=>False
   | none=>False
def FM (P:Program) (T:Tree AV) (M:RM) : List ResultVar→(List AV→Prop)→Prop
 | [],K=>K []
 | r :: rs,K=>FK P T M r (fun v=>FM P T M rs (fun vs=>K (v :: vs)))
def Hg (Q:af) (M:RM) : List AV→Prop
 | [v]=>Q v M
 | vs=>Q (.tup vs) M
def vY:List ResultVar→Nat
 | []=>0
 | .tmp t :: rs=>2 ^ t ||| vY rs
 | .cell a _ :: rs=>2 ^ a ||| vY rs
def EL (P:Program) (fn:Func) (c:Code) (args:List AV) (M:RM) (Q:af) : Prop :=
 wpC P (args.length + (fn.ntmps - args.length)) (vY fn.results.toList) 1000 c [] 0 (Tree.ofList args 0 .leaf) M
  (fun e T M'=>match e with
   | .exit _=>False
   | _=>FM P T M' fn.results.toList (Hg Q M'))
section
variable {P:Program} {nt ret:Nat}
def Dj (P:Program) (nt:Nat) (M0:RM) (ρ0:Ren) (w0:World) (T:Tree AV) (asg:Nat) (K:K3) (e:Exit) (a:Act) (w:World) : Prop :=
 ∃ x T' M' ρ',e=FX x∧After P M0 ρ0 w0 M' ρ' w∧eD ρ' nt T' a∧(∀ t,Nat.testBit asg t=false→T'.get t=T.get t)∧K x T' M'
theorem Ap {T:Tree AV} : ∀ (vs:List Nat) (i:Nat),bG (nk T vs) i=match vs[i]? with | some t=>(T.get t).getD .top | none=>.top
 | [],i=>by simp[nk,bG]
 | t :: vs,0=>by simp[nk,bG]
 | t :: vs,i + 1=>by simp[nk,bG,Ap vs i]
theorem pX:∀ (asg:List Nat) (T:Tree AV) (t:Nat),(nW T asg).get t=if t∈asg then some .top else T.get t
 | [],T,t=>by simp[nW]
 | d :: asg,T,t=>by
   simp only[nW,pX asg,Tree.aL,List.mem_cons]
   by_cases h1:t∈asg
   ·simp[h1]
   ·by_cases h2:t=d <;> simp[h1,h2]
theorem sV:∀ (vs:List Nat) (T:Tree AV) (xs:List AV) (i t:Nat),(t ∉ vs∧(zW T xs i vs).get t=T.get t)∨∃ j,vs[j]?=some t∧(zW T xs i vs).get t=some (bG xs (i + j))
 | [],T,xs,i,t=>.inl ⟨by simp,rfl⟩
 | d :: vs,T,xs,i,t=>by
   simp only[zW]
   rcases sV vs (T.set d (bG xs i)) xs (i + 1) t with⟨h1,h2⟩ | ⟨j,h1,h2⟩
   ·rw[Tree.aL] at h2
    by_cases e:t=d
    ·rw[if_pos e] at h2
     exact .inr ⟨0,by simp[e],h2⟩
    ·rw[if_neg e] at h2
     exact .inl ⟨by simp[e,h1],h2⟩
   ·exact .inr ⟨j + 1,by simpa using h1,by rw[h2]; congr 2; omega⟩
theorem o6 {m:Nat} : ∀ (n i t:Nat),t∈nQ m i n↔i≤t∧t<i + n∧Nat.testBit m t=true
 | 0,i,t=>by simp[nQ]; omega
 | n + 1,i,t=>by
   simp only[nQ]
   split
   ·rename_i h
    rw[List.mem_cons,o6 n (i + 1) t]
    constructor
    ·rintro(rfl | ⟨a,b,c⟩)
     ·exact⟨Nat.le_refl _,by omega,h⟩
     ·exact⟨by omega,by omega,c⟩
    ·rintro⟨a,b,c⟩
     by_cases e:t=i
     ·exact .inl e
     ·exact .inr ⟨by omega,by omega,c⟩
   ·rename_i h
    rw[o6 n (i + 1) t]
    constructor
    ·rintro⟨a,b,c⟩; exact⟨by omega,by omega,c⟩
    ·rintro⟨a,b,c⟩
     have:t≠i:=fun e=>by subst e; rw[h] at c; cases c
     exact⟨by omega,by omega,c⟩
theorem kZ {m n t:Nat} : t∈bitsOf m n↔t<n∧Nat.testBit m t=true:=by
 unfold bitsOf; rw[o6]; simp
theorem qz {ρ:Ren} {T T' : Tree AV} {a:Act} {asg:Nat} {vs:List Nat} (h:eD ρ nt T' a) (hge:∀ t,nt≤t→aa ρ ((T.get t).getD .top) undef) (hk:∀ t,Nat.testBit asg t=false→T'.get t=T.get t) : eD ρ nt (o5 T (bitsOf asg nt) vs (nk T' vs)) a:=by
 refine⟨h.size,fun t=>?_,h.defers⟩
 unfold o5
 rcases sV vs (nW T (bitsOf asg nt)) (nk T' vs) 0 t with⟨_,h2⟩ | ⟨j,h1,h2⟩
 ·rw[h2,pX]
  split
  ·exact .top _
  ·rename_i hm
   by_cases hb:Nat.testBit asg t=true
   ·have hge' : nt≤t:=by
     rcases Nat.lt_or_ge t nt with hlt | hge
     ·exact absurd (kZ.2 ⟨hlt,hb⟩) hm
     ·exact hge
    have hv:a.tmps.getD t undef=undef:=by
     rw[Array.getD_eq_getD_getElem?,Array.getElem?_eq_none (by rw[h.size]; exact hge')]; rfl
    rw[hv]; exact hge t hge'
   ·rw[← hk t (by simpa using hb)]
    exact h.val t
 ·rw[h2,Nat.zero_add,Ap,h1]
  exact h.val t
theorem uY {T:Tree AV} {asg:Nat} {vs:List Nat} {xs:List AV} (hvs:∀ t∈vs,Nat.testBit asg t=true) (t:Nat) (h:Nat.testBit asg t=false) : (o5 T (bitsOf asg nt) vs xs).get t=T.get t:=by
 unfold o5
 rcases sV vs (nW T (bitsOf asg nt)) xs 0 t with⟨_,h2⟩ | ⟨j,h1,h2⟩
 ·rw[h2,pX,if_neg]
  intro hm
  rw[(kZ.1 hm).2] at h; cases h
 ·have:=hvs t (List.mem_of_getElem? h1)
  rw[h] at this; cases this
theorem eD.ge {ρ:Ren} {T:Tree AV} {a:Act} (h:eD ρ nt T a) : ∀ t,nt≤t→aa ρ ((T.get t).getD .top) undef:=by
 intro t ht
 have:=h.val t
 rw[Array.getD_eq_getD_getElem?,Array.getElem?_eq_none (by rw[h.size]; exact ht)] at this
 exact this
theorem rM {c:Code} {Q:Exit→Act→World→Prop} : ∀ {n m:Nat} {a:Act} {w:World},n≤m→Code.rounds P c Q n a w→Code.rounds P c Q m a w
 | 0,_,_,_,_,h=>h.elim
 | n + 1,m + 1,a,w,hle,h=>by
   rw[rounds_succ] at h ⊢
   refine wp_mono h fun e a' w' hp=>?_
   cases e with
   | normal=>exact rM (Nat.le_of_succ_le_succ hle) hp
   | exit id=>exact hp
   | ret=>exact hp
   | goto l=>exact hp
   | panic c=>exact hp
   | outgrown=>exact hp
theorem oK {t:Nat} : ∀ (l:List Oper),Nat.testBit (uI l) t=false→∀ o∈l,o.dst≠some t
 | [],_,o,ho=>by cases ho
 | x :: l,h,o,ho=>by
   simp only[uI,Nat.testBit_or,Bool.or_eq_false_iff] at h
   rcases List.mem_cons.1 ho with rfl | ho
   ·intro e
    rw[e] at h
    simp[zO,Nat.testBit_two_pow] at h
   ·exact oK l h.2 o ho
theorem EF {ρ:Ren} {x:AV} {u:Value} {p q:Prop} (h:bB x p q) (hx:aa ρ x u) : ∃ b,u=.bool b∧(b=true→p)∧(b=false→q):=by
 unfold bB at h
 split at h <;> first | (cases h; done) | skip
 rename_i b
 exact⟨b,(aj hx).1,h.1,h.2⟩
theorem Em (hP:uw P) : ∀ (f:Nat) (c:Code) (env:List (Nat × Nat)) (L:Nat) (T:Tree AV) (M:RM) (K:K3),wpC P nt ret f c env L T M K →
  ∀ (M0:RM) (ρ0:Ren) (w0:World) (ρ:Ren) (a:Act) (w:World),After P M0 ρ0 w0 M ρ w→eD ρ nt T a→c.wp P (Dj P nt M0 ρ0 w0 T (cB f c) K) a w:=by
 intro f
 induction f with
 | zero=>intro c env L T M K h; exact h.elim
 | succ f ih =>
   intro c env L T M K h M0 ρ0 w0 ρ a w hM hA
   cases c with
   | skip=>exact wp_skip ⟨.normal,T,M,ρ,rfl,hM,hA,fun _ _=>rfl,h⟩
   | region id ops d =>
     cases d with
     | false =>
       refine wp_region ?_
       have:=oH (nt:=nt) hP (ops:=ops) (Q:=Dj P nt M0 ρ0 w0 T (cB (f + 1) (.region id ops false)) K) (K:=fun T' M'=>K .normal T' M') (M0:=M0) (ρ0:=ρ0) (w0:=w0) (T0:=T)
        (fun T' M' ρ' a' w' k1 k2 k3 k4=>⟨.normal,T',M',ρ',rfl,k1,k2,fun t ht=>k4 t (oK _ ht),k3⟩) ops.toList 0 (by simp) hA hM (fun _ _=>rfl) h
       rw[Array.length_toList,← List.range_eq_range'] at this
       exact this
     | true =>
       exact Bv (nt:=nt) (T:=T) hP hM hA (fun T' M' ρ' a' w' k1 k2 k3 k4=>⟨.normal,T',M',ρ',rfl,k1,k2,fun t ht=>k4 t (oK _ ht),k3⟩) h
   | seq c1 c2 =>
     simp only[wpC] at h
     refine wp_seq ?_
     split at h
     ·refine wp_mono (ih c1 _ _ _ _ _ h M0 ρ0 w0 ρ a w hM hA) fun e a' w' hp=>?_
      obtain⟨x,T1,M1,ρ1,rfl,k1,k2,k3,k4⟩:=hp
      cases x with
      | normal =>
        refine wp_mono (ih c2 _ _ _ _ _ k4 M0 ρ0 w0 ρ1 a' w' k1 k2) fun e a2 w2 hp=>?_
        obtain⟨x,T2,M2,ρ2,he,q1,q2,q3,q4⟩:=hp
        exact⟨x,T2,M2,ρ2,he,q1,q2,fun t ht=>by
         simp only[cB,Nat.testBit_or,Bool.or_eq_false_iff] at ht
         rw[q3 t ht.2,k3 t ht.1],q4⟩
      | exit i=>exact⟨.exit i,T1,M1,ρ1,rfl,k1,k2,fun t ht=>by
        simp only[cB,Nat.testBit_or,Bool.or_eq_false_iff] at ht
        exact k3 t ht.1,k4⟩
      | ret=>exact⟨.ret,T1,M1,ρ1,rfl,k1,k2,fun t ht=>by
        simp only[cB,Nat.testBit_or,Bool.or_eq_false_iff] at ht
        exact k3 t ht.1,k4⟩
     ·unfold q9 at h
      refine wp_mono (ih c1 _ _ _ _ _ h M0 ρ0 w0 ρ a w hM hA) fun e a' w' hp=>?_
      obtain⟨x,T1,M1,ρ1,rfl,k1,k2,k3,k4⟩:=hp
      have hge:∀ t,nt≤t→aa ρ1 ((T.get t).getD .top) undef:=fun t ht=>by
       have h1:=k2.ge t ht
       by_cases hb:Nat.testBit (cB f c1) t=false
       ·rw[k3 t hb] at h1; exact h1
       ·have h0:=hA.ge t ht
        have hu:∀ (ρ ρ' : Ren) (x:AV),aa ρ x undef→aa ρ' x undef:=by
         intro ρ ρ' x hx
         unfold undef at hx ⊢
         cases hx with
         | top=>exact .top _
         | sc v p=>exact .sc _ p
         | tup xs vs a=>cases a; exact .tup _ _ .nil
        exact hu _ _ _ h0
      cases x with
      | normal =>
        refine wp_mono (ih c2 _ _ _ _ _ k4 M0 ρ0 w0 ρ1 a' w' k1 (qz k2 hge k3)) fun e a2 w2 hp=>?_
        obtain⟨x,T2,M2,ρ2,he,q1,q2,q3,q4⟩:=hp
        refine⟨x,T2,M2,ρ2,he,q1,q2,fun t ht=>?_,q4⟩
        simp only[cB,Nat.testBit_or,Bool.or_eq_false_iff] at ht
        rw[q3 t ht.2]
        refine uY (fun t' ht'=>?_) t ht.1
        have:=(kZ.1 ht').2
        rw[Nat.testBit_and,Bool.and_eq_true] at this
        exact this.1
      | exit i=>exact⟨.exit i,T1,M1,ρ1,rfl,k1,k2,fun t ht=>by
        simp only[cB,Nat.testBit_or,Bool.or_eq_false_iff] at ht
        exact k3 t ht.1,k4⟩
      | ret=>exact⟨.ret,T1,M1,ρ1,rfl,k1,k2,fun t ht=>by
        simp only[cB,Nat.testBit_or,Bool.or_eq_false_iff] at ht
        exact k3 t ht.1,k4⟩
   | cond cnd c1 c2 =>
     simp only[wpC] at h
     obtain⟨b,hb,h1,h2⟩:=EF h (xK hA cnd)
     cases b with
     | true =>
       refine wp_cond_true hb (wp_mono (ih c1 _ _ _ _ _ (h1 rfl) M0 ρ0 w0 ρ a w hM hA) fun e a' w' hp=>?_)
       obtain⟨x,T1,M1,ρ1,he,k1,k2,k3,k4⟩:=hp
       exact⟨x,T1,M1,ρ1,he,k1,k2,fun t ht=>by
         simp only[cB,Nat.testBit_or,Bool.or_eq_false_iff] at ht
         exact k3 t ht.1,k4⟩
     | false =>
       refine wp_cond_false hb (wp_mono (ih c2 _ _ _ _ _ (h2 rfl) M0 ρ0 w0 ρ a w hM hA) fun e a' w' hp=>?_)
       obtain⟨x,T1,M1,ρ1,he,k1,k2,k3,k4⟩:=hp
       exact⟨x,T1,M1,ρ1,he,k1,k2,fun t ht=>by
         simp only[cB,Nat.testBit_or,Bool.or_eq_false_iff] at ht
         exact k3 t ht.2,k4⟩
   | block id c1 =>
     simp only[wpC] at h
     refine wp_block (wp_mono (ih c1 _ _ _ _ _ h M0 ρ0 w0 ρ a w hM hA) fun e a' w' hp=>?_)
     obtain⟨x,T1,M1,ρ1,rfl,k1,k2,k3,k4⟩:=hp
     cases x with
     | normal=>exact⟨.normal,T1,M1,ρ1,rfl,k1,k2,k3,k4⟩
     | ret=>exact⟨.ret,T1,M1,ρ1,rfl,k1,k2,k3,k4⟩
     | exit i =>
       simp only at k4
       split at k4
       ·rename_i he
        have he:=bi he
        subst he
        simp only[FX,Exit.inBlock,if_true]
        exact⟨.normal,T1,M1,ρ1,rfl,k1,k2,k3,k4⟩
       ·rename_i he
        have he:=uD he
        simp only[FX,Exit.inBlock,if_neg he]
        exact⟨.exit i,T1,M1,ρ1,rfl,k1,k2,k3,k4⟩
   | loop c1 =>
     simp only[wpC] at h
     obtain⟨I,n,hI,hbody⟩:=h
     have hvs:∀ t∈bitsOf (cB f c1 &&& di ret f env c1 (di ret f env c1 0)) nt,Nat.testBit (cB f c1) t=true:=fun t' ht'=>by
      have:=(kZ.1 ht').2
      rw[Nat.testBit_and,Bool.and_eq_true] at this
      exact this.1
     generalize hv:bitsOf (cB f c1 &&& di ret f env c1 (di ret f env c1 0)) nt=vs at hI hbody hvs
     have hu:∀ (ρ ρ' : Ren) (x:AV),aa ρ x undef→aa ρ' x undef:=by
      intro ρ ρ' x hx
      unfold undef at hx ⊢
      cases hx with
      | top=>exact .top _
      | sc v p=>exact .sc _ p
      | tup xs vs a=>cases a; exact .tup _ _ .nil
     have hge:∀ (ρ1:Ren) t,nt≤t→aa ρ1 ((T.get t).getD .top) undef:=fun ρ1 t ht=>hu _ _ _ (hA.ge t ht)
     have key:∀ (m:Nat) (ys:List AV) (M1:RM) (ρ1:Ren) (a1:Act) (w1:World),I m ys M1→After P M0 ρ0 w0 M1 ρ1 w1→eD ρ1 nt (o5 T (bitsOf (cB f c1) nt) vs ys) a1 →
       Code.rounds P c1 (Dj P nt M0 ρ0 w0 T (cB (f + 1) (.loop c1)) K) (m + 1) a1 w1:=by
      intro m
      induction m using Nat.strongRecOn with
      | _ m ihm =>
        intro ys M1 ρ1 a1 w1 hIm hM1 hA1
        rw[rounds_succ]
        refine wp_mono (ih c1 _ _ _ _ _ (hbody m ys M1 hIm) M0 ρ0 w0 ρ1 a1 w1 hM1 hA1) fun e a' w' hp=>?_
        obtain⟨x,T2,M2,ρ2,rfl,k1,k2,k3,k4⟩:=hp
        have k3' : ∀ t,Nat.testBit (cB f c1) t=false→T2.get t=T.get t:=fun t ht=>by rw[k3 t ht]; exact uY hvs t ht
        cases x with
        | normal =>
          obtain⟨m',hlt,hI'⟩:=k4
          exact rM (by omega) (ihm m' hlt _ M2 ρ2 a' w' hI' k1 (qz k2 (hge ρ2) k3'))
        | exit i=>exact⟨.exit i,T2,M2,ρ2,rfl,k1,k2,k3',k4⟩
        | ret=>exact⟨.ret,T2,M2,ρ2,rfl,k1,k2,k3',k4⟩
     exact wp_loop_rounds _ (key n _ M ρ a w hI hM (qz hA (hge ρ) fun _ _=>rfl))
   | exit id=>exact wp_exit ⟨.exit id,T,M,ρ,rfl,hM,hA,fun _ _=>rfl,h⟩
   | ret=>exact wp_ret ⟨.ret,T,M,ρ,rfl,hM,hA,fun _ _=>rfl,h⟩
   | rangeFunc=>simp[wpC] at h
   | scope c1 =>
     simp only[wpC] at h
     refine wp_scope_straight (wp_mono (ih c1 _ _ _ _ _ h M0 ρ0 w0 ρ a w hM hA) fun e a' w' hp=>?_)
     obtain⟨x,T1,M1,ρ1,rfl,k1,k2,k3,k4⟩:=hp
     cases x with
     | normal=>exact⟨.normal,T1,M1,ρ1,rfl,k1,k2,k3,k4⟩
     | exit i=>exact⟨.exit i,T1,M1,ρ1,rfl,k1,k2,k3,k4⟩
     | ret=>exact⟨.ret,T1,M1,ρ1,rfl,k1,k2,k3,k4⟩
   | label l=>exact wp_label ⟨.normal,T,M,ρ,rfl,hM,hA,fun _ _=>rfl,h⟩
   | goto=>simp[wpC] at h
   | refuse=>simp[wpC] at h
theorem Dw {ρ:Ren} {T:Tree AV} {M:RM} {a:Act} {w:World} (hA:eD ρ nt T a) (hw:bg P ρ M w) {r:ResultVar} {K:AV→Prop} (h:FK P T M r K) :
  ∃ v v',(qQ a.tmps r).run P w=.ok v' w∧aa ρ v v'∧K v:=by
 cases r with
 | tmp t=>exact⟨_,_,rfl,hA.val t,h⟩
 | cell x t =>
   simp only[FK] at h
   have hv:=hA.val x
   split at h <;> first | (cases h; done) | skip
   ·rename_i ha
    obtain⟨b,p,v,hx,hl,hk⟩:=h
    rw[hx] at hv
    obtain⟨i,hb,hc⟩:=aX hv
    obtain⟨u,hu,hcell⟩:=kM hw hb hl
    refine⟨v,u, ?_,hu,hk⟩
    simp only[qQ,hc,asAddr,Sem.run_bind,Sem.run_pure,Result.andThen_ok,loadVar,dP ha,Bool.false_eq_true,if_false,load,Sem.run,hcell]
   ·rename_i ha
    split at h <;> first | (cases h; done) | skip
    rename_i n hs
    obtain⟨b,p,xs,hx,hl,hk⟩:=h
    rw[hx] at hv
    obtain⟨i,hb,hc⟩:=aX hv
    obtain⟨vs,hr,hlen,_,hrun⟩:=RM.gq (P:=P) hw hb hl
    exact⟨.agg xs,.agg ⟨vs⟩,by simp only[qQ,hc,asAddr,Sem.run_bind,Sem.run_pure,Result.andThen_ok,loadVar,dP ha,if_true,aV hs,hrun],.agg _ _ hr,hk⟩
theorem nR {ρ:Ren} {T:Tree AV} {M:RM} {a:Act} {w:World} (hA:eD ρ nt T a) (hw:bg P ρ M w) : ∀ (rs:List ResultVar) (K:List AV→Prop),FM P T M rs K →
  ∃ vs us,(rs.mapM (qQ a.tmps)).run P w=.ok us w∧av ρ vs us∧K vs
 | [],K,h=>⟨[],[],by simp,.nil,h⟩
 | r :: rs,K,h=>by
   obtain⟨v,v',h1,h2,h3⟩:=Dw hA hw h
   obtain⟨vs,us,h4,h5,h6⟩:=nR hA hw rs _ h3
   refine⟨v :: vs,v' :: us, ?_,.cons _ _ _ _ h2 h5,h6⟩
   simp only[List.mapM_cons,Sem.run_bind,h1,Result.andThen_ok,h4,Sem.run_pure]
theorem vS (hP:uw P) {f:FuncId} {fn:Func} {c:Code} {args:List AV} {M:RM} {Q:af} (hfn:P.funcs[f]?=some fn) (hbody:fn.body=some c) (h:EL P fn c args M Q) : dh P f args M Q:=by
 refine⟨⟨fn,c,hfn,hbody⟩,fun ρ w us hargs hw=>?_⟩
 have hlen:=hargs.length
 have hA:eD ρ (args.length + (fn.ntmps - args.length)) (Tree.ofList args 0 .leaf) { tmps:=⟨us⟩++Array.replicate (fn.ntmps - (⟨us⟩ : Array Value).size) undef,defers:=[] } := by
  refine⟨by simp[hlen],fun t=>?_,rfl⟩
  rw[Tree.lg]
  by_cases ht:t<args.length
  ·rw[if_pos (by omega),Nat.sub_zero]
   obtain⟨u,hu,hv⟩:=hargs.get (n:=t) (x:=args[t]) (by simp[ht])
   rw[List.getElem?_eq_getElem ht]
   simp only[Option.getD_some]
   have:((⟨us⟩ : Array Value)++Array.replicate (fn.ntmps - (⟨us⟩ : Array Value).size) undef).getD t undef=u:=by
    rw[Array.getD_eq_getD_getElem?,Array.getElem?_append_left (by simp; omega)]
    simp[hu]
   rw[this]; exact hv
  ·rw[if_neg (by omega)]
   exact .top _
 refine calls_of_wp hfn hbody (wp_mono (Em hP 1000 c [] 0 _ M _ h M ρ w ρ _ w (After.refl hw) hA) fun e a w' hp=>?_)
 obtain⟨x,T',M',ρ',rfl,k1,k2,k3,k4⟩:=hp
 have key:(∃ vs us,(fn.results.toList.mapM (qQ a.tmps)).run P w'=.ok us w'∧av ρ' vs us∧Hg Q M' vs) →
   a.defers=[]∧∃ v,(results fn a.tmps).run P w'=.ok v w'∧∃ v' v_1 G6 G5,Ending.returned v=.returned v'∧After P M ρ w G6 G5 w'∧aa G5 v_1 v'∧Q v_1 G6:=by
  rintro⟨vs,us,h1,h2,h3⟩
  have hres:(results fn a.tmps).run P w'=.ok (if h:(⟨us⟩ : Array Value).size=1 then(⟨us⟩ : Array Value)[0] else .tuple ⟨us⟩) w':=by
   have e:results fn a.tmps=(fn.results.mapM (qQ a.tmps) >>= fun vs=>pure (if h:vs.size=1 then vs[0] else .tuple vs)):=rfl
   rw[e,Array.mapM_eq_mapM_toList]
   simp only[Sem.run_bind,Sem.run_map,h1,Result.andThen_ok,Sem.run_pure]
  refine⟨k2.defers,_,hres, ?_⟩
  cases h2 with
  | nil=>exact⟨_,_,M',ρ',rfl,k1,.tup _ _ .nil,h3⟩
  | cons x v xs vs2 hv htl =>
    cases htl with
    | nil=>exact⟨_,x,M',ρ',rfl,k1,hv,h3⟩
    | cons y u ys us2 hu JY=>exact⟨_,_,M',ρ',rfl,k1,.tup _ _ (.cons _ _ _ _ hv (.cons _ _ _ _ hu JY)),h3⟩
 cases x with
 | normal=>exact key (nR k2 k1.rel _ _ k4)
 | ret=>exact key (nR k2 k1.rel _ _ k4)
 | exit id=>exact k4.elim
abbrev ax:=List AV→RM→af→Prop
def wC (P:Program) (fn:Func) (args:List AV) (M:RM) (Q:af) : Prop :=
 match fn.body with
 | some c=>EL P fn c args M Q
 | none=>False
theorem Eb (hP:uw P) {f:FuncId} {fn:Func} {args:List AV} {M:RM} {Q:af} (hfn:P.funcs[f]?=some fn) (h:wC P fn args M Q) : dh P f args M Q:=by
 unfold wC at h
 split at h
 ·rename_i c hc; exact vS hP hfn hc h
 ·cases h
end
def RM.cell (M:RM) (b o:Nat) : Option AV:=(M.cells b).bind (·[o]?)
section
variable {M M' : RM} {K:AV→Prop} {KQ:af}
theorem uC {b o:Nat} {v:AV} : M.loads b o 1=some [v]↔M.cell b o=some v:=by
 unfold RM.loads RM.cell
 cases hc:M.cells b with
 | none=>simp
 | some l =>
   simp only[Option.bind_some]
   constructor
   ·intro h
    split at h
    ·rename_i hlt
     have h1:=Option.some.inj h
     have:((l.drop o).take 1)[0]?=some v:=by rw[h1]; rfl
     rw[List.getElem?_take,if_pos (by omega),List.getElem?_drop] at this
     simpa using this
    ·cases h
   ·intro h
    have hlt:=(List.getElem?_eq_some_iff.1 h).1
    rw[if_pos (by omega)]
    congr 1
    rw[List.drop_eq_getElem_cons hlt]
    simp only[List.take_succ_cons,List.take_zero]
    congr 1
    exact(List.getElem?_eq_some_iff.1 h).2
@[go_sem] theorem eX (b o:Nat) : aD M (.ptr b o) K=∃ v,M.cell b o=some v∧K v:=by
 apply propext; unfold aD
 constructor
 ·rintro⟨b',o',v,h,hl,hk⟩; cases h; exact⟨v,uC.1 hl,hk⟩
 ·rintro⟨v,hl,hk⟩; exact⟨b,o,v,rfl,uC.2 hl,hk⟩
@[go_sem] theorem wZ (b o n:Nat) : kg M (.ptr b o) n K=∃ vs,M.loads b o n=some vs∧K (.agg vs):=by
 apply propext; unfold kg
 constructor
 ·rintro⟨b',o',v,h,hl,hk⟩; cases h; exact⟨v,hl,hk⟩
 ·rintro⟨v,hl,hk⟩; exact⟨b,o,v,rfl,hl,hk⟩
@[go_sem] theorem uH (b p:Nat) (x:AV) (n:Nat) (K:RM→Prop) : cz M (.ptr b p) x n K=(x.cells.length=n∧∃ M',M.stores b p x.cells=some M'∧K M'):=by
 apply propext; unfold cz
 constructor
 ·rintro⟨b',o',M',h,h1,h2,hk⟩; cases h; exact⟨h1,M',h2,hk⟩
 ·rintro⟨h1,M',h2,hk⟩; exact⟨b,p,M',rfl,h1,h2,hk⟩
def Fp (k:IntKind) (a b:Int) : Int:=k.wrap (BitVec.ofInt k.bits a &&& BitVec.ofInt k.bits b).toNat
def KH (k:IntKind) (a b:Int) : Int:=k.wrap (BitVec.ofInt k.bits a ||| BitVec.ofInt k.bits b).toNat
def J7 (k:IntKind) (a b:Int) : Int:=k.wrap (BitVec.ofInt k.bits a ^^^ BitVec.ofInt k.bits b).toNat
def GU (k:IntKind) (a b:Int) : Int:=k.wrap (BitVec.ofInt k.bits a &&& ~~~BitVec.ofInt k.bits b).toNat
def Ke (k:IntKind) (a b:Int) : Int:=k.wrap (a * 2 ^ (min b.toNat k.bits))
def Jz (k:IntKind) (a b:Int) : Int:=a.fdiv (2 ^ (min b.toNat k.bits))
section
variable (k:IntKind) (a b:Int)
theorem cK {op:BinOp} {v:Value} (h:mi op k a b=some v) : aI op (N k a) (N k b) K=K (.sc v):=by
 apply propext; unfold aI
 constructor
 ·rintro⟨k',a',b',u,h1,h2,h3,hk⟩; cases h1; cases h2; rw[h] at h3; cases h3; exact hk
 ·intro hk; exact⟨k,a,b,v,rfl,rfl,h,hk⟩
@[go_sem] theorem zD:aI .add (N k a) (N k b) K=K (N k (k.wrap (a + b))):=cK k a b rfl
@[go_sem] theorem sG:aI .sub (N k a) (N k b) K=K (N k (k.wrap (a - b))):=cK k a b rfl
@[go_sem] theorem JC:aI .mul (N k a) (N k b) K=K (N k (k.wrap (a * b))):=cK k a b rfl
@[go_sem] theorem FR:aI .and (N k a) (N k b) K=K (N k (Fp k a b)):=cK k a b rfl
@[go_sem] theorem Kt:aI .or (N k a) (N k b) K=K (N k (KH k a b)):=cK k a b rfl
@[go_sem] theorem JL:aI .xor (N k a) (N k b) K=K (N k (J7 k a b)):=cK k a b rfl
@[go_sem] theorem Ih:aI .andNot (N k a) (N k b) K=K (N k (GU k a b)):=cK k a b rfl
@[go_sem] theorem bE:aI .eql (N k a) (N k b) K=K (Bo (a == b)):=cK k a b rfl
@[go_sem] theorem Fe:aI .neq (N k a) (N k b) K=K (Bo (a != b)):=cK k a b rfl
@[go_sem] theorem tQ:aI .lss (N k a) (N k b) K=K (Bo (decide (a<b))):=cK k a b rfl
@[go_sem] theorem F5:aI .leq (N k a) (N k b) K=K (Bo (decide (a≤b))):=cK k a b rfl
@[go_sem] theorem rV:aI .gtr (N k a) (N k b) K=K (Bo (decide (a > b))):=cK k a b rfl
@[go_sem] theorem Ff:aI .geq (N k a) (N k b) K=K (Bo (decide (a ≥ b))):=cK k a b rfl
@[go_sem] theorem Jq:aI .quo (N k a) (N k b) K=(b≠0∧K (N k (k.wrap (a.tdiv b)))):=by
 apply propext; unfold aI mi
 constructor
 ·rintro⟨k',a',b',u,h1,h2,h3,hk⟩; cases h1; cases h2
  simp only at h3
  split at h3
  ·cases h3
  ·cases h3; exact⟨‹_›,hk⟩
 ·rintro⟨h0,hk⟩; exact⟨k,a,b,_,rfl,rfl,by simp only[if_neg h0],hk⟩
@[go_sem] theorem FE:aI .rem (N k a) (N k b) K=(b≠0∧K (N k (a.tmod b))):=by
 apply propext; unfold aI mi
 constructor
 ·rintro⟨k',a',b',u,h1,h2,h3,hk⟩; cases h1; cases h2
  simp only at h3
  split at h3
  ·cases h3
  ·cases h3; exact⟨‹_›,hk⟩
 ·rintro⟨h0,hk⟩; exact⟨k,a,b,_,rfl,rfl,by simp only[if_neg h0],hk⟩
variable (l:IntKind)
@[go_sem] theorem Km:EP .shl (N k a) (N l b) K=(0≤b∧K (N k (Ke k a b))):=by
 apply propext; unfold EP vC
 constructor
 ·rintro⟨k',a',l',b',u,h1,h2,h3,hk⟩; cases h1; cases h2
  split at h3
  ·cases h3
  ·cases h3; exact⟨by omega,hk⟩
 ·rintro⟨h0,hk⟩; exact⟨k,a,l,b,_,rfl,rfl,by rw[if_neg (by omega)]; rfl,hk⟩
@[go_sem] theorem Kr:EP .shr (N k a) (N l b) K=(0≤b∧K (N k (Jz k a b))):=by
 apply propext; unfold EP vC
 constructor
 ·rintro⟨k',a',l',b',u,h1,h2,h3,hk⟩; cases h1; cases h2
  split at h3
  ·cases h3
  ·cases h3; exact⟨by omega,hk⟩
 ·rintro⟨h0,hk⟩; exact⟨k,a,l,b,_,rfl,rfl,by rw[if_neg (by omega)]; rfl,hk⟩
@[go_sem] theorem Ku {l:IntKind} {a:Int} {K:AV→Prop} : CV (N l a) K=K (St (Utf8.encode a).data.toList):=by
 apply propext; unfold CV
 constructor
 ·rintro⟨l',n,h,hk⟩; cases h; exact hk
 ·intro h; exact⟨_,_,rfl,h⟩
@[go_sem] theorem KC:Gf k (N l a) K=K (N k (k.wrap a)):=by
 apply propext; unfold Gf
 constructor
 ·rintro⟨l',n,h,hk⟩; cases h; exact hk
 ·intro hk; exact⟨l,a,rfl,hk⟩
@[go_sem] theorem Ho (mx:Bool) : yQ mx (N k a) (N k b) K=K (N k (if mx then(if b > a then b else a) else(if b<a then b else a))):=by
 apply propext; unfold yQ
 constructor
 ·rintro⟨k',a',b',h1,h2,hk⟩; cases h1; cases h2; exact hk
 ·intro hk; exact⟨k,a,b,rfl,rfl,hk⟩
@[go_sem] theorem KF:F6 (N k a) K=K (N k (k.wrap (0 - a))):=by
 apply propext; unfold F6
 constructor
 ·rintro⟨k',a',h1,hk⟩; cases h1; exact hk
 ·intro hk; exact⟨k,a,rfl,hk⟩
end
@[go_sem] theorem vE (b:Bool) : wE (Bo b) K=K (Bo (!b)):=by
 apply propext; unfold wE
 constructor
 ·rintro⟨b',h,hk⟩; cases h; exact hk
 ·intro hk; exact⟨b,rfl,hk⟩
@[go_sem] theorem Ip (neg a b:Bool) : qJ neg (Bo a) (Bo b) K=K (Bo ((a == b) != neg)):=by
 apply propext; unfold qJ
 constructor
 ·rintro⟨a',b',h,h',hk⟩; cases h; cases h'; exact hk
 ·intro hk; exact⟨a,b,rfl,rfl,hk⟩
@[go_sem] theorem AO (t:Bool) (a b:AV) : bQ (Bo t) a b K=K (if t then a else b):=by
 apply propext; unfold bQ
 constructor
 ·rintro⟨t',h,hk⟩; cases h; exact hk
 ·intro hk; exact⟨t,rfl,hk⟩
@[go_sem] theorem Az (b:Bool) (p q:Prop) : bB (Bo b) p q=((b=true→p)∧(b=false→q)):=rfl
@[go_sem] theorem Jm {α:Type} (b want:Bool) (f g:α→Prop) (k:α) : ji (Bo b) want f g k=if b=want then f k else g k:=rfl
@[go_sem] theorem Ht {α:Type} (want:Bool) (f g:α→Prop) (k:α) : ji .undef want f g k=g k:=rfl
@[go_sem] theorem au (b o:Nat) : bf (.ptr b o) K=K (.ptr b o):=by
 apply propext; unfold bf
 constructor
 ·rintro⟨b',o',h,hk⟩; cases h; exact hk
 ·intro hk; exact⟨b,o,rfl,hk⟩
@[go_sem] theorem ah (b o n:Nat) : aJ (.ptr b o) n K=K (.ptr b (o + n)):=by
 apply propext; unfold aJ
 constructor
 ·rintro⟨b',o',h,hk⟩; cases h; exact hk
 ·intro hk; exact⟨b,o,rfl,hk⟩
@[go_sem] theorem yZ (b p len:Nat) (cap:Cap) (k:IntKind) (n:Int) (size:Nat) : dW (.slc b p len cap) (N k n) size K=(0≤n∧n<len∧K (.ptr b (p + n.toNat * size))):=by
 apply propext; unfold dW
 constructor
 ·rintro⟨b',p',l',c',k',n',h,h',h0,h1,hk⟩; cases h; cases h'; exact⟨h0,h1,hk⟩
 ·rintro⟨h0,h1,hk⟩; exact⟨b,p,len,cap,k,n,rfl,rfl,h0,h1,hk⟩
@[go_sem] theorem Ka (b p:Nat) (k:IntKind) (n:Int) (len size:Nat) : F9 (.ptr b p) (N k n) len size K=(0≤n∧n<len∧K (.ptr b (p + n.toNat * size))):=by
 apply propext; unfold F9
 constructor
 ·rintro⟨b',p',k',n',h,h',h0,h1,hk⟩; cases h; cases h'; exact⟨h0,h1,hk⟩
 ·rintro⟨h0,h1,hk⟩; exact⟨b,p,k,n,rfl,rfl,h0,h1,hk⟩
@[go_sem] theorem I7 (cs:List AV) (off:Nat) : DK (.agg cs) off K=∃ v,cs[off]?=some v∧K v:=by
 apply propext; unfold DK
 constructor
 ·rintro⟨cs',v,h,h1,hk⟩; cases h; exact⟨v,h1,hk⟩
 ·rintro⟨v,h1,hk⟩; exact⟨cs,v,rfl,h1,hk⟩
@[go_sem] theorem Jj (cs:List AV) (off n:Nat) : C9 (.agg cs) off n K=(off + n≤cs.length∧K (.agg ((cs.drop off).take n))):=by
 apply propext; unfold C9
 constructor
 ·rintro⟨cs',h,h1,hk⟩; cases h; exact⟨h1,hk⟩
 ·rintro⟨h1,hk⟩; exact⟨cs,rfl,h1,hk⟩
@[go_sem] theorem Jh (cs:List AV) (k:IntKind) (n:Int) (len:Nat) : Di (.agg cs) (N k n) len K=(0≤n∧n<len∧∃ v,cs[n.toNat]?=some v∧K v):=by
 apply propext; unfold Di
 constructor
 ·rintro⟨cs',k',n',v,h,h',h0,h1,h2,hk⟩; cases h; cases h'; exact⟨h0,h1,v,h2,hk⟩
 ·rintro⟨h0,h1,v,h2,hk⟩; exact⟨cs,k,n,v,rfl,rfl,h0,h1,h2,hk⟩
@[go_sem] theorem I6 (cs:List AV) (k:IntKind) (n:Int) (len size:Nat) : CB (.agg cs) (N k n) len size K=(0≤n∧n<len∧n.toNat * size + size≤cs.length∧K (.agg ((cs.drop (n.toNat * size)).take size))):=by
 apply propext; unfold CB
 constructor
 ·rintro⟨cs',k',n',h,h',h0,h1,h2,hk⟩; cases h; cases h'; exact⟨h0,h1,h2,hk⟩
 ·rintro⟨h0,h1,h2,hk⟩; exact⟨cs,k,n,rfl,rfl,h0,h1,h2,hk⟩
@[go_sem] theorem Ko (s:List UInt8) (k:IntKind) (n:Int) : Ga (St s) (N k n) K=(0≤n∧∃ b,s[n.toNat]?=some b∧K (N .u8 b.toNat)):=by
 apply propext; unfold Ga
 constructor
 ·rintro⟨s',k',n',b,h,h',h0,h1,hk⟩; cases h; cases h'; exact⟨h0,b,h1,hk⟩
 ·rintro⟨h0,b,h1,hk⟩; exact⟨s,k,n,b,rfl,rfl,h0,h1,hk⟩
@[go_sem] theorem zN (vs:List AV) (i:Nat) : ik (.tup vs) i K=∃ v,vs[i]?=some v∧K v:=by
 apply propext; unfold ik
 constructor
 ·rintro⟨cs',v,h,h1,hk⟩; cases h; exact⟨v,h1,hk⟩
 ·rintro⟨v,h1,hk⟩; exact⟨vs,v,rfl,h1,hk⟩
@[go_sem] theorem xA (v:AV) : tJ (some v) K=K v:=by
 apply propext; unfold tJ
 constructor
 ·rintro⟨v',h,hk⟩; cases h; exact hk
 ·intro hk; exact⟨v,rfl,hk⟩
@[go_sem] theorem FO (b o n:Nat) (c:Cap) : eO (.slc b o n c) K=K (N .i64 n):=by
 apply propext; unfold eO
 constructor
 ·rintro⟨n',h,hk⟩; cases h; exact hk
 ·intro hk; exact⟨n,rfl,hk⟩
@[go_sem] theorem Fq (b:Nat) : eO (.emp b) K=K (N .i64 0):=by
 apply propext; unfold eO
 constructor
 ·rintro⟨n',h,hk⟩; cases h; exact hk
 ·intro hk; exact⟨0,rfl,hk⟩
@[go_sem] theorem FT:eO (.sc (.slice none 0 0)) K=K (N .i64 0):=by
 apply propext; unfold eO
 constructor
 ·rintro⟨n',h,hk⟩; cases h; exact hk
 ·intro hk; exact⟨0,rfl,hk⟩
@[go_sem] theorem xH (s:List UInt8) : qp (St s) K=K (N .i64 s.length):=by
 apply propext; unfold qp
 constructor
 ·rintro⟨s',h,hk⟩; cases h; exact hk
 ·intro hk; exact⟨s,rfl,hk⟩
@[go_sem] theorem Kl (b o n c:Nat) : Ay (.slc b o n (.ex c)) K=K (N .i64 c):=by
 apply propext; unfold Ay
 constructor
 ·rintro⟨n',h,hk⟩; cases h; exact hk
 ·intro hk; exact⟨c,rfl,hk⟩
@[go_sem] theorem J5:Ay (.sc (.slice none 0 0)) K=K (N .i64 0):=by
 apply propext; unfold Ay
 constructor
 ·rintro⟨n',h,hk⟩; cases h; exact hk
 ·intro hk; exact⟨0,rfl,hk⟩
@[go_sem] theorem JW (s:List UInt8) : isStr (St s) K=K (St s):=by
 apply propext; unfold isStr
 constructor
 ·rintro⟨s',h,hk⟩; cases h; exact hk
 ·intro hk; exact⟨s,rfl,hk⟩
@[go_sem] theorem Bz {x:AV} {s:List UInt8} (h:oq M x=some s) : nH M x K=K (St s):=by
 apply propext; unfold nH
 constructor
 ·rintro⟨s',h',hk⟩; rw[h] at h'; cases h'; exact hk
 ·intro hk; exact⟨s,h,hk⟩
theorem jb {op:BinOp} {a b:List UInt8} {v:AV} (h:oG op a b=some v) : fQ op (St a) (St b) K=K v:=by
 apply propext; unfold fQ
 constructor
 ·rintro⟨a',b',u,h1,h2,h3,hk⟩; cases h1; cases h2; rw[h] at h3; cases h3; exact hk
 ·intro hk; exact⟨a,b,v,rfl,rfl,h,hk⟩
@[go_sem] theorem sP (a b:List UInt8) : fQ .eql (St a) (St b) K=K (Bo (a == b)):=by rw[← dN]; exact jb rfl
@[go_sem] theorem Ki (a b:List UInt8) : fQ .neq (St a) (St b) K=K (Bo (a != b)):=by rw[bne,← dN]; exact jb rfl
@[go_sem] theorem Jo (a b:List UInt8) : fQ .lss (St a) (St b) K=K (Bo (Op.bytesLess a b)):=jb rfl
@[go_sem] theorem JM (a b:List UInt8) : fQ .leq (St a) (St b) K=K (Bo (Op.bytesLess a b || a == b)):=by rw[← dN]; exact jb rfl
@[go_sem] theorem Jr (a b:List UInt8) : fQ .gtr (St a) (St b) K=K (Bo (!(Op.bytesLess a b || a == b))):=by rw[← dN]; exact jb rfl
@[go_sem] theorem Kk (a b:List UInt8) : fQ .geq (St a) (St b) K=K (Bo (!Op.bytesLess a b)):=jb rfl
@[go_sem] theorem oo (a b:List UInt8) : fQ .add (St a) (St b) K=(a.length + b.length≤9223372036854775807∧K (St (a++b))):=by
 apply propext; unfold fQ
 constructor
 ·rintro⟨a',b',u,h1,h2,h3,hk⟩; cases h1; cases h2
  simp only[oG] at h3
  split at h3
  ·rename_i hb; cases h3; exact⟨aC hb,hk⟩
  ·cases h3
 ·rintro⟨h0,hk⟩; exact⟨a,b,_,rfl,rfl,by simp only[oG,ay.2 h0],hk⟩
theorem fF {neg:Bool} {tag:Nat} {x y:AV} {r:Bool} (ht:yK x=tag) (h:qO x y=some r) : bP neg tag x y K=K (Bo (r != neg)):=by
 apply propext; unfold bP
 constructor
 ·rintro⟨_,r',h',hk⟩; rw[h] at h'; cases h'; exact hk
 ·intro hk; exact⟨ht,r,h,hk⟩
@[go_sem] theorem vQ (neg:Bool) : bP neg 2 (.sc (.slice none 0 0)) (.sc (.slice none 0 0)) K=K (Bo (!neg)):=(fF (tag:=2) (r:=true) rfl rfl).trans (by cases neg <;> rfl)
@[go_sem] theorem vF (neg:Bool) (b:Nat) : bP neg 2 (.emp b) (.sc (.slice none 0 0)) K=K (Bo neg):=(fF (tag:=2) (r:=false) rfl rfl).trans (by cases neg <;> rfl)
@[go_sem] theorem vP (neg:Bool) (b o n:Nat) (c:Cap) : bP neg 2 (.slc b o n c) (.sc (.slice none 0 0)) K=K (Bo neg):=(fF (tag:=2) (r:=false) rfl rfl).trans (by cases neg <;> rfl)
@[go_sem] theorem bT (neg:Bool) (b o:Nat) : bP neg 1 (.ptr b o) (.sc (.pointer none)) K=K (Bo neg):=(fF (tag:=1) (r:=false) rfl rfl).trans (by cases neg <;> rfl)
@[go_sem] theorem bX (neg:Bool) : bP neg 1 (.sc (.pointer none)) (.sc (.pointer none)) K=K (Bo (!neg)):=(fF (tag:=1) (r:=true) rfl rfl).trans (by cases neg <;> rfl)
@[go_sem] theorem wI (neg:Bool) (b:Nat) : bP neg 3 (.map b) (.sc (.map none)) K=K (Bo neg):=(fF (tag:=3) (r:=false) rfl rfl).trans (by cases neg <;> rfl)
@[go_sem] theorem GY (neg:Bool) (f:Fn) (xs ys:List AV) : bP neg 4 (.fn f xs ys) (.sc .nilFunc) K=K (Bo neg):=(fF (tag:=4) (r:=false) rfl rfl).trans (by cases neg <;> rfl)
@[go_sem] theorem IQ (neg:Bool) (ks:List Nat) (cs ds:List AV) : qa neg ks (.agg cs) (.agg ds) K=(cs.length=ks.length∧ds.length=ks.length∧∃ r,bA ks cs ds=some r∧K (Bo (r != neg))):=by
 apply propext; unfold qa
 constructor
 ·rintro⟨a',b',r,h1,h2,h3,h4,h5,hk⟩; cases h1; cases h2; exact⟨h3,h4,r,h5,hk⟩
 ·rintro⟨h3,h4,r,h5,hk⟩; exact⟨cs,ds,r,rfl,rfl,h3,h4,h5,hk⟩
@[go_sem] theorem Ju (C:FuncId→ax) (g:FuncId) (first cap args:List AV) : Dc C (.fn (.func g) first cap) args M KQ=C g (first++args++cap) M KQ:=by
 apply propext; unfold Dc
 constructor
 ·rintro⟨g',f',c',h,hk⟩; cases h; exact hk
 ·intro hk; exact⟨g,first,cap,rfl,hk⟩
@[go_sem] theorem iY (cs:List AV) (parts:List (Nat × Nat × AV)) : jq cs parts K=∃ cs',uA cs parts=some cs'∧K (.agg cs'):=rfl
@[go_sem] theorem dD (x:RB) (mk:Nat→AV) : fZ x mk M KQ=KQ (mk M.next) (M.push x):=rfl
@[go_sem] theorem BH (x:RB) (mk:Nat→AV) (k:KR) : DD x mk M k=k (mk M.next) (M.push x) (some M.next):=rfl
@[go_sem] theorem JI (f:(List AV→RM→Prop)→Prop) (g:List AV→RM→Prop) : q9 f g=f g:=rfl
@[go_sem] theorem Jk (x:AV) (xs:List AV) : bG (x :: xs) 0=x:=rfl
@[go_sem] theorem Jc (x:AV) (xs:List AV) (n:Nat) : bG (x :: xs) (n + 1)=bG xs n:=rfl
@[go_sem] theorem I4 (b:Nat) (x:RB) (mk:Nat→AV) (v:AV) : DL (some b) M x mk v=(M.heap b=some x∧mk b=v):=rfl
end
section
variable {M M' : RM}
theorem RM.mP {b:Nat} {l:List AV} {opn:Bool} {el fz:Nat} (h:M.heap b=some (.row l opn el fz)) : M.cells b=some l:=by simp[RM.cells,h]
theorem RM.FC {b o:Nat} {l:List AV} {opn:Bool} {el fz:Nat} (h:M.heap b=some (.row l opn el fz)) : M.cell b o=l[o]?:=by simp[RM.cell,RM.mP h]
theorem RM.iC {b o k:Nat} {l:List AV} {opn:Bool} {el fz:Nat} (h:M.heap b=some (.row l opn el fz)) (hk:o + k≤l.length) : M.loads b o k=some ((l.drop o).take k):=by
 simp[RM.loads,RM.mP h,hk]
structure ae (bs:List Nat) (M M' : RM) : Prop where
 base:M'.base=M.base
 next:M.next≤M'.next
 heap:∀ c,c<M.next→c ∉ bs→M'.heap c=M.heap c
theorem ae.refl (bs:List Nat) (M:RM) : ae bs M M:=⟨rfl,Nat.le_refl _,fun _ _ _=>rfl⟩
theorem ae.trans {bs:List Nat} {M1 M2:RM} (h:ae bs M M1) (k:ae bs M1 M2) : ae bs M M2 :=
 ⟨k.base.trans h.base,Nat.le_trans h.next k.next,fun c hc hb=>(k.heap c (Nat.lt_of_lt_of_le hc h.next) hb).trans (h.heap c hc hb)⟩
theorem ae.push {bs:List Nat} (h:ae bs M M') (x:RB) : ae bs M (M'.push x) :=
 ⟨h.base,Nat.le_succ_of_le h.next,fun c hc hb=>by
  have:=h.next
  simp only[RM.push]; rw[if_neg (by omega)]; exact h.heap c hc hb⟩
theorem ae.put {bs:List Nat} (h:ae bs M M') {b:Nat} (x:RB) (hb:M.next≤b∨b∈bs) : ae bs M (M'.put b x) :=
 ⟨h.base,h.next,fun c hc hcb=>by
  simp only[RM.put]; rw[if_neg]
  ·exact h.heap c hc hcb
  ·rintro rfl; rcases hb with hb | hb
   ·omega
   ·exact hcb hb⟩
theorem ae.del {bs:List Nat} (h:ae bs M M') {b:Nat} (hb:M.next≤b∨b∈bs) : ae bs M (M'.del b) :=
 ⟨h.base,h.next,fun c hc hcb=>by
  simp only[RM.del]; rw[if_neg]
  ·exact h.heap c hc hcb
  ·rintro rfl; rcases hb with hb | hb
   ·omega
   ·exact hcb hb⟩
theorem ae.mono {bs cs:List Nat} (h:ae bs M M') (hs:∀ b∈bs,b∈cs) : ae cs M M':=⟨h.base,h.next,fun c hc hb=>h.heap c hc fun h=>hb (hs c h)⟩
theorem ae.sD {bs:List Nat} {M1 M2:RM} {cs:List Nat} (h:ae bs M M1) (k:ae cs M1 M2) (hn:∀ c∈cs,M.next≤c∨c∈bs) : ae bs M M2 :=
 ⟨k.base.trans h.base,Nat.le_trans h.next k.next,fun c hc hb=>by
  rw[k.heap c (Nat.lt_of_lt_of_le hc h.next) (fun hm=>by rcases hn c hm with h1 | h1; omega; exact hb h1),h.heap c hc hb]⟩
theorem ae.cells {bs:List Nat} (h:ae bs M M') {b:Nat} (hlt:b<M.next) (hb:b ∉ bs) : M'.cells b=M.cells b:=by
 simp only[RM.cells,h.heap b hlt hb,RM.lo,h.base]
theorem ae.cell {bs:List Nat} (h:ae bs M M') {b o:Nat} (hlt:b<M.next) (hb:b ∉ bs) : M'.cell b o=M.cell b o:=by
 simp only[RM.cell,h.cells hlt hb]
theorem ae.loads {bs:List Nat} (h:ae bs M M') {b o k:Nat} (hlt:b<M.next) (hb:b ∉ bs) : M'.loads b o k=M.loads b o k:=by
 simp only[RM.loads,h.cells hlt hb]
@[go_sem] theorem RM.Ji (x:RB) : (M.push x).next=M.next + 1:=rfl
@[go_sem] theorem RM.JG (b:Nat) (x:RB) : (M.put b x).next=M.next:=rfl
@[go_sem] theorem RM.J6 (b:Nat) : (M.del b).next=M.next:=rfl
@[go_sem] theorem RM.bz (x:RB) : (M.push x).heap M.next=some x:=by simp[RM.push]
theorem RM.Fx {x:RB} {c:Nat} (h:c≠M.next) : (M.push x).heap c=M.heap c:=by simp[RM.push,h]
@[go_sem] theorem RM.Ac (b:Nat) (x:RB) : (M.put b x).heap b=some x:=by simp[RM.put]
end
abbrev bR:AV:=.sc (.slice none 0 0)
inductive aT (M:RM) (size:Nat) : AV→List AV→Nat→Prop
 | nil:aT M size bR [] 0
 | emp (b:Nat) : aT M size (.emp b) [] 0
 | slc (b o n:Nat) (cap:Cap) (cs:List AV) : b<M.next→M.loads b o (n * size)=some cs→aT M size (.slc b o n cap) cs n
section
variable {M M' : RM} {size:Nat} {v:AV} {cs:List AV} {n:Nat}
theorem xN {b o k:Nat} {cs:List AV} (h:M.loads b o k=some cs) : cs.length=k:=by
 unfold RM.loads at h
 split at h <;> first | (cases h; done) | skip
 split at h <;> first | (cases h; done) | skip
 rename_i hle
 have:=Option.some.inj h
 rw[← this,List.length_take,List.length_drop]; omega
theorem D6 {b o k:Nat} {cs:List AV} (h:M.loads b o k=some cs) (i:Nat) (hi:i<k) : M.cell b (o + i)=cs[i]?:=by
 unfold RM.loads at h
 unfold RM.cell
 split at h <;> first | (cases h; done) | skip
 rename_i l hl
 split at h <;> first | (cases h; done) | skip
 cases h
 simp only[hl,Option.bind_some]
 rw[List.getElem?_take,if_pos hi,List.getElem?_drop]
theorem qC {b o k:Nat} {cs:List AV} (h:M.loads b o k=some cs) (i j:Nat) (hij:i + j≤k) : M.loads b (o + i) j=some ((cs.drop i).take j):=by
 unfold RM.loads at h ⊢
 cases hl:M.cells b with
 | none=>rw[hl] at h; cases h
 | some l =>
   rw[hl] at h
   simp only at h ⊢
   split at h
   ·rename_i hle
    have h:=Option.some.inj h
    subst h
    rw[if_pos (by omega),List.drop_take,List.drop_drop,List.take_take]
    congr 2
    omega
   ·cases h
theorem lG {b o:Nat} {l:List AV} (h:M.cells b=some l) (ho:o≤l.length) : M.loads b o 0=some []:=by
 simp[RM.loads,h,ho]
theorem aT.length (h:aT M size v cs n) : cs.length=n * size:=by
 cases h with
 | nil=>exact(Nat.zero_mul _).symm
 | emp=>exact(Nat.zero_mul _).symm
 | slc b o n cap cs hb0 hl=>exact xN hl
theorem aT.len (h:aT M size v cs n) {K:AV→Prop} : eO v K=K (N .i64 n):=by
 cases h with
 | nil=>exact FT
 | emp b=>exact Fq b
 | slc b o n cap cs hb0 hl=>exact FO b o n cap
theorem aT.kQ (h:aT M size v cs n) (zs:List AV) : kQ M size zs false v=some (n,cs):=by
 cases h with
 | nil=>rfl
 | emp b=>rfl
 | slc b o n cap cs hb0 hl=>simp only[Go.Ab.kQ,hl]
theorem aT.pos (h:aT M size v cs n) (hn:0<n) : ∃ b o cap,v=.slc b o n cap∧b<M.next∧M.loads b o (n * size)=some cs:=by
 cases h with
 | nil=>omega
 | emp b=>omega
 | slc b o n cap cs hb0 hl=>exact⟨b,o,cap,rfl,hb0,hl⟩
theorem aT.oq (h:aT M 1 v cs n) {l:List UInt8} (hb:bC byteOf cs=some l) : oq M v=some l:=by
 cases h with
 | nil=>simp[bC] at hb; subst hb; rfl
 | emp b=>simp[bC] at hb; subst hb; rfl
 | slc b o n cap cs hb0 hl =>
   rw[Nat.mul_one] at hl
   simp only[Go.Ab.oq,hl]; exact hb
def ak:AV→List Nat
 | .slc b _ _ _=>[b]
 | _=>[]
theorem aT.keep {bs:List Nat} (h:aT M size v cs n) (hk:ae bs M M') (hb:∀ b∈ak v,b ∉ bs) : aT M' size v cs n:=by
 cases h with
 | nil=>exact .nil
 | emp b=>exact .emp b
 | slc b o n cap cs hb0 hl =>
   exact .slc b o n cap cs (Nat.lt_of_lt_of_le hb0 hk.next) (by rw[hk.loads hb0 (hb b (by simp[ak]))]; exact hl)
inductive Own (M:RM) (base el size:Nat) : AV→List AV→Nat→Prop
 | nil:Own M base el size bR [] 0
 | ex0 (b o:Nat) : base≤b→b<M.next→(∃ l,M.cells b=some l∧o≤l.length)→Own M base el size (.slc b o 0 (.ex 0)) [] 0
 | op (b n:Nat) (cs:List AV) : base≤b→b<M.next→M.heap b=some (.row cs true el 0)→cs.length=n * size→Own M base el size (.slc b 0 n (.op size)) cs n
theorem Own.uz {base el:Nat} (h:Own M base el size v cs n) : aT M size v cs n:=by
 cases h with
 | nil=>exact .nil
 | ex0 b o hb hlt hc =>
   obtain⟨l,hl,ho⟩:=hc
   exact .slc b o 0 _ [] hlt (by rw[Nat.zero_mul]; exact lG hl ho)
 | op b n cs hb hlt hh hl =>
   refine .slc b 0 n _ cs hlt ?_
   rw[RM.iC hh (by omega)]
   simp[← hl]
theorem Own.blk {base el:Nat} (h:Own M base el size v cs n) : ∀ b∈ak v,base≤b∧b<M.next:=by
 cases h with
 | nil=>intro b hb; simp[ak] at hb
 | ex0 b o hb hlt hc=>intro c hc; simp[ak] at hc; subst hc; exact⟨hb,hlt⟩
 | op b n cs hb hlt hh hl=>intro c hc; simp[ak] at hc; subst hc; exact⟨hb,hlt⟩
theorem Own.keep {base el:Nat} {bs:List Nat} (h:Own M base el size v cs n) (hk:ae bs M M') (hb:∀ b∈ak v,b ∉ bs) : Own M' base el size v cs n:=by
 cases h with
 | nil=>exact .nil
 | ex0 b o h1 hlt hc=>exact .ex0 b o h1 (Nat.lt_of_lt_of_le hlt hk.next) (by rw[hk.cells hlt (hb b (by simp[ak]))]; exact hc)
 | op b n cs h1 hlt hh hl=>exact .op b n cs h1 (Nat.lt_of_lt_of_le hlt hk.next) (by rw[hk.heap b hlt (hb b (by simp[ak]))]; exact hh) hl
theorem Own.mono {base base' el:Nat} (h:Own M base el size v cs n) (hb:base'≤base) : Own M base' el size v cs n:=by
 cases h with
 | nil=>exact .nil
 | ex0 b o h1 hlt hc=>exact .ex0 b o (Nat.le_trans hb h1) hlt hc
 | op b n cs h1 hlt hh hl=>exact .op b n cs (Nat.le_trans hb h1) hlt hh hl
theorem wH {base el bytes:Nat} {zs:List AV} {zeros:Bool} {x:AV} {m:Nat} {ds:List AV} {K:af} (h:Own M base el size v cs n) (hbase:base≤M.next) (hs:1≤size) (hx:kQ M size zs zeros x=some (m,ds)) (hd:ds.length=m * size)
  (h1:ds.all oneCell=true) (hb:(n + m) * bytes≤140737488355328) (hb2:n + m≤140737488355328)
  (hK:∀ v' M',Own M' base el size v' (cs++ds) (n + m)→ae (ak v) M M'→M.next≤M'.next→(v'=v∨∀ b∈ak v',M.next≤b)→K v' M') : appW el size bytes zs zeros v x M K:=by
 have hmb:m * bytes≤140737488355328:=Nat.le_trans (Nat.mul_le_mul_right _ (by omega)) hb
 refine⟨m,ds,hx,hmb,by omega, ?_⟩
 cases h with
 | nil =>
   by_cases hm:m=0
   ·subst hm
    have:ds=[]:=List.eq_nil_of_length_eq_zero (by simpa using hd)
    subst this
    exact⟨bR,M,by simp[mQ],hK _ _ .nil (ae.refl _ _) (Nat.le_refl _) (.inl rfl)⟩
   ·refine⟨.slc M.next 0 m (.op size),M.push (.row ds true el 0),by simp only[mQ,if_neg hm,h1,if_true],hK _ _ ?_ ((ae.refl _ _).push _) (by simp[RM.push]) (.inr fun b hb=>by simp[ak] at hb; omega)⟩
    simp only[List.nil_append,Nat.zero_add]
    exact .op _ _ _ hbase (by simp[RM.push]) (RM.bz _) hd
 | ex0 b o hb0 hlt hc =>
   obtain⟨l,hl,ho⟩:=hc
   by_cases hm:m=0
   ·subst hm
    have:ds=[]:=List.eq_nil_of_length_eq_zero (by simpa using hd)
    subst this
    exact⟨_,M,by simp[mQ],hK _ _ (.ex0 b o hb0 hlt ⟨l,hl,ho⟩) (ae.refl _ _) (Nat.le_refl _) (.inl rfl)⟩
   ·refine⟨.slc M.next 0 m (.op size),M.push (.row ds true el 0), ?_,hK _ _ ?_ ((ae.refl _ _).push _) (by simp[RM.push]) (.inr fun b hb=>by simp[ak] at hb; omega)⟩
    ·have hl0:M.loads b o (0 * size)=some []:=by rw[Nat.zero_mul]; exact lG hl ho
     simp only[mQ,if_neg hm]
     rw[if_neg (by omega),hl0]
     simp only[Nat.zero_add,List.nil_append]
     rw[if_pos ⟨hmb,by omega,h1⟩]
    ·simp only[List.nil_append,Nat.zero_add]
     exact .op _ _ _ hbase (by simp[RM.push]) (RM.bz _) hd
 | op b n cs hb0 hlt hh hl =>
   by_cases hm:m=0
   ·subst hm
    have:ds=[]:=List.eq_nil_of_length_eq_zero (by simpa using hd)
    subst this
    exact⟨_,M,by simp[mQ],hK _ _ (by simpa using .op b n cs hb0 hlt hh hl) (ae.refl _ _) (Nat.le_refl _) (.inl rfl)⟩
   ·have hpos:1≤m * size:=Nat.mul_pos (by omega) hs
    have hsum:(n + m) * size=n * size + m * size:=Nat.add_mul _ _ _
    refine⟨.slc M.next 0 (n + m) (.op size),(M.del b).push (.row (cs++ds) true el 0), ?_,hK _ _ ?_ (((ae.refl _ _).del (.inr (by simp[ak]))).push _) (by simp[RM.push,RM.del]) (.inr fun b hb=>by simp[ak] at hb; omega)⟩
    ·simp only[mQ,if_neg hm,hh,and_self,if_true]
     rw[if_neg (by omega),if_pos ⟨trivial,hb,hb2,trivial,hl,Nat.zero_le _,h1⟩]
    ·exact .op _ _ _ (show base≤M.next from hbase) (by simp[RM.push,RM.del]) (by simp[RM.push,RM.del]) (by rw[List.length_append,hl,hd,hsum])
theorem aT.qO (h:aT M size v cs n) (neg:Bool) : (v=bR∧∀ K:AV→Prop,bP neg 2 v bR K=K (Bo (!neg)))∨(v≠bR∧∀ K:AV→Prop,bP neg 2 v bR K=K (Bo neg)):=by
 cases h with
 | nil=>exact .inl ⟨rfl,fun _=>vQ neg⟩
 | emp b=>exact .inr ⟨by(intro h; cases h),fun _=>vF neg b⟩
 | slc b o n cap cs hb0 hl=>exact .inr ⟨by(intro h; cases h),fun _=>vP neg b o n cap⟩
theorem Own.lit {base el T:Nat} (M:RM) (h:base≤M.next) : Own (M.push (.row [] false T 0)) base el size (.slc M.next 0 0 (.ex 0)) [] 0 :=
 .ex0 _ _ h (by simp[RM.push]) ⟨[],by simp[RM.cells,RM.push],Nat.le_refl _⟩
end
end Go.Ab
set_option maxRecDepth 4000
namespace Go.Ab
open Go
theorem gM {n:Int} (h0 : -9223372036854775808≤n) (h:n<9223372036854775808) : IntKind.wrap .i64 n=n:=by
 rw[IntKind.wrap_i64]; omega
end Go.Ab
namespace Go.Ab
open Go Go.RowKit
section
variable {P:Program}
end
def RM.old (base:Base) (w:World) : RM where
 next:=base.n
 heap:=fun b=>if b<base.n then(match w.heap[b]? with | some (.cells c _ _)=>some (.ro c) | _=>none) else none
 base:=base
def Aw (n:Nat) : Ren:=fun b=>if b<n then some ⟨b,0,0,0⟩ else none
theorem FY {P:Program} {base:Base} {w:World} (hn:base.n=w.heap.size) (hi:base.inv w) : bg P (Aw base.n) (RM.old base w) w:=by
 refine⟨{ next:=base.n,heap:=.leaf },rfl,⟨fun b i h=>?_,fun b i x _ h=>by simp[Tree.get] at h,fun b _ i _ x _ _ _ h=>by simp[Tree.get] at h,fun b x h=>by simp[Tree.get] at h,fun b i x _ h=>by simp[Tree.get] at h,hi⟩,by simp[RM.old,RM.lo,hn],fun b x h=>.inr ?_,fun c hc=>by have hc' : c<base.n:=hc; simp only[Aw]; rw[if_pos hc']⟩
 ·simp only[Aw] at h
  split at h <;> first | (cases h; done) | skip
  cases h
  exact⟨by assumption,by rw[← hn]; assumption⟩
 ·simp only[RM.old] at h
  split at h <;> first | (cases h; done) | skip
  rename_i hlt
  split at h <;> first | (cases h; done) | skip
  rename_i c el fr hh
  cases h
  exact⟨c,rfl,hlt,el,fr,hh⟩
theorem RM.EC {base:Base} {w:World} {b:Nat} {c:Array Value} {el:TypeId} {fr:_} (hb:b<base.n) (h:w.heap[b]?=some (.cells c el fr)) : (RM.old base w).cells b=some (c.toList.map (iV base.n)):=by
 simp only[RM.cells,RM.old,if_pos hb,h]
def jN (lo:Nat) : Value→AV
 | .agg cs=>.agg (cs.toList.map (iV lo))
 | v=>iV lo v
theorem Ao {ρ:Ren} {lo:Nat} (h:∀ c,c<lo→ρ c=some ⟨c,0,0,0⟩) : ∀ (vs:List Value),av ρ (vs.map (iV lo)) vs
 | []=>.nil
 | v :: vs=>.cons _ _ _ _ (sj h v) (Ao h vs)
theorem E5 {ρ:Ren} {lo:Nat} (h:∀ c,c<lo→ρ c=some ⟨c,0,0,0⟩) (v:Value) : aa ρ (jN lo v) v:=by
 unfold jN
 split
 ·exact .agg _ _ (Ao h _)
 ·exact sj h v
theorem xM {ρ:Ren} {lo:Nat} (h:∀ c,c<lo→ρ c=some ⟨c,0,0,0⟩) : ∀ (vs:List Value),av ρ (vs.map (jN lo)) vs
 | []=>.nil
 | v :: vs=>.cons _ _ _ _ (E5 h v) (xM h vs)
theorem dh.close {P:Program} {f:FuncId} {base:Base} {w:World} {us:Array Value} (hn:base.n=w.heap.size) (hi:base.inv w)
  (h:dh P f (us.toList.map (jN base.n)) (RM.old base w) fun v _=>v=Bo true) :
  Calls P f us w fun e w'=>e=.returned (.bool true)∧Below w.heap.size w w':=by
 have hr:=FY (P:=P) hn hi
 refine((h.2 (Aw base.n) w us.toList (xM (fun c hc=>by simp only[Aw]; rw[if_pos hc]) _) hr)).mono fun e w' hR=>?_
 obtain⟨v',v,M',ρ',rfl,k1,k2,rfl⟩:=hR
 obtain⟨rfl,_⟩:=aj k2
 refine⟨rfl,k1.step.os,k1.step.tape,k1.step.output,k1.step.size,fun k hk=>k1.step.low k ?_⟩
 show k<base.n
 rw[hn]; exact hk
def qF:Option TypeDesc→Bool
 | some .bool | some (.int _) | some .string | some (.slice _) | some (.struct _) | some (.array _ _)=>false
 | _=>true
inductive Fits (P:Program) (M:RM) : TypeId→List AV→Prop
 | bool (t:TypeId) (b:Bool) : P.underlying t=some .bool→Fits P M t [Bo b]
 | int (t:TypeId) (k:IntKind) (n:Int) : P.underlying t=some (.int k)→k.min≤n→n≤k.max→Fits P M t [N k n]
 | str (t:TypeId) (s:List UInt8) : P.underlying t=some .string→s.length≤reachBytes→Fits P M t [St s]
 | Hl (t e:TypeId) : P.underlying t=some (.slice e)→Fits P M t [bR]
 | emp (t e:TypeId) (b:Nat) : P.underlying t=some (.slice e)→Fits P M t [.emp b]
 | slc (t e:TypeId) (b o n c:Nat) (cs:List AV) : P.underlying t=some (.slice e)→b<M.next→n≤c→c * P.bytesOf e≤reachBytes→M.loads b o (n * P.cellsOf e)=some cs →
   (∀ i,i<n→Fits P M e ((cs.drop (i * P.cellsOf e)).take (P.cellsOf e)))→Fits P M t [.slc b o n (.ex c)]
 | struct (t:TypeId) (fs:Array Field) (cs:List AV) : P.underlying t=some (.struct fs)→cs.length=P.cellsOf t →
   (∀ (i:Nat) (f:Field),fs[i]?=some f→Fits P M f.type ((cs.drop f.offset).take (P.cellsOf f.type)))→Fits P M t cs
 | array (t e:TypeId) (n:Nat) (cs:List AV) : P.underlying t=some (.array n e)→cs.length=P.cellsOf t →
   (∀ i,i<n→Fits P M e ((cs.drop (i * P.cellsOf e)).take (P.cellsOf e)))→Fits P M t cs
 | other (t:TypeId) (cs:List AV) : qF (P.underlying t)=true→Fits P M t cs
 | zero (t e:TypeId) (cs:List AV) : P.underlying t=some (.slice e)→P.cellsOf e=0→Fits P M t cs
theorem pg (a:Addr) : a.add 0=a:=by simp[Addr.add]
theorem kU {w:World} {base:Nat} {a:Addr} {n:Nat} {cs:List Value} (h:w.cells? base a n=some cs) : cs.length=n∧∀ i,i<n→w.cell? (a.add i)=cs[i]?:=by
 unfold World.cells? at h
 split at h
 ·exact⟨by simpa using mapM_some_length h,fun i hi=>mapM_some_get h i i (by simp[hi])⟩
 ·cases h
theorem cell?_at {w:World} {a:Addr} {v:Value} (h:w.cell? a=some v) : ∃ c el fr,w.heap[a.block]?=some (.cells c el fr)∧a.spot=none∧a.off<c.size∧c[a.off]?=some v:=by
 unfold World.cell? at h
 split at h
 ·rename_i c el fr hh
  split at h
  ·cases h
  ·rename_i hs
   exact⟨c,el,fr,hh,by simpa using hs,(Array.getElem?_eq_some_iff.1 h).1,h⟩
 ·cases h
section
variable {H:Type} {enc:TypeId × Value→H} {P:Program} {base:Base} {w:World}
theorem jR {e:TypeId} {ds:List (DataW H)} {d:DataW H} (hd:d∈ds) {x:Nat} (hx:x∈d.weights P e) : x∈DataW.weightsAll P e ds:=by
 induction ds with
 | nil=>cases hd
 | cons y ys ih =>
   simp only[DataW.weightsAll,List.mem_append]
   rcases List.mem_cons.1 hd with rfl | hd
   ·exact .inl hx
   ·exact .inr (ih hd)
theorem mG {x:Nat} : ∀ (ts:List TypeId) (ds:List (DataW H)) (i:Nat) (t:TypeId) (d:DataW H),ts[i]?=some t→ds[i]?=some d→x∈d.weights P t→x∈DataW.weightsEach P ts ds
 | [],_,_,_,_,h,_,_=>by simp at h
 | _ :: _,[],_,_,_,_,h,_=>by simp at h
 | t :: ts,d :: ds,0,t',d',h,h',hx=>by
   simp at h h'; subst h h'
   simp only[DataW.weightsEach,List.mem_append]; exact .inl hx
 | t :: ts,d :: ds,i + 1,t',d',h,h',hx=>by
   simp only[DataW.weightsEach,List.mem_append]
   exact .inr (mG ts ds i t' d' (by simpa using h) (by simpa using h') hx)
theorem zQ (hn:base.n=w.heap.size) {held:Bool} : ∀ (fuel:Nat) (t:TypeId) (cs:List Value) (x:DataW H × List MemPlace),DataW.trod enc P w 0 (fun _=>true) held fuel t cs=some x →
  (∀ y∈x.1.weights P t,y≤reachBytes)→Fits P (RM.old base w) t (cs.map (iV base.n)):=by
 intro fuel
 induction fuel with
 | zero=>intro t cs x h; simp[DataW.trod] at h
 | succ m ih =>
   intro t cs x h hw
   cases hu:P.underlying t with
   | none=>exact .other _ _ (by rw[hu]; rfl)
   | some d =>
     cases d with
     | bool =>
       obtain⟨b,rfl,rfl⟩:=DataW.trod_bool hu h
       exact .bool t b hu
     | int k =>
       obtain⟨n,rfl,rfl,hwf⟩:=DataW.trod_int hu h
       simp only[Lit.wf,Bool.and_eq_true,decide_eq_true_eq] at hwf
       exact .int t k n hu hwf.1 hwf.2
     | string =>
       obtain⟨s,rfl,rfl,_⟩:=DataW.trod_string hu h
       exact .str t s.data.toList hu (hw _ (by simp[DataW.weights]))
     | slice e =>
       rcases DataW.trod_slice hu h with⟨rfl,rfl⟩ | ⟨a,len,cap,elems,rest,n,hm,rfl,rfl,_,hlc,_,hel,hget,hrest,_⟩
       ·exact .Hl t e hu
       ·cases hm
        rcases Nat.eq_zero_or_pos (P.cellsOf e) with hz | hz
        ·exact .zero t e _ hu hz
        rcases Nat.eq_zero_or_pos cap with hc | hc
        ·have hl0:len=0:=by omega
         subst hc hl0
         exact .emp t e 0 hu
        ·obtain⟨hr1,hr2⟩:=hrest rfl
         have every:∀ i,i<cap→∃ es y,w.cells? 0 (a.add (i * P.cellsOf e)) (P.cellsOf e)=some es∧DataW.trod enc P w 0 (fun _=>true) held m e es=some y∧(y∈elems∨y∈rest):=by
          intro i hi
          by_cases hil:i<len
          ·have h1:=hget i hil
           have h2:elems[i]?=some (elems[i]'(by omega)):=by simp[hel,hil]
           rw[h2] at h1
           obtain⟨es,e1,e2⟩:=Option.bind_eq_some_iff.1 h1
           exact⟨es,_,e1,e2,.inl (List.getElem_mem _)⟩
          ·have h1:=hr2 (i - len) (by omega)
           rw[show len + (i - len)=i by omega] at h1
           have h2:rest[i - len]?=some (rest[i - len]'(by omega)):=by
            rw[List.getElem?_eq_getElem]
           rw[h2] at h1
           obtain⟨es,e1,e2⟩:=Option.bind_eq_some_iff.1 h1
           exact⟨es,_,e1,e2,.inr (List.getElem_mem _)⟩
         obtain⟨es0,_,k0,_,_⟩:=every 0 hc
         obtain⟨kl0,kg0⟩:=kU k0
         have hc0:=kg0 0 hz
         rw[List.getElem?_eq_getElem (by omega)] at hc0
         obtain⟨c,el,fr,hh,hsp,_,_⟩:=cell?_at hc0
         obtain⟨b,o,sp⟩:=a
         rw[Nat.zero_mul,pg,pg] at hh hsp
         simp only at hh hsp
         subst hsp
         have hblt:b<base.n:=by rw[hn]; exact(Array.getElem?_eq_some_iff.1 hh).1
         have hlast:o + cap * P.cellsOf e≤c.size:=by
          obtain⟨es1,_,k1,_,_⟩:=every (cap - 1) (by omega)
          obtain⟨kl1,kg1⟩:=kU k1
          have hc1:=kg1 (P.cellsOf e - 1) (by omega)
          rw[List.getElem?_eq_getElem (by omega)] at hc1
          obtain⟨c',el',fr',hh',_,hlt,_⟩:=cell?_at hc1
          rw[bJ,bJ] at hh' hlt
          simp only at hh' hlt
          rw[hh] at hh'
          cases hh'
          have:cap * P.cellsOf e=(cap - 1) * P.cellsOf e + P.cellsOf e:=by
           rw[← Nat.succ_mul]; congr 1; omega
          omega
         have Kb:iV base.n (.slice (some ⟨b,o,none⟩) len cap)=.slc b o len (.ex cap):=by
          obtain⟨cap,rfl⟩ : ∃ k,cap=k + 1:=⟨cap - 1,by omega⟩
          simp only[iV,if_pos hblt]
         have hcells:=RM.EC hblt hh
         have hle:len * P.cellsOf e≤cap * P.cellsOf e:=Nat.mul_le_mul_right _ hlc
         have hload:(RM.old base w).loads b o (len * P.cellsOf e)=some (((c.toList.map (iV base.n)).drop o).take (len * P.cellsOf e)):=by
          simp only[RM.loads,hcells]
          rw[if_pos (by simp; omega)]
         simp only[List.map_cons,List.map_nil,Kb]
         refine .slc t e b o len cap _ hu hblt hlc ?_ hload fun i hi=>?_
         ·have:=hw ((elems.length + rest.length) * P.bytesOf e) (by simp[DataW.weights,hu])
          rwa [hel,hr1,show len + (cap - len)=cap by omega] at this
         ·obtain⟨es,y,k1,k2,k3⟩:=every i (by omega)
          have hlen:=(kU k1).1
          have hes:((((c.toList.map (iV base.n)).drop o).take (len * P.cellsOf e)).drop (i * P.cellsOf e)).take (P.cellsOf e)=es.map (iV base.n):=by
           have hii:i * P.cellsOf e + P.cellsOf e≤len * P.cellsOf e:=by rw[← Nat.succ_mul]; exact Nat.mul_le_mul_right _ hi
           apply List.ext_getElem?
           intro j
           by_cases hj:j<P.cellsOf e
           ·have hg:=(kU k1).2 j hj
            rw[List.getElem?_take,if_pos hj,List.getElem?_drop,List.getElem?_take,if_pos (by omega),List.getElem?_drop,List.getElem?_map,List.getElem?_map,← hg]
            rw[bJ,bJ]
            simp only[World.cell?,hh]
            rw[Array.getElem?_toList]
            simp[Nat.add_assoc]
           ·rw[List.getElem?_eq_none (by simp; omega),List.getElem?_eq_none (by simp; omega)]
          rw[hes]
          refine ih e es y k2 fun z hz=>hw z ?_
          simp only[DataW.weights,hu,List.mem_cons,List.mem_append]
          rcases k3 with k3 | k3
          ·exact .inr (.inl (jR (List.mem_map_of_mem k3) hz))
          ·exact .inr (.inr (jR (List.mem_map_of_mem k3) hz))
     | struct fs =>
       obtain⟨xs,n,hm,rfl,hl,hxl,hget⟩:=DataW.trod_struct hu h
       cases hm
       refine .struct t fs _ hu (by simpa using hl) fun i f hf=>?_
       have h1:=hget i f hf
       have hi:i<fs.size:=(Array.getElem?_eq_some_iff.1 hf).1
       rw[List.getElem?_eq_getElem (by omega)] at h1
       rw[← List.map_drop,← List.map_take]
       refine ih _ _ _ h1 fun z hz=>hw z ?_
       simp only[DataW.weights,hu]
       refine mG _ _ i f.type _ (by simp[hf]) (by rw[List.getElem?_map,List.getElem?_eq_getElem (by omega)]; rfl) hz
     | array n e =>
       obtain⟨xs,m',hm,rfl,hl,hxl,hget⟩:=DataW.trod_array hu h
       cases hm
       refine .array t e n _ hu (by simpa using hl) fun i hi=>?_
       have h1:=hget i hi
       rw[List.getElem?_eq_getElem (by omega)] at h1
       rw[← List.map_drop,← List.map_take]
       refine ih _ _ _ h1 fun z hz=>hw z ?_
       simp only[DataW.weights,hu]
       exact jR (List.mem_map_of_mem (List.getElem_mem _)) hz
     | _=>exact .other _ _ (by rw[hu]; rfl)
end
section
variable {P:Program} {M:RM} {t:TypeId} {cs:List AV}
theorem Fits.nG (h:Fits P M t cs) {k:IntKind} (hu:P.underlying t=some (.int k)) : ∃ n:Int,cs=[N k n]∧k.min≤n∧n≤k.max:=by
 cases h with
 | int _ k' n h1 h2 h3=>rw[hu] at h1; cases h1; exact⟨n,rfl,h2,h3⟩
 | _=>simp_all [qF]
theorem Fits.GI (h:Fits P M t cs) (hu:P.underlying t=some .string) : ∃ s,cs=[St s]∧s.length≤reachBytes:=by
 cases h with
 | str _ s h1 h2=>exact⟨s,rfl,h2⟩
 | _=>simp_all [qF]
theorem Fits.CP (h:Fits P M t cs) {fs:Array Field} (hu:P.underlying t=some (.struct fs)) : cs.length=P.cellsOf t∧∀ (i:Nat) (f:Field),fs[i]?=some f→Fits P M f.type ((cs.drop f.offset).take (P.cellsOf f.type)):=by
 cases h with
 | struct _ fs' _ h1 h2 h3=>rw[hu] at h1; cases h1; exact⟨h2,h3⟩
 | _=>simp_all [qF]
theorem Fits.wP (h:Fits P M t cs) {e:TypeId} (hu:P.underlying t=some (.slice e)) (hz:0<P.cellsOf e) :
  ∃ v n ds,cs=[v]∧aT M (P.cellsOf e) v ds n∧n * P.bytesOf e≤reachBytes∧∀ i,i<n→Fits P M e ((ds.drop (i * P.cellsOf e)).take (P.cellsOf e)):=by
 cases h with
 | Hl _ e' h1=>exact⟨_,0,[],rfl,.nil,by simp,fun i hi=>absurd hi (by omega)⟩
 | emp _ e' b h1=>exact⟨_,0,[],rfl,.emp b,by simp,fun i hi=>absurd hi (by omega)⟩
 | slc _ e' b o n c ds h1 h2 h3 h4 h5 h6 =>
   rw[hu] at h1; cases h1
   exact⟨_,n,ds,rfl,.slc b o n _ ds h2 h5,Nat.le_trans (Nat.mul_le_mul_right _ h3) h4,h6⟩
 | zero _ e' _ h1 h2=>rw[hu] at h1; cases h1; omega
 | _=>simp_all [qF]
theorem pU {α:Type} {size:Nat} (enc:α→List AV) (p:α→Prop) (hs:∀ a,(enc a).length=size) : ∀ (n:Nat) (ds:List AV),ds.length=n * size→(∀ i,i<n→∃ a,p a∧(ds.drop (i * size)).take size=enc a) →
  ∃ xs:List α,xs.length=n∧ds=xs.flatMap enc∧∀ x∈xs,p x
 | 0,ds,hl,_=>⟨[],rfl,by simpa using hl,by simp⟩
 | n + 1,ds,hl,h=>by
   obtain⟨a,pa,ha⟩:=h 0 (by omega)
   simp only[Nat.zero_mul,List.drop_zero] at ha
   have hl' : (ds.drop size).length=n * size:=by rw[List.length_drop,hl,Nat.succ_mul]; omega
   obtain⟨xs,h1,h2,h3⟩:=pU enc p hs n (ds.drop size) hl' fun i hi=>by
    obtain⟨b,pb,hb⟩:=h (i + 1) (by omega)
    refine⟨b,pb, ?_⟩
    rw[List.drop_drop,← hb,Nat.succ_mul,Nat.add_comm]
   refine⟨a :: xs,by simp[h1], ?_,fun x hx=>?_⟩
   ·rw[List.flatMap_cons,← h2,← ha,List.take_append_drop]
   ·rcases List.mem_cons.1 hx with rfl | hx
    ·exact pa
    ·exact h3 x hx
end
def vU (P:Program) (t:TypeId) : Bool :=
 match P.underlying t with
 | some (.struct _) | some (.array _ _)=>true
 | _=>false
def iP (P:Program) (M:RM) (t:TypeId) (v:AV) : Prop :=
 match vU P t with
 | true=>∃ cs,v=.agg cs∧Fits P M t cs
 | false=>Fits P M t [v]
theorem iP.agg {P:Program} {M:RM} {t:TypeId} {v:AV} (h:iP P M t v) (ha:vU P t=true) : ∃ cs,v=.agg cs∧Fits P M t cs:=by
 unfold iP at h; rw[ha] at h; exact h
theorem iP.one {P:Program} {M:RM} {t:TypeId} {v:AV} (h:iP P M t v) (ha:vU P t=false) : Fits P M t [v]:=by
 unfold iP at h; rw[ha] at h; exact h
section
variable {H:Type} {enc:TypeId × Value→H} {P:Program} {base:Base} {w:World}
theorem Ar {r:Reach} {b:Nat} {t:TypeId} {cs:Array Value} (h:Cell.okWide P w r b t (.agg cs)) : False:=by
 unfold Cell.okWide at h
 split at h <;> first | (rename_i e _; cases e; done) | skip
 all_goals first | (rename_i e; cases e; done) | skip
 unfold Cell.ok at h
 split at h <;> first | exact h | simp_all
theorem Gb (hn:base.n=w.heap.size) {r:Reach} {b:Nat} {held:Bool} {t:TypeId} {v:Value} {d:DataW H} {ps:List MemPlace} (hv:Value.okWide P w r b t v) (h:DataW.Trod enc P w 0 (fun _=>true) held t v d ps)
  (hw:∀ y∈d.weights P t,y≤reachBytes) : iP P (RM.old base w) t (jN base.n v):=by
 obtain⟨fuel,hf⟩:=h
 have hfit:=zQ hn fuel t _ _ hf hw
 unfold iP
 cases ha:vU P t with
 | true =>
   have:∃ cs,v=.agg cs:=by
    unfold Value.okWide at hv
    unfold vU at ha
    split at hv
    ·obtain⟨cs,h,_⟩:=hv; exact⟨cs,h⟩
    ·obtain⟨cs,h,_⟩:=hv; exact⟨cs,h⟩
    ·split at ha <;> simp_all
   obtain⟨cs,rfl⟩:=this
   exact⟨_,rfl,hfit⟩
 | false =>
   have hc:Cell.okWide P w r b t v:=by
    unfold Value.okWide at hv
    unfold vU at ha
    split at hv
    ·simp_all
    ·simp_all
    ·exact hv
   have:v.cells.toList=[v]∧jN base.n v=iV base.n v:=by
    cases v with
    | agg cs=>exact(Ar hc).elim
    | _=>exact⟨rfl,rfl⟩
   rw[this.1] at hfit
   rw[this.2]
   exact hfit
theorem Ag (hn:base.n=w.heap.size) {r:Reach} {b:Nat} {held:Bool} : ∀ {ts:List TypeId} {vs:List Value} {ds:List (DataW H)} {ps:List MemPlace},DataW.TrodAll enc P w 0 (fun _=>true) held ts vs ds ps →
  (∀ (j:Nat) t v,ts[j]?=some t→vs[j]?=some v→Value.okWide P w r b t v)→(∀ y∈DataW.weightsEach P ts ds,y≤reachBytes) →
  ∀ (j:Nat) t v,ts[j]?=some t→vs[j]?=some v→iP P (RM.old base w) t (jN base.n v)
 | [],_,_,_,_,_,_,j,t,v,h,_=>by simp at h
 | t0 :: ts,vs,ds,ps,h,hv,hw,j,t,v,hj,hvj=>by
   cases vs with
   | nil=>simp at hvj
   | cons v0 vs =>
   cases ds with
   | nil=>exact h.elim
   | cons d ds =>
   obtain⟨p,q,h1,h2,_⟩:=h
   cases j with
   | zero =>
     simp at hj hvj; subst hj hvj
     exact Gb hn (hv 0 _ _ rfl rfl) h1 fun y hy=>hw y (by simp[DataW.weightsEach,hy])
   | succ j =>
     exact Ag hn h2 (fun j t v a b=>hv (j + 1) t v (by simpa using a) (by simpa using b)) (fun y hy=>hw y (by simp[DataW.weightsEach,hy])) j t v (by simpa using hj) (by simpa using hvj)
theorem pE (hl:laidOutB P=true) {W W' : World} {sp:Nat→Bool} (hb:Below W.heap.size W W') : ∀ {ts:List TypeId} {vs:List Value} {ds:List (DataW H)} {ps:List MemPlace},
  (∀ t∈ts,P.readableRec t=true∧t<P.types.size)→DataW.TrodAll enc P W 0 (fun _=>true) true ts vs ds ps→(∀ p∈ps,p.block<W.heap.size)→(∀ p∈ps,sp p.block=true)→DataW.TrodAll enc P W' 0 sp true ts vs ds ps
 | [],vs,ds,ps,_,h,_,_=>by
   cases vs <;> cases ds <;> first | exact h | exact h.elim
 | t :: ts,vs,ds,ps,hr,h,hlt,hsp=>by
   cases vs with
   | nil=>cases ds <;> exact h.elim
   | cons v vs =>
   cases ds with
   | nil=>exact h.elim
   | cons d ds =>
   obtain⟨p,q,h1,h2,rfl⟩:=h
   have hrt:=hr t (List.mem_cons_self ..)
   exact⟨p,q,WideElems.Trod_stays hl hrt.1 hrt.2 h1 (fun x hx=>hb.same (hlt x (List.mem_append_left _ hx))) (fun x hx=>hsp x (List.mem_append_left _ hx)),
    pE hl hb (fun t ht=>hr t (List.mem_cons_of_mem _ ht)) h2 (fun x hx=>hlt x (List.mem_append_right _ hx)) (fun x hx=>hsp x (List.mem_append_right _ hx)),rfl⟩
end
def RB.cells (lo:Nat) : RB→Option (List AV)
 | .row l _ _ _=>some l
 | .ro c=>some (c.toList.map (iV lo))
 | _=>none
@[go_sem] theorem RB.mP (lo:Nat) (l:List AV) (p:Bool) (e f:Nat) : RB.cells lo (.row l p e f)=some l:=rfl
theorem RM.zC (M:RM) (b:Nat) : M.cells b=(M.heap b).bind (RB.cells M.lo):=by
 unfold RM.cells RB.cells
 cases M.heap b with
 | none=>rfl
 | some x=>cases x <;> rfl
def jA (l:Option (List AV)) (o k:Nat) : Option (List AV) :=
 match l with
 | some l=>if o + k≤l.length then some ((l.drop o).take k) else none
 | none=>none
@[go_sem] theorem Ik (l:List AV) (o k:Nat) : jA (some l) o k=if o + k≤l.length then some ((l.drop o).take k) else none:=rfl
theorem RM.si (M:RM) (b o k:Nat) : M.loads b o k=jA (M.cells b) o k:=rfl
section
variable {M M' : RM}
@[go_sem] theorem RM.EX (x:RB) (c:Nat) : (M.push x).heap c=if c=M.next then some x else M.heap c:=rfl
@[go_sem] theorem RM.heap_put (b:Nat) (x:RB) (c:Nat) : (M.put b x).heap c=if c=b then some x else M.heap c:=rfl
@[go_sem] theorem RM.JS (b:Nat) (c:Nat) : (M.del b).heap c=if c=b then none else M.heap c:=rfl
@[go_sem] theorem RM.I9 (x:RB) : (M.push x).base=M.base:=rfl
@[go_sem] theorem RM.Jt (b:Nat) (x:RB) : (M.put b x).base=M.base:=rfl
@[go_sem] theorem RM.J2 (b:Nat) : (M.del b).base=M.base:=rfl
theorem RM.uL (x:RB) (c:Nat) : (M.push x).cells c=if c=M.next then x.cells M.lo else M.cells c:=by
 simp only[RM.zC,RM.EX]
 split <;> rfl
theorem RM.xB (b:Nat) (x:RB) (c:Nat) : (M.put b x).cells c=if c=b then x.cells M.lo else M.cells c:=by
 simp only[RM.zC,RM.heap_put]
 split <;> rfl
@[go_sem] theorem RM.Ja (x:RB) (c o:Nat) : (M.push x).cell c o=if c=M.next then(x.cells M.lo).bind (·[o]?) else M.cell c o:=by
 simp only[RM.cell,RM.uL]
 split <;> rfl
@[go_sem] theorem RM.JZ (b:Nat) (x:RB) (c o:Nat) : (M.put b x).cell c o=if c=b then(x.cells M.lo).bind (·[o]?) else M.cell c o:=by
 simp only[RM.cell,RM.xB]
 split <;> rfl
@[go_sem] theorem RM.Iu (x:RB) (c o k:Nat) : (M.push x).loads c o k=if c=M.next then jA (x.cells M.lo) o k else M.loads c o k:=by
 simp only[RM.si,RM.uL]
 split <;> rfl
@[go_sem] theorem RM.Jf (b:Nat) (x:RB) (c o k:Nat) : (M.put b x).loads c o k=if c=b then jA (x.cells M.lo) o k else M.loads c o k:=by
 simp only[RM.si,RM.xB]
 split <;> rfl
def iE (l:List AV) (fz o:Nat) (vs:List AV) : Option (List AV) :=
 if o + vs.length≤l.length∧fz≤o∧vs.all oneCell=true then some (l.take o++vs++l.drop (o + vs.length)) else none
theorem lT {l vs:List AV} {fz o:Nat} (h1:o + vs.length≤l.length) (h2:fz≤o) (h3:vs.all oneCell=true) : iE l fz o vs=some (l.take o++vs++l.drop (o + vs.length)):=if_pos ⟨h1,h2,h3⟩
@[go_sem] theorem xX {l vs:List AV} (h:vs.length=l.length) (h3:vs.all oneCell=true) : iE l 0 0 vs=some vs:=by
 rw[lT (by omega) (Nat.le_refl _) h3]
 simp[h]
theorem RM.mI {b o:Nat} {vs l:List AV} {p:Bool} {e f:Nat} (h:M.heap b=some (.row l p e f)) : M.stores b o vs=(iE l f o vs).map fun l'=>M.put b (.row l' p e f):=by
 simp only[RM.stores,h,iE]
 split <;> rfl
theorem RM.Fy {x y:RB} : (M.push x).put M.next y=M.push y:=by
 simp only[RM.put,RM.push]
 congr 1
 funext c
 split <;> rfl
theorem RM.Aj {x y:RB} {b:Nat} (hb:b≠M.next) : (M.push x).put b y=(M.put b y).push x:=by
 simp only[RM.put,RM.push]
 congr 1
 funext c
 by_cases h1:c=b
 ·subst h1; simp[hb]
 ·simp[h1]
theorem RM.ul {l vs:List AV} {p:Bool} {e f o:Nat} : (M.push (.row l p e f)).stores M.next o vs=(iE l f o vs).map fun l'=>M.push (.row l' p e f):=by
 rw[RM.mI (RM.bz _)]
 congr 1
 funext l'
 exact RM.Fy
theorem RM.uE {M:RM} {b o:Nat} {vs:List AV} : M.stores b o vs=match M.heap b with
  | some (.row l p e f)=>(iE l f o vs).map fun l'=>M.put b (.row l' p e f)
  | _=>none:=by
 cases h:M.heap b with
 | none=>simp[RM.stores,h]
 | some x =>
   cases x with
   | row l p e f=>rw[RM.mI h]
   | _=>simp[RM.stores,h]
@[go_sem] theorem RM.uF {x:RB} {vs:List AV} {c o:Nat} (hc:c≠M.next) : (M.push x).stores c o vs=(M.stores c o vs).map (·.push x):=by
 rw[RM.uE,RM.uE,RM.Fx hc]
 split
 ·simp only[Option.map_map]
  congr 1
  funext l'
  exact RM.Aj hc
 ·rfl
@[go_sem] theorem RM.Il {l vs:List AV} {p:Bool} {e f c o:Nat} : (M.push (.row l p e f)).stores c o vs =
  if c=M.next then(iE l f o vs).map fun l'=>M.push (.row l' p e f) else(M.stores c o vs).map (·.push (.row l p e f)):=by
 split
 ·rename_i h; subst h; exact RM.ul
 ·rename_i h; exact RM.uF h
@[go_sem] theorem RM.Gt {b o:Nat} {l vs:List AV} {p:Bool} {e f:Nat} : (M.put b (.row l p e f)).stores b o vs=(iE l f o vs).map fun l'=>M.put b (.row l' p e f):=by
 rw[RM.mI (RM.Ac _ _)]
 congr 1
 funext l'
 simp only[RM.put]
 congr 1
 funext c
 split <;> rfl
@[go_sem] theorem Kw {α:Type} (a:α) (K:α→Prop) : (∃ x,some a=some x∧K x)=K a:=by simp
@[go_sem] theorem Ij {α β:Type} (f:α→β) (x:α) : (some x).map f=some (f x):=rfl
attribute [go_sem] Int.natCast_nonneg Int.toNat_natCast Nat.mul_one true_implies false_implies Bool.false_eq_true Bool.true_eq_false Bool.not_true Bool.not_false Bool.and_self Bool.and_true Bool.true_and Nat.le_refl List.append_nil List.nil_append if_true if_false Nat.lt_irrefl Nat.add_one_ne_zero true_and and_true Nat.zero_add Nat.add_zero List.drop_zero List.getElem?_cons_zero List.getElem?_cons_succ Option.bind_some List.take_succ_cons List.take_zero List.drop_succ_cons List.drop_nil List.take_nil
attribute [go_sem] oV List.all_cons List.all_nil List.length_cons List.length_nil
@[go_sem] theorem Jl (cs:List AV) : (AV.agg cs).cells=cs:=rfl
@[go_sem] theorem J9 (v:Value) : (AV.sc v).cells=[.sc v]:=rfl
@[go_sem] theorem Je (b o:Nat) : (AV.ptr b o).cells=[.ptr b o]:=rfl
@[go_sem] theorem Jn (b o n:Nat) (c:Cap) : (AV.slc b o n c).cells=[.slc b o n c]:=rfl
@[go_sem] theorem Jd (b:Nat) : (AV.emp b).cells=[.emp b]:=rfl
@[go_sem] theorem I8 (b:Nat) : (AV.map b).cells=[.map b]:=rfl
@[go_sem] theorem Kg (f:Fn) (xs ys:List AV) : (AV.fn f xs ys).cells=[.fn f xs ys]:=rfl
@[go_sem] theorem KJ (v:Value) : oneCell (.sc v)=true:=rfl
@[go_sem] theorem Kn (b o:Nat) : oneCell (.ptr b o)=true:=rfl
@[go_sem] theorem Ky (b o n:Nat) (c:Cap) : oneCell (.slc b o n c)=true:=rfl
@[go_sem] theorem Kq (b:Nat) : oneCell (.emp b)=true:=rfl
@[go_sem] theorem Kv (b:Nat) : oneCell (.map b)=true:=rfl
@[go_sem] theorem KD (f:Fn) (xs ys:List AV) : oneCell (.fn f xs ys)=true:=rfl
end
theorem RM.oJ {M:RM} {b:Nat} {l:List AV} {p:Bool} {e f:Nat} (h:M.heap b=some (.row l p e f)) (o k:Nat) : M.loads b o k=jA (some l) o k:=by rw[RM.si,RM.mP h]
theorem RM.cell_of {M:RM} {b:Nat} {l:List AV} {p:Bool} {e f:Nat} (h:M.heap b=some (.row l p e f)) (o:Nat) : M.cell b o=l[o]?:=RM.FC h
theorem RM.pO {M:RM} {b:Nat} {l:List AV} {p:Bool} {e f:Nat} (h:M.heap b=some (.row l p e f)) (o:Nat) (vs:List AV) : M.stores b o vs=(iE l f o vs).map fun l'=>M.put b (.row l' p e f):=RM.mI h
theorem ae.bI {bs:List Nat} {M M' : RM} (h:ae bs M M') {b:Nat} {x:RB} (hh:M.heap b=some x) (hlt:b<M.next) (hb:b ∉ bs) : M'.heap b=some x:=by rw[h.heap b hlt hb,hh]
inductive KE where
 | val (v:AV)
 | rows (n:Nat) (v:AV) (bs:List (Nat × dV)) (n' : Nat)
structure Ic where
 args:List AV
 fp:List (Nat × dV):=[]
 dead:List Nat:=[]
 nx:Nat:=0
 ans:KE
def Ez:Tree dV→List (Nat × dV)→Tree dV
 | t,[]=>t
 | t,(b,x) :: r=>Ez (t.set b x) r
def EH:Tree dV→List Nat→Tree dV
 | t,[]=>t
 | t,b :: r=>EH (t.del b) r
def Ch (A:AW) : List (Nat × dV)→Bool
 | []=>true
 | (b,x) :: r=>match A.heap.get b with
   | some y=>IU x y && Ch A r
   | none=>false
def JH (A:AW) (e:Ic) : Option (AV × AW) :=
 match Ch A e.fp with
 | false=>none
 | true=>match e.ans with
   | .val v=>some (v,A)
   | .rows n v bs n'=>match Nat.beq n A.next with
     | true=>some (v,{ next:=n',heap:=Ez (EH A.heap e.dead) bs })
     | false=>none
abbrev Table:=List (Nat × List Ic)
section
variable {P:Program} {X:Ext}
def IJ (P:Program) (I:World→Prop) (f:Nat) (e:Ic) : Prop :=
 ∀ (base:Base),(∀ w,base.inv w→I w)→∀ A v A',JH A e=some (v,A')→∀ (ρ:Ren) (w:World) (us:List Value),av ρ e.args us→aW P base ρ A w→base≤w.heap.size →
   Calls P f ⟨us⟩ w fun r w'=>∃ ρ' v',r=.returned v'∧Step base A.next ρ w ρ' w'∧aW P base ρ' A' w'∧A.next≤A'.next∧aa ρ' v v'
def Gr (P:Program) (I:World→Prop) (T:Table) : Prop:=∀ g∈T,∀ e∈g.2,IJ P I g.1 e
theorem aW.none {P:Program} {base:Base} {n:Nat} {w:World} (hi:base.inv w) : aW P base (fun _=>none) { next:=n,heap:=.leaf } w :=
 ⟨fun _ _ h=>(by cases h),fun _ _ _ h=>(by cases h),fun _ _ _ _ _ _ h=>(by cases h),fun _ _ h=>(by simp[Tree.get] at h),fun _ _ _ h=>(by cases h),hi⟩
def only(ρ:Ren) (ks:List Nat) : Ren:=fun b=>if b∈ks then ρ b else none
theorem Gr.nil {I:World→Prop} : Gr P I []:=fun g hg=>by cases hg
open Go.WideShapes Go.ChangeShapes in
open Go.WideShapes Go.ChangeShapes in
end
structure Enc (α:Type) where
 size:Nat
 cells:α→List AV
 len:∀ a,(cells a).length=size
 one:∀ a,(cells a).all oneCell=true
section
variable {α:Type} (E:Enc α)
def Enc.row (xs:List α) : List AV:=xs.flatMap E.cells
theorem Enc.gZ (x:α) (xs:List α) : E.row (x :: xs)=E.cells x++E.row xs:=rfl
theorem Enc.uV (xs ys:List α) : E.row (xs++ys)=E.row xs++E.row ys:=by simp[Enc.row]
theorem Enc.row_one (x:α) : E.row [x]=E.cells x:=by simp[Enc.row]
theorem Enc.gN:∀ (xs:List α),(E.row xs).length=xs.length * E.size
 | []=>by simp[Enc.row]
 | x :: xs=>by rw[Enc.gZ,List.length_append,E.len,Enc.gN xs,List.length_cons,Nat.succ_mul,Nat.add_comm]
theorem Enc.nJ:∀ (xs:List α),(E.row xs).all oneCell=true
 | []=>by simp[Enc.row]
 | x :: xs=>by rw[Enc.gZ,List.all_append,E.one,Enc.nJ xs]; rfl
theorem Enc.zT:∀ (xs:List α) (i:Nat),(E.row xs).drop (i * E.size)=E.row (xs.drop i)
 | [],i=>by simp[Enc.row]
 | x :: xs,0=>by simp
 | x :: xs,i + 1=>by
   rw[Enc.gZ,Nat.succ_mul,Nat.add_comm,← List.drop_drop,List.drop_left' (E.len x),Enc.zT xs i]
   rfl
theorem Enc.o7:∀ (xs:List α) (i:Nat),(E.row xs).take (i * E.size)=E.row (xs.take i)
 | [],i=>by simp[Enc.row]
 | x :: xs,0=>by simp[Enc.row]
 | x :: xs,i + 1=>by
   rw[Enc.gZ,Nat.succ_mul,Nat.add_comm,List.take_append,List.take_of_length_le (by rw[E.len]; omega),E.len,Nat.add_sub_cancel_left,Enc.o7 xs i]
   rfl
theorem Enc.Gz {xs:List α} {i:Nat} (hi:i<xs.length) : ((E.row xs).drop (i * E.size)).take E.size=E.cells xs[i]:=by
 rw[Enc.zT,List.drop_eq_getElem_cons hi,Enc.gZ]
 rw[List.take_append_of_le_length (by rw[E.len]; exact Nat.le_refl _),List.take_of_length_le (by rw[E.len]; exact Nat.le_refl _)]
abbrev Sl (M:RM) (v:AV) (xs:List α) : Prop:=aT M E.size v (E.row xs) xs.length
abbrev Ow (M:RM) (base el:Nat) (v:AV) (xs:List α) : Prop:=Own M base el E.size v (E.row xs) xs.length
variable {E} {M M' : RM} {v:AV} {xs:List α}
theorem Sl.elem (h:Sl E M v xs) {i:Nat} (hi:i<xs.length) : ∃ b o,b<M.next∧b∈ak v∧(∀ (kd:IntKind) (K:AV→Prop),dW v (N kd (i:Int)) E.size K=K (.ptr b o))∧M.loads b o E.size=some (E.cells xs[i]):=by
 obtain⟨b,o,cap,rfl,hb,hl⟩:=h.pos (by omega)
 have hsum:i * E.size + E.size≤xs.length * E.size:=by rw[← Nat.succ_mul]; exact Nat.mul_le_mul_right _ hi
 refine⟨b,o + i * E.size,hb,by simp[ak],fun kd K=>?_, ?_⟩
 ·rw[yZ]
  simp only[Int.toNat_natCast]
  exact propext ⟨fun h=>h.2.2,fun h=>⟨by omega,by omega,h⟩⟩
 ·rw[qC hl (i * E.size) E.size hsum,E.Gz hi]
theorem Sl.at (h:Sl E M v xs) {i:Nat} (sz:Nat) (j:Int) (hi:i<xs.length) (hsz:E.size=sz:=by rfl) (hj:j=(i:Int):=by rfl) : ∃ b o,b<M.next∧b∈ak v∧(∀ (kd:IntKind) (K:AV→Prop),dW v (N kd j) sz K=K (.ptr b o))∧M.loads b o sz=some (E.cells xs[i]):=by
 subst hsz hj; exact h.elem hi
theorem kP {b o k:Nat} {cs:List AV} (h:M.loads b o k=some cs) {j:Nat} {x:AV} (hj:cs[j]?=some x) : M.cell b (o + j)=some x:=by
 have hlt:j<k:=by rw[← xN h]; exact(List.getElem?_eq_some_iff.1 hj).1
 rw[D6 h j hlt,hj]
theorem vR {b o k:Nat} {cs:List AV} (h:M.loads b o k=some cs) {x:AV} (hj:cs[0]?=some x) : M.cell b o=some x:=kP h hj
theorem vI {base T bytes:Nat} {zs:List AV} {u:AV} {ys:List α} {K:af} (ho:Ow E M base T v xs) (hb:base≤M.next) (hs:1≤E.size) (hu:Sl E M u ys)
  (hn:(xs.length + ys.length) * bytes≤140737488355328) (hn2:xs.length + ys.length≤140737488355328)
  (hK:∀ v' M',Ow E M' base T v' (xs++ys)→ae (ak v) M M'→M.next≤M'.next→(v'=v∨∀ b∈ak v',M.next≤b)→K v' M') :
  appW T E.size bytes zs false v u M K:=by
 refine wH ho hb hs (aT.kQ hu _) (E.gN ys) (E.nJ ys) hn hn2 ?_
 intro v' M' h1 h2 h3 h4
 refine hK v' M' ?_ h2 h3 h4
 rw[← E.uV] at h1
 simpa [Ow] using h1
theorem DW {b o k:Nat} {cs:List AV} (h:M.loads b o k=some cs) (m:Nat) (hm:m≤k) : M.loads b o m=some (cs.take m):=qC h 0 m (by omega)
theorem Sl.new {T c:Nat} {p:Bool} (ys:List α) : Sl E (M.push (.row (E.row ys) p T 0)) (.slc M.next 0 ys.length (.ex c)) ys :=
 .slc _ _ _ _ _ (by simp[RM.push]) (by rw[RM.iC (RM.bz _) (by rw[E.gN]; omega),List.drop_zero,← E.gN,List.take_length])
theorem GX {base T bytes:Nat} {zs:List AV} {a:α} {K:af} (ho:Ow E M base T v xs) (hb:base≤M.next) (hs:1≤E.size)
  (hn:(xs.length + 1) * bytes≤140737488355328) (hn2:xs.length + 1≤140737488355328)
  (hK:∀ v' M',Ow E M' base T v' (xs++[a])→ae (ak v) M M'→M.next≤M'.next→(v'=v∨∀ b∈ak v',M.next≤b)→K v' M') :
  appW T E.size bytes zs false v (.slc M.next 0 1 (.ex 1)) (M.push (.row (E.cells a) false T 0)) K:=by
 have hk:ae [] M (M.push (.row (E.cells a) false T 0)):=(ae.refl _ _).push _
 refine vI (ys:=[a]) (Own.keep ho hk (by simp)) (Nat.le_trans hb hk.next) hs (by rw[← E.row_one]; exact Sl.new [a]) hn hn2 ?_
 intro v' M' h1 h2 h3 h4
 exact hK v' M' h1 ((hk.mono (by simp)).trans h2) (Nat.le_trans hk.next h3) (h4.imp id fun h b hb=>Nat.le_trans hk.next (h b hb))
@[go_sem] theorem KL {T:Nat} {zs:List AV} {K:RB→(Nat→AV)→Prop} : iQ T 0 zs [] K=K (.row [] false T 0) (fun b=>.slc b 0 0 (.ex 0)):=by
 apply propext; unfold iQ
 constructor
 ·rintro⟨l,h,hk⟩; cases h; exact hk
 ·intro hk; exact⟨_,rfl,hk⟩
theorem IB {T size:Nat} {zs:List AV} {x:AV} {K:RB→(Nat→AV)→Prop} (h:x.cells.length=size) (h1:x.cells.all oneCell=true) (hz:zs.length=size) :
  iQ T 1 zs [(0,size,x)] K=K (.row x.cells false T 0) (fun b=>.slc b 0 1 (.ex 1)):=by
 have:nY (jf zs 1) [(0,size,x)]=some x.cells:=by
  simp only[nY,jf,List.append_nil,h1,h,Nat.zero_add,hz,Nat.le_refl,and_self,if_true,List.take_zero,List.nil_append]
  rw[List.drop_of_length_le (by omega),List.append_nil]
 apply propext; unfold iQ
 constructor
 ·rintro⟨l,h,hk⟩; rw[this] at h; cases h; exact hk
 ·intro hk; exact⟨_,this,hk⟩
theorem Fu {i:Nat} (h:i<9223372036854775807) : IntKind.wrap .i64 ((i:Int) + 1)=((i + 1:Nat) : Int):=by
 rw[gM (by omega) (by omega)]; rfl
end
@[go_sem] theorem DJ:bA [] [] []=some true:=rfl
@[go_sem] theorem IG (ks:List Nat) (k:IntKind) (a b:Int) (xs ys:List AV) : bA (1 :: ks) (N k a :: xs) (N k b :: ys)=if a=b then bA ks xs ys else some false:=by
 simp only[bA,jk,if_true]
 by_cases h:a=b
 ·simp[h]
 ·have:(a == b)=false:=by simp[h]
  simp[this,h]
@[go_sem] theorem Dy (ks:List Nat) (a b:List UInt8) (xs ys:List AV) : bA (2 :: ks) (St a :: xs) (St b :: ys)=if a=b then bA ks xs ys else some false:=by
 simp only[bA,jk]
 by_cases h:a=b
 ·simp[h]
 ·have:(a == b)=false:=by simp[h]
  simp[this,h]
@[go_sem] theorem Ii (ks:List Nat) (a b:Bool) (xs ys:List AV) : bA (3 :: ks) (Bo a :: xs) (Bo b :: ys)=if a=b then bA ks xs ys else some false:=by
 simp only[bA,jk]
 by_cases h:a=b
 ·simp[h]
 ·have:(a == b)=false:=by simp[h]
  simp[this,h]
theorem DC (x:AV) (w:Bool) (f g:af→Prop) (F G:AV→RM→af→Prop) (k:af) :
  az x w f g (fun v M=>az x w (F v M) (G v M) k)=az x w (fun k'=>f fun v M=>F v M k') (fun k'=>g fun v M=>G v M k') k:=by
 unfold az ji
 split
 ·split <;> simp_all
 ·rfl
 ·rfl
theorem kJ {body:(List AV→RM→Prop)→List AV→RM→Prop} {xs:List AV} {M:RM} (I:Nat→List AV→RM→Prop) (n:Nat) (h0:I n xs M)
  (hb:∀ (next:List AV→RM→Prop) m ys M',(∀ m' zs M'',m'<m→I m' zs M''→next zs M'')→I m ys M'→body next ys M') : nT body xs M :=
 ⟨I,n,h0,fun m ys M' hI=>hb _ m ys M' (fun m' zs M'' hlt h=>⟨m',hlt,h⟩) hI⟩
abbrev By (b:UInt8) : AV:=N .u8 (b.toNat:Int)
def BY:Enc UInt8:=⟨1,fun b=>[By b],fun _=>rfl,fun _=>rfl⟩
theorem EI (s:List UInt8) : BY.row s=s.map By:=by
 induction s with
 | nil=>rfl
 | cons b s ih=>rw[Enc.gZ,ih]; rfl
def wO:Enc (List UInt8):=⟨1,fun s=>[St s],fun _=>rfl,fun _=>rfl⟩
theorem GN (s:List (List UInt8)) : wO.row s=s.map (fun s=>St s):=by
 induction s with
 | nil=>rfl
 | cons b s ih=>rw[Enc.gZ,ih]; rfl
def INT:Enc Int:=⟨1,fun n=>[N .i64 n],fun _=>rfl,fun _=>rfl⟩
theorem uR:∀ (s:List UInt8),bC byteOf (s.map By)=some s
 | []=>rfl
 | b :: s=>by
   simp only[List.map_cons,bC,byteOf,uR s]
   simp
section
variable {α:Type} {E:Enc α} {M M' : RM} {v:AV} {xs:List α}
theorem Sl.str {s:List UInt8} (h:Sl BY M v s) {K:AV→Prop} : nH M v K=K (St s) :=
 Bz (aT.oq h (by rw[EI]; exact uR s))
theorem Sl.Ci (h:Sl E M v xs) {i:Nat} (j:Int) (hi:i<xs.length) (hsz:E.size=1:=by rfl) (hj:j=(i:Int):=by rfl) :
  ∃ b o,b<M.next∧b∈ak v∧(∀ (kd:IntKind) (K:AV→Prop),dW v (N kd j) 1 K=K (.ptr b o))∧∀ x,E.cells xs[i]=[x]→M.cell b o=some x:=by
 obtain⟨b,o,h1,h2,h3,h4⟩:=Sl.at h 1 j hi hsz hj
 exact⟨b,o,h1,h2,h3,fun x hx=>vR h4 (by rw[hx]; rfl)⟩
structure Rw (E:Enc α) (M:RM) (b:Nat) (opn:Bool) (el:Nat) (xs:List α) : Prop where
 heap:M.heap b=some (.row (E.row xs) opn el 0)
 lt:b<M.next
theorem Rw.sl {b el:Nat} {p:Bool} {cap:Cap} (h:Rw E M b p el xs) : Sl E M (.slc b 0 xs.length cap) xs:=by
 refine .slc _ _ _ _ _ h.lt ?_
 rw[RM.iC h.heap (by rw[E.gN]; omega),List.drop_zero,← E.gN,List.take_length]
theorem Rw.keep {b el:Nat} {p:Bool} {bs:List Nat} (h:Rw E M b p el xs) (hk:ae bs M M') (hb:b ∉ bs) : Rw E M' b p el xs :=
 ⟨hk.bI h.heap h.lt hb,Nat.lt_of_lt_of_le h.lt hk.next⟩
theorem Rw.new {el:Nat} {p:Bool} (M:RM) (xs:List α) : Rw E (M.push (.row (E.row xs) p el 0)) M.next p el xs :=
 ⟨RM.bz _,by simp[RM.push]⟩
end
@[go_sem] theorem wN (el:Nat) (s:List UInt8) (K:RB→(Nat→AV)→Prop) : pM el (St s) K=K (.row (BY.row s) true el 0) (fun b=>.slc b 0 s.length (.op 1)):=by
 rw[EI]
 apply propext; unfold pM
 constructor
 ·rintro⟨s',h,hk⟩; cases h; exact hk
 ·intro hk; exact⟨s,rfl,hk⟩
def Jw (b:UInt8) : UInt8:=if 65≤b.toNat∧b.toNat≤90 then b + 32 else b
def low (s:List UInt8) : List UInt8:=s.map Jw
structure mo (n:Nat) (bs:List Nat) (M M' : RM) : Prop where
 base:M'.base=M.base
 next:M.next≤M'.next
 heap:∀ c,c<n→c ∉ bs→M'.heap c=M.heap c
theorem mo.refl (n:Nat) (bs:List Nat) (M:RM) : mo n bs M M:=⟨rfl,Nat.le_refl _,fun _ _ _=>rfl⟩
theorem mo.trans {n:Nat} {bs:List Nat} {M M1 M2:RM} (h:mo n bs M M1) (k:mo n bs M1 M2) : mo n bs M M2 :=
 ⟨k.base.trans h.base,Nat.le_trans h.next k.next,fun c h1 h2=>(k.heap c h1 h2).trans (h.heap c h1 h2)⟩
theorem ae.to {bs cs:List Nat} {n:Nat} {M M' : RM} (h:ae bs M M') (hn:n≤M.next) (hb:∀ b∈bs,n≤b∨b∈cs) : mo n cs M M' :=
 ⟨h.base,h.next,fun c h1 h2=>h.heap c (Nat.lt_of_lt_of_le h1 hn) (fun hm=>by rcases hb c hm with h3 | h3; omega; exact h2 h3)⟩
theorem Own.one {M:RM} {n el size n0:Nat} {v:AV} {cs:List AV} (h:Own M n0 el size v cs n) : oneCell v=true:=by
 cases h <;> rfl
def uu (B:Base) (c:ax) : Prop:=∀ {M:RM} {Q:af},M.base=B→Q (Bo true) M→c [] M Q
theorem Own.cells {M:RM} {n el size n0:Nat} {v:AV} {cs:List AV} (h:Own M n0 el size v cs n) : v.cells=[v]:=by
 cases h <;> rfl
section
variable {P:Program} {ρ:Ren} {M:RM} {w w' : World}
theorem aW.below {base:Base} {A:AW} (h:aW P base ρ A w) (hb:Below w.heap.size w w') (hn:base.n≤w.heap.size) : aW P base ρ A w' where
 dom b i hbi:=⟨(h.dom b i hbi).1,Nat.lt_of_lt_of_le (h.dom b i hbi).2 hb.size⟩
 blk b i x hbi hx:=let ⟨o,ho,hr⟩:=h.blk b i x hbi hx; ⟨o,by rw[hb.block _ (h.dom b i hbi).2]; exact ho,hr⟩
 sep:=h.sep
 top:=h.top
 lo:=h.lo
 inv:=base.low w w' (fun c hc=>hb.block c (Nat.lt_of_lt_of_le hc hn)) h.inv
theorem Step.of_below {base n:Nat} (hb:Below w.heap.size w w') (hn:base≤w.heap.size) : Step base n ρ w ρ w' where
 os:=hb.os
 tape:=hb.tape
 output:=hb.output
 size:=hb.size
 frame c hc _:=hb.block c hc
 ext _ _:=rfl
 fresh b i h:=.inl ⟨b,i,h,rfl⟩
 low c hc:=hb.block c (Nat.lt_of_lt_of_le hc hn)
theorem After.below (h:bg P ρ M w) (hb:Below w.heap.size w w') : After P M ρ w M ρ w':=by
 obtain⟨A,hA⟩:=h
 refine dL hA (Step.of_below hb hA.size) (hA.rel.below hb hA.size) rfl hA.next (Nat.le_refl _) fun b x hx=>?_
 rcases hA.blk b x hx with h | ⟨c,rfl,_⟩
 ·exact .inl h
 ·exact .inr ⟨c,rfl,hx⟩
theorem dh.Gd {f:FuncId} {args:List AV} {v:AV} {Q:af} (hP:vL P f)
  (h:∀ (ρ:Ren) (w:World) (us:List Value),av ρ args us→bg P ρ M w→Calls P f ⟨us⟩ w fun e w'=>∃ v',e=.returned v'∧Below w.heap.size w w'∧aa ρ v v') (hQ:Q v M) : dh P f args M Q:=by
 refine⟨hP,fun ρ w us hargs hw=>(h ρ w us hargs hw).mono fun e w' hR=>?_⟩
 obtain⟨v',rfl,hb,hv⟩:=hR
 exact⟨v',v,M,ρ,rfl,After.below hw hb,hv,hQ⟩
end
structure kG (α:Type) where
 size:Nat
 rel:RM→List AV→α→(Nat→Prop)→Prop
 len:∀ {M cs a S},rel M cs a S→cs.length=size
 one:∀ {M cs a S},rel M cs a S→cs.all oneCell=true
 mono:∀ {M cs a S S'},rel M cs a S→(∀ b,S b→S' b)→rel M cs a S'
 lt:∀ {M cs a S},rel M cs a S→rel M cs a (fun b=>S b∧b<M.next)
 keep:∀ {M M' cs a S bs},rel M cs a S→ae bs M M'→(∀ b∈bs,¬ S b)→rel M' cs a S
def Enc.uB {α:Type} (E:Enc α) : kG α where
 size:=E.size
 rel _ cs a _:=cs=E.cells a
 len h:=by subst h; exact E.len _
 one h:=by subst h; exact E.one _
 mono h _:=h
 lt h:=h
 keep h _ _:=h
inductive bM {α:Type} (R:kG α) (M:RM) (S:Nat→Prop) : List AV→List α→Prop
 | nil:bM R M S [] []
 | cons {cs ds:List AV} {a:α} {xs:List α} : R.rel M cs a S→bM R M S ds xs→bM R M S (cs++ds) (a :: xs)
section
variable {α:Type} {R:kG α} {M M' : RM} {S S' : Nat→Prop} {cs ds:List AV} {xs ys:List α} {a:α}
theorem bM.len (h:bM R M S cs xs) : cs.length=xs.length * R.size:=by
 induction h with
 | nil=>simp
 | cons h1 _ ih=>rw[List.length_append,R.len h1,ih,List.length_cons,Nat.succ_mul,Nat.add_comm]
theorem bM.one (h:bM R M S cs xs) : cs.all oneCell=true:=by
 induction h with
 | nil=>rfl
 | cons h1 _ ih=>rw[List.all_append,R.one h1,ih]; rfl
theorem bM.mono (h:bM R M S cs xs) (hs:∀ b,S b→S' b) : bM R M S' cs xs:=by
 induction h with
 | nil=>exact .nil
 | cons h1 _ ih=>exact .cons (R.mono h1 hs) ih
theorem bM.lt (h:bM R M S cs xs) : bM R M (fun b=>S b∧b<M.next) cs xs:=by
 induction h with
 | nil=>exact .nil
 | cons h1 _ ih=>exact .cons (R.lt h1) ih
theorem bM.keep {bs:List Nat} (h:bM R M S cs xs) (hk:ae bs M M') (hb:∀ b∈bs,¬ S b) : bM R M' S cs xs:=by
 induction h with
 | nil=>exact .nil
 | cons h1 _ ih=>exact .cons (R.keep h1 hk hb) ih
theorem bM.append (h:bM R M S cs xs) (k:bM R M S ds ys) : bM R M S (cs++ds) (xs++ys):=by
 induction h with
 | nil=>exact k
 | cons h1 _ ih=>rw[List.append_assoc]; exact .cons h1 ih
theorem bM.single (h:R.rel M cs a S) : bM R M S cs [a]:=by
 have:=bM.cons h .nil
 simpa using this
theorem bM.get (h:bM R M S cs xs) : ∀ {i:Nat} (hi:i<xs.length),R.rel M ((cs.drop (i * R.size)).take R.size) xs[i] S:=by
 induction h with
 | nil=>intro i hi; simp at hi
 | cons h1 h2 ih =>
   rename_i c1 d1 a1 x1
   intro i hi
   cases i with
   | zero =>
     rw[Nat.zero_mul,List.drop_zero,List.take_append_of_le_length (by rw[R.len h1]; exact Nat.le_refl _),List.take_of_length_le (by rw[R.len h1]; exact Nat.le_refl _)]
     exact h1
   | succ i =>
     rw[Nat.succ_mul,Nat.add_comm,← List.drop_drop,List.drop_left' (R.len h1)]
     exact ih (by simpa using hi)
theorem bM.take (h:bM R M S cs xs) : ∀ (k:Nat),bM R M S (cs.take (k * R.size)) (xs.take k):=by
 induction h with
 | nil=>intro k; simp; exact .nil
 | cons h1 h2 ih =>
   intro k
   cases k with
   | zero=>simp; exact .nil
   | succ k =>
     rw[Nat.succ_mul,Nat.add_comm,List.take_append,List.take_of_length_le (by rw[R.len h1]; omega),R.len h1,Nat.add_sub_cancel_left]
     exact .cons h1 (ih k)
theorem bM.drop (h:bM R M S cs xs) : ∀ (k:Nat),bM R M S (cs.drop (k * R.size)) (xs.drop k):=by
 induction h with
 | nil=>intro k; simp; exact .nil
 | cons h1 h2 ih =>
   intro k
   cases k with
   | zero=>simp; exact .cons h1 h2
   | succ k =>
     rw[Nat.succ_mul,Nat.add_comm,← List.drop_drop,List.drop_left' (R.len h1)]
     exact ih k
theorem bM.cells {E:Enc α} : ∀ {cs:List AV} {xs:List α},bM E.uB M S cs xs→cs=E.row xs
 | _,_,.nil=>rfl
 | _,_,.cons h1 h2=>by rw[Enc.gZ,bM.cells h2]; rw[show _=_ from h1]
def jF (R:kG α) (M:RM) (v:AV) (xs:List α) (S:Nat→Prop) : Prop :=
 ∃ cs,aT M R.size v cs xs.length∧(∀ b∈ak v,S b)∧bM R M S cs xs
theorem aT.lt {size n:Nat} {v:AV} (h:aT M size v cs n) : ∀ b∈ak v,b<M.next:=by
 cases h with
 | nil=>intro b hb; simp[ak] at hb
 | emp=>intro b hb; simp[ak] at hb
 | slc b o n cap cs hb _=>intro c hc; simp[ak] at hc; omega
theorem aT.one {size n:Nat} {v:AV} (h:aT M size v cs n) : oneCell v=true:=by
 cases h <;> rfl
theorem aT.cells {size n:Nat} {v:AV} (h:aT M size v cs n) : v.cells=[v]:=by
 cases h <;> rfl
variable {v:AV}
theorem jF.mono (h:jF R M v xs S) (hs:∀ b,S b→S' b) : jF R M v xs S':=let ⟨cs,h1,h2,h3⟩:=h; ⟨cs,h1,fun b hb=>hs b (h2 b hb),h3.mono hs⟩
theorem jF.lt (h:jF R M v xs S) : jF R M v xs (fun b=>S b∧b<M.next):=let ⟨cs,h1,h2,h3⟩:=h; ⟨cs,h1,fun b hb=>⟨h2 b hb,h1.lt b hb⟩,h3.lt⟩
theorem jF.keep {bs:List Nat} (h:jF R M v xs S) (hk:ae bs M M') (hb:∀ b∈bs,¬ S b) : jF R M' v xs S :=
 let ⟨cs,h1,h2,h3⟩:=h; ⟨cs,h1.keep hk (fun b hv hbs=>hb b hbs (h2 b hv)),h2,h3.keep hk hb⟩
theorem jF.len (h:jF R M v xs S) {K:AV→Prop} : eO v K=K (N .i64 xs.length):=let ⟨cs,h1,_,_⟩:=h; h1.len
theorem jF.one (h:jF R M v xs S) : oneCell v=true:=let ⟨cs,h1,_,_⟩:=h; h1.one
theorem jF.cells (h:jF R M v xs S) : v.cells=[v]:=let ⟨cs,h1,_,_⟩:=h; h1.cells
theorem jF.at (h:jF R M v xs S) {i:Nat} (sz:Nat) (j:Int) (hi:i<xs.length) (hsz:R.size=sz:=by rfl) (hj:j=(i:Int):=by rfl) :
  ∃ b o cs,b<M.next∧b∈ak v∧(∀ (kd:IntKind) (K:AV→Prop),dW v (N kd j) sz K=K (.ptr b o))∧M.loads b o sz=some cs∧R.rel M cs xs[i] S:=by
 subst hsz hj
 obtain⟨cs,h1,h2,h3⟩:=h
 obtain⟨b,o,cap,rfl,hb,hl⟩:=h1.pos (by omega)
 have hsum:i * R.size + R.size≤xs.length * R.size:=by rw[← Nat.succ_mul]; exact Nat.mul_le_mul_right _ hi
 refine⟨b,o + i * R.size,(cs.drop (i * R.size)).take R.size,hb,by simp[ak],fun kd K=>?_, ?_,h3.get hi⟩
 ·rw[yZ]
  simp only[Int.toNat_natCast]
  exact propext ⟨fun h=>h.2.2,fun h=>⟨by omega,by omega,h⟩⟩
 ·rw[qC hl (i * R.size) R.size hsum]
def kG.slice (R:kG α) : kG (List α) where
 size:=1
 rel M cs xs S:=∃ v,cs=[v]∧jF R M v xs S
 len h:=by obtain⟨v,rfl,_⟩:=h; rfl
 one h:=by obtain⟨v,rfl,h⟩:=h; simp[h.one]
 mono h hs:=by obtain⟨v,rfl,h⟩:=h; exact⟨v,rfl,h.mono hs⟩
 lt h:=by obtain⟨v,rfl,h⟩:=h; exact⟨v,rfl,h.lt⟩
 keep h hk hb:=by obtain⟨v,rfl,h⟩:=h; exact⟨v,rfl,h.keep hk hb⟩
def jH (R:kG α) (M:RM) (base el:Nat) (v:AV) (xs:List α) (S:Nat→Prop) : Prop :=
 ∃ cs,Own M base el R.size v cs xs.length∧bM R M S cs xs
theorem jH.mono {base el:Nat} (h:jH R M base el v xs S) (hs:∀ b,S b→S' b) : jH R M base el v xs S':=let ⟨cs,h1,h2⟩:=h; ⟨cs,h1,h2.mono hs⟩
theorem jH.lt {base el:Nat} (h:jH R M base el v xs S) : jH R M base el v xs (fun b=>S b∧b<M.next):=let ⟨cs,h1,h2⟩:=h; ⟨cs,h1,h2.lt⟩
theorem jH.keep {base el:Nat} {bs:List Nat} (h:jH R M base el v xs S) (hk:ae bs M M') (hb:∀ b∈bs,¬ S b) (hv:∀ b∈ak v,b ∉ bs) : jH R M' base el v xs S :=
 let ⟨cs,h1,h2⟩:=h; ⟨cs,h1.keep hk hv,h2.keep hk hb⟩
theorem jH.len {base el:Nat} (h:jH R M base el v xs S) {K:AV→Prop} : eO v K=K (N .i64 xs.length):=let ⟨cs,h1,_⟩:=h; h1.uz.len
theorem jH.cells {base el:Nat} (h:jH R M base el v xs S) : v.cells=[v]:=let ⟨cs,h1,_⟩:=h; h1.cells
theorem jH.one {base el:Nat} (h:jH R M base el v xs S) : oneCell v=true:=let ⟨cs,h1,_⟩:=h; h1.one
theorem jH.app {base T bytes:Nat} {zs:List AV} {K:af} (ho:jH R M base T v xs S) (ha:R.rel M cs a S) (hb:base≤M.next) (hs:1≤R.size)
  (hd:∀ b∈ak v,¬ S b) (hS:∀ b,S b→b<M.next)
  (hn:(xs.length + 1) * bytes≤140737488355328) (hn2:xs.length + 1≤140737488355328)
  (hK:∀ v' M',jH R M' base T v' (xs++[a]) S→ae (ak v) M M'→M.next≤M'.next→(v'=v∨∀ b∈ak v',M.next≤b)→(∀ b∈ak v',¬ S b)→K v' M') :
  appW T R.size bytes zs false v (.slc M.next 0 1 (.ex 1)) (M.push (.row cs false T 0)) K:=by
 obtain⟨ds,h1,h2⟩:=ho
 have hk:ae [] M (M.push (.row cs false T 0)):=(ae.refl _ _).push _
 have hl:=R.len ha
 have hnl:kQ (M.push (.row cs false T 0)) R.size zs false (.slc M.next 0 1 (.ex 1))=some (1,cs):=by
  simp only[kQ,Nat.one_mul]
  rw[RM.iC (RM.bz _) (by omega),List.drop_zero,← hl,List.take_length]
 refine wH (h1.keep hk (by simp)) (Nat.le_trans hb hk.next) hs hnl (by rw[hl,Nat.one_mul]) (R.one ha) hn hn2 ?_
 intro v' M' q1 q2 q3 q4
 have kk:ae (ak v) M M':=(hk.mono (by simp)).trans q2
 refine hK v' M' ⟨_,by simpa using q1, ?_⟩ kk (Nat.le_trans hk.next q3) (q4.imp id fun h b hb=>Nat.le_trans hk.next (h b hb)) ?_
 ·exact(h2.keep kk hd).append (bM.single (R.keep ha kk hd))
 ·rcases q4 with rfl | q4
  ·exact hd
  ·intro b hb hSb
   have:=q4 b hb
   have:=hS b hSb
   simp only[RM.push] at *
   omega
end
section
variable {M M' : RM} {b i n e f:Nat} {l:List AV} {p:Bool} {x:AV}
theorem aB {K:AV→Prop} (h:M.heap b=some (.row l p e f)) (hx:l[i]?=some x) : aD M (.ptr b i) K=K x:=by
 rw[eX,RM.cell_of h,hx]; simp
theorem oh {K:AV→Prop} (h:M.heap b=some (.row l p e f)) (hn:l.length=n) : kg M (.ptr b 0) n K=K (.agg l):=by
 rw[wZ,RM.oJ h]
 have:jA (some l) 0 n=some l:=by simp[jA,← hn]
 rw[this]; simp
theorem wU {K:RM→Prop} (h:M.heap b=some (.row l p e 0)) (hi:i<l.length) (hc:x.cells=[x]) (h1:oneCell x=true) : cz M (.ptr b i) x 1 K=K (M.put b (.row (l.set i x) p e 0)):=by
 rw[uH,hc,RM.pO h,lT (by simp only[List.length_cons,List.length_nil]; omega) (Nat.zero_le _) (by simp[h1])]
 have:l.take i++[x]++l.drop (i + 1)=l.set i x:=by
  rw[List.set_eq_take_append_cons_drop,if_pos hi]; simp
 simp[this]
theorem eu {K:RM→Prop} (l' : List AV) (h:M.heap b=some (.row l p e 0)) (hi:i<l.length) (hc:x.cells=[x]) (h1:oneCell x=true) (hl:l.set i x=l') : cz M (.ptr b i) x 1 K=K (M.put b (.row l' p e 0)):=by
 rw[wU h hi hc h1,hl]
theorem oZ {K:RM→Prop} (h:M.heap b=some (.row l p e 0)) (hn:x.cells.length=n) (hl:l.length=n) (h1:x.cells.all oneCell=true) : cz M (.ptr b 0) x n K=K (M.put b (.row x.cells p e 0)):=by
 rw[uH,RM.pO h,xX (by rw[hn,hl]) h1]
 simp[hn]
theorem Bq {c:Nat} {y z:RB} (h:M.heap b=some y) (hb:b≠c) : (M.put c z).heap b=some y:=by
 simp only[RM.put]; rw[if_neg hb]; exact h
theorem aZ (y:RB) : (M.put b y).heap b=some y:=RM.Ac _ _
theorem lY {y z:RB} (h:M.heap b=some y) (hb:b<M.next) : (M.push z).heap b=some y:=by
 simp only[RM.push]; rw[if_neg (by omega)]; exact h
theorem aM (y:RB) : (M.push y).next=M.next + 1:=rfl
theorem Fs (c:Nat) (y:RB) : (M.put c y).next=M.next:=rfl
theorem ae.new {bs:List Nat} (h:ae bs M M') {b:Nat} (y:RB) (hb:M.next≤b) : ae bs M (M'.put b y):=h.put y (.inl hb)
end
variable {M:RM}
theorem oC {a:AV} {l:List AV} {K:AV→Prop} : ik (.tup (a :: l)) 0 K=K a:=by rw[zN]; simp
theorem qU {a b:AV} {l:List AV} {K:AV→Prop} : ik (.tup (a :: b :: l)) 1 K=K b:=by rw[zN]; simp
theorem j3 {p q:Prop} : bB (Bo true) p q=p:=by simp[Az]
theorem je {p q:Prop} : bB (Bo false) p q=q:=by simp[Az]
theorem eG {b:Bool} {p q:Prop} (h1:b=true→p) (h2:b=false→q) : bB (Bo b) p q:=⟨h1,h2⟩
theorem wM {f g:af→Prop} {k:af} : az (Bo true) true f g k=f k:=rfl
theorem D8 {f g:af→Prop} {k:af} : az (Bo false) false f g k=f k:=rfl
theorem Ea {f g:af→Prop} {k:af} : az (Bo true) false f g k=g k:=rfl
theorem xO {f g:af→Prop} {k:af} : az (Bo false) true f g k=g k:=rfl
theorem CX {a b:AV} {K:AV→Prop} : bQ (Bo true) a b K=K a:=by rw[AO]; rfl
theorem bU {a b:AV} {K:AV→Prop} : bQ (Bo false) a b K=K b:=by rw[AO]; rfl
theorem aT.known {size:Nat} {v:AV} {cs:List AV} {n:Nat} (h:aT M size v cs n) : known v=true:=by
 cases h <;> rfl
theorem oQ {t:TypeId} {cs:List AV} {K:RB→(Nat→AV)→Prop} (h1:cs.all oneCell=true) (h2:1≤cs.length) : oV t (.agg cs) K=K (.row cs false t 0) (fun b=>.ptr b 0):=by
 unfold oV
 exact propext ⟨fun h=>h.2.2,fun h=>⟨h1,h2,h⟩⟩
def kG.pre {α β:Type} (E:Enc α) (R:kG β) : kG (α × β) where
 size:=E.size + R.size
 rel M cs a S:=∃ ds,cs=E.cells a.1++ds∧R.rel M ds a.2 S
 len h:=by obtain⟨ds,rfl,h⟩:=h; rw[List.length_append,E.len,R.len h]
 one h:=by obtain⟨ds,rfl,h⟩:=h; rw[List.all_append,E.one,R.one h]; rfl
 mono h hs:=by obtain⟨ds,rfl,h⟩:=h; exact⟨ds,rfl,R.mono h hs⟩
 lt h:=by obtain⟨ds,rfl,h⟩:=h; exact⟨ds,rfl,R.lt h⟩
 keep h hk hb:=by obtain⟨ds,rfl,h⟩:=h; exact⟨ds,rfl,R.keep h hk hb⟩
def kG.post {α β:Type} (R:kG α) (E:Enc β) : kG (α × β) where
 size:=R.size + E.size
 rel M cs a S:=∃ ds,cs=ds++E.cells a.2∧R.rel M ds a.1 S
 len h:=by obtain⟨ds,rfl,h⟩:=h; rw[List.length_append,E.len,R.len h]
 one h:=by obtain⟨ds,rfl,h⟩:=h; rw[List.all_append,E.one,R.one h]; rfl
 mono h hs:=by obtain⟨ds,rfl,h⟩:=h; exact⟨ds,rfl,R.mono h hs⟩
 lt h:=by obtain⟨ds,rfl,h⟩:=h; exact⟨ds,rfl,R.lt h⟩
 keep h hk hb:=by obtain⟨ds,rfl,h⟩:=h; exact⟨ds,rfl,R.keep h hk hb⟩
def kG.map {α β:Type} (R:kG α) (g:β→α) : kG β where
 size:=R.size
 rel M cs a S:=R.rel M cs (g a) S
 len h:=R.len h
 one h:=R.one h
 mono h hs:=R.mono h hs
 lt h:=R.lt h
 keep h hk hb:=R.keep h hk hb
end Go.Ab
namespace Go.Ab
open Go Go.RowKit Go.ChangeShapes
section
variable {H:Type} {enc:TypeId × Value→H} {P:Program} {w:World} {base:Nat} {spare:Nat→Bool} {held:Bool}
end
end Go.Ab
set_option maxRecDepth 10000
namespace Go.Ab
open Go Go.ChangeShapes
end Go.Ab
namespace Go.Ab
open Go Go.RowKit
section
variable {P:Program} {f:FuncId} {fn:Func} {w w' : World} {M:RM}
theorem pV {args:Array Value} {s:Array Value→Sem Value} {v:Value} (hf:P.funcs[f]?=some fn) (hng:fn.name ≠ "runtime.NumGoroutine") (hb:fn.body=none)
  (h1:Extern.findNext fn=none) (h2:Extern.find fn=some s) (h3:(s args).run P w=.ok v w') : (callFunc f args).run P w=.ok (.value v) w':=by
 have tN:(fn.name == "runtime.NumGoroutine")=false:=by simpa using hng
 simp only[callFunc,Sem.run_bind,run_program,Result.andThen_ok,hf,tN,Bool.false_eq_true,if_false,hb,Option.isNone_none,if_true,mark,Sem.run,h1,h2,h3,Sem.run_pure]
theorem rT {a:Addr} {n:Int} (h:w.cell? a=some (.int .i64 n)) : (Extern.Atomic.read (.int .i64) a).run P w=.ok (.int .i64 n) w:=by
 have:(load a .atomic).run P w=.ok (.int .i64 n) w:=by simp[load,Sem.run,h]
 unfold Extern.Atomic.read
 simp only[Sem.run_bind,this,Result.andThen_ok,if_true,Sem.run_pure]
theorem AB {a:Addr} {v u:Value} (hc:w.cell? a=some u) (h:(storeCells a [v]).run P w=.ok () w') : (store a v .atomic).run P w=.ok () w':=by
 have he:(store a v .atomic).run P w=(store a v).run P w:=by
  cases v <;> simp only[store,Sem.run,hc]
 rw[he]
 have h0:a.add 0=a:=by simp[Addr.add]
 unfold storeCells at h
 rw[h0,Sem.run_bind] at h
 revert h
 cases(store a v).run P w with
 | ok x w1=>intro h; exact h
 | halt _ _=>intro h; cases h
theorem sH (hf:P.funcs[f]?=some fn) (hng:fn.name ≠ "runtime.NumGoroutine") (hb:fn.body=none) (h1:Extern.findNext fn=none) (h2:Extern.find fn=some (Extern.Atomic.update (Op.intArith .add) .i64 true))
  {b o el:Nat} {l:List AV} {opn:Bool} {x y:Int} (hh:M.heap b=some (.row l opn el 0)) (hl:l[o]?=some (N .i64 x)) :
  vO P f [.ptr b o,N .i64 y] M (N .i64 (IntKind.wrap .i64 (x + y))) (M.put b (.row (l.set o (N .i64 (IntKind.wrap .i64 (x + y)))) opn el 0)):=by
 intro ρ w us hus hw
 cases hus with
 | cons _ u1 _ us r1 hus =>
 cases hus with
 | cons _ u2 _ us r2 hus =>
 cases hus
 obtain⟨rfl,_⟩:=aj r2
 obtain⟨i,hb',hc⟩:=aX r1
 have hlt:=(List.getElem?_eq_some_iff.1 hl).1
 have hld:M.loads b o 1=some [N .i64 x]:=by
  rw[RM.oJ hh]
  have:=(List.getElem?_eq_some_iff.1 hl).2
  simp only[jA]
  rw[if_pos (by omega),List.drop_eq_getElem_cons hlt,this]; rfl
 obtain⟨u,hu,hcell⟩:=kM hw hb' hld
 obtain⟨rfl,_⟩:=aj hu
 have hst:M.stores b o [N .i64 (IntKind.wrap .i64 (x + y))]=some (M.put b (.row (l.set o (N .i64 (IntKind.wrap .i64 (x + y)))) opn el 0)):=by
  rw[RM.pO hh,lT (by simp; omega) (Nat.zero_le _) rfl]
  have:l.take o++[N .i64 (IntKind.wrap .i64 (x + y))]++l.drop (o + 1)=l.set o (N .i64 (IntKind.wrap .i64 (x + y))):=by
   rw[List.set_eq_take_append_cons_drop,if_pos hlt]; simp
  simp[this]
 obtain⟨w1,hrun,haf⟩:=qP hw hb' (vs:=[.int .i64 (IntKind.wrap .i64 (x + y))]) (.cons _ _ _ _ (.sc _ rfl) .nil) hst
 refine⟨ρ,w1,.int .i64 (IntKind.wrap .i64 (x + y)),pV hf hng hb h1 h2 ?_,haf,.sc _ rfl⟩
 have hs:=AB hcell (hrun _ rfl)
 rw[hc]
 show((asAddr (.pointer (some ⟨i.cb,i.sh + o,none⟩)) >>= fun a=>Extern.Atomic.read (.int .i64) a >>= fun old=>asInt old >>= fun p=>asInt (.int .i64 y) >>= fun q=>Op.intArith .add .i64 p q >>= fun new=>store a new .atomic >>= fun _=>pure new) : Sem Value).run P w=_
 simp only[asAddr,Sem.run_bind,Sem.run_pure,Result.andThen_ok,rT hcell,asInt,asIntOf,Op.intArith,hs]
theorem ru (hf:P.funcs[f]?=some fn) (hng:fn.name ≠ "runtime.NumGoroutine") (hb:fn.body=none) (h1:Extern.findNext fn=none) (h2:Extern.find fn=some (Extern.Atomic.loadT (.int .i64)))
  {b o el fz:Nat} {l:List AV} {opn:Bool} {x:Int} (hh:M.heap b=some (.row l opn el fz)) (hl:l[o]?=some (N .i64 x)) :
  BN P f [.ptr b o] M (N .i64 x):=by
 intro ρ w us hus hw
 cases hus with
 | cons _ u1 _ us r1 hus =>
 cases hus
 obtain⟨i,hb',hc⟩:=aX r1
 have hlt:=(List.getElem?_eq_some_iff.1 hl).1
 have hld:M.loads b o 1=some [N .i64 x]:=by
  rw[RM.oJ hh]
  have:=(List.getElem?_eq_some_iff.1 hl).2
  simp only[jA]
  rw[if_pos (by omega),List.drop_eq_getElem_cons hlt,this]; rfl
 obtain⟨u,hu,hcell⟩:=kM hw hb' hld
 obtain⟨rfl,_⟩:=aj hu
 refine⟨.int .i64 x,pV hf hng hb h1 h2 ?_,.sc _ rfl⟩
 rw[hc]
 show((asAddr (.pointer (some ⟨i.cb,i.sh + o,none⟩)) >>= fun a=>Extern.Atomic.read (.int .i64) a) : Sem Value).run P w=_
 simp only[asAddr,Sem.run_bind,Sem.run_pure,Result.andThen_ok,rT hcell]
theorem sW (hf:P.funcs[f]?=some fn) (hng:fn.name ≠ "runtime.NumGoroutine") (hb:fn.body=none) (h1:Extern.findNext fn=none) (h2:Extern.find fn=some Extern.MapsClone.clone)
  {t b cl:Nat} {es:List (AV × AV × Nat)} (hh:M.heap b=some (.map es cl)) :
  vO P f [.ifc t (.map b)] M (.ifc t (.map M.next)) (M.push (.map es cl)):=by
 intro ρ w us hus hw
 cases hus with
 | cons _ u1 _ us r1 hus =>
 cases hus
 cases r1 with
 | ifc _ _ v' hv =>
 obtain⟨A,hA⟩:=hw
 cases hv with
 | map _ i hbi =>
 obtain⟨fs,hob,hfs⟩:=nK hA hbi hh
 have hnew:ρ A.next=none:=hA.rel.fresh (Nat.le_refl _)
 have hle:ρ.le (ρ.add A.next ⟨w.heap.size,0,0,0⟩):=Ren.kF hnew
 obtain⟨q1,q2⟩:=mF hA.rel (Nat.le_trans (show M.base.n≤M.lo from Nat.le_refl _) hA.size) (x:=.map es cl) (ob:=.map fs cl) (i:=⟨w.heap.size,0,0,0⟩) rfl
  ⟨fs,rfl,hfs.mono hle⟩
 obtain⟨k1,k2,k3⟩:=RM.lL hA (x:=.map es cl) (y:=.map es cl) ⟨rfl,rfl⟩
 have hget:(getObj i.cb).run P w=.ok (.map fs cl) w:=by simp[getObj,Sem.run,hob]
 refine⟨_,w.alloc (.map fs cl),.iface t (.map (some w.heap.size)),pV hf hng hb h1 h2 ?_,dL hA q2 q1 k1 k2 (by simp[AW.push]) k3,.ifc _ _ _ ?_⟩
 ·show((getObj i.cb >>= fun o=>_) : Sem Value).run P w=_
  simp only[Sem.run_bind,hget,Result.andThen_ok]
  rfl
 ·exact .map _ ⟨w.heap.size,0,0,0⟩ (by rw[← hA.next]; simp[Ren.add])
end
end Go.Ab
set_option maxRecDepth 100000
namespace Go.Ab.Dot
open Go Go.Ab
def yT (p1:Nat) (a0:AV) (M0:RM) (Q:af) : Prop :=
 bP false 2 a0 (.sc (.slice none 0 0)) fun h =>
 bB h (
 Q (.sc (.slice none 0 0)) M0) (
 iQ p1 0 [(N .u8 0)] [] fun g e =>
 fZ g e M0 fun i c =>
 appW p1 1 1 [(N .u8 0)] false i a0 c fun j d =>
 Q j d)
theorem Eh {T size bytes:Nat} {zs:List AV} {M0:RM} {a0:AV} {cs:List AV} {n:Nat} (h:aT M0 size a0 cs n) (h1:cs.all oneCell=true) (hs:1≤size) (hn:n * bytes≤140737488355328) (hn2:n≤140737488355328) {Q:af}
  (hQ:∀ v M',Own M' M0.next T size v cs n→ae [] M0 M'→Q v M') :
  bP false 2 a0 bR fun t4=>bB t4 (Q bR M0) (iQ T 0 zs [] fun r f=>fZ r f M0 fun t5 M=>appW T size bytes zs false t5 a0 M fun t7 M_0=>Q t7 M_0):=by
 rcases h.qO false with⟨rfl,e⟩ | ⟨hne,e⟩
 ·rw[e]
  cases h
  exact⟨fun _=>hQ _ _ .nil (ae.refl _ _),fun h=>by simp at h⟩
 ·rw[e]
  refine⟨fun h=>by simp at h,fun _=>⟨[],rfl, ?_⟩⟩
  have hk:ae [] M0 (M0.push (.row [] false T 0)):=(ae.refl _ _).push _
  refine wH (base:=M0.next) (Own.lit M0 (Nat.le_refl _)) (by simp[RM.push]) hs ((h.keep hk (by simp)).kQ _) h.length h1 (by rw[Nat.zero_add]; exact hn) (by omega) ?_
  intro v' M' ho hk' hnx hv
  exact hQ v' M' (by simpa using ho) (hk.sD hk' (by simp[ak]))
def Hm (T size bytes:Nat) (c:ax) : Prop:=∀ {M0:RM} {a0:AV} {cs:List AV} {n:Nat},aT M0 size a0 cs n→cs.all oneCell=true→n * bytes≤140737488355328→n≤140737488355328→∀ {Q:af},
 (∀ v M',Own M' M0.next T size v cs n→ae [] M0 M'→Q v M')→c [a0] M0 Q
end Go.Ab.Dot
set_option maxRecDepth 10000
namespace Go.Ab.Dk
open Go Go.Ab
def Gg (f:(List AV→RM→Prop)→Prop) (g:List AV→RM→Prop) : Prop:=f g
theorem uo (f:(List AV→RM→Prop)→Prop) (g:List AV→RM→Prop) : q9 f g=Gg f g:=rfl
theorem tZ {H:(List AV→RM→Prop)→Prop} {G:List AV→RM→Prop} (P:List AV→RM→Prop) (hT:∀ xs M,P xs M→G xs M)
  (hH:∀ J:List AV→RM→Prop,(∀ xs M,P xs M→J xs M)→H J) : Gg H G:=hH G hT
section
variable {i j:Nat} {K:AV→Prop}
theorem addN (h:i + j<4611686018427387904) : aI .add (N .i64 (i:Int)) (N .i64 (j:Int)) K=K (N .i64 ((i + j:Nat) : Int)):=by
 rw[zD,gM (by omega) (by omega),Int.natCast_add]
theorem add1 (h:i<4611686018427387904) : aI .add (N .i64 (i:Int)) (N .i64 1) K=K (N .i64 ((i + 1:Nat) : Int)):=by
 rw[zD,Fu (by omega)]
theorem JF (h:j≤i) (hb:i<4611686018427387904) : aI .sub (N .i64 (i:Int)) (N .i64 (j:Int)) K=K (N .i64 ((i - j:Nat) : Int)):=by
 rw[sG,gM (by omega) (by omega),show(i:Int) - (j:Int)=((i - j:Nat) : Int) by omega]
theorem CW:aI .lss (N .i64 (i:Int)) (N .i64 (j:Int)) K=K (Bo (decide (i<j))):=by rw[tQ,show decide ((i:Int)<(j:Int))=decide (i<j) by simp]
theorem JD:aI .gtr (N .i64 (i:Int)) (N .i64 (j:Int)) K=K (Bo (decide (i > j))):=by rw[rV,show decide ((i:Int) > (j:Int))=decide (i > j) by simp]
theorem J4:aI .leq (N .i64 (i:Int)) (N .i64 (j:Int)) K=K (Bo (decide (i≤j))):=by rw[F5,show decide ((i:Int)≤(j:Int))=decide (i≤j) by simp]
theorem HV:aI .geq (N .i64 (i:Int)) (N .i64 (j:Int)) K=K (Bo (decide (i ≥ j))):=by rw[Ff,show decide ((i:Int) ≥ (j:Int))=decide (i ≥ j) by simp]
end
section
variable {M:RM} {c p:Bool} {f:af→Prop} {P:RM→Prop} {G:AV→RM→Prop}
theorem fo (hf:c=true→∀ k:af,k (Bo p) M→f k) (hG:G (Bo (c && p)) M) :
  az (Bo c) true f (fun k=>k .undef M) (fun t M'=>bQ (Bo c) t (Bo false) fun u=>G u M'):=by
 cases c with
 | false=>rw[xO]; dsimp only; rw[bU]; exact hG
 | true=>rw[wM]; exact hf rfl _ (by rw[CX]; exact hG)
theorem HY (hf:c=false→∀ k:af,k (Bo p) M→f k) (hG:G (Bo (c || p)) M) :
  az (Bo c) false f (fun k=>k .undef M) (fun t M'=>bQ (Bo c) (Bo true) t fun u=>G u M'):=by
 cases c with
 | true=>rw[Ea]; dsimp only; rw[CX]; exact hG
 | false=>rw[D8]; exact hf rfl _ (by rw[bU]; exact hG)
theorem Iy (h0:P M) (hf:c=true→∀ k:af,(∀ M',P M'→k (Bo p) M')→f k) (hG:∀ M',P M'→G (Bo (c && p)) M') :
  az (Bo c) true f (fun k=>k .undef M) (fun t M'=>bQ (Bo c) t (Bo false) fun u=>G u M'):=by
 cases c with
 | false=>rw[xO]; dsimp only; rw[bU]; exact hG M h0
 | true=>rw[wM]; exact hf rfl _ fun M' h=>by rw[CX]; exact hG M' h
end
abbrev Nm:=List UInt8
abbrev Dir:=List (Nm × Nat)
def fO:Dir→Nm→Option Nat
 | [],_=>none
 | e :: l,n=>if n=e.1 then some e.2 else fO l n
def iU:Dir→Nm→Dir
 | [],_=>[]
 | e :: l,n=>if n=e.1 then l else e :: iU l n
def jh:Dir→Nm→Nat→Dir
 | [],n,f=>[(n,f)]
 | e :: l,n,f=>if n=e.1 then(n,f) :: l else e :: jh l n f
abbrev kC:=Nm × Option Nat × Nm
def jG (l:Dir) (c:kC) : Dir :=
 let l1:=if c.2.2≠[] then iU l c.2.2 else l
 match c.2.1 with
 | some f=>jh l1 c.1 f
 | none=>l1
abbrev gK:=List UInt8 × Nat
structure aK where
 files:List gK
 dir:Dir
 dB:Dir
 chg:List kC
 aN:Int
 app:Int
 syn:Int
 deriving DecidableEq
inductive Tag where
 | disk | names | safe | chg | file (i:Nat) | bytes (i:Nat)
 deriving DecidableEq
abbrev aO:=Nat→Option Tag
def upd (own:aO) (b:Nat) (t:Tag) : aO:=fun c=>if c=b then some t else own c
theorem mD {own:aO} {b:Nat} {t:Tag} : upd own b t b=some t:=by simp[upd]
theorem upd_ne {own:aO} {b c:Nat} {t:Tag} (h:c≠b) : upd own b t c=own c:=by simp[upd,h]
def cO (fbs:List Nat) (cl:Nat) : Nat→List (AV × AV × Nat)→Dir→Prop
 | _,[],[]=>True
 | lo,e :: es,d :: ds=>e.1=St d.1∧(∃ b,fbs[d.2]?=some b∧e.2.1=.ptr b 0)∧lo≤e.2.2∧e.2.2<cl∧cO fbs cl (e.2.2 + 1) es ds
 | _,_,_=>False
variable {fbs gbs:List Nat} {cl lo:Nat} {es:List (AV × AV × Nat)} {d:Dir}
theorem cO.len:∀ {es:List (AV × AV × Nat)} {d:Dir} {lo:Nat},cO fbs cl lo es d→es.length=d.length
 | [],[],_,_=>rfl
 | _ :: es,_ :: d,_,h=>by simp only[List.length_cons]; rw[h.2.2.2.2.len]
theorem cO.grow (hg:∀ i b:Nat,fbs[i]?=some b→gbs[i]?=some b) {cl' : Nat} (hc:cl≤cl') : ∀ {es:List (AV × AV × Nat)} {d:Dir} {lo lo' : Nat},lo'≤lo→cO fbs cl lo es d→cO gbs cl' lo' es d
 | [],[],_,_,_,_=>trivial
 | _ :: es,_ :: d,_,_,hl,⟨h1,⟨b,h2,h3⟩,h4,h5,h6⟩=>⟨h1,⟨b,hg _ _ h2,h3⟩,Nat.le_trans hl h4,Nat.lt_of_lt_of_le h5 hc,h6.grow hg hc (Nat.le_refl _)⟩
theorem cO.snoc {s:Nm} {f b:Nat} (hf:fbs[f]?=some b) : ∀ {es:List (AV × AV × Nat)} {d:Dir} {lo:Nat},lo≤cl→cO fbs cl lo es d→cO fbs (cl + 1) lo (es++[(St s,.ptr b 0,cl)]) (d++[(s,f)])
 | [],[],_,hl,_=>⟨rfl,⟨b,hf,rfl⟩,hl,Nat.lt_succ_self _,trivial⟩
 | _ :: es,_ :: d,_,hl,⟨h1,h2,h4,h5,h6⟩=>⟨h1,h2,h4,Nat.lt_succ_of_lt h5,h6.snoc hf h5⟩
theorem tF {s:Nm} : ∀ {d:Dir},fO d s=none→iU d s=d∧∀ f,jh d s f=d++[(s,f)]
 | [],_=>⟨rfl,fun _=>rfl⟩
 | e :: d,h=>by
   unfold fO at h
   by_cases hs:s=e.1
   ·rw[if_pos hs] at h; cases h
   ·rw[if_neg hs] at h
    obtain⟨h1,h2⟩:=tF h
    simp only[iU,jh,if_neg hs,h1,h2,List.cons_append,true_and,implies_true]
theorem mM (s:Nm) : ∀ {es:List (AV × AV × Nat)} {d:Dir} {lo:Nat} (i:Nat),cO fbs cl lo es d →
  (gX false [2] [St s] es i=some none∧fO d s=none) ∨
  ∃ j f b,gX false [2] [St s] es i=some (some (i + j,.ptr b 0))∧fO d s=some f∧fbs[f]?=some b∧cO fbs cl lo (es.eraseIdx j) (iU d s) ∧
    ∀ g c,fbs[g]?=some c→cO fbs cl lo (vJ (St s) (.ptr c 0) es j) (jh d s g)
 | [],[],_,i,_=>.inl ⟨rfl,rfl⟩
 | (k,v,n) :: es,(s',f) :: d,lo,i,⟨h1,⟨b,h2,h3⟩,h4,h5,h6⟩=>by
   simp only at h1 h2 h3 h4 h5 h6
   subst h1 h3
   simp only[gX,bW,fO,iU,jh]
   rw[if_pos (by rfl),Dy]
   by_cases hs:s=s'
   ·subst hs
    simp only[if_true,DJ]
    refine .inr ⟨0,f,b,rfl,rfl,h2, ?_, ?_⟩
    ·exact h6.grow (fun _ _ h=>h) (Nat.le_refl _) (by omega)
    ·intro g c hg
     exact⟨rfl,⟨c,hg,rfl⟩,h4,h5,h6⟩
   ·simp only[if_neg hs]
    rcases mM s (i + 1) h6 with⟨a1,a2⟩ | ⟨j,f',b',a1,a2,a3,a4,a5⟩
    ·exact .inl ⟨a1,a2⟩
    ·refine .inr ⟨j + 1,f',b', ?_,a2,a3, ?_, ?_⟩
     ·rw[a1]; congr 3; omega
     ·exact⟨rfl,⟨b,h2,rfl⟩,h4,h5,a4⟩
     ·intro g c hg
      exact⟨rfl,⟨b,h2,rfl⟩,h4,h5,a5 g c hg⟩
structure MapAt (own:aO) (M:RM) (fbs:List Nat) (m:Nat) (d:Dir) (t:Tag) : Prop where
 tg:own m=some t
 lt:m<M.next
 heap:∃ es cl,M.heap m=some (.map es cl)∧cO fbs cl 0 es d
inductive FB (M:RM) (TU:Nat) : AV→List UInt8→Prop
 | nil:FB M TU bR []
 | op (b:Nat) (xs:List UInt8) : b<M.next→M.heap b=some (.row (BY.row xs) true TU 0)→FB M TU (.slc b 0 xs.length (.op 1)) xs
 | ex (b o n:Nat) (xs:List UInt8) : b<M.next→M.loads b o n=some (BY.row xs)→xs.length=n→FB M TU (.slc b o n (.ex n)) xs
structure iq (TF TU:Nat) (own:aO) (M:RM) (fbs:List Nat) (i b:Nat) (v:AV) (f:gK) : Prop where
 at_:fbs[i]?=some b
 lt:b<M.next
 tg:own b=some (.file i)
 heap:M.heap b=some (.row [v,N .i64 (f.2:Int)] false TF 0)
 fb:FB M TU v f.1
 le:f.2≤f.1.length
 blk:∀ c∈ak v,own c=some (.bytes i)
structure fM (TF TU:Nat) (own:aO) (M:RM) (fbs:List Nat) (fs:List gK) : Prop where
 len:fbs.length=fs.length
 file:∀ i f,fs[i]?=some f→∃ b v,iq TF TU own M fbs i b v f
def dG:Enc (Nm × Option Nat × Nm):=⟨3,fun c=>[St c.1,(match c.2.1 with | some b=>.ptr b 0 | none=>.sc (.pointer none)),St c.2.2],fun _=>rfl,fun c=>by obtain⟨a,_ | b,g⟩:=c <;> rfl⟩
def df (fbs:List Nat) (c:kC) : Nm × Option Nat × Nm:=(c.1,c.2.1.bind (fbs[·]?),c.2.2)
structure jg (TC:Nat) (own:aO) (M:RM) (fbs:List Nat) (v:AV) (cs:List kC) : Prop where
 ow:Ow dG M 0 TC v (cs.map (df fbs))
 blk:∀ b∈ak v,own b=some .chg
 wf:∀ c∈cs,∀ f,c.2.1=some f→f<fbs.length
variable {own own' : aO} {M M' : RM} {bs:List Nat} {m:Nat} {t:Tag}
theorem MapAt.step (h:MapAt own M fbs m d t) (hk:ae bs M M') (hb:∀ b∈bs,own b≠some t) (ho:∀ b,own b=some t→own' b=some t) : MapAt own' M' fbs m d t :=
 ⟨ho _ h.tg,Nat.lt_of_lt_of_le h.lt hk.next,let ⟨es,cl,h1,h2⟩:=h.heap; ⟨es,cl,hk.bI h1 h.lt (fun hm=>hb _ hm h.tg),h2⟩⟩
theorem MapAt.grow (h:MapAt own M fbs m d t) (hg:∀ i b:Nat,fbs[i]?=some b→gbs[i]?=some b) : MapAt own M gbs m d t :=
 ⟨h.tg,h.lt,let ⟨es,cl,h1,h2⟩:=h.heap; ⟨es,cl,h1,h2.grow hg (Nat.le_refl _) (Nat.le_refl _)⟩⟩
theorem FB.Hd {TU:Nat} {v:AV} {xs:List UInt8} (h:FB M TU v xs) : ∀ c∈ak v,c<M.next:=by
 cases h with
 | nil=>simp[ak]
 | op b xs hb hh=>simp[ak,hb]
 | ex b o n xs hb hh=>simp[ak,hb]
theorem FB.keep {TU:Nat} {v:AV} {xs:List UInt8} (h:FB M TU v xs) (hk:ae bs M M') (hb:∀ b∈ak v,b ∉ bs) : FB M' TU v xs:=by
 cases h with
 | nil=>exact .nil
 | op b xs hl hh=>exact .op b xs (Nat.lt_of_lt_of_le hl hk.next) (hk.bI hh hl (hb b (by simp[ak])))
 | ex b o n xs hl hh h2=>exact .ex b o n xs (Nat.lt_of_lt_of_le hl hk.next) ((hk.loads hl (hb b (by simp[ak]))).trans hh) h2
theorem FB.sl {TU:Nat} {v:AV} {xs:List UInt8} (h:FB M TU v xs) : Sl BY M v xs:=by
 cases h with
 | nil=>exact .nil
 | op b xs hl hh=>exact Rw.sl ⟨hh,hl⟩
 | ex b o n xs hl hh h2 =>
   subst h2
   refine .slc _ _ _ _ _ hl ?_
   show M.loads b o (xs.length * 1)=_
   rw[Nat.mul_one,hh]
theorem FB.one {TU:Nat} {v:AV} {xs:List UInt8} (h:FB M TU v xs) : oneCell v=true∧v.cells=[v]∧known v=true:=by
 cases h <;> exact⟨rfl,rfl,rfl⟩
section
variable {TF TU i b:Nat} {v:AV} {f:gK} {fs:List gK}
theorem iq.step (h:iq TF TU own M fbs i b v f) (hk:ae bs M M') (hb:∀ b∈bs,own b≠some (.file i)∧own b≠some (.bytes i)) (ho:∀ b,own b=some (.file i)∨own b=some (.bytes i)→own' b=own b) : iq TF TU own' M' fbs i b v f :=
 ⟨h.at_,Nat.lt_of_lt_of_le h.lt hk.next,by rw[ho _ (.inl h.tg),h.tg],hk.bI h.heap h.lt (fun hm=>(hb _ hm).1 h.tg),h.fb.keep hk (fun c hc hm=>(hb _ hm).2 (h.blk c hc)),h.le,
  fun c hc=>by rw[ho _ (.inr (h.blk c hc)),h.blk c hc]⟩
theorem fM.step (h:fM TF TU own M fbs fs) (hk:ae bs M M') (hb:∀ b∈bs,∀ i,own b≠some (.file i)∧own b≠some (.bytes i)) (ho:∀ b i,own b=some (.file i)∨own b=some (.bytes i)→own' b=own b) : fM TF TU own' M' fbs fs :=
 ⟨h.len,fun i f hf=>let ⟨b,v,h1⟩:=h.file i f hf; ⟨b,v,h1.step hk (fun b hm=>hb b hm i) (fun b=>ho b i)⟩⟩
theorem fM.at (h:fM TF TU own M fbs fs) {i b:Nat} (hb:fbs[i]?=some b) : ∃ f v,fs[i]?=some f∧iq TF TU own M fbs i b v f:=by
 have hi:i<fs.length:=by rw[← h.len]; exact(List.getElem?_eq_some_iff.1 hb).1
 obtain⟨b',v,h1⟩:=h.file i fs[i] (List.getElem?_eq_getElem hi)
 have:b'=b:=by have:=h1.at_; rw[hb] at this; cases this; rfl
 subst this
 exact⟨_,v,List.getElem?_eq_getElem hi,h1⟩
theorem fM.set (h:fM TF TU own M fbs fs) {f' : gK} (hi:i<fs.length) (h' : iq TF TU own' M' fbs i b v f') (hk:ae bs M M') (hb:∀ b∈bs,∀ j,j≠i→own b≠some (.file j)∧own b≠some (.bytes j))
  (ho:∀ b j,j≠i→own b=some (.file j)∨own b=some (.bytes j)→own' b=own b) : fM TF TU own' M' fbs (fs.set i f'):=by
 refine⟨by rw[List.length_set]; exact h.len,fun j f hf=>?_⟩
 by_cases hj:j=i
 ·subst hj
  rw[List.getElem?_set_self hi] at hf
  cases hf
  exact⟨b,v,h'⟩
 ·rw[List.getElem?_set_ne (fun e=>hj e.symm)] at hf
  obtain⟨b1,v1,h1⟩:=h.file j f hf
  exact⟨b1,v1,h1.step hk (fun b hm=>hb b hm j hj) (fun b=>ho b j hj)⟩
end
section
variable {TC:Nat} {v:AV} {cs:List kC}
theorem Fb (hg:∀ i b:Nat,fbs[i]?=some b→gbs[i]?=some b) {c:kC} (hc:∀ f,c.2.1=some f→f<fbs.length) : df gbs c=df fbs c:=by
 obtain⟨n,o,g⟩:=c
 cases o with
 | none=>rfl
 | some f =>
   have:=hc f rfl
   simp only[df,Option.bind_some]
   rw[List.getElem?_eq_getElem this,hg f _ (List.getElem?_eq_getElem this)]
theorem jg.grow (h:jg TC own M fbs v cs) (hg:∀ i b:Nat,fbs[i]?=some b→gbs[i]?=some b) (hl:fbs.length≤gbs.length) : jg TC own M gbs v cs:=by
 refine⟨?_,h.blk,fun c hc f hf=>Nat.lt_of_lt_of_le (h.wf c hc f hf) hl⟩
 have:cs.map (df gbs)=cs.map (df fbs):=List.map_congr_left fun c hc=>Fb hg (h.wf c hc)
 rw[this]; exact h.ow
theorem jg.step (h:jg TC own M fbs v cs) (hk:ae bs M M') (hb:∀ b∈bs,own b≠some .chg) (ho:∀ b,own b=some .chg→own' b=some .chg) : jg TC own' M' fbs v cs :=
 ⟨Own.keep h.ow hk (fun b hm hm2=>hb b hm2 (h.blk b hm)),fun b hm=>ho b (h.blk b hm),h.wf⟩
theorem jg.nil:jg TC own M fbs bR []:=⟨.nil,by simp[ak],by simp⟩
end
structure bN (TD TF TU TC:Nat) (own:aO) (M:RM) (db:Nat) (s:aK) (fbs:List Nat) (nm sm:Nat) (cv:AV) : Prop where
 lt:∀ b,own b≠none→b<M.next
 od:own db=some .disk
 row:M.heap db=some (.row [N .i64 s.aN,.map nm,.map sm,cv,N .i64 s.app,N .i64 s.syn] false TD 0)
 names:MapAt own M fbs nm s.dir .names
 safe:MapAt own M fbs sm s.dB .safe
 chg:jg TC own M fbs cv s.chg
 files:fM TF TU own M fbs s.files
def bu (TD TF TU TC:Nat) (own:aO) (M:RM) (db:Nat) (s:aK) : Prop:=∃ fbs nm sm cv,bN TD TF TU TC own M db s fbs nm sm cv
def Tr (own:aO) (M:RM) (own' : aO) (M' : RM) : Prop:=∃ bs,ae bs M M'∧(∀ b∈bs,own b≠none)∧∀ b,b<M.next→own b=none→own' b=none
theorem Tr.refl (own:aO) (M:RM) : Tr own M own M:=⟨[],ae.refl _ _,by simp,fun _ _ h=>h⟩
theorem Tr.trans {ny:aO} {M2:RM} (h:Tr own M own' M') (k:Tr own' M' ny M2) : Tr own M ny M2:=by
 obtain⟨bs,h1,h2,h3⟩:=h
 obtain⟨cs,k1,k2,k3⟩:=k
 refine⟨bs++cs.filter (fun b=>decide (b<M.next)),(h1.mono (fun b hb=>List.mem_append_left _ hb)).sD k1 ?_, ?_,fun b hb ho=>k3 b (Nat.lt_of_lt_of_le hb h1.next) (h3 b hb ho)⟩
 ·intro c hc
  by_cases hl:c<M.next
  ·exact .inr (by simp[hc,hl])
  ·exact .inl (by omega)
 ·intro b hb
  rcases List.mem_append.1 hb with hb | hb
  ·exact h2 b hb
  ·obtain⟨hb1,hb2⟩:=List.mem_filter.1 hb
   exact fun ho=>k2 b hb1 (h3 b (of_decide_eq_true hb2) ho)
theorem Tr.keep (hk:ae [] M M') : Tr own M own M':=⟨[],hk,by simp,fun _ _ h=>h⟩
theorem Tr.next (h:Tr own M own' M') : M.next≤M'.next:=let ⟨_,h1,_⟩:=h; h1.next
section
variable {TD TF TU TC db:Nat} {s:aK} {nm sm:Nat} {cv:AV}
theorem bN.keep (h:bN TD TF TU TC own M db s fbs nm sm cv) (hk:ae [] M M') : bN TD TF TU TC own M' db s fbs nm sm cv :=
 ⟨fun b hb=>Nat.lt_of_lt_of_le (h.lt b hb) hk.next,h.od,hk.bI h.row (h.lt _ (by rw[h.od]; simp)) (by simp),h.names.step hk (by simp) (fun _ h=>h),h.safe.step hk (by simp) (fun _ h=>h),
  h.chg.step hk (by simp) (fun _ h=>h),h.files.step hk (by simp) (fun _ _ _=>rfl)⟩
theorem bN.Ce (h:bN TD TF TU TC own M db s fbs nm sm cv) : db<M.next:=h.lt _ (by rw[h.od]; simp)
end
end Go.Ab.Dk
set_option maxRecDepth 100000
namespace Go.Ab.Dk
open Go Go.Ab
def ic (p1 p2 p3 p4:ax) (p5:Nat) (p6 p7 p8 p9 p10 p11 p12:ax) (a0 a1 a2:AV) (M0:RM) (Q:af) : Prop :=
 p1 [] M0 fun Y i =>
 wE Y fun Z =>
 bB Z (
 Q (Bo false) i) (
 eO a0 fun va =>
 aI .gtr va (N .i64 40) fun vb =>
 bB vb (
 Q (Bo true) i) (
 p2 [(N .i64 100000)] i fun n s =>
 ik n 0 fun d =>
 ik n 1 fun wd =>
 nT (fun R e c =>
 eO a0 fun vc =>
 aI .lss (bG e 0) vc fun vd =>
 bB vd (
 q9 (fun g =>
 dW a0 (bG e 0) 6 fun vf =>
 aJ vf 0 fun vg =>
 aD c vg fun h =>
 aI .eql h (N .i64 0) fun vh =>
 bB vh (
 dW a0 (bG e 0) 6 fun vi =>
 aJ vi 1 fun vj =>
 aD c vj fun vk =>
 p3 [vk] c fun vl A =>
 p4 [d,vl] A fun we G =>
 g [] G) (
 aI .eql h (N .i64 1) fun vm =>
 bB vm (
 dW a0 (bG e 0) 6 fun vn =>
 aJ vn 1 fun vo =>
 aD c vo fun vp =>
 dW a0 (bG e 0) 6 fun vr =>
 aJ vr 4 fun o =>
 aD c o fun l =>
 pM p5 l fun S O =>
 DD S O c fun p H L =>
 p3 [vp] H fun vq j =>
 aD j o fun vs =>
 (vs=l∧pM p5 l fun U P =>
 (DL L j U P p∧p6 [d,vq,p] j fun wf I =>
 g [] I))) (
 aI .eql h (N .i64 2) fun vt =>
 bB vt (
 dW a0 (bG e 0) 6 fun vu =>
 aJ vu 1 fun vv =>
 aD c vv fun vw =>
 p3 [vw] c fun vx t =>
 p7 [d,vx] t fun wg u =>
 g [] u) (
 aI .eql h (N .i64 3) fun vy =>
 bB vy (
 dW a0 (bG e 0) 6 fun vz =>
 aJ vz 1 fun v0 =>
 aD c v0 fun v1 =>
 dW a0 (bG e 0) 6 fun v3 =>
 aJ v3 2 fun q =>
 aD c q fun r =>
 p3 [v1] c fun v2 m =>
 aD m q fun v4 =>
 (v4=r∧p3 [r] m fun v5 v =>
 p8 [d,v2,v5] v fun wh w =>
 g [] w)) (
 aI .eql h (N .i64 4) fun v6 =>
 bB v6 (
 dW a0 (bG e 0) 6 fun v7 =>
 aJ v7 1 fun v8 =>
 aD c v8 fun v9 =>
 p3 [v9] c fun wa x =>
 p9 [d,wa] x fun wi y =>
 g [] y) (
 aI .eql h (N .i64 5) fun wb =>
 bB wb (
 p10 [d] c fun wj z =>
 g [] z) (
 g [] c))))))) (fun wl B =>
 aI .add (bG e 0) (N .i64 1) fun ve =>
 R [ve] B)) (
 p11 [d,a1] c fun wk C =>
 p12 [d] C fun V D =>
 p11 [d,a2] D fun wc E =>
 p12 [d] E fun W F =>
 fQ .eql W V fun X =>
 Q X F)) [(N .i64 0)] s))
def lZ (p1 p2:ax) (p3:Nat) (p4 p5 p6 p7:ax) (p8:Nat) (p9 p10 p11 p12 p13 p14:ax) (p15:Nat) (M0:RM) (Q:af) : Prop :=
 p1 [(N .i64 10)] M0 fun vr C =>
 ik vr 0 fun d =>
 ik vr 1 fun y1 =>
 aI .neq y1 (N .i64 0) fun v =>
 az v false (fun c=>c d C) (fun c=>c .undef C) fun y2 D =>
 az v false (fun wp=>bP false 1 y2 (.sc (.pointer none)) fun y3 =>
 wp y3 D) (fun c=>c .undef D) fun y4 P =>
 bQ v (Bo true) y4 fun y5 =>
 bB y5 (
 Q (Bo false) P) (
 p2 [d,(St [97])] P fun y6 wd =>
 iQ p3 3 [(N .u8 0)] [(0,1,(N .u8 120)),(1,1,(N .u8 121)),(2,1,(N .u8 122))] fun xq wk =>
 fZ xq wk wd fun y7 we =>
 yL y7 we fun y8 wf =>
 p4 [d,(St [97]),y8] wf fun y9 wg =>
 p5 [d,(St [97])] wg fun za wh =>
 p6 [d] wh fun zb wi =>
 iQ p3 2 [(N .u8 0)] [(0,1,(N .u8 49)),(1,1,(N .u8 50))] fun xr wl =>
 fZ xr wl wi fun zc vu =>
 yL zc vu fun zd vv =>
 p4 [d,(St [97]),zd] vv fun ze vx =>
 p2 [d,(St [98])] vx fun zf vy =>
 p7 [d] vy fun zg vz =>
 eO zg fun zh =>
 iQ p8 2 [(N .i64 0)] [(0,1,(N .i64 0)),(1,1,(N .i64 1))] fun xs wm =>
 fZ xs wm vz fun zi v0 =>
 p9 [d,zi] v0 fun c1 v1 =>
 p10 [d,(St [97])] v1 fun vs v2 =>
 ik vs 0 fun zj =>
 ik vs 1 fun zk =>
 p10 [d,(St [98])] v2 fun vt v3 =>
 ik vt 0 fun c2 =>
 ik vt 1 fun zl =>
 yG p3 1 [(N .u8 0)] (N .i64 7) (N .i64 7) fun xt wn =>
 fZ xt wn v3 fun zm v4 =>
 p4 [d,(St [97]),zm] v4 fun zn v5 =>
 p11 [d,(N .i64 100)] v5 fun c3 v6 =>
 yG p3 1 [(N .u8 0)] (N .i64 7) (N .i64 7) fun xu wo =>
 fZ xu wo v6 fun zo v7 =>
 p4 [d,(St [97]),zo] v7 fun zp v8 =>
 p12 [d,(St [97]),(St [99])] v8 fun zq v9 =>
 p13 [d,(St [99])] v9 fun zr wa =>
 p14 [d] wa fun zs wb =>
 fZ (.row [(N .i64 0),(N .i64 0),(N .i64 0),(N .i64 0)] false p15 0) (fun wj=>.ptr wj 0) wb fun j wc =>
 cz wc j zs 4 fun R =>
 aI .eql y6 (N .i64 0) fun w =>
 az w true (fun w1=>w1 y9 R) (fun c=>c .undef R) fun zt S =>
 az w true (fun w2=>aI .eql zt (N .i64 0) fun zu =>
 w2 zu S) (fun c=>c .undef S) fun zv U =>
 bQ w zv (Bo false) fun x =>
 az x true (fun w3=>w3 za U) (fun c=>c .undef U) fun zw V =>
 az x true (fun w4=>aI .eql zw (N .i64 0) fun zx =>
 w4 zx V) (fun c=>c .undef V) fun zy W =>
 bQ x zy (Bo false) fun y =>
 az y true (fun w5=>w5 zb W) (fun c=>c .undef W) fun zz X =>
 az y true (fun w6=>aI .eql zz (N .i64 0) fun z0 =>
 w6 z0 X) (fun c=>c .undef X) fun z1 Y =>
 bQ y z1 (Bo false) fun z =>
 az z true (fun w7=>w7 ze Y) (fun c=>c .undef Y) fun z2 Z =>
 az z true (fun w8=>aI .eql z2 (N .i64 0) fun z3 =>
 w8 z3 Z) (fun c=>c .undef Z) fun z4 va =>
 bQ z z4 (Bo false) fun A =>
 az A true (fun w9=>w9 zf va) (fun c=>c .undef va) fun z5 vb =>
 az A true (fun xa=>aI .eql z5 (N .i64 0) fun z6 =>
 xa z6 vb) (fun c=>c .undef vb) fun z7 vc =>
 bQ A z7 (Bo false) fun B =>
 az B true (fun xb=>xb zh vc) (fun c=>c .undef vc) fun z8 vd =>
 az B true (fun xc=>aI .eql z8 (N .i64 2) fun z9 =>
 xc z9 vd) (fun c=>c .undef vd) fun c0 ve =>
 bQ B c0 (Bo false) fun p =>
 az p true (fun xd=>xd zk ve) (fun c=>c .undef ve) fun xv vf =>
 az p true (fun xe=>aI .eql xv (N .i64 0) fun xw =>
 xe xw vf) (fun c=>c .undef vf) fun xx vg =>
 bQ p xx (Bo false) fun e =>
 az e true (fun xf=>xf zj vg) (fun c=>c .undef vg) fun xy o =>
 az e true (fun xg=>nH o xy fun xz =>
 xg xz o) (fun c=>c .undef o) fun x0 vh =>
 az e true (fun xh=>fQ .eql x0 (St [120,121,122,49]) fun x1 =>
 xh x1 vh) (fun c=>c .undef vh) fun x2 vi =>
 bQ e x2 (Bo false) fun q =>
 az q true (fun xi=>xi zl vi) (fun c=>c .undef vi) fun x3 vj =>
 az q true (fun xj=>aI .eql x3 (N .i64 4) fun x4 =>
 xj x4 vj) (fun c=>c .undef vj) fun x5 vk =>
 bQ q x5 (Bo false) fun r =>
 az r true (fun xk=>xk zn vk) (fun c=>c .undef vk) fun x6 vl =>
 az r true (fun xl=>aI .eql x6 (N .i64 5) fun x7 =>
 xl x7 vl) (fun c=>c .undef vl) fun x8 vm =>
 bQ r x8 (Bo false) fun s =>
 az s true (fun xm=>xm zp vm) (fun c=>c .undef vm) fun x9 vn =>
 az s true (fun xn=>aI .eql x9 (N .i64 0) fun ya =>
 xn ya vn) (fun c=>c .undef vn) fun yb vo =>
 bQ s yb (Bo false) fun t =>
 az t true (fun xo=>xo zq vo) (fun c=>c .undef vo) fun yc vp =>
 az t true (fun xp=>aI .eql yc (N .i64 0) fun yd =>
 xp yd vp) (fun c=>c .undef vp) fun ye vq =>
 bQ t ye (Bo false) fun u =>
 az u true (fun wq=>wq zr vq) (fun c=>c .undef vq) fun yf E =>
 az u true (fun wr=>aI .eql yf (N .i64 0) fun yg =>
 wr yg E) (fun c=>c .undef E) fun yh F =>
 bQ u yh (Bo false) fun g =>
 az g true (fun ws=>aJ j 0 fun yi =>
 ws yi F) (fun c=>c .undef F) fun yj l =>
 az g true (fun wt=>aD l yj fun yk =>
 wt yk l) (fun c=>c .undef l) fun yl G =>
 az g true (fun wu=>aI .eql yl (N .i64 0) fun ym =>
 wu ym G) (fun c=>c .undef G) fun yn H =>
 bQ g yn (Bo false) fun h =>
 az h true (fun wv=>aJ j 2 fun yo =>
 wv yo H) (fun c=>c .undef H) fun yp m =>
 az h true (fun ww=>aD m yp fun yq =>
 ww yq m) (fun c=>c .undef m) fun yr I =>
 az h true (fun wx=>aI .eql yr (N .i64 3) fun ys =>
 wx ys I) (fun c=>c .undef I) fun yt L =>
 bQ h yt (Bo false) fun i =>
 az i true (fun wy=>aJ j 3 fun yu =>
 wy yu L) (fun c=>c .undef L) fun yv n =>
 az i true (fun wz=>aD n yv fun yw =>
 wz yw n) (fun c=>c .undef n) fun yx O =>
 az i true (fun w0=>aI .eql yx (N .i64 2) fun yy =>
 w0 yy O) (fun c=>c .undef O) fun yz vw =>
 bQ i yz (Bo false) fun y0 =>
 Q y0 vw)
def kR (p1:Nat) (a0:AV) (M0:RM) (Q:af) : Prop :=
 aI .lss a0 (N .i64 0) fun l =>
 bB l (
 Q (.tup [(.sc (.pointer none)),(N .i64 1)]) M0) (
 fZ (.map [] 0) (fun c=>.map c) M0 fun m d =>
 fZ (.map [] 0) (fun c=>.map c) d fun n e =>
 jq [(N .i64 0),(.sc (.map none)),(.sc (.map none)),(.sc (.slice none 0 0)),(N .i64 0),(N .i64 0)] [(0,1,a0),(1,1,m),(2,1,n)] fun o =>
 oV p1 o fun i h =>
 fZ i h e fun j g =>
 Q (.tup [j,(N .i64 0)]) g)
def fK (p1:ax) (p2:Nat) (p3:ax) (a0 a1:AV) (M0:RM) (Q:af) : Prop :=
 p1 [a1] M0 fun r c =>
 wE r fun s =>
 bB s (
 Q (N .i64 1) c) (
 bf a0 fun t =>
 aJ t 1 fun i =>
 aD c i fun j =>
 iF false [2] (.sc (.pointer none)) false c j a1 fun l =>
 bP true 1 l (.sc (.pointer none)) fun m =>
 bB m (
 Q (N .i64 12) c) (
 jq [(.sc (.slice none 0 0)),(N .i64 0)] [] fun n =>
 oV p2 n fun h g =>
 fZ h g c fun o d =>
 jq [(St []),(.sc (.pointer none)),(St [])] [(0,1,a1),(1,1,o)] fun p =>
 p3 [a0,p] d fun q e =>
 Q q e))
def cZ (p1:ax) (p2:Nat) (p3:ax) (a0 a1 a2:AV) (M0:RM) (Q:af) : Prop :=
 bf a0 fun C =>
 aJ C 1 fun l =>
 aD M0 l fun m =>
 iF false [2] (.sc (.pointer none)) false M0 m a1 fun d =>
 bP false 1 d (.sc (.pointer none)) fun n =>
 bB n (
 Q (N .i64 4) M0) (
 eO a2 fun o =>
 bf a0 fun p =>
 aJ p 0 fun e =>
 aD M0 e fun g =>
 p1 [a0] M0 fun r c =>
 aD c e fun q =>
 (q=g∧aI .sub g r fun s =>
 aI .gtr o s fun t =>
 bB t (
 Q (N .i64 5) c) (
 bf d fun u =>
 aJ u 0 fun v =>
 aD c v fun w =>
 appW p2 1 1 [(N .u8 0)] false w a2 c fun x h =>
 bf d fun y =>
 aJ y 0 fun z =>
 cz h z x 1 fun i =>
 bf a0 fun A =>
 aJ A 4 fun B =>
 p3 [B,(N .i64 1)] i fun D j =>
 Q (N .i64 0) j)))
def gT (p1:ax) (a0 a1:AV) (M0:RM) (Q:af) : Prop :=
 bf a0 fun q =>
 aJ q 1 fun r =>
 aD M0 r fun s =>
 iF false [2] (.sc (.pointer none)) false M0 s a1 fun c =>
 bP false 1 c (.sc (.pointer none)) fun g =>
 bB g (
 Q (N .i64 4) M0) (
 bf c fun h =>
 aJ h 0 fun i =>
 aD M0 i fun j =>
 eO j fun l =>
 bf c fun m =>
 aJ m 1 fun n =>
 cz M0 n l 1 fun d =>
 bf a0 fun o =>
 aJ o 5 fun p =>
 p1 [p,(N .i64 1)] d fun t e =>
 Q (N .i64 0) e)
def fU (p1 p2:ax) (a0 a1 a2:AV) (M0:RM) (Q:af) : Prop :=
 bf a0 fun o =>
 aJ o 1 fun g =>
 aD M0 g fun h =>
 iF false [2] (.sc (.pointer none)) false M0 h a1 fun d =>
 bP false 1 d (.sc (.pointer none)) fun i =>
 bB i (
 Q (N .i64 4) M0) (
 p1 [a2] M0 fun j c =>
 wE j fun l =>
 bB l (
 Q (N .i64 1) c) (
 jq [(St []),(.sc (.pointer none)),(St [])] [(0,1,a2),(1,1,d),(2,1,a1)] fun m =>
 p2 [a0,m] c fun n e =>
 Q n e))
def gm (p1:ax) (a0 a1:AV) (M0:RM) (Q:af) : Prop :=
 bf a0 fun i =>
 aJ i 1 fun j =>
 aD M0 j fun l =>
 iF false [2] (.sc (.pointer none)) false M0 l a1 fun d =>
 bP false 1 d (.sc (.pointer none)) fun e =>
 bB e (
 Q (N .i64 4) M0) (
 jq [(St []),(.sc (.pointer none)),(St [])] [(2,1,a1)] fun g =>
 p1 [a0,g] M0 fun h c =>
 Q h c)
def mV (p1:Nat) (a0:AV) (M0:RM) (Q:af) : Prop :=
 iQ p1 8 [(St [])] [(0,1,(St [97])),(1,1,(St [98])),(2,1,(St [99])),(3,1,(St [119,45,48,48,48,48,48,49])),(4,1,(St [120,95])),(5,1,(St [65])),(6,1,(St [])),(7,1,(St [100]))] fun e d =>
 fZ e d M0 fun g c =>
 aI .and a0 (N .i64 7) fun h =>
 dW g h 1 fun i =>
 aD c i fun j =>
 Q j c
def fD (p1 p2:ax) (a0:AV) (M0:RM) (Q:af) : Prop :=
 bf a0 fun o =>
 aJ o 1 fun p =>
 aD M0 p fun q =>
 p1 [q] M0 fun r c =>
 bf a0 fun h =>
 aJ h 2 fun i =>
 cz c i r 1 fun d =>
 bf a0 fun j =>
 aJ j 3 fun l =>
 cz d l (.sc (.slice none 0 0)) 1 fun e =>
 bf a0 fun m =>
 aJ m 5 fun n =>
 p2 [n,(N .i64 1)] e fun s g =>
 Q (N .i64 0) g
def gz (p1:ax) (p2:Nat) (p3 p4 p5:ax) (a0 a1:AV) (M0:RM) (Q:af) : Prop :=
 bf a0 fun O =>
 aJ O 2 fun P =>
 aD M0 P fun R =>
 bf a0 fun S =>
 aJ S 1 fun U =>
 cz M0 U R 1 fun i =>
 bf a0 fun V =>
 aJ V 3 fun o =>
 aD i o fun p =>
 bf a0 fun X =>
 aJ X 3 fun Y =>
 aD i Y fun Z =>
 eO Z fun va =>
 aI .add va (N .i64 1) fun vb =>
 p1 [a1,(N .i64 0),vb] i fun vc m =>
 aD m o fun W =>
 (W=p∧tJ (jw 3 p none (some vc) none) fun q =>
 eO q fun vd =>
 nT (fun D l e =>
 aI .lss (bG l 0) vd fun ve =>
 bB ve (
 dW q (bG l 0) 3 fun vf =>
 kg e vf 3 fun vg =>
 fZ (.row [(St []),(.sc (.pointer none)),(St [])] false p2 0) (fun C=>.ptr C 0) e fun r w =>
 cz w r vg 3 fun j =>
 kg j r 3 fun vh =>
 bf a0 fun vi =>
 aJ vi 1 fun vj =>
 aD j vj fun vk =>
 p3 [vh,vk] j fun wp x =>
 aI .add (bG l 0) (N .i64 1) fun vl =>
 D [vl] x) (
 bf a0 fun vm =>
 aJ vm 1 fun vn =>
 aD e vn fun vo =>
 p4 [vo] e fun vp y =>
 bf a0 fun vq =>
 aJ vq 2 fun vr =>
 cz y vr vp 1 fun z =>
 bf a0 fun vs =>
 aJ vs 3 fun vt =>
 cz z vt (.sc (.slice none 0 0)) 1 fun A =>
 p5 [a0] A fun s B =>
 eO s fun vu =>
 nT (fun E h c =>
 aI .lss (bG h 0) vu fun vv =>
 bB vv (
 dW s (bG h 0) 1 fun vw =>
 aD c vw fun vx =>
 bf a0 fun vy =>
 aJ vy 1 fun vz =>
 aD c vz fun v0 =>
 iF false [2] (.sc (.pointer none)) false c v0 vx fun d =>
 bf d fun v1 =>
 aJ v1 1 fun t =>
 aD c t fun u =>
 aI .add (bG h 0) (N .i64 1) fun v3 =>
 bf d fun v4 =>
 aJ v4 0 fun v5 =>
 aD c v5 fun v6 =>
 eO v6 fun v7 =>
 bf d fun v8 =>
 aJ v8 1 fun v9 =>
 aD c v9 fun wa =>
 aI .sub v7 wa fun wb =>
 aI .add wb (N .i64 1) fun wc =>
 p1 [a1,v3,wc] c fun wd n =>
 aD n t fun v2 =>
 (v2=u∧aI .add u wd fun we =>
 bf d fun wf =>
 aJ wf 1 fun wg =>
 cz n wg we 1 fun g =>
 bf d fun wh =>
 aJ wh 0 fun wi =>
 aD g wi fun wj =>
 bf d fun wk =>
 aJ wk 1 fun wl =>
 aD g wl fun wm =>
 bf d fun wn =>
 aJ wn 1 fun wo =>
 aD g wo fun F =>
 tJ (jw 1 wj none (some wm) (some F)) fun G =>
 bf d fun H =>
 aJ H 0 fun I =>
 cz g I G 1 fun v =>
 aI .add (bG h 0) (N .i64 1) fun L =>
 E [L] v)) (
 Q (.tup []) c)) [(N .i64 0)] B)) [(N .i64 0)] m)
def gI (a0 a1:AV) (M0:RM) (Q:af) : Prop :=
 yQ true a1 (N .i64 0) fun d =>
 bf a0 fun e =>
 aJ e 0 fun g =>
 cz M0 g d 1 fun c =>
 Q (.tup []) c
def gU (p1:ax) (a0 a1:AV) (M0:RM) (Q:af) : Prop :=
 bf a0 fun m =>
 aJ m 1 fun n =>
 aD M0 n fun e =>
 iF false [2] (.sc (.pointer none)) false M0 e a1 fun c =>
 bP false 1 c (.sc (.pointer none)) fun g =>
 bB g (
 Q (.tup [(.sc (.slice none 0 0)),(N .i64 4)]) M0) (
 bf c fun h =>
 aJ h 0 fun i =>
 aD M0 i fun j =>
 p1 [j] M0 fun l d =>
 Q (.tup [l,(N .i64 0)]) d)
def gP (p1 p2:ax) (a0:AV) (M0:RM) (Q:af) : Prop :=
 bf a0 fun e =>
 aJ e 1 fun g =>
 aD M0 g fun h =>
 p1 [h] M0 fun i c =>
 p2 [i] c fun j d =>
 Q j d
def gV (p1:Nat) (p2 p3:ax) (a0:AV) (M0:RM) (Q:af) : Prop :=
 fZ (.row [(N .i64 0),(N .i64 0),(N .i64 0),(N .i64 0)] false p1 0) (fun j=>.ptr j 0) M0 fun e c =>
 bf a0 fun t =>
 aJ t 1 fun u =>
 aD c u fun v =>
 vZ c v fun w =>
 bf a0 fun m =>
 aJ m 4 fun n =>
 bf a0 fun p =>
 aJ p 5 fun q =>
 p2 [a0] c fun x g =>
 p3 [n] g fun o h =>
 p3 [q] h fun r i =>
 jq [(N .i64 0),(N .i64 0),(N .i64 0),(N .i64 0)] [(0,1,w),(1,1,x),(2,1,o),(3,1,r)] fun s =>
 cz i e s 4 fun d =>
 kg d e 4 fun l =>
 Q l d
def nD (p1 p2:ax) (a0:AV) (M0:RM) (Q:af) : Prop :=
 p1 [a0] M0 fun g i =>
 nT (fun j c d =>
 eO g fun l =>
 aI .lss (bG c 1) l fun m =>
 bB m (
 dW g (bG c 1) 1 fun o =>
 aD d o fun p =>
 p2 [a0,p] d fun h e =>
 ik h 0 fun q =>
 ik h 1 fun y =>
 dW g (bG c 1) 1 fun r =>
 aD e r fun s =>
 fQ .add (bG c 0) s fun t =>
 fQ .add t (St [10]) fun u =>
 nH e q fun v =>
 fQ .add u v fun w =>
 fQ .add w (St [10,10]) fun x =>
 aI .add (bG c 1) (N .i64 1) fun n =>
 j [x,n] e) (
 Q (bG c 0) d)) [(St []),(N .i64 0)] i
def jS (p1:ax) (a0:AV) (M0:RM) (Q:af) : Prop :=
 qp a0 fun z =>
 aI .geq z (N .i64 1) fun e =>
 az e true (fun c=>c a0 M0) (fun c=>c .undef M0) fun A g =>
 az e true (fun o=>qp A fun B =>
 o B g) (fun c=>c .undef g) fun C i =>
 az e true (fun q=>aI .leq C (N .i64 64) fun D =>
 q D i) (fun c=>c .undef i) fun E j =>
 bQ e E (Bo false) fun d =>
 az d true (fun r=>r a0 j) (fun c=>c .undef j) fun t l =>
 az d true (fun s=>p1 [t,(St [97,98,99,100,101,102,103,104,105,106,107,108,109,110,111,112,113,114,115,116,117,118,119,120,121,122,48,49,50,51,52,53,54,55,56,57,46,45,95])] l fun u n =>
 s u n) (fun c=>c .undef l) fun v h =>
 az d true (fun p=>fQ .eql v (St []) fun w =>
 p w h) (fun c=>c .undef h) fun x m =>
 bQ d x (Bo false) fun y =>
 Q y m
def fC (p1:Nat) (p2:ax) (a0 a1:AV) (M0:RM) (Q:af) : Prop :=
 oV p1 a1 fun m j =>
 fZ m j M0 fun e c =>
 kg c e 3 fun w =>
 bf a0 fun x =>
 aJ x 1 fun y =>
 aD c y fun z =>
 p2 [w,z] c fun B d =>
 bf a0 fun o =>
 aJ o 3 fun p =>
 aD d p fun q =>
 kg d e 3 fun r =>
 iQ p1 1 [(St []),(.sc (.pointer none)),(St [])] [(0,3,r)] fun n l =>
 DD n l d fun s g A =>
 appW p1 3 40 [(St []),(.sc (.pointer none)),(St [])] false q s g fun t h =>
 bf a0 fun u =>
 aJ u 3 fun v =>
 cz h v t 1 fun i =>
 Q (N .i64 0) i
def gG (a0:AV) (M0:RM) (Q:af) : Prop :=
 bf a0 fun t =>
 aJ t 1 fun u =>
 aD M0 u fun v =>
 vN v M0 fun d g =>
 nT (fun i e h =>
 yV d h fun j c =>
 ik j 0 fun l =>
 bB l (
 EZ c d fun m =>
 ik m 1 fun n =>
 bf n fun o =>
 aJ o 0 fun p =>
 aD c p fun q =>
 eO q fun r =>
 aI .add (bG e 0) r fun s =>
 i [s] c) (
 Q (bG e 0) c)) [(N .i64 0)] g
def eP (p1:ax) (a0 a1:AV) (M0:RM) (Q:af) : Prop :=
 bf a0 fun d =>
 aJ d 0 fun e =>
 p1 [e,a1] M0 fun g c =>
 Q g c
def aS (p1:Nat) (p2:ax) (a0:AV) (M0:RM) (Q:af) : Prop :=
 bP false 3 a0 (.sc (.map none)) fun d =>
 bB d (
 Q (.sc (.map none)) M0) (
 p2 [(.ifc p1 a0)] M0 fun e c =>
 BR p1 false e fun g =>
 Q g c)
def jP (a0 a1 a2:AV) (M0:RM) (Q:af) : Prop :=
 eO a0 fun B =>
 aI .geq a1 B fun d =>
 az d false (fun c=>c a0 M0) (fun c=>c .undef M0) fun p h =>
 az d false (fun l=>l a1 h) (fun c=>c .undef h) fun q i =>
 az d false (fun m=>dW p q 1 fun r =>
 m r i) (fun c=>c .undef i) fun s g =>
 az d false (fun n=>aD g s fun t =>
 n t g) (fun c=>c .undef g) fun u j =>
 az d false (fun o=>aI .lss u (N .i64 0) fun v =>
 o v j) (fun c=>c .undef j) fun w e =>
 bQ d (Bo true) w fun x =>
 bB x (
 Q (N .i64 0) e) (
 dW a0 a1 1 fun y =>
 aD e y fun z =>
 aI .rem z a2 fun A =>
 Q A e)
def gQ (p1:Nat) (a0 a1:AV) (M0:RM) (Q:af) : Prop :=
 oV p1 a0 fun l j =>
 fZ l j M0 fun d e =>
 q9 (fun g =>
 aJ d 2 fun t =>
 aD e t fun u =>
 fQ .neq u (St []) fun v =>
 bB v (
 aJ d 2 fun w =>
 aD e w fun x =>
 qY false [2] e a1 x fun y h =>
 g [] h) (
 g [] e)) (fun z c =>
 aJ d 1 fun m =>
 aD c m fun n =>
 bP true 1 n (.sc (.pointer none)) fun o =>
 bB o (
 aJ d 0 fun p =>
 aD c p fun q =>
 aJ d 1 fun r =>
 aD c r fun s =>
 q8 false [2] c a1 q s fun i =>
 Q (.tup []) i) (
 Q (.tup []) c))
def aU (p1 p2:Nat) (a0:AV) (M0:RM) (Q:af) : Prop :=
 oV p1 a0 fun e d =>
 fZ e d M0 fun g c =>
 Q (.fn (.func p2) [] [g]) c
def eB (p1:ax) (a0:AV) (M0:RM) (Q:af) : Prop :=
 bf a0 fun d =>
 aJ d 0 fun e =>
 p1 [e] M0 fun g c =>
 Q g c
set_option maxRecDepth 10000
abbrev qw:AV:=.sc (.pointer none)
section
variable {fbs gbs:List Nat} {own own' : aO} {M M' : RM} {bs:List Nat} {m:Nat} {d:Dir} {t:Tag} {s:Nm}
theorem eZ (h:MapAt own M fbs m d t) {K:AV→Prop} (h1:fO d s=none→K qw) (h2:∀ f b,fO d s=some f→fbs[f]?=some b→K (.ptr b 0)) : iF false [2] qw false M (.map m) (St s) K:=by
 obtain⟨es,cl,hh,he⟩:=h.heap
 rcases mM s 0 he with⟨a1,a2⟩ | ⟨j,f,b,a1,a2,a3,a4,a5⟩
 ·exact⟨m,es,cl,[St s],none,rfl,hh,rfl,rfl,a1,h1 a2⟩
 ·exact⟨m,es,cl,[St s],_,rfl,hh,rfl,rfl,a1,h2 f b a2 a3⟩
theorem CQ (h:MapAt own M fbs m d t) {K:af} (hK:∀ M',MapAt own M' fbs m (iU d s) t→ae [m] M M'→M'.next=M.next→K (.tup []) M') : qY false [2] M (.map m) (St s) K:=by
 obtain⟨es,cl,hh,he⟩:=h.heap
 rcases mM s 0 he with⟨a1,a2⟩ | ⟨j,f,b,a1,a2,a3,a4,a5⟩
 ·refine⟨m,es,cl,[St s],none,rfl,hh,rfl,rfl,a1,hK _ ⟨h.tg,h.lt,es,cl,aZ _, ?_⟩ ((ae.refl _ _).put _ (.inr (by simp))) rfl⟩
  rw[(tF a2).1]; exact he
 ·refine⟨m,es,cl,[St s],_,rfl,hh,rfl,rfl,a1,hK _ ⟨h.tg,h.lt,es.eraseIdx j,cl, ?_,a4⟩ ((ae.refl _ _).put _ (.inr (by simp))) rfl⟩
  rw[aZ]; simp only[H5,Nat.zero_add]
theorem Dh (h:MapAt own M fbs m d t) {f b:Nat} (hf:fbs[f]?=some b) {K:RM→Prop} (hK:∀ M',MapAt own M' fbs m (jh d s f) t→ae [m] M M'→M'.next=M.next→K M') : q8 false [2] M (.map m) (St s) (.ptr b 0) K:=by
 obtain⟨es,cl,hh,he⟩:=h.heap
 rcases mM s 0 he with⟨a1,a2⟩ | ⟨j,f',b',a1,a2,a3,a4,a5⟩
 ·refine⟨m,es,cl,[St s],none,rfl,hh,rfl,rfl,a1,hK _ ⟨h.tg,h.lt,_,_,aZ _, ?_⟩ ((ae.refl _ _).put _ (.inr (by simp))) rfl⟩
  rw[(tF a2).2]; exact he.snoc hf (Nat.zero_le _)
 ·refine⟨m,es,cl,[St s],_,rfl,hh,rfl,rfl,a1,hK _ ⟨h.tg,h.lt,_,cl, ?_,a5 f b hf⟩ ((ae.refl _ _).put _ (.inr (by simp))) rfl⟩
  rw[aZ]; simp only[G7,Nat.zero_add]
theorem Cx (h:MapAt own M fbs m d t) {K:AV→Prop} : vZ M (.map m) K=K (N .i64 d.length):=by
 obtain⟨es,cl,hh,he⟩:=h.heap
 apply propext
 constructor
 ·rintro⟨b,es',c,e,h1,h2⟩
  cases e; rw[hh] at h1; cases h1
  rw[← he.len]; exact h2
 ·intro hk; exact⟨m,es,cl,rfl,hh,by rw[he.len]; exact hk⟩
end
def Gn (fbs:List Nat) (c:kC) : Prop:=∀ f,c.2.1=some f→f<fbs.length
def Gh (c:ax) : Prop:=∀ {own:aO} {M:RM} {fbs:List Nat} {m:Nat} {d:Dir} {t:Tag} {ch:kC} {Q:af},MapAt own M fbs m d t→Gn fbs ch →
 (∀ M',MapAt own M' fbs m (jG d ch) t→ae [m] M M'→Q (.tup []) M')→c [.agg (dG.cells (df fbs ch)),.map m] M Q
theorem IE {a b:List UInt8} {K:AV→Prop} : fQ .neq (St a) (St b) K=K (Bo (decide (a≠b))):=by
 simp only[go_sem]
 congr 2
 by_cases h:a=b <;> simp[h]
theorem GD {TC:Nat} : Gh fun args M Q=>∃ a0 a1,args=[a0,a1]∧gQ TC a0 a1 M Q:=by
 intro own M fbs m d t ch Q hm hw hQ
 refine⟨_,_,rfl, ?_⟩
 unfold gQ
 rw[oQ (dG.one _) (by rw[dG.len]; decide),dD]
 have k1:ae [m] M (M.push (.row (dG.cells (df fbs ch)) false TC 0)):=(ae.refl _ _).push _
 have k1' : ae [] M (M.push (.row (dG.cells (df fbs ch)) false TC 0)):=(ae.refl _ _).push _
 have nn:(M.push (.row (dG.cells (df fbs ch)) false TC 0)).next=M.next + 1:=aM _
 have h1:(M.push (.row (dG.cells (df fbs ch)) false TC 0)).heap M.next=some (.row (dG.cells (df fbs ch)) false TC 0):=RM.bz _
 generalize M.push (.row (dG.cells (df fbs ch)) false TC 0)=M1 at *
 have hm1:=hm.step k1' (by simp) (fun _ h=>h)
 have hlt:=hm.lt
 have n1:=k1.next
 simp only[uo]
 refine tZ (fun zs M'=>zs=[]∧MapAt own M' fbs m (if ch.2.2≠[] then iU d ch.2.2 else d) t∧ae [m] M M'∧M'.heap M.next=some (.row (dG.cells (df fbs ch)) false TC 0)) ?_ ?_
 ·rintro zs M2 ⟨rfl,hm2,k2,h2⟩
  rw[ah,aB (i:=0 + 1) (x:=match (df fbs ch).2.1 with | some b=>.ptr b 0 | none=>.sc (.pointer none)) h2 rfl]
  obtain⟨n,o,g⟩:=ch
  cases o with
  | none =>
    simp only[df,Option.bind_none]
    rw[bX,Bool.not_true,je]
    exact hQ _ hm2 k2
  | some f =>
    have hf:=hw f rfl
    simp only[df,Option.bind_some]
    rw[List.getElem?_eq_getElem hf]
    dsimp only
    rw[bT,j3,ah,aB (i:=0 + 0) (x:=St n) h2 rfl,ah,aB (i:=0 + 1) (x:=.ptr fbs[f] 0) h2 (by simp only[dG,df,Option.bind_some]; rw[List.getElem?_eq_getElem hf]; rfl)]
    refine Dh hm2 (List.getElem?_eq_getElem hf) fun M3 hm3 k3 n3=>?_
    exact hQ _ hm3 (k2.trans k3)
 ·intro J hJ
  rw[ah,aB (i:=0 + 2) (x:=St ch.2.2) h1 rfl,IE]
  refine eG (fun hc=>?_) (fun hc=>?_)
  ·have hc:=of_decide_eq_true hc
   rw[ah,aB (i:=0 + 2) (x:=St ch.2.2) h1 rfl]
   refine CQ hm1 fun M2 hm2 k2 n2=>?_
   refine hJ _ _ ⟨rfl, ?_,k1.trans k2,k2.bI h1 (by omega) (by simp; omega)⟩
   rw[if_pos hc]; exact hm2
  ·have hc:=of_decide_eq_false hc
   refine hJ _ _ ⟨rfl, ?_,k1,h1⟩
   rw[if_neg hc]; exact hm1
theorem bN.row' {TD TF TU TC db:Nat} {s s' : aK} {own:aO} {M:RM} {fbs:List Nat} {nm sm nm' sm' : Nat} {cv cv' : AV} (h:bN TD TF TU TC own M db s fbs nm sm cv) (l:List AV)
  (hl:l=[N .i64 s'.aN,.map nm',.map sm',cv',N .i64 s'.app,N .i64 s'.syn])
  (h1:MapAt own M fbs nm' s'.dir .names) (h2:MapAt own M fbs sm' s'.dB .safe) (h3:jg TC own M fbs cv' s'.chg) (h4:fM TF TU own M fbs s'.files) :
  bN TD TF TU TC own (M.put db (.row l false TD 0)) db s' fbs nm' sm' cv':=by
 have hk:ae [db] M (M.put db (.row l false TD 0)):=(ae.refl _ _).put _ (.inr (by simp))
 have hd:=h.od
 have hn:∀ t:Tag,t≠.disk→∀ b∈[db],own b≠some t:=by
  intro t ht b hb
  rw[List.mem_singleton] at hb; subst hb
  rw[hd]; simpa using fun e=>ht e.symm
 subst hl
 exact⟨h.lt,hd,aZ _,h1.step hk (hn _ (by simp)) (fun _ h=>h),h2.step hk (hn _ (by simp)) (fun _ h=>h),h3.step hk (hn _ (by simp)) (fun _ h=>h),
  h4.step hk (fun b hb i=>⟨hn _ (by simp) b hb,hn _ (by simp) b hb⟩) (fun _ _ _=>rfl)⟩
theorem lK {own:aO} {M:RM} {b:Nat} (x:RB) (h:own b≠none) : Tr own M own (M.put b x) :=
 ⟨[b],(ae.refl _ _).put _ (.inr (by simp)),by simpa using h,fun _ _ h=>h⟩
def mh (TD TF TU TC:Nat) (c:ax) : Prop:=∀ {own:aO} {M:RM} {db:Nat} {s:aK} {fbs:List Nat} {nm sm:Nat} {cv:AV} {ch:kC} {Q:af},bN TD TF TU TC own M db s fbs nm sm cv→Gn fbs ch→s.chg.length≤1000000000 →
 (∀ own' M',bu TD TF TU TC own' M' db { s with dir:=jG s.dir ch,chg:=s.chg++[ch] } → Tr own M own' M'→Q (N .i64 0) M')→c [.ptr db 0,.agg (dG.cells (df fbs ch))] M Q
theorem zK {TD TF TU TC:Nat} {cdo:ax} (hdo:Gh cdo) : mh TD TF TU TC fun args M Q=>∃ a0 a1,args=[a0,a1]∧fC TC cdo a0 a1 M Q:=by
 intro own M db s fbs nm sm cv ch Q hd hw hlen hQ
 refine⟨_,_,rfl, ?_⟩
 unfold fC
 rw[oQ (dG.one _) (by rw[dG.len]; decide),dD]
 have k1:ae [] M (M.push (.row (dG.cells (df fbs ch)) false TC 0)):=(ae.refl _ _).push _
 have n1:(M.push (.row (dG.cells (df fbs ch)) false TC 0)).next=M.next + 1:=aM _
 have h1:(M.push (.row (dG.cells (df fbs ch)) false TC 0)).heap M.next=some (.row (dG.cells (df fbs ch)) false TC 0):=RM.bz _
 generalize M.push (.row (dG.cells (df fbs ch)) false TC 0)=M1 at *
 have hd1:=hd.keep k1
 rw[oh (n:=3) h1 (dG.len _),au,ah,aB (i:=0 + 1) hd1.row rfl]
 refine hdo hd1.names hw fun M2 m2 k2=>?_
 have hnm:=hd1.names.lt
 have hnd:nm≠db:=fun e=>by have:=hd1.names.tg; rw[e,hd1.od] at this; cases this
 have hnt:=hd1.names.tg
 have hno:∀ b,own b≠some .names→b≠nm:=fun b hb e=>hb (by rw[e]; exact hnt)
 have hold:M.next≠nm:=by have:=hd.names.lt; omega
 have r2:=k2.bI hd1.row hd1.Ce (by simp; exact fun e=>hnd e.symm)
 have h2:=k2.bI h1 (by omega) (by simp; exact hold)
 have hn2:∀ t:Tag,t≠.names→∀ b∈[nm],own b≠some t:=by
  intro t ht b hb; rw[List.mem_singleton] at hb; subst hb; rw[hnt]; simpa using fun e=>ht e.symm
 have sm2:=hd1.safe.step k2 (hn2 _ (by simp)) (fun _ h=>h)
 have cg2:=hd1.chg.step k2 (hn2 _ (by simp)) (fun _ h=>h)
 have fl2:=hd1.files.step (own':=own) k2 (fun b hb i=>⟨hn2 _ (by simp) b hb,hn2 _ (by simp) b hb⟩) (fun _ _ _=>rfl)
 have n2:=k2.next
 rw[au,ah,aB (i:=0 + 3) r2 rfl,oh (n:=3) h2 (dG.len _),IB (x:=.agg (dG.cells (df fbs ch))) (size:=3) (dG.len _) (dG.one _) rfl,BH]
 refine GX (E:=dG) (a:=df fbs ch) cg2.ow (Nat.zero_le _) (by decide) (by rw[List.length_map]; omega) (by rw[List.length_map]; omega) fun v M3 o3 k3 n3 ho=>?_
 have hlt2:∀ b,own b≠none→b<M1.next:=fun b hb=>Nat.lt_of_lt_of_le (hd.lt b hb) k1.next
 let own' : aO:=fun b=>if b∈ak v then some .chg else own b
 have hb' : ∀ b,own b≠none→own b≠some .chg→own' b=own b:=by
  intro b hb hb2
  show(if b∈ak v then some Tag.chg else own b)=own b
  rw[if_neg]
  intro hm
  rcases ho with rfl | ho
  ·exact hb2 (cg2.blk b hm)
  ·have:=ho b hm; have:=hlt2 b hb; omega
 have hsome:∀ {t:Tag} {b},own b=some t→t≠.chg→own' b=some t:=by
  intro t b hb ht
  rw[hb' b (by rw[hb]; simp) (by rw[hb]; simpa using ht),hb]
 have hc3:∀ t:Tag,t≠.chg→∀ b∈ak cv,own b≠some t:=by
  intro t ht b hb; rw[cg2.blk b hb]; simpa using fun e=>ht e.symm
 have r3:=k3.bI r2 (Nat.lt_of_lt_of_le hd1.Ce n2) (fun hm=>hc3 .disk (by simp) _ hm hd.od)
 rw[au,ah,eu (i:=0 + 3) [N .i64 s.aN,.map nm,.map sm,v,N .i64 s.app,N .i64 s.syn] r3 (by simp) (Own.cells o3) (Own.one o3) rfl]
 have m3:=m2.step (own':=own') k3 (hc3 _ (by simp)) (fun b hb=>hsome hb (by simp))
 have s3:=sm2.step (own':=own') k3 (hc3 _ (by simp)) (fun b hb=>hsome hb (by simp))
 have f3:=fl2.step (own':=own') k3 (fun b hb i=>⟨hc3 _ (by simp) b hb,hc3 _ (by simp) b hb⟩) (fun b i h=>by rcases h with h | h <;> rw[hsome h (by simp),h])
 have g3:jg TC own' M3 fbs v (s.chg++[ch]):=by
  refine⟨by rw[List.map_append]; exact o3,fun b hb=>if_pos hb,fun c hc f hf=>?_⟩
  rcases List.mem_append.1 hc with hc | hc
  ·exact cg2.wf c hc f hf
  ·rw[List.mem_singleton] at hc; subst hc; exact hw f hf
 have hlt3:∀ b,own' b≠none→b<M3.next:=by
  intro b hb
  by_cases hm:b∈ak v
  ·exact(Own.blk o3 b hm).2
  ·have:own' b=own b:=if_neg hm
   rw[this] at hb; have:=hlt2 b hb; omega
 have hfin:bN TD TF TU TC own' (M3.put db (.row [N .i64 s.aN,.map nm,.map sm,v,N .i64 s.app,N .i64 s.syn] false TD 0)) db { s with dir:=jG s.dir ch,chg:=s.chg++[ch] } fbs nm sm v:=by
  have hk:ae [db] M3 (M3.put db (.row [N .i64 s.aN,.map nm,.map sm,v,N .i64 s.app,N .i64 s.syn] false TD 0)):=(ae.refl _ _).put _ (.inr (by simp))
  have od' : own' db=some .disk:=hsome hd.od (by simp)
  have hn:∀ t:Tag,t≠.disk→∀ b∈[db],own' b≠some t:=by
   intro t ht b hb; rw[List.mem_singleton] at hb; subst hb; rw[od']; simpa using fun e=>ht e.symm
  exact⟨fun b hb=>Nat.lt_of_lt_of_le (hlt3 b hb) hk.next,od',aZ _,m3.step hk (hn _ (by simp)) (fun _ h=>h),s3.step hk (hn _ (by simp)) (fun _ h=>h),g3.step hk (hn _ (by simp)) (fun _ h=>h),
   f3.step hk (fun b hb i=>⟨hn _ (by simp) b hb,hn _ (by simp) b hb⟩) (fun _ _ _=>rfl)⟩
 refine hQ own' _ ⟨_,_,_,_,hfin⟩ ⟨nm :: db :: ak cv, ?_, ?_, ?_⟩
 ·have a1:ae (nm :: db :: ak cv) M M2:=(k1.mono (by simp)).trans (k2.mono (by simp))
  have a2:ae (nm :: db :: ak cv) M M3:=a1.trans (k3.mono (fun b hb=>by simp[hb]))
  exact a2.put _ (.inr (by simp))
 ·intro b hb
  simp only[List.mem_cons] at hb
  rcases hb with rfl | rfl | hb
  ·rw[hnt]; simp
  ·rw[hd.od]; simp
  ·rw[cg2.blk b hb]; simp
 ·intro b hb ho'
  show(if b∈ak v then some Tag.chg else own b)=none
  rw[if_neg,ho']
  intro hm
  rcases ho with rfl | ho
  ·rw[cg2.blk b hm] at ho'; cases ho'
  ·have:=ho b hm; omega
def jM (c:UInt8) : Bool:=(97≤c && c≤122) || (48≤c && c≤57) || c == 46 || c == 45 || c == 95
def jC (n:Nm) : Bool:=decide (1≤n.length) && (decide (n.length≤64) && n.all jM)
def tot (fs:List gK) : Dir→Nat
 | []=>0
 | e :: d=>(fs[e.2]?.getD ([],0)).1.length + tot fs d
abbrev xU (n:Int) : Int:=IntKind.wrap .i64 n
def r9 (s:aK) (c:kC) : aK := { s with dir:=jG s.dir c,chg:=s.chg++[c] }
def dC (s:aK) (n:Nm) : aK × Int :=
 if jC n=false then(s,1) else if (fO s.dir n).isSome then(s,12) else(r9 { s with files:=s.files++[([],0)] } (n,some s.files.length,[]),0)
def ed (s:aK) (f:Nat) : gK:=s.files[f]?.getD ([],0)
def bZ (s:aK) (n:Nm) (b:List UInt8) : aK × Int :=
 match fO s.dir n with
 | none=>(s,4)
 | some f=>if s.aN - (tot s.files s.dir:Int)<b.length then(s,5) else({ s with files:=s.files.set f ((ed s f).1++b,(ed s f).2),app:=xU (s.app + 1) },0)
def j5 (s:aK) (n:Nm) : List UInt8 × Int :=
 match fO s.dir n with
 | none=>([],4)
 | some f=>((ed s f).1,0)
def nX (s:aK) (n:Nm) : aK × Int :=
 match fO s.dir n with
 | none=>(s,4)
 | some f=>({ s with files:=s.files.set f ((ed s f).1,(ed s f).1.length),syn:=xU (s.syn + 1) },0)
def jZ (s:aK) (n to:Nm) : aK × Int :=
 match fO s.dir n with
 | none=>(s,4)
 | some f=>if jC to=false then(s,1) else(r9 s (to,some f,n),0)
def ja (s:aK) (n:Nm) : aK × Int :=
 match fO s.dir n with
 | none=>(s,4)
 | some _=>(r9 s ([],none,n),0)
def jY (s:aK) : aK := { s with dB:=s.dir,chg:=[],syn:=xU (s.syn + 1) }
def Ah (s:aK) (n:Int) : aK := { s with aN:=if 0 > n then 0 else n }
def bU (p:List Int) (i n:Nat) : Nat:=match p[i]? with
 | none=>0
 | some x=>if x<0 then 0 else x.toNat % n
def Dl (c:ax) : Prop:=∀ {M:RM} {v:AV} {p:List Int} {i n:Nat} {Q:af},Sl INT M v p→1≤n→Q (N .i64 (bU p i n:Int)) M→c [v,N .i64 (i:Int),N .i64 (n:Int)] M Q
theorem Ew:Dl fun args M Q=>∃ a0 a1 a2,args=[a0,a1,a2]∧jP a0 a1 a2 M Q:=by
 intro M v p i n Q hv hn hQ
 refine⟨_,_,_,rfl, ?_⟩
 unfold jP
 simp only[DC]
 rw[aT.len hv,HV]
 refine HY (p:=match p[i]? with | none=>true | some x=>decide (x<0)) (fun hc k hk=>?_) ?_
 ·have hlt:i<p.length:=by have:=of_decide_eq_false hc; omega
  obtain⟨b,o,h1,h2,h3,h4⟩:=Sl.Ci hv (i:=i) (i:Int) hlt
  rw[h3,eX,h4 (N .i64 p[i]) rfl]
  simp only[Option.some.injEq,exists_eq_left']
  rw[tQ]
  rw[List.getElem?_eq_getElem hlt] at hk
  exact hk
 ·refine eG (fun hc=>?_) (fun hc=>?_)
  ·have:bU p i n=0:=by
    unfold bU
    rcases hg:p[i]? with _ | x
    ·rfl
    ·have hlt:=(List.getElem?_eq_some_iff.1 hg).1
     rw[hg] at hc
     simp only[Bool.or_eq_true,decide_eq_true_eq] at hc
     rcases hc with hc | hc
     ·omega
     ·exact if_pos hc
   rw[this] at hQ; exact hQ
  ·rw[Bool.or_eq_false_iff] at hc
   have hlt:i<p.length:=by have:=of_decide_eq_false hc.1; omega
   have hg:=List.getElem?_eq_getElem hlt
   have h0:=hc.2
   rw[hg] at h0
   have h0:=of_decide_eq_false h0
   obtain⟨b,o,h1,h2,h3,h4⟩:=Sl.Ci hv (i:=i) (i:Int) hlt
   rw[h3,eX,h4 (N .i64 p[i]) rfl]
   simp only[Option.some.injEq,exists_eq_left']
   have:bU p i n=p[i].toNat % n:=by unfold bU; rw[hg]; exact if_neg h0
   rw[this] at hQ
   generalize p[i]=x at *
   obtain⟨y,rfl⟩:=Int.eq_ofNat_of_zero_le (Int.not_lt.1 h0)
   rw[FE]
   exact⟨by omega,hQ⟩
def yS (c:ax) : Prop:=∀ {M:RM} {s:List UInt8} {Q:af},1≤s.length→s.length≤64→(∀ M' r,ae [] M M'→(r=[]↔s.all jM=true)→Q (St r) M') →
 c [St s,St [97,98,99,100,101,102,103,104,105,106,107,108,109,110,111,112,113,114,115,116,117,118,119,120,121,122,48,49,50,51,52,53,54,55,56,57,46,45,95]] M Q
def yM (c:ax) : Prop:=∀ {M:RM} {s:Nm} {Q:af},(∀ M',ae [] M M'→Q (Bo (jC s)) M')→c [St s] M Q
theorem EJ {ct:ax} (ht:yS ct) : yM fun args M Q=>∃ a0,args=[a0]∧jS ct a0 M Q:=by
 intro M s Q hQ
 refine⟨_,rfl, ?_⟩
 unfold jS
 simp only[DC]
 rw[xH,show(N .i64 (1:Int))=N .i64 ((1:Nat) : Int) from rfl,HV]
 refine fo (p:=decide (s.length≤64)) (fun hc k hk=>?_) ?_
 ·rw[xH,show(N .i64 (64:Int))=N .i64 ((64:Nat) : Int) from rfl,J4]; exact hk
 refine Iy (p:=s.all jM) (P:=fun M'=>ae [] M M') (ae.refl _ _) (fun hc k hk=>?_) (fun M' k1=>?_)
 ·simp only[Bool.and_eq_true,decide_eq_true_eq] at hc
  refine ht hc.1 hc.2 fun M' r k1 hr=>?_
  rw[sP]
  have:(r == [])=s.all jM:=by
   rw[Bool.eq_iff_iff]; simp only[beq_iff_eq]; exact hr
  rw[this]
  exact hk _ k1
 ·have:jC s=(decide (s.length ≥ 1) && decide (s.length≤64) && s.all jM):=by
   unfold jC; rw[Bool.and_assoc]
  rw[this] at hQ
  exact hQ _ k1
def sM (c:ax) : Prop:=∀ {M:RM} {b o el:Nat} {l:List AV} {p:Bool} {x y:Int} {Q:af},M.heap b=some (.row l p el 0)→l[o]?=some (N .i64 x) →
 Q (N .i64 (xU (x + y))) (M.put b (.row (l.set o (N .i64 (xU (x + y)))) p el 0))→c [.ptr b o,N .i64 y] M Q
theorem E8 {x:ax} (hx:sM x) : sM fun args M Q=>∃ a0 a1,args=[a0,a1]∧eP x a0 a1 M Q:=by
 intro M b o el l p n y Q hh hl hQ
 refine⟨_,_,rfl, ?_⟩
 unfold eP
 rw[au,ah,Nat.add_zero]
 exact hx hh hl hQ
def vD (c:ax) : Prop:=∀ {M:RM} {b o el:Nat} {l:List AV} {p:Bool} {x:Int} {Q:af},M.heap b=some (.row l p el 0)→l[o]?=some (N .i64 x)→Q (N .i64 x) M→c [.ptr b o] M Q
theorem Ee {x:ax} (hx:vD x) : vD fun args M Q=>∃ a0,args=[a0]∧eB x a0 M Q:=by
 intro M b o el l p n Q hh hl hQ
 refine⟨_,rfl, ?_⟩
 unfold eB
 rw[au,ah,Nat.add_zero]
 exact hx hh hl hQ
section
variable {TD TF TU TC:Nat}
def yX (TD TF TU TC:Nat) (c:ax) : Prop:=∀ {own:aO} {M:RM} {db:Nat} {s:aK} {n:Int} {Q:af},bu TD TF TU TC own M db s →
 (∀ own' M',bu TD TF TU TC own' M' db (Ah s n)→Tr own M own' M'→Q (.tup []) M')→c [.ptr db 0,N .i64 n] M Q
theorem DN:yX TD TF TU TC fun args M Q=>∃ a0 a1,args=[a0,a1]∧gI a0 a1 M Q:=by
 intro own M db s n Q hd hQ
 obtain⟨fbs,nm,sm,cv,hd⟩:=hd
 refine⟨_,_,rfl, ?_⟩
 unfold gI
 rw[Ho,au,ah]
 rw[wU (i:=0 + 0) hd.row (by simp) rfl rfl]
 exact hQ own _ ⟨_,_,_,_,hd.row' (s':=Ah s n) _ rfl hd.names hd.safe hd.chg hd.files⟩ (lK _ (by rw[hd.od]; simp))
theorem iq.put {own:aO} {M:RM} {fbs:List Nat} {i b:Nat} {v:AV} {f:gK} (h:iq TF TU own M fbs i b v f) (n:Nat) (hn:n≤f.1.length) :
  iq TF TU own (M.put b (.row [v,N .i64 (n:Int)] false TF 0)) fbs i b v (f.1,n):=by
 have hk:ae [b] M (M.put b (.row [v,N .i64 (n:Int)] false TF 0)):=(ae.refl _ _).put _ (.inr (by simp))
 refine⟨h.at_,h.lt,h.tg,aZ _,h.fb.keep hk (fun c hc hm=>?_),hn,h.blk⟩
 rw[List.mem_singleton] at hm
 have:=h.blk c hc
 rw[hm,h.tg] at this; cases this
theorem jB {own:aO} {b:Nat} {t u:Tag} (h:own b=some t) (hne:u≠t) : ∀ c∈[b],own c≠some u:=by
 intro c hc; rw[List.mem_singleton] at hc; subst hc; rw[h]; simpa using fun e=>hne e.symm
def yE (TD TF TU TC:Nat) (c:ax) : Prop:=∀ {own:aO} {M:RM} {db:Nat} {s:aK} {n:Nm} {Q:af},bu TD TF TU TC own M db s →
 (∀ own' M',bu TD TF TU TC own' M' db (nX s n).1→Tr own M own' M'→Q (N .i64 (nX s n).2) M')→c [.ptr db 0,St n] M Q
theorem EN {ca:ax} (ha:sM ca) : yE TD TF TU TC fun args M Q=>∃ a0 a1,args=[a0,a1]∧gT ca a0 a1 M Q:=by
 intro own M db s n Q hd hQ
 have hd0:=hd
 obtain⟨fbs,nm,sm,cv,hd⟩:=hd
 refine⟨_,_,rfl, ?_⟩
 unfold gT
 rw[au,ah,aB (i:=0 + 1) hd.row rfl]
 unfold nX at hQ
 refine eZ hd.names (fun hn=>?_) (fun f b hf hb=>?_)
 ·rw[hn] at hQ
  rw[bX,Bool.not_false,j3]
  exact hQ own M hd0 (Tr.refl _ _)
 ·rw[hf] at hQ
  dsimp only at hQ
  rw[bT,je]
  obtain⟨fl,v,hfl,hat⟩:=hd.files.at hb
  have hff:ed s f=fl:=by unfold ed; rw[hfl]; rfl
  have hfi:=(List.getElem?_eq_some_iff.1 hfl).1
  rw[au,ah,aB (i:=0 + 0) hat.heap rfl,aT.len hat.fb.sl,au,ah,eu (i:=0 + 1) [v,N .i64 (fl.1.length:Int)] hat.heap (by simp) rfl rfl rfl]
  have h1:=hat.put fl.1.length (Nat.le_refl _)
  have hk:ae [b] M (M.put b (.row [v,N .i64 (fl.1.length:Int)] false TF 0)):=(ae.refl _ _).put _ (.inr (by simp))
  have ht:=hat.tg
  have hbd:b≠db:=fun e=>by rw[e,hd.od] at ht; cases ht
  have r1:=Bq hd.row (c:=b) (z:=.row [v,N .i64 (fl.1.length:Int)] false TF 0) (fun e=>hbd e.symm)
  have t1:Tr own M own (M.put b (.row [v,N .i64 (fl.1.length:Int)] false TF 0)):=lK _ (by rw[ht]; simp)
  have n1:=hd.names.step hk (jB ht (by simp)) (fun _ h=>h)
  have s1:=hd.safe.step hk (jB ht (by simp)) (fun _ h=>h)
  have c1:=hd.chg.step hk (jB ht (by simp)) (fun _ h=>h)
  have f1:=hd.files.set hfi h1 hk (fun c hc j hj=>⟨jB ht (by simpa using hj) c hc,jB ht (by simp) c hc⟩) (fun _ _ _ _=>rfl)
  generalize M.put b (.row [v,N .i64 (fl.1.length:Int)] false TF 0)=M1 at *
  rw[au,ah]
  refine ha r1 rfl ?_
  have hd1:bN TD TF TU TC own M1 db { s with files:=s.files.set f (fl.1,fl.1.length) } fbs nm sm cv:=⟨fun b hb=>Nat.lt_of_lt_of_le (hd.lt b hb) t1.next,hd.od,r1,n1,s1,c1,f1⟩
  rw[hff] at hQ
  exact hQ own _ ⟨_,_,_,_,hd1.row' (s' := { s with files:=s.files.set f (fl.1,fl.1.length),syn:=xU (s.syn + 1) }) _ rfl n1 s1 c1 f1⟩ (t1.trans (lK _ (by rw[hd.od]; simp)))
def BL (TU:Nat) (c:ax) : Prop:=Go.Ab.Dot.Hm TU 1 1 c
def yI (TD TF TU TC:Nat) (c:ax) : Prop:=∀ {own:aO} {M:RM} {db:Nat} {s:aK} {n:Nm} {Q:af},bu TD TF TU TC own M db s→(∀ f∈s.files,f.1.length≤140737488355328) →
 (∀ v M',ae [] M M'→Ow BY M' M.next TU v (j5 s n).1→Q (.tup [v,N .i64 (j5 s n).2]) M')→c [.ptr db 0,St n] M Q
theorem Er {ck:ax} (hc:BL TU ck) : yI TD TF TU TC fun args M Q=>∃ a0 a1,args=[a0,a1]∧gU ck a0 a1 M Q:=by
 intro own M db s n Q hd hlen hQ
 obtain⟨fbs,nm,sm,cv,hd⟩:=hd
 refine⟨_,_,rfl, ?_⟩
 unfold gU
 rw[au,ah,aB (i:=0 + 1) hd.row rfl]
 unfold j5 at hQ
 refine eZ hd.names (fun hn=>?_) (fun f b hf hb=>?_)
 ·rw[hn] at hQ
  rw[bX,Bool.not_false,j3]
  exact hQ _ M (ae.refl _ _) .nil
 ·rw[hf] at hQ
  dsimp only at hQ
  rw[bT,je]
  obtain⟨fl,v,hfl,hat⟩:=hd.files.at hb
  have hff:ed s f=fl:=by unfold ed; rw[hfl]; rfl
  rw[hff] at hQ
  have:=hlen fl (List.mem_of_getElem? hfl)
  rw[au,ah,aB (i:=0 + 0) hat.heap rfl]
  refine hc hat.fb.sl (BY.nJ _) (by omega) this fun v' M' o k=>?_
  exact hQ v' M' k o
def wS (TD TF TU TC:Nat) (F:aK→Nm→aK × Int) (c:ax) : Prop:=∀ {own:aO} {M:RM} {db:Nat} {s:aK} {n:Nm} {Q:af},bu TD TF TU TC own M db s→s.chg.length≤1000000000 →
 (∀ own' M',bu TD TF TU TC own' M' db (F s n).1→Tr own M own' M'→Q (N .i64 (F s n).2) M')→c [.ptr db 0,St n] M Q
theorem Be {cc:ax} (hc:mh TD TF TU TC cc) : wS TD TF TU TC ja fun args M Q=>∃ a0 a1,args=[a0,a1]∧gm cc a0 a1 M Q:=by
 intro own M db s n Q hd hlen hQ
 have hd0:=hd
 obtain⟨fbs,nm,sm,cv,hd⟩:=hd
 refine⟨_,_,rfl, ?_⟩
 unfold gm
 rw[au,ah,aB (i:=0 + 1) hd.row rfl]
 unfold ja at hQ
 refine eZ hd.names (fun hn=>?_) (fun f b hf hb=>?_)
 ·rw[hn] at hQ
  rw[bX,Bool.not_false,j3]
  exact hQ own M hd0 (Tr.refl _ _)
 ·rw[hf] at hQ
  dsimp only at hQ
  rw[bT,je,iY]
  refine⟨_,rfl, ?_⟩
  exact hc (ch:=([],none,n)) hd (fun f hf=>by cases hf) hlen fun own' M' h1 h2=>hQ own' M' h1 h2
def qZ (TD TF TU TC:Nat) (c:ax) : Prop:=∀ {own:aO} {M:RM} {db:Nat} {s:aK} {n to:Nm} {Q:af},bu TD TF TU TC own M db s→s.chg.length≤1000000000 →
 (∀ own' M',bu TD TF TU TC own' M' db (jZ s n to).1→Tr own M own' M'→Q (N .i64 (jZ s n to).2) M')→c [.ptr db 0,St n,St to] M Q
theorem BC {cg cc:ax} (hg:yM cg) (hc:mh TD TF TU TC cc) : qZ TD TF TU TC fun args M Q=>∃ a0 a1 a2,args=[a0,a1,a2]∧fU cg cc a0 a1 a2 M Q:=by
 intro own M db s n to Q hd hlen hQ
 have hd0:=hd
 obtain⟨fbs,nm,sm,cv,hd⟩:=hd
 refine⟨_,_,_,rfl, ?_⟩
 unfold fU
 rw[au,ah,aB (i:=0 + 1) hd.row rfl]
 unfold jZ at hQ
 refine eZ hd.names (fun hn=>?_) (fun f b hf hb=>?_)
 ·rw[hn] at hQ
  rw[bX,Bool.not_false,j3]
  exact hQ own M hd0 (Tr.refl _ _)
 ·rw[hf] at hQ
  dsimp only at hQ
  rw[bT,je]
  refine hg fun M1 k1=>?_
  rw[vE]
  have hd1:=hd.keep k1
  refine eG (fun hgd=>?_) (fun hgd=>?_)
  ·have hgd:jC to=false:=by simpa using hgd
   rw[if_pos hgd] at hQ
   exact hQ own M1 ⟨_,_,_,_,hd1⟩ (Tr.keep k1)
  ·have hgd:jC to=true:=by simpa using hgd
   rw[if_neg (by rw[hgd]; simp)] at hQ
   rw[iY]
   refine⟨_,rfl, ?_⟩
   have e:(.agg [St to,.ptr b 0,St n] : AV)=.agg (dG.cells (df fbs (to,some f,n))):=by simp only[df,Option.bind_some,hb]; rfl
   show cc [.ptr db 0,.agg [St to,.ptr b 0,St n]] M1 _
   rw[e]
   exact hc (ch:=(to,some f,n)) hd1 (fun g hg=>by cases hg; exact(List.getElem?_eq_some_iff.1 hb).1) hlen fun own' M' h1 h2=>hQ own' M' h1 ((Tr.keep k1).trans h2)
theorem xZ {l:List Nat} {x:Nat} : ∀ i b:Nat,l[i]?=some b→(l++[x])[i]?=some b:=by
 intro i b h
 rw[List.getElem?_append_left (List.getElem?_eq_some_iff.1 h).1]; exact h
theorem bN.GR {own:aO} {M:RM} {db:Nat} {s:aK} {fbs:List Nat} {nm sm:Nat} {cv:AV} (h:bN TD TF TU TC own M db s fbs nm sm cv) :
  bN TD TF TU TC (upd own M.next (.file s.files.length)) (M.push (.row [bR,N .i64 0] false TF 0)) db { s with files:=s.files++[([],0)] } (fbs++[M.next]) nm sm cv ∧
  Tr own M (upd own M.next (.file s.files.length)) (M.push (.row [bR,N .i64 0] false TF 0)):=by
 have hk:ae [] M (M.push (.row [bR,N .i64 0] false TF 0)):=(ae.refl _ _).push _
 have hn:own M.next=none:=by
  rcases ho:own M.next with _ | t
  ·rfl
  ·exact absurd (h.lt M.next (by rw[ho]; simp)) (Nat.lt_irrefl _)
 have hs:∀ {b:Nat} {t:Tag},own b=some t→upd own M.next (.file s.files.length) b=some t:=by
  intro b t hb
  rw[upd_ne (fun e=>by rw[e,hn] at hb; cases hb),hb]
 have hg:=xZ (l:=fbs) (x:=M.next)
 have hd:=h.keep hk
 refine⟨⟨fun b hb=>?_,hs h.od,hd.row,((hd.names.step (ae.refl [] _) (by simp) (fun _ h=>hs h)).grow hg),((hd.safe.step (ae.refl [] _) (by simp) (fun _ h=>hs h)).grow hg),
  ((hd.chg.step (ae.refl [] _) (by simp) (fun _ h=>hs h)).grow hg (by simp)), ?_⟩,[],hk,by simp,fun b hb ho=>by rw[upd_ne (by omega)]; exact ho⟩
 ·by_cases e:b=M.next
  ·rw[e,aM]; omega
  ·rw[upd_ne e] at hb
   exact Nat.lt_of_lt_of_le (h.lt b hb) hk.next
 ·have hf:=hd.files.step (own':=upd own M.next (.file s.files.length)) (ae.refl [] _) (by simp) (fun b i h=>by rcases h with h | h <;> rw[hs h,h])
  refine⟨by simp[hf.len],fun i f hi=>?_⟩
  rcases Nat.lt_or_ge i s.files.length with hlt | hge
  ·rw[List.getElem?_append_left hlt] at hi
   obtain⟨b,v,h1⟩:=hf.file i f hi
   exact⟨b,v,hg _ _ h1.at_,h1.lt,h1.tg,h1.heap,h1.fb,h1.le,h1.blk⟩
  ·rw[List.getElem?_append_right hge] at hi
   have hi0:i - s.files.length=0:=by
    have:=(List.getElem?_eq_some_iff.1 hi).1
    simp at this; omega
   rw[hi0] at hi
   cases hi
   have hi:i=s.files.length:=by omega
   subst hi
   refine⟨M.next,bR, ?_,by rw[aM]; omega,mD,RM.bz _,.nil,Nat.le_refl _,by simp[ak]⟩
   rw[← h.files.len]; simp
theorem Bg {cg cc:ax} (hg:yM cg) (hc:mh TD TF TU TC cc) : wS TD TF TU TC dC fun args M Q=>∃ a0 a1,args=[a0,a1]∧fK cg TF cc a0 a1 M Q:=by
 intro own M db s n Q hd hlen hQ
 obtain⟨fbs,nm,sm,cv,hd⟩:=hd
 refine⟨_,_,rfl, ?_⟩
 unfold fK
 unfold dC at hQ
 refine hg fun M1 k1=>?_
 rw[vE]
 have hd1:=hd.keep k1
 refine eG (fun hgd=>?_) (fun hgd=>?_)
 ·have hgd:jC n=false:=by simpa using hgd
  rw[if_pos hgd] at hQ
  exact hQ own M1 ⟨_,_,_,_,hd1⟩ (Tr.keep k1)
 ·have hgd:jC n=true:=by simpa using hgd
  rw[if_neg (by rw[hgd]; simp)] at hQ
  rw[au,ah,aB (i:=0 + 1) hd1.row rfl]
  refine eZ hd1.names (fun hn=>?_) (fun f b hf hb=>?_)
  ·rw[hn] at hQ
   rw[if_neg (by simp)] at hQ
   rw[bX,Bool.not_true,je,iY]
   refine⟨_,rfl, ?_⟩
   rw[oQ rfl (by simp),dD,iY]
   refine⟨_,rfl, ?_⟩
   obtain⟨hd2,t2⟩:=hd1.GR
   have hl:(fbs++[M1.next])[s.files.length]?=some M1.next:=by rw[← hd1.files.len]; simp
   have e:(.agg [St n,.ptr M1.next 0,St []] : AV)=.agg (dG.cells (df (fbs++[M1.next]) (n,some s.files.length,[]))):=by
    simp only[df,Option.bind_some,hl]; rfl
   show cc [.ptr db 0,.agg [St n,.ptr M1.next 0,St []]] _ _
   rw[e]
   exact hc (ch:=(n,some s.files.length,[])) hd2 (fun g hg=>by cases hg; exact(List.getElem?_eq_some_iff.1 hl).1) hlen fun own' M' h1 h2=>hQ own' M' h1 ((Tr.keep k1).trans (t2.trans h2))
  ·rw[hf] at hQ
   rw[if_pos (by simp)] at hQ
   rw[bT,j3]
   exact hQ own M1 ⟨_,_,_,_,hd1⟩ (Tr.keep k1)
end
section
variable {TD TF TU TC:Nat}
def tH (n:Int) : aK:=⟨[],[],[],[],n,0,0⟩
def DX (TD TF TU TC:Nat) (c:ax) : Prop:=∀ {M:RM} {n:Int} {Q:af},(n<0→Q (.tup [qw,N .i64 1]) M) →
 (¬ n<0→∀ own M' db,bu TD TF TU TC own M' db (tH n)→(∀ b,b<M.next→own b=none)→ae [] M M'→Q (.tup [.ptr db 0,N .i64 0]) M')→c [N .i64 n] M Q
theorem E9:DX TD TF TU TC fun args M Q=>∃ a0,args=[a0]∧kR TD a0 M Q:=by
 intro M n Q h1 h2
 refine⟨_,rfl, ?_⟩
 unfold kR
 rw[tQ]
 refine eG (fun hc=>h1 (of_decide_eq_true hc)) (fun hc=>?_)
 rw[dD,dD,iY]
 refine⟨_,rfl, ?_⟩
 rw[oQ rfl (by show 1≤6; decide),dD]
 have k1:ae [] M (((M.push (.map [] 0)).push (.map [] 0)).push (.row [N .i64 n,.map M.next,.map (M.next + 1),bR,N .i64 0,N .i64 0] false TD 0)):=(((ae.refl _ _).push _).push _).push _
 refine h2 (of_decide_eq_false hc) (upd (upd (upd (fun _=>none) M.next .names) (M.next + 1) .safe) (M.next + 2) .disk) _ _ ?_ ?_ k1
 ·have e1:(((M.push (.map [] 0)).push (.map [] 0)).push (.row [N .i64 n,.map M.next,.map (M.next + 1),bR,N .i64 0,N .i64 0] false TD 0)).heap M.next=some (.map [] 0) :=
   lY (lY (RM.bz _) (by rw[aM]; omega)) (by rw[aM,aM]; omega)
  have e2:(((M.push (.map [] 0)).push (.map [] 0)).push (.row [N .i64 n,.map M.next,.map (M.next + 1),bR,N .i64 0,N .i64 0] false TD 0)).heap (M.next + 1)=some (.map [] 0) :=
   lY (RM.bz _) (by rw[aM,aM]; omega)
  have o1:(upd (upd (upd (fun _=>none) M.next .names) (M.next + 1) .safe) (M.next + 2) .disk) M.next=some .names:=by
   rw[upd_ne (by omega),upd_ne (by omega),mD]
  have o2:(upd (upd (upd (fun _=>none) M.next .names) (M.next + 1) .safe) (M.next + 2) .disk) (M.next + 1)=some .safe:=by
   rw[upd_ne (by omega),mD]
  refine⟨[],M.next,M.next + 1,bR,fun b hb=>?_,mD,RM.bz _,⟨o1,by rw[aM,aM,aM]; omega,[],0,e1,trivial⟩,⟨o2,by rw[aM,aM,aM]; omega,[],0,e2,trivial⟩,.nil,⟨rfl,fun i f h=>by simp[tH] at h⟩⟩
  simp only[upd] at hb
  rw[aM,aM,aM]
  split at hb
  ·omega
  ·split at hb
   ·omega
   ·split at hb
    ·omega
    ·simp at hb
 ·intro b hb
  rw[upd_ne (by omega),upd_ne (by omega),upd_ne (by omega)]
def qG (c:ax) : Prop:=∀ {M:RM} {m cl:Nat} {es:List (AV × AV × Nat)} {Q:af},M.heap m=some (.map es cl)→Q (.map M.next) (M.push (.map es cl))→c [.map m] M Q
def Cm (T:Nat) (c:ax) : Prop:=∀ {M:RM} {m cl:Nat} {es:List (AV × AV × Nat)} {Q:af},M.heap m=some (.map es cl)→Q (.ifc T (.map M.next)) (M.push (.map es cl))→c [.ifc T (.map m)] M Q
theorem Bf {T:Nat} {x:ax} (hx:Cm T x) : qG fun args M Q=>∃ a0,args=[a0]∧aS T x a0 M Q:=by
 intro M m cl es Q hh hQ
 refine⟨_,rfl, ?_⟩
 unfold aS
 rw[wI,je]
 exact hx hh ⟨_,rfl,hQ⟩
theorem fresh {own:aO} {M:RM} (h:∀ b,own b≠none→b<M.next) : own M.next=none:=by
 rcases ho:own M.next with _ | t
 ·rfl
 ·exact absurd (h M.next (by rw[ho]; simp)) (Nat.lt_irrefl _)
def oL (TD TF TU TC:Nat) (c:ax) : Prop:=∀ {own:aO} {M:RM} {db:Nat} {s:aK} {Q:af},bu TD TF TU TC own M db s →
 (∀ own' M',bu TD TF TU TC own' M' db (jY s)→Tr own M own' M'→Q (N .i64 0) M')→c [.ptr db 0] M Q
theorem bN.copy {own:aO} {M:RM} {db:Nat} {s:aK} {fbs:List Nat} {nm sm m:Nat} {cv:AV} {es:List (AV × AV × Nat)} {cl:Nat} (h:bN TD TF TU TC own M db s fbs nm sm cv) (he:cO fbs cl 0 es s.dir) :
  bN TD TF TU TC (upd own M.next .safe) ((M.push (.map es cl)).put db (.row [N .i64 s.aN,.map nm,.map M.next,cv,N .i64 s.app,N .i64 s.syn] false TD 0)) db { s with dB:=s.dir } fbs nm M.next cv ∧
  Tr own M (upd own M.next .safe) ((M.push (.map es cl)).put db (.row [N .i64 s.aN,.map nm,.map M.next,cv,N .i64 s.app,N .i64 s.syn] false TD 0)):=by
 have k1:ae [] M (M.push (.map es cl)):=(ae.refl _ _).push _
 have hn:=fresh h.lt
 have hs:∀ {b:Nat} {t:Tag},own b=some t→upd own M.next .safe b=some t:=by
  intro b t hb
  rw[upd_ne (fun e=>by rw[e,hn] at hb; cases hb),hb]
 have hm:MapAt (upd own M.next .safe) (M.push (.map es cl)) fbs M.next s.dir .safe:=⟨mD,by rw[aM]; omega,es,cl,RM.bz _,he⟩
 have hd:=h.keep k1
 have hd1:bN TD TF TU TC (upd own M.next .safe) (M.push (.map es cl)) db s fbs nm sm cv:=by
  refine⟨fun b hb=>?_,hs h.od,hd.row,hd.names.step (ae.refl [] _) (by simp) (fun _ h=>hs h),hd.safe.step (ae.refl [] _) (by simp) (fun _ h=>hs h),hd.chg.step (ae.refl [] _) (by simp) (fun _ h=>hs h),
   hd.files.step (ae.refl [] _) (by simp) (fun b i h=>by rcases h with h | h <;> rw[hs h,h])⟩
  by_cases e:b=M.next
  ·rw[e,aM]; omega
  ·rw[upd_ne e] at hb
   exact Nat.lt_of_lt_of_le (h.lt b hb) k1.next
 have t1:Tr own M (upd own M.next .safe) (M.push (.map es cl)):=⟨[],k1,by simp,fun b hb ho=>by rw[upd_ne (by omega)]; exact ho⟩
 exact⟨hd1.row' (s' := { s with dB:=s.dir }) _ rfl hd1.names hm hd1.chg hd1.files,t1.trans (lK _ (by rw[hd1.od]; simp))⟩
theorem bN.calm {own:aO} {M:RM} {db:Nat} {s:aK} {fbs:List Nat} {nm sm:Nat} {cv:AV} (h:bN TD TF TU TC own M db s fbs nm sm cv) :
  bN TD TF TU TC own (M.put db (.row [N .i64 s.aN,.map nm,.map sm,bR,N .i64 s.app,N .i64 s.syn] false TD 0)) db { s with chg:=[] } fbs nm sm bR :=
 h.row' (s' := { s with chg:=[] }) _ rfl h.names h.safe .nil h.files
theorem zF {cm ca:ax} (hm:qG cm) (ha:sM ca) : oL TD TF TU TC fun args M Q=>∃ a0,args=[a0]∧fD cm ca a0 M Q:=by
 intro own M db s Q hd hQ
 obtain⟨fbs,nm,sm,cv,hd⟩:=hd
 refine⟨_,rfl, ?_⟩
 unfold fD
 rw[au,ah,aB (i:=0 + 1) hd.row rfl]
 obtain⟨es,cl,hh,he⟩:=hd.names.heap
 refine hm hh ?_
 have k1:ae [] M (M.push (.map es cl)):=(ae.refl _ _).push _
 obtain⟨hd2,t2⟩:=hd.copy (m:=nm) he
 rw[au,ah,eu (i:=0 + 2) [N .i64 s.aN,.map nm,.map M.next,cv,N .i64 s.app,N .i64 s.syn] (k1.bI hd.row hd.Ce (by simp)) (by simp) rfl rfl rfl]
 generalize (M.push (.map es cl)).put db (.row [N .i64 s.aN,.map nm,.map M.next,cv,N .i64 s.app,N .i64 s.syn] false TD 0)=M2 at *
 have hd3:=hd2.calm
 rw[au,ah,eu (i:=0 + 3) [N .i64 s.aN,.map nm,.map M.next,bR,N .i64 s.app,N .i64 s.syn] hd2.row (by simp) rfl rfl rfl]
 have t3:Tr (upd own M.next .safe) M2 (upd own M.next .safe) (M2.put db (.row [N .i64 s.aN,.map nm,.map M.next,bR,N .i64 s.app,N .i64 s.syn] false TD 0)):=lK _ (by rw[hd2.od]; simp)
 dsimp only at hd3
 generalize M2.put db (.row [N .i64 s.aN,.map nm,.map M.next,bR,N .i64 s.app,N .i64 s.syn] false TD 0)=M3 at *
 rw[au,ah]
 refine ha (o:=0 + 5) hd3.row rfl ?_
 exact hQ _ _ ⟨_,_,_,_,hd3.row' (s':=jY s) _ rfl hd3.names hd3.safe hd3.chg hd3.files⟩ ((t2.trans t3).trans (lK _ (by rw[hd3.od]; simp)))
def iT (fs:List gK) (seen:List Nat) : List (AV × AV × Nat)→Dir→Nat
 | e :: es,d :: ds=>(if e.2.2∈seen then(fs[d.2]?.getD ([],0)).1.length else 0) + iT fs seen es ds
 | _,_=>0
def mU (seen:List Nat) : List (AV × AV × Nat)→Nat
 | []=>0
 | e :: es=>(if e.2.2∈seen then 0 else 1) + mU seen es
section
variable {fbs:List Nat} {cl:Nat} {fs:List gK}
theorem BF (seen:List Nat) : ∀ {es:List (AV × AV × Nat)} {d:Dir} {lo:Nat},cO fbs cl lo es d→iT fs seen es d≤tot fs d
 | [],[],_,_=>Nat.le_refl _
 | e :: es,_ :: d,_,⟨_,_,_,_,h⟩=>by
   have:=BF seen h
   simp only[iT,tot]; split <;> omega
theorem zM (seen:List Nat) : ∀ {es:List (AV × AV × Nat)} {d:Dir} {lo:Nat},cO fbs cl lo es d→(∀ e∈es,e.2.2∈seen)→iT fs seen es d=tot fs d
 | [],[],_,_,_=>rfl
 | e :: es,_ :: d,_,⟨_,_,_,_,h⟩,ha=>by
   have:=zM seen h (fun e he=>ha e (List.mem_cons_of_mem _ he))
   simp only[iT,tot,if_pos (ha e (List.mem_cons_self ..)),this]
theorem Av:∀ {es:List (AV × AV × Nat)} {d:Dir},iT fs [] es d=0
 | [],_=>by cases ‹Dir› <;> rfl
 | e :: es,[]=>rfl
 | e :: es,d :: ds=>by simp[iT,Av (es:=es)]
theorem BK (seen:List Nat) (k:Nat) : ∀ {es:List (AV × AV × Nat)} {d:Dir} {lo:Nat},cO fbs cl lo es d→k<lo→iT fs (seen++[k]) es d=iT fs seen es d∧mU (seen++[k]) es=mU seen es
 | [],[],_,_,_=>⟨rfl,rfl⟩
 | e :: es,_ :: d,lo,⟨_,_,h1,_,h⟩,hk=>by
   obtain⟨a1,a2⟩:=BK seen k h (by omega)
   have:(e.2.2∈seen++[k])=(e.2.2∈seen):=by
    simp only[List.mem_append,List.mem_singleton,eq_iff_iff]
    exact⟨fun h=>h.resolve_right (by omega),.inl⟩
   simp only[iT,mU,a1,a2,this,and_self]
theorem tT (seen:List Nat) : ∀ {es:List (AV × AV × Nat)} {d:Dir} {lo:Nat},cO fbs cl lo es d→∀ n∈es,n.2.2 ∉ seen →
  ∃ (f b:Nat),fbs[f]?=some b∧n.2.1=.ptr b 0∧es.find? (fun e=>e.2.2 == n.2.2)=some n∧lo≤n.2.2∧n.2.2<cl∧iT fs (seen++[n.2.2]) es d=iT fs seen es d + (fs[f]?.getD ([],0)).1.length∧mU (seen++[n.2.2]) es<mU seen es
 | [],[],_,_,n,hn,_=>by cases hn
 | e :: es,x :: d,lo,⟨h0,⟨b,h1,h2⟩,h3,h4,h⟩,n,hn,hs=>by
   rcases List.mem_cons.1 hn with rfl | hn
   ·obtain⟨a1,a2⟩:=BK (fs:=fs) seen n.2.2 h (by omega)
    refine⟨x.2,b,h1,h2,by simp,h3,h4, ?_, ?_⟩
    ·simp only[iT,a1,List.mem_append,List.mem_singleton,or_true,if_true,if_neg hs]; omega
    ·simp only[mU,a2,List.mem_append,List.mem_singleton,or_true,if_true,if_neg hs]; omega
   ·obtain⟨f,b',q1,q2,q3,q4,q5,q6,q7⟩:=tT seen h n hn hs
    have hne:e.2.2≠n.2.2:=by omega
    have:(e.2.2∈seen++[n.2.2])=(e.2.2∈seen):=by
     simp only[List.mem_append,List.mem_singleton,eq_iff_iff]
     exact⟨fun h=>h.resolve_right hne,.inl⟩
    refine⟨f,b',q1,q2, ?_,by omega,q5, ?_, ?_⟩
    ·rw[List.find?_cons_of_neg (by simpa using hne)]; exact q3
    ·simp only[iT,q6,this]; omega
    ·simp only[mU,this]; omega
end
def qg (TD TF TU TC:Nat) (c:ax) : Prop:=∀ {own:aO} {M:RM} {db:Nat} {s:aK} {Q:af},bu TD TF TU TC own M db s→tot s.files s.dir<4611686018427387904 →
 (∀ M',ae [] M M'→Q (N .i64 (tot s.files s.dir:Int)) M')→c [.ptr db 0] M Q
theorem CZ:qg TD TF TU TC fun args M Q=>∃ a0,args=[a0]∧gG a0 M Q:=by
 intro own M db s Q hd hlen hQ
 obtain⟨fbs,nm,sm,cv,hd⟩:=hd
 refine⟨_,rfl, ?_⟩
 unfold gG
 rw[au,ah,aB (i:=0 + 1) hd.row rfl]
 obtain⟨es,cl,hh,he⟩:=hd.names.heap
 refine⟨nm,es,cl,rfl,hh, ?_⟩
 have hnl:=hd.names.lt
 have k1:ae [] M (M.push (.iter (some nm) cl [] cl)):=(ae.refl _ _).push _
 refine kJ (fun z ys M'=>∃ seen,z=mU seen es∧ys=[N .i64 (iT s.files seen es s.dir:Int)]∧ae [] M M'∧M.next<M'.next∧M'.heap M.next=some (.iter (some nm) cl seen cl)) (mU [] es)
  ⟨[],rfl,by rw[Av]; rfl,k1,by rw[aM]; omega,RM.bz _⟩ ?_
 rintro next z ys M' hnext ⟨seen,rfl,rfl,k2,n2,h2⟩
 dsimp only[bG]
 have hm:=k2.bI hh hnl (by simp)
 refine⟨M.next,nm,cl,seen,cl,es,cl,rfl,h2,hm, ?_,fun n hn hs=>?_,fun ha=>?_⟩
 ·cases es with
  | nil=>exact .inr (.inl rfl)
  | cons e es =>
    refine .inr (.inr ⟨e,List.mem_cons_self .., ?_⟩)
    cases hdd:s.dir with
    | nil=>rw[hdd] at he; exact he.elim
    | cons x d=>rw[hdd] at he; exact he.2.2.2.1
 ·obtain⟨f,b,q1,q2,q3,q4,q5,q6,q7⟩:=tT (fs:=s.files) seen he n hn hs
  rw[oC,j3]
  have k3:ae [] M (M'.put M.next (.iter (some nm) cl (seen++[n.2.2]) cl)):=k2.put _ (.inl (Nat.le_refl _))
  have h3:(M'.put M.next (.iter (some nm) cl (seen++[n.2.2]) cl)).heap M.next=some (.iter (some nm) cl (seen++[n.2.2]) cl):=aZ _
  have hm3:=k3.bI hh hnl (by simp)
  refine⟨M.next,nm,cl,seen,es,cl,n.2.2,n,rfl,h3,hm3,q3, ?_⟩
  dsimp only
  rw[qU,q2,au,ah]
  obtain⟨fl,v,hfl,hat⟩:=(hd.keep k3).files.at q1
  rw[hfl] at q6
  have hle:=BF (fs:=s.files) (seen++[n.2.2]) he
  simp only[Option.getD_some] at q6
  rw[aB (i:=0 + 0) hat.heap rfl,aT.len hat.fb.sl,addN (by omega),← q6]
  exact hnext _ _ _ q7 ⟨_,rfl,rfl,k3,n2,h3⟩
 ·dsimp only
  rw[oC,je]
  rw[zM (fs:=s.files) seen he (fun e hm2=>?_)]
  ·exact hQ M' k2
  ·rcases Classical.em (e.2.2∈seen) with h | h
   ·exact h
   ·have:=ha e hm2 h
    obtain⟨f,b,q1,q2,q3,q4,q5,q6,q7⟩:=tT (fs:=s.files) seen he e hm2 h
    omega
theorem Hz {M:RM} {TU:Nat} {v u:AV} {xs ys:List UInt8} {K:af} (h:FB M TU v xs) (hu:Sl BY M u ys) (hn:xs.length + ys.length≤140737488355328)
  (hK:∀ v' M',FB M' TU v' (xs++ys)→ae (ak v) M M'→(v'=v∨∀ b∈ak v',M.next≤b)→K v' M') : appW TU 1 1 [(N .u8 0)] false v u M K:=by
 have own:∀ {w:AV} {M' : RM},Ow BY M' 0 TU w (xs++ys)→FB M' TU w (xs++ys):=by
  intro w M' ho
  generalize hz:xs++ys=zs at *
  unfold Ow at ho
  generalize hl:zs.length=n at ho
  generalize hr:BY.row zs=cs at ho
  cases ho with
  | nil =>
    have:zs=[]:=List.length_eq_zero_iff.1 hl
    rw[this]; exact .nil
  | ex0 b o h1 h2 h3 =>
    obtain⟨l,h4,h5⟩:=h3
    exact .ex b o 0 zs h2 (by rw[hr]; exact lG h4 h5) hl
  | op b n cs h1 h2 h3 h4 =>
    subst hl
    exact .op b zs h2 (by rw[hr]; exact h3)
 cases h with
 | nil=>exact vI (E:=BY) (base:=0) (xs:=[]) .nil (Nat.zero_le _) (by decide) hu (by omega) hn fun v' M' h1 h2 h3 h4=>hK v' M' (own h1) h2 h4
 | op b xs hl hh =>
   exact vI (E:=BY) (base:=0) (xs:=xs) (.op b xs.length _ (Nat.zero_le _) hl hh (by rw[BY.gN])) (Nat.zero_le _) (by decide) hu (by omega) hn fun v' M' h1 h2 h3 h4=>hK v' M' (own h1) h2 h4
 | ex b o n xs hl hh h2 =>
   subst h2
   refine⟨ys.length,BY.row ys,aT.kQ hu _,by omega,by omega, ?_⟩
   simp only[mQ]
   by_cases h0:ys.length=0
   ·rw[if_pos h0,if_pos (Nat.le_refl _)]
    refine⟨_,_,rfl,hK _ _ ?_ (ae.refl _ _) (.inl rfl)⟩
    rw[List.length_eq_zero_iff.1 h0,List.append_nil]
    exact .ex b o xs.length xs hl hh rfl
   ·rw[if_neg h0,if_neg (by omega),Nat.mul_one,hh]
    have h1:((BY.row xs++BY.row ys).all oneCell)=true:=by rw[List.all_append,BY.nJ,BY.nJ]; rfl
    dsimp only
    rw[if_pos ⟨by omega,hn,h1⟩]
    refine⟨_,_,rfl,hK _ _ ?_ ((ae.refl _ _).push _) (.inr (by simp[ak]))⟩
    have e:xs.length + ys.length=(xs++ys).length:=by simp
    rw[e,← BY.uV]
    exact .op M.next (xs++ys) (by rw[aM]; omega) (RM.bz _)
def rf (TD TF TU TC:Nat) (c:ax) : Prop:=∀ {own:aO} {M:RM} {db:Nat} {s:aK} {n:Nm} {v:AV} {b:List UInt8} {Q:af},bu TD TF TU TC own M db s→Sl BY M v b→tot s.files s.dir<4611686018427387904→0≤s.aN→s.aN<9223372036854775808 →
 (∀ f∈s.files,f.1.length + b.length≤140737488355328) →
 (∀ own' M',bu TD TF TU TC own' M' db (bZ s n b).1→Tr own M own' M'→Q (N .i64 (bZ s n b).2) M')→c [.ptr db 0,St n,v] M Q
theorem BD {ct ca:ax} (ht:qg TD TF TU TC ct) (ha:sM ca) : rf TD TF TU TC fun args M Q=>∃ a0 a1 a2,args=[a0,a1,a2]∧cZ ct TU ca a0 a1 a2 M Q:=by
 intro own M db s n u ys Q hd hu htot hq0 hq1 hlen hQ
 have hd0:=hd
 obtain⟨fbs,nm,sm,cv,hd⟩:=hd
 refine⟨_,_,_,rfl, ?_⟩
 unfold cZ
 rw[au,ah,aB (i:=0 + 1) hd.row rfl]
 unfold bZ at hQ
 refine eZ hd.names (fun hn=>?_) (fun f b hf hb=>?_)
 ·rw[hn] at hQ
  rw[bX,Bool.not_false,j3]
  exact hQ own M hd0 (Tr.refl _ _)
 ·rw[hf] at hQ
  dsimp only at hQ
  rw[bT,je,aT.len hu,au,ah,aB (i:=0 + 0) hd.row rfl]
  refine ht hd0 htot fun M1 k1=>?_
  have hd1:=hd.keep k1
  have hu1:Sl BY M1 u ys:=aT.keep hu k1 (by simp)
  rw[aB (i:=0 + 0) hd1.row rfl]
  refine⟨rfl, ?_⟩
  rw[sG,gM (by omega) (by omega),rV]
  refine eG (fun hc=>?_) (fun hc=>?_)
  ·have hc:=of_decide_eq_true hc
   rw[if_pos hc] at hQ
   exact hQ own M1 ⟨_,_,_,_,hd1⟩ (Tr.keep k1)
  ·have hc:=of_decide_eq_false hc
   rw[if_neg hc] at hQ
   obtain⟨fl,v,hfl,hat⟩:=hd1.files.at hb
   have hff:ed s f=fl:=by unfold ed; rw[hfl]; rfl
   have hfi:=(List.getElem?_eq_some_iff.1 hfl).1
   rw[hff] at hQ
   rw[au,ah,aB (i:=0 + 0) hat.heap rfl]
   refine Hz hat.fb hu1 (hlen fl (List.mem_of_getElem? hfl)) fun v' M2 fb2 k2 hv=>?_
   let own' : aO:=fun b=>if b∈ak v' then some (.bytes f) else own b
   have hlt1:∀ b,own b≠none→b<M1.next:=hd1.lt
   have hsame:∀ b,own b≠none→own b≠some (.bytes f)→own' b=own b:=by
    intro b hb hb2
    show(if b∈ak v' then some (Tag.bytes f) else own b)=own b
    rw[if_neg]
    intro hm
    rcases hv with rfl | hv
    ·exact hb2 (hat.blk b hm)
    ·have:=hv b hm; have:=hlt1 b hb; omega
   have hsome:∀ {t:Tag} {b:Nat},own b=some t→t≠.bytes f→own' b=some t:=by
    intro t b hb ht
    rw[hsame b (by rw[hb]; simp) (by rw[hb]; simpa using ht),hb]
   have hbt:∀ t:Tag,t≠.bytes f→∀ c∈ak v,own c≠some t:=by
    intro t ht c hc; rw[hat.blk c hc]; simpa using fun e=>ht e.symm
   have hlt2:∀ b,own' b≠none→b<M2.next:=by
    intro b hb
    by_cases hm:b∈ak v'
    ·exact fb2.Hd b hm
    ·have:own' b=own b:=if_neg hm
     rw[this] at hb; have:=hlt1 b hb; have:=k2.next; omega
   have hbs:=hat.tg
   have hb2:=k2.bI hat.heap hat.lt (fun hm=>hbt _ (by simp) b hm hbs)
   rw[au,ah,eu (i:=0 + 0) [v',N .i64 (fl.2:Int)] hb2 (by simp) fb2.one.2.1 fb2.one.1 rfl]
   have k3:ae [b] M2 (M2.put b (.row [v',N .i64 (fl.2:Int)] false TF 0)):=(ae.refl _ _).put _ (.inr (by simp))
   have k23:ae (b :: ak v) M1 (M2.put b (.row [v',N .i64 (fl.2:Int)] false TF 0)):=(k2.mono (fun c hc=>List.mem_cons_of_mem _ hc)).put _ (.inr (by simp))
   have hin:∀ t:Tag,t≠.bytes f→t≠.file f→∀ c∈b :: ak v,own c≠some t:=by
    intro t h1 h2 c hc
    rcases List.mem_cons.1 hc with rfl | hc
    ·rw[hbs]; simpa using fun e=>h2 e.symm
    ·exact hbt t h1 c hc
   have Jp:iq TF TU own' (M2.put b (.row [v',N .i64 (fl.2:Int)] false TF 0)) fbs f b v' (fl.1++ys,fl.2):=by
    refine⟨hat.at_,Nat.lt_of_lt_of_le hat.lt k23.next,hsome hbs (by simp),aZ _,fb2.keep k3 (fun c hc hm=>?_),by have:=hat.le; simp only[List.length_append]; omega,fun c hc=>if_pos hc⟩
    rw[List.mem_singleton] at hm
    have:own' c=some (.bytes f):=if_pos hc
    rw[hm,hsome hbs (by simp)] at this; cases this
   have f3:=hd1.files.set (own':=own') hfi Jp k23 (fun c hc j hj=>⟨hin _ (by simp) (by simpa using hj) c hc,hin _ (by simpa using hj) (by simp) c hc⟩)
    (fun c j hj h=>by rcases h with h | h <;> rw[hsome h (by first | (simp; done) | simpa using hj),h])
   have r3:=k23.bI hd1.row hd1.Ce (fun hm=>hin .disk (by simp) (by simp) _ hm hd.od)
   have n3:=hd1.names.step (own':=own') k23 (hin _ (by simp) (by simp)) (fun c h=>hsome h (by simp))
   have s3:=hd1.safe.step (own':=own') k23 (hin _ (by simp) (by simp)) (fun c h=>hsome h (by simp))
   have c3:=hd1.chg.step (own':=own') k23 (hin _ (by simp) (by simp)) (fun c h=>hsome h (by simp))
   have hlt3:∀ c,own' c≠none→c<(M2.put b (.row [v',N .i64 (fl.2:Int)] false TF 0)).next:=hlt2
   have t3:Tr own M1 own' (M2.put b (.row [v',N .i64 (fl.2:Int)] false TF 0)):=by
    refine⟨_,k23,fun c hc=>?_,fun c hc ho=>?_⟩
    ·rcases List.mem_cons.1 hc with rfl | hc
     ·rw[hbs]; simp
     ·rw[hat.blk c hc]; simp
    ·show(if c∈ak v' then some (Tag.bytes f) else own c)=none
     rw[if_neg,ho]
     intro hm
     rcases hv with rfl | hv
     ·rw[hat.blk c hm] at ho; cases ho
     ·have:=hv c hm; omega
   generalize M2.put b (.row [v',N .i64 (fl.2:Int)] false TF 0)=M3 at *
   rw[au,ah]
   refine ha (o:=0 + 4) r3 rfl ?_
   have hd3:bN TD TF TU TC own' M3 db { s with files:=s.files.set f (fl.1++ys,fl.2) } fbs nm sm cv:=⟨hlt3,hsome hd.od (by simp),r3,n3,s3,c3,f3⟩
   exact hQ own' _ ⟨_,_,_,_,hd3.row' (s' := { s with files:=s.files.set f (fl.1++ys,fl.2),app:=xU (s.app + 1) }) _ rfl n3 s3 c3 f3⟩ (((Tr.keep k1).trans t3).trans (lK _ (by rw[hd3.od]; simp)))
def CY (TD TF TU TC:Nat) (c:ax) : Prop:=∀ {own:aO} {M:RM} {db:Nat} {s:aK} {Q:af},bu TD TF TU TC own M db s→tot s.files s.dir<4611686018427387904 →
 (∀ M',ae [] M M'→Q (.agg [N .i64 (s.dir.length:Int),N .i64 (tot s.files s.dir:Int),N .i64 s.app,N .i64 s.syn]) M')→c [.ptr db 0] M Q
theorem ER {TS:Nat} {ct cl:ax} (ht:qg TD TF TU TC ct) (hl:vD cl) : CY TD TF TU TC fun args M Q=>∃ a0,args=[a0]∧gV TS ct cl a0 M Q:=by
 intro own M db s Q hd htot hQ
 obtain⟨fbs,nm,sm,cv,hd⟩:=hd
 refine⟨_,rfl, ?_⟩
 unfold gV
 rw[dD]
 have k1:ae [] M (M.push (.row [(N .i64 0),(N .i64 0),(N .i64 0),(N .i64 0)] false TS 0)):=(ae.refl _ _).push _
 have n1:(M.push (.row [(N .i64 0),(N .i64 0),(N .i64 0),(N .i64 0)] false TS 0)).next=M.next + 1:=aM _
 have h1:(M.push (.row [(N .i64 0),(N .i64 0),(N .i64 0),(N .i64 0)] false TS 0)).heap M.next=some (.row [(N .i64 0),(N .i64 0),(N .i64 0),(N .i64 0)] false TS 0):=RM.bz _
 generalize M.push (.row [(N .i64 0),(N .i64 0),(N .i64 0),(N .i64 0)] false TS 0)=M1 at *
 have hd1:=hd.keep k1
 rw[au,ah,aB (i:=0 + 1) hd1.row rfl,Cx hd1.names,au,ah,au,ah]
 refine ht ⟨_,_,_,_,hd1⟩ htot fun M2 k2=>?_
 have hd2:=hd1.keep k2
 refine hl (o:=0 + 4) hd2.row rfl ?_
 refine hl (o:=0 + 5) hd2.row rfl ?_
 rw[iY]
 refine⟨_,rfl, ?_⟩
 have h2:=k2.bI h1 (by omega) (by simp)
 rw[oZ (n:=4) h2 rfl rfl rfl,oh (n:=4) (aZ _) rfl]
 exact hQ _ ((k1.trans k2).put _ (.inl (Nat.le_refl _)))
end
def jy:Nm→Nm→Bool
 | [],_=>true
 | _ :: _,[]=>false
 | a :: x,b :: y=>decide (a.toNat<b.toNat) || (decide (a.toNat=b.toNat) && jy x y)
def sI (x:Nm) : List Nm→List Nm
 | []=>[x]
 | y :: l=>if jy x y then x :: y :: l else y :: sI x l
def dO:List Nm→List Nm
 | []=>[]
 | x :: l=>sI x (dO l)
theorem qi (x:Nm) : ∀ l,(sI x l).Perm (x :: l)
 | []=>.refl _
 | y :: l=>by
   unfold sI
   split
   ·exact .refl _
   ·exact((qi x l).cons y).trans (.swap _ _ _)
theorem gF:∀ l,(dO l).Perm l
 | []=>.refl _
 | x :: l=>(qi x _).trans ((gF l).cons x)
def aF (d:Dir) : List Nm:=d.map (·.1)
theorem BS {n:Nm} : ∀ {d:Dir},n∈aF d→∃ f,fO d n=some f
 | [],h=>by cases h
 | e :: d,h=>by
   unfold fO
   by_cases hn:n=e.1
   ·exact⟨_,if_pos hn⟩
   ·rw[if_neg hn]
    exact BS ((List.mem_cons.1 h).resolve_left hn)
def l7 (fs:List gK) (f:Nat) (p:List Int) (i:Nat) : List gK :=
 let fl:=fs[f]?.getD ([],0)
 let k:=fl.2 + bU p i (fl.1.length - fl.2 + 1)
 fs.set f (fl.1.take k,k)
def dZ (d:Dir) (p:List Int) : List Nm→Nat→List gK→List gK
 | [],_,fs=>fs
 | n :: ns,i,fs=>dZ d p ns (i + 1) (match fO d n with | some f=>l7 fs f p i | none=>fs)
def bn (s:aK) (p:List Int) : Dir:=(s.chg.take (bU p 0 (s.chg.length + 1))).foldl jG s.dB
def bS (s:aK) (p:List Int) : aK :=
 { s with files:=dZ (bn s p) p (dO (aF (bn s p))) 1 s.files,dir:=bn s p,dB:=bn s p,chg:=[] }
theorem oP {p:List Int} {i n:Nat} (hn:1≤n) : bU p i n<n:=by
 unfold bU
 split
 ·omega
 ·split
  ·omega
  ·exact Nat.mod_lt _ hn
section
variable {M:RM} {TU:Nat}
theorem H8 {v:AV} {xs:List UInt8} (h:FB M TU v xs) {k:Nat} (hk:k≤xs.length) :
  ∃ v',jw 1 v none (some (N .i64 (k:Int))) (some (N .i64 (k:Int)))=some v'∧FB M TU v' (xs.take k)∧∀ c∈ak v',c∈ak v:=by
 have hb:∀ d,bnd d (some (N .i64 (k:Int)))=some k:=fun d=>by simp[bnd]
 have hb0:bnd 0 none=some 0:=rfl
 have ex:∀ {b o:Nat},b<M.next→M.loads b o k=some (BY.row (xs.take k)) →
   ∃ v',(if k=0 then some (AV.slc b o 0 (.ex 0)) else some (.slc b (o + 0 * 1) (k - 0) (.ex (k - 0))))=some v'∧FB M TU v' (xs.take k)∧∀ c∈ak v',c∈[b]:=by
  intro b o hl hh
  by_cases h0:k=0
  ·subst h0
   rw[if_pos rfl]
   exact⟨_,rfl,.ex b o 0 _ hl hh (by simp),by simp[ak]⟩
  ·rw[if_neg h0,Nat.zero_mul,Nat.add_zero,Nat.sub_zero]
   exact⟨_,rfl,.ex b o k _ hl hh (by rw[List.length_take]; omega),by simp[ak]⟩
 cases h with
 | nil =>
   have:k=0:=by simpa using hk
   subst this
   exact⟨bR,rfl,.nil,fun c hc=>hc⟩
 | op b xs hl hh =>
   have hld:M.loads b 0 k=some (BY.row (xs.take k)):=by
    have e:=BY.gN xs
    have:BY.size=1:=rfl
    rw[RM.iC hh (by rw[e,this]; omega),List.drop_zero]
    have:=BY.o7 xs k
    rw[show k * BY.size=k from Nat.mul_one k] at this
    rw[this]
   obtain⟨v',h1,h2,h3⟩:=ex hl hld
   refine⟨v', ?_,h2,fun c hc=>by simpa [ak] using h3 c hc⟩
   simp only[jw,hb,hb0,Nat.zero_le,Nat.le_refl,true_and]
   rw[if_pos hk]; exact h1
 | ex b o n xs hl hh h2 =>
   subst h2
   have hld:M.loads b o k=some (BY.row (xs.take k)):=by
    have:=DW hh k hk
    have e:=BY.o7 xs k
    rw[show k * BY.size=k from Nat.mul_one k] at e
    rw[this,e]
   obtain⟨v',h1,h2,h3⟩:=ex hl hld
   refine⟨v', ?_,h2,fun c hc=>by simpa [ak] using h3 c hc⟩
   simp only[jw,hb,hb0,Nat.zero_le,Nat.le_refl,true_and]
   rw[if_pos hk]; exact h1
end
theorem IA {α:Type} {E:Enc α} {M:RM} {base T:Nat} {v:AV} {xs:List α} (h:Ow E M base T v xs) {k:Nat} (hk:k≤xs.length) :
  ∃ v',jw E.size v none (some (N .i64 (k:Int))) none=some v'∧Sl E M v' (xs.take k)∧∀ c∈ak v',c∈ak v:=by
 have hb:∀ d,bnd d (some (N .i64 (k:Int)))=some k:=fun d=>by simp[bnd]
 have hb0:bnd 0 none=some 0:=rfl
 have hs:Sl E M v xs:=Own.uz h
 unfold Ow at h
 generalize hl:xs.length=n at h hk
 generalize hr:E.row xs=cs at h
 cases h with
 | nil =>
   have:k=0:=by omega
   subst this
   exact⟨bR,rfl,by rw[List.take_zero]; exact .nil,fun c hc=>hc⟩
 | ex0 b o h1 h2 h3 =>
   have:k=0:=by omega
   subst this
   refine⟨.slc b o 0 (.ex 0),by simp[jw,hb0,hb,bnd], ?_,fun c hc=>hc⟩
   obtain⟨l,h4,h5⟩:=h3
   rw[List.take_zero]
   exact .slc b o 0 _ [] h2 (by rw[Nat.zero_mul]; exact lG h4 h5)
 | op b n cs h1 h2 h3 h4 =>
   subst hl hr
   have e:jw E.size (.slc b 0 xs.length (.op E.size)) none (some (N .i64 (k:Int))) none=if xs.length=0 then some (.emp b) else some (.slc b 0 k (.op E.size)):=by
    simp only[jw,hb,hb0,Nat.zero_le,true_and,and_true,Nat.zero_mul,Nat.add_zero,Nat.sub_zero,if_pos hk,Nat.le_zero]
   rw[e]
   by_cases h0:xs.length=0
   ·rw[if_pos h0]
    refine⟨_,rfl, ?_,fun c hc=>?_⟩
    ·have:xs=[]:=List.length_eq_zero_iff.1 h0
     rw[this,List.take_nil]
     exact .emp b
    ·simp[ak] at hc
   ·rw[if_neg h0]
    refine⟨_,rfl, ?_,fun c hc=>hc⟩
    have hln:(xs.take k).length=k:=by rw[List.length_take]; omega
    show aT M E.size (.slc b 0 k (.op E.size)) (E.row (xs.take k)) (xs.take k).length
    rw[hln]
    refine .slc _ _ _ _ _ h2 ?_
    have:=Nat.mul_le_mul_right E.size hk
    rw[RM.iC h3 (by rw[h4]; omega),List.drop_zero,E.o7]
theorem yY (n:Nm) : ∀ d:Dir,(iU d n).length≤d.length
 | []=>Nat.le_refl _
 | e :: d=>by
   have:=yY n d
   unfold iU
   split <;> simp <;> omega
theorem yR (n:Nm) (f:Nat) : ∀ d:Dir,(jh d n f).length≤d.length + 1
 | []=>Nat.le_refl _
 | e :: d=>by
   have:=yR n f d
   unfold jh
   split <;> simp <;> omega
theorem Cg (d:Dir) (c:kC) : (jG d c).length≤d.length + 1:=by
 have h1:(if c.2.2≠[] then iU d c.2.2 else d).length≤d.length:=by
  split
  ·exact yY _ _
  ·exact Nat.le_refl _
 unfold jG
 dsimp only
 cases c.2.1 with
 | none=>exact Nat.le_succ_of_le h1
 | some f=>exact Nat.le_trans (yR _ _ _) (Nat.succ_le_succ h1)
theorem tu:∀ (cs:List kC) (d:Dir),(cs.foldl jG d).length≤d.length + cs.length
 | [],d=>Nat.le_refl _
 | c :: cs,d=>by
   have:=tu cs (jG d c)
   have:=Cg d c
   simp only[List.foldl_cons,List.length_cons]; omega
theorem rU (n:Nm) : ∀ d:Dir,(aF (iU d n)).Sublist (aF d)
 | []=>.slnil
 | e :: d=>by
   unfold iU
   split
   ·exact .cons _ (List.Sublist.refl _)
   ·exact(rU n d).cons_cons _
theorem nS (n:Nm) (f:Nat) : ∀ d:Dir,n∈aF d∧aF (jh d n f)=aF d∨n ∉ aF d∧aF (jh d n f)=aF d++[n]
 | []=>.inr ⟨by simp[aF],rfl⟩
 | e :: d=>by
   unfold jh
   by_cases h:n=e.1
   ·rw[if_pos h]
    exact .inl ⟨by simp[aF,h],by simp[aF,h]⟩
   ·rw[if_neg h]
    rcases nS n f d with⟨h1,h2⟩ | ⟨h1,h2⟩
    ·refine .inl ⟨List.mem_cons_of_mem _ h1, ?_⟩
     simp only[aF,List.map_cons] at h2 ⊢; rw[h2]
    ·refine .inr ⟨?_, ?_⟩
     ·simp only[aF,List.map_cons,List.mem_cons,not_or] at h1 ⊢; exact⟨h,h1⟩
     ·simp only[aF,List.map_cons,List.cons_append] at h2 ⊢; rw[h2]
theorem CR {d:Dir} (h:(aF d).Nodup) (n:Nm) (f:Nat) : (aF (jh d n f)).Nodup:=by
 rcases nS n f d with⟨h1,h2⟩ | ⟨h1,h2⟩
 ·rw[h2]; exact h
 ·rw[h2,List.nodup_append]
  refine⟨h,by simp,fun a ha b hb=>?_⟩
  rw[List.mem_singleton] at hb; subst hb
  exact fun e=>h1 (e▸ha)
theorem EO {d:Dir} (h:(aF d).Nodup) (c:kC) : (aF (jG d c)).Nodup:=by
 have h1:(aF (if c.2.2≠[] then iU d c.2.2 else d)).Nodup:=by
  split
  ·exact h.sublist (rU _ _)
  ·exact h
 unfold jG
 dsimp only
 cases c.2.1 with
 | none=>exact h1
 | some f=>exact CR h1 _ _
def gY (d:Dir) : Prop:=(aF d).Nodup∧∀ n∈aF d,n.length≤64
theorem FW {n:Nm} {f:Nat} {d:Dir} : ∀ x∈aF (jh d n f),x∈aF d∨x=n:=by
 intro x hx
 rcases nS n f d with⟨_,h⟩ | ⟨_,h⟩
 ·rw[h] at hx; exact .inl hx
 ·rw[h] at hx; simpa using hx
theorem D7 {d:Dir} (h:gY d) {c:kC} (hc:c.1.length≤64) : gY (jG d c):=by
 refine⟨EO h.1 c, ?_⟩
 have h1:∀ n∈aF (if c.2.2≠[] then iU d c.2.2 else d),n.length≤64:=by
  split
  ·exact fun n hn=>h.2 n ((rU _ _).subset hn)
  ·exact h.2
 unfold jG
 dsimp only
 cases c.2.1 with
 | none=>exact h1
 | some f =>
   intro n hn
   rcases FW n hn with hn | rfl
   ·exact h1 n hn
   ·exact hc
theorem wD:∀ (cs:List kC) {d:Dir},gY d→(∀ c∈cs,c.1.length≤64)→gY (cs.foldl jG d)
 | [],_,h,_=>h
 | c :: cs,_,h,hc=>wD cs (D7 h (hc c (List.mem_cons_self ..))) fun x hx=>hc x (List.mem_cons_of_mem _ hx)
section
variable {TD TF TU TC:Nat}
def uP (TD TF TU TC TS:Nat) (c:ax) : Prop:=∀ {own:aO} {M:RM} {db:Nat} {s:aK} {Q:af},bu TD TF TU TC own M db s→s.dir.length≤4000000000→gY s.dir →
 (∀ v M',Ow wO M' M.next TS v (dO (aF s.dir))→ae [] M M'→Q v M')→c [.ptr db 0] M Q
def uj (TD TF TU TC:Nat) (c:ax) : Prop:=∀ {own:aO} {M:RM} {db:Nat} {s:aK} {v:AV} {p:List Int} {Q:af},bu TD TF TU TC own M db s→Sl INT M v p→(∀ b∈ak v,own b=none) →
 s.chg.length≤1000000000→s.dB.length≤1000000000→gY s.dB→(∀ c∈s.chg,c.1.length≤64)→(∀ f∈s.files,f.1.length≤140737488355328) →
 (∀ own' M',bu TD TF TU TC own' M' db (bS s p)→Tr own M own' M'→Q (.tup []) M')→c [.ptr db 0,v] M Q
theorem Dt {TS:Nat} {cp cdo cm cl:ax} (hp:Dl cp) (hdo:Gh cdo) (hm:qG cm) (hl:uP TD TF TU TC TS cl) : uj TD TF TU TC fun args M Q=>∃ a0 a1,args=[a0,a1]∧gz cp TC cdo cm cl a0 a1 M Q:=by
 intro own M db s v p Q hd hv hvo hc1 hc2 hnd hcw hfl hQ
 obtain⟨fbs,nm,sm,cv,hd⟩:=hd
 refine⟨_,_,rfl, ?_⟩
 unfold gz
 have hvl:∀ b∈ak v,b<M.next:=aT.lt hv
 have ho:∀ {b c:Nat} {t u:Tag},own b=some t→own c=some u→t≠u→b≠c:=fun h1 h2 h3 e=>by rw[e,h2] at h1; cases h1; exact h3 rfl
 rw[au,ah,aB (i:=0 + 2) hd.row rfl,au,ah,eu (i:=0 + 1) [N .i64 s.aN,.map sm,.map sm,cv,N .i64 s.app,N .i64 s.syn] hd.row (by simp) rfl rfl rfl]
 have k1:ae [db] M (M.put db (.row [N .i64 s.aN,.map sm,.map sm,cv,N .i64 s.app,N .i64 s.syn] false TD 0)):=(ae.refl _ _).put _ (.inr (by simp))
 have r1:(M.put db (.row [N .i64 s.aN,.map sm,.map sm,cv,N .i64 s.app,N .i64 s.syn] false TD 0)).heap db=some (.row [N .i64 s.aN,.map sm,.map sm,cv,N .i64 s.app,N .i64 s.syn] false TD 0):=aZ _
 have s1:=hd.safe.step k1 (jB hd.od (by simp)) (fun _ h=>h)
 have c1:=hd.chg.step k1 (jB hd.od (by simp)) (fun _ h=>h)
 have f1:=hd.files.step (own':=own) k1 (fun b hb i=>⟨jB hd.od (by simp) b hb,jB hd.od (by simp) b hb⟩) (fun _ _ _=>rfl)
 have hdl:=hd.Ce
 have n1:(M.put db (.row [N .i64 s.aN,.map sm,.map sm,cv,N .i64 s.app,N .i64 s.syn] false TD 0)).next=M.next:=rfl
 have v1:Sl INT (M.put db (.row [N .i64 s.aN,.map sm,.map sm,cv,N .i64 s.app,N .i64 s.syn] false TD 0)) v p:=aT.keep hv k1 (fun b hb hm=>by rw[List.mem_singleton] at hm; have:=hvo b hb; rw[hm,hd.od] at this; cases this)
 have hlt:∀ b,own b≠none→b<M.next:=hd.lt
 generalize M.put db (.row [N .i64 s.aN,.map sm,.map sm,cv,N .i64 s.app,N .i64 s.syn] false TD 0)=M1 at *
 have hlen:(s.chg.map (df fbs)).length=s.chg.length:=List.length_map _
 rw[au,ah,aB (i:=0 + 3) r1 rfl,au,ah,aB (i:=0 + 3) r1 rfl,aT.len (Own.uz c1.ow),hlen,add1 (by omega),show(N .i64 (0:Int))=N .i64 ((0:Nat) : Int) from rfl]
 refine hp v1 (by omega) ?_
 have hk:bU p 0 (s.chg.length + 1)<s.chg.length + 1:=oP (by omega)
 have hD:bn s p=(s.chg.take (bU p 0 (s.chg.length + 1))).foldl jG s.dB:=rfl
 generalize hkk:bU p 0 (s.chg.length + 1)=k at *
 rw[aB (i:=0 + 3) r1 rfl]
 refine⟨rfl, ?_⟩
 obtain⟨w,e1,sw,hw⟩:=IA c1.ow (k:=k) (by rw[hlen]; omega)
 rw[show jw 3 cv none (some (N .i64 (k:Int))) none=some w from e1,xA]
 have hwl:((s.chg.map (df fbs)).take k).length=k:=by rw[List.length_take,hlen]; omega
 rw[aT.len sw,hwl]
 have hwo:∀ b∈ak w,own b=some .chg:=fun b hb=>c1.blk b (hw b hb)
 refine kJ (fun z ys M'=>∃ i:Nat,z=k - i∧ys=[N .i64 (i:Int)]∧i≤k∧ae [sm] M1 M'∧MapAt own M' fbs sm ((s.chg.take i).foldl jG s.dB) .safe) k ⟨0,rfl,rfl,Nat.zero_le _,ae.refl _ _,s1⟩ ?_
 rintro next z ys M2 hnext ⟨i,rfl,rfl,hik,k2,m2⟩
 dsimp only[bG]
 rw[CW]
 have n2:=k2.next
 have hst:=hd.safe.tg
 have r2:=k2.bI r1 (by omega) (by simp; exact ho hd.od hst (by simp))
 refine eG (fun hlt2=>?_) (fun hge=>?_)
 ·have hlt2:i<k:=of_decide_eq_true hlt2
  have sw2:Sl dG M2 w ((s.chg.map (df fbs)).take k):=aT.keep sw k2 (fun b hb hm=>by rw[List.mem_singleton] at hm; have:=hwo b hb; rw[hm,hst] at this; cases this)
  obtain⟨b,o,_,_,hidx,hld⟩:=Sl.at sw2 (i:=i) 3 (i:Int) (by omega)
  have hi:i<s.chg.length:=by omega
  have hget:((s.chg.map (df fbs)).take k)[i]=df fbs s.chg[i]:=by
   rw[List.getElem_take,List.getElem_map]
  rw[hget] at hld
  rw[hidx,wZ,hld]
  simp only[Option.some.injEq,exists_eq_left']
  rw[dD,oZ (n:=3) (x:=.agg (dG.cells (df fbs s.chg[i]))) (l:=[(St []),qw,(St [])]) (RM.bz _) (dG.len _) rfl (dG.one _)]
  have k3:ae [sm] M2 ((M2.push (.row [(St []),qw,(St [])] false TC 0)).put M2.next (.row (AV.agg (dG.cells (df fbs s.chg[i]))).cells false TC 0)):=((ae.refl _ _).push _).new _ (Nat.le_refl _)
  have k3' : ae [] M2 ((M2.push (.row [(St []),qw,(St [])] false TC 0)).put M2.next (.row (AV.agg (dG.cells (df fbs s.chg[i]))).cells false TC 0)):=((ae.refl _ _).push _).new _ (Nat.le_refl _)
  have h3:((M2.push (.row [(St []),qw,(St [])] false TC 0)).put M2.next (.row (AV.agg (dG.cells (df fbs s.chg[i]))).cells false TC 0)).heap M2.next=some (.row (dG.cells (df fbs s.chg[i])) false TC 0):=aZ _
  generalize (M2.push (.row [(St []),qw,(St [])] false TC 0)).put M2.next (.row (AV.agg (dG.cells (df fbs s.chg[i]))).cells false TC 0)=M3 at *
  rw[oh (n:=3) h3 (dG.len _),au,ah,aB (i:=0 + 1) (k3'.bI r2 (by omega) (by simp)) rfl]
  refine hdo (m2.step k3' (by simp) (fun _ h=>h)) (c1.wf _ (List.getElem_mem hi)) fun M4 m4 k4=>?_
  rw[add1 (by omega)]
  refine hnext _ _ _ (by omega) ⟨i + 1,rfl,rfl,by omega,(k2.trans k3).trans k4, ?_⟩
  rw[List.take_succ_eq_append_getElem hi,List.foldl_append]
  exact m4
 ·have he:i=k:=by
   have:¬ i<k:=of_decide_eq_false hge
   omega
  subst he
  rw[← hD] at m2
  have cds:=tu (s.chg.take i) s.dB
  rw[← hD,List.length_take] at cds
  have cdn:=wD (s.chg.take i) hnd (fun c hc=>hcw c (List.mem_of_mem_take hc))
  rw[← hD] at cdn
  rw[au,ah,aB (i:=0 + 1) r2 rfl]
  obtain⟨es,cl',hh2,he2⟩:=m2.heap
  refine hm hh2 ?_
  have hn2:own M2.next=none:=by
   rcases hq:own M2.next with _ | t
   ·rfl
   ·have:=hlt M2.next (by rw[hq]; simp); omega
  have k3:ae [] M2 (M2.push (.map es cl')):=(ae.refl _ _).push _
  have h3:(M2.push (.map es cl')).heap M2.next=some (.map es cl'):=RM.bz _
  have n3:(M2.push (.map es cl')).next=M2.next + 1:=aM _
  have r3:=k3.bI r2 (by omega) (by simp)
  generalize M2.push (.map es cl')=M3 at *
  rw[au,ah,eu (i:=0 + 2) [N .i64 s.aN,.map sm,.map M2.next,cv,N .i64 s.app,N .i64 s.syn] r3 (by simp) rfl rfl rfl,
   au,ah,eu (i:=0 + 3) [N .i64 s.aN,.map sm,.map M2.next,bR,N .i64 s.app,N .i64 s.syn] (aZ _) (by simp) rfl rfl rfl]
  have k5:ae [db] M3 ((M3.put db (.row [N .i64 s.aN,.map sm,.map M2.next,cv,N .i64 s.app,N .i64 s.syn] false TD 0)).put db (.row [N .i64 s.aN,.map sm,.map M2.next,bR,N .i64 s.app,N .i64 s.syn] false TD 0)):=((ae.refl _ _).put _ (.inr (by simp))).put _ (.inr (by simp))
  have r5:((M3.put db (.row [N .i64 s.aN,.map sm,.map M2.next,cv,N .i64 s.app,N .i64 s.syn] false TD 0)).put db (.row [N .i64 s.aN,.map sm,.map M2.next,bR,N .i64 s.app,N .i64 s.syn] false TD 0)).heap db=some (.row [N .i64 s.aN,.map sm,.map M2.next,bR,N .i64 s.app,N .i64 s.syn] false TD 0):=aZ _
  generalize (M3.put db (.row [N .i64 s.aN,.map sm,.map M2.next,cv,N .i64 s.app,N .i64 s.syn] false TD 0)).put db (.row [N .i64 s.aN,.map sm,.map M2.next,bR,N .i64 s.app,N .i64 s.syn] false TD 0)=M5 at *
  have n5:=k5.next
  have k25:ae [db] M2 M5:=(k3.mono (by simp)).trans k5
  have k15:ae [db,sm] M1 M5:=(k2.mono (by simp)).trans (k25.mono (by simp))
  let own' : aO:=upd (upd own sm .names) M2.next .safe
  have hsm:sm<M.next:=hlt sm (by rw[hst]; simp)
  have osm:own' sm=some .names:=by
   show upd (upd own sm .names) M2.next .safe sm=_
   rw[upd_ne (by omega),mD]
  have onw:own' M2.next=some .safe:=mD
  have hsame:∀ {b:Nat} {t:Tag},own b=some t→t≠.safe→own' b=some t:=by
   intro b t hb ht
   show upd (upd own sm .names) M2.next .safe b=_
   rw[upd_ne (fun e=>by rw[e,hn2] at hb; cases hb),upd_ne (fun e=>by rw[e,hst] at hb; cases hb; exact ht rfl),hb]
  have hnone:∀ b,b<M.next→own b=none→own' b=none:=by
   intro b hb ho'
   show upd (upd own sm .names) M2.next .safe b=_
   rw[upd_ne (by omega),upd_ne (fun e=>by rw[e,hst] at ho'; cases ho'),ho']
  have od':=hsame hd.od (by simp)
  have hin:∀ t:Tag,t≠.disk→t≠.safe→∀ b∈[db,sm],own b≠some t:=by
   intro t h1 h2 b hb
   simp only[List.mem_cons,List.not_mem_nil,or_false] at hb
   rcases hb with rfl | rfl
   ·rw[hd.od]; simpa using fun e=>h1 e.symm
   ·rw[hst]; simpa using fun e=>h2 e.symm
  have f5:=f1.step (own':=own') k15 (fun b hb i=>⟨hin _ (by simp) (by simp) b hb,hin _ (by simp) (by simp) b hb⟩) (fun b i h=>by rcases h with h | h <;> rw[hsame h (by simp),h])
  have m5:MapAt own' M5 fbs sm (bn s p) .names:=⟨osm,by omega,es,cl',k25.bI hh2 (by omega) (by simp; exact fun e=>ho hd.od hst (by simp) e.symm),he2⟩
  have s5:MapAt own' M5 fbs M2.next (bn s p) .safe:=⟨onw,by omega,es,cl',k5.bI h3 (by omega) (by simp; omega),he2⟩
  have Ib:∀ b,own' b≠none→b<M5.next:=by
   intro b hb
   rcases Nat.lt_or_ge b M5.next with h | h
   ·exact h
   ·exfalso
    apply hb
    show upd (upd own sm .names) M2.next .safe b=_
    rw[upd_ne (by omega),upd_ne (by omega)]
    rcases hq:own b with _ | t
    ·rfl
    ·have:=hlt b (by rw[hq]; simp); omega
  have hd5:bN TD TF TU TC own' M5 db { s with dir:=bn s p,dB:=bn s p,chg:=[] } fbs sm M2.next bR:=⟨Ib,od',r5,m5,s5,.nil,f5⟩
  have t5:Tr own M own' M5:=by
   refine⟨[db,sm],(k1.mono (by simp)).trans k15, ?_,hnone⟩
   intro b hb
   simp only[List.mem_cons,List.not_mem_nil,or_false] at hb
   rcases hb with rfl | rfl
   ·rw[hd.od]; simp
   ·rw[hst]; simp
  have v5:Sl INT M5 v p:=aT.keep v1 k15 (fun b hb hm=>by
   have:=hvo b hb
   simp only[List.mem_cons,List.not_mem_nil,or_false] at hm
   rcases hm with rfl | rfl
   ·rw[hd.od] at this; cases this
   ·rw[hst] at this; cases this)
  have J3:∀ b∈ak v,own' b=none:=fun b hb=>hnone b (hvl b hb) (hvo b hb)
  refine hl (s := { s with dir:=bn s p,dB:=bn s p,chg:=[] }) ⟨_,_,_,_,hd5⟩ (by show(bn s p).length≤_; omega) cdn fun lv M6 lo k6=>?_
  dsimp only at lo
  have hd6:=hd5.keep k6
  have v6:Sl INT M6 v p:=aT.keep v5 k6 (by simp)
  have hmem:∀ n∈dO (aF (bn s p)),∃ f,fO (bn s p) n=some f:=fun n hn=>BS ((gF _).mem_iff.1 hn)
  have hCF:bS s p = { s with files:=dZ (bn s p) p (dO (aF (bn s p))) 1 s.files,dir:=bn s p,dB:=bn s p,chg:=[] } := rfl
  have hllen:(dO (aF (bn s p))).length=(bn s p).length:=by rw[(gF _).length_eq,aF,List.length_map]
  generalize hCL:dZ (bn s p) p (dO (aF (bn s p))) 1 s.files=fin at *
  generalize hll:dO (aF (bn s p))=l at *
  generalize bn s p=d1 at *
  rw[aT.len (Own.uz lo)]
  have hfo:∀ b∈fbs,∃ i,own' b=some (.file i):=by
   intro b hb
   obtain⟨i,hi⟩:=List.getElem?_of_mem hb
   obtain⟨f,w,_,hat⟩:=f5.at hi
   exact⟨i,hat.tg⟩
  have hft:∀ t:Tag,(∀ i,t≠.file i)→∀ b∈fbs,own' b≠some t:=by
   intro t ht b hb
   obtain⟨i,hi⟩:=hfo b hb
   rw[hi]; simpa using fun e=>ht i e.symm
  have hlb:=Own.blk lo
  refine kJ (fun z ys M'=>∃ (i:Nat) (fs:List gK),z=l.length - i∧ys=[N .i64 (i:Int)]∧i≤l.length∧ae fbs M6 M'∧fM TF TU own' M' fbs fs∧(∀ f∈fs,f.1.length≤140737488355328)∧dZ d1 p (l.drop i) (i + 1) fs=fin) l.length
   ⟨0,s.files,rfl,rfl,Nat.zero_le _,ae.refl _ _,hd6.files,hfl,hCL⟩ ?_
  rintro next z ys M7 hnext ⟨i,fs,rfl,rfl,hil,k7,f7,G9,hcl⟩
  dsimp only[bG]
  rw[CW]
  have r7:=k7.bI hd6.row hd6.Ce (fun hm=>hft .disk (by simp) _ hm hd6.od)
  have m7:=hd6.names.step k7 (hft _ (by simp)) (fun _ h=>h)
  refine eG (fun hlt3=>?_) (fun hge=>?_)
  ·have hlt3:i<l.length:=of_decide_eq_true hlt3
   have lo7:Sl wO M7 lv l:=aT.keep (Own.uz lo) k7 (fun b hb hm=>by
    obtain⟨j,hj⟩:=hfo b hm
    have:=(hlb b hb).1
    have:=Ib b (by rw[hj]; simp)
    omega)
   obtain⟨lb,lof,_,_,hidx,hcell⟩:=Sl.Ci lo7 (i:=i) (i:Int) hlt3
   rw[hidx,eX,hcell (St l[i]) rfl]
   simp only[Option.some.injEq,exists_eq_left']
   obtain⟨f,hf⟩:=hmem l[i] (List.getElem_mem hlt3)
   rw[List.drop_eq_getElem_cons hlt3] at hcl
   unfold dZ at hcl
   rw[hf] at hcl
   dsimp only at hcl
   rw[au,ah,aB (i:=0 + 1) r7 rfl]
   refine eZ m7 (fun hn=>by rw[hf] at hn; cases hn) (fun f' b hf' hb=>?_)
   rw[hf] at hf'
   cases hf'
   obtain⟨fl,w7,Gc,hat⟩:=f7.at hb
   have hfi:=(List.getElem?_eq_some_iff.1 Gc).1
   have hfln:=G9 fl (List.mem_of_getElem? Gc)
   have hle:=hat.le
   have hpk:bU p (i + 1) (fl.1.length - fl.2 + 1)<fl.1.length - fl.2 + 1:=oP (by omega)
   have hcf:l7 fs f p (i + 1)=fs.set f (fl.1.take (fl.2 + bU p (i + 1) (fl.1.length - fl.2 + 1)),fl.2 + bU p (i + 1) (fl.1.length - fl.2 + 1)):=by
    unfold l7; rw[Gc]; rfl
   rw[hcf] at hcl
   rw[au,ah,aB (i:=0 + 1) hat.heap rfl,add1 (by omega),au,ah,aB (i:=0 + 0) hat.heap rfl,aT.len hat.fb.sl,au,ah,aB (i:=0 + 1) hat.heap rfl,JF hle (by omega),add1 (by omega)]
   have v7:Sl INT M7 v p:=aT.keep v6 k7 (fun b hb hm=>by
    obtain⟨j,hj⟩:=hfo b hm
    rw[J3 b hb] at hj; cases hj)
   refine hp v7 (by omega) ?_
   generalize bU p (i + 1) (fl.1.length - fl.2 + 1)=pk at *
   rw[aB (i:=0 + 1) hat.heap rfl]
   refine⟨rfl, ?_⟩
   have htb:=hat.tg
   rw[addN (by omega),au,ah,eu (i:=0 + 1) [w7,N .i64 ((fl.2 + pk:Nat) : Int)] hat.heap (by simp) rfl rfl rfl]
   have k8:ae [b] M7 (M7.put b (.row [w7,N .i64 ((fl.2 + pk:Nat) : Int)] false TF 0)):=(ae.refl _ _).put _ (.inr (by simp))
   have h8:(M7.put b (.row [w7,N .i64 ((fl.2 + pk:Nat) : Int)] false TF 0)).heap b=some (.row [w7,N .i64 ((fl.2 + pk:Nat) : Int)] false TF 0):=aZ _
   have fb8:=hat.fb.keep k8 (fun c hc hm=>by rw[List.mem_singleton] at hm; have:=hat.blk c hc; rw[hm,htb] at this; cases this)
   generalize M7.put b (.row [w7,N .i64 ((fl.2 + pk:Nat) : Int)] false TF 0)=M8 at *
   rw[au,ah,aB (i:=0 + 0) h8 rfl,au,ah,aB (i:=0 + 1) h8 rfl,au,ah,aB (i:=0 + 1) h8 rfl]
   obtain⟨w9,e9,fb9,hw9⟩:=H8 fb8 (k:=fl.2 + pk) (by omega)
   rw[e9,xA,au,ah,eu (i:=0 + 0) [w9,N .i64 ((fl.2 + pk:Nat) : Int)] h8 (by simp) fb9.one.2.1 fb9.one.1 rfl,add1 (by omega)]
   have k9:ae [b] M8 (M8.put b (.row [w9,N .i64 ((fl.2 + pk:Nat) : Int)] false TF 0)):=(ae.refl _ _).put _ (.inr (by simp))
   have k79:=k8.trans k9
   have Kh:iq TF TU own' (M8.put b (.row [w9,N .i64 ((fl.2 + pk:Nat) : Int)] false TF 0)) fbs f b w9 (fl.1.take (fl.2 + pk),fl.2 + pk):=by
    refine⟨hat.at_,Nat.lt_of_lt_of_le hat.lt k79.next,htb,aZ _,fb9.keep k9 (fun c hc hm=>?_),by show _≤(fl.1.take (fl.2 + pk)).length; rw[List.length_take]; omega,fun c hc=>hat.blk c (hw9 c hc)⟩
    rw[List.mem_singleton] at hm
    have:=hat.blk c (hw9 c hc)
    rw[hm,htb] at this; cases this
   have f9:=f7.set (own':=own') hfi Kh k79 (fun c hc j hj=>⟨jB htb (by simpa using hj) c hc,jB htb (by simp) c hc⟩) (fun _ _ _ _=>rfl)
   refine hnext _ _ _ (by omega) ⟨i + 1,_,rfl,rfl,by omega,k7.trans (k79.mono (fun c hc=>by rw[List.mem_singleton] at hc; rw[hc]; exact List.mem_of_getElem? hb)),f9,fun g hg=>?_,hcl⟩
   rcases List.mem_or_eq_of_mem_set hg with hg | rfl
   ·exact G9 g hg
   ·show(fl.1.take (fl.2 + pk)).length≤_
    rw[List.length_take]; omega
  ·have he:i=l.length:=by
    have:¬ i<l.length:=of_decide_eq_false hge
    omega
   subst he
   rw[List.drop_length] at hcl
   have hcl:fs=fin:=hcl
   subst hcl
   rw[hCF] at hQ
   have s7:=hd6.safe.step k7 (hft _ (by simp)) (fun _ h=>h)
   refine hQ own' M7 ⟨fbs,sm,M2.next,bR,fun b hb=>Nat.lt_of_lt_of_le (hd6.lt b hb) k7.next,od',r7,m7,s7,.nil,f7⟩ ((t5.trans (Tr.keep k6)).trans ⟨fbs,k7,fun b hb=>?_,fun _ _ h=>h⟩)
   obtain⟨j,hj⟩:=hfo b hb
   rw[hj]; simp
end
theorem nL:∀ x y:Nm,jy x y=decide (x≤y)
 | [],y=>by simp[jy]
 | a :: x,[]=>by simp[jy]
 | a :: x,b :: y=>by
   rw[jy,nL x y,Bool.eq_iff_iff]
   simp only[Bool.or_eq_true,Bool.and_eq_true,decide_eq_true_eq,List.cons_le_cons_iff]
   rw[UInt8.lt_iff_toNat_lt,← UInt8.toNat_inj]
theorem wL (x y:Nm) : (jy x y || jy y x)=true:=by
 rw[nL,nL,Bool.or_eq_true,decide_eq_true_eq,decide_eq_true_eq]
 exact Std.Total.total x y
theorem xJ (x y z:Nm) (h1:jy x y=true) (h2:jy y z=true) : jy x z=true:=by
 rw[nL,decide_eq_true_eq] at *
 exact List.le_trans h1 h2
theorem FQ (x y:Nm) (h1:jy x y=true) (h2:jy y x=true) : x=y:=by
 rw[nL,decide_eq_true_eq] at *
 exact List.le_antisymm h1 h2
theorem rH (x:Nm) : ∀ {l:List Nm},l.Pairwise (fun a b=>jy a b=true)→(sI x l).Pairwise (fun a b=>jy a b=true)
 | [],_=>by simp[sI]
 | y :: l,h=>by
   unfold sI
   split
   ·rename_i hxy
    refine List.pairwise_cons.2 ⟨fun z hz=>?_,h⟩
    rcases List.mem_cons.1 hz with rfl | hz
    ·exact hxy
    ·exact xJ _ _ _ hxy ((List.pairwise_cons.1 h).1 z hz)
   ·rename_i hxy
    have hyx:jy y x=true:=by have:=wL x y; simp only[Bool.not_eq_true] at hxy; rw[hxy] at this; simpa using this
    refine List.pairwise_cons.2 ⟨fun z hz=>?_,rH x (List.pairwise_cons.1 h).2⟩
    rcases List.mem_cons.1 ((qi x l).mem_iff.1 hz) with rfl | hz
    ·exact hyx
    ·exact(List.pairwise_cons.1 h).1 z hz
theorem qc:∀ l:List Nm,(dO l).Pairwise (fun a b=>jy a b=true)
 | []=>.nil
 | x :: l=>rH x (qc l)
theorem Ba {ss l:List Nm} (h:ss.Perm l) : ss.mergeSort (fun x y=>decide (x≤y))=dO l:=by
 have e:(fun x y:Nm=>decide (x≤y))=jy:=by funext x y; rw[nL]
 rw[e]
 refine List.Perm.eq_of_pairwise (le:=fun a b=>jy a b=true) (fun a b _ _ h1 h2=>FQ a b h1 h2) ?_ (qc l) ((List.mergeSort_perm _ _).trans (h.trans (gF l).symm))
 exact List.pairwise_mergeSort xJ wL ss
def Cc (TS TM g:Nat) (c:ax) : Prop:=∀ {own:aO} {M:RM} {fbs:List Nat} {m b:Nat} {d:Dir} {t:Tag} {Q:af},MapAt own M fbs m d t→M.heap b=some (.row [.map m] false TM 0)→b<M.next→d.length≤4000000000→gY d →
 (∀ v M',Ow wO M' M.next TS v (dO (aF d))→ae [] M M'→Q v M')→c [.fn (.func g) [] [.ptr b 0]] M Q
def Cw (TM g:Nat) (c:ax) : Prop:=∀ {M:RM} {m:Nat} {Q:af},Q (.fn (.func g) [] [.ptr M.next 0]) (M.push (.row [.map m] false TM 0))→c [.map m] M Q
theorem Ep {TM g:Nat} : Cw TM g fun args M Q=>∃ a0,args=[a0]∧aU TM g a0 M Q:=by
 intro M m Q hQ
 refine⟨_,rfl, ?_⟩
 unfold aU
 refine⟨rfl,by show 1≤1; decide, ?_⟩
 dsimp only
 rw[dD]
 exact hQ
section
variable {TD TF TU TC:Nat}
theorem EK {TS TM g:Nat} {ck cs:ax} (hk:Cw TM g ck) (hs:Cc TS TM g cs) : uP TD TF TU TC TS fun args M Q=>∃ a0,args=[a0]∧gP ck cs a0 M Q:=by
 intro own M db s Q hd hlen hw hQ
 obtain⟨fbs,nm,sm,cv,hd⟩:=hd
 refine⟨_,rfl, ?_⟩
 unfold gP
 rw[au,ah,aB (i:=0 + 1) hd.row rfl]
 refine hk ?_
 have k1:ae [] M (M.push (.row [.map nm] false TM 0)):=(ae.refl _ _).push _
 refine hs ((hd.keep k1).names) (RM.bz _) (by rw[aM]; omega) hlen hw fun v M' o k=>?_
 exact hQ v M' (Own.mono o (by rw[aM]; omega)) (k1.trans k)
end
end Go.Ab.Dk
namespace Go.Ab
open Go Go.RowKit
section
variable {P:Program} {ρ:Ren} {M:RM} {w w' : World}
theorem Eu {base:Base} {A:AW} (hw0:aW P base ρ A w) (hbl:Below w.heap.size w w') (hbase:base≤w.heap.size) {x:dV} {ob:Obj} {i:cu} (hge:w.heap.size≤i.cb) (hob:w'.heap[i.cb]?=some ob)
  (hrel:dY P (ρ.add A.next i) i x ob) : aW P base (ρ.add A.next i) (A.push x) w'∧Step base A.next ρ w (ρ.add A.next i) w':=by
 have hb:ρ A.next=none:=hw0.fresh (Nat.le_refl _)
 have hw:=mX hw0 x
 have hx:(A.push x).heap.get A.next=some x:=by simp[AW.push,Tree.aL]
 have hlt:A.next<(A.push x).next:=by simp[AW.push]
 have hle:=Ren.kF (i:=i) hb
 have hadd:∀ c j,ρ.add A.next i c=some j→(c=A.next∧j=i)∨(c≠A.next∧ρ c=some j):=by
  intro c j h
  unfold Ren.add at h
  split at h
  ·cases h; exact .inl ⟨‹_›,rfl⟩
  ·exact .inr ⟨‹_›,h⟩
 have hcb:i.cb<w'.heap.size:=(Array.getElem?_eq_some_iff.1 hob).1
 refine⟨⟨?_, ?_, ?_,hw.top, ?_,base.low w _ (fun c hc=>hbl.block c (by omega)) hw.inv⟩,⟨hbl.os,hbl.tape,hbl.output,hbl.size, ?_, ?_, ?_,fun c hc=>hbl.block c (by omega)⟩⟩
 ·intro c j h
  rcases hadd c j h with⟨rfl,rfl⟩ | ⟨_,h⟩
  ·exact⟨hlt,hcb⟩
  ·have:=hw.dom c j h; have:=hbl.size; omega
 ·intro c j y h hy
  rcases hadd c j h with⟨rfl,rfl⟩ | ⟨_,h⟩
  ·rw[hx] at hy; cases hy
   exact⟨ob,hob,hrel⟩
  ·obtain⟨o,ho,hr⟩:=hw.blk c j y h hy
   exact⟨o,by rw[hbl.block j.cb (hw.dom c j h).2]; exact ho,hr.mono hle⟩
 ·intro b1 b2 i1 i2 x1 x2 h1 h2 g1 g2 he
  rcases hadd _ _ h1 with⟨e1,f1⟩ | ⟨_,k1⟩ <;> rcases hadd _ _ h2 with⟨e2,f2⟩ | ⟨_,k2⟩
  ·rw[e1,e2]
  ·have:=(hw.dom _ _ k2).2; subst f1; omega
  ·have:=(hw.dom _ _ k1).2; subst f2; omega
  ·exact hw.sep _ _ _ _ _ _ k1 k2 g1 g2 he
 ·intro c j y h hy
  rcases hadd c j h with⟨rfl,rfl⟩ | ⟨_,h⟩
  ·omega
  ·exact hw.lo c j y h hy
 ·intro c hc _; exact hbl.block c hc
 ·intro c hc; unfold Ren.add; rw[if_neg (by omega)]
 ·intro c j h
  rcases hadd c j h with⟨rfl,rfl⟩ | ⟨_,h⟩
  ·exact .inr hge
  ·exact .inl ⟨c,j,h,rfl⟩
theorem dh.Hq {f:FuncId} {args:List AV} {T n:Nat} {cs:List AV} {Q:af} (hP:vL P f) (hsz:aA P T=some 1) (h1:cs.all oneCell=true) (hlen:cs.length=n)
  (h:∀ (ρ:Ren) (w:World) (us:List Value),av ρ args us→bg P ρ M w→Calls P f ⟨us⟩ w fun e w'=>∃ v xs,e=.returned v∧w'.ownsRow w.heap.size T 1 v n xs∧(∀ ρ',av ρ' cs xs)∧Below w.heap.size w w')
  (hQ:∀ v M',Own M' M.next T 1 v cs n→ae [] M M'→Q v M') : dh P f args M Q:=by
 refine⟨hP,fun ρ w us hargs hw=>(h ρ w us hargs hw).mono fun e w' hR=>?_⟩
 obtain⟨v,xs,rfl,⟨hxl,hrow⟩,hrel,hbl⟩:=hR
 rcases hrow with⟨rfl,h0⟩ | ⟨g,cap,cur,rfl,hge,hg,r1,r2,r3,r4⟩
 ·have:cs=[]:=List.length_eq_zero_iff.1 (by omega)
  subst this
  have hn:n=0:=h0
  subst hn
  exact⟨_,bR,M,ρ,rfl,After.below hw hbl,.sc _ rfl,hQ _ _ .nil (ae.refl _ _)⟩
 ·obtain⟨A,hA⟩:=hw
  obtain⟨tr,htr⟩:=fw cs .leaf 0 h1
  obtain⟨_,hget⟩:=bO _ _ _ htr
  obtain⟨_,hcell⟩:=mW htr
  have hblk:dY P (ρ.add A.next ⟨g,0,cap,1⟩) ⟨g,0,cap,1⟩ (.row n tr [] true T 0) (.cells cur T (0,0)):=by
   refine⟨cur,(0,0),rfl,⟨by show 0 + n≤_; omega,fun k x hx=>?_,fun k _ _=>by simp,fun h=>(by cases h),fun _=>⟨Nat.one_pos,by show cur.size=0 + cap * 1; omega,hsz⟩,rfl⟩⟩
   obtain⟨hk1,hk2⟩:=fJ hx
   rw[hget,if_pos (by omega),Nat.sub_zero] at hk2
   obtain⟨v,hv,hvr⟩:=(hrel (ρ.add A.next ⟨g,0,cap,1⟩)).get hk2
   refine⟨v, ?_,hvr⟩
   show cur[0 + k]?=some v
   rw[Nat.zero_add,← Array.getElem?_toList]
   rw[← r4,Nat.mul_one,List.getElem?_take_of_lt (by omega)] at hv
   exact hv
  obtain⟨q1,q2⟩:=Eu hA.rel hbl (Nat.le_trans (show M.base.n≤M.lo from Nat.le_refl _) hA.size) (i:=⟨g,0,cap,1⟩) hge hg hblk
  obtain⟨k1,k2,k3⟩:=RM.lL hA (x:=.row cs true T 0) (y:=.row n tr [] true T 0) ⟨hlen,rfl,rfl,rfl,fun k v hk=>by rw[← hlen]; exact hcell k v hk⟩
  have hnx:=hA.next
  refine⟨_,.slc M.next 0 n (.op 1),M.push (.row cs true T 0),_,rfl,dL hA q2 q1 k1 k2 (by simp[AW.push]) k3, ?_,hQ _ _ (.op M.next n cs (Nat.le_refl _) (by simp[RM.push]) (RM.bz _) (by omega)) ((ae.refl _ _).push _)⟩
  have:=aa.fH (ρ:=ρ.add A.next ⟨g,0,cap,1⟩) M.next 0 n ⟨g,0,cap,1⟩ (by rw[← hnx]; simp[Ren.add]) (by show 0 + n≤cap; omega)
  simpa using this
end
end Go.Ab
set_option maxRecDepth 100000
namespace Go.Ab.Crw
open Go Go.Ab
end Go.Ab.Crw
namespace Go.Ab.Vl
open Go Go.Ab
end Go.Ab.Vl
