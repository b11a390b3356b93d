/- Part 3 of the ground of the proofs of this seat (texts R9 to K8). By an AI agent. -/
import Derived.Test.YtckpmlcaaagnkaaDoorDkk2
import Derived.Scope
import Derived.ChangeShapes
import Derived.OpenShut
import Derived.WideKeyArgs
import GoSem.ClaimJoined
import Derived.Carry
import Derived.JoinedCond
import Derived.SizedLaws
import GoSem.Extern.Atomic
import GoSem.Extern.MapsClone
import Derived.Laws.AppendOwn
set_option linter.unusedVariables false
set_option linter.unusedSimpArgs false
namespace Go.Ab
open Go Go.RowKit
def xG:Option Tmp→Nat
 | some d=>2 ^ d
 | none=>0
def Dq:Operand→Nat
 | .tmp t=>2 ^ t
 | _=>0
def Dc:List Operand→Nat
 | []=>0
 | x :: xs=>Dq x ||| Dc xs
def Et (L m:Nat) : Nat:=L ^^^ (L &&& m)
def r9:List Oper→Nat
 | []=>0
 | o :: os=>xG o.dst ||| r9 os
def bV:Nat→Code→Nat
 | 0,_=>0
 | f + 1,c=>match c with
   | .region _ ops _=>r9 ops.toList
   | .seq a b=>bV f a ||| bV f b
   | .cond _ a b=>bV f a ||| bV f b
   | .block _ c=>bV f c
   | .loop c=>bV f c
   | .scope c=>bV f c
   | _=>0
def Ae:List Oper→Nat→Nat
 | [],L=>L
 | o :: os,L=>Et (Ae os L) (xG o.dst) ||| Dc o.op.operands.toList
def Cq:List (Nat × Nat)→Nat→Nat
 | [],_=>0
 | (i,L) :: r,id=>match Nat.beq i id with
   | true=>L
   | false=>Cq r id
def cz (ret:Nat) : Nat→List (Nat × Nat)→Code→Nat→Nat
 | 0,_,_,_=>0
 | f + 1,env,c,L=>match c with
   | .skip=>L
   | .region _ ops _=>Ae ops.toList L
   | .seq a b=>cz ret f env a (cz ret f env b L)
   | .cond c a b=>Dq c ||| cz ret f env a L ||| cz ret f env b L
   | .block id c=>cz ret f ((id,L) :: env) c L
   | .loop c=>cz ret f env c (cz ret f env c 0)
   | .exit id=>Cq env id
   | .ret=>ret
   | .scope c=>cz ret f env c L
   | .label _=>L
   | _=>0
def cap2 (n:Nat) : Nat:=match n with | 0=>0 | 1=>1 | _=>2
def jr (id:Nat) : Nat→Code→Nat
 | 0,_=>2
 | f + 1,c=>match c with
   | .seq a b=>cap2 (jr id f a + jr id f b)
   | .cond _ a b=>cap2 (jr id f a + jr id f b)
   | .block _ c=>jr id f c
   | .loop c=>jr id f c
   | .exit i=>match Nat.beq i id with | true=>1 | false=>0
   | _=>0
def kX:Nat→Code→Nat
 | 0,_=>2
 | f + 1,c=>match c with
   | .skip=>1
   | .region _ _ _=>1
   | .seq a b=>cap2 (kX f a * kX f b)
   | .cond _ a b=>cap2 (kX f a + kX f b)
   | .block id c=>cap2 (kX f c + jr id f c)
   | .scope c=>kX f c
   | .label _=>1
   | _=>0
def mM (m:Nat) : Nat→Nat→List Nat
 | _,0=>[]
 | i,n + 1=>match Nat.testBit m i with
   | true=>i :: mM m (i + 1) n
   | false=>mM m (i + 1) n
def bitsOf (m nt:Nat) : List Nat:=mM m 0 nt
def ma (T:Tree AV) : List Nat→List AV
 | []=>[]
 | t :: ts=>(T.get t).getD .top :: ma T ts
def dS:List AV→Nat→AV
 | [],_=>.top
 | x :: _,0=>x
 | _ :: xs,n + 1=>dS xs n
def nE (T:Tree AV) : List Nat→Tree AV
 | []=>T
 | t :: ts=>nE (T.set t .top) ts
def yE (T:Tree AV) (xs:List AV) : Nat→List Nat→Tree AV
 | _,[]=>T
 | i,t :: ts=>yE (T.set t (dS xs i)) xs (i + 1) ts
def nU (T:Tree AV) (asg vs:List Nat) (xs:List AV) : Tree AV:=yE (nE T asg) xs 0 vs
def bM (x:AV) (p q:Prop) : Prop :=
 match x with
 | .sc (.bool b)=>(b=true→p)∧(b=false→q)
 | _=>False
def tJ (f:(List AV→RM→Prop)→Prop) (g:List AV→RM→Prop) : Prop:=f g
def sN (body:(List AV→RM→Prop)→List AV→RM→Prop) (xs:List AV) (M:RM) : Prop :=
 ∃ (I:Nat→List AV→RM→Prop) (n:Nat),I n xs M∧∀ m ys M',I m ys M'→body (fun zs M''=>∃ m',m'<m∧I m' zs M'') ys M'
abbrev K3:=Ex→Tree AV→RM→Prop
def wpC (P:Program) (nt ret:Nat) : Nat→Code→List (Nat × Nat)→Nat→Tree AV→RM→K3→Prop
 | 0,_,_,_,_,_,_=>False
 | f + 1,c,env,L,T,M,K=>match c with
   | .skip=>K .normal T M
   | .region _ ops false=>tZ P nt ops ops.toList T M (fun T' M'=>K .normal T' M')
   | .region _ ops true=>Cg P nt ops T M (fun T' M'=>K .normal T' M')
   | .seq a b=>match Nat.ble (kX f a) 1 with
     | true=>wpC P nt ret f a env (cz ret f env b L) T M (fun e T' M'=>match e with
       | .normal=>wpC P nt ret f b env L T' M' K
       | e=>K e T' M')
     | false=>tJ (fun J=>wpC P nt ret f a env (cz ret f env b L) T M (fun e T' M'=>match e with
       | .normal=>J (ma T' (bitsOf (bV f a &&& cz ret f env b L) nt)) M'
       | e=>K e T' M'))
       (fun xs M'=>wpC P nt ret f b env L (nU T (bitsOf (bV f a) nt) (bitsOf (bV f a &&& cz ret f env b L) nt) xs) M' K)
   | .cond c a b=>bM (kE T c) (wpC P nt ret f a env L T M K) (wpC P nt ret f b env L T M K)
   | .block id c=>wpC P nt ret f c ((id,L) :: env) L T M (fun e T' M'=>match e with
     | .exit i=>match Nat.beq i id with
       | true=>K .normal T' M'
       | false=>K (.exit i) T' M'
     | e=>K e T' M')
   | .loop c=>sN (fun next xs M'=>wpC P nt ret f c env (cz ret f env c (cz ret f env c 0)) (nU T (bitsOf (bV f c) nt) (bitsOf (bV f c &&& cz ret f env c (cz ret f env c 0)) nt) xs) M'
     (fun e T' M'=>match e with
      | .normal=>next (ma T' (bitsOf (bV f c &&& cz ret f env c (cz ret f env c 0)) nt)) M'
      | e=>K e T' M'))
     (ma T (bitsOf (bV f c &&& cz ret f env c (cz ret f env c 0)) nt)) M
   | .exit id=>K (.exit id) T M
   | .ret=>K .ret T M
   | .scope c=>wpC P nt ret f c env L T M K
   | .label _=>K .normal T M
   | _=>False
def Es (P:Program) (T:Tree AV) (M:RM) (r:ResultVar) (K:AV→Prop) : Prop :=
 match r with
 | .tmp t=>K ((T.get t).getD .top)
 | .cell a t=>match bf P t with
   | some false=>aL M ((T.get a).getD .top) K
   | some true=>match az P t with
     | some n=>jH M ((T.get a).getD .top) n K
     | none=>False
   | none=>False
def Dw (P:Program) (T:Tree AV) (M:RM) : List ResultVar→(List AV→Prop)→Prop
 | [],K=>K []
 | r :: rs,K=>Es P T M r (fun v=>Dw P T M rs (fun vs=>K (v :: vs)))
def FW (Q:af) (M:RM) : List AV→Prop
 | [v]=>Q v M
 | vs=>Q (.tup vs) M
def uC:List ResultVar→Nat
 | []=>0
 | .tmp t :: rs=>2 ^ t ||| uC rs
 | .cell a _ :: rs=>2 ^ a ||| uC rs
def Dj (P:Program) (fn:Func) (c:Code) (args:List AV) (M:RM) (Q:af) : Prop :=
 wpC P (args.length + (fn.ntmps - args.length)) (uC fn.results.toList) 1000 c [] 0 (Tree.ofList args 0 .leaf) M
  (fun e T M'=>match e with
   | .exit _=>False
   | _=>Dw P T M' fn.results.toList (FW Q M'))
section
variable {P:Program} {nt ret:Nat}
def Ci (P:Program) (nt:Nat) (M0:RM) (ρ0:Ren) (w0:World) (T:Tree AV) (asg:Nat) (K:K3) (e:Exit) (a:Act) (w:World) : Prop :=
 ∃ x T' M' ρ',e=D5 x∧After P M0 ρ0 w0 M' ρ' w∧dV ρ' nt T' a∧(∀ t,Nat.testBit asg t=false→T'.get t=T.get t)∧K x T' M'
theorem xL {T:Tree AV} : ∀ (vs:List Nat) (i:Nat),dS (ma T vs) i=match vs[i]? with | some t=>(T.get t).getD .top | none=>.top
 | [],i=>by simp[ma,dS]
 | t :: vs,0=>by simp[ma,dS]
 | t :: vs,i + 1=>by simp[ma,dS,xL vs i]
theorem o8:∀ (asg:List Nat) (T:Tree AV) (t:Nat),(nE T asg).get t=if t∈asg then some .top else T.get t
 | [],T,t=>by simp[nE]
 | d :: asg,T,t=>by
   simp only[nE,o8 asg,Tree.aI,List.mem_cons]
   by_cases h1:t∈asg
   ·simp[h1]
   ·by_cases h2:t=d <;> simp[h1,h2]
theorem qC:∀ (vs:List Nat) (T:Tree AV) (xs:List AV) (i t:Nat),(t ∉ vs∧(yE T xs i vs).get t=T.get t)∨∃ j,vs[j]?=some t∧(yE T xs i vs).get t=some (dS xs (i + j))
 | [],T,xs,i,t=>.inl ⟨by simp,rfl⟩
 | d :: vs,T,xs,i,t=>by
   simp only[yE]
   rcases qC vs (T.set d (dS xs i)) xs (i + 1) t with⟨h1,h2⟩ | ⟨j,h1,h2⟩
   ·rw[Tree.aI] at h2
    by_cases e:t=d
    ·rw[if_pos e] at h2
     exact .inr ⟨0,by simp[e],h2⟩
    ·rw[if_neg e] at h2
     exact .inl ⟨by simp[e,h1],h2⟩
   ·exact .inr ⟨j + 1,by simpa using h1,by rw[h2]; congr 2; omega⟩
theorem nM {m:Nat} : ∀ (n i t:Nat),t∈mM m i n↔i≤t∧t<i + n∧Nat.testBit m t=true
 | 0,i,t=>by simp[mM]; omega
 | n + 1,i,t=>by
   simp only[mM]
   split
   ·rename_i h
    rw[List.mem_cons,nM n (i + 1) t]
    constructor
    ·rintro(rfl | ⟨a,b,c⟩)
     ·exact⟨Nat.le_refl _,by omega,h⟩
     ·exact⟨by omega,by omega,c⟩
    ·rintro⟨a,b,c⟩
     by_cases e:t=i
     ·exact .inl e
     ·exact .inr ⟨by omega,by omega,c⟩
   ·rename_i h
    rw[nM n (i + 1) t]
    constructor
    ·rintro⟨a,b,c⟩; exact⟨by omega,by omega,c⟩
    ·rintro⟨a,b,c⟩
     have:t≠i:=fun e=>by subst e; rw[h] at c; cases c
     exact⟨by omega,by omega,c⟩
theorem kw {m n t:Nat} : t∈bitsOf m n↔t<n∧Nat.testBit m t=true:=by
 unfold bitsOf; rw[nM]; simp
theorem oL {ρ:Ren} {T T' : Tree AV} {a:Act} {asg:Nat} {vs:List Nat} (h:dV ρ nt T' a) (hge:∀ t,nt≤t→aa ρ ((T.get t).getD .top) undef) (hk:∀ t,Nat.testBit asg t=false→T'.get t=T.get t) : dV ρ nt (nU T (bitsOf asg nt) vs (ma T' vs)) a:=by
 refine⟨h.size,fun t=>?_,h.defers⟩
 unfold nU
 rcases qC vs (nE T (bitsOf asg nt)) (ma T' vs) 0 t with⟨_,h2⟩ | ⟨j,h1,h2⟩
 ·rw[h2,o8]
  split
  ·exact .top _
  ·rename_i hm
   by_cases hb:Nat.testBit asg t=true
   ·have hge' : nt≤t:=by
     rcases Nat.lt_or_ge t nt with hlt | hge
     ·exact absurd (kw.2 ⟨hlt,hb⟩) hm
     ·exact hge
    have hv:a.tmps.getD t undef=undef:=by
     rw[Array.getD_eq_getD_getElem?,Array.getElem?_eq_none (by rw[h.size]; exact hge')]; rfl
    rw[hv]; exact hge t hge'
   ·rw[← hk t (by simpa using hb)]
    exact h.val t
 ·rw[h2,Nat.zero_add,xL,h1]
  exact h.val t
theorem tF {T:Tree AV} {asg:Nat} {vs:List Nat} {xs:List AV} (hvs:∀ t∈vs,Nat.testBit asg t=true) (t:Nat) (h:Nat.testBit asg t=false) : (nU T (bitsOf asg nt) vs xs).get t=T.get t:=by
 unfold nU
 rcases qC vs (nE T (bitsOf asg nt)) xs 0 t with⟨_,h2⟩ | ⟨j,h1,h2⟩
 ·rw[h2,o8,if_neg]
  intro hm
  rw[(kw.1 hm).2] at h; cases h
 ·have:=hvs t (List.mem_of_getElem? h1)
  rw[h] at this; cases this
theorem dV.ge {ρ:Ren} {T:Tree AV} {a:Act} (h:dV ρ nt T a) : ∀ t,nt≤t→aa ρ ((T.get t).getD .top) undef:=by
 intro t ht
 have:=h.val t
 rw[Array.getD_eq_getD_getElem?,Array.getElem?_eq_none (by rw[h.size]; exact ht)] at this
 exact this
theorem qg {c:Code} {Q:Exit→Act→World→Prop} : ∀ {n m:Nat} {a:Act} {w:World},n≤m→Code.rounds P c Q n a w→Code.rounds P c Q m a w
 | 0,_,_,_,_,h=>h.elim
 | n + 1,m + 1,a,w,hle,h=>by
   rw[rounds_succ] at h ⊢
   refine wp_mono h fun e a' w' hp=>?_
   cases e with
   | normal=>exact qg (Nat.le_of_succ_le_succ hle) hp
   | exit id=>exact hp
   | ret=>exact hp
   | goto l=>exact hp
   | panic c=>exact hp
   | outgrown=>exact hp
theorem mR {t:Nat} : ∀ (l:List Oper),Nat.testBit (r9 l) t=false→∀ o∈l,o.dst≠some t
 | [],_,o,ho=>by cases ho
 | x :: l,h,o,ho=>by
   simp only[r9,Nat.testBit_or,Bool.or_eq_false_iff] at h
   rcases List.mem_cons.1 ho with rfl | ho
   ·intro e
    rw[e] at h
    simp[xG,Nat.testBit_two_pow] at h
   ·exact mR l h.2 o ho
theorem Cn {ρ:Ren} {x:AV} {u:Value} {p q:Prop} (h:bM x p q) (hx:aa ρ x u) : ∃ b,u=.bool b∧(b=true→p)∧(b=false→q):=by
 unfold bM at h
 split at h <;> first | (cases h; done) | skip
 rename_i b
 exact⟨b,(ak hx).1,h.1,h.2⟩
theorem Ct (hP:sG P) : ∀ (f:Nat) (c:Code) (env:List (Nat × Nat)) (L:Nat) (T:Tree AV) (M:RM) (K:K3),wpC P nt ret f c env L T M K →
  ∀ (M0:RM) (ρ0:Ren) (w0:World) (ρ:Ren) (a:Act) (w:World),After P M0 ρ0 w0 M ρ w→dV ρ nt T a→c.wp P (Ci P nt M0 ρ0 w0 T (bV f c) K) a w:=by
 intro f
 induction f with
 | zero=>intro c env L T M K h; exact h.elim
 | succ f ih =>
   intro c env L T M K h M0 ρ0 w0 ρ a w hM hA
   cases c with
   | skip=>exact wp_skip ⟨.normal,T,M,ρ,rfl,hM,hA,fun _ _=>rfl,h⟩
   | region id ops d =>
     cases d with
     | false =>
       refine wp_region ?_
       have:=nA (nt:=nt) hP (ops:=ops) (Q:=Ci P nt M0 ρ0 w0 T (bV (f + 1) (.region id ops false)) K) (K:=fun T' M'=>K .normal T' M') (M0:=M0) (ρ0:=ρ0) (w0:=w0) (T0:=T)
        (fun T' M' ρ' a' w' k1 k2 k3 k4=>⟨.normal,T',M',ρ',rfl,k1,k2,fun t ht=>k4 t (mR _ ht),k3⟩) ops.toList 0 (by simp) hA hM (fun _ _=>rfl) h
       rw[Array.length_toList,← List.range_eq_range'] at this
       exact this
     | true =>
       exact zQ (nt:=nt) (T:=T) hP hM hA (fun T' M' ρ' a' w' k1 k2 k3 k4=>⟨.normal,T',M',ρ',rfl,k1,k2,fun t ht=>k4 t (mR _ ht),k3⟩) h
   | seq c1 c2 =>
     simp only[wpC] at h
     refine wp_seq ?_
     split at h
     ·refine wp_mono (ih c1 _ _ _ _ _ h M0 ρ0 w0 ρ a w hM hA) fun e a' w' hp=>?_
      obtain⟨x,T1,M1,ρ1,rfl,k1,k2,k3,k4⟩:=hp
      cases x with
      | normal =>
        refine wp_mono (ih c2 _ _ _ _ _ k4 M0 ρ0 w0 ρ1 a' w' k1 k2) fun e a2 w2 hp=>?_
        obtain⟨x,T2,M2,ρ2,he,q1,q2,q3,q4⟩:=hp
        exact⟨x,T2,M2,ρ2,he,q1,q2,fun t ht=>by
         simp only[bV,Nat.testBit_or,Bool.or_eq_false_iff] at ht
         rw[q3 t ht.2,k3 t ht.1],q4⟩
      | exit i=>exact⟨.exit i,T1,M1,ρ1,rfl,k1,k2,fun t ht=>by
        simp only[bV,Nat.testBit_or,Bool.or_eq_false_iff] at ht
        exact k3 t ht.1,k4⟩
      | ret=>exact⟨.ret,T1,M1,ρ1,rfl,k1,k2,fun t ht=>by
        simp only[bV,Nat.testBit_or,Bool.or_eq_false_iff] at ht
        exact k3 t ht.1,k4⟩
     ·unfold tJ at h
      refine wp_mono (ih c1 _ _ _ _ _ h M0 ρ0 w0 ρ a w hM hA) fun e a' w' hp=>?_
      obtain⟨x,T1,M1,ρ1,rfl,k1,k2,k3,k4⟩:=hp
      have hge:∀ t,nt≤t→aa ρ1 ((T.get t).getD .top) undef:=fun t ht=>by
       have h1:=k2.ge t ht
       by_cases hb:Nat.testBit (bV f c1) t=false
       ·rw[k3 t hb] at h1; exact h1
       ·have h0:=hA.ge t ht
        have hu:∀ (ρ ρ' : Ren) (x:AV),aa ρ x undef→aa ρ' x undef:=by
         intro ρ ρ' x hx
         unfold undef at hx ⊢
         cases hx with
         | top=>exact .top _
         | sc v p=>exact .sc _ p
         | tup xs vs a=>cases a; exact .tup _ _ .nil
        exact hu _ _ _ h0
      cases x with
      | normal =>
        refine wp_mono (ih c2 _ _ _ _ _ k4 M0 ρ0 w0 ρ1 a' w' k1 (oL k2 hge k3)) fun e a2 w2 hp=>?_
        obtain⟨x,T2,M2,ρ2,he,q1,q2,q3,q4⟩:=hp
        refine⟨x,T2,M2,ρ2,he,q1,q2,fun t ht=>?_,q4⟩
        simp only[bV,Nat.testBit_or,Bool.or_eq_false_iff] at ht
        rw[q3 t ht.2]
        refine tF (fun t' ht'=>?_) t ht.1
        have:=(kw.1 ht').2
        rw[Nat.testBit_and,Bool.and_eq_true] at this
        exact this.1
      | exit i=>exact⟨.exit i,T1,M1,ρ1,rfl,k1,k2,fun t ht=>by
        simp only[bV,Nat.testBit_or,Bool.or_eq_false_iff] at ht
        exact k3 t ht.1,k4⟩
      | ret=>exact⟨.ret,T1,M1,ρ1,rfl,k1,k2,fun t ht=>by
        simp only[bV,Nat.testBit_or,Bool.or_eq_false_iff] at ht
        exact k3 t ht.1,k4⟩
   | cond cnd c1 c2 =>
     simp only[wpC] at h
     obtain⟨b,hb,h1,h2⟩:=Cn h (uV hA cnd)
     cases b with
     | true =>
       refine wp_cond_true hb (wp_mono (ih c1 _ _ _ _ _ (h1 rfl) M0 ρ0 w0 ρ a w hM hA) fun e a' w' hp=>?_)
       obtain⟨x,T1,M1,ρ1,he,k1,k2,k3,k4⟩:=hp
       exact⟨x,T1,M1,ρ1,he,k1,k2,fun t ht=>by
         simp only[bV,Nat.testBit_or,Bool.or_eq_false_iff] at ht
         exact k3 t ht.1,k4⟩
     | false =>
       refine wp_cond_false hb (wp_mono (ih c2 _ _ _ _ _ (h2 rfl) M0 ρ0 w0 ρ a w hM hA) fun e a' w' hp=>?_)
       obtain⟨x,T1,M1,ρ1,he,k1,k2,k3,k4⟩:=hp
       exact⟨x,T1,M1,ρ1,he,k1,k2,fun t ht=>by
         simp only[bV,Nat.testBit_or,Bool.or_eq_false_iff] at ht
         exact k3 t ht.2,k4⟩
   | block id c1 =>
     simp only[wpC] at h
     refine wp_block (wp_mono (ih c1 _ _ _ _ _ h M0 ρ0 w0 ρ a w hM hA) fun e a' w' hp=>?_)
     obtain⟨x,T1,M1,ρ1,rfl,k1,k2,k3,k4⟩:=hp
     cases x with
     | normal=>exact⟨.normal,T1,M1,ρ1,rfl,k1,k2,k3,k4⟩
     | ret=>exact⟨.ret,T1,M1,ρ1,rfl,k1,k2,k3,k4⟩
     | exit i =>
       simp only at k4
       split at k4
       ·rename_i he
        have he:=aZ he
        subst he
        simp only[D5,Exit.inBlock,if_true]
        exact⟨.normal,T1,M1,ρ1,rfl,k1,k2,k3,k4⟩
       ·rename_i he
        have he:=rP he
        simp only[D5,Exit.inBlock,if_neg he]
        exact⟨.exit i,T1,M1,ρ1,rfl,k1,k2,k3,k4⟩
   | loop c1 =>
     simp only[wpC] at h
     obtain⟨I,n,hI,hbody⟩:=h
     have hvs:∀ t∈bitsOf (bV f c1 &&& cz ret f env c1 (cz ret f env c1 0)) nt,Nat.testBit (bV f c1) t=true:=fun t' ht'=>by
      have:=(kw.1 ht').2
      rw[Nat.testBit_and,Bool.and_eq_true] at this
      exact this.1
     generalize hv:bitsOf (bV f c1 &&& cz ret f env c1 (cz ret f env c1 0)) nt=vs at hI hbody hvs
     have hu:∀ (ρ ρ' : Ren) (x:AV),aa ρ x undef→aa ρ' x undef:=by
      intro ρ ρ' x hx
      unfold undef at hx ⊢
      cases hx with
      | top=>exact .top _
      | sc v p=>exact .sc _ p
      | tup xs vs a=>cases a; exact .tup _ _ .nil
     have hge:∀ (ρ1:Ren) t,nt≤t→aa ρ1 ((T.get t).getD .top) undef:=fun ρ1 t ht=>hu _ _ _ (hA.ge t ht)
     have key:∀ (m:Nat) (ys:List AV) (M1:RM) (ρ1:Ren) (a1:Act) (w1:World),I m ys M1→After P M0 ρ0 w0 M1 ρ1 w1→dV ρ1 nt (nU T (bitsOf (bV f c1) nt) vs ys) a1 →
       Code.rounds P c1 (Ci P nt M0 ρ0 w0 T (bV (f + 1) (.loop c1)) K) (m + 1) a1 w1:=by
      intro m
      induction m using Nat.strongRecOn with
      | _ m ihm =>
        intro ys M1 ρ1 a1 w1 hIm hM1 hA1
        rw[rounds_succ]
        refine wp_mono (ih c1 _ _ _ _ _ (hbody m ys M1 hIm) M0 ρ0 w0 ρ1 a1 w1 hM1 hA1) fun e a' w' hp=>?_
        obtain⟨x,T2,M2,ρ2,rfl,k1,k2,k3,k4⟩:=hp
        have k3' : ∀ t,Nat.testBit (bV f c1) t=false→T2.get t=T.get t:=fun t ht=>by rw[k3 t ht]; exact tF hvs t ht
        cases x with
        | normal =>
          obtain⟨m',hlt,hI'⟩:=k4
          exact qg (by omega) (ihm m' hlt _ M2 ρ2 a' w' hI' k1 (oL k2 (hge ρ2) k3'))
        | exit i=>exact⟨.exit i,T2,M2,ρ2,rfl,k1,k2,k3',k4⟩
        | ret=>exact⟨.ret,T2,M2,ρ2,rfl,k1,k2,k3',k4⟩
     exact wp_loop_rounds _ (key n _ M ρ a w hI hM (oL hA (hge ρ) fun _ _=>rfl))
   | exit id=>exact wp_exit ⟨.exit id,T,M,ρ,rfl,hM,hA,fun _ _=>rfl,h⟩
   | ret=>exact wp_ret ⟨.ret,T,M,ρ,rfl,hM,hA,fun _ _=>rfl,h⟩
   | rangeFunc=>simp[wpC] at h
   | scope c1 =>
     simp only[wpC] at h
     refine wp_scope_straight (wp_mono (ih c1 _ _ _ _ _ h M0 ρ0 w0 ρ a w hM hA) fun e a' w' hp=>?_)
     obtain⟨x,T1,M1,ρ1,rfl,k1,k2,k3,k4⟩:=hp
     cases x with
     | normal=>exact⟨.normal,T1,M1,ρ1,rfl,k1,k2,k3,k4⟩
     | exit i=>exact⟨.exit i,T1,M1,ρ1,rfl,k1,k2,k3,k4⟩
     | ret=>exact⟨.ret,T1,M1,ρ1,rfl,k1,k2,k3,k4⟩
   | label l=>exact wp_label ⟨.normal,T,M,ρ,rfl,hM,hA,fun _ _=>rfl,h⟩
   | goto=>simp[wpC] at h
   | refuse=>simp[wpC] at h
theorem AY {ρ:Ren} {T:Tree AV} {M:RM} {a:Act} {w:World} (hA:dV ρ nt T a) (hw:aX P ρ M w) {r:ResultVar} {K:AV→Prop} (h:Es P T M r K) :
  ∃ v v',(pE a.tmps r).run P w=.ok v' w∧aa ρ v v'∧K v:=by
 cases r with
 | tmp t=>exact⟨_,_,rfl,hA.val t,h⟩
 | cell x t =>
   simp only[Es] at h
   have hv:=hA.val x
   split at h <;> first | (cases h; done) | skip
   ·rename_i ha
    obtain⟨b,p,v,hx,hl,hk⟩:=h
    rw[hx] at hv
    obtain⟨i,hb,hc⟩:=aU hv
    obtain⟨u,hu,hcell⟩:=jT hw hb hl
    refine⟨v,u, ?_,hu,hk⟩
    simp only[pE,hc,asAddr,Sem.run_bind,Sem.run_pure,Result.andThen_ok,loadVar,dG ha,Bool.false_eq_true,if_false,load,Sem.run,hcell]
   ·rename_i ha
    split at h <;> first | (cases h; done) | skip
    rename_i n hs
    obtain⟨b,p,xs,hx,hl,hk⟩:=h
    rw[hx] at hv
    obtain⟨i,hb,hc⟩:=aU hv
    obtain⟨vs,hr,hlen,_,hrun⟩:=RM.fG (P:=P) hw hb hl
    exact⟨.agg xs,.agg ⟨vs⟩,by simp only[pE,hc,asAddr,Sem.run_bind,Sem.run_pure,Result.andThen_ok,loadVar,dG ha,if_true,aR hs,hrun],.agg _ _ hr,hk⟩
theorem nu {ρ:Ren} {T:Tree AV} {M:RM} {a:Act} {w:World} (hA:dV ρ nt T a) (hw:aX P ρ M w) : ∀ (rs:List ResultVar) (K:List AV→Prop),Dw P T M rs K →
  ∃ vs us,(rs.mapM (pE a.tmps)).run P w=.ok us w∧au ρ vs us∧K vs
 | [],K,h=>⟨[],[],by simp,.nil,h⟩
 | r :: rs,K,h=>by
   obtain⟨v,v',h1,h2,h3⟩:=AY hA hw h
   obtain⟨vs,us,h4,h5,h6⟩:=nu hA hw rs _ h3
   refine⟨v :: vs,v' :: us, ?_,.cons _ _ _ _ h2 h5,h6⟩
   simp only[List.mapM_cons,Sem.run_bind,h1,Result.andThen_ok,h4,Sem.run_pure]
theorem uu (hP:sG P) {f:FuncId} {fn:Func} {c:Code} {args:List AV} {M:RM} {Q:af} (hfn:P.funcs[f]?=some fn) (hbody:fn.body=some c) (h:Dj P fn c args M Q) : cu P f args M Q:=by
 refine⟨⟨fn,c,hfn,hbody⟩,fun ρ w us hargs hw=>?_⟩
 have hlen:=hargs.length
 have hA:dV ρ (args.length + (fn.ntmps - args.length)) (Tree.ofList args 0 .leaf) { tmps:=⟨us⟩++Array.replicate (fn.ntmps - (⟨us⟩ : Array Value).size) undef,defers:=[] } := by
  refine⟨by simp[hlen],fun t=>?_,rfl⟩
  rw[Tree.kI]
  by_cases ht:t<args.length
  ·rw[if_pos (by omega),Nat.sub_zero]
   obtain⟨u,hu,hv⟩:=hargs.get (n:=t) (x:=args[t]) (by simp[ht])
   rw[List.getElem?_eq_getElem ht]
   simp only[Option.getD_some]
   have:((⟨us⟩ : Array Value)++Array.replicate (fn.ntmps - (⟨us⟩ : Array Value).size) undef).getD t undef=u:=by
    rw[Array.getD_eq_getD_getElem?,Array.getElem?_append_left (by simp; omega)]
    simp[hu]
   rw[this]; exact hv
  ·rw[if_neg (by omega)]
   exact .top _
 refine calls_of_wp hfn hbody (wp_mono (Ct hP 1000 c [] 0 _ M _ h M ρ w ρ _ w (After.refl hw) hA) fun e a w' hp=>?_)
 obtain⟨x,T',M',ρ',rfl,k1,k2,k3,k4⟩:=hp
 have key:(∃ vs us,(fn.results.toList.mapM (pE a.tmps)).run P w'=.ok us w'∧au ρ' vs us∧FW Q M' vs) →
   a.defers=[]∧∃ v,(results fn a.tmps).run P w'=.ok v w'∧∃ v' v_1 Fy Fx,Ending.returned v=.returned v'∧After P M ρ w Fy Fx w'∧aa Fx v_1 v'∧Q v_1 Fy:=by
  rintro⟨vs,us,h1,h2,h3⟩
  have hres:(results fn a.tmps).run P w'=.ok (if h:(⟨us⟩ : Array Value).size=1 then(⟨us⟩ : Array Value)[0] else .tuple ⟨us⟩) w':=by
   have e:results fn a.tmps=(fn.results.mapM (pE a.tmps) >>= fun vs=>pure (if h:vs.size=1 then vs[0] else .tuple vs)):=rfl
   rw[e,Array.mapM_eq_mapM_toList]
   simp only[Sem.run_bind,Sem.run_map,h1,Result.andThen_ok,Sem.run_pure]
  refine⟨k2.defers,_,hres, ?_⟩
  cases h2 with
  | nil=>exact⟨_,_,M',ρ',rfl,k1,.tup _ _ .nil,h3⟩
  | cons x v xs vs2 hv htl =>
    cases htl with
    | nil=>exact⟨_,x,M',ρ',rfl,k1,hv,h3⟩
    | cons y u ys us2 hu IK=>exact⟨_,_,M',ρ',rfl,k1,.tup _ _ (.cons _ _ _ _ hv (.cons _ _ _ _ hu IK)),h3⟩
 cases x with
 | normal=>exact key (nu k2 k1.rel _ _ k4)
 | ret=>exact key (nu k2 k1.rel _ _ k4)
 | exit id=>exact k4.elim
abbrev aB:=List AV→RM→af→Prop
def ug (P:Program) (fn:Func) (args:List AV) (M:RM) (Q:af) : Prop :=
 match fn.body with
 | some c=>Dj P fn c args M Q
 | none=>False
theorem Co (hP:sG P) {f:FuncId} {fn:Func} {args:List AV} {M:RM} {Q:af} (hfn:P.funcs[f]?=some fn) (h:ug P fn args M Q) : cu P f args M Q:=by
 unfold ug at h
 split at h
 ·rename_i c hc; exact uu hP hfn hc h
 ·cases h
end
def RM.cell (M:RM) (b o:Nat) : Option AV:=(M.cells b).bind (·[o]?)
section
variable {M M' : RM} {K:AV→Prop} {KQ:af}
theorem sU {b o:Nat} {v:AV} : M.loads b o 1=some [v]↔M.cell b o=some v:=by
 unfold RM.loads RM.cell
 cases hc:M.cells b with
 | none=>simp
 | some l =>
   simp only[Option.bind_some]
   constructor
   ·intro h
    split at h
    ·rename_i hlt
     have h1:=Option.some.inj h
     have:((l.drop o).take 1)[0]?=some v:=by rw[h1]; rfl
     rw[List.getElem?_take,if_pos (by omega),List.getElem?_drop] at this
     simpa using this
    ·cases h
   ·intro h
    have hlt:=(List.getElem?_eq_some_iff.1 h).1
    rw[if_pos (by omega)]
    congr 1
    rw[List.drop_eq_getElem_cons hlt]
    simp only[List.take_succ_cons,List.take_zero]
    congr 1
    exact(List.getElem?_eq_some_iff.1 h).2
@[go_sem] theorem lV (b o:Nat) : aL M (.ptr b o) K=∃ v,M.cell b o=some v∧K v:=by
 apply propext; unfold aL
 constructor
 ·rintro⟨b',o',v,h,hl,hk⟩; cases h; exact⟨v,sU.1 hl,hk⟩
 ·rintro⟨v,hl,hk⟩; exact⟨b,o,v,rfl,sU.2 hl,hk⟩
@[go_sem] theorem uU (b o n:Nat) : jH M (.ptr b o) n K=∃ vs,M.loads b o n=some vs∧K (.agg vs):=by
 apply propext; unfold jH
 constructor
 ·rintro⟨b',o',v,h,hl,hk⟩; cases h; exact⟨v,hl,hk⟩
 ·rintro⟨v,hl,hk⟩; exact⟨b,o,v,rfl,hl,hk⟩
@[go_sem] theorem sI (b p:Nat) (x:AV) (n:Nat) (K:RM→Prop) : bU M (.ptr b p) x n K=(x.cells.length=n∧∃ M',M.stores b p x.cells=some M'∧K M'):=by
 apply propext; unfold bU
 constructor
 ·rintro⟨b',o',M',h,h1,h2,hk⟩; cases h; exact⟨h1,M',h2,hk⟩
 ·rintro⟨h1,M',h2,hk⟩; exact⟨b,p,M',rfl,h1,h2,hk⟩
def H7 (k:IntKind) (a b:Int) : Int:=k.wrap (BitVec.ofInt k.bits a &&& BitVec.ofInt k.bits b).toNat
def Jg (k:IntKind) (a b:Int) : Int:=k.wrap (BitVec.ofInt k.bits a ||| BitVec.ofInt k.bits b).toNat
def Hr (k:IntKind) (a b:Int) : Int:=k.wrap (BitVec.ofInt k.bits a ^^^ BitVec.ofInt k.bits b).toNat
def E5 (k:IntKind) (a b:Int) : Int:=k.wrap (BitVec.ofInt k.bits a &&& ~~~BitVec.ofInt k.bits b).toNat
def IP (k:IntKind) (a b:Int) : Int:=k.wrap (a * 2 ^ (min b.toNat k.bits))
def Hl (k:IntKind) (a b:Int) : Int:=a.fdiv (2 ^ (min b.toNat k.bits))
section
variable (k:IntKind) (a b:Int)
theorem bY {op:BinOp} {v:Value} (h:lF op k a b=some v) : aF op (N k a) (N k b) K=K (.sc v):=by
 apply propext; unfold aF
 constructor
 ·rintro⟨k',a',b',u,h1,h2,h3,hk⟩; cases h1; cases h2; rw[h] at h3; cases h3; exact hk
 ·intro hk; exact⟨k,a,b,v,rfl,rfl,h,hk⟩
@[go_sem] theorem xB:aF .add (N k a) (N k b) K=K (N k (k.wrap (a + b))):=bY k a b rfl
@[go_sem] theorem yB:aF .sub (N k a) (N k b) K=K (N k (k.wrap (a - b))):=bY k a b rfl
@[go_sem] theorem Ih:aF .mul (N k a) (N k b) K=K (N k (k.wrap (a * b))):=bY k a b rfl
@[go_sem] theorem IA:aF .and (N k a) (N k b) K=K (N k (H7 k a b)):=bY k a b rfl
@[go_sem] theorem I9:aF .or (N k a) (N k b) K=K (N k (Jg k a b)):=bY k a b rfl
@[go_sem] theorem H8:aF .xor (N k a) (N k b) K=K (N k (Hr k a b)):=bY k a b rfl
@[go_sem] theorem F8:aF .andNot (N k a) (N k b) K=K (N k (E5 k a b)):=bY k a b rfl
@[go_sem] theorem bO:aF .eql (N k a) (N k b) K=K (Bo (a == b)):=bY k a b rfl
@[go_sem] theorem Eg:aF .neq (N k a) (N k b) K=K (Bo (a != b)):=bY k a b rfl
@[go_sem] theorem qB:aF .lss (N k a) (N k b) K=K (Bo (decide (a<b))):=bY k a b rfl
@[go_sem] theorem Er:aF .leq (N k a) (N k b) K=K (Bo (decide (a≤b))):=bY k a b rfl
@[go_sem] theorem Eb:aF .gtr (N k a) (N k b) K=K (Bo (decide (a > b))):=bY k a b rfl
@[go_sem] theorem Ec:aF .geq (N k a) (N k b) K=K (Bo (decide (a ≥ b))):=bY k a b rfl
@[go_sem] theorem HY:aF .quo (N k a) (N k b) K=(b≠0∧K (N k (k.wrap (a.tdiv b)))):=by
 apply propext; unfold aF lF
 constructor
 ·rintro⟨k',a',b',u,h1,h2,h3,hk⟩; cases h1; cases h2
  simp only at h3
  split at h3
  ·cases h3
  ·cases h3; exact⟨‹_›,hk⟩
 ·rintro⟨h0,hk⟩; exact⟨k,a,b,_,rfl,rfl,by simp only[if_neg h0],hk⟩
@[go_sem] theorem DT:aF .rem (N k a) (N k b) K=(b≠0∧K (N k (a.tmod b))):=by
 apply propext; unfold aF lF
 constructor
 ·rintro⟨k',a',b',u,h1,h2,h3,hk⟩; cases h1; cases h2
  simp only at h3
  split at h3
  ·cases h3
  ·cases h3; exact⟨‹_›,hk⟩
 ·rintro⟨h0,hk⟩; exact⟨k,a,b,_,rfl,rfl,by simp only[if_neg h0],hk⟩
variable (l:IntKind)
@[go_sem] theorem Jc:Dm .shl (N k a) (N l b) K=(0≤b∧K (N k (IP k a b))):=by
 apply propext; unfold Dm tH
 constructor
 ·rintro⟨k',a',l',b',u,h1,h2,h3,hk⟩; cases h1; cases h2
  split at h3
  ·cases h3
  ·cases h3; exact⟨by omega,hk⟩
 ·rintro⟨h0,hk⟩; exact⟨k,a,l,b,_,rfl,rfl,by rw[if_neg (by omega)]; rfl,hk⟩
@[go_sem] theorem Jd:Dm .shr (N k a) (N l b) K=(0≤b∧K (N k (Hl k a b))):=by
 apply propext; unfold Dm tH
 constructor
 ·rintro⟨k',a',l',b',u,h1,h2,h3,hk⟩; cases h1; cases h2
  split at h3
  ·cases h3
  ·cases h3; exact⟨by omega,hk⟩
 ·rintro⟨h0,hk⟩; exact⟨k,a,l,b,_,rfl,rfl,by rw[if_neg (by omega)]; rfl,hk⟩
@[go_sem] theorem I6 {l:IntKind} {a:Int} {K:AV→Prop} : BI (N l a) K=K (St (Utf8.encode a).data.toList):=by
 apply propext; unfold BI
 constructor
 ·rintro⟨l',n,h,hk⟩; cases h; exact hk
 ·intro h; exact⟨_,_,rfl,h⟩
@[go_sem] theorem Jh:DN k (N l a) K=K (N k (k.wrap a)):=by
 apply propext; unfold DN
 constructor
 ·rintro⟨l',n,h,hk⟩; cases h; exact hk
 ·intro hk; exact⟨l,a,rfl,hk⟩
@[go_sem] theorem F4 (mx:Bool) : yO mx (N k a) (N k b) K=K (N k (if mx then(if b > a then b else a) else(if b<a then b else a))):=by
 apply propext; unfold yO
 constructor
 ·rintro⟨k',a',b',h1,h2,hk⟩; cases h1; cases h2; exact hk
 ·intro hk; exact⟨k,a,b,rfl,rfl,hk⟩
@[go_sem] theorem Ji:Dv (N k a) K=K (N k (k.wrap (0 - a))):=by
 apply propext; unfold Dv
 constructor
 ·rintro⟨k',a',h1,hk⟩; cases h1; exact hk
 ·intro hk; exact⟨k,a,rfl,hk⟩
end
@[go_sem] theorem uo (b:Bool) : uz (Bo b) K=K (Bo (!b)):=by
 apply propext; unfold uz
 constructor
 ·rintro⟨b',h,hk⟩; cases h; exact hk
 ·intro hk; exact⟨b,rfl,hk⟩
@[go_sem] theorem Gc (neg a b:Bool) : pJ neg (Bo a) (Bo b) K=K (Bo ((a == b) != neg)):=by
 apply propext; unfold pJ
 constructor
 ·rintro⟨a',b',h,h',hk⟩; cases h; cases h'; exact hk
 ·intro hk; exact⟨a,b,rfl,rfl,hk⟩
@[go_sem] theorem xX (t:Bool) (a b:AV) : bi (Bo t) a b K=K (if t then a else b):=by
 apply propext; unfold bi
 constructor
 ·rintro⟨t',h,hk⟩; cases h; exact hk
 ·intro hk; exact⟨t,rfl,hk⟩
@[go_sem] theorem yI (b:Bool) (p q:Prop) : bM (Bo b) p q=((b=true→p)∧(b=false→q)):=rfl
@[go_sem] theorem Hd {α:Type} (b want:Bool) (f g:α→Prop) (k:α) : jd (Bo b) want f g k=if b=want then f k else g k:=rfl
@[go_sem] theorem FE {α:Type} (want:Bool) (f g:α→Prop) (k:α) : jd .undef want f g k=g k:=rfl
@[go_sem] theorem ax (b o:Nat) : aY (.ptr b o) K=K (.ptr b o):=by
 apply propext; unfold aY
 constructor
 ·rintro⟨b',o',h,hk⟩; cases h; exact hk
 ·intro hk; exact⟨b,o,rfl,hk⟩
@[go_sem] theorem aj (b o n:Nat) : aN (.ptr b o) n K=K (.ptr b (o + n)):=by
 apply propext; unfold aN
 constructor
 ·rintro⟨b',o',h,hk⟩; cases h; exact hk
 ·intro hk; exact⟨b,o,rfl,hk⟩
@[go_sem] theorem wY (b p len:Nat) (cap:Cap) (k:IntKind) (n:Int) (size:Nat) : lc (.slc b p len cap) (N k n) size K=(0≤n∧n<len∧K (.ptr b (p + n.toNat * size))):=by
 apply propext; unfold lc
 constructor
 ·rintro⟨b',p',l',c',k',n',h,h',h0,h1,hk⟩; cases h; cases h'; exact⟨h0,h1,hk⟩
 ·rintro⟨h0,h1,hk⟩; exact⟨b,p,len,cap,k,n,rfl,rfl,h0,h1,hk⟩
@[go_sem] theorem IM (b p:Nat) (k:IntKind) (n:Int) (len size:Nat) : DV (.ptr b p) (N k n) len size K=(0≤n∧n<len∧K (.ptr b (p + n.toNat * size))):=by
 apply propext; unfold DV
 constructor
 ·rintro⟨b',p',k',n',h,h',h0,h1,hk⟩; cases h; cases h'; exact⟨h0,h1,hk⟩
 ·rintro⟨h0,h1,hk⟩; exact⟨b,p,k,n,rfl,rfl,h0,h1,hk⟩
@[go_sem] theorem GM (cs:List AV) (off:Nat) : Bg (.agg cs) off K=∃ v,cs[off]?=some v∧K v:=by
 apply propext; unfold Bg
 constructor
 ·rintro⟨cs',v,h,h1,hk⟩; cases h; exact⟨v,h1,hk⟩
 ·rintro⟨v,h1,hk⟩; exact⟨cs,v,rfl,h1,hk⟩
@[go_sem] theorem Hf (cs:List AV) (off n:Nat) : BP (.agg cs) off n K=(off + n≤cs.length∧K (.agg ((cs.drop off).take n))):=by
 apply propext; unfold BP
 constructor
 ·rintro⟨cs',h,h1,hk⟩; cases h; exact⟨h1,hk⟩
 ·rintro⟨h1,hk⟩; exact⟨cs,rfl,h1,hk⟩
@[go_sem] theorem GN (cs:List AV) (k:IntKind) (n:Int) (len:Nat) : AQ (.agg cs) (N k n) len K=(0≤n∧n<len∧∃ v,cs[n.toNat]?=some v∧K v):=by
 apply propext; unfold AQ
 constructor
 ·rintro⟨cs',k',n',v,h,h',h0,h1,h2,hk⟩; cases h; cases h'; exact⟨h0,h1,v,h2,hk⟩
 ·rintro⟨h0,h1,v,h2,hk⟩; exact⟨cs,k,n,v,rfl,rfl,h0,h1,h2,hk⟩
@[go_sem] theorem GK (cs:List AV) (k:IntKind) (n:Int) (len size:Nat) : BM (.agg cs) (N k n) len size K=(0≤n∧n<len∧n.toNat * size + size≤cs.length∧K (.agg ((cs.drop (n.toNat * size)).take size))):=by
 apply propext; unfold BM
 constructor
 ·rintro⟨cs',k',n',h,h',h0,h1,h2,hk⟩; cases h; cases h'; exact⟨h0,h1,h2,hk⟩
 ·rintro⟨h0,h1,h2,hk⟩; exact⟨cs,k,n,rfl,rfl,h0,h1,h2,hk⟩
@[go_sem] theorem Jb (s:List UInt8) (k:IntKind) (n:Int) : Eh (St s) (N k n) K=(0≤n∧∃ b,s[n.toNat]?=some b∧K (N .u8 b.toNat)):=by
 apply propext; unfold Eh
 constructor
 ·rintro⟨s',k',n',b,h,h',h0,h1,hk⟩; cases h; cases h'; exact⟨h0,b,h1,hk⟩
 ·rintro⟨h0,b,h1,hk⟩; exact⟨s,k,n,b,rfl,rfl,h0,h1,hk⟩
@[go_sem] theorem wJ (vs:List AV) (i:Nat) : gT (.tup vs) i K=∃ v,vs[i]?=some v∧K v:=by
 apply propext; unfold gT
 constructor
 ·rintro⟨cs',v,h,h1,hk⟩; cases h; exact⟨v,h1,hk⟩
 ·rintro⟨v,h1,hk⟩; exact⟨vs,v,rfl,h1,hk⟩
@[go_sem] theorem uR (v:AV) : rC (some v) K=K v:=by
 apply propext; unfold rC
 constructor
 ·rintro⟨v',h,hk⟩; cases h; exact hk
 ·intro hk; exact⟨v,rfl,hk⟩
@[go_sem] theorem Du (b o n:Nat) (c:Cap) : fJ (.slc b o n c) K=K (N .i64 n):=by
 apply propext; unfold fJ
 constructor
 ·rintro⟨n',h,hk⟩; cases h; exact hk
 ·intro hk; exact⟨n,rfl,hk⟩
@[go_sem] theorem DI (b:Nat) : fJ (.emp b) K=K (N .i64 0):=by
 apply propext; unfold fJ
 constructor
 ·rintro⟨n',h,hk⟩; cases h; exact hk
 ·intro hk; exact⟨0,rfl,hk⟩
@[go_sem] theorem Eu:fJ (.sc (.slice none 0 0)) K=K (N .i64 0):=by
 apply propext; unfold fJ
 constructor
 ·rintro⟨n',h,hk⟩; cases h; exact hk
 ·intro hk; exact⟨0,rfl,hk⟩
@[go_sem] theorem uW (s:List UInt8) : oH (St s) K=K (N .i64 s.length):=by
 apply propext; unfold oH
 constructor
 ·rintro⟨s',h,hk⟩; cases h; exact hk
 ·intro hk; exact⟨s,rfl,hk⟩
@[go_sem] theorem I8 (b o n c:Nat) : yM (.slc b o n (.ex c)) K=K (N .i64 c):=by
 apply propext; unfold yM
 constructor
 ·rintro⟨n',h,hk⟩; cases h; exact hk
 ·intro hk; exact⟨c,rfl,hk⟩
@[go_sem] theorem Ij:yM (.sc (.slice none 0 0)) K=K (N .i64 0):=by
 apply propext; unfold yM
 constructor
 ·rintro⟨n',h,hk⟩; cases h; exact hk
 ·intro hk; exact⟨0,rfl,hk⟩
@[go_sem] theorem Ig (s:List UInt8) : isStr (St s) K=K (St s):=by
 apply propext; unfold isStr
 constructor
 ·rintro⟨s',h,hk⟩; cases h; exact hk
 ·intro hk; exact⟨s,rfl,hk⟩
@[go_sem] theorem zL {x:AV} {s:List UInt8} (h:nO M x=some s) : oD M x K=K (St s):=by
 apply propext; unfold oD
 constructor
 ·rintro⟨s',h',hk⟩; rw[h] at h'; cases h'; exact hk
 ·intro hk; exact⟨s,h,hk⟩
theorem iJ {op:BinOp} {a b:List UInt8} {v:AV} (h:nC op a b=some v) : iC op (St a) (St b) K=K v:=by
 apply propext; unfold iC
 constructor
 ·rintro⟨a',b',u,h1,h2,h3,hk⟩; cases h1; cases h2; rw[h] at h3; cases h3; exact hk
 ·intro hk; exact⟨a,b,v,rfl,rfl,h,hk⟩
@[go_sem] theorem wK (a b:List UInt8) : iC .eql (St a) (St b) K=K (Bo (a == b)):=by rw[← dF]; exact iJ rfl
@[go_sem] theorem Hg (a b:List UInt8) : iC .neq (St a) (St b) K=K (Bo (a != b)):=by rw[bne,← dF]; exact iJ rfl
@[go_sem] theorem IV (a b:List UInt8) : iC .lss (St a) (St b) K=K (Bo (Op.bytesLess a b)):=iJ rfl
@[go_sem] theorem Iw (a b:List UInt8) : iC .leq (St a) (St b) K=K (Bo (Op.bytesLess a b || a == b)):=by rw[← dF]; exact iJ rfl
@[go_sem] theorem IZ (a b:List UInt8) : iC .gtr (St a) (St b) K=K (Bo (!(Op.bytesLess a b || a == b))):=by rw[← dF]; exact iJ rfl
@[go_sem] theorem HZ (a b:List UInt8) : iC .geq (St a) (St b) K=K (Bo (!Op.bytesLess a b)):=iJ rfl
@[go_sem] theorem Hu (a b:List UInt8) : iC .add (St a) (St b) K=(a.length + b.length≤9223372036854775807∧K (St (a++b))):=by
 apply propext; unfold iC
 constructor
 ·rintro⟨a',b',u,h1,h2,h3,hk⟩; cases h1; cases h2
  simp only[nC] at h3
  split at h3
  ·rename_i hb; cases h3; exact⟨aA hb,hk⟩
  ·cases h3
 ·rintro⟨h0,hk⟩; exact⟨a,b,_,rfl,rfl,by simp only[nC,ay.2 h0],hk⟩
theorem eP {neg:Bool} {tag:Nat} {x y:AV} {r:Bool} (ht:wB x=tag) (h:pM x y=some r) : bL neg tag x y K=K (Bo (r != neg)):=by
 apply propext; unfold bL
 constructor
 ·rintro⟨_,r',h',hk⟩; rw[h] at h'; cases h'; exact hk
 ·intro hk; exact⟨ht,r,h,hk⟩
@[go_sem] theorem tV (neg:Bool) : bL neg 2 (.sc (.slice none 0 0)) (.sc (.slice none 0 0)) K=K (Bo (!neg)):=(eP (tag:=2) (r:=true) rfl rfl).trans (by cases neg <;> rfl)
@[go_sem] theorem uk (neg:Bool) (b:Nat) : bL neg 2 (.emp b) (.sc (.slice none 0 0)) K=K (Bo neg):=(eP (tag:=2) (r:=false) rfl rfl).trans (by cases neg <;> rfl)
@[go_sem] theorem tX (neg:Bool) (b o n:Nat) (c:Cap) : bL neg 2 (.slc b o n c) (.sc (.slice none 0 0)) K=K (Bo neg):=(eP (tag:=2) (r:=false) rfl rfl).trans (by cases neg <;> rfl)
@[go_sem] theorem bZ (neg:Bool) (b o:Nat) : bL neg 1 (.ptr b o) (.sc (.pointer none)) K=K (Bo neg):=(eP (tag:=1) (r:=false) rfl rfl).trans (by cases neg <;> rfl)
@[go_sem] theorem cZ (neg:Bool) : bL neg 1 (.sc (.pointer none)) (.sc (.pointer none)) K=K (Bo (!neg)):=(eP (tag:=1) (r:=true) rfl rfl).trans (by cases neg <;> rfl)
@[go_sem] theorem tQ (neg:Bool) (b:Nat) : bL neg 3 (.map b) (.sc (.map none)) K=K (Bo neg):=(eP (tag:=3) (r:=false) rfl rfl).trans (by cases neg <;> rfl)
@[go_sem] theorem Fb (neg:Bool) (f:Fn) (xs ys:List AV) : bL neg 4 (.fn f xs ys) (.sc .nilFunc) K=K (Bo neg):=(eP (tag:=4) (r:=false) rfl rfl).trans (by cases neg <;> rfl)
@[go_sem] theorem GI (neg:Bool) (ks:List Nat) (cs ds:List AV) : oZ neg ks (.agg cs) (.agg ds) K=(cs.length=ks.length∧ds.length=ks.length∧∃ r,bg ks cs ds=some r∧K (Bo (r != neg))):=by
 apply propext; unfold oZ
 constructor
 ·rintro⟨a',b',r,h1,h2,h3,h4,h5,hk⟩; cases h1; cases h2; exact⟨h3,h4,r,h5,hk⟩
 ·rintro⟨h3,h4,r,h5,hk⟩; exact⟨cs,ds,r,rfl,rfl,h3,h4,h5,hk⟩
@[go_sem] theorem Io (C:FuncId→aB) (g:FuncId) (first cap args:List AV) : Bi C (.fn (.func g) first cap) args M KQ=C g (first++args++cap) M KQ:=by
 apply propext; unfold Bi
 constructor
 ·rintro⟨g',f',c',h,hk⟩; cases h; exact hk
 ·intro hk; exact⟨g,first,cap,rfl,hk⟩
@[go_sem] theorem iI (cs:List AV) (parts:List (Nat × Nat × AV)) : iM cs parts K=∃ cs',tq cs parts=some cs'∧K (.agg cs'):=rfl
@[go_sem] theorem dD (x:RB) (mk:Nat→AV) : fM x mk M KQ=KQ (mk M.next) (M.push x):=rfl
@[go_sem] theorem ET (x:RB) (mk:Nat→AV) (k:KR) : Ef x mk M k=k (mk M.next) (M.push x) (some M.next):=rfl
@[go_sem] theorem IL (f:(List AV→RM→Prop)→Prop) (g:List AV→RM→Prop) : tJ f g=f g:=rfl
@[go_sem] theorem GZ (x:AV) (xs:List AV) : dS (x :: xs) 0=x:=rfl
@[go_sem] theorem GU (x:AV) (xs:List AV) (n:Nat) : dS (x :: xs) (n + 1)=dS xs n:=rfl
@[go_sem] theorem Gy (b:Nat) (x:RB) (mk:Nat→AV) (v:AV) : EG (some b) M x mk v=(M.heap b=some x∧mk b=v):=rfl
end
section
variable {M M' : RM}
theorem RM.lN {b:Nat} {l:List AV} {opn:Bool} {el fz:Nat} (h:M.heap b=some (.row l opn el fz)) : M.cells b=some l:=by simp[RM.cells,h]
theorem RM.DD {b o:Nat} {l:List AV} {opn:Bool} {el fz:Nat} (h:M.heap b=some (.row l opn el fz)) : M.cell b o=l[o]?:=by simp[RM.cell,RM.lN h]
theorem RM.iE {b o k:Nat} {l:List AV} {opn:Bool} {el fz:Nat} (h:M.heap b=some (.row l opn el fz)) (hk:o + k≤l.length) : M.loads b o k=some ((l.drop o).take k):=by
 simp[RM.loads,RM.lN h,hk]
structure ae (bs:List Nat) (M M' : RM) : Prop where
 base:M'.base=M.base
 next:M.next≤M'.next
 heap:∀ c,c<M.next→c ∉ bs→M'.heap c=M.heap c
theorem ae.refl (bs:List Nat) (M:RM) : ae bs M M:=⟨rfl,Nat.le_refl _,fun _ _ _=>rfl⟩
theorem ae.trans {bs:List Nat} {M1 M2:RM} (h:ae bs M M1) (k:ae bs M1 M2) : ae bs M M2 :=
 ⟨k.base.trans h.base,Nat.le_trans h.next k.next,fun c hc hb=>(k.heap c (Nat.lt_of_lt_of_le hc h.next) hb).trans (h.heap c hc hb)⟩
theorem ae.push {bs:List Nat} (h:ae bs M M') (x:RB) : ae bs M (M'.push x) :=
 ⟨h.base,Nat.le_succ_of_le h.next,fun c hc hb=>by
  have:=h.next
  simp only[RM.push]; rw[if_neg (by omega)]; exact h.heap c hc hb⟩
theorem ae.put {bs:List Nat} (h:ae bs M M') {b:Nat} (x:RB) (hb:M.next≤b∨b∈bs) : ae bs M (M'.put b x) :=
 ⟨h.base,h.next,fun c hc hcb=>by
  simp only[RM.put]; rw[if_neg]
  ·exact h.heap c hc hcb
  ·rintro rfl; rcases hb with hb | hb
   ·omega
   ·exact hcb hb⟩
theorem ae.del {bs:List Nat} (h:ae bs M M') {b:Nat} (hb:M.next≤b∨b∈bs) : ae bs M (M'.del b) :=
 ⟨h.base,h.next,fun c hc hcb=>by
  simp only[RM.del]; rw[if_neg]
  ·exact h.heap c hc hcb
  ·rintro rfl; rcases hb with hb | hb
   ·omega
   ·exact hcb hb⟩
theorem ae.mono {bs cs:List Nat} (h:ae bs M M') (hs:∀ b∈bs,b∈cs) : ae cs M M':=⟨h.base,h.next,fun c hc hb=>h.heap c hc fun h=>hb (hs c h)⟩
theorem ae.qD {bs:List Nat} {M1 M2:RM} {cs:List Nat} (h:ae bs M M1) (k:ae cs M1 M2) (hn:∀ c∈cs,M.next≤c∨c∈bs) : ae bs M M2 :=
 ⟨k.base.trans h.base,Nat.le_trans h.next k.next,fun c hc hb=>by
  rw[k.heap c (Nat.lt_of_lt_of_le hc h.next) (fun hm=>by rcases hn c hm with h1 | h1; omega; exact hb h1),h.heap c hc hb]⟩
theorem ae.cells {bs:List Nat} (h:ae bs M M') {b:Nat} (hlt:b<M.next) (hb:b ∉ bs) : M'.cells b=M.cells b:=by
 simp only[RM.cells,h.heap b hlt hb,RM.lo,h.base]
theorem ae.cell {bs:List Nat} (h:ae bs M M') {b o:Nat} (hlt:b<M.next) (hb:b ∉ bs) : M'.cell b o=M.cell b o:=by
 simp only[RM.cell,h.cells hlt hb]
theorem ae.loads {bs:List Nat} (h:ae bs M M') {b o k:Nat} (hlt:b<M.next) (hb:b ∉ bs) : M'.loads b o k=M.loads b o k:=by
 simp only[RM.loads,h.cells hlt hb]
@[go_sem] theorem RM.G7 (x:RB) : (M.push x).next=M.next + 1:=rfl
@[go_sem] theorem RM.Ia (b:Nat) (x:RB) : (M.put b x).next=M.next:=rfl
@[go_sem] theorem RM.H9 (b:Nat) : (M.del b).next=M.next:=rfl
@[go_sem] theorem RM.bB (x:RB) : (M.push x).heap M.next=some x:=by simp[RM.push]
theorem RM.Em {x:RB} {c:Nat} (h:c≠M.next) : (M.push x).heap c=M.heap c:=by simp[RM.push,h]
@[go_sem] theorem RM.wW (b:Nat) (x:RB) : (M.put b x).heap b=some x:=by simp[RM.put]
end
abbrev bN:AV:=.sc (.slice none 0 0)
inductive bC (M:RM) (size:Nat) : AV→List AV→Nat→Prop
 | nil:bC M size bN [] 0
 | emp (b:Nat) : bC M size (.emp b) [] 0
 | slc (b o n:Nat) (cap:Cap) (cs:List AV) : b<M.next→M.loads b o (n * size)=some cs→bC M size (.slc b o n cap) cs n
section
variable {M M' : RM} {size:Nat} {v:AV} {cs:List AV} {n:Nat}
theorem vH {b o k:Nat} {cs:List AV} (h:M.loads b o k=some cs) : cs.length=k:=by
 unfold RM.loads at h
 split at h <;> first | (cases h; done) | skip
 split at h <;> first | (cases h; done) | skip
 rename_i hle
 have:=Option.some.inj h
 rw[← this,List.length_take,List.length_drop]; omega
theorem Db {b o k:Nat} {cs:List AV} (h:M.loads b o k=some cs) (i:Nat) (hi:i<k) : M.cell b (o + i)=cs[i]?:=by
 unfold RM.loads at h
 unfold RM.cell
 split at h <;> first | (cases h; done) | skip
 rename_i l hl
 split at h <;> first | (cases h; done) | skip
 cases h
 simp only[hl,Option.bind_some]
 rw[List.getElem?_take,if_pos hi,List.getElem?_drop]
theorem oW {b o k:Nat} {cs:List AV} (h:M.loads b o k=some cs) (i j:Nat) (hij:i + j≤k) : M.loads b (o + i) j=some ((cs.drop i).take j):=by
 unfold RM.loads at h ⊢
 cases hl:M.cells b with
 | none=>rw[hl] at h; cases h
 | some l =>
   rw[hl] at h
   simp only at h ⊢
   split at h
   ·rename_i hle
    have h:=Option.some.inj h
    subst h
    rw[if_pos (by omega),List.drop_take,List.drop_drop,List.take_take]
    congr 2
    omega
   ·cases h
theorem ko {b o:Nat} {l:List AV} (h:M.cells b=some l) (ho:o≤l.length) : M.loads b o 0=some []:=by
 simp[RM.loads,h,ho]
theorem bC.length (h:bC M size v cs n) : cs.length=n * size:=by
 cases h with
 | nil=>exact(Nat.zero_mul _).symm
 | emp=>exact(Nat.zero_mul _).symm
 | slc b o n cap cs hb0 hl=>exact vH hl
theorem bC.len (h:bC M size v cs n) {K:AV→Prop} : fJ v K=K (N .i64 n):=by
 cases h with
 | nil=>exact Eu
 | emp b=>exact DI b
 | slc b o n cap cs hb0 hl=>exact Du b o n cap
theorem bC.l7 (h:bC M size v cs n) (zs:List AV) : l7 M size zs false v=some (n,cs):=by
 cases h with
 | nil=>rfl
 | emp b=>rfl
 | slc b o n cap cs hb0 hl=>simp only[Go.Ab.l7,hl]
theorem bC.pos (h:bC M size v cs n) (hn:0<n) : ∃ b o cap,v=.slc b o n cap∧b<M.next∧M.loads b o (n * size)=some cs:=by
 cases h with
 | nil=>omega
 | emp b=>omega
 | slc b o n cap cs hb0 hl=>exact⟨b,o,cap,rfl,hb0,hl⟩
theorem bC.nO (h:bC M 1 v cs n) {l:List UInt8} (hb:bn byteOf cs=some l) : nO M v=some l:=by
 cases h with
 | nil=>simp[bn] at hb; subst hb; rfl
 | emp b=>simp[bn] at hb; subst hb; rfl
 | slc b o n cap cs hb0 hl =>
   rw[Nat.mul_one] at hl
   simp only[Go.Ab.nO,hl]; exact hb
def av:AV→List Nat
 | .slc b _ _ _=>[b]
 | _=>[]
theorem bC.keep {bs:List Nat} (h:bC M size v cs n) (hk:ae bs M M') (hb:∀ b∈av v,b ∉ bs) : bC M' size v cs n:=by
 cases h with
 | nil=>exact .nil
 | emp b=>exact .emp b
 | slc b o n cap cs hb0 hl =>
   exact .slc b o n cap cs (Nat.lt_of_lt_of_le hb0 hk.next) (by rw[hk.loads hb0 (hb b (by simp[av]))]; exact hl)
inductive Own (M:RM) (base el size:Nat) : AV→List AV→Nat→Prop
 | nil:Own M base el size bN [] 0
 | ex0 (b o:Nat) : base≤b→b<M.next→(∃ l,M.cells b=some l∧o≤l.length)→Own M base el size (.slc b o 0 (.ex 0)) [] 0
 | op (b n:Nat) (cs:List AV) : base≤b→b<M.next→M.heap b=some (.row cs true el 0)→cs.length=n * size→Own M base el size (.slc b 0 n (.op size)) cs n
theorem Own.xD {base el:Nat} (h:Own M base el size v cs n) : bC M size v cs n:=by
 cases h with
 | nil=>exact .nil
 | ex0 b o hb hlt hc =>
   obtain⟨l,hl,ho⟩:=hc
   exact .slc b o 0 _ [] hlt (by rw[Nat.zero_mul]; exact ko hl ho)
 | op b n cs hb hlt hh hl =>
   refine .slc b 0 n _ cs hlt ?_
   rw[RM.iE hh (by omega)]
   simp[← hl]
theorem Own.blk {base el:Nat} (h:Own M base el size v cs n) : ∀ b∈av v,base≤b∧b<M.next:=by
 cases h with
 | nil=>intro b hb; simp[av] at hb
 | ex0 b o hb hlt hc=>intro c hc; simp[av] at hc; subst hc; exact⟨hb,hlt⟩
 | op b n cs hb hlt hh hl=>intro c hc; simp[av] at hc; subst hc; exact⟨hb,hlt⟩
theorem Own.keep {base el:Nat} {bs:List Nat} (h:Own M base el size v cs n) (hk:ae bs M M') (hb:∀ b∈av v,b ∉ bs) : Own M' base el size v cs n:=by
 cases h with
 | nil=>exact .nil
 | ex0 b o h1 hlt hc=>exact .ex0 b o h1 (Nat.lt_of_lt_of_le hlt hk.next) (by rw[hk.cells hlt (hb b (by simp[av]))]; exact hc)
 | op b n cs h1 hlt hh hl=>exact .op b n cs h1 (Nat.lt_of_lt_of_le hlt hk.next) (by rw[hk.heap b hlt (hb b (by simp[av]))]; exact hh) hl
theorem Own.mono {base base' el:Nat} (h:Own M base el size v cs n) (hb:base'≤base) : Own M base' el size v cs n:=by
 cases h with
 | nil=>exact .nil
 | ex0 b o h1 hlt hc=>exact .ex0 b o (Nat.le_trans hb h1) hlt hc
 | op b n cs h1 hlt hh hl=>exact .op b n cs (Nat.le_trans hb h1) hlt hh hl
theorem Ah {base el bytes:Nat} {zs:List AV} {zeros:Bool} {x:AV} {m:Nat} {ds:List AV} {K:af} (h:Own M base el size v cs n) (hbase:base≤M.next) (hs:1≤size) (hx:l7 M size zs zeros x=some (m,ds)) (hd:ds.length=m * size)
  (h1:ds.all oneCell=true) (hb:(n + m) * bytes≤140737488355328) (hb2:n + m≤140737488355328)
  (hK:∀ v' M',Own M' base el size v' (cs++ds) (n + m)→ae (av v) M M'→M.next≤M'.next→(v'=v∨∀ b∈av v',M.next≤b)→K v' M') : appW el size bytes zs zeros v x M K:=by
 have hmb:m * bytes≤140737488355328:=Nat.le_trans (Nat.mul_le_mul_right _ (by omega)) hb
 refine⟨m,ds,hx,hmb,by omega, ?_⟩
 cases h with
 | nil =>
   by_cases hm:m=0
   ·subst hm
    have:ds=[]:=List.eq_nil_of_length_eq_zero (by simpa using hd)
    subst this
    exact⟨bN,M,by simp[mD],hK _ _ .nil (ae.refl _ _) (Nat.le_refl _) (.inl rfl)⟩
   ·refine⟨.slc M.next 0 m (.op size),M.push (.row ds true el 0),by simp only[mD,if_neg hm,h1,if_true],hK _ _ ?_ ((ae.refl _ _).push _) (by simp[RM.push]) (.inr fun b hb=>by simp[av] at hb; omega)⟩
    simp only[List.nil_append,Nat.zero_add]
    exact .op _ _ _ hbase (by simp[RM.push]) (RM.bB _) hd
 | ex0 b o hb0 hlt hc =>
   obtain⟨l,hl,ho⟩:=hc
   by_cases hm:m=0
   ·subst hm
    have:ds=[]:=List.eq_nil_of_length_eq_zero (by simpa using hd)
    subst this
    exact⟨_,M,by simp[mD],hK _ _ (.ex0 b o hb0 hlt ⟨l,hl,ho⟩) (ae.refl _ _) (Nat.le_refl _) (.inl rfl)⟩
   ·refine⟨.slc M.next 0 m (.op size),M.push (.row ds true el 0), ?_,hK _ _ ?_ ((ae.refl _ _).push _) (by simp[RM.push]) (.inr fun b hb=>by simp[av] at hb; omega)⟩
    ·have hl0:M.loads b o (0 * size)=some []:=by rw[Nat.zero_mul]; exact ko hl ho
     simp only[mD,if_neg hm]
     rw[if_neg (by omega),hl0]
     simp only[Nat.zero_add,List.nil_append]
     rw[if_pos ⟨hmb,by omega,h1⟩]
    ·simp only[List.nil_append,Nat.zero_add]
     exact .op _ _ _ hbase (by simp[RM.push]) (RM.bB _) hd
 | op b n cs hb0 hlt hh hl =>
   by_cases hm:m=0
   ·subst hm
    have:ds=[]:=List.eq_nil_of_length_eq_zero (by simpa using hd)
    subst this
    exact⟨_,M,by simp[mD],hK _ _ (by simpa using .op b n cs hb0 hlt hh hl) (ae.refl _ _) (Nat.le_refl _) (.inl rfl)⟩
   ·have hpos:1≤m * size:=Nat.mul_pos (by omega) hs
    have hsum:(n + m) * size=n * size + m * size:=Nat.add_mul _ _ _
    refine⟨.slc M.next 0 (n + m) (.op size),(M.del b).push (.row (cs++ds) true el 0), ?_,hK _ _ ?_ (((ae.refl _ _).del (.inr (by simp[av]))).push _) (by simp[RM.push,RM.del]) (.inr fun b hb=>by simp[av] at hb; omega)⟩
    ·simp only[mD,if_neg hm,hh,and_self,if_true]
     rw[if_neg (by omega),if_pos ⟨trivial,hb,hb2,trivial,hl,Nat.zero_le _,h1⟩]
    ·exact .op _ _ _ (show base≤M.next from hbase) (by simp[RM.push,RM.del]) (by simp[RM.push,RM.del]) (by rw[List.length_append,hl,hd,hsum])
theorem bC.pM (h:bC M size v cs n) (neg:Bool) : (v=bN∧∀ K:AV→Prop,bL neg 2 v bN K=K (Bo (!neg)))∨(v≠bN∧∀ K:AV→Prop,bL neg 2 v bN K=K (Bo neg)):=by
 cases h with
 | nil=>exact .inl ⟨rfl,fun _=>tV neg⟩
 | emp b=>exact .inr ⟨by(intro h; cases h),fun _=>uk neg b⟩
 | slc b o n cap cs hb0 hl=>exact .inr ⟨by(intro h; cases h),fun _=>tX neg b o n cap⟩
theorem Own.lit {base el T:Nat} (M:RM) (h:base≤M.next) : Own (M.push (.row [] false T 0)) base el size (.slc M.next 0 0 (.ex 0)) [] 0 :=
 .ex0 _ _ h (by simp[RM.push]) ⟨[],by simp[RM.cells,RM.push],Nat.le_refl _⟩
end
end Go.Ab
set_option maxRecDepth 4000
namespace Go.Ab
open Go
theorem jG {n:Int} (h0 : -9223372036854775808≤n) (h:n<9223372036854775808) : IntKind.wrap .i64 n=n:=by
 rw[IntKind.wrap_i64]; omega
end Go.Ab
namespace Go.Ab
open Go Go.RowKit
section
variable {P:Program}
end
def RM.old (base:Base) (w:World) : RM where
 next:=base.n
 heap:=fun b=>if b<base.n then(match w.heap[b]? with | some (.cells c _ _)=>some (.ro c) | _=>none) else none
 base:=base
def xZ (n:Nat) : Ren:=fun b=>if b<n then some ⟨b,0,0,0⟩ else none
theorem DU {P:Program} {base:Base} {w:World} (hn:base.n=w.heap.size) (hi:base.inv w) : aX P (xZ base.n) (RM.old base w) w:=by
 refine⟨{ next:=base.n,heap:=.leaf },rfl,⟨fun b i h=>?_,fun b i x _ h=>by simp[Tree.get] at h,fun b _ i _ x _ _ _ h=>by simp[Tree.get] at h,fun b x h=>by simp[Tree.get] at h,fun b i x _ h=>by simp[Tree.get] at h,hi⟩,by simp[RM.old,RM.lo,hn],fun b x h=>.inr ?_,fun c hc=>by have hc' : c<base.n:=hc; simp only[xZ]; rw[if_pos hc']⟩
 ·simp only[xZ] at h
  split at h <;> first | (cases h; done) | skip
  cases h
  exact⟨by assumption,by rw[← hn]; assumption⟩
 ·simp only[RM.old] at h
  split at h <;> first | (cases h; done) | skip
  rename_i hlt
  split at h <;> first | (cases h; done) | skip
  rename_i c el fr hh
  cases h
  exact⟨c,rfl,hlt,el,fr,hh⟩
def Ce (lo:Nat) : Value→AV
 | .agg cs=>.agg (cs.toList.map (qE lo))
 | v=>qE lo v
theorem yP {ρ:Ren} {lo:Nat} (h:∀ c,c<lo→ρ c=some ⟨c,0,0,0⟩) : ∀ (vs:List Value),au ρ (vs.map (qE lo)) vs
 | []=>.nil
 | v :: vs=>.cons _ _ _ _ (qJ h v) (yP h vs)
theorem Ei {ρ:Ren} {lo:Nat} (h:∀ c,c<lo→ρ c=some ⟨c,0,0,0⟩) (v:Value) : aa ρ (Ce lo v) v:=by
 unfold Ce
 split
 ·exact .agg _ _ (yP h _)
 ·exact qJ h v
theorem u7 {ρ:Ren} {lo:Nat} (h:∀ c,c<lo→ρ c=some ⟨c,0,0,0⟩) : ∀ (vs:List Value),au ρ (vs.map (Ce lo)) vs
 | []=>.nil
 | v :: vs=>.cons _ _ _ _ (Ei h v) (u7 h vs)
theorem cu.close {P:Program} {f:FuncId} {base:Base} {w:World} {us:Array Value} (hn:base.n=w.heap.size) (hi:base.inv w)
  (h:cu P f (us.toList.map (Ce base.n)) (RM.old base w) fun v _=>v=Bo true) :
  Calls P f us w fun e w'=>e=.returned (.bool true)∧Below w.heap.size w w':=by
 have hr:=DU (P:=P) hn hi
 refine((h.2 (xZ base.n) w us.toList (u7 (fun c hc=>by simp only[xZ]; rw[if_pos hc]) _) hr)).mono fun e w' hR=>?_
 obtain⟨v',v,M',ρ',rfl,k1,k2,rfl⟩:=hR
 obtain⟨rfl,_⟩:=ak k2
 refine⟨rfl,k1.step.os,k1.step.tape,k1.step.output,k1.step.size,fun k hk=>k1.step.low k ?_⟩
 show k<base.n
 rw[hn]; exact hk
def FL:Option TypeDesc→Bool
 | some .bool | some (.int _) | some .string | some (.slice _) | some (.struct _) | some (.array _ _)=>false
 | _=>true
inductive Fits (P:Program) (M:RM) : TypeId→List AV→Prop
 | bool (t:TypeId) (b:Bool) : P.underlying t=some .bool→Fits P M t [Bo b]
 | int (t:TypeId) (k:IntKind) (n:Int) : P.underlying t=some (.int k)→k.min≤n→n≤k.max→Fits P M t [N k n]
 | str (t:TypeId) (s:List UInt8) : P.underlying t=some .string→s.length≤reachBytes→Fits P M t [St s]
 | nils (t e:TypeId) : P.underlying t=some (.slice e)→Fits P M t [bN]
 | emp (t e:TypeId) (b:Nat) : P.underlying t=some (.slice e)→Fits P M t [.emp b]
 | slc (t e:TypeId) (b o n c:Nat) (cs:List AV) : P.underlying t=some (.slice e)→b<M.next→n≤c→c * P.bytesOf e≤reachBytes→M.loads b o (n * P.cellsOf e)=some cs →
   (∀ i,i<n→Fits P M e ((cs.drop (i * P.cellsOf e)).take (P.cellsOf e)))→Fits P M t [.slc b o n (.ex c)]
 | struct (t:TypeId) (fs:Array Field) (cs:List AV) : P.underlying t=some (.struct fs)→cs.length=P.cellsOf t →
   (∀ (i:Nat) (f:Field),fs[i]?=some f→Fits P M f.type ((cs.drop f.offset).take (P.cellsOf f.type)))→Fits P M t cs
 | array (t e:TypeId) (n:Nat) (cs:List AV) : P.underlying t=some (.array n e)→cs.length=P.cellsOf t →
   (∀ i,i<n→Fits P M e ((cs.drop (i * P.cellsOf e)).take (P.cellsOf e)))→Fits P M t cs
 | other (t:TypeId) (cs:List AV) : FL (P.underlying t)=true→Fits P M t cs
 | zero (t e:TypeId) (cs:List AV) : P.underlying t=some (.slice e)→P.cellsOf e=0→Fits P M t cs
section
variable {H:Type} {enc:TypeId × Value→H} {P:Program} {base:Base} {w:World}
end
section
variable {P:Program} {M:RM} {t:TypeId} {cs:List AV}
end
def En (P:Program) (t:TypeId) : Bool :=
 match P.underlying t with
 | some (.struct _) | some (.array _ _)=>true
 | _=>false
def pF (P:Program) (M:RM) (t:TypeId) (v:AV) : Prop :=
 match En P t with
 | true=>∃ cs,v=.agg cs∧Fits P M t cs
 | false=>Fits P M t [v]
theorem pF.agg {P:Program} {M:RM} {t:TypeId} {v:AV} (h:pF P M t v) (ha:En P t=true) : ∃ cs,v=.agg cs∧Fits P M t cs:=by
 unfold pF at h; rw[ha] at h; exact h
theorem pF.one {P:Program} {M:RM} {t:TypeId} {v:AV} (h:pF P M t v) (ha:En P t=false) : Fits P M t [v]:=by
 unfold pF at h; rw[ha] at h; exact h
section
variable {H:Type} {enc:TypeId × Value→H} {P:Program} {base:Base} {w:World}
end
def RB.cells (lo:Nat) : RB→Option (List AV)
 | .row l _ _ _=>some l
 | .ro c=>some (c.toList.map (qE lo))
 | _=>none
@[go_sem] theorem RB.lN (lo:Nat) (l:List AV) (p:Bool) (e f:Nat) : RB.cells lo (.row l p e f)=some l:=rfl
theorem RM.xV (M:RM) (b:Nat) : M.cells b=(M.heap b).bind (RB.cells M.lo):=by
 unfold RM.cells RB.cells
 cases M.heap b with
 | none=>rfl
 | some x=>cases x <;> rfl
def iW (l:Option (List AV)) (o k:Nat) : Option (List AV) :=
 match l with
 | some l=>if o + k≤l.length then some ((l.drop o).take k) else none
 | none=>none
@[go_sem] theorem Gb (l:List AV) (o k:Nat) : iW (some l) o k=if o + k≤l.length then some ((l.drop o).take k) else none:=rfl
theorem RM.qA (M:RM) (b o k:Nat) : M.loads b o k=iW (M.cells b) o k:=rfl
section
variable {M M' : RM}
@[go_sem] theorem RM.CG (x:RB) (c:Nat) : (M.push x).heap c=if c=M.next then some x else M.heap c:=rfl
@[go_sem] theorem RM.heap_put (b:Nat) (x:RB) (c:Nat) : (M.put b x).heap c=if c=b then some x else M.heap c:=rfl
@[go_sem] theorem RM.IW (b:Nat) (c:Nat) : (M.del b).heap c=if c=b then none else M.heap c:=rfl
@[go_sem] theorem RM.G9 (x:RB) : (M.push x).base=M.base:=rfl
@[go_sem] theorem RM.IX (b:Nat) (x:RB) : (M.put b x).base=M.base:=rfl
@[go_sem] theorem RM.Hm (b:Nat) : (M.del b).base=M.base:=rfl
theorem RM.sM (x:RB) (c:Nat) : (M.push x).cells c=if c=M.next then x.cells M.lo else M.cells c:=by
 simp only[RM.xV,RM.CG]
 split <;> rfl
theorem RM.uY (b:Nat) (x:RB) (c:Nat) : (M.put b x).cells c=if c=b then x.cells M.lo else M.cells c:=by
 simp only[RM.xV,RM.heap_put]
 split <;> rfl
@[go_sem] theorem RM.GQ (x:RB) (c o:Nat) : (M.push x).cell c o=if c=M.next then(x.cells M.lo).bind (·[o]?) else M.cell c o:=by
 simp only[RM.cell,RM.sM]
 split <;> rfl
@[go_sem] theorem RM.Ic (b:Nat) (x:RB) (c o:Nat) : (M.put b x).cell c o=if c=b then(x.cells M.lo).bind (·[o]?) else M.cell c o:=by
 simp only[RM.cell,RM.uY]
 split <;> rfl
@[go_sem] theorem RM.Gm (x:RB) (c o k:Nat) : (M.push x).loads c o k=if c=M.next then iW (x.cells M.lo) o k else M.loads c o k:=by
 simp only[RM.qA,RM.sM]
 split <;> rfl
@[go_sem] theorem RM.GY (b:Nat) (x:RB) (c o k:Nat) : (M.put b x).loads c o k=if c=b then iW (x.cells M.lo) o k else M.loads c o k:=by
 simp only[RM.qA,RM.uY]
 split <;> rfl
def gY (l:List AV) (fz o:Nat) (vs:List AV) : Option (List AV) :=
 if o + vs.length≤l.length∧fz≤o∧vs.all oneCell=true then some (l.take o++vs++l.drop (o + vs.length)) else none
theorem kY {l vs:List AV} {fz o:Nat} (h1:o + vs.length≤l.length) (h2:fz≤o) (h3:vs.all oneCell=true) : gY l fz o vs=some (l.take o++vs++l.drop (o + vs.length)):=if_pos ⟨h1,h2,h3⟩
@[go_sem] theorem vO {l vs:List AV} (h:vs.length=l.length) (h3:vs.all oneCell=true) : gY l 0 0 vs=some vs:=by
 rw[kY (by omega) (Nat.le_refl _) h3]
 simp[h]
theorem RM.lQ {b o:Nat} {vs l:List AV} {p:Bool} {e f:Nat} (h:M.heap b=some (.row l p e f)) : M.stores b o vs=(gY l f o vs).map fun l'=>M.put b (.row l' p e f):=by
 simp only[RM.stores,h,gY]
 split <;> rfl
theorem RM.D8 {x y:RB} : (M.push x).put M.next y=M.push y:=by
 simp only[RM.put,RM.push]
 congr 1
 funext c
 split <;> rfl
theorem RM.wT {x y:RB} {b:Nat} (hb:b≠M.next) : (M.push x).put b y=(M.put b y).push x:=by
 simp only[RM.put,RM.push]
 congr 1
 funext c
 by_cases h1:c=b
 ·subst h1; simp[hb]
 ·simp[h1]
theorem RM.si {l vs:List AV} {p:Bool} {e f o:Nat} : (M.push (.row l p e f)).stores M.next o vs=(gY l f o vs).map fun l'=>M.push (.row l' p e f):=by
 rw[RM.lQ (RM.bB _)]
 congr 1
 funext l'
 exact RM.D8
theorem RM.tL {M:RM} {b o:Nat} {vs:List AV} : M.stores b o vs=match M.heap b with
  | some (.row l p e f)=>(gY l f o vs).map fun l'=>M.put b (.row l' p e f)
  | _=>none:=by
 cases h:M.heap b with
 | none=>simp[RM.stores,h]
 | some x =>
   cases x with
   | row l p e f=>rw[RM.lQ h]
   | _=>simp[RM.stores,h]
@[go_sem] theorem RM.sD {x:RB} {vs:List AV} {c o:Nat} (hc:c≠M.next) : (M.push x).stores c o vs=(M.stores c o vs).map (·.push x):=by
 rw[RM.tL,RM.tL,RM.Em hc]
 split
 ·simp only[Option.map_map]
  congr 1
  funext l'
  exact RM.wT hc
 ·rfl
@[go_sem] theorem RM.F9 {l vs:List AV} {p:Bool} {e f c o:Nat} : (M.push (.row l p e f)).stores c o vs =
  if c=M.next then(gY l f o vs).map fun l'=>M.push (.row l' p e f) else(M.stores c o vs).map (·.push (.row l p e f)):=by
 split
 ·rename_i h; subst h; exact RM.si
 ·rename_i h; exact RM.sD h
@[go_sem] theorem RM.Ez {b o:Nat} {l vs:List AV} {p:Bool} {e f:Nat} : (M.put b (.row l p e f)).stores b o vs=(gY l f o vs).map fun l'=>M.put b (.row l' p e f):=by
 rw[RM.lQ (RM.wW _ _)]
 congr 1
 funext l'
 simp only[RM.put]
 congr 1
 funext c
 split <;> rfl
@[go_sem] theorem Ja {α:Type} (a:α) (K:α→Prop) : (∃ x,some a=some x∧K x)=K a:=by simp
@[go_sem] theorem Ga {α β:Type} (f:α→β) (x:α) : (some x).map f=some (f x):=rfl
attribute [go_sem] Int.natCast_nonneg Int.toNat_natCast Nat.mul_one true_implies false_implies Bool.false_eq_true Bool.true_eq_false Bool.not_true Bool.not_false Bool.and_self Bool.and_true Bool.true_and Nat.le_refl List.append_nil List.nil_append if_true if_false Nat.lt_irrefl Nat.add_one_ne_zero true_and and_true Nat.zero_add Nat.add_zero List.drop_zero List.getElem?_cons_zero List.getElem?_cons_succ Option.bind_some List.take_succ_cons List.take_zero List.drop_succ_cons List.drop_nil List.take_nil
attribute [go_sem] nI List.all_cons List.all_nil List.length_cons List.length_nil
@[go_sem] theorem GR (cs:List AV) : (AV.agg cs).cells=cs:=rfl
@[go_sem] theorem Ht (v:Value) : (AV.sc v).cells=[.sc v]:=rfl
@[go_sem] theorem Ha (b o:Nat) : (AV.ptr b o).cells=[.ptr b o]:=rfl
@[go_sem] theorem GV (b o n:Nat) (c:Cap) : (AV.slc b o n c).cells=[.slc b o n c]:=rfl
@[go_sem] theorem G6 (b:Nat) : (AV.emp b).cells=[.emp b]:=rfl
@[go_sem] theorem GX (b:Nat) : (AV.map b).cells=[.map b]:=rfl
@[go_sem] theorem Ho (f:Fn) (xs ys:List AV) : (AV.fn f xs ys).cells=[.fn f xs ys]:=rfl
@[go_sem] theorem Jl (v:Value) : oneCell (.sc v)=true:=rfl
@[go_sem] theorem I1 (b o:Nat) : oneCell (.ptr b o)=true:=rfl
@[go_sem] theorem I7 (b o n:Nat) (c:Cap) : oneCell (.slc b o n c)=true:=rfl
@[go_sem] theorem I5 (b:Nat) : oneCell (.emp b)=true:=rfl
@[go_sem] theorem I4 (b:Nat) : oneCell (.map b)=true:=rfl
@[go_sem] theorem Jk (f:Fn) (xs ys:List AV) : oneCell (.fn f xs ys)=true:=rfl
end
theorem RM.nT {M:RM} {b:Nat} {l:List AV} {p:Bool} {e f:Nat} (h:M.heap b=some (.row l p e f)) (o k:Nat) : M.loads b o k=iW (some l) o k:=by rw[RM.qA,RM.lN h]
theorem RM.cell_of {M:RM} {b:Nat} {l:List AV} {p:Bool} {e f:Nat} (h:M.heap b=some (.row l p e f)) (o:Nat) : M.cell b o=l[o]?:=RM.DD h
theorem RM.oN {M:RM} {b:Nat} {l:List AV} {p:Bool} {e f:Nat} (h:M.heap b=some (.row l p e f)) (o:Nat) (vs:List AV) : M.stores b o vs=(gY l f o vs).map fun l'=>M.put b (.row l' p e f):=RM.lQ h
theorem ae.bF {bs:List Nat} {M M' : RM} (h:ae bs M M') {b:Nat} {x:RB} (hh:M.heap b=some x) (hlt:b<M.next) (hb:b ∉ bs) : M'.heap b=some x:=by rw[h.heap b hlt hb,hh]
inductive Je where
 | val (v:AV)
 | rows (n:Nat) (v:AV) (bs:List (Nat × dI)) (n' : Nat)
structure Fu where
 args:List AV
 fp:List (Nat × dI):=[]
 dead:List Nat:=[]
 nx:Nat:=0
 ans:Je
def Cu:Tree dI→List (Nat × dI)→Tree dI
 | t,[]=>t
 | t,(b,x) :: r=>Cu (t.set b x) r
def C9:Tree dI→List Nat→Tree dI
 | t,[]=>t
 | t,b :: r=>C9 (t.del b) r
def Ac (A:AW) : List (Nat × dI)→Bool
 | []=>true
 | (b,x) :: r=>match A.heap.get b with
   | some y=>Gs x y && Ac A r
   | none=>false
def Im (A:AW) (e:Fu) : Option (AV × AW) :=
 match Ac A e.fp with
 | false=>none
 | true=>match e.ans with
   | .val v=>some (v,A)
   | .rows n v bs n'=>match Nat.beq n A.next with
     | true=>some (v,{ next:=n',heap:=Cu (C9 A.heap e.dead) bs })
     | false=>none
abbrev Table:=List (Nat × List Fu)
section
variable {P:Program} {X:Ext}
def Gl (P:Program) (I:World→Prop) (f:Nat) (e:Fu) : Prop :=
 ∀ (base:Base),(∀ w,base.inv w→I w)→∀ A v A',Im A e=some (v,A')→∀ (ρ:Ren) (w:World) (us:List Value),au ρ e.args us→aT P base ρ A w→base≤w.heap.size →
   Calls P f ⟨us⟩ w fun r w'=>∃ ρ' v',r=.returned v'∧Step base A.next ρ w ρ' w'∧aT P base ρ' A' w'∧A.next≤A'.next∧aa ρ' v v'
def Ew (P:Program) (I:World→Prop) (T:Table) : Prop:=∀ g∈T,∀ e∈g.2,Gl P I g.1 e
theorem aT.none {P:Program} {base:Base} {n:Nat} {w:World} (hi:base.inv w) : aT P base (fun _=>none) { next:=n,heap:=.leaf } w :=
 ⟨fun _ _ h=>(by cases h),fun _ _ _ h=>(by cases h),fun _ _ _ _ _ _ h=>(by cases h),fun _ _ h=>(by simp[Tree.get] at h),fun _ _ _ h=>(by cases h),hi⟩
def only(ρ:Ren) (ks:List Nat) : Ren:=fun b=>if b∈ks then ρ b else none
theorem Ew.nil {I:World→Prop} : Ew P I []:=fun g hg=>by cases hg
open Go.WideShapes Go.ChangeShapes in
open Go.WideShapes Go.ChangeShapes in
end
structure Enc (α:Type) where
 size:Nat
 cells:α→List AV
 len:∀ a,(cells a).length=size
 one:∀ a,(cells a).all oneCell=true
section
variable {α:Type} (E:Enc α)
def Enc.row (xs:List α) : List AV:=xs.flatMap E.cells
theorem Enc.gH (x:α) (xs:List α) : E.row (x :: xs)=E.cells x++E.row xs:=rfl
theorem Enc.sV (xs ys:List α) : E.row (xs++ys)=E.row xs++E.row ys:=by simp[Enc.row]
theorem Enc.row_one (x:α) : E.row [x]=E.cells x:=by simp[Enc.row]
theorem Enc.gm:∀ (xs:List α),(E.row xs).length=xs.length * E.size
 | []=>by simp[Enc.row]
 | x :: xs=>by rw[Enc.gH,List.length_append,E.len,Enc.gm xs,List.length_cons,Nat.succ_mul,Nat.add_comm]
theorem Enc.mJ:∀ (xs:List α),(E.row xs).all oneCell=true
 | []=>by simp[Enc.row]
 | x :: xs=>by rw[Enc.gH,List.all_append,E.one,Enc.mJ xs]; rfl
theorem Enc.yG:∀ (xs:List α) (i:Nat),(E.row xs).drop (i * E.size)=E.row (xs.drop i)
 | [],i=>by simp[Enc.row]
 | x :: xs,0=>by simp
 | x :: xs,i + 1=>by
   rw[Enc.gH,Nat.succ_mul,Nat.add_comm,← List.drop_drop,List.drop_left' (E.len x),Enc.yG xs i]
   rfl
theorem Enc.nS:∀ (xs:List α) (i:Nat),(E.row xs).take (i * E.size)=E.row (xs.take i)
 | [],i=>by simp[Enc.row]
 | x :: xs,0=>by simp[Enc.row]
 | x :: xs,i + 1=>by
   rw[Enc.gH,Nat.succ_mul,Nat.add_comm,List.take_append,List.take_of_length_le (by rw[E.len]; omega),E.len,Nat.add_sub_cancel_left,Enc.nS xs i]
   rfl
theorem Enc.Fa {xs:List α} {i:Nat} (hi:i<xs.length) : ((E.row xs).drop (i * E.size)).take E.size=E.cells xs[i]:=by
 rw[Enc.yG,List.drop_eq_getElem_cons hi,Enc.gH]
 rw[List.take_append_of_le_length (by rw[E.len]; exact Nat.le_refl _),List.take_of_length_le (by rw[E.len]; exact Nat.le_refl _)]
abbrev Sl (M:RM) (v:AV) (xs:List α) : Prop:=bC M E.size v (E.row xs) xs.length
abbrev Ow (M:RM) (base el:Nat) (v:AV) (xs:List α) : Prop:=Own M base el E.size v (E.row xs) xs.length
variable {E} {M M' : RM} {v:AV} {xs:List α}
theorem Sl.elem (h:Sl E M v xs) {i:Nat} (hi:i<xs.length) : ∃ b o,b<M.next∧b∈av v∧(∀ (kd:IntKind) (K:AV→Prop),lc v (N kd (i:Int)) E.size K=K (.ptr b o))∧M.loads b o E.size=some (E.cells xs[i]):=by
 obtain⟨b,o,cap,rfl,hb,hl⟩:=h.pos (by omega)
 have hsum:i * E.size + E.size≤xs.length * E.size:=by rw[← Nat.succ_mul]; exact Nat.mul_le_mul_right _ hi
 refine⟨b,o + i * E.size,hb,by simp[av],fun kd K=>?_, ?_⟩
 ·rw[wY]
  simp only[Int.toNat_natCast]
  exact propext ⟨fun h=>h.2.2,fun h=>⟨by omega,by omega,h⟩⟩
 ·rw[oW hl (i * E.size) E.size hsum,E.Fa hi]
theorem Sl.at (h:Sl E M v xs) {i:Nat} (sz:Nat) (j:Int) (hi:i<xs.length) (hsz:E.size=sz:=by rfl) (hj:j=(i:Int):=by rfl) : ∃ b o,b<M.next∧b∈av v∧(∀ (kd:IntKind) (K:AV→Prop),lc v (N kd j) sz K=K (.ptr b o))∧M.loads b o sz=some (E.cells xs[i]):=by
 subst hsz hj; exact h.elem hi
theorem vM {b o k:Nat} {cs:List AV} (h:M.loads b o k=some cs) {j:Nat} {x:AV} (hj:cs[j]?=some x) : M.cell b (o + j)=some x:=by
 have hlt:j<k:=by rw[← vH h]; exact(List.getElem?_eq_some_iff.1 hj).1
 rw[Db h j hlt,hj]
theorem uF {b o k:Nat} {cs:List AV} (h:M.loads b o k=some cs) {x:AV} (hj:cs[0]?=some x) : M.cell b o=some x:=vM h hj
theorem ul {base T bytes:Nat} {zs:List AV} {u:AV} {ys:List α} {K:af} (ho:Ow E M base T v xs) (hb:base≤M.next) (hs:1≤E.size) (hu:Sl E M u ys)
  (hn:(xs.length + ys.length) * bytes≤140737488355328) (hn2:xs.length + ys.length≤140737488355328)
  (hK:∀ v' M',Ow E M' base T v' (xs++ys)→ae (av v) M M'→M.next≤M'.next→(v'=v∨∀ b∈av v',M.next≤b)→K v' M') :
  appW T E.size bytes zs false v u M K:=by
 refine Ah ho hb hs (bC.l7 hu _) (E.gm ys) (E.mJ ys) hn hn2 ?_
 intro v' M' h1 h2 h3 h4
 refine hK v' M' ?_ h2 h3 h4
 rw[← E.sV] at h1
 simpa [Ow] using h1
theorem Bv {b o k:Nat} {cs:List AV} (h:M.loads b o k=some cs) (m:Nat) (hm:m≤k) : M.loads b o m=some (cs.take m):=oW h 0 m (by omega)
theorem Sl.new {T c:Nat} {p:Bool} (ys:List α) : Sl E (M.push (.row (E.row ys) p T 0)) (.slc M.next 0 ys.length (.ex c)) ys :=
 .slc _ _ _ _ _ (by simp[RM.push]) (by rw[RM.iE (RM.bB _) (by rw[E.gm]; omega),List.drop_zero,← E.gm,List.take_length])
theorem EZ {base T bytes:Nat} {zs:List AV} {a:α} {K:af} (ho:Ow E M base T v xs) (hb:base≤M.next) (hs:1≤E.size)
  (hn:(xs.length + 1) * bytes≤140737488355328) (hn2:xs.length + 1≤140737488355328)
  (hK:∀ v' M',Ow E M' base T v' (xs++[a])→ae (av v) M M'→M.next≤M'.next→(v'=v∨∀ b∈av v',M.next≤b)→K v' M') :
  appW T E.size bytes zs false v (.slc M.next 0 1 (.ex 1)) (M.push (.row (E.cells a) false T 0)) K:=by
 have hk:ae [] M (M.push (.row (E.cells a) false T 0)):=(ae.refl _ _).push _
 refine ul (ys:=[a]) (Own.keep ho hk (by simp)) (Nat.le_trans hb hk.next) hs (by rw[← E.row_one]; exact Sl.new [a]) hn hn2 ?_
 intro v' M' h1 h2 h3 h4
 exact hK v' M' h1 ((hk.mono (by simp)).trans h2) (Nat.le_trans hk.next h3) (h4.imp id fun h b hb=>Nat.le_trans hk.next (h b hb))
@[go_sem] theorem Jo {T:Nat} {zs:List AV} {K:RB→(Nat→AV)→Prop} : iL T 0 zs [] K=K (.row [] false T 0) (fun b=>.slc b 0 0 (.ex 0)):=by
 apply propext; unfold iL
 constructor
 ·rintro⟨l,h,hk⟩; cases h; exact hk
 ·intro hk; exact⟨_,rfl,hk⟩
theorem GG {T size:Nat} {zs:List AV} {x:AV} {K:RB→(Nat→AV)→Prop} (h:x.cells.length=size) (h1:x.cells.all oneCell=true) (hz:zs.length=size) :
  iL T 1 zs [(0,size,x)] K=K (.row x.cells false T 0) (fun b=>.slc b 0 1 (.ex 1)):=by
 have:mY (jb zs 1) [(0,size,x)]=some x.cells:=by
  simp only[mY,jb,List.append_nil,h1,h,Nat.zero_add,hz,Nat.le_refl,and_self,if_true,List.take_zero,List.nil_append]
  rw[List.drop_of_length_le (by omega),List.append_nil]
 apply propext; unfold iL
 constructor
 ·rintro⟨l,h,hk⟩; rw[this] at h; cases h; exact hk
 ·intro hk; exact⟨_,this,hk⟩
theorem DC {i:Nat} (h:i<9223372036854775807) : IntKind.wrap .i64 ((i:Int) + 1)=((i + 1:Nat) : Int):=by
 rw[jG (by omega) (by omega)]; rfl
end
@[go_sem] theorem Bw:bg [] [] []=some true:=rfl
@[go_sem] theorem Gt (ks:List Nat) (k:IntKind) (a b:Int) (xs ys:List AV) : bg (1 :: ks) (N k a :: xs) (N k b :: ys)=if a=b then bg ks xs ys else some false:=by
 simp only[bg,iV,if_true]
 by_cases h:a=b
 ·simp[h]
 ·have:(a == b)=false:=by simp[h]
  simp[this,h]
@[go_sem] theorem BF (ks:List Nat) (a b:List UInt8) (xs ys:List AV) : bg (2 :: ks) (St a :: xs) (St b :: ys)=if a=b then bg ks xs ys else some false:=by
 simp only[bg,iV]
 by_cases h:a=b
 ·simp[h]
 ·have:(a == b)=false:=by simp[h]
  simp[this,h]
@[go_sem] theorem F7 (ks:List Nat) (a b:Bool) (xs ys:List AV) : bg (3 :: ks) (Bo a :: xs) (Bo b :: ys)=if a=b then bg ks xs ys else some false:=by
 simp only[bg,iV]
 by_cases h:a=b
 ·simp[h]
 ·have:(a == b)=false:=by simp[h]
  simp[this,h]
theorem vV (x:AV) (w:Bool) (f g:af→Prop) (F G:AV→RM→af→Prop) (k:af) :
  ag x w f g (fun v M=>ag x w (F v M) (G v M) k)=ag x w (fun k'=>f fun v M=>F v M k') (fun k'=>g fun v M=>G v M k') k:=by
 unfold ag jd
 split
 ·split <;> simp_all
 ·rfl
 ·rfl
theorem oC {body:(List AV→RM→Prop)→List AV→RM→Prop} {xs:List AV} {M:RM} (I:Nat→List AV→RM→Prop) (n:Nat) (h0:I n xs M)
  (hb:∀ (next:List AV→RM→Prop) m ys M',(∀ m' zs M'',m'<m→I m' zs M''→next zs M'')→I m ys M'→body next ys M') : sN body xs M :=
 ⟨I,n,h0,fun m ys M' hI=>hb _ m ys M' (fun m' zs M'' hlt h=>⟨m',hlt,h⟩) hI⟩
abbrev By (b:UInt8) : AV:=N .u8 (b.toNat:Int)
def BY:Enc UInt8:=⟨1,fun b=>[By b],fun _=>rfl,fun _=>rfl⟩
theorem Cw (s:List UInt8) : BY.row s=s.map By:=by
 induction s with
 | nil=>rfl
 | cons b s ih=>rw[Enc.gH,ih]; rfl
def EC:Enc (List UInt8):=⟨1,fun s=>[St s],fun _=>rfl,fun _=>rfl⟩
theorem EP (s:List (List UInt8)) : EC.row s=s.map (fun s=>St s):=by
 induction s with
 | nil=>rfl
 | cons b s ih=>rw[Enc.gH,ih]; rfl
def INT:Enc Int:=⟨1,fun n=>[N .i64 n],fun _=>rfl,fun _=>rfl⟩
theorem tN:∀ (s:List UInt8),bn byteOf (s.map By)=some s
 | []=>rfl
 | b :: s=>by
   simp only[List.map_cons,bn,byteOf,tN s]
   simp
section
variable {α:Type} {E:Enc α} {M M' : RM} {v:AV} {xs:List α}
theorem Sl.str {s:List UInt8} (h:Sl BY M v s) {K:AV→Prop} : oD M v K=K (St s) :=
 zL (bC.nO h (by rw[Cw]; exact tN s))
theorem Sl.Fp (h:Sl E M v xs) {i:Nat} (j:Int) (hi:i<xs.length) (hsz:E.size=1:=by rfl) (hj:j=(i:Int):=by rfl) :
  ∃ b o,b<M.next∧b∈av v∧(∀ (kd:IntKind) (K:AV→Prop),lc v (N kd j) 1 K=K (.ptr b o))∧∀ x,E.cells xs[i]=[x]→M.cell b o=some x:=by
 obtain⟨b,o,h1,h2,h3,h4⟩:=Sl.at h 1 j hi hsz hj
 exact⟨b,o,h1,h2,h3,fun x hx=>uF h4 (by rw[hx]; rfl)⟩
structure Rw (E:Enc α) (M:RM) (b:Nat) (opn:Bool) (el:Nat) (xs:List α) : Prop where
 heap:M.heap b=some (.row (E.row xs) opn el 0)
 lt:b<M.next
theorem Rw.sl {b el:Nat} {p:Bool} {cap:Cap} (h:Rw E M b p el xs) : Sl E M (.slc b 0 xs.length cap) xs:=by
 refine .slc _ _ _ _ _ h.lt ?_
 rw[RM.iE h.heap (by rw[E.gm]; omega),List.drop_zero,← E.gm,List.take_length]
theorem Rw.keep {b el:Nat} {p:Bool} {bs:List Nat} (h:Rw E M b p el xs) (hk:ae bs M M') (hb:b ∉ bs) : Rw E M' b p el xs :=
 ⟨hk.bF h.heap h.lt hb,Nat.lt_of_lt_of_le h.lt hk.next⟩
end
@[go_sem] theorem G8 (el:Nat) (s:List UInt8) (K:RB→(Nat→AV)→Prop) : wU el (St s) K=K (.row (BY.row s) true el 0) (fun b=>.slc b 0 s.length (.op 1)):=by
 rw[Cw]
 apply propext; unfold wU
 constructor
 ·rintro⟨s',h,hk⟩; cases h; exact hk
 ·intro hk; exact⟨s,rfl,hk⟩
def Iz (b:UInt8) : UInt8:=if 65≤b.toNat∧b.toNat≤90 then b + 32 else b
def low (s:List UInt8) : List UInt8:=s.map Iz
structure FK (n:Nat) (bs:List Nat) (M M' : RM) : Prop where
 base:M'.base=M.base
 next:M.next≤M'.next
 heap:∀ c,c<n→c ∉ bs→M'.heap c=M.heap c
theorem ae.to {bs cs:List Nat} {n:Nat} {M M' : RM} (h:ae bs M M') (hn:n≤M.next) (hb:∀ b∈bs,n≤b∨b∈cs) : FK n cs M M' :=
 ⟨h.base,h.next,fun c h1 h2=>h.heap c (Nat.lt_of_lt_of_le h1 hn) (fun hm=>by rcases hb c hm with h3 | h3; omega; exact h2 h3)⟩
theorem Own.one {M:RM} {n el size n0:Nat} {v:AV} {cs:List AV} (h:Own M n0 el size v cs n) : oneCell v=true:=by
 cases h <;> rfl
def sO (B:Base) (c:aB) : Prop:=∀ {M:RM} {Q:af},M.base=B→Q (Bo true) M→c [] M Q
theorem Own.cells {M:RM} {n el size n0:Nat} {v:AV} {cs:List AV} (h:Own M n0 el size v cs n) : v.cells=[v]:=by
 cases h <;> rfl
section
variable {P:Program} {ρ:Ren} {M:RM} {w w' : World}
theorem aT.below {base:Base} {A:AW} (h:aT P base ρ A w) (hb:Below w.heap.size w w') (hn:base.n≤w.heap.size) : aT P base ρ A w' where
 dom b i hbi:=⟨(h.dom b i hbi).1,Nat.lt_of_lt_of_le (h.dom b i hbi).2 hb.size⟩
 blk b i x hbi hx:=let ⟨o,ho,hr⟩:=h.blk b i x hbi hx; ⟨o,by rw[hb.block _ (h.dom b i hbi).2]; exact ho,hr⟩
 sep:=h.sep
 top:=h.top
 lo:=h.lo
 inv:=base.low w w' (fun c hc=>hb.block c (Nat.lt_of_lt_of_le hc hn)) h.inv
theorem Step.of_below {base n:Nat} (hb:Below w.heap.size w w') (hn:base≤w.heap.size) : Step base n ρ w ρ w' where
 os:=hb.os
 tape:=hb.tape
 output:=hb.output
 size:=hb.size
 frame c hc _:=hb.block c hc
 ext _ _:=rfl
 fresh b i h:=.inl ⟨b,i,h,rfl⟩
 low c hc:=hb.block c (Nat.lt_of_lt_of_le hc hn)
theorem After.below (h:aX P ρ M w) (hb:Below w.heap.size w w') : After P M ρ w M ρ w':=by
 obtain⟨A,hA⟩:=h
 refine dC hA (Step.of_below hb hA.size) (hA.rel.below hb hA.size) rfl hA.next (Nat.le_refl _) fun b x hx=>?_
 rcases hA.blk b x hx with h | ⟨c,rfl,_⟩
 ·exact .inl h
 ·exact .inr ⟨c,rfl,hx⟩
theorem cu.Ea {f:FuncId} {args:List AV} {v:AV} {Q:af} (hP:uq P f)
  (h:∀ (ρ:Ren) (w:World) (us:List Value),au ρ args us→aX P ρ M w→Calls P f ⟨us⟩ w fun e w'=>∃ v',e=.returned v'∧Below w.heap.size w w'∧aa ρ v v') (hQ:Q v M) : cu P f args M Q:=by
 refine⟨hP,fun ρ w us hargs hw=>(h ρ w us hargs hw).mono fun e w' hR=>?_⟩
 obtain⟨v',rfl,hb,hv⟩:=hR
 exact⟨v',v,M,ρ,rfl,After.below hw hb,hv,hQ⟩
end
structure jO (α:Type) where
 size:Nat
 rel:RM→List AV→α→(Nat→Prop)→Prop
 len:∀ {M cs a S},rel M cs a S→cs.length=size
 one:∀ {M cs a S},rel M cs a S→cs.all oneCell=true
 mono:∀ {M cs a S S'},rel M cs a S→(∀ b,S b→S' b)→rel M cs a S'
 lt:∀ {M cs a S},rel M cs a S→rel M cs a (fun b=>S b∧b<M.next)
 keep:∀ {M M' cs a S bs},rel M cs a S→ae bs M M'→(∀ b∈bs,¬ S b)→rel M' cs a S
def Enc.rM {α:Type} (E:Enc α) : jO α where
 size:=E.size
 rel _ cs a _:=cs=E.cells a
 len h:=by subst h; exact E.len _
 one h:=by subst h; exact E.one _
 mono h _:=h
 lt h:=h
 keep h _ _:=h
inductive df {α:Type} (R:jO α) (M:RM) (S:Nat→Prop) : List AV→List α→Prop
 | nil:df R M S [] []
 | cons {cs ds:List AV} {a:α} {xs:List α} : R.rel M cs a S→df R M S ds xs→df R M S (cs++ds) (a :: xs)
section
variable {α:Type} {R:jO α} {M M' : RM} {S S' : Nat→Prop} {cs ds:List AV} {xs ys:List α} {a:α}
theorem df.len (h:df R M S cs xs) : cs.length=xs.length * R.size:=by
 induction h with
 | nil=>simp
 | cons h1 _ ih=>rw[List.length_append,R.len h1,ih,List.length_cons,Nat.succ_mul,Nat.add_comm]
theorem df.one (h:df R M S cs xs) : cs.all oneCell=true:=by
 induction h with
 | nil=>rfl
 | cons h1 _ ih=>rw[List.all_append,R.one h1,ih]; rfl
theorem df.mono (h:df R M S cs xs) (hs:∀ b,S b→S' b) : df R M S' cs xs:=by
 induction h with
 | nil=>exact .nil
 | cons h1 _ ih=>exact .cons (R.mono h1 hs) ih
theorem df.lt (h:df R M S cs xs) : df R M (fun b=>S b∧b<M.next) cs xs:=by
 induction h with
 | nil=>exact .nil
 | cons h1 _ ih=>exact .cons (R.lt h1) ih
theorem df.keep {bs:List Nat} (h:df R M S cs xs) (hk:ae bs M M') (hb:∀ b∈bs,¬ S b) : df R M' S cs xs:=by
 induction h with
 | nil=>exact .nil
 | cons h1 _ ih=>exact .cons (R.keep h1 hk hb) ih
theorem df.get (h:df R M S cs xs) : ∀ {i:Nat} (hi:i<xs.length),R.rel M ((cs.drop (i * R.size)).take R.size) xs[i] S:=by
 induction h with
 | nil=>intro i hi; simp at hi
 | cons h1 h2 ih =>
   rename_i c1 d1 a1 x1
   intro i hi
   cases i with
   | zero =>
     rw[Nat.zero_mul,List.drop_zero,List.take_append_of_le_length (by rw[R.len h1]; exact Nat.le_refl _),List.take_of_length_le (by rw[R.len h1]; exact Nat.le_refl _)]
     exact h1
   | succ i =>
     rw[Nat.succ_mul,Nat.add_comm,← List.drop_drop,List.drop_left' (R.len h1)]
     exact ih (by simpa using hi)
theorem df.take (h:df R M S cs xs) : ∀ (k:Nat),df R M S (cs.take (k * R.size)) (xs.take k):=by
 induction h with
 | nil=>intro k; simp; exact .nil
 | cons h1 h2 ih =>
   intro k
   cases k with
   | zero=>simp; exact .nil
   | succ k =>
     rw[Nat.succ_mul,Nat.add_comm,List.take_append,List.take_of_length_le (by rw[R.len h1]; omega),R.len h1,Nat.add_sub_cancel_left]
     exact .cons h1 (ih k)
theorem df.drop (h:df R M S cs xs) : ∀ (k:Nat),df R M S (cs.drop (k * R.size)) (xs.drop k):=by
 induction h with
 | nil=>intro k; simp; exact .nil
 | cons h1 h2 ih =>
   intro k
   cases k with
   | zero=>simp; exact .cons h1 h2
   | succ k =>
     rw[Nat.succ_mul,Nat.add_comm,← List.drop_drop,List.drop_left' (R.len h1)]
     exact ih k
theorem df.cells {E:Enc α} : ∀ {cs:List AV} {xs:List α},df E.rM M S cs xs→cs=E.row xs
 | _,_,.nil=>rfl
 | _,_,.cons h1 h2=>by rw[Enc.gH,df.cells h2]; rw[show _=_ from h1]
def jg (R:jO α) (M:RM) (v:AV) (xs:List α) (S:Nat→Prop) : Prop :=
 ∃ cs,bC M R.size v cs xs.length∧(∀ b∈av v,S b)∧df R M S cs xs
theorem bC.lt {size n:Nat} {v:AV} (h:bC M size v cs n) : ∀ b∈av v,b<M.next:=by
 cases h with
 | nil=>intro b hb; simp[av] at hb
 | emp=>intro b hb; simp[av] at hb
 | slc b o n cap cs hb _=>intro c hc; simp[av] at hc; omega
theorem bC.one {size n:Nat} {v:AV} (h:bC M size v cs n) : oneCell v=true:=by
 cases h <;> rfl
theorem bC.cells {size n:Nat} {v:AV} (h:bC M size v cs n) : v.cells=[v]:=by
 cases h <;> rfl
variable {v:AV}
theorem jg.mono (h:jg R M v xs S) (hs:∀ b,S b→S' b) : jg R M v xs S':=let ⟨cs,h1,h2,h3⟩:=h; ⟨cs,h1,fun b hb=>hs b (h2 b hb),h3.mono hs⟩
theorem jg.lt (h:jg R M v xs S) : jg R M v xs (fun b=>S b∧b<M.next):=let ⟨cs,h1,h2,h3⟩:=h; ⟨cs,h1,fun b hb=>⟨h2 b hb,h1.lt b hb⟩,h3.lt⟩
theorem jg.keep {bs:List Nat} (h:jg R M v xs S) (hk:ae bs M M') (hb:∀ b∈bs,¬ S b) : jg R M' v xs S :=
 let ⟨cs,h1,h2,h3⟩:=h; ⟨cs,h1.keep hk (fun b hv hbs=>hb b hbs (h2 b hv)),h2,h3.keep hk hb⟩
theorem jg.len (h:jg R M v xs S) {K:AV→Prop} : fJ v K=K (N .i64 xs.length):=let ⟨cs,h1,_,_⟩:=h; h1.len
theorem jg.one (h:jg R M v xs S) : oneCell v=true:=let ⟨cs,h1,_,_⟩:=h; h1.one
theorem jg.cells (h:jg R M v xs S) : v.cells=[v]:=let ⟨cs,h1,_,_⟩:=h; h1.cells
theorem jg.at (h:jg R M v xs S) {i:Nat} (sz:Nat) (j:Int) (hi:i<xs.length) (hsz:R.size=sz:=by rfl) (hj:j=(i:Int):=by rfl) :
  ∃ b o cs,b<M.next∧b∈av v∧(∀ (kd:IntKind) (K:AV→Prop),lc v (N kd j) sz K=K (.ptr b o))∧M.loads b o sz=some cs∧R.rel M cs xs[i] S:=by
 subst hsz hj
 obtain⟨cs,h1,h2,h3⟩:=h
 obtain⟨b,o,cap,rfl,hb,hl⟩:=h1.pos (by omega)
 have hsum:i * R.size + R.size≤xs.length * R.size:=by rw[← Nat.succ_mul]; exact Nat.mul_le_mul_right _ hi
 refine⟨b,o + i * R.size,(cs.drop (i * R.size)).take R.size,hb,by simp[av],fun kd K=>?_, ?_,h3.get hi⟩
 ·rw[wY]
  simp only[Int.toNat_natCast]
  exact propext ⟨fun h=>h.2.2,fun h=>⟨by omega,by omega,h⟩⟩
 ·rw[oW hl (i * R.size) R.size hsum]
def jO.slice (R:jO α) : jO (List α) where
 size:=1
 rel M cs xs S:=∃ v,cs=[v]∧jg R M v xs S
 len h:=by obtain⟨v,rfl,_⟩:=h; rfl
 one h:=by obtain⟨v,rfl,h⟩:=h; simp[h.one]
 mono h hs:=by obtain⟨v,rfl,h⟩:=h; exact⟨v,rfl,h.mono hs⟩
 lt h:=by obtain⟨v,rfl,h⟩:=h; exact⟨v,rfl,h.lt⟩
 keep h hk hb:=by obtain⟨v,rfl,h⟩:=h; exact⟨v,rfl,h.keep hk hb⟩
def lu (R:jO α) (M:RM) (base el:Nat) (v:AV) (xs:List α) (S:Nat→Prop) : Prop :=
 ∃ cs,Own M base el R.size v cs xs.length∧df R M S cs xs
theorem lu.mono {base el:Nat} (h:lu R M base el v xs S) (hs:∀ b,S b→S' b) : lu R M base el v xs S':=let ⟨cs,h1,h2⟩:=h; ⟨cs,h1,h2.mono hs⟩
theorem lu.lt {base el:Nat} (h:lu R M base el v xs S) : lu R M base el v xs (fun b=>S b∧b<M.next):=let ⟨cs,h1,h2⟩:=h; ⟨cs,h1,h2.lt⟩
theorem lu.keep {base el:Nat} {bs:List Nat} (h:lu R M base el v xs S) (hk:ae bs M M') (hb:∀ b∈bs,¬ S b) (hv:∀ b∈av v,b ∉ bs) : lu R M' base el v xs S :=
 let ⟨cs,h1,h2⟩:=h; ⟨cs,h1.keep hk hv,h2.keep hk hb⟩
theorem lu.len {base el:Nat} (h:lu R M base el v xs S) {K:AV→Prop} : fJ v K=K (N .i64 xs.length):=let ⟨cs,h1,_⟩:=h; h1.xD.len
theorem lu.cells {base el:Nat} (h:lu R M base el v xs S) : v.cells=[v]:=let ⟨cs,h1,_⟩:=h; h1.cells
theorem lu.one {base el:Nat} (h:lu R M base el v xs S) : oneCell v=true:=let ⟨cs,h1,_⟩:=h; h1.one
end
section
variable {M M' : RM} {b i n e f:Nat} {l:List AV} {p:Bool} {x:AV}
theorem aC {K:AV→Prop} (h:M.heap b=some (.row l p e f)) (hx:l[i]?=some x) : aL M (.ptr b i) K=K x:=by
 rw[lV,RM.cell_of h,hx]; simp
theorem nN {K:AV→Prop} (h:M.heap b=some (.row l p e f)) (hn:l.length=n) : jH M (.ptr b 0) n K=K (.agg l):=by
 rw[uU,RM.nT h]
 have:iW (some l) 0 n=some l:=by simp[iW,← hn]
 rw[this]; simp
theorem vC {K:RM→Prop} (h:M.heap b=some (.row l p e 0)) (hi:i<l.length) (hc:x.cells=[x]) (h1:oneCell x=true) : bU M (.ptr b i) x 1 K=K (M.put b (.row (l.set i x) p e 0)):=by
 rw[sI,hc,RM.oN h,kY (by simp only[List.length_cons,List.length_nil]; omega) (Nat.zero_le _) (by simp[h1])]
 have:l.take i++[x]++l.drop (i + 1)=l.set i x:=by
  rw[List.set_eq_take_append_cons_drop,if_pos hi]; simp
 simp[this]
theorem dR {K:RM→Prop} (l' : List AV) (h:M.heap b=some (.row l p e 0)) (hi:i<l.length) (hc:x.cells=[x]) (h1:oneCell x=true) (hl:l.set i x=l') : bU M (.ptr b i) x 1 K=K (M.put b (.row l' p e 0)):=by
 rw[vC h hi hc h1,hl]
theorem nV {K:RM→Prop} (h:M.heap b=some (.row l p e 0)) (hn:x.cells.length=n) (hl:l.length=n) (h1:x.cells.all oneCell=true) : bU M (.ptr b 0) x n K=K (M.put b (.row x.cells p e 0)):=by
 rw[sI,RM.oN h,vO (by rw[hn,hl]) h1]
 simp[hn]
theorem yU {c:Nat} {y z:RB} (h:M.heap b=some y) (hb:b≠c) : (M.put c z).heap b=some y:=by
 simp only[RM.put]; rw[if_neg hb]; exact h
theorem aW (y:RB) : (M.put b y).heap b=some y:=RM.wW _ _
theorem kT {y z:RB} (h:M.heap b=some y) (hb:b<M.next) : (M.push z).heap b=some y:=by
 simp only[RM.push]; rw[if_neg (by omega)]; exact h
theorem aJ (y:RB) : (M.push y).next=M.next + 1:=rfl
theorem DK (c:Nat) (y:RB) : (M.put c y).next=M.next:=rfl
theorem ae.new {bs:List Nat} (h:ae bs M M') {b:Nat} (y:RB) (hb:M.next≤b) : ae bs M (M'.put b y):=h.put y (.inl hb)
end
variable {M:RM}
theorem mX {a:AV} {l:List AV} {K:AV→Prop} : gT (.tup (a :: l)) 0 K=K a:=by rw[wJ]; simp
theorem pI {a b:AV} {l:List AV} {K:AV→Prop} : gT (.tup (a :: b :: l)) 1 K=K b:=by rw[wJ]; simp
theorem lY {p q:Prop} : bM (Bo true) p q=p:=by simp[yI]
theorem jJ {p q:Prop} : bM (Bo false) p q=q:=by simp[yI]
theorem j3 {b:Bool} {p q:Prop} (h1:b=true→p) (h2:b=false→q) : bM (Bo b) p q:=⟨h1,h2⟩
theorem dH {f g:af→Prop} {k:af} : ag (Bo true) true f g k=f k:=rfl
theorem CV {f g:af→Prop} {k:af} : ag (Bo false) false f g k=f k:=rfl
theorem Da {f g:af→Prop} {k:af} : ag (Bo true) false f g k=g k:=rfl
theorem uQ {f g:af→Prop} {k:af} : ag (Bo false) true f g k=g k:=rfl
theorem il {a b:AV} {K:AV→Prop} : bi (Bo true) a b K=K a:=by rw[xX]; rfl
theorem dJ {a b:AV} {K:AV→Prop} : bi (Bo false) a b K=K b:=by rw[xX]; rfl
theorem bC.known {size:Nat} {v:AV} {cs:List AV} {n:Nat} (h:bC M size v cs n) : known v=true:=by
 cases h <;> rfl
theorem nL {t:TypeId} {cs:List AV} {K:RB→(Nat→AV)→Prop} (h1:cs.all oneCell=true) (h2:1≤cs.length) : nI t (.agg cs) K=K (.row cs false t 0) (fun b=>.ptr b 0):=by
 unfold nI
 exact propext ⟨fun h=>h.2.2,fun h=>⟨h1,h2,h⟩⟩
def jO.pre {α β:Type} (E:Enc α) (R:jO β) : jO (α × β) where
 size:=E.size + R.size
 rel M cs a S:=∃ ds,cs=E.cells a.1++ds∧R.rel M ds a.2 S
 len h:=by obtain⟨ds,rfl,h⟩:=h; rw[List.length_append,E.len,R.len h]
 one h:=by obtain⟨ds,rfl,h⟩:=h; rw[List.all_append,E.one,R.one h]; rfl
 mono h hs:=by obtain⟨ds,rfl,h⟩:=h; exact⟨ds,rfl,R.mono h hs⟩
 lt h:=by obtain⟨ds,rfl,h⟩:=h; exact⟨ds,rfl,R.lt h⟩
 keep h hk hb:=by obtain⟨ds,rfl,h⟩:=h; exact⟨ds,rfl,R.keep h hk hb⟩
def jO.post {α β:Type} (R:jO α) (E:Enc β) : jO (α × β) where
 size:=R.size + E.size
 rel M cs a S:=∃ ds,cs=ds++E.cells a.2∧R.rel M ds a.1 S
 len h:=by obtain⟨ds,rfl,h⟩:=h; rw[List.length_append,E.len,R.len h]
 one h:=by obtain⟨ds,rfl,h⟩:=h; rw[List.all_append,E.one,R.one h]; rfl
 mono h hs:=by obtain⟨ds,rfl,h⟩:=h; exact⟨ds,rfl,R.mono h hs⟩
 lt h:=by obtain⟨ds,rfl,h⟩:=h; exact⟨ds,rfl,R.lt h⟩
 keep h hk hb:=by obtain⟨ds,rfl,h⟩:=h; exact⟨ds,rfl,R.keep h hk hb⟩
def jO.map {α β:Type} (R:jO α) (g:β→α) : jO β where
 size:=R.size
 rel M cs a S:=R.rel M cs (g a) S
 len h:=R.len h
 one h:=R.one h
 mono h hs:=R.mono h hs
 lt h:=R.lt h
 keep h hk hb:=R.keep h hk hb
end Go.Ab
namespace Go.Ab
open Go Go.RowKit Go.ChangeShapes
section
variable {H:Type} {enc:TypeId × Value→H} {P:Program} {w:World} {base:Nat} {spare:Nat→Bool} {held:Bool}
end
end Go.Ab
set_option maxRecDepth 10000
namespace Go.Ab
open Go Go.ChangeShapes
end Go.Ab
namespace Go.Ab
open Go Go.RowKit
section
variable {P:Program} {f:FuncId} {fn:Func} {w w' : World} {M:RM}
theorem oz {args:Array Value} {s:Array Value→Sem Value} {v:Value} (hf:P.funcs[f]?=some fn) (hng:fn.name ≠ "runtime.NumGoroutine") (hb:fn.body=none)
  (h1:Extern.findNext fn=none) (h2:Extern.find fn=some s) (h3:(s args).run P w=.ok v w') : (callFunc f args).run P w=.ok (.value v) w':=by
 have qW:(fn.name == "runtime.NumGoroutine")=false:=by simpa using hng
 simp only[callFunc,Sem.run_bind,run_program,Result.andThen_ok,hf,qW,Bool.false_eq_true,if_false,hb,Option.isNone_none,if_true,mark,Sem.run,h1,h2,h3,Sem.run_pure]
theorem ql {a:Addr} {n:Int} (h:w.cell? a=some (.int .i64 n)) : (Extern.Atomic.read (.int .i64) a).run P w=.ok (.int .i64 n) w:=by
 have:(load a .atomic).run P w=.ok (.int .i64 n) w:=by simp[load,Sem.run,h]
 unfold Extern.Atomic.read
 simp only[Sem.run_bind,this,Result.andThen_ok,if_true,Sem.run_pure]
theorem yR {a:Addr} {v u:Value} (hc:w.cell? a=some u) (h:(storeCells a [v]).run P w=.ok () w') : (store a v .atomic).run P w=.ok () w':=by
 have he:(store a v .atomic).run P w=(store a v).run P w:=by
  cases v <;> simp only[store,Sem.run,hc]
 rw[he]
 have h0:a.add 0=a:=by simp[Addr.add]
 unfold storeCells at h
 rw[h0,Sem.run_bind] at h
 revert h
 cases(store a v).run P w with
 | ok x w1=>intro h; exact h
 | halt _ _=>intro h; cases h
theorem rq (hf:P.funcs[f]?=some fn) (hng:fn.name ≠ "runtime.NumGoroutine") (hb:fn.body=none) (h1:Extern.findNext fn=none) (h2:Extern.find fn=some (Extern.Atomic.update (Op.intArith .add) .i64 true))
  {b o el:Nat} {l:List AV} {opn:Bool} {x y:Int} (hh:M.heap b=some (.row l opn el 0)) (hl:l[o]?=some (N .i64 x)) :
  tT P f [.ptr b o,N .i64 y] M (N .i64 (IntKind.wrap .i64 (x + y))) (M.put b (.row (l.set o (N .i64 (IntKind.wrap .i64 (x + y)))) opn el 0)):=by
 intro ρ w us hus hw
 cases hus with
 | cons _ u1 _ us r1 hus =>
 cases hus with
 | cons _ u2 _ us r2 hus =>
 cases hus
 obtain⟨rfl,_⟩:=ak r2
 obtain⟨i,hb',hc⟩:=aU r1
 have hlt:=(List.getElem?_eq_some_iff.1 hl).1
 have hld:M.loads b o 1=some [N .i64 x]:=by
  rw[RM.nT hh]
  have:=(List.getElem?_eq_some_iff.1 hl).2
  simp only[iW]
  rw[if_pos (by omega),List.drop_eq_getElem_cons hlt,this]; rfl
 obtain⟨u,hu,hcell⟩:=jT hw hb' hld
 obtain⟨rfl,_⟩:=ak hu
 have hst:M.stores b o [N .i64 (IntKind.wrap .i64 (x + y))]=some (M.put b (.row (l.set o (N .i64 (IntKind.wrap .i64 (x + y)))) opn el 0)):=by
  rw[RM.oN hh,kY (by simp; omega) (Nat.zero_le _) rfl]
  have:l.take o++[N .i64 (IntKind.wrap .i64 (x + y))]++l.drop (o + 1)=l.set o (N .i64 (IntKind.wrap .i64 (x + y))):=by
   rw[List.set_eq_take_append_cons_drop,if_pos hlt]; simp
  simp[this]
 obtain⟨w1,hrun,haf⟩:=pY hw hb' (vs:=[.int .i64 (IntKind.wrap .i64 (x + y))]) (.cons _ _ _ _ (.sc _ rfl) .nil) hst
 refine⟨ρ,w1,.int .i64 (IntKind.wrap .i64 (x + y)),oz hf hng hb h1 h2 ?_,haf,.sc _ rfl⟩
 have hs:=yR hcell (hrun _ rfl)
 rw[hc]
 show((asAddr (.pointer (some ⟨i.cb,i.sh + o,none⟩)) >>= fun a=>Extern.Atomic.read (.int .i64) a >>= fun old=>asInt old >>= fun p=>asInt (.int .i64 y) >>= fun q=>Op.intArith .add .i64 p q >>= fun new=>store a new .atomic >>= fun _=>pure new) : Sem Value).run P w=_
 simp only[asAddr,Sem.run_bind,Sem.run_pure,Result.andThen_ok,ql hcell,asInt,asIntOf,Op.intArith,hs]
theorem qd (hf:P.funcs[f]?=some fn) (hng:fn.name ≠ "runtime.NumGoroutine") (hb:fn.body=none) (h1:Extern.findNext fn=none) (h2:Extern.find fn=some (Extern.Atomic.loadT (.int .i64)))
  {b o el fz:Nat} {l:List AV} {opn:Bool} {x:Int} (hh:M.heap b=some (.row l opn el fz)) (hl:l[o]?=some (N .i64 x)) :
  Az P f [.ptr b o] M (N .i64 x):=by
 intro ρ w us hus hw
 cases hus with
 | cons _ u1 _ us r1 hus =>
 cases hus
 obtain⟨i,hb',hc⟩:=aU r1
 have hlt:=(List.getElem?_eq_some_iff.1 hl).1
 have hld:M.loads b o 1=some [N .i64 x]:=by
  rw[RM.nT hh]
  have:=(List.getElem?_eq_some_iff.1 hl).2
  simp only[iW]
  rw[if_pos (by omega),List.drop_eq_getElem_cons hlt,this]; rfl
 obtain⟨u,hu,hcell⟩:=jT hw hb' hld
 obtain⟨rfl,_⟩:=ak hu
 refine⟨.int .i64 x,oz hf hng hb h1 h2 ?_,.sc _ rfl⟩
 rw[hc]
 show((asAddr (.pointer (some ⟨i.cb,i.sh + o,none⟩)) >>= fun a=>Extern.Atomic.read (.int .i64) a) : Sem Value).run P w=_
 simp only[asAddr,Sem.run_bind,Sem.run_pure,Result.andThen_ok,ql hcell]
theorem qV (hf:P.funcs[f]?=some fn) (hng:fn.name ≠ "runtime.NumGoroutine") (hb:fn.body=none) (h1:Extern.findNext fn=none) (h2:Extern.find fn=some Extern.MapsClone.clone)
  {t b cl:Nat} {es:List (AV × AV × Nat)} (hh:M.heap b=some (.map es cl)) :
  tT P f [.ifc t (.map b)] M (.ifc t (.map M.next)) (M.push (.map es cl)):=by
 intro ρ w us hus hw
 cases hus with
 | cons _ u1 _ us r1 hus =>
 cases hus
 cases r1 with
 | ifc _ _ v' hv =>
 obtain⟨A,hA⟩:=hw
 cases hv with
 | map _ i hbi =>
 obtain⟨fs,hob,hfs⟩:=mO hA hbi hh
 have hnew:ρ A.next=none:=hA.rel.fresh (Nat.le_refl _)
 have hle:ρ.le (ρ.add A.next ⟨w.heap.size,0,0,0⟩):=Ren.jQ hnew
 obtain⟨q1,q2⟩:=lW hA.rel (Nat.le_trans (show M.base.n≤M.lo from Nat.le_refl _) hA.size) (x:=.map es cl) (ob:=.map fs cl) (i:=⟨w.heap.size,0,0,0⟩) rfl
  ⟨fs,rfl,hfs.mono hle⟩
 obtain⟨k1,k2,k3⟩:=RM.kZ hA (x:=.map es cl) (y:=.map es cl) ⟨rfl,rfl⟩
 have hget:(getObj i.cb).run P w=.ok (.map fs cl) w:=by simp[getObj,Sem.run,hob]
 refine⟨_,w.alloc (.map fs cl),.iface t (.map (some w.heap.size)),oz hf hng hb h1 h2 ?_,dC hA q2 q1 k1 k2 (by simp[AW.push]) k3,.ifc _ _ _ ?_⟩
 ·show((getObj i.cb >>= fun o=>_) : Sem Value).run P w=_
  simp only[Sem.run_bind,hget,Result.andThen_ok]
  rfl
 ·exact .map _ ⟨w.heap.size,0,0,0⟩ (by rw[← hA.next]; simp[Ren.add])
end
end Go.Ab
set_option maxRecDepth 100000
namespace Go.Ab.Dot
open Go Go.Ab
def yQ (p1:Nat) (a0:AV) (M0:RM) (Q:af) : Prop :=
 bL false 2 a0 (.sc (.slice none 0 0)) fun h =>
 bM h (
 Q (.sc (.slice none 0 0)) M0) (
 iL p1 0 [(N .u8 0)] [] fun g e =>
 fM g e M0 fun i c =>
 appW p1 1 1 [(N .u8 0)] false i a0 c fun j d =>
 Q j d)
theorem Cr {T size bytes:Nat} {zs:List AV} {M0:RM} {a0:AV} {cs:List AV} {n:Nat} (h:bC M0 size a0 cs n) (h1:cs.all oneCell=true) (hs:1≤size) (hn:n * bytes≤140737488355328) (hn2:n≤140737488355328) {Q:af}
  (hQ:∀ v M',Own M' M0.next T size v cs n→ae [] M0 M'→Q v M') :
  bL false 2 a0 bN fun t4=>bM t4 (Q bN M0) (iL T 0 zs [] fun r f=>fM r f M0 fun t5 M=>appW T size bytes zs false t5 a0 M fun t7 M_0=>Q t7 M_0):=by
 rcases h.pM false with⟨rfl,e⟩ | ⟨hne,e⟩
 ·rw[e]
  cases h
  exact⟨fun _=>hQ _ _ .nil (ae.refl _ _),fun h=>by simp at h⟩
 ·rw[e]
  refine⟨fun h=>by simp at h,fun _=>⟨[],rfl, ?_⟩⟩
  have hk:ae [] M0 (M0.push (.row [] false T 0)):=(ae.refl _ _).push _
  refine Ah (base:=M0.next) (Own.lit M0 (Nat.le_refl _)) (by simp[RM.push]) hs ((h.keep hk (by simp)).l7 _) h.length h1 (by rw[Nat.zero_add]; exact hn) (by omega) ?_
  intro v' M' ho hk' hnx hv
  exact hQ v' M' (by simpa using ho) (hk.qD hk' (by simp[av]))
def FJ (T size bytes:Nat) (c:aB) : Prop:=∀ {M0:RM} {a0:AV} {cs:List AV} {n:Nat},bC M0 size a0 cs n→cs.all oneCell=true→n * bytes≤140737488355328→n≤140737488355328→∀ {Q:af},
 (∀ v M',Own M' M0.next T size v cs n→ae [] M0 M'→Q v M')→c [a0] M0 Q
end Go.Ab.Dot
set_option maxRecDepth 10000
namespace Go.Ab.Dk
open Go Go.Ab
def ED (f:(List AV→RM→Prop)→Prop) (g:List AV→RM→Prop) : Prop:=f g
theorem BC (f:(List AV→RM→Prop)→Prop) (g:List AV→RM→Prop) : tJ f g=ED f g:=rfl
theorem BQ {H:(List AV→RM→Prop)→Prop} {G:List AV→RM→Prop} (P:List AV→RM→Prop) (hT:∀ xs M,P xs M→G xs M)
  (hH:∀ J:List AV→RM→Prop,(∀ xs M,P xs M→J xs M)→H J) : ED H G:=hH G hT
section
variable {i j:Nat} {K:AV→Prop}
theorem addN (h:i + j<4611686018427387904) : aF .add (N .i64 (i:Int)) (N .i64 (j:Int)) K=K (N .i64 ((i + j:Nat) : Int)):=by
 rw[xB,jG (by omega) (by omega),Int.natCast_add]
theorem add1 (h:i<4611686018427387904) : aF .add (N .i64 (i:Int)) (N .i64 1) K=K (N .i64 ((i + 1:Nat) : Int)):=by
 rw[xB,DC (by omega)]
theorem Ii (h:j≤i) (hb:i<4611686018427387904) : aF .sub (N .i64 (i:Int)) (N .i64 (j:Int)) K=K (N .i64 ((i - j:Nat) : Int)):=by
 rw[yB,jG (by omega) (by omega),show(i:Int) - (j:Int)=((i - j:Nat) : Int) by omega]
theorem Fv:aF .lss (N .i64 (i:Int)) (N .i64 (j:Int)) K=K (Bo (decide (i<j))):=by rw[qB,show decide ((i:Int)<(j:Int))=decide (i<j) by simp]
theorem IR:aF .leq (N .i64 (i:Int)) (N .i64 (j:Int)) K=K (Bo (decide (i≤j))):=by rw[Er,show decide ((i:Int)≤(j:Int))=decide (i≤j) by simp]
theorem FC:aF .geq (N .i64 (i:Int)) (N .i64 (j:Int)) K=K (Bo (decide (i ≥ j))):=by rw[Ec,show decide ((i:Int) ≥ (j:Int))=decide (i ≥ j) by simp]
end
section
variable {M:RM} {c p:Bool} {f:af→Prop} {P:RM→Prop} {G:AV→RM→Prop}
theorem ed (hf:c=true→∀ k:af,k (Bo p) M→f k) (hG:G (Bo (c && p)) M) :
  ag (Bo c) true f (fun k=>k .undef M) (fun t M'=>bi (Bo c) t (Bo false) fun u=>G u M'):=by
 cases c with
 | false=>rw[uQ]; dsimp only; rw[dJ]; exact hG
 | true=>rw[dH]; exact hf rfl _ (by rw[il]; exact hG)
theorem FU (hf:c=false→∀ k:af,k (Bo p) M→f k) (hG:G (Bo (c || p)) M) :
  ag (Bo c) false f (fun k=>k .undef M) (fun t M'=>bi (Bo c) (Bo true) t fun u=>G u M'):=by
 cases c with
 | true=>rw[Da]; dsimp only; rw[il]; exact hG
 | false=>rw[CV]; exact hf rfl _ (by rw[dJ]; exact hG)
theorem Gz (h0:P M) (hf:c=true→∀ k:af,(∀ M',P M'→k (Bo p) M')→f k) (hG:∀ M',P M'→G (Bo (c && p)) M') :
  ag (Bo c) true f (fun k=>k .undef M) (fun t M'=>bi (Bo c) t (Bo false) fun u=>G u M'):=by
 cases c with
 | false=>rw[uQ]; dsimp only; rw[dJ]; exact hG M h0
 | true=>rw[dH]; exact hf rfl _ fun M' h=>by rw[il]; exact hG M' h
end
abbrev Nm:=List UInt8
abbrev Dir:=List (Nm × Nat)
def jh:Dir→Nm→Option Nat
 | [],_=>none
 | e :: l,n=>if n=e.1 then some e.2 else jh l n
def iA:Dir→Nm→Dir
 | [],_=>[]
 | e :: l,n=>if n=e.1 then l else e :: iA l n
def iY:Dir→Nm→Nat→Dir
 | [],n,f=>[(n,f)]
 | e :: l,n,f=>if n=e.1 then(n,f) :: l else e :: iY l n f
abbrev kW:=Nm × Option Nat × Nm
def jZ (l:Dir) (c:kW) : Dir :=
 let l1:=if c.2.2≠[] then iA l c.2.2 else l
 match c.2.1 with
 | some f=>iY l1 c.1 f
 | none=>l1
abbrev jY:=List UInt8 × Nat
structure bz where
 files:List jY
 dir:Dir
 iB:Dir
 chg:List kW
 bA:Int
 app:Int
 syn:Int
 deriving DecidableEq
inductive Tag where
 | disk | names | safe | chg | file (i:Nat) | bytes (i:Nat)
 deriving DecidableEq
abbrev aS:=Nat→Option Tag
def upd (own:aS) (b:Nat) (t:Tag) : aS:=fun c=>if c=b then some t else own c
theorem ll {own:aS} {b:Nat} {t:Tag} : upd own b t b=some t:=by simp[upd]
theorem upd_ne {own:aS} {b c:Nat} {t:Tag} (h:c≠b) : upd own b t c=own c:=by simp[upd,h]
def bW (fbs:List Nat) (cl:Nat) : Nat→List (AV × AV × Nat)→Dir→Prop
 | _,[],[]=>True
 | lo,e :: es,d :: ds=>e.1=St d.1∧(∃ b,fbs[d.2]?=some b∧e.2.1=.ptr b 0)∧lo≤e.2.2∧e.2.2<cl∧bW fbs cl (e.2.2 + 1) es ds
 | _,_,_=>False
variable {fbs gbs:List Nat} {cl lo:Nat} {es:List (AV × AV × Nat)} {d:Dir}
theorem bW.len:∀ {es:List (AV × AV × Nat)} {d:Dir} {lo:Nat},bW fbs cl lo es d→es.length=d.length
 | [],[],_,_=>rfl
 | _ :: es,_ :: d,_,h=>by simp only[List.length_cons]; rw[h.2.2.2.2.len]
theorem bW.grow (hg:∀ i b:Nat,fbs[i]?=some b→gbs[i]?=some b) {cl' : Nat} (hc:cl≤cl') : ∀ {es:List (AV × AV × Nat)} {d:Dir} {lo lo' : Nat},lo'≤lo→bW fbs cl lo es d→bW gbs cl' lo' es d
 | [],[],_,_,_,_=>trivial
 | _ :: es,_ :: d,_,_,hl,⟨h1,⟨b,h2,h3⟩,h4,h5,h6⟩=>⟨h1,⟨b,hg _ _ h2,h3⟩,Nat.le_trans hl h4,Nat.lt_of_lt_of_le h5 hc,h6.grow hg hc (Nat.le_refl _)⟩
theorem bW.snoc {s:Nm} {f b:Nat} (hf:fbs[f]?=some b) : ∀ {es:List (AV × AV × Nat)} {d:Dir} {lo:Nat},lo≤cl→bW fbs cl lo es d→bW fbs (cl + 1) lo (es++[(St s,.ptr b 0,cl)]) (d++[(s,f)])
 | [],[],_,hl,_=>⟨rfl,⟨b,hf,rfl⟩,hl,Nat.lt_succ_self _,trivial⟩
 | _ :: es,_ :: d,_,hl,⟨h1,h2,h4,h5,h6⟩=>⟨h1,h2,h4,Nat.lt_succ_of_lt h5,h6.snoc hf h5⟩
theorem rA {s:Nm} : ∀ {d:Dir},jh d s=none→iA d s=d∧∀ f,iY d s f=d++[(s,f)]
 | [],_=>⟨rfl,fun _=>rfl⟩
 | e :: d,h=>by
   unfold jh at h
   by_cases hs:s=e.1
   ·rw[if_pos hs] at h; cases h
   ·rw[if_neg hs] at h
    obtain⟨h1,h2⟩:=rA h
    simp only[iA,iY,if_neg hs,h1,h2,List.cons_append,true_and,implies_true]
theorem lX (s:Nm) : ∀ {es:List (AV × AV × Nat)} {d:Dir} {lo:Nat} (i:Nat),bW fbs cl lo es d →
  (gG false [2] [St s] es i=some none∧jh d s=none) ∨
  ∃ j f b,gG false [2] [St s] es i=some (some (i + j,.ptr b 0))∧jh d s=some f∧fbs[f]?=some b∧bW fbs cl lo (es.eraseIdx j) (iA d s) ∧
    ∀ g c,fbs[g]?=some c→bW fbs cl lo (uf (St s) (.ptr c 0) es j) (iY d s g)
 | [],[],_,i,_=>.inl ⟨rfl,rfl⟩
 | (k,v,n) :: es,(s',f) :: d,lo,i,⟨h1,⟨b,h2,h3⟩,h4,h5,h6⟩=>by
   simp only at h1 h2 h3 h4 h5 h6
   subst h1 h3
   simp only[gG,bQ,jh,iA,iY]
   rw[if_pos (by rfl),BF]
   by_cases hs:s=s'
   ·subst hs
    simp only[if_true,Bw]
    refine .inr ⟨0,f,b,rfl,rfl,h2, ?_, ?_⟩
    ·exact h6.grow (fun _ _ h=>h) (Nat.le_refl _) (by omega)
    ·intro g c hg
     exact⟨rfl,⟨c,hg,rfl⟩,h4,h5,h6⟩
   ·simp only[if_neg hs]
    rcases lX s (i + 1) h6 with⟨a1,a2⟩ | ⟨j,f',b',a1,a2,a3,a4,a5⟩
    ·exact .inl ⟨a1,a2⟩
    ·refine .inr ⟨j + 1,f',b', ?_,a2,a3, ?_, ?_⟩
     ·rw[a1]; congr 3; omega
     ·exact⟨rfl,⟨b,h2,rfl⟩,h4,h5,a4⟩
     ·intro g c hg
      exact⟨rfl,⟨b,h2,rfl⟩,h4,h5,a5 g c hg⟩
structure MapAt (own:aS) (M:RM) (fbs:List Nat) (m:Nat) (d:Dir) (t:Tag) : Prop where
 tg:own m=some t
 lt:m<M.next
 heap:∃ es cl,M.heap m=some (.map es cl)∧bW fbs cl 0 es d
inductive FB (M:RM) (TU:Nat) : AV→List UInt8→Prop
 | nil:FB M TU bN []
 | op (b:Nat) (xs:List UInt8) : b<M.next→M.heap b=some (.row (BY.row xs) true TU 0)→FB M TU (.slc b 0 xs.length (.op 1)) xs
 | ex (b o n:Nat) (xs:List UInt8) : b<M.next→M.loads b o n=some (BY.row xs)→xs.length=n→FB M TU (.slc b o n (.ex n)) xs
structure gQ (TF TU:Nat) (own:aS) (M:RM) (fbs:List Nat) (i b:Nat) (v:AV) (f:jY) : Prop where
 at_:fbs[i]?=some b
 lt:b<M.next
 tg:own b=some (.file i)
 heap:M.heap b=some (.row [v,N .i64 (f.2:Int)] false TF 0)
 fb:FB M TU v f.1
 le:f.2≤f.1.length
 blk:∀ c∈av v,own c=some (.bytes i)
structure fB (TF TU:Nat) (own:aS) (M:RM) (fbs:List Nat) (fs:List jY) : Prop where
 len:fbs.length=fs.length
 file:∀ i f,fs[i]?=some f→∃ b v,gQ TF TU own M fbs i b v f
def di:Enc (Nm × Option Nat × Nm):=⟨3,fun c=>[St c.1,(match c.2.1 with | some b=>.ptr b 0 | none=>.sc (.pointer none)),St c.2.2],fun _=>rfl,fun c=>by obtain⟨a,_ | b,g⟩:=c <;> rfl⟩
def bX (fbs:List Nat) (c:kW) : Nm × Option Nat × Nm:=(c.1,c.2.1.bind (fbs[·]?),c.2.2)
structure je (TC:Nat) (own:aS) (M:RM) (fbs:List Nat) (v:AV) (cs:List kW) : Prop where
 ow:Ow di M 0 TC v (cs.map (bX fbs))
 blk:∀ b∈av v,own b=some .chg
 wf:∀ c∈cs,∀ f,c.2.1=some f→f<fbs.length
variable {own own' : aS} {M M' : RM} {bs:List Nat} {m:Nat} {t:Tag}
theorem MapAt.step (h:MapAt own M fbs m d t) (hk:ae bs M M') (hb:∀ b∈bs,own b≠some t) (ho:∀ b,own b=some t→own' b=some t) : MapAt own' M' fbs m d t :=
 ⟨ho _ h.tg,Nat.lt_of_lt_of_le h.lt hk.next,let ⟨es,cl,h1,h2⟩:=h.heap; ⟨es,cl,hk.bF h1 h.lt (fun hm=>hb _ hm h.tg),h2⟩⟩
theorem MapAt.grow (h:MapAt own M fbs m d t) (hg:∀ i b:Nat,fbs[i]?=some b→gbs[i]?=some b) : MapAt own M gbs m d t :=
 ⟨h.tg,h.lt,let ⟨es,cl,h1,h2⟩:=h.heap; ⟨es,cl,h1,h2.grow hg (Nat.le_refl _) (Nat.le_refl _)⟩⟩
theorem FB.FP {TU:Nat} {v:AV} {xs:List UInt8} (h:FB M TU v xs) : ∀ c∈av v,c<M.next:=by
 cases h with
 | nil=>simp[av]
 | op b xs hb hh=>simp[av,hb]
 | ex b o n xs hb hh=>simp[av,hb]
theorem FB.keep {TU:Nat} {v:AV} {xs:List UInt8} (h:FB M TU v xs) (hk:ae bs M M') (hb:∀ b∈av v,b ∉ bs) : FB M' TU v xs:=by
 cases h with
 | nil=>exact .nil
 | op b xs hl hh=>exact .op b xs (Nat.lt_of_lt_of_le hl hk.next) (hk.bF hh hl (hb b (by simp[av])))
 | ex b o n xs hl hh h2=>exact .ex b o n xs (Nat.lt_of_lt_of_le hl hk.next) ((hk.loads hl (hb b (by simp[av]))).trans hh) h2
theorem FB.sl {TU:Nat} {v:AV} {xs:List UInt8} (h:FB M TU v xs) : Sl BY M v xs:=by
 cases h with
 | nil=>exact .nil
 | op b xs hl hh=>exact Rw.sl ⟨hh,hl⟩
 | ex b o n xs hl hh h2 =>
   subst h2
   refine .slc _ _ _ _ _ hl ?_
   show M.loads b o (xs.length * 1)=_
   rw[Nat.mul_one,hh]
theorem FB.one {TU:Nat} {v:AV} {xs:List UInt8} (h:FB M TU v xs) : oneCell v=true∧v.cells=[v]∧known v=true:=by
 cases h <;> exact⟨rfl,rfl,rfl⟩
section
variable {TF TU i b:Nat} {v:AV} {f:jY} {fs:List jY}
theorem gQ.step (h:gQ TF TU own M fbs i b v f) (hk:ae bs M M') (hb:∀ b∈bs,own b≠some (.file i)∧own b≠some (.bytes i)) (ho:∀ b,own b=some (.file i)∨own b=some (.bytes i)→own' b=own b) : gQ TF TU own' M' fbs i b v f :=
 ⟨h.at_,Nat.lt_of_lt_of_le h.lt hk.next,by rw[ho _ (.inl h.tg),h.tg],hk.bF h.heap h.lt (fun hm=>(hb _ hm).1 h.tg),h.fb.keep hk (fun c hc hm=>(hb _ hm).2 (h.blk c hc)),h.le,
  fun c hc=>by rw[ho _ (.inr (h.blk c hc)),h.blk c hc]⟩
theorem fB.step (h:fB TF TU own M fbs fs) (hk:ae bs M M') (hb:∀ b∈bs,∀ i,own b≠some (.file i)∧own b≠some (.bytes i)) (ho:∀ b i,own b=some (.file i)∨own b=some (.bytes i)→own' b=own b) : fB TF TU own' M' fbs fs :=
 ⟨h.len,fun i f hf=>let ⟨b,v,h1⟩:=h.file i f hf; ⟨b,v,h1.step hk (fun b hm=>hb b hm i) (fun b=>ho b i)⟩⟩
theorem fB.at (h:fB TF TU own M fbs fs) {i b:Nat} (hb:fbs[i]?=some b) : ∃ f v,fs[i]?=some f∧gQ TF TU own M fbs i b v f:=by
 have hi:i<fs.length:=by rw[← h.len]; exact(List.getElem?_eq_some_iff.1 hb).1
 obtain⟨b',v,h1⟩:=h.file i fs[i] (List.getElem?_eq_getElem hi)
 have:b'=b:=by have:=h1.at_; rw[hb] at this; cases this; rfl
 subst this
 exact⟨_,v,List.getElem?_eq_getElem hi,h1⟩
theorem fB.set (h:fB TF TU own M fbs fs) {f' : jY} (hi:i<fs.length) (h' : gQ TF TU own' M' fbs i b v f') (hk:ae bs M M') (hb:∀ b∈bs,∀ j,j≠i→own b≠some (.file j)∧own b≠some (.bytes j))
  (ho:∀ b j,j≠i→own b=some (.file j)∨own b=some (.bytes j)→own' b=own b) : fB TF TU own' M' fbs (fs.set i f'):=by
 refine⟨by rw[List.length_set]; exact h.len,fun j f hf=>?_⟩
 by_cases hj:j=i
 ·subst hj
  rw[List.getElem?_set_self hi] at hf
  cases hf
  exact⟨b,v,h'⟩
 ·rw[List.getElem?_set_ne (fun e=>hj e.symm)] at hf
  obtain⟨b1,v1,h1⟩:=h.file j f hf
  exact⟨b1,v1,h1.step hk (fun b hm=>hb b hm j hj) (fun b=>ho b j hj)⟩
end
section
variable {TC:Nat} {v:AV} {cs:List kW}
theorem El (hg:∀ i b:Nat,fbs[i]?=some b→gbs[i]?=some b) {c:kW} (hc:∀ f,c.2.1=some f→f<fbs.length) : bX gbs c=bX fbs c:=by
 obtain⟨n,o,g⟩:=c
 cases o with
 | none=>rfl
 | some f =>
   have:=hc f rfl
   simp only[bX,Option.bind_some]
   rw[List.getElem?_eq_getElem this,hg f _ (List.getElem?_eq_getElem this)]
theorem je.grow (h:je TC own M fbs v cs) (hg:∀ i b:Nat,fbs[i]?=some b→gbs[i]?=some b) (hl:fbs.length≤gbs.length) : je TC own M gbs v cs:=by
 refine⟨?_,h.blk,fun c hc f hf=>Nat.lt_of_lt_of_le (h.wf c hc f hf) hl⟩
 have:cs.map (bX gbs)=cs.map (bX fbs):=List.map_congr_left fun c hc=>El hg (h.wf c hc)
 rw[this]; exact h.ow
theorem je.step (h:je TC own M fbs v cs) (hk:ae bs M M') (hb:∀ b∈bs,own b≠some .chg) (ho:∀ b,own b=some .chg→own' b=some .chg) : je TC own' M' fbs v cs :=
 ⟨Own.keep h.ow hk (fun b hm hm2=>hb b hm2 (h.blk b hm)),fun b hm=>ho b (h.blk b hm),h.wf⟩
theorem je.nil:je TC own M fbs bN []:=⟨.nil,by simp[av],by simp⟩
end
structure bJ (TD TF TU TC:Nat) (own:aS) (M:RM) (db:Nat) (s:bz) (fbs:List Nat) (nm sm:Nat) (cv:AV) : Prop where
 lt:∀ b,own b≠none→b<M.next
 od:own db=some .disk
 row:M.heap db=some (.row [N .i64 s.bA,.map nm,.map sm,cv,N .i64 s.app,N .i64 s.syn] false TD 0)
 names:MapAt own M fbs nm s.dir .names
 safe:MapAt own M fbs sm s.iB .safe
 chg:je TC own M fbs cv s.chg
 files:fB TF TU own M fbs s.files
def bE (TD TF TU TC:Nat) (own:aS) (M:RM) (db:Nat) (s:bz) : Prop:=∃ fbs nm sm cv,bJ TD TF TU TC own M db s fbs nm sm cv
def Tr (own:aS) (M:RM) (own' : aS) (M' : RM) : Prop:=∃ bs,ae bs M M'∧(∀ b∈bs,own b≠none)∧∀ b,b<M.next→own b=none→own' b=none
theorem Tr.refl (own:aS) (M:RM) : Tr own M own M:=⟨[],ae.refl _ _,by simp,fun _ _ h=>h⟩
theorem Tr.trans {BH:aS} {M2:RM} (h:Tr own M own' M') (k:Tr own' M' BH M2) : Tr own M BH M2:=by
 obtain⟨bs,h1,h2,h3⟩:=h
 obtain⟨cs,k1,k2,k3⟩:=k
 refine⟨bs++cs.filter (fun b=>decide (b<M.next)),(h1.mono (fun b hb=>List.mem_append_left _ hb)).qD k1 ?_, ?_,fun b hb ho=>k3 b (Nat.lt_of_lt_of_le hb h1.next) (h3 b hb ho)⟩
 ·intro c hc
  by_cases hl:c<M.next
  ·exact .inr (by simp[hc,hl])
  ·exact .inl (by omega)
 ·intro b hb
  rcases List.mem_append.1 hb with hb | hb
  ·exact h2 b hb
  ·obtain⟨hb1,hb2⟩:=List.mem_filter.1 hb
   exact fun ho=>k2 b hb1 (h3 b (of_decide_eq_true hb2) ho)
theorem Tr.keep (hk:ae [] M M') : Tr own M own M':=⟨[],hk,by simp,fun _ _ h=>h⟩
theorem Tr.next (h:Tr own M own' M') : M.next≤M'.next:=let ⟨_,h1,_⟩:=h; h1.next
section
variable {TD TF TU TC db:Nat} {s:bz} {nm sm:Nat} {cv:AV}
theorem bJ.keep (h:bJ TD TF TU TC own M db s fbs nm sm cv) (hk:ae [] M M') : bJ TD TF TU TC own M' db s fbs nm sm cv :=
 ⟨fun b hb=>Nat.lt_of_lt_of_le (h.lt b hb) hk.next,h.od,hk.bF h.row (h.lt _ (by rw[h.od]; simp)) (by simp),h.names.step hk (by simp) (fun _ h=>h),h.safe.step hk (by simp) (fun _ h=>h),
  h.chg.step hk (by simp) (fun _ h=>h),h.files.step hk (by simp) (fun _ _ _=>rfl)⟩
theorem bJ.zX (h:bJ TD TF TU TC own M db s fbs nm sm cv) : db<M.next:=h.lt _ (by rw[h.od]; simp)
end
end Go.Ab.Dk
set_option maxRecDepth 100000
namespace Go.Ab.Dk
open Go Go.Ab
def gD (p1 p2 p3 p4 p5 p6 p7:aB) (M0:RM) (Q:af) : Prop :=
 p1 [] M0 fun w8 p =>
 uz w8 fun xj =>
 bM xj (
 Q (Bo false) p) (
 p2 [(N .i64 (-1))] p fun Y Z =>
 gT Y 0 fun xo =>
 gT Y 1 fun wa =>
 p2 [(N .i64 5)] Z fun X q =>
 gT X 0 fun d =>
 gT X 1 fun xn =>
 aF .eql wa (N .i64 1) fun e =>
 ag e true (fun c=>c d q) (fun c=>c .undef q) fun wb u =>
 ag e true (fun vr=>p3 [wb,(St [65])] u fun wc vd =>
 vr wc vd) (fun c=>c .undef u) fun wd I =>
 ag e true (fun v5=>aF .eql wd (N .i64 1) fun we =>
 v5 we I) (fun c=>c .undef I) fun wf W =>
 bi e wf (Bo false) fun g =>
 ag g true (fun vk=>vk d W) (fun c=>c .undef W) fun wg r =>
 ag g true (fun vl=>p3 [wg,(St [])] r fun wh va =>
 vl wh va) (fun c=>c .undef r) fun wi s =>
 ag g true (fun vm=>aF .eql wi (N .i64 1) fun wj =>
 vm wj s) (fun c=>c .undef s) fun wk t =>
 bi g wk (Bo false) fun h =>
 ag h true (fun vn=>vn d t) (fun c=>c .undef t) fun wl v =>
 ag h true (fun vo=>p3 [wl,(St [97])] v fun wm vb =>
 vo wm vb) (fun c=>c .undef v) fun wn w =>
 ag h true (fun vp=>aF .eql wn (N .i64 0) fun wo =>
 vp wo w) (fun c=>c .undef w) fun wp x =>
 bi h wp (Bo false) fun i =>
 ag i true (fun vq=>vq d x) (fun c=>c .undef x) fun wq y =>
 ag i true (fun vs=>p3 [wq,(St [97])] y fun wr vc =>
 vs wr vc) (fun c=>c .undef y) fun ws z =>
 ag i true (fun vt=>aF .eql ws (N .i64 12) fun wt =>
 vt wt z) (fun c=>c .undef z) fun wu A =>
 bi i wu (Bo false) fun j =>
 ag j true (fun vu=>vu d A) (fun c=>c .undef A) fun wv B =>
 ag j true (fun vv=>p4 [wv,(St [98]),(.sc (.slice none 0 0))] B fun ww ve =>
 vv ww ve) (fun c=>c .undef B) fun wx C =>
 ag j true (fun vw=>aF .eql wx (N .i64 4) fun wy =>
 vw wy C) (fun c=>c .undef C) fun wz D =>
 bi j wz (Bo false) fun l =>
 ag l true (fun vx=>vx d D) (fun c=>c .undef D) fun w0 E =>
 ag l true (fun vy=>p5 [w0,(St [98])] E fun w1 vf =>
 vy w1 vf) (fun c=>c .undef E) fun w2 F =>
 ag l true (fun vz=>aF .eql w2 (N .i64 4) fun w3 =>
 vz w3 F) (fun c=>c .undef F) fun w4 G =>
 bi l w4 (Bo false) fun m =>
 ag m true (fun v0=>v0 d G) (fun c=>c .undef G) fun w5 H =>
 ag m true (fun v1=>p6 [w5,(St [98]),(St [97])] H fun w6 vg =>
 v1 w6 vg) (fun c=>c .undef H) fun w7 L =>
 ag m true (fun v2=>aF .eql w7 (N .i64 4) fun w9 =>
 v2 w9 L) (fun c=>c .undef L) fun xa O =>
 bi m xa (Bo false) fun n =>
 ag n true (fun v3=>v3 d O) (fun c=>c .undef O) fun xb P =>
 ag n true (fun v4=>p6 [xb,(St [97]),(St [65])] P fun xc vh =>
 v4 xc vh) (fun c=>c .undef P) fun xd R =>
 ag n true (fun v6=>aF .eql xd (N .i64 1) fun xe =>
 v6 xe R) (fun c=>c .undef R) fun xf S =>
 bi n xf (Bo false) fun o =>
 ag o true (fun v7=>v7 d S) (fun c=>c .undef S) fun xg U =>
 ag o true (fun v8=>p7 [xg,(St [98])] U fun xh vi =>
 v8 xh vi) (fun c=>c .undef U) fun xi V =>
 ag o true (fun v9=>aF .eql xi (N .i64 4) fun xk =>
 v9 xk V) (fun c=>c .undef V) fun xl vj =>
 bi o xl (Bo false) fun xm =>
 Q xm vj)
def lC (p1 p2:aB) (p3:Nat) (p4 p5 p6 p7:aB) (p8:Nat) (p9 p10 p11 p12 p13 p14:aB) (p15:Nat) (M0:RM) (Q:af) : Prop :=
 p1 [(N .i64 10)] M0 fun vr C =>
 gT vr 0 fun d =>
 gT vr 1 fun y1 =>
 aF .neq y1 (N .i64 0) fun v =>
 ag v false (fun c=>c d C) (fun c=>c .undef C) fun y2 D =>
 ag v false (fun wp=>bL false 1 y2 (.sc (.pointer none)) fun y3 =>
 wp y3 D) (fun c=>c .undef D) fun y4 P =>
 bi v (Bo true) y4 fun y5 =>
 bM y5 (
 Q (Bo false) P) (
 p2 [d,(St [97])] P fun y6 wd =>
 iL p3 3 [(N .u8 0)] [(0,1,(N .u8 120)),(1,1,(N .u8 121)),(2,1,(N .u8 122))] fun xq wk =>
 fM xq wk wd fun y7 we =>
 vX y7 we fun y8 wf =>
 p4 [d,(St [97]),y8] wf fun y9 wg =>
 p5 [d,(St [97])] wg fun za wh =>
 p6 [d] wh fun zb wi =>
 iL p3 2 [(N .u8 0)] [(0,1,(N .u8 49)),(1,1,(N .u8 50))] fun xr wl =>
 fM xr wl wi fun zc vu =>
 vX zc vu fun zd vv =>
 p4 [d,(St [97]),zd] vv fun ze vx =>
 p2 [d,(St [98])] vx fun zf vy =>
 p7 [d] vy fun zg vz =>
 fJ zg fun zh =>
 iL p8 2 [(N .i64 0)] [(0,1,(N .i64 0)),(1,1,(N .i64 1))] fun xs wm =>
 fM xs wm vz fun zi v0 =>
 p9 [d,zi] v0 fun c1 v1 =>
 p10 [d,(St [97])] v1 fun vs v2 =>
 gT vs 0 fun zj =>
 gT vs 1 fun zk =>
 p10 [d,(St [98])] v2 fun vt v3 =>
 gT vt 0 fun c2 =>
 gT vt 1 fun zl =>
 vS p3 1 [(N .u8 0)] (N .i64 7) (N .i64 7) fun xt wn =>
 fM xt wn v3 fun zm v4 =>
 p4 [d,(St [97]),zm] v4 fun zn v5 =>
 p11 [d,(N .i64 100)] v5 fun c3 v6 =>
 vS p3 1 [(N .u8 0)] (N .i64 7) (N .i64 7) fun xu wo =>
 fM xu wo v6 fun zo v7 =>
 p4 [d,(St [97]),zo] v7 fun zp v8 =>
 p12 [d,(St [97]),(St [99])] v8 fun zq v9 =>
 p13 [d,(St [99])] v9 fun zr wa =>
 p14 [d] wa fun zs wb =>
 fM (.row [(N .i64 0),(N .i64 0),(N .i64 0),(N .i64 0)] false p15 0) (fun wj=>.ptr wj 0) wb fun j wc =>
 bU wc j zs 4 fun R =>
 aF .eql y6 (N .i64 0) fun w =>
 ag w true (fun w1=>w1 y9 R) (fun c=>c .undef R) fun zt S =>
 ag w true (fun w2=>aF .eql zt (N .i64 0) fun zu =>
 w2 zu S) (fun c=>c .undef S) fun zv U =>
 bi w zv (Bo false) fun x =>
 ag x true (fun w3=>w3 za U) (fun c=>c .undef U) fun zw V =>
 ag x true (fun w4=>aF .eql zw (N .i64 0) fun zx =>
 w4 zx V) (fun c=>c .undef V) fun zy W =>
 bi x zy (Bo false) fun y =>
 ag y true (fun w5=>w5 zb W) (fun c=>c .undef W) fun zz X =>
 ag y true (fun w6=>aF .eql zz (N .i64 0) fun z0 =>
 w6 z0 X) (fun c=>c .undef X) fun z1 Y =>
 bi y z1 (Bo false) fun z =>
 ag z true (fun w7=>w7 ze Y) (fun c=>c .undef Y) fun z2 Z =>
 ag z true (fun w8=>aF .eql z2 (N .i64 0) fun z3 =>
 w8 z3 Z) (fun c=>c .undef Z) fun z4 va =>
 bi z z4 (Bo false) fun A =>
 ag A true (fun w9=>w9 zf va) (fun c=>c .undef va) fun z5 vb =>
 ag A true (fun xa=>aF .eql z5 (N .i64 0) fun z6 =>
 xa z6 vb) (fun c=>c .undef vb) fun z7 vc =>
 bi A z7 (Bo false) fun B =>
 ag B true (fun xb=>xb zh vc) (fun c=>c .undef vc) fun z8 vd =>
 ag B true (fun xc=>aF .eql z8 (N .i64 2) fun z9 =>
 xc z9 vd) (fun c=>c .undef vd) fun c0 ve =>
 bi B c0 (Bo false) fun p =>
 ag p true (fun xd=>xd zk ve) (fun c=>c .undef ve) fun xv vf =>
 ag p true (fun xe=>aF .eql xv (N .i64 0) fun xw =>
 xe xw vf) (fun c=>c .undef vf) fun xx vg =>
 bi p xx (Bo false) fun e =>
 ag e true (fun xf=>xf zj vg) (fun c=>c .undef vg) fun xy o =>
 ag e true (fun xg=>oD o xy fun xz =>
 xg xz o) (fun c=>c .undef o) fun x0 vh =>
 ag e true (fun xh=>iC .eql x0 (St [120,121,122,49]) fun x1 =>
 xh x1 vh) (fun c=>c .undef vh) fun x2 vi =>
 bi e x2 (Bo false) fun q =>
 ag q true (fun xi=>xi zl vi) (fun c=>c .undef vi) fun x3 vj =>
 ag q true (fun xj=>aF .eql x3 (N .i64 4) fun x4 =>
 xj x4 vj) (fun c=>c .undef vj) fun x5 vk =>
 bi q x5 (Bo false) fun r =>
 ag r true (fun xk=>xk zn vk) (fun c=>c .undef vk) fun x6 vl =>
 ag r true (fun xl=>aF .eql x6 (N .i64 5) fun x7 =>
 xl x7 vl) (fun c=>c .undef vl) fun x8 vm =>
 bi r x8 (Bo false) fun s =>
 ag s true (fun xm=>xm zp vm) (fun c=>c .undef vm) fun x9 vn =>
 ag s true (fun xn=>aF .eql x9 (N .i64 0) fun ya =>
 xn ya vn) (fun c=>c .undef vn) fun yb vo =>
 bi s yb (Bo false) fun t =>
 ag t true (fun xo=>xo zq vo) (fun c=>c .undef vo) fun yc vp =>
 ag t true (fun xp=>aF .eql yc (N .i64 0) fun yd =>
 xp yd vp) (fun c=>c .undef vp) fun ye vq =>
 bi t ye (Bo false) fun u =>
 ag u true (fun wq=>wq zr vq) (fun c=>c .undef vq) fun yf E =>
 ag u true (fun wr=>aF .eql yf (N .i64 0) fun yg =>
 wr yg E) (fun c=>c .undef E) fun yh F =>
 bi u yh (Bo false) fun g =>
 ag g true (fun ws=>aN j 0 fun yi =>
 ws yi F) (fun c=>c .undef F) fun yj l =>
 ag g true (fun wt=>aL l yj fun yk =>
 wt yk l) (fun c=>c .undef l) fun yl G =>
 ag g true (fun wu=>aF .eql yl (N .i64 0) fun ym =>
 wu ym G) (fun c=>c .undef G) fun yn H =>
 bi g yn (Bo false) fun h =>
 ag h true (fun wv=>aN j 2 fun yo =>
 wv yo H) (fun c=>c .undef H) fun yp m =>
 ag h true (fun ww=>aL m yp fun yq =>
 ww yq m) (fun c=>c .undef m) fun yr I =>
 ag h true (fun wx=>aF .eql yr (N .i64 3) fun ys =>
 wx ys I) (fun c=>c .undef I) fun yt L =>
 bi h yt (Bo false) fun i =>
 ag i true (fun wy=>aN j 3 fun yu =>
 wy yu L) (fun c=>c .undef L) fun yv n =>
 ag i true (fun wz=>aL n yv fun yw =>
 wz yw n) (fun c=>c .undef n) fun yx O =>
 ag i true (fun w0=>aF .eql yx (N .i64 2) fun yy =>
 w0 yy O) (fun c=>c .undef O) fun yz vw =>
 bi i yz (Bo false) fun y0 =>
 Q y0 vw)
def jU (p1:Nat) (a0:AV) (M0:RM) (Q:af) : Prop :=
 aF .lss a0 (N .i64 0) fun l =>
 bM l (
 Q (.tup [(.sc (.pointer none)),(N .i64 1)]) M0) (
 fM (.map [] 0) (fun c=>.map c) M0 fun m d =>
 fM (.map [] 0) (fun c=>.map c) d fun n e =>
 iM [(N .i64 0),(.sc (.map none)),(.sc (.map none)),(.sc (.slice none 0 0)),(N .i64 0),(N .i64 0)] [(0,1,a0),(1,1,m),(2,1,n)] fun o =>
 nI p1 o fun i h =>
 fM i h e fun j g =>
 Q (.tup [j,(N .i64 0)]) g)
def fq (p1:aB) (p2:Nat) (p3:aB) (a0 a1:AV) (M0:RM) (Q:af) : Prop :=
 p1 [a1] M0 fun r c =>
 uz r fun s =>
 bM s (
 Q (N .i64 1) c) (
 aY a0 fun t =>
 aN t 1 fun i =>
 aL c i fun j =>
 gU false [2] (.sc (.pointer none)) false c j a1 fun l =>
 bL true 1 l (.sc (.pointer none)) fun m =>
 bM m (
 Q (N .i64 12) c) (
 iM [(.sc (.slice none 0 0)),(N .i64 0)] [] fun n =>
 nI p2 n fun h g =>
 fM h g c fun o d =>
 iM [(St []),(.sc (.pointer none)),(St [])] [(0,1,a1),(1,1,o)] fun p =>
 p3 [a0,p] d fun q e =>
 Q q e))
def fw (p1:aB) (p2:Nat) (p3:aB) (a0 a1 a2:AV) (M0:RM) (Q:af) : Prop :=
 aY a0 fun C =>
 aN C 1 fun l =>
 aL M0 l fun m =>
 gU false [2] (.sc (.pointer none)) false M0 m a1 fun d =>
 bL false 1 d (.sc (.pointer none)) fun n =>
 bM n (
 Q (N .i64 4) M0) (
 fJ a2 fun o =>
 aY a0 fun p =>
 aN p 0 fun e =>
 aL M0 e fun g =>
 p1 [a0] M0 fun r c =>
 aL c e fun q =>
 (q=g∧aF .sub g r fun s =>
 aF .gtr o s fun t =>
 bM t (
 Q (N .i64 5) c) (
 aY d fun u =>
 aN u 0 fun v =>
 aL c v fun w =>
 appW p2 1 1 [(N .u8 0)] false w a2 c fun x h =>
 aY d fun y =>
 aN y 0 fun z =>
 bU h z x 1 fun i =>
 aY a0 fun A =>
 aN A 4 fun B =>
 p3 [B,(N .i64 1)] i fun D j =>
 Q (N .i64 0) j)))
def gB (p1:aB) (a0 a1:AV) (M0:RM) (Q:af) : Prop :=
 aY a0 fun q =>
 aN q 1 fun r =>
 aL M0 r fun s =>
 gU false [2] (.sc (.pointer none)) false M0 s a1 fun c =>
 bL false 1 c (.sc (.pointer none)) fun g =>
 bM g (
 Q (N .i64 4) M0) (
 aY c fun h =>
 aN h 0 fun i =>
 aL M0 i fun j =>
 fJ j fun l =>
 aY c fun m =>
 aN m 1 fun n =>
 bU M0 n l 1 fun d =>
 aY a0 fun o =>
 aN o 5 fun p =>
 p1 [p,(N .i64 1)] d fun t e =>
 Q (N .i64 0) e)
def fo (p1 p2:aB) (a0 a1 a2:AV) (M0:RM) (Q:af) : Prop :=
 aY a0 fun o =>
 aN o 1 fun g =>
 aL M0 g fun h =>
 gU false [2] (.sc (.pointer none)) false M0 h a1 fun d =>
 bL false 1 d (.sc (.pointer none)) fun i =>
 bM i (
 Q (N .i64 4) M0) (
 p1 [a2] M0 fun j c =>
 uz j fun l =>
 bM l (
 Q (N .i64 1) c) (
 iM [(St []),(.sc (.pointer none)),(St [])] [(0,1,a2),(1,1,d),(2,1,a1)] fun m =>
 p2 [a0,m] c fun n e =>
 Q n e))
def fu (p1:aB) (a0 a1:AV) (M0:RM) (Q:af) : Prop :=
 aY a0 fun i =>
 aN i 1 fun j =>
 aL M0 j fun l =>
 gU false [2] (.sc (.pointer none)) false M0 l a1 fun d =>
 bL false 1 d (.sc (.pointer none)) fun e =>
 bM e (
 Q (N .i64 4) M0) (
 iM [(St []),(.sc (.pointer none)),(St [])] [(2,1,a1)] fun g =>
 p1 [a0,g] M0 fun h c =>
 Q h c)
def eZ (p1 p2:aB) (a0:AV) (M0:RM) (Q:af) : Prop :=
 aY a0 fun o =>
 aN o 1 fun p =>
 aL M0 p fun q =>
 p1 [q] M0 fun r c =>
 aY a0 fun h =>
 aN h 2 fun i =>
 bU c i r 1 fun d =>
 aY a0 fun j =>
 aN j 3 fun l =>
 bU d l (.sc (.slice none 0 0)) 1 fun e =>
 aY a0 fun m =>
 aN m 5 fun n =>
 p2 [n,(N .i64 1)] e fun s g =>
 Q (N .i64 0) g
def fK (p1:aB) (p2:Nat) (p3 p4 p5:aB) (a0 a1:AV) (M0:RM) (Q:af) : Prop :=
 aY a0 fun O =>
 aN O 2 fun P =>
 aL M0 P fun R =>
 aY a0 fun S =>
 aN S 1 fun U =>
 bU M0 U R 1 fun i =>
 aY a0 fun V =>
 aN V 3 fun o =>
 aL i o fun p =>
 aY a0 fun X =>
 aN X 3 fun Y =>
 aL i Y fun Z =>
 fJ Z fun va =>
 aF .add va (N .i64 1) fun vb =>
 p1 [a1,(N .i64 0),vb] i fun vc m =>
 aL m o fun W =>
 (W=p∧rC (iX 3 p none (some vc) none) fun q =>
 fJ q fun vd =>
 sN (fun D l e =>
 aF .lss (dS l 0) vd fun ve =>
 bM ve (
 lc q (dS l 0) 3 fun vf =>
 jH e vf 3 fun vg =>
 fM (.row [(St []),(.sc (.pointer none)),(St [])] false p2 0) (fun C=>.ptr C 0) e fun r w =>
 bU w r vg 3 fun j =>
 jH j r 3 fun vh =>
 aY a0 fun vi =>
 aN vi 1 fun vj =>
 aL j vj fun vk =>
 p3 [vh,vk] j fun wp x =>
 aF .add (dS l 0) (N .i64 1) fun vl =>
 D [vl] x) (
 aY a0 fun vm =>
 aN vm 1 fun vn =>
 aL e vn fun vo =>
 p4 [vo] e fun vp y =>
 aY a0 fun vq =>
 aN vq 2 fun vr =>
 bU y vr vp 1 fun z =>
 aY a0 fun vs =>
 aN vs 3 fun vt =>
 bU z vt (.sc (.slice none 0 0)) 1 fun A =>
 p5 [a0] A fun s B =>
 fJ s fun vu =>
 sN (fun E h c =>
 aF .lss (dS h 0) vu fun vv =>
 bM vv (
 lc s (dS h 0) 1 fun vw =>
 aL c vw fun vx =>
 aY a0 fun vy =>
 aN vy 1 fun vz =>
 aL c vz fun v0 =>
 gU false [2] (.sc (.pointer none)) false c v0 vx fun d =>
 aY d fun v1 =>
 aN v1 1 fun t =>
 aL c t fun u =>
 aF .add (dS h 0) (N .i64 1) fun v3 =>
 aY d fun v4 =>
 aN v4 0 fun v5 =>
 aL c v5 fun v6 =>
 fJ v6 fun v7 =>
 aY d fun v8 =>
 aN v8 1 fun v9 =>
 aL c v9 fun wa =>
 aF .sub v7 wa fun wb =>
 aF .add wb (N .i64 1) fun wc =>
 p1 [a1,v3,wc] c fun wd n =>
 aL n t fun v2 =>
 (v2=u∧aF .add u wd fun we =>
 aY d fun wf =>
 aN wf 1 fun wg =>
 bU n wg we 1 fun g =>
 aY d fun wh =>
 aN wh 0 fun wi =>
 aL g wi fun wj =>
 aY d fun wk =>
 aN wk 1 fun wl =>
 aL g wl fun wm =>
 aY d fun wn =>
 aN wn 1 fun wo =>
 aL g wo fun F =>
 rC (iX 1 wj none (some wm) (some F)) fun G =>
 aY d fun H =>
 aN H 0 fun I =>
 bU g I G 1 fun v =>
 aF .add (dS h 0) (N .i64 1) fun L =>
 E [L] v)) (
 Q (.tup []) c)) [(N .i64 0)] B)) [(N .i64 0)] m)
def fQ (a0 a1:AV) (M0:RM) (Q:af) : Prop :=
 yO true a1 (N .i64 0) fun d =>
 aY a0 fun e =>
 aN e 0 fun g =>
 bU M0 g d 1 fun c =>
 Q (.tup []) c
def gy (p1:aB) (a0 a1:AV) (M0:RM) (Q:af) : Prop :=
 aY a0 fun m =>
 aN m 1 fun n =>
 aL M0 n fun e =>
 gU false [2] (.sc (.pointer none)) false M0 e a1 fun c =>
 bL false 1 c (.sc (.pointer none)) fun g =>
 bM g (
 Q (.tup [(.sc (.slice none 0 0)),(N .i64 4)]) M0) (
 aY c fun h =>
 aN h 0 fun i =>
 aL M0 i fun j =>
 p1 [j] M0 fun l d =>
 Q (.tup [l,(N .i64 0)]) d)
def gz (p1 p2:aB) (a0:AV) (M0:RM) (Q:af) : Prop :=
 aY a0 fun e =>
 aN e 1 fun g =>
 aL M0 g fun h =>
 p1 [h] M0 fun i c =>
 p2 [i] c fun j d =>
 Q j d
def gu (p1:Nat) (p2 p3:aB) (a0:AV) (M0:RM) (Q:af) : Prop :=
 fM (.row [(N .i64 0),(N .i64 0),(N .i64 0),(N .i64 0)] false p1 0) (fun j=>.ptr j 0) M0 fun e c =>
 aY a0 fun t =>
 aN t 1 fun u =>
 aL c u fun v =>
 uD c v fun w =>
 aY a0 fun m =>
 aN m 4 fun n =>
 aY a0 fun p =>
 aN p 5 fun q =>
 p2 [a0] c fun x g =>
 p3 [n] g fun o h =>
 p3 [q] h fun r i =>
 iM [(N .i64 0),(N .i64 0),(N .i64 0),(N .i64 0)] [(0,1,w),(1,1,x),(2,1,o),(3,1,r)] fun s =>
 bU i e s 4 fun d =>
 jH d e 4 fun l =>
 Q l d
def jy (p1:aB) (a0:AV) (M0:RM) (Q:af) : Prop :=
 oH a0 fun z =>
 aF .geq z (N .i64 1) fun e =>
 ag e true (fun c=>c a0 M0) (fun c=>c .undef M0) fun A g =>
 ag e true (fun o=>oH A fun B =>
 o B g) (fun c=>c .undef g) fun C i =>
 ag e true (fun q=>aF .leq C (N .i64 64) fun D =>
 q D i) (fun c=>c .undef i) fun E j =>
 bi e E (Bo false) fun d =>
 ag d true (fun r=>r a0 j) (fun c=>c .undef j) fun t l =>
 ag d true (fun s=>p1 [t,(St [97,98,99,100,101,102,103,104,105,106,107,108,109,110,111,112,113,114,115,116,117,118,119,120,121,122,48,49,50,51,52,53,54,55,56,57,46,45,95])] l fun u n =>
 s u n) (fun c=>c .undef l) fun v h =>
 ag d true (fun p=>iC .eql v (St []) fun w =>
 p w h) (fun c=>c .undef h) fun x m =>
 bi d x (Bo false) fun y =>
 Q y m
def eU (p1:Nat) (p2:aB) (a0 a1:AV) (M0:RM) (Q:af) : Prop :=
 nI p1 a1 fun m j =>
 fM m j M0 fun e c =>
 jH c e 3 fun w =>
 aY a0 fun x =>
 aN x 1 fun y =>
 aL c y fun z =>
 p2 [w,z] c fun B d =>
 aY a0 fun o =>
 aN o 3 fun p =>
 aL d p fun q =>
 jH d e 3 fun r =>
 iL p1 1 [(St []),(.sc (.pointer none)),(St [])] [(0,3,r)] fun n l =>
 Ef n l d fun s g A =>
 appW p1 3 40 [(St []),(.sc (.pointer none)),(St [])] false q s g fun t h =>
 aY a0 fun u =>
 aN u 3 fun v =>
 bU h v t 1 fun i =>
 Q (N .i64 0) i
def fZ (a0:AV) (M0:RM) (Q:af) : Prop :=
 aY a0 fun t =>
 aN t 1 fun u =>
 aL M0 u fun v =>
 uG v M0 fun d g =>
 sN (fun i e h =>
 xE d h fun j c =>
 gT j 0 fun l =>
 bM l (
 Cv c d fun m =>
 gT m 1 fun n =>
 aY n fun o =>
 aN o 0 fun p =>
 aL c p fun q =>
 fJ q fun r =>
 aF .add (dS e 0) r fun s =>
 i [s] c) (
 Q (dS e 0) c)) [(N .i64 0)] g
def dY (p1:aB) (a0 a1:AV) (M0:RM) (Q:af) : Prop :=
 aY a0 fun d =>
 aN d 0 fun e =>
 p1 [e,a1] M0 fun g c =>
 Q g c
def aP (p1:Nat) (p2:aB) (a0:AV) (M0:RM) (Q:af) : Prop :=
 bL false 3 a0 (.sc (.map none)) fun d =>
 bM d (
 Q (.sc (.map none)) M0) (
 p2 [(.ifc p1 a0)] M0 fun e c =>
 AA p1 false e fun g =>
 Q g c)
def jq (a0 a1 a2:AV) (M0:RM) (Q:af) : Prop :=
 fJ a0 fun B =>
 aF .geq a1 B fun d =>
 ag d false (fun c=>c a0 M0) (fun c=>c .undef M0) fun p h =>
 ag d false (fun l=>l a1 h) (fun c=>c .undef h) fun q i =>
 ag d false (fun m=>lc p q 1 fun r =>
 m r i) (fun c=>c .undef i) fun s g =>
 ag d false (fun n=>aL g s fun t =>
 n t g) (fun c=>c .undef g) fun u j =>
 ag d false (fun o=>aF .lss u (N .i64 0) fun v =>
 o v j) (fun c=>c .undef j) fun w e =>
 bi d (Bo true) w fun x =>
 bM x (
 Q (N .i64 0) e) (
 lc a0 a1 1 fun y =>
 aL e y fun z =>
 aF .rem z a2 fun A =>
 Q A e)
def gq (p1:Nat) (a0 a1:AV) (M0:RM) (Q:af) : Prop :=
 nI p1 a0 fun l j =>
 fM l j M0 fun d e =>
 tJ (fun g =>
 aN d 2 fun t =>
 aL e t fun u =>
 iC .neq u (St []) fun v =>
 bM v (
 aN d 2 fun w =>
 aL e w fun x =>
 qa false [2] e a1 x fun y h =>
 g [] h) (
 g [] e)) (fun z c =>
 aN d 1 fun m =>
 aL c m fun n =>
 bL true 1 n (.sc (.pointer none)) fun o =>
 bM o (
 aN d 0 fun p =>
 aL c p fun q =>
 aN d 1 fun r =>
 aL c r fun s =>
 qb false [2] c a1 q s fun i =>
 Q (.tup []) i) (
 Q (.tup []) c))
def aQ (p1 p2:Nat) (a0:AV) (M0:RM) (Q:af) : Prop :=
 nI p1 a0 fun e d =>
 fM e d M0 fun g c =>
 Q (.fn (.func p2) [] [g]) c
def dU (p1:aB) (a0:AV) (M0:RM) (Q:af) : Prop :=
 aY a0 fun d =>
 aN d 0 fun e =>
 p1 [e] M0 fun g c =>
 Q g c
set_option maxRecDepth 10000
abbrev oo:AV:=.sc (.pointer none)
section
variable {fbs gbs:List Nat} {own own' : aS} {M M' : RM} {bs:List Nat} {m:Nat} {d:Dir} {t:Tag} {s:Nm}
theorem fI (h:MapAt own M fbs m d t) {K:AV→Prop} (h1:jh d s=none→K oo) (h2:∀ f b,jh d s=some f→fbs[f]?=some b→K (.ptr b 0)) : gU false [2] oo false M (.map m) (St s) K:=by
 obtain⟨es,cl,hh,he⟩:=h.heap
 rcases lX s 0 he with⟨a1,a2⟩ | ⟨j,f,b,a1,a2,a3,a4,a5⟩
 ·exact⟨m,es,cl,[St s],none,rfl,hh,rfl,rfl,a1,h1 a2⟩
 ·exact⟨m,es,cl,[St s],_,rfl,hh,rfl,rfl,a1,h2 f b a2 a3⟩
theorem Cc (h:MapAt own M fbs m d t) {K:af} (hK:∀ M',MapAt own M' fbs m (iA d s) t→ae [m] M M'→M'.next=M.next→K (.tup []) M') : qa false [2] M (.map m) (St s) K:=by
 obtain⟨es,cl,hh,he⟩:=h.heap
 rcases lX s 0 he with⟨a1,a2⟩ | ⟨j,f,b,a1,a2,a3,a4,a5⟩
 ·refine⟨m,es,cl,[St s],none,rfl,hh,rfl,rfl,a1,hK _ ⟨h.tg,h.lt,es,cl,aW _, ?_⟩ ((ae.refl _ _).put _ (.inr (by simp))) rfl⟩
  rw[(rA a2).1]; exact he
 ·refine⟨m,es,cl,[St s],_,rfl,hh,rfl,rfl,a1,hK _ ⟨h.tg,h.lt,es.eraseIdx j,cl, ?_,a4⟩ ((ae.refl _ _).put _ (.inr (by simp))) rfl⟩
  rw[aW]; simp only[FH,Nat.zero_add]
theorem BZ (h:MapAt own M fbs m d t) {f b:Nat} (hf:fbs[f]?=some b) {K:RM→Prop} (hK:∀ M',MapAt own M' fbs m (iY d s f) t→ae [m] M M'→M'.next=M.next→K M') : qb false [2] M (.map m) (St s) (.ptr b 0) K:=by
 obtain⟨es,cl,hh,he⟩:=h.heap
 rcases lX s 0 he with⟨a1,a2⟩ | ⟨j,f',b',a1,a2,a3,a4,a5⟩
 ·refine⟨m,es,cl,[St s],none,rfl,hh,rfl,rfl,a1,hK _ ⟨h.tg,h.lt,_,_,aW _, ?_⟩ ((ae.refl _ _).put _ (.inr (by simp))) rfl⟩
  rw[(rA a2).2]; exact he.snoc hf (Nat.zero_le _)
 ·refine⟨m,es,cl,[St s],_,rfl,hh,rfl,rfl,a1,hK _ ⟨h.tg,h.lt,_,cl, ?_,a5 f b hf⟩ ((ae.refl _ _).put _ (.inr (by simp))) rfl⟩
  rw[aW]; simp only[Fq,Nat.zero_add]
theorem Bc (h:MapAt own M fbs m d t) {K:AV→Prop} : uD M (.map m) K=K (N .i64 d.length):=by
 obtain⟨es,cl,hh,he⟩:=h.heap
 apply propext
 constructor
 ·rintro⟨b,es',c,e,h1,h2⟩
  cases e; rw[hh] at h1; cases h1
  rw[← he.len]; exact h2
 ·intro hk; exact⟨m,es,cl,rfl,hh,by rw[he.len]; exact hk⟩
end
def EK (fbs:List Nat) (c:kW) : Prop:=∀ f,c.2.1=some f→f<fbs.length
def Ev (c:aB) : Prop:=∀ {own:aS} {M:RM} {fbs:List Nat} {m:Nat} {d:Dir} {t:Tag} {ch:kW} {Q:af},MapAt own M fbs m d t→EK fbs ch →
 (∀ M',MapAt own M' fbs m (jZ d ch) t→ae [m] M M'→Q (.tup []) M')→c [.agg (di.cells (bX fbs ch)),.map m] M Q
theorem Gd {a b:List UInt8} {K:AV→Prop} : iC .neq (St a) (St b) K=K (Bo (decide (a≠b))):=by
 simp only[go_sem]
 congr 2
 by_cases h:a=b <;> simp[h]
theorem EO {TC:Nat} : Ev fun args M Q=>∃ a0 a1,args=[a0,a1]∧gq TC a0 a1 M Q:=by
 intro own M fbs m d t ch Q hm hw hQ
 refine⟨_,_,rfl, ?_⟩
 unfold gq
 rw[nL (di.one _) (by rw[di.len]; decide),dD]
 have k1:ae [m] M (M.push (.row (di.cells (bX fbs ch)) false TC 0)):=(ae.refl _ _).push _
 have k1' : ae [] M (M.push (.row (di.cells (bX fbs ch)) false TC 0)):=(ae.refl _ _).push _
 have nn:(M.push (.row (di.cells (bX fbs ch)) false TC 0)).next=M.next + 1:=aJ _
 have h1:(M.push (.row (di.cells (bX fbs ch)) false TC 0)).heap M.next=some (.row (di.cells (bX fbs ch)) false TC 0):=RM.bB _
 generalize M.push (.row (di.cells (bX fbs ch)) false TC 0)=M1 at *
 have hm1:=hm.step k1' (by simp) (fun _ h=>h)
 have hlt:=hm.lt
 have n1:=k1.next
 simp only[BC]
 refine BQ (fun zs M'=>zs=[]∧MapAt own M' fbs m (if ch.2.2≠[] then iA d ch.2.2 else d) t∧ae [m] M M'∧M'.heap M.next=some (.row (di.cells (bX fbs ch)) false TC 0)) ?_ ?_
 ·rintro zs M2 ⟨rfl,hm2,k2,h2⟩
  rw[aj,aC (i:=0 + 1) (x:=match (bX fbs ch).2.1 with | some b=>.ptr b 0 | none=>.sc (.pointer none)) h2 rfl]
  obtain⟨n,o,g⟩:=ch
  cases o with
  | none =>
    simp only[bX,Option.bind_none]
    rw[cZ,Bool.not_true,jJ]
    exact hQ _ hm2 k2
  | some f =>
    have hf:=hw f rfl
    simp only[bX,Option.bind_some]
    rw[List.getElem?_eq_getElem hf]
    dsimp only
    rw[bZ,lY,aj,aC (i:=0 + 0) (x:=St n) h2 rfl,aj,aC (i:=0 + 1) (x:=.ptr fbs[f] 0) h2 (by simp only[di,bX,Option.bind_some]; rw[List.getElem?_eq_getElem hf]; rfl)]
    refine BZ hm2 (List.getElem?_eq_getElem hf) fun M3 hm3 k3 n3=>?_
    exact hQ _ hm3 (k2.trans k3)
 ·intro J hJ
  rw[aj,aC (i:=0 + 2) (x:=St ch.2.2) h1 rfl,Gd]
  refine j3 (fun hc=>?_) (fun hc=>?_)
  ·have hc:=of_decide_eq_true hc
   rw[aj,aC (i:=0 + 2) (x:=St ch.2.2) h1 rfl]
   refine Cc hm1 fun M2 hm2 k2 n2=>?_
   refine hJ _ _ ⟨rfl, ?_,k1.trans k2,k2.bF h1 (by omega) (by simp; omega)⟩
   rw[if_pos hc]; exact hm2
  ·have hc:=of_decide_eq_false hc
   refine hJ _ _ ⟨rfl, ?_,k1,h1⟩
   rw[if_neg hc]; exact hm1
theorem bJ.row' {TD TF TU TC db:Nat} {s s' : bz} {own:aS} {M:RM} {fbs:List Nat} {nm sm nm' sm' : Nat} {cv cv' : AV} (h:bJ TD TF TU TC own M db s fbs nm sm cv) (l:List AV)
  (hl:l=[N .i64 s'.bA,.map nm',.map sm',cv',N .i64 s'.app,N .i64 s'.syn])
  (h1:MapAt own M fbs nm' s'.dir .names) (h2:MapAt own M fbs sm' s'.iB .safe) (h3:je TC own M fbs cv' s'.chg) (h4:fB TF TU own M fbs s'.files) :
  bJ TD TF TU TC own (M.put db (.row l false TD 0)) db s' fbs nm' sm' cv':=by
 have hk:ae [db] M (M.put db (.row l false TD 0)):=(ae.refl _ _).put _ (.inr (by simp))
 have hd:=h.od
 have hn:∀ t:Tag,t≠.disk→∀ b∈[db],own b≠some t:=by
  intro t ht b hb
  rw[List.mem_singleton] at hb; subst hb
  rw[hd]; simpa using fun e=>ht e.symm
 subst hl
 exact⟨h.lt,hd,aW _,h1.step hk (hn _ (by simp)) (fun _ h=>h),h2.step hk (hn _ (by simp)) (fun _ h=>h),h3.step hk (hn _ (by simp)) (fun _ h=>h),
  h4.step hk (fun b hb i=>⟨hn _ (by simp) b hb,hn _ (by simp) b hb⟩) (fun _ _ _=>rfl)⟩
theorem kV {own:aS} {M:RM} {b:Nat} (x:RB) (h:own b≠none) : Tr own M own (M.put b x) :=
 ⟨[b],(ae.refl _ _).put _ (.inr (by simp)),by simpa using h,fun _ _ h=>h⟩
def kR (TD TF TU TC:Nat) (c:aB) : Prop:=∀ {own:aS} {M:RM} {db:Nat} {s:bz} {fbs:List Nat} {nm sm:Nat} {cv:AV} {ch:kW} {Q:af},bJ TD TF TU TC own M db s fbs nm sm cv→EK fbs ch→s.chg.length≤1000000000 →
 (∀ own' M',bE TD TF TU TC own' M' db { s with dir:=jZ s.dir ch,chg:=s.chg++[ch] } → Tr own M own' M'→Q (N .i64 0) M')→c [.ptr db 0,.agg (di.cells (bX fbs ch))] M Q
theorem xO {TD TF TU TC:Nat} {cdo:aB} (hdo:Ev cdo) : kR TD TF TU TC fun args M Q=>∃ a0 a1,args=[a0,a1]∧eU TC cdo a0 a1 M Q:=by
 intro own M db s fbs nm sm cv ch Q hd hw hlen hQ
 refine⟨_,_,rfl, ?_⟩
 unfold eU
 rw[nL (di.one _) (by rw[di.len]; decide),dD]
 have k1:ae [] M (M.push (.row (di.cells (bX fbs ch)) false TC 0)):=(ae.refl _ _).push _
 have n1:(M.push (.row (di.cells (bX fbs ch)) false TC 0)).next=M.next + 1:=aJ _
 have h1:(M.push (.row (di.cells (bX fbs ch)) false TC 0)).heap M.next=some (.row (di.cells (bX fbs ch)) false TC 0):=RM.bB _
 generalize M.push (.row (di.cells (bX fbs ch)) false TC 0)=M1 at *
 have hd1:=hd.keep k1
 rw[nN (n:=3) h1 (di.len _),ax,aj,aC (i:=0 + 1) hd1.row rfl]
 refine hdo hd1.names hw fun M2 m2 k2=>?_
 have hnm:=hd1.names.lt
 have hnd:nm≠db:=fun e=>by have:=hd1.names.tg; rw[e,hd1.od] at this; cases this
 have hnt:=hd1.names.tg
 have hno:∀ b,own b≠some .names→b≠nm:=fun b hb e=>hb (by rw[e]; exact hnt)
 have hold:M.next≠nm:=by have:=hd.names.lt; omega
 have r2:=k2.bF hd1.row hd1.zX (by simp; exact fun e=>hnd e.symm)
 have h2:=k2.bF h1 (by omega) (by simp; exact hold)
 have hn2:∀ t:Tag,t≠.names→∀ b∈[nm],own b≠some t:=by
  intro t ht b hb; rw[List.mem_singleton] at hb; subst hb; rw[hnt]; simpa using fun e=>ht e.symm
 have sm2:=hd1.safe.step k2 (hn2 _ (by simp)) (fun _ h=>h)
 have cg2:=hd1.chg.step k2 (hn2 _ (by simp)) (fun _ h=>h)
 have fl2:=hd1.files.step (own':=own) k2 (fun b hb i=>⟨hn2 _ (by simp) b hb,hn2 _ (by simp) b hb⟩) (fun _ _ _=>rfl)
 have n2:=k2.next
 rw[ax,aj,aC (i:=0 + 3) r2 rfl,nN (n:=3) h2 (di.len _),GG (x:=.agg (di.cells (bX fbs ch))) (size:=3) (di.len _) (di.one _) rfl,ET]
 refine EZ (E:=di) (a:=bX fbs ch) cg2.ow (Nat.zero_le _) (by decide) (by rw[List.length_map]; omega) (by rw[List.length_map]; omega) fun v M3 o3 k3 n3 ho=>?_
 have hlt2:∀ b,own b≠none→b<M1.next:=fun b hb=>Nat.lt_of_lt_of_le (hd.lt b hb) k1.next
 let own' : aS:=fun b=>if b∈av v then some .chg else own b
 have hb' : ∀ b,own b≠none→own b≠some .chg→own' b=own b:=by
  intro b hb hb2
  show(if b∈av v then some Tag.chg else own b)=own b
  rw[if_neg]
  intro hm
  rcases ho with rfl | ho
  ·exact hb2 (cg2.blk b hm)
  ·have:=ho b hm; have:=hlt2 b hb; omega
 have hsome:∀ {t:Tag} {b},own b=some t→t≠.chg→own' b=some t:=by
  intro t b hb ht
  rw[hb' b (by rw[hb]; simp) (by rw[hb]; simpa using ht),hb]
 have hc3:∀ t:Tag,t≠.chg→∀ b∈av cv,own b≠some t:=by
  intro t ht b hb; rw[cg2.blk b hb]; simpa using fun e=>ht e.symm
 have r3:=k3.bF r2 (Nat.lt_of_lt_of_le hd1.zX n2) (fun hm=>hc3 .disk (by simp) _ hm hd.od)
 rw[ax,aj,dR (i:=0 + 3) [N .i64 s.bA,.map nm,.map sm,v,N .i64 s.app,N .i64 s.syn] r3 (by simp) (Own.cells o3) (Own.one o3) rfl]
 have m3:=m2.step (own':=own') k3 (hc3 _ (by simp)) (fun b hb=>hsome hb (by simp))
 have s3:=sm2.step (own':=own') k3 (hc3 _ (by simp)) (fun b hb=>hsome hb (by simp))
 have f3:=fl2.step (own':=own') k3 (fun b hb i=>⟨hc3 _ (by simp) b hb,hc3 _ (by simp) b hb⟩) (fun b i h=>by rcases h with h | h <;> rw[hsome h (by simp),h])
 have g3:je TC own' M3 fbs v (s.chg++[ch]):=by
  refine⟨by rw[List.map_append]; exact o3,fun b hb=>if_pos hb,fun c hc f hf=>?_⟩
  rcases List.mem_append.1 hc with hc | hc
  ·exact cg2.wf c hc f hf
  ·rw[List.mem_singleton] at hc; subst hc; exact hw f hf
 have hlt3:∀ b,own' b≠none→b<M3.next:=by
  intro b hb
  by_cases hm:b∈av v
  ·exact(Own.blk o3 b hm).2
  ·have:own' b=own b:=if_neg hm
   rw[this] at hb; have:=hlt2 b hb; omega
 have hfin:bJ TD TF TU TC own' (M3.put db (.row [N .i64 s.bA,.map nm,.map sm,v,N .i64 s.app,N .i64 s.syn] false TD 0)) db { s with dir:=jZ s.dir ch,chg:=s.chg++[ch] } fbs nm sm v:=by
  have hk:ae [db] M3 (M3.put db (.row [N .i64 s.bA,.map nm,.map sm,v,N .i64 s.app,N .i64 s.syn] false TD 0)):=(ae.refl _ _).put _ (.inr (by simp))
  have od' : own' db=some .disk:=hsome hd.od (by simp)
  have hn:∀ t:Tag,t≠.disk→∀ b∈[db],own' b≠some t:=by
   intro t ht b hb; rw[List.mem_singleton] at hb; subst hb; rw[od']; simpa using fun e=>ht e.symm
  exact⟨fun b hb=>Nat.lt_of_lt_of_le (hlt3 b hb) hk.next,od',aW _,m3.step hk (hn _ (by simp)) (fun _ h=>h),s3.step hk (hn _ (by simp)) (fun _ h=>h),g3.step hk (hn _ (by simp)) (fun _ h=>h),
   f3.step hk (fun b hb i=>⟨hn _ (by simp) b hb,hn _ (by simp) b hb⟩) (fun _ _ _=>rfl)⟩
 refine hQ own' _ ⟨_,_,_,_,hfin⟩ ⟨nm :: db :: av cv, ?_, ?_, ?_⟩
 ·have a1:ae (nm :: db :: av cv) M M2:=(k1.mono (by simp)).trans (k2.mono (by simp))
  have a2:ae (nm :: db :: av cv) M M3:=a1.trans (k3.mono (fun b hb=>by simp[hb]))
  exact a2.put _ (.inr (by simp))
 ·intro b hb
  simp only[List.mem_cons] at hb
  rcases hb with rfl | rfl | hb
  ·rw[hnt]; simp
  ·rw[hd.od]; simp
  ·rw[cg2.blk b hb]; simp
 ·intro b hb ho'
  show(if b∈av v then some Tag.chg else own b)=none
  rw[if_neg,ho']
  intro hm
  rcases ho with rfl | ho
  ·rw[cg2.blk b hm] at ho'; cases ho'
  ·have:=ho b hm; omega
def jl (c:UInt8) : Bool:=(97≤c && c≤122) || (48≤c && c≤57) || c == 46 || c == 45 || c == 95
def kL (n:Nm) : Bool:=decide (1≤n.length) && (decide (n.length≤64) && n.all jl)
def tot (fs:List jY) : Dir→Nat
 | []=>0
 | e :: d=>(fs[e.2]?.getD ([],0)).1.length + tot fs d
abbrev wI (n:Int) : Int:=IntKind.wrap .i64 n
def Ed (s:bz) (c:kW) : bz := { s with dir:=jZ s.dir c,chg:=s.chg++[c] }
def fF (s:bz) (n:Nm) : bz × Int :=
 if kL n=false then(s,1) else if (jh s.dir n).isSome then(s,12) else(Ed { s with files:=s.files++[([],0)] } (n,some s.files.length,[]),0)
def iP (s:bz) (f:Nat) : jY:=s.files[f]?.getD ([],0)
def iF (s:bz) (n:Nm) (b:List UInt8) : bz × Int :=
 match jh s.dir n with
 | none=>(s,4)
 | some f=>if s.bA - (tot s.files s.dir:Int)<b.length then(s,5) else({ s with files:=s.files.set f ((iP s f).1++b,(iP s f).2),app:=wI (s.app + 1) },0)
def rY (s:bz) (n:Nm) : List UInt8 × Int :=
 match jh s.dir n with
 | none=>([],4)
 | some f=>((iP s f).1,0)
def sK (s:bz) (n:Nm) : bz × Int :=
 match jh s.dir n with
 | none=>(s,4)
 | some f=>({ s with files:=s.files.set f ((iP s f).1,(iP s f).1.length),syn:=wI (s.syn + 1) },0)
def kP (s:bz) (n to:Nm) : bz × Int :=
 match jh s.dir n with
 | none=>(s,4)
 | some f=>if kL to=false then(s,1) else(Ed s (to,some f,n),0)
def jC (s:bz) (n:Nm) : bz × Int :=
 match jh s.dir n with
 | none=>(s,4)
 | some _=>(Ed s ([],none,n),0)
def qO (s:bz) : bz := { s with iB:=s.dir,chg:=[],syn:=wI (s.syn + 1) }
def wH (s:bz) (n:Int) : bz := { s with bA:=if 0 > n then 0 else n }
def dJ (p:List Int) (i n:Nat) : Nat:=match p[i]? with
 | none=>0
 | some x=>if x<0 then 0 else x.toNat % n
def Ch (c:aB) : Prop:=∀ {M:RM} {v:AV} {p:List Int} {i n:Nat} {Q:af},Sl INT M v p→1≤n→Q (N .i64 (dJ p i n:Int)) M→c [v,N .i64 (i:Int),N .i64 (n:Int)] M Q
theorem Cs:Ch fun args M Q=>∃ a0 a1 a2,args=[a0,a1,a2]∧jq a0 a1 a2 M Q:=by
 intro M v p i n Q hv hn hQ
 refine⟨_,_,_,rfl, ?_⟩
 unfold jq
 simp only[vV]
 rw[bC.len hv,FC]
 refine FU (p:=match p[i]? with | none=>true | some x=>decide (x<0)) (fun hc k hk=>?_) ?_
 ·have hlt:i<p.length:=by have:=of_decide_eq_false hc; omega
  obtain⟨b,o,h1,h2,h3,h4⟩:=Sl.Fp hv (i:=i) (i:Int) hlt
  rw[h3,lV,h4 (N .i64 p[i]) rfl]
  simp only[Option.some.injEq,exists_eq_left']
  rw[qB]
  rw[List.getElem?_eq_getElem hlt] at hk
  exact hk
 ·refine j3 (fun hc=>?_) (fun hc=>?_)
  ·have:dJ p i n=0:=by
    unfold dJ
    rcases hg:p[i]? with _ | x
    ·rfl
    ·have hlt:=(List.getElem?_eq_some_iff.1 hg).1
     rw[hg] at hc
     simp only[Bool.or_eq_true,decide_eq_true_eq] at hc
     rcases hc with hc | hc
     ·omega
     ·exact if_pos hc
   rw[this] at hQ; exact hQ
  ·rw[Bool.or_eq_false_iff] at hc
   have hlt:i<p.length:=by have:=of_decide_eq_false hc.1; omega
   have hg:=List.getElem?_eq_getElem hlt
   have h0:=hc.2
   rw[hg] at h0
   have h0:=of_decide_eq_false h0
   obtain⟨b,o,h1,h2,h3,h4⟩:=Sl.Fp hv (i:=i) (i:Int) hlt
   rw[h3,lV,h4 (N .i64 p[i]) rfl]
   simp only[Option.some.injEq,exists_eq_left']
   have:dJ p i n=p[i].toNat % n:=by unfold dJ; rw[hg]; exact if_neg h0
   rw[this] at hQ
   generalize p[i]=x at *
   obtain⟨y,rfl⟩:=Int.eq_ofNat_of_zero_le (Int.not_lt.1 h0)
   rw[DT]
   exact⟨by omega,hQ⟩
def xP (c:aB) : Prop:=∀ {M:RM} {s:List UInt8} {Q:af},1≤s.length→s.length≤64→(∀ M' r,ae [] M M'→(r=[]↔s.all jl=true)→Q (St r) M') →
 c [St s,St [97,98,99,100,101,102,103,104,105,106,107,108,109,110,111,112,113,114,115,116,117,118,119,120,121,122,48,49,50,51,52,53,54,55,56,57,46,45,95]] M Q
def wE (c:aB) : Prop:=∀ {M:RM} {s:Nm} {Q:af},(∀ M',ae [] M M'→Q (Bo (kL s)) M')→c [St s] M Q
theorem Cy {ct:aB} (ht:xP ct) : wE fun args M Q=>∃ a0,args=[a0]∧jy ct a0 M Q:=by
 intro M s Q hQ
 refine⟨_,rfl, ?_⟩
 unfold jy
 simp only[vV]
 rw[uW,show(N .i64 (1:Int))=N .i64 ((1:Nat) : Int) from rfl,FC]
 refine ed (p:=decide (s.length≤64)) (fun hc k hk=>?_) ?_
 ·rw[uW,show(N .i64 (64:Int))=N .i64 ((64:Nat) : Int) from rfl,IR]; exact hk
 refine Gz (p:=s.all jl) (P:=fun M'=>ae [] M M') (ae.refl _ _) (fun hc k hk=>?_) (fun M' k1=>?_)
 ·simp only[Bool.and_eq_true,decide_eq_true_eq] at hc
  refine ht hc.1 hc.2 fun M' r k1 hr=>?_
  rw[wK]
  have:(r == [])=s.all jl:=by
   rw[Bool.eq_iff_iff]; simp only[beq_iff_eq]; exact hr
  rw[this]
  exact hk _ k1
 ·have:kL s=(decide (s.length ≥ 1) && decide (s.length≤64) && s.all jl):=by
   unfold kL; rw[Bool.and_assoc]
  rw[this] at hQ
  exact hQ _ k1
def qL (c:aB) : Prop:=∀ {M:RM} {b o el:Nat} {l:List AV} {p:Bool} {x y:Int} {Q:af},M.heap b=some (.row l p el 0)→l[o]?=some (N .i64 x) →
 Q (N .i64 (wI (x + y))) (M.put b (.row (l.set o (N .i64 (wI (x + y)))) p el 0))→c [.ptr b o,N .i64 y] M Q
theorem Eo {x:aB} (hx:qL x) : qL fun args M Q=>∃ a0 a1,args=[a0,a1]∧dY x a0 a1 M Q:=by
 intro M b o el l p n y Q hh hl hQ
 refine⟨_,_,rfl, ?_⟩
 unfold dY
 rw[ax,aj,Nat.add_zero]
 exact hx hh hl hQ
def rW (c:aB) : Prop:=∀ {M:RM} {b o el:Nat} {l:List AV} {p:Bool} {x:Int} {Q:af},M.heap b=some (.row l p el 0)→l[o]?=some (N .i64 x)→Q (N .i64 x) M→c [.ptr b o] M Q
theorem CB {x:aB} (hx:rW x) : rW fun args M Q=>∃ a0,args=[a0]∧dU x a0 M Q:=by
 intro M b o el l p n Q hh hl hQ
 refine⟨_,rfl, ?_⟩
 unfold dU
 rw[ax,aj,Nat.add_zero]
 exact hx hh hl hQ
section
variable {TD TF TU TC:Nat}
def xA (TD TF TU TC:Nat) (c:aB) : Prop:=∀ {own:aS} {M:RM} {db:Nat} {s:bz} {n:Int} {Q:af},bE TD TF TU TC own M db s →
 (∀ own' M',bE TD TF TU TC own' M' db (wH s n)→Tr own M own' M'→Q (.tup []) M')→c [.ptr db 0,N .i64 n] M Q
theorem AR:xA TD TF TU TC fun args M Q=>∃ a0 a1,args=[a0,a1]∧fQ a0 a1 M Q:=by
 intro own M db s n Q hd hQ
 obtain⟨fbs,nm,sm,cv,hd⟩:=hd
 refine⟨_,_,rfl, ?_⟩
 unfold fQ
 rw[F4,ax,aj]
 rw[vC (i:=0 + 0) hd.row (by simp) rfl rfl]
 exact hQ own _ ⟨_,_,_,_,hd.row' (s':=wH s n) _ rfl hd.names hd.safe hd.chg hd.files⟩ (kV _ (by rw[hd.od]; simp))
theorem gQ.put {own:aS} {M:RM} {fbs:List Nat} {i b:Nat} {v:AV} {f:jY} (h:gQ TF TU own M fbs i b v f) (n:Nat) (hn:n≤f.1.length) :
  gQ TF TU own (M.put b (.row [v,N .i64 (n:Int)] false TF 0)) fbs i b v (f.1,n):=by
 have hk:ae [b] M (M.put b (.row [v,N .i64 (n:Int)] false TF 0)):=(ae.refl _ _).put _ (.inr (by simp))
 refine⟨h.at_,h.lt,h.tg,aW _,h.fb.keep hk (fun c hc hm=>?_),hn,h.blk⟩
 rw[List.mem_singleton] at hm
 have:=h.blk c hc
 rw[hm,h.tg] at this; cases this
theorem iU {own:aS} {b:Nat} {t u:Tag} (h:own b=some t) (hne:u≠t) : ∀ c∈[b],own c≠some u:=by
 intro c hc; rw[List.mem_singleton] at hc; subst hc; rw[h]; simpa using fun e=>hne e.symm
def wD (TD TF TU TC:Nat) (c:aB) : Prop:=∀ {own:aS} {M:RM} {db:Nat} {s:bz} {n:Nm} {Q:af},bE TD TF TU TC own M db s →
 (∀ own' M',bE TD TF TU TC own' M' db (sK s n).1→Tr own M own' M'→Q (N .i64 (sK s n).2) M')→c [.ptr db 0,St n] M Q
theorem De {ca:aB} (ha:qL ca) : wD TD TF TU TC fun args M Q=>∃ a0 a1,args=[a0,a1]∧gB ca a0 a1 M Q:=by
 intro own M db s n Q hd hQ
 have hd0:=hd
 obtain⟨fbs,nm,sm,cv,hd⟩:=hd
 refine⟨_,_,rfl, ?_⟩
 unfold gB
 rw[ax,aj,aC (i:=0 + 1) hd.row rfl]
 unfold sK at hQ
 refine fI hd.names (fun hn=>?_) (fun f b hf hb=>?_)
 ·rw[hn] at hQ
  rw[cZ,Bool.not_false,lY]
  exact hQ own M hd0 (Tr.refl _ _)
 ·rw[hf] at hQ
  dsimp only at hQ
  rw[bZ,jJ]
  obtain⟨fl,v,hfl,hat⟩:=hd.files.at hb
  have hff:iP s f=fl:=by unfold iP; rw[hfl]; rfl
  have hfi:=(List.getElem?_eq_some_iff.1 hfl).1
  rw[ax,aj,aC (i:=0 + 0) hat.heap rfl,bC.len hat.fb.sl,ax,aj,dR (i:=0 + 1) [v,N .i64 (fl.1.length:Int)] hat.heap (by simp) rfl rfl rfl]
  have h1:=hat.put fl.1.length (Nat.le_refl _)
  have hk:ae [b] M (M.put b (.row [v,N .i64 (fl.1.length:Int)] false TF 0)):=(ae.refl _ _).put _ (.inr (by simp))
  have ht:=hat.tg
  have hbd:b≠db:=fun e=>by rw[e,hd.od] at ht; cases ht
  have r1:=yU hd.row (c:=b) (z:=.row [v,N .i64 (fl.1.length:Int)] false TF 0) (fun e=>hbd e.symm)
  have t1:Tr own M own (M.put b (.row [v,N .i64 (fl.1.length:Int)] false TF 0)):=kV _ (by rw[ht]; simp)
  have n1:=hd.names.step hk (iU ht (by simp)) (fun _ h=>h)
  have s1:=hd.safe.step hk (iU ht (by simp)) (fun _ h=>h)
  have c1:=hd.chg.step hk (iU ht (by simp)) (fun _ h=>h)
  have f1:=hd.files.set hfi h1 hk (fun c hc j hj=>⟨iU ht (by simpa using hj) c hc,iU ht (by simp) c hc⟩) (fun _ _ _ _=>rfl)
  generalize M.put b (.row [v,N .i64 (fl.1.length:Int)] false TF 0)=M1 at *
  rw[ax,aj]
  refine ha r1 rfl ?_
  have hd1:bJ TD TF TU TC own M1 db { s with files:=s.files.set f (fl.1,fl.1.length) } fbs nm sm cv:=⟨fun b hb=>Nat.lt_of_lt_of_le (hd.lt b hb) t1.next,hd.od,r1,n1,s1,c1,f1⟩
  rw[hff] at hQ
  exact hQ own _ ⟨_,_,_,_,hd1.row' (s' := { s with files:=s.files.set f (fl.1,fl.1.length),syn:=wI (s.syn + 1) }) _ rfl n1 s1 c1 f1⟩ (t1.trans (kV _ (by rw[hd.od]; simp)))
def Ai (TU:Nat) (c:aB) : Prop:=Go.Ab.Dot.FJ TU 1 1 c
def Br (TD TF TU TC:Nat) (c:aB) : Prop:=∀ {own:aS} {M:RM} {db:Nat} {s:bz} {n:Nm} {Q:af},bE TD TF TU TC own M db s→(∀ f∈s.files,f.1.length≤140737488355328) →
 (∀ v M',ae [] M M'→Ow BY M' M.next TU v (rY s n).1→Q (.tup [v,N .i64 (rY s n).2]) M')→c [.ptr db 0,St n] M Q
theorem Di {ck:aB} (hc:Ai TU ck) : Br TD TF TU TC fun args M Q=>∃ a0 a1,args=[a0,a1]∧gy ck a0 a1 M Q:=by
 intro own M db s n Q hd hlen hQ
 obtain⟨fbs,nm,sm,cv,hd⟩:=hd
 refine⟨_,_,rfl, ?_⟩
 unfold gy
 rw[ax,aj,aC (i:=0 + 1) hd.row rfl]
 unfold rY at hQ
 refine fI hd.names (fun hn=>?_) (fun f b hf hb=>?_)
 ·rw[hn] at hQ
  rw[cZ,Bool.not_false,lY]
  exact hQ _ M (ae.refl _ _) .nil
 ·rw[hf] at hQ
  dsimp only at hQ
  rw[bZ,jJ]
  obtain⟨fl,v,hfl,hat⟩:=hd.files.at hb
  have hff:iP s f=fl:=by unfold iP; rw[hfl]; rfl
  rw[hff] at hQ
  have:=hlen fl (List.mem_of_getElem? hfl)
  rw[ax,aj,aC (i:=0 + 0) hat.heap rfl]
  refine hc hat.fb.sl (BY.mJ _) (by omega) this fun v' M' o k=>?_
  exact hQ v' M' k o
def vB (TD TF TU TC:Nat) (F:bz→Nm→bz × Int) (c:aB) : Prop:=∀ {own:aS} {M:RM} {db:Nat} {s:bz} {n:Nm} {Q:af},bE TD TF TU TC own M db s→s.chg.length≤1000000000 →
 (∀ own' M',bE TD TF TU TC own' M' db (F s n).1→Tr own M own' M'→Q (N .i64 (F s n).2) M')→c [.ptr db 0,St n] M Q
theorem zC {cc:aB} (hc:kR TD TF TU TC cc) : vB TD TF TU TC jC fun args M Q=>∃ a0 a1,args=[a0,a1]∧fu cc a0 a1 M Q:=by
 intro own M db s n Q hd hlen hQ
 have hd0:=hd
 obtain⟨fbs,nm,sm,cv,hd⟩:=hd
 refine⟨_,_,rfl, ?_⟩
 unfold fu
 rw[ax,aj,aC (i:=0 + 1) hd.row rfl]
 unfold jC at hQ
 refine fI hd.names (fun hn=>?_) (fun f b hf hb=>?_)
 ·rw[hn] at hQ
  rw[cZ,Bool.not_false,lY]
  exact hQ own M hd0 (Tr.refl _ _)
 ·rw[hf] at hQ
  dsimp only at hQ
  rw[bZ,jJ,iI]
  refine⟨_,rfl, ?_⟩
  exact hc (ch:=([],none,n)) hd (fun f hf=>by cases hf) hlen fun own' M' h1 h2=>hQ own' M' h1 h2
def pX (TD TF TU TC:Nat) (c:aB) : Prop:=∀ {own:aS} {M:RM} {db:Nat} {s:bz} {n to:Nm} {Q:af},bE TD TF TU TC own M db s→s.chg.length≤1000000000 →
 (∀ own' M',bE TD TF TU TC own' M' db (kP s n to).1→Tr own M own' M'→Q (N .i64 (kP s n to).2) M')→c [.ptr db 0,St n,St to] M Q
theorem zB {cg cc:aB} (hg:wE cg) (hc:kR TD TF TU TC cc) : pX TD TF TU TC fun args M Q=>∃ a0 a1 a2,args=[a0,a1,a2]∧fo cg cc a0 a1 a2 M Q:=by
 intro own M db s n to Q hd hlen hQ
 have hd0:=hd
 obtain⟨fbs,nm,sm,cv,hd⟩:=hd
 refine⟨_,_,_,rfl, ?_⟩
 unfold fo
 rw[ax,aj,aC (i:=0 + 1) hd.row rfl]
 unfold kP at hQ
 refine fI hd.names (fun hn=>?_) (fun f b hf hb=>?_)
 ·rw[hn] at hQ
  rw[cZ,Bool.not_false,lY]
  exact hQ own M hd0 (Tr.refl _ _)
 ·rw[hf] at hQ
  dsimp only at hQ
  rw[bZ,jJ]
  refine hg fun M1 k1=>?_
  rw[uo]
  have hd1:=hd.keep k1
  refine j3 (fun hgd=>?_) (fun hgd=>?_)
  ·have hgd:kL to=false:=by simpa using hgd
   rw[if_pos hgd] at hQ
   exact hQ own M1 ⟨_,_,_,_,hd1⟩ (Tr.keep k1)
  ·have hgd:kL to=true:=by simpa using hgd
   rw[if_neg (by rw[hgd]; simp)] at hQ
   rw[iI]
   refine⟨_,rfl, ?_⟩
   have e:(.agg [St to,.ptr b 0,St n] : AV)=.agg (di.cells (bX fbs (to,some f,n))):=by simp only[bX,Option.bind_some,hb]; rfl
   show cc [.ptr db 0,.agg [St to,.ptr b 0,St n]] M1 _
   rw[e]
   exact hc (ch:=(to,some f,n)) hd1 (fun g hg=>by cases hg; exact(List.getElem?_eq_some_iff.1 hb).1) hlen fun own' M' h1 h2=>hQ own' M' h1 ((Tr.keep k1).trans h2)
theorem vP {l:List Nat} {x:Nat} : ∀ i b:Nat,l[i]?=some b→(l++[x])[i]?=some b:=by
 intro i b h
 rw[List.getElem?_append_left (List.getElem?_eq_some_iff.1 h).1]; exact h
theorem bJ.EY {own:aS} {M:RM} {db:Nat} {s:bz} {fbs:List Nat} {nm sm:Nat} {cv:AV} (h:bJ TD TF TU TC own M db s fbs nm sm cv) :
  bJ TD TF TU TC (upd own M.next (.file s.files.length)) (M.push (.row [bN,N .i64 0] false TF 0)) db { s with files:=s.files++[([],0)] } (fbs++[M.next]) nm sm cv ∧
  Tr own M (upd own M.next (.file s.files.length)) (M.push (.row [bN,N .i64 0] false TF 0)):=by
 have hk:ae [] M (M.push (.row [bN,N .i64 0] false TF 0)):=(ae.refl _ _).push _
 have hn:own M.next=none:=by
  rcases ho:own M.next with _ | t
  ·rfl
  ·exact absurd (h.lt M.next (by rw[ho]; simp)) (Nat.lt_irrefl _)
 have hs:∀ {b:Nat} {t:Tag},own b=some t→upd own M.next (.file s.files.length) b=some t:=by
  intro b t hb
  rw[upd_ne (fun e=>by rw[e,hn] at hb; cases hb),hb]
 have hg:=vP (l:=fbs) (x:=M.next)
 have hd:=h.keep hk
 refine⟨⟨fun b hb=>?_,hs h.od,hd.row,((hd.names.step (ae.refl [] _) (by simp) (fun _ h=>hs h)).grow hg),((hd.safe.step (ae.refl [] _) (by simp) (fun _ h=>hs h)).grow hg),
  ((hd.chg.step (ae.refl [] _) (by simp) (fun _ h=>hs h)).grow hg (by simp)), ?_⟩,[],hk,by simp,fun b hb ho=>by rw[upd_ne (by omega)]; exact ho⟩
 ·by_cases e:b=M.next
  ·rw[e,aJ]; omega
  ·rw[upd_ne e] at hb
   exact Nat.lt_of_lt_of_le (h.lt b hb) hk.next
 ·have hf:=hd.files.step (own':=upd own M.next (.file s.files.length)) (ae.refl [] _) (by simp) (fun b i h=>by rcases h with h | h <;> rw[hs h,h])
  refine⟨by simp[hf.len],fun i f hi=>?_⟩
  rcases Nat.lt_or_ge i s.files.length with hlt | hge
  ·rw[List.getElem?_append_left hlt] at hi
   obtain⟨b,v,h1⟩:=hf.file i f hi
   exact⟨b,v,hg _ _ h1.at_,h1.lt,h1.tg,h1.heap,h1.fb,h1.le,h1.blk⟩
  ·rw[List.getElem?_append_right hge] at hi
   have hi0:i - s.files.length=0:=by
    have:=(List.getElem?_eq_some_iff.1 hi).1
    simp at this; omega
   rw[hi0] at hi
   cases hi
   have hi:i=s.files.length:=by omega
   subst hi
   refine⟨M.next,bN, ?_,by rw[aJ]; omega,ll,RM.bB _,.nil,Nat.le_refl _,by simp[av]⟩
   rw[← h.files.len]; simp
theorem zG {cg cc:aB} (hg:wE cg) (hc:kR TD TF TU TC cc) : vB TD TF TU TC fF fun args M Q=>∃ a0 a1,args=[a0,a1]∧fq cg TF cc a0 a1 M Q:=by
 intro own M db s n Q hd hlen hQ
 obtain⟨fbs,nm,sm,cv,hd⟩:=hd
 refine⟨_,_,rfl, ?_⟩
 unfold fq
 unfold fF at hQ
 refine hg fun M1 k1=>?_
 rw[uo]
 have hd1:=hd.keep k1
 refine j3 (fun hgd=>?_) (fun hgd=>?_)
 ·have hgd:kL n=false:=by simpa using hgd
  rw[if_pos hgd] at hQ
  exact hQ own M1 ⟨_,_,_,_,hd1⟩ (Tr.keep k1)
 ·have hgd:kL n=true:=by simpa using hgd
  rw[if_neg (by rw[hgd]; simp)] at hQ
  rw[ax,aj,aC (i:=0 + 1) hd1.row rfl]
  refine fI hd1.names (fun hn=>?_) (fun f b hf hb=>?_)
  ·rw[hn] at hQ
   rw[if_neg (by simp)] at hQ
   rw[cZ,Bool.not_true,jJ,iI]
   refine⟨_,rfl, ?_⟩
   rw[nL rfl (by simp),dD,iI]
   refine⟨_,rfl, ?_⟩
   obtain⟨hd2,t2⟩:=hd1.EY
   have hl:(fbs++[M1.next])[s.files.length]?=some M1.next:=by rw[← hd1.files.len]; simp
   have e:(.agg [St n,.ptr M1.next 0,St []] : AV)=.agg (di.cells (bX (fbs++[M1.next]) (n,some s.files.length,[]))):=by
    simp only[bX,Option.bind_some,hl]; rfl
   show cc [.ptr db 0,.agg [St n,.ptr M1.next 0,St []]] _ _
   rw[e]
   exact hc (ch:=(n,some s.files.length,[])) hd2 (fun g hg=>by cases hg; exact(List.getElem?_eq_some_iff.1 hl).1) hlen fun own' M' h1 h2=>hQ own' M' h1 ((Tr.keep k1).trans (t2.trans h2))
  ·rw[hf] at hQ
   rw[if_pos (by simp)] at hQ
   rw[bZ,lY]
   exact hQ own M1 ⟨_,_,_,_,hd1⟩ (Tr.keep k1)
end
section
variable {TD TF TU TC:Nat}
def Bz (n:Int) : bz:=⟨[],[],[],[],n,0,0⟩
def Bn (TD TF TU TC:Nat) (c:aB) : Prop:=∀ {M:RM} {n:Int} {Q:af},(n<0→Q (.tup [oo,N .i64 1]) M) →
 (¬ n<0→∀ own M' db,bE TD TF TU TC own M' db (Bz n)→(∀ b,b<M.next→own b=none)→ae [] M M'→Q (.tup [.ptr db 0,N .i64 0]) M')→c [N .i64 n] M Q
theorem DX:Bn TD TF TU TC fun args M Q=>∃ a0,args=[a0]∧jU TD a0 M Q:=by
 intro M n Q h1 h2
 refine⟨_,rfl, ?_⟩
 unfold jU
 rw[qB]
 refine j3 (fun hc=>h1 (of_decide_eq_true hc)) (fun hc=>?_)
 rw[dD,dD,iI]
 refine⟨_,rfl, ?_⟩
 rw[nL rfl (by show 1≤6; decide),dD]
 have k1:ae [] M (((M.push (.map [] 0)).push (.map [] 0)).push (.row [N .i64 n,.map M.next,.map (M.next + 1),bN,N .i64 0,N .i64 0] false TD 0)):=(((ae.refl _ _).push _).push _).push _
 refine h2 (of_decide_eq_false hc) (upd (upd (upd (fun _=>none) M.next .names) (M.next + 1) .safe) (M.next + 2) .disk) _ _ ?_ ?_ k1
 ·have e1:(((M.push (.map [] 0)).push (.map [] 0)).push (.row [N .i64 n,.map M.next,.map (M.next + 1),bN,N .i64 0,N .i64 0] false TD 0)).heap M.next=some (.map [] 0) :=
   kT (kT (RM.bB _) (by rw[aJ]; omega)) (by rw[aJ,aJ]; omega)
  have e2:(((M.push (.map [] 0)).push (.map [] 0)).push (.row [N .i64 n,.map M.next,.map (M.next + 1),bN,N .i64 0,N .i64 0] false TD 0)).heap (M.next + 1)=some (.map [] 0) :=
   kT (RM.bB _) (by rw[aJ,aJ]; omega)
  have o1:(upd (upd (upd (fun _=>none) M.next .names) (M.next + 1) .safe) (M.next + 2) .disk) M.next=some .names:=by
   rw[upd_ne (by omega),upd_ne (by omega),ll]
  have o2:(upd (upd (upd (fun _=>none) M.next .names) (M.next + 1) .safe) (M.next + 2) .disk) (M.next + 1)=some .safe:=by
   rw[upd_ne (by omega),ll]
  refine⟨[],M.next,M.next + 1,bN,fun b hb=>?_,ll,RM.bB _,⟨o1,by rw[aJ,aJ,aJ]; omega,[],0,e1,trivial⟩,⟨o2,by rw[aJ,aJ,aJ]; omega,[],0,e2,trivial⟩,.nil,⟨rfl,fun i f h=>by simp[Bz] at h⟩⟩
  simp only[upd] at hb
  rw[aJ,aJ,aJ]
  split at hb
  ·omega
  ·split at hb
   ·omega
   ·split at hb
    ·omega
    ·simp at hb
 ·intro b hb
  rw[upd_ne (by omega),upd_ne (by omega),upd_ne (by omega)]
def pR (c:aB) : Prop:=∀ {M:RM} {m cl:Nat} {es:List (AV × AV × Nat)} {Q:af},M.heap m=some (.map es cl)→Q (.map M.next) (M.push (.map es cl))→c [.map m] M Q
def Af (T:Nat) (c:aB) : Prop:=∀ {M:RM} {m cl:Nat} {es:List (AV × AV × Nat)} {Q:af},M.heap m=some (.map es cl)→Q (.ifc T (.map M.next)) (M.push (.map es cl))→c [.ifc T (.map m)] M Q
theorem zP {T:Nat} {x:aB} (hx:Af T x) : pR fun args M Q=>∃ a0,args=[a0]∧aP T x a0 M Q:=by
 intro M m cl es Q hh hQ
 refine⟨_,rfl, ?_⟩
 unfold aP
 rw[tQ,jJ]
 exact hx hh ⟨_,rfl,hQ⟩
theorem fresh {own:aS} {M:RM} (h:∀ b,own b≠none→b<M.next) : own M.next=none:=by
 rcases ho:own M.next with _ | t
 ·rfl
 ·exact absurd (h M.next (by rw[ho]; simp)) (Nat.lt_irrefl _)
def qQ (TD TF TU TC:Nat) (c:aB) : Prop:=∀ {own:aS} {M:RM} {db:Nat} {s:bz} {Q:af},bE TD TF TU TC own M db s →
 (∀ own' M',bE TD TF TU TC own' M' db (qO s)→Tr own M own' M'→Q (N .i64 0) M')→c [.ptr db 0] M Q
theorem bJ.copy {own:aS} {M:RM} {db:Nat} {s:bz} {fbs:List Nat} {nm sm m:Nat} {cv:AV} {es:List (AV × AV × Nat)} {cl:Nat} (h:bJ TD TF TU TC own M db s fbs nm sm cv) (he:bW fbs cl 0 es s.dir) :
  bJ TD TF TU TC (upd own M.next .safe) ((M.push (.map es cl)).put db (.row [N .i64 s.bA,.map nm,.map M.next,cv,N .i64 s.app,N .i64 s.syn] false TD 0)) db { s with iB:=s.dir } fbs nm M.next cv ∧
  Tr own M (upd own M.next .safe) ((M.push (.map es cl)).put db (.row [N .i64 s.bA,.map nm,.map M.next,cv,N .i64 s.app,N .i64 s.syn] false TD 0)):=by
 have k1:ae [] M (M.push (.map es cl)):=(ae.refl _ _).push _
 have hn:=fresh h.lt
 have hs:∀ {b:Nat} {t:Tag},own b=some t→upd own M.next .safe b=some t:=by
  intro b t hb
  rw[upd_ne (fun e=>by rw[e,hn] at hb; cases hb),hb]
 have hm:MapAt (upd own M.next .safe) (M.push (.map es cl)) fbs M.next s.dir .safe:=⟨ll,by rw[aJ]; omega,es,cl,RM.bB _,he⟩
 have hd:=h.keep k1
 have hd1:bJ TD TF TU TC (upd own M.next .safe) (M.push (.map es cl)) db s fbs nm sm cv:=by
  refine⟨fun b hb=>?_,hs h.od,hd.row,hd.names.step (ae.refl [] _) (by simp) (fun _ h=>hs h),hd.safe.step (ae.refl [] _) (by simp) (fun _ h=>hs h),hd.chg.step (ae.refl [] _) (by simp) (fun _ h=>hs h),
   hd.files.step (ae.refl [] _) (by simp) (fun b i h=>by rcases h with h | h <;> rw[hs h,h])⟩
  by_cases e:b=M.next
  ·rw[e,aJ]; omega
  ·rw[upd_ne e] at hb
   exact Nat.lt_of_lt_of_le (h.lt b hb) k1.next
 have t1:Tr own M (upd own M.next .safe) (M.push (.map es cl)):=⟨[],k1,by simp,fun b hb ho=>by rw[upd_ne (by omega)]; exact ho⟩
 exact⟨hd1.row' (s' := { s with iB:=s.dir }) _ rfl hd1.names hm hd1.chg hd1.files,t1.trans (kV _ (by rw[hd1.od]; simp))⟩
theorem bJ.calm {own:aS} {M:RM} {db:Nat} {s:bz} {fbs:List Nat} {nm sm:Nat} {cv:AV} (h:bJ TD TF TU TC own M db s fbs nm sm cv) :
  bJ TD TF TU TC own (M.put db (.row [N .i64 s.bA,.map nm,.map sm,bN,N .i64 s.app,N .i64 s.syn] false TD 0)) db { s with chg:=[] } fbs nm sm bN :=
 h.row' (s' := { s with chg:=[] }) _ rfl h.names h.safe .nil h.files
theorem xR {cm ca:aB} (hm:pR cm) (ha:qL ca) : qQ TD TF TU TC fun args M Q=>∃ a0,args=[a0]∧eZ cm ca a0 M Q:=by
 intro own M db s Q hd hQ
 obtain⟨fbs,nm,sm,cv,hd⟩:=hd
 refine⟨_,rfl, ?_⟩
 unfold eZ
 rw[ax,aj,aC (i:=0 + 1) hd.row rfl]
 obtain⟨es,cl,hh,he⟩:=hd.names.heap
 refine hm hh ?_
 have k1:ae [] M (M.push (.map es cl)):=(ae.refl _ _).push _
 obtain⟨hd2,t2⟩:=hd.copy (m:=nm) he
 rw[ax,aj,dR (i:=0 + 2) [N .i64 s.bA,.map nm,.map M.next,cv,N .i64 s.app,N .i64 s.syn] (k1.bF hd.row hd.zX (by simp)) (by simp) rfl rfl rfl]
 generalize (M.push (.map es cl)).put db (.row [N .i64 s.bA,.map nm,.map M.next,cv,N .i64 s.app,N .i64 s.syn] false TD 0)=M2 at *
 have hd3:=hd2.calm
 rw[ax,aj,dR (i:=0 + 3) [N .i64 s.bA,.map nm,.map M.next,bN,N .i64 s.app,N .i64 s.syn] hd2.row (by simp) rfl rfl rfl]
 have t3:Tr (upd own M.next .safe) M2 (upd own M.next .safe) (M2.put db (.row [N .i64 s.bA,.map nm,.map M.next,bN,N .i64 s.app,N .i64 s.syn] false TD 0)):=kV _ (by rw[hd2.od]; simp)
 dsimp only at hd3
 generalize M2.put db (.row [N .i64 s.bA,.map nm,.map M.next,bN,N .i64 s.app,N .i64 s.syn] false TD 0)=M3 at *
 rw[ax,aj]
 refine ha (o:=0 + 5) hd3.row rfl ?_
 exact hQ _ _ ⟨_,_,_,_,hd3.row' (s':=qO s) _ rfl hd3.names hd3.safe hd3.chg hd3.files⟩ ((t2.trans t3).trans (kV _ (by rw[hd3.od]; simp)))
def iy (fs:List jY) (seen:List Nat) : List (AV × AV × Nat)→Dir→Nat
 | e :: es,d :: ds=>(if e.2.2∈seen then(fs[d.2]?.getD ([],0)).1.length else 0) + iy fs seen es ds
 | _,_=>0
def mh (seen:List Nat) : List (AV × AV × Nat)→Nat
 | []=>0
 | e :: es=>(if e.2.2∈seen then 0 else 1) + mh seen es
section
variable {fbs:List Nat} {cl:Nat} {fs:List jY}
theorem Ao (seen:List Nat) : ∀ {es:List (AV × AV × Nat)} {d:Dir} {lo:Nat},bW fbs cl lo es d→iy fs seen es d≤tot fs d
 | [],[],_,_=>Nat.le_refl _
 | e :: es,_ :: d,_,⟨_,_,_,_,h⟩=>by
   have:=Ao seen h
   simp only[iy,tot]; split <;> omega
theorem xU (seen:List Nat) : ∀ {es:List (AV × AV × Nat)} {d:Dir} {lo:Nat},bW fbs cl lo es d→(∀ e∈es,e.2.2∈seen)→iy fs seen es d=tot fs d
 | [],[],_,_,_=>rfl
 | e :: es,_ :: d,_,⟨_,_,_,_,h⟩,ha=>by
   have:=xU seen h (fun e he=>ha e (List.mem_cons_of_mem _ he))
   simp only[iy,tot,if_pos (ha e (List.mem_cons_self ..)),this]
theorem xN:∀ {es:List (AV × AV × Nat)} {d:Dir},iy fs [] es d=0
 | [],_=>by cases ‹Dir› <;> rfl
 | e :: es,[]=>rfl
 | e :: es,d :: ds=>by simp[iy,xN (es:=es)]
theorem Al (seen:List Nat) (k:Nat) : ∀ {es:List (AV × AV × Nat)} {d:Dir} {lo:Nat},bW fbs cl lo es d→k<lo→iy fs (seen++[k]) es d=iy fs seen es d∧mh (seen++[k]) es=mh seen es
 | [],[],_,_,_=>⟨rfl,rfl⟩
 | e :: es,_ :: d,lo,⟨_,_,h1,_,h⟩,hk=>by
   obtain⟨a1,a2⟩:=Al seen k h (by omega)
   have:(e.2.2∈seen++[k])=(e.2.2∈seen):=by
    simp only[List.mem_append,List.mem_singleton,eq_iff_iff]
    exact⟨fun h=>h.resolve_right (by omega),.inl⟩
   simp only[iy,mh,a1,a2,this,and_self]
theorem qY (seen:List Nat) : ∀ {es:List (AV × AV × Nat)} {d:Dir} {lo:Nat},bW fbs cl lo es d→∀ n∈es,n.2.2 ∉ seen →
  ∃ (f b:Nat),fbs[f]?=some b∧n.2.1=.ptr b 0∧es.find? (fun e=>e.2.2 == n.2.2)=some n∧lo≤n.2.2∧n.2.2<cl∧iy fs (seen++[n.2.2]) es d=iy fs seen es d + (fs[f]?.getD ([],0)).1.length∧mh (seen++[n.2.2]) es<mh seen es
 | [],[],_,_,n,hn,_=>by cases hn
 | e :: es,x :: d,lo,⟨h0,⟨b,h1,h2⟩,h3,h4,h⟩,n,hn,hs=>by
   rcases List.mem_cons.1 hn with rfl | hn
   ·obtain⟨a1,a2⟩:=Al (fs:=fs) seen n.2.2 h (by omega)
    refine⟨x.2,b,h1,h2,by simp,h3,h4, ?_, ?_⟩
    ·simp only[iy,a1,List.mem_append,List.mem_singleton,or_true,if_true,if_neg hs]; omega
    ·simp only[mh,a2,List.mem_append,List.mem_singleton,or_true,if_true,if_neg hs]; omega
   ·obtain⟨f,b',q1,q2,q3,q4,q5,q6,q7⟩:=qY seen h n hn hs
    have hne:e.2.2≠n.2.2:=by omega
    have:(e.2.2∈seen++[n.2.2])=(e.2.2∈seen):=by
     simp only[List.mem_append,List.mem_singleton,eq_iff_iff]
     exact⟨fun h=>h.resolve_right hne,.inl⟩
    refine⟨f,b',q1,q2, ?_,by omega,q5, ?_, ?_⟩
    ·rw[List.find?_cons_of_neg (by simpa using hne)]; exact q3
    ·simp only[iy,q6,this]; omega
    ·simp only[mh,this]; omega
end
def rF (TD TF TU TC:Nat) (c:aB) : Prop:=∀ {own:aS} {M:RM} {db:Nat} {s:bz} {Q:af},bE TD TF TU TC own M db s→tot s.files s.dir<4611686018427387904 →
 (∀ M',ae [] M M'→Q (N .i64 (tot s.files s.dir:Int)) M')→c [.ptr db 0] M Q
theorem AX:rF TD TF TU TC fun args M Q=>∃ a0,args=[a0]∧fZ a0 M Q:=by
 intro own M db s Q hd hlen hQ
 obtain⟨fbs,nm,sm,cv,hd⟩:=hd
 refine⟨_,rfl, ?_⟩
 unfold fZ
 rw[ax,aj,aC (i:=0 + 1) hd.row rfl]
 obtain⟨es,cl,hh,he⟩:=hd.names.heap
 refine⟨nm,es,cl,rfl,hh, ?_⟩
 have hnl:=hd.names.lt
 have k1:ae [] M (M.push (.iter (some nm) cl [] cl)):=(ae.refl _ _).push _
 refine oC (fun z ys M'=>∃ seen,z=mh seen es∧ys=[N .i64 (iy s.files seen es s.dir:Int)]∧ae [] M M'∧M.next<M'.next∧M'.heap M.next=some (.iter (some nm) cl seen cl)) (mh [] es)
  ⟨[],rfl,by rw[xN]; rfl,k1,by rw[aJ]; omega,RM.bB _⟩ ?_
 rintro next z ys M' hnext ⟨seen,rfl,rfl,k2,n2,h2⟩
 dsimp only[dS]
 have hm:=k2.bF hh hnl (by simp)
 refine⟨M.next,nm,cl,seen,cl,es,cl,rfl,h2,hm, ?_,fun n hn hs=>?_,fun ha=>?_⟩
 ·cases es with
  | nil=>exact .inr (.inl rfl)
  | cons e es =>
    refine .inr (.inr ⟨e,List.mem_cons_self .., ?_⟩)
    cases hdd:s.dir with
    | nil=>rw[hdd] at he; exact he.elim
    | cons x d=>rw[hdd] at he; exact he.2.2.2.1
 ·obtain⟨f,b,q1,q2,q3,q4,q5,q6,q7⟩:=qY (fs:=s.files) seen he n hn hs
  rw[mX,lY]
  have k3:ae [] M (M'.put M.next (.iter (some nm) cl (seen++[n.2.2]) cl)):=k2.put _ (.inl (Nat.le_refl _))
  have h3:(M'.put M.next (.iter (some nm) cl (seen++[n.2.2]) cl)).heap M.next=some (.iter (some nm) cl (seen++[n.2.2]) cl):=aW _
  have hm3:=k3.bF hh hnl (by simp)
  refine⟨M.next,nm,cl,seen,es,cl,n.2.2,n,rfl,h3,hm3,q3, ?_⟩
  dsimp only
  rw[pI,q2,ax,aj]
  obtain⟨fl,v,hfl,hat⟩:=(hd.keep k3).files.at q1
  rw[hfl] at q6
  have hle:=Ao (fs:=s.files) (seen++[n.2.2]) he
  simp only[Option.getD_some] at q6
  rw[aC (i:=0 + 0) hat.heap rfl,bC.len hat.fb.sl,addN (by omega),← q6]
  exact hnext _ _ _ q7 ⟨_,rfl,rfl,k3,n2,h3⟩
 ·dsimp only
  rw[mX,jJ]
  rw[xU (fs:=s.files) seen he (fun e hm2=>?_)]
  ·exact hQ M' k2
  ·rcases Classical.em (e.2.2∈seen) with h | h
   ·exact h
   ·have:=ha e hm2 h
    obtain⟨f,b,q1,q2,q3,q4,q5,q6,q7⟩:=qY (fs:=s.files) seen he e hm2 h
    omega
theorem FQ {M:RM} {TU:Nat} {v u:AV} {xs ys:List UInt8} {K:af} (h:FB M TU v xs) (hu:Sl BY M u ys) (hn:xs.length + ys.length≤140737488355328)
  (hK:∀ v' M',FB M' TU v' (xs++ys)→ae (av v) M M'→(v'=v∨∀ b∈av v',M.next≤b)→K v' M') : appW TU 1 1 [(N .u8 0)] false v u M K:=by
 have own:∀ {w:AV} {M' : RM},Ow BY M' 0 TU w (xs++ys)→FB M' TU w (xs++ys):=by
  intro w M' ho
  generalize hz:xs++ys=zs at *
  unfold Ow at ho
  generalize hl:zs.length=n at ho
  generalize hr:BY.row zs=cs at ho
  cases ho with
  | nil =>
    have:zs=[]:=List.length_eq_zero_iff.1 hl
    rw[this]; exact .nil
  | ex0 b o h1 h2 h3 =>
    obtain⟨l,h4,h5⟩:=h3
    exact .ex b o 0 zs h2 (by rw[hr]; exact ko h4 h5) hl
  | op b n cs h1 h2 h3 h4 =>
    subst hl
    exact .op b zs h2 (by rw[hr]; exact h3)
 cases h with
 | nil=>exact ul (E:=BY) (base:=0) (xs:=[]) .nil (Nat.zero_le _) (by decide) hu (by omega) hn fun v' M' h1 h2 h3 h4=>hK v' M' (own h1) h2 h4
 | op b xs hl hh =>
   exact ul (E:=BY) (base:=0) (xs:=xs) (.op b xs.length _ (Nat.zero_le _) hl hh (by rw[BY.gm])) (Nat.zero_le _) (by decide) hu (by omega) hn fun v' M' h1 h2 h3 h4=>hK v' M' (own h1) h2 h4
 | ex b o n xs hl hh h2 =>
   subst h2
   refine⟨ys.length,BY.row ys,bC.l7 hu _,by omega,by omega, ?_⟩
   simp only[mD]
   by_cases h0:ys.length=0
   ·rw[if_pos h0,if_pos (Nat.le_refl _)]
    refine⟨_,_,rfl,hK _ _ ?_ (ae.refl _ _) (.inl rfl)⟩
    rw[List.length_eq_zero_iff.1 h0,List.append_nil]
    exact .ex b o xs.length xs hl hh rfl
   ·rw[if_neg h0,if_neg (by omega),Nat.mul_one,hh]
    have h1:((BY.row xs++BY.row ys).all oneCell)=true:=by rw[List.all_append,BY.mJ,BY.mJ]; rfl
    dsimp only
    rw[if_pos ⟨by omega,hn,h1⟩]
    refine⟨_,_,rfl,hK _ _ ?_ ((ae.refl _ _).push _) (.inr (by simp[av]))⟩
    have e:xs.length + ys.length=(xs++ys).length:=by simp
    rw[e,← BY.sV]
    exact .op M.next (xs++ys) (by rw[aJ]; omega) (RM.bB _)
def pG (TD TF TU TC:Nat) (c:aB) : Prop:=∀ {own:aS} {M:RM} {db:Nat} {s:bz} {n:Nm} {v:AV} {b:List UInt8} {Q:af},bE TD TF TU TC own M db s→Sl BY M v b→tot s.files s.dir<4611686018427387904→0≤s.bA→s.bA<9223372036854775808 →
 (∀ f∈s.files,f.1.length + b.length≤140737488355328) →
 (∀ own' M',bE TD TF TU TC own' M' db (iF s n b).1→Tr own M own' M'→Q (N .i64 (iF s n b).2) M')→c [.ptr db 0,St n,v] M Q
theorem zH {ct ca:aB} (ht:rF TD TF TU TC ct) (ha:qL ca) : pG TD TF TU TC fun args M Q=>∃ a0 a1 a2,args=[a0,a1,a2]∧fw ct TU ca a0 a1 a2 M Q:=by
 intro own M db s n u ys Q hd hu htot hq0 hq1 hlen hQ
 have hd0:=hd
 obtain⟨fbs,nm,sm,cv,hd⟩:=hd
 refine⟨_,_,_,rfl, ?_⟩
 unfold fw
 rw[ax,aj,aC (i:=0 + 1) hd.row rfl]
 unfold iF at hQ
 refine fI hd.names (fun hn=>?_) (fun f b hf hb=>?_)
 ·rw[hn] at hQ
  rw[cZ,Bool.not_false,lY]
  exact hQ own M hd0 (Tr.refl _ _)
 ·rw[hf] at hQ
  dsimp only at hQ
  rw[bZ,jJ,bC.len hu,ax,aj,aC (i:=0 + 0) hd.row rfl]
  refine ht hd0 htot fun M1 k1=>?_
  have hd1:=hd.keep k1
  have hu1:Sl BY M1 u ys:=bC.keep hu k1 (by simp)
  rw[aC (i:=0 + 0) hd1.row rfl]
  refine⟨rfl, ?_⟩
  rw[yB,jG (by omega) (by omega),Eb]
  refine j3 (fun hc=>?_) (fun hc=>?_)
  ·have hc:=of_decide_eq_true hc
   rw[if_pos hc] at hQ
   exact hQ own M1 ⟨_,_,_,_,hd1⟩ (Tr.keep k1)
  ·have hc:=of_decide_eq_false hc
   rw[if_neg hc] at hQ
   obtain⟨fl,v,hfl,hat⟩:=hd1.files.at hb
   have hff:iP s f=fl:=by unfold iP; rw[hfl]; rfl
   have hfi:=(List.getElem?_eq_some_iff.1 hfl).1
   rw[hff] at hQ
   rw[ax,aj,aC (i:=0 + 0) hat.heap rfl]
   refine FQ hat.fb hu1 (hlen fl (List.mem_of_getElem? hfl)) fun v' M2 fb2 k2 hv=>?_
   let own' : aS:=fun b=>if b∈av v' then some (.bytes f) else own b
   have hlt1:∀ b,own b≠none→b<M1.next:=hd1.lt
   have hsame:∀ b,own b≠none→own b≠some (.bytes f)→own' b=own b:=by
    intro b hb hb2
    show(if b∈av v' then some (Tag.bytes f) else own b)=own b
    rw[if_neg]
    intro hm
    rcases hv with rfl | hv
    ·exact hb2 (hat.blk b hm)
    ·have:=hv b hm; have:=hlt1 b hb; omega
   have hsome:∀ {t:Tag} {b:Nat},own b=some t→t≠.bytes f→own' b=some t:=by
    intro t b hb ht
    rw[hsame b (by rw[hb]; simp) (by rw[hb]; simpa using ht),hb]
   have hbt:∀ t:Tag,t≠.bytes f→∀ c∈av v,own c≠some t:=by
    intro t ht c hc; rw[hat.blk c hc]; simpa using fun e=>ht e.symm
   have hlt2:∀ b,own' b≠none→b<M2.next:=by
    intro b hb
    by_cases hm:b∈av v'
    ·exact fb2.FP b hm
    ·have:own' b=own b:=if_neg hm
     rw[this] at hb; have:=hlt1 b hb; have:=k2.next; omega
   have hbs:=hat.tg
   have hb2:=k2.bF hat.heap hat.lt (fun hm=>hbt _ (by simp) b hm hbs)
   rw[ax,aj,dR (i:=0 + 0) [v',N .i64 (fl.2:Int)] hb2 (by simp) fb2.one.2.1 fb2.one.1 rfl]
   have k3:ae [b] M2 (M2.put b (.row [v',N .i64 (fl.2:Int)] false TF 0)):=(ae.refl _ _).put _ (.inr (by simp))
   have k23:ae (b :: av v) M1 (M2.put b (.row [v',N .i64 (fl.2:Int)] false TF 0)):=(k2.mono (fun c hc=>List.mem_cons_of_mem _ hc)).put _ (.inr (by simp))
   have hin:∀ t:Tag,t≠.bytes f→t≠.file f→∀ c∈b :: av v,own c≠some t:=by
    intro t h1 h2 c hc
    rcases List.mem_cons.1 hc with rfl | hc
    ·rw[hbs]; simpa using fun e=>h2 e.symm
    ·exact hbt t h1 c hc
   have II:gQ TF TU own' (M2.put b (.row [v',N .i64 (fl.2:Int)] false TF 0)) fbs f b v' (fl.1++ys,fl.2):=by
    refine⟨hat.at_,Nat.lt_of_lt_of_le hat.lt k23.next,hsome hbs (by simp),aW _,fb2.keep k3 (fun c hc hm=>?_),by have:=hat.le; simp only[List.length_append]; omega,fun c hc=>if_pos hc⟩
    rw[List.mem_singleton] at hm
    have:own' c=some (.bytes f):=if_pos hc
    rw[hm,hsome hbs (by simp)] at this; cases this
   have f3:=hd1.files.set (own':=own') hfi II k23 (fun c hc j hj=>⟨hin _ (by simp) (by simpa using hj) c hc,hin _ (by simpa using hj) (by simp) c hc⟩)
    (fun c j hj h=>by rcases h with h | h <;> rw[hsome h (by first | (simp; done) | simpa using hj),h])
   have r3:=k23.bF hd1.row hd1.zX (fun hm=>hin .disk (by simp) (by simp) _ hm hd.od)
   have n3:=hd1.names.step (own':=own') k23 (hin _ (by simp) (by simp)) (fun c h=>hsome h (by simp))
   have s3:=hd1.safe.step (own':=own') k23 (hin _ (by simp) (by simp)) (fun c h=>hsome h (by simp))
   have c3:=hd1.chg.step (own':=own') k23 (hin _ (by simp) (by simp)) (fun c h=>hsome h (by simp))
   have hlt3:∀ c,own' c≠none→c<(M2.put b (.row [v',N .i64 (fl.2:Int)] false TF 0)).next:=hlt2
   have t3:Tr own M1 own' (M2.put b (.row [v',N .i64 (fl.2:Int)] false TF 0)):=by
    refine⟨_,k23,fun c hc=>?_,fun c hc ho=>?_⟩
    ·rcases List.mem_cons.1 hc with rfl | hc
     ·rw[hbs]; simp
     ·rw[hat.blk c hc]; simp
    ·show(if c∈av v' then some (Tag.bytes f) else own c)=none
     rw[if_neg,ho]
     intro hm
     rcases hv with rfl | hv
     ·rw[hat.blk c hm] at ho; cases ho
     ·have:=hv c hm; omega
   generalize M2.put b (.row [v',N .i64 (fl.2:Int)] false TF 0)=M3 at *
   rw[ax,aj]
   refine ha (o:=0 + 4) r3 rfl ?_
   have hd3:bJ TD TF TU TC own' M3 db { s with files:=s.files.set f (fl.1++ys,fl.2) } fbs nm sm cv:=⟨hlt3,hsome hd.od (by simp),r3,n3,s3,c3,f3⟩
   exact hQ own' _ ⟨_,_,_,_,hd3.row' (s' := { s with files:=s.files.set f (fl.1++ys,fl.2),app:=wI (s.app + 1) }) _ rfl n3 s3 c3 f3⟩ (((Tr.keep k1).trans t3).trans (kV _ (by rw[hd3.od]; simp)))
def BV (TD TF TU TC:Nat) (c:aB) : Prop:=∀ {own:aS} {M:RM} {db:Nat} {s:bz} {Q:af},bE TD TF TU TC own M db s→tot s.files s.dir<4611686018427387904 →
 (∀ M',ae [] M M'→Q (.agg [N .i64 (s.dir.length:Int),N .i64 (tot s.files s.dir:Int),N .i64 s.app,N .i64 s.syn]) M')→c [.ptr db 0] M Q
theorem CQ {TS:Nat} {ct cl:aB} (ht:rF TD TF TU TC ct) (hl:rW cl) : BV TD TF TU TC fun args M Q=>∃ a0,args=[a0]∧gu TS ct cl a0 M Q:=by
 intro own M db s Q hd htot hQ
 obtain⟨fbs,nm,sm,cv,hd⟩:=hd
 refine⟨_,rfl, ?_⟩
 unfold gu
 rw[dD]
 have k1:ae [] M (M.push (.row [(N .i64 0),(N .i64 0),(N .i64 0),(N .i64 0)] false TS 0)):=(ae.refl _ _).push _
 have n1:(M.push (.row [(N .i64 0),(N .i64 0),(N .i64 0),(N .i64 0)] false TS 0)).next=M.next + 1:=aJ _
 have h1:(M.push (.row [(N .i64 0),(N .i64 0),(N .i64 0),(N .i64 0)] false TS 0)).heap M.next=some (.row [(N .i64 0),(N .i64 0),(N .i64 0),(N .i64 0)] false TS 0):=RM.bB _
 generalize M.push (.row [(N .i64 0),(N .i64 0),(N .i64 0),(N .i64 0)] false TS 0)=M1 at *
 have hd1:=hd.keep k1
 rw[ax,aj,aC (i:=0 + 1) hd1.row rfl,Bc hd1.names,ax,aj,ax,aj]
 refine ht ⟨_,_,_,_,hd1⟩ htot fun M2 k2=>?_
 have hd2:=hd1.keep k2
 refine hl (o:=0 + 4) hd2.row rfl ?_
 refine hl (o:=0 + 5) hd2.row rfl ?_
 rw[iI]
 refine⟨_,rfl, ?_⟩
 have h2:=k2.bF h1 (by omega) (by simp)
 rw[nV (n:=4) h2 rfl rfl rfl,nN (n:=4) (aW _) rfl]
 exact hQ _ ((k1.trans k2).put _ (.inl (Nat.le_refl _)))
end
def iQ:Nm→Nm→Bool
 | [],_=>true
 | _ :: _,[]=>false
 | a :: x,b :: y=>decide (a.toNat<b.toNat) || (decide (a.toNat=b.toNat) && iQ x y)
def rD (x:Nm) : List Nm→List Nm
 | []=>[x]
 | y :: l=>if iQ x y then x :: y :: l else y :: rD x l
def fU:List Nm→List Nm
 | []=>[]
 | x :: l=>rD x (fU l)
theorem o6 (x:Nm) : ∀ l,(rD x l).Perm (x :: l)
 | []=>.refl _
 | y :: l=>by
   unfold rD
   split
   ·exact .refl _
   ·exact((o6 x l).cons y).trans (.swap _ _ _)
theorem iO:∀ l,(fU l).Perm l
 | []=>.refl _
 | x :: l=>(o6 x _).trans ((iO l).cons x)
def aH (d:Dir) : List Nm:=d.map (·.1)
theorem Ay {n:Nm} : ∀ {d:Dir},n∈aH d→∃ f,jh d n=some f
 | [],h=>by cases h
 | e :: d,h=>by
   unfold jh
   by_cases hn:n=e.1
   ·exact⟨_,if_pos hn⟩
   ·rw[if_neg hn]
    exact Ay ((List.mem_cons.1 h).resolve_left hn)
def Ee (fs:List jY) (f:Nat) (p:List Int) (i:Nat) : List jY :=
 let fl:=fs[f]?.getD ([],0)
 let k:=fl.2 + dJ p i (fl.1.length - fl.2 + 1)
 fs.set f (fl.1.take k,k)
def mI (d:Dir) (p:List Int) : List Nm→Nat→List jY→List jY
 | [],_,fs=>fs
 | n :: ns,i,fs=>mI d p ns (i + 1) (match jh d n with | some f=>Ee fs f p i | none=>fs)
def bK (s:bz) (p:List Int) : Dir:=(s.chg.take (dJ p 0 (s.chg.length + 1))).foldl jZ s.iB
def yL (s:bz) (p:List Int) : bz :=
 { s with files:=mI (bK s p) p (fU (aH (bK s p))) 1 s.files,dir:=bK s p,iB:=bK s p,chg:=[] }
theorem yF {p:List Int} {i n:Nat} (hn:1≤n) : dJ p i n<n:=by
 unfold dJ
 split
 ·omega
 ·split
  ·omega
  ·exact Nat.mod_lt _ hn
section
variable {M:RM} {TU:Nat}
theorem FV {v:AV} {xs:List UInt8} (h:FB M TU v xs) {k:Nat} (hk:k≤xs.length) :
  ∃ v',iX 1 v none (some (N .i64 (k:Int))) (some (N .i64 (k:Int)))=some v'∧FB M TU v' (xs.take k)∧∀ c∈av v',c∈av v:=by
 have hb:∀ d,bnd d (some (N .i64 (k:Int)))=some k:=fun d=>by simp[bnd]
 have hb0:bnd 0 none=some 0:=rfl
 have ex:∀ {b o:Nat},b<M.next→M.loads b o k=some (BY.row (xs.take k)) →
   ∃ v',(if k=0 then some (AV.slc b o 0 (.ex 0)) else some (.slc b (o + 0 * 1) (k - 0) (.ex (k - 0))))=some v'∧FB M TU v' (xs.take k)∧∀ c∈av v',c∈[b]:=by
  intro b o hl hh
  by_cases h0:k=0
  ·subst h0
   rw[if_pos rfl]
   exact⟨_,rfl,.ex b o 0 _ hl hh (by simp),by simp[av]⟩
  ·rw[if_neg h0,Nat.zero_mul,Nat.add_zero,Nat.sub_zero]
   exact⟨_,rfl,.ex b o k _ hl hh (by rw[List.length_take]; omega),by simp[av]⟩
 cases h with
 | nil =>
   have:k=0:=by simpa using hk
   subst this
   exact⟨bN,rfl,.nil,fun c hc=>hc⟩
 | op b xs hl hh =>
   have hld:M.loads b 0 k=some (BY.row (xs.take k)):=by
    have e:=BY.gm xs
    have:BY.size=1:=rfl
    rw[RM.iE hh (by rw[e,this]; omega),List.drop_zero]
    have:=BY.nS xs k
    rw[show k * BY.size=k from Nat.mul_one k] at this
    rw[this]
   obtain⟨v',h1,h2,h3⟩:=ex hl hld
   refine⟨v', ?_,h2,fun c hc=>by simpa [av] using h3 c hc⟩
   simp only[iX,hb,hb0,Nat.zero_le,Nat.le_refl,true_and]
   rw[if_pos hk]; exact h1
 | ex b o n xs hl hh h2 =>
   subst h2
   have hld:M.loads b o k=some (BY.row (xs.take k)):=by
    have:=Bv hh k hk
    have e:=BY.nS xs k
    rw[show k * BY.size=k from Nat.mul_one k] at e
    rw[this,e]
   obtain⟨v',h1,h2,h3⟩:=ex hl hld
   refine⟨v', ?_,h2,fun c hc=>by simpa [av] using h3 c hc⟩
   simp only[iX,hb,hb0,Nat.zero_le,Nat.le_refl,true_and]
   rw[if_pos hk]; exact h1
end
theorem Gi {α:Type} {E:Enc α} {M:RM} {base T:Nat} {v:AV} {xs:List α} (h:Ow E M base T v xs) {k:Nat} (hk:k≤xs.length) :
  ∃ v',iX E.size v none (some (N .i64 (k:Int))) none=some v'∧Sl E M v' (xs.take k)∧∀ c∈av v',c∈av v:=by
 have hb:∀ d,bnd d (some (N .i64 (k:Int)))=some k:=fun d=>by simp[bnd]
 have hb0:bnd 0 none=some 0:=rfl
 have hs:Sl E M v xs:=Own.xD h
 unfold Ow at h
 generalize hl:xs.length=n at h hk
 generalize hr:E.row xs=cs at h
 cases h with
 | nil =>
   have:k=0:=by omega
   subst this
   exact⟨bN,rfl,by rw[List.take_zero]; exact .nil,fun c hc=>hc⟩
 | ex0 b o h1 h2 h3 =>
   have:k=0:=by omega
   subst this
   refine⟨.slc b o 0 (.ex 0),by simp[iX,hb0,hb,bnd], ?_,fun c hc=>hc⟩
   obtain⟨l,h4,h5⟩:=h3
   rw[List.take_zero]
   exact .slc b o 0 _ [] h2 (by rw[Nat.zero_mul]; exact ko h4 h5)
 | op b n cs h1 h2 h3 h4 =>
   subst hl hr
   have e:iX E.size (.slc b 0 xs.length (.op E.size)) none (some (N .i64 (k:Int))) none=if xs.length=0 then some (.emp b) else some (.slc b 0 k (.op E.size)):=by
    simp only[iX,hb,hb0,Nat.zero_le,true_and,and_true,Nat.zero_mul,Nat.add_zero,Nat.sub_zero,if_pos hk,Nat.le_zero]
   rw[e]
   by_cases h0:xs.length=0
   ·rw[if_pos h0]
    refine⟨_,rfl, ?_,fun c hc=>?_⟩
    ·have:xs=[]:=List.length_eq_zero_iff.1 h0
     rw[this,List.take_nil]
     exact .emp b
    ·simp[av] at hc
   ·rw[if_neg h0]
    refine⟨_,rfl, ?_,fun c hc=>hc⟩
    have hln:(xs.take k).length=k:=by rw[List.length_take]; omega
    show bC M E.size (.slc b 0 k (.op E.size)) (E.row (xs.take k)) (xs.take k).length
    rw[hln]
    refine .slc _ _ _ _ _ h2 ?_
    have:=Nat.mul_le_mul_right E.size hk
    rw[RM.iE h3 (by rw[h4]; omega),List.drop_zero,E.nS]
theorem wQ (n:Nm) : ∀ d:Dir,(iA d n).length≤d.length
 | []=>Nat.le_refl _
 | e :: d=>by
   have:=wQ n d
   unfold iA
   split <;> simp <;> omega
theorem xY (n:Nm) (f:Nat) : ∀ d:Dir,(iY d n f).length≤d.length + 1
 | []=>Nat.le_refl _
 | e :: d=>by
   have:=xY n f d
   unfold iY
   split <;> simp <;> omega
theorem EQ (d:Dir) (c:kW) : (jZ d c).length≤d.length + 1:=by
 have h1:(if c.2.2≠[] then iA d c.2.2 else d).length≤d.length:=by
  split
  ·exact wQ _ _
  ·exact Nat.le_refl _
 unfold jZ
 dsimp only
 cases c.2.1 with
 | none=>exact Nat.le_succ_of_le h1
 | some f=>exact Nat.le_trans (xY _ _ _) (Nat.succ_le_succ h1)
theorem xS:∀ (cs:List kW) (d:Dir),(cs.foldl jZ d).length≤d.length + cs.length
 | [],d=>Nat.le_refl _
 | c :: cs,d=>by
   have:=xS cs (jZ d c)
   have:=EQ d c
   simp only[List.foldl_cons,List.length_cons]; omega
theorem qI (n:Nm) : ∀ d:Dir,(aH (iA d n)).Sublist (aH d)
 | []=>.slnil
 | e :: d=>by
   unfold iA
   split
   ·exact .cons _ (List.Sublist.refl _)
   ·exact(qI n d).cons_cons _
theorem nH (n:Nm) (f:Nat) : ∀ d:Dir,n∈aH d∧aH (iY d n f)=aH d∨n ∉ aH d∧aH (iY d n f)=aH d++[n]
 | []=>.inr ⟨by simp[aH],rfl⟩
 | e :: d=>by
   unfold iY
   by_cases h:n=e.1
   ·rw[if_pos h]
    exact .inl ⟨by simp[aH,h],by simp[aH,h]⟩
   ·rw[if_neg h]
    rcases nH n f d with⟨h1,h2⟩ | ⟨h1,h2⟩
    ·refine .inl ⟨List.mem_cons_of_mem _ h1, ?_⟩
     simp only[aH,List.map_cons] at h2 ⊢; rw[h2]
    ·refine .inr ⟨?_, ?_⟩
     ·simp only[aH,List.map_cons,List.mem_cons,not_or] at h1 ⊢; exact⟨h,h1⟩
     ·simp only[aH,List.map_cons,List.cons_append] at h2 ⊢; rw[h2]
theorem BL {d:Dir} (h:(aH d).Nodup) (n:Nm) (f:Nat) : (aH (iY d n f)).Nodup:=by
 rcases nH n f d with⟨h1,h2⟩ | ⟨h1,h2⟩
 ·rw[h2]; exact h
 ·rw[h2,List.nodup_append]
  refine⟨h,by simp,fun a ha b hb=>?_⟩
  rw[List.mem_singleton] at hb; subst hb
  exact fun e=>h1 (e▸ha)
theorem CR {d:Dir} (h:(aH d).Nodup) (c:kW) : (aH (jZ d c)).Nodup:=by
 have h1:(aH (if c.2.2≠[] then iA d c.2.2 else d)).Nodup:=by
  split
  ·exact h.sublist (qI _ _)
  ·exact h
 unfold jZ
 dsimp only
 cases c.2.1 with
 | none=>exact h1
 | some f=>exact BL h1 _ _
def j6 (d:Dir) : Prop:=(aH d).Nodup∧∀ n∈aH d,n.length≤64
theorem DZ {n:Nm} {f:Nat} {d:Dir} : ∀ x∈aH (iY d n f),x∈aH d∨x=n:=by
 intro x hx
 rcases nH n f d with⟨_,h⟩ | ⟨_,h⟩
 ·rw[h] at hx; exact .inl hx
 ·rw[h] at hx; simpa using hx
theorem FY {d:Dir} (h:j6 d) {c:kW} (hc:c.1.length≤64) : j6 (jZ d c):=by
 refine⟨CR h.1 c, ?_⟩
 have h1:∀ n∈aH (if c.2.2≠[] then iA d c.2.2 else d),n.length≤64:=by
  split
  ·exact fun n hn=>h.2 n ((qI _ _).subset hn)
  ·exact h.2
 unfold jZ
 dsimp only
 cases c.2.1 with
 | none=>exact h1
 | some f =>
   intro n hn
   rcases DZ n hn with hn | rfl
   ·exact h1 n hn
   ·exact hc
theorem Aa:∀ (cs:List kW) {d:Dir},j6 d→(∀ c∈cs,c.1.length≤64)→j6 (cs.foldl jZ d)
 | [],_,h,_=>h
 | c :: cs,_,h,hc=>Aa cs (FY h (hc c (List.mem_cons_self ..))) fun x hx=>hc x (List.mem_cons_of_mem _ hx)
section
variable {TD TF TU TC:Nat}
def vT (TD TF TU TC TS:Nat) (c:aB) : Prop:=∀ {own:aS} {M:RM} {db:Nat} {s:bz} {Q:af},bE TD TF TU TC own M db s→s.dir.length≤4000000000→j6 s.dir →
 (∀ v M',Ow EC M' M.next TS v (fU (aH s.dir))→ae [] M M'→Q v M')→c [.ptr db 0] M Q
def wP (TD TF TU TC:Nat) (c:aB) : Prop:=∀ {own:aS} {M:RM} {db:Nat} {s:bz} {v:AV} {p:List Int} {Q:af},bE TD TF TU TC own M db s→Sl INT M v p→(∀ b∈av v,own b=none) →
 s.chg.length≤1000000000→s.iB.length≤1000000000→j6 s.iB→(∀ c∈s.chg,c.1.length≤64)→(∀ f∈s.files,f.1.length≤140737488355328) →
 (∀ own' M',bE TD TF TU TC own' M' db (yL s p)→Tr own M own' M'→Q (.tup []) M')→c [.ptr db 0,v] M Q
theorem BO {TS:Nat} {cp cdo cm cl:aB} (hp:Ch cp) (hdo:Ev cdo) (hm:pR cm) (hl:vT TD TF TU TC TS cl) : wP TD TF TU TC fun args M Q=>∃ a0 a1,args=[a0,a1]∧fK cp TC cdo cm cl a0 a1 M Q:=by
 intro own M db s v p Q hd hv hvo hc1 hc2 hnd hcw hfl hQ
 obtain⟨fbs,nm,sm,cv,hd⟩:=hd
 refine⟨_,_,rfl, ?_⟩
 unfold fK
 have hvl:∀ b∈av v,b<M.next:=bC.lt hv
 have ho:∀ {b c:Nat} {t u:Tag},own b=some t→own c=some u→t≠u→b≠c:=fun h1 h2 h3 e=>by rw[e,h2] at h1; cases h1; exact h3 rfl
 rw[ax,aj,aC (i:=0 + 2) hd.row rfl,ax,aj,dR (i:=0 + 1) [N .i64 s.bA,.map sm,.map sm,cv,N .i64 s.app,N .i64 s.syn] hd.row (by simp) rfl rfl rfl]
 have k1:ae [db] M (M.put db (.row [N .i64 s.bA,.map sm,.map sm,cv,N .i64 s.app,N .i64 s.syn] false TD 0)):=(ae.refl _ _).put _ (.inr (by simp))
 have r1:(M.put db (.row [N .i64 s.bA,.map sm,.map sm,cv,N .i64 s.app,N .i64 s.syn] false TD 0)).heap db=some (.row [N .i64 s.bA,.map sm,.map sm,cv,N .i64 s.app,N .i64 s.syn] false TD 0):=aW _
 have s1:=hd.safe.step k1 (iU hd.od (by simp)) (fun _ h=>h)
 have c1:=hd.chg.step k1 (iU hd.od (by simp)) (fun _ h=>h)
 have f1:=hd.files.step (own':=own) k1 (fun b hb i=>⟨iU hd.od (by simp) b hb,iU hd.od (by simp) b hb⟩) (fun _ _ _=>rfl)
 have hdl:=hd.zX
 have n1:(M.put db (.row [N .i64 s.bA,.map sm,.map sm,cv,N .i64 s.app,N .i64 s.syn] false TD 0)).next=M.next:=rfl
 have v1:Sl INT (M.put db (.row [N .i64 s.bA,.map sm,.map sm,cv,N .i64 s.app,N .i64 s.syn] false TD 0)) v p:=bC.keep hv k1 (fun b hb hm=>by rw[List.mem_singleton] at hm; have:=hvo b hb; rw[hm,hd.od] at this; cases this)
 have hlt:∀ b,own b≠none→b<M.next:=hd.lt
 generalize M.put db (.row [N .i64 s.bA,.map sm,.map sm,cv,N .i64 s.app,N .i64 s.syn] false TD 0)=M1 at *
 have hlen:(s.chg.map (bX fbs)).length=s.chg.length:=List.length_map _
 rw[ax,aj,aC (i:=0 + 3) r1 rfl,ax,aj,aC (i:=0 + 3) r1 rfl,bC.len (Own.xD c1.ow),hlen,add1 (by omega),show(N .i64 (0:Int))=N .i64 ((0:Nat) : Int) from rfl]
 refine hp v1 (by omega) ?_
 have hk:dJ p 0 (s.chg.length + 1)<s.chg.length + 1:=yF (by omega)
 have hD:bK s p=(s.chg.take (dJ p 0 (s.chg.length + 1))).foldl jZ s.iB:=rfl
 generalize hkk:dJ p 0 (s.chg.length + 1)=k at *
 rw[aC (i:=0 + 3) r1 rfl]
 refine⟨rfl, ?_⟩
 obtain⟨w,e1,sw,hw⟩:=Gi c1.ow (k:=k) (by rw[hlen]; omega)
 rw[show iX 3 cv none (some (N .i64 (k:Int))) none=some w from e1,uR]
 have hwl:((s.chg.map (bX fbs)).take k).length=k:=by rw[List.length_take,hlen]; omega
 rw[bC.len sw,hwl]
 have hwo:∀ b∈av w,own b=some .chg:=fun b hb=>c1.blk b (hw b hb)
 refine oC (fun z ys M'=>∃ i:Nat,z=k - i∧ys=[N .i64 (i:Int)]∧i≤k∧ae [sm] M1 M'∧MapAt own M' fbs sm ((s.chg.take i).foldl jZ s.iB) .safe) k ⟨0,rfl,rfl,Nat.zero_le _,ae.refl _ _,s1⟩ ?_
 rintro next z ys M2 hnext ⟨i,rfl,rfl,hik,k2,m2⟩
 dsimp only[dS]
 rw[Fv]
 have n2:=k2.next
 have hst:=hd.safe.tg
 have r2:=k2.bF r1 (by omega) (by simp; exact ho hd.od hst (by simp))
 refine j3 (fun hlt2=>?_) (fun hge=>?_)
 ·have hlt2:i<k:=of_decide_eq_true hlt2
  have sw2:Sl di M2 w ((s.chg.map (bX fbs)).take k):=bC.keep sw k2 (fun b hb hm=>by rw[List.mem_singleton] at hm; have:=hwo b hb; rw[hm,hst] at this; cases this)
  obtain⟨b,o,_,_,hidx,hld⟩:=Sl.at sw2 (i:=i) 3 (i:Int) (by omega)
  have hi:i<s.chg.length:=by omega
  have hget:((s.chg.map (bX fbs)).take k)[i]=bX fbs s.chg[i]:=by
   rw[List.getElem_take,List.getElem_map]
  rw[hget] at hld
  rw[hidx,uU,hld]
  simp only[Option.some.injEq,exists_eq_left']
  rw[dD,nV (n:=3) (x:=.agg (di.cells (bX fbs s.chg[i]))) (l:=[(St []),oo,(St [])]) (RM.bB _) (di.len _) rfl (di.one _)]
  have k3:ae [sm] M2 ((M2.push (.row [(St []),oo,(St [])] false TC 0)).put M2.next (.row (AV.agg (di.cells (bX fbs s.chg[i]))).cells false TC 0)):=((ae.refl _ _).push _).new _ (Nat.le_refl _)
  have k3' : ae [] M2 ((M2.push (.row [(St []),oo,(St [])] false TC 0)).put M2.next (.row (AV.agg (di.cells (bX fbs s.chg[i]))).cells false TC 0)):=((ae.refl _ _).push _).new _ (Nat.le_refl _)
  have h3:((M2.push (.row [(St []),oo,(St [])] false TC 0)).put M2.next (.row (AV.agg (di.cells (bX fbs s.chg[i]))).cells false TC 0)).heap M2.next=some (.row (di.cells (bX fbs s.chg[i])) false TC 0):=aW _
  generalize (M2.push (.row [(St []),oo,(St [])] false TC 0)).put M2.next (.row (AV.agg (di.cells (bX fbs s.chg[i]))).cells false TC 0)=M3 at *
  rw[nN (n:=3) h3 (di.len _),ax,aj,aC (i:=0 + 1) (k3'.bF r2 (by omega) (by simp)) rfl]
  refine hdo (m2.step k3' (by simp) (fun _ h=>h)) (c1.wf _ (List.getElem_mem hi)) fun M4 m4 k4=>?_
  rw[add1 (by omega)]
  refine hnext _ _ _ (by omega) ⟨i + 1,rfl,rfl,by omega,(k2.trans k3).trans k4, ?_⟩
  rw[List.take_succ_eq_append_getElem hi,List.foldl_append]
  exact m4
 ·have he:i=k:=by
   have:¬ i<k:=of_decide_eq_false hge
   omega
  subst he
  rw[← hD] at m2
  have cds:=xS (s.chg.take i) s.iB
  rw[← hD,List.length_take] at cds
  have cdn:=Aa (s.chg.take i) hnd (fun c hc=>hcw c (List.mem_of_mem_take hc))
  rw[← hD] at cdn
  rw[ax,aj,aC (i:=0 + 1) r2 rfl]
  obtain⟨es,cl',hh2,he2⟩:=m2.heap
  refine hm hh2 ?_
  have hn2:own M2.next=none:=by
   rcases hq:own M2.next with _ | t
   ·rfl
   ·have:=hlt M2.next (by rw[hq]; simp); omega
  have k3:ae [] M2 (M2.push (.map es cl')):=(ae.refl _ _).push _
  have h3:(M2.push (.map es cl')).heap M2.next=some (.map es cl'):=RM.bB _
  have n3:(M2.push (.map es cl')).next=M2.next + 1:=aJ _
  have r3:=k3.bF r2 (by omega) (by simp)
  generalize M2.push (.map es cl')=M3 at *
  rw[ax,aj,dR (i:=0 + 2) [N .i64 s.bA,.map sm,.map M2.next,cv,N .i64 s.app,N .i64 s.syn] r3 (by simp) rfl rfl rfl,
   ax,aj,dR (i:=0 + 3) [N .i64 s.bA,.map sm,.map M2.next,bN,N .i64 s.app,N .i64 s.syn] (aW _) (by simp) rfl rfl rfl]
  have k5:ae [db] M3 ((M3.put db (.row [N .i64 s.bA,.map sm,.map M2.next,cv,N .i64 s.app,N .i64 s.syn] false TD 0)).put db (.row [N .i64 s.bA,.map sm,.map M2.next,bN,N .i64 s.app,N .i64 s.syn] false TD 0)):=((ae.refl _ _).put _ (.inr (by simp))).put _ (.inr (by simp))
  have r5:((M3.put db (.row [N .i64 s.bA,.map sm,.map M2.next,cv,N .i64 s.app,N .i64 s.syn] false TD 0)).put db (.row [N .i64 s.bA,.map sm,.map M2.next,bN,N .i64 s.app,N .i64 s.syn] false TD 0)).heap db=some (.row [N .i64 s.bA,.map sm,.map M2.next,bN,N .i64 s.app,N .i64 s.syn] false TD 0):=aW _
  generalize (M3.put db (.row [N .i64 s.bA,.map sm,.map M2.next,cv,N .i64 s.app,N .i64 s.syn] false TD 0)).put db (.row [N .i64 s.bA,.map sm,.map M2.next,bN,N .i64 s.app,N .i64 s.syn] false TD 0)=M5 at *
  have n5:=k5.next
  have k25:ae [db] M2 M5:=(k3.mono (by simp)).trans k5
  have k15:ae [db,sm] M1 M5:=(k2.mono (by simp)).trans (k25.mono (by simp))
  let own' : aS:=upd (upd own sm .names) M2.next .safe
  have hsm:sm<M.next:=hlt sm (by rw[hst]; simp)
  have osm:own' sm=some .names:=by
   show upd (upd own sm .names) M2.next .safe sm=_
   rw[upd_ne (by omega),ll]
  have onw:own' M2.next=some .safe:=ll
  have hsame:∀ {b:Nat} {t:Tag},own b=some t→t≠.safe→own' b=some t:=by
   intro b t hb ht
   show upd (upd own sm .names) M2.next .safe b=_
   rw[upd_ne (fun e=>by rw[e,hn2] at hb; cases hb),upd_ne (fun e=>by rw[e,hst] at hb; cases hb; exact ht rfl),hb]
  have hnone:∀ b,b<M.next→own b=none→own' b=none:=by
   intro b hb ho'
   show upd (upd own sm .names) M2.next .safe b=_
   rw[upd_ne (by omega),upd_ne (fun e=>by rw[e,hst] at ho'; cases ho'),ho']
  have od':=hsame hd.od (by simp)
  have hin:∀ t:Tag,t≠.disk→t≠.safe→∀ b∈[db,sm],own b≠some t:=by
   intro t h1 h2 b hb
   simp only[List.mem_cons,List.not_mem_nil,or_false] at hb
   rcases hb with rfl | rfl
   ·rw[hd.od]; simpa using fun e=>h1 e.symm
   ·rw[hst]; simpa using fun e=>h2 e.symm
  have f5:=f1.step (own':=own') k15 (fun b hb i=>⟨hin _ (by simp) (by simp) b hb,hin _ (by simp) (by simp) b hb⟩) (fun b i h=>by rcases h with h | h <;> rw[hsame h (by simp),h])
  have m5:MapAt own' M5 fbs sm (bK s p) .names:=⟨osm,by omega,es,cl',k25.bF hh2 (by omega) (by simp; exact fun e=>ho hd.od hst (by simp) e.symm),he2⟩
  have s5:MapAt own' M5 fbs M2.next (bK s p) .safe:=⟨onw,by omega,es,cl',k5.bF h3 (by omega) (by simp; omega),he2⟩
  have FD:∀ b,own' b≠none→b<M5.next:=by
   intro b hb
   rcases Nat.lt_or_ge b M5.next with h | h
   ·exact h
   ·exfalso
    apply hb
    show upd (upd own sm .names) M2.next .safe b=_
    rw[upd_ne (by omega),upd_ne (by omega)]
    rcases hq:own b with _ | t
    ·rfl
    ·have:=hlt b (by rw[hq]; simp); omega
  have hd5:bJ TD TF TU TC own' M5 db { s with dir:=bK s p,iB:=bK s p,chg:=[] } fbs sm M2.next bN:=⟨FD,od',r5,m5,s5,.nil,f5⟩
  have t5:Tr own M own' M5:=by
   refine⟨[db,sm],(k1.mono (by simp)).trans k15, ?_,hnone⟩
   intro b hb
   simp only[List.mem_cons,List.not_mem_nil,or_false] at hb
   rcases hb with rfl | rfl
   ·rw[hd.od]; simp
   ·rw[hst]; simp
  have v5:Sl INT M5 v p:=bC.keep v1 k15 (fun b hb hm=>by
   have:=hvo b hb
   simp only[List.mem_cons,List.not_mem_nil,or_false] at hm
   rcases hm with rfl | rfl
   ·rw[hd.od] at this; cases this
   ·rw[hst] at this; cases this)
  have Ir:∀ b∈av v,own' b=none:=fun b hb=>hnone b (hvl b hb) (hvo b hb)
  refine hl (s := { s with dir:=bK s p,iB:=bK s p,chg:=[] }) ⟨_,_,_,_,hd5⟩ (by show(bK s p).length≤_; omega) cdn fun lv M6 lo k6=>?_
  dsimp only at lo
  have hd6:=hd5.keep k6
  have v6:Sl INT M6 v p:=bC.keep v5 k6 (by simp)
  have hmem:∀ n∈fU (aH (bK s p)),∃ f,jh (bK s p) n=some f:=fun n hn=>Ay ((iO _).mem_iff.1 hn)
  have hCF:yL s p = { s with files:=mI (bK s p) p (fU (aH (bK s p))) 1 s.files,dir:=bK s p,iB:=bK s p,chg:=[] } := rfl
  have hllen:(fU (aH (bK s p))).length=(bK s p).length:=by rw[(iO _).length_eq,aH,List.length_map]
  generalize hCL:mI (bK s p) p (fU (aH (bK s p))) 1 s.files=fin at *
  generalize hll:fU (aH (bK s p))=l at *
  generalize bK s p=d1 at *
  rw[bC.len (Own.xD lo)]
  have hfo:∀ b∈fbs,∃ i,own' b=some (.file i):=by
   intro b hb
   obtain⟨i,hi⟩:=List.getElem?_of_mem hb
   obtain⟨f,w,_,hat⟩:=f5.at hi
   exact⟨i,hat.tg⟩
  have hft:∀ t:Tag,(∀ i,t≠.file i)→∀ b∈fbs,own' b≠some t:=by
   intro t ht b hb
   obtain⟨i,hi⟩:=hfo b hb
   rw[hi]; simpa using fun e=>ht i e.symm
  have hlb:=Own.blk lo
  refine oC (fun z ys M'=>∃ (i:Nat) (fs:List jY),z=l.length - i∧ys=[N .i64 (i:Int)]∧i≤l.length∧ae fbs M6 M'∧fB TF TU own' M' fbs fs∧(∀ f∈fs,f.1.length≤140737488355328)∧mI d1 p (l.drop i) (i + 1) fs=fin) l.length
   ⟨0,s.files,rfl,rfl,Nat.zero_le _,ae.refl _ _,hd6.files,hfl,hCL⟩ ?_
  rintro next z ys M7 hnext ⟨i,fs,rfl,rfl,hil,k7,f7,FI,hcl⟩
  dsimp only[dS]
  rw[Fv]
  have r7:=k7.bF hd6.row hd6.zX (fun hm=>hft .disk (by simp) _ hm hd6.od)
  have m7:=hd6.names.step k7 (hft _ (by simp)) (fun _ h=>h)
  refine j3 (fun hlt3=>?_) (fun hge=>?_)
  ·have hlt3:i<l.length:=of_decide_eq_true hlt3
   have lo7:Sl EC M7 lv l:=bC.keep (Own.xD lo) k7 (fun b hb hm=>by
    obtain⟨j,hj⟩:=hfo b hm
    have:=(hlb b hb).1
    have:=FD b (by rw[hj]; simp)
    omega)
   obtain⟨lb,lof,_,_,hidx,hcell⟩:=Sl.Fp lo7 (i:=i) (i:Int) hlt3
   rw[hidx,lV,hcell (St l[i]) rfl]
   simp only[Option.some.injEq,exists_eq_left']
   obtain⟨f,hf⟩:=hmem l[i] (List.getElem_mem hlt3)
   rw[List.drop_eq_getElem_cons hlt3] at hcl
   unfold mI at hcl
   rw[hf] at hcl
   dsimp only at hcl
   rw[ax,aj,aC (i:=0 + 1) r7 rfl]
   refine fI m7 (fun hn=>by rw[hf] at hn; cases hn) (fun f' b hf' hb=>?_)
   rw[hf] at hf'
   cases hf'
   obtain⟨fl,w7,Dy,hat⟩:=f7.at hb
   have hfi:=(List.getElem?_eq_some_iff.1 Dy).1
   have hfln:=FI fl (List.mem_of_getElem? Dy)
   have hle:=hat.le
   have hpk:dJ p (i + 1) (fl.1.length - fl.2 + 1)<fl.1.length - fl.2 + 1:=yF (by omega)
   have hcf:Ee fs f p (i + 1)=fs.set f (fl.1.take (fl.2 + dJ p (i + 1) (fl.1.length - fl.2 + 1)),fl.2 + dJ p (i + 1) (fl.1.length - fl.2 + 1)):=by
    unfold Ee; rw[Dy]; rfl
   rw[hcf] at hcl
   rw[ax,aj,aC (i:=0 + 1) hat.heap rfl,add1 (by omega),ax,aj,aC (i:=0 + 0) hat.heap rfl,bC.len hat.fb.sl,ax,aj,aC (i:=0 + 1) hat.heap rfl,Ii hle (by omega),add1 (by omega)]
   have v7:Sl INT M7 v p:=bC.keep v6 k7 (fun b hb hm=>by
    obtain⟨j,hj⟩:=hfo b hm
    rw[Ir b hb] at hj; cases hj)
   refine hp v7 (by omega) ?_
   generalize dJ p (i + 1) (fl.1.length - fl.2 + 1)=pk at *
   rw[aC (i:=0 + 1) hat.heap rfl]
   refine⟨rfl, ?_⟩
   have htb:=hat.tg
   rw[addN (by omega),ax,aj,dR (i:=0 + 1) [w7,N .i64 ((fl.2 + pk:Nat) : Int)] hat.heap (by simp) rfl rfl rfl]
   have k8:ae [b] M7 (M7.put b (.row [w7,N .i64 ((fl.2 + pk:Nat) : Int)] false TF 0)):=(ae.refl _ _).put _ (.inr (by simp))
   have h8:(M7.put b (.row [w7,N .i64 ((fl.2 + pk:Nat) : Int)] false TF 0)).heap b=some (.row [w7,N .i64 ((fl.2 + pk:Nat) : Int)] false TF 0):=aW _
   have fb8:=hat.fb.keep k8 (fun c hc hm=>by rw[List.mem_singleton] at hm; have:=hat.blk c hc; rw[hm,htb] at this; cases this)
   generalize M7.put b (.row [w7,N .i64 ((fl.2 + pk:Nat) : Int)] false TF 0)=M8 at *
   rw[ax,aj,aC (i:=0 + 0) h8 rfl,ax,aj,aC (i:=0 + 1) h8 rfl,ax,aj,aC (i:=0 + 1) h8 rfl]
   obtain⟨w9,e9,fb9,hw9⟩:=FV fb8 (k:=fl.2 + pk) (by omega)
   rw[e9,uR,ax,aj,dR (i:=0 + 0) [w9,N .i64 ((fl.2 + pk:Nat) : Int)] h8 (by simp) fb9.one.2.1 fb9.one.1 rfl,add1 (by omega)]
   have k9:ae [b] M8 (M8.put b (.row [w9,N .i64 ((fl.2 + pk:Nat) : Int)] false TF 0)):=(ae.refl _ _).put _ (.inr (by simp))
   have k79:=k8.trans k9
   have Hy:gQ TF TU own' (M8.put b (.row [w9,N .i64 ((fl.2 + pk:Nat) : Int)] false TF 0)) fbs f b w9 (fl.1.take (fl.2 + pk),fl.2 + pk):=by
    refine⟨hat.at_,Nat.lt_of_lt_of_le hat.lt k79.next,htb,aW _,fb9.keep k9 (fun c hc hm=>?_),by show _≤(fl.1.take (fl.2 + pk)).length; rw[List.length_take]; omega,fun c hc=>hat.blk c (hw9 c hc)⟩
    rw[List.mem_singleton] at hm
    have:=hat.blk c (hw9 c hc)
    rw[hm,htb] at this; cases this
   have f9:=f7.set (own':=own') hfi Hy k79 (fun c hc j hj=>⟨iU htb (by simpa using hj) c hc,iU htb (by simp) c hc⟩) (fun _ _ _ _=>rfl)
   refine hnext _ _ _ (by omega) ⟨i + 1,_,rfl,rfl,by omega,k7.trans (k79.mono (fun c hc=>by rw[List.mem_singleton] at hc; rw[hc]; exact List.mem_of_getElem? hb)),f9,fun g hg=>?_,hcl⟩
   rcases List.mem_or_eq_of_mem_set hg with hg | rfl
   ·exact FI g hg
   ·show(fl.1.take (fl.2 + pk)).length≤_
    rw[List.length_take]; omega
  ·have he:i=l.length:=by
    have:¬ i<l.length:=of_decide_eq_false hge
    omega
   subst he
   rw[List.drop_length] at hcl
   have hcl:fs=fin:=hcl
   subst hcl
   rw[hCF] at hQ
   have s7:=hd6.safe.step k7 (hft _ (by simp)) (fun _ h=>h)
   refine hQ own' M7 ⟨fbs,sm,M2.next,bN,fun b hb=>Nat.lt_of_lt_of_le (hd6.lt b hb) k7.next,od',r7,m7,s7,.nil,f7⟩ ((t5.trans (Tr.keep k6)).trans ⟨fbs,k7,fun b hb=>?_,fun _ _ h=>h⟩)
   obtain⟨j,hj⟩:=hfo b hb
   rw[hj]; simp
end
theorem mP:∀ x y:Nm,iQ x y=decide (x≤y)
 | [],y=>by simp[iQ]
 | a :: x,[]=>by simp[iQ]
 | a :: x,b :: y=>by
   rw[iQ,mP x y,Bool.eq_iff_iff]
   simp only[Bool.or_eq_true,Bool.and_eq_true,decide_eq_true_eq,List.cons_le_cons_iff]
   rw[UInt8.lt_iff_toNat_lt,← UInt8.toNat_inj]
theorem vG (x y:Nm) : (iQ x y || iQ y x)=true:=by
 rw[mP,mP,Bool.or_eq_true,decide_eq_true_eq,decide_eq_true_eq]
 exact Std.Total.total x y
theorem uO (x y z:Nm) (h1:iQ x y=true) (h2:iQ y z=true) : iQ x z=true:=by
 rw[mP,decide_eq_true_eq] at *
 exact List.le_trans h1 h2
theorem D7 (x y:Nm) (h1:iQ x y=true) (h2:iQ y x=true) : x=y:=by
 rw[mP,decide_eq_true_eq] at *
 exact List.le_antisymm h1 h2
theorem qj (x:Nm) : ∀ {l:List Nm},l.Pairwise (fun a b=>iQ a b=true)→(rD x l).Pairwise (fun a b=>iQ a b=true)
 | [],_=>by simp[rD]
 | y :: l,h=>by
   unfold rD
   split
   ·rename_i hxy
    refine List.pairwise_cons.2 ⟨fun z hz=>?_,h⟩
    rcases List.mem_cons.1 hz with rfl | hz
    ·exact hxy
    ·exact uO _ _ _ hxy ((List.pairwise_cons.1 h).1 z hz)
   ·rename_i hxy
    have hyx:iQ y x=true:=by have:=vG x y; simp only[Bool.not_eq_true] at hxy; rw[hxy] at this; simpa using this
    refine List.pairwise_cons.2 ⟨fun z hz=>?_,qj x (List.pairwise_cons.1 h).2⟩
    rcases List.mem_cons.1 ((o6 x l).mem_iff.1 hz) with rfl | hz
    ·exact hyx
    ·exact(List.pairwise_cons.1 h).1 z hz
theorem oQ:∀ l:List Nm,(fU l).Pairwise (fun a b=>iQ a b=true)
 | []=>.nil
 | x :: l=>qj x (oQ l)
theorem zD {ss l:List Nm} (h:ss.Perm l) : ss.mergeSort (fun x y=>decide (x≤y))=fU l:=by
 have e:(fun x y:Nm=>decide (x≤y))=iQ:=by funext x y; rw[mP]
 rw[e]
 refine List.Perm.eq_of_pairwise (le:=fun a b=>iQ a b=true) (fun a b _ _ h1 h2=>D7 a b h1 h2) ?_ (oQ l) ((List.mergeSort_perm _ _).trans (h.trans (iO l).symm))
 exact List.pairwise_mergeSort uO vG ss
def Aj (TS TM g:Nat) (c:aB) : Prop:=∀ {own:aS} {M:RM} {fbs:List Nat} {m b:Nat} {d:Dir} {t:Tag} {Q:af},MapAt own M fbs m d t→M.heap b=some (.row [.map m] false TM 0)→b<M.next→d.length≤4000000000→j6 d →
 (∀ v M',Ow EC M' M.next TS v (fU (aH d))→ae [] M M'→Q v M')→c [.fn (.func g) [] [.ptr b 0]] M Q
def BG (TM g:Nat) (c:aB) : Prop:=∀ {M:RM} {m:Nat} {Q:af},Q (.fn (.func g) [] [.ptr M.next 0]) (M.push (.row [.map m] false TM 0))→c [.map m] M Q
theorem CO {TM g:Nat} : BG TM g fun args M Q=>∃ a0,args=[a0]∧aQ TM g a0 M Q:=by
 intro M m Q hQ
 refine⟨_,rfl, ?_⟩
 unfold aQ
 refine⟨rfl,by show 1≤1; decide, ?_⟩
 dsimp only
 rw[dD]
 exact hQ
section
variable {TD TF TU TC:Nat}
theorem CS {TS TM g:Nat} {ck cs:aB} (hk:BG TM g ck) (hs:Aj TS TM g cs) : vT TD TF TU TC TS fun args M Q=>∃ a0,args=[a0]∧gz ck cs a0 M Q:=by
 intro own M db s Q hd hlen hw hQ
 obtain⟨fbs,nm,sm,cv,hd⟩:=hd
 refine⟨_,rfl, ?_⟩
 unfold gz
 rw[ax,aj,aC (i:=0 + 1) hd.row rfl]
 refine hk ?_
 have k1:ae [] M (M.push (.row [.map nm] false TM 0)):=(ae.refl _ _).push _
 refine hs ((hd.keep k1).names) (RM.bB _) (by rw[aJ]; omega) hlen hw fun v M' o k=>?_
 exact hQ v M' (Own.mono o (by rw[aJ]; omega)) (k1.trans k)
end
end Go.Ab.Dk
namespace Go.Ab
open Go Go.RowKit
section
variable {P:Program} {ρ:Ren} {M:RM} {w w' : World}
theorem Dp {base:Base} {A:AW} (hw0:aT P base ρ A w) (hbl:Below w.heap.size w w') (hbase:base≤w.heap.size) {x:dI} {ob:Obj} {i:bT} (hge:w.heap.size≤i.cb) (hob:w'.heap[i.cb]?=some ob)
  (hrel:dO P (ρ.add A.next i) i x ob) : aT P base (ρ.add A.next i) (A.push x) w'∧Step base A.next ρ w (ρ.add A.next i) w':=by
 have hb:ρ A.next=none:=hw0.fresh (Nat.le_refl _)
 have hw:=mr hw0 x
 have hx:(A.push x).heap.get A.next=some x:=by simp[AW.push,Tree.aI]
 have hlt:A.next<(A.push x).next:=by simp[AW.push]
 have hle:=Ren.jQ (i:=i) hb
 have hadd:∀ c j,ρ.add A.next i c=some j→(c=A.next∧j=i)∨(c≠A.next∧ρ c=some j):=by
  intro c j h
  unfold Ren.add at h
  split at h
  ·cases h; exact .inl ⟨‹_›,rfl⟩
  ·exact .inr ⟨‹_›,h⟩
 have hcb:i.cb<w'.heap.size:=(Array.getElem?_eq_some_iff.1 hob).1
 refine⟨⟨?_, ?_, ?_,hw.top, ?_,base.low w _ (fun c hc=>hbl.block c (by omega)) hw.inv⟩,⟨hbl.os,hbl.tape,hbl.output,hbl.size, ?_, ?_, ?_,fun c hc=>hbl.block c (by omega)⟩⟩
 ·intro c j h
  rcases hadd c j h with⟨rfl,rfl⟩ | ⟨_,h⟩
  ·exact⟨hlt,hcb⟩
  ·have:=hw.dom c j h; have:=hbl.size; omega
 ·intro c j y h hy
  rcases hadd c j h with⟨rfl,rfl⟩ | ⟨_,h⟩
  ·rw[hx] at hy; cases hy
   exact⟨ob,hob,hrel⟩
  ·obtain⟨o,ho,hr⟩:=hw.blk c j y h hy
   exact⟨o,by rw[hbl.block j.cb (hw.dom c j h).2]; exact ho,hr.mono hle⟩
 ·intro b1 b2 i1 i2 x1 x2 h1 h2 g1 g2 he
  rcases hadd _ _ h1 with⟨e1,f1⟩ | ⟨_,k1⟩ <;> rcases hadd _ _ h2 with⟨e2,f2⟩ | ⟨_,k2⟩
  ·rw[e1,e2]
  ·have:=(hw.dom _ _ k2).2; subst f1; omega
  ·have:=(hw.dom _ _ k1).2; subst f2; omega
  ·exact hw.sep _ _ _ _ _ _ k1 k2 g1 g2 he
 ·intro c j y h hy
  rcases hadd c j h with⟨rfl,rfl⟩ | ⟨_,h⟩
  ·omega
  ·exact hw.lo c j y h hy
 ·intro c hc _; exact hbl.block c hc
 ·intro c hc; unfold Ren.add; rw[if_neg (by omega)]
 ·intro c j h
  rcases hadd c j h with⟨rfl,rfl⟩ | ⟨_,h⟩
  ·exact .inr hge
  ·exact .inl ⟨c,j,h,rfl⟩
theorem cu.F6 {f:FuncId} {args:List AV} {T n:Nat} {cs:List AV} {Q:af} (hP:uq P f) (hsz:az P T=some 1) (h1:cs.all oneCell=true) (hlen:cs.length=n)
  (h:∀ (ρ:Ren) (w:World) (us:List Value),au ρ args us→aX P ρ M w→Calls P f ⟨us⟩ w fun e w'=>∃ v xs,e=.returned v∧w'.ownsRow w.heap.size T 1 v n xs∧(∀ ρ',au ρ' cs xs)∧Below w.heap.size w w')
  (hQ:∀ v M',Own M' M.next T 1 v cs n→ae [] M M'→Q v M') : cu P f args M Q:=by
 refine⟨hP,fun ρ w us hargs hw=>(h ρ w us hargs hw).mono fun e w' hR=>?_⟩
 obtain⟨v,xs,rfl,⟨hxl,hrow⟩,hrel,hbl⟩:=hR
 rcases hrow with⟨rfl,h0⟩ | ⟨g,cap,cur,rfl,hge,hg,r1,r2,r3,r4⟩
 ·have:cs=[]:=List.length_eq_zero_iff.1 (by omega)
  subst this
  have hn:n=0:=h0
  subst hn
  exact⟨_,bN,M,ρ,rfl,After.below hw hbl,.sc _ rfl,hQ _ _ .nil (ae.refl _ _)⟩
 ·obtain⟨A,hA⟩:=hw
  obtain⟨tr,htr⟩:=eu cs .leaf 0 h1
  obtain⟨_,hget⟩:=bI _ _ _ htr
  obtain⟨_,hcell⟩:=mq htr
  have hblk:dO P (ρ.add A.next ⟨g,0,cap,1⟩) ⟨g,0,cap,1⟩ (.row n tr [] true T 0) (.cells cur T (0,0)):=by
   refine⟨cur,(0,0),rfl,⟨by show 0 + n≤_; omega,fun k x hx=>?_,fun k _ _=>by simp,fun h=>(by cases h),fun _=>⟨Nat.one_pos,by show cur.size=0 + cap * 1; omega,hsz⟩,rfl⟩⟩
   obtain⟨hk1,hk2⟩:=fC hx
   rw[hget,if_pos (by omega),Nat.sub_zero] at hk2
   obtain⟨v,hv,hvr⟩:=(hrel (ρ.add A.next ⟨g,0,cap,1⟩)).get hk2
   refine⟨v, ?_,hvr⟩
   show cur[0 + k]?=some v
   rw[Nat.zero_add,← Array.getElem?_toList]
   rw[← r4,Nat.mul_one,List.getElem?_take_of_lt (by omega)] at hv
   exact hv
  obtain⟨q1,q2⟩:=Dp hA.rel hbl (Nat.le_trans (show M.base.n≤M.lo from Nat.le_refl _) hA.size) (i:=⟨g,0,cap,1⟩) hge hg hblk
  obtain⟨k1,k2,k3⟩:=RM.kZ hA (x:=.row cs true T 0) (y:=.row n tr [] true T 0) ⟨hlen,rfl,rfl,rfl,fun k v hk=>by rw[← hlen]; exact hcell k v hk⟩
  have hnx:=hA.next
  refine⟨_,.slc M.next 0 n (.op 1),M.push (.row cs true T 0),_,rfl,dC hA q2 q1 k1 k2 (by simp[AW.push]) k3, ?_,hQ _ _ (.op M.next n cs (Nat.le_refl _) (by simp[RM.push]) (RM.bB _) (by omega)) ((ae.refl _ _).push _)⟩
  have:=aa.eQ (ρ:=ρ.add A.next ⟨g,0,cap,1⟩) M.next 0 n ⟨g,0,cap,1⟩ (by rw[← hnx]; simp[Ren.add]) (by show 0 + n≤cap; omega)
  simpa using this
end
end Go.Ab
set_option maxRecDepth 100000
namespace Go.Ab.Crw
open Go Go.Ab
end Go.Ab.Crw
namespace Go.Ab.Vl
open Go Go.Ab
end Go.Ab.Vl
set_option maxRecDepth 10000
namespace Go.Ab.Dk
open Go Go.Ab
abbrev A:Nm:=[97]
abbrev B' : Nm:=[98]
abbrev C' : Nm:=[99]
abbrev a0:bz:=Bz 10
abbrev a1:bz:=⟨[([],0)],[(A,0)],[],[(A,some 0,[])],10,0,0⟩
abbrev a2:bz:=⟨[([120,121,122],0)],[(A,0)],[],[(A,some 0,[])],10,1,0⟩
abbrev a3:bz:=⟨[([120,121,122],3)],[(A,0)],[],[(A,some 0,[])],10,1,1⟩
abbrev a4:bz:=⟨[([120,121,122],3)],[(A,0)],[(A,0)],[],10,1,2⟩
abbrev a5:bz:=⟨[([120,121,122,49,50],3)],[(A,0)],[(A,0)],[],10,2,2⟩
abbrev a6:bz:=⟨[([120,121,122,49,50],3),([],0)],[(A,0),(B',1)],[(A,0)],[(B',some 1,[])],10,2,2⟩
abbrev a7:bz:=⟨[([120,121,122,49],4),([],0)],[(A,0)],[(A,0)],[],10,2,2⟩
abbrev a8:bz:=⟨[([120,121,122,49],4),([],0)],[(A,0)],[(A,0)],[],100,2,2⟩
abbrev a9:bz:=⟨[([120,121,122,49,0,0,0,0,0,0,0],4),([],0)],[(A,0)],[(A,0)],[],100,3,2⟩
abbrev GL:bz:=⟨[([120,121,122,49,0,0,0,0,0,0,0],4),([],0)],[(C',0)],[(A,0)],[(C',some 0,A)],100,3,2⟩
abbrev sP:bz:=⟨[([120,121,122,49,0,0,0,0,0,0,0],4),([],0)],[],[(A,0)],[(C',some 0,A),([],none,C')],100,3,2⟩
theorem e1:fF a0 A=(a1,0):=by decide
theorem e2:iF a1 A [120,121,122]=(a2,0):=by decide
theorem e3:sK a2 A=(a3,0):=by decide
theorem e4:qO a3=a4:=by decide
theorem e5:iF a4 A [49,50]=(a5,0):=by decide
theorem e6:fF a5 B'=(a6,0):=by decide
theorem e7:yL a6 [0,1]=a7:=by decide
theorem e8:wH a7 100=a8:=by decide
theorem e9:iF a8 A [0,0,0,0,0,0,0]=(a9,0):=by decide
theorem Jn:iF a7 A [0,0,0,0,0,0,0]=(a7,5):=by decide
theorem e10:kP a9 A C'=(GL,0):=by decide
theorem e11:jC GL C'=(sP,0):=by decide
theorem Jf:rY a7 A=([120,121,122,49],0):=by decide
theorem Jj:rY a7 B'=([],4):=by decide
section
variable {own own' : aS} {M M' : RM}
theorem ER {M1:RM} (k:ae [] M M1) (ho:∀ b,b<M.next→own b=none) (t:Tr own M1 own' M') : ae [] M M':=by
 obtain⟨bs,h1,h2,_⟩:=t
 refine k.qD h1 fun c hc=>.inl ?_
 rcases Nat.lt_or_ge c M.next with h | h
 ·exact absurd (ho c h) (h2 c hc)
 ·exact h
theorem Tr.sl {α:Type} {E:Enc α} {v:AV} {xs:List α} (t:Tr own M own' M') (h:Sl E M v xs) (hb:∀ b∈av v,own b=none) : Sl E M' v xs:=by
 obtain⟨bs,h1,h2,_⟩:=t
 exact bC.keep h h1 (fun b hb2 hm=>h2 b hm (hb b hb2))
theorem bE.keep {TD TF TU TC db:Nat} {s:bz} (h:bE TD TF TU TC own M db s) (k:ae [] M M') : bE TD TF TU TC own M' db s :=
 let ⟨_,_,_,_,h⟩:=h; ⟨_,_,_,_,h.keep k⟩
theorem bE.fresh {TD TF TU TC db:Nat} {s:bz} (h:bE TD TF TU TC own M db s) {b:Nat} (hb:M.next≤b) : own b=none:=by
 obtain⟨_,_,_,_,h⟩:=h
 rcases hq:own b with _ | t
 ·rfl
 ·have:=h.lt b (by rw[hq]; simp); omega
end
theorem BX {M:RM} {T:Nat} {xs:List UInt8} : Sl BY ((M.push (.row (BY.row xs) false T 0)).put M.next (.row (BY.row xs) false T ((BY.row xs).length + 1))) (.slc M.next 0 xs.length (.ex xs.length)) xs:=by
 refine .slc _ _ _ _ _ (by rw[DK,aJ]; omega) ?_
 rw[RM.iE (aW _) (by rw[BY.gm]; omega),List.drop_zero,← BY.gm,List.take_length]
theorem uX {M:RM} {T:Nat} {xs:List UInt8} {K:af} (hK:∀ M',ae [] M M'→Sl BY M' (.slc M.next 0 xs.length (.ex xs.length)) xs→K (.slc M.next 0 xs.length (.ex xs.length)) M') :
  vX (.slc M.next 0 xs.length (.ex xs.length)) (M.push (.row (BY.row xs) false T 0)) K :=
 ⟨M.next,0,_,_,_,_,rfl,RM.bB _,hK _ (((ae.refl _ _).push _).new _ (Nat.le_refl _)) BX⟩
def sO (c:aB) : Prop:=∀ {M:RM} {Q:af},(∀ M',ae [] M M'→Q (Bo true) M')→c [] M Q
theorem BR {TD TF TU TC TS TI TT:Nat} {cN cC cA cS cSD cL cX cR cQ cRn cRm cSt:aB} (hN:Bn TD TF TU TC cN) (hC:vB TD TF TU TC fF cC) (hA:pG TD TF TU TC cA) (hS:wD TD TF TU TC cS)
  (hSD:qQ TD TF TU TC cSD) (hL:vT TD TF TU TC TS cL) (hX:wP TD TF TU TC cX) (hR:Br TD TF TU TC cR) (hq:xA TD TF TU TC cQ) (hRn:pX TD TF TU TC cRn) (hRm:vB TD TF TU TC jC cRm) (hSt:BV TD TF TU TC cSt) :
  sO fun args M Q=>args=[]∧lC cN cC TU cA cS cSD cL TI cX cR cQ cRn cRm cSt TT M Q:=by
 intro M Q hQ
 refine⟨rfl, ?_⟩
 unfold lC
 simp only[vV]
 refine hN (fun h=>absurd h (by decide)) fun _ own M1 db d0 o0 k0=>?_
 rw[mX,pI,Eg]
 refine FU (p:=false) (fun _ k hk=>?_) ?_
 ·rw[bZ]; exact hk
 refine j3 (fun h=>by cases h) (fun _=>?_)
 refine hC d0 (by decide) fun IJ M2 d1 t1=>?_
 rw[e1] at d1 ⊢
 refine⟨_,rfl, ?_⟩
 dsimp only
 rw[dD]
 refine uX (xs:=[120,121,122]) fun M3 k3 s3=>?_
 have d1:=d1.keep k3
 refine hA d1 s3 (by decide) (by decide) (by decide) (by decide) fun BH M4 d2 t2=>?_
 rw[e2] at d2 ⊢
 refine hS d2 fun IC M5 d3 t3=>?_
 rw[e3] at d3 ⊢
 refine hSD d3 fun Hw M6 d4 t4=>?_
 rw[e4] at d4
 refine⟨_,rfl, ?_⟩
 dsimp only
 rw[dD]
 refine uX (xs:=[49,50]) fun M7 k7 s7=>?_
 have d4:=d4.keep k7
 refine hA d4 s7 (by decide) (by decide) (by decide) (by decide) fun IY M8 d5 t5=>?_
 rw[e5] at d5 ⊢
 refine hC d5 (by decide) fun IQ M9 d6 t6=>?_
 rw[e6] at d6 ⊢
 refine hL d6 (by decide) ⟨by decide,by decide⟩ fun v10 M10 o10 k10=>?_
 have d6:=d6.keep k10
 rw[bC.len (Own.xD o10)]
 refine⟨_,rfl, ?_⟩
 dsimp only
 rw[dD]
 have k11:ae [] M10 (M10.push (.row (INT.row [0,1]) false TI 0)):=(ae.refl _ _).push _
 have d6':=d6.keep k11
 refine hX (M:=M10.push (.row (INT.row [0,1]) false TI 0)) (p:=[0,1]) d6' (Sl.new (E:=INT) [0,1]) (fun b hb=>?_) (by decide) (by decide) ⟨by decide,by decide⟩ (by decide) (by decide) fun F5 M12 d7 t7=>?_
 ·have hb:b=M10.next:=by simpa [av] using hb
  exact d6.fresh (by omega)
 rw[e7] at d7
 have f7:∀ b,M12.next≤b→F5 b=none:=fun b hb=>d7.fresh hb
 refine hR d7 (by decide) fun v13 M13 k13 o13=>?_
 rw[Jf] at o13 ⊢
 have d7:=d7.keep k13
 rw[mX,pI]
 refine hR d7 (by decide) fun v14 M14 k14 o14=>?_
 rw[Jj] at o14 ⊢
 have d7:=d7.keep k14
 rw[mX,pI]
 have mk:∀ {K:RB→(Nat→AV)→Prop},K (.row (BY.row [0,0,0,0,0,0,0]) false TU 0) (fun b=>.slc b 0 7 (.ex 7))→vS TU 1 [(N .u8 0)] (N .i64 7) (N .i64 7) K :=
  fun h=>⟨_,_,7,7,rfl,rfl,by decide,by decide,by decide,by decide,h⟩
 refine mk ?_
 dsimp only
 rw[dD]
 have k15:ae [] M14 (M14.push (.row (BY.row [0,0,0,0,0,0,0]) false TU 0)):=(ae.refl _ _).push _
 have d7':=d7.keep k15
 refine hA d7' (Sl.new (E:=BY) (c:=7) [0,0,0,0,0,0,0]) (by decide) (by decide) (by decide) (by decide) fun Ie M16 d8 t8=>?_
 rw[Jn] at d8 ⊢
 refine hq d8 fun Ib M17 d9 t9=>?_
 rw[e8] at d9
 refine mk ?_
 dsimp only
 rw[dD]
 have k18:ae [] M17 (M17.push (.row (BY.row [0,0,0,0,0,0,0]) false TU 0)):=(ae.refl _ _).push _
 have d9':=d9.keep k18
 refine hA d9' (Sl.new (E:=BY) (c:=7) [0,0,0,0,0,0,0]) (by decide) (by decide) (by decide) (by decide) fun own10 M19 d10 t10=>?_
 rw[e9] at d10 ⊢
 refine hRn d10 (by decide) fun own11 M20 d11 t11=>?_
 rw[e10] at d11 ⊢
 refine hRm d11 (by decide) fun own12 M21 d12 t12=>?_
 rw[e11] at d12 ⊢
 refine hSt d12 (by decide) fun M22 k22=>?_
 rw[dD,nV (n:=4) (RM.bB _) rfl rfl rfl]
 have k23:ae [] M22 ((M22.push (.row [(N .i64 0),(N .i64 0),(N .i64 0),(N .i64 0)] false TT 0)).put M22.next (.row (AV.agg [N .i64 ((([] : Dir).length:Nat) : Int),N .i64 ((tot sP.files sP.dir:Nat) : Int),N .i64 3,N .i64 2]).cells false TT 0)):=((ae.refl _ _).push _).new _ (Nat.le_refl _)
 have h23:((M22.push (.row [(N .i64 0),(N .i64 0),(N .i64 0),(N .i64 0)] false TT 0)).put M22.next (.row (AV.agg [N .i64 ((([] : Dir).length:Nat) : Int),N .i64 ((tot sP.files sP.dir:Nat) : Int),N .i64 3,N .i64 2]).cells false TT 0)).heap M22.next=some (.row (AV.agg [N .i64 ((([] : Dir).length:Nat) : Int),N .i64 ((tot sP.files sP.dir:Nat) : Int),N .i64 3,N .i64 2]).cells false TT 0):=aW _
 have s13:Sl BY M14 v13 [120,121,122,49]:=bC.keep (Own.xD o13) k14 (by simp)
 have tA:=((((Tr.keep k15).trans t8).trans t9).trans (Tr.keep k18)).trans (((t10.trans t11).trans t12).trans (Tr.keep (k22.trans k23)))
 have s23:=tA.sl s13 (fun b hb=>f7 b (Own.blk o13 b hb).1)
 generalize (M22.push (.row [(N .i64 0),(N .i64 0),(N .i64 0),(N .i64 0)] false TT 0)).put M22.next (.row (AV.agg [N .i64 ((([] : Dir).length:Nat) : Int),N .i64 ((tot sP.files sP.dir:Nat) : Int),N .i64 3,N .i64 2]).cells false TT 0)=M23 at *
 rw[bO]
 refine ed (p:=true) (fun _ k hk=>by rw[bO]; exact hk) ?_
 refine ed (p:=true) (fun _ k hk=>by rw[bO]; exact hk) ?_
 refine ed (p:=true) (fun _ k hk=>by rw[bO]; exact hk) ?_
 refine ed (p:=true) (fun _ k hk=>by rw[bO]; exact hk) ?_
 refine ed (p:=true) (fun _ k hk=>by rw[bO]; exact hk) ?_
 refine ed (p:=true) (fun _ k hk=>by rw[bO]; exact hk) ?_
 refine ed (p:=true) (fun _ k hk=>by rw[bO]; exact hk) ?_
 refine ed (p:=true) (fun _ k hk=>by rw[Sl.str s23,wK]; exact hk) ?_
 refine ed (p:=true) (fun _ k hk=>by rw[bO]; exact hk) ?_
 refine ed (p:=true) (fun _ k hk=>by rw[bO]; exact hk) ?_
 refine ed (p:=true) (fun _ k hk=>by rw[bO]; exact hk) ?_
 refine ed (p:=true) (fun _ k hk=>by rw[bO]; exact hk) ?_
 refine ed (p:=true) (fun _ k hk=>by rw[bO]; exact hk) ?_
 refine ed (p:=true) (fun _ k hk=>by rw[aj,aC (i:=0 + 0) h23 rfl,bO]; exact hk) ?_
 refine ed (p:=true) (fun _ k hk=>by rw[aj,aC (i:=0 + 2) h23 rfl,bO]; exact hk) ?_
 refine ed (p:=true) (fun _ k hk=>by rw[aj,aC (i:=0 + 3) h23 rfl,bO]; exact hk) ?_
 exact hQ _ (ER k0 o0 ((((((((((t1.trans (Tr.keep k3)).trans t2).trans t3).trans t4).trans (Tr.keep k7)).trans t5).trans t6).trans (Tr.keep (k10.trans k11))).trans t7).trans ((Tr.keep (k13.trans k14)).trans tA)))
theorem mF {a:Int} {K:AV→Prop} : aF .eql (N .i64 a) (N .i64 a) K=K (Bo true):=by rw[bO,beq_self_eq_true]
abbrev n0:bz:=Bz 5
abbrev n1:bz:=⟨[([],0)],[(A,0)],[],[(A,some 0,[])],5,0,0⟩
theorem f1:fF n0 [65]=(n0,1):=by decide
theorem f2:fF n0 []=(n0,1):=by decide
theorem f3:fF n0 A=(n1,0):=by decide
theorem f4:fF n1 A=(n1,12):=by decide
theorem f5:iF n1 B' []=(n1,4):=by decide
theorem f6:sK n1 B'=(n1,4):=by decide
theorem f7:kP n1 B' A=(n1,4):=by decide
theorem f8:kP n1 A [65]=(n1,1):=by decide
theorem f9:jC n1 B'=(n1,4):=by decide
theorem A8 {TD TF TU TC:Nat} {ca cN cC cA cS cRn cRm:aB} (ha:sO ca) (hN:Bn TD TF TU TC cN) (hC:vB TD TF TU TC fF cC) (hA:pG TD TF TU TC cA) (hS:wD TD TF TU TC cS)
  (hRn:pX TD TF TU TC cRn) (hRm:vB TD TF TU TC jC cRm) {M:RM} {Q:af} (hQ:∀ M',Q (Bo true) M') : gD ca cN cC cA cS cRn cRm M Q:=by
 unfold gD
 simp only[vV]
 refine ha fun M0 k0=>?_
 rw[uo,Bool.not_true,jJ]
 refine hN (fun _=>?_) (fun h=>absurd (by decide) h)
 rw[mX,pI]
 refine hN (fun h=>absurd h (by decide)) fun _ own M1 db d0 _ _=>?_
 rw[mX,pI,mF,dH]
 refine hC d0 (by decide) fun IJ M2 d1 t1=>?_
 rw[f1] at d1 ⊢
 rw[mF]
 dsimp only
 rw[il,dH]
 refine hC d1 (by decide) fun BH M3 d2 t2=>?_
 rw[f2] at d2 ⊢
 rw[mF]
 dsimp only
 rw[il,dH]
 refine hC d2 (by decide) fun IC M4 d3 t3=>?_
 rw[f3] at d3 ⊢
 rw[mF]
 dsimp only
 rw[il,dH]
 refine hC d3 (by decide) fun Hw M5 d4 t4=>?_
 rw[f4] at d4 ⊢
 rw[mF]
 dsimp only
 rw[il,dH]
 refine hA (b:=[]) d4 .nil (by decide) (by decide) (by decide) (by decide) fun IY M6 d5 t5=>?_
 rw[f5] at d5 ⊢
 rw[mF]
 dsimp only
 rw[il,dH]
 refine hS d5 fun IQ M7 d6 t6=>?_
 rw[f6] at d6 ⊢
 rw[mF]
 dsimp only
 rw[il,dH]
 refine hRn d6 (by decide) fun F5 M8 d7 t7=>?_
 rw[f7] at d7 ⊢
 rw[mF]
 dsimp only
 rw[il,dH]
 refine hRn d7 (by decide) fun Ie M9 d8 t8=>?_
 rw[f8] at d8 ⊢
 rw[mF]
 dsimp only
 rw[il,dH]
 refine hRm d8 (by decide) fun Ib M10 d9 t9=>?_
 rw[f9] at d9 ⊢
 rw[mF]
 dsimp only
 rw[il]
 exact hQ _
end Go.Ab.Dk
