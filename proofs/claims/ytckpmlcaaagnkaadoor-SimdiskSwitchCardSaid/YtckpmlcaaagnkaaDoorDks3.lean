/- Part 3 of the ground of the proofs of this seat (texts R9 to K8). By an AI agent. -/
import Derived.Test.YtckpmlcaaagnkaaDoorDks2
import Derived.Scope
import Derived.ChangeShapes
import Derived.OpenShut
import Derived.WideKeyArgs
import GoSem.ClaimJoined
import Derived.Carry
import Derived.JoinedCond
import Derived.SizedLaws
import GoSem.Extern.Atomic
import GoSem.Extern.MapsClone
import Derived.Laws.AppendOwn
set_option linter.unusedVariables false
set_option linter.unusedSimpArgs false
namespace Go.Ab
open Go Go.RowKit
def zI:Option Tmp→Nat
 | some d=>2 ^ d
 | none=>0
def DX:Operand→Nat
 | .tmp t=>2 ^ t
 | _=>0
def DJ:List Operand→Nat
 | []=>0
 | x :: xs=>DX x ||| DJ xs
def EF (L m:Nat) : Nat:=L ^^^ (L &&& m)
def sM:List Oper→Nat
 | []=>0
 | o :: os=>zI o.dst ||| sM os
def bW:Nat→Code→Nat
 | 0,_=>0
 | f + 1,c=>match c with
   | .region _ ops _=>sM ops.toList
   | .seq a b=>bW f a ||| bW f b
   | .cond _ a b=>bW f a ||| bW f b
   | .block _ c=>bW f c
   | .loop c=>bW f c
   | .scope c=>bW f c
   | _=>0
def Bc:List Oper→Nat→Nat
 | [],L=>L
 | o :: os,L=>EF (Bc os L) (zI o.dst) ||| DJ o.op.operands.toList
def DY:List (Nat × Nat)→Nat→Nat
 | [],_=>0
 | (i,L) :: r,id=>match Nat.beq i id with
   | true=>L
   | false=>DY r id
def cK (ret:Nat) : Nat→List (Nat × Nat)→Code→Nat→Nat
 | 0,_,_,_=>0
 | f + 1,env,c,L=>match c with
   | .skip=>L
   | .region _ ops _=>Bc ops.toList L
   | .seq a b=>cK ret f env a (cK ret f env b L)
   | .cond c a b=>DX c ||| cK ret f env a L ||| cK ret f env b L
   | .block id c=>cK ret f ((id,L) :: env) c L
   | .loop c=>cK ret f env c (cK ret f env c 0)
   | .exit id=>DY env id
   | .ret=>ret
   | .scope c=>cK ret f env c L
   | .label _=>L
   | _=>0
def cap2 (n:Nat) : Nat:=match n with | 0=>0 | 1=>1 | _=>2
def jA (id:Nat) : Nat→Code→Nat
 | 0,_=>2
 | f + 1,c=>match c with
   | .seq a b=>cap2 (jA id f a + jA id f b)
   | .cond _ a b=>cap2 (jA id f a + jA id f b)
   | .block _ c=>jA id f c
   | .loop c=>jA id f c
   | .exit i=>match Nat.beq i id with | true=>1 | false=>0
   | _=>0
def lS:Nat→Code→Nat
 | 0,_=>2
 | f + 1,c=>match c with
   | .skip=>1
   | .region _ _ _=>1
   | .seq a b=>cap2 (lS f a * lS f b)
   | .cond _ a b=>cap2 (lS f a + lS f b)
   | .block id c=>cap2 (lS f c + jA id f c)
   | .scope c=>lS f c
   | .label _=>1
   | _=>0
def mZ (m:Nat) : Nat→Nat→List Nat
 | _,0=>[]
 | i,n + 1=>match Nat.testBit m i with
   | true=>i :: mZ m (i + 1) n
   | false=>mZ m (i + 1) n
def bitsOf (m nt:Nat) : List Nat:=mZ m 0 nt
def mM (T:Tree AV) : List Nat→List AV
 | []=>[]
 | t :: ts=>(T.get t).getD .top :: mM T ts
def dR:List AV→Nat→AV
 | [],_=>.top
 | x :: _,0=>x
 | _ :: xs,n + 1=>dR xs n
def nO (T:Tree AV) : List Nat→Tree AV
 | []=>T
 | t :: ts=>nO (T.set t .top) ts
def yN (T:Tree AV) (xs:List AV) : Nat→List Nat→Tree AV
 | _,[]=>T
 | i,t :: ts=>yN (T.set t (dR xs i)) xs (i + 1) ts
def oI (T:Tree AV) (asg vs:List Nat) (xs:List AV) : Tree AV:=yN (nO T asg) xs 0 vs
def bG (x:AV) (p q:Prop) : Prop :=
 match x with
 | .sc (.bool b)=>(b=true→p)∧(b=false→q)
 | _=>False
def qw (f:(List AV→RM→Prop)→Prop) (g:List AV→RM→Prop) : Prop:=f g
def sU (body:(List AV→RM→Prop)→List AV→RM→Prop) (xs:List AV) (M:RM) : Prop :=
 ∃ (I:Nat→List AV→RM→Prop) (n:Nat),I n xs M∧∀ m ys M',I m ys M'→body (fun zs M''=>∃ m',m'<m∧I m' zs M'') ys M'
abbrev K3:=Ex→Tree AV→RM→Prop
def wpC (P:Program) (nt ret:Nat) : Nat→Code→List (Nat × Nat)→Nat→Tree AV→RM→K3→Prop
 | 0,_,_,_,_,_,_=>False
 | f + 1,c,env,L,T,M,K=>match c with
   | .skip=>K .normal T M
   | .region _ ops false=>uC P nt ops ops.toList T M (fun T' M'=>K .normal T' M')
   | .region _ ops true=>Ck P nt ops T M (fun T' M'=>K .normal T' M')
   | .seq a b=>match Nat.ble (lS f a) 1 with
     | true=>wpC P nt ret f a env (cK ret f env b L) T M (fun e T' M'=>match e with
       | .normal=>wpC P nt ret f b env L T' M' K
       | e=>K e T' M')
     | false=>qw (fun J=>wpC P nt ret f a env (cK ret f env b L) T M (fun e T' M'=>match e with
       | .normal=>J (mM T' (bitsOf (bW f a &&& cK ret f env b L) nt)) M'
       | e=>K e T' M'))
       (fun xs M'=>wpC P nt ret f b env L (oI T (bitsOf (bW f a) nt) (bitsOf (bW f a &&& cK ret f env b L) nt) xs) M' K)
   | .cond c a b=>bG (kH T c) (wpC P nt ret f a env L T M K) (wpC P nt ret f b env L T M K)
   | .block id c=>wpC P nt ret f c ((id,L) :: env) L T M (fun e T' M'=>match e with
     | .exit i=>match Nat.beq i id with
       | true=>K .normal T' M'
       | false=>K (.exit i) T' M'
     | e=>K e T' M')
   | .loop c=>sU (fun next xs M'=>wpC P nt ret f c env (cK ret f env c (cK ret f env c 0)) (oI T (bitsOf (bW f c) nt) (bitsOf (bW f c &&& cK ret f env c (cK ret f env c 0)) nt) xs) M'
     (fun e T' M'=>match e with
      | .normal=>next (mM T' (bitsOf (bW f c &&& cK ret f env c (cK ret f env c 0)) nt)) M'
      | e=>K e T' M'))
     (mM T (bitsOf (bW f c &&& cK ret f env c (cK ret f env c 0)) nt)) M
   | .exit id=>K (.exit id) T M
   | .ret=>K .ret T M
   | .scope c=>wpC P nt ret f c env L T M K
   | .label _=>K .normal T M
   | _=>False
def Eg (P:Program) (T:Tree AV) (M:RM) (r:ResultVar) (K:AV→Prop) : Prop :=
 match r with
 | .tmp t=>K ((T.get t).getD .top)
 | .cell a t=>match bg P t with
   | some false=>aL M ((T.get a).getD .top) K
   | some true=>match az P t with
     | some n=>jS M ((T.get a).getD .top) n K
     | none=>False
   | none=>False
def EO (P:Program) (T:Tree AV) (M:RM) : List ResultVar→(List AV→Prop)→Prop
 | [],K=>K []
 | r :: rs,K=>Eg P T M r (fun v=>EO P T M rs (fun vs=>K (v :: vs)))
def FZ (Q:af) (M:RM) : List AV→Prop
 | [v]=>Q v M
 | vs=>Q (.tup vs) M
def uO:List ResultVar→Nat
 | []=>0
 | .tmp t :: rs=>2 ^ t ||| uO rs
 | .cell a _ :: rs=>2 ^ a ||| uO rs
def Dz (P:Program) (fn:Func) (c:Code) (args:List AV) (M:RM) (Q:af) : Prop :=
 wpC P (args.length + (fn.ntmps - args.length)) (uO fn.results.toList) 1000 c [] 0 (Tree.ofList args 0 .leaf) M
  (fun e T M'=>match e with
   | .exit _=>False
   | _=>EO P T M' fn.results.toList (FZ Q M'))
section
variable {P:Program} {nt ret:Nat}
def Cb (P:Program) (nt:Nat) (M0:RM) (ρ0:Ren) (w0:World) (T:Tree AV) (asg:Nat) (K:K3) (e:Exit) (a:Act) (w:World) : Prop :=
 ∃ x T' M' ρ',e=EG x∧After P M0 ρ0 w0 M' ρ' w∧dS ρ' nt T' a∧(∀ t,Nat.testBit asg t=false→T'.get t=T.get t)∧K x T' M'
theorem zH {T:Tree AV} : ∀ (vs:List Nat) (i:Nat),dR (mM T vs) i=match vs[i]? with | some t=>(T.get t).getD .top | none=>.top
 | [],i=>by simp[mM,dR]
 | t :: vs,0=>by simp[mM,dR]
 | t :: vs,i + 1=>by simp[mM,dR,zH vs i]
theorem qd:∀ (asg:List Nat) (T:Tree AV) (t:Nat),(nO T asg).get t=if t∈asg then some .top else T.get t
 | [],T,t=>by simp[nO]
 | d :: asg,T,t=>by
   simp only[nO,qd asg,Tree.aI,List.mem_cons]
   by_cases h1:t∈asg
   ·simp[h1]
   ·by_cases h2:t=d <;> simp[h1,h2]
theorem rX:∀ (vs:List Nat) (T:Tree AV) (xs:List AV) (i t:Nat),(t ∉ vs∧(yN T xs i vs).get t=T.get t)∨∃ j,vs[j]?=some t∧(yN T xs i vs).get t=some (dR xs (i + j))
 | [],T,xs,i,t=>.inl ⟨by simp,rfl⟩
 | d :: vs,T,xs,i,t=>by
   simp only[yN]
   rcases rX vs (T.set d (dR xs i)) xs (i + 1) t with⟨h1,h2⟩ | ⟨j,h1,h2⟩
   ·rw[Tree.aI] at h2
    by_cases e:t=d
    ·rw[if_pos e] at h2
     exact .inr ⟨0,by simp[e],h2⟩
    ·rw[if_neg e] at h2
     exact .inl ⟨by simp[e,h1],h2⟩
   ·exact .inr ⟨j + 1,by simpa using h1,by rw[h2]; congr 2; omega⟩
theorem nE {m:Nat} : ∀ (n i t:Nat),t∈mZ m i n↔i≤t∧t<i + n∧Nat.testBit m t=true
 | 0,i,t=>by simp[mZ]; omega
 | n + 1,i,t=>by
   simp only[mZ]
   split
   ·rename_i h
    rw[List.mem_cons,nE n (i + 1) t]
    constructor
    ·rintro(rfl | ⟨a,b,c⟩)
     ·exact⟨Nat.le_refl _,by omega,h⟩
     ·exact⟨by omega,by omega,c⟩
    ·rintro⟨a,b,c⟩
     by_cases e:t=i
     ·exact .inl e
     ·exact .inr ⟨by omega,by omega,c⟩
   ·rename_i h
    rw[nE n (i + 1) t]
    constructor
    ·rintro⟨a,b,c⟩; exact⟨by omega,by omega,c⟩
    ·rintro⟨a,b,c⟩
     have:t≠i:=fun e=>by subst e; rw[h] at c; cases c
     exact⟨by omega,by omega,c⟩
theorem kK {m n t:Nat} : t∈bitsOf m n↔t<n∧Nat.testBit m t=true:=by
 unfold bitsOf; rw[nE]; simp
theorem o8 {ρ:Ren} {T T' : Tree AV} {a:Act} {asg:Nat} {vs:List Nat} (h:dS ρ nt T' a) (hge:∀ t,nt≤t→aa ρ ((T.get t).getD .top) undef) (hk:∀ t,Nat.testBit asg t=false→T'.get t=T.get t) : dS ρ nt (oI T (bitsOf asg nt) vs (mM T' vs)) a:=by
 refine⟨h.size,fun t=>?_,h.defers⟩
 unfold oI
 rcases rX vs (nO T (bitsOf asg nt)) (mM T' vs) 0 t with⟨_,h2⟩ | ⟨j,h1,h2⟩
 ·rw[h2,qd]
  split
  ·exact .top _
  ·rename_i hm
   by_cases hb:Nat.testBit asg t=true
   ·have hge' : nt≤t:=by
     rcases Nat.lt_or_ge t nt with hlt | hge
     ·exact absurd (kK.2 ⟨hlt,hb⟩) hm
     ·exact hge
    have hv:a.tmps.getD t undef=undef:=by
     rw[Array.getD_eq_getD_getElem?,Array.getElem?_eq_none (by rw[h.size]; exact hge')]; rfl
    rw[hv]; exact hge t hge'
   ·rw[← hk t (by simpa using hb)]
    exact h.val t
 ·rw[h2,Nat.zero_add,zH,h1]
  exact h.val t
theorem uz {T:Tree AV} {asg:Nat} {vs:List Nat} {xs:List AV} (hvs:∀ t∈vs,Nat.testBit asg t=true) (t:Nat) (h:Nat.testBit asg t=false) : (oI T (bitsOf asg nt) vs xs).get t=T.get t:=by
 unfold oI
 rcases rX vs (nO T (bitsOf asg nt)) xs 0 t with⟨_,h2⟩ | ⟨j,h1,h2⟩
 ·rw[h2,qd,if_neg]
  intro hm
  rw[(kK.1 hm).2] at h; cases h
 ·have:=hvs t (List.mem_of_getElem? h1)
  rw[h] at this; cases this
theorem dS.ge {ρ:Ren} {T:Tree AV} {a:Act} (h:dS ρ nt T a) : ∀ t,nt≤t→aa ρ ((T.get t).getD .top) undef:=by
 intro t ht
 have:=h.val t
 rw[Array.getD_eq_getD_getElem?,Array.getElem?_eq_none (by rw[h.size]; exact ht)] at this
 exact this
theorem qW {c:Code} {Q:Exit→Act→World→Prop} : ∀ {n m:Nat} {a:Act} {w:World},n≤m→Code.rounds P c Q n a w→Code.rounds P c Q m a w
 | 0,_,_,_,_,h=>h.elim
 | n + 1,m + 1,a,w,hle,h=>by
   rw[rounds_succ] at h ⊢
   refine wp_mono h fun e a' w' hp=>?_
   cases e with
   | normal=>exact qW (Nat.le_of_succ_le_succ hle) hp
   | exit id=>exact hp
   | ret=>exact hp
   | goto l=>exact hp
   | panic c=>exact hp
   | outgrown=>exact hp
theorem nS {t:Nat} : ∀ (l:List Oper),Nat.testBit (sM l) t=false→∀ o∈l,o.dst≠some t
 | [],_,o,ho=>by cases ho
 | x :: l,h,o,ho=>by
   simp only[sM,Nat.testBit_or,Bool.or_eq_false_iff] at h
   rcases List.mem_cons.1 ho with rfl | ho
   ·intro e
    rw[e] at h
    simp[zI,Nat.testBit_two_pow] at h
   ·exact nS l h.2 o ho
theorem DZ {ρ:Ren} {x:AV} {u:Value} {p q:Prop} (h:bG x p q) (hx:aa ρ x u) : ∃ b,u=.bool b∧(b=true→p)∧(b=false→q):=by
 unfold bG at h
 split at h <;> first | (cases h; done) | skip
 rename_i b
 exact⟨b,(ak hx).1,h.1,h.2⟩
theorem DR (hP:tu P) : ∀ (f:Nat) (c:Code) (env:List (Nat × Nat)) (L:Nat) (T:Tree AV) (M:RM) (K:K3),wpC P nt ret f c env L T M K →
  ∀ (M0:RM) (ρ0:Ren) (w0:World) (ρ:Ren) (a:Act) (w:World),After P M0 ρ0 w0 M ρ w→dS ρ nt T a→c.wp P (Cb P nt M0 ρ0 w0 T (bW f c) K) a w:=by
 intro f
 induction f with
 | zero=>intro c env L T M K h; exact h.elim
 | succ f ih =>
   intro c env L T M K h M0 ρ0 w0 ρ a w hM hA
   cases c with
   | skip=>exact wp_skip ⟨.normal,T,M,ρ,rfl,hM,hA,fun _ _=>rfl,h⟩
   | region id ops d =>
     cases d with
     | false =>
       refine wp_region ?_
       have:=ol (nt:=nt) hP (ops:=ops) (Q:=Cb P nt M0 ρ0 w0 T (bW (f + 1) (.region id ops false)) K) (K:=fun T' M'=>K .normal T' M') (M0:=M0) (ρ0:=ρ0) (w0:=w0) (T0:=T)
        (fun T' M' ρ' a' w' k1 k2 k3 k4=>⟨.normal,T',M',ρ',rfl,k1,k2,fun t ht=>k4 t (nS _ ht),k3⟩) ops.toList 0 (by simp) hA hM (fun _ _=>rfl) h
       rw[Array.length_toList,← List.range_eq_range'] at this
       exact this
     | true =>
       exact Ap (nt:=nt) (T:=T) hP hM hA (fun T' M' ρ' a' w' k1 k2 k3 k4=>⟨.normal,T',M',ρ',rfl,k1,k2,fun t ht=>k4 t (nS _ ht),k3⟩) h
   | seq c1 c2 =>
     simp only[wpC] at h
     refine wp_seq ?_
     split at h
     ·refine wp_mono (ih c1 _ _ _ _ _ h M0 ρ0 w0 ρ a w hM hA) fun e a' w' hp=>?_
      obtain⟨x,T1,M1,ρ1,rfl,k1,k2,k3,k4⟩:=hp
      cases x with
      | normal =>
        refine wp_mono (ih c2 _ _ _ _ _ k4 M0 ρ0 w0 ρ1 a' w' k1 k2) fun e a2 w2 hp=>?_
        obtain⟨x,T2,M2,ρ2,he,q1,q2,q3,q4⟩:=hp
        exact⟨x,T2,M2,ρ2,he,q1,q2,fun t ht=>by
         simp only[bW,Nat.testBit_or,Bool.or_eq_false_iff] at ht
         rw[q3 t ht.2,k3 t ht.1],q4⟩
      | exit i=>exact⟨.exit i,T1,M1,ρ1,rfl,k1,k2,fun t ht=>by
        simp only[bW,Nat.testBit_or,Bool.or_eq_false_iff] at ht
        exact k3 t ht.1,k4⟩
      | ret=>exact⟨.ret,T1,M1,ρ1,rfl,k1,k2,fun t ht=>by
        simp only[bW,Nat.testBit_or,Bool.or_eq_false_iff] at ht
        exact k3 t ht.1,k4⟩
     ·unfold qw at h
      refine wp_mono (ih c1 _ _ _ _ _ h M0 ρ0 w0 ρ a w hM hA) fun e a' w' hp=>?_
      obtain⟨x,T1,M1,ρ1,rfl,k1,k2,k3,k4⟩:=hp
      have hge:∀ t,nt≤t→aa ρ1 ((T.get t).getD .top) undef:=fun t ht=>by
       have h1:=k2.ge t ht
       by_cases hb:Nat.testBit (bW f c1) t=false
       ·rw[k3 t hb] at h1; exact h1
       ·have h0:=hA.ge t ht
        have hu:∀ (ρ ρ' : Ren) (x:AV),aa ρ x undef→aa ρ' x undef:=by
         intro ρ ρ' x hx
         unfold undef at hx ⊢
         cases hx with
         | top=>exact .top _
         | sc v p=>exact .sc _ p
         | tup xs vs a=>cases a; exact .tup _ _ .nil
        exact hu _ _ _ h0
      cases x with
      | normal =>
        refine wp_mono (ih c2 _ _ _ _ _ k4 M0 ρ0 w0 ρ1 a' w' k1 (o8 k2 hge k3)) fun e a2 w2 hp=>?_
        obtain⟨x,T2,M2,ρ2,he,q1,q2,q3,q4⟩:=hp
        refine⟨x,T2,M2,ρ2,he,q1,q2,fun t ht=>?_,q4⟩
        simp only[bW,Nat.testBit_or,Bool.or_eq_false_iff] at ht
        rw[q3 t ht.2]
        refine uz (fun t' ht'=>?_) t ht.1
        have:=(kK.1 ht').2
        rw[Nat.testBit_and,Bool.and_eq_true] at this
        exact this.1
      | exit i=>exact⟨.exit i,T1,M1,ρ1,rfl,k1,k2,fun t ht=>by
        simp only[bW,Nat.testBit_or,Bool.or_eq_false_iff] at ht
        exact k3 t ht.1,k4⟩
      | ret=>exact⟨.ret,T1,M1,ρ1,rfl,k1,k2,fun t ht=>by
        simp only[bW,Nat.testBit_or,Bool.or_eq_false_iff] at ht
        exact k3 t ht.1,k4⟩
   | cond cnd c1 c2 =>
     simp only[wpC] at h
     obtain⟨b,hb,h1,h2⟩:=DZ h (vT hA cnd)
     cases b with
     | true =>
       refine wp_cond_true hb (wp_mono (ih c1 _ _ _ _ _ (h1 rfl) M0 ρ0 w0 ρ a w hM hA) fun e a' w' hp=>?_)
       obtain⟨x,T1,M1,ρ1,he,k1,k2,k3,k4⟩:=hp
       exact⟨x,T1,M1,ρ1,he,k1,k2,fun t ht=>by
         simp only[bW,Nat.testBit_or,Bool.or_eq_false_iff] at ht
         exact k3 t ht.1,k4⟩
     | false =>
       refine wp_cond_false hb (wp_mono (ih c2 _ _ _ _ _ (h2 rfl) M0 ρ0 w0 ρ a w hM hA) fun e a' w' hp=>?_)
       obtain⟨x,T1,M1,ρ1,he,k1,k2,k3,k4⟩:=hp
       exact⟨x,T1,M1,ρ1,he,k1,k2,fun t ht=>by
         simp only[bW,Nat.testBit_or,Bool.or_eq_false_iff] at ht
         exact k3 t ht.2,k4⟩
   | block id c1 =>
     simp only[wpC] at h
     refine wp_block (wp_mono (ih c1 _ _ _ _ _ h M0 ρ0 w0 ρ a w hM hA) fun e a' w' hp=>?_)
     obtain⟨x,T1,M1,ρ1,rfl,k1,k2,k3,k4⟩:=hp
     cases x with
     | normal=>exact⟨.normal,T1,M1,ρ1,rfl,k1,k2,k3,k4⟩
     | ret=>exact⟨.ret,T1,M1,ρ1,rfl,k1,k2,k3,k4⟩
     | exit i =>
       simp only at k4
       split at k4
       ·rename_i he
        have he:=bf he
        subst he
        simp only[EG,Exit.inBlock,if_true]
        exact⟨.normal,T1,M1,ρ1,rfl,k1,k2,k3,k4⟩
       ·rename_i he
        have he:=ug he
        simp only[EG,Exit.inBlock,if_neg he]
        exact⟨.exit i,T1,M1,ρ1,rfl,k1,k2,k3,k4⟩
   | loop c1 =>
     simp only[wpC] at h
     obtain⟨I,n,hI,hbody⟩:=h
     have hvs:∀ t∈bitsOf (bW f c1 &&& cK ret f env c1 (cK ret f env c1 0)) nt,Nat.testBit (bW f c1) t=true:=fun t' ht'=>by
      have:=(kK.1 ht').2
      rw[Nat.testBit_and,Bool.and_eq_true] at this
      exact this.1
     generalize hv:bitsOf (bW f c1 &&& cK ret f env c1 (cK ret f env c1 0)) nt=vs at hI hbody hvs
     have hu:∀ (ρ ρ' : Ren) (x:AV),aa ρ x undef→aa ρ' x undef:=by
      intro ρ ρ' x hx
      unfold undef at hx ⊢
      cases hx with
      | top=>exact .top _
      | sc v p=>exact .sc _ p
      | tup xs vs a=>cases a; exact .tup _ _ .nil
     have hge:∀ (ρ1:Ren) t,nt≤t→aa ρ1 ((T.get t).getD .top) undef:=fun ρ1 t ht=>hu _ _ _ (hA.ge t ht)
     have key:∀ (m:Nat) (ys:List AV) (M1:RM) (ρ1:Ren) (a1:Act) (w1:World),I m ys M1→After P M0 ρ0 w0 M1 ρ1 w1→dS ρ1 nt (oI T (bitsOf (bW f c1) nt) vs ys) a1 →
       Code.rounds P c1 (Cb P nt M0 ρ0 w0 T (bW (f + 1) (.loop c1)) K) (m + 1) a1 w1:=by
      intro m
      induction m using Nat.strongRecOn with
      | _ m ihm =>
        intro ys M1 ρ1 a1 w1 hIm hM1 hA1
        rw[rounds_succ]
        refine wp_mono (ih c1 _ _ _ _ _ (hbody m ys M1 hIm) M0 ρ0 w0 ρ1 a1 w1 hM1 hA1) fun e a' w' hp=>?_
        obtain⟨x,T2,M2,ρ2,rfl,k1,k2,k3,k4⟩:=hp
        have k3' : ∀ t,Nat.testBit (bW f c1) t=false→T2.get t=T.get t:=fun t ht=>by rw[k3 t ht]; exact uz hvs t ht
        cases x with
        | normal =>
          obtain⟨m',hlt,hI'⟩:=k4
          exact qW (by omega) (ihm m' hlt _ M2 ρ2 a' w' hI' k1 (o8 k2 (hge ρ2) k3'))
        | exit i=>exact⟨.exit i,T2,M2,ρ2,rfl,k1,k2,k3',k4⟩
        | ret=>exact⟨.ret,T2,M2,ρ2,rfl,k1,k2,k3',k4⟩
     exact wp_loop_rounds _ (key n _ M ρ a w hI hM (o8 hA (hge ρ) fun _ _=>rfl))
   | exit id=>exact wp_exit ⟨.exit id,T,M,ρ,rfl,hM,hA,fun _ _=>rfl,h⟩
   | ret=>exact wp_ret ⟨.ret,T,M,ρ,rfl,hM,hA,fun _ _=>rfl,h⟩
   | rangeFunc=>simp[wpC] at h
   | scope c1 =>
     simp only[wpC] at h
     refine wp_scope_straight (wp_mono (ih c1 _ _ _ _ _ h M0 ρ0 w0 ρ a w hM hA) fun e a' w' hp=>?_)
     obtain⟨x,T1,M1,ρ1,rfl,k1,k2,k3,k4⟩:=hp
     cases x with
     | normal=>exact⟨.normal,T1,M1,ρ1,rfl,k1,k2,k3,k4⟩
     | exit i=>exact⟨.exit i,T1,M1,ρ1,rfl,k1,k2,k3,k4⟩
     | ret=>exact⟨.ret,T1,M1,ρ1,rfl,k1,k2,k3,k4⟩
   | label l=>exact wp_label ⟨.normal,T,M,ρ,rfl,hM,hA,fun _ _=>rfl,h⟩
   | goto=>simp[wpC] at h
   | refuse=>simp[wpC] at h
theorem CR {ρ:Ren} {T:Tree AV} {M:RM} {a:Act} {w:World} (hA:dS ρ nt T a) (hw:aZ P ρ M w) {r:ResultVar} {K:AV→Prop} (h:Eg P T M r K) :
  ∃ v v',(qE a.tmps r).run P w=.ok v' w∧aa ρ v v'∧K v:=by
 cases r with
 | tmp t=>exact⟨_,_,rfl,hA.val t,h⟩
 | cell x t =>
   simp only[Eg] at h
   have hv:=hA.val x
   split at h <;> first | (cases h; done) | skip
   ·rename_i ha
    obtain⟨b,p,v,hx,hl,hk⟩:=h
    rw[hx] at hv
    obtain⟨i,hb,hc⟩:=aV hv
    obtain⟨u,hu,hcell⟩:=j3 hw hb hl
    refine⟨v,u, ?_,hu,hk⟩
    simp only[qE,hc,asAddr,Sem.run_bind,Sem.run_pure,Result.andThen_ok,loadVar,dH ha,Bool.false_eq_true,if_false,load,Sem.run,hcell]
   ·rename_i ha
    split at h <;> first | (cases h; done) | skip
    rename_i n hs
    obtain⟨b,p,xs,hx,hl,hk⟩:=h
    rw[hx] at hv
    obtain⟨i,hb,hc⟩:=aV hv
    obtain⟨vs,hr,hlen,_,hrun⟩:=RM.fI (P:=P) hw hb hl
    exact⟨.agg xs,.agg ⟨vs⟩,by simp only[qE,hc,asAddr,Sem.run_bind,Sem.run_pure,Result.andThen_ok,loadVar,dH ha,if_true,aS hs,hrun],.agg _ _ hr,hk⟩
theorem nU {ρ:Ren} {T:Tree AV} {M:RM} {a:Act} {w:World} (hA:dS ρ nt T a) (hw:aZ P ρ M w) : ∀ (rs:List ResultVar) (K:List AV→Prop),EO P T M rs K →
  ∃ vs us,(rs.mapM (qE a.tmps)).run P w=.ok us w∧au ρ vs us∧K vs
 | [],K,h=>⟨[],[],by simp,.nil,h⟩
 | r :: rs,K,h=>by
   obtain⟨v,v',h1,h2,h3⟩:=CR hA hw h
   obtain⟨vs,us,h4,h5,h6⟩:=nU hA hw rs _ h3
   refine⟨v :: vs,v' :: us, ?_,.cons _ _ _ _ h2 h5,h6⟩
   simp only[List.mapM_cons,Sem.run_bind,h1,Result.andThen_ok,h4,Sem.run_pure]
theorem uU (hP:tu P) {f:FuncId} {fn:Func} {c:Code} {args:List AV} {M:RM} {Q:af} (hfn:P.funcs[f]?=some fn) (hbody:fn.body=some c) (h:Dz P fn c args M Q) : bX P f args M Q:=by
 refine⟨⟨fn,c,hfn,hbody⟩,fun ρ w us hargs hw=>?_⟩
 have hlen:=hargs.length
 have hA:dS ρ (args.length + (fn.ntmps - args.length)) (Tree.ofList args 0 .leaf) { tmps:=⟨us⟩++Array.replicate (fn.ntmps - (⟨us⟩ : Array Value).size) undef,defers:=[] } := by
  refine⟨by simp[hlen],fun t=>?_,rfl⟩
  rw[Tree.kW]
  by_cases ht:t<args.length
  ·rw[if_pos (by omega),Nat.sub_zero]
   obtain⟨u,hu,hv⟩:=hargs.get (n:=t) (x:=args[t]) (by simp[ht])
   rw[List.getElem?_eq_getElem ht]
   simp only[Option.getD_some]
   have:((⟨us⟩ : Array Value)++Array.replicate (fn.ntmps - (⟨us⟩ : Array Value).size) undef).getD t undef=u:=by
    rw[Array.getD_eq_getD_getElem?,Array.getElem?_append_left (by simp; omega)]
    simp[hu]
   rw[this]; exact hv
  ·rw[if_neg (by omega)]
   exact .top _
 refine calls_of_wp hfn hbody (wp_mono (DR hP 1000 c [] 0 _ M _ h M ρ w ρ _ w (After.refl hw) hA) fun e a w' hp=>?_)
 obtain⟨x,T',M',ρ',rfl,k1,k2,k3,k4⟩:=hp
 have key:(∃ vs us,(fn.results.toList.mapM (qE a.tmps)).run P w'=.ok us w'∧au ρ' vs us∧FZ Q M' vs) →
   a.defers=[]∧∃ v,(results fn a.tmps).run P w'=.ok v w'∧∃ v' v_1 Gc GJ,Ending.returned v=.returned v'∧After P M ρ w Gc GJ w'∧aa GJ v_1 v'∧Q v_1 Gc:=by
  rintro⟨vs,us,h1,h2,h3⟩
  have hres:(results fn a.tmps).run P w'=.ok (if h:(⟨us⟩ : Array Value).size=1 then(⟨us⟩ : Array Value)[0] else .tuple ⟨us⟩) w':=by
   have e:results fn a.tmps=(fn.results.mapM (qE a.tmps) >>= fun vs=>pure (if h:vs.size=1 then vs[0] else .tuple vs)):=rfl
   rw[e,Array.mapM_eq_mapM_toList]
   simp only[Sem.run_bind,Sem.run_map,h1,Result.andThen_ok,Sem.run_pure]
  refine⟨k2.defers,_,hres, ?_⟩
  cases h2 with
  | nil=>exact⟨_,_,M',ρ',rfl,k1,.tup _ _ .nil,h3⟩
  | cons x v xs vs2 hv htl =>
    cases htl with
    | nil=>exact⟨_,x,M',ρ',rfl,k1,hv,h3⟩
    | cons y u ys us2 hu Jd=>exact⟨_,_,M',ρ',rfl,k1,.tup _ _ (.cons _ _ _ _ hv (.cons _ _ _ _ hu Jd)),h3⟩
 cases x with
 | normal=>exact key (nU k2 k1.rel _ _ k4)
 | ret=>exact key (nU k2 k1.rel _ _ k4)
 | exit id=>exact k4.elim
abbrev aA:=List AV→RM→af→Prop
def uN (P:Program) (fn:Func) (args:List AV) (M:RM) (Q:af) : Prop :=
 match fn.body with
 | some c=>Dz P fn c args M Q
 | none=>False
theorem CW (hP:tu P) {f:FuncId} {fn:Func} {args:List AV} {M:RM} {Q:af} (hfn:P.funcs[f]?=some fn) (h:uN P fn args M Q) : bX P f args M Q:=by
 unfold uN at h
 split at h
 ·rename_i c hc; exact uU hP hfn hc h
 ·cases h
end
def RM.cell (M:RM) (b o:Nat) : Option AV:=(M.cells b).bind (·[o]?)
section
variable {M M' : RM} {K:AV→Prop} {KQ:af}
theorem tq {b o:Nat} {v:AV} : M.loads b o 1=some [v]↔M.cell b o=some v:=by
 unfold RM.loads RM.cell
 cases hc:M.cells b with
 | none=>simp
 | some l =>
   simp only[Option.bind_some]
   constructor
   ·intro h
    split at h
    ·rename_i hlt
     have h1:=Option.some.inj h
     have:((l.drop o).take 1)[0]?=some v:=by rw[h1]; rfl
     rw[List.getElem?_take,if_pos (by omega),List.getElem?_drop] at this
     simpa using this
    ·cases h
   ·intro h
    have hlt:=(List.getElem?_eq_some_iff.1 h).1
    rw[if_pos (by omega)]
    congr 1
    rw[List.drop_eq_getElem_cons hlt]
    simp only[List.take_succ_cons,List.take_zero]
    congr 1
    exact(List.getElem?_eq_some_iff.1 h).2
@[go_sem] theorem mo (b o:Nat) : aL M (.ptr b o) K=∃ v,M.cell b o=some v∧K v:=by
 apply propext; unfold aL
 constructor
 ·rintro⟨b',o',v,h,hl,hk⟩; cases h; exact⟨v,tq.1 hl,hk⟩
 ·rintro⟨v,hl,hk⟩; exact⟨b,o,v,rfl,tq.2 hl,hk⟩
@[go_sem] theorem wE (b o n:Nat) : jS M (.ptr b o) n K=∃ vs,M.loads b o n=some vs∧K (.agg vs):=by
 apply propext; unfold jS
 constructor
 ·rintro⟨b',o',v,h,hl,hk⟩; cases h; exact⟨v,hl,hk⟩
 ·rintro⟨v,hl,hk⟩; exact⟨b,o,v,rfl,hl,hk⟩
@[go_sem] theorem tV (b p:Nat) (x:AV) (n:Nat) (K:RM→Prop) : bU M (.ptr b p) x n K=(x.cells.length=n∧∃ M',M.stores b p x.cells=some M'∧K M'):=by
 apply propext; unfold bU
 constructor
 ·rintro⟨b',o',M',h,h1,h2,hk⟩; cases h; exact⟨h1,M',h2,hk⟩
 ·rintro⟨h1,M',h2,hk⟩; exact⟨b,p,M',rfl,h1,h2,hk⟩
def Jt (k:IntKind) (a b:Int) : Int:=k.wrap (BitVec.ofInt k.bits a &&& BitVec.ofInt k.bits b).toNat
def JV (k:IntKind) (a b:Int) : Int:=k.wrap (BitVec.ofInt k.bits a ||| BitVec.ofInt k.bits b).toNat
def IK (k:IntKind) (a b:Int) : Int:=k.wrap (BitVec.ofInt k.bits a ^^^ BitVec.ofInt k.bits b).toNat
def Fy (k:IntKind) (a b:Int) : Int:=k.wrap (BitVec.ofInt k.bits a &&& ~~~BitVec.ofInt k.bits b).toNat
def Jq (k:IntKind) (a b:Int) : Int:=k.wrap (a * 2 ^ (min b.toNat k.bits))
def IM (k:IntKind) (a b:Int) : Int:=a.fdiv (2 ^ (min b.toNat k.bits))
section
variable (k:IntKind) (a b:Int)
theorem cu {op:BinOp} {v:Value} (h:lL op k a b=some v) : aH op (N k a) (N k b) K=K (.sc v):=by
 apply propext; unfold aH
 constructor
 ·rintro⟨k',a',b',u,h1,h2,h3,hk⟩; cases h1; cases h2; rw[h] at h3; cases h3; exact hk
 ·intro hk; exact⟨k,a,b,v,rfl,rfl,h,hk⟩
@[go_sem] theorem yC:aH .add (N k a) (N k b) K=K (N k (k.wrap (a + b))):=cu k a b rfl
@[go_sem] theorem yY:aH .sub (N k a) (N k b) K=K (N k (k.wrap (a - b))):=cu k a b rfl
@[go_sem] theorem IP:aH .mul (N k a) (N k b) K=K (N k (k.wrap (a * b))):=cu k a b rfl
@[go_sem] theorem JB:aH .and (N k a) (N k b) K=K (N k (Jt k a b)):=cu k a b rfl
@[go_sem] theorem JJ:aH .or (N k a) (N k b) K=K (N k (JV k a b)):=cu k a b rfl
@[go_sem] theorem I6:aH .xor (N k a) (N k b) K=K (N k (IK k a b)):=cu k a b rfl
@[go_sem] theorem GL:aH .andNot (N k a) (N k b) K=K (N k (Fy k a b)):=cu k a b rfl
@[go_sem] theorem bO:aH .eql (N k a) (N k b) K=K (Bo (a == b)):=cu k a b rfl
@[go_sem] theorem Es:aH .neq (N k a) (N k b) K=K (Bo (a != b)):=cu k a b rfl
@[go_sem] theorem rO:aH .lss (N k a) (N k b) K=K (Bo (decide (a<b))):=cu k a b rfl
@[go_sem] theorem Ec:aH .leq (N k a) (N k b) K=K (Bo (decide (a≤b))):=cu k a b rfl
@[go_sem] theorem zS:aH .gtr (N k a) (N k b) K=K (Bo (decide (a > b))):=cu k a b rfl
@[go_sem] theorem EN:aH .geq (N k a) (N k b) K=K (Bo (decide (a ≥ b))):=cu k a b rfl
@[go_sem] theorem Iu:aH .quo (N k a) (N k b) K=(b≠0∧K (N k (k.wrap (a.tdiv b)))):=by
 apply propext; unfold aH lL
 constructor
 ·rintro⟨k',a',b',u,h1,h2,h3,hk⟩; cases h1; cases h2
  simp only at h3
  split at h3
  ·cases h3
  ·cases h3; exact⟨‹_›,hk⟩
 ·rintro⟨h0,hk⟩; exact⟨k,a,b,_,rfl,rfl,by simp only[if_neg h0],hk⟩
@[go_sem] theorem EY:aH .rem (N k a) (N k b) K=(b≠0∧K (N k (a.tmod b))):=by
 apply propext; unfold aH lL
 constructor
 ·rintro⟨k',a',b',u,h1,h2,h3,hk⟩; cases h1; cases h2
  simp only at h3
  split at h3
  ·cases h3
  ·cases h3; exact⟨‹_›,hk⟩
 ·rintro⟨h0,hk⟩; exact⟨k,a,b,_,rfl,rfl,by simp only[if_neg h0],hk⟩
variable (l:IntKind)
@[go_sem] theorem JM:Du .shl (N k a) (N l b) K=(0≤b∧K (N k (Jq k a b))):=by
 apply propext; unfold Du ul
 constructor
 ·rintro⟨k',a',l',b',u,h1,h2,h3,hk⟩; cases h1; cases h2
  split at h3
  ·cases h3
  ·cases h3; exact⟨by omega,hk⟩
 ·rintro⟨h0,hk⟩; exact⟨k,a,l,b,_,rfl,rfl,by rw[if_neg (by omega)]; rfl,hk⟩
@[go_sem] theorem JD:Du .shr (N k a) (N l b) K=(0≤b∧K (N k (IM k a b))):=by
 apply propext; unfold Du ul
 constructor
 ·rintro⟨k',a',l',b',u,h1,h2,h3,hk⟩; cases h1; cases h2
  split at h3
  ·cases h3
  ·cases h3; exact⟨by omega,hk⟩
 ·rintro⟨h0,hk⟩; exact⟨k,a,l,b,_,rfl,rfl,by rw[if_neg (by omega)]; rfl,hk⟩
@[go_sem] theorem JL {l:IntKind} {a:Int} {K:AV→Prop} : Cq (N l a) K=K (St (Utf8.encode a).data.toList):=by
 apply propext; unfold Cq
 constructor
 ·rintro⟨l',n,h,hk⟩; cases h; exact hk
 ·intro h; exact⟨_,_,rfl,h⟩
@[go_sem] theorem JP:Ey k (N l a) K=K (N k (k.wrap a)):=by
 apply propext; unfold Ey
 constructor
 ·rintro⟨l',n,h,hk⟩; cases h; exact hk
 ·intro hk; exact⟨l,a,rfl,hk⟩
@[go_sem] theorem GK (mx:Bool) : xU mx (N k a) (N k b) K=K (N k (if mx then(if b > a then b else a) else(if b<a then b else a))):=by
 apply propext; unfold xU
 constructor
 ·rintro⟨k',a',b',h1,h2,hk⟩; cases h1; cases h2; exact hk
 ·intro hk; exact⟨k,a,b,rfl,rfl,hk⟩
@[go_sem] theorem JR:ER (N k a) K=K (N k (k.wrap (0 - a))):=by
 apply propext; unfold ER
 constructor
 ·rintro⟨k',a',h1,hk⟩; cases h1; exact hk
 ·intro hk; exact⟨k,a,rfl,hk⟩
end
@[go_sem] theorem vC (b:Bool) : uG (Bo b) K=K (Bo (!b)):=by
 apply propext; unfold uG
 constructor
 ·rintro⟨b',h,hk⟩; cases h; exact hk
 ·intro hk; exact⟨b,rfl,hk⟩
@[go_sem] theorem Ho (neg a b:Bool) : qC neg (Bo a) (Bo b) K=K (Bo ((a == b) != neg)):=by
 apply propext; unfold qC
 constructor
 ·rintro⟨a',b',h,h',hk⟩; cases h; cases h'; exact hk
 ·intro hk; exact⟨a,b,rfl,rfl,hk⟩
@[go_sem] theorem xP (t:Bool) (a b:AV) : bD (Bo t) a b K=K (if t then a else b):=by
 apply propext; unfold bD
 constructor
 ·rintro⟨t',h,hk⟩; cases h; exact hk
 ·intro hk; exact⟨t,rfl,hk⟩
@[go_sem] theorem yH (b:Bool) (p q:Prop) : bG (Bo b) p q=((b=true→p)∧(b=false→q)):=rfl
@[go_sem] theorem Ig {α:Type} (b want:Bool) (f g:α→Prop) (k:α) : ja (Bo b) want f g k=if b=want then f k else g k:=rfl
@[go_sem] theorem Gn {α:Type} (want:Bool) (f g:α→Prop) (k:α) : ja .undef want f g k=g k:=rfl
@[go_sem] theorem ax (b o:Nat) : aY (.ptr b o) K=K (.ptr b o):=by
 apply propext; unfold aY
 constructor
 ·rintro⟨b',o',h,hk⟩; cases h; exact hk
 ·intro hk; exact⟨b,o,rfl,hk⟩
@[go_sem] theorem aj (b o n:Nat) : aN (.ptr b o) n K=K (.ptr b (o + n)):=by
 apply propext; unfold aN
 constructor
 ·rintro⟨b',o',h,hk⟩; cases h; exact hk
 ·intro hk; exact⟨b,o,rfl,hk⟩
@[go_sem] theorem yG (b p len:Nat) (cap:Cap) (k:IntKind) (n:Int) (size:Nat) : lX (.slc b p len cap) (N k n) size K=(0≤n∧n<len∧K (.ptr b (p + n.toNat * size))):=by
 apply propext; unfold lX
 constructor
 ·rintro⟨b',p',l',c',k',n',h,h',h0,h1,hk⟩; cases h; cases h'; exact⟨h0,h1,hk⟩
 ·rintro⟨h0,h1,hk⟩; exact⟨b,p,len,cap,k,n,rfl,rfl,h0,h1,hk⟩
@[go_sem] theorem Ji (b p:Nat) (k:IntKind) (n:Int) (len size:Nat) : ET (.ptr b p) (N k n) len size K=(0≤n∧n<len∧K (.ptr b (p + n.toNat * size))):=by
 apply propext; unfold ET
 constructor
 ·rintro⟨b',p',k',n',h,h',h0,h1,hk⟩; cases h; cases h'; exact⟨h0,h1,hk⟩
 ·rintro⟨h0,h1,hk⟩; exact⟨b,p,k,n,rfl,rfl,h0,h1,hk⟩
@[go_sem] theorem Ie (cs:List AV) (off:Nat) : BU (.agg cs) off K=∃ v,cs[off]?=some v∧K v:=by
 apply propext; unfold BU
 constructor
 ·rintro⟨cs',v,h,h1,hk⟩; cases h; exact⟨v,h1,hk⟩
 ·rintro⟨v,h1,hk⟩; exact⟨cs,v,rfl,h1,hk⟩
@[go_sem] theorem Io (cs:List AV) (off n:Nat) : CB (.agg cs) off n K=(off + n≤cs.length∧K (.agg ((cs.drop off).take n))):=by
 apply propext; unfold CB
 constructor
 ·rintro⟨cs',h,h1,hk⟩; cases h; exact⟨h1,hk⟩
 ·rintro⟨h1,hk⟩; exact⟨cs,rfl,h1,hk⟩
@[go_sem] theorem H9 (cs:List AV) (k:IntKind) (n:Int) (len:Nat) : Cv (.agg cs) (N k n) len K=(0≤n∧n<len∧∃ v,cs[n.toNat]?=some v∧K v):=by
 apply propext; unfold Cv
 constructor
 ·rintro⟨cs',k',n',v,h,h',h0,h1,h2,hk⟩; cases h; cases h'; exact⟨h0,h1,v,h2,hk⟩
 ·rintro⟨h0,h1,v,h2,hk⟩; exact⟨cs,k,n,v,rfl,rfl,h0,h1,h2,hk⟩
@[go_sem] theorem H7 (cs:List AV) (k:IntKind) (n:Int) (len size:Nat) : CJ (.agg cs) (N k n) len size K=(0≤n∧n<len∧n.toNat * size + size≤cs.length∧K (.agg ((cs.drop (n.toNat * size)).take size))):=by
 apply propext; unfold CJ
 constructor
 ·rintro⟨cs',k',n',h,h',h0,h1,h2,hk⟩; cases h; cases h'; exact⟨h0,h1,h2,hk⟩
 ·rintro⟨h0,h1,h2,hk⟩; exact⟨cs,k,n,rfl,rfl,h0,h1,h2,hk⟩
@[go_sem] theorem JC (s:List UInt8) (k:IntKind) (n:Int) : ED (St s) (N k n) K=(0≤n∧∃ b,s[n.toNat]?=some b∧K (N .u8 b.toNat)):=by
 apply propext; unfold ED
 constructor
 ·rintro⟨s',k',n',b,h,h',h0,h1,hk⟩; cases h; cases h'; exact⟨h0,b,h1,hk⟩
 ·rintro⟨h0,b,h1,hk⟩; exact⟨s,k,n,b,rfl,rfl,h0,h1,hk⟩
@[go_sem] theorem xN (vs:List AV) (i:Nat) : gQ (.tup vs) i K=∃ v,vs[i]?=some v∧K v:=by
 apply propext; unfold gQ
 constructor
 ·rintro⟨cs',v,h,h1,hk⟩; cases h; exact⟨v,h1,hk⟩
 ·rintro⟨v,h1,hk⟩; exact⟨vs,v,rfl,h1,hk⟩
@[go_sem] theorem vQ (v:AV) : q8 (some v) K=K v:=by
 apply propext; unfold q8
 constructor
 ·rintro⟨v',h,hk⟩; cases h; exact hk
 ·intro hk; exact⟨v,rfl,hk⟩
@[go_sem] theorem Ep (b o n:Nat) (c:Cap) : fq (.slc b o n c) K=K (N .i64 n):=by
 apply propext; unfold fq
 constructor
 ·rintro⟨n',h,hk⟩; cases h; exact hk
 ·intro hk; exact⟨n,rfl,hk⟩
@[go_sem] theorem EC (b:Nat) : fq (.emp b) K=K (N .i64 0):=by
 apply propext; unfold fq
 constructor
 ·rintro⟨n',h,hk⟩; cases h; exact hk
 ·intro hk; exact⟨0,rfl,hk⟩
@[go_sem] theorem EH:fq (.sc (.slice none 0 0)) K=K (N .i64 0):=by
 apply propext; unfold fq
 constructor
 ·rintro⟨n',h,hk⟩; cases h; exact hk
 ·intro hk; exact⟨0,rfl,hk⟩
@[go_sem] theorem l5 (s:List UInt8) : lF (St s) K=K (N .i64 s.length):=by
 apply propext; unfold lF
 constructor
 ·rintro⟨s',h,hk⟩; cases h; exact hk
 ·intro hk; exact⟨s,rfl,hk⟩
@[go_sem] theorem JI (b o n c:Nat) : zQ (.slc b o n (.ex c)) K=K (N .i64 c):=by
 apply propext; unfold zQ
 constructor
 ·rintro⟨n',h,hk⟩; cases h; exact hk
 ·intro hk; exact⟨c,rfl,hk⟩
@[go_sem] theorem Je:zQ (.sc (.slice none 0 0)) K=K (N .i64 0):=by
 apply propext; unfold zQ
 constructor
 ·rintro⟨n',h,hk⟩; cases h; exact hk
 ·intro hk; exact⟨0,rfl,hk⟩
@[go_sem] theorem Iq (s:List UInt8) : isStr (St s) K=K (St s):=by
 apply propext; unfold isStr
 constructor
 ·rintro⟨s',h,hk⟩; cases h; exact hk
 ·intro hk; exact⟨s,rfl,hk⟩
@[go_sem] theorem Ak {x:AV} {s:List UInt8} (h:nP M x=some s) : jX M x K=K (St s):=by
 apply propext; unfold jX
 constructor
 ·rintro⟨s',h',hk⟩; rw[h] at h'; cases h'; exact hk
 ·intro hk; exact⟨s,h,hk⟩
theorem iK {op:BinOp} {a b:List UInt8} {v:AV} (h:oH op a b=some v) : gu op (St a) (St b) K=K v:=by
 apply propext; unfold gu
 constructor
 ·rintro⟨a',b',u,h1,h2,h3,hk⟩; cases h1; cases h2; rw[h] at h3; cases h3; exact hk
 ·intro hk; exact⟨a,b,v,rfl,rfl,h,hk⟩
@[go_sem] theorem lU (a b:List UInt8) : gu .eql (St a) (St b) K=K (Bo (a == b)):=by rw[← dG]; exact iK rfl
@[go_sem] theorem IL (a b:List UInt8) : gu .neq (St a) (St b) K=K (Bo (a != b)):=by rw[bne,← dG]; exact iK rfl
@[go_sem] theorem IB (a b:List UInt8) : gu .lss (St a) (St b) K=K (Bo (Op.bytesLess a b)):=iK rfl
@[go_sem] theorem Jz (a b:List UInt8) : gu .leq (St a) (St b) K=K (Bo (Op.bytesLess a b || a == b)):=by rw[← dG]; exact iK rfl
@[go_sem] theorem I5 (a b:List UInt8) : gu .gtr (St a) (St b) K=K (Bo (!(Op.bytesLess a b || a == b))):=by rw[← dG]; exact iK rfl
@[go_sem] theorem Jj (a b:List UInt8) : gu .geq (St a) (St b) K=K (Bo (!Op.bytesLess a b)):=iK rfl
@[go_sem] theorem IJ (a b:List UInt8) : gu .add (St a) (St b) K=(a.length + b.length≤9223372036854775807∧K (St (a++b))):=by
 apply propext; unfold gu
 constructor
 ·rintro⟨a',b',u,h1,h2,h3,hk⟩; cases h1; cases h2
  simp only[oH] at h3
  split at h3
  ·rename_i hb; cases h3; exact⟨aB hb,hk⟩
  ·cases h3
 ·rintro⟨h0,hk⟩; exact⟨a,b,_,rfl,rfl,by simp only[oH,ay.2 h0],hk⟩
theorem eZ {neg:Bool} {tag:Nat} {x y:AV} {r:Bool} (ht:xB x=tag) (h:qF x y=some r) : bN neg tag x y K=K (Bo (r != neg)):=by
 apply propext; unfold bN
 constructor
 ·rintro⟨_,r',h',hk⟩; rw[h] at h'; cases h'; exact hk
 ·intro hk; exact⟨ht,r,h,hk⟩
@[go_sem] theorem uX (neg:Bool) : bN neg 2 (.sc (.slice none 0 0)) (.sc (.slice none 0 0)) K=K (Bo (!neg)):=(eZ (tag:=2) (r:=true) rfl rfl).trans (by cases neg <;> rfl)
@[go_sem] theorem uV (neg:Bool) (b:Nat) : bN neg 2 (.emp b) (.sc (.slice none 0 0)) K=K (Bo neg):=(eZ (tag:=2) (r:=false) rfl rfl).trans (by cases neg <;> rfl)
@[go_sem] theorem uQ (neg:Bool) (b o n:Nat) (c:Cap) : bN neg 2 (.slc b o n c) (.sc (.slice none 0 0)) K=K (Bo neg):=(eZ (tag:=2) (r:=false) rfl rfl).trans (by cases neg <;> rfl)
@[go_sem] theorem bZ (neg:Bool) (b o:Nat) : bN neg 1 (.ptr b o) (.sc (.pointer none)) K=K (Bo neg):=(eZ (tag:=1) (r:=false) rfl rfl).trans (by cases neg <;> rfl)
@[go_sem] theorem di (neg:Bool) : bN neg 1 (.sc (.pointer none)) (.sc (.pointer none)) K=K (Bo (!neg)):=(eZ (tag:=1) (r:=true) rfl rfl).trans (by cases neg <;> rfl)
@[go_sem] theorem uF (neg:Bool) (b:Nat) : bN neg 3 (.map b) (.sc (.map none)) K=K (Bo neg):=(eZ (tag:=3) (r:=false) rfl rfl).trans (by cases neg <;> rfl)
@[go_sem] theorem FX (neg:Bool) (f:Fn) (xs ys:List AV) : bN neg 4 (.fn f xs ys) (.sc .nilFunc) K=K (Bo neg):=(eZ (tag:=4) (r:=false) rfl rfl).trans (by cases neg <;> rfl)
@[go_sem] theorem Hl (neg:Bool) (ks:List Nat) (cs ds:List AV) : pq neg ks (.agg cs) (.agg ds) K=(cs.length=ks.length∧ds.length=ks.length∧∃ r,bi ks cs ds=some r∧K (Bo (r != neg))):=by
 apply propext; unfold pq
 constructor
 ·rintro⟨a',b',r,h1,h2,h3,h4,h5,hk⟩; cases h1; cases h2; exact⟨h3,h4,r,h5,hk⟩
 ·rintro⟨h3,h4,r,h5,hk⟩; exact⟨cs,ds,r,rfl,rfl,h3,h4,h5,hk⟩
@[go_sem] theorem IG (C:FuncId→aA) (g:FuncId) (first cap args:List AV) : CL C (.fn (.func g) first cap) args M KQ=C g (first++args++cap) M KQ:=by
 apply propext; unfold CL
 constructor
 ·rintro⟨g',f',c',h,hk⟩; cases h; exact hk
 ·intro hk; exact⟨g,first,cap,rfl,hk⟩
@[go_sem] theorem iP (cs:List AV) (parts:List (Nat × Nat × AV)) : iV cs parts K=∃ cs',tQ cs parts=some cs'∧K (.agg cs'):=rfl
@[go_sem] theorem cz (x:RB) (mk:Nat→AV) : fe x mk M KQ=KQ (mk M.next) (M.push x):=rfl
@[go_sem] theorem FP (x:RB) (mk:Nat→AV) (k:KR) : Eu x mk M k=k (mk M.next) (M.push x) (some M.next):=rfl
@[go_sem] theorem Iw (f:(List AV→RM→Prop)→Prop) (g:List AV→RM→Prop) : qw f g=f g:=rfl
@[go_sem] theorem H6 (x:AV) (xs:List AV) : dR (x :: xs) 0=x:=rfl
@[go_sem] theorem Ii (x:AV) (xs:List AV) (n:Nat) : dR (x :: xs) (n + 1)=dR xs n:=rfl
@[go_sem] theorem HV (b:Nat) (x:RB) (mk:Nat→AV) (v:AV) : Fq (some b) M x mk v=(M.heap b=some x∧mk b=v):=rfl
end
section
variable {M M' : RM}
theorem RM.mg {b:Nat} {l:List AV} {opn:Bool} {el fz:Nat} (h:M.heap b=some (.row l opn el fz)) : M.cells b=some l:=by simp[RM.cells,h]
theorem RM.EI {b o:Nat} {l:List AV} {opn:Bool} {el fz:Nat} (h:M.heap b=some (.row l opn el fz)) : M.cell b o=l[o]?:=by simp[RM.cell,RM.mg h]
theorem RM.iJ {b o k:Nat} {l:List AV} {opn:Bool} {el fz:Nat} (h:M.heap b=some (.row l opn el fz)) (hk:o + k≤l.length) : M.loads b o k=some ((l.drop o).take k):=by
 simp[RM.loads,RM.mg h,hk]
structure ae (bs:List Nat) (M M' : RM) : Prop where
 base:M'.base=M.base
 next:M.next≤M'.next
 heap:∀ c,c<M.next→c ∉ bs→M'.heap c=M.heap c
theorem ae.refl (bs:List Nat) (M:RM) : ae bs M M:=⟨rfl,Nat.le_refl _,fun _ _ _=>rfl⟩
theorem ae.trans {bs:List Nat} {M1 M2:RM} (h:ae bs M M1) (k:ae bs M1 M2) : ae bs M M2 :=
 ⟨k.base.trans h.base,Nat.le_trans h.next k.next,fun c hc hb=>(k.heap c (Nat.lt_of_lt_of_le hc h.next) hb).trans (h.heap c hc hb)⟩
theorem ae.push {bs:List Nat} (h:ae bs M M') (x:RB) : ae bs M (M'.push x) :=
 ⟨h.base,Nat.le_succ_of_le h.next,fun c hc hb=>by
  have:=h.next
  simp only[RM.push]; rw[if_neg (by omega)]; exact h.heap c hc hb⟩
theorem ae.put {bs:List Nat} (h:ae bs M M') {b:Nat} (x:RB) (hb:M.next≤b∨b∈bs) : ae bs M (M'.put b x) :=
 ⟨h.base,h.next,fun c hc hcb=>by
  simp only[RM.put]; rw[if_neg]
  ·exact h.heap c hc hcb
  ·rintro rfl; rcases hb with hb | hb
   ·omega
   ·exact hcb hb⟩
theorem ae.del {bs:List Nat} (h:ae bs M M') {b:Nat} (hb:M.next≤b∨b∈bs) : ae bs M (M'.del b) :=
 ⟨h.base,h.next,fun c hc hcb=>by
  simp only[RM.del]; rw[if_neg]
  ·exact h.heap c hc hcb
  ·rintro rfl; rcases hb with hb | hb
   ·omega
   ·exact hcb hb⟩
theorem ae.mono {bs cs:List Nat} (h:ae bs M M') (hs:∀ b∈bs,b∈cs) : ae cs M M':=⟨h.base,h.next,fun c hc hb=>h.heap c hc fun h=>hb (hs c h)⟩
theorem ae.rQ {bs:List Nat} {M1 M2:RM} {cs:List Nat} (h:ae bs M M1) (k:ae cs M1 M2) (hn:∀ c∈cs,M.next≤c∨c∈bs) : ae bs M M2 :=
 ⟨k.base.trans h.base,Nat.le_trans h.next k.next,fun c hc hb=>by
  rw[k.heap c (Nat.lt_of_lt_of_le hc h.next) (fun hm=>by rcases hn c hm with h1 | h1; omega; exact hb h1),h.heap c hc hb]⟩
theorem ae.cells {bs:List Nat} (h:ae bs M M') {b:Nat} (hlt:b<M.next) (hb:b ∉ bs) : M'.cells b=M.cells b:=by
 simp only[RM.cells,h.heap b hlt hb,RM.lo,h.base]
theorem ae.cell {bs:List Nat} (h:ae bs M M') {b o:Nat} (hlt:b<M.next) (hb:b ∉ bs) : M'.cell b o=M.cell b o:=by
 simp only[RM.cell,h.cells hlt hb]
theorem ae.loads {bs:List Nat} (h:ae bs M M') {b o k:Nat} (hlt:b<M.next) (hb:b ∉ bs) : M'.loads b o k=M.loads b o k:=by
 simp only[RM.loads,h.cells hlt hb]
@[go_sem] theorem RM.H5 (x:RB) : (M.push x).next=M.next + 1:=rfl
@[go_sem] theorem RM.Jb (b:Nat) (x:RB) : (M.put b x).next=M.next:=rfl
@[go_sem] theorem RM.IR (b:Nat) : (M.del b).next=M.next:=rfl
@[go_sem] theorem RM.bA (x:RB) : (M.push x).heap M.next=some x:=by simp[RM.push]
theorem RM.EQ {x:RB} {c:Nat} (h:c≠M.next) : (M.push x).heap c=M.heap c:=by simp[RM.push,h]
@[go_sem] theorem RM.zL (b:Nat) (x:RB) : (M.put b x).heap b=some x:=by simp[RM.put]
end
abbrev bP:AV:=.sc (.slice none 0 0)
inductive bu (M:RM) (size:Nat) : AV→List AV→Nat→Prop
 | nil:bu M size bP [] 0
 | emp (b:Nat) : bu M size (.emp b) [] 0
 | slc (b o n:Nat) (cap:Cap) (cs:List AV) : b<M.next→M.loads b o (n * size)=some cs→bu M size (.slc b o n cap) cs n
section
variable {M M' : RM} {size:Nat} {v:AV} {cs:List AV} {n:Nat}
theorem vM {b o k:Nat} {cs:List AV} (h:M.loads b o k=some cs) : cs.length=k:=by
 unfold RM.loads at h
 split at h <;> first | (cases h; done) | skip
 split at h <;> first | (cases h; done) | skip
 rename_i hle
 have:=Option.some.inj h
 rw[← this,List.length_take,List.length_drop]; omega
theorem DD {b o k:Nat} {cs:List AV} (h:M.loads b o k=some cs) (i:Nat) (hi:i<k) : M.cell b (o + i)=cs[i]?:=by
 unfold RM.loads at h
 unfold RM.cell
 split at h <;> first | (cases h; done) | skip
 rename_i l hl
 split at h <;> first | (cases h; done) | skip
 cases h
 simp only[hl,Option.bind_some]
 rw[List.getElem?_take,if_pos hi,List.getElem?_drop]
theorem pQ {b o k:Nat} {cs:List AV} (h:M.loads b o k=some cs) (i j:Nat) (hij:i + j≤k) : M.loads b (o + i) j=some ((cs.drop i).take j):=by
 unfold RM.loads at h ⊢
 cases hl:M.cells b with
 | none=>rw[hl] at h; cases h
 | some l =>
   rw[hl] at h
   simp only at h ⊢
   split at h
   ·rename_i hle
    have h:=Option.some.inj h
    subst h
    rw[if_pos (by omega),List.drop_take,List.drop_drop,List.take_take]
    congr 2
    omega
   ·cases h
theorem kJ {b o:Nat} {l:List AV} (h:M.cells b=some l) (ho:o≤l.length) : M.loads b o 0=some []:=by
 simp[RM.loads,h,ho]
theorem bu.length (h:bu M size v cs n) : cs.length=n * size:=by
 cases h with
 | nil=>exact(Nat.zero_mul _).symm
 | emp=>exact(Nat.zero_mul _).symm
 | slc b o n cap cs hb0 hl=>exact vM hl
theorem bu.len (h:bu M size v cs n) {K:AV→Prop} : fq v K=K (N .i64 n):=by
 cases h with
 | nil=>exact EH
 | emp b=>exact EC b
 | slc b o n cap cs hb0 hl=>exact Ep b o n cap
theorem bu.mK (h:bu M size v cs n) (zs:List AV) : mK M size zs false v=some (n,cs):=by
 cases h with
 | nil=>rfl
 | emp b=>rfl
 | slc b o n cap cs hb0 hl=>simp only[Go.Ab.mK,hl]
theorem bu.pos (h:bu M size v cs n) (hn:0<n) : ∃ b o cap,v=.slc b o n cap∧b<M.next∧M.loads b o (n * size)=some cs:=by
 cases h with
 | nil=>omega
 | emp b=>omega
 | slc b o n cap cs hb0 hl=>exact⟨b,o,cap,rfl,hb0,hl⟩
theorem bu.nP (h:bu M 1 v cs n) {l:List UInt8} (hb:bn byteOf cs=some l) : nP M v=some l:=by
 cases h with
 | nil=>simp[bn] at hb; subst hb; rfl
 | emp b=>simp[bn] at hb; subst hb; rfl
 | slc b o n cap cs hb0 hl =>
   rw[Nat.mul_one] at hl
   simp only[Go.Ab.nP,hl]; exact hb
def av:AV→List Nat
 | .slc b _ _ _=>[b]
 | _=>[]
theorem bu.keep {bs:List Nat} (h:bu M size v cs n) (hk:ae bs M M') (hb:∀ b∈av v,b ∉ bs) : bu M' size v cs n:=by
 cases h with
 | nil=>exact .nil
 | emp b=>exact .emp b
 | slc b o n cap cs hb0 hl =>
   exact .slc b o n cap cs (Nat.lt_of_lt_of_le hb0 hk.next) (by rw[hk.loads hb0 (hb b (by simp[av]))]; exact hl)
inductive Own (M:RM) (base el size:Nat) : AV→List AV→Nat→Prop
 | nil:Own M base el size bP [] 0
 | ex0 (b o:Nat) : base≤b→b<M.next→(∃ l,M.cells b=some l∧o≤l.length)→Own M base el size (.slc b o 0 (.ex 0)) [] 0
 | op (b n:Nat) (cs:List AV) : base≤b→b<M.next→M.heap b=some (.row cs true el 0)→cs.length=n * size→Own M base el size (.slc b 0 n (.op size)) cs n
theorem Own.o7 {base el:Nat} (h:Own M base el size v cs n) : bu M size v cs n:=by
 cases h with
 | nil=>exact .nil
 | ex0 b o hb hlt hc =>
   obtain⟨l,hl,ho⟩:=hc
   exact .slc b o 0 _ [] hlt (by rw[Nat.zero_mul]; exact kJ hl ho)
 | op b n cs hb hlt hh hl =>
   refine .slc b 0 n _ cs hlt ?_
   rw[RM.iJ hh (by omega)]
   simp[← hl]
theorem Own.blk {base el:Nat} (h:Own M base el size v cs n) : ∀ b∈av v,base≤b∧b<M.next:=by
 cases h with
 | nil=>intro b hb; simp[av] at hb
 | ex0 b o hb hlt hc=>intro c hc; simp[av] at hc; subst hc; exact⟨hb,hlt⟩
 | op b n cs hb hlt hh hl=>intro c hc; simp[av] at hc; subst hc; exact⟨hb,hlt⟩
theorem Own.keep {base el:Nat} {bs:List Nat} (h:Own M base el size v cs n) (hk:ae bs M M') (hb:∀ b∈av v,b ∉ bs) : Own M' base el size v cs n:=by
 cases h with
 | nil=>exact .nil
 | ex0 b o h1 hlt hc=>exact .ex0 b o h1 (Nat.lt_of_lt_of_le hlt hk.next) (by rw[hk.cells hlt (hb b (by simp[av]))]; exact hc)
 | op b n cs h1 hlt hh hl=>exact .op b n cs h1 (Nat.lt_of_lt_of_le hlt hk.next) (by rw[hk.heap b hlt (hb b (by simp[av]))]; exact hh) hl
theorem Own.mono {base base' el:Nat} (h:Own M base el size v cs n) (hb:base'≤base) : Own M base' el size v cs n:=by
 cases h with
 | nil=>exact .nil
 | ex0 b o h1 hlt hc=>exact .ex0 b o (Nat.le_trans hb h1) hlt hc
 | op b n cs h1 hlt hh hl=>exact .op b n cs (Nat.le_trans hb h1) hlt hh hl
theorem Bf {base el bytes:Nat} {zs:List AV} {zeros:Bool} {x:AV} {m:Nat} {ds:List AV} {K:af} (h:Own M base el size v cs n) (hbase:base≤M.next) (hs:1≤size) (hx:mK M size zs zeros x=some (m,ds)) (hd:ds.length=m * size)
  (h1:ds.all oneCell=true) (hb:(n + m) * bytes≤140737488355328) (hb2:n + m≤140737488355328)
  (hK:∀ v' M',Own M' base el size v' (cs++ds) (n + m)→ae (av v) M M'→M.next≤M'.next→(v'=v∨∀ b∈av v',M.next≤b)→K v' M') : appW el size bytes zs zeros v x M K:=by
 have hmb:m * bytes≤140737488355328:=Nat.le_trans (Nat.mul_le_mul_right _ (by omega)) hb
 refine⟨m,ds,hx,hmb,by omega, ?_⟩
 cases h with
 | nil =>
   by_cases hm:m=0
   ·subst hm
    have:ds=[]:=List.eq_nil_of_length_eq_zero (by simpa using hd)
    subst this
    exact⟨bP,M,by simp[mO],hK _ _ .nil (ae.refl _ _) (Nat.le_refl _) (.inl rfl)⟩
   ·refine⟨.slc M.next 0 m (.op size),M.push (.row ds true el 0),by simp only[mO,if_neg hm,h1,if_true],hK _ _ ?_ ((ae.refl _ _).push _) (by simp[RM.push]) (.inr fun b hb=>by simp[av] at hb; omega)⟩
    simp only[List.nil_append,Nat.zero_add]
    exact .op _ _ _ hbase (by simp[RM.push]) (RM.bA _) hd
 | ex0 b o hb0 hlt hc =>
   obtain⟨l,hl,ho⟩:=hc
   by_cases hm:m=0
   ·subst hm
    have:ds=[]:=List.eq_nil_of_length_eq_zero (by simpa using hd)
    subst this
    exact⟨_,M,by simp[mO],hK _ _ (.ex0 b o hb0 hlt ⟨l,hl,ho⟩) (ae.refl _ _) (Nat.le_refl _) (.inl rfl)⟩
   ·refine⟨.slc M.next 0 m (.op size),M.push (.row ds true el 0), ?_,hK _ _ ?_ ((ae.refl _ _).push _) (by simp[RM.push]) (.inr fun b hb=>by simp[av] at hb; omega)⟩
    ·have hl0:M.loads b o (0 * size)=some []:=by rw[Nat.zero_mul]; exact kJ hl ho
     simp only[mO,if_neg hm]
     rw[if_neg (by omega),hl0]
     simp only[Nat.zero_add,List.nil_append]
     rw[if_pos ⟨hmb,by omega,h1⟩]
    ·simp only[List.nil_append,Nat.zero_add]
     exact .op _ _ _ hbase (by simp[RM.push]) (RM.bA _) hd
 | op b n cs hb0 hlt hh hl =>
   by_cases hm:m=0
   ·subst hm
    have:ds=[]:=List.eq_nil_of_length_eq_zero (by simpa using hd)
    subst this
    exact⟨_,M,by simp[mO],hK _ _ (by simpa using .op b n cs hb0 hlt hh hl) (ae.refl _ _) (Nat.le_refl _) (.inl rfl)⟩
   ·have hpos:1≤m * size:=Nat.mul_pos (by omega) hs
    have hsum:(n + m) * size=n * size + m * size:=Nat.add_mul _ _ _
    refine⟨.slc M.next 0 (n + m) (.op size),(M.del b).push (.row (cs++ds) true el 0), ?_,hK _ _ ?_ (((ae.refl _ _).del (.inr (by simp[av]))).push _) (by simp[RM.push,RM.del]) (.inr fun b hb=>by simp[av] at hb; omega)⟩
    ·simp only[mO,if_neg hm,hh,and_self,if_true]
     rw[if_neg (by omega),if_pos ⟨trivial,hb,hb2,trivial,hl,Nat.zero_le _,h1⟩]
    ·exact .op _ _ _ (show base≤M.next from hbase) (by simp[RM.push,RM.del]) (by simp[RM.push,RM.del]) (by rw[List.length_append,hl,hd,hsum])
theorem bu.qF (h:bu M size v cs n) (neg:Bool) : (v=bP∧∀ K:AV→Prop,bN neg 2 v bP K=K (Bo (!neg)))∨(v≠bP∧∀ K:AV→Prop,bN neg 2 v bP K=K (Bo neg)):=by
 cases h with
 | nil=>exact .inl ⟨rfl,fun _=>uX neg⟩
 | emp b=>exact .inr ⟨by(intro h; cases h),fun _=>uV neg b⟩
 | slc b o n cap cs hb0 hl=>exact .inr ⟨by(intro h; cases h),fun _=>uQ neg b o n cap⟩
theorem Own.lit {base el T:Nat} (M:RM) (h:base≤M.next) : Own (M.push (.row [] false T 0)) base el size (.slc M.next 0 0 (.ex 0)) [] 0 :=
 .ex0 _ _ h (by simp[RM.push]) ⟨[],by simp[RM.cells,RM.push],Nat.le_refl _⟩
end
end Go.Ab
set_option maxRecDepth 4000
namespace Go.Ab
open Go
theorem jM {n:Int} (h0 : -9223372036854775808≤n) (h:n<9223372036854775808) : IntKind.wrap .i64 n=n:=by
 rw[IntKind.wrap_i64]; omega
end Go.Ab
namespace Go.Ab
open Go Go.RowKit
section
variable {P:Program}
end
def RM.old (base:Base) (w:World) : RM where
 next:=base.n
 heap:=fun b=>if b<base.n then(match w.heap[b]? with | some (.cells c _ _)=>some (.ro c) | _=>none) else none
 base:=base
def xO (n:Nat) : Ren:=fun b=>if b<n then some ⟨b,0,0,0⟩ else none
theorem Ev {P:Program} {base:Base} {w:World} (hn:base.n=w.heap.size) (hi:base.inv w) : aZ P (xO base.n) (RM.old base w) w:=by
 refine⟨{ next:=base.n,heap:=.leaf },rfl,⟨fun b i h=>?_,fun b i x _ h=>by simp[Tree.get] at h,fun b _ i _ x _ _ _ h=>by simp[Tree.get] at h,fun b x h=>by simp[Tree.get] at h,fun b i x _ h=>by simp[Tree.get] at h,hi⟩,by simp[RM.old,RM.lo,hn],fun b x h=>.inr ?_,fun c hc=>by have hc' : c<base.n:=hc; simp only[xO]; rw[if_pos hc']⟩
 ·simp only[xO] at h
  split at h <;> first | (cases h; done) | skip
  cases h
  exact⟨by assumption,by rw[← hn]; assumption⟩
 ·simp only[RM.old] at h
  split at h <;> first | (cases h; done) | skip
  rename_i hlt
  split at h <;> first | (cases h; done) | skip
  rename_i c el fr hh
  cases h
  exact⟨c,rfl,hlt,el,fr,hh⟩
theorem RM.DN {base:Base} {w:World} {b:Nat} {c:Array Value} {el:TypeId} {fr:_} (hb:b<base.n) (h:w.heap[b]?=some (.cells c el fr)) : (RM.old base w).cells b=some (c.toList.map (iI base.n)):=by
 simp only[RM.cells,RM.old,if_pos hb,h]
def iG (lo:Nat) : Value→AV
 | .agg cs=>.agg (cs.toList.map (iI lo))
 | v=>iI lo v
theorem zP {ρ:Ren} {lo:Nat} (h:∀ c,c<lo→ρ c=some ⟨c,0,0,0⟩) : ∀ (vs:List Value),au ρ (vs.map (iI lo)) vs
 | []=>.nil
 | v :: vs=>.cons _ _ _ _ (rU h v) (zP h vs)
theorem EE {ρ:Ren} {lo:Nat} (h:∀ c,c<lo→ρ c=some ⟨c,0,0,0⟩) (v:Value) : aa ρ (iG lo v) v:=by
 unfold iG
 split
 ·exact .agg _ _ (zP h _)
 ·exact rU h v
theorem wD {ρ:Ren} {lo:Nat} (h:∀ c,c<lo→ρ c=some ⟨c,0,0,0⟩) : ∀ (vs:List Value),au ρ (vs.map (iG lo)) vs
 | []=>.nil
 | v :: vs=>.cons _ _ _ _ (EE h v) (wD h vs)
theorem bX.close {P:Program} {f:FuncId} {base:Base} {w:World} {us:Array Value} (hn:base.n=w.heap.size) (hi:base.inv w)
  (h:bX P f (us.toList.map (iG base.n)) (RM.old base w) fun v _=>v=Bo true) :
  Calls P f us w fun e w'=>e=.returned (.bool true)∧Below w.heap.size w w':=by
 have hr:=Ev (P:=P) hn hi
 refine((h.2 (xO base.n) w us.toList (wD (fun c hc=>by simp only[xO]; rw[if_pos hc]) _) hr)).mono fun e w' hR=>?_
 obtain⟨v',v,M',ρ',rfl,k1,k2,rfl⟩:=hR
 obtain⟨rfl,_⟩:=ak k2
 refine⟨rfl,k1.step.os,k1.step.tape,k1.step.output,k1.step.size,fun k hk=>k1.step.low k ?_⟩
 show k<base.n
 rw[hn]; exact hk
def qc:Option TypeDesc→Bool
 | some .bool | some (.int _) | some .string | some (.slice _) | some (.struct _) | some (.array _ _)=>false
 | _=>true
inductive Fits (P:Program) (M:RM) : TypeId→List AV→Prop
 | bool (t:TypeId) (b:Bool) : P.underlying t=some .bool→Fits P M t [Bo b]
 | int (t:TypeId) (k:IntKind) (n:Int) : P.underlying t=some (.int k)→k.min≤n→n≤k.max→Fits P M t [N k n]
 | str (t:TypeId) (s:List UInt8) : P.underlying t=some .string→s.length≤reachBytes→Fits P M t [St s]
 | F3 (t e:TypeId) : P.underlying t=some (.slice e)→Fits P M t [bP]
 | emp (t e:TypeId) (b:Nat) : P.underlying t=some (.slice e)→Fits P M t [.emp b]
 | slc (t e:TypeId) (b o n c:Nat) (cs:List AV) : P.underlying t=some (.slice e)→b<M.next→n≤c→c * P.bytesOf e≤reachBytes→M.loads b o (n * P.cellsOf e)=some cs →
   (∀ i,i<n→Fits P M e ((cs.drop (i * P.cellsOf e)).take (P.cellsOf e)))→Fits P M t [.slc b o n (.ex c)]
 | struct (t:TypeId) (fs:Array Field) (cs:List AV) : P.underlying t=some (.struct fs)→cs.length=P.cellsOf t →
   (∀ (i:Nat) (f:Field),fs[i]?=some f→Fits P M f.type ((cs.drop f.offset).take (P.cellsOf f.type)))→Fits P M t cs
 | array (t e:TypeId) (n:Nat) (cs:List AV) : P.underlying t=some (.array n e)→cs.length=P.cellsOf t →
   (∀ i,i<n→Fits P M e ((cs.drop (i * P.cellsOf e)).take (P.cellsOf e)))→Fits P M t cs
 | other (t:TypeId) (cs:List AV) : qc (P.underlying t)=true→Fits P M t cs
 | zero (t e:TypeId) (cs:List AV) : P.underlying t=some (.slice e)→P.cellsOf e=0→Fits P M t cs
theorem oM (a:Addr) : a.add 0=a:=by simp[Addr.add]
theorem kI {w:World} {base:Nat} {a:Addr} {n:Nat} {cs:List Value} (h:w.cells? base a n=some cs) : cs.length=n∧∀ i,i<n→w.cell? (a.add i)=cs[i]?:=by
 unfold World.cells? at h
 split at h
 ·exact⟨by simpa using mapM_some_length h,fun i hi=>mapM_some_get h i i (by simp[hi])⟩
 ·cases h
theorem cell?_at {w:World} {a:Addr} {v:Value} (h:w.cell? a=some v) : ∃ c el fr,w.heap[a.block]?=some (.cells c el fr)∧a.spot=none∧a.off<c.size∧c[a.off]?=some v:=by
 unfold World.cell? at h
 split at h
 ·rename_i c el fr hh
  split at h
  ·cases h
  ·rename_i hs
   exact⟨c,el,fr,hh,by simpa using hs,(Array.getElem?_eq_some_iff.1 h).1,h⟩
 ·cases h
section
variable {H:Type} {enc:TypeId × Value→H} {P:Program} {base:Base} {w:World}
theorem jJ {e:TypeId} {ds:List (DataW H)} {d:DataW H} (hd:d∈ds) {x:Nat} (hx:x∈d.weights P e) : x∈DataW.weightsAll P e ds:=by
 induction ds with
 | nil=>cases hd
 | cons y ys ih =>
   simp only[DataW.weightsAll,List.mem_append]
   rcases List.mem_cons.1 hd with rfl | hd
   ·exact .inl hx
   ·exact .inr (ih hd)
theorem mD {x:Nat} : ∀ (ts:List TypeId) (ds:List (DataW H)) (i:Nat) (t:TypeId) (d:DataW H),ts[i]?=some t→ds[i]?=some d→x∈d.weights P t→x∈DataW.weightsEach P ts ds
 | [],_,_,_,_,h,_,_=>by simp at h
 | _ :: _,[],_,_,_,_,h,_=>by simp at h
 | t :: ts,d :: ds,0,t',d',h,h',hx=>by
   simp at h h'; subst h h'
   simp only[DataW.weightsEach,List.mem_append]; exact .inl hx
 | t :: ts,d :: ds,i + 1,t',d',h,h',hx=>by
   simp only[DataW.weightsEach,List.mem_append]
   exact .inr (mD ts ds i t' d' (by simpa using h) (by simpa using h') hx)
theorem xS (hn:base.n=w.heap.size) {held:Bool} : ∀ (fuel:Nat) (t:TypeId) (cs:List Value) (x:DataW H × List MemPlace),DataW.trod enc P w 0 (fun _=>true) held fuel t cs=some x →
  (∀ y∈x.1.weights P t,y≤reachBytes)→Fits P (RM.old base w) t (cs.map (iI base.n)):=by
 intro fuel
 induction fuel with
 | zero=>intro t cs x h; simp[DataW.trod] at h
 | succ m ih =>
   intro t cs x h hw
   cases hu:P.underlying t with
   | none=>exact .other _ _ (by rw[hu]; rfl)
   | some d =>
     cases d with
     | bool =>
       obtain⟨b,rfl,rfl⟩:=DataW.trod_bool hu h
       exact .bool t b hu
     | int k =>
       obtain⟨n,rfl,rfl,hwf⟩:=DataW.trod_int hu h
       simp only[Lit.wf,Bool.and_eq_true,decide_eq_true_eq] at hwf
       exact .int t k n hu hwf.1 hwf.2
     | string =>
       obtain⟨s,rfl,rfl,_⟩:=DataW.trod_string hu h
       exact .str t s.data.toList hu (hw _ (by simp[DataW.weights]))
     | slice e =>
       rcases DataW.trod_slice hu h with⟨rfl,rfl⟩ | ⟨a,len,cap,elems,rest,n,hm,rfl,rfl,_,hlc,_,hel,hget,hrest,_⟩
       ·exact .F3 t e hu
       ·cases hm
        rcases Nat.eq_zero_or_pos (P.cellsOf e) with hz | hz
        ·exact .zero t e _ hu hz
        rcases Nat.eq_zero_or_pos cap with hc | hc
        ·have hl0:len=0:=by omega
         subst hc hl0
         exact .emp t e 0 hu
        ·obtain⟨hr1,hr2⟩:=hrest rfl
         have every:∀ i,i<cap→∃ es y,w.cells? 0 (a.add (i * P.cellsOf e)) (P.cellsOf e)=some es∧DataW.trod enc P w 0 (fun _=>true) held m e es=some y∧(y∈elems∨y∈rest):=by
          intro i hi
          by_cases hil:i<len
          ·have h1:=hget i hil
           have h2:elems[i]?=some (elems[i]'(by omega)):=by simp[hel,hil]
           rw[h2] at h1
           obtain⟨es,e1,e2⟩:=Option.bind_eq_some_iff.1 h1
           exact⟨es,_,e1,e2,.inl (List.getElem_mem _)⟩
          ·have h1:=hr2 (i - len) (by omega)
           rw[show len + (i - len)=i by omega] at h1
           have h2:rest[i - len]?=some (rest[i - len]'(by omega)):=by
            rw[List.getElem?_eq_getElem]
           rw[h2] at h1
           obtain⟨es,e1,e2⟩:=Option.bind_eq_some_iff.1 h1
           exact⟨es,_,e1,e2,.inr (List.getElem_mem _)⟩
         obtain⟨es0,_,k0,_,_⟩:=every 0 hc
         obtain⟨kl0,kg0⟩:=kI k0
         have hc0:=kg0 0 hz
         rw[List.getElem?_eq_getElem (by omega)] at hc0
         obtain⟨c,el,fr,hh,hsp,_,_⟩:=cell?_at hc0
         obtain⟨b,o,sp⟩:=a
         rw[Nat.zero_mul,oM,oM] at hh hsp
         simp only at hh hsp
         subst hsp
         have hblt:b<base.n:=by rw[hn]; exact(Array.getElem?_eq_some_iff.1 hh).1
         have hlast:o + cap * P.cellsOf e≤c.size:=by
          obtain⟨es1,_,k1,_,_⟩:=every (cap - 1) (by omega)
          obtain⟨kl1,kg1⟩:=kI k1
          have hc1:=kg1 (P.cellsOf e - 1) (by omega)
          rw[List.getElem?_eq_getElem (by omega)] at hc1
          obtain⟨c',el',fr',hh',_,hlt,_⟩:=cell?_at hc1
          rw[bF,bF] at hh' hlt
          simp only at hh' hlt
          rw[hh] at hh'
          cases hh'
          have:cap * P.cellsOf e=(cap - 1) * P.cellsOf e + P.cellsOf e:=by
           rw[← Nat.succ_mul]; congr 1; omega
          omega
         have Jy:iI base.n (.slice (some ⟨b,o,none⟩) len cap)=.slc b o len (.ex cap):=by
          obtain⟨cap,rfl⟩ : ∃ k,cap=k + 1:=⟨cap - 1,by omega⟩
          simp only[iI,if_pos hblt]
         have hcells:=RM.DN hblt hh
         have hle:len * P.cellsOf e≤cap * P.cellsOf e:=Nat.mul_le_mul_right _ hlc
         have hload:(RM.old base w).loads b o (len * P.cellsOf e)=some (((c.toList.map (iI base.n)).drop o).take (len * P.cellsOf e)):=by
          simp only[RM.loads,hcells]
          rw[if_pos (by simp; omega)]
         simp only[List.map_cons,List.map_nil,Jy]
         refine .slc t e b o len cap _ hu hblt hlc ?_ hload fun i hi=>?_
         ·have:=hw ((elems.length + rest.length) * P.bytesOf e) (by simp[DataW.weights,hu])
          rwa [hel,hr1,show len + (cap - len)=cap by omega] at this
         ·obtain⟨es,y,k1,k2,k3⟩:=every i (by omega)
          have hlen:=(kI k1).1
          have hes:((((c.toList.map (iI base.n)).drop o).take (len * P.cellsOf e)).drop (i * P.cellsOf e)).take (P.cellsOf e)=es.map (iI base.n):=by
           have hii:i * P.cellsOf e + P.cellsOf e≤len * P.cellsOf e:=by rw[← Nat.succ_mul]; exact Nat.mul_le_mul_right _ hi
           apply List.ext_getElem?
           intro j
           by_cases hj:j<P.cellsOf e
           ·have hg:=(kI k1).2 j hj
            rw[List.getElem?_take,if_pos hj,List.getElem?_drop,List.getElem?_take,if_pos (by omega),List.getElem?_drop,List.getElem?_map,List.getElem?_map,← hg]
            rw[bF,bF]
            simp only[World.cell?,hh]
            rw[Array.getElem?_toList]
            simp[Nat.add_assoc]
           ·rw[List.getElem?_eq_none (by simp; omega),List.getElem?_eq_none (by simp; omega)]
          rw[hes]
          refine ih e es y k2 fun z hz=>hw z ?_
          simp only[DataW.weights,hu,List.mem_cons,List.mem_append]
          rcases k3 with k3 | k3
          ·exact .inr (.inl (jJ (List.mem_map_of_mem k3) hz))
          ·exact .inr (.inr (jJ (List.mem_map_of_mem k3) hz))
     | struct fs =>
       obtain⟨xs,n,hm,rfl,hl,hxl,hget⟩:=DataW.trod_struct hu h
       cases hm
       refine .struct t fs _ hu (by simpa using hl) fun i f hf=>?_
       have h1:=hget i f hf
       have hi:i<fs.size:=(Array.getElem?_eq_some_iff.1 hf).1
       rw[List.getElem?_eq_getElem (by omega)] at h1
       rw[← List.map_drop,← List.map_take]
       refine ih _ _ _ h1 fun z hz=>hw z ?_
       simp only[DataW.weights,hu]
       refine mD _ _ i f.type _ (by simp[hf]) (by rw[List.getElem?_map,List.getElem?_eq_getElem (by omega)]; rfl) hz
     | array n e =>
       obtain⟨xs,m',hm,rfl,hl,hxl,hget⟩:=DataW.trod_array hu h
       cases hm
       refine .array t e n _ hu (by simpa using hl) fun i hi=>?_
       have h1:=hget i hi
       rw[List.getElem?_eq_getElem (by omega)] at h1
       rw[← List.map_drop,← List.map_take]
       refine ih _ _ _ h1 fun z hz=>hw z ?_
       simp only[DataW.weights,hu]
       exact jJ (List.mem_map_of_mem (List.getElem_mem _)) hz
     | _=>exact .other _ _ (by rw[hu]; rfl)
end
section
variable {P:Program} {M:RM} {t:TypeId} {cs:List AV}
theorem Fits.Ea (h:Fits P M t cs) (hu:P.underlying t=some .bool) : ∃ b,cs=[Bo b]:=by
 cases h <;> simp_all [qc]
theorem Fits.FN (h:Fits P M t cs) {k:IntKind} (hu:P.underlying t=some (.int k)) : ∃ n:Int,cs=[N k n]∧k.min≤n∧n≤k.max:=by
 cases h with
 | int _ k' n h1 h2 h3=>rw[hu] at h1; cases h1; exact⟨n,rfl,h2,h3⟩
 | _=>simp_all [qc]
theorem Fits.Bp (h:Fits P M t cs) (hu:P.underlying t=some .string) : ∃ s,cs=[St s]∧s.length≤reachBytes:=by
 cases h with
 | str _ s h1 h2=>exact⟨s,rfl,h2⟩
 | _=>simp_all [qc]
theorem Fits.Df (h:Fits P M t cs) {e:TypeId} (hu:P.underlying t=some (.slice e)) (hz:0<P.cellsOf e) :
  ∃ v n ds,cs=[v]∧bu M (P.cellsOf e) v ds n∧n * P.bytesOf e≤reachBytes∧∀ i,i<n→Fits P M e ((ds.drop (i * P.cellsOf e)).take (P.cellsOf e)):=by
 cases h with
 | F3 _ e' h1=>exact⟨_,0,[],rfl,.nil,by simp,fun i hi=>absurd hi (by omega)⟩
 | emp _ e' b h1=>exact⟨_,0,[],rfl,.emp b,by simp,fun i hi=>absurd hi (by omega)⟩
 | slc _ e' b o n c ds h1 h2 h3 h4 h5 h6 =>
   rw[hu] at h1; cases h1
   exact⟨_,n,ds,rfl,.slc b o n _ ds h2 h5,Nat.le_trans (Nat.mul_le_mul_right _ h3) h4,h6⟩
 | zero _ e' _ h1 h2=>rw[hu] at h1; cases h1; omega
 | _=>simp_all [qc]
theorem vX {α:Type} {size:Nat} (enc:α→List AV) (p:α→Prop) (hs:∀ a,(enc a).length=size) : ∀ (n:Nat) (ds:List AV),ds.length=n * size→(∀ i,i<n→∃ a,p a∧(ds.drop (i * size)).take size=enc a) →
  ∃ xs:List α,xs.length=n∧ds=xs.flatMap enc∧∀ x∈xs,p x
 | 0,ds,hl,_=>⟨[],rfl,by simpa using hl,by simp⟩
 | n + 1,ds,hl,h=>by
   obtain⟨a,pa,ha⟩:=h 0 (by omega)
   simp only[Nat.zero_mul,List.drop_zero] at ha
   have hl' : (ds.drop size).length=n * size:=by rw[List.length_drop,hl,Nat.succ_mul]; omega
   obtain⟨xs,h1,h2,h3⟩:=vX enc p hs n (ds.drop size) hl' fun i hi=>by
    obtain⟨b,pb,hb⟩:=h (i + 1) (by omega)
    refine⟨b,pb, ?_⟩
    rw[List.drop_drop,← hb,Nat.succ_mul,Nat.add_comm]
   refine⟨a :: xs,by simp[h1], ?_,fun x hx=>?_⟩
   ·rw[List.flatMap_cons,← h2,← ha,List.take_append_drop]
   ·rcases List.mem_cons.1 hx with rfl | hx
    ·exact pa
    ·exact h3 x hx
end
def uZ (P:Program) (t:TypeId) : Bool :=
 match P.underlying t with
 | some (.struct _) | some (.array _ _)=>true
 | _=>false
def gX (P:Program) (M:RM) (t:TypeId) (v:AV) : Prop :=
 match uZ P t with
 | true=>∃ cs,v=.agg cs∧Fits P M t cs
 | false=>Fits P M t [v]
theorem gX.agg {P:Program} {M:RM} {t:TypeId} {v:AV} (h:gX P M t v) (ha:uZ P t=true) : ∃ cs,v=.agg cs∧Fits P M t cs:=by
 unfold gX at h; rw[ha] at h; exact h
theorem gX.one {P:Program} {M:RM} {t:TypeId} {v:AV} (h:gX P M t v) (ha:uZ P t=false) : Fits P M t [v]:=by
 unfold gX at h; rw[ha] at h; exact h
section
variable {H:Type} {enc:TypeId × Value→H} {P:Program} {base:Base} {w:World}
theorem xW {r:Reach} {b:Nat} {t:TypeId} {cs:Array Value} (h:Cell.okWide P w r b t (.agg cs)) : False:=by
 unfold Cell.okWide at h
 split at h <;> first | (rename_i e _; cases e; done) | skip
 all_goals first | (rename_i e; cases e; done) | skip
 unfold Cell.ok at h
 split at h <;> first | exact h | simp_all
theorem Eo (hn:base.n=w.heap.size) {r:Reach} {b:Nat} {held:Bool} {t:TypeId} {v:Value} {d:DataW H} {ps:List MemPlace} (hv:Value.okWide P w r b t v) (h:DataW.Trod enc P w 0 (fun _=>true) held t v d ps)
  (hw:∀ y∈d.weights P t,y≤reachBytes) : gX P (RM.old base w) t (iG base.n v):=by
 obtain⟨fuel,hf⟩:=h
 have hfit:=xS hn fuel t _ _ hf hw
 unfold gX
 cases ha:uZ P t with
 | true =>
   have:∃ cs,v=.agg cs:=by
    unfold Value.okWide at hv
    unfold uZ at ha
    split at hv
    ·obtain⟨cs,h,_⟩:=hv; exact⟨cs,h⟩
    ·obtain⟨cs,h,_⟩:=hv; exact⟨cs,h⟩
    ·split at ha <;> simp_all
   obtain⟨cs,rfl⟩:=this
   exact⟨_,rfl,hfit⟩
 | false =>
   have hc:Cell.okWide P w r b t v:=by
    unfold Value.okWide at hv
    unfold uZ at ha
    split at hv
    ·simp_all
    ·simp_all
    ·exact hv
   have:v.cells.toList=[v]∧iG base.n v=iI base.n v:=by
    cases v with
    | agg cs=>exact(xW hc).elim
    | _=>exact⟨rfl,rfl⟩
   rw[this.1] at hfit
   rw[this.2]
   exact hfit
theorem xM (hn:base.n=w.heap.size) {r:Reach} {b:Nat} {held:Bool} : ∀ {ts:List TypeId} {vs:List Value} {ds:List (DataW H)} {ps:List MemPlace},DataW.TrodAll enc P w 0 (fun _=>true) held ts vs ds ps →
  (∀ (j:Nat) t v,ts[j]?=some t→vs[j]?=some v→Value.okWide P w r b t v)→(∀ y∈DataW.weightsEach P ts ds,y≤reachBytes) →
  ∀ (j:Nat) t v,ts[j]?=some t→vs[j]?=some v→gX P (RM.old base w) t (iG base.n v)
 | [],_,_,_,_,_,_,j,t,v,h,_=>by simp at h
 | t0 :: ts,vs,ds,ps,h,hv,hw,j,t,v,hj,hvj=>by
   cases vs with
   | nil=>simp at hvj
   | cons v0 vs =>
   cases ds with
   | nil=>exact h.elim
   | cons d ds =>
   obtain⟨p,q,h1,h2,_⟩:=h
   cases j with
   | zero =>
     simp at hj hvj; subst hj hvj
     exact Eo hn (hv 0 _ _ rfl rfl) h1 fun y hy=>hw y (by simp[DataW.weightsEach,hy])
   | succ j =>
     exact xM hn h2 (fun j t v a b=>hv (j + 1) t v (by simpa using a) (by simpa using b)) (fun y hy=>hw y (by simp[DataW.weightsEach,hy])) j t v (by simpa using hj) (by simpa using hvj)
theorem oO (hl:laidOutB P=true) {W W' : World} {sp:Nat→Bool} (hb:Below W.heap.size W W') : ∀ {ts:List TypeId} {vs:List Value} {ds:List (DataW H)} {ps:List MemPlace},
  (∀ t∈ts,P.readableRec t=true∧t<P.types.size)→DataW.TrodAll enc P W 0 (fun _=>true) true ts vs ds ps→(∀ p∈ps,p.block<W.heap.size)→(∀ p∈ps,sp p.block=true)→DataW.TrodAll enc P W' 0 sp true ts vs ds ps
 | [],vs,ds,ps,_,h,_,_=>by
   cases vs <;> cases ds <;> first | exact h | exact h.elim
 | t :: ts,vs,ds,ps,hr,h,hlt,hsp=>by
   cases vs with
   | nil=>cases ds <;> exact h.elim
   | cons v vs =>
   cases ds with
   | nil=>exact h.elim
   | cons d ds =>
   obtain⟨p,q,h1,h2,rfl⟩:=h
   have hrt:=hr t (List.mem_cons_self ..)
   exact⟨p,q,WideElems.Trod_stays hl hrt.1 hrt.2 h1 (fun x hx=>hb.same (hlt x (List.mem_append_left _ hx))) (fun x hx=>hsp x (List.mem_append_left _ hx)),
    oO hl hb (fun t ht=>hr t (List.mem_cons_of_mem _ ht)) h2 (fun x hx=>hlt x (List.mem_append_right _ hx)) (fun x hx=>hsp x (List.mem_append_right _ hx)),rfl⟩
end
def RB.cells (lo:Nat) : RB→Option (List AV)
 | .row l _ _ _=>some l
 | .ro c=>some (c.toList.map (iI lo))
 | _=>none
@[go_sem] theorem RB.mg (lo:Nat) (l:List AV) (p:Bool) (e f:Nat) : RB.cells lo (.row l p e f)=some l:=rfl
theorem RM.yT (M:RM) (b:Nat) : M.cells b=(M.heap b).bind (RB.cells M.lo):=by
 unfold RM.cells RB.cells
 cases M.heap b with
 | none=>rfl
 | some x=>cases x <;> rfl
def ji (l:Option (List AV)) (o k:Nat) : Option (List AV) :=
 match l with
 | some l=>if o + k≤l.length then some ((l.drop o).take k) else none
 | none=>none
@[go_sem] theorem GM (l:List AV) (o k:Nat) : ji (some l) o k=if o + k≤l.length then some ((l.drop o).take k) else none:=rfl
theorem RM.qX (M:RM) (b o k:Nat) : M.loads b o k=ji (M.cells b) o k:=rfl
section
variable {M M' : RM}
@[go_sem] theorem RM.C9 (x:RB) (c:Nat) : (M.push x).heap c=if c=M.next then some x else M.heap c:=rfl
@[go_sem] theorem RM.heap_put (b:Nat) (x:RB) (c:Nat) : (M.put b x).heap c=if c=b then some x else M.heap c:=rfl
@[go_sem] theorem RM.Jv (b:Nat) (c:Nat) : (M.del b).heap c=if c=b then none else M.heap c:=rfl
@[go_sem] theorem RM.HZ (x:RB) : (M.push x).base=M.base:=rfl
@[go_sem] theorem RM.Ju (b:Nat) (x:RB) : (M.put b x).base=M.base:=rfl
@[go_sem] theorem RM.Jm (b:Nat) : (M.del b).base=M.base:=rfl
theorem RM.tO (x:RB) (c:Nat) : (M.push x).cells c=if c=M.next then x.cells M.lo else M.cells c:=by
 simp only[RM.yT,RM.C9]
 split <;> rfl
theorem RM.vF (b:Nat) (x:RB) (c:Nat) : (M.put b x).cells c=if c=b then x.cells M.lo else M.cells c:=by
 simp only[RM.yT,RM.heap_put]
 split <;> rfl
@[go_sem] theorem RM.Ia (x:RB) (c o:Nat) : (M.push x).cell c o=if c=M.next then(x.cells M.lo).bind (·[o]?) else M.cell c o:=by
 simp only[RM.cell,RM.tO]
 split <;> rfl
@[go_sem] theorem RM.I9 (b:Nat) (x:RB) (c o:Nat) : (M.put b x).cell c o=if c=b then(x.cells M.lo).bind (·[o]?) else M.cell c o:=by
 simp only[RM.cell,RM.vF]
 split <;> rfl
@[go_sem] theorem RM.Ht (x:RB) (c o k:Nat) : (M.push x).loads c o k=if c=M.next then ji (x.cells M.lo) o k else M.loads c o k:=by
 simp only[RM.qX,RM.tO]
 split <;> rfl
@[go_sem] theorem RM.Ik (b:Nat) (x:RB) (c o k:Nat) : (M.put b x).loads c o k=if c=b then ji (x.cells M.lo) o k else M.loads c o k:=by
 simp only[RM.qX,RM.vF]
 split <;> rfl
def ic (l:List AV) (fz o:Nat) (vs:List AV) : Option (List AV) :=
 if o + vs.length≤l.length∧fz≤o∧vs.all oneCell=true then some (l.take o++vs++l.drop (o + vs.length)) else none
theorem lY {l vs:List AV} {fz o:Nat} (h1:o + vs.length≤l.length) (h2:fz≤o) (h3:vs.all oneCell=true) : ic l fz o vs=some (l.take o++vs++l.drop (o + vs.length)):=if_pos ⟨h1,h2,h3⟩
@[go_sem] theorem wN {l vs:List AV} (h:vs.length=l.length) (h3:vs.all oneCell=true) : ic l 0 0 vs=some vs:=by
 rw[lY (by omega) (Nat.le_refl _) h3]
 simp[h]
theorem RM.mi {b o:Nat} {vs l:List AV} {p:Bool} {e f:Nat} (h:M.heap b=some (.row l p e f)) : M.stores b o vs=(ic l f o vs).map fun l'=>M.put b (.row l' p e f):=by
 simp only[RM.stores,h,ic]
 split <;> rfl
theorem RM.EM {x y:RB} : (M.push x).put M.next y=M.push y:=by
 simp only[RM.put,RM.push]
 congr 1
 funext c
 split <;> rfl
theorem RM.yJ {x y:RB} {b:Nat} (hb:b≠M.next) : (M.push x).put b y=(M.put b y).push x:=by
 simp only[RM.put,RM.push]
 congr 1
 funext c
 by_cases h1:c=b
 ·subst h1; simp[hb]
 ·simp[h1]
theorem RM.uf {l vs:List AV} {p:Bool} {e f o:Nat} : (M.push (.row l p e f)).stores M.next o vs=(ic l f o vs).map fun l'=>M.push (.row l' p e f):=by
 rw[RM.mi (RM.bA _)]
 congr 1
 funext l'
 exact RM.EM
theorem RM.tT {M:RM} {b o:Nat} {vs:List AV} : M.stores b o vs=match M.heap b with
  | some (.row l p e f)=>(ic l f o vs).map fun l'=>M.put b (.row l' p e f)
  | _=>none:=by
 cases h:M.heap b with
 | none=>simp[RM.stores,h]
 | some x =>
   cases x with
   | row l p e f=>rw[RM.mi h]
   | _=>simp[RM.stores,h]
@[go_sem] theorem RM.sZ {x:RB} {vs:List AV} {c o:Nat} (hc:c≠M.next) : (M.push x).stores c o vs=(M.stores c o vs).map (·.push x):=by
 rw[RM.tT,RM.tT,RM.EQ hc]
 split
 ·simp only[Option.map_map]
  congr 1
  funext l'
  exact RM.yJ hc
 ·rfl
@[go_sem] theorem RM.GN {l vs:List AV} {p:Bool} {e f c o:Nat} : (M.push (.row l p e f)).stores c o vs =
  if c=M.next then(ic l f o vs).map fun l'=>M.push (.row l' p e f) else(M.stores c o vs).map (·.push (.row l p e f)):=by
 split
 ·rename_i h; subst h; exact RM.uf
 ·rename_i h; exact RM.sZ h
@[go_sem] theorem RM.Fe {b o:Nat} {l vs:List AV} {p:Bool} {e f:Nat} : (M.put b (.row l p e f)).stores b o vs=(ic l f o vs).map fun l'=>M.put b (.row l' p e f):=by
 rw[RM.mi (RM.zL _ _)]
 congr 1
 funext l'
 simp only[RM.put]
 congr 1
 funext c
 split <;> rfl
@[go_sem] theorem JG {α:Type} (a:α) (K:α→Prop) : (∃ x,some a=some x∧K x)=K a:=by simp
@[go_sem] theorem GQ {α β:Type} (f:α→β) (x:α) : (some x).map f=some (f x):=rfl
attribute [go_sem] Int.natCast_nonneg Int.toNat_natCast Nat.mul_one true_implies false_implies Bool.false_eq_true Bool.true_eq_false Bool.not_true Bool.not_false Bool.and_self Bool.and_true Bool.true_and Nat.le_refl List.append_nil List.nil_append if_true if_false Nat.lt_irrefl Nat.add_one_ne_zero true_and and_true Nat.zero_add Nat.add_zero List.drop_zero List.getElem?_cons_zero List.getElem?_cons_succ Option.bind_some List.take_succ_cons List.take_zero List.drop_succ_cons List.drop_nil List.take_nil
attribute [go_sem] nG List.all_cons List.all_nil List.length_cons List.length_nil
@[go_sem] theorem Ic (cs:List AV) : (AV.agg cs).cells=cs:=rfl
@[go_sem] theorem Ja (v:Value) : (AV.sc v).cells=[.sc v]:=rfl
@[go_sem] theorem Il (b o:Nat) : (AV.ptr b o).cells=[.ptr b o]:=rfl
@[go_sem] theorem Ij (b o n:Nat) (c:Cap) : (AV.slc b o n c).cells=[.slc b o n c]:=rfl
@[go_sem] theorem Ib (b:Nat) : (AV.emp b).cells=[.emp b]:=rfl
@[go_sem] theorem Im (b:Nat) : (AV.map b).cells=[.map b]:=rfl
@[go_sem] theorem Jg (f:Fn) (xs ys:List AV) : (AV.fn f xs ys).cells=[.fn f xs ys]:=rfl
@[go_sem] theorem JN (v:Value) : oneCell (.sc v)=true:=rfl
@[go_sem] theorem JF (b o:Nat) : oneCell (.ptr b o)=true:=rfl
@[go_sem] theorem JK (b o n:Nat) (c:Cap) : oneCell (.slc b o n c)=true:=rfl
@[go_sem] theorem JE (b:Nat) : oneCell (.emp b)=true:=rfl
@[go_sem] theorem JH (b:Nat) : oneCell (.map b)=true:=rfl
@[go_sem] theorem JW (f:Fn) (xs ys:List AV) : oneCell (.fn f xs ys)=true:=rfl
end
theorem RM.oG {M:RM} {b:Nat} {l:List AV} {p:Bool} {e f:Nat} (h:M.heap b=some (.row l p e f)) (o k:Nat) : M.loads b o k=ji (some l) o k:=by rw[RM.qX,RM.mg h]
theorem RM.cell_of {M:RM} {b:Nat} {l:List AV} {p:Bool} {e f:Nat} (h:M.heap b=some (.row l p e f)) (o:Nat) : M.cell b o=l[o]?:=RM.EI h
theorem RM.pM {M:RM} {b:Nat} {l:List AV} {p:Bool} {e f:Nat} (h:M.heap b=some (.row l p e f)) (o:Nat) (vs:List AV) : M.stores b o vs=(ic l f o vs).map fun l'=>M.put b (.row l' p e f):=RM.mi h
theorem ae.bK {bs:List Nat} {M M' : RM} (h:ae bs M M') {b:Nat} {x:RB} (hh:M.heap b=some x) (hlt:b<M.next) (hb:b ∉ bs) : M'.heap b=some x:=by rw[h.heap b hlt hb,hh]
inductive JO where
 | val (v:AV)
 | rows (n:Nat) (v:AV) (bs:List (Nat × dK)) (n' : Nat)
structure GH where
 args:List AV
 fp:List (Nat × dK):=[]
 dead:List Nat:=[]
 nx:Nat:=0
 ans:JO
def Dh:Tree dK→List (Nat × dK)→Tree dK
 | t,[]=>t
 | t,(b,x) :: r=>Dh (t.set b x) r
def D8:Tree dK→List Nat→Tree dK
 | t,[]=>t
 | t,b :: r=>D8 (t.del b) r
def Bq (A:AW) : List (Nat × dK)→Bool
 | []=>true
 | (b,x) :: r=>match A.heap.get b with
   | some y=>GX x y && Bq A r
   | none=>false
def II (A:AW) (e:GH) : Option (AV × AW) :=
 match Bq A e.fp with
 | false=>none
 | true=>match e.ans with
   | .val v=>some (v,A)
   | .rows n v bs n'=>match Nat.beq n A.next with
     | true=>some (v,{ next:=n',heap:=Dh (D8 A.heap e.dead) bs })
     | false=>none
abbrev Table:=List (Nat × List GH)
section
variable {P:Program} {X:Ext}
def GZ (P:Program) (I:World→Prop) (f:Nat) (e:GH) : Prop :=
 ∀ (base:Base),(∀ w,base.inv w→I w)→∀ A v A',II A e=some (v,A')→∀ (ρ:Ren) (w:World) (us:List Value),au ρ e.args us→aU P base ρ A w→base≤w.heap.size →
   Calls P f ⟨us⟩ w fun r w'=>∃ ρ' v',r=.returned v'∧Step base A.next ρ w ρ' w'∧aU P base ρ' A' w'∧A.next≤A'.next∧aa ρ' v v'
def Fs (P:Program) (I:World→Prop) (T:Table) : Prop:=∀ g∈T,∀ e∈g.2,GZ P I g.1 e
theorem aU.none {P:Program} {base:Base} {n:Nat} {w:World} (hi:base.inv w) : aU P base (fun _=>none) { next:=n,heap:=.leaf } w :=
 ⟨fun _ _ h=>(by cases h),fun _ _ _ h=>(by cases h),fun _ _ _ _ _ _ h=>(by cases h),fun _ _ h=>(by simp[Tree.get] at h),fun _ _ _ h=>(by cases h),hi⟩
def only(ρ:Ren) (ks:List Nat) : Ren:=fun b=>if b∈ks then ρ b else none
theorem Fs.nil {I:World→Prop} : Fs P I []:=fun g hg=>by cases hg
open Go.WideShapes Go.ChangeShapes in
open Go.WideShapes Go.ChangeShapes in
end
structure Enc (α:Type) where
 size:Nat
 cells:α→List AV
 len:∀ a,(cells a).length=size
 one:∀ a,(cells a).all oneCell=true
section
variable {α:Type} (E:Enc α)
def Enc.row (xs:List α) : List AV:=xs.flatMap E.cells
theorem Enc.gT (x:α) (xs:List α) : E.row (x :: xs)=E.cells x++E.row xs:=rfl
theorem Enc.tX (xs ys:List α) : E.row (xs++ys)=E.row xs++E.row ys:=by simp[Enc.row]
theorem Enc.row_one (x:α) : E.row [x]=E.cells x:=by simp[Enc.row]
theorem Enc.gm:∀ (xs:List α),(E.row xs).length=xs.length * E.size
 | []=>by simp[Enc.row]
 | x :: xs=>by rw[Enc.gT,List.length_append,E.len,Enc.gm xs,List.length_cons,Nat.succ_mul,Nat.add_comm]
theorem Enc.nz:∀ (xs:List α),(E.row xs).all oneCell=true
 | []=>by simp[Enc.row]
 | x :: xs=>by rw[Enc.gT,List.all_append,E.one,Enc.nz xs]; rfl
theorem Enc.zB:∀ (xs:List α) (i:Nat),(E.row xs).drop (i * E.size)=E.row (xs.drop i)
 | [],i=>by simp[Enc.row]
 | x :: xs,0=>by simp
 | x :: xs,i + 1=>by
   rw[Enc.gT,Nat.succ_mul,Nat.add_comm,← List.drop_drop,List.drop_left' (E.len x),Enc.zB xs i]
   rfl
theorem Enc.nZ:∀ (xs:List α) (i:Nat),(E.row xs).take (i * E.size)=E.row (xs.take i)
 | [],i=>by simp[Enc.row]
 | x :: xs,0=>by simp[Enc.row]
 | x :: xs,i + 1=>by
   rw[Enc.gT,Nat.succ_mul,Nat.add_comm,List.take_append,List.take_of_length_le (by rw[E.len]; omega),E.len,Nat.add_sub_cancel_left,Enc.nZ xs i]
   rfl
theorem Enc.FC {xs:List α} {i:Nat} (hi:i<xs.length) : ((E.row xs).drop (i * E.size)).take E.size=E.cells xs[i]:=by
 rw[Enc.zB,List.drop_eq_getElem_cons hi,Enc.gT]
 rw[List.take_append_of_le_length (by rw[E.len]; exact Nat.le_refl _),List.take_of_length_le (by rw[E.len]; exact Nat.le_refl _)]
abbrev Sl (M:RM) (v:AV) (xs:List α) : Prop:=bu M E.size v (E.row xs) xs.length
abbrev Ow (M:RM) (base el:Nat) (v:AV) (xs:List α) : Prop:=Own M base el E.size v (E.row xs) xs.length
variable {E} {M M' : RM} {v:AV} {xs:List α}
theorem Sl.elem (h:Sl E M v xs) {i:Nat} (hi:i<xs.length) : ∃ b o,b<M.next∧b∈av v∧(∀ (kd:IntKind) (K:AV→Prop),lX v (N kd (i:Int)) E.size K=K (.ptr b o))∧M.loads b o E.size=some (E.cells xs[i]):=by
 obtain⟨b,o,cap,rfl,hb,hl⟩:=h.pos (by omega)
 have hsum:i * E.size + E.size≤xs.length * E.size:=by rw[← Nat.succ_mul]; exact Nat.mul_le_mul_right _ hi
 refine⟨b,o + i * E.size,hb,by simp[av],fun kd K=>?_, ?_⟩
 ·rw[yG]
  simp only[Int.toNat_natCast]
  exact propext ⟨fun h=>h.2.2,fun h=>⟨by omega,by omega,h⟩⟩
 ·rw[pQ hl (i * E.size) E.size hsum,E.FC hi]
theorem Sl.at (h:Sl E M v xs) {i:Nat} (sz:Nat) (j:Int) (hi:i<xs.length) (hsz:E.size=sz:=by rfl) (hj:j=(i:Int):=by rfl) : ∃ b o,b<M.next∧b∈av v∧(∀ (kd:IntKind) (K:AV→Prop),lX v (N kd j) sz K=K (.ptr b o))∧M.loads b o sz=some (E.cells xs[i]):=by
 subst hsz hj; exact h.elem hi
theorem wK {b o k:Nat} {cs:List AV} (h:M.loads b o k=some cs) {j:Nat} {x:AV} (hj:cs[j]?=some x) : M.cell b (o + j)=some x:=by
 have hlt:j<k:=by rw[← vM h]; exact(List.getElem?_eq_some_iff.1 hj).1
 rw[DD h j hlt,hj]
theorem uM {b o k:Nat} {cs:List AV} (h:M.loads b o k=some cs) {x:AV} (hj:cs[0]?=some x) : M.cell b o=some x:=wK h hj
theorem uI {base T bytes:Nat} {zs:List AV} {u:AV} {ys:List α} {K:af} (ho:Ow E M base T v xs) (hb:base≤M.next) (hs:1≤E.size) (hu:Sl E M u ys)
  (hn:(xs.length + ys.length) * bytes≤140737488355328) (hn2:xs.length + ys.length≤140737488355328)
  (hK:∀ v' M',Ow E M' base T v' (xs++ys)→ae (av v) M M'→M.next≤M'.next→(v'=v∨∀ b∈av v',M.next≤b)→K v' M') :
  appW T E.size bytes zs false v u M K:=by
 refine Bf ho hb hs (bu.mK hu _) (E.gm ys) (E.nz ys) hn hn2 ?_
 intro v' M' h1 h2 h3 h4
 refine hK v' M' ?_ h2 h3 h4
 rw[← E.tX] at h1
 simpa [Ow] using h1
theorem BZ {b o k:Nat} {cs:List AV} (h:M.loads b o k=some cs) (m:Nat) (hm:m≤k) : M.loads b o m=some (cs.take m):=pQ h 0 m (by omega)
theorem Sl.new {T c:Nat} {p:Bool} (ys:List α) : Sl E (M.push (.row (E.row ys) p T 0)) (.slc M.next 0 ys.length (.ex c)) ys :=
 .slc _ _ _ _ _ (by simp[RM.push]) (by rw[RM.iJ (RM.bA _) (by rw[E.gm]; omega),List.drop_zero,← E.gm,List.take_length])
theorem FJ {base T bytes:Nat} {zs:List AV} {a:α} {K:af} (ho:Ow E M base T v xs) (hb:base≤M.next) (hs:1≤E.size)
  (hn:(xs.length + 1) * bytes≤140737488355328) (hn2:xs.length + 1≤140737488355328)
  (hK:∀ v' M',Ow E M' base T v' (xs++[a])→ae (av v) M M'→M.next≤M'.next→(v'=v∨∀ b∈av v',M.next≤b)→K v' M') :
  appW T E.size bytes zs false v (.slc M.next 0 1 (.ex 1)) (M.push (.row (E.cells a) false T 0)) K:=by
 have hk:ae [] M (M.push (.row (E.cells a) false T 0)):=(ae.refl _ _).push _
 refine uI (ys:=[a]) (Own.keep ho hk (by simp)) (Nat.le_trans hb hk.next) hs (by rw[← E.row_one]; exact Sl.new [a]) hn hn2 ?_
 intro v' M' h1 h2 h3 h4
 exact hK v' M' h1 ((hk.mono (by simp)).trans h2) (Nat.le_trans hk.next h3) (h4.imp id fun h b hb=>Nat.le_trans hk.next (h b hb))
@[go_sem] theorem JY {T:Nat} {zs:List AV} {K:RB→(Nat→AV)→Prop} : iX T 0 zs [] K=K (.row [] false T 0) (fun b=>.slc b 0 0 (.ex 0)):=by
 apply propext; unfold iX
 constructor
 ·rintro⟨l,h,hk⟩; cases h; exact hk
 ·intro hk; exact⟨_,rfl,hk⟩
theorem Hf {T size:Nat} {zs:List AV} {x:AV} {K:RB→(Nat→AV)→Prop} (h:x.cells.length=size) (h1:x.cells.all oneCell=true) (hz:zs.length=size) :
  iX T 1 zs [(0,size,x)] K=K (.row x.cells false T 0) (fun b=>.slc b 0 1 (.ex 1)):=by
 have:nY (iR zs 1) [(0,size,x)]=some x.cells:=by
  simp only[nY,iR,List.append_nil,h1,h,Nat.zero_add,hz,Nat.le_refl,and_self,if_true,List.take_zero,List.nil_append]
  rw[List.drop_of_length_le (by omega),List.append_nil]
 apply propext; unfold iX
 constructor
 ·rintro⟨l,h,hk⟩; rw[this] at h; cases h; exact hk
 ·intro hk; exact⟨_,this,hk⟩
theorem EB {i:Nat} (h:i<9223372036854775807) : IntKind.wrap .i64 ((i:Int) + 1)=((i + 1:Nat) : Int):=by
 rw[jM (by omega) (by omega)]; rfl
end
@[go_sem] theorem CE:bi [] [] []=some true:=rfl
@[go_sem] theorem Hu (ks:List Nat) (k:IntKind) (a b:Int) (xs ys:List AV) : bi (1 :: ks) (N k a :: xs) (N k b :: ys)=if a=b then bi ks xs ys else some false:=by
 simp only[bi,jg,if_true]
 by_cases h:a=b
 ·simp[h]
 ·have:(a == b)=false:=by simp[h]
  simp[this,h]
@[go_sem] theorem BI (ks:List Nat) (a b:List UInt8) (xs ys:List AV) : bi (2 :: ks) (St a :: xs) (St b :: ys)=if a=b then bi ks xs ys else some false:=by
 simp only[bi,jg]
 by_cases h:a=b
 ·simp[h]
 ·have:(a == b)=false:=by simp[h]
  simp[this,h]
@[go_sem] theorem GR (ks:List Nat) (a b:Bool) (xs ys:List AV) : bi (3 :: ks) (Bo a :: xs) (Bo b :: ys)=if a=b then bi ks xs ys else some false:=by
 simp only[bi,jg]
 by_cases h:a=b
 ·simp[h]
 ·have:(a == b)=false:=by simp[h]
  simp[this,h]
theorem xH (x:AV) (w:Bool) (f g:af→Prop) (F G:AV→RM→af→Prop) (k:af) :
  ag x w f g (fun v M=>ag x w (F v M) (G v M) k)=ag x w (fun k'=>f fun v M=>F v M k') (fun k'=>g fun v M=>G v M k') k:=by
 unfold ag ja
 split
 ·split <;> simp_all
 ·rfl
 ·rfl
theorem pR {body:(List AV→RM→Prop)→List AV→RM→Prop} {xs:List AV} {M:RM} (I:Nat→List AV→RM→Prop) (n:Nat) (h0:I n xs M)
  (hb:∀ (next:List AV→RM→Prop) m ys M',(∀ m' zs M'',m'<m→I m' zs M''→next zs M'')→I m ys M'→body next ys M') : sU body xs M :=
 ⟨I,n,h0,fun m ys M' hI=>hb _ m ys M' (fun m' zs M'' hlt h=>⟨m',hlt,h⟩) hI⟩
abbrev By (b:UInt8) : AV:=N .u8 (b.toNat:Int)
def BY:Enc UInt8:=⟨1,fun b=>[By b],fun _=>rfl,fun _=>rfl⟩
theorem Dy (s:List UInt8) : BY.row s=s.map By:=by
 induction s with
 | nil=>rfl
 | cons b s ih=>rw[Enc.gT,ih]; rfl
def Fg:Enc (List UInt8):=⟨1,fun s=>[St s],fun _=>rfl,fun _=>rfl⟩
theorem FM (s:List (List UInt8)) : Fg.row s=s.map (fun s=>St s):=by
 induction s with
 | nil=>rfl
 | cons b s ih=>rw[Enc.gT,ih]; rfl
def INT:Enc Int:=⟨1,fun n=>[N .i64 n],fun _=>rfl,fun _=>rfl⟩
theorem uA:∀ (s:List UInt8),bn byteOf (s.map By)=some s
 | []=>rfl
 | b :: s=>by
   simp only[List.map_cons,bn,byteOf,uA s]
   simp
section
variable {α:Type} {E:Enc α} {M M' : RM} {v:AV} {xs:List α}
theorem Sl.str {s:List UInt8} (h:Sl BY M v s) {K:AV→Prop} : jX M v K=K (St s) :=
 Ak (bu.nP h (by rw[Dy]; exact uA s))
theorem Sl.Gj (h:Sl E M v xs) {i:Nat} (j:Int) (hi:i<xs.length) (hsz:E.size=1:=by rfl) (hj:j=(i:Int):=by rfl) :
  ∃ b o,b<M.next∧b∈av v∧(∀ (kd:IntKind) (K:AV→Prop),lX v (N kd j) 1 K=K (.ptr b o))∧∀ x,E.cells xs[i]=[x]→M.cell b o=some x:=by
 obtain⟨b,o,h1,h2,h3,h4⟩:=Sl.at h 1 j hi hsz hj
 exact⟨b,o,h1,h2,h3,fun x hx=>uM h4 (by rw[hx]; rfl)⟩
structure Rw (E:Enc α) (M:RM) (b:Nat) (opn:Bool) (el:Nat) (xs:List α) : Prop where
 heap:M.heap b=some (.row (E.row xs) opn el 0)
 lt:b<M.next
theorem Rw.sl {b el:Nat} {p:Bool} {cap:Cap} (h:Rw E M b p el xs) : Sl E M (.slc b 0 xs.length cap) xs:=by
 refine .slc _ _ _ _ _ h.lt ?_
 rw[RM.iJ h.heap (by rw[E.gm]; omega),List.drop_zero,← E.gm,List.take_length]
theorem Rw.keep {b el:Nat} {p:Bool} {bs:List Nat} (h:Rw E M b p el xs) (hk:ae bs M M') (hb:b ∉ bs) : Rw E M' b p el xs :=
 ⟨hk.bK h.heap h.lt hb,Nat.lt_of_lt_of_le h.lt hk.next⟩
theorem Rw.new {el:Nat} {p:Bool} (M:RM) (xs:List α) : Rw E (M.push (.row (E.row xs) p el 0)) M.next p el xs :=
 ⟨RM.bA _,by simp[RM.push]⟩
end
@[go_sem] theorem vZ (el:Nat) (s:List UInt8) (K:RB→(Nat→AV)→Prop) : pg el (St s) K=K (.row (BY.row s) true el 0) (fun b=>.slc b 0 s.length (.op 1)):=by
 rw[Dy]
 apply propext; unfold pg
 constructor
 ·rintro⟨s',h,hk⟩; cases h; exact hk
 ·intro hk; exact⟨s,rfl,hk⟩
def Iz (b:UInt8) : UInt8:=if 65≤b.toNat∧b.toNat≤90 then b + 32 else b
def low (s:List UInt8) : List UInt8:=s.map Iz
structure Gf (n:Nat) (bs:List Nat) (M M' : RM) : Prop where
 base:M'.base=M.base
 next:M.next≤M'.next
 heap:∀ c,c<n→c ∉ bs→M'.heap c=M.heap c
theorem ae.to {bs cs:List Nat} {n:Nat} {M M' : RM} (h:ae bs M M') (hn:n≤M.next) (hb:∀ b∈bs,n≤b∨b∈cs) : Gf n cs M M' :=
 ⟨h.base,h.next,fun c h1 h2=>h.heap c (Nat.lt_of_lt_of_le h1 hn) (fun hm=>by rcases hb c hm with h3 | h3; omega; exact h2 h3)⟩
theorem Own.one {M:RM} {n el size n0:Nat} {v:AV} {cs:List AV} (h:Own M n0 el size v cs n) : oneCell v=true:=by
 cases h <;> rfl
def sK (B:Base) (c:aA) : Prop:=∀ {M:RM} {Q:af},M.base=B→Q (Bo true) M→c [] M Q
theorem Own.cells {M:RM} {n el size n0:Nat} {v:AV} {cs:List AV} (h:Own M n0 el size v cs n) : v.cells=[v]:=by
 cases h <;> rfl
section
variable {P:Program} {ρ:Ren} {M:RM} {w w' : World}
theorem aU.below {base:Base} {A:AW} (h:aU P base ρ A w) (hb:Below w.heap.size w w') (hn:base.n≤w.heap.size) : aU P base ρ A w' where
 dom b i hbi:=⟨(h.dom b i hbi).1,Nat.lt_of_lt_of_le (h.dom b i hbi).2 hb.size⟩
 blk b i x hbi hx:=let ⟨o,ho,hr⟩:=h.blk b i x hbi hx; ⟨o,by rw[hb.block _ (h.dom b i hbi).2]; exact ho,hr⟩
 sep:=h.sep
 top:=h.top
 lo:=h.lo
 inv:=base.low w w' (fun c hc=>hb.block c (Nat.lt_of_lt_of_le hc hn)) h.inv
theorem Step.of_below {base n:Nat} (hb:Below w.heap.size w w') (hn:base≤w.heap.size) : Step base n ρ w ρ w' where
 os:=hb.os
 tape:=hb.tape
 output:=hb.output
 size:=hb.size
 frame c hc _:=hb.block c hc
 ext _ _:=rfl
 fresh b i h:=.inl ⟨b,i,h,rfl⟩
 low c hc:=hb.block c (Nat.lt_of_lt_of_le hc hn)
theorem After.below (h:aZ P ρ M w) (hb:Below w.heap.size w w') : After P M ρ w M ρ w':=by
 obtain⟨A,hA⟩:=h
 refine dD hA (Step.of_below hb hA.size) (hA.rel.below hb hA.size) rfl hA.next (Nat.le_refl _) fun b x hx=>?_
 rcases hA.blk b x hx with h | ⟨c,rfl,_⟩
 ·exact .inl h
 ·exact .inr ⟨c,rfl,hx⟩
theorem bX.EZ {f:FuncId} {args:List AV} {v:AV} {Q:af} (hP:uH P f)
  (h:∀ (ρ:Ren) (w:World) (us:List Value),au ρ args us→aZ P ρ M w→Calls P f ⟨us⟩ w fun e w'=>∃ v',e=.returned v'∧Below w.heap.size w w'∧aa ρ v v') (hQ:Q v M) : bX P f args M Q:=by
 refine⟨hP,fun ρ w us hargs hw=>(h ρ w us hargs hw).mono fun e w' hR=>?_⟩
 obtain⟨v',rfl,hb,hv⟩:=hR
 exact⟨v',v,M,ρ,rfl,After.below hw hb,hv,hQ⟩
end
structure jW (α:Type) where
 size:Nat
 rel:RM→List AV→α→(Nat→Prop)→Prop
 len:∀ {M cs a S},rel M cs a S→cs.length=size
 one:∀ {M cs a S},rel M cs a S→cs.all oneCell=true
 mono:∀ {M cs a S S'},rel M cs a S→(∀ b,S b→S' b)→rel M cs a S'
 lt:∀ {M cs a S},rel M cs a S→rel M cs a (fun b=>S b∧b<M.next)
 keep:∀ {M M' cs a S bs},rel M cs a S→ae bs M M'→(∀ b∈bs,¬ S b)→rel M' cs a S
def Enc.sD {α:Type} (E:Enc α) : jW α where
 size:=E.size
 rel _ cs a _:=cs=E.cells a
 len h:=by subst h; exact E.len _
 one h:=by subst h; exact E.one _
 mono h _:=h
 lt h:=h
 keep h _ _:=h
inductive dh {α:Type} (R:jW α) (M:RM) (S:Nat→Prop) : List AV→List α→Prop
 | nil:dh R M S [] []
 | cons {cs ds:List AV} {a:α} {xs:List α} : R.rel M cs a S→dh R M S ds xs→dh R M S (cs++ds) (a :: xs)
section
variable {α:Type} {R:jW α} {M M' : RM} {S S' : Nat→Prop} {cs ds:List AV} {xs ys:List α} {a:α}
theorem dh.len (h:dh R M S cs xs) : cs.length=xs.length * R.size:=by
 induction h with
 | nil=>simp
 | cons h1 _ ih=>rw[List.length_append,R.len h1,ih,List.length_cons,Nat.succ_mul,Nat.add_comm]
theorem dh.one (h:dh R M S cs xs) : cs.all oneCell=true:=by
 induction h with
 | nil=>rfl
 | cons h1 _ ih=>rw[List.all_append,R.one h1,ih]; rfl
theorem dh.mono (h:dh R M S cs xs) (hs:∀ b,S b→S' b) : dh R M S' cs xs:=by
 induction h with
 | nil=>exact .nil
 | cons h1 _ ih=>exact .cons (R.mono h1 hs) ih
theorem dh.lt (h:dh R M S cs xs) : dh R M (fun b=>S b∧b<M.next) cs xs:=by
 induction h with
 | nil=>exact .nil
 | cons h1 _ ih=>exact .cons (R.lt h1) ih
theorem dh.keep {bs:List Nat} (h:dh R M S cs xs) (hk:ae bs M M') (hb:∀ b∈bs,¬ S b) : dh R M' S cs xs:=by
 induction h with
 | nil=>exact .nil
 | cons h1 _ ih=>exact .cons (R.keep h1 hk hb) ih
theorem dh.get (h:dh R M S cs xs) : ∀ {i:Nat} (hi:i<xs.length),R.rel M ((cs.drop (i * R.size)).take R.size) xs[i] S:=by
 induction h with
 | nil=>intro i hi; simp at hi
 | cons h1 h2 ih =>
   rename_i c1 d1 a1 x1
   intro i hi
   cases i with
   | zero =>
     rw[Nat.zero_mul,List.drop_zero,List.take_append_of_le_length (by rw[R.len h1]; exact Nat.le_refl _),List.take_of_length_le (by rw[R.len h1]; exact Nat.le_refl _)]
     exact h1
   | succ i =>
     rw[Nat.succ_mul,Nat.add_comm,← List.drop_drop,List.drop_left' (R.len h1)]
     exact ih (by simpa using hi)
theorem dh.take (h:dh R M S cs xs) : ∀ (k:Nat),dh R M S (cs.take (k * R.size)) (xs.take k):=by
 induction h with
 | nil=>intro k; simp; exact .nil
 | cons h1 h2 ih =>
   intro k
   cases k with
   | zero=>simp; exact .nil
   | succ k =>
     rw[Nat.succ_mul,Nat.add_comm,List.take_append,List.take_of_length_le (by rw[R.len h1]; omega),R.len h1,Nat.add_sub_cancel_left]
     exact .cons h1 (ih k)
theorem dh.drop (h:dh R M S cs xs) : ∀ (k:Nat),dh R M S (cs.drop (k * R.size)) (xs.drop k):=by
 induction h with
 | nil=>intro k; simp; exact .nil
 | cons h1 h2 ih =>
   intro k
   cases k with
   | zero=>simp; exact .cons h1 h2
   | succ k =>
     rw[Nat.succ_mul,Nat.add_comm,← List.drop_drop,List.drop_left' (R.len h1)]
     exact ih k
theorem dh.cells {E:Enc α} : ∀ {cs:List AV} {xs:List α},dh E.sD M S cs xs→cs=E.row xs
 | _,_,.nil=>rfl
 | _,_,.cons h1 h2=>by rw[Enc.gT,dh.cells h2]; rw[show _=_ from h1]
def jr (R:jW α) (M:RM) (v:AV) (xs:List α) (S:Nat→Prop) : Prop :=
 ∃ cs,bu M R.size v cs xs.length∧(∀ b∈av v,S b)∧dh R M S cs xs
theorem bu.lt {size n:Nat} {v:AV} (h:bu M size v cs n) : ∀ b∈av v,b<M.next:=by
 cases h with
 | nil=>intro b hb; simp[av] at hb
 | emp=>intro b hb; simp[av] at hb
 | slc b o n cap cs hb _=>intro c hc; simp[av] at hc; omega
theorem bu.one {size n:Nat} {v:AV} (h:bu M size v cs n) : oneCell v=true:=by
 cases h <;> rfl
theorem bu.cells {size n:Nat} {v:AV} (h:bu M size v cs n) : v.cells=[v]:=by
 cases h <;> rfl
variable {v:AV}
theorem jr.mono (h:jr R M v xs S) (hs:∀ b,S b→S' b) : jr R M v xs S':=let ⟨cs,h1,h2,h3⟩:=h; ⟨cs,h1,fun b hb=>hs b (h2 b hb),h3.mono hs⟩
theorem jr.lt (h:jr R M v xs S) : jr R M v xs (fun b=>S b∧b<M.next):=let ⟨cs,h1,h2,h3⟩:=h; ⟨cs,h1,fun b hb=>⟨h2 b hb,h1.lt b hb⟩,h3.lt⟩
theorem jr.keep {bs:List Nat} (h:jr R M v xs S) (hk:ae bs M M') (hb:∀ b∈bs,¬ S b) : jr R M' v xs S :=
 let ⟨cs,h1,h2,h3⟩:=h; ⟨cs,h1.keep hk (fun b hv hbs=>hb b hbs (h2 b hv)),h2,h3.keep hk hb⟩
theorem jr.len (h:jr R M v xs S) {K:AV→Prop} : fq v K=K (N .i64 xs.length):=let ⟨cs,h1,_,_⟩:=h; h1.len
theorem jr.one (h:jr R M v xs S) : oneCell v=true:=let ⟨cs,h1,_,_⟩:=h; h1.one
theorem jr.cells (h:jr R M v xs S) : v.cells=[v]:=let ⟨cs,h1,_,_⟩:=h; h1.cells
theorem jr.at (h:jr R M v xs S) {i:Nat} (sz:Nat) (j:Int) (hi:i<xs.length) (hsz:R.size=sz:=by rfl) (hj:j=(i:Int):=by rfl) :
  ∃ b o cs,b<M.next∧b∈av v∧(∀ (kd:IntKind) (K:AV→Prop),lX v (N kd j) sz K=K (.ptr b o))∧M.loads b o sz=some cs∧R.rel M cs xs[i] S:=by
 subst hsz hj
 obtain⟨cs,h1,h2,h3⟩:=h
 obtain⟨b,o,cap,rfl,hb,hl⟩:=h1.pos (by omega)
 have hsum:i * R.size + R.size≤xs.length * R.size:=by rw[← Nat.succ_mul]; exact Nat.mul_le_mul_right _ hi
 refine⟨b,o + i * R.size,(cs.drop (i * R.size)).take R.size,hb,by simp[av],fun kd K=>?_, ?_,h3.get hi⟩
 ·rw[yG]
  simp only[Int.toNat_natCast]
  exact propext ⟨fun h=>h.2.2,fun h=>⟨by omega,by omega,h⟩⟩
 ·rw[pQ hl (i * R.size) R.size hsum]
def jW.slice (R:jW α) : jW (List α) where
 size:=1
 rel M cs xs S:=∃ v,cs=[v]∧jr R M v xs S
 len h:=by obtain⟨v,rfl,_⟩:=h; rfl
 one h:=by obtain⟨v,rfl,h⟩:=h; simp[h.one]
 mono h hs:=by obtain⟨v,rfl,h⟩:=h; exact⟨v,rfl,h.mono hs⟩
 lt h:=by obtain⟨v,rfl,h⟩:=h; exact⟨v,rfl,h.lt⟩
 keep h hk hb:=by obtain⟨v,rfl,h⟩:=h; exact⟨v,rfl,h.keep hk hb⟩
def lh (R:jW α) (M:RM) (base el:Nat) (v:AV) (xs:List α) (S:Nat→Prop) : Prop :=
 ∃ cs,Own M base el R.size v cs xs.length∧dh R M S cs xs
theorem lh.mono {base el:Nat} (h:lh R M base el v xs S) (hs:∀ b,S b→S' b) : lh R M base el v xs S':=let ⟨cs,h1,h2⟩:=h; ⟨cs,h1,h2.mono hs⟩
theorem lh.lt {base el:Nat} (h:lh R M base el v xs S) : lh R M base el v xs (fun b=>S b∧b<M.next):=let ⟨cs,h1,h2⟩:=h; ⟨cs,h1,h2.lt⟩
theorem lh.keep {base el:Nat} {bs:List Nat} (h:lh R M base el v xs S) (hk:ae bs M M') (hb:∀ b∈bs,¬ S b) (hv:∀ b∈av v,b ∉ bs) : lh R M' base el v xs S :=
 let ⟨cs,h1,h2⟩:=h; ⟨cs,h1.keep hk hv,h2.keep hk hb⟩
theorem lh.len {base el:Nat} (h:lh R M base el v xs S) {K:AV→Prop} : fq v K=K (N .i64 xs.length):=let ⟨cs,h1,_⟩:=h; h1.o7.len
theorem lh.cells {base el:Nat} (h:lh R M base el v xs S) : v.cells=[v]:=let ⟨cs,h1,_⟩:=h; h1.cells
theorem lh.one {base el:Nat} (h:lh R M base el v xs S) : oneCell v=true:=let ⟨cs,h1,_⟩:=h; h1.one
end
section
variable {M M' : RM} {b i n e f:Nat} {l:List AV} {p:Bool} {x:AV}
theorem aC {K:AV→Prop} (h:M.heap b=some (.row l p e f)) (hx:l[i]?=some x) : aL M (.ptr b i) K=K x:=by
 rw[mo,RM.cell_of h,hx]; simp
theorem oF {K:AV→Prop} (h:M.heap b=some (.row l p e f)) (hn:l.length=n) : jS M (.ptr b 0) n K=K (.agg l):=by
 rw[wE,RM.oG h]
 have:ji (some l) 0 n=some l:=by simp[ji,← hn]
 rw[this]; simp
theorem wF {K:RM→Prop} (h:M.heap b=some (.row l p e 0)) (hi:i<l.length) (hc:x.cells=[x]) (h1:oneCell x=true) : bU M (.ptr b i) x 1 K=K (M.put b (.row (l.set i x) p e 0)):=by
 rw[tV,hc,RM.pM h,lY (by simp only[List.length_cons,List.length_nil]; omega) (Nat.zero_le _) (by simp[h1])]
 have:l.take i++[x]++l.drop (i + 1)=l.set i x:=by
  rw[List.set_eq_take_append_cons_drop,if_pos hi]; simp
 simp[this]
theorem dQ {K:RM→Prop} (l' : List AV) (h:M.heap b=some (.row l p e 0)) (hi:i<l.length) (hc:x.cells=[x]) (h1:oneCell x=true) (hl:l.set i x=l') : bU M (.ptr b i) x 1 K=K (M.put b (.row l' p e 0)):=by
 rw[wF h hi hc h1,hl]
theorem oC {K:RM→Prop} (h:M.heap b=some (.row l p e 0)) (hn:x.cells.length=n) (hl:l.length=n) (h1:x.cells.all oneCell=true) : bU M (.ptr b 0) x n K=K (M.put b (.row x.cells p e 0)):=by
 rw[tV,RM.pM h,wN (by rw[hn,hl]) h1]
 simp[hn]
theorem zW {c:Nat} {y z:RB} (h:M.heap b=some y) (hb:b≠c) : (M.put c z).heap b=some y:=by
 simp only[RM.put]; rw[if_neg hb]; exact h
theorem aX (y:RB) : (M.put b y).heap b=some y:=RM.zL _ _
theorem lQ {y z:RB} (h:M.heap b=some y) (hb:b<M.next) : (M.push z).heap b=some y:=by
 simp only[RM.push]; rw[if_neg (by omega)]; exact h
theorem aJ (y:RB) : (M.push y).next=M.next + 1:=rfl
theorem E5 (c:Nat) (y:RB) : (M.put c y).next=M.next:=rfl
theorem ae.new {bs:List Nat} (h:ae bs M M') {b:Nat} (y:RB) (hb:M.next≤b) : ae bs M (M'.put b y):=h.put y (.inl hb)
end
variable {M:RM}
theorem l9 {a:AV} {l:List AV} {K:AV→Prop} : gQ (.tup (a :: l)) 0 K=K a:=by rw[xN]; simp
theorem nX {a b:AV} {l:List AV} {K:AV→Prop} : gQ (.tup (a :: b :: l)) 1 K=K b:=by rw[xN]; simp
theorem jP {p q:Prop} : bG (Bo true) p q=p:=by simp[yH]
theorem iD {p q:Prop} : bG (Bo false) p q=q:=by simp[yH]
theorem jN {b:Bool} {p q:Prop} (h1:b=true→p) (h2:b=false→q) : bG (Bo b) p q:=⟨h1,h2⟩
theorem gJ {f g:af→Prop} {k:af} : ag (Bo true) true f g k=f k:=rfl
theorem vO {f g:af→Prop} {k:af} : ag (Bo false) false f g k=f k:=rfl
theorem vK {f g:af→Prop} {k:af} : ag (Bo true) false f g k=g k:=rfl
theorem vS {f g:af→Prop} {k:af} : ag (Bo false) true f g k=g k:=rfl
theorem l7 {a b:AV} {K:AV→Prop} : bD (Bo true) a b K=K a:=by rw[xP]; rfl
theorem bV {a b:AV} {K:AV→Prop} : bD (Bo false) a b K=K b:=by rw[xP]; rfl
theorem bu.known {size:Nat} {v:AV} {cs:List AV} {n:Nat} (h:bu M size v cs n) : known v=true:=by
 cases h <;> rfl
theorem oz {t:TypeId} {cs:List AV} {K:RB→(Nat→AV)→Prop} (h1:cs.all oneCell=true) (h2:1≤cs.length) : nG t (.agg cs) K=K (.row cs false t 0) (fun b=>.ptr b 0):=by
 unfold nG
 exact propext ⟨fun h=>h.2.2,fun h=>⟨h1,h2,h⟩⟩
def jW.pre {α β:Type} (E:Enc α) (R:jW β) : jW (α × β) where
 size:=E.size + R.size
 rel M cs a S:=∃ ds,cs=E.cells a.1++ds∧R.rel M ds a.2 S
 len h:=by obtain⟨ds,rfl,h⟩:=h; rw[List.length_append,E.len,R.len h]
 one h:=by obtain⟨ds,rfl,h⟩:=h; rw[List.all_append,E.one,R.one h]; rfl
 mono h hs:=by obtain⟨ds,rfl,h⟩:=h; exact⟨ds,rfl,R.mono h hs⟩
 lt h:=by obtain⟨ds,rfl,h⟩:=h; exact⟨ds,rfl,R.lt h⟩
 keep h hk hb:=by obtain⟨ds,rfl,h⟩:=h; exact⟨ds,rfl,R.keep h hk hb⟩
def jW.post {α β:Type} (R:jW α) (E:Enc β) : jW (α × β) where
 size:=R.size + E.size
 rel M cs a S:=∃ ds,cs=ds++E.cells a.2∧R.rel M ds a.1 S
 len h:=by obtain⟨ds,rfl,h⟩:=h; rw[List.length_append,E.len,R.len h]
 one h:=by obtain⟨ds,rfl,h⟩:=h; rw[List.all_append,E.one,R.one h]; rfl
 mono h hs:=by obtain⟨ds,rfl,h⟩:=h; exact⟨ds,rfl,R.mono h hs⟩
 lt h:=by obtain⟨ds,rfl,h⟩:=h; exact⟨ds,rfl,R.lt h⟩
 keep h hk hb:=by obtain⟨ds,rfl,h⟩:=h; exact⟨ds,rfl,R.keep h hk hb⟩
def jW.map {α β:Type} (R:jW α) (g:β→α) : jW β where
 size:=R.size
 rel M cs a S:=R.rel M cs (g a) S
 len h:=R.len h
 one h:=R.one h
 mono h hs:=R.mono h hs
 lt h:=R.lt h
 keep h hk hb:=R.keep h hk hb
end Go.Ab
namespace Go.Ab
open Go Go.RowKit Go.ChangeShapes
section
variable {H:Type} {enc:TypeId × Value→H} {P:Program} {w:World} {base:Nat} {spare:Nat→Bool} {held:Bool}
end
end Go.Ab
set_option maxRecDepth 10000
namespace Go.Ab
open Go Go.ChangeShapes
end Go.Ab
namespace Go.Ab
open Go Go.RowKit
section
variable {P:Program} {f:FuncId} {fn:Func} {w w' : World} {M:RM}
theorem pV {args:Array Value} {s:Array Value→Sem Value} {v:Value} (hf:P.funcs[f]?=some fn) (hng:fn.name ≠ "runtime.NumGoroutine") (hb:fn.body=none)
  (h1:Extern.findNext fn=none) (h2:Extern.find fn=some s) (h3:(s args).run P w=.ok v w') : (callFunc f args).run P w=.ok (.value v) w':=by
 have si:(fn.name == "runtime.NumGoroutine")=false:=by simpa using hng
 simp only[callFunc,Sem.run_bind,run_program,Result.andThen_ok,hf,si,Bool.false_eq_true,if_false,hb,Option.isNone_none,if_true,mark,Sem.run,h1,h2,h3,Sem.run_pure]
theorem qO {a:Addr} {n:Int} (h:w.cell? a=some (.int .i64 n)) : (Extern.Atomic.read (.int .i64) a).run P w=.ok (.int .i64 n) w:=by
 have:(load a .atomic).run P w=.ok (.int .i64 n) w:=by simp[load,Sem.run,h]
 unfold Extern.Atomic.read
 simp only[Sem.run_bind,this,Result.andThen_ok,if_true,Sem.run_pure]
theorem yD {a:Addr} {v u:Value} (hc:w.cell? a=some u) (h:(storeCells a [v]).run P w=.ok () w') : (store a v .atomic).run P w=.ok () w':=by
 have he:(store a v .atomic).run P w=(store a v).run P w:=by
  cases v <;> simp only[store,Sem.run,hc]
 rw[he]
 have h0:a.add 0=a:=by simp[Addr.add]
 unfold storeCells at h
 rw[h0,Sem.run_bind] at h
 revert h
 cases(store a v).run P w with
 | ok x w1=>intro h; exact h
 | halt _ _=>intro h; cases h
theorem qZ (hf:P.funcs[f]?=some fn) (hng:fn.name ≠ "runtime.NumGoroutine") (hb:fn.body=none) (h1:Extern.findNext fn=none) (h2:Extern.find fn=some (Extern.Atomic.update (Op.intArith .add) .i64 true))
  {b o el:Nat} {l:List AV} {opn:Bool} {x y:Int} (hh:M.heap b=some (.row l opn el 0)) (hl:l[o]?=some (N .i64 x)) :
  uT P f [.ptr b o,N .i64 y] M (N .i64 (IntKind.wrap .i64 (x + y))) (M.put b (.row (l.set o (N .i64 (IntKind.wrap .i64 (x + y)))) opn el 0)):=by
 intro ρ w us hus hw
 cases hus with
 | cons _ u1 _ us r1 hus =>
 cases hus with
 | cons _ u2 _ us r2 hus =>
 cases hus
 obtain⟨rfl,_⟩:=ak r2
 obtain⟨i,hb',hc⟩:=aV r1
 have hlt:=(List.getElem?_eq_some_iff.1 hl).1
 have hld:M.loads b o 1=some [N .i64 x]:=by
  rw[RM.oG hh]
  have:=(List.getElem?_eq_some_iff.1 hl).2
  simp only[ji]
  rw[if_pos (by omega),List.drop_eq_getElem_cons hlt,this]; rfl
 obtain⟨u,hu,hcell⟩:=j3 hw hb' hld
 obtain⟨rfl,_⟩:=ak hu
 have hst:M.stores b o [N .i64 (IntKind.wrap .i64 (x + y))]=some (M.put b (.row (l.set o (N .i64 (IntKind.wrap .i64 (x + y)))) opn el 0)):=by
  rw[RM.pM hh,lY (by simp; omega) (Nat.zero_le _) rfl]
  have:l.take o++[N .i64 (IntKind.wrap .i64 (x + y))]++l.drop (o + 1)=l.set o (N .i64 (IntKind.wrap .i64 (x + y))):=by
   rw[List.set_eq_take_append_cons_drop,if_pos hlt]; simp
  simp[this]
 obtain⟨w1,hrun,haf⟩:=qh hw hb' (vs:=[.int .i64 (IntKind.wrap .i64 (x + y))]) (.cons _ _ _ _ (.sc _ rfl) .nil) hst
 refine⟨ρ,w1,.int .i64 (IntKind.wrap .i64 (x + y)),pV hf hng hb h1 h2 ?_,haf,.sc _ rfl⟩
 have hs:=yD hcell (hrun _ rfl)
 rw[hc]
 show((asAddr (.pointer (some ⟨i.cb,i.sh + o,none⟩)) >>= fun a=>Extern.Atomic.read (.int .i64) a >>= fun old=>asInt old >>= fun p=>asInt (.int .i64 y) >>= fun q=>Op.intArith .add .i64 p q >>= fun new=>store a new .atomic >>= fun _=>pure new) : Sem Value).run P w=_
 simp only[asAddr,Sem.run_bind,Sem.run_pure,Result.andThen_ok,qO hcell,asInt,asIntOf,Op.intArith,hs]
theorem qI (hf:P.funcs[f]?=some fn) (hng:fn.name ≠ "runtime.NumGoroutine") (hb:fn.body=none) (h1:Extern.findNext fn=none) (h2:Extern.find fn=some (Extern.Atomic.loadT (.int .i64)))
  {b o el fz:Nat} {l:List AV} {opn:Bool} {x:Int} (hh:M.heap b=some (.row l opn el fz)) (hl:l[o]?=some (N .i64 x)) :
  Ba P f [.ptr b o] M (N .i64 x):=by
 intro ρ w us hus hw
 cases hus with
 | cons _ u1 _ us r1 hus =>
 cases hus
 obtain⟨i,hb',hc⟩:=aV r1
 have hlt:=(List.getElem?_eq_some_iff.1 hl).1
 have hld:M.loads b o 1=some [N .i64 x]:=by
  rw[RM.oG hh]
  have:=(List.getElem?_eq_some_iff.1 hl).2
  simp only[ji]
  rw[if_pos (by omega),List.drop_eq_getElem_cons hlt,this]; rfl
 obtain⟨u,hu,hcell⟩:=j3 hw hb' hld
 obtain⟨rfl,_⟩:=ak hu
 refine⟨.int .i64 x,pV hf hng hb h1 h2 ?_,.sc _ rfl⟩
 rw[hc]
 show((asAddr (.pointer (some ⟨i.cb,i.sh + o,none⟩)) >>= fun a=>Extern.Atomic.read (.int .i64) a) : Sem Value).run P w=_
 simp only[asAddr,Sem.run_bind,Sem.run_pure,Result.andThen_ok,qO hcell]
theorem rC (hf:P.funcs[f]?=some fn) (hng:fn.name ≠ "runtime.NumGoroutine") (hb:fn.body=none) (h1:Extern.findNext fn=none) (h2:Extern.find fn=some Extern.MapsClone.clone)
  {t b cl:Nat} {es:List (AV × AV × Nat)} (hh:M.heap b=some (.map es cl)) :
  uT P f [.ifc t (.map b)] M (.ifc t (.map M.next)) (M.push (.map es cl)):=by
 intro ρ w us hus hw
 cases hus with
 | cons _ u1 _ us r1 hus =>
 cases hus
 cases r1 with
 | ifc _ _ v' hv =>
 obtain⟨A,hA⟩:=hw
 cases hv with
 | map _ i hbi =>
 obtain⟨fs,hob,hfs⟩:=ni hA hbi hh
 have hnew:ρ A.next=none:=hA.rel.fresh (Nat.le_refl _)
 have hle:ρ.le (ρ.add A.next ⟨w.heap.size,0,0,0⟩):=Ren.j4 hnew
 obtain⟨q1,q2⟩:=ma hA.rel (Nat.le_trans (show M.base.n≤M.lo from Nat.le_refl _) hA.size) (x:=.map es cl) (ob:=.map fs cl) (i:=⟨w.heap.size,0,0,0⟩) rfl
  ⟨fs,rfl,hfs.mono hle⟩
 obtain⟨k1,k2,k3⟩:=RM.lm hA (x:=.map es cl) (y:=.map es cl) ⟨rfl,rfl⟩
 have hget:(getObj i.cb).run P w=.ok (.map fs cl) w:=by simp[getObj,Sem.run,hob]
 refine⟨_,w.alloc (.map fs cl),.iface t (.map (some w.heap.size)),pV hf hng hb h1 h2 ?_,dD hA q2 q1 k1 k2 (by simp[AW.push]) k3,.ifc _ _ _ ?_⟩
 ·show((getObj i.cb >>= fun o=>_) : Sem Value).run P w=_
  simp only[Sem.run_bind,hget,Result.andThen_ok]
  rfl
 ·exact .map _ ⟨w.heap.size,0,0,0⟩ (by rw[← hA.next]; simp[Ren.add])
end
end Go.Ab
set_option maxRecDepth 100000
namespace Go.Ab.Dot
open Go Go.Ab
def yB (p1:Nat) (a0:AV) (M0:RM) (Q:af) : Prop :=
 bN false 2 a0 (.sc (.slice none 0 0)) fun h =>
 bG h (
 Q (.sc (.slice none 0 0)) M0) (
 iX p1 0 [(N .u8 0)] [] fun g e =>
 fe g e M0 fun i c =>
 appW p1 1 1 [(N .u8 0)] false i a0 c fun j d =>
 Q j d)
theorem Di {T size bytes:Nat} {zs:List AV} {M0:RM} {a0:AV} {cs:List AV} {n:Nat} (h:bu M0 size a0 cs n) (h1:cs.all oneCell=true) (hs:1≤size) (hn:n * bytes≤140737488355328) (hn2:n≤140737488355328) {Q:af}
  (hQ:∀ v M',Own M' M0.next T size v cs n→ae [] M0 M'→Q v M') :
  bN false 2 a0 bP fun t4=>bG t4 (Q bP M0) (iX T 0 zs [] fun r f=>fe r f M0 fun t5 M=>appW T size bytes zs false t5 a0 M fun t7 M_0=>Q t7 M_0):=by
 rcases h.qF false with⟨rfl,e⟩ | ⟨hne,e⟩
 ·rw[e]
  cases h
  exact⟨fun _=>hQ _ _ .nil (ae.refl _ _),fun h=>by simp at h⟩
 ·rw[e]
  refine⟨fun h=>by simp at h,fun _=>⟨[],rfl, ?_⟩⟩
  have hk:ae [] M0 (M0.push (.row [] false T 0)):=(ae.refl _ _).push _
  refine Bf (base:=M0.next) (Own.lit M0 (Nat.le_refl _)) (by simp[RM.push]) hs ((h.keep hk (by simp)).mK _) h.length h1 (by rw[Nat.zero_add]; exact hn) (by omega) ?_
  intro v' M' ho hk' hnx hv
  exact hQ v' M' (by simpa using ho) (hk.rQ hk' (by simp[av]))
def Gb (T size bytes:Nat) (c:aA) : Prop:=∀ {M0:RM} {a0:AV} {cs:List AV} {n:Nat},bu M0 size a0 cs n→cs.all oneCell=true→n * bytes≤140737488355328→n≤140737488355328→∀ {Q:af},
 (∀ v M',Own M' M0.next T size v cs n→ae [] M0 M'→Q v M')→c [a0] M0 Q
end Go.Ab.Dot
set_option maxRecDepth 10000
namespace Go.Ab.Dk
open Go Go.Ab
def wZ (f:(List AV→RM→Prop)→Prop) (g:List AV→RM→Prop) : Prop:=f g
theorem uy (f:(List AV→RM→Prop)→Prop) (g:List AV→RM→Prop) : qw f g=wZ f g:=rfl
theorem Ci {H:(List AV→RM→Prop)→Prop} {G:List AV→RM→Prop} (P:List AV→RM→Prop) (hT:∀ xs M,P xs M→G xs M)
  (hH:∀ J:List AV→RM→Prop,(∀ xs M,P xs M→J xs M)→H J) : wZ H G:=hH G hT
section
variable {i j:Nat} {K:AV→Prop}
theorem addN (h:i + j<4611686018427387904) : aH .add (N .i64 (i:Int)) (N .i64 (j:Int)) K=K (N .i64 ((i + j:Nat) : Int)):=by
 rw[yC,jM (by omega) (by omega),Int.natCast_add]
theorem add1 (h:i<4611686018427387904) : aH .add (N .i64 (i:Int)) (N .i64 1) K=K (N .i64 ((i + 1:Nat) : Int)):=by
 rw[yC,EB (by omega)]
theorem Jw (h:j≤i) (hb:i<4611686018427387904) : aH .sub (N .i64 (i:Int)) (N .i64 (j:Int)) K=K (N .i64 ((i - j:Nat) : Int)):=by
 rw[yY,jM (by omega) (by omega),show(i:Int) - (j:Int)=((i - j:Nat) : Int) by omega]
theorem Gm:aH .lss (N .i64 (i:Int)) (N .i64 (j:Int)) K=K (Bo (decide (i<j))):=by rw[rO,show decide ((i:Int)<(j:Int))=decide (i<j) by simp]
theorem Gu:aH .gtr (N .i64 (i:Int)) (N .i64 (j:Int)) K=K (Bo (decide (i > j))):=by rw[zS,show decide ((i:Int) > (j:Int))=decide (i > j) by simp]
theorem IE:aH .leq (N .i64 (i:Int)) (N .i64 (j:Int)) K=K (Bo (decide (i≤j))):=by rw[Ec,show decide ((i:Int)≤(j:Int))=decide (i≤j) by simp]
theorem GA:aH .geq (N .i64 (i:Int)) (N .i64 (j:Int)) K=K (Bo (decide (i ≥ j))):=by rw[EN,show decide ((i:Int) ≥ (j:Int))=decide (i ≥ j) by simp]
end
section
variable {M:RM} {c p:Bool} {f:af→Prop} {P:RM→Prop} {G:AV→RM→Prop}
theorem eH (hf:c=true→∀ k:af,k (Bo p) M→f k) (hG:G (Bo (c && p)) M) :
  ag (Bo c) true f (fun k=>k .undef M) (fun t M'=>bD (Bo c) t (Bo false) fun u=>G u M'):=by
 cases c with
 | false=>rw[vS]; dsimp only; rw[bV]; exact hG
 | true=>rw[gJ]; exact hf rfl _ (by rw[l7]; exact hG)
theorem Er (hf:c=false→∀ k:af,k (Bo p) M→f k) (hG:G (Bo (c || p)) M) :
  ag (Bo c) false f (fun k=>k .undef M) (fun t M'=>bD (Bo c) (Bo true) t fun u=>G u M'):=by
 cases c with
 | true=>rw[vK]; dsimp only; rw[l7]; exact hG
 | false=>rw[vO]; exact hf rfl _ (by rw[bV]; exact hG)
theorem Hy (h0:P M) (hf:c=true→∀ k:af,(∀ M',P M'→k (Bo p) M')→f k) (hG:∀ M',P M'→G (Bo (c && p)) M') :
  ag (Bo c) true f (fun k=>k .undef M) (fun t M'=>bD (Bo c) t (Bo false) fun u=>G u M'):=by
 cases c with
 | false=>rw[vS]; dsimp only; rw[bV]; exact hG M h0
 | true=>rw[gJ]; exact hf rfl _ fun M' h=>by rw[l7]; exact hG M' h
end
abbrev Nm:=List UInt8
abbrev Dir:=List (Nm × Nat)
def iN:Dir→Nm→Option Nat
 | [],_=>none
 | e :: l,n=>if n=e.1 then some e.2 else iN l n
def iH:Dir→Nm→Dir
 | [],_=>[]
 | e :: l,n=>if n=e.1 then l else e :: iH l n
def jl:Dir→Nm→Nat→Dir
 | [],n,f=>[(n,f)]
 | e :: l,n,f=>if n=e.1 then(n,f) :: l else e :: jl l n f
abbrev jY:=Nm × Option Nat × Nm
def jq (l:Dir) (c:jY) : Dir :=
 let l1:=if c.2.2≠[] then iH l c.2.2 else l
 match c.2.1 with
 | some f=>jl l1 c.1 f
 | none=>l1
abbrev iY:=List UInt8 × Nat
structure aT where
 files:List iY
 dir:Dir
 iq:Dir
 chg:List jY
 bB:Int
 app:Int
 syn:Int
 deriving DecidableEq
inductive Tag where
 | disk | names | safe | chg | file (i:Nat) | bytes (i:Nat)
 deriving DecidableEq
abbrev aP:=Nat→Option Tag
def upd (own:aP) (b:Nat) (t:Tag) : aP:=fun c=>if c=b then some t else own c
theorem lg {own:aP} {b:Nat} {t:Tag} : upd own b t b=some t:=by simp[upd]
theorem upd_ne {own:aP} {b c:Nat} {t:Tag} (h:c≠b) : upd own b t c=own c:=by simp[upd,h]
def cB (fbs:List Nat) (cl:Nat) : Nat→List (AV × AV × Nat)→Dir→Prop
 | _,[],[]=>True
 | lo,e :: es,d :: ds=>e.1=St d.1∧(∃ b,fbs[d.2]?=some b∧e.2.1=.ptr b 0)∧lo≤e.2.2∧e.2.2<cl∧cB fbs cl (e.2.2 + 1) es ds
 | _,_,_=>False
variable {fbs gbs:List Nat} {cl lo:Nat} {es:List (AV × AV × Nat)} {d:Dir}
theorem cB.len:∀ {es:List (AV × AV × Nat)} {d:Dir} {lo:Nat},cB fbs cl lo es d→es.length=d.length
 | [],[],_,_=>rfl
 | _ :: es,_ :: d,_,h=>by simp only[List.length_cons]; rw[h.2.2.2.2.len]
theorem cB.grow (hg:∀ i b:Nat,fbs[i]?=some b→gbs[i]?=some b) {cl' : Nat} (hc:cl≤cl') : ∀ {es:List (AV × AV × Nat)} {d:Dir} {lo lo' : Nat},lo'≤lo→cB fbs cl lo es d→cB gbs cl' lo' es d
 | [],[],_,_,_,_=>trivial
 | _ :: es,_ :: d,_,_,hl,⟨h1,⟨b,h2,h3⟩,h4,h5,h6⟩=>⟨h1,⟨b,hg _ _ h2,h3⟩,Nat.le_trans hl h4,Nat.lt_of_lt_of_le h5 hc,h6.grow hg hc (Nat.le_refl _)⟩
theorem cB.snoc {s:Nm} {f b:Nat} (hf:fbs[f]?=some b) : ∀ {es:List (AV × AV × Nat)} {d:Dir} {lo:Nat},lo≤cl→cB fbs cl lo es d→cB fbs (cl + 1) lo (es++[(St s,.ptr b 0,cl)]) (d++[(s,f)])
 | [],[],_,hl,_=>⟨rfl,⟨b,hf,rfl⟩,hl,Nat.lt_succ_self _,trivial⟩
 | _ :: es,_ :: d,_,hl,⟨h1,h2,h4,h5,h6⟩=>⟨h1,h2,h4,Nat.lt_succ_of_lt h5,h6.snoc hf h5⟩
theorem rE {s:Nm} : ∀ {d:Dir},iN d s=none→iH d s=d∧∀ f,jl d s f=d++[(s,f)]
 | [],_=>⟨rfl,fun _=>rfl⟩
 | e :: d,h=>by
   unfold iN at h
   by_cases hs:s=e.1
   ·rw[if_pos hs] at h; cases h
   ·rw[if_neg hs] at h
    obtain⟨h1,h2⟩:=rE h
    simp only[iH,jl,if_neg hs,h1,h2,List.cons_append,true_and,implies_true]
theorem l8 (s:Nm) : ∀ {es:List (AV × AV × Nat)} {d:Dir} {lo:Nat} (i:Nat),cB fbs cl lo es d →
  (gF false [2] [St s] es i=some none∧iN d s=none) ∨
  ∃ j f b,gF false [2] [St s] es i=some (some (i + j,.ptr b 0))∧iN d s=some f∧fbs[f]?=some b∧cB fbs cl lo (es.eraseIdx j) (iH d s) ∧
    ∀ g c,fbs[g]?=some c→cB fbs cl lo (uP (St s) (.ptr c 0) es j) (jl d s g)
 | [],[],_,i,_=>.inl ⟨rfl,rfl⟩
 | (k,v,n) :: es,(s',f) :: d,lo,i,⟨h1,⟨b,h2,h3⟩,h4,h5,h6⟩=>by
   simp only at h1 h2 h3 h4 h5 h6
   subst h1 h3
   simp only[gF,bR,iN,iH,jl]
   rw[if_pos (by rfl),BI]
   by_cases hs:s=s'
   ·subst hs
    simp only[if_true,CE]
    refine .inr ⟨0,f,b,rfl,rfl,h2, ?_, ?_⟩
    ·exact h6.grow (fun _ _ h=>h) (Nat.le_refl _) (by omega)
    ·intro g c hg
     exact⟨rfl,⟨c,hg,rfl⟩,h4,h5,h6⟩
   ·simp only[if_neg hs]
    rcases l8 s (i + 1) h6 with⟨a1,a2⟩ | ⟨j,f',b',a1,a2,a3,a4,a5⟩
    ·exact .inl ⟨a1,a2⟩
    ·refine .inr ⟨j + 1,f',b', ?_,a2,a3, ?_, ?_⟩
     ·rw[a1]; congr 3; omega
     ·exact⟨rfl,⟨b,h2,rfl⟩,h4,h5,a4⟩
     ·intro g c hg
      exact⟨rfl,⟨b,h2,rfl⟩,h4,h5,a5 g c hg⟩
structure MapAt (own:aP) (M:RM) (fbs:List Nat) (m:Nat) (d:Dir) (t:Tag) : Prop where
 tg:own m=some t
 lt:m<M.next
 heap:∃ es cl,M.heap m=some (.map es cl)∧cB fbs cl 0 es d
inductive FB (M:RM) (TU:Nat) : AV→List UInt8→Prop
 | nil:FB M TU bP []
 | op (b:Nat) (xs:List UInt8) : b<M.next→M.heap b=some (.row (BY.row xs) true TU 0)→FB M TU (.slc b 0 xs.length (.op 1)) xs
 | ex (b o n:Nat) (xs:List UInt8) : b<M.next→M.loads b o n=some (BY.row xs)→xs.length=n→FB M TU (.slc b o n (.ex n)) xs
structure gN (TF TU:Nat) (own:aP) (M:RM) (fbs:List Nat) (i b:Nat) (v:AV) (f:iY) : Prop where
 at_:fbs[i]?=some b
 lt:b<M.next
 tg:own b=some (.file i)
 heap:M.heap b=some (.row [v,N .i64 (f.2:Int)] false TF 0)
 fb:FB M TU v f.1
 le:f.2≤f.1.length
 blk:∀ c∈av v,own c=some (.bytes i)
structure fB (TF TU:Nat) (own:aP) (M:RM) (fbs:List Nat) (fs:List iY) : Prop where
 len:fbs.length=fs.length
 file:∀ i f,fs[i]?=some f→∃ b v,gN TF TU own M fbs i b v f
def dw:Enc (Nm × Option Nat × Nm):=⟨3,fun c=>[St c.1,(match c.2.1 with | some b=>.ptr b 0 | none=>.sc (.pointer none)),St c.2.2],fun _=>rfl,fun c=>by obtain⟨a,_ | b,g⟩:=c <;> rfl⟩
def bY (fbs:List Nat) (c:jY) : Nm × Option Nat × Nm:=(c.1,c.2.1.bind (fbs[·]?),c.2.2)
structure jb (TC:Nat) (own:aP) (M:RM) (fbs:List Nat) (v:AV) (cs:List jY) : Prop where
 ow:Ow dw M 0 TC v (cs.map (bY fbs))
 blk:∀ b∈av v,own b=some .chg
 wf:∀ c∈cs,∀ f,c.2.1=some f→f<fbs.length
variable {own own' : aP} {M M' : RM} {bs:List Nat} {m:Nat} {t:Tag}
theorem MapAt.step (h:MapAt own M fbs m d t) (hk:ae bs M M') (hb:∀ b∈bs,own b≠some t) (ho:∀ b,own b=some t→own' b=some t) : MapAt own' M' fbs m d t :=
 ⟨ho _ h.tg,Nat.lt_of_lt_of_le h.lt hk.next,let ⟨es,cl,h1,h2⟩:=h.heap; ⟨es,cl,hk.bK h1 h.lt (fun hm=>hb _ hm h.tg),h2⟩⟩
theorem MapAt.grow (h:MapAt own M fbs m d t) (hg:∀ i b:Nat,fbs[i]?=some b→gbs[i]?=some b) : MapAt own M gbs m d t :=
 ⟨h.tg,h.lt,let ⟨es,cl,h1,h2⟩:=h.heap; ⟨es,cl,h1,h2.grow hg (Nat.le_refl _) (Nat.le_refl _)⟩⟩
theorem FB.Gx {TU:Nat} {v:AV} {xs:List UInt8} (h:FB M TU v xs) : ∀ c∈av v,c<M.next:=by
 cases h with
 | nil=>simp[av]
 | op b xs hb hh=>simp[av,hb]
 | ex b o n xs hb hh=>simp[av,hb]
theorem FB.keep {TU:Nat} {v:AV} {xs:List UInt8} (h:FB M TU v xs) (hk:ae bs M M') (hb:∀ b∈av v,b ∉ bs) : FB M' TU v xs:=by
 cases h with
 | nil=>exact .nil
 | op b xs hl hh=>exact .op b xs (Nat.lt_of_lt_of_le hl hk.next) (hk.bK hh hl (hb b (by simp[av])))
 | ex b o n xs hl hh h2=>exact .ex b o n xs (Nat.lt_of_lt_of_le hl hk.next) ((hk.loads hl (hb b (by simp[av]))).trans hh) h2
theorem FB.sl {TU:Nat} {v:AV} {xs:List UInt8} (h:FB M TU v xs) : Sl BY M v xs:=by
 cases h with
 | nil=>exact .nil
 | op b xs hl hh=>exact Rw.sl ⟨hh,hl⟩
 | ex b o n xs hl hh h2 =>
   subst h2
   refine .slc _ _ _ _ _ hl ?_
   show M.loads b o (xs.length * 1)=_
   rw[Nat.mul_one,hh]
theorem FB.one {TU:Nat} {v:AV} {xs:List UInt8} (h:FB M TU v xs) : oneCell v=true∧v.cells=[v]∧known v=true:=by
 cases h <;> exact⟨rfl,rfl,rfl⟩
section
variable {TF TU i b:Nat} {v:AV} {f:iY} {fs:List iY}
theorem gN.step (h:gN TF TU own M fbs i b v f) (hk:ae bs M M') (hb:∀ b∈bs,own b≠some (.file i)∧own b≠some (.bytes i)) (ho:∀ b,own b=some (.file i)∨own b=some (.bytes i)→own' b=own b) : gN TF TU own' M' fbs i b v f :=
 ⟨h.at_,Nat.lt_of_lt_of_le h.lt hk.next,by rw[ho _ (.inl h.tg),h.tg],hk.bK h.heap h.lt (fun hm=>(hb _ hm).1 h.tg),h.fb.keep hk (fun c hc hm=>(hb _ hm).2 (h.blk c hc)),h.le,
  fun c hc=>by rw[ho _ (.inr (h.blk c hc)),h.blk c hc]⟩
theorem fB.step (h:fB TF TU own M fbs fs) (hk:ae bs M M') (hb:∀ b∈bs,∀ i,own b≠some (.file i)∧own b≠some (.bytes i)) (ho:∀ b i,own b=some (.file i)∨own b=some (.bytes i)→own' b=own b) : fB TF TU own' M' fbs fs :=
 ⟨h.len,fun i f hf=>let ⟨b,v,h1⟩:=h.file i f hf; ⟨b,v,h1.step hk (fun b hm=>hb b hm i) (fun b=>ho b i)⟩⟩
theorem fB.at (h:fB TF TU own M fbs fs) {i b:Nat} (hb:fbs[i]?=some b) : ∃ f v,fs[i]?=some f∧gN TF TU own M fbs i b v f:=by
 have hi:i<fs.length:=by rw[← h.len]; exact(List.getElem?_eq_some_iff.1 hb).1
 obtain⟨b',v,h1⟩:=h.file i fs[i] (List.getElem?_eq_getElem hi)
 have:b'=b:=by have:=h1.at_; rw[hb] at this; cases this; rfl
 subst this
 exact⟨_,v,List.getElem?_eq_getElem hi,h1⟩
theorem fB.set (h:fB TF TU own M fbs fs) {f' : iY} (hi:i<fs.length) (h' : gN TF TU own' M' fbs i b v f') (hk:ae bs M M') (hb:∀ b∈bs,∀ j,j≠i→own b≠some (.file j)∧own b≠some (.bytes j))
  (ho:∀ b j,j≠i→own b=some (.file j)∨own b=some (.bytes j)→own' b=own b) : fB TF TU own' M' fbs (fs.set i f'):=by
 refine⟨by rw[List.length_set]; exact h.len,fun j f hf=>?_⟩
 by_cases hj:j=i
 ·subst hj
  rw[List.getElem?_set_self hi] at hf
  cases hf
  exact⟨b,v,h'⟩
 ·rw[List.getElem?_set_ne (fun e=>hj e.symm)] at hf
  obtain⟨b1,v1,h1⟩:=h.file j f hf
  exact⟨b1,v1,h1.step hk (fun b hm=>hb b hm j hj) (fun b=>ho b j hj)⟩
end
section
variable {TC:Nat} {v:AV} {cs:List jY}
theorem EA (hg:∀ i b:Nat,fbs[i]?=some b→gbs[i]?=some b) {c:jY} (hc:∀ f,c.2.1=some f→f<fbs.length) : bY gbs c=bY fbs c:=by
 obtain⟨n,o,g⟩:=c
 cases o with
 | none=>rfl
 | some f =>
   have:=hc f rfl
   simp only[bY,Option.bind_some]
   rw[List.getElem?_eq_getElem this,hg f _ (List.getElem?_eq_getElem this)]
theorem jb.grow (h:jb TC own M fbs v cs) (hg:∀ i b:Nat,fbs[i]?=some b→gbs[i]?=some b) (hl:fbs.length≤gbs.length) : jb TC own M gbs v cs:=by
 refine⟨?_,h.blk,fun c hc f hf=>Nat.lt_of_lt_of_le (h.wf c hc f hf) hl⟩
 have:cs.map (bY gbs)=cs.map (bY fbs):=List.map_congr_left fun c hc=>EA hg (h.wf c hc)
 rw[this]; exact h.ow
theorem jb.step (h:jb TC own M fbs v cs) (hk:ae bs M M') (hb:∀ b∈bs,own b≠some .chg) (ho:∀ b,own b=some .chg→own' b=some .chg) : jb TC own' M' fbs v cs :=
 ⟨Own.keep h.ow hk (fun b hm hm2=>hb b hm2 (h.blk b hm)),fun b hm=>ho b (h.blk b hm),h.wf⟩
theorem jb.nil:jb TC own M fbs bP []:=⟨.nil,by simp[av],by simp⟩
end
structure bL (TD TF TU TC:Nat) (own:aP) (M:RM) (db:Nat) (s:aT) (fbs:List Nat) (nm sm:Nat) (cv:AV) : Prop where
 lt:∀ b,own b≠none→b<M.next
 od:own db=some .disk
 row:M.heap db=some (.row [N .i64 s.bB,.map nm,.map sm,cv,N .i64 s.app,N .i64 s.syn] false TD 0)
 names:MapAt own M fbs nm s.dir .names
 safe:MapAt own M fbs sm s.iq .safe
 chg:jb TC own M fbs cv s.chg
 files:fB TF TU own M fbs s.files
def bH (TD TF TU TC:Nat) (own:aP) (M:RM) (db:Nat) (s:aT) : Prop:=∃ fbs nm sm cv,bL TD TF TU TC own M db s fbs nm sm cv
def Tr (own:aP) (M:RM) (own' : aP) (M' : RM) : Prop:=∃ bs,ae bs M M'∧(∀ b∈bs,own b≠none)∧∀ b,b<M.next→own b=none→own' b=none
theorem Tr.refl (own:aP) (M:RM) : Tr own M own M:=⟨[],ae.refl _ _,by simp,fun _ _ h=>h⟩
theorem Tr.trans {BA:aP} {M2:RM} (h:Tr own M own' M') (k:Tr own' M' BA M2) : Tr own M BA M2:=by
 obtain⟨bs,h1,h2,h3⟩:=h
 obtain⟨cs,k1,k2,k3⟩:=k
 refine⟨bs++cs.filter (fun b=>decide (b<M.next)),(h1.mono (fun b hb=>List.mem_append_left _ hb)).rQ k1 ?_, ?_,fun b hb ho=>k3 b (Nat.lt_of_lt_of_le hb h1.next) (h3 b hb ho)⟩
 ·intro c hc
  by_cases hl:c<M.next
  ·exact .inr (by simp[hc,hl])
  ·exact .inl (by omega)
 ·intro b hb
  rcases List.mem_append.1 hb with hb | hb
  ·exact h2 b hb
  ·obtain⟨hb1,hb2⟩:=List.mem_filter.1 hb
   exact fun ho=>k2 b hb1 (h3 b (of_decide_eq_true hb2) ho)
theorem Tr.keep (hk:ae [] M M') : Tr own M own M':=⟨[],hk,by simp,fun _ _ h=>h⟩
theorem Tr.next (h:Tr own M own' M') : M.next≤M'.next:=let ⟨_,h1,_⟩:=h; h1.next
section
variable {TD TF TU TC db:Nat} {s:aT} {nm sm:Nat} {cv:AV}
theorem bL.keep (h:bL TD TF TU TC own M db s fbs nm sm cv) (hk:ae [] M M') : bL TD TF TU TC own M' db s fbs nm sm cv :=
 ⟨fun b hb=>Nat.lt_of_lt_of_le (h.lt b hb) hk.next,h.od,hk.bK h.row (h.lt _ (by rw[h.od]; simp)) (by simp),h.names.step hk (by simp) (fun _ h=>h),h.safe.step hk (by simp) (fun _ h=>h),
  h.chg.step hk (by simp) (fun _ h=>h),h.files.step hk (by simp) (fun _ _ _=>rfl)⟩
theorem bL.Bl (h:bL TD TF TU TC own M db s fbs nm sm cv) : db<M.next:=h.lt _ (by rw[h.od]; simp)
end
end Go.Ab.Dk
set_option maxRecDepth 100000
namespace Go.Ab.Dk
open Go Go.Ab
def fO (p1 p2 p3:aA) (p4:Nat) (p5 p6 p7 p8 p9 p10 p11:aA) (a0 a1 a2 a3:AV) (M0:RM) (Q:af) : Prop :=
 p1 [] M0 fun v6 m =>
 uG v6 fun v7 =>
 bG v7 (
 Q (Bo false) m) (
 lF a0 fun v8 =>
 aH .gtr v8 (N .i64 10000) fun l =>
 ag l false (fun c=>c a1 m) (fun c=>c .undef m) fun v9 s =>
 ag l false (fun vk=>lF v9 fun wa =>
 vk wa s) (fun c=>c .undef s) fun wb v =>
 ag l false (fun vr=>aH .gtr wb (N .i64 10000) fun wc =>
 vr wc v) (fun c=>c .undef v) fun wd F =>
 bD l (Bo true) wd fun we =>
 bG we (
 Q (Bo true) F) (
 p2 [(N .i64 100000)] F fun L ve =>
 gQ L 0 fun d =>
 gQ L 1 fun xa =>
 p3 [d,(St [109])] ve fun xb vg =>
 pg p4 a0 fun v4 vi =>
 fe v4 vi vg fun wf vh =>
 p5 [d,(St [109]),wf] vh fun xc R =>
 p6 [d,(St [109])] R fun xd S =>
 p7 [d] S fun xe U =>
 p3 [d,(St [116])] U fun xf V =>
 pg p4 a1 fun v5 vj =>
 fe v5 vj V fun wg W =>
 p5 [d,(St [116]),wg] W fun xg X =>
 p6 [d,(St [116])] X fun xh Y =>
 p8 [d,(St [116]),(St [109])] Y fun xi t =>
 qw (fun r =>
 bG a2 (
 p7 [d] t fun xj Z =>
 r [] Z) (
 r [] t)) (fun xl va =>
 p9 [d,a3] va fun xk vb =>
 p10 [d,(St [109])] vb fun O j =>
 gQ O 0 fun q =>
 gQ O 1 fun P =>
 bG a2 (
 aH .eql P (N .i64 0) fun g =>
 ag g true (fun vl=>vl q j) (fun c=>c .undef j) fun wh n =>
 ag g true (fun vm=>jX n wh fun wi =>
 vm wi n) (fun c=>c .undef n) fun wj u =>
 ag g true (fun vn=>vn a1 u) (fun c=>c .undef u) fun wk w =>
 ag g true (fun vo=>gu .eql wj wk fun wl =>
 vo wl w) (fun c=>c .undef w) fun wm x =>
 bD g wm (Bo false) fun h =>
 ag h true (fun vp=>vp d x) (fun c=>c .undef x) fun wn y =>
 ag h true (fun vq=>p11 [wn] y fun wo vc =>
 vq wo vc) (fun c=>c .undef y) fun wp z =>
 ag h true (fun vs=>fq wp fun wq =>
 vs wq z) (fun c=>c .undef z) fun wr A =>
 ag h true (fun vt=>aH .eql wr (N .i64 1) fun ws =>
 vt ws A) (fun c=>c .undef A) fun wt vd =>
 bD h wt (Bo false) fun wu =>
 Q wu vd) (
 aH .eql P (N .i64 0) fun e =>
 ag e true (fun vu=>vu q j) (fun c=>c .undef j) fun wv o =>
 ag e true (fun vv=>jX o wv fun ww =>
 vv ww o) (fun c=>c .undef o) fun wx B =>
 ag e true (fun vw=>vw a0 B) (fun c=>c .undef B) fun wy C =>
 ag e true (fun vx=>gu .eql wx wy fun wz =>
 vx wz C) (fun c=>c .undef C) fun w0 D =>
 ag e true (fun vy=>vy w0 D) (fun c=>c .undef D) fun i E =>
 ag i false (fun vz=>vz q E) (fun c=>c .undef E) fun w1 p =>
 ag i false (fun v0=>jX p w1 fun w2 =>
 v0 w2 p) (fun c=>c .undef p) fun w3 G =>
 ag i false (fun v1=>v1 a1 G) (fun c=>c .undef G) fun w4 H =>
 ag i false (fun v2=>gu .eql w3 w4 fun w5 =>
 v2 w5 H) (fun c=>c .undef H) fun w6 I =>
 ag e true (fun v3=>bD i (Bo true) w6 fun w7 =>
 v3 w7 I) (fun c=>c .undef I) fun w8 vf =>
 bD e w8 (Bo false) fun w9 =>
 Q w9 vf))))
def lD (p1 p2:aA) (p3:Nat) (p4 p5 p6 p7:aA) (p8:Nat) (p9 p10 p11 p12 p13 p14:aA) (p15:Nat) (M0:RM) (Q:af) : Prop :=
 p1 [(N .i64 10)] M0 fun vr C =>
 gQ vr 0 fun d =>
 gQ vr 1 fun y1 =>
 aH .neq y1 (N .i64 0) fun v =>
 ag v false (fun c=>c d C) (fun c=>c .undef C) fun y2 D =>
 ag v false (fun wp=>bN false 1 y2 (.sc (.pointer none)) fun y3 =>
 wp y3 D) (fun c=>c .undef D) fun y4 P =>
 bD v (Bo true) y4 fun y5 =>
 bG y5 (
 Q (Bo false) P) (
 p2 [d,(St [97])] P fun y6 wd =>
 iX p3 3 [(N .u8 0)] [(0,1,(N .u8 120)),(1,1,(N .u8 121)),(2,1,(N .u8 122))] fun xq wk =>
 fe xq wk wd fun y7 we =>
 xA y7 we fun y8 wf =>
 p4 [d,(St [97]),y8] wf fun y9 wg =>
 p5 [d,(St [97])] wg fun za wh =>
 p6 [d] wh fun zb wi =>
 iX p3 2 [(N .u8 0)] [(0,1,(N .u8 49)),(1,1,(N .u8 50))] fun xr wl =>
 fe xr wl wi fun zc vu =>
 xA zc vu fun zd vv =>
 p4 [d,(St [97]),zd] vv fun ze vx =>
 p2 [d,(St [98])] vx fun zf vy =>
 p7 [d] vy fun zg vz =>
 fq zg fun zh =>
 iX p8 2 [(N .i64 0)] [(0,1,(N .i64 0)),(1,1,(N .i64 1))] fun xs wm =>
 fe xs wm vz fun zi v0 =>
 p9 [d,zi] v0 fun c1 v1 =>
 p10 [d,(St [97])] v1 fun vs v2 =>
 gQ vs 0 fun zj =>
 gQ vs 1 fun zk =>
 p10 [d,(St [98])] v2 fun vt v3 =>
 gQ vt 0 fun c2 =>
 gQ vt 1 fun zl =>
 wY p3 1 [(N .u8 0)] (N .i64 7) (N .i64 7) fun xt wn =>
 fe xt wn v3 fun zm v4 =>
 p4 [d,(St [97]),zm] v4 fun zn v5 =>
 p11 [d,(N .i64 100)] v5 fun c3 v6 =>
 wY p3 1 [(N .u8 0)] (N .i64 7) (N .i64 7) fun xu wo =>
 fe xu wo v6 fun zo v7 =>
 p4 [d,(St [97]),zo] v7 fun zp v8 =>
 p12 [d,(St [97]),(St [99])] v8 fun zq v9 =>
 p13 [d,(St [99])] v9 fun zr wa =>
 p14 [d] wa fun zs wb =>
 fe (.row [(N .i64 0),(N .i64 0),(N .i64 0),(N .i64 0)] false p15 0) (fun wj=>.ptr wj 0) wb fun j wc =>
 bU wc j zs 4 fun R =>
 aH .eql y6 (N .i64 0) fun w =>
 ag w true (fun w1=>w1 y9 R) (fun c=>c .undef R) fun zt S =>
 ag w true (fun w2=>aH .eql zt (N .i64 0) fun zu =>
 w2 zu S) (fun c=>c .undef S) fun zv U =>
 bD w zv (Bo false) fun x =>
 ag x true (fun w3=>w3 za U) (fun c=>c .undef U) fun zw V =>
 ag x true (fun w4=>aH .eql zw (N .i64 0) fun zx =>
 w4 zx V) (fun c=>c .undef V) fun zy W =>
 bD x zy (Bo false) fun y =>
 ag y true (fun w5=>w5 zb W) (fun c=>c .undef W) fun zz X =>
 ag y true (fun w6=>aH .eql zz (N .i64 0) fun z0 =>
 w6 z0 X) (fun c=>c .undef X) fun z1 Y =>
 bD y z1 (Bo false) fun z =>
 ag z true (fun w7=>w7 ze Y) (fun c=>c .undef Y) fun z2 Z =>
 ag z true (fun w8=>aH .eql z2 (N .i64 0) fun z3 =>
 w8 z3 Z) (fun c=>c .undef Z) fun z4 va =>
 bD z z4 (Bo false) fun A =>
 ag A true (fun w9=>w9 zf va) (fun c=>c .undef va) fun z5 vb =>
 ag A true (fun xa=>aH .eql z5 (N .i64 0) fun z6 =>
 xa z6 vb) (fun c=>c .undef vb) fun z7 vc =>
 bD A z7 (Bo false) fun B =>
 ag B true (fun xb=>xb zh vc) (fun c=>c .undef vc) fun z8 vd =>
 ag B true (fun xc=>aH .eql z8 (N .i64 2) fun z9 =>
 xc z9 vd) (fun c=>c .undef vd) fun c0 ve =>
 bD B c0 (Bo false) fun p =>
 ag p true (fun xd=>xd zk ve) (fun c=>c .undef ve) fun xv vf =>
 ag p true (fun xe=>aH .eql xv (N .i64 0) fun xw =>
 xe xw vf) (fun c=>c .undef vf) fun xx vg =>
 bD p xx (Bo false) fun e =>
 ag e true (fun xf=>xf zj vg) (fun c=>c .undef vg) fun xy o =>
 ag e true (fun xg=>jX o xy fun xz =>
 xg xz o) (fun c=>c .undef o) fun x0 vh =>
 ag e true (fun xh=>gu .eql x0 (St [120,121,122,49]) fun x1 =>
 xh x1 vh) (fun c=>c .undef vh) fun x2 vi =>
 bD e x2 (Bo false) fun q =>
 ag q true (fun xi=>xi zl vi) (fun c=>c .undef vi) fun x3 vj =>
 ag q true (fun xj=>aH .eql x3 (N .i64 4) fun x4 =>
 xj x4 vj) (fun c=>c .undef vj) fun x5 vk =>
 bD q x5 (Bo false) fun r =>
 ag r true (fun xk=>xk zn vk) (fun c=>c .undef vk) fun x6 vl =>
 ag r true (fun xl=>aH .eql x6 (N .i64 5) fun x7 =>
 xl x7 vl) (fun c=>c .undef vl) fun x8 vm =>
 bD r x8 (Bo false) fun s =>
 ag s true (fun xm=>xm zp vm) (fun c=>c .undef vm) fun x9 vn =>
 ag s true (fun xn=>aH .eql x9 (N .i64 0) fun ya =>
 xn ya vn) (fun c=>c .undef vn) fun yb vo =>
 bD s yb (Bo false) fun t =>
 ag t true (fun xo=>xo zq vo) (fun c=>c .undef vo) fun yc vp =>
 ag t true (fun xp=>aH .eql yc (N .i64 0) fun yd =>
 xp yd vp) (fun c=>c .undef vp) fun ye vq =>
 bD t ye (Bo false) fun u =>
 ag u true (fun wq=>wq zr vq) (fun c=>c .undef vq) fun yf E =>
 ag u true (fun wr=>aH .eql yf (N .i64 0) fun yg =>
 wr yg E) (fun c=>c .undef E) fun yh F =>
 bD u yh (Bo false) fun g =>
 ag g true (fun ws=>aN j 0 fun yi =>
 ws yi F) (fun c=>c .undef F) fun yj l =>
 ag g true (fun wt=>aL l yj fun yk =>
 wt yk l) (fun c=>c .undef l) fun yl G =>
 ag g true (fun wu=>aH .eql yl (N .i64 0) fun ym =>
 wu ym G) (fun c=>c .undef G) fun yn H =>
 bD g yn (Bo false) fun h =>
 ag h true (fun wv=>aN j 2 fun yo =>
 wv yo H) (fun c=>c .undef H) fun yp m =>
 ag h true (fun ww=>aL m yp fun yq =>
 ww yq m) (fun c=>c .undef m) fun yr I =>
 ag h true (fun wx=>aH .eql yr (N .i64 3) fun ys =>
 wx ys I) (fun c=>c .undef I) fun yt L =>
 bD h yt (Bo false) fun i =>
 ag i true (fun wy=>aN j 3 fun yu =>
 wy yu L) (fun c=>c .undef L) fun yv n =>
 ag i true (fun wz=>aL n yv fun yw =>
 wz yw n) (fun c=>c .undef n) fun yx O =>
 ag i true (fun w0=>aH .eql yx (N .i64 2) fun yy =>
 w0 yy O) (fun c=>c .undef O) fun yz vw =>
 bD i yz (Bo false) fun y0 =>
 Q y0 vw)
def kD (p1:Nat) (a0:AV) (M0:RM) (Q:af) : Prop :=
 aH .lss a0 (N .i64 0) fun l =>
 bG l (
 Q (.tup [(.sc (.pointer none)),(N .i64 1)]) M0) (
 fe (.map [] 0) (fun c=>.map c) M0 fun m d =>
 fe (.map [] 0) (fun c=>.map c) d fun n e =>
 iV [(N .i64 0),(.sc (.map none)),(.sc (.map none)),(.sc (.slice none 0 0)),(N .i64 0),(N .i64 0)] [(0,1,a0),(1,1,m),(2,1,n)] fun o =>
 nG p1 o fun i h =>
 fe i h e fun j g =>
 Q (.tup [j,(N .i64 0)]) g)
def fF (p1:aA) (p2:Nat) (p3:aA) (a0 a1:AV) (M0:RM) (Q:af) : Prop :=
 p1 [a1] M0 fun r c =>
 uG r fun s =>
 bG s (
 Q (N .i64 1) c) (
 aY a0 fun t =>
 aN t 1 fun i =>
 aL c i fun j =>
 gY false [2] (.sc (.pointer none)) false c j a1 fun l =>
 bN true 1 l (.sc (.pointer none)) fun m =>
 bG m (
 Q (N .i64 12) c) (
 iV [(.sc (.slice none 0 0)),(N .i64 0)] [] fun n =>
 nG p2 n fun h g =>
 fe h g c fun o d =>
 iV [(St []),(.sc (.pointer none)),(St [])] [(0,1,a1),(1,1,o)] fun p =>
 p3 [a0,p] d fun q e =>
 Q q e))
def fE (p1:aA) (p2:Nat) (p3:aA) (a0 a1 a2:AV) (M0:RM) (Q:af) : Prop :=
 aY a0 fun C =>
 aN C 1 fun l =>
 aL M0 l fun m =>
 gY false [2] (.sc (.pointer none)) false M0 m a1 fun d =>
 bN false 1 d (.sc (.pointer none)) fun n =>
 bG n (
 Q (N .i64 4) M0) (
 fq a2 fun o =>
 aY a0 fun p =>
 aN p 0 fun e =>
 aL M0 e fun g =>
 p1 [a0] M0 fun r c =>
 aL c e fun q =>
 (q=g∧aH .sub g r fun s =>
 aH .gtr o s fun t =>
 bG t (
 Q (N .i64 5) c) (
 aY d fun u =>
 aN u 0 fun v =>
 aL c v fun w =>
 appW p2 1 1 [(N .u8 0)] false w a2 c fun x h =>
 aY d fun y =>
 aN y 0 fun z =>
 bU h z x 1 fun i =>
 aY a0 fun A =>
 aN A 4 fun B =>
 p3 [B,(N .i64 1)] i fun D j =>
 Q (N .i64 0) j)))
def gq (p1:aA) (a0 a1:AV) (M0:RM) (Q:af) : Prop :=
 aY a0 fun q =>
 aN q 1 fun r =>
 aL M0 r fun s =>
 gY false [2] (.sc (.pointer none)) false M0 s a1 fun c =>
 bN false 1 c (.sc (.pointer none)) fun g =>
 bG g (
 Q (N .i64 4) M0) (
 aY c fun h =>
 aN h 0 fun i =>
 aL M0 i fun j =>
 fq j fun l =>
 aY c fun m =>
 aN m 1 fun n =>
 bU M0 n l 1 fun d =>
 aY a0 fun o =>
 aN o 5 fun p =>
 p1 [p,(N .i64 1)] d fun t e =>
 Q (N .i64 0) e)
def fu (p1 p2:aA) (a0 a1 a2:AV) (M0:RM) (Q:af) : Prop :=
 aY a0 fun o =>
 aN o 1 fun g =>
 aL M0 g fun h =>
 gY false [2] (.sc (.pointer none)) false M0 h a1 fun d =>
 bN false 1 d (.sc (.pointer none)) fun i =>
 bG i (
 Q (N .i64 4) M0) (
 p1 [a2] M0 fun j c =>
 uG j fun l =>
 bG l (
 Q (N .i64 1) c) (
 iV [(St []),(.sc (.pointer none)),(St [])] [(0,1,a2),(1,1,d),(2,1,a1)] fun m =>
 p2 [a0,m] c fun n e =>
 Q n e))
def fA (p1:aA) (a0 a1:AV) (M0:RM) (Q:af) : Prop :=
 aY a0 fun i =>
 aN i 1 fun j =>
 aL M0 j fun l =>
 gY false [2] (.sc (.pointer none)) false M0 l a1 fun d =>
 bN false 1 d (.sc (.pointer none)) fun e =>
 bG e (
 Q (N .i64 4) M0) (
 iV [(St []),(.sc (.pointer none)),(St [])] [(2,1,a1)] fun g =>
 p1 [a0,g] M0 fun h c =>
 Q h c)
def eO (p1 p2:aA) (a0:AV) (M0:RM) (Q:af) : Prop :=
 aY a0 fun o =>
 aN o 1 fun p =>
 aL M0 p fun q =>
 p1 [q] M0 fun r c =>
 aY a0 fun h =>
 aN h 2 fun i =>
 bU c i r 1 fun d =>
 aY a0 fun j =>
 aN j 3 fun l =>
 bU d l (.sc (.slice none 0 0)) 1 fun e =>
 aY a0 fun m =>
 aN m 5 fun n =>
 p2 [n,(N .i64 1)] e fun s g =>
 Q (N .i64 0) g
def fK (p1:aA) (p2:Nat) (p3 p4 p5:aA) (a0 a1:AV) (M0:RM) (Q:af) : Prop :=
 aY a0 fun O =>
 aN O 2 fun P =>
 aL M0 P fun R =>
 aY a0 fun S =>
 aN S 1 fun U =>
 bU M0 U R 1 fun i =>
 aY a0 fun V =>
 aN V 3 fun o =>
 aL i o fun p =>
 aY a0 fun X =>
 aN X 3 fun Y =>
 aL i Y fun Z =>
 fq Z fun va =>
 aH .add va (N .i64 1) fun vb =>
 p1 [a1,(N .i64 0),vb] i fun vc m =>
 aL m o fun W =>
 (W=p∧q8 (jh 3 p none (some vc) none) fun q =>
 fq q fun vd =>
 sU (fun D l e =>
 aH .lss (dR l 0) vd fun ve =>
 bG ve (
 lX q (dR l 0) 3 fun vf =>
 jS e vf 3 fun vg =>
 fe (.row [(St []),(.sc (.pointer none)),(St [])] false p2 0) (fun C=>.ptr C 0) e fun r w =>
 bU w r vg 3 fun j =>
 jS j r 3 fun vh =>
 aY a0 fun vi =>
 aN vi 1 fun vj =>
 aL j vj fun vk =>
 p3 [vh,vk] j fun wp x =>
 aH .add (dR l 0) (N .i64 1) fun vl =>
 D [vl] x) (
 aY a0 fun vm =>
 aN vm 1 fun vn =>
 aL e vn fun vo =>
 p4 [vo] e fun vp y =>
 aY a0 fun vq =>
 aN vq 2 fun vr =>
 bU y vr vp 1 fun z =>
 aY a0 fun vs =>
 aN vs 3 fun vt =>
 bU z vt (.sc (.slice none 0 0)) 1 fun A =>
 p5 [a0] A fun s B =>
 fq s fun vu =>
 sU (fun E h c =>
 aH .lss (dR h 0) vu fun vv =>
 bG vv (
 lX s (dR h 0) 1 fun vw =>
 aL c vw fun vx =>
 aY a0 fun vy =>
 aN vy 1 fun vz =>
 aL c vz fun v0 =>
 gY false [2] (.sc (.pointer none)) false c v0 vx fun d =>
 aY d fun v1 =>
 aN v1 1 fun t =>
 aL c t fun u =>
 aH .add (dR h 0) (N .i64 1) fun v3 =>
 aY d fun v4 =>
 aN v4 0 fun v5 =>
 aL c v5 fun v6 =>
 fq v6 fun v7 =>
 aY d fun v8 =>
 aN v8 1 fun v9 =>
 aL c v9 fun wa =>
 aH .sub v7 wa fun wb =>
 aH .add wb (N .i64 1) fun wc =>
 p1 [a1,v3,wc] c fun wd n =>
 aL n t fun v2 =>
 (v2=u∧aH .add u wd fun we =>
 aY d fun wf =>
 aN wf 1 fun wg =>
 bU n wg we 1 fun g =>
 aY d fun wh =>
 aN wh 0 fun wi =>
 aL g wi fun wj =>
 aY d fun wk =>
 aN wk 1 fun wl =>
 aL g wl fun wm =>
 aY d fun wn =>
 aN wn 1 fun wo =>
 aL g wo fun F =>
 q8 (jh 1 wj none (some wm) (some F)) fun G =>
 aY d fun H =>
 aN H 0 fun I =>
 bU g I G 1 fun v =>
 aH .add (dR h 0) (N .i64 1) fun L =>
 E [L] v)) (
 Q (.tup []) c)) [(N .i64 0)] B)) [(N .i64 0)] m)
def fU (a0 a1:AV) (M0:RM) (Q:af) : Prop :=
 xU true a1 (N .i64 0) fun d =>
 aY a0 fun e =>
 aN e 0 fun g =>
 bU M0 g d 1 fun c =>
 Q (.tup []) c
def gz (p1:aA) (a0 a1:AV) (M0:RM) (Q:af) : Prop :=
 aY a0 fun m =>
 aN m 1 fun n =>
 aL M0 n fun e =>
 gY false [2] (.sc (.pointer none)) false M0 e a1 fun c =>
 bN false 1 c (.sc (.pointer none)) fun g =>
 bG g (
 Q (.tup [(.sc (.slice none 0 0)),(N .i64 4)]) M0) (
 aY c fun h =>
 aN h 0 fun i =>
 aL M0 i fun j =>
 p1 [j] M0 fun l d =>
 Q (.tup [l,(N .i64 0)]) d)
def gy (p1 p2:aA) (a0:AV) (M0:RM) (Q:af) : Prop :=
 aY a0 fun e =>
 aN e 1 fun g =>
 aL M0 g fun h =>
 p1 [h] M0 fun i c =>
 p2 [i] c fun j d =>
 Q j d
def gB (p1:Nat) (p2 p3:aA) (a0:AV) (M0:RM) (Q:af) : Prop :=
 fe (.row [(N .i64 0),(N .i64 0),(N .i64 0),(N .i64 0)] false p1 0) (fun j=>.ptr j 0) M0 fun e c =>
 aY a0 fun t =>
 aN t 1 fun u =>
 aL c u fun v =>
 vB c v fun w =>
 aY a0 fun m =>
 aN m 4 fun n =>
 aY a0 fun p =>
 aN p 5 fun q =>
 p2 [a0] c fun x g =>
 p3 [n] g fun o h =>
 p3 [q] h fun r i =>
 iV [(N .i64 0),(N .i64 0),(N .i64 0),(N .i64 0)] [(0,1,w),(1,1,x),(2,1,o),(3,1,r)] fun s =>
 bU i e s 4 fun d =>
 jS d e 4 fun l =>
 Q l d
def jy (p1:aA) (a0:AV) (M0:RM) (Q:af) : Prop :=
 lF a0 fun z =>
 aH .geq z (N .i64 1) fun e =>
 ag e true (fun c=>c a0 M0) (fun c=>c .undef M0) fun A g =>
 ag e true (fun o=>lF A fun B =>
 o B g) (fun c=>c .undef g) fun C i =>
 ag e true (fun q=>aH .leq C (N .i64 64) fun D =>
 q D i) (fun c=>c .undef i) fun E j =>
 bD e E (Bo false) fun d =>
 ag d true (fun r=>r a0 j) (fun c=>c .undef j) fun t l =>
 ag d true (fun s=>p1 [t,(St [97,98,99,100,101,102,103,104,105,106,107,108,109,110,111,112,113,114,115,116,117,118,119,120,121,122,48,49,50,51,52,53,54,55,56,57,46,45,95])] l fun u n =>
 s u n) (fun c=>c .undef l) fun v h =>
 ag d true (fun p=>gu .eql v (St []) fun w =>
 p w h) (fun c=>c .undef h) fun x m =>
 bD d x (Bo false) fun y =>
 Q y m
def eU (p1:Nat) (p2:aA) (a0 a1:AV) (M0:RM) (Q:af) : Prop :=
 nG p1 a1 fun m j =>
 fe m j M0 fun e c =>
 jS c e 3 fun w =>
 aY a0 fun x =>
 aN x 1 fun y =>
 aL c y fun z =>
 p2 [w,z] c fun B d =>
 aY a0 fun o =>
 aN o 3 fun p =>
 aL d p fun q =>
 jS d e 3 fun r =>
 iX p1 1 [(St []),(.sc (.pointer none)),(St [])] [(0,3,r)] fun n l =>
 Eu n l d fun s g A =>
 appW p1 3 40 [(St []),(.sc (.pointer none)),(St [])] false q s g fun t h =>
 aY a0 fun u =>
 aN u 3 fun v =>
 bU h v t 1 fun i =>
 Q (N .i64 0) i
def fQ (a0:AV) (M0:RM) (Q:af) : Prop :=
 aY a0 fun t =>
 aN t 1 fun u =>
 aL M0 u fun v =>
 u7 v M0 fun d g =>
 sU (fun i e h =>
 zR d h fun j c =>
 gQ j 0 fun l =>
 bG l (
 CZ c d fun m =>
 gQ m 1 fun n =>
 aY n fun o =>
 aN o 0 fun p =>
 aL c p fun q =>
 fq q fun r =>
 aH .add (dR e 0) r fun s =>
 i [s] c) (
 Q (dR e 0) c)) [(N .i64 0)] g
def dX (p1:aA) (a0 a1:AV) (M0:RM) (Q:af) : Prop :=
 aY a0 fun d =>
 aN d 0 fun e =>
 p1 [e,a1] M0 fun g c =>
 Q g c
def aQ (p1:Nat) (p2:aA) (a0:AV) (M0:RM) (Q:af) : Prop :=
 bN false 3 a0 (.sc (.map none)) fun d =>
 bG d (
 Q (.sc (.map none)) M0) (
 p2 [(.ifc p1 a0)] M0 fun e c =>
 A8 p1 false e fun g =>
 Q g c)
def jF (a0 a1 a2:AV) (M0:RM) (Q:af) : Prop :=
 fq a0 fun B =>
 aH .geq a1 B fun d =>
 ag d false (fun c=>c a0 M0) (fun c=>c .undef M0) fun p h =>
 ag d false (fun l=>l a1 h) (fun c=>c .undef h) fun q i =>
 ag d false (fun m=>lX p q 1 fun r =>
 m r i) (fun c=>c .undef i) fun s g =>
 ag d false (fun n=>aL g s fun t =>
 n t g) (fun c=>c .undef g) fun u j =>
 ag d false (fun o=>aH .lss u (N .i64 0) fun v =>
 o v j) (fun c=>c .undef j) fun w e =>
 bD d (Bo true) w fun x =>
 bG x (
 Q (N .i64 0) e) (
 lX a0 a1 1 fun y =>
 aL e y fun z =>
 aH .rem z a2 fun A =>
 Q A e)
def gD (p1:Nat) (a0 a1:AV) (M0:RM) (Q:af) : Prop :=
 nG p1 a0 fun l j =>
 fe l j M0 fun d e =>
 qw (fun g =>
 aN d 2 fun t =>
 aL e t fun u =>
 gu .neq u (St []) fun v =>
 bG v (
 aN d 2 fun w =>
 aL e w fun x =>
 qz false [2] e a1 x fun y h =>
 g [] h) (
 g [] e)) (fun z c =>
 aN d 1 fun m =>
 aL c m fun n =>
 bN true 1 n (.sc (.pointer none)) fun o =>
 bG o (
 aN d 0 fun p =>
 aL c p fun q =>
 aN d 1 fun r =>
 aL c r fun s =>
 qy false [2] c a1 q s fun i =>
 Q (.tup []) i) (
 Q (.tup []) c))
def aR (p1 p2:Nat) (a0:AV) (M0:RM) (Q:af) : Prop :=
 nG p1 a0 fun e d =>
 fe e d M0 fun g c =>
 Q (.fn (.func p2) [] [g]) c
def dU (p1:aA) (a0:AV) (M0:RM) (Q:af) : Prop :=
 aY a0 fun d =>
 aN d 0 fun e =>
 p1 [e] M0 fun g c =>
 Q g c
set_option maxRecDepth 10000
abbrev pU:AV:=.sc (.pointer none)
section
variable {fbs gbs:List Nat} {own own' : aP} {M M' : RM} {bs:List Nat} {m:Nat} {d:Dir} {t:Tag} {s:Nm}
theorem fV (h:MapAt own M fbs m d t) {K:AV→Prop} (h1:iN d s=none→K pU) (h2:∀ f b,iN d s=some f→fbs[f]?=some b→K (.ptr b 0)) : gY false [2] pU false M (.map m) (St s) K:=by
 obtain⟨es,cl,hh,he⟩:=h.heap
 rcases l8 s 0 he with⟨a1,a2⟩ | ⟨j,f,b,a1,a2,a3,a4,a5⟩
 ·exact⟨m,es,cl,[St s],none,rfl,hh,rfl,rfl,a1,h1 a2⟩
 ·exact⟨m,es,cl,[St s],_,rfl,hh,rfl,rfl,a1,h2 f b a2 a3⟩
theorem Ca (h:MapAt own M fbs m d t) {K:af} (hK:∀ M',MapAt own M' fbs m (iH d s) t→ae [m] M M'→M'.next=M.next→K (.tup []) M') : qz false [2] M (.map m) (St s) K:=by
 obtain⟨es,cl,hh,he⟩:=h.heap
 rcases l8 s 0 he with⟨a1,a2⟩ | ⟨j,f,b,a1,a2,a3,a4,a5⟩
 ·refine⟨m,es,cl,[St s],none,rfl,hh,rfl,rfl,a1,hK _ ⟨h.tg,h.lt,es,cl,aX _, ?_⟩ ((ae.refl _ _).put _ (.inr (by simp))) rfl⟩
  rw[(rE a2).1]; exact he
 ·refine⟨m,es,cl,[St s],_,rfl,hh,rfl,rfl,a1,hK _ ⟨h.tg,h.lt,es.eraseIdx j,cl, ?_,a4⟩ ((ae.refl _ _).put _ (.inr (by simp))) rfl⟩
  rw[aX]; simp only[Gg,Nat.zero_add]
theorem CP (h:MapAt own M fbs m d t) {f b:Nat} (hf:fbs[f]?=some b) {K:RM→Prop} (hK:∀ M',MapAt own M' fbs m (jl d s f) t→ae [m] M M'→M'.next=M.next→K M') : qy false [2] M (.map m) (St s) (.ptr b 0) K:=by
 obtain⟨es,cl,hh,he⟩:=h.heap
 rcases l8 s 0 he with⟨a1,a2⟩ | ⟨j,f',b',a1,a2,a3,a4,a5⟩
 ·refine⟨m,es,cl,[St s],none,rfl,hh,rfl,rfl,a1,hK _ ⟨h.tg,h.lt,_,_,aX _, ?_⟩ ((ae.refl _ _).put _ (.inr (by simp))) rfl⟩
  rw[(rE a2).2]; exact he.snoc hf (Nat.zero_le _)
 ·refine⟨m,es,cl,[St s],_,rfl,hh,rfl,rfl,a1,hK _ ⟨h.tg,h.lt,_,cl, ?_,a5 f b hf⟩ ((ae.refl _ _).put _ (.inr (by simp))) rfl⟩
  rw[aX]; simp only[Ga,Nat.zero_add]
theorem Ce (h:MapAt own M fbs m d t) {K:AV→Prop} : vB M (.map m) K=K (N .i64 d.length):=by
 obtain⟨es,cl,hh,he⟩:=h.heap
 apply propext
 constructor
 ·rintro⟨b,es',c,e,h1,h2⟩
  cases e; rw[hh] at h1; cases h1
  rw[← he.len]; exact h2
 ·intro hk; exact⟨m,es,cl,rfl,hh,by rw[he.len]; exact hk⟩
end
def Fu (fbs:List Nat) (c:jY) : Prop:=∀ f,c.2.1=some f→f<fbs.length
def Fw (c:aA) : Prop:=∀ {own:aP} {M:RM} {fbs:List Nat} {m:Nat} {d:Dir} {t:Tag} {ch:jY} {Q:af},MapAt own M fbs m d t→Fu fbs ch →
 (∀ M',MapAt own M' fbs m (jq d ch) t→ae [m] M M'→Q (.tup []) M')→c [.agg (dw.cells (bY fbs ch)),.map m] M Q
theorem GU {a b:List UInt8} {K:AV→Prop} : gu .neq (St a) (St b) K=K (Bo (decide (a≠b))):=by
 simp only[go_sem]
 congr 2
 by_cases h:a=b <;> simp[h]
theorem FR {TC:Nat} : Fw fun args M Q=>∃ a0 a1,args=[a0,a1]∧gD TC a0 a1 M Q:=by
 intro own M fbs m d t ch Q hm hw hQ
 refine⟨_,_,rfl, ?_⟩
 unfold gD
 rw[oz (dw.one _) (by rw[dw.len]; decide),cz]
 have k1:ae [m] M (M.push (.row (dw.cells (bY fbs ch)) false TC 0)):=(ae.refl _ _).push _
 have k1' : ae [] M (M.push (.row (dw.cells (bY fbs ch)) false TC 0)):=(ae.refl _ _).push _
 have nn:(M.push (.row (dw.cells (bY fbs ch)) false TC 0)).next=M.next + 1:=aJ _
 have h1:(M.push (.row (dw.cells (bY fbs ch)) false TC 0)).heap M.next=some (.row (dw.cells (bY fbs ch)) false TC 0):=RM.bA _
 generalize M.push (.row (dw.cells (bY fbs ch)) false TC 0)=M1 at *
 have hm1:=hm.step k1' (by simp) (fun _ h=>h)
 have hlt:=hm.lt
 have n1:=k1.next
 simp only[uy]
 refine Ci (fun zs M'=>zs=[]∧MapAt own M' fbs m (if ch.2.2≠[] then iH d ch.2.2 else d) t∧ae [m] M M'∧M'.heap M.next=some (.row (dw.cells (bY fbs ch)) false TC 0)) ?_ ?_
 ·rintro zs M2 ⟨rfl,hm2,k2,h2⟩
  rw[aj,aC (i:=0 + 1) (x:=match (bY fbs ch).2.1 with | some b=>.ptr b 0 | none=>.sc (.pointer none)) h2 rfl]
  obtain⟨n,o,g⟩:=ch
  cases o with
  | none =>
    simp only[bY,Option.bind_none]
    rw[di,Bool.not_true,iD]
    exact hQ _ hm2 k2
  | some f =>
    have hf:=hw f rfl
    simp only[bY,Option.bind_some]
    rw[List.getElem?_eq_getElem hf]
    dsimp only
    rw[bZ,jP,aj,aC (i:=0 + 0) (x:=St n) h2 rfl,aj,aC (i:=0 + 1) (x:=.ptr fbs[f] 0) h2 (by simp only[dw,bY,Option.bind_some]; rw[List.getElem?_eq_getElem hf]; rfl)]
    refine CP hm2 (List.getElem?_eq_getElem hf) fun M3 hm3 k3 n3=>?_
    exact hQ _ hm3 (k2.trans k3)
 ·intro J hJ
  rw[aj,aC (i:=0 + 2) (x:=St ch.2.2) h1 rfl,GU]
  refine jN (fun hc=>?_) (fun hc=>?_)
  ·have hc:=of_decide_eq_true hc
   rw[aj,aC (i:=0 + 2) (x:=St ch.2.2) h1 rfl]
   refine Ca hm1 fun M2 hm2 k2 n2=>?_
   refine hJ _ _ ⟨rfl, ?_,k1.trans k2,k2.bK h1 (by omega) (by simp; omega)⟩
   rw[if_pos hc]; exact hm2
  ·have hc:=of_decide_eq_false hc
   refine hJ _ _ ⟨rfl, ?_,k1,h1⟩
   rw[if_neg hc]; exact hm1
theorem bL.row' {TD TF TU TC db:Nat} {s s' : aT} {own:aP} {M:RM} {fbs:List Nat} {nm sm nm' sm' : Nat} {cv cv' : AV} (h:bL TD TF TU TC own M db s fbs nm sm cv) (l:List AV)
  (hl:l=[N .i64 s'.bB,.map nm',.map sm',cv',N .i64 s'.app,N .i64 s'.syn])
  (h1:MapAt own M fbs nm' s'.dir .names) (h2:MapAt own M fbs sm' s'.iq .safe) (h3:jb TC own M fbs cv' s'.chg) (h4:fB TF TU own M fbs s'.files) :
  bL TD TF TU TC own (M.put db (.row l false TD 0)) db s' fbs nm' sm' cv':=by
 have hk:ae [db] M (M.put db (.row l false TD 0)):=(ae.refl _ _).put _ (.inr (by simp))
 have hd:=h.od
 have hn:∀ t:Tag,t≠.disk→∀ b∈[db],own b≠some t:=by
  intro t ht b hb
  rw[List.mem_singleton] at hb; subst hb
  rw[hd]; simpa using fun e=>ht e.symm
 subst hl
 exact⟨h.lt,hd,aX _,h1.step hk (hn _ (by simp)) (fun _ h=>h),h2.step hk (hn _ (by simp)) (fun _ h=>h),h3.step hk (hn _ (by simp)) (fun _ h=>h),
  h4.step hk (fun b hb i=>⟨hn _ (by simp) b hb,hn _ (by simp) b hb⟩) (fun _ _ _=>rfl)⟩
theorem lc {own:aP} {M:RM} {b:Nat} (x:RB) (h:own b≠none) : Tr own M own (M.put b x) :=
 ⟨[b],(ae.refl _ _).put _ (.inr (by simp)),by simpa using h,fun _ _ h=>h⟩
def lM (TD TF TU TC:Nat) (c:aA) : Prop:=∀ {own:aP} {M:RM} {db:Nat} {s:aT} {fbs:List Nat} {nm sm:Nat} {cv:AV} {ch:jY} {Q:af},bL TD TF TU TC own M db s fbs nm sm cv→Fu fbs ch→s.chg.length≤1000000000 →
 (∀ own' M',bH TD TF TU TC own' M' db { s with dir:=jq s.dir ch,chg:=s.chg++[ch] } → Tr own M own' M'→Q (N .i64 0) M')→c [.ptr db 0,.agg (dw.cells (bY fbs ch))] M Q
theorem xL {TD TF TU TC:Nat} {cdo:aA} (hdo:Fw cdo) : lM TD TF TU TC fun args M Q=>∃ a0 a1,args=[a0,a1]∧eU TC cdo a0 a1 M Q:=by
 intro own M db s fbs nm sm cv ch Q hd hw hlen hQ
 refine⟨_,_,rfl, ?_⟩
 unfold eU
 rw[oz (dw.one _) (by rw[dw.len]; decide),cz]
 have k1:ae [] M (M.push (.row (dw.cells (bY fbs ch)) false TC 0)):=(ae.refl _ _).push _
 have n1:(M.push (.row (dw.cells (bY fbs ch)) false TC 0)).next=M.next + 1:=aJ _
 have h1:(M.push (.row (dw.cells (bY fbs ch)) false TC 0)).heap M.next=some (.row (dw.cells (bY fbs ch)) false TC 0):=RM.bA _
 generalize M.push (.row (dw.cells (bY fbs ch)) false TC 0)=M1 at *
 have hd1:=hd.keep k1
 rw[oF (n:=3) h1 (dw.len _),ax,aj,aC (i:=0 + 1) hd1.row rfl]
 refine hdo hd1.names hw fun M2 m2 k2=>?_
 have hnm:=hd1.names.lt
 have hnd:nm≠db:=fun e=>by have:=hd1.names.tg; rw[e,hd1.od] at this; cases this
 have hnt:=hd1.names.tg
 have hno:∀ b,own b≠some .names→b≠nm:=fun b hb e=>hb (by rw[e]; exact hnt)
 have hold:M.next≠nm:=by have:=hd.names.lt; omega
 have r2:=k2.bK hd1.row hd1.Bl (by simp; exact fun e=>hnd e.symm)
 have h2:=k2.bK h1 (by omega) (by simp; exact hold)
 have hn2:∀ t:Tag,t≠.names→∀ b∈[nm],own b≠some t:=by
  intro t ht b hb; rw[List.mem_singleton] at hb; subst hb; rw[hnt]; simpa using fun e=>ht e.symm
 have sm2:=hd1.safe.step k2 (hn2 _ (by simp)) (fun _ h=>h)
 have cg2:=hd1.chg.step k2 (hn2 _ (by simp)) (fun _ h=>h)
 have fl2:=hd1.files.step (own':=own) k2 (fun b hb i=>⟨hn2 _ (by simp) b hb,hn2 _ (by simp) b hb⟩) (fun _ _ _=>rfl)
 have n2:=k2.next
 rw[ax,aj,aC (i:=0 + 3) r2 rfl,oF (n:=3) h2 (dw.len _),Hf (x:=.agg (dw.cells (bY fbs ch))) (size:=3) (dw.len _) (dw.one _) rfl,FP]
 refine FJ (E:=dw) (a:=bY fbs ch) cg2.ow (Nat.zero_le _) (by decide) (by rw[List.length_map]; omega) (by rw[List.length_map]; omega) fun v M3 o3 k3 n3 ho=>?_
 have hlt2:∀ b,own b≠none→b<M1.next:=fun b hb=>Nat.lt_of_lt_of_le (hd.lt b hb) k1.next
 let own' : aP:=fun b=>if b∈av v then some .chg else own b
 have hb' : ∀ b,own b≠none→own b≠some .chg→own' b=own b:=by
  intro b hb hb2
  show(if b∈av v then some Tag.chg else own b)=own b
  rw[if_neg]
  intro hm
  rcases ho with rfl | ho
  ·exact hb2 (cg2.blk b hm)
  ·have:=ho b hm; have:=hlt2 b hb; omega
 have hsome:∀ {t:Tag} {b},own b=some t→t≠.chg→own' b=some t:=by
  intro t b hb ht
  rw[hb' b (by rw[hb]; simp) (by rw[hb]; simpa using ht),hb]
 have hc3:∀ t:Tag,t≠.chg→∀ b∈av cv,own b≠some t:=by
  intro t ht b hb; rw[cg2.blk b hb]; simpa using fun e=>ht e.symm
 have r3:=k3.bK r2 (Nat.lt_of_lt_of_le hd1.Bl n2) (fun hm=>hc3 .disk (by simp) _ hm hd.od)
 rw[ax,aj,dQ (i:=0 + 3) [N .i64 s.bB,.map nm,.map sm,v,N .i64 s.app,N .i64 s.syn] r3 (by simp) (Own.cells o3) (Own.one o3) rfl]
 have m3:=m2.step (own':=own') k3 (hc3 _ (by simp)) (fun b hb=>hsome hb (by simp))
 have s3:=sm2.step (own':=own') k3 (hc3 _ (by simp)) (fun b hb=>hsome hb (by simp))
 have f3:=fl2.step (own':=own') k3 (fun b hb i=>⟨hc3 _ (by simp) b hb,hc3 _ (by simp) b hb⟩) (fun b i h=>by rcases h with h | h <;> rw[hsome h (by simp),h])
 have g3:jb TC own' M3 fbs v (s.chg++[ch]):=by
  refine⟨by rw[List.map_append]; exact o3,fun b hb=>if_pos hb,fun c hc f hf=>?_⟩
  rcases List.mem_append.1 hc with hc | hc
  ·exact cg2.wf c hc f hf
  ·rw[List.mem_singleton] at hc; subst hc; exact hw f hf
 have hlt3:∀ b,own' b≠none→b<M3.next:=by
  intro b hb
  by_cases hm:b∈av v
  ·exact(Own.blk o3 b hm).2
  ·have:own' b=own b:=if_neg hm
   rw[this] at hb; have:=hlt2 b hb; omega
 have hfin:bL TD TF TU TC own' (M3.put db (.row [N .i64 s.bB,.map nm,.map sm,v,N .i64 s.app,N .i64 s.syn] false TD 0)) db { s with dir:=jq s.dir ch,chg:=s.chg++[ch] } fbs nm sm v:=by
  have hk:ae [db] M3 (M3.put db (.row [N .i64 s.bB,.map nm,.map sm,v,N .i64 s.app,N .i64 s.syn] false TD 0)):=(ae.refl _ _).put _ (.inr (by simp))
  have od' : own' db=some .disk:=hsome hd.od (by simp)
  have hn:∀ t:Tag,t≠.disk→∀ b∈[db],own' b≠some t:=by
   intro t ht b hb; rw[List.mem_singleton] at hb; subst hb; rw[od']; simpa using fun e=>ht e.symm
  exact⟨fun b hb=>Nat.lt_of_lt_of_le (hlt3 b hb) hk.next,od',aX _,m3.step hk (hn _ (by simp)) (fun _ h=>h),s3.step hk (hn _ (by simp)) (fun _ h=>h),g3.step hk (hn _ (by simp)) (fun _ h=>h),
   f3.step hk (fun b hb i=>⟨hn _ (by simp) b hb,hn _ (by simp) b hb⟩) (fun _ _ _=>rfl)⟩
 refine hQ own' _ ⟨_,_,_,_,hfin⟩ ⟨nm :: db :: av cv, ?_, ?_, ?_⟩
 ·have a1:ae (nm :: db :: av cv) M M2:=(k1.mono (by simp)).trans (k2.mono (by simp))
  have a2:ae (nm :: db :: av cv) M M3:=a1.trans (k3.mono (fun b hb=>by simp[hb]))
  exact a2.put _ (.inr (by simp))
 ·intro b hb
  simp only[List.mem_cons] at hb
  rcases hb with rfl | rfl | hb
  ·rw[hnt]; simp
  ·rw[hd.od]; simp
  ·rw[cg2.blk b hb]; simp
 ·intro b hb ho'
  show(if b∈av v then some Tag.chg else own b)=none
  rw[if_neg,ho']
  intro hm
  rcases ho with rfl | ho
  ·rw[cg2.blk b hm] at ho'; cases ho'
  ·have:=ho b hm; omega
def jH (c:UInt8) : Bool:=(97≤c && c≤122) || (48≤c && c≤57) || c == 46 || c == 45 || c == 95
def kQ (n:Nm) : Bool:=decide (1≤n.length) && (decide (n.length≤64) && n.all jH)
def tot (fs:List iY) : Dir→Nat
 | []=>0
 | e :: d=>(fs[e.2]?.getD ([],0)).1.length + tot fs d
abbrev vR (n:Int) : Int:=IntKind.wrap .i64 n
def EK (s:aT) (c:jY) : aT := { s with dir:=jq s.dir c,chg:=s.chg++[c] }
def gZ (s:aT) (n:Nm) : aT × Int :=
 if kQ n=false then(s,1) else if (iN s.dir n).isSome then(s,12) else(EK { s with files:=s.files++[([],0)] } (n,some s.files.length,[]),0)
def ik (s:aT) (f:Nat) : iY:=s.files[f]?.getD ([],0)
def fG (s:aT) (n:Nm) (b:List UInt8) : aT × Int :=
 match iN s.dir n with
 | none=>(s,4)
 | some f=>if s.bB - (tot s.files s.dir:Int)<b.length then(s,5) else({ s with files:=s.files.set f ((ik s f).1++b,(ik s f).2),app:=vR (s.app + 1) },0)
def jL (s:aT) (n:Nm) : List UInt8 × Int :=
 match iN s.dir n with
 | none=>([],4)
 | some f=>((ik s f).1,0)
def nI (s:aT) (n:Nm) : aT × Int :=
 match iN s.dir n with
 | none=>(s,4)
 | some f=>({ s with files:=s.files.set f ((ik s f).1,(ik s f).1.length),syn:=vR (s.syn + 1) },0)
def nk (s:aT) (n to:Nm) : aT × Int :=
 match iN s.dir n with
 | none=>(s,4)
 | some f=>if kQ to=false then(s,1) else(EK s (to,some f,n),0)
def nu (s:aT) (n:Nm) : aT × Int :=
 match iN s.dir n with
 | none=>(s,4)
 | some _=>(EK s ([],none,n),0)
def lq (s:aT) : aT := { s with iq:=s.dir,chg:=[],syn:=vR (s.syn + 1) }
def yM (s:aT) (n:Int) : aT := { s with bB:=if 0 > n then 0 else n }
def bV (p:List Int) (i n:Nat) : Nat:=match p[i]? with
 | none=>0
 | some x=>if x<0 then 0 else x.toNat % n
def BL (c:aA) : Prop:=∀ {M:RM} {v:AV} {p:List Int} {i n:Nat} {Q:af},Sl INT M v p→1≤n→Q (N .i64 (bV p i n:Int)) M→c [v,N .i64 (i:Int),N .i64 (n:Int)] M Q
theorem D5:BL fun args M Q=>∃ a0 a1 a2,args=[a0,a1,a2]∧jF a0 a1 a2 M Q:=by
 intro M v p i n Q hv hn hQ
 refine⟨_,_,_,rfl, ?_⟩
 unfold jF
 simp only[xH]
 rw[bu.len hv,GA]
 refine Er (p:=match p[i]? with | none=>true | some x=>decide (x<0)) (fun hc k hk=>?_) ?_
 ·have hlt:i<p.length:=by have:=of_decide_eq_false hc; omega
  obtain⟨b,o,h1,h2,h3,h4⟩:=Sl.Gj hv (i:=i) (i:Int) hlt
  rw[h3,mo,h4 (N .i64 p[i]) rfl]
  simp only[Option.some.injEq,exists_eq_left']
  rw[rO]
  rw[List.getElem?_eq_getElem hlt] at hk
  exact hk
 ·refine jN (fun hc=>?_) (fun hc=>?_)
  ·have:bV p i n=0:=by
    unfold bV
    rcases hg:p[i]? with _ | x
    ·rfl
    ·have hlt:=(List.getElem?_eq_some_iff.1 hg).1
     rw[hg] at hc
     simp only[Bool.or_eq_true,decide_eq_true_eq] at hc
     rcases hc with hc | hc
     ·omega
     ·exact if_pos hc
   rw[this] at hQ; exact hQ
  ·rw[Bool.or_eq_false_iff] at hc
   have hlt:i<p.length:=by have:=of_decide_eq_false hc.1; omega
   have hg:=List.getElem?_eq_getElem hlt
   have h0:=hc.2
   rw[hg] at h0
   have h0:=of_decide_eq_false h0
   obtain⟨b,o,h1,h2,h3,h4⟩:=Sl.Gj hv (i:=i) (i:Int) hlt
   rw[h3,mo,h4 (N .i64 p[i]) rfl]
   simp only[Option.some.injEq,exists_eq_left']
   have:bV p i n=p[i].toNat % n:=by unfold bV; rw[hg]; exact if_neg h0
   rw[this] at hQ
   generalize p[i]=x at *
   obtain⟨y,rfl⟩:=Int.eq_ofNat_of_zero_le (Int.not_lt.1 h0)
   rw[EY]
   exact⟨by omega,hQ⟩
def yZ (c:aA) : Prop:=∀ {M:RM} {s:List UInt8} {Q:af},1≤s.length→s.length≤64→(∀ M' r,ae [] M M'→(r=[]↔s.all jH=true)→Q (St r) M') →
 c [St s,St [97,98,99,100,101,102,103,104,105,106,107,108,109,110,111,112,113,114,115,116,117,118,119,120,121,122,48,49,50,51,52,53,54,55,56,57,46,45,95]] M Q
def wX (c:aA) : Prop:=∀ {M:RM} {s:Nm} {Q:af},(∀ M',ae [] M M'→Q (Bo (kQ s)) M')→c [St s] M Q
theorem Dj {ct:aA} (ht:yZ ct) : wX fun args M Q=>∃ a0,args=[a0]∧jy ct a0 M Q:=by
 intro M s Q hQ
 refine⟨_,rfl, ?_⟩
 unfold jy
 simp only[xH]
 rw[l5,show(N .i64 (1:Int))=N .i64 ((1:Nat) : Int) from rfl,GA]
 refine eH (p:=decide (s.length≤64)) (fun hc k hk=>?_) ?_
 ·rw[l5,show(N .i64 (64:Int))=N .i64 ((64:Nat) : Int) from rfl,IE]; exact hk
 refine Hy (p:=s.all jH) (P:=fun M'=>ae [] M M') (ae.refl _ _) (fun hc k hk=>?_) (fun M' k1=>?_)
 ·simp only[Bool.and_eq_true,decide_eq_true_eq] at hc
  refine ht hc.1 hc.2 fun M' r k1 hr=>?_
  rw[lU]
  have:(r == [])=s.all jH:=by
   rw[Bool.eq_iff_iff]; simp only[beq_iff_eq]; exact hr
  rw[this]
  exact hk _ k1
 ·have:kQ s=(decide (s.length ≥ 1) && decide (s.length≤64) && s.all jH):=by
   unfold kQ; rw[Bool.and_assoc]
  rw[this] at hQ
  exact hQ _ k1
def rD (c:aA) : Prop:=∀ {M:RM} {b o el:Nat} {l:List AV} {p:Bool} {x y:Int} {Q:af},M.heap b=some (.row l p el 0)→l[o]?=some (N .i64 x) →
 Q (N .i64 (vR (x + y))) (M.put b (.row (l.set o (N .i64 (vR (x + y)))) p el 0))→c [.ptr b o,N .i64 y] M Q
theorem EU {x:aA} (hx:rD x) : rD fun args M Q=>∃ a0 a1,args=[a0,a1]∧dX x a0 a1 M Q:=by
 intro M b o el l p n y Q hh hl hQ
 refine⟨_,_,rfl, ?_⟩
 unfold dX
 rw[ax,aj,Nat.add_zero]
 exact hx hh hl hQ
def uk (c:aA) : Prop:=∀ {M:RM} {b o el:Nat} {l:List AV} {p:Bool} {x:Int} {Q:af},M.heap b=some (.row l p el 0)→l[o]?=some (N .i64 x)→Q (N .i64 x) M→c [.ptr b o] M Q
theorem Dm {x:aA} (hx:uk x) : uk fun args M Q=>∃ a0,args=[a0]∧dU x a0 M Q:=by
 intro M b o el l p n Q hh hl hQ
 refine⟨_,rfl, ?_⟩
 unfold dU
 rw[ax,aj,Nat.add_zero]
 exact hx hh hl hQ
section
variable {TD TF TU TC:Nat}
def zM (TD TF TU TC:Nat) (c:aA) : Prop:=∀ {own:aP} {M:RM} {db:Nat} {s:aT} {n:Int} {Q:af},bH TD TF TU TC own M db s →
 (∀ own' M',bH TD TF TU TC own' M' db (yM s n)→Tr own M own' M'→Q (.tup []) M')→c [.ptr db 0,N .i64 n] M Q
theorem Ct:zM TD TF TU TC fun args M Q=>∃ a0 a1,args=[a0,a1]∧fU a0 a1 M Q:=by
 intro own M db s n Q hd hQ
 obtain⟨fbs,nm,sm,cv,hd⟩:=hd
 refine⟨_,_,rfl, ?_⟩
 unfold fU
 rw[GK,ax,aj]
 rw[wF (i:=0 + 0) hd.row (by simp) rfl rfl]
 exact hQ own _ ⟨_,_,_,_,hd.row' (s':=yM s n) _ rfl hd.names hd.safe hd.chg hd.files⟩ (lc _ (by rw[hd.od]; simp))
theorem gN.put {own:aP} {M:RM} {fbs:List Nat} {i b:Nat} {v:AV} {f:iY} (h:gN TF TU own M fbs i b v f) (n:Nat) (hn:n≤f.1.length) :
  gN TF TU own (M.put b (.row [v,N .i64 (n:Int)] false TF 0)) fbs i b v (f.1,n):=by
 have hk:ae [b] M (M.put b (.row [v,N .i64 (n:Int)] false TF 0)):=(ae.refl _ _).put _ (.inr (by simp))
 refine⟨h.at_,h.lt,h.tg,aX _,h.fb.keep hk (fun c hc hm=>?_),hn,h.blk⟩
 rw[List.mem_singleton] at hm
 have:=h.blk c hc
 rw[hm,h.tg] at this; cases this
theorem iW {own:aP} {b:Nat} {t u:Tag} (h:own b=some t) (hne:u≠t) : ∀ c∈[b],own c≠some u:=by
 intro c hc; rw[List.mem_singleton] at hc; subst hc; rw[h]; simpa using fun e=>hne e.symm
def wW (TD TF TU TC:Nat) (c:aA) : Prop:=∀ {own:aP} {M:RM} {db:Nat} {s:aT} {n:Nm} {Q:af},bH TD TF TU TC own M db s →
 (∀ own' M',bH TD TF TU TC own' M' db (nI s n).1→Tr own M own' M'→Q (N .i64 (nI s n).2) M')→c [.ptr db 0,St n] M Q
theorem DI {ca:aA} (ha:rD ca) : wW TD TF TU TC fun args M Q=>∃ a0 a1,args=[a0,a1]∧gq ca a0 a1 M Q:=by
 intro own M db s n Q hd hQ
 have hd0:=hd
 obtain⟨fbs,nm,sm,cv,hd⟩:=hd
 refine⟨_,_,rfl, ?_⟩
 unfold gq
 rw[ax,aj,aC (i:=0 + 1) hd.row rfl]
 unfold nI at hQ
 refine fV hd.names (fun hn=>?_) (fun f b hf hb=>?_)
 ·rw[hn] at hQ
  rw[di,Bool.not_false,jP]
  exact hQ own M hd0 (Tr.refl _ _)
 ·rw[hf] at hQ
  dsimp only at hQ
  rw[bZ,iD]
  obtain⟨fl,v,hfl,hat⟩:=hd.files.at hb
  have hff:ik s f=fl:=by unfold ik; rw[hfl]; rfl
  have hfi:=(List.getElem?_eq_some_iff.1 hfl).1
  rw[ax,aj,aC (i:=0 + 0) hat.heap rfl,bu.len hat.fb.sl,ax,aj,dQ (i:=0 + 1) [v,N .i64 (fl.1.length:Int)] hat.heap (by simp) rfl rfl rfl]
  have h1:=hat.put fl.1.length (Nat.le_refl _)
  have hk:ae [b] M (M.put b (.row [v,N .i64 (fl.1.length:Int)] false TF 0)):=(ae.refl _ _).put _ (.inr (by simp))
  have ht:=hat.tg
  have hbd:b≠db:=fun e=>by rw[e,hd.od] at ht; cases ht
  have r1:=zW hd.row (c:=b) (z:=.row [v,N .i64 (fl.1.length:Int)] false TF 0) (fun e=>hbd e.symm)
  have t1:Tr own M own (M.put b (.row [v,N .i64 (fl.1.length:Int)] false TF 0)):=lc _ (by rw[ht]; simp)
  have n1:=hd.names.step hk (iW ht (by simp)) (fun _ h=>h)
  have s1:=hd.safe.step hk (iW ht (by simp)) (fun _ h=>h)
  have c1:=hd.chg.step hk (iW ht (by simp)) (fun _ h=>h)
  have f1:=hd.files.set hfi h1 hk (fun c hc j hj=>⟨iW ht (by simpa using hj) c hc,iW ht (by simp) c hc⟩) (fun _ _ _ _=>rfl)
  generalize M.put b (.row [v,N .i64 (fl.1.length:Int)] false TF 0)=M1 at *
  rw[ax,aj]
  refine ha r1 rfl ?_
  have hd1:bL TD TF TU TC own M1 db { s with files:=s.files.set f (fl.1,fl.1.length) } fbs nm sm cv:=⟨fun b hb=>Nat.lt_of_lt_of_le (hd.lt b hb) t1.next,hd.od,r1,n1,s1,c1,f1⟩
  rw[hff] at hQ
  exact hQ own _ ⟨_,_,_,_,hd1.row' (s' := { s with files:=s.files.set f (fl.1,fl.1.length),syn:=vR (s.syn + 1) }) _ rfl n1 s1 c1 f1⟩ (t1.trans (lc _ (by rw[hd.od]; simp)))
def AZ (TU:Nat) (c:aA) : Prop:=Go.Ab.Dot.Gb TU 1 1 c
def xD (TD TF TU TC:Nat) (c:aA) : Prop:=∀ {own:aP} {M:RM} {db:Nat} {s:aT} {n:Nm} {Q:af},bH TD TF TU TC own M db s→(∀ f∈s.files,f.1.length≤140737488355328) →
 (∀ v M',ae [] M M'→Ow BY M' M.next TU v (jL s n).1→Q (.tup [v,N .i64 (jL s n).2]) M')→c [.ptr db 0,St n] M Q
theorem DC {ck:aA} (hc:AZ TU ck) : xD TD TF TU TC fun args M Q=>∃ a0 a1,args=[a0,a1]∧gz ck a0 a1 M Q:=by
 intro own M db s n Q hd hlen hQ
 obtain⟨fbs,nm,sm,cv,hd⟩:=hd
 refine⟨_,_,rfl, ?_⟩
 unfold gz
 rw[ax,aj,aC (i:=0 + 1) hd.row rfl]
 unfold jL at hQ
 refine fV hd.names (fun hn=>?_) (fun f b hf hb=>?_)
 ·rw[hn] at hQ
  rw[di,Bool.not_false,jP]
  exact hQ _ M (ae.refl _ _) .nil
 ·rw[hf] at hQ
  dsimp only at hQ
  rw[bZ,iD]
  obtain⟨fl,v,hfl,hat⟩:=hd.files.at hb
  have hff:ik s f=fl:=by unfold ik; rw[hfl]; rfl
  rw[hff] at hQ
  have:=hlen fl (List.mem_of_getElem? hfl)
  rw[ax,aj,aC (i:=0 + 0) hat.heap rfl]
  refine hc hat.fb.sl (BY.nz _) (by omega) this fun v' M' o k=>?_
  exact hQ v' M' k o
def yF (TD TF TU TC:Nat) (F:aT→Nm→aT × Int) (c:aA) : Prop:=∀ {own:aP} {M:RM} {db:Nat} {s:aT} {n:Nm} {Q:af},bH TD TF TU TC own M db s→s.chg.length≤1000000000 →
 (∀ own' M',bH TD TF TU TC own' M' db (F s n).1→Tr own M own' M'→Q (N .i64 (F s n).2) M')→c [.ptr db 0,St n] M Q
theorem Ay {cc:aA} (hc:lM TD TF TU TC cc) : yF TD TF TU TC nu fun args M Q=>∃ a0 a1,args=[a0,a1]∧fA cc a0 a1 M Q:=by
 intro own M db s n Q hd hlen hQ
 have hd0:=hd
 obtain⟨fbs,nm,sm,cv,hd⟩:=hd
 refine⟨_,_,rfl, ?_⟩
 unfold fA
 rw[ax,aj,aC (i:=0 + 1) hd.row rfl]
 unfold nu at hQ
 refine fV hd.names (fun hn=>?_) (fun f b hf hb=>?_)
 ·rw[hn] at hQ
  rw[di,Bool.not_false,jP]
  exact hQ own M hd0 (Tr.refl _ _)
 ·rw[hf] at hQ
  dsimp only at hQ
  rw[bZ,iD,iP]
  refine⟨_,rfl, ?_⟩
  exact hc (ch:=([],none,n)) hd (fun f hf=>by cases hf) hlen fun own' M' h1 h2=>hQ own' M' h1 h2
def qH (TD TF TU TC:Nat) (c:aA) : Prop:=∀ {own:aP} {M:RM} {db:Nat} {s:aT} {n to:Nm} {Q:af},bH TD TF TU TC own M db s→s.chg.length≤1000000000 →
 (∀ own' M',bH TD TF TU TC own' M' db (nk s n to).1→Tr own M own' M'→Q (N .i64 (nk s n to).2) M')→c [.ptr db 0,St n,St to] M Q
theorem Aw {cg cc:aA} (hg:wX cg) (hc:lM TD TF TU TC cc) : qH TD TF TU TC fun args M Q=>∃ a0 a1 a2,args=[a0,a1,a2]∧fu cg cc a0 a1 a2 M Q:=by
 intro own M db s n to Q hd hlen hQ
 have hd0:=hd
 obtain⟨fbs,nm,sm,cv,hd⟩:=hd
 refine⟨_,_,_,rfl, ?_⟩
 unfold fu
 rw[ax,aj,aC (i:=0 + 1) hd.row rfl]
 unfold nk at hQ
 refine fV hd.names (fun hn=>?_) (fun f b hf hb=>?_)
 ·rw[hn] at hQ
  rw[di,Bool.not_false,jP]
  exact hQ own M hd0 (Tr.refl _ _)
 ·rw[hf] at hQ
  dsimp only at hQ
  rw[bZ,iD]
  refine hg fun M1 k1=>?_
  rw[vC]
  have hd1:=hd.keep k1
  refine jN (fun hgd=>?_) (fun hgd=>?_)
  ·have hgd:kQ to=false:=by simpa using hgd
   rw[if_pos hgd] at hQ
   exact hQ own M1 ⟨_,_,_,_,hd1⟩ (Tr.keep k1)
  ·have hgd:kQ to=true:=by simpa using hgd
   rw[if_neg (by rw[hgd]; simp)] at hQ
   rw[iP]
   refine⟨_,rfl, ?_⟩
   have e:(.agg [St to,.ptr b 0,St n] : AV)=.agg (dw.cells (bY fbs (to,some f,n))):=by simp only[bY,Option.bind_some,hb]; rfl
   show cc [.ptr db 0,.agg [St to,.ptr b 0,St n]] M1 _
   rw[e]
   exact hc (ch:=(to,some f,n)) hd1 (fun g hg=>by cases hg; exact(List.getElem?_eq_some_iff.1 hb).1) hlen fun own' M' h1 h2=>hQ own' M' h1 ((Tr.keep k1).trans h2)
theorem wM {l:List Nat} {x:Nat} : ∀ i b:Nat,l[i]?=some b→(l++[x])[i]?=some b:=by
 intro i b h
 rw[List.getElem?_append_left (List.getElem?_eq_some_iff.1 h).1]; exact h
theorem bL.FE {own:aP} {M:RM} {db:Nat} {s:aT} {fbs:List Nat} {nm sm:Nat} {cv:AV} (h:bL TD TF TU TC own M db s fbs nm sm cv) :
  bL TD TF TU TC (upd own M.next (.file s.files.length)) (M.push (.row [bP,N .i64 0] false TF 0)) db { s with files:=s.files++[([],0)] } (fbs++[M.next]) nm sm cv ∧
  Tr own M (upd own M.next (.file s.files.length)) (M.push (.row [bP,N .i64 0] false TF 0)):=by
 have hk:ae [] M (M.push (.row [bP,N .i64 0] false TF 0)):=(ae.refl _ _).push _
 have hn:own M.next=none:=by
  rcases ho:own M.next with _ | t
  ·rfl
  ·exact absurd (h.lt M.next (by rw[ho]; simp)) (Nat.lt_irrefl _)
 have hs:∀ {b:Nat} {t:Tag},own b=some t→upd own M.next (.file s.files.length) b=some t:=by
  intro b t hb
  rw[upd_ne (fun e=>by rw[e,hn] at hb; cases hb),hb]
 have hg:=wM (l:=fbs) (x:=M.next)
 have hd:=h.keep hk
 refine⟨⟨fun b hb=>?_,hs h.od,hd.row,((hd.names.step (ae.refl [] _) (by simp) (fun _ h=>hs h)).grow hg),((hd.safe.step (ae.refl [] _) (by simp) (fun _ h=>hs h)).grow hg),
  ((hd.chg.step (ae.refl [] _) (by simp) (fun _ h=>hs h)).grow hg (by simp)), ?_⟩,[],hk,by simp,fun b hb ho=>by rw[upd_ne (by omega)]; exact ho⟩
 ·by_cases e:b=M.next
  ·rw[e,aJ]; omega
  ·rw[upd_ne e] at hb
   exact Nat.lt_of_lt_of_le (h.lt b hb) hk.next
 ·have hf:=hd.files.step (own':=upd own M.next (.file s.files.length)) (ae.refl [] _) (by simp) (fun b i h=>by rcases h with h | h <;> rw[hs h,h])
  refine⟨by simp[hf.len],fun i f hi=>?_⟩
  rcases Nat.lt_or_ge i s.files.length with hlt | hge
  ·rw[List.getElem?_append_left hlt] at hi
   obtain⟨b,v,h1⟩:=hf.file i f hi
   exact⟨b,v,hg _ _ h1.at_,h1.lt,h1.tg,h1.heap,h1.fb,h1.le,h1.blk⟩
  ·rw[List.getElem?_append_right hge] at hi
   have hi0:i - s.files.length=0:=by
    have:=(List.getElem?_eq_some_iff.1 hi).1
    simp at this; omega
   rw[hi0] at hi
   cases hi
   have hi:i=s.files.length:=by omega
   subst hi
   refine⟨M.next,bP, ?_,by rw[aJ]; omega,lg,RM.bA _,.nil,Nat.le_refl _,by simp[av]⟩
   rw[← h.files.len]; simp
theorem Aj {cg cc:aA} (hg:wX cg) (hc:lM TD TF TU TC cc) : yF TD TF TU TC gZ fun args M Q=>∃ a0 a1,args=[a0,a1]∧fF cg TF cc a0 a1 M Q:=by
 intro own M db s n Q hd hlen hQ
 obtain⟨fbs,nm,sm,cv,hd⟩:=hd
 refine⟨_,_,rfl, ?_⟩
 unfold fF
 unfold gZ at hQ
 refine hg fun M1 k1=>?_
 rw[vC]
 have hd1:=hd.keep k1
 refine jN (fun hgd=>?_) (fun hgd=>?_)
 ·have hgd:kQ n=false:=by simpa using hgd
  rw[if_pos hgd] at hQ
  exact hQ own M1 ⟨_,_,_,_,hd1⟩ (Tr.keep k1)
 ·have hgd:kQ n=true:=by simpa using hgd
  rw[if_neg (by rw[hgd]; simp)] at hQ
  rw[ax,aj,aC (i:=0 + 1) hd1.row rfl]
  refine fV hd1.names (fun hn=>?_) (fun f b hf hb=>?_)
  ·rw[hn] at hQ
   rw[if_neg (by simp)] at hQ
   rw[di,Bool.not_true,iD,iP]
   refine⟨_,rfl, ?_⟩
   rw[oz rfl (by simp),cz,iP]
   refine⟨_,rfl, ?_⟩
   obtain⟨hd2,t2⟩:=hd1.FE
   have hl:(fbs++[M1.next])[s.files.length]?=some M1.next:=by rw[← hd1.files.len]; simp
   have e:(.agg [St n,.ptr M1.next 0,St []] : AV)=.agg (dw.cells (bY (fbs++[M1.next]) (n,some s.files.length,[]))):=by
    simp only[bY,Option.bind_some,hl]; rfl
   show cc [.ptr db 0,.agg [St n,.ptr M1.next 0,St []]] _ _
   rw[e]
   exact hc (ch:=(n,some s.files.length,[])) hd2 (fun g hg=>by cases hg; exact(List.getElem?_eq_some_iff.1 hl).1) hlen fun own' M' h1 h2=>hQ own' M' h1 ((Tr.keep k1).trans (t2.trans h2))
  ·rw[hf] at hQ
   rw[if_pos (by simp)] at hQ
   rw[bZ,jP]
   exact hQ own M1 ⟨_,_,_,_,hd1⟩ (Tr.keep k1)
end
section
variable {TD TF TU TC:Nat}
def BS (n:Int) : aT:=⟨[],[],[],[],n,0,0⟩
def Bw (TD TF TU TC:Nat) (c:aA) : Prop:=∀ {M:RM} {n:Int} {Q:af},(n<0→Q (.tup [pU,N .i64 1]) M) →
 (¬ n<0→∀ own M' db,bH TD TF TU TC own M' db (BS n)→(∀ b,b<M.next→own b=none)→ae [] M M'→Q (.tup [.ptr db 0,N .i64 0]) M')→c [N .i64 n] M Q
theorem El:Bw TD TF TU TC fun args M Q=>∃ a0,args=[a0]∧kD TD a0 M Q:=by
 intro M n Q h1 h2
 refine⟨_,rfl, ?_⟩
 unfold kD
 rw[rO]
 refine jN (fun hc=>h1 (of_decide_eq_true hc)) (fun hc=>?_)
 rw[cz,cz,iP]
 refine⟨_,rfl, ?_⟩
 rw[oz rfl (by show 1≤6; decide),cz]
 have k1:ae [] M (((M.push (.map [] 0)).push (.map [] 0)).push (.row [N .i64 n,.map M.next,.map (M.next + 1),bP,N .i64 0,N .i64 0] false TD 0)):=(((ae.refl _ _).push _).push _).push _
 refine h2 (of_decide_eq_false hc) (upd (upd (upd (fun _=>none) M.next .names) (M.next + 1) .safe) (M.next + 2) .disk) _ _ ?_ ?_ k1
 ·have e1:(((M.push (.map [] 0)).push (.map [] 0)).push (.row [N .i64 n,.map M.next,.map (M.next + 1),bP,N .i64 0,N .i64 0] false TD 0)).heap M.next=some (.map [] 0) :=
   lQ (lQ (RM.bA _) (by rw[aJ]; omega)) (by rw[aJ,aJ]; omega)
  have e2:(((M.push (.map [] 0)).push (.map [] 0)).push (.row [N .i64 n,.map M.next,.map (M.next + 1),bP,N .i64 0,N .i64 0] false TD 0)).heap (M.next + 1)=some (.map [] 0) :=
   lQ (RM.bA _) (by rw[aJ,aJ]; omega)
  have o1:(upd (upd (upd (fun _=>none) M.next .names) (M.next + 1) .safe) (M.next + 2) .disk) M.next=some .names:=by
   rw[upd_ne (by omega),upd_ne (by omega),lg]
  have o2:(upd (upd (upd (fun _=>none) M.next .names) (M.next + 1) .safe) (M.next + 2) .disk) (M.next + 1)=some .safe:=by
   rw[upd_ne (by omega),lg]
  refine⟨[],M.next,M.next + 1,bP,fun b hb=>?_,lg,RM.bA _,⟨o1,by rw[aJ,aJ,aJ]; omega,[],0,e1,trivial⟩,⟨o2,by rw[aJ,aJ,aJ]; omega,[],0,e2,trivial⟩,.nil,⟨rfl,fun i f h=>by simp[BS] at h⟩⟩
  simp only[upd] at hb
  rw[aJ,aJ,aJ]
  split at hb
  ·omega
  ·split at hb
   ·omega
   ·split at hb
    ·omega
    ·simp at hb
 ·intro b hb
  rw[upd_ne (by omega),upd_ne (by omega),upd_ne (by omega)]
def qj (c:aA) : Prop:=∀ {M:RM} {m cl:Nat} {es:List (AV × AV × Nat)} {Q:af},M.heap m=some (.map es cl)→Q (.map M.next) (M.push (.map es cl))→c [.map m] M Q
def AR (T:Nat) (c:aA) : Prop:=∀ {M:RM} {m cl:Nat} {es:List (AV × AV × Nat)} {Q:af},M.heap m=some (.map es cl)→Q (.ifc T (.map M.next)) (M.push (.map es cl))→c [.ifc T (.map m)] M Q
theorem Am {T:Nat} {x:aA} (hx:AR T x) : qj fun args M Q=>∃ a0,args=[a0]∧aQ T x a0 M Q:=by
 intro M m cl es Q hh hQ
 refine⟨_,rfl, ?_⟩
 unfold aQ
 rw[uF,iD]
 exact hx hh ⟨_,rfl,hQ⟩
theorem fresh {own:aP} {M:RM} (h:∀ b,own b≠none→b<M.next) : own M.next=none:=by
 rcases ho:own M.next with _ | t
 ·rfl
 ·exact absurd (h M.next (by rw[ho]; simp)) (Nat.lt_irrefl _)
def nV (TD TF TU TC:Nat) (c:aA) : Prop:=∀ {own:aP} {M:RM} {db:Nat} {s:aT} {Q:af},bH TD TF TU TC own M db s →
 (∀ own' M',bH TD TF TU TC own' M' db (lq s)→Tr own M own' M'→Q (N .i64 0) M')→c [.ptr db 0] M Q
theorem bL.copy {own:aP} {M:RM} {db:Nat} {s:aT} {fbs:List Nat} {nm sm m:Nat} {cv:AV} {es:List (AV × AV × Nat)} {cl:Nat} (h:bL TD TF TU TC own M db s fbs nm sm cv) (he:cB fbs cl 0 es s.dir) :
  bL TD TF TU TC (upd own M.next .safe) ((M.push (.map es cl)).put db (.row [N .i64 s.bB,.map nm,.map M.next,cv,N .i64 s.app,N .i64 s.syn] false TD 0)) db { s with iq:=s.dir } fbs nm M.next cv ∧
  Tr own M (upd own M.next .safe) ((M.push (.map es cl)).put db (.row [N .i64 s.bB,.map nm,.map M.next,cv,N .i64 s.app,N .i64 s.syn] false TD 0)):=by
 have k1:ae [] M (M.push (.map es cl)):=(ae.refl _ _).push _
 have hn:=fresh h.lt
 have hs:∀ {b:Nat} {t:Tag},own b=some t→upd own M.next .safe b=some t:=by
  intro b t hb
  rw[upd_ne (fun e=>by rw[e,hn] at hb; cases hb),hb]
 have hm:MapAt (upd own M.next .safe) (M.push (.map es cl)) fbs M.next s.dir .safe:=⟨lg,by rw[aJ]; omega,es,cl,RM.bA _,he⟩
 have hd:=h.keep k1
 have hd1:bL TD TF TU TC (upd own M.next .safe) (M.push (.map es cl)) db s fbs nm sm cv:=by
  refine⟨fun b hb=>?_,hs h.od,hd.row,hd.names.step (ae.refl [] _) (by simp) (fun _ h=>hs h),hd.safe.step (ae.refl [] _) (by simp) (fun _ h=>hs h),hd.chg.step (ae.refl [] _) (by simp) (fun _ h=>hs h),
   hd.files.step (ae.refl [] _) (by simp) (fun b i h=>by rcases h with h | h <;> rw[hs h,h])⟩
  by_cases e:b=M.next
  ·rw[e,aJ]; omega
  ·rw[upd_ne e] at hb
   exact Nat.lt_of_lt_of_le (h.lt b hb) k1.next
 have t1:Tr own M (upd own M.next .safe) (M.push (.map es cl)):=⟨[],k1,by simp,fun b hb ho=>by rw[upd_ne (by omega)]; exact ho⟩
 exact⟨hd1.row' (s' := { s with iq:=s.dir }) _ rfl hd1.names hm hd1.chg hd1.files,t1.trans (lc _ (by rw[hd1.od]; simp))⟩
theorem bL.calm {own:aP} {M:RM} {db:Nat} {s:aT} {fbs:List Nat} {nm sm:Nat} {cv:AV} (h:bL TD TF TU TC own M db s fbs nm sm cv) :
  bL TD TF TU TC own (M.put db (.row [N .i64 s.bB,.map nm,.map sm,bP,N .i64 s.app,N .i64 s.syn] false TD 0)) db { s with chg:=[] } fbs nm sm bP :=
 h.row' (s' := { s with chg:=[] }) _ rfl h.names h.safe .nil h.files
theorem xV {cm ca:aA} (hm:qj cm) (ha:rD ca) : nV TD TF TU TC fun args M Q=>∃ a0,args=[a0]∧eO cm ca a0 M Q:=by
 intro own M db s Q hd hQ
 obtain⟨fbs,nm,sm,cv,hd⟩:=hd
 refine⟨_,rfl, ?_⟩
 unfold eO
 rw[ax,aj,aC (i:=0 + 1) hd.row rfl]
 obtain⟨es,cl,hh,he⟩:=hd.names.heap
 refine hm hh ?_
 have k1:ae [] M (M.push (.map es cl)):=(ae.refl _ _).push _
 obtain⟨hd2,t2⟩:=hd.copy (m:=nm) he
 rw[ax,aj,dQ (i:=0 + 2) [N .i64 s.bB,.map nm,.map M.next,cv,N .i64 s.app,N .i64 s.syn] (k1.bK hd.row hd.Bl (by simp)) (by simp) rfl rfl rfl]
 generalize (M.push (.map es cl)).put db (.row [N .i64 s.bB,.map nm,.map M.next,cv,N .i64 s.app,N .i64 s.syn] false TD 0)=M2 at *
 have hd3:=hd2.calm
 rw[ax,aj,dQ (i:=0 + 3) [N .i64 s.bB,.map nm,.map M.next,bP,N .i64 s.app,N .i64 s.syn] hd2.row (by simp) rfl rfl rfl]
 have t3:Tr (upd own M.next .safe) M2 (upd own M.next .safe) (M2.put db (.row [N .i64 s.bB,.map nm,.map M.next,bP,N .i64 s.app,N .i64 s.syn] false TD 0)):=lc _ (by rw[hd2.od]; simp)
 dsimp only at hd3
 generalize M2.put db (.row [N .i64 s.bB,.map nm,.map M.next,bP,N .i64 s.app,N .i64 s.syn] false TD 0)=M3 at *
 rw[ax,aj]
 refine ha (o:=0 + 5) hd3.row rfl ?_
 exact hQ _ _ ⟨_,_,_,_,hd3.row' (s':=lq s) _ rfl hd3.names hd3.safe hd3.chg hd3.files⟩ ((t2.trans t3).trans (lc _ (by rw[hd3.od]; simp)))
def iF (fs:List iY) (seen:List Nat) : List (AV × AV × Nat)→Dir→Nat
 | e :: es,d :: ds=>(if e.2.2∈seen then(fs[d.2]?.getD ([],0)).1.length else 0) + iF fs seen es ds
 | _,_=>0
def mI (seen:List Nat) : List (AV × AV × Nat)→Nat
 | []=>0
 | e :: es=>(if e.2.2∈seen then 0 else 1) + mI seen es
section
variable {fbs:List Nat} {cl:Nat} {fs:List iY}
theorem AL (seen:List Nat) : ∀ {es:List (AV × AV × Nat)} {d:Dir} {lo:Nat},cB fbs cl lo es d→iF fs seen es d≤tot fs d
 | [],[],_,_=>Nat.le_refl _
 | e :: es,_ :: d,_,⟨_,_,_,_,h⟩=>by
   have:=AL seen h
   simp only[iF,tot]; split <;> omega
theorem yL (seen:List Nat) : ∀ {es:List (AV × AV × Nat)} {d:Dir} {lo:Nat},cB fbs cl lo es d→(∀ e∈es,e.2.2∈seen)→iF fs seen es d=tot fs d
 | [],[],_,_,_=>rfl
 | e :: es,_ :: d,_,⟨_,_,_,_,h⟩,ha=>by
   have:=yL seen h (fun e he=>ha e (List.mem_cons_of_mem _ he))
   simp only[iF,tot,if_pos (ha e (List.mem_cons_self ..)),this]
theorem xJ:∀ {es:List (AV × AV × Nat)} {d:Dir},iF fs [] es d=0
 | [],_=>by cases ‹Dir› <;> rfl
 | e :: es,[]=>rfl
 | e :: es,d :: ds=>by simp[iF,xJ (es:=es)]
theorem Bd (seen:List Nat) (k:Nat) : ∀ {es:List (AV × AV × Nat)} {d:Dir} {lo:Nat},cB fbs cl lo es d→k<lo→iF fs (seen++[k]) es d=iF fs seen es d∧mI (seen++[k]) es=mI seen es
 | [],[],_,_,_=>⟨rfl,rfl⟩
 | e :: es,_ :: d,lo,⟨_,_,h1,_,h⟩,hk=>by
   obtain⟨a1,a2⟩:=Bd seen k h (by omega)
   have:(e.2.2∈seen++[k])=(e.2.2∈seen):=by
    simp only[List.mem_append,List.mem_singleton,eq_iff_iff]
    exact⟨fun h=>h.resolve_right (by omega),.inl⟩
   simp only[iF,mI,a1,a2,this,and_self]
theorem rR (seen:List Nat) : ∀ {es:List (AV × AV × Nat)} {d:Dir} {lo:Nat},cB fbs cl lo es d→∀ n∈es,n.2.2 ∉ seen →
  ∃ (f b:Nat),fbs[f]?=some b∧n.2.1=.ptr b 0∧es.find? (fun e=>e.2.2 == n.2.2)=some n∧lo≤n.2.2∧n.2.2<cl∧iF fs (seen++[n.2.2]) es d=iF fs seen es d + (fs[f]?.getD ([],0)).1.length∧mI (seen++[n.2.2]) es<mI seen es
 | [],[],_,_,n,hn,_=>by cases hn
 | e :: es,x :: d,lo,⟨h0,⟨b,h1,h2⟩,h3,h4,h⟩,n,hn,hs=>by
   rcases List.mem_cons.1 hn with rfl | hn
   ·obtain⟨a1,a2⟩:=Bd (fs:=fs) seen n.2.2 h (by omega)
    refine⟨x.2,b,h1,h2,by simp,h3,h4, ?_, ?_⟩
    ·simp only[iF,a1,List.mem_append,List.mem_singleton,or_true,if_true,if_neg hs]; omega
    ·simp only[mI,a2,List.mem_append,List.mem_singleton,or_true,if_true,if_neg hs]; omega
   ·obtain⟨f,b',q1,q2,q3,q4,q5,q6,q7⟩:=rR seen h n hn hs
    have hne:e.2.2≠n.2.2:=by omega
    have:(e.2.2∈seen++[n.2.2])=(e.2.2∈seen):=by
     simp only[List.mem_append,List.mem_singleton,eq_iff_iff]
     exact⟨fun h=>h.resolve_right hne,.inl⟩
    refine⟨f,b',q1,q2, ?_,by omega,q5, ?_, ?_⟩
    ·rw[List.find?_cons_of_neg (by simpa using hne)]; exact q3
    ·simp only[iF,q6,this]; omega
    ·simp only[mI,this]; omega
end
def sJ (TD TF TU TC:Nat) (c:aA) : Prop:=∀ {own:aP} {M:RM} {db:Nat} {s:aT} {Q:af},bH TD TF TU TC own M db s→tot s.files s.dir<4611686018427387904 →
 (∀ M',ae [] M M'→Q (N .i64 (tot s.files s.dir:Int)) M')→c [.ptr db 0] M Q
theorem Cn:sJ TD TF TU TC fun args M Q=>∃ a0,args=[a0]∧fQ a0 M Q:=by
 intro own M db s Q hd hlen hQ
 obtain⟨fbs,nm,sm,cv,hd⟩:=hd
 refine⟨_,rfl, ?_⟩
 unfold fQ
 rw[ax,aj,aC (i:=0 + 1) hd.row rfl]
 obtain⟨es,cl,hh,he⟩:=hd.names.heap
 refine⟨nm,es,cl,rfl,hh, ?_⟩
 have hnl:=hd.names.lt
 have k1:ae [] M (M.push (.iter (some nm) cl [] cl)):=(ae.refl _ _).push _
 refine pR (fun z ys M'=>∃ seen,z=mI seen es∧ys=[N .i64 (iF s.files seen es s.dir:Int)]∧ae [] M M'∧M.next<M'.next∧M'.heap M.next=some (.iter (some nm) cl seen cl)) (mI [] es)
  ⟨[],rfl,by rw[xJ]; rfl,k1,by rw[aJ]; omega,RM.bA _⟩ ?_
 rintro next z ys M' hnext ⟨seen,rfl,rfl,k2,n2,h2⟩
 dsimp only[dR]
 have hm:=k2.bK hh hnl (by simp)
 refine⟨M.next,nm,cl,seen,cl,es,cl,rfl,h2,hm, ?_,fun n hn hs=>?_,fun ha=>?_⟩
 ·cases es with
  | nil=>exact .inr (.inl rfl)
  | cons e es =>
    refine .inr (.inr ⟨e,List.mem_cons_self .., ?_⟩)
    cases hdd:s.dir with
    | nil=>rw[hdd] at he; exact he.elim
    | cons x d=>rw[hdd] at he; exact he.2.2.2.1
 ·obtain⟨f,b,q1,q2,q3,q4,q5,q6,q7⟩:=rR (fs:=s.files) seen he n hn hs
  rw[l9,jP]
  have k3:ae [] M (M'.put M.next (.iter (some nm) cl (seen++[n.2.2]) cl)):=k2.put _ (.inl (Nat.le_refl _))
  have h3:(M'.put M.next (.iter (some nm) cl (seen++[n.2.2]) cl)).heap M.next=some (.iter (some nm) cl (seen++[n.2.2]) cl):=aX _
  have hm3:=k3.bK hh hnl (by simp)
  refine⟨M.next,nm,cl,seen,es,cl,n.2.2,n,rfl,h3,hm3,q3, ?_⟩
  dsimp only
  rw[nX,q2,ax,aj]
  obtain⟨fl,v,hfl,hat⟩:=(hd.keep k3).files.at q1
  rw[hfl] at q6
  have hle:=AL (fs:=s.files) (seen++[n.2.2]) he
  simp only[Option.getD_some] at q6
  rw[aC (i:=0 + 0) hat.heap rfl,bu.len hat.fb.sl,addN (by omega),← q6]
  exact hnext _ _ _ q7 ⟨_,rfl,rfl,k3,n2,h3⟩
 ·dsimp only
  rw[l9,iD]
  rw[yL (fs:=s.files) seen he (fun e hm2=>?_)]
  ·exact hQ M' k2
  ·rcases Classical.em (e.2.2∈seen) with h | h
   ·exact h
   ·have:=ha e hm2 h
    obtain⟨f,b,q1,q2,q3,q4,q5,q6,q7⟩:=rR (fs:=s.files) seen he e hm2 h
    omega
theorem GI {M:RM} {TU:Nat} {v u:AV} {xs ys:List UInt8} {K:af} (h:FB M TU v xs) (hu:Sl BY M u ys) (hn:xs.length + ys.length≤140737488355328)
  (hK:∀ v' M',FB M' TU v' (xs++ys)→ae (av v) M M'→(v'=v∨∀ b∈av v',M.next≤b)→K v' M') : appW TU 1 1 [(N .u8 0)] false v u M K:=by
 have own:∀ {w:AV} {M' : RM},Ow BY M' 0 TU w (xs++ys)→FB M' TU w (xs++ys):=by
  intro w M' ho
  generalize hz:xs++ys=zs at *
  unfold Ow at ho
  generalize hl:zs.length=n at ho
  generalize hr:BY.row zs=cs at ho
  cases ho with
  | nil =>
    have:zs=[]:=List.length_eq_zero_iff.1 hl
    rw[this]; exact .nil
  | ex0 b o h1 h2 h3 =>
    obtain⟨l,h4,h5⟩:=h3
    exact .ex b o 0 zs h2 (by rw[hr]; exact kJ h4 h5) hl
  | op b n cs h1 h2 h3 h4 =>
    subst hl
    exact .op b zs h2 (by rw[hr]; exact h3)
 cases h with
 | nil=>exact uI (E:=BY) (base:=0) (xs:=[]) .nil (Nat.zero_le _) (by decide) hu (by omega) hn fun v' M' h1 h2 h3 h4=>hK v' M' (own h1) h2 h4
 | op b xs hl hh =>
   exact uI (E:=BY) (base:=0) (xs:=xs) (.op b xs.length _ (Nat.zero_le _) hl hh (by rw[BY.gm])) (Nat.zero_le _) (by decide) hu (by omega) hn fun v' M' h1 h2 h3 h4=>hK v' M' (own h1) h2 h4
 | ex b o n xs hl hh h2 =>
   subst h2
   refine⟨ys.length,BY.row ys,bu.mK hu _,by omega,by omega, ?_⟩
   simp only[mO]
   by_cases h0:ys.length=0
   ·rw[if_pos h0,if_pos (Nat.le_refl _)]
    refine⟨_,_,rfl,hK _ _ ?_ (ae.refl _ _) (.inl rfl)⟩
    rw[List.length_eq_zero_iff.1 h0,List.append_nil]
    exact .ex b o xs.length xs hl hh rfl
   ·rw[if_neg h0,if_neg (by omega),Nat.mul_one,hh]
    have h1:((BY.row xs++BY.row ys).all oneCell)=true:=by rw[List.all_append,BY.nz,BY.nz]; rfl
    dsimp only
    rw[if_pos ⟨by omega,hn,h1⟩]
    refine⟨_,_,rfl,hK _ _ ?_ ((ae.refl _ _).push _) (.inr (by simp[av]))⟩
    have e:xs.length + ys.length=(xs++ys).length:=by simp
    rw[e,← BY.tX]
    exact .op M.next (xs++ys) (by rw[aJ]; omega) (RM.bA _)
def qA (TD TF TU TC:Nat) (c:aA) : Prop:=∀ {own:aP} {M:RM} {db:Nat} {s:aT} {n:Nm} {v:AV} {b:List UInt8} {Q:af},bH TD TF TU TC own M db s→Sl BY M v b→tot s.files s.dir<4611686018427387904→0≤s.bB→s.bB<9223372036854775808 →
 (∀ f∈s.files,f.1.length + b.length≤140737488355328) →
 (∀ own' M',bH TD TF TU TC own' M' db (fG s n b).1→Tr own M own' M'→Q (N .i64 (fG s n b).2) M')→c [.ptr db 0,St n,v] M Q
theorem Ao {ct ca:aA} (ht:sJ TD TF TU TC ct) (ha:rD ca) : qA TD TF TU TC fun args M Q=>∃ a0 a1 a2,args=[a0,a1,a2]∧fE ct TU ca a0 a1 a2 M Q:=by
 intro own M db s n u ys Q hd hu htot hq0 hq1 hlen hQ
 have hd0:=hd
 obtain⟨fbs,nm,sm,cv,hd⟩:=hd
 refine⟨_,_,_,rfl, ?_⟩
 unfold fE
 rw[ax,aj,aC (i:=0 + 1) hd.row rfl]
 unfold fG at hQ
 refine fV hd.names (fun hn=>?_) (fun f b hf hb=>?_)
 ·rw[hn] at hQ
  rw[di,Bool.not_false,jP]
  exact hQ own M hd0 (Tr.refl _ _)
 ·rw[hf] at hQ
  dsimp only at hQ
  rw[bZ,iD,bu.len hu,ax,aj,aC (i:=0 + 0) hd.row rfl]
  refine ht hd0 htot fun M1 k1=>?_
  have hd1:=hd.keep k1
  have hu1:Sl BY M1 u ys:=bu.keep hu k1 (by simp)
  rw[aC (i:=0 + 0) hd1.row rfl]
  refine⟨rfl, ?_⟩
  rw[yY,jM (by omega) (by omega),zS]
  refine jN (fun hc=>?_) (fun hc=>?_)
  ·have hc:=of_decide_eq_true hc
   rw[if_pos hc] at hQ
   exact hQ own M1 ⟨_,_,_,_,hd1⟩ (Tr.keep k1)
  ·have hc:=of_decide_eq_false hc
   rw[if_neg hc] at hQ
   obtain⟨fl,v,hfl,hat⟩:=hd1.files.at hb
   have hff:ik s f=fl:=by unfold ik; rw[hfl]; rfl
   have hfi:=(List.getElem?_eq_some_iff.1 hfl).1
   rw[hff] at hQ
   rw[ax,aj,aC (i:=0 + 0) hat.heap rfl]
   refine GI hat.fb hu1 (hlen fl (List.mem_of_getElem? hfl)) fun v' M2 fb2 k2 hv=>?_
   let own' : aP:=fun b=>if b∈av v' then some (.bytes f) else own b
   have hlt1:∀ b,own b≠none→b<M1.next:=hd1.lt
   have hsame:∀ b,own b≠none→own b≠some (.bytes f)→own' b=own b:=by
    intro b hb hb2
    show(if b∈av v' then some (Tag.bytes f) else own b)=own b
    rw[if_neg]
    intro hm
    rcases hv with rfl | hv
    ·exact hb2 (hat.blk b hm)
    ·have:=hv b hm; have:=hlt1 b hb; omega
   have hsome:∀ {t:Tag} {b:Nat},own b=some t→t≠.bytes f→own' b=some t:=by
    intro t b hb ht
    rw[hsame b (by rw[hb]; simp) (by rw[hb]; simpa using ht),hb]
   have hbt:∀ t:Tag,t≠.bytes f→∀ c∈av v,own c≠some t:=by
    intro t ht c hc; rw[hat.blk c hc]; simpa using fun e=>ht e.symm
   have hlt2:∀ b,own' b≠none→b<M2.next:=by
    intro b hb
    by_cases hm:b∈av v'
    ·exact fb2.Gx b hm
    ·have:own' b=own b:=if_neg hm
     rw[this] at hb; have:=hlt1 b hb; have:=k2.next; omega
   have hbs:=hat.tg
   have hb2:=k2.bK hat.heap hat.lt (fun hm=>hbt _ (by simp) b hm hbs)
   rw[ax,aj,dQ (i:=0 + 0) [v',N .i64 (fl.2:Int)] hb2 (by simp) fb2.one.2.1 fb2.one.1 rfl]
   have k3:ae [b] M2 (M2.put b (.row [v',N .i64 (fl.2:Int)] false TF 0)):=(ae.refl _ _).put _ (.inr (by simp))
   have k23:ae (b :: av v) M1 (M2.put b (.row [v',N .i64 (fl.2:Int)] false TF 0)):=(k2.mono (fun c hc=>List.mem_cons_of_mem _ hc)).put _ (.inr (by simp))
   have hin:∀ t:Tag,t≠.bytes f→t≠.file f→∀ c∈b :: av v,own c≠some t:=by
    intro t h1 h2 c hc
    rcases List.mem_cons.1 hc with rfl | hc
    ·rw[hbs]; simpa using fun e=>h2 e.symm
    ·exact hbt t h1 c hc
   have Jk:gN TF TU own' (M2.put b (.row [v',N .i64 (fl.2:Int)] false TF 0)) fbs f b v' (fl.1++ys,fl.2):=by
    refine⟨hat.at_,Nat.lt_of_lt_of_le hat.lt k23.next,hsome hbs (by simp),aX _,fb2.keep k3 (fun c hc hm=>?_),by have:=hat.le; simp only[List.length_append]; omega,fun c hc=>if_pos hc⟩
    rw[List.mem_singleton] at hm
    have:own' c=some (.bytes f):=if_pos hc
    rw[hm,hsome hbs (by simp)] at this; cases this
   have f3:=hd1.files.set (own':=own') hfi Jk k23 (fun c hc j hj=>⟨hin _ (by simp) (by simpa using hj) c hc,hin _ (by simpa using hj) (by simp) c hc⟩)
    (fun c j hj h=>by rcases h with h | h <;> rw[hsome h (by first | (simp; done) | simpa using hj),h])
   have r3:=k23.bK hd1.row hd1.Bl (fun hm=>hin .disk (by simp) (by simp) _ hm hd.od)
   have n3:=hd1.names.step (own':=own') k23 (hin _ (by simp) (by simp)) (fun c h=>hsome h (by simp))
   have s3:=hd1.safe.step (own':=own') k23 (hin _ (by simp) (by simp)) (fun c h=>hsome h (by simp))
   have c3:=hd1.chg.step (own':=own') k23 (hin _ (by simp) (by simp)) (fun c h=>hsome h (by simp))
   have hlt3:∀ c,own' c≠none→c<(M2.put b (.row [v',N .i64 (fl.2:Int)] false TF 0)).next:=hlt2
   have t3:Tr own M1 own' (M2.put b (.row [v',N .i64 (fl.2:Int)] false TF 0)):=by
    refine⟨_,k23,fun c hc=>?_,fun c hc ho=>?_⟩
    ·rcases List.mem_cons.1 hc with rfl | hc
     ·rw[hbs]; simp
     ·rw[hat.blk c hc]; simp
    ·show(if c∈av v' then some (Tag.bytes f) else own c)=none
     rw[if_neg,ho]
     intro hm
     rcases hv with rfl | hv
     ·rw[hat.blk c hm] at ho; cases ho
     ·have:=hv c hm; omega
   generalize M2.put b (.row [v',N .i64 (fl.2:Int)] false TF 0)=M3 at *
   rw[ax,aj]
   refine ha (o:=0 + 4) r3 rfl ?_
   have hd3:bL TD TF TU TC own' M3 db { s with files:=s.files.set f (fl.1++ys,fl.2) } fbs nm sm cv:=⟨hlt3,hsome hd.od (by simp),r3,n3,s3,c3,f3⟩
   exact hQ own' _ ⟨_,_,_,_,hd3.row' (s' := { s with files:=s.files.set f (fl.1++ys,fl.2),app:=vR (s.app + 1) }) _ rfl n3 s3 c3 f3⟩ (((Tr.keep k1).trans t3).trans (lc _ (by rw[hd3.od]; simp)))
def Cu (TD TF TU TC:Nat) (c:aA) : Prop:=∀ {own:aP} {M:RM} {db:Nat} {s:aT} {Q:af},bH TD TF TU TC own M db s→tot s.files s.dir<4611686018427387904 →
 (∀ M',ae [] M M'→Q (.agg [N .i64 (s.dir.length:Int),N .i64 (tot s.files s.dir:Int),N .i64 s.app,N .i64 s.syn]) M')→c [.ptr db 0] M Q
theorem Da {TS:Nat} {ct cl:aA} (ht:sJ TD TF TU TC ct) (hl:uk cl) : Cu TD TF TU TC fun args M Q=>∃ a0,args=[a0]∧gB TS ct cl a0 M Q:=by
 intro own M db s Q hd htot hQ
 obtain⟨fbs,nm,sm,cv,hd⟩:=hd
 refine⟨_,rfl, ?_⟩
 unfold gB
 rw[cz]
 have k1:ae [] M (M.push (.row [(N .i64 0),(N .i64 0),(N .i64 0),(N .i64 0)] false TS 0)):=(ae.refl _ _).push _
 have n1:(M.push (.row [(N .i64 0),(N .i64 0),(N .i64 0),(N .i64 0)] false TS 0)).next=M.next + 1:=aJ _
 have h1:(M.push (.row [(N .i64 0),(N .i64 0),(N .i64 0),(N .i64 0)] false TS 0)).heap M.next=some (.row [(N .i64 0),(N .i64 0),(N .i64 0),(N .i64 0)] false TS 0):=RM.bA _
 generalize M.push (.row [(N .i64 0),(N .i64 0),(N .i64 0),(N .i64 0)] false TS 0)=M1 at *
 have hd1:=hd.keep k1
 rw[ax,aj,aC (i:=0 + 1) hd1.row rfl,Ce hd1.names,ax,aj,ax,aj]
 refine ht ⟨_,_,_,_,hd1⟩ htot fun M2 k2=>?_
 have hd2:=hd1.keep k2
 refine hl (o:=0 + 4) hd2.row rfl ?_
 refine hl (o:=0 + 5) hd2.row rfl ?_
 rw[iP]
 refine⟨_,rfl, ?_⟩
 have h2:=k2.bK h1 (by omega) (by simp)
 rw[oC (n:=4) h2 rfl rfl rfl,oF (n:=4) (aX _) rfl]
 exact hQ _ ((k1.trans k2).put _ (.inl (Nat.le_refl _)))
end
def iZ:Nm→Nm→Bool
 | [],_=>true
 | _ :: _,[]=>false
 | a :: x,b :: y=>decide (a.toNat<b.toNat) || (decide (a.toNat=b.toNat) && iZ x y)
def rW (x:Nm) : List Nm→List Nm
 | []=>[x]
 | y :: l=>if iZ x y then x :: y :: l else y :: rW x l
def fo:List Nm→List Nm
 | []=>[]
 | x :: l=>rW x (fo l)
theorem pE (x:Nm) : ∀ l,(rW x l).Perm (x :: l)
 | []=>.refl _
 | y :: l=>by
   unfold rW
   split
   ·exact .refl _
   ·exact((pE x l).cons y).trans (.swap _ _ _)
theorem iU:∀ l,(fo l).Perm l
 | []=>.refl _
 | x :: l=>(pE x _).trans ((iU l).cons x)
def aG (d:Dir) : List Nm:=d.map (·.1)
theorem Bh {n:Nm} : ∀ {d:Dir},n∈aG d→∃ f,iN d n=some f
 | [],h=>by cases h
 | e :: d,h=>by
   unfold iN
   by_cases hn:n=e.1
   ·exact⟨_,if_pos hn⟩
   ·rw[if_neg hn]
    exact Bh ((List.mem_cons.1 h).resolve_left hn)
def yX (fs:List iY) (f:Nat) (p:List Int) (i:Nat) : List iY :=
 let fl:=fs[f]?.getD ([],0)
 let k:=fl.2 + bV p i (fl.1.length - fl.2 + 1)
 fs.set f (fl.1.take k,k)
def kg (d:Dir) (p:List Int) : List Nm→Nat→List iY→List iY
 | [],_,fs=>fs
 | n :: ns,i,fs=>kg d p ns (i + 1) (match iN d n with | some f=>yX fs f p i | none=>fs)
def bC (s:aT) (p:List Int) : Dir:=(s.chg.take (bV p 0 (s.chg.length + 1))).foldl jq s.iq
def gH (s:aT) (p:List Int) : aT :=
 { s with files:=kg (bC s p) p (fo (aG (bC s p))) 1 s.files,dir:=bC s p,iq:=bC s p,chg:=[] }
theorem oK {p:List Int} {i n:Nat} (hn:1≤n) : bV p i n<n:=by
 unfold bV
 split
 ·omega
 ·split
  ·omega
  ·exact Nat.mod_lt _ hn
section
variable {M:RM} {TU:Nat}
theorem Gr {v:AV} {xs:List UInt8} (h:FB M TU v xs) {k:Nat} (hk:k≤xs.length) :
  ∃ v',jh 1 v none (some (N .i64 (k:Int))) (some (N .i64 (k:Int)))=some v'∧FB M TU v' (xs.take k)∧∀ c∈av v',c∈av v:=by
 have hb:∀ d,bnd d (some (N .i64 (k:Int)))=some k:=fun d=>by simp[bnd]
 have hb0:bnd 0 none=some 0:=rfl
 have ex:∀ {b o:Nat},b<M.next→M.loads b o k=some (BY.row (xs.take k)) →
   ∃ v',(if k=0 then some (AV.slc b o 0 (.ex 0)) else some (.slc b (o + 0 * 1) (k - 0) (.ex (k - 0))))=some v'∧FB M TU v' (xs.take k)∧∀ c∈av v',c∈[b]:=by
  intro b o hl hh
  by_cases h0:k=0
  ·subst h0
   rw[if_pos rfl]
   exact⟨_,rfl,.ex b o 0 _ hl hh (by simp),by simp[av]⟩
  ·rw[if_neg h0,Nat.zero_mul,Nat.add_zero,Nat.sub_zero]
   exact⟨_,rfl,.ex b o k _ hl hh (by rw[List.length_take]; omega),by simp[av]⟩
 cases h with
 | nil =>
   have:k=0:=by simpa using hk
   subst this
   exact⟨bP,rfl,.nil,fun c hc=>hc⟩
 | op b xs hl hh =>
   have hld:M.loads b 0 k=some (BY.row (xs.take k)):=by
    have e:=BY.gm xs
    have:BY.size=1:=rfl
    rw[RM.iJ hh (by rw[e,this]; omega),List.drop_zero]
    have:=BY.nZ xs k
    rw[show k * BY.size=k from Nat.mul_one k] at this
    rw[this]
   obtain⟨v',h1,h2,h3⟩:=ex hl hld
   refine⟨v', ?_,h2,fun c hc=>by simpa [av] using h3 c hc⟩
   simp only[jh,hb,hb0,Nat.zero_le,Nat.le_refl,true_and]
   rw[if_pos hk]; exact h1
 | ex b o n xs hl hh h2 =>
   subst h2
   have hld:M.loads b o k=some (BY.row (xs.take k)):=by
    have:=BZ hh k hk
    have e:=BY.nZ xs k
    rw[show k * BY.size=k from Nat.mul_one k] at e
    rw[this,e]
   obtain⟨v',h1,h2,h3⟩:=ex hl hld
   refine⟨v', ?_,h2,fun c hc=>by simpa [av] using h3 c hc⟩
   simp only[jh,hb,hb0,Nat.zero_le,Nat.le_refl,true_and]
   rw[if_pos hk]; exact h1
end
theorem Hq {α:Type} {E:Enc α} {M:RM} {base T:Nat} {v:AV} {xs:List α} (h:Ow E M base T v xs) {k:Nat} (hk:k≤xs.length) :
  ∃ v',jh E.size v none (some (N .i64 (k:Int))) none=some v'∧Sl E M v' (xs.take k)∧∀ c∈av v',c∈av v:=by
 have hb:∀ d,bnd d (some (N .i64 (k:Int)))=some k:=fun d=>by simp[bnd]
 have hb0:bnd 0 none=some 0:=rfl
 have hs:Sl E M v xs:=Own.o7 h
 unfold Ow at h
 generalize hl:xs.length=n at h hk
 generalize hr:E.row xs=cs at h
 cases h with
 | nil =>
   have:k=0:=by omega
   subst this
   exact⟨bP,rfl,by rw[List.take_zero]; exact .nil,fun c hc=>hc⟩
 | ex0 b o h1 h2 h3 =>
   have:k=0:=by omega
   subst this
   refine⟨.slc b o 0 (.ex 0),by simp[jh,hb0,hb,bnd], ?_,fun c hc=>hc⟩
   obtain⟨l,h4,h5⟩:=h3
   rw[List.take_zero]
   exact .slc b o 0 _ [] h2 (by rw[Nat.zero_mul]; exact kJ h4 h5)
 | op b n cs h1 h2 h3 h4 =>
   subst hl hr
   have e:jh E.size (.slc b 0 xs.length (.op E.size)) none (some (N .i64 (k:Int))) none=if xs.length=0 then some (.emp b) else some (.slc b 0 k (.op E.size)):=by
    simp only[jh,hb,hb0,Nat.zero_le,true_and,and_true,Nat.zero_mul,Nat.add_zero,Nat.sub_zero,if_pos hk,Nat.le_zero]
   rw[e]
   by_cases h0:xs.length=0
   ·rw[if_pos h0]
    refine⟨_,rfl, ?_,fun c hc=>?_⟩
    ·have:xs=[]:=List.length_eq_zero_iff.1 h0
     rw[this,List.take_nil]
     exact .emp b
    ·simp[av] at hc
   ·rw[if_neg h0]
    refine⟨_,rfl, ?_,fun c hc=>hc⟩
    have hln:(xs.take k).length=k:=by rw[List.length_take]; omega
    show bu M E.size (.slc b 0 k (.op E.size)) (E.row (xs.take k)) (xs.take k).length
    rw[hln]
    refine .slc _ _ _ _ _ h2 ?_
    have:=Nat.mul_le_mul_right E.size hk
    rw[RM.iJ h3 (by rw[h4]; omega),List.drop_zero,E.nZ]
theorem xQ (n:Nm) : ∀ d:Dir,(iH d n).length≤d.length
 | []=>Nat.le_refl _
 | e :: d=>by
   have:=xQ n d
   unfold iH
   split <;> simp <;> omega
theorem yQ (n:Nm) (f:Nat) : ∀ d:Dir,(jl d n f).length≤d.length + 1
 | []=>Nat.le_refl _
 | e :: d=>by
   have:=yQ n f d
   unfold jl
   split <;> simp <;> omega
theorem FW (d:Dir) (c:jY) : (jq d c).length≤d.length + 1:=by
 have h1:(if c.2.2≠[] then iH d c.2.2 else d).length≤d.length:=by
  split
  ·exact xQ _ _
  ·exact Nat.le_refl _
 unfold jq
 dsimp only
 cases c.2.1 with
 | none=>exact Nat.le_succ_of_le h1
 | some f=>exact Nat.le_trans (yQ _ _ _) (Nat.succ_le_succ h1)
theorem xX:∀ (cs:List jY) (d:Dir),(cs.foldl jq d).length≤d.length + cs.length
 | [],d=>Nat.le_refl _
 | c :: cs,d=>by
   have:=xX cs (jq d c)
   have:=FW d c
   simp only[List.foldl_cons,List.length_cons]; omega
theorem rV (n:Nm) : ∀ d:Dir,(aG (iH d n)).Sublist (aG d)
 | []=>.slnil
 | e :: d=>by
   unfold iH
   split
   ·exact .cons _ (List.Sublist.refl _)
   ·exact(rV n d).cons_cons _
theorem nJ (n:Nm) (f:Nat) : ∀ d:Dir,n∈aG d∧aG (jl d n f)=aG d∨n ∉ aG d∧aG (jl d n f)=aG d++[n]
 | []=>.inr ⟨by simp[aG],rfl⟩
 | e :: d=>by
   unfold jl
   by_cases h:n=e.1
   ·rw[if_pos h]
    exact .inl ⟨by simp[aG,h],by simp[aG,h]⟩
   ·rw[if_neg h]
    rcases nJ n f d with⟨h1,h2⟩ | ⟨h1,h2⟩
    ·refine .inl ⟨List.mem_cons_of_mem _ h1, ?_⟩
     simp only[aG,List.map_cons] at h2 ⊢; rw[h2]
    ·refine .inr ⟨?_, ?_⟩
     ·simp only[aG,List.map_cons,List.mem_cons,not_or] at h1 ⊢; exact⟨h,h1⟩
     ·simp only[aG,List.map_cons,List.cons_append] at h2 ⊢; rw[h2]
theorem BD {d:Dir} (h:(aG d).Nodup) (n:Nm) (f:Nat) : (aG (jl d n f)).Nodup:=by
 rcases nJ n f d with⟨h1,h2⟩ | ⟨h1,h2⟩
 ·rw[h2]; exact h
 ·rw[h2,List.nodup_append]
  refine⟨h,by simp,fun a ha b hb=>?_⟩
  rw[List.mem_singleton] at hb; subst hb
  exact fun e=>h1 (e▸ha)
theorem Dc {d:Dir} (h:(aG d).Nodup) (c:jY) : (aG (jq d c)).Nodup:=by
 have h1:(aG (if c.2.2≠[] then iH d c.2.2 else d)).Nodup:=by
  split
  ·exact h.sublist (rV _ _)
  ·exact h
 unfold jq
 dsimp only
 cases c.2.1 with
 | none=>exact h1
 | some f=>exact BD h1 _ _
def jf (d:Dir) : Prop:=(aG d).Nodup∧∀ n∈aG d,n.length≤64
theorem Ei {n:Nm} {f:Nat} {d:Dir} : ∀ x∈aG (jl d n f),x∈aG d∨x=n:=by
 intro x hx
 rcases nJ n f d with⟨_,h⟩ | ⟨_,h⟩
 ·rw[h] at hx; exact .inl hx
 ·rw[h] at hx; simpa using hx
theorem Gp {d:Dir} (h:jf d) {c:jY} (hc:c.1.length≤64) : jf (jq d c):=by
 refine⟨Dc h.1 c, ?_⟩
 have h1:∀ n∈aG (if c.2.2≠[] then iH d c.2.2 else d),n.length≤64:=by
  split
  ·exact fun n hn=>h.2 n ((rV _ _).subset hn)
  ·exact h.2
 unfold jq
 dsimp only
 cases c.2.1 with
 | none=>exact h1
 | some f =>
   intro n hn
   rcases Ei n hn with hn | rfl
   ·exact h1 n hn
   ·exact hc
theorem Bu:∀ (cs:List jY) {d:Dir},jf d→(∀ c∈cs,c.1.length≤64)→jf (cs.foldl jq d)
 | [],_,h,_=>h
 | c :: cs,_,h,hc=>Bu cs (Gp h (hc c (List.mem_cons_self ..))) fun x hx=>hc x (List.mem_cons_of_mem _ hx)
section
variable {TD TF TU TC:Nat}
def sI (TD TF TU TC TS:Nat) (c:aA) : Prop:=∀ {own:aP} {M:RM} {db:Nat} {s:aT} {Q:af},bH TD TF TU TC own M db s→s.dir.length≤4000000000→jf s.dir →
 (∀ v M',Ow Fg M' M.next TS v (fo (aG s.dir))→ae [] M M'→Q v M')→c [.ptr db 0] M Q
def tC (TD TF TU TC:Nat) (c:aA) : Prop:=∀ {own:aP} {M:RM} {db:Nat} {s:aT} {v:AV} {p:List Int} {Q:af},bH TD TF TU TC own M db s→Sl INT M v p→(∀ b∈av v,own b=none) →
 s.chg.length≤1000000000→s.iq.length≤1000000000→jf s.iq→(∀ c∈s.chg,c.1.length≤64)→(∀ f∈s.files,f.1.length≤140737488355328) →
 (∀ own' M',bH TD TF TU TC own' M' db (gH s p)→Tr own M own' M'→Q (.tup []) M')→c [.ptr db 0,v] M Q
theorem BV {TS:Nat} {cp cdo cm cl:aA} (hp:BL cp) (hdo:Fw cdo) (hm:qj cm) (hl:sI TD TF TU TC TS cl) : tC TD TF TU TC fun args M Q=>∃ a0 a1,args=[a0,a1]∧fK cp TC cdo cm cl a0 a1 M Q:=by
 intro own M db s v p Q hd hv hvo hc1 hc2 hnd hcw hfl hQ
 obtain⟨fbs,nm,sm,cv,hd⟩:=hd
 refine⟨_,_,rfl, ?_⟩
 unfold fK
 have hvl:∀ b∈av v,b<M.next:=bu.lt hv
 have ho:∀ {b c:Nat} {t u:Tag},own b=some t→own c=some u→t≠u→b≠c:=fun h1 h2 h3 e=>by rw[e,h2] at h1; cases h1; exact h3 rfl
 rw[ax,aj,aC (i:=0 + 2) hd.row rfl,ax,aj,dQ (i:=0 + 1) [N .i64 s.bB,.map sm,.map sm,cv,N .i64 s.app,N .i64 s.syn] hd.row (by simp) rfl rfl rfl]
 have k1:ae [db] M (M.put db (.row [N .i64 s.bB,.map sm,.map sm,cv,N .i64 s.app,N .i64 s.syn] false TD 0)):=(ae.refl _ _).put _ (.inr (by simp))
 have r1:(M.put db (.row [N .i64 s.bB,.map sm,.map sm,cv,N .i64 s.app,N .i64 s.syn] false TD 0)).heap db=some (.row [N .i64 s.bB,.map sm,.map sm,cv,N .i64 s.app,N .i64 s.syn] false TD 0):=aX _
 have s1:=hd.safe.step k1 (iW hd.od (by simp)) (fun _ h=>h)
 have c1:=hd.chg.step k1 (iW hd.od (by simp)) (fun _ h=>h)
 have f1:=hd.files.step (own':=own) k1 (fun b hb i=>⟨iW hd.od (by simp) b hb,iW hd.od (by simp) b hb⟩) (fun _ _ _=>rfl)
 have hdl:=hd.Bl
 have n1:(M.put db (.row [N .i64 s.bB,.map sm,.map sm,cv,N .i64 s.app,N .i64 s.syn] false TD 0)).next=M.next:=rfl
 have v1:Sl INT (M.put db (.row [N .i64 s.bB,.map sm,.map sm,cv,N .i64 s.app,N .i64 s.syn] false TD 0)) v p:=bu.keep hv k1 (fun b hb hm=>by rw[List.mem_singleton] at hm; have:=hvo b hb; rw[hm,hd.od] at this; cases this)
 have hlt:∀ b,own b≠none→b<M.next:=hd.lt
 generalize M.put db (.row [N .i64 s.bB,.map sm,.map sm,cv,N .i64 s.app,N .i64 s.syn] false TD 0)=M1 at *
 have hlen:(s.chg.map (bY fbs)).length=s.chg.length:=List.length_map _
 rw[ax,aj,aC (i:=0 + 3) r1 rfl,ax,aj,aC (i:=0 + 3) r1 rfl,bu.len (Own.o7 c1.ow),hlen,add1 (by omega),show(N .i64 (0:Int))=N .i64 ((0:Nat) : Int) from rfl]
 refine hp v1 (by omega) ?_
 have hk:bV p 0 (s.chg.length + 1)<s.chg.length + 1:=oK (by omega)
 have hD:bC s p=(s.chg.take (bV p 0 (s.chg.length + 1))).foldl jq s.iq:=rfl
 generalize hkk:bV p 0 (s.chg.length + 1)=k at *
 rw[aC (i:=0 + 3) r1 rfl]
 refine⟨rfl, ?_⟩
 obtain⟨w,e1,sw,hw⟩:=Hq c1.ow (k:=k) (by rw[hlen]; omega)
 rw[show jh 3 cv none (some (N .i64 (k:Int))) none=some w from e1,vQ]
 have hwl:((s.chg.map (bY fbs)).take k).length=k:=by rw[List.length_take,hlen]; omega
 rw[bu.len sw,hwl]
 have hwo:∀ b∈av w,own b=some .chg:=fun b hb=>c1.blk b (hw b hb)
 refine pR (fun z ys M'=>∃ i:Nat,z=k - i∧ys=[N .i64 (i:Int)]∧i≤k∧ae [sm] M1 M'∧MapAt own M' fbs sm ((s.chg.take i).foldl jq s.iq) .safe) k ⟨0,rfl,rfl,Nat.zero_le _,ae.refl _ _,s1⟩ ?_
 rintro next z ys M2 hnext ⟨i,rfl,rfl,hik,k2,m2⟩
 dsimp only[dR]
 rw[Gm]
 have n2:=k2.next
 have hst:=hd.safe.tg
 have r2:=k2.bK r1 (by omega) (by simp; exact ho hd.od hst (by simp))
 refine jN (fun hlt2=>?_) (fun hge=>?_)
 ·have hlt2:i<k:=of_decide_eq_true hlt2
  have sw2:Sl dw M2 w ((s.chg.map (bY fbs)).take k):=bu.keep sw k2 (fun b hb hm=>by rw[List.mem_singleton] at hm; have:=hwo b hb; rw[hm,hst] at this; cases this)
  obtain⟨b,o,_,_,hidx,hld⟩:=Sl.at sw2 (i:=i) 3 (i:Int) (by omega)
  have hi:i<s.chg.length:=by omega
  have hget:((s.chg.map (bY fbs)).take k)[i]=bY fbs s.chg[i]:=by
   rw[List.getElem_take,List.getElem_map]
  rw[hget] at hld
  rw[hidx,wE,hld]
  simp only[Option.some.injEq,exists_eq_left']
  rw[cz,oC (n:=3) (x:=.agg (dw.cells (bY fbs s.chg[i]))) (l:=[(St []),pU,(St [])]) (RM.bA _) (dw.len _) rfl (dw.one _)]
  have k3:ae [sm] M2 ((M2.push (.row [(St []),pU,(St [])] false TC 0)).put M2.next (.row (AV.agg (dw.cells (bY fbs s.chg[i]))).cells false TC 0)):=((ae.refl _ _).push _).new _ (Nat.le_refl _)
  have k3' : ae [] M2 ((M2.push (.row [(St []),pU,(St [])] false TC 0)).put M2.next (.row (AV.agg (dw.cells (bY fbs s.chg[i]))).cells false TC 0)):=((ae.refl _ _).push _).new _ (Nat.le_refl _)
  have h3:((M2.push (.row [(St []),pU,(St [])] false TC 0)).put M2.next (.row (AV.agg (dw.cells (bY fbs s.chg[i]))).cells false TC 0)).heap M2.next=some (.row (dw.cells (bY fbs s.chg[i])) false TC 0):=aX _
  generalize (M2.push (.row [(St []),pU,(St [])] false TC 0)).put M2.next (.row (AV.agg (dw.cells (bY fbs s.chg[i]))).cells false TC 0)=M3 at *
  rw[oF (n:=3) h3 (dw.len _),ax,aj,aC (i:=0 + 1) (k3'.bK r2 (by omega) (by simp)) rfl]
  refine hdo (m2.step k3' (by simp) (fun _ h=>h)) (c1.wf _ (List.getElem_mem hi)) fun M4 m4 k4=>?_
  rw[add1 (by omega)]
  refine hnext _ _ _ (by omega) ⟨i + 1,rfl,rfl,by omega,(k2.trans k3).trans k4, ?_⟩
  rw[List.take_succ_eq_append_getElem hi,List.foldl_append]
  exact m4
 ·have he:i=k:=by
   have:¬ i<k:=of_decide_eq_false hge
   omega
  subst he
  rw[← hD] at m2
  have cds:=xX (s.chg.take i) s.iq
  rw[← hD,List.length_take] at cds
  have cdn:=Bu (s.chg.take i) hnd (fun c hc=>hcw c (List.mem_of_mem_take hc))
  rw[← hD] at cdn
  rw[ax,aj,aC (i:=0 + 1) r2 rfl]
  obtain⟨es,cl',hh2,he2⟩:=m2.heap
  refine hm hh2 ?_
  have hn2:own M2.next=none:=by
   rcases hq:own M2.next with _ | t
   ·rfl
   ·have:=hlt M2.next (by rw[hq]; simp); omega
  have k3:ae [] M2 (M2.push (.map es cl')):=(ae.refl _ _).push _
  have h3:(M2.push (.map es cl')).heap M2.next=some (.map es cl'):=RM.bA _
  have n3:(M2.push (.map es cl')).next=M2.next + 1:=aJ _
  have r3:=k3.bK r2 (by omega) (by simp)
  generalize M2.push (.map es cl')=M3 at *
  rw[ax,aj,dQ (i:=0 + 2) [N .i64 s.bB,.map sm,.map M2.next,cv,N .i64 s.app,N .i64 s.syn] r3 (by simp) rfl rfl rfl,
   ax,aj,dQ (i:=0 + 3) [N .i64 s.bB,.map sm,.map M2.next,bP,N .i64 s.app,N .i64 s.syn] (aX _) (by simp) rfl rfl rfl]
  have k5:ae [db] M3 ((M3.put db (.row [N .i64 s.bB,.map sm,.map M2.next,cv,N .i64 s.app,N .i64 s.syn] false TD 0)).put db (.row [N .i64 s.bB,.map sm,.map M2.next,bP,N .i64 s.app,N .i64 s.syn] false TD 0)):=((ae.refl _ _).put _ (.inr (by simp))).put _ (.inr (by simp))
  have r5:((M3.put db (.row [N .i64 s.bB,.map sm,.map M2.next,cv,N .i64 s.app,N .i64 s.syn] false TD 0)).put db (.row [N .i64 s.bB,.map sm,.map M2.next,bP,N .i64 s.app,N .i64 s.syn] false TD 0)).heap db=some (.row [N .i64 s.bB,.map sm,.map M2.next,bP,N .i64 s.app,N .i64 s.syn] false TD 0):=aX _
  generalize (M3.put db (.row [N .i64 s.bB,.map sm,.map M2.next,cv,N .i64 s.app,N .i64 s.syn] false TD 0)).put db (.row [N .i64 s.bB,.map sm,.map M2.next,bP,N .i64 s.app,N .i64 s.syn] false TD 0)=M5 at *
  have n5:=k5.next
  have k25:ae [db] M2 M5:=(k3.mono (by simp)).trans k5
  have k15:ae [db,sm] M1 M5:=(k2.mono (by simp)).trans (k25.mono (by simp))
  let own' : aP:=upd (upd own sm .names) M2.next .safe
  have hsm:sm<M.next:=hlt sm (by rw[hst]; simp)
  have osm:own' sm=some .names:=by
   show upd (upd own sm .names) M2.next .safe sm=_
   rw[upd_ne (by omega),lg]
  have onw:own' M2.next=some .safe:=lg
  have hsame:∀ {b:Nat} {t:Tag},own b=some t→t≠.safe→own' b=some t:=by
   intro b t hb ht
   show upd (upd own sm .names) M2.next .safe b=_
   rw[upd_ne (fun e=>by rw[e,hn2] at hb; cases hb),upd_ne (fun e=>by rw[e,hst] at hb; cases hb; exact ht rfl),hb]
  have hnone:∀ b,b<M.next→own b=none→own' b=none:=by
   intro b hb ho'
   show upd (upd own sm .names) M2.next .safe b=_
   rw[upd_ne (by omega),upd_ne (fun e=>by rw[e,hst] at ho'; cases ho'),ho']
  have od':=hsame hd.od (by simp)
  have hin:∀ t:Tag,t≠.disk→t≠.safe→∀ b∈[db,sm],own b≠some t:=by
   intro t h1 h2 b hb
   simp only[List.mem_cons,List.not_mem_nil,or_false] at hb
   rcases hb with rfl | rfl
   ·rw[hd.od]; simpa using fun e=>h1 e.symm
   ·rw[hst]; simpa using fun e=>h2 e.symm
  have f5:=f1.step (own':=own') k15 (fun b hb i=>⟨hin _ (by simp) (by simp) b hb,hin _ (by simp) (by simp) b hb⟩) (fun b i h=>by rcases h with h | h <;> rw[hsame h (by simp),h])
  have m5:MapAt own' M5 fbs sm (bC s p) .names:=⟨osm,by omega,es,cl',k25.bK hh2 (by omega) (by simp; exact fun e=>ho hd.od hst (by simp) e.symm),he2⟩
  have s5:MapAt own' M5 fbs M2.next (bC s p) .safe:=⟨onw,by omega,es,cl',k5.bK h3 (by omega) (by simp; omega),he2⟩
  have Gl:∀ b,own' b≠none→b<M5.next:=by
   intro b hb
   rcases Nat.lt_or_ge b M5.next with h | h
   ·exact h
   ·exfalso
    apply hb
    show upd (upd own sm .names) M2.next .safe b=_
    rw[upd_ne (by omega),upd_ne (by omega)]
    rcases hq:own b with _ | t
    ·rfl
    ·have:=hlt b (by rw[hq]; simp); omega
  have hd5:bL TD TF TU TC own' M5 db { s with dir:=bC s p,iq:=bC s p,chg:=[] } fbs sm M2.next bP:=⟨Gl,od',r5,m5,s5,.nil,f5⟩
  have t5:Tr own M own' M5:=by
   refine⟨[db,sm],(k1.mono (by simp)).trans k15, ?_,hnone⟩
   intro b hb
   simp only[List.mem_cons,List.not_mem_nil,or_false] at hb
   rcases hb with rfl | rfl
   ·rw[hd.od]; simp
   ·rw[hst]; simp
  have v5:Sl INT M5 v p:=bu.keep v1 k15 (fun b hb hm=>by
   have:=hvo b hb
   simp only[List.mem_cons,List.not_mem_nil,or_false] at hm
   rcases hm with rfl | rfl
   ·rw[hd.od] at this; cases this
   ·rw[hst] at this; cases this)
  have I7:∀ b∈av v,own' b=none:=fun b hb=>hnone b (hvl b hb) (hvo b hb)
  refine hl (s := { s with dir:=bC s p,iq:=bC s p,chg:=[] }) ⟨_,_,_,_,hd5⟩ (by show(bC s p).length≤_; omega) cdn fun lv M6 lo k6=>?_
  dsimp only at lo
  have hd6:=hd5.keep k6
  have v6:Sl INT M6 v p:=bu.keep v5 k6 (by simp)
  have hmem:∀ n∈fo (aG (bC s p)),∃ f,iN (bC s p) n=some f:=fun n hn=>Bh ((iU _).mem_iff.1 hn)
  have hCF:gH s p = { s with files:=kg (bC s p) p (fo (aG (bC s p))) 1 s.files,dir:=bC s p,iq:=bC s p,chg:=[] } := rfl
  have hllen:(fo (aG (bC s p))).length=(bC s p).length:=by rw[(iU _).length_eq,aG,List.length_map]
  generalize hCL:kg (bC s p) p (fo (aG (bC s p))) 1 s.files=fin at *
  generalize hll:fo (aG (bC s p))=l at *
  generalize bC s p=d1 at *
  rw[bu.len (Own.o7 lo)]
  have hfo:∀ b∈fbs,∃ i,own' b=some (.file i):=by
   intro b hb
   obtain⟨i,hi⟩:=List.getElem?_of_mem hb
   obtain⟨f,w,_,hat⟩:=f5.at hi
   exact⟨i,hat.tg⟩
  have hft:∀ t:Tag,(∀ i,t≠.file i)→∀ b∈fbs,own' b≠some t:=by
   intro t ht b hb
   obtain⟨i,hi⟩:=hfo b hb
   rw[hi]; simpa using fun e=>ht i e.symm
  have hlb:=Own.blk lo
  refine pR (fun z ys M'=>∃ (i:Nat) (fs:List iY),z=l.length - i∧ys=[N .i64 (i:Int)]∧i≤l.length∧ae fbs M6 M'∧fB TF TU own' M' fbs fs∧(∀ f∈fs,f.1.length≤140737488355328)∧kg d1 p (l.drop i) (i + 1) fs=fin) l.length
   ⟨0,s.files,rfl,rfl,Nat.zero_le _,ae.refl _ _,hd6.files,hfl,hCL⟩ ?_
  rintro next z ys M7 hnext ⟨i,fs,rfl,rfl,hil,k7,f7,Gi,hcl⟩
  dsimp only[dR]
  rw[Gm]
  have r7:=k7.bK hd6.row hd6.Bl (fun hm=>hft .disk (by simp) _ hm hd6.od)
  have m7:=hd6.names.step k7 (hft _ (by simp)) (fun _ h=>h)
  refine jN (fun hlt3=>?_) (fun hge=>?_)
  ·have hlt3:i<l.length:=of_decide_eq_true hlt3
   have lo7:Sl Fg M7 lv l:=bu.keep (Own.o7 lo) k7 (fun b hb hm=>by
    obtain⟨j,hj⟩:=hfo b hm
    have:=(hlb b hb).1
    have:=Gl b (by rw[hj]; simp)
    omega)
   obtain⟨lb,lof,_,_,hidx,hcell⟩:=Sl.Gj lo7 (i:=i) (i:Int) hlt3
   rw[hidx,mo,hcell (St l[i]) rfl]
   simp only[Option.some.injEq,exists_eq_left']
   obtain⟨f,hf⟩:=hmem l[i] (List.getElem_mem hlt3)
   rw[List.drop_eq_getElem_cons hlt3] at hcl
   unfold kg at hcl
   rw[hf] at hcl
   dsimp only at hcl
   rw[ax,aj,aC (i:=0 + 1) r7 rfl]
   refine fV m7 (fun hn=>by rw[hf] at hn; cases hn) (fun f' b hf' hb=>?_)
   rw[hf] at hf'
   cases hf'
   obtain⟨fl,w7,ES,hat⟩:=f7.at hb
   have hfi:=(List.getElem?_eq_some_iff.1 ES).1
   have hfln:=Gi fl (List.mem_of_getElem? ES)
   have hle:=hat.le
   have hpk:bV p (i + 1) (fl.1.length - fl.2 + 1)<fl.1.length - fl.2 + 1:=oK (by omega)
   have hcf:yX fs f p (i + 1)=fs.set f (fl.1.take (fl.2 + bV p (i + 1) (fl.1.length - fl.2 + 1)),fl.2 + bV p (i + 1) (fl.1.length - fl.2 + 1)):=by
    unfold yX; rw[ES]; rfl
   rw[hcf] at hcl
   rw[ax,aj,aC (i:=0 + 1) hat.heap rfl,add1 (by omega),ax,aj,aC (i:=0 + 0) hat.heap rfl,bu.len hat.fb.sl,ax,aj,aC (i:=0 + 1) hat.heap rfl,Jw hle (by omega),add1 (by omega)]
   have v7:Sl INT M7 v p:=bu.keep v6 k7 (fun b hb hm=>by
    obtain⟨j,hj⟩:=hfo b hm
    rw[I7 b hb] at hj; cases hj)
   refine hp v7 (by omega) ?_
   generalize bV p (i + 1) (fl.1.length - fl.2 + 1)=pk at *
   rw[aC (i:=0 + 1) hat.heap rfl]
   refine⟨rfl, ?_⟩
   have htb:=hat.tg
   rw[addN (by omega),ax,aj,dQ (i:=0 + 1) [w7,N .i64 ((fl.2 + pk:Nat) : Int)] hat.heap (by simp) rfl rfl rfl]
   have k8:ae [b] M7 (M7.put b (.row [w7,N .i64 ((fl.2 + pk:Nat) : Int)] false TF 0)):=(ae.refl _ _).put _ (.inr (by simp))
   have h8:(M7.put b (.row [w7,N .i64 ((fl.2 + pk:Nat) : Int)] false TF 0)).heap b=some (.row [w7,N .i64 ((fl.2 + pk:Nat) : Int)] false TF 0):=aX _
   have fb8:=hat.fb.keep k8 (fun c hc hm=>by rw[List.mem_singleton] at hm; have:=hat.blk c hc; rw[hm,htb] at this; cases this)
   generalize M7.put b (.row [w7,N .i64 ((fl.2 + pk:Nat) : Int)] false TF 0)=M8 at *
   rw[ax,aj,aC (i:=0 + 0) h8 rfl,ax,aj,aC (i:=0 + 1) h8 rfl,ax,aj,aC (i:=0 + 1) h8 rfl]
   obtain⟨w9,e9,fb9,hw9⟩:=Gr fb8 (k:=fl.2 + pk) (by omega)
   rw[e9,vQ,ax,aj,dQ (i:=0 + 0) [w9,N .i64 ((fl.2 + pk:Nat) : Int)] h8 (by simp) fb9.one.2.1 fb9.one.1 rfl,add1 (by omega)]
   have k9:ae [b] M8 (M8.put b (.row [w9,N .i64 ((fl.2 + pk:Nat) : Int)] false TF 0)):=(ae.refl _ _).put _ (.inr (by simp))
   have k79:=k8.trans k9
   have Jo:gN TF TU own' (M8.put b (.row [w9,N .i64 ((fl.2 + pk:Nat) : Int)] false TF 0)) fbs f b w9 (fl.1.take (fl.2 + pk),fl.2 + pk):=by
    refine⟨hat.at_,Nat.lt_of_lt_of_le hat.lt k79.next,htb,aX _,fb9.keep k9 (fun c hc hm=>?_),by show _≤(fl.1.take (fl.2 + pk)).length; rw[List.length_take]; omega,fun c hc=>hat.blk c (hw9 c hc)⟩
    rw[List.mem_singleton] at hm
    have:=hat.blk c (hw9 c hc)
    rw[hm,htb] at this; cases this
   have f9:=f7.set (own':=own') hfi Jo k79 (fun c hc j hj=>⟨iW htb (by simpa using hj) c hc,iW htb (by simp) c hc⟩) (fun _ _ _ _=>rfl)
   refine hnext _ _ _ (by omega) ⟨i + 1,_,rfl,rfl,by omega,k7.trans (k79.mono (fun c hc=>by rw[List.mem_singleton] at hc; rw[hc]; exact List.mem_of_getElem? hb)),f9,fun g hg=>?_,hcl⟩
   rcases List.mem_or_eq_of_mem_set hg with hg | rfl
   ·exact Gi g hg
   ·show(fl.1.take (fl.2 + pk)).length≤_
    rw[List.length_take]; omega
  ·have he:i=l.length:=by
    have:¬ i<l.length:=of_decide_eq_false hge
    omega
   subst he
   rw[List.drop_length] at hcl
   have hcl:fs=fin:=hcl
   subst hcl
   rw[hCF] at hQ
   have s7:=hd6.safe.step k7 (hft _ (by simp)) (fun _ h=>h)
   refine hQ own' M7 ⟨fbs,sm,M2.next,bP,fun b hb=>Nat.lt_of_lt_of_le (hd6.lt b hb) k7.next,od',r7,m7,s7,.nil,f7⟩ ((t5.trans (Tr.keep k6)).trans ⟨fbs,k7,fun b hb=>?_,fun _ _ h=>h⟩)
   obtain⟨j,hj⟩:=hfo b hb
   rw[hj]; simp
end
theorem nD:∀ x y:Nm,iZ x y=decide (x≤y)
 | [],y=>by simp[iZ]
 | a :: x,[]=>by simp[iZ]
 | a :: x,b :: y=>by
   rw[iZ,nD x y,Bool.eq_iff_iff]
   simp only[Bool.or_eq_true,Bool.and_eq_true,decide_eq_true_eq,List.cons_le_cons_iff]
   rw[UInt8.lt_iff_toNat_lt,← UInt8.toNat_inj]
theorem vN (x y:Nm) : (iZ x y || iZ y x)=true:=by
 rw[nD,nD,Bool.or_eq_true,decide_eq_true_eq,decide_eq_true_eq]
 exact Std.Total.total x y
theorem vW (x y z:Nm) (h1:iZ x y=true) (h2:iZ y z=true) : iZ x z=true:=by
 rw[nD,decide_eq_true_eq] at *
 exact List.le_trans h1 h2
theorem EX (x y:Nm) (h1:iZ x y=true) (h2:iZ y x=true) : x=y:=by
 rw[nD,decide_eq_true_eq] at *
 exact List.le_antisymm h1 h2
theorem qM (x:Nm) : ∀ {l:List Nm},l.Pairwise (fun a b=>iZ a b=true)→(rW x l).Pairwise (fun a b=>iZ a b=true)
 | [],_=>by simp[rW]
 | y :: l,h=>by
   unfold rW
   split
   ·rename_i hxy
    refine List.pairwise_cons.2 ⟨fun z hz=>?_,h⟩
    rcases List.mem_cons.1 hz with rfl | hz
    ·exact hxy
    ·exact vW _ _ _ hxy ((List.pairwise_cons.1 h).1 z hz)
   ·rename_i hxy
    have hyx:iZ y x=true:=by have:=vN x y; simp only[Bool.not_eq_true] at hxy; rw[hxy] at this; simpa using this
    refine List.pairwise_cons.2 ⟨fun z hz=>?_,qM x (List.pairwise_cons.1 h).2⟩
    rcases List.mem_cons.1 ((pE x l).mem_iff.1 hz) with rfl | hz
    ·exact hyx
    ·exact(List.pairwise_cons.1 h).1 z hz
theorem pG:∀ l:List Nm,(fo l).Pairwise (fun a b=>iZ a b=true)
 | []=>.nil
 | x :: l=>qM x (pG l)
theorem zX {ss l:List Nm} (h:ss.Perm l) : ss.mergeSort (fun x y=>decide (x≤y))=fo l:=by
 have e:(fun x y:Nm=>decide (x≤y))=iZ:=by funext x y; rw[nD]
 rw[e]
 refine List.Perm.eq_of_pairwise (le:=fun a b=>iZ a b=true) (fun a b _ _ h1 h2=>EX a b h1 h2) ?_ (pG l) ((List.mergeSort_perm _ _).trans (h.trans (iU l).symm))
 exact List.pairwise_mergeSort vW vN ss
def Be (TS TM g:Nat) (c:aA) : Prop:=∀ {own:aP} {M:RM} {fbs:List Nat} {m b:Nat} {d:Dir} {t:Tag} {Q:af},MapAt own M fbs m d t→M.heap b=some (.row [.map m] false TM 0)→b<M.next→d.length≤4000000000→jf d →
 (∀ v M',Ow Fg M' M.next TS v (fo (aG d))→ae [] M M'→Q v M')→c [.fn (.func g) [] [.ptr b 0]] M Q
def Bz (TM g:Nat) (c:aA) : Prop:=∀ {M:RM} {m:Nat} {Q:af},Q (.fn (.func g) [] [.ptr M.next 0]) (M.push (.row [.map m] false TM 0))→c [.map m] M Q
theorem D7 {TM g:Nat} : Bz TM g fun args M Q=>∃ a0,args=[a0]∧aR TM g a0 M Q:=by
 intro M m Q hQ
 refine⟨_,rfl, ?_⟩
 unfold aR
 refine⟨rfl,by show 1≤1; decide, ?_⟩
 dsimp only
 rw[cz]
 exact hQ
section
variable {TD TF TU TC:Nat}
theorem Dl {TS TM g:Nat} {ck cs:aA} (hk:Bz TM g ck) (hs:Be TS TM g cs) : sI TD TF TU TC TS fun args M Q=>∃ a0,args=[a0]∧gy ck cs a0 M Q:=by
 intro own M db s Q hd hlen hw hQ
 obtain⟨fbs,nm,sm,cv,hd⟩:=hd
 refine⟨_,rfl, ?_⟩
 unfold gy
 rw[ax,aj,aC (i:=0 + 1) hd.row rfl]
 refine hk ?_
 have k1:ae [] M (M.push (.row [.map nm] false TM 0)):=(ae.refl _ _).push _
 refine hs ((hd.keep k1).names) (RM.bA _) (by rw[aJ]; omega) hlen hw fun v M' o k=>?_
 exact hQ v M' (Own.mono o (by rw[aJ]; omega)) (k1.trans k)
end
end Go.Ab.Dk
namespace Go.Ab
open Go Go.RowKit
section
variable {P:Program} {ρ:Ren} {M:RM} {w w' : World}
theorem Dq {base:Base} {A:AW} (hw0:aU P base ρ A w) (hbl:Below w.heap.size w w') (hbase:base≤w.heap.size) {x:dK} {ob:Obj} {i:bT} (hge:w.heap.size≤i.cb) (hob:w'.heap[i.cb]?=some ob)
  (hrel:dN P (ρ.add A.next i) i x ob) : aU P base (ρ.add A.next i) (A.push x) w'∧Step base A.next ρ w (ρ.add A.next i) w':=by
 have hb:ρ A.next=none:=hw0.fresh (Nat.le_refl _)
 have hw:=mX hw0 x
 have hx:(A.push x).heap.get A.next=some x:=by simp[AW.push,Tree.aI]
 have hlt:A.next<(A.push x).next:=by simp[AW.push]
 have hle:=Ren.j4 (i:=i) hb
 have hadd:∀ c j,ρ.add A.next i c=some j→(c=A.next∧j=i)∨(c≠A.next∧ρ c=some j):=by
  intro c j h
  unfold Ren.add at h
  split at h
  ·cases h; exact .inl ⟨‹_›,rfl⟩
  ·exact .inr ⟨‹_›,h⟩
 have hcb:i.cb<w'.heap.size:=(Array.getElem?_eq_some_iff.1 hob).1
 refine⟨⟨?_, ?_, ?_,hw.top, ?_,base.low w _ (fun c hc=>hbl.block c (by omega)) hw.inv⟩,⟨hbl.os,hbl.tape,hbl.output,hbl.size, ?_, ?_, ?_,fun c hc=>hbl.block c (by omega)⟩⟩
 ·intro c j h
  rcases hadd c j h with⟨rfl,rfl⟩ | ⟨_,h⟩
  ·exact⟨hlt,hcb⟩
  ·have:=hw.dom c j h; have:=hbl.size; omega
 ·intro c j y h hy
  rcases hadd c j h with⟨rfl,rfl⟩ | ⟨_,h⟩
  ·rw[hx] at hy; cases hy
   exact⟨ob,hob,hrel⟩
  ·obtain⟨o,ho,hr⟩:=hw.blk c j y h hy
   exact⟨o,by rw[hbl.block j.cb (hw.dom c j h).2]; exact ho,hr.mono hle⟩
 ·intro b1 b2 i1 i2 x1 x2 h1 h2 g1 g2 he
  rcases hadd _ _ h1 with⟨e1,f1⟩ | ⟨_,k1⟩ <;> rcases hadd _ _ h2 with⟨e2,f2⟩ | ⟨_,k2⟩
  ·rw[e1,e2]
  ·have:=(hw.dom _ _ k2).2; subst f1; omega
  ·have:=(hw.dom _ _ k1).2; subst f2; omega
  ·exact hw.sep _ _ _ _ _ _ k1 k2 g1 g2 he
 ·intro c j y h hy
  rcases hadd c j h with⟨rfl,rfl⟩ | ⟨_,h⟩
  ·omega
  ·exact hw.lo c j y h hy
 ·intro c hc _; exact hbl.block c hc
 ·intro c hc; unfold Ren.add; rw[if_neg (by omega)]
 ·intro c j h
  rcases hadd c j h with⟨rfl,rfl⟩ | ⟨_,h⟩
  ·exact .inr hge
  ·exact .inl ⟨c,j,h,rfl⟩
theorem bX.F9 {f:FuncId} {args:List AV} {T n:Nat} {cs:List AV} {Q:af} (hP:uH P f) (hsz:az P T=some 1) (h1:cs.all oneCell=true) (hlen:cs.length=n)
  (h:∀ (ρ:Ren) (w:World) (us:List Value),au ρ args us→aZ P ρ M w→Calls P f ⟨us⟩ w fun e w'=>∃ v xs,e=.returned v∧w'.ownsRow w.heap.size T 1 v n xs∧(∀ ρ',au ρ' cs xs)∧Below w.heap.size w w')
  (hQ:∀ v M',Own M' M.next T 1 v cs n→ae [] M M'→Q v M') : bX P f args M Q:=by
 refine⟨hP,fun ρ w us hargs hw=>(h ρ w us hargs hw).mono fun e w' hR=>?_⟩
 obtain⟨v,xs,rfl,⟨hxl,hrow⟩,hrel,hbl⟩:=hR
 rcases hrow with⟨rfl,h0⟩ | ⟨g,cap,cur,rfl,hge,hg,r1,r2,r3,r4⟩
 ·have:cs=[]:=List.length_eq_zero_iff.1 (by omega)
  subst this
  have hn:n=0:=h0
  subst hn
  exact⟨_,bP,M,ρ,rfl,After.below hw hbl,.sc _ rfl,hQ _ _ .nil (ae.refl _ _)⟩
 ·obtain⟨A,hA⟩:=hw
  obtain⟨tr,htr⟩:=eF cs .leaf 0 h1
  obtain⟨_,hget⟩:=bM _ _ _ htr
  obtain⟨_,hcell⟩:=mR htr
  have hblk:dN P (ρ.add A.next ⟨g,0,cap,1⟩) ⟨g,0,cap,1⟩ (.row n tr [] true T 0) (.cells cur T (0,0)):=by
   refine⟨cur,(0,0),rfl,⟨by show 0 + n≤_; omega,fun k x hx=>?_,fun k _ _=>by simp,fun h=>(by cases h),fun _=>⟨Nat.one_pos,by show cur.size=0 + cap * 1; omega,hsz⟩,rfl⟩⟩
   obtain⟨hk1,hk2⟩:=fw hx
   rw[hget,if_pos (by omega),Nat.sub_zero] at hk2
   obtain⟨v,hv,hvr⟩:=(hrel (ρ.add A.next ⟨g,0,cap,1⟩)).get hk2
   refine⟨v, ?_,hvr⟩
   show cur[0 + k]?=some v
   rw[Nat.zero_add,← Array.getElem?_toList]
   rw[← r4,Nat.mul_one,List.getElem?_take_of_lt (by omega)] at hv
   exact hv
  obtain⟨q1,q2⟩:=Dq hA.rel hbl (Nat.le_trans (show M.base.n≤M.lo from Nat.le_refl _) hA.size) (i:=⟨g,0,cap,1⟩) hge hg hblk
  obtain⟨k1,k2,k3⟩:=RM.lm hA (x:=.row cs true T 0) (y:=.row n tr [] true T 0) ⟨hlen,rfl,rfl,rfl,fun k v hk=>by rw[← hlen]; exact hcell k v hk⟩
  have hnx:=hA.next
  refine⟨_,.slc M.next 0 n (.op 1),M.push (.row cs true T 0),_,rfl,dD hA q2 q1 k1 k2 (by simp[AW.push]) k3, ?_,hQ _ _ (.op M.next n cs (Nat.le_refl _) (by simp[RM.push]) (RM.bA _) (by omega)) ((ae.refl _ _).push _)⟩
  have:=aa.eP (ρ:=ρ.add A.next ⟨g,0,cap,1⟩) M.next 0 n ⟨g,0,cap,1⟩ (by rw[← hnx]; simp[Ren.add]) (by show 0 + n≤cap; omega)
  simpa using this
end
end Go.Ab
set_option maxRecDepth 100000
namespace Go.Ab.Crw
open Go Go.Ab
end Go.Ab.Crw
namespace Go.Ab.Vl
open Go Go.Ab
end Go.Ab.Vl
set_option maxRecDepth 10000
namespace Go.Ab.Dk
open Go Go.Ab
abbrev A:Nm:=[97]
abbrev B' : Nm:=[98]
abbrev C' : Nm:=[99]
abbrev a0:aT:=BS 10
abbrev a1:aT:=⟨[([],0)],[(A,0)],[],[(A,some 0,[])],10,0,0⟩
abbrev a2:aT:=⟨[([120,121,122],0)],[(A,0)],[],[(A,some 0,[])],10,1,0⟩
abbrev a3:aT:=⟨[([120,121,122],3)],[(A,0)],[],[(A,some 0,[])],10,1,1⟩
abbrev a4:aT:=⟨[([120,121,122],3)],[(A,0)],[(A,0)],[],10,1,2⟩
abbrev a5:aT:=⟨[([120,121,122,49,50],3)],[(A,0)],[(A,0)],[],10,2,2⟩
abbrev a6:aT:=⟨[([120,121,122,49,50],3),([],0)],[(A,0),(B',1)],[(A,0)],[(B',some 1,[])],10,2,2⟩
abbrev a7:aT:=⟨[([120,121,122,49],4),([],0)],[(A,0)],[(A,0)],[],10,2,2⟩
abbrev a8:aT:=⟨[([120,121,122,49],4),([],0)],[(A,0)],[(A,0)],[],100,2,2⟩
abbrev a9:aT:=⟨[([120,121,122,49,0,0,0,0,0,0,0],4),([],0)],[(A,0)],[(A,0)],[],100,3,2⟩
abbrev Ih:aT:=⟨[([120,121,122,49,0,0,0,0,0,0,0],4),([],0)],[(C',0)],[(A,0)],[(C',some 0,A)],100,3,2⟩
abbrev sG:aT:=⟨[([120,121,122,49,0,0,0,0,0,0,0],4),([],0)],[],[(A,0)],[(C',some 0,A),([],none,C')],100,3,2⟩
theorem e1:gZ a0 A=(a1,0):=by decide
theorem e2:fG a1 A [120,121,122]=(a2,0):=by decide
theorem e3:nI a2 A=(a3,0):=by decide
theorem e4:lq a3=a4:=by decide
theorem e5:fG a4 A [49,50]=(a5,0):=by decide
theorem e6:gZ a5 B'=(a6,0):=by decide
theorem e7:gH a6 [0,1]=a7:=by decide
theorem e8:yM a7 100=a8:=by decide
theorem e9:fG a8 A [0,0,0,0,0,0,0]=(a9,0):=by decide
theorem JQ:fG a7 A [0,0,0,0,0,0,0]=(a7,5):=by decide
theorem e10:nk a9 A C'=(Ih,0):=by decide
theorem e11:nu Ih C'=(sG,0):=by decide
theorem JX:jL a7 A=([120,121,122,49],0):=by decide
theorem JU:jL a7 B'=([],4):=by decide
section
variable {own own' : aP} {M M' : RM}
theorem FD {M1:RM} (k:ae [] M M1) (ho:∀ b,b<M.next→own b=none) (t:Tr own M1 own' M') : ae [] M M':=by
 obtain⟨bs,h1,h2,_⟩:=t
 refine k.rQ h1 fun c hc=>.inl ?_
 rcases Nat.lt_or_ge c M.next with h | h
 ·exact absurd (ho c h) (h2 c hc)
 ·exact h
theorem Tr.sl {α:Type} {E:Enc α} {v:AV} {xs:List α} (t:Tr own M own' M') (h:Sl E M v xs) (hb:∀ b∈av v,own b=none) : Sl E M' v xs:=by
 obtain⟨bs,h1,h2,_⟩:=t
 exact bu.keep h h1 (fun b hb2 hm=>h2 b hm (hb b hb2))
theorem Tr.none {b:Nat} (t:Tr own M own' M') (hb:b<M.next) (ho:own b=none) : own' b=none:=let ⟨_,_,_,h⟩:=t; h b hb ho
theorem bH.keep {TD TF TU TC db:Nat} {s:aT} (h:bH TD TF TU TC own M db s) (k:ae [] M M') : bH TD TF TU TC own M' db s :=
 let ⟨_,_,_,_,h⟩:=h; ⟨_,_,_,_,h.keep k⟩
theorem bH.fresh {TD TF TU TC db:Nat} {s:aT} (h:bH TD TF TU TC own M db s) {b:Nat} (hb:M.next≤b) : own b=none:=by
 obtain⟨_,_,_,_,h⟩:=h
 rcases hq:own b with _ | t
 ·rfl
 ·have:=h.lt b (by rw[hq]; simp); omega
end
theorem BG {M:RM} {T:Nat} {xs:List UInt8} : Sl BY ((M.push (.row (BY.row xs) false T 0)).put M.next (.row (BY.row xs) false T ((BY.row xs).length + 1))) (.slc M.next 0 xs.length (.ex xs.length)) xs:=by
 refine .slc _ _ _ _ _ (by rw[E5,aJ]; omega) ?_
 rw[RM.iJ (aX _) (by rw[BY.gm]; omega),List.drop_zero,← BY.gm,List.take_length]
theorem wB {M:RM} {T:Nat} {xs:List UInt8} {K:af} (hK:∀ M',ae [] M M'→Sl BY M' (.slc M.next 0 xs.length (.ex xs.length)) xs→K (.slc M.next 0 xs.length (.ex xs.length)) M') :
  xA (.slc M.next 0 xs.length (.ex xs.length)) (M.push (.row (BY.row xs) false T 0)) K :=
 ⟨M.next,0,_,_,_,_,rfl,RM.bA _,hK _ (((ae.refl _ _).push _).new _ (Nat.le_refl _)) BG⟩
def sK (c:aA) : Prop:=∀ {M:RM} {Q:af},(∀ M',ae [] M M'→Q (Bo true) M')→c [] M Q
theorem CU {TD TF TU TC TS TI TT:Nat} {cN cC cA cS cSD cL cX cR cQ cRn cRm cSt:aA} (hN:Bw TD TF TU TC cN) (hC:yF TD TF TU TC gZ cC) (hA:qA TD TF TU TC cA) (hS:wW TD TF TU TC cS)
  (hSD:nV TD TF TU TC cSD) (hL:sI TD TF TU TC TS cL) (hX:tC TD TF TU TC cX) (hR:xD TD TF TU TC cR) (hq:zM TD TF TU TC cQ) (hRn:qH TD TF TU TC cRn) (hRm:yF TD TF TU TC nu cRm) (hSt:Cu TD TF TU TC cSt) :
  sK fun args M Q=>args=[]∧lD cN cC TU cA cS cSD cL TI cX cR cQ cRn cRm cSt TT M Q:=by
 intro M Q hQ
 refine⟨rfl, ?_⟩
 unfold lD
 simp only[xH]
 refine hN (fun h=>absurd h (by decide)) fun _ own M1 db d0 o0 k0=>?_
 rw[l9,nX,Es]
 refine Er (p:=false) (fun _ k hk=>?_) ?_
 ·rw[bZ]; exact hk
 refine jN (fun h=>by cases h) (fun _=>?_)
 refine hC d0 (by decide) fun IC M2 d1 t1=>?_
 rw[e1] at d1 ⊢
 refine⟨_,rfl, ?_⟩
 dsimp only
 rw[cz]
 refine wB (xs:=[120,121,122]) fun M3 k3 s3=>?_
 have d1:=d1.keep k3
 refine hA d1 s3 (by decide) (by decide) (by decide) (by decide) fun BA M4 d2 t2=>?_
 rw[e2] at d2 ⊢
 refine hS d2 fun Jr M5 d3 t3=>?_
 rw[e3] at d3 ⊢
 refine hSD d3 fun Jl M6 d4 t4=>?_
 rw[e4] at d4
 refine⟨_,rfl, ?_⟩
 dsimp only
 rw[cz]
 refine wB (xs:=[49,50]) fun M7 k7 s7=>?_
 have d4:=d4.keep k7
 refine hA d4 s7 (by decide) (by decide) (by decide) (by decide) fun Jf M8 d5 t5=>?_
 rw[e5] at d5 ⊢
 refine hC d5 (by decide) fun IX M9 d6 t6=>?_
 rw[e6] at d6 ⊢
 refine hL d6 (by decide) ⟨by decide,by decide⟩ fun v10 M10 o10 k10=>?_
 have d6:=d6.keep k10
 rw[bu.len (Own.o7 o10)]
 refine⟨_,rfl, ?_⟩
 dsimp only
 rw[cz]
 have k11:ae [] M10 (M10.push (.row (INT.row [0,1]) false TI 0)):=(ae.refl _ _).push _
 have d6':=d6.keep k11
 refine hX (M:=M10.push (.row (INT.row [0,1]) false TI 0)) (p:=[0,1]) d6' (Sl.new (E:=INT) [0,1]) (fun b hb=>?_) (by decide) (by decide) ⟨by decide,by decide⟩ (by decide) (by decide) fun Gz M12 d7 t7=>?_
 ·have hb:b=M10.next:=by simpa [av] using hb
  exact d6.fresh (by omega)
 rw[e7] at d7
 have f7:∀ b,M12.next≤b→Gz b=none:=fun b hb=>d7.fresh hb
 refine hR d7 (by decide) fun v13 M13 k13 o13=>?_
 rw[JX] at o13 ⊢
 have d7:=d7.keep k13
 rw[l9,nX]
 refine hR d7 (by decide) fun v14 M14 k14 o14=>?_
 rw[JU] at o14 ⊢
 have d7:=d7.keep k14
 rw[l9,nX]
 have mk:∀ {K:RB→(Nat→AV)→Prop},K (.row (BY.row [0,0,0,0,0,0,0]) false TU 0) (fun b=>.slc b 0 7 (.ex 7))→wY TU 1 [(N .u8 0)] (N .i64 7) (N .i64 7) K :=
  fun h=>⟨_,_,7,7,rfl,rfl,by decide,by decide,by decide,by decide,h⟩
 refine mk ?_
 dsimp only
 rw[cz]
 have k15:ae [] M14 (M14.push (.row (BY.row [0,0,0,0,0,0,0]) false TU 0)):=(ae.refl _ _).push _
 have d7':=d7.keep k15
 refine hA d7' (Sl.new (E:=BY) (c:=7) [0,0,0,0,0,0,0]) (by decide) (by decide) (by decide) (by decide) fun Jp M16 d8 t8=>?_
 rw[JQ] at d8 ⊢
 refine hq d8 fun Iy M17 d9 t9=>?_
 rw[e8] at d9
 refine mk ?_
 dsimp only
 rw[cz]
 have k18:ae [] M17 (M17.push (.row (BY.row [0,0,0,0,0,0,0]) false TU 0)):=(ae.refl _ _).push _
 have d9':=d9.keep k18
 refine hA d9' (Sl.new (E:=BY) (c:=7) [0,0,0,0,0,0,0]) (by decide) (by decide) (by decide) (by decide) fun Fv M19 d10 t10=>?_
 rw[e9] at d10 ⊢
 refine hRn d10 (by decide) fun own11 M20 d11 t11=>?_
 rw[e10] at d11 ⊢
 refine hRm d11 (by decide) fun own12 M21 d12 t12=>?_
 rw[e11] at d12 ⊢
 refine hSt d12 (by decide) fun M22 k22=>?_
 rw[cz,oC (n:=4) (RM.bA _) rfl rfl rfl]
 have k23:ae [] M22 ((M22.push (.row [(N .i64 0),(N .i64 0),(N .i64 0),(N .i64 0)] false TT 0)).put M22.next (.row (AV.agg [N .i64 ((([] : Dir).length:Nat) : Int),N .i64 ((tot sG.files sG.dir:Nat) : Int),N .i64 3,N .i64 2]).cells false TT 0)):=((ae.refl _ _).push _).new _ (Nat.le_refl _)
 have h23:((M22.push (.row [(N .i64 0),(N .i64 0),(N .i64 0),(N .i64 0)] false TT 0)).put M22.next (.row (AV.agg [N .i64 ((([] : Dir).length:Nat) : Int),N .i64 ((tot sG.files sG.dir:Nat) : Int),N .i64 3,N .i64 2]).cells false TT 0)).heap M22.next=some (.row (AV.agg [N .i64 ((([] : Dir).length:Nat) : Int),N .i64 ((tot sG.files sG.dir:Nat) : Int),N .i64 3,N .i64 2]).cells false TT 0):=aX _
 have s13:Sl BY M14 v13 [120,121,122,49]:=bu.keep (Own.o7 o13) k14 (by simp)
 have tA:=((((Tr.keep k15).trans t8).trans t9).trans (Tr.keep k18)).trans (((t10.trans t11).trans t12).trans (Tr.keep (k22.trans k23)))
 have s23:=tA.sl s13 (fun b hb=>f7 b (Own.blk o13 b hb).1)
 generalize (M22.push (.row [(N .i64 0),(N .i64 0),(N .i64 0),(N .i64 0)] false TT 0)).put M22.next (.row (AV.agg [N .i64 ((([] : Dir).length:Nat) : Int),N .i64 ((tot sG.files sG.dir:Nat) : Int),N .i64 3,N .i64 2]).cells false TT 0)=M23 at *
 rw[bO]
 refine eH (p:=true) (fun _ k hk=>by rw[bO]; exact hk) ?_
 refine eH (p:=true) (fun _ k hk=>by rw[bO]; exact hk) ?_
 refine eH (p:=true) (fun _ k hk=>by rw[bO]; exact hk) ?_
 refine eH (p:=true) (fun _ k hk=>by rw[bO]; exact hk) ?_
 refine eH (p:=true) (fun _ k hk=>by rw[bO]; exact hk) ?_
 refine eH (p:=true) (fun _ k hk=>by rw[bO]; exact hk) ?_
 refine eH (p:=true) (fun _ k hk=>by rw[bO]; exact hk) ?_
 refine eH (p:=true) (fun _ k hk=>by rw[Sl.str s23,lU]; exact hk) ?_
 refine eH (p:=true) (fun _ k hk=>by rw[bO]; exact hk) ?_
 refine eH (p:=true) (fun _ k hk=>by rw[bO]; exact hk) ?_
 refine eH (p:=true) (fun _ k hk=>by rw[bO]; exact hk) ?_
 refine eH (p:=true) (fun _ k hk=>by rw[bO]; exact hk) ?_
 refine eH (p:=true) (fun _ k hk=>by rw[bO]; exact hk) ?_
 refine eH (p:=true) (fun _ k hk=>by rw[aj,aC (i:=0 + 0) h23 rfl,bO]; exact hk) ?_
 refine eH (p:=true) (fun _ k hk=>by rw[aj,aC (i:=0 + 2) h23 rfl,bO]; exact hk) ?_
 refine eH (p:=true) (fun _ k hk=>by rw[aj,aC (i:=0 + 3) h23 rfl,bO]; exact hk) ?_
 exact hQ _ (FD k0 o0 ((((((((((t1.trans (Tr.keep k3)).trans t2).trans t3).trans t4).trans (Tr.keep k7)).trans t5).trans t6).trans (Tr.keep (k10.trans k11))).trans t7).trans ((Tr.keep (k13.trans k14)).trans tA)))
theorem Ez {a:Int} {K:AV→Prop} : aH .eql (N .i64 a) (N .i64 a) K=K (Bo true):=by rw[bO,beq_self_eq_true]
abbrev n1:aT:=⟨[([],0)],[(A,0)],[],[(A,some 0,[])],5,0,0⟩
theorem f6:nI n1 B'=(n1,4):=by decide
end Go.Ab.Dk
