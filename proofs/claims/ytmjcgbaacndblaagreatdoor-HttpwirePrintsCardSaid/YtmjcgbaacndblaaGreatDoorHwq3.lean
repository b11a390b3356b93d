/- Part 3 of the ground of the proofs of this seat (texts R9 to H1). By an AI agent. -/
import Derived.Test.YtmjcgbaacndblaaGreatDoorHwq2
import Derived.Scope
import Derived.ChangeShapes
import Derived.OpenShut
import Derived.WideKeyArgs
import GoSem.ClaimJoined
import Derived.Lib.Bytealg
import Derived.Lib.DecodeN
import Derived.Lib.ValidU
import Derived.Lib.ValidLaws
import Derived.Carry
import Derived.JoinedCond
import Derived.SizedLaws
import GoSem.Extern.Atomic
import GoSem.Extern.MapsClone
set_option linter.unusedVariables false
set_option linter.unusedSimpArgs false
namespace Go.Ab
open Go Go.RowKit
def Jv:Option Tmp→Nat
 | some d=>2 ^ d
 | none=>0
def OG:Operand→Nat
 | .tmp t=>2 ^ t
 | _=>0
def NE:List Operand→Nat
 | []=>0
 | x :: xs=>OG x ||| NE xs
def Qc (L m:Nat) : Nat:=L ^^^ (L &&& m)
def Dv:List Oper→Nat
 | []=>0
 | o :: os=>Jv o.dst ||| Dv os
def fG:Nat→Code→Nat
 | 0,_=>0
 | f + 1,c=>match c with
   | .region _ ops _=>Dv ops.toList
   | .seq a b=>fG f a ||| fG f b
   | .cond _ a b=>fG f a ||| fG f b
   | .block _ c=>fG f c
   | .loop c=>fG f c
   | .scope c=>fG f c
   | _=>0
def KL:List Oper→Nat→Nat
 | [],L=>L
 | o :: os,L=>Qc (KL os L) (Jv o.dst) ||| NE o.op.operands.toList
def Nq:List (Nat × Nat)→Nat→Nat
 | [],_=>0
 | (i,L) :: r,id=>match Nat.beq i id with
   | true=>L
   | false=>Nq r id
def fT (ret:Nat) : Nat→List (Nat × Nat)→Code→Nat→Nat
 | 0,_,_,_=>0
 | f + 1,env,c,L=>match c with
   | .skip=>L
   | .region _ ops _=>KL ops.toList L
   | .seq a b=>fT ret f env a (fT ret f env b L)
   | .cond c a b=>OG c ||| fT ret f env a L ||| fT ret f env b L
   | .block id c=>fT ret f ((id,L) :: env) c L
   | .loop c=>fT ret f env c (fT ret f env c 0)
   | .exit id=>Nq env id
   | .ret=>ret
   | .scope c=>fT ret f env c L
   | .label _=>L
   | _=>0
def cap2 (n:Nat) : Nat:=match n with | 0=>0 | 1=>1 | _=>2
def pu (id:Nat) : Nat→Code→Nat
 | 0,_=>2
 | f + 1,c=>match c with
   | .seq a b=>cap2 (pu id f a + pu id f b)
   | .cond _ a b=>cap2 (pu id f a + pu id f b)
   | .block _ c=>pu id f c
   | .loop c=>pu id f c
   | .exit i=>match Nat.beq i id with | true=>1 | false=>0
   | _=>0
def tJ:Nat→Code→Nat
 | 0,_=>2
 | f + 1,c=>match c with
   | .skip=>1
   | .region _ _ _=>1
   | .seq a b=>cap2 (tJ f a * tJ f b)
   | .cond _ a b=>cap2 (tJ f a + tJ f b)
   | .block id c=>cap2 (tJ f c + pu id f c)
   | .scope c=>tJ f c
   | .label _=>1
   | _=>0
def vX (m:Nat) : Nat→Nat→List Nat
 | _,0=>[]
 | i,n + 1=>match Nat.testBit m i with
   | true=>i :: vX m (i + 1) n
   | false=>vX m (i + 1) n
def bitsOf (m nt:Nat) : List Nat:=vX m 0 nt
def vS (T:Tree AV) : List Nat→List AV
 | []=>[]
 | t :: ts=>(T.get t).getD .top :: vS T ts
def ai:List AV→Nat→AV
 | [],_=>.top
 | x :: _,0=>x
 | _ :: xs,n + 1=>ai xs n
def xY (T:Tree AV) : List Nat→Tree AV
 | []=>T
 | t :: ts=>xY (T.set t .top) ts
def Jc (T:Tree AV) (xs:List AV) : Nat→List Nat→Tree AV
 | _,[]=>T
 | i,t :: ts=>Jc (T.set t (ai xs i)) xs (i + 1) ts
def xJ (T:Tree AV) (asg vs:List Nat) (xs:List AV) : Tree AV:=Jc (xY T asg) xs 0 vs
def ax (x:AV) (p q:Prop) : Prop :=
 match x with
 | .sc (.bool b)=>(b=true→p)∧(b=false→q)
 | _=>False
def dL (f:(List AV→RM→Prop)→Prop) (g:List AV→RM→Prop) : Prop:=f g
def eX (body:(List AV→RM→Prop)→List AV→RM→Prop) (xs:List AV) (M:RM) : Prop :=
 ∃ (I:Nat→List AV→RM→Prop) (n:Nat),I n xs M∧∀ m ys M',I m ys M'→body (fun zs M''=>∃ m',m'<m∧I m' zs M'') ys M'
abbrev K3:=Ex→Tree AV→RM→Prop
def wpC (P:Program) (nt ret:Nat) : Nat→Code→List (Nat × Nat)→Nat→Tree AV→RM→K3→Prop
 | 0,_,_,_,_,_,_=>False
 | f + 1,c,env,L,T,M,K=>match c with
   | .skip=>K .normal T M
   | .region _ ops false=>EO P nt ops ops.toList T M (fun T' M'=>K .normal T' M')
   | .region _ ops true=>MG P nt ops T M (fun T' M'=>K .normal T' M')
   | .seq a b=>match Nat.ble (tJ f a) 1 with
     | true=>wpC P nt ret f a env (fT ret f env b L) T M (fun e T' M'=>match e with
       | .normal=>wpC P nt ret f b env L T' M' K
       | e=>K e T' M')
     | false=>dL (fun J=>wpC P nt ret f a env (fT ret f env b L) T M (fun e T' M'=>match e with
       | .normal=>J (vS T' (bitsOf (fG f a &&& fT ret f env b L) nt)) M'
       | e=>K e T' M'))
       (fun xs M'=>wpC P nt ret f b env L (xJ T (bitsOf (fG f a) nt) (bitsOf (fG f a &&& fT ret f env b L) nt) xs) M' K)
   | .cond c a b=>ax (rP T c) (wpC P nt ret f a env L T M K) (wpC P nt ret f b env L T M K)
   | .block id c=>wpC P nt ret f c ((id,L) :: env) L T M (fun e T' M'=>match e with
     | .exit i=>match Nat.beq i id with
       | true=>K .normal T' M'
       | false=>K (.exit i) T' M'
     | e=>K e T' M')
   | .loop c=>eX (fun next xs M'=>wpC P nt ret f c env (fT ret f env c (fT ret f env c 0)) (xJ T (bitsOf (fG f c) nt) (bitsOf (fG f c &&& fT ret f env c (fT ret f env c 0)) nt) xs) M'
     (fun e T' M'=>match e with
      | .normal=>next (vS T' (bitsOf (fG f c &&& fT ret f env c (fT ret f env c 0)) nt)) M'
      | e=>K e T' M'))
     (vS T (bitsOf (fG f c &&& fT ret f env c (fT ret f env c 0)) nt)) M
   | .exit id=>K (.exit id) T M
   | .ret=>K .ret T M
   | .scope c=>wpC P nt ret f c env L T M K
   | .label _=>K .normal T M
   | _=>False
def Qa (P:Program) (T:Tree AV) (M:RM) (r:ResultVar) (K:AV→Prop) : Prop :=
 match r with
 | .tmp t=>K ((T.get t).getD .top)
 | .cell a t=>match dm P t with
   | some false=>aj M ((T.get a).getD .top) K
   | some true=>match aN P t with
     | some n=>bI M ((T.get a).getD .top) n K
     | none=>False
   | none=>False
def PT (P:Program) (T:Tree AV) (M:RM) : List ResultVar→(List AV→Prop)→Prop
 | [],K=>K []
 | r :: rs,K=>Qa P T M r (fun v=>PT P T M rs (fun vs=>K (v :: vs)))
def Tf (Q:ah) (M:RM) : List AV→Prop
 | [v]=>Q v M
 | vs=>Q (.tup vs) M
def E9:List ResultVar→Nat
 | []=>0
 | .tmp t :: rs=>2 ^ t ||| E9 rs
 | .cell a _ :: rs=>2 ^ a ||| E9 rs
def Nh (P:Program) (fn:Func) (c:Code) (args:List AV) (M:RM) (Q:ah) : Prop :=
 wpC P (args.length + (fn.ntmps - args.length)) (E9 fn.results.toList) 1000 c [] 0 (Tree.ofList args 0 .leaf) M
  (fun e T M'=>match e with
   | .exit _=>False
   | _=>PT P T M' fn.results.toList (Tf Q M'))
section
variable {P:Program} {nt ret:Nat}
def LJ (P:Program) (nt:Nat) (M0:RM) (ρ0:Ren) (w0:World) (T:Tree AV) (asg:Nat) (K:K3) (e:Exit) (a:Act) (w:World) : Prop :=
 ∃ x T' M' ρ',e=P7 x∧After P M0 ρ0 w0 M' ρ' w∧gQ ρ' nt T' a∧(∀ t,Nat.testBit asg t=false→T'.get t=T.get t)∧K x T' M'
theorem Iw {T:Tree AV} : ∀ (vs:List Nat) (i:Nat),ai (vS T vs) i=match vs[i]? with | some t=>(T.get t).getD .top | none=>.top
 | [],i=>by simp[vS,ai]
 | t :: vs,0=>by simp[vS,ai]
 | t :: vs,i + 1=>by simp[vS,ai,Iw vs i]
theorem AP:∀ (asg:List Nat) (T:Tree AV) (t:Nat),(xY T asg).get t=if t∈asg then some .top else T.get t
 | [],T,t=>by simp[xY]
 | d :: asg,T,t=>by
   simp only[xY,AP asg,Tree.bi,List.mem_cons]
   by_cases h1:t∈asg
   ·simp[h1]
   ·by_cases h2:t=d <;> simp[h1,h2]
theorem CU:∀ (vs:List Nat) (T:Tree AV) (xs:List AV) (i t:Nat),(t ∉ vs∧(Jc T xs i vs).get t=T.get t)∨∃ j,vs[j]?=some t∧(Jc T xs i vs).get t=some (ai xs (i + j))
 | [],T,xs,i,t=>.inl ⟨by simp,rfl⟩
 | d :: vs,T,xs,i,t=>by
   simp only[Jc]
   rcases CU vs (T.set d (ai xs i)) xs (i + 1) t with⟨h1,h2⟩ | ⟨j,h1,h2⟩
   ·rw[Tree.bi] at h2
    by_cases e:t=d
    ·rw[if_pos e] at h2
     exact .inr ⟨0,by simp[e],h2⟩
    ·rw[if_neg e] at h2
     exact .inl ⟨by simp[e,h1],h2⟩
   ·exact .inr ⟨j + 1,by simpa using h1,by rw[h2]; congr 2; omega⟩
theorem yG {m:Nat} : ∀ (n i t:Nat),t∈vX m i n↔i≤t∧t<i + n∧Nat.testBit m t=true
 | 0,i,t=>by simp[vX]; omega
 | n + 1,i,t=>by
   simp only[vX]
   split
   ·rename_i h
    rw[List.mem_cons,yG n (i + 1) t]
    constructor
    ·rintro(rfl | ⟨a,b,c⟩)
     ·exact⟨Nat.le_refl _,by omega,h⟩
     ·exact⟨by omega,by omega,c⟩
    ·rintro⟨a,b,c⟩
     by_cases e:t=i
     ·exact .inl e
     ·exact .inr ⟨by omega,by omega,c⟩
   ·rename_i h
    rw[yG n (i + 1) t]
    constructor
    ·rintro⟨a,b,c⟩; exact⟨by omega,by omega,c⟩
    ·rintro⟨a,b,c⟩
     have:t≠i:=fun e=>by subst e; rw[h] at c; cases c
     exact⟨by omega,by omega,c⟩
theorem qQ {m n t:Nat} : t∈bitsOf m n↔t<n∧Nat.testBit m t=true:=by
 unfold bitsOf; rw[yG]; simp
theorem AU {ρ:Ren} {T T' : Tree AV} {a:Act} {asg:Nat} {vs:List Nat} (h:gQ ρ nt T' a) (hge:∀ t,nt≤t→ag ρ ((T.get t).getD .top) undef) (hk:∀ t,Nat.testBit asg t=false→T'.get t=T.get t) : gQ ρ nt (xJ T (bitsOf asg nt) vs (vS T' vs)) a:=by
 refine⟨h.size,fun t=>?_,h.defers⟩
 unfold xJ
 rcases CU vs (xY T (bitsOf asg nt)) (vS T' vs) 0 t with⟨_,h2⟩ | ⟨j,h1,h2⟩
 ·rw[h2,AP]
  split
  ·exact .top _
  ·rename_i hm
   by_cases hb:Nat.testBit asg t=true
   ·have hge' : nt≤t:=by
     rcases Nat.lt_or_ge t nt with hlt | hge
     ·exact absurd (qQ.2 ⟨hlt,hb⟩) hm
     ·exact hge
    have hv:a.tmps.getD t undef=undef:=by
     rw[Array.getD_eq_getD_getElem?,Array.getElem?_eq_none (by rw[h.size]; exact hge')]; rfl
    rw[hv]; exact hge t hge'
   ·rw[← hk t (by simpa using hb)]
    exact h.val t
 ·rw[h2,Nat.zero_add,Iw,h1]
  exact h.val t
theorem DX {T:Tree AV} {asg:Nat} {vs:List Nat} {xs:List AV} (hvs:∀ t∈vs,Nat.testBit asg t=true) (t:Nat) (h:Nat.testBit asg t=false) : (xJ T (bitsOf asg nt) vs xs).get t=T.get t:=by
 unfold xJ
 rcases CU vs (xY T (bitsOf asg nt)) xs 0 t with⟨_,h2⟩ | ⟨j,h1,h2⟩
 ·rw[h2,AP,if_neg]
  intro hm
  rw[(qQ.1 hm).2] at h; cases h
 ·have:=hvs t (List.mem_of_getElem? h1)
  rw[h] at this; cases this
theorem gQ.ge {ρ:Ren} {T:Tree AV} {a:Act} (h:gQ ρ nt T a) : ∀ t,nt≤t→ag ρ ((T.get t).getD .top) undef:=by
 intro t ht
 have:=h.val t
 rw[Array.getD_eq_getD_getElem?,Array.getElem?_eq_none (by rw[h.size]; exact ht)] at this
 exact this
theorem BK {c:Code} {Q:Exit→Act→World→Prop} : ∀ {n m:Nat} {a:Act} {w:World},n≤m→Code.rounds P c Q n a w→Code.rounds P c Q m a w
 | 0,_,_,_,_,h=>h.elim
 | n + 1,m + 1,a,w,hle,h=>by
   rw[rounds_succ] at h ⊢
   refine wp_mono h fun e a' w' hp=>?_
   cases e with
   | normal=>exact BK (Nat.le_of_succ_le_succ hle) hp
   | exit id=>exact hp
   | ret=>exact hp
   | goto l=>exact hp
   | panic c=>exact hp
   | outgrown=>exact hp
theorem yE {t:Nat} : ∀ (l:List Oper),Nat.testBit (Dv l) t=false→∀ o∈l,o.dst≠some t
 | [],_,o,ho=>by cases ho
 | x :: l,h,o,ho=>by
   simp only[Dv,Nat.testBit_or,Bool.or_eq_false_iff] at h
   rcases List.mem_cons.1 ho with rfl | ho
   ·intro e
    rw[e] at h
    simp[Jv,Nat.testBit_two_pow] at h
   ·exact yE l h.2 o ho
theorem Oo {ρ:Ren} {x:AV} {u:Value} {p q:Prop} (h:ax x p q) (hx:ag ρ x u) : ∃ b,u=.bool b∧(b=true→p)∧(b=false→q):=by
 unfold ax at h
 split at h <;> first | (cases h; done) | skip
 rename_i b
 exact⟨b,(aD hx).1,h.1,h.2⟩
theorem OQ (hP:zV P) : ∀ (f:Nat) (c:Code) (env:List (Nat × Nat)) (L:Nat) (T:Tree AV) (M:RM) (K:K3),wpC P nt ret f c env L T M K →
  ∀ (M0:RM) (ρ0:Ren) (w0:World) (ρ:Ren) (a:Act) (w:World),After P M0 ρ0 w0 M ρ w→gQ ρ nt T a→c.wp P (LJ P nt M0 ρ0 w0 T (fG f c) K) a w:=by
 intro f
 induction f with
 | zero=>intro c env L T M K h; exact h.elim
 | succ f ih =>
   intro c env L T M K h M0 ρ0 w0 ρ a w hM hA
   cases c with
   | skip=>exact wp_skip ⟨.normal,T,M,ρ,rfl,hM,hA,fun _ _=>rfl,h⟩
   | region id ops d =>
     cases d with
     | false =>
       refine wp_region ?_
       have:=wY (nt:=nt) hP (ops:=ops) (Q:=LJ P nt M0 ρ0 w0 T (fG (f + 1) (.region id ops false)) K) (K:=fun T' M'=>K .normal T' M') (M0:=M0) (ρ0:=ρ0) (w0:=w0) (T0:=T)
        (fun T' M' ρ' a' w' k1 k2 k3 k4=>⟨.normal,T',M',ρ',rfl,k1,k2,fun t ht=>k4 t (yE _ ht),k3⟩) ops.toList 0 (by simp) hA hM (fun _ _=>rfl) h
       rw[Array.length_toList,← List.range_eq_range'] at this
       exact this
     | true =>
       exact Kh (nt:=nt) (T:=T) hP hM hA (fun T' M' ρ' a' w' k1 k2 k3 k4=>⟨.normal,T',M',ρ',rfl,k1,k2,fun t ht=>k4 t (yE _ ht),k3⟩) h
   | seq c1 c2 =>
     simp only[wpC] at h
     refine wp_seq ?_
     split at h
     ·refine wp_mono (ih c1 _ _ _ _ _ h M0 ρ0 w0 ρ a w hM hA) fun e a' w' hp=>?_
      obtain⟨x,T1,M1,ρ1,rfl,k1,k2,k3,k4⟩:=hp
      cases x with
      | normal =>
        refine wp_mono (ih c2 _ _ _ _ _ k4 M0 ρ0 w0 ρ1 a' w' k1 k2) fun e a2 w2 hp=>?_
        obtain⟨x,T2,M2,ρ2,he,q1,q2,q3,q4⟩:=hp
        exact⟨x,T2,M2,ρ2,he,q1,q2,fun t ht=>by
         simp only[fG,Nat.testBit_or,Bool.or_eq_false_iff] at ht
         rw[q3 t ht.2,k3 t ht.1],q4⟩
      | exit i=>exact⟨.exit i,T1,M1,ρ1,rfl,k1,k2,fun t ht=>by
        simp only[fG,Nat.testBit_or,Bool.or_eq_false_iff] at ht
        exact k3 t ht.1,k4⟩
      | ret=>exact⟨.ret,T1,M1,ρ1,rfl,k1,k2,fun t ht=>by
        simp only[fG,Nat.testBit_or,Bool.or_eq_false_iff] at ht
        exact k3 t ht.1,k4⟩
     ·unfold dL at h
      refine wp_mono (ih c1 _ _ _ _ _ h M0 ρ0 w0 ρ a w hM hA) fun e a' w' hp=>?_
      obtain⟨x,T1,M1,ρ1,rfl,k1,k2,k3,k4⟩:=hp
      have hge:∀ t,nt≤t→ag ρ1 ((T.get t).getD .top) undef:=fun t ht=>by
       have h1:=k2.ge t ht
       by_cases hb:Nat.testBit (fG f c1) t=false
       ·rw[k3 t hb] at h1; exact h1
       ·have h0:=hA.ge t ht
        have hu:∀ (ρ ρ' : Ren) (x:AV),ag ρ x undef→ag ρ' x undef:=by
         intro ρ ρ' x hx
         unfold undef at hx ⊢
         cases hx with
         | top=>exact .top _
         | sc v p=>exact .sc _ p
         | tup xs vs a=>cases a; exact .tup _ _ .nil
        exact hu _ _ _ h0
      cases x with
      | normal =>
        refine wp_mono (ih c2 _ _ _ _ _ k4 M0 ρ0 w0 ρ1 a' w' k1 (AU k2 hge k3)) fun e a2 w2 hp=>?_
        obtain⟨x,T2,M2,ρ2,he,q1,q2,q3,q4⟩:=hp
        refine⟨x,T2,M2,ρ2,he,q1,q2,fun t ht=>?_,q4⟩
        simp only[fG,Nat.testBit_or,Bool.or_eq_false_iff] at ht
        rw[q3 t ht.2]
        refine DX (fun t' ht'=>?_) t ht.1
        have:=(qQ.1 ht').2
        rw[Nat.testBit_and,Bool.and_eq_true] at this
        exact this.1
      | exit i=>exact⟨.exit i,T1,M1,ρ1,rfl,k1,k2,fun t ht=>by
        simp only[fG,Nat.testBit_or,Bool.or_eq_false_iff] at ht
        exact k3 t ht.1,k4⟩
      | ret=>exact⟨.ret,T1,M1,ρ1,rfl,k1,k2,fun t ht=>by
        simp only[fG,Nat.testBit_or,Bool.or_eq_false_iff] at ht
        exact k3 t ht.1,k4⟩
   | cond cnd c1 c2 =>
     simp only[wpC] at h
     obtain⟨b,hb,h1,h2⟩:=Oo h (FM hA cnd)
     cases b with
     | true =>
       refine wp_cond_true hb (wp_mono (ih c1 _ _ _ _ _ (h1 rfl) M0 ρ0 w0 ρ a w hM hA) fun e a' w' hp=>?_)
       obtain⟨x,T1,M1,ρ1,he,k1,k2,k3,k4⟩:=hp
       exact⟨x,T1,M1,ρ1,he,k1,k2,fun t ht=>by
         simp only[fG,Nat.testBit_or,Bool.or_eq_false_iff] at ht
         exact k3 t ht.1,k4⟩
     | false =>
       refine wp_cond_false hb (wp_mono (ih c2 _ _ _ _ _ (h2 rfl) M0 ρ0 w0 ρ a w hM hA) fun e a' w' hp=>?_)
       obtain⟨x,T1,M1,ρ1,he,k1,k2,k3,k4⟩:=hp
       exact⟨x,T1,M1,ρ1,he,k1,k2,fun t ht=>by
         simp only[fG,Nat.testBit_or,Bool.or_eq_false_iff] at ht
         exact k3 t ht.2,k4⟩
   | block id c1 =>
     simp only[wpC] at h
     refine wp_block (wp_mono (ih c1 _ _ _ _ _ h M0 ρ0 w0 ρ a w hM hA) fun e a' w' hp=>?_)
     obtain⟨x,T1,M1,ρ1,rfl,k1,k2,k3,k4⟩:=hp
     cases x with
     | normal=>exact⟨.normal,T1,M1,ρ1,rfl,k1,k2,k3,k4⟩
     | ret=>exact⟨.ret,T1,M1,ρ1,rfl,k1,k2,k3,k4⟩
     | exit i =>
       simp only at k4
       split at k4
       ·rename_i he
        have he:=df he
        subst he
        simp only[P7,Exit.inBlock,if_true]
        exact⟨.normal,T1,M1,ρ1,rfl,k1,k2,k3,k4⟩
       ·rename_i he
        have he:=Di he
        simp only[P7,Exit.inBlock,if_neg he]
        exact⟨.exit i,T1,M1,ρ1,rfl,k1,k2,k3,k4⟩
   | loop c1 =>
     simp only[wpC] at h
     obtain⟨I,n,hI,hbody⟩:=h
     have hvs:∀ t∈bitsOf (fG f c1 &&& fT ret f env c1 (fT ret f env c1 0)) nt,Nat.testBit (fG f c1) t=true:=fun t' ht'=>by
      have:=(qQ.1 ht').2
      rw[Nat.testBit_and,Bool.and_eq_true] at this
      exact this.1
     generalize hv:bitsOf (fG f c1 &&& fT ret f env c1 (fT ret f env c1 0)) nt=vs at hI hbody hvs
     have hu:∀ (ρ ρ' : Ren) (x:AV),ag ρ x undef→ag ρ' x undef:=by
      intro ρ ρ' x hx
      unfold undef at hx ⊢
      cases hx with
      | top=>exact .top _
      | sc v p=>exact .sc _ p
      | tup xs vs a=>cases a; exact .tup _ _ .nil
     have hge:∀ (ρ1:Ren) t,nt≤t→ag ρ1 ((T.get t).getD .top) undef:=fun ρ1 t ht=>hu _ _ _ (hA.ge t ht)
     have key:∀ (m:Nat) (ys:List AV) (M1:RM) (ρ1:Ren) (a1:Act) (w1:World),I m ys M1→After P M0 ρ0 w0 M1 ρ1 w1→gQ ρ1 nt (xJ T (bitsOf (fG f c1) nt) vs ys) a1 →
       Code.rounds P c1 (LJ P nt M0 ρ0 w0 T (fG (f + 1) (.loop c1)) K) (m + 1) a1 w1:=by
      intro m
      induction m using Nat.strongRecOn with
      | _ m ihm =>
        intro ys M1 ρ1 a1 w1 hIm hM1 hA1
        rw[rounds_succ]
        refine wp_mono (ih c1 _ _ _ _ _ (hbody m ys M1 hIm) M0 ρ0 w0 ρ1 a1 w1 hM1 hA1) fun e a' w' hp=>?_
        obtain⟨x,T2,M2,ρ2,rfl,k1,k2,k3,k4⟩:=hp
        have k3' : ∀ t,Nat.testBit (fG f c1) t=false→T2.get t=T.get t:=fun t ht=>by rw[k3 t ht]; exact DX hvs t ht
        cases x with
        | normal =>
          obtain⟨m',hlt,hI'⟩:=k4
          exact BK (by omega) (ihm m' hlt _ M2 ρ2 a' w' hI' k1 (AU k2 (hge ρ2) k3'))
        | exit i=>exact⟨.exit i,T2,M2,ρ2,rfl,k1,k2,k3',k4⟩
        | ret=>exact⟨.ret,T2,M2,ρ2,rfl,k1,k2,k3',k4⟩
     exact wp_loop_rounds _ (key n _ M ρ a w hI hM (AU hA (hge ρ) fun _ _=>rfl))
   | exit id=>exact wp_exit ⟨.exit id,T,M,ρ,rfl,hM,hA,fun _ _=>rfl,h⟩
   | ret=>exact wp_ret ⟨.ret,T,M,ρ,rfl,hM,hA,fun _ _=>rfl,h⟩
   | rangeFunc=>simp[wpC] at h
   | scope c1 =>
     simp only[wpC] at h
     refine wp_scope_straight (wp_mono (ih c1 _ _ _ _ _ h M0 ρ0 w0 ρ a w hM hA) fun e a' w' hp=>?_)
     obtain⟨x,T1,M1,ρ1,rfl,k1,k2,k3,k4⟩:=hp
     cases x with
     | normal=>exact⟨.normal,T1,M1,ρ1,rfl,k1,k2,k3,k4⟩
     | exit i=>exact⟨.exit i,T1,M1,ρ1,rfl,k1,k2,k3,k4⟩
     | ret=>exact⟨.ret,T1,M1,ρ1,rfl,k1,k2,k3,k4⟩
   | label l=>exact wp_label ⟨.normal,T,M,ρ,rfl,hM,hA,fun _ _=>rfl,h⟩
   | goto=>simp[wpC] at h
   | refuse=>simp[wpC] at h
theorem MU {ρ:Ren} {T:Tree AV} {M:RM} {a:Act} {w:World} (hA:gQ ρ nt T a) (hw:bP P ρ M w) {r:ResultVar} {K:AV→Prop} (h:Qa P T M r K) :
  ∃ v v',(Bu a.tmps r).run P w=.ok v' w∧ag ρ v v'∧K v:=by
 cases r with
 | tmp t=>exact⟨_,_,rfl,hA.val t,h⟩
 | cell x t =>
   simp only[Qa] at h
   have hv:=hA.val x
   split at h <;> first | (cases h; done) | skip
   ·rename_i ha
    obtain⟨b,p,v,hx,hl,hk⟩:=h
    rw[hx] at hv
    obtain⟨i,hb,hc⟩:=dC hv
    obtain⟨u,hu,hcell⟩:=Ao hw hb hl
    refine⟨v,u, ?_,hu,hk⟩
    simp only[Bu,hc,asAddr,Sem.run_bind,Sem.run_pure,Result.andThen_ok,loadVar,gW ha,Bool.false_eq_true,if_false,load,Sem.run,hcell]
   ·rename_i ha
    split at h <;> first | (cases h; done) | skip
    rename_i n hs
    obtain⟨b,p,xs,hx,hl,hk⟩:=h
    rw[hx] at hv
    obtain⟨i,hb,hc⟩:=dC hv
    obtain⟨vs,hr,hlen,_,hrun⟩:=RM.jX (P:=P) hw hb hl
    exact⟨.agg xs,.agg ⟨vs⟩,by simp only[Bu,hc,asAddr,Sem.run_bind,Sem.run_pure,Result.andThen_ok,loadVar,gW ha,if_true,bT hs,hrun],.agg _ _ hr,hk⟩
theorem xQ {ρ:Ren} {T:Tree AV} {M:RM} {a:Act} {w:World} (hA:gQ ρ nt T a) (hw:bP P ρ M w) : ∀ (rs:List ResultVar) (K:List AV→Prop),PT P T M rs K →
  ∃ vs us,(rs.mapM (Bu a.tmps)).run P w=.ok us w∧aI ρ vs us∧K vs
 | [],K,h=>⟨[],[],by simp,.nil,h⟩
 | r :: rs,K,h=>by
   obtain⟨v,v',h1,h2,h3⟩:=MU hA hw h
   obtain⟨vs,us,h4,h5,h6⟩:=xQ hA hw rs _ h3
   refine⟨v :: vs,v' :: us, ?_,.cons _ _ _ _ h2 h5,h6⟩
   simp only[List.mapM_cons,Sem.run_bind,h1,Result.andThen_ok,h4,Sem.run_pure]
theorem ET (hP:zV P) {f:FuncId} {fn:Func} {c:Code} {args:List AV} {M:RM} {Q:ah} (hfn:P.funcs[f]?=some fn) (hbody:fn.body=some c) (h:Nh P fn c args M Q) : fe P f args M Q:=by
 refine⟨⟨fn,c,hfn,hbody⟩,fun ρ w us hargs hw=>?_⟩
 have hlen:=hargs.length
 have hA:gQ ρ (args.length + (fn.ntmps - args.length)) (Tree.ofList args 0 .leaf) { tmps:=⟨us⟩++Array.replicate (fn.ntmps - (⟨us⟩ : Array Value).size) undef,defers:=[] } := by
  refine⟨by simp[hlen],fun t=>?_,rfl⟩
  rw[Tree.rG]
  by_cases ht:t<args.length
  ·rw[if_pos (by omega),Nat.sub_zero]
   obtain⟨u,hu,hv⟩:=hargs.get (n:=t) (x:=args[t]) (by simp[ht])
   rw[List.getElem?_eq_getElem ht]
   simp only[Option.getD_some]
   have:((⟨us⟩ : Array Value)++Array.replicate (fn.ntmps - (⟨us⟩ : Array Value).size) undef).getD t undef=u:=by
    rw[Array.getD_eq_getD_getElem?,Array.getElem?_append_left (by simp; omega)]
    simp[hu]
   rw[this]; exact hv
  ·rw[if_neg (by omega)]
   exact .top _
 refine calls_of_wp hfn hbody (wp_mono (OQ hP 1000 c [] 0 _ M _ h M ρ w ρ _ w (After.refl hw) hA) fun e a w' hp=>?_)
 obtain⟨x,T',M',ρ',rfl,k1,k2,k3,k4⟩:=hp
 have key:(∃ vs us,(fn.results.toList.mapM (Bu a.tmps)).run P w'=.ok us w'∧aI ρ' vs us∧Tf Q M' vs) →
   a.defers=[]∧∃ v,(results fn a.tmps).run P w'=.ok v w'∧∃ v' v_1 Sn TQ,Ending.returned v=.returned v'∧After P M ρ w Sn TQ w'∧ag TQ v_1 v'∧Q v_1 Sn:=by
  rintro⟨vs,us,h1,h2,h3⟩
  have hres:(results fn a.tmps).run P w'=.ok (if h:(⟨us⟩ : Array Value).size=1 then(⟨us⟩ : Array Value)[0] else .tuple ⟨us⟩) w':=by
   have e:results fn a.tmps=(fn.results.mapM (Bu a.tmps) >>= fun vs=>pure (if h:vs.size=1 then vs[0] else .tuple vs)):=rfl
   rw[e,Array.mapM_eq_mapM_toList]
   simp only[Sem.run_bind,Sem.run_map,h1,Result.andThen_ok,Sem.run_pure]
  refine⟨k2.defers,_,hres, ?_⟩
  cases h2 with
  | nil=>exact⟨_,_,M',ρ',rfl,k1,.tup _ _ .nil,h3⟩
  | cons x v xs vs2 hv htl =>
    cases htl with
    | nil=>exact⟨_,x,M',ρ',rfl,k1,hv,h3⟩
    | cons y u ys us2 hu Xm=>exact⟨_,_,M',ρ',rfl,k1,.tup _ _ (.cons _ _ _ _ hv (.cons _ _ _ _ hu Xm)),h3⟩
 cases x with
 | normal=>exact key (xQ k2 k1.rel _ _ k4)
 | ret=>exact key (xQ k2 k1.rel _ _ k4)
 | exit id=>exact k4.elim
abbrev ak:=List AV→RM→ah→Prop
def Fv (P:Program) (fn:Func) (args:List AV) (M:RM) (Q:ah) : Prop :=
 match fn.body with
 | some c=>Nh P fn c args M Q
 | none=>False
theorem OH (hP:zV P) {f:FuncId} {fn:Func} {args:List AV} {M:RM} {Q:ah} (hfn:P.funcs[f]?=some fn) (h:Fv P fn args M Q) : fe P f args M Q:=by
 unfold Fv at h
 split at h
 ·rename_i c hc; exact ET hP hfn hc h
 ·cases h
end
end Go.Ab
set_option maxRecDepth 100000
namespace Go.Ab.Hw
open Go Go.Ab
def mX (p1:Nat) (p2:ak) (p3:Nat) (p4 p5 p6 p7 p8 p9 p10:ak) (a0 a1 a2 a3 a4:AV) (M0:RM) (Q:ah) : Prop:=nL p1 a0 fun xy wl=>bf xy wl M0 fun d wd=>p2 [] wd fun zg n=>ek zg fun zh=>ax zh ( Q (Bo false) n) ( aJ d 3 fun zi=>aj n zi fun zj=>aT zj fun zk=>af .gtr zk (N .i64 2000) fun m=>aa m false (fun c=>aJ d 2 fun zl=>c zl n) (fun c=>c .undef n) fun zm u=>aa m false (fun w7=>aj u zm fun zn=>w7 zn u) (fun c=>c .undef u) fun zo vq=>aa m false (fun xh=>aT zo fun zp=>xh zp vq) (fun c=>c .undef vq) fun zq vy=>aa m false (fun xu=>af .gtr zq (N .i64 40) fun zr=>xu zr vy) (fun c=>c .undef vy) fun zs H=>ay m (Bo true) zs fun p=>aa p false (fun wu=>wu a2 H) (fun c=>c .undef H) fun zt W=>aa p false (fun w2=>aT zt fun zu=>w2 zu W) (fun c=>c .undef W) fun zv va=>aa p false (fun w3=>af .gtr zv (N .i64 40) fun zw=>w3 zw va) (fun c=>c .undef va) fun zx vb=>ay p (Bo true) zx fun q=>aa q false (fun w4=>w4 a3 vb) (fun c=>c .undef vb) fun zy vc=>aa q false (fun w5=>aT zy fun zz=>w5 zz vc) (fun c=>c .undef vc) fun z0 vd=>aa q false (fun w6=>af .gtr z0 (N .i64 500) fun z1=>w6 z1 vd) (fun c=>c .undef vd) fun z2 o=>ay q (Bo true) z2 fun z3=>ax z3 ( Q (Bo true) o) ( aJ d 2 fun z4=>aj o z4 fun z5=>aJ d 3 fun z6=>aj o z6 fun z7=>fM [(N .i64 0),(.sc (.slice none 0 0)),(.sc (.slice none 0 0))] [(0,1,a1),(1,1,z5),(2,1,z7)] fun z8=>bf (.row [(N .i64 0),(.sc (.slice none 0 0)),(.sc (.slice none 0 0))] false p3 0) (fun wk=>.ptr wk 0) o fun D wg=>aK wg D z8 3 fun ve=>bI ve d 4 fun z9=>p4 [z9] ve fun v3 vf=>aF v3 0 fun v4=>aF v3 1 fun c0=>bI vf D 3 fun c1=>p5 [c1] vf fun v5 vg=>aF v5 0 fun c2=>aF v5 1 fun c3=>bI vg d 4 fun c4=>p6 [c4,a2] vg fun v6 vh=>aF v6 0 fun v7=>aF v6 1 fun c5=>bI vh d 4 fun c6=>p7 [c6] vh fun c7 wh=>p8 [c7,(Bo true),(Bo false),(.sc (.slice none 0 0))] wh fun v8 vi=>aF v8 0 fun c8=>aF v8 1 fun v9=>bI vi D 3 fun c9=>p9 [c9] vi fun d0 wi=>p8 [d0,(Bo false),(Bo false),(.sc (.slice none 0 0))] wi fun wa vj=>aF wa 0 fun d1=>aF wa 1 fun d2=>bI vj d 4 fun d3=>p7 [d3] vj fun d4 wj=>p8 [d4,(Bo true),(Bo true),a2] wj fun wb vk=>aF wb 0 fun d5=>aF wb 1 fun wc=>af .neq c0 v9 fun r=>aa r false (fun w8=>w8 c3 vk) (fun c=>c .undef vk) fun d6 vl=>aa r false (fun w9=>w9 d2 vl) (fun c=>c .undef vl) fun d7 vm=>aa r false (fun xa=>af .neq d6 d7 fun d8=>xa d8 vm) (fun c=>c .undef vm) fun d9 vn=>ay r (Bo true) d9 fun s=>aa s false (fun xb=>xb c5 vn) (fun c=>c .undef vn) fun e0 vo=>aa s false (fun xc=>xc wc vo) (fun c=>c .undef vo) fun e1 vp=>aa s false (fun xd=>af .neq e0 e1 fun e2=>xd e2 vp) (fun c=>c .undef vp) fun e3 vr=>ay s (Bo true) e3 fun j=>aa j false (fun xe=>xe v4 vr) (fun c=>c .undef vr) fun xz v=>aa j false (fun xf=>bQ v xz fun x0=>xf x0 v) (fun c=>c .undef v) fun x1 vs=>aa j false (fun xg=>xg c8 vs) (fun c=>c .undef vs) fun x2 w=>aa j false (fun xi=>bQ w x2 fun x3=>xi x3 w) (fun c=>c .undef w) fun x4 vt=>aa j false (fun xj=>aQ .neq x1 x4 fun x5=>xj x5 vt) (fun c=>c .undef vt) fun x6 vu=>ay j (Bo true) x6 fun h=>aa h false (fun xk=>xk c2 vu) (fun c=>c .undef vu) fun x7 x=>aa h false (fun xl=>bQ x x7 fun x8=>xl x8 x) (fun c=>c .undef x) fun x9 vv=>aa h false (fun xm=>xm d1 vv) (fun c=>c .undef vv) fun ya y=>aa h false (fun xn=>bQ y ya fun yb=>xn yb y) (fun c=>c .undef y) fun yc vw=>aa h false (fun xo=>aQ .neq x9 yc fun yd=>xo yd vw) (fun c=>c .undef vw) fun ye vx=>ay h (Bo true) ye fun i=>aa i false (fun xp=>xp v7 vx) (fun c=>c .undef vx) fun yf z=>aa i false (fun xq=>bQ z yf fun yg=>xq yg z) (fun c=>c .undef z) fun yh vz=>aa i false (fun xr=>xr d5 vz) (fun c=>c .undef vz) fun yi A=>aa i false (fun xs=>bQ A yi fun yj=>xs yj A) (fun c=>c .undef A) fun yk v0=>aa i false (fun xt=>aQ .neq yh yk fun yl=>xt yl v0) (fun c=>c .undef v0) fun ym B=>ay i (Bo true) ym fun yn=>ax yn ( Q (Bo false) B) ( af .eql v9 (N .i64 0) fun e=>aa e true (fun xv=>xv v4 B) (fun c=>c .undef B) fun yo v1=>aa e true (fun xw=>aJ d 3 fun yp=>xw yp v1) (fun c=>c .undef v1) fun yq C=>aa e true (fun xx=>aj C yq fun yr=>xx yr C) (fun c=>c .undef C) fun ys v2=>aa e true (fun wm=>wm a3 v2) (fun c=>c .undef v2) fun yt E=>aa e true (fun wn=>wn a4 E) (fun c=>c .undef E) fun yu F=>aa e true (fun wo=>p10 [yo,ys,yt,yu] F fun yv we=>wo yv we) (fun c=>c .undef F) fun yw G=>aa e true (fun wp=>ek yw fun yx=>wp yx G) (fun c=>c .undef G) fun yy I=>ay e yy (Bo false) fun l=>aa l false (fun wq=>wq wc I) (fun c=>c .undef I) fun yz L=>aa l false (fun wr=>af .eql yz (N .i64 0) fun y0=>wr y0 L) (fun c=>c .undef L) fun y1 O=>aa l false (fun ws=>ws y1 O) (fun c=>c .undef O) fun g P=>aa g true (fun wt=>wt v7 P) (fun c=>c .undef P) fun y2 R=>aa g true (fun wv=>aJ d 3 fun y3=>wv y3 R) (fun c=>c .undef R) fun y4 t=>aa g true (fun ww=>aj t y4 fun y5=>ww y5 t) (fun c=>c .undef t) fun y6 S=>aa g true (fun wx=>wx a3 S) (fun c=>c .undef S) fun y7 U=>aa g true (fun wy=>wy a4 U) (fun c=>c .undef U) fun y8 V=>aa g true (fun wz=>p10 [y2,y6,y7,y8] V fun y9 wf=>wz y9 wf) (fun c=>c .undef V) fun za X=>aa g true (fun w0=>ek za fun zb=>w0 zb X) (fun c=>c .undef X) fun zc Y=>aa l false (fun w1=>ay g zc (Bo false) fun zd=>w1 zd Y) (fun c=>c .undef Y) fun ze Z=>ay l (Bo true) ze fun zf=>ax zf ( Q (Bo false) Z) ( Q (Bo true) Z))))
def zC (p1 p2:Nat) (p3:ak) (p4:Nat) (p5 p6 p7 p8:ak) (p9:Nat) (p10:ak) (p11:Nat) (p12:ak) (M0:RM) (Q:ah) : Prop:=fM [(St []),(St [])] [(0,1,(St [88])),(1,1,(St [49]))] fun zu=>dW p1 1 [(St []),(St [])] [(0,2,zu)] fun x9 wy=>bf x9 wy M0 fun zv wb=>fM [(St []),(St []),(.sc (.slice none 0 0)),(.sc (.slice none 0 0))] [(0,1,(St [71,69,84])),(1,1,(St [47,97])),(2,1,zv)] fun zw=>bf (.row [(St []),(St []),(.sc (.slice none 0 0)),(.sc (.slice none 0 0))] false p2 0) (fun d=>.ptr d 0) wb fun l wc=>aK wc l zw 4 fun G=>bI G l 4 fun zx=>p3 [zx] G fun v2 wl=>aF v2 0 fun A=>aF v2 1 fun zy=>dW p4 0 [(N .u8 0)] [] fun yd w2=>bf yd w2 wl fun zz wv=>appW p4 1 1 [(N .u8 0)] false zz A wv fun z0 ww=>dW p4 1 [(N .u8 0)] [(0,1,(N .u8 120))] fun ye w3=>bf ye w3 ww fun z1 wx=>appW p4 1 1 [(N .u8 0)] false z0 z1 wx fun z2 wd=>p5 [z2] wd fun B we=>aF B 0 fun z3=>aF B 1 fun z4=>aF B 2 fun z5=>bf (.row [(St []),(St []),(.sc (.slice none 0 0)),(.sc (.slice none 0 0))] false p2 0) (fun d=>.ptr d 0) we fun v3 wf=>aK wf v3 z3 4 fun Z=>bI Z v3 4 fun z6=>p6 [z6,(St [120])] Z fun v4 wg=>aF v4 0 fun z7=>aF v4 1 fun z8=>dW p4 2 [(N .u8 0)] [(0,1,(N .u8 110)),(1,1,(N .u8 111))] fun ya wz=>bf ya wz wg fun z9 wi=>qN z9 wi fun c0 wj=>fM [(N .i64 0),(.sc (.slice none 0 0)),(.sc (.slice none 0 0))] [(0,1,(N .i64 404)),(2,1,c0)] fun c1=>p7 [c1] wj fun v5 wk=>aF v5 0 fun v6=>aF v5 1 fun c2=>p8 [v6] wk fun C wm=>aF C 0 fun c3=>aF C 1 fun c4=>aF C 2 fun c5=>bf (.row [(N .i64 0),(.sc (.slice none 0 0)),(.sc (.slice none 0 0))] false p9 0) (fun d=>.ptr d 0) wm fun m wn=>aK wn m c3 3 fun vc=>bI vc m 3 fun c6=>p10 [c6,(St [67,79,78,84,69,78,84,45,76,69,78,71,84,72])] vc fun v7 wo=>aF v7 0 fun c7=>aF v7 1 fun c8=>dW p4 4 [(N .u8 0)] [(0,1,(N .u8 97)),(1,1,(N .u8 98)),(2,1,(N .u8 99)),(3,1,(N .u8 100))] fun yb w0=>bf yb w0 wo fun c9 wp=>qN c9 wp fun d0 wq=>aJ l 3 fun d1=>aK wq d1 d0 1 fun vd=>bI vd l 4 fun d2=>dW p11 1 [(N .i64 0)] [(0,1,(N .i64 3))] fun yc w1=>bf yc w1 vd fun d3 wr=>p12 [d2,d3] wr fun v8 ws=>aF v8 0 fun v9=>aF v8 1 fun d4=>p5 [v9] ws fun D wt=>aF D 0 fun d5=>aF D 1 fun d6=>aF D 2 fun d7=>bf (.row [(St []),(St []),(.sc (.slice none 0 0)),(.sc (.slice none 0 0))] false p2 0) (fun d=>.ptr d 0) wt fun v1 wu=>aK wu v1 d5 4 fun ve=>af .eql zy (N .i64 0) fun o=>aa o true (fun c=>c A ve) (fun c=>c .undef ve) fun d8 r=>aa o true (fun xl=>bQ r d8 fun d9=>xl d9 r) (fun c=>c .undef r) fun e0 vf=>aa o true (fun xm=>aQ .eql e0 (St [71,69,84,32,47,97,32,72,84,84,80,47,49,46,49,13,10,88,58,32,49,13,10,67,111,110,116,101,110,116,45,76,101,110,103,116,104,58,32,48,13,10,13,10]) fun e1=>xm e1 vf) (fun c=>c .undef vf) fun e2 vg=>ay o e2 (Bo false) fun E=>aa E true (fun xn=>xn z5 vg) (fun c=>c .undef vg) fun e3 vh=>aa E true (fun xo=>af .eql e3 (N .i64 0) fun e4=>xo e4 vh) (fun c=>c .undef vh) fun e5 vi=>ay E e5 (Bo false) fun j=>aa j true (fun xp=>xp z4 vi) (fun c=>c .undef vi) fun e6 vj=>aa j true (fun xq=>xq A vj) (fun c=>c .undef vj) fun e7 vk=>aa j true (fun xr=>aT e7 fun e8=>xr e8 vk) (fun c=>c .undef vk) fun e9 vl=>aa j true (fun xs=>af .eql e6 e9 fun g0=>xs g0 vl) (fun c=>c .undef vl) fun g1 vm=>ay j g1 (Bo false) fun wa=>aa wa true (fun xt=>xt z8 vm) (fun c=>c .undef vm) fun g2 vn=>ay wa g2 (Bo false) fun F=>aa F true (fun xu=>xu z7 vn) (fun c=>c .undef vn) fun g3 vo=>aa F true (fun xv=>aQ .eql g3 (St [49]) fun g4=>xv g4 vo) (fun c=>c .undef vo) fun g5 vp=>ay F g5 (Bo false) fun v=>aa v true (fun xw=>xw c2 vp) (fun c=>c .undef vp) fun yf vq=>aa v true (fun xx=>af .eql yf (N .i64 0) fun yg=>xx yg vq) (fun c=>c .undef vq) fun yh vr=>ay v yh (Bo false) fun w=>aa w true (fun xy=>xy c5 vr) (fun c=>c .undef vr) fun yi vs=>aa w true (fun xz=>af .eql yi (N .i64 0) fun yj=>xz yj vs) (fun c=>c .undef vs) fun yk vt=>ay w yk (Bo false) fun e=>aa e true (fun x0=>x0 c4 vt) (fun c=>c .undef vt) fun yl vu=>aa e true (fun x1=>x1 v6 vu) (fun c=>c .undef vu) fun ym vv=>aa e true (fun x2=>aT ym fun yn=>x2 yn vv) (fun c=>c .undef vv) fun yo vw=>aa e true (fun x3=>af .eql yl yo fun yp=>x3 yp vw) (fun c=>c .undef vw) fun yq vx=>ay e yq (Bo false) fun n=>aa n true (fun x4=>aJ m 0 fun yr=>x4 yr vx) (fun c=>c .undef vx) fun ys s=>aa n true (fun x5=>aj s ys fun yt=>x5 yt s) (fun c=>c .undef s) fun yu vy=>aa n true (fun x6=>af .eql yu (N .i64 404) fun yv=>x6 yv vy) (fun c=>c .undef vy) fun yw vz=>ay n yw (Bo false) fun g=>aa g true (fun x7=>aJ m 2 fun yx=>x7 yx vz) (fun c=>c .undef vz) fun yy t=>aa g true (fun x8=>aj t yy fun yz=>x8 yz t) (fun c=>c .undef t) fun y0 u=>aa g true (fun w4=>bQ u y0 fun y1=>w4 y1 u) (fun c=>c .undef u) fun y2 H=>aa g true (fun w5=>aQ .eql y2 (St [110,111]) fun y3=>w5 y3 H) (fun c=>c .undef H) fun y4 I=>ay g y4 (Bo false) fun v0=>aa v0 true (fun w6=>w6 c8 I) (fun c=>c .undef I) fun y5 L=>ay v0 y5 (Bo false) fun x=>aa x true (fun w7=>w7 c7 L) (fun c=>c .undef L) fun y6 O=>aa x true (fun w8=>aQ .eql y6 (St [50]) fun y7=>w8 y7 O) (fun c=>c .undef O) fun y8 P=>ay x y8 (Bo false) fun y=>aa y true (fun w9=>w9 d4 P) (fun c=>c .undef P) fun y9 R=>aa y true (fun xa=>af .eql y9 (N .i64 0) fun za=>xa za R) (fun c=>c .undef R) fun zb S=>ay y zb (Bo false) fun z=>aa z true (fun xb=>xb d7 S) (fun c=>c .undef S) fun zc U=>aa z true (fun xc=>af .eql zc (N .i64 0) fun zd=>xc zd U) (fun c=>c .undef U) fun ze V=>ay z ze (Bo false) fun h=>aa h true (fun xd=>xd d6 V) (fun c=>c .undef V) fun zf W=>aa h true (fun xe=>xe v9 W) (fun c=>c .undef W) fun zg X=>aa h true (fun xf=>aT zg fun zh=>xf zh X) (fun c=>c .undef X) fun zi Y=>aa h true (fun xg=>af .eql zf zi fun zj=>xg zj Y) (fun c=>c .undef Y) fun zk va=>ay h zk (Bo false) fun i=>aa i true (fun xh=>aJ v1 3 fun zl=>xh zl va) (fun c=>c .undef va) fun zm p=>aa i true (fun xi=>aj p zm fun zn=>xi zn p) (fun c=>c .undef p) fun zo q=>aa i true (fun xj=>bQ q zo fun zp=>xj zp q) (fun c=>c .undef q) fun zq vb=>aa i true (fun xk=>aQ .eql zq (St [97,98,99,100]) fun zr=>xk zr vb) (fun c=>c .undef vb) fun zs wh=>ay i zs (Bo false) fun zt=>Q zt wh
def jA (p1 p2:Nat) (p3 p4:ak) (a0:AV) (M0:RM) (Q:ah) : Prop:=bf (.row [(St []),(St []),(.sc (.slice none 0 0)),(.sc (.slice none 0 0))] false p1 0) (fun g=>.ptr g 0) M0 fun c r=>bf (.row [(St []),(St []),(.sc (.slice none 0 0)),(.sc (.slice none 0 0))] false p1 0) (fun g=>.ptr g 0) r fun d s=>p3 [a0,(.fn (.func p2) [] [d])] s fun h j=>aF h 0 fun o=>aF h 1 fun y=>aF h 2 fun p=>af .neq p (N .i64 0) fun z=>ax z ( fM [(St []),(St []),(.sc (.slice none 0 0)),(.sc (.slice none 0 0))] [] fun A=>aK j c A 4 fun l=>bI l c 4 fun v=>Q (.tup [v,(N .i64 0),p]) l) ( aJ d 2 fun B=>aK j B o 1 fun t=>p4 [a0,y,o] t fun i u=>aF i 0 fun C=>aF i 1 fun D=>aF i 2 fun q=>aJ d 3 fun E=>aK u E C 1 fun e=>af .neq q (N .i64 0) fun F=>ax F ( fM [(St []),(St []),(.sc (.slice none 0 0)),(.sc (.slice none 0 0))] [] fun G=>aK e c G 4 fun m=>bI m c 4 fun w=>Q (.tup [w,(N .i64 0),q]) m) ( bI e d 4 fun H=>aK e c H 4 fun n=>bI n c 4 fun x=>Q (.tup [x,D,(N .i64 0)]) n))
def je (p1:Nat) (p2 p3 p4:ak) (a0:AV) (M0:RM) (Q:ah) : Prop:=nL p1 a0 fun v u=>bf v u M0 fun d g=>bI g d 4 fun O=>p2 [O] g fun P c=>ek P fun R=>ax R ( Q (.tup [(.sc (.slice none 0 0)),(N .i64 1)]) c) ( aJ d 0 fun r=>aj c r fun s=>aQ .add s (St [32]) fun U=>aJ d 1 fun h=>aj c h fun i=>aQ .add U i fun x=>aQ .add x (St [32]) fun y=>aQ .add y (St [72,84,84,80,47,49,46,49]) fun z=>aJ d 2 fun j=>aj c j fun l=>aJ d 3 fun B=>aj c B fun C=>aT C fun D=>aJ d 3 fun m=>aj c m fun n=>aT n fun G=>aJ d 3 fun o=>aj c o fun p=>p3 [D] c fun E e=>aj e r fun S=>(S=s∧aj e h fun w=>(w=i∧aj e j fun A=>(A=l∧aj e m fun F=>(F=n∧aj e o fun H=>(H=p∧p4 [z,l,E,G,p] e fun q t=>aF q 0 fun I=>aF q 1 fun L=>Q (.tup [I,L]) t))))))
def iX (p1:Nat) (p2 p3 p4:ak) (a0:AV) (M0:RM) (Q:ah) : Prop:=nL p1 a0 fun C z=>bf C z M0 fun c l=>aJ c 0 fun vk=>aj l vk fun vl=>af .lss vl (N .i64 100) fun j=>aa j false (fun d=>aJ c 0 fun vm=>d vm l) (fun d=>d .undef l) fun vn m=>aa j false (fun A=>aj m vn fun D=>A D m) (fun d=>d .undef m) fun E u=>aa j false (fun B=>af .gtr E (N .i64 599) fun F=>B F u) (fun d=>d .undef u) fun G i=>ay j (Bo true) G fun H=>ax H ( Q (.tup [(.sc (.slice none 0 0)),(N .i64 1)]) i) ( dL (fun t=>aJ c 0 fun I=>aj i I fun L=>af .quo L (N .i64 100) fun O=>af .eql O (N .i64 2) fun P=>ax P ( t [(St [79,75])] i) ( t [(St [78,111])] i)) (fun vo e=>aJ c 0 fun R=>aj e R fun S=>aJ c 1 fun n=>aj e n fun o=>aJ c 2 fun v=>aj e v fun w=>aT w fun vb=>aJ c 2 fun p=>aj e p fun q=>aT q fun vf=>aJ c 2 fun r=>aj e r fun s=>p2 [S] e fun U g=>aj g n fun Z=>(Z=o∧aj g v fun va=>(va=w∧aj g p fun ve=>(ve=q∧aj g r fun vh=>(vh=s∧aQ .add (St [72,84,84,80,47,49,46,49,32]) U fun V=>aQ .add V (St [32]) fun W=>aQ .add W (ai vo 0) fun X=>p3 [vb] g fun vc h=>aj h n fun Y=>(Y=o∧aj h p fun vd=>(vd=q∧aj h r fun vg=>(vg=s∧p4 [X,o,vc,vf,s] h fun x y=>aF x 0 fun vi=>aF x 1 fun vj=>Q (.tup [vi,vj]) y)))))))))
def jd (p1 p2:Nat) (p3 p4:ak) (a0:AV) (M0:RM) (Q:ah) : Prop:=bf (.row [(N .i64 0),(.sc (.slice none 0 0)),(.sc (.slice none 0 0))] false p1 0) (fun g=>.ptr g 0) M0 fun c r=>bf (.row [(N .i64 0),(.sc (.slice none 0 0)),(.sc (.slice none 0 0))] false p1 0) (fun g=>.ptr g 0) r fun d s=>p3 [a0,(.fn (.func p2) [] [d])] s fun h j=>aF h 0 fun o=>aF h 1 fun y=>aF h 2 fun p=>af .neq p (N .i64 0) fun z=>ax z ( fM [(N .i64 0),(.sc (.slice none 0 0)),(.sc (.slice none 0 0))] [] fun A=>aK j c A 3 fun l=>bI l c 3 fun v=>Q (.tup [v,(N .i64 0),p]) l) ( aJ d 1 fun B=>aK j B o 1 fun t=>p4 [a0,y,o] t fun i u=>aF i 0 fun C=>aF i 1 fun D=>aF i 2 fun q=>aJ d 2 fun E=>aK u E C 1 fun e=>af .neq q (N .i64 0) fun F=>ax F ( fM [(N .i64 0),(.sc (.slice none 0 0)),(.sc (.slice none 0 0))] [] fun G=>aK e c G 3 fun m=>bI m c 3 fun w=>Q (.tup [w,(N .i64 0),q]) m) ( bI e d 3 fun H=>aK e c H 3 fun n=>bI n c 3 fun x=>Q (.tup [x,D,(N .i64 0)]) n))
def oH (p1 p2:Nat) (p3:ak) (a0:AV) (M0:RM) (Q:ah) : Prop:=nL p1 a0 fun s r=>bf s r M0 fun e p=>bf (.row [(St []),(St []),(N .i64 0),(.sc (.slice none 0 0)),(.sc (.slice none 0 0))] false p2 0) (fun q=>.ptr q 0) p fun j c=>aJ e 0 fun l=>aj c l fun m=>aJ e 1 fun n=>aj c n fun o=>aJ e 2 fun y=>aj c y fun z=>aJ e 3 fun h=>aj c h fun i=>p3 [z] c fun A d=>aj d l fun w=>(w=m∧aj d n fun x=>(x=o∧aj d h fun u=>(u=i∧fM [(St []),(St []),(N .i64 0),(.sc (.slice none 0 0)),(.sc (.slice none 0 0))] [(0,1,m),(1,1,o),(3,1,A),(4,1,i)] fun v=>aK d j v 5 fun g=>bI g j 5 fun t=>Q t g)))
def nu (p1 p2:Nat) (p3:ak) (a0:AV) (M0:RM) (Q:ah) : Prop:=nL p1 a0 fun q p=>bf q p M0 fun e n=>bf (.row [(St []),(St []),(N .i64 0),(.sc (.slice none 0 0)),(.sc (.slice none 0 0))] false p2 0) (fun o=>.ptr o 0) n fun h c=>aJ e 0 fun i=>aj c i fun j=>aJ e 1 fun u=>aj c u fun v=>aJ e 2 fun l=>aj c l fun m=>p3 [v] c fun w d=>aj d i fun t=>(t=j∧aj d l fun x=>(x=m∧fM [(St []),(St []),(N .i64 0),(.sc (.slice none 0 0)),(.sc (.slice none 0 0))] [(2,1,j),(3,1,w),(4,1,m)] fun s=>aK d h s 5 fun g=>bI g h 5 fun r=>Q r g))
def lv (p1:Nat) (p2 p3:ak) (p4 p5:Nat) (p6:ak) (p7:Nat) (p8 p9:ak) (a0 a1:AV) (M0:RM) (Q:ah) : Prop:=nL p1 a0 fun vf U=>bf vf U M0 fun e n=>bI n e 4 fun vp=>p2 [vp] n fun vq j=>ek vq fun vr=>ax vr ( Q (.tup [(.sc (.slice none 0 0)),(N .i64 1)]) j) ( aJ e 3 fun vs=>aj j vs fun q=>p3 [a1] j fun vt x=>aT q fun vu=>dW p4 1 [(N .i64 0)] [(0,1,vu)] fun vi va=>bf vi va x fun vv E=>appW p4 1 8 [(N .i64 0)] false vt vv E fun r I=>aT r fun vw=>eX (fun ve c h=>af .lss (ai c 2) vw fun vx=>ax vx ( dL (fun i=>cK r (ai c 2) 1 fun vy=>aj h vy fun vz=>aT (ai c 1) fun v0=>Fs false vz v0 fun d=>af .lss d (N .i64 1) fun v1=>ax v1 ( i [(ai c 0),(ai c 1)] h) ( (( bL (dz 1 (ai c 1) none (some d) none) fun l=>dW p5 2 [(N .u8 0)] [(0,1,(N .u8 13)),(1,1,(N .u8 10))] fun vo vd=>vN vo vd h fun u P R=>p6 [d,(N .i64 16)] P fun v2 o=>bL (dz 1 (ai c 1) none (some d) none) fun v7=>(v7=l∧dW p5 2 [(N .u8 0)] [(0,1,(N .u8 13)),(1,1,(N .u8 10))] fun vk Y=>(G7 R o vk Y u∧aQ .add v2 (St [13,10]) fun s=>iN p5 s fun vg V=>vN vg V o fun t y S=>qN u y fun wb p=>iN p5 s fun vj X=>(G7 S p vj X t∧bL (dz 1 (ai c 1) none (some d) none) fun v6=>(v6=l∧dW p7 4 [(.sc (.slice none 0 0))] [(0,1,(ai c 0)),(1,1,t),(2,1,l),(3,1,wb)] fun vh W=>vN vh W p fun wd z w1=>p8 [wd] z fun wf A=>bL (dz 1 (ai c 1) (some d) none none) fun wh=>i [wf,wh] A)))))∧( dW p5 2 [(N .u8 0)] [(0,1,(N .u8 13)),(1,1,(N .u8 10))] fun vl Z=>vN vl Z h fun wa B w2=>bL (dz 1 (ai c 1) none (some d) none) fun m=>qN wa B fun wc C=>bL (dz 1 (ai c 1) none (some d) none) fun v9=>(v9=m∧p6 [d,(N .i64 16)] C fun v3 D=>bL (dz 1 (ai c 1) none (some d) none) fun v8=>(v8=m∧aQ .add v3 (St [13,10]) fun v4=>iN p5 v4 fun vm vb=>vN vm vb D fun v5 F w3=>dW p7 4 [(.sc (.slice none 0 0))] [(0,1,(ai c 0)),(1,1,v5),(2,1,m),(3,1,wc)] fun vn vc=>vN vn vc F fun we G w4=>p8 [we] G fun wg H=>bL (dz 1 (ai c 1) (some d) none none) fun wi=>i [wg,wi] H)))))) (fun w L=>af .add (ai c 2) (N .i64 1) fun wj=>ve [(ai w 0),(ai w 1),wj] L)) ( appW p5 1 1 [(N .u8 0)] false (ai c 0) (St [48,13,10,13,10]) h fun wk g=>aJ e 0 fun wl=>aj g wl fun wm=>aQ .add wm (St [32]) fun wn=>aJ e 1 fun wo=>aj g wo fun wp=>aQ .add wn wp fun wq=>aQ .add wq (St [32]) fun wr=>aQ .add wr (St [72,84,84,80,47,49,46,49]) fun ws=>aJ e 2 fun wt=>aj g wt fun wu=>fM [(St []),(St [])] [(0,1,(St [84,114,97,110,115,102,101,114,45,69,110,99,111,100,105,110,103])),(1,1,(St [99,104,117,110,107,101,100]))] fun wv=>aJ e 3 fun ww=>aj g ww fun wx=>aT wx fun wy=>p9 [ws,wu,wv,wy,wk] g fun v O=>aF v 0 fun wz=>aF v 1 fun w0=>Q (.tup [wz,w0]) O)) [(.sc (.slice none 0 0)),q,(N .i64 0)] I)
def qy (p1:Nat) (p2 p3 p4:ak) (p5:Nat) (p6 p7 p8:ak) (p9:Nat) (a0 a1 a2 a3:AV) (M0:RM) (Q:ah) : Prop:=nL p1 a0 fun xv wn=>bf xv wn M0 fun d r=>aJ d 0 fun zn=>aj r zn fun zu=>aQ .add zu (St [32]) fun zw=>aJ d 1 fun zx=>aj r zx fun zy=>aQ .add zw zy fun zz=>aQ .add zz (St [32,72,84,84,80,47,49,46,49,13,10]) fun z0=>aa a1 true (fun c=>aJ d 0 fun z1=>c z1 r) (fun c=>c .undef r) fun z2 z=>aa a1 true (fun w1=>aj z z2 fun z3=>w1 z3 z) (fun c=>c .undef z) fun z4 vo=>aa a1 true (fun xd=>p2 [z4] vo fun z5 wh=>xd z5 wh) (fun c=>c .undef vo) fun z6 vy=>aa a1 true (fun xo=>xo z6 vy) (fun c=>c .undef vy) fun u X=>aa u true (fun ws=>aJ d 1 fun z7=>ws z7 X) (fun c=>c .undef X) fun z8 D=>aa u true (fun wz=>aj D z8 fun z9=>wz z9 D) (fun c=>c .undef D) fun c0 vg=>aa u true (fun w0=>p3 [c0] vg fun c1 wg=>w0 c1 wg) (fun c=>c .undef vg) fun c2 vh=>aa a1 true (fun w2=>ay u c2 (Bo false) fun c3=>w2 c3 vh) (fun c=>c .undef vh) fun c4 vi=>aa a1 true (fun w3=>ek c4 fun c5=>w3 c5 vi) (fun c=>c .undef vi) fun c6 vj=>ay a1 c6 (Bo false) fun o=>aa o false (fun w4=>w4 a1 vj) (fun c=>c .undef vj) fun c7 vk=>aa o false (fun w5=>ek c7 fun c8=>w5 c8 vk) (fun c=>c .undef vk) fun c9 vl=>aa o false (fun w6=>w6 c9 vl) (fun c=>c .undef vl) fun j vm=>aa j true (fun w7=>aJ d 2 fun d0=>w7 d0 vm) (fun c=>c .undef vm) fun d1 E=>aa j true (fun w8=>aj E d1 fun d2=>w8 d2 E) (fun c=>c .undef E) fun d3 vn=>aa j true (fun w9=>af .lss d3 (N .i64 100) fun d4=>w9 d4 vn) (fun c=>c .undef vn) fun d5 vp=>aa j true (fun xa=>xa d5 vp) (fun c=>c .undef vp) fun v vq=>aa v false (fun xb=>aJ d 2 fun d6=>xb d6 vq) (fun c=>c .undef vq) fun d7 F=>aa v false (fun xc=>aj F d7 fun d8=>xc d8 F) (fun c=>c .undef F) fun d9 vr=>aa v false (fun xe=>af .gtr d9 (N .i64 599) fun e0=>xe e0 vr) (fun c=>c .undef vr) fun e1 vs=>aa j true (fun xf=>ay v (Bo true) e1 fun e2=>xf e2 vs) (fun c=>c .undef vs) fun e3 vt=>aa o false (fun xg=>ay j e3 (Bo false) fun e4=>xg e4 vt) (fun c=>c .undef vt) fun e5 t=>ay o (Bo true) e5 fun e6=>ax e6 ( Q (.tup [(.sc (.slice none 0 0)),(N .i64 1)]) t) ( dL (fun x=>ek a1 fun e7=>ax e7 ( aJ d 2 fun e8=>aj t e8 fun e9=>p4 [e9,(N .i64 10)] t fun g0 G=>aQ .add (St [72,84,84,80,47,49,46,49,32]) g0 fun g1=>aQ .add g1 (St [32,78,111,13,10]) fun g2=>aJ d 2 fun g3=>aj G g3 fun g4=>af .geq g4 (N .i64 200) fun w=>aa w true (fun xh=>aJ d 2 fun g5=>xh g5 G) (fun c=>c .undef G) fun g6 H=>aa w true (fun xi=>aj H g6 fun g7=>xi g7 H) (fun c=>c .undef H) fun g8 vu=>aa w true (fun xj=>af .lss g8 (N .i64 300) fun g9=>xj g9 vu) (fun c=>c .undef vu) fun h0 I=>ay w h0 (Bo false) fun h1=>ax h1 ( aJ d 2 fun h2=>aj I h2 fun h3=>p4 [h3,(N .i64 10)] I fun h4 wi=>aQ .add (St [72,84,84,80,47,49,46,49,32]) h4 fun h5=>aQ .add h5 (St [32,79,75,13,10]) fun h6=>x [h6] wi) ( x [g2] I)) ( x [z0] t)) (fun l2 wj=>eX (fun xt l h=>aJ d 3 fun h7=>aj h h7 fun h8=>aT h8 fun h9=>af .lss (ai l 1) h9 fun i0=>ax i0 ( aJ d 3 fun i2=>aj h i2 fun i3=>cK i3 (ai l 1) 2 fun i4=>bI h i4 2 fun i5=>bf (.row [(St []),(St [])] false p5 0) (fun wm=>.ptr wm 0) h fun i wk=>aK wk i i5 2 fun vv=>aJ i 0 fun i6=>aj vv i6 fun i7=>p6 [i7] vv fun v5 vw=>aJ i 0 fun i8=>aj vw i8 fun i9=>p7 [i9] vw fun j0 vx=>ek j0 fun p=>aa p false (fun xk=>aJ i 1 fun j1=>xk j1 vx) (fun c=>c .undef vx) fun j2 L=>aa p false (fun xl=>aj L j2 fun j3=>xl j3 L) (fun c=>c .undef L) fun j4 vz=>aa p false (fun xm=>p8 [j4] vz fun j5 wl=>xm j5 wl) (fun c=>c .undef vz) fun j6 v0=>aa p false (fun xn=>ek j6 fun j7=>xn j7 v0) (fun c=>c .undef v0) fun j8 v1=>ay p (Bo true) j8 fun R=>aa R false (fun xp=>xp v5 v1) (fun c=>c .undef v1) fun j9 v2=>aa R false (fun xq=>aQ .eql j9 (St [99,111,110,116,101,110,116,45,108,101,110,103,116,104]) fun l0=>xq l0 v2) (fun c=>c .undef v2) fun l1 v3=>ay R (Bo true) l1 fun S=>aa S false (fun xr=>xr v5 v3) (fun c=>c .undef v3) fun xy v4=>aa S false (fun xs=>aQ .eql xy (St [116,114,97,110,115,102,101,114,45,101,110,99,111,100,105,110,103]) fun xz=>xs xz v4) (fun c=>c .undef v4) fun x0 s=>ay S (Bo true) x0 fun x1=>ax x1 ( Q (.tup [(.sc (.slice none 0 0)),(N .i64 1)]) s) ( aJ i 0 fun x2=>aj s x2 fun x3=>aQ .add (ai l 0) x3 fun x4=>aQ .add x4 (St [58,32]) fun x5=>aJ i 1 fun x6=>aj s x6 fun x7=>aQ .add x5 x7 fun x8=>aQ .add x8 (St [13,10]) fun x9=>af .add (ai l 1) (N .i64 1) fun i1=>xt [x9,i1] s)) ( dL (fun V=>ax a2 ( aQ .add (ai l 0) (St [84,114,97,110,115,102,101,114,45,69,110,99,111,100,105,110,103,58,32,99,104,117,110,107,101,100,13,10,13,10]) fun ya=>V [ya] h) ( aQ .add (ai l 0) (St [67,111,110,116,101,110,116,45,76,101,110,103,116,104,58,32]) fun yb=>aJ d 4 fun yc=>aj h yc fun yd=>aT yd fun ye=>p4 [ye,(N .i64 10)] h fun yf v7=>aQ .add yb yf fun yg=>aQ .add yg (St [13,10,13,10]) fun yh=>V [yh] v7)) (fun U Y=>bK (ai U 0) fun yi=>af .gtr yi (N .i64 2048) fun m=>aa m false (fun wq=>aJ d 3 fun yj=>wq yj Y) (fun c=>c .undef Y) fun yk A=>aa m false (fun wr=>aj A yk fun yl=>wr yl A) (fun c=>c .undef A) fun ym Z=>aa m false (fun wt=>aT ym fun yn=>wt yn Z) (fun c=>c .undef Z) fun yo va=>aa m false (fun wu=>af .gtr yo (N .i64 31) fun yp=>wu yp va) (fun c=>c .undef va) fun yq vb=>ay m (Bo true) yq fun n=>aa n false (fun wv=>aJ d 4 fun yr=>wv yr vb) (fun c=>c .undef vb) fun ys B=>aa n false (fun ww=>aj B ys fun yt=>ww yt B) (fun c=>c .undef B) fun yu vc=>aa n false (fun wx=>aT yu fun yv=>wx yv vc) (fun c=>c .undef vc) fun yw vd=>aa n false (fun wy=>af .gtr yw (N .i64 16384) fun yx=>wy yx vd) (fun c=>c .undef vd) fun yy C=>ay n (Bo true) yy fun yz=>ax yz ( Q (.tup [(.sc (.slice none 0 0)),(N .i64 2)]) C) ( ek a2 fun y0=>ax y0 ( iN p9 (ai U 0) fun xw wo=>bf xw wo C fun y1 ve=>aJ d 4 fun y2=>aj ve y2 fun y3=>appW p9 1 1 [(N .u8 0)] false y1 y3 ve fun y4 v8=>Q (.tup [y4,(N .i64 0)]) v8) ( iN p9 (ai U 0) fun xx wp=>bf xx wp C fun y5 vf=>aJ d 4 fun y6=>aj vf y6 fun y7=>eX (fun xu e g=>aT (ai e 1) fun y8=>af .gtr y8 (N .i64 0) fun y9=>ax y9 ( dL (fun W=>aT (ai e 1) fun O=>dL (fun y=>aT a3 fun zb=>af .lss (ai e 2) zb fun zc=>ax zc ( cK a3 (ai e 2) 1 fun zd=>aj g zd fun ze=>af .lss ze (N .i64 1) fun zf=>ax zf ( W [(ai e 0),(ai e 1)] g) ( cK a3 (ai e 2) 1 fun zg=>aj g zg fun zh=>af .lss zh O fun zi=>ax zi ( cK a3 (ai e 2) 1 fun zj=>aj g zj fun zk=>y [zk] g) ( y [O] g))) ( y [O] g)) (fun q v9=>bL (dz 1 (ai e 1) none (some (ai q 0)) none) fun P=>p4 [(ai q 0),(N .i64 16)] v9 fun zl wa=>bL (dz 1 (ai e 1) none (some (ai q 0)) none) fun zq=>(zq=P∧aQ .add zl (St [13,10]) fun zm=>appW p9 1 1 [(N .u8 0)] false (ai e 0) zm wa fun zo wb=>bL (dz 1 (ai e 1) none (some (ai q 0)) none) fun zp=>(zp=P∧appW p9 1 1 [(N .u8 0)] false zo P wb fun zr wc=>appW p9 1 1 [(N .u8 0)] false zr (St [13,10]) wc fun zs wd=>bL (dz 1 (ai e 1) (some (ai q 0)) none none) fun zt=>W [zs,zt] wd)))) (fun v6 we=>af .add (ai e 2) (N .i64 1) fun za=>xu [(ai v6 0),(ai v6 1),za] we)) ( appW p9 1 1 [(N .u8 0)] false (ai e 0) (St [48,13,10,13,10]) g fun zv wf=>Q (.tup [zv,(N .i64 0)]) wf)) [y5,y7,(N .i64 0)] vf))))) [(ai l2 0),(N .i64 0)] wj))
def Am (p1:Nat) (p2:ak) (p3:Nat) (a0 a1 a2 a3:AV) (M0:RM) (Q:ah) : Prop:=dW p1 0 [(N .u8 0)] [] fun vb H=>bf vb H M0 fun vc A=>appW p1 1 1 [(N .u8 0)] false vc a0 A fun vd B=>appW p1 1 1 [(N .u8 0)] false vd a2 B fun ve C=>p2 [ve] C fun m D=>aF m 0 fun vf=>aF m 1 fun vg=>aF m 2 fun vh=>bf (.row [(St []),(St []),(.sc (.slice none 0 0)),(.sc (.slice none 0 0))] false p3 0) (fun G=>.ptr G 0) D fun z E=>aK E z vf 4 fun v=>af .neq vh (N .i64 0) fun e=>aa e false (fun c=>c vg v) (fun c=>c .undef v) fun vi x=>aa e false (fun Z=>Z a0 x) (fun c=>c .undef x) fun vj y=>aa e false (fun va=>aT vj fun vk=>va vk y) (fun c=>c .undef y) fun vl o=>aa e false (fun I=>af .neq vi vl fun vm=>I vm o) (fun c=>c .undef o) fun vn p=>ay e (Bo true) vn fun d=>aa d false (fun L=>aJ z 3 fun vo=>L vo p) (fun c=>c .undef p) fun vp h=>aa d false (fun O=>aj h vp fun vq=>O vq h) (fun c=>c .undef h) fun vr i=>aa d false (fun P=>bQ i vr fun vs=>P vs i) (fun c=>c .undef i) fun vt q=>aa d false (fun R=>R a1 q) (fun c=>c .undef q) fun vu j=>aa d false (fun S=>bQ j vu fun vv=>S vv j) (fun c=>c .undef j) fun vw r=>aa d false (fun U=>aQ .neq vt vw fun vx=>U vx r) (fun c=>c .undef r) fun vy l=>ay d (Bo true) vy fun vz=>ax vz ( Q (Bo false) l) ( af .lss a3 (N .i64 0) fun g=>aa g false (fun V=>V a3 l) (fun c=>c .undef l) fun v0 s=>aa g false (fun W=>W a0 s) (fun c=>c .undef s) fun v1 t=>aa g false (fun X=>aT v1 fun v2=>X v2 t) (fun c=>c .undef t) fun v3 u=>aa g false (fun Y=>af .geq v0 v3 fun v4=>Y v4 u) (fun c=>c .undef u) fun v5 w=>ay g (Bo true) v5 fun v6=>ax v6 ( Q (Bo true) w) ( bL (dz 1 a0 none (some a3) none) fun v7=>p2 [v7] w fun n F=>aF n 0 fun wa=>aF n 1 fun wb=>aF n 2 fun v8=>af .eql v8 (N .i64 15) fun v9=>Q v9 F))
def jv (p1:Nat) (p2:ak) (a0 a1:AV) (M0:RM) (Q:ah) : Prop:=nL p1 a0 fun h g=>bf h g M0 fun l c=>aJ l 2 fun m=>aj c m fun n=>p2 [n,a1] c fun d e=>aF d 0 fun i=>aF d 1 fun j=>Q (.tup [i,j]) e
def jb (p1:Nat) (p2:ak) (a0 a1:AV) (M0:RM) (Q:ah) : Prop:=nL p1 a0 fun h g=>bf h g M0 fun l c=>aJ l 1 fun m=>aj c m fun n=>p2 [n,a1] c fun d e=>aF d 0 fun i=>aF d 1 fun j=>Q (.tup [i,j]) e
def vT (p1:Nat) (a0:AV) (M0:RM) (Q:ah) : Prop:=iN p1 a0 fun y s=>bf y s M0 fun e p=>eX (fun x g h=>aT e fun X=>af .lss (ai g 0) X fun z=>ax z ( dL (fun l=>cK e (ai g 0) 1 fun B=>aj h B fun C=>af .geq C (N .u8 65) fun d=>aa d true (fun c=>c e h) (fun c=>c .undef h) fun D m=>aa d true (fun u=>u (ai g 0) m) (fun c=>c .undef m) fun E n=>aa d true (fun v=>cK D E 1 fun F=>v F n) (fun c=>c .undef n) fun G j=>aa d true (fun w=>aj j G fun H=>w H j) (fun c=>c .undef j) fun I o=>aa d true (fun t=>af .leq I (N .u8 90) fun L=>t L o) (fun c=>c .undef o) fun O i=>ay d O (Bo false) fun P=>ax P ( cK e (ai g 0) 1 fun R=>aj i R fun S=>af .add S (N .u8 32) fun U=>cK e (ai g 0) 1 fun V=>aK i V U 1 fun q=>l [] q) ( l [] i)) (fun Y r=>af .add (ai g 0) (N .i64 1) fun A=>x [A] r)) ( bQ h e fun W=>Q W h)) [(N .i64 0)] p
def ou (p1:ak) (cv:(FuncId→ak)) (p2:ak) (p3:Nat) (a0 a1:AV) (M0:RM) (Q:ah) : Prop:=p1 [a0,(N .i64 0)] M0 fun g i=>aF g 0 fun A=>aF g 1 fun B=>aF g 2 fun l=>af .neq l (N .i64 0) fun C=>ax C ( Q (.tup [(.sc (.slice none 0 0)),(N .i64 0),l]) i) ( Ba cv a1 [A] i fun D j=>ek D fun E=>ax E ( Q (.tup [(.sc (.slice none 0 0)),(N .i64 0),(N .i64 14)]) j) ( eX (fun y d r=>p1 [a0,(ai d 1)] r fun h c=>aF h 0 fun m=>aF h 1 fun n=>aF h 2 fun o=>af .neq o (N .i64 0) fun F=>ax F ( Q (.tup [(.sc (.slice none 0 0)),(N .i64 0),o]) c) ( aQ .eql m (St []) fun G=>ax G ( Q (.tup [(ai d 0),n,(N .i64 0)]) c) ( aT (ai d 0) fun H=>af .eql H (N .i64 32) fun I=>ax I ( Q (.tup [(.sc (.slice none 0 0)),(N .i64 0),(N .i64 2)]) c) ( p2 [m] c fun p s=>aF p 0 fun L=>aF p 1 fun O=>bf (.row [(St []),(St [])] false p3 0) (fun w=>.ptr w 0) s fun q t=>aK t q L 2 fun e=>ek O fun P=>ax P ( Q (.tup [(.sc (.slice none 0 0)),(N .i64 0),(N .i64 14)]) e) ( bI e q 2 fun R=>dW p3 1 [(St []),(St [])] [(0,2,R)] fun z x=>bf z x e fun S u=>appW p3 2 32 [(St []),(St [])] false (ai d 0) S u fun U v=>y [U,n] v))))) [(.sc (.slice none 0 0)),B] j))
def iR (p1 p2 p3:ak) (a0 a1:AV) (M0:RM) (Q:ah) : Prop:=p1 [a0,(St [32])] M0 fun e n=>aT e fun v2=>af .neq v2 (N .i64 3) fun g=>aa g false (fun c=>c e n) (fun c=>c .undef n) fun X o=>aa g false (fun E=>cK X (N .i64 0) 1 fun Y=>E Y o) (fun c=>c .undef o) fun Z l=>aa g false (fun V=>aj l Z fun va=>V va l) (fun c=>c .undef l) fun vb y=>aa g false (fun W=>p2 [vb] y fun vc D=>W vc D) (fun c=>c .undef y) fun vd p=>aa g false (fun F=>ek vd fun ve=>F ve p) (fun c=>c .undef p) fun vf q=>ay g (Bo true) vf fun d=>aa d false (fun G=>G e q) (fun c=>c .undef q) fun vg r=>aa d false (fun H=>cK vg (N .i64 1) 1 fun vh=>H vh r) (fun c=>c .undef r) fun vi j=>aa d false (fun I=>aj j vi fun vj=>I vj j) (fun c=>c .undef j) fun vk s=>aa d false (fun L=>p3 [vk] s fun vl B=>L vl B) (fun c=>c .undef s) fun vm t=>aa d false (fun O=>ek vm fun vn=>O vn t) (fun c=>c .undef t) fun vo u=>ay d (Bo true) vo fun h=>aa h false (fun P=>P e u) (fun c=>c .undef u) fun vp v=>aa h false (fun R=>cK vp (N .i64 2) 1 fun vq=>R vq v) (fun c=>c .undef v) fun vr m=>aa h false (fun S=>aj m vr fun vs=>S vs m) (fun c=>c .undef m) fun vt w=>aa h false (fun U=>aQ .neq vt (St [72,84,84,80,47,49,46,49]) fun vu=>U vu w) (fun c=>c .undef w) fun vv i=>ay h (Bo true) vv fun vw=>ax vw ( Q (Bo false) i) ( cK e (N .i64 0) 1 fun vx=>aj i vx fun vy=>cK e (N .i64 1) 1 fun z=>aj i z fun A=>aJ a1 0 fun v0=>aK i v0 vy 1 fun x=>aj x z fun vz=>(vz=A∧aJ a1 1 fun v1=>aK x v1 A 1 fun C=>Q (Bo true) C))
def jT (p1 p2:ak) (p3:Nat) (a0:AV) (M0:RM) (Q:ah) : Prop:=p1 [a0,(N .i64 1),(N .i64 8)] M0 fun d e=>aa d true (fun c=>c a0 e) (fun c=>c .undef e) fun l g=>aa d true (fun j=>p2 [l,(.fn (.func p3) [] [])] g fun m h=>j m h) (fun c=>c .undef g) fun n i=>ay d n (Bo false) fun o=>Q o i
def kP (p1 p2:ak) (p3:Nat) (a0:AV) (M0:RM) (Q:ah) : Prop:=p1 [a0,(St [47])] M0 fun d g=>aa d true (fun c=>c a0 g) (fun c=>c .undef g) fun w h=>aa d true (fun o=>bK w fun x=>o x h) (fun c=>c .undef h) fun y i=>aa d true (fun p=>af .leq y (N .i64 201) fun z=>p z i) (fun c=>c .undef i) fun A j=>ay d A (Bo false) fun e=>aa e true (fun q=>q a0 j) (fun c=>c .undef j) fun s l=>aa e true (fun r=>p2 [s,(.fn (.func p3) [] [])] l fun t m=>r t m) (fun c=>c .undef l) fun u n=>ay e u (Bo false) fun v=>Q v n
def om (p1 p2 p3 p4 p5:ak) (p6:Nat) (p7 p8:ak) (a0 a1 a2:AV) (M0:RM) (Q:ah) : Prop:=p1 [a2,(St [116,114,97,110,115,102,101,114,45,101,110,99,111,100,105,110,103])] M0 fun r I=>p1 [a2,(St [99,111,110,116,101,110,116,45,108,101,110,103,116,104])] I fun d i=>aT r fun vl=>af .gtr vl (N .i64 0) fun vm=>ax vm ( aT r fun vn=>af .gtr vn (N .i64 1) fun e=>aa e false (fun c=>c r i) (fun c=>c .undef i) fun vo t=>aa e false (fun X=>cK vo (N .i64 0) 1 fun vp=>X vp t) (fun c=>c .undef t) fun vq n=>aa e false (fun vi=>aj n vq fun vr=>vi vr n) (fun c=>c .undef n) fun vs G=>aa e false (fun vk=>p2 [vs] G fun vt S=>vk vt S) (fun c=>c .undef G) fun vu u=>aa e false (fun U=>aQ .neq vu (St [99,104,117,110,107,101,100]) fun vv=>U vv u) (fun c=>c .undef u) fun vw v=>ay e (Bo true) vw fun j=>aa j false (fun V=>V d v) (fun c=>c .undef v) fun vx w=>aa j false (fun W=>aT vx fun vy=>W vy w) (fun c=>c .undef w) fun vz x=>aa j false (fun Y=>af .gtr vz (N .i64 0) fun v0=>Y v0 x) (fun c=>c .undef x) fun v1 y=>ay j (Bo true) v1 fun v2=>ax v2 ( Q (.tup [(.sc (.slice none 0 0)),(N .i64 0),(N .i64 14)]) y) ( p3 [a0,a1] y fun s L=>aF s 0 fun v3=>aF s 1 fun v4=>aF s 2 fun v5=>Q (.tup [v3,v4,v5]) L)) ( aT d fun v6=>af .eql v6 (N .i64 0) fun v7=>ax v7 ( Q (.tup [(.sc (.slice none 0 0)),a1,(N .i64 0)]) i) ( aT d fun v8=>af .gtr v8 (N .i64 1) fun g=>aa g false (fun Z=>Z d i) (fun c=>c .undef i) fun v9 z=>aa g false (fun va=>cK v9 (N .i64 0) 1 fun wa=>va wa z) (fun c=>c .undef z) fun wb m=>aa g false (fun vb=>aj m wb fun wc=>vb wc m) (fun c=>c .undef m) fun wd A=>aa g false (fun vc=>p4 [wd,(N .i64 1),(N .i64 9)] A fun we O=>vc we O) (fun c=>c .undef A) fun wf B=>aa g false (fun vd=>ek wf fun wg=>vd wg B) (fun c=>c .undef B) fun wh C=>ay g (Bo true) wh fun h=>aa h false (fun ve=>ve d C) (fun c=>c .undef C) fun wi D=>aa h false (fun vf=>cK wi (N .i64 0) 1 fun wj=>vf wj D) (fun c=>c .undef D) fun wk o=>aa h false (fun vg=>aj o wk fun wl=>vg wl o) (fun c=>c .undef o) fun wm E=>aa h false (fun vh=>p5 [wm,(.fn (.func p6) [] [])] E fun wn P=>vh wn P) (fun c=>c .undef E) fun wo F=>aa h false (fun vj=>ek wo fun wp=>vj wp F) (fun c=>c .undef F) fun wq p=>ay h (Bo true) wq fun wr=>ax wr ( Q (.tup [(.sc (.slice none 0 0)),(N .i64 0),(N .i64 14)]) p) ( cK d (N .i64 0) 1 fun ws=>aj p ws fun wt=>p7 [wt] p fun H q=>aF H 0 fun l=>aF H 1 fun w2=>af .gtr l (N .i64 16384) fun wu=>ax wu ( Q (.tup [(.sc (.slice none 0 0)),(N .i64 0),(N .i64 2)]) q) ( aT a0 fun wv=>af .sub wv a1 fun ww=>af .gtr l ww fun wx=>ax wx ( Q (.tup [(.sc (.slice none 0 0)),(N .i64 0),(N .i64 15)]) q) ( af .add a1 l fun wy=>bL (dz 1 a0 (some a1) (some wy) none) fun wz=>p8 [wz] q fun w0 R=>af .add a1 l fun w1=>Q (.tup [w0,w1,(N .i64 0)]) R)))))
def jC (p1:Nat) (p2 p3:ak) (a0:AV) (M0:RM) (Q:ah) : Prop:=nL p1 a0 fun q n=>bf q n M0 fun j g=>aJ j 0 fun s=>aj g s fun t=>p2 [t] g fun d h=>aa d true (fun c=>aJ j 1 fun u=>c u h) (fun c=>c .undef h) fun v e=>aa d true (fun o=>aj e v fun w=>o w e) (fun c=>c .undef e) fun x i=>aa d true (fun p=>p3 [x] i fun y l=>p y l) (fun c=>c .undef i) fun z m=>ay d z (Bo false) fun r=>Q r m
def lu (p1:Nat) (p2 p3 p4:ak) (p5:Nat) (a0 a1 a2 a3 a4:AV) (M0:RM) (Q:ah) : Prop:=nL p1 a2 fun vp W=>bf vp W M0 fun H I=>aQ .add a0 (St [13,10]) fun vr=>aT a1 fun vs=>eX (fun vo j e=>af .lss (ai j 1) vs fun vt=>ax vt ( cK a1 (ai j 1) 2 fun vu=>bI e vu 2 fun vv=>bf (.row [(St []),(St [])] false p1 0) (fun V=>.ptr V 0) e fun d L=>aK L d vv 2 fun t=>aJ d 0 fun vw=>aj t vw fun vx=>p2 [vx] t fun vy x=>ek vy fun g=>aa g false (fun c=>aJ d 1 fun vz=>c vz x) (fun c=>c .undef x) fun v0 p=>aa g false (fun vm=>aj p v0 fun v1=>vm v1 p) (fun c=>c .undef p) fun v2 F=>aa g false (fun vn=>p3 [v2] F fun v3 O=>vn v3 O) (fun c=>c .undef F) fun v4 r=>aa g false (fun Y=>ek v4 fun v5=>Y v5 r) (fun c=>c .undef r) fun v6 s=>ay g (Bo true) v6 fun h=>aa h false (fun Z=>aJ d 0 fun v7=>Z v7 s) (fun c=>c .undef s) fun v8 n=>aa h false (fun va=>aj n v8 fun v9=>va v9 n) (fun c=>c .undef n) fun wa u=>aa h false (fun vb=>p4 [wa] u fun wb P=>vb wb P) (fun c=>c .undef u) fun wc v=>aa h false (fun vc=>aQ .eql wc (St [116,114,97,110,115,102,101,114,45,101,110,99,111,100,105,110,103]) fun wd=>vc wd v) (fun c=>c .undef v) fun we w=>ay h (Bo true) we fun i=>aa i false (fun vd=>aJ d 0 fun wf=>vd wf w) (fun c=>c .undef w) fun wg o=>aa i false (fun ve=>aj o wg fun wh=>ve wh o) (fun c=>c .undef o) fun wi y=>aa i false (fun vf=>p4 [wi] y fun wj R=>vf wj R) (fun c=>c .undef y) fun wk z=>aa i false (fun vg=>aQ .eql wk (St [99,111,110,116,101,110,116,45,108,101,110,103,116,104]) fun wl=>vg wl z) (fun c=>c .undef z) fun wm l=>ay i (Bo true) wm fun wn=>ax wn ( Q (.tup [(.sc (.slice none 0 0)),(N .i64 1)]) l) ( aJ d 0 fun wo=>aj l wo fun wp=>aQ .add wp (St [58,32]) fun wq=>aJ d 1 fun wr=>aj l wr fun ws=>aQ .add wq ws fun wt=>aQ .add wt (St [13,10]) fun wu=>aQ .add (ai j 0) wu fun wv=>af .add (ai j 1) (N .i64 1) fun ww=>vo [wv,ww] l)) ( aJ H 0 fun wx=>aj e wx fun wy=>aQ .add wy (St [58,32]) fun wz=>aJ H 1 fun w0=>aj e w0 fun w1=>aQ .add wz w1 fun w2=>aQ .add w2 (St [13,10]) fun w3=>aQ .add w3 (St [13,10]) fun w4=>aQ .add (ai j 0) w4 fun G=>aT a1 fun w5=>af .add w5 (N .i64 1) fun w6=>af .gtr w6 (N .i64 32) fun m=>aa m false (fun vh=>vh G e) (fun c=>c .undef e) fun w7 A=>aa m false (fun vi=>bK w7 fun w8=>vi w8 A) (fun c=>c .undef A) fun w9 B=>aa m false (fun vj=>af .gtr w9 (N .i64 2048) fun xa=>vj xa B) (fun c=>c .undef B) fun xb C=>ay m (Bo true) xb fun q=>aa q false (fun vk=>vk a3 C) (fun c=>c .undef C) fun xc D=>aa q false (fun vl=>af .gtr xc (N .i64 16384) fun xd=>vl xd D) (fun c=>c .undef D) fun xe E=>ay q (Bo true) xe fun xf=>ax xf ( Q (.tup [(.sc (.slice none 0 0)),(N .i64 2)]) E) ( iN p5 G fun vq X=>bf vq X E fun xg S=>appW p5 1 1 [(N .u8 0)] false xg a4 S fun xh U=>Q (.tup [xh,(N .i64 0)]) U))) [vr,(N .i64 0)] I
def lF (p1:Nat) (p2:ak) (a0:AV) (M0:RM) (Q:ah) : Prop:=bf (.row [(St []),(St [])] false p1 0) (fun h=>.ptr h 0) M0 fun d e=>p2 [a0] e fun j g=>fM [(St []),(St [])] [(0,1,(St [67,111,110,116,101,110,116,45,76,101,110,103,116,104])),(1,1,j)] fun l=>aK g d l 2 fun c=>bI c d 2 fun i=>Q i c
def iL (p1 p2:ak) (p3 p4:Nat) (p5:ak) (a0 a1:AV) (M0:RM) (Q:ah) : Prop:=p1 [a0,(St [72,84,84,80,47,49,46,49,32])] M0 fun E n=>aF E 0 fun g=>aF E 1 fun vf=>ek vf fun h=>aa h false (fun c=>c g n) (fun c=>c .undef n) fun vg o=>aa h false (fun L=>bK vg fun vh=>L vh o) (fun c=>c .undef o) fun vi w=>aa h false (fun Z=>af .lss vi (N .i64 4) fun vj=>Z vj w) (fun c=>c .undef w) fun vk B=>ay h (Bo true) vk fun d=>aa d false (fun vd=>vd g B) (fun c=>c .undef B) fun vl C=>aa d false (fun ve=>bL (dP vl none (some (N .i64 3))) fun vm=>ve vm C) (fun c=>c .undef C) fun vn p=>aa d false (fun O=>p2 [vn,(.fn (.func p3) [] [])] p fun vo F=>O vo F) (fun c=>c .undef p) fun vp q=>aa d false (fun P=>ek vp fun vq=>P vq q) (fun c=>c .undef q) fun vr r=>ay d (Bo true) vr fun i=>aa i false (fun R=>R g r) (fun c=>c .undef r) fun vs s=>aa i false (fun S=>dH vs (N .i64 3) fun vt=>S vt s) (fun c=>c .undef s) fun vu t=>aa i false (fun U=>af .neq vu (N .u8 32) fun vv=>U vv t) (fun c=>c .undef t) fun vw u=>ay i (Bo true) vw fun e=>aa e false (fun V=>V g u) (fun c=>c .undef u) fun vx v=>aa e false (fun W=>bL (dP vx (some (N .i64 3)) none) fun vy=>W vy v) (fun c=>c .undef v) fun vz x=>aa e false (fun X=>p2 [vz,(.fn (.func p4) [] [])] x fun v0 G=>X v0 G) (fun c=>c .undef x) fun v1 y=>aa e false (fun Y=>ek v1 fun v2=>Y v2 y) (fun c=>c .undef y) fun v3 z=>ay e (Bo true) v3 fun v4=>ax v4 ( Q (Bo false) z) ( bL (dP g none (some (N .i64 3))) fun v5=>p5 [v5] z fun D H=>aF D 0 fun v6=>aF D 1 fun wh=>aJ a1 0 fun v7=>aK H v7 v6 1 fun l=>aJ a1 0 fun v8=>aj l v8 fun v9=>af .geq v9 (N .i64 100) fun j=>aa j true (fun va=>aJ a1 0 fun wa=>va wa l) (fun c=>c .undef l) fun wb m=>aa j true (fun vb=>aj m wb fun wc=>vb wc m) (fun c=>c .undef m) fun wd A=>aa j true (fun vc=>af .leq wd (N .i64 599) fun we=>vc we A) (fun c=>c .undef A) fun wf I=>ay j wf (Bo false) fun wg=>Q wg I)
def pW (p1:Nat) (cv:(FuncId→ak)) (a0 a1:AV) (M0:RM) (Q:ah) : Prop:=iN p1 a0 fun l i=>bf l i M0 fun g h=>aT g fun s=>eX (fun j d c=>af .lss (ai d 0) s fun m=>ax m ( cK g (ai d 0) 1 fun n=>aj c n fun o=>Ba cv a1 [o] c fun p e=>ek p fun q=>ax q ( Q (Bo false) e) ( af .add (ai d 0) (N .i64 1) fun r=>j [r] e)) ( Q (Bo true) c)) [(N .i64 0)] h
def nG (a0:AV) (M0:RM) (Q:ah) : Prop:=af .geq a0 (N .u8 48) fun d=>aa d true (fun c=>c a0 M0) (fun c=>c .undef M0) fun i e=>aa d true (fun h=>af .leq i (N .u8 57) fun j=>h j e) (fun c=>c .undef e) fun l g=>ay d l (Bo false) fun m=>Q m g
def ic (a0:AV) (M0:RM) (Q:ah) : Prop:=af .geq a0 (N .u8 32) fun d=>aa d true (fun c=>c a0 M0) (fun c=>c .undef M0) fun i e=>aa d true (fun h=>af .leq i (N .u8 126) fun j=>h j e) (fun c=>c .undef e) fun l g=>ay d l (Bo false) fun m=>Q m g
def nV (p1:Nat) (a0:AV) (M0:RM) (Q:ah) : Prop:=eX (fun i c d=>aT a0 fun v=>af .lss (ai c 1) v fun w=>ax w ( cK a0 (ai c 1) 2 fun m=>aJ m 0 fun n=>aj d n fun o=>cK a0 (ai c 1) 2 fun p=>aJ p 1 fun q=>aj d q fun r=>fM [(St []),(St [])] [(0,1,o),(1,1,r)] fun s=>dW p1 1 [(St []),(St [])] [(0,2,s)] fun j h=>vN j h d fun t e x=>appW p1 2 32 [(St []),(St [])] false (ai c 0) t e fun u g=>af .add (ai c 1) (N .i64 1) fun l=>i [u,l] g) ( Q (ai c 0) d)) [(.sc (.slice none 0 0)),(N .i64 0)] M0
def uZ (p1:Nat) (a0:AV) (M0:RM) (Q:ah) : Prop:=iF false 2 a0 (.sc (.slice none 0 0)) fun h=>ax h ( Q (.sc (.slice none 0 0)) M0) ( dW p1 0 [(N .i64 0)] [] fun g e=>bf g e M0 fun i c=>appW p1 1 8 [(N .i64 0)] false i a0 c fun j d=>Q j d)
def qz (p1:Nat) (p2:ak) (p3:Nat) (a0:AV) (M0:RM) (Q:ah) : Prop:=aT a0 fun p=>eX (fun n c e=>af .lss (ai c 1) p fun q=>ax q ( dL (fun i=>cK a0 (ai c 1) 1 fun r=>aj e r fun s=>aT s fun t=>af .add (ai c 0) t fun h=>af .lss h (N .i64 0) fun u=>ax u ( False) ( i [h] e)) (fun D j=>af .add (ai c 1) (N .i64 1) fun v=>n [(ai D 0),v] j)) ( p2 [(.sc (.slice none 0 0)),(ai c 0)] e fun w l=>aT a0 fun x=>eX (fun o d g=>af .lss (ai d 1) x fun y=>ax y ( cK a0 (ai d 1) 1 fun z=>aj g z fun A=>appW p3 1 1 [(N .u8 0)] false (ai d 0) A g fun B m=>af .add (ai d 1) (N .i64 1) fun C=>o [B,C] m) ( Q (ai d 0) g)) [w,(N .i64 0)] l)) [(N .i64 0),(N .i64 0)] M0
def oQ (p1:ak) (a0 a1:AV) (M0:RM) (Q:ah) : Prop:=p1 [a0,a1] M0 fun d c=>Q d c
def oZ (a0:AV) (M0:RM) (Q:ah) : Prop:=eX (fun w h e=>bK a0 fun R=>af .lss (ai h 0) R fun S=>ax S ( dH a0 (ai h 0) fun x=>af .lss x (N .u8 65) fun d=>aa d false (fun c=>c a0 e) (fun c=>c .undef e) fun y i=>aa d false (fun q=>q (ai h 0) i) (fun c=>c .undef i) fun z m=>aa d false (fun t=>dH y z fun A=>t A m) (fun c=>c .undef m) fun B n=>aa d false (fun u=>af .gtr B (N .u8 90) fun C=>u C n) (fun c=>c .undef n) fun D o=>ay d (Bo true) D fun E=>ax E ( Q (Bo false) o) ( af .add (ai h 0) (N .i64 1) fun U=>w [U] o)) ( bK a0 fun F=>af .geq F (N .i64 1) fun g=>aa g true (fun v=>v a0 e) (fun c=>c .undef e) fun G j=>aa g true (fun r=>bK G fun H=>r H j) (fun c=>c .undef j) fun I l=>aa g true (fun s=>af .leq I (N .i64 8) fun L=>s L l) (fun c=>c .undef l) fun O p=>ay g O (Bo false) fun P=>Q P p)) [(N .i64 0)] M0
def tq (a0:AV) (M0:RM) (Q:ah) : Prop:=eX (fun D i e=>bK a0 fun ve=>af .lss (ai i 0) ve fun vf=>ax vf ( dH a0 (ai i 0) fun E=>af .lss E (N .u8 33) fun d=>aa d false (fun c=>c a0 e) (fun c=>c .undef e) fun F j=>aa d false (fun u=>u (ai i 0) j) (fun c=>c .undef j) fun G p=>aa d false (fun A=>dH F G fun H=>A H p) (fun c=>c .undef p) fun I r=>aa d false (fun B=>af .gtr I (N .u8 126) fun L=>B L r) (fun c=>c .undef r) fun O s=>ay d (Bo true) O fun P=>ax P ( Q (Bo false) s) ( af .add (ai i 0) (N .i64 1) fun vg=>D [vg] s)) ( bK a0 fun R=>af .geq R (N .i64 1) fun g=>aa g true (fun C=>C a0 e) (fun c=>c .undef e) fun S l=>aa g true (fun v=>dH S (N .i64 0) fun U=>v U l) (fun c=>c .undef l) fun V m=>aa g true (fun w=>af .eql V (N .u8 47) fun W=>w W m) (fun c=>c .undef m) fun X n=>ay g X (Bo false) fun h=>aa h true (fun x=>x a0 n) (fun c=>c .undef n) fun Y o=>aa h true (fun y=>bK Y fun Z=>y Z o) (fun c=>c .undef o) fun va q=>aa h true (fun z=>af .leq va (N .i64 201) fun vb=>z vb q) (fun c=>c .undef q) fun vc t=>ay h vc (Bo false) fun vd=>Q vd t)) [(N .i64 0)] M0
def vQ (p1:ak) (a0 a1:AV) (M0:RM) (Q:ah) : Prop:=af .lss a0 a1 fun n=>ax n ( af .add a0 (N .i64 1) fun e=>bL (dP (St [48,49,50,51,52,53,54,55,56,57,97,98,99,100,101,102]) (some a0) (some e)) fun g=>Q g M0) ( af .quo a0 a1 fun h=>af .rem a0 a1 fun j=>p1 [h,a1] M0 fun i c=>p1 [j,a1] c fun l d=>aQ .add i l fun m=>Q m d)
def sK (a0:AV) (M0:RM) (Q:ah) : Prop:=eX (fun vg o h=>bK a0 fun wd=>af .lss (ai o 0) wd fun we=>ax we ( dH a0 (ai o 0) fun d=>af .geq d (N .u8 97) fun j=>aa j true (fun c=>c d h) (fun c=>c .undef h) fun vi p=>aa j true (fun I=>af .leq vi (N .u8 122) fun vj=>I vj p) (fun c=>c .undef p) fun vk y=>ay j vk (Bo false) fun e=>aa e false (fun vb=>vb d y) (fun c=>c .undef y) fun vl F=>aa e false (fun ve=>af .geq vl (N .u8 65) fun vm=>ve vm F) (fun c=>c .undef F) fun vn G=>aa e false (fun vf=>vf vn G) (fun c=>c .undef G) fun l q=>aa l true (fun L=>L d q) (fun c=>c .undef q) fun vo r=>aa l true (fun O=>af .leq vo (N .u8 90) fun vp=>O vp r) (fun c=>c .undef r) fun vq s=>aa e false (fun P=>ay l vq (Bo false) fun vr=>P vr s) (fun c=>c .undef s) fun vs t=>ay e (Bo true) vs fun g=>aa g false (fun R=>R d t) (fun c=>c .undef t) fun vt u=>aa g false (fun S=>af .geq vt (N .u8 48) fun vu=>S vu u) (fun c=>c .undef u) fun vv v=>aa g false (fun U=>U vv v) (fun c=>c .undef v) fun m w=>aa m true (fun V=>V d w) (fun c=>c .undef w) fun vw x=>aa m true (fun W=>af .leq vw (N .u8 57) fun vx=>W vx x) (fun c=>c .undef x) fun vy z=>aa g false (fun X=>ay m vy (Bo false) fun vz=>X vz z) (fun c=>c .undef z) fun v0 A=>ay g (Bo true) v0 fun n=>aa n false (fun Y=>Y d A) (fun c=>c .undef A) fun v1 B=>aa n false (fun Z=>af .eql v1 (N .u8 45) fun v2=>Z v2 B) (fun c=>c .undef B) fun v3 C=>ay n (Bo true) v3 fun v4=>ek v4 fun v5=>ax v5 ( Q (Bo false) C) ( af .add (ai o 0) (N .i64 1) fun vh=>vg [vh] C)) ( bK a0 fun v6=>af .geq v6 (N .i64 1) fun i=>aa i true (fun va=>va a0 h) (fun c=>c .undef h) fun v7 D=>aa i true (fun vc=>bK v7 fun v8=>vc v8 D) (fun c=>c .undef D) fun v9 E=>aa i true (fun vd=>af .leq v9 (N .i64 40) fun wa=>vd wa E) (fun c=>c .undef E) fun wb H=>ay i wb (Bo false) fun wc=>Q wc H)) [(N .i64 0)] M0
def qK (p1:ak) (a0:AV) (M0:RM) (Q:ah) : Prop:=eX (fun vm i j=>bK a0 fun wq=>af .lss (ai i 0) wq fun wr=>ax wr ( dH a0 (ai i 0) fun vn=>af .neq vn (N .u8 9) fun e=>aa e true (fun c=>c a0 j) (fun c=>c .undef j) fun vo l=>aa e true (fun O=>O (ai i 0) l) (fun c=>c .undef l) fun vp q=>aa e true (fun Z=>dH vo vp fun vq=>Z vq q) (fun c=>c .undef q) fun vr C=>aa e true (fun vk=>af .lss vr (N .u8 32) fun vs=>vk vs C) (fun c=>c .undef C) fun vt G=>aa e true (fun vl=>vl vt G) (fun c=>c .undef G) fun h m=>aa h false (fun P=>P a0 m) (fun c=>c .undef m) fun vu n=>aa h false (fun R=>R (ai i 0) n) (fun c=>c .undef n) fun vv o=>aa h false (fun S=>dH vu vv fun vw=>S vw o) (fun c=>c .undef o) fun vx p=>aa h false (fun U=>af .gtr vx (N .u8 126) fun vy=>U vy p) (fun c=>c .undef p) fun vz r=>aa e true (fun V=>ay h (Bo true) vz fun v0=>V v0 r) (fun c=>c .undef r) fun v1 s=>ay e v1 (Bo false) fun v2=>ax v2 ( Q (Bo false) s) ( af .add (ai i 0) (N .i64 1) fun ws=>vm [ws] s)) ( bK a0 fun v3=>af .eql v3 (N .i64 0) fun g=>aa g false (fun W=>W a0 j) (fun c=>c .undef j) fun v4 t=>aa g false (fun X=>dH v4 (N .i64 0) fun v5=>X v5 t) (fun c=>c .undef t) fun v6 u=>aa g false (fun Y=>p1 [v6] u fun v7 H=>Y v7 H) (fun c=>c .undef u) fun v8 v=>aa g false (fun va=>ek v8 fun v9=>va v9 v) (fun c=>c .undef v) fun wa w=>aa g false (fun vb=>vb wa w) (fun c=>c .undef w) fun d x=>aa d true (fun vc=>vc a0 x) (fun c=>c .undef x) fun wb y=>aa d true (fun vd=>vd a0 y) (fun c=>c .undef y) fun wc z=>aa d true (fun ve=>bK wc fun wd=>ve wd z) (fun c=>c .undef z) fun we A=>aa d true (fun vf=>af .sub we (N .i64 1) fun wf=>vf wf A) (fun c=>c .undef A) fun wg B=>aa d true (fun vg=>dH wb wg fun wh=>vg wh B) (fun c=>c .undef B) fun wi D=>aa d true (fun vh=>p1 [wi] D fun wj I=>vh wj I) (fun c=>c .undef D) fun wk E=>aa d true (fun vi=>ek wk fun wl=>vi wl E) (fun c=>c .undef E) fun wm F=>aa g false (fun vj=>ay d wm (Bo false) fun wn=>vj wn F) (fun c=>c .undef F) fun wo L=>ay g (Bo true) wo fun wp=>Q wp L)) [(N .i64 0)] M0
def nM (p1:ak) (a0 a1:AV) (M0:RM) (Q:ah) : Prop:=p1 [a0,a1] M0 fun d c=>aT d fun e=>af .gtr e (N .i64 0) fun g=>ax g ( cK d (N .i64 0) 1 fun h=>aj c h fun i=>Q (.tup [i,(Bo true)]) c) ( Q (.tup [(St []),(Bo false)]) c)
def oG (p1:Nat) (p2:ak) (a0 a1:AV) (M0:RM) (Q:ah) : Prop:=aT a0 fun j=>Fs false j (N .i64 2048) fun l=>bL (dz 1 a0 (some a1) (some l) none) fun m=>dW p1 2 [(N .u8 0)] [(0,1,(N .u8 13)),(1,1,(N .u8 10))] fun i h=>bf i h M0 fun n e=>qN n e fun o g=>p2 [m,o] g fun d c=>af .geq d (N .i64 0) fun p=>ax p ( af .add a1 d fun q=>bL (dz 1 a0 (some a1) (some q) none) fun r=>bQ c r fun s=>af .add a1 d fun t=>af .add t (N .i64 2) fun u=>Q (.tup [s,u,(N .i64 0)]) c) ( aT a0 fun v=>af .lss v (N .i64 2048) fun w=>ax w ( Q (.tup [(St []),(N .i64 0),(N .i64 15)]) c) ( Q (.tup [(St []),(N .i64 0),(N .i64 2)]) c))
def mJ (p1:Nat) (p2 p3 p4 p5:ak) (a0:AV) (M0:RM) (Q:ah) : Prop:=bf (.row [(St []),(St [])] false p1 0) (fun e=>.ptr e 0) M0 fun t u=>p2 [a0,(St [58])] u fun n v=>aF n 0 fun G=>aF n 1 fun H=>aF n 2 fun g=>p3 [H,(St [32,9])] v fun I w=>fM [(St []),(St [])] [(0,1,G),(1,1,I)] fun L=>bf (.row [(St []),(St [])] false p1 0) (fun e=>.ptr e 0) w fun d y=>aK y d L 2 fun l=>bI l d 2 fun o=>mV g true (fun c=>aJ d 0 fun R=>c R l none) (fun c=>c .undef l none) fun S m e=>mV g true (fun E=>aj m S fun U=>E U m none) (fun c=>c .undef m none) fun V s vh=>aa g true (fun A=>p4 [V] s fun W x=>A W x) (fun c=>c .undef s) fun X i=>bI i d 2 fun P=>(P=o∧ay g X (Bo false) fun h=>mV h true (fun B=>aJ d 1 fun Y=>B Y i none) (fun c=>c .undef i none) fun Z j vf=>mV h true (fun C=>aj j Z fun va=>C va j none) (fun c=>c .undef j none) fun vb p vg=>aa h true (fun D=>p5 [vb] p fun vc z=>D vc z) (fun c=>c .undef p) fun vd q=>bI q d 2 fun O=>(O=o∧ay h vd (Bo false) fun ve=>aK q t o 2 fun r=>bI r t 2 fun F=>Q (.tup [F,ve]) r))
def mr (a0 a1 a2:AV) (M0:RM) (Q:ah) : Prop:=bK a0 fun u=>af .geq u a1 fun d=>aa d true (fun c=>c a0 M0) (fun c=>c .undef M0) fun n e=>aa d true (fun j=>bK n fun o=>j o e) (fun c=>c .undef e) fun p g=>aa d true (fun l=>l a2 g) (fun c=>c .undef g) fun q h=>aa d true (fun m=>af .leq p q fun r=>m r h) (fun c=>c .undef h) fun s i=>ay d s (Bo false) fun t=>Q t i
def nz (a0:AV) (M0:RM) (Q:ah) : Prop:=af .geq a0 (N .u8 65) fun d=>aa d true (fun c=>c a0 M0) (fun c=>c .undef M0) fun i e=>aa d true (fun h=>af .leq i (N .u8 90) fun j=>h j e) (fun c=>c .undef e) fun l g=>ay d l (Bo false) fun m=>Q m g
def lH (a0:AV) (M0:RM) (Q:ah) : Prop:=af .geq a0 (N .u8 33) fun d=>aa d true (fun c=>c a0 M0) (fun c=>c .undef M0) fun i e=>aa d true (fun h=>af .leq i (N .u8 126) fun j=>h j e) (fun c=>c .undef e) fun l g=>ay d l (Bo false) fun m=>Q m g
def nH (p1:Nat) (p2:ak) (p3:Nat) (a0 a1:AV) (M0:RM) (Q:ah) : Prop:=aT a0 fun G=>eX (fun r c d=>af .lss (ai c 1) G fun t=>ax t ( dL (fun h=>cK a0 (ai c 1) 2 fun u=>bI d u 2 fun v=>bf (.row [(St []),(St [])] false p1 0) (fun p=>.ptr p 0) d fun g j=>aK j g v 2 fun i=>aJ g 0 fun w=>aj i w fun x=>p2 [x] i fun y l=>p2 [a1] l fun z e=>aQ .eql y z fun A=>ax A ( aJ g 1 fun B=>aj e B fun C=>dW p3 1 [(St [])] [(0,1,C)] fun s q=>bf s q e fun D m=>appW p3 1 16 [(St [])] false (ai c 0) D m fun E n=>h [E] n) ( h [(ai c 0)] e)) (fun H o=>af .add (ai c 1) (N .i64 1) fun F=>r [(ai H 0),F] o)) ( Q (ai c 0) d)) [(.sc (.slice none 0 0)),(N .i64 0)] M0
def nk (p1:Nat) (a0:AV) (M0:RM) (Q:ah) : Prop:=iN p1 a0 fun t q=>bf t q M0 fun e n=>aT e fun F=>eX (fun s g c=>af .lss (ai g 0) F fun u=>ax u ( dL (fun j=>cK e (ai g 0) 1 fun v=>aj c v fun h=>af .geq h (N .u8 65) fun i=>aa i true (fun d=>d h c) (fun d=>d .undef c) fun w l=>aa i true (fun r=>af .leq w (N .u8 90) fun x=>r x l) (fun d=>d .undef l) fun y m=>ay i y (Bo false) fun z=>ax z ( af .add h (N .u8 97) fun A=>af .sub A (N .u8 65) fun B=>cK e (ai g 0) 1 fun C=>aK m C B 1 fun o=>j [] o) ( j [] m)) (fun G p=>af .add (ai g 0) (N .i64 1) fun D=>s [D] p)) ( bQ c e fun E=>Q E c)) [(N .i64 0)] n
def lW (p1:ak) (p2:Nat) (a0 a1:AV) (M0:RM) (Q:ah) : Prop:=eX (fun n g l=>p1 [a0,(ai g 0)] l fun h c=>aF h 0 fun d=>aF h 1 fun e=>aF h 2 fun i=>af .neq i (N .i64 0) fun o=>ax o ( Q (.tup [(.sc (.slice none 0 0)),(N .i64 0),i]) c) ( aT (ai g 1) fun p=>af .sub (N .i64 16384) p fun q=>af .gtr d q fun r=>ax r ( Q (.tup [(.sc (.slice none 0 0)),(N .i64 0),(N .i64 2)]) c) ( af .add d (N .i64 2) fun s=>aT a0 fun t=>af .sub t e fun u=>af .gtr s u fun v=>ax v ( Q (.tup [(.sc (.slice none 0 0)),(N .i64 0),(N .i64 15)]) c) ( af .add e d fun w=>af .add e d fun x=>af .add x (N .i64 2) fun y=>bL (dz 1 a0 (some w) (some y) none) fun z=>bQ c z fun A=>aQ .neq A (St [13,10]) fun B=>ax B ( Q (.tup [(.sc (.slice none 0 0)),(N .i64 0),(N .i64 14)]) c) ( af .add e d fun C=>af .add C (N .i64 2) fun j=>af .eql d (N .i64 0) fun D=>ax D ( Q (.tup [(ai g 1),j,(N .i64 0)]) c) ( af .add e d fun E=>bL (dz 1 a0 (some e) (some E) none) fun F=>appW p2 1 1 [(N .u8 0)] false (ai g 1) F c fun G m=>n [j,G] m)))))) [a1,(.sc (.slice none 0 0))] M0
def kR (p1 p2 p3:ak) (p4:Nat) (a0:AV) (M0:RM) (Q:ah) : Prop:=p1 [a0,(N .i64 1),(N .i64 40)] M0 fun d e=>aa d true (fun c=>c a0 e) (fun c=>c .undef e) fun o g=>aa d true (fun m=>p2 [o] g fun p i=>m p i) (fun c=>c .undef g) fun q h=>aa d true (fun n=>p3 [q,(.fn (.func p4) [] [])] h fun r j=>n r j) (fun c=>c .undef h) fun s l=>ay d s (Bo false) fun t=>Q t l
def kC (p1 p2:ak) (p3:Nat) (a0:AV) (M0:RM) (Q:ah) : Prop:=p1 [a0,(St [32,9])] M0 fun m e=>aQ .eql a0 m fun d=>aa d true (fun c=>c a0 e) (fun c=>c .undef e) fun n g=>aa d true (fun j=>p2 [n,(.fn (.func p3) [] [])] g fun o h=>j o h) (fun c=>c .undef g) fun p i=>ay d p (Bo false) fun l=>Q l i
def vW (p1 p2:Nat) (a0 a1:AV) (M0:RM) (Q:ah) : Prop:=dL (fun g=>af .lss a1 (N .i64 0) fun t=>ax t ( False) ( g [] M0)) (fun v d=>dL (fun c=>xG a0 fun j=>aT a0 fun l=>af .sub j l fun m=>af .sub a1 m fun e=>af .gtr e (N .i64 0) fun n=>ax n ( xG a0 fun o=>bL (dz 1 a0 none (some o) none) fun p=>appW p2 1 1 [(N .u8 0)] true p e d fun q h=>aT a0 fun r=>bL (dz 1 q none (some r) none) fun s=>c [s] h) ( c [a0] d)) (fun u i=>Q (ai u 0) i))
def gL (p1:ak) (p2:Nat) (p3 p4 p5:ak) (a0 a1:AV) (M0:RM) (Q:ah) : Prop:=af .eql a1 (N .i64 10) fun x=>ax x ( af .leq (N .i64 0) a0 fun g=>aa g true (fun c=>c a0 M0) (fun c=>c .undef M0) fun y j=>aa g true (fun w=>af .lss y (N .i64 100) fun z=>w z j) (fun c=>c .undef j) fun A l=>ay g A (Bo false) fun B=>ax B ( p1 [a0] l fun C r=>Q C r) ( bf (.row [(N .u8 0),(N .u8 0),(N .u8 0),(N .u8 0),(N .u8 0),(N .u8 0),(N .u8 0),(N .u8 0),(N .u8 0),(N .u8 0),(N .u8 0),(N .u8 0),(N .u8 0),(N .u8 0),(N .u8 0),(N .u8 0),(N .u8 0),(N .u8 0),(N .u8 0),(N .u8 0),(N .u8 0),(N .u8 0),(N .u8 0),(N .u8 0)] false p2 0) (fun v=>.ptr v 0) l fun d m=>jc .u64 a0 fun o=>dL (fun i=>af .lss a0 (N .i64 0) fun D=>ax D ( Ja o fun E=>i [E] m) ( i [o] m)) (fun q s=>p3 [(ai q 0)] s fun h t=>af .add (N .i64 1) h fun F=>bL (sI 24 1 d (some (N .i64 1)) (some F)) fun G=>p4 [G,(ai q 0)] t fun Y e=>af .lss a0 (N .i64 0) fun H=>ax H ( ow d (N .i64 0) 24 1 fun I=>aK e I (N .u8 45) 1 fun n=>af .add (N .i64 1) h fun L=>bL (sI 24 1 d none (some L)) fun O=>bQ n O fun P=>Q P n) ( af .add (N .i64 1) h fun R=>bL (sI 24 1 d (some (N .i64 1)) (some R)) fun S=>bQ e S fun U=>Q U e)))) ( jc .u64 a0 fun V=>af .lss a0 (N .i64 0) fun W=>p5 [(.sc (.slice none 0 0)),V,a1,W,(Bo false)] M0 fun p u=>aF p 0 fun Z=>aF p 1 fun X=>Q X u)
def qG (a0:AV) (M0:RM) (Q:ah) : Prop:=af .eql a0 (N .u8 32) fun d=>aa d false (fun c=>c a0 M0) (fun c=>c .undef M0) fun i e=>aa d false (fun h=>af .eql i (N .u8 9) fun j=>h j e) (fun c=>c .undef e) fun l g=>ay d (Bo true) l fun m=>Q m g
def oI (p1:Nat) (p2 p3 p4 p5:ak) (p6:Nat) (p7:ak) (a0 a1:AV) (M0:RM) (Q:ah) : Prop:=bL (dz 1 a0 (some a1) none none) fun L=>dW p1 2 [(N .u8 0)] [(0,1,(N .u8 13)),(1,1,(N .u8 10))] fun I A=>bf I A M0 fun O v=>qN O v fun P w=>p2 [L,P] w fun l m=>aF l 0 fun e=>aF l 1 fun vr=>aF l 2 fun t=>ek t fun h=>aa h true (fun c=>c e m) (fun c=>c .undef m) fun R p=>aa h true (fun G=>aT R fun S=>G S p) (fun c=>c .undef p) fun U r=>aa h true (fun H=>af .gtr U (N .i64 10) fun V=>H V r) (fun c=>c .undef r) fun W g=>ay h W (Bo false) fun X=>ax X ( Q (.tup [(N .i64 0),(N .i64 0),(N .i64 14)]) g) ( ek t fun Y=>ax Y ( Q (.tup [(N .i64 0),(N .i64 0),(N .i64 15)]) g) ( bQ g e fun Z=>p3 [Z,(N .i64 1),(N .i64 8)] g fun va s=>ek va fun d=>aa d false (fun B=>B e s) (fun c=>c .undef s) fun vb i=>aa d false (fun C=>bQ i vb fun vc=>C vc i) (fun c=>c .undef i) fun vd n=>aa d false (fun D=>p4 [vd] n fun ve x=>D ve x) (fun c=>c .undef n) fun vf o=>aa d false (fun E=>p5 [vf,(.fn (.func p6) [] [])] o fun vg y=>E vg y) (fun c=>c .undef o) fun vh q=>aa d false (fun F=>ek vh fun vi=>F vi q) (fun c=>c .undef q) fun vj j=>ay d (Bo true) vj fun vk=>ax vk ( Q (.tup [(N .i64 0),(N .i64 0),(N .i64 14)]) j) ( bQ j e fun vl=>p7 [vl,(N .i64 16),(N .i64 64)] j fun u z=>aF u 0 fun vm=>aF u 1 fun vs=>jc .i64 vm fun vn=>aT e fun vo=>af .add a1 vo fun vp=>af .add vp (N .i64 2) fun vq=>Q (.tup [vn,vq,(N .i64 0)]) z)))
def jP (p1:ak) (a0:AV) (M0:RM) (Q:ah) : Prop:=af .geq a0 (N .u8 97) fun e=>aa e true (fun c=>c a0 M0) (fun c=>c .undef M0) fun B h=>aa e true (fun p=>af .leq B (N .u8 122) fun C=>p C h) (fun c=>c .undef h) fun D j=>ay e D (Bo false) fun g=>aa g false (fun r=>r a0 j) (fun c=>c .undef j) fun u l=>aa g false (fun s=>p1 [u] l fun v o=>s v o) (fun c=>c .undef l) fun w m=>ay g (Bo true) w fun d=>aa d false (fun t=>t a0 m) (fun c=>c .undef m) fun x i=>aa d false (fun q=>af .eql x (N .u8 45) fun y=>q y i) (fun c=>c .undef i) fun z n=>ay d (Bo true) z fun A=>Q A n
def jG (a0:AV) (M0:RM) (Q:ah) : Prop:=af .geq a0 (N .u8 32) fun d=>aa d true (fun c=>c a0 M0) (fun c=>c .undef M0) fun s g=>aa d true (fun l=>af .leq s (N .u8 126) fun t=>l t g) (fun c=>c .undef g) fun u h=>ay d u (Bo false) fun e=>aa e false (fun m=>m a0 h) (fun c=>c .undef h) fun o i=>aa e false (fun n=>af .eql o (N .u8 9) fun p=>n p i) (fun c=>c .undef i) fun q j=>ay e (Bo true) q fun r=>Q r j
def gH (p1 p2:Nat) (p3 p4:ak) (p5:Nat) (a0 a1 a2 a3 a4:AV) (M0:RM) (Q:ah) : Prop:=dL (fun G=>af .lss a2 (N .i64 2) fun i=>aa i false (fun c=>c a2 M0) (fun c=>c .undef M0) fun vf p=>aa i false (fun Y=>af .eql vf (N .i64 10) fun vg=>Y vg p) (fun c=>c .undef p) fun vh s=>ay i (Bo true) vh fun j=>aa j false (fun Z=>Z a2 s) (fun c=>c .undef s) fun vi v=>aa j false (fun va=>af .gtr vi (N .i64 36) fun vj=>va vj v) (fun c=>c .undef v) fun vk V=>ay j (Bo true) vk fun vl=>ax vl ( False) ( G [] V)) (fun wb W=>bf (.row [(N .u8 0),(N .u8 0),(N .u8 0),(N .u8 0),(N .u8 0),(N .u8 0),(N .u8 0),(N .u8 0),(N .u8 0),(N .u8 0),(N .u8 0),(N .u8 0),(N .u8 0),(N .u8 0),(N .u8 0),(N .u8 0),(N .u8 0),(N .u8 0),(N .u8 0),(N .u8 0),(N .u8 0),(N .u8 0),(N .u8 0),(N .u8 0),(N .u8 0),(N .u8 0),(N .u8 0),(N .u8 0),(N .u8 0),(N .u8 0),(N .u8 0),(N .u8 0),(N .u8 0),(N .u8 0),(N .u8 0),(N .u8 0),(N .u8 0),(N .u8 0),(N .u8 0),(N .u8 0),(N .u8 0),(N .u8 0),(N .u8 0),(N .u8 0),(N .u8 0),(N .u8 0),(N .u8 0),(N .u8 0),(N .u8 0),(N .u8 0),(N .u8 0),(N .u8 0),(N .u8 0),(N .u8 0),(N .u8 0),(N .u8 0),(N .u8 0),(N .u8 0),(N .u8 0),(N .u8 0),(N .u8 0),(N .u8 0),(N .u8 0),(N .u8 0),(N .u8 0)] false p2 0) (fun X=>.ptr X 0) W fun d w=>dL (fun m=>ax a3 ( Ja a1 fun vm=>m [vm] w) ( m [a1] w)) (fun D H=>dL (fun n=>p3 [a2] H fun vn q=>ax vn ( jc .u64 a2 fun vo=>p4 [vo] q fun vp I=>jc .u64 vp fun vq=>jc .u64 a2 fun vr=>jc .u64 a2 fun vs=>af .sub vs (N .u64 1) fun vt=>eX (fun vb e r=>af .geq (ai e 0) vr fun vu=>ax vu ( af .sub (ai e 1) (N .i64 1) fun x=>af .and (ai e 0) vt fun vv=>dH (St [48,49,50,51,52,53,54,55,56,57,97,98,99,100,101,102,103,104,105,106,107,108,109,110,111,112,113,114,115,116,117,118,119,120,121,122]) vv fun vw=>ow d x 65 1 fun vx=>aK r vx vw 1 fun L=>BR .shr (ai e 0) vq fun vy=>vb [vy,x] L) ( af .sub (ai e 1) (N .i64 1) fun y=>dH (St [48,49,50,51,52,53,54,55,56,57,97,98,99,100,101,102,103,104,105,106,107,108,109,110,111,112,113,114,115,116,117,118,119,120,121,122]) (ai e 0) fun vz=>ow d y 65 1 fun v0=>aK r v0 vz 1 fun O=>n [y] O)) [(ai D 0),(N .i64 65)] I) ( jc .u64 a2 fun l=>eX (fun vc g t=>af .geq (ai g 0) l fun v1=>ax v1 ( af .sub (ai g 1) (N .i64 1) fun z=>af .quo (ai g 0) l fun A=>af .mul A l fun v2=>af .sub (ai g 0) v2 fun v3=>dH (St [48,49,50,51,52,53,54,55,56,57,97,98,99,100,101,102,103,104,105,106,107,108,109,110,111,112,113,114,115,116,117,118,119,120,121,122]) v3 fun v4=>ow d z 65 1 fun v5=>aK t v5 v4 1 fun P=>vc [A,z] P) ( af .sub (ai g 1) (N .i64 1) fun B=>dH (St [48,49,50,51,52,53,54,55,56,57,97,98,99,100,101,102,103,104,105,106,107,108,109,110,111,112,113,114,115,116,117,118,119,120,121,122]) (ai g 0) fun v6=>ow d B 65 1 fun v7=>aK t v7 v6 1 fun R=>n [B] R)) [(ai D 0),(N .i64 65)] q)) (fun E u=>dL (fun o=>ax a3 ( af .sub (ai E 0) (N .i64 1) fun C=>ow d C 65 1 fun v8=>aK u v8 (N .u8 45) 1 fun S=>o [C] S) ( o [(ai E 0)] u)) (fun F h=>ax a4 ( bL (sI 65 1 d (some (ai F 0)) none) fun v9=>appW p5 1 1 [(N .u8 0)] false a0 v9 h fun wa U=>Q (.tup [wa,(St [])]) U) ( bL (sI 65 1 d (some (ai F 0)) none) fun vd=>bQ h vd fun ve=>Q (.tup [(.sc (.slice none 0 0)),ve]) h)))))
def dx (p1:ak) (p2:Nat) (p3 p4 p5:ak) (a0 a1:AV) (M0:RM) (Q:ah) : Prop:=bK a1 fun e=>af .eql e (N .i64 0) fun q=>aa q false (fun c=>c a1 M0) (fun c=>c .undef M0) fun w2 w=>aa q false (fun vk=>vk a0 w) (fun c=>c .undef w) fun w3 x=>aa q false (fun vn=>aQ .eql w2 w3 fun w4=>vn w4 x) (fun c=>c .undef x) fun w5 h=>ay q (Bo true) w5 fun w6=>ax w6 ( Q (N .i64 0) h) ( af .eql e (N .i64 1) fun w7=>ax w7 ( dH a1 (N .i64 0) fun w8=>p1 [a0,w8] h fun w9 vj=>Q w9 vj) ( bK a0 fun xa=>af .geq e xa fun xb=>ax xb ( Q (N .i64 (-1)) h) ( aj h (Fw h p2) fun xc=>af .leq e xc fun r=>aa r true (fun v3=>v3 a0 h) (fun c=>c .undef h) fun xd vb=>aa r true (fun v8=>bK xd fun xe=>v8 xe vb) (fun c=>c .undef vb) fun xf y=>aa r true (fun vl=>af .leq xf (N .i64 64) fun xg=>vl xg y) (fun c=>c .undef y) fun xh z=>ay r xh (Bo false) fun xi=>ax xi ( p3 [a0,a1] z fun xj vh=>Q xj vh) ( dH a1 (N .i64 0) fun vf=>dH a1 (N .i64 1) fun xk=>bK a0 fun xl=>af .sub xl e fun xm=>af .add xm (N .i64 1) fun t=>eX (fun v9 j s=>af .lss (ai j 0) t fun xn=>ax xn ( dL (fun v=>dH a0 (ai j 0) fun xo=>af .neq xo vf fun xp=>ax xp ( af .add (ai j 0) (N .i64 1) fun xq=>bL (dP a0 (some xq) (some t)) fun xr=>p1 [xr,vf] s fun vg A=>af .lss vg (N .i64 0) fun xs=>ax xs ( Q (N .i64 (-1)) A) ( af .add vg (N .i64 1) fun xt=>af .add (ai j 0) xt fun xu=>v [xu] A)) ( v [(ai j 0)] s)) (fun o B=>af .add (ai o 0) (N .i64 1) fun xv=>dH a0 xv fun xw=>af .eql xw xk fun d=>aa d true (fun vm=>vm a0 B) (fun c=>c .undef B) fun xx C=>aa d true (fun vo=>vo (ai o 0) C) (fun c=>c .undef C) fun xy D=>aa d true (fun vp=>vp (ai o 0) D) (fun c=>c .undef D) fun xz E=>aa d true (fun vq=>vq e E) (fun c=>c .undef E) fun x0 F=>aa d true (fun vr=>af .add xz x0 fun x1=>vr x1 F) (fun c=>c .undef F) fun x2 G=>aa d true (fun vs=>bL (dP xx (some xy) (some x2)) fun x3=>vs x3 G) (fun c=>c .undef G) fun x4 H=>aa d true (fun vt=>vt a1 H) (fun c=>c .undef H) fun x5 I=>aa d true (fun vu=>aQ .eql x4 x5 fun x6=>vu x6 I) (fun c=>c .undef I) fun x7 l=>ay d x7 (Bo false) fun x8=>ax x8 ( Q (ai o 0) l) ( af .add (ai o 0) (N .i64 1) fun g=>af .add (ai j 1) (N .i64 1) fun u=>aj l (Fw l p2) fun wa=>af .leq e wa fun n=>aa n true (fun vv=>vv u l) (fun c=>c .undef l) fun wb L=>aa n true (fun vw=>vw g L) (fun c=>c .undef L) fun wc O=>aa n true (fun vx=>p4 [wc] O fun wd vi=>vx wd vi) (fun c=>c .undef O) fun we P=>aa n true (fun vy=>af .gtr wb we fun wf=>vy wf P) (fun c=>c .undef P) fun wg m=>ay n wg (Bo false) fun wh=>ax wh ( bL (dP a0 (some g) none) fun wi=>p3 [wi,a1] m fun vd R=>af .geq vd (N .i64 0) fun wj=>ax wj ( af .add vd g fun wk=>Q wk R) ( Q (N .i64 (-1)) R)) ( aj m (Fw m p2) fun wl=>af .gtr e wl fun i=>aa i true (fun vz=>vz u m) (fun c=>c .undef m) fun wm S=>aa i true (fun v0=>v0 g S) (fun c=>c .undef S) fun wn U=>aa i true (fun v1=>BR .shr wn (N .u64 4) fun wo=>v1 wo U) (fun c=>c .undef U) fun wp V=>aa i true (fun v2=>af .add (N .i64 4) wp fun wq=>v2 wq V) (fun c=>c .undef V) fun wr W=>aa i true (fun v4=>af .geq wm wr fun ws=>v4 ws W) (fun c=>c .undef W) fun wt X=>ay i wt (Bo false) fun p=>aa p true (fun v5=>v5 g X) (fun c=>c .undef X) fun wu Y=>aa p true (fun v6=>v6 t Y) (fun c=>c .undef Y) fun wv Z=>aa p true (fun v7=>af .lss wu wv fun ww=>v7 ww Z) (fun c=>c .undef Z) fun wx va=>ay p wx (Bo false) fun wy=>ax wy ( bL (dP a0 (some g) none) fun wz=>p5 [wz,a1] va fun ve vc=>af .lss ve (N .i64 0) fun w0=>ax w0 ( Q (N .i64 (-1)) vc) ( af .add g ve fun w1=>Q w1 vc)) ( v9 [g,u] va))))) ( Q (N .i64 (-1)) s)) [(N .i64 0),(N .i64 0)] z))))
def vH (p1:ak) (a0 a1:AV) (M0:RM) (Q:ah) : Prop:=p1 [a0,a1] M0 fun c d=>af .geq c (N .i64 0) fun e=>ax e ( bL (dz 1 a0 none (some c) none) fun g=>aT a1 fun h=>af .add c h fun i=>bL (dz 1 a0 (some i) none none) fun j=>Q (.tup [g,j,(Bo true)]) d) ( Q (.tup [a0,(.sc (.slice none 0 0)),(Bo false)]) d)
def mG (p1:ak) (a0:AV) (M0:RM) (Q:ah) : Prop:=p1 [a0] M0 fun d g=>aa d false (fun c=>c a0 g) (fun c=>c .undef g) fun y h=>aa d false (fun o=>af .geq y (N .u8 97) fun z=>o z h) (fun c=>c .undef h) fun A j=>aa d false (fun q=>q A j) (fun c=>c .undef j) fun e l=>aa e true (fun r=>r a0 l) (fun c=>c .undef l) fun B m=>aa e true (fun s=>af .leq B (N .u8 102) fun t=>s t m) (fun c=>c .undef m) fun u i=>aa d false (fun p=>ay e u (Bo false) fun v=>p v i) (fun c=>c .undef i) fun w n=>ay d (Bo true) w fun x=>Q x n
def kV (p1 p2:ak) (a0 a1 a2:AV) (M0:RM) (Q:ah) : Prop:=p1 [a0,a1,a2] M0 fun d c=>aF d 0 fun e=>aF d 1 fun g=>Nf true g (.sc .nilIface) fun i=>ax i ( p2 [(St [80,97,114,115,101,85,105,110,116]),a0,a1,a2,g] c fun j h=>Q (.tup [e,j]) h) ( Q (.tup [e,(.sc .nilIface)]) c)
def gM (p1:Nat) (p2:ak) (p3:Nat) (p4:ak) (a0 a1 a2:AV) (M0:RM) (Q:ah) : Prop:=aQ .eql a0 (St []) fun xt=>ax xt ( Q (.tup [(N .u64 0),(.ifc p1 (N .i64 2))]) M0) ( af .eql a1 (N .i64 0) fun xu=>dL (fun g=>af .leq (N .i64 2) a1 fun z=>aa z true (fun c=>c a1 M0) (fun c=>c .undef M0) fun xv G=>aa z true (fun vz=>af .leq xv (N .i64 36) fun xw=>vz xw G) (fun c=>c .undef G) fun xx i=>ay z xx (Bo false) fun xy=>ax xy ( g [a0,a1] i) ( af .eql a1 (N .i64 0) fun xz=>ax xz ( dH a0 (N .i64 0) fun x0=>af .eql x0 (N .u8 48) fun x1=>ax x1 ( bK a0 fun x3=>af .geq x3 (N .i64 3) fun l=>aa l true (fun v7=>v7 a0 i) (fun c=>c .undef i) fun x4 V=>aa l true (fun wc=>dH x4 (N .i64 1) fun x5=>wc x5 V) (fun c=>c .undef V) fun x6 vd=>aa l true (fun wl=>p2 [x6] vd fun x7 vx=>wl x7 vx) (fun c=>c .undef vd) fun x8 H=>aa l true (fun v0=>af .eql x8 (N .u8 98) fun x9=>v0 x9 H) (fun c=>c .undef H) fun ya s=>ay l ya (Bo false) fun yb=>ax yb ( bL (dP a0 (some (N .i64 2)) none) fun yc=>g [yc,(N .i64 2)] s) ( bK a0 fun yd=>af .geq yd (N .i64 3) fun m=>aa m true (fun v1=>v1 a0 s) (fun c=>c .undef s) fun ye I=>aa m true (fun v2=>dH ye (N .i64 1) fun yf=>v2 yf I) (fun c=>c .undef I) fun yg L=>aa m true (fun v3=>p2 [yg] L fun yh vp=>v3 yh vp) (fun c=>c .undef L) fun yi O=>aa m true (fun v4=>af .eql yi (N .u8 111) fun yj=>v4 yj O) (fun c=>c .undef O) fun yk t=>ay m yk (Bo false) fun yl=>ax yl ( bL (dP a0 (some (N .i64 2)) none) fun ym=>g [ym,(N .i64 8)] t) ( bK a0 fun yn=>af .geq yn (N .i64 3) fun n=>aa n true (fun v5=>v5 a0 t) (fun c=>c .undef t) fun yo P=>aa n true (fun v6=>dH yo (N .i64 1) fun yp=>v6 yp P) (fun c=>c .undef P) fun yq R=>aa n true (fun v8=>p2 [yq] R fun yr vq=>v8 yr vq) (fun c=>c .undef R) fun ys S=>aa n true (fun v9=>af .eql ys (N .u8 120) fun yt=>v9 yt S) (fun c=>c .undef S) fun yu U=>ay n yu (Bo false) fun yv=>ax yv ( bL (dP a0 (some (N .i64 2)) none) fun yw=>g [yw,(N .i64 16)] U) ( bL (dP a0 (some (N .i64 1)) none) fun x2=>g [x2,(N .i64 8)] U)))) ( g [a0,(N .i64 10)] i)) ( Q (.tup [(N .u64 0),(.ifc p1 (N .i64 3))]) i))) (fun h u=>dL (fun D=>af .eql a2 (N .i64 0) fun yx=>ax yx ( D [(N .i64 64)] u) ( af .lss a2 (N .i64 0) fun A=>aa A false (fun wa=>wa a2 u) (fun c=>c .undef u) fun yy W=>aa A false (fun wb=>af .gtr yy (N .i64 64) fun yz=>wb yz W) (fun c=>c .undef W) fun y0 X=>ay A (Bo true) y0 fun y1=>ax y1 ( Q (.tup [(N .u64 0),(.ifc p1 (N .i64 4))]) X) ( D [a2] X))) (fun y9 v=>dL (fun r=>af .eql (ai h 1) (N .i64 10) fun y5=>ax y5 ( r [(N .u64 1844674407370955162)] v) ( af .eql (ai h 1) (N .i64 16) fun y6=>ax y6 ( r [(N .u64 1152921504606846976)] v) ( jc .u64 (ai h 1) fun y2=>af .quo (N .u64 18446744073709551615) y2 fun y3=>af .add y3 (N .u64 1) fun y4=>r [y4] v))) (fun za vr=>jc .u64 (ai y9 0) fun y7=>BR .shl (N .u64 1) y7 fun y8=>af .sub y8 (N .u64 1) fun B=>iN p3 (ai h 0) fun wr vy=>bf wr vy vr fun vn vs=>aT vn fun ws=>eX (fun wq d j=>af .lss (ai d 2) ws fun wt=>ax wt ( dL (fun E=>cK vn (ai d 2) 1 fun wu=>aj j wu fun e=>dL (fun F=>af .eql e (N .u8 95) fun vl=>aa vl true (fun wd=>wd xu j) (fun c=>c .undef j) fun wv w=>ay vl wv (Bo false) fun ww=>ax ww ( E [(Bo true),(ai d 1)] w) ( af .leq (N .u8 48) e fun x=>aa x true (fun we=>we e w) (fun c=>c .undef w) fun wx Y=>aa x true (fun wf=>af .leq wx (N .u8 57) fun wy=>wf wy Y) (fun c=>c .undef Y) fun wz Z=>ay x wz (Bo false) fun w0=>ax w0 ( af .sub e (N .u8 48) fun w1=>F [(ai d 0),w1] Z) ( p2 [e] Z fun w2 va=>af .leq (N .u8 97) w2 fun p=>aa p true (fun wg=>wg e va) (fun c=>c .undef va) fun w3 vb=>aa p true (fun wh=>p2 [w3] vb fun w4 vt=>wh w4 vt) (fun c=>c .undef vb) fun w5 vc=>aa p true (fun wi=>af .leq w5 (N .u8 122) fun w6=>wi w6 vc) (fun c=>c .undef vc) fun w7 ve=>ay p w7 (Bo false) fun w8=>ax w8 ( p2 [e] ve fun w9 vu=>af .sub w9 (N .u8 97) fun xa=>af .add xa (N .u8 10) fun xb=>F [(ai d 0),xb] vu) ( Q (.tup [(N .u64 0),(.ifc p1 (N .i64 2))]) ve)))) (fun C o=>jc .u8 (ai h 1) fun xc=>af .geq (ai C 1) xc fun xd=>ax xd ( Q (.tup [(N .u64 0),(.ifc p1 (N .i64 2))]) o) ( af .geq (ai d 1) (ai za 0) fun xe=>ax xe ( Q (.tup [B,(.ifc p1 (N .i64 1))]) o) ( jc .u64 (ai h 1) fun xf=>af .mul (ai d 1) xf fun vm=>jc .u64 (ai C 1) fun xg=>af .add vm xg fun y=>af .lss y vm fun q=>aa q false (fun wj=>wj y o) (fun c=>c .undef o) fun xh vf=>aa q false (fun wk=>wk B vf) (fun c=>c .undef vf) fun xi vg=>aa q false (fun wm=>af .gtr xh xi fun xj=>wm xj vg) (fun c=>c .undef vg) fun xk vh=>ay q (Bo true) xk fun xl=>ax xl ( Q (.tup [B,(.ifc p1 (N .i64 1))]) vh) ( E [(ai C 0),y] vh))))) (fun vo vv=>af .add (ai d 2) (N .i64 1) fun xm=>wq [(ai vo 0),(ai vo 1),xm] vv)) ( aa (ai d 0) true (fun wn=>wn a0 j) (fun c=>c .undef j) fun xn vi=>aa (ai d 0) true (fun wo=>p4 [xn] vi fun xo vw=>wo xo vw) (fun c=>c .undef vi) fun xp vj=>aa (ai d 0) true (fun wp=>ek xp fun xq=>wp xq vj) (fun c=>c .undef vj) fun xr vk=>ay (ai d 0) xr (Bo false) fun xs=>ax xs ( Q (.tup [(N .u64 0),(.ifc p1 (N .i64 2))]) vk) ( Q (.tup [(ai d 1),(.sc .nilIface)]) vk))) [(Bo false),(N .u64 0),(N .i64 0)] vs))))
def fU (a0:AV) (M0:RM) (Q:ah) : Prop:=af .sub a0 (N .i64 1) fun c=>af .and a0 c fun d=>af .eql d (N .i64 0) fun e=>Q e M0
def iQ (a0:AV) (M0:RM) (Q:ah) : Prop:=af .or a0 (N .u8 32) fun c=>Q c M0
end Go.Ab.Hw
namespace Go.Ab.Vl
open Go Go.Ab
def qJ (p1:ak) (a0 a1:AV) (M0:RM) (Q:ah) : Prop:=p1 [a0,a1] M0 fun c d=>aF c 0 fun e=>aF c 1 fun g=>aF c 2 fun h=>Q (.tup [e,g,h]) d
def iT (p1:ak) (a0 a1:AV) (M0:RM) (Q:ah) : Prop:=p1 [a0,a1] M0 fun d c=>Q d c
def ul (p1:ak) (a0:AV) (M0:RM) (Q:ah) : Prop:=bK a0 fun z=>af .geq z (N .i64 1) fun e=>aa e true (fun c=>c a0 M0) (fun c=>c .undef M0) fun A g=>aa e true (fun o=>bK A fun B=>o B g) (fun c=>c .undef g) fun C i=>aa e true (fun q=>af .leq C (N .i64 20) fun D=>q D i) (fun c=>c .undef i) fun E j=>ay e E (Bo false) fun d=>aa d true (fun r=>r a0 j) (fun c=>c .undef j) fun t l=>aa d true (fun s=>p1 [t,(St [97,98,99,100,101,102,103,104,105,106,107,108,109,110,111,112,113,114,115,116,117,118,119,120,121,122,48,49,50,51,52,53,54,55,56,57,45])] l fun u n=>s u n) (fun c=>c .undef l) fun v h=>aa d true (fun p=>aQ .eql v (St []) fun w=>p w h) (fun c=>c .undef h) fun x m=>ay d x (Bo false) fun y=>Q y m
def qL (p1:Nat) (p2 p3 p4:ak) (a0 a1:AV) (M0:RM) (Q:ah) : Prop:=iN p1 a0 fun x s=>bf x s M0 fun o p=>aT o fun O=>eX (fun w g e=>af .lss (ai g 0) O fun y=>ax y ( cK o (ai g 0) 1 fun z=>aj e z fun n=>p2 [n] e fun A h=>ek A fun d=>aa d false (fun c=>c a1 h) (fun c=>c .undef h) fun B j=>aa d false (fun t=>t n j) (fun c=>c .undef j) fun C l=>aa d false (fun u=>p3 [B,C] l fun D r=>u D r) (fun c=>c .undef l) fun E m=>aa d false (fun v=>af .geq E (N .i64 0) fun F=>v F m) (fun c=>c .undef m) fun G i=>ay d (Bo true) G fun H=>ax H ( Q (Bo false) i) ( af .add (ai g 0) (N .i64 1) fun I=>w [I] i)) ( p4 [a0] e fun L q=>Q L q)) [(N .i64 0)] p
def oU (p1:ak) (a0 a1:AV) (M0:RM) (Q:ah) : Prop:=p1 [a0,a1] M0 fun d c=>Q d c
def iB (p1:ak) (a0 a1:AV) (M0:RM) (Q:ah) : Prop:=p1 [a0,a1] M0 fun c d=>af .geq c (N .i64 0) fun e=>ax e ( bL (dP a0 none (some c)) fun g=>bK a1 fun h=>af .add c h fun i=>bL (dP a0 (some i) none) fun j=>Q (.tup [g,j,(Bo true)]) d) ( Q (.tup [a0,(St []),(Bo false)]) d)
def wQ (p1 p2 p3:ak) (p4:Nat) (p5 p6 p7 p8:ak) (a0 a1:AV) (M0:RM) (Q:ah) : Prop:=aQ .eql a0 (St []) fun h=>aa h false (fun c=>c a1 M0) (fun c=>c .undef M0) fun C i=>aa h false (fun y=>aQ .eql C (St []) fun D=>y D i) (fun c=>c .undef i) fun E e=>ay h (Bo true) E fun F=>ax F ( Q a0 e) ( bK a1 fun G=>af .eql G (N .i64 1) fun d=>aa d true (fun z=>z a1 e) (fun c=>c .undef e) fun H m=>aa d true (fun A=>dH H (N .i64 0) fun I=>A I m) (fun c=>c .undef m) fun L n=>aa d true (fun B=>af .lss L (N .u8 128) fun O=>B O n) (fun c=>c .undef n) fun P j=>ay d P (Bo false) fun R=>ax R ( dH a1 (N .i64 0) fun S=>dH a1 (N .i64 0) fun V=>p1 [a0,S] j fun U p=>p2 [U,V] p fun W q=>Q W q) ( p3 [a1] j fun o r=>aF o 0 fun X=>aF o 1 fun Y=>bf (.row [(Bo false),(Bo false),(Bo false),(Bo false),(Bo false),(Bo false),(Bo false),(Bo false),(Bo false),(Bo false),(Bo false),(Bo false),(Bo false),(Bo false),(Bo false),(Bo false),(Bo false),(Bo false),(Bo false),(Bo false),(Bo false),(Bo false),(Bo false),(Bo false),(Bo false),(Bo false),(Bo false),(Bo false),(Bo false),(Bo false),(Bo false),(Bo false),(Bo false),(Bo false),(Bo false),(Bo false),(Bo false),(Bo false),(Bo false),(Bo false),(Bo false),(Bo false),(Bo false),(Bo false),(Bo false),(Bo false),(Bo false),(Bo false),(Bo false),(Bo false),(Bo false),(Bo false),(Bo false),(Bo false),(Bo false),(Bo false),(Bo false),(Bo false),(Bo false),(Bo false),(Bo false),(Bo false),(Bo false),(Bo false),(Bo false),(Bo false),(Bo false),(Bo false),(Bo false),(Bo false),(Bo false),(Bo false),(Bo false),(Bo false),(Bo false),(Bo false),(Bo false),(Bo false),(Bo false),(Bo false),(Bo false),(Bo false),(Bo false),(Bo false),(Bo false),(Bo false),(Bo false),(Bo false),(Bo false),(Bo false),(Bo false),(Bo false),(Bo false),(Bo false),(Bo false),(Bo false),(Bo false),(Bo false),(Bo false),(Bo false),(Bo false),(Bo false),(Bo false),(Bo false),(Bo false),(Bo false),(Bo false),(Bo false),(Bo false),(Bo false),(Bo false),(Bo false),(Bo false),(Bo false),(Bo false),(Bo false),(Bo false),(Bo false),(Bo false),(Bo false),(Bo false),(Bo false),(Bo false),(Bo false),(Bo false),(Bo false),(Bo false),(Bo false),(Bo false),(Bo false),(Bo false),(Bo false),(Bo false),(Bo false),(Bo false),(Bo false),(Bo false),(Bo false),(Bo false),(Bo false),(Bo false),(Bo false),(Bo false),(Bo false),(Bo false),(Bo false),(Bo false),(Bo false),(Bo false),(Bo false),(Bo false),(Bo false),(Bo false),(Bo false),(Bo false),(Bo false),(Bo false),(Bo false),(Bo false),(Bo false),(Bo false),(Bo false),(Bo false),(Bo false),(Bo false),(Bo false),(Bo false),(Bo false),(Bo false),(Bo false),(Bo false),(Bo false),(Bo false),(Bo false),(Bo false),(Bo false),(Bo false),(Bo false),(Bo false),(Bo false),(Bo false),(Bo false),(Bo false),(Bo false),(Bo false),(Bo false),(Bo false),(Bo false),(Bo false),(Bo false),(Bo false),(Bo false),(Bo false),(Bo false),(Bo false),(Bo false),(Bo false),(Bo false),(Bo false),(Bo false),(Bo false),(Bo false),(Bo false),(Bo false),(Bo false),(Bo false),(Bo false),(Bo false),(Bo false),(Bo false),(Bo false),(Bo false),(Bo false),(Bo false),(Bo false),(Bo false),(Bo false),(Bo false),(Bo false),(Bo false),(Bo false),(Bo false),(Bo false),(Bo false),(Bo false),(Bo false),(Bo false),(Bo false),(Bo false),(Bo false),(Bo false),(Bo false),(Bo false),(Bo false),(Bo false),(Bo false),(Bo false),(Bo false),(Bo false),(Bo false),(Bo false),(Bo false),(Bo false),(Bo false),(Bo false),(Bo false),(Bo false),(Bo false),(Bo false),(Bo false),(Bo false),(Bo false),(Bo false),(Bo false),(Bo false),(Bo false)] false p4 0) (fun x=>.ptr x 0) r fun g s=>aK s g X 256 fun l=>ax Y ( p5 [a0,g] l fun Z t=>p6 [Z,g] t fun va u=>Q va u) ( p7 [a0,a1] l fun vb v=>p8 [vb,a1] v fun vc w=>Q vc w)))
def yY (p1:Nat) (a0:AV) (M0:RM) (Q:ah) : Prop:=iN p1 a0 fun t q=>bf t q M0 fun e n=>aT e fun F=>eX (fun s g c=>af .lss (ai g 0) F fun u=>ax u ( dL (fun j=>cK e (ai g 0) 1 fun v=>aj c v fun h=>af .geq h (N .u8 65) fun i=>aa i true (fun d=>d h c) (fun d=>d .undef c) fun w l=>aa i true (fun r=>af .leq w (N .u8 90) fun x=>r x l) (fun d=>d .undef l) fun y m=>ay i y (Bo false) fun z=>ax z ( af .add h (N .u8 97) fun A=>af .sub A (N .u8 65) fun B=>cK e (ai g 0) 1 fun C=>aK m C B 1 fun o=>j [] o) ( j [] m)) (fun G p=>af .add (ai g 0) (N .i64 1) fun D=>s [D] p)) ( bQ c e fun E=>Q E c)) [(N .i64 0)] n
def fH (a0 a1:AV) (M0:RM) (Q:ah) : Prop:=bK a0 fun B=>bK a1 fun C=>af .geq B C fun d=>aa d true (fun c=>c a0 M0) (fun c=>c .undef M0) fun r e=>aa d true (fun m=>m a1 e) (fun c=>c .undef e) fun s g=>aa d true (fun o=>bK s fun t=>o t g) (fun c=>c .undef g) fun u h=>aa d true (fun p=>bL (dP r none (some u)) fun v=>p v h) (fun c=>c .undef h) fun w i=>aa d true (fun q=>q a1 i) (fun c=>c .undef i) fun x j=>aa d true (fun n=>aQ .eql w x fun y=>n y j) (fun c=>c .undef j) fun z l=>ay d z (Bo false) fun A=>Q A l
def dx (p1 p2 p3 p4:ak) (a0 a1:AV) (M0:RM) (Q:ah) : Prop:=bK a1 fun e=>af .eql e (N .i64 0) fun q=>aa q false (fun c=>c a1 M0) (fun c=>c .undef M0) fun w2 w=>aa q false (fun vk=>vk a0 w) (fun c=>c .undef w) fun w3 x=>aa q false (fun vn=>aQ .eql w2 w3 fun w4=>vn w4 x) (fun c=>c .undef x) fun w5 h=>ay q (Bo true) w5 fun w6=>ax w6 ( Q (N .i64 0) h) ( af .eql e (N .i64 1) fun w7=>ax w7 ( dH a1 (N .i64 0) fun w8=>p1 [a0,w8] h fun w9 vj=>Q w9 vj) ( bK a0 fun xa=>af .geq e xa fun xb=>ax xb ( Q (N .i64 (-1)) h) ( aj h .top fun xc=>af .leq e xc fun r=>aa r true (fun v3=>v3 a0 h) (fun c=>c .undef h) fun xd vb=>aa r true (fun v8=>bK xd fun xe=>v8 xe vb) (fun c=>c .undef vb) fun xf y=>aa r true (fun vl=>af .leq xf (N .i64 64) fun xg=>vl xg y) (fun c=>c .undef y) fun xh z=>ay r xh (Bo false) fun xi=>ax xi ( p2 [a0,a1] z fun xj vh=>Q xj vh) ( dH a1 (N .i64 0) fun vf=>dH a1 (N .i64 1) fun xk=>bK a0 fun xl=>af .sub xl e fun xm=>af .add xm (N .i64 1) fun t=>eX (fun v9 j s=>af .lss (ai j 0) t fun xn=>ax xn ( dL (fun v=>dH a0 (ai j 0) fun xo=>af .neq xo vf fun xp=>ax xp ( af .add (ai j 0) (N .i64 1) fun xq=>bL (dP a0 (some xq) (some t)) fun xr=>p1 [xr,vf] s fun vg A=>af .lss vg (N .i64 0) fun xs=>ax xs ( Q (N .i64 (-1)) A) ( af .add vg (N .i64 1) fun xt=>af .add (ai j 0) xt fun xu=>v [xu] A)) ( v [(ai j 0)] s)) (fun m B=>af .add (ai m 0) (N .i64 1) fun xv=>dH a0 xv fun xw=>af .eql xw xk fun d=>aa d true (fun vm=>vm a0 B) (fun c=>c .undef B) fun xx C=>aa d true (fun vo=>vo (ai m 0) C) (fun c=>c .undef C) fun xy D=>aa d true (fun vp=>vp (ai m 0) D) (fun c=>c .undef D) fun xz E=>aa d true (fun vq=>vq e E) (fun c=>c .undef E) fun x0 F=>aa d true (fun vr=>af .add xz x0 fun x1=>vr x1 F) (fun c=>c .undef F) fun x2 G=>aa d true (fun vs=>bL (dP xx (some xy) (some x2)) fun x3=>vs x3 G) (fun c=>c .undef G) fun x4 H=>aa d true (fun vt=>vt a1 H) (fun c=>c .undef H) fun x5 I=>aa d true (fun vu=>aQ .eql x4 x5 fun x6=>vu x6 I) (fun c=>c .undef I) fun x7 n=>ay d x7 (Bo false) fun x8=>ax x8 ( Q (ai m 0) n) ( af .add (ai m 0) (N .i64 1) fun g=>af .add (ai j 1) (N .i64 1) fun u=>aj n .top fun wa=>af .leq e wa fun l=>aa l true (fun vv=>vv u n) (fun c=>c .undef n) fun wb L=>aa l true (fun vw=>vw g L) (fun c=>c .undef L) fun wc O=>aa l true (fun vx=>p3 [wc] O fun wd vi=>vx wd vi) (fun c=>c .undef O) fun we P=>aa l true (fun vy=>af .gtr wb we fun wf=>vy wf P) (fun c=>c .undef P) fun wg o=>ay l wg (Bo false) fun wh=>ax wh ( bL (dP a0 (some g) none) fun wi=>p2 [wi,a1] o fun vd R=>af .geq vd (N .i64 0) fun wj=>ax wj ( af .add vd g fun wk=>Q wk R) ( Q (N .i64 (-1)) R)) ( aj o .top fun wl=>af .gtr e wl fun i=>aa i true (fun vz=>vz u o) (fun c=>c .undef o) fun wm S=>aa i true (fun v0=>v0 g S) (fun c=>c .undef S) fun wn U=>aa i true (fun v1=>BR .shr wn (N .u64 4) fun wo=>v1 wo U) (fun c=>c .undef U) fun wp V=>aa i true (fun v2=>af .add (N .i64 4) wp fun wq=>v2 wq V) (fun c=>c .undef V) fun wr W=>aa i true (fun v4=>af .geq wm wr fun ws=>v4 ws W) (fun c=>c .undef W) fun wt X=>ay i wt (Bo false) fun p=>aa p true (fun v5=>v5 g X) (fun c=>c .undef X) fun wu Y=>aa p true (fun v6=>v6 t Y) (fun c=>c .undef Y) fun wv Z=>aa p true (fun v7=>af .lss wu wv fun ww=>v7 ww Z) (fun c=>c .undef Z) fun wx va=>ay p wx (Bo false) fun wy=>ax wy ( bL (dP a0 (some g) none) fun wz=>p4 [wz,a1] va fun ve vc=>af .lss ve (N .i64 0) fun w0=>ax w0 ( Q (N .i64 (-1)) vc) ( af .add g ve fun w1=>Q w1 vc)) ( v9 [g,u] va))))) ( Q (N .i64 (-1)) s)) [(N .i64 0),(N .i64 0)] z))))
def kU (p1:ak) (a0 a1:AV) (M0:RM) (Q:ah) : Prop:=p1 [a0,a1] M0 fun c d=>aF c 0 fun g=>aF c 1 fun e=>Q (.tup [g,e]) d
def fI (p1:ak) (a0 a1:AV) (M0:RM) (Q:ah) : Prop:=p1 [a0,a1] M0 fun g c=>ek g fun h=>ax h ( Q (.tup [a0,(Bo false)]) c) ( bK a1 fun d=>bL (dP a0 (some d) none) fun e=>Q (.tup [e,(Bo true)]) c)
end Go.Ab.Vl
namespace Go.Ab
open Go Go.RowKit
def RM.cell (M:RM) (b o:Nat) : Option AV:=(M.cells b).bind (·[o]?)
section
variable {M M' : RM} {K:AV→Prop} {KQ:ah}
theorem dX {b o:Nat} {v:AV} : M.loads b o 1=some [v]↔M.cell b o=some v:=by
 unfold RM.loads RM.cell
 cases hc:M.cells b with
 | none=>simp
 | some l =>
   simp only[Option.bind_some]
   constructor
   ·intro h
    split at h
    ·rename_i hlt
     have h1:=Option.some.inj h
     have:((l.drop o).take 1)[0]?=some v:=by rw[h1]; rfl
     rw[List.getElem?_take,if_pos (by omega),List.getElem?_drop] at this
     simpa using this
    ·cases h
   ·intro h
    have hlt:=(List.getElem?_eq_some_iff.1 h).1
    rw[if_pos (by omega)]
    congr 1
    rw[List.drop_eq_getElem_cons hlt]
    simp only[List.take_succ_cons,List.take_zero]
    congr 1
    exact(List.getElem?_eq_some_iff.1 h).2
@[go_sem] theorem dD (b o:Nat) : aj M (.ptr b o) K=∃ v,M.cell b o=some v∧K v:=by
 apply propext; unfold aj
 constructor
 ·rintro⟨b',o',v,h,hl,hk⟩; cases h; exact⟨v,dX.1 hl,hk⟩
 ·rintro⟨v,hl,hk⟩; exact⟨b,o,v,rfl,dX.2 hl,hk⟩
@[go_sem] theorem uC (b o n:Nat) : bI M (.ptr b o) n K=∃ vs,M.loads b o n=some vs∧K (.agg vs):=by
 apply propext; unfold bI
 constructor
 ·rintro⟨b',o',v,h,hl,hk⟩; cases h; exact⟨v,hl,hk⟩
 ·rintro⟨v,hl,hk⟩; exact⟨b,o,v,rfl,hl,hk⟩
@[go_sem] theorem Ei (b p:Nat) (x:AV) (n:Nat) (K:RM→Prop) : aK M (.ptr b p) x n K=(x.cells.length=n∧∃ M',M.stores b p x.cells=some M'∧K M'):=by
 apply propext; unfold aK
 constructor
 ·rintro⟨b',o',M',h,h1,h2,hk⟩; cases h; exact⟨h1,M',h2,hk⟩
 ·rintro⟨h1,M',h2,hk⟩; exact⟨b,p,M',rfl,h1,h2,hk⟩
def Mj (k:IntKind) (a b:Int) : Int:=k.wrap (BitVec.ofInt k.bits a &&& BitVec.ofInt k.bits b).toNat
def VY (k:IntKind) (a b:Int) : Int:=k.wrap (BitVec.ofInt k.bits a ||| BitVec.ofInt k.bits b).toNat
def XQ (k:IntKind) (a b:Int) : Int:=k.wrap (BitVec.ofInt k.bits a ^^^ BitVec.ofInt k.bits b).toNat
def QY (k:IntKind) (a b:Int) : Int:=k.wrap (BitVec.ofInt k.bits a &&& ~~~BitVec.ofInt k.bits b).toNat
def Sb (k:IntKind) (a b:Int) : Int:=k.wrap (a * 2 ^ (min b.toNat k.bits))
def OZ (k:IntKind) (a b:Int) : Int:=a.fdiv (2 ^ (min b.toNat k.bits))
section
variable (k:IntKind) (a b:Int)
theorem fQ {op:BinOp} {v:Value} (h:ug op k a b=some v) : af op (N k a) (N k b) K=K (.sc v):=by
 apply propext; unfold af
 constructor
 ·rintro⟨k',a',b',u,h1,h2,h3,hk⟩; cases h1; cases h2; rw[h] at h3; cases h3; exact hk
 ·intro hk; exact⟨k,a,b,v,rfl,rfl,h,hk⟩
@[go_sem] theorem yB:af .add (N k a) (N k b) K=K (N k (k.wrap (a + b))):=fQ k a b rfl
@[go_sem] theorem lL:af .sub (N k a) (N k b) K=K (N k (k.wrap (a - b))):=fQ k a b rfl
@[go_sem] theorem Pv:af .mul (N k a) (N k b) K=K (N k (k.wrap (a * b))):=fQ k a b rfl
@[go_sem] theorem Iy:af .and (N k a) (N k b) K=K (N k (Mj k a b)):=fQ k a b rfl
@[go_sem] theorem QX:af .or (N k a) (N k b) K=K (N k (VY k a b)):=fQ k a b rfl
@[go_sem] theorem Xw:af .xor (N k a) (N k b) K=K (N k (XQ k a b)):=fQ k a b rfl
@[go_sem] theorem UR:af .andNot (N k a) (N k b) K=K (N k (QY k a b)):=fQ k a b rfl
@[go_sem] theorem bE:af .eql (N k a) (N k b) K=K (Bo (a == b)):=fQ k a b rfl
@[go_sem] theorem gN:af .neq (N k a) (N k b) K=K (Bo (a != b)):=fQ k a b rfl
@[go_sem] theorem eU:af .lss (N k a) (N k b) K=K (Bo (decide (a<b))):=fQ k a b rfl
@[go_sem] theorem kE:af .leq (N k a) (N k b) K=K (Bo (decide (a≤b))):=fQ k a b rfl
@[go_sem] theorem cZ:af .gtr (N k a) (N k b) K=K (Bo (decide (a > b))):=fQ k a b rfl
@[go_sem] theorem dh:af .geq (N k a) (N k b) K=K (Bo (decide (a ≥ b))):=fQ k a b rfl
@[go_sem] theorem Hq:af .quo (N k a) (N k b) K=(b≠0∧K (N k (k.wrap (a.tdiv b)))):=by
 apply propext; unfold af ug
 constructor
 ·rintro⟨k',a',b',u,h1,h2,h3,hk⟩; cases h1; cases h2
  simp only at h3
  split at h3
  ·cases h3
  ·cases h3; exact⟨‹_›,hk⟩
 ·rintro⟨h0,hk⟩; exact⟨k,a,b,_,rfl,rfl,by simp only[if_neg h0],hk⟩
@[go_sem] theorem Qd:af .rem (N k a) (N k b) K=(b≠0∧K (N k (a.tmod b))):=by
 apply propext; unfold af ug
 constructor
 ·rintro⟨k',a',b',u,h1,h2,h3,hk⟩; cases h1; cases h2
  simp only at h3
  split at h3
  ·cases h3
  ·cases h3; exact⟨‹_›,hk⟩
 ·rintro⟨h0,hk⟩; exact⟨k,a,b,_,rfl,rfl,by simp only[if_neg h0],hk⟩
variable (l:IntKind)
@[go_sem] theorem RU:BR .shl (N k a) (N l b) K=(0≤b∧K (N k (Sb k a b))):=by
 apply propext; unfold BR Ep
 constructor
 ·rintro⟨k',a',l',b',u,h1,h2,h3,hk⟩; cases h1; cases h2
  split at h3
  ·cases h3
  ·cases h3; exact⟨by omega,hk⟩
 ·rintro⟨h0,hk⟩; exact⟨k,a,l,b,_,rfl,rfl,by rw[if_neg (by omega)]; rfl,hk⟩
@[go_sem] theorem Rx:BR .shr (N k a) (N l b) K=(0≤b∧K (N k (OZ k a b))):=by
 apply propext; unfold BR Ep
 constructor
 ·rintro⟨k',a',l',b',u,h1,h2,h3,hk⟩; cases h1; cases h2
  split at h3
  ·cases h3
  ·cases h3; exact⟨by omega,hk⟩
 ·rintro⟨h0,hk⟩; exact⟨k,a,l,b,_,rfl,rfl,by rw[if_neg (by omega)]; rfl,hk⟩
@[go_sem] theorem Yi {l:IntKind} {a:Int} {K:AV→Prop} : Lt (N l a) K=K (St (Utf8.encode a).data.toList):=by
 apply propext; unfold Lt
 constructor
 ·rintro⟨l',n,h,hk⟩; cases h; exact hk
 ·intro h; exact⟨_,_,rfl,h⟩
@[go_sem] theorem mQ:jc k (N l a) K=K (N k (k.wrap a)):=by
 apply propext; unfold jc
 constructor
 ·rintro⟨l',n,h,hk⟩; cases h; exact hk
 ·intro hk; exact⟨l,a,rfl,hk⟩
@[go_sem] theorem NL (mx:Bool) : Fs mx (N k a) (N k b) K=K (N k (if mx then(if b > a then b else a) else(if b<a then b else a))):=by
 apply propext; unfold Fs
 constructor
 ·rintro⟨k',a',b',h1,h2,hk⟩; cases h1; cases h2; exact hk
 ·intro hk; exact⟨k,a,b,rfl,rfl,hk⟩
@[go_sem] theorem Yo:Ja (N k a) K=K (N k (k.wrap (0 - a))):=by
 apply propext; unfold Ja
 constructor
 ·rintro⟨k',a',h1,hk⟩; cases h1; exact hk
 ·intro hk; exact⟨k,a,rfl,hk⟩
end
@[go_sem] theorem bn (b:Bool) : ek (Bo b) K=K (Bo (!b)):=by
 apply propext; unfold ek
 constructor
 ·rintro⟨b',h,hk⟩; cases h; exact hk
 ·intro hk; exact⟨b,rfl,hk⟩
@[go_sem] theorem VI (neg a b:Bool) : Bt neg (Bo a) (Bo b) K=K (Bo ((a == b) != neg)):=by
 apply propext; unfold Bt
 constructor
 ·rintro⟨a',b',h,h',hk⟩; cases h; cases h'; exact hk
 ·intro hk; exact⟨a,b,rfl,rfl,hk⟩
@[go_sem] theorem Ij (t:Bool) (a b:AV) : ay (Bo t) a b K=K (if t then a else b):=by
 apply propext; unfold ay
 constructor
 ·rintro⟨t',h,hk⟩; cases h; exact hk
 ·intro hk; exact⟨t,rfl,hk⟩
@[go_sem] theorem IK (b:Bool) (p q:Prop) : ax (Bo b) p q=((b=true→p)∧(b=false→q)):=rfl
@[go_sem] theorem VZ {α:Type} (b want:Bool) (f g:α→Prop) (k:α) : mU (Bo b) want f g k=if b=want then f k else g k:=rfl
@[go_sem] theorem Tw {α:Type} (want:Bool) (f g:α→Prop) (k:α) : mU .undef want f g k=g k:=rfl
@[go_sem] theorem WW (b o:Nat) : O5 (.ptr b o) K=K (.ptr b o):=by
 apply propext; unfold O5
 constructor
 ·rintro⟨b',o',h,hk⟩; cases h; exact hk
 ·intro hk; exact⟨b,o,rfl,hk⟩
@[go_sem] theorem iO (b o n:Nat) : aJ (.ptr b o) n K=K (.ptr b (o + n)):=by
 apply propext; unfold aJ
 constructor
 ·rintro⟨b',o',h,hk⟩; cases h; exact hk
 ·intro hk; exact⟨b,o,rfl,hk⟩
@[go_sem] theorem sG (b p len:Nat) (cap:Cap) (k:IntKind) (n:Int) (size:Nat) : cK (.slc b p len cap) (N k n) size K=(0≤n∧n<len∧K (.ptr b (p + n.toNat * size))):=by
 apply propext; unfold cK
 constructor
 ·rintro⟨b',p',l',c',k',n',h,h',h0,h1,hk⟩; cases h; cases h'; exact⟨h0,h1,hk⟩
 ·rintro⟨h0,h1,hk⟩; exact⟨b,p,len,cap,k,n,rfl,rfl,h0,h1,hk⟩
@[go_sem] theorem Pp (b p:Nat) (k:IntKind) (n:Int) (len size:Nat) : ow (.ptr b p) (N k n) len size K=(0≤n∧n<len∧K (.ptr b (p + n.toNat * size))):=by
 apply propext; unfold ow
 constructor
 ·rintro⟨b',p',k',n',h,h',h0,h1,hk⟩; cases h; cases h'; exact⟨h0,h1,hk⟩
 ·rintro⟨h0,h1,hk⟩; exact⟨b,p,k,n,rfl,rfl,h0,h1,hk⟩
@[go_sem] theorem Wi (cs:List AV) (off:Nat) : Lu (.agg cs) off K=∃ v,cs[off]?=some v∧K v:=by
 apply propext; unfold Lu
 constructor
 ·rintro⟨cs',v,h,h1,hk⟩; cases h; exact⟨v,h1,hk⟩
 ·rintro⟨v,h1,hk⟩; exact⟨cs,v,rfl,h1,hk⟩
@[go_sem] theorem VX (cs:List AV) (off n:Nat) : Lj (.agg cs) off n K=(off + n≤cs.length∧K (.agg ((cs.drop off).take n))):=by
 apply propext; unfold Lj
 constructor
 ·rintro⟨cs',h,h1,hk⟩; cases h; exact⟨h1,hk⟩
 ·rintro⟨h1,hk⟩; exact⟨cs,rfl,h1,hk⟩
@[go_sem] theorem Wd (cs:List AV) (k:IntKind) (n:Int) (len:Nat) : MJ (.agg cs) (N k n) len K=(0≤n∧n<len∧∃ v,cs[n.toNat]?=some v∧K v):=by
 apply propext; unfold MJ
 constructor
 ·rintro⟨cs',k',n',v,h,h',h0,h1,h2,hk⟩; cases h; cases h'; exact⟨h0,h1,v,h2,hk⟩
 ·rintro⟨h0,h1,v,h2,hk⟩; exact⟨cs,k,n,v,rfl,rfl,h0,h1,h2,hk⟩
@[go_sem] theorem We (cs:List AV) (k:IntKind) (n:Int) (len size:Nat) : Ml (.agg cs) (N k n) len size K=(0≤n∧n<len∧n.toNat * size + size≤cs.length∧K (.agg ((cs.drop (n.toNat * size)).take size))):=by
 apply propext; unfold Ml
 constructor
 ·rintro⟨cs',k',n',h,h',h0,h1,h2,hk⟩; cases h; cases h'; exact⟨h0,h1,h2,hk⟩
 ·rintro⟨h0,h1,h2,hk⟩; exact⟨cs,k,n,rfl,rfl,h0,h1,h2,hk⟩
@[go_sem] theorem RD (s:List UInt8) (k:IntKind) (n:Int) : dH (St s) (N k n) K=(0≤n∧∃ b,s[n.toNat]?=some b∧K (N .u8 b.toNat)):=by
 apply propext; unfold dH
 constructor
 ·rintro⟨s',k',n',b,h,h',h0,h1,hk⟩; cases h; cases h'; exact⟨h0,b,h1,hk⟩
 ·rintro⟨h0,b,h1,hk⟩; exact⟨s,k,n,b,rfl,rfl,h0,h1,hk⟩
@[go_sem] theorem CK (vs:List AV) (i:Nat) : aF (.tup vs) i K=∃ v,vs[i]?=some v∧K v:=by
 apply propext; unfold aF
 constructor
 ·rintro⟨cs',v,h,h1,hk⟩; cases h; exact⟨v,h1,hk⟩
 ·rintro⟨v,h1,hk⟩; exact⟨vs,v,rfl,h1,hk⟩
@[go_sem] theorem dM (v:AV) : bL (some v) K=K v:=by
 apply propext; unfold bL
 constructor
 ·rintro⟨v',h,hk⟩; cases h; exact hk
 ·intro hk; exact⟨v,rfl,hk⟩
@[go_sem] theorem lQ (b o n:Nat) (c:Cap) : aT (.slc b o n c) K=K (N .i64 n):=by
 apply propext; unfold aT
 constructor
 ·rintro⟨n',h,hk⟩; cases h; exact hk
 ·intro hk; exact⟨n,rfl,hk⟩
@[go_sem] theorem Qp (b:Nat) : aT (.emp b) K=K (N .i64 0):=by
 apply propext; unfold aT
 constructor
 ·rintro⟨n',h,hk⟩; cases h; exact hk
 ·intro hk; exact⟨0,rfl,hk⟩
@[go_sem] theorem Cj:aT (.sc (.slice none 0 0)) K=K (N .i64 0):=by
 apply propext; unfold aT
 constructor
 ·rintro⟨n',h,hk⟩; cases h; exact hk
 ·intro hk; exact⟨0,rfl,hk⟩
@[go_sem] theorem gY (s:List UInt8) : bK (St s) K=K (N .i64 s.length):=by
 apply propext; unfold bK
 constructor
 ·rintro⟨s',h,hk⟩; cases h; exact hk
 ·intro hk; exact⟨s,rfl,hk⟩
@[go_sem] theorem Yl (b o n c:Nat) : xG (.slc b o n (.ex c)) K=K (N .i64 c):=by
 apply propext; unfold xG
 constructor
 ·rintro⟨n',h,hk⟩; cases h; exact hk
 ·intro hk; exact⟨c,rfl,hk⟩
@[go_sem] theorem WL:xG (.sc (.slice none 0 0)) K=K (N .i64 0):=by
 apply propext; unfold xG
 constructor
 ·rintro⟨n',h,hk⟩; cases h; exact hk
 ·intro hk; exact⟨0,rfl,hk⟩
@[go_sem] theorem WT (s:List UInt8) : isStr (St s) K=K (St s):=by
 apply propext; unfold isStr
 constructor
 ·rintro⟨s',h,hk⟩; cases h; exact hk
 ·intro hk; exact⟨s,rfl,hk⟩
@[go_sem] theorem Ke {x:AV} {s:List UInt8} (h:xH M x=some s) : bQ M x K=K (St s):=by
 apply propext; unfold bQ
 constructor
 ·rintro⟨s',h',hk⟩; rw[h] at h'; cases h'; exact hk
 ·intro hk; exact⟨s,h,hk⟩
theorem nQ {op:BinOp} {a b:List UInt8} {v:AV} (h:xR op a b=some v) : aQ op (St a) (St b) K=K v:=by
 apply propext; unfold aQ
 constructor
 ·rintro⟨a',b',u,h1,h2,h3,hk⟩; cases h1; cases h2; rw[h] at h3; cases h3; exact hk
 ·intro hk; exact⟨a,b,v,rfl,rfl,h,hk⟩
@[go_sem] theorem fu (a b:List UInt8) : aQ .eql (St a) (St b) K=K (Bo (a == b)):=by rw[← gV]; exact nQ rfl
@[go_sem] theorem sw (a b:List UInt8) : aQ .neq (St a) (St b) K=K (Bo (a != b)):=by rw[bne,← gV]; exact nQ rfl
@[go_sem] theorem Xo (a b:List UInt8) : aQ .lss (St a) (St b) K=K (Bo (Op.bytesLess a b)):=nQ rfl
@[go_sem] theorem XH (a b:List UInt8) : aQ .leq (St a) (St b) K=K (Bo (Op.bytesLess a b || a == b)):=by rw[← gV]; exact nQ rfl
@[go_sem] theorem Xb (a b:List UInt8) : aQ .gtr (St a) (St b) K=K (Bo (!(Op.bytesLess a b || a == b))):=by rw[← gV]; exact nQ rfl
@[go_sem] theorem XK (a b:List UInt8) : aQ .geq (St a) (St b) K=K (Bo (!Op.bytesLess a b)):=nQ rfl
@[go_sem] theorem aR (a b:List UInt8) : aQ .add (St a) (St b) K=(a.length + b.length≤9223372036854775807∧K (St (a++b))):=by
 apply propext; unfold aQ
 constructor
 ·rintro⟨a',b',u,h1,h2,h3,hk⟩; cases h1; cases h2
  simp only[xR] at h3
  split at h3
  ·rename_i hb; cases h3; exact⟨aO hb,hk⟩
  ·cases h3
 ·rintro⟨h0,hk⟩; exact⟨a,b,_,rfl,rfl,by simp only[xR,aM.2 h0],hk⟩
theorem jB {neg:Bool} {tag:Nat} {x y:AV} {r:Bool} (ht:GM x=tag) (h:xI x y=some r) : iF neg tag x y K=K (Bo (r != neg)):=by
 apply propext; unfold iF
 constructor
 ·rintro⟨_,r',h',hk⟩; rw[h] at h'; cases h'; exact hk
 ·intro hk; exact⟨ht,r,h,hk⟩
@[go_sem] theorem Fu (neg:Bool) : iF neg 2 (.sc (.slice none 0 0)) (.sc (.slice none 0 0)) K=K (Bo (!neg)):=(jB (tag:=2) (r:=true) rfl rfl).trans (by cases neg <;> rfl)
@[go_sem] theorem EE (neg:Bool) (b:Nat) : iF neg 2 (.emp b) (.sc (.slice none 0 0)) K=K (Bo neg):=(jB (tag:=2) (r:=false) rfl rfl).trans (by cases neg <;> rfl)
@[go_sem] theorem EZ (neg:Bool) (b o n:Nat) (c:Cap) : iF neg 2 (.slc b o n c) (.sc (.slice none 0 0)) K=K (Bo neg):=(jB (tag:=2) (r:=false) rfl rfl).trans (by cases neg <;> rfl)
@[go_sem] theorem Ro (neg:Bool) (b o:Nat) : iF neg 1 (.ptr b o) (.sc (.pointer none)) K=K (Bo neg):=(jB (tag:=1) (r:=false) rfl rfl).trans (by cases neg <;> rfl)
@[go_sem] theorem QM (neg:Bool) : iF neg 1 (.sc (.pointer none)) (.sc (.pointer none)) K=K (Bo (!neg)):=(jB (tag:=1) (r:=true) rfl rfl).trans (by cases neg <;> rfl)
@[go_sem] theorem RG (neg:Bool) (b:Nat) : iF neg 3 (.map b) (.sc (.map none)) K=K (Bo neg):=(jB (tag:=3) (r:=false) rfl rfl).trans (by cases neg <;> rfl)
@[go_sem] theorem RX (neg:Bool) (f:Fn) (xs ys:List AV) : iF neg 4 (.fn f xs ys) (.sc .nilFunc) K=K (Bo neg):=(jB (tag:=4) (r:=false) rfl rfl).trans (by cases neg <;> rfl)
@[go_sem] theorem U6 (neg:Bool) (ks:List Nat) (cs ds:List AV) : Ac neg ks (.agg cs) (.agg ds) K=(cs.length=ks.length∧ds.length=ks.length∧∃ r,dB ks cs ds=some r∧K (Bo (r != neg))):=by
 apply propext; unfold Ac
 constructor
 ·rintro⟨a',b',r,h1,h2,h3,h4,h5,hk⟩; cases h1; cases h2; exact⟨h3,h4,r,h5,hk⟩
 ·rintro⟨h3,h4,r,h5,hk⟩; exact⟨cs,ds,r,rfl,rfl,h3,h4,h5,hk⟩
@[go_sem] theorem Cr (C:FuncId→ak) (g:FuncId) (first cap args:List AV) : Ba C (.fn (.func g) first cap) args M KQ=C g (first++args++cap) M KQ:=by
 apply propext; unfold Ba
 constructor
 ·rintro⟨g',f',c',h,hk⟩; cases h; exact hk
 ·intro hk; exact⟨g,first,cap,rfl,hk⟩
@[go_sem] theorem gF (cs:List AV) (parts:List (Nat × Nat × AV)) : fM cs parts K=∃ cs',jK cs parts=some cs'∧K (.agg cs'):=rfl
@[go_sem] theorem aU (x:RB) (mk:Nat→AV) : bf x mk M KQ=KQ (mk M.next) (M.push x):=rfl
@[go_sem] theorem Bp (x:RB) (mk:Nat→AV) (k:KR) : vN x mk M k=k (mk M.next) (M.push x) (some M.next):=rfl
@[go_sem] theorem pG (f:(List AV→RM→Prop)→Prop) (g:List AV→RM→Prop) : dL f g=f g:=rfl
@[go_sem] theorem aV (x:AV) (xs:List AV) : ai (x :: xs) 0=x:=rfl
@[go_sem] theorem dE (x:AV) (xs:List AV) (n:Nat) : ai (x :: xs) (n + 1)=ai xs n:=rfl
@[go_sem] theorem U3 (b:Nat) (x:RB) (mk:Nat→AV) (v:AV) : G7 (some b) M x mk v=(M.heap b=some x∧mk b=v):=rfl
end
section
variable {M M' : RM}
theorem RM.uN {b:Nat} {l:List AV} {opn:Bool} {el fz:Nat} (h:M.heap b=some (.row l opn el fz)) : M.cells b=some l:=by simp[RM.cells,h]
theorem RM.Qk {b o:Nat} {l:List AV} {opn:Bool} {el fz:Nat} (h:M.heap b=some (.row l opn el fz)) : M.cell b o=l[o]?:=by simp[RM.cell,RM.uN h]
theorem RM.iM {b o k:Nat} {l:List AV} {opn:Bool} {el fz:Nat} (h:M.heap b=some (.row l opn el fz)) (hk:o + k≤l.length) : M.loads b o k=some ((l.drop o).take k):=by
 simp[RM.loads,RM.uN h,hk]
theorem RM.Mm {b o:Nat} {l vs:List AV} {opn:Bool} {el fz:Nat} (h:M.heap b=some (.row l opn el fz)) (h1:o + vs.length≤l.length) (h2:fz≤o) (h3:vs.all oneCell=true) :
  M.stores b o vs=some (M.put b (.row (l.take o++vs++l.drop (o + vs.length)) opn el fz)):=by
 simp only[RM.stores,h]
 rw[if_pos ⟨h1,h2,h3⟩]
structure ae (bs:List Nat) (M M' : RM) : Prop where
 base:M'.base=M.base
 next:M.next≤M'.next
 heap:∀ c,c<M.next→c ∉ bs→M'.heap c=M.heap c
theorem ae.refl (bs:List Nat) (M:RM) : ae bs M M:=⟨rfl,Nat.le_refl _,fun _ _ _=>rfl⟩
theorem ae.trans {bs:List Nat} {M1 M2:RM} (h:ae bs M M1) (k:ae bs M1 M2) : ae bs M M2 :=
 ⟨k.base.trans h.base,Nat.le_trans h.next k.next,fun c hc hb=>(k.heap c (Nat.lt_of_lt_of_le hc h.next) hb).trans (h.heap c hc hb)⟩
theorem ae.push {bs:List Nat} (h:ae bs M M') (x:RB) : ae bs M (M'.push x) :=
 ⟨h.base,Nat.le_succ_of_le h.next,fun c hc hb=>by
  have:=h.next
  simp only[RM.push]; rw[if_neg (by omega)]; exact h.heap c hc hb⟩
theorem ae.put {bs:List Nat} (h:ae bs M M') {b:Nat} (x:RB) (hb:M.next≤b∨b∈bs) : ae bs M (M'.put b x) :=
 ⟨h.base,h.next,fun c hc hcb=>by
  simp only[RM.put]; rw[if_neg]
  ·exact h.heap c hc hcb
  ·rintro rfl; rcases hb with hb | hb
   ·omega
   ·exact hcb hb⟩
theorem ae.del {bs:List Nat} (h:ae bs M M') {b:Nat} (hb:M.next≤b∨b∈bs) : ae bs M (M'.del b) :=
 ⟨h.base,h.next,fun c hc hcb=>by
  simp only[RM.del]; rw[if_neg]
  ·exact h.heap c hc hcb
  ·rintro rfl; rcases hb with hb | hb
   ·omega
   ·exact hcb hb⟩
theorem ae.mono {bs cs:List Nat} (h:ae bs M M') (hs:∀ b∈bs,b∈cs) : ae cs M M':=⟨h.base,h.next,fun c hc hb=>h.heap c hc fun h=>hb (hs c h)⟩
theorem ae.cells {bs:List Nat} (h:ae bs M M') {b:Nat} (hlt:b<M.next) (hb:b ∉ bs) : M'.cells b=M.cells b:=by
 simp only[RM.cells,h.heap b hlt hb,RM.lo,h.base]
theorem ae.cell {bs:List Nat} (h:ae bs M M') {b o:Nat} (hlt:b<M.next) (hb:b ∉ bs) : M'.cell b o=M.cell b o:=by
 simp only[RM.cell,h.cells hlt hb]
theorem ae.loads {bs:List Nat} (h:ae bs M M') {b o k:Nat} (hlt:b<M.next) (hb:b ∉ bs) : M'.loads b o k=M.loads b o k:=by
 simp only[RM.loads,h.cells hlt hb]
@[go_sem] theorem RM.VW (x:RB) : (M.push x).next=M.next + 1:=rfl
@[go_sem] theorem RM.Yd (b:Nat) (x:RB) : (M.put b x).next=M.next:=rfl
@[go_sem] theorem RM.Xe (b:Nat) : (M.del b).next=M.next:=rfl
@[go_sem] theorem RM.lh (x:RB) : (M.push x).heap M.next=some x:=by simp[RM.push]
theorem RM.P8 {x:RB} {c:Nat} (h:c≠M.next) : (M.push x).heap c=M.heap c:=by simp[RM.push,h]
@[go_sem] theorem RM.CF (b:Nat) (x:RB) : (M.put b x).heap b=some x:=by simp[RM.put]
end
abbrev aA:AV:=.sc (.slice none 0 0)
inductive aG (M:RM) (size:Nat) : AV→List AV→Nat→Prop
 | nil:aG M size aA [] 0
 | emp (b:Nat) : aG M size (.emp b) [] 0
 | slc (b o n:Nat) (cap:Cap) (cs:List AV) : b<M.next→M.loads b o (n * size)=some cs→aG M size (.slc b o n cap) cs n
section
variable {M M' : RM} {size:Nat} {v:AV} {cs:List AV} {n:Nat}
theorem FK {b o k:Nat} {cs:List AV} (h:M.loads b o k=some cs) : cs.length=k:=by
 unfold RM.loads at h
 split at h <;> first | (cases h; done) | skip
 split at h <;> first | (cases h; done) | skip
 rename_i hle
 have:=Option.some.inj h
 rw[← this,List.length_take,List.length_drop]; omega
theorem Om {b o k:Nat} {cs:List AV} (h:M.loads b o k=some cs) (i:Nat) (hi:i<k) : M.cell b (o + i)=cs[i]?:=by
 unfold RM.loads at h
 unfold RM.cell
 split at h <;> first | (cases h; done) | skip
 rename_i l hl
 split at h <;> first | (cases h; done) | skip
 cases h
 simp only[hl,Option.bind_some]
 rw[List.getElem?_take,if_pos hi,List.getElem?_drop]
theorem uz {b o k:Nat} {cs:List AV} (h:M.loads b o k=some cs) (i j:Nat) (hij:i + j≤k) : M.loads b (o + i) j=some ((cs.drop i).take j):=by
 unfold RM.loads at h ⊢
 cases hl:M.cells b with
 | none=>rw[hl] at h; cases h
 | some l =>
   rw[hl] at h
   simp only at h ⊢
   split at h
   ·rename_i hle
    have h:=Option.some.inj h
    subst h
    rw[if_pos (by omega),List.drop_take,List.drop_drop,List.take_take]
    congr 2
    omega
   ·cases h
theorem Ea {b o:Nat} {l:List AV} (h:M.cells b=some l) (ho:o≤l.length) : M.loads b o 0=some []:=by
 simp[RM.loads,h,ho]
theorem aG.length (h:aG M size v cs n) : cs.length=n * size:=by
 cases h with
 | nil=>exact(Nat.zero_mul _).symm
 | emp=>exact(Nat.zero_mul _).symm
 | slc b o n cap cs hb0 hl=>exact FK hl
theorem aG.len (h:aG M size v cs n) {K:AV→Prop} : aT v K=K (N .i64 n):=by
 cases h with
 | nil=>exact Cj
 | emp b=>exact Qp b
 | slc b o n cap cs hb0 hl=>exact lQ b o n cap
theorem aG.nW (h:aG M size v cs n) (zs:List AV) : nW M size zs false v=some (n,cs):=by
 cases h with
 | nil=>rfl
 | emp b=>rfl
 | slc b o n cap cs hb0 hl=>simp only[Go.Ab.nW,hl]
theorem aG.pos (h:aG M size v cs n) (hn:0<n) : ∃ b o cap,v=.slc b o n cap∧b<M.next∧M.loads b o (n * size)=some cs:=by
 cases h with
 | nil=>omega
 | emp b=>omega
 | slc b o n cap cs hb0 hl=>exact⟨b,o,cap,rfl,hb0,hl⟩
theorem aG.xH (h:aG M 1 v cs n) {l:List UInt8} (hb:dF byteOf cs=some l) : xH M v=some l:=by
 cases h with
 | nil=>simp[dF] at hb; subst hb; rfl
 | emp b=>simp[dF] at hb; subst hb; rfl
 | slc b o n cap cs hb0 hl =>
   rw[Nat.mul_one] at hl
   simp only[Go.Ab.xH,hl]; exact hb
def aH:AV→List Nat
 | .slc b _ _ _=>[b]
 | _=>[]
theorem aG.keep {bs:List Nat} (h:aG M size v cs n) (hk:ae bs M M') (hb:∀ b∈aH v,b ∉ bs) : aG M' size v cs n:=by
 cases h with
 | nil=>exact .nil
 | emp b=>exact .emp b
 | slc b o n cap cs hb0 hl =>
   exact .slc b o n cap cs (Nat.lt_of_lt_of_le hb0 hk.next) (by rw[hk.loads hb0 (hb b (by simp[aH]))]; exact hl)
inductive Own (M:RM) (base el size:Nat) : AV→List AV→Nat→Prop
 | nil:Own M base el size aA [] 0
 | ex0 (b o:Nat) : base≤b→b<M.next→(∃ l,M.cells b=some l∧o≤l.length)→Own M base el size (.slc b o 0 (.ex 0)) [] 0
 | op (b n:Nat) (cs:List AV) : base≤b→b<M.next→M.heap b=some (.row cs true el 0)→cs.length=n * size→Own M base el size (.slc b 0 n (.op size)) cs n
theorem Own.kZ {base el:Nat} (h:Own M base el size v cs n) : aG M size v cs n:=by
 cases h with
 | nil=>exact .nil
 | ex0 b o hb hlt hc =>
   obtain⟨l,hl,ho⟩:=hc
   exact .slc b o 0 _ [] hlt (by rw[Nat.zero_mul]; exact Ea hl ho)
 | op b n cs hb hlt hh hl =>
   refine .slc b 0 n _ cs hlt ?_
   rw[RM.iM hh (by omega)]
   simp[← hl]
theorem Own.blk {base el:Nat} (h:Own M base el size v cs n) : ∀ b∈aH v,base≤b∧b<M.next:=by
 cases h with
 | nil=>intro b hb; simp[aH] at hb
 | ex0 b o hb hlt hc=>intro c hc; simp[aH] at hc; subst hc; exact⟨hb,hlt⟩
 | op b n cs hb hlt hh hl=>intro c hc; simp[aH] at hc; subst hc; exact⟨hb,hlt⟩
theorem Own.keep {base el:Nat} {bs:List Nat} (h:Own M base el size v cs n) (hk:ae bs M M') (hb:∀ b∈aH v,b ∉ bs) : Own M' base el size v cs n:=by
 cases h with
 | nil=>exact .nil
 | ex0 b o h1 hlt hc=>exact .ex0 b o h1 (Nat.lt_of_lt_of_le hlt hk.next) (by rw[hk.cells hlt (hb b (by simp[aH]))]; exact hc)
 | op b n cs h1 hlt hh hl=>exact .op b n cs h1 (Nat.lt_of_lt_of_le hlt hk.next) (by rw[hk.heap b hlt (hb b (by simp[aH]))]; exact hh) hl
theorem Own.mono {base base' el:Nat} (h:Own M base el size v cs n) (hb:base'≤base) : Own M base' el size v cs n:=by
 cases h with
 | nil=>exact .nil
 | ex0 b o h1 hlt hc=>exact .ex0 b o (Nat.le_trans hb h1) hlt hc
 | op b n cs h1 hlt hh hl=>exact .op b n cs (Nat.le_trans hb h1) hlt hh hl
theorem Bc {base el bytes:Nat} {zs:List AV} {zeros:Bool} {x:AV} {m:Nat} {ds:List AV} {K:ah} (h:Own M base el size v cs n) (hbase:base≤M.next) (hs:1≤size) (hx:nW M size zs zeros x=some (m,ds)) (hd:ds.length=m * size)
  (h1:ds.all oneCell=true) (hb:(n + m) * bytes≤140737488355328) (hb2:n + m≤140737488355328)
  (hK:∀ v' M',Own M' base el size v' (cs++ds) (n + m)→ae (aH v) M M'→M.next≤M'.next→(v'=v∨∀ b∈aH v',M.next≤b)→K v' M') : appW el size bytes zs zeros v x M K:=by
 have hmb:m * bytes≤140737488355328:=Nat.le_trans (Nat.mul_le_mul_right _ (by omega)) hb
 refine⟨m,ds,hx,hmb,by omega, ?_⟩
 cases h with
 | nil =>
   by_cases hm:m=0
   ·subst hm
    have:ds=[]:=List.eq_nil_of_length_eq_zero (by simpa using hd)
    subst this
    exact⟨aA,M,by simp[tQ],hK _ _ .nil (ae.refl _ _) (Nat.le_refl _) (.inl rfl)⟩
   ·refine⟨.slc M.next 0 m (.op size),M.push (.row ds true el 0),by simp only[tQ,if_neg hm,h1,if_true],hK _ _ ?_ ((ae.refl _ _).push _) (by simp[RM.push]) (.inr fun b hb=>by simp[aH] at hb; omega)⟩
    simp only[List.nil_append,Nat.zero_add]
    exact .op _ _ _ hbase (by simp[RM.push]) (RM.lh _) hd
 | ex0 b o hb0 hlt hc =>
   obtain⟨l,hl,ho⟩:=hc
   by_cases hm:m=0
   ·subst hm
    have:ds=[]:=List.eq_nil_of_length_eq_zero (by simpa using hd)
    subst this
    exact⟨_,M,by simp[tQ],hK _ _ (.ex0 b o hb0 hlt ⟨l,hl,ho⟩) (ae.refl _ _) (Nat.le_refl _) (.inl rfl)⟩
   ·refine⟨.slc M.next 0 m (.op size),M.push (.row ds true el 0), ?_,hK _ _ ?_ ((ae.refl _ _).push _) (by simp[RM.push]) (.inr fun b hb=>by simp[aH] at hb; omega)⟩
    ·have hl0:M.loads b o (0 * size)=some []:=by rw[Nat.zero_mul]; exact Ea hl ho
     simp only[tQ,if_neg hm]
     rw[if_neg (by omega),hl0]
     simp only[Nat.zero_add,List.nil_append]
     rw[if_pos ⟨hmb,by omega,h1⟩]
    ·simp only[List.nil_append,Nat.zero_add]
     exact .op _ _ _ hbase (by simp[RM.push]) (RM.lh _) hd
 | op b n cs hb0 hlt hh hl =>
   by_cases hm:m=0
   ·subst hm
    have:ds=[]:=List.eq_nil_of_length_eq_zero (by simpa using hd)
    subst this
    exact⟨_,M,by simp[tQ],hK _ _ (by simpa using .op b n cs hb0 hlt hh hl) (ae.refl _ _) (Nat.le_refl _) (.inl rfl)⟩
   ·have hpos:1≤m * size:=Nat.mul_pos (by omega) hs
    have hsum:(n + m) * size=n * size + m * size:=Nat.add_mul _ _ _
    refine⟨.slc M.next 0 (n + m) (.op size),(M.del b).push (.row (cs++ds) true el 0), ?_,hK _ _ ?_ (((ae.refl _ _).del (.inr (by simp[aH]))).push _) (by simp[RM.push,RM.del]) (.inr fun b hb=>by simp[aH] at hb; omega)⟩
    ·simp only[tQ,if_neg hm,hh,and_self,if_true]
     rw[if_neg (by omega),if_pos ⟨trivial,hb,hb2,trivial,hl,Nat.zero_le _,h1⟩]
    ·exact .op _ _ _ (show base≤M.next from hbase) (by simp[RM.push,RM.del]) (by simp[RM.push,RM.del]) (by rw[List.length_append,hl,hd,hsum])
theorem aG.xI (h:aG M size v cs n) (neg:Bool) : (v=aA∧∀ K:AV→Prop,iF neg 2 v aA K=K (Bo (!neg)))∨(v≠aA∧∀ K:AV→Prop,iF neg 2 v aA K=K (Bo neg)):=by
 cases h with
 | nil=>exact .inl ⟨rfl,fun _=>Fu neg⟩
 | emp b=>exact .inr ⟨by(intro h; cases h),fun _=>EE neg b⟩
 | slc b o n cap cs hb0 hl=>exact .inr ⟨by(intro h; cases h),fun _=>EZ neg b o n cap⟩
theorem Own.lit {base el T:Nat} (M:RM) (h:base≤M.next) : Own (M.push (.row [] false T 0)) base el size (.slc M.next 0 0 (.ex 0)) [] 0 :=
 .ex0 _ _ h (by simp[RM.push]) ⟨[],by simp[RM.cells,RM.push],Nat.le_refl _⟩
end
end Go.Ab
set_option maxRecDepth 4000
namespace Go.Ab
open Go
theorem wrap_u8 (n:Nat) : IntKind.wrap .u8 (n:Int)=((n % 256:Nat) : Int):=by
 simp only[IntKind.wrap,IntKind.bits,IntKind.signed,IntKind.max,IntKind.min]
 simp
theorem jl {n:Int} (h0:0≤n) (h:n<256) : IntKind.wrap .u8 n=n:=by
 obtain⟨m,rfl⟩:=Int.eq_ofNat_of_zero_le h0
 rw[wrap_u8,Nat.mod_eq_of_lt (by omega)]
theorem gU {n:Int} (h0 : -9223372036854775808≤n) (h:n<9223372036854775808) : IntKind.wrap .i64 n=n:=by
 rw[IntKind.wrap_i64]; omega
theorem Rf (k:Nat) (a b:Nat) : (BitVec.ofInt k (a:Int) &&& BitVec.ofInt k (b:Int)).toNat=(a &&& b) % 2 ^ k:=by
 rw[BitVec.toNat_and,BitVec.ofInt_natCast,BitVec.ofInt_natCast,BitVec.toNat_ofNat,BitVec.toNat_ofNat,← Nat.and_mod_two_pow]
def Dp:IntKind→Nat
 | .u8=>8 | .u16=>16 | .u32=>32 | _=>64
def Dr:IntKind→Bool
 | .u8 | .u16 | .u32 | .u64=>true
 | _=>false
theorem O4 {k:IntKind} (h:Dr k=true) (n:Nat) : k.wrap (n:Int)=((n % 2 ^ Dp k:Nat) : Int):=by
 cases k <;> simp[Dr] at h <;> (simp only[IntKind.wrap,IntKind.bits,IntKind.signed,Dp]; simp)
theorem PY (k:IntKind) (h:Dr k=true) : k.bits=Dp k:=by cases k <;> simp[Dr] at h <;> rfl
theorem O7 {k:IntKind} (h:Dr k=true) (a b:Nat) : Mj k a b=(((a &&& b) % 2 ^ Dp k:Nat) : Int):=by
 unfold Mj
 rw[Rf,O4 h,PY k h,Nat.mod_mod]
theorem Uv (n:Nat) : (UInt8.ofNat n).toNat=n % 256:=by simp
end Go.Ab
namespace Go.Ab
open Go Go.RowKit
section
variable {P:Program}
end
def RM.old (base:Base) (w:World) : RM where
 next:=base.n
 heap:=fun b=>if b<base.n then(match w.heap[b]? with | some (.cells c _ _)=>some (.ro c) | _=>none) else none
 base:=base
def IJ (n:Nat) : Ren:=fun b=>if b<n then some ⟨b,0,0,0⟩ else none
theorem P6 {P:Program} {base:Base} {w:World} (hn:base.n=w.heap.size) (hi:base.inv w) : bP P (IJ base.n) (RM.old base w) w:=by
 refine⟨{ next:=base.n,heap:=.leaf },rfl,⟨fun b i h=>?_,fun b i x _ h=>by simp[Tree.get] at h,fun b _ i _ x _ _ _ h=>by simp[Tree.get] at h,fun b x h=>by simp[Tree.get] at h,fun b i x _ h=>by simp[Tree.get] at h,hi⟩,by simp[RM.old,RM.lo,hn],fun b x h=>.inr ?_,fun c hc=>by have hc' : c<base.n:=hc; simp only[IJ]; rw[if_pos hc']⟩
 ·simp only[IJ] at h
  split at h <;> first | (cases h; done) | skip
  cases h
  exact⟨by assumption,by rw[← hn]; assumption⟩
 ·simp only[RM.old] at h
  split at h <;> first | (cases h; done) | skip
  rename_i hlt
  split at h <;> first | (cases h; done) | skip
  rename_i c el fr hh
  cases h
  exact⟨c,rfl,hlt,el,fr,hh⟩
theorem RM.NC {base:Base} {w:World} {b:Nat} {c:Array Value} {el:TypeId} {fr:_} (hb:b<base.n) (h:w.heap[b]?=some (.cells c el fr)) : (RM.old base w).cells b=some (c.toList.map (nK base.n)):=by
 simp only[RM.cells,RM.old,if_pos hb,h]
def lJ (lo:Nat) : Value→AV
 | .agg cs=>.agg (cs.toList.map (nK lo))
 | v=>nK lo v
theorem IM {ρ:Ren} {lo:Nat} (h:∀ c,c<lo→ρ c=some ⟨c,0,0,0⟩) : ∀ (vs:List Value),aI ρ (vs.map (nK lo)) vs
 | []=>.nil
 | v :: vs=>.cons _ _ _ _ (Cw h v) (IM h vs)
theorem O8 {ρ:Ren} {lo:Nat} (h:∀ c,c<lo→ρ c=some ⟨c,0,0,0⟩) (v:Value) : ag ρ (lJ lo v) v:=by
 unfold lJ
 split
 ·exact .agg _ _ (IM h _)
 ·exact Cw h v
theorem FU {ρ:Ren} {lo:Nat} (h:∀ c,c<lo→ρ c=some ⟨c,0,0,0⟩) : ∀ (vs:List Value),aI ρ (vs.map (lJ lo)) vs
 | []=>.nil
 | v :: vs=>.cons _ _ _ _ (O8 h v) (FU h vs)
theorem fe.close {P:Program} {f:FuncId} {base:Base} {w:World} {us:Array Value} (hn:base.n=w.heap.size) (hi:base.inv w)
  (h:fe P f (us.toList.map (lJ base.n)) (RM.old base w) fun v _=>v=Bo true) :
  Calls P f us w fun e w'=>e=.returned (.bool true)∧Below w.heap.size w w':=by
 have hr:=P6 (P:=P) hn hi
 refine((h.2 (IJ base.n) w us.toList (FU (fun c hc=>by simp only[IJ]; rw[if_pos hc]) _) hr)).mono fun e w' hR=>?_
 obtain⟨v',v,M',ρ',rfl,k1,k2,rfl⟩:=hR
 obtain⟨rfl,_⟩:=aD k2
 refine⟨rfl,k1.step.os,k1.step.tape,k1.step.output,k1.step.size,fun k hk=>k1.step.low k ?_⟩
 show k<base.n
 rw[hn]; exact hk
def tH:Option TypeDesc→Bool
 | some .bool | some (.int _) | some .string | some (.slice _) | some (.struct _) | some (.array _ _)=>false
 | _=>true
inductive Fits (P:Program) (M:RM) : TypeId→List AV→Prop
 | bool (t:TypeId) (b:Bool) : P.underlying t=some .bool→Fits P M t [Bo b]
 | int (t:TypeId) (k:IntKind) (n:Int) : P.underlying t=some (.int k)→k.min≤n→n≤k.max→Fits P M t [N k n]
 | str (t:TypeId) (s:List UInt8) : P.underlying t=some .string→s.length≤reachBytes→Fits P M t [St s]
 | K9 (t e:TypeId) : P.underlying t=some (.slice e)→Fits P M t [aA]
 | emp (t e:TypeId) (b:Nat) : P.underlying t=some (.slice e)→Fits P M t [.emp b]
 | slc (t e:TypeId) (b o n c:Nat) (cs:List AV) : P.underlying t=some (.slice e)→b<M.next→n≤c→c * P.bytesOf e≤reachBytes→M.loads b o (n * P.cellsOf e)=some cs →
   (∀ i,i<n→Fits P M e ((cs.drop (i * P.cellsOf e)).take (P.cellsOf e)))→Fits P M t [.slc b o n (.ex c)]
 | struct (t:TypeId) (fs:Array Field) (cs:List AV) : P.underlying t=some (.struct fs)→cs.length=P.cellsOf t →
   (∀ (i:Nat) (f:Field),fs[i]?=some f→Fits P M f.type ((cs.drop f.offset).take (P.cellsOf f.type)))→Fits P M t cs
 | array (t e:TypeId) (n:Nat) (cs:List AV) : P.underlying t=some (.array n e)→cs.length=P.cellsOf t →
   (∀ i,i<n→Fits P M e ((cs.drop (i * P.cellsOf e)).take (P.cellsOf e)))→Fits P M t cs
 | other (t:TypeId) (cs:List AV) : tH (P.underlying t)=true→Fits P M t cs
 | zero (t e:TypeId) (cs:List AV) : P.underlying t=some (.slice e)→P.cellsOf e=0→Fits P M t cs
theorem yV (a:Addr) : a.add 0=a:=by simp[Addr.add]
theorem qR {w:World} {base:Nat} {a:Addr} {n:Nat} {cs:List Value} (h:w.cells? base a n=some cs) : cs.length=n∧∀ i,i<n→w.cell? (a.add i)=cs[i]?:=by
 unfold World.cells? at h
 split at h
 ·exact⟨by simpa using mapM_some_length h,fun i hi=>mapM_some_get h i i (by simp[hi])⟩
 ·cases h
theorem cell?_at {w:World} {a:Addr} {v:Value} (h:w.cell? a=some v) : ∃ c el fr,w.heap[a.block]?=some (.cells c el fr)∧a.spot=none∧a.off<c.size∧c[a.off]?=some v:=by
 unfold World.cell? at h
 split at h
 ·rename_i c el fr hh
  split at h
  ·cases h
  ·rename_i hs
   exact⟨c,el,fr,hh,by simpa using hs,(Array.getElem?_eq_some_iff.1 h).1,h⟩
 ·cases h
section
variable {H:Type} {enc:TypeId × Value→H} {P:Program} {base:Base} {w:World}
theorem pO {e:TypeId} {ds:List (DataW H)} {d:DataW H} (hd:d∈ds) {x:Nat} (hx:x∈d.weights P e) : x∈DataW.weightsAll P e ds:=by
 induction ds with
 | nil=>cases hd
 | cons y ys ih =>
   simp only[DataW.weightsAll,List.mem_append]
   rcases List.mem_cons.1 hd with rfl | hd
   ·exact .inl hx
   ·exact .inr (ih hd)
theorem uG {x:Nat} : ∀ (ts:List TypeId) (ds:List (DataW H)) (i:Nat) (t:TypeId) (d:DataW H),ts[i]?=some t→ds[i]?=some d→x∈d.weights P t→x∈DataW.weightsEach P ts ds
 | [],_,_,_,_,h,_,_=>by simp at h
 | _ :: _,[],_,_,_,_,h,_=>by simp at h
 | t :: ts,d :: ds,0,t',d',h,h',hx=>by
   simp at h h'; subst h h'
   simp only[DataW.weightsEach,List.mem_append]; exact .inl hx
 | t :: ts,d :: ds,i + 1,t',d',h,h',hx=>by
   simp only[DataW.weightsEach,List.mem_append]
   exact .inr (uG ts ds i t' d' (by simpa using h) (by simpa using h') hx)
theorem Ha (hn:base.n=w.heap.size) {held:Bool} : ∀ (fuel:Nat) (t:TypeId) (cs:List Value) (x:DataW H × List MemPlace),DataW.trod enc P w 0 (fun _=>true) held fuel t cs=some x →
  (∀ y∈x.1.weights P t,y≤reachBytes)→Fits P (RM.old base w) t (cs.map (nK base.n)):=by
 intro fuel
 induction fuel with
 | zero=>intro t cs x h; simp[DataW.trod] at h
 | succ m ih =>
   intro t cs x h hw
   cases hu:P.underlying t with
   | none=>exact .other _ _ (by rw[hu]; rfl)
   | some d =>
     cases d with
     | bool =>
       obtain⟨b,rfl,rfl⟩:=DataW.trod_bool hu h
       exact .bool t b hu
     | int k =>
       obtain⟨n,rfl,rfl,hwf⟩:=DataW.trod_int hu h
       simp only[Lit.wf,Bool.and_eq_true,decide_eq_true_eq] at hwf
       exact .int t k n hu hwf.1 hwf.2
     | string =>
       obtain⟨s,rfl,rfl,_⟩:=DataW.trod_string hu h
       exact .str t s.data.toList hu (hw _ (by simp[DataW.weights]))
     | slice e =>
       rcases DataW.trod_slice hu h with⟨rfl,rfl⟩ | ⟨a,len,cap,elems,rest,n,hm,rfl,rfl,_,hlc,_,hel,hget,hrest,_⟩
       ·exact .K9 t e hu
       ·cases hm
        rcases Nat.eq_zero_or_pos (P.cellsOf e) with hz | hz
        ·exact .zero t e _ hu hz
        rcases Nat.eq_zero_or_pos cap with hc | hc
        ·have hl0:len=0:=by omega
         subst hc hl0
         exact .emp t e 0 hu
        ·obtain⟨hr1,hr2⟩:=hrest rfl
         have every:∀ i,i<cap→∃ es y,w.cells? 0 (a.add (i * P.cellsOf e)) (P.cellsOf e)=some es∧DataW.trod enc P w 0 (fun _=>true) held m e es=some y∧(y∈elems∨y∈rest):=by
          intro i hi
          by_cases hil:i<len
          ·have h1:=hget i hil
           have h2:elems[i]?=some (elems[i]'(by omega)):=by simp[hel,hil]
           rw[h2] at h1
           obtain⟨es,e1,e2⟩:=Option.bind_eq_some_iff.1 h1
           exact⟨es,_,e1,e2,.inl (List.getElem_mem _)⟩
          ·have h1:=hr2 (i - len) (by omega)
           rw[show len + (i - len)=i by omega] at h1
           have h2:rest[i - len]?=some (rest[i - len]'(by omega)):=by
            rw[List.getElem?_eq_getElem]
           rw[h2] at h1
           obtain⟨es,e1,e2⟩:=Option.bind_eq_some_iff.1 h1
           exact⟨es,_,e1,e2,.inr (List.getElem_mem _)⟩
         obtain⟨es0,_,k0,_,_⟩:=every 0 hc
         obtain⟨kl0,kg0⟩:=qR k0
         have hc0:=kg0 0 hz
         rw[List.getElem?_eq_getElem (by omega)] at hc0
         obtain⟨c,el,fr,hh,hsp,_,_⟩:=cell?_at hc0
         obtain⟨b,o,sp⟩:=a
         rw[Nat.zero_mul,yV,yV] at hh hsp
         simp only at hh hsp
         subst hsp
         have hblt:b<base.n:=by rw[hn]; exact(Array.getElem?_eq_some_iff.1 hh).1
         have hlast:o + cap * P.cellsOf e≤c.size:=by
          obtain⟨es1,_,k1,_,_⟩:=every (cap - 1) (by omega)
          obtain⟨kl1,kg1⟩:=qR k1
          have hc1:=kg1 (P.cellsOf e - 1) (by omega)
          rw[List.getElem?_eq_getElem (by omega)] at hc1
          obtain⟨c',el',fr',hh',_,hlt,_⟩:=cell?_at hc1
          rw[dS,dS] at hh' hlt
          simp only at hh' hlt
          rw[hh] at hh'
          cases hh'
          have:cap * P.cellsOf e=(cap - 1) * P.cellsOf e + P.cellsOf e:=by
           rw[← Nat.succ_mul]; congr 1; omega
          omega
         have WH:nK base.n (.slice (some ⟨b,o,none⟩) len cap)=.slc b o len (.ex cap):=by
          obtain⟨cap,rfl⟩ : ∃ k,cap=k + 1:=⟨cap - 1,by omega⟩
          simp only[nK,if_pos hblt]
         have hcells:=RM.NC hblt hh
         have hle:len * P.cellsOf e≤cap * P.cellsOf e:=Nat.mul_le_mul_right _ hlc
         have hload:(RM.old base w).loads b o (len * P.cellsOf e)=some (((c.toList.map (nK base.n)).drop o).take (len * P.cellsOf e)):=by
          simp only[RM.loads,hcells]
          rw[if_pos (by simp; omega)]
         simp only[List.map_cons,List.map_nil,WH]
         refine .slc t e b o len cap _ hu hblt hlc ?_ hload fun i hi=>?_
         ·have:=hw ((elems.length + rest.length) * P.bytesOf e) (by simp[DataW.weights,hu])
          rwa [hel,hr1,show len + (cap - len)=cap by omega] at this
         ·obtain⟨es,y,k1,k2,k3⟩:=every i (by omega)
          have hlen:=(qR k1).1
          have hes:((((c.toList.map (nK base.n)).drop o).take (len * P.cellsOf e)).drop (i * P.cellsOf e)).take (P.cellsOf e)=es.map (nK base.n):=by
           have hii:i * P.cellsOf e + P.cellsOf e≤len * P.cellsOf e:=by rw[← Nat.succ_mul]; exact Nat.mul_le_mul_right _ hi
           apply List.ext_getElem?
           intro j
           by_cases hj:j<P.cellsOf e
           ·have hg:=(qR k1).2 j hj
            rw[List.getElem?_take,if_pos hj,List.getElem?_drop,List.getElem?_take,if_pos (by omega),List.getElem?_drop,List.getElem?_map,List.getElem?_map,← hg]
            rw[dS,dS]
            simp only[World.cell?,hh]
            rw[Array.getElem?_toList]
            simp[Nat.add_assoc]
           ·rw[List.getElem?_eq_none (by simp; omega),List.getElem?_eq_none (by simp; omega)]
          rw[hes]
          refine ih e es y k2 fun z hz=>hw z ?_
          simp only[DataW.weights,hu,List.mem_cons,List.mem_append]
          rcases k3 with k3 | k3
          ·exact .inr (.inl (pO (List.mem_map_of_mem k3) hz))
          ·exact .inr (.inr (pO (List.mem_map_of_mem k3) hz))
     | struct fs =>
       obtain⟨xs,n,hm,rfl,hl,hxl,hget⟩:=DataW.trod_struct hu h
       cases hm
       refine .struct t fs _ hu (by simpa using hl) fun i f hf=>?_
       have h1:=hget i f hf
       have hi:i<fs.size:=(Array.getElem?_eq_some_iff.1 hf).1
       rw[List.getElem?_eq_getElem (by omega)] at h1
       rw[← List.map_drop,← List.map_take]
       refine ih _ _ _ h1 fun z hz=>hw z ?_
       simp only[DataW.weights,hu]
       refine uG _ _ i f.type _ (by simp[hf]) (by rw[List.getElem?_map,List.getElem?_eq_getElem (by omega)]; rfl) hz
     | array n e =>
       obtain⟨xs,m',hm,rfl,hl,hxl,hget⟩:=DataW.trod_array hu h
       cases hm
       refine .array t e n _ hu (by simpa using hl) fun i hi=>?_
       have h1:=hget i hi
       rw[List.getElem?_eq_getElem (by omega)] at h1
       rw[← List.map_drop,← List.map_take]
       refine ih _ _ _ h1 fun z hz=>hw z ?_
       simp only[DataW.weights,hu]
       exact pO (List.mem_map_of_mem (List.getElem_mem _)) hz
     | _=>exact .other _ _ (by rw[hu]; rfl)
end
section
variable {P:Program} {M:RM} {t:TypeId} {cs:List AV}
theorem Fits.Bq (h:Fits P M t cs) {k:IntKind} (hu:P.underlying t=some (.int k)) : ∃ n:Int,cs=[N k n]∧k.min≤n∧n≤k.max:=by
 cases h with
 | int _ k' n h1 h2 h3=>rw[hu] at h1; cases h1; exact⟨n,rfl,h2,h3⟩
 | _=>simp_all [tH]
theorem Fits.Bw (h:Fits P M t cs) (hu:P.underlying t=some .string) : ∃ s,cs=[St s]∧s.length≤reachBytes:=by
 cases h with
 | str _ s h1 h2=>exact⟨s,rfl,h2⟩
 | _=>simp_all [tH]
theorem Fits.Dw (h:Fits P M t cs) {fs:Array Field} (hu:P.underlying t=some (.struct fs)) : cs.length=P.cellsOf t∧∀ (i:Nat) (f:Field),fs[i]?=some f→Fits P M f.type ((cs.drop f.offset).take (P.cellsOf f.type)):=by
 cases h with
 | struct _ fs' _ h1 h2 h3=>rw[hu] at h1; cases h1; exact⟨h2,h3⟩
 | _=>simp_all [tH]
theorem Fits.A8 (h:Fits P M t cs) {e:TypeId} (hu:P.underlying t=some (.slice e)) (hz:0<P.cellsOf e) :
  ∃ v n ds,cs=[v]∧aG M (P.cellsOf e) v ds n∧n * P.bytesOf e≤reachBytes∧∀ i,i<n→Fits P M e ((ds.drop (i * P.cellsOf e)).take (P.cellsOf e)):=by
 cases h with
 | K9 _ e' h1=>exact⟨_,0,[],rfl,.nil,by simp,fun i hi=>absurd hi (by omega)⟩
 | emp _ e' b h1=>exact⟨_,0,[],rfl,.emp b,by simp,fun i hi=>absurd hi (by omega)⟩
 | slc _ e' b o n c ds h1 h2 h3 h4 h5 h6 =>
   rw[hu] at h1; cases h1
   exact⟨_,n,ds,rfl,.slc b o n _ ds h2 h5,Nat.le_trans (Nat.mul_le_mul_right _ h3) h4,h6⟩
 | zero _ e' _ h1 h2=>rw[hu] at h1; cases h1; omega
 | _=>simp_all [tH]
theorem uD {α:Type} {size:Nat} (enc:α→List AV) (p:α→Prop) (hs:∀ a,(enc a).length=size) : ∀ (n:Nat) (ds:List AV),ds.length=n * size→(∀ i,i<n→∃ a,p a∧(ds.drop (i * size)).take size=enc a) →
  ∃ xs:List α,xs.length=n∧ds=xs.flatMap enc∧∀ x∈xs,p x
 | 0,ds,hl,_=>⟨[],rfl,by simpa using hl,by simp⟩
 | n + 1,ds,hl,h=>by
   obtain⟨a,pa,ha⟩:=h 0 (by omega)
   simp only[Nat.zero_mul,List.drop_zero] at ha
   have hl' : (ds.drop size).length=n * size:=by rw[List.length_drop,hl,Nat.succ_mul]; omega
   obtain⟨xs,h1,h2,h3⟩:=uD enc p hs n (ds.drop size) hl' fun i hi=>by
    obtain⟨b,pb,hb⟩:=h (i + 1) (by omega)
    refine⟨b,pb, ?_⟩
    rw[List.drop_drop,← hb,Nat.succ_mul,Nat.add_comm]
   refine⟨a :: xs,by simp[h1], ?_,fun x hx=>?_⟩
   ·rw[List.flatMap_cons,← h2,← ha,List.take_append_drop]
   ·rcases List.mem_cons.1 hx with rfl | hx
    ·exact pa
    ·exact h3 x hx
end
def Aq (P:Program) (t:TypeId) : Bool :=
 match P.underlying t with
 | some (.struct _) | some (.array _ _)=>true
 | _=>false
def kX (P:Program) (M:RM) (t:TypeId) (v:AV) : Prop :=
 match Aq P t with
 | true=>∃ cs,v=.agg cs∧Fits P M t cs
 | false=>Fits P M t [v]
theorem kX.agg {P:Program} {M:RM} {t:TypeId} {v:AV} (h:kX P M t v) (ha:Aq P t=true) : ∃ cs,v=.agg cs∧Fits P M t cs:=by
 unfold kX at h; rw[ha] at h; exact h
theorem kX.one {P:Program} {M:RM} {t:TypeId} {v:AV} (h:kX P M t v) (ha:Aq P t=false) : Fits P M t [v]:=by
 unfold kX at h; rw[ha] at h; exact h
section
variable {H:Type} {enc:TypeId × Value→H} {P:Program} {base:Base} {w:World}
theorem IE {r:Reach} {b:Nat} {t:TypeId} {cs:Array Value} (h:Cell.okWide P w r b t (.agg cs)) : False:=by
 unfold Cell.okWide at h
 split at h <;> first | (rename_i e _; cases e; done) | skip
 all_goals first | (rename_i e; cases e; done) | skip
 unfold Cell.ok at h
 split at h <;> first | exact h | simp_all
theorem Px (hn:base.n=w.heap.size) {r:Reach} {b:Nat} {held:Bool} {t:TypeId} {v:Value} {d:DataW H} {ps:List MemPlace} (hv:Value.okWide P w r b t v) (h:DataW.Trod enc P w 0 (fun _=>true) held t v d ps)
  (hw:∀ y∈d.weights P t,y≤reachBytes) : kX P (RM.old base w) t (lJ base.n v):=by
 obtain⟨fuel,hf⟩:=h
 have hfit:=Ha hn fuel t _ _ hf hw
 unfold kX
 cases ha:Aq P t with
 | true =>
   have:∃ cs,v=.agg cs:=by
    unfold Value.okWide at hv
    unfold Aq at ha
    split at hv
    ·obtain⟨cs,h,_⟩:=hv; exact⟨cs,h⟩
    ·obtain⟨cs,h,_⟩:=hv; exact⟨cs,h⟩
    ·split at ha <;> simp_all
   obtain⟨cs,rfl⟩:=this
   exact⟨_,rfl,hfit⟩
 | false =>
   have hc:Cell.okWide P w r b t v:=by
    unfold Value.okWide at hv
    unfold Aq at ha
    split at hv
    ·simp_all
    ·simp_all
    ·exact hv
   have:v.cells.toList=[v]∧lJ base.n v=nK base.n v:=by
    cases v with
    | agg cs=>exact(IE hc).elim
    | _=>exact⟨rfl,rfl⟩
   rw[this.1] at hfit
   rw[this.2]
   exact hfit
theorem Ik (hn:base.n=w.heap.size) {r:Reach} {b:Nat} {held:Bool} : ∀ {ts:List TypeId} {vs:List Value} {ds:List (DataW H)} {ps:List MemPlace},DataW.TrodAll enc P w 0 (fun _=>true) held ts vs ds ps →
  (∀ (j:Nat) t v,ts[j]?=some t→vs[j]?=some v→Value.okWide P w r b t v)→(∀ y∈DataW.weightsEach P ts ds,y≤reachBytes) →
  ∀ (j:Nat) t v,ts[j]?=some t→vs[j]?=some v→kX P (RM.old base w) t (lJ base.n v)
 | [],_,_,_,_,_,_,j,t,v,h,_=>by simp at h
 | t0 :: ts,vs,ds,ps,h,hv,hw,j,t,v,hj,hvj=>by
   cases vs with
   | nil=>simp at hvj
   | cons v0 vs =>
   cases ds with
   | nil=>exact h.elim
   | cons d ds =>
   obtain⟨p,q,h1,h2,_⟩:=h
   cases j with
   | zero =>
     simp at hj hvj; subst hj hvj
     exact Px hn (hv 0 _ _ rfl rfl) h1 fun y hy=>hw y (by simp[DataW.weightsEach,hy])
   | succ j =>
     exact Ik hn h2 (fun j t v a b=>hv (j + 1) t v (by simpa using a) (by simpa using b)) (fun y hy=>hw y (by simp[DataW.weightsEach,hy])) j t v (by simpa using hj) (by simpa using hvj)
theorem yX (hl:laidOutB P=true) {W W' : World} {sp:Nat→Bool} (hb:Below W.heap.size W W') : ∀ {ts:List TypeId} {vs:List Value} {ds:List (DataW H)} {ps:List MemPlace},
  (∀ t∈ts,P.readableRec t=true∧t<P.types.size)→DataW.TrodAll enc P W 0 (fun _=>true) true ts vs ds ps→(∀ p∈ps,p.block<W.heap.size)→(∀ p∈ps,sp p.block=true)→DataW.TrodAll enc P W' 0 sp true ts vs ds ps
 | [],vs,ds,ps,_,h,_,_=>by
   cases vs <;> cases ds <;> first | exact h | exact h.elim
 | t :: ts,vs,ds,ps,hr,h,hlt,hsp=>by
   cases vs with
   | nil=>cases ds <;> exact h.elim
   | cons v vs =>
   cases ds with
   | nil=>exact h.elim
   | cons d ds =>
   obtain⟨p,q,h1,h2,rfl⟩:=h
   have hrt:=hr t (List.mem_cons_self ..)
   exact⟨p,q,WideElems.Trod_stays hl hrt.1 hrt.2 h1 (fun x hx=>hb.same (hlt x (List.mem_append_left _ hx))) (fun x hx=>hsp x (List.mem_append_left _ hx)),
    yX hl hb (fun t ht=>hr t (List.mem_cons_of_mem _ ht)) h2 (fun x hx=>hlt x (List.mem_append_right _ hx)) (fun x hx=>hsp x (List.mem_append_right _ hx)),rfl⟩
end
def RB.cells (lo:Nat) : RB→Option (List AV)
 | .row l _ _ _=>some l
 | .ro c=>some (c.toList.map (nK lo))
 | _=>none
@[go_sem] theorem RB.uN (lo:Nat) (l:List AV) (p:Bool) (e f:Nat) : RB.cells lo (.row l p e f)=some l:=rfl
theorem RM.sQ (M:RM) (b:Nat) : M.cells b=(M.heap b).bind (RB.cells M.lo):=by
 unfold RM.cells RB.cells
 cases M.heap b with
 | none=>rfl
 | some x=>cases x <;> rfl
def tu (l:Option (List AV)) (o k:Nat) : Option (List AV) :=
 match l with
 | some l=>if o + k≤l.length then some ((l.drop o).take k) else none
 | none=>none
@[go_sem] theorem UW (l:List AV) (o k:Nat) : tu (some l) o k=if o + k≤l.length then some ((l.drop o).take k) else none:=rfl
theorem RM.CJ (M:RM) (b o k:Nat) : M.loads b o k=tu (M.cells b) o k:=rfl
section
variable {M M' : RM}
@[go_sem] theorem RM.Oz (x:RB) (c:Nat) : (M.push x).heap c=if c=M.next then some x else M.heap c:=rfl
@[go_sem] theorem RM.heap_put (b:Nat) (x:RB) (c:Nat) : (M.put b x).heap c=if c=b then some x else M.heap c:=rfl
@[go_sem] theorem RM.XW (b:Nat) (c:Nat) : (M.del b).heap c=if c=b then none else M.heap c:=rfl
@[go_sem] theorem RM.Wh (x:RB) : (M.push x).base=M.base:=rfl
@[go_sem] theorem RM.Xp (b:Nat) (x:RB) : (M.put b x).base=M.base:=rfl
@[go_sem] theorem RM.Xr (b:Nat) : (M.del b).base=M.base:=rfl
theorem RM.Er (x:RB) (c:Nat) : (M.push x).cells c=if c=M.next then x.cells M.lo else M.cells c:=by
 simp only[RM.sQ,RM.Oz]
 split <;> rfl
theorem RM.F7 (b:Nat) (x:RB) (c:Nat) : (M.put b x).cells c=if c=b then x.cells M.lo else M.cells c:=by
 simp only[RM.sQ,RM.heap_put]
 split <;> rfl
@[go_sem] theorem RM.V9 (x:RB) (c o:Nat) : (M.push x).cell c o=if c=M.next then(x.cells M.lo).bind (·[o]?) else M.cell c o:=by
 simp only[RM.cell,RM.Er]
 split <;> rfl
@[go_sem] theorem RM.XT (b:Nat) (x:RB) (c o:Nat) : (M.put b x).cell c o=if c=b then(x.cells M.lo).bind (·[o]?) else M.cell c o:=by
 simp only[RM.cell,RM.F7]
 split <;> rfl
@[go_sem] theorem RM.VA (x:RB) (c o k:Nat) : (M.push x).loads c o k=if c=M.next then tu (x.cells M.lo) o k else M.loads c o k:=by
 simp only[RM.CJ,RM.Er]
 split <;> rfl
@[go_sem] theorem RM.V5 (b:Nat) (x:RB) (c o k:Nat) : (M.put b x).loads c o k=if c=b then tu (x.cells M.lo) o k else M.loads c o k:=by
 simp only[RM.CJ,RM.F7]
 split <;> rfl
def mf (l:List AV) (fz o:Nat) (vs:List AV) : Option (List AV) :=
 if o + vs.length≤l.length∧fz≤o∧vs.all oneCell=true then some (l.take o++vs++l.drop (o + vs.length)) else none
theorem sH {l vs:List AV} {fz o:Nat} (h1:o + vs.length≤l.length) (h2:fz≤o) (h3:vs.all oneCell=true) : mf l fz o vs=some (l.take o++vs++l.drop (o + vs.length)):=if_pos ⟨h1,h2,h3⟩
@[go_sem] theorem Gz {l vs:List AV} (h:vs.length=l.length) (h3:vs.all oneCell=true) : mf l 0 0 vs=some vs:=by
 rw[sH (by omega) (Nat.le_refl _) h3]
 simp[h]
theorem RM.uA {b o:Nat} {vs l:List AV} {p:Bool} {e f:Nat} (h:M.heap b=some (.row l p e f)) : M.stores b o vs=(mf l f o vs).map fun l'=>M.put b (.row l' p e f):=by
 simp only[RM.stores,h,mf]
 split <;> rfl
theorem RM.PX {x y:RB} : (M.push x).put M.next y=M.push y:=by
 simp only[RM.put,RM.push]
 congr 1
 funext c
 split <;> rfl
theorem RM.IU {x y:RB} {b:Nat} (hb:b≠M.next) : (M.push x).put b y=(M.put b y).push x:=by
 simp only[RM.put,RM.push]
 congr 1
 funext c
 by_cases h1:c=b
 ·subst h1; simp[hb]
 ·simp[h1]
theorem RM.DC {l vs:List AV} {p:Bool} {e f o:Nat} : (M.push (.row l p e f)).stores M.next o vs=(mf l f o vs).map fun l'=>M.push (.row l' p e f):=by
 rw[RM.uA (RM.lh _)]
 congr 1
 funext l'
 exact RM.PX
theorem RM.DF {M:RM} {b o:Nat} {vs:List AV} : M.stores b o vs=match M.heap b with
  | some (.row l p e f)=>(mf l f o vs).map fun l'=>M.put b (.row l' p e f)
  | _=>none:=by
 cases h:M.heap b with
 | none=>simp[RM.stores,h]
 | some x =>
   cases x with
   | row l p e f=>rw[RM.uA h]
   | _=>simp[RM.stores,h]
@[go_sem] theorem RM.Eo {x:RB} {vs:List AV} {c o:Nat} (hc:c≠M.next) : (M.push x).stores c o vs=(M.stores c o vs).map (·.push x):=by
 rw[RM.DF,RM.DF,RM.P8 hc]
 split
 ·simp only[Option.map_map]
  congr 1
  funext l'
  exact RM.IU hc
 ·rfl
@[go_sem] theorem RM.UU {l vs:List AV} {p:Bool} {e f c o:Nat} : (M.push (.row l p e f)).stores c o vs =
  if c=M.next then(mf l f o vs).map fun l'=>M.push (.row l' p e f) else(M.stores c o vs).map (·.push (.row l p e f)):=by
 split
 ·rename_i h; subst h; exact RM.DC
 ·rename_i h; exact RM.Eo h
@[go_sem] theorem RM.QH {b o:Nat} {l vs:List AV} {p:Bool} {e f:Nat} : (M.put b (.row l p e f)).stores b o vs=(mf l f o vs).map fun l'=>M.put b (.row l' p e f):=by
 rw[RM.uA (RM.CF _ _)]
 congr 1
 funext l'
 simp only[RM.put]
 congr 1
 funext c
 split <;> rfl
@[go_sem] theorem ER {α:Type} (a:α) (K:α→Prop) : (∃ x,some a=some x∧K x)=K a:=by simp
@[go_sem] theorem UT {α β:Type} (f:α→β) (x:α) : (some x).map f=some (f x):=rfl
attribute [go_sem] Int.natCast_nonneg Int.toNat_natCast Nat.mul_one true_implies false_implies Bool.false_eq_true Bool.true_eq_false Bool.not_true Bool.not_false Bool.and_self Bool.and_true Bool.true_and Nat.le_refl List.append_nil List.nil_append if_true if_false Nat.lt_irrefl Nat.add_one_ne_zero true_and and_true Nat.zero_add Nat.add_zero List.drop_zero List.getElem?_cons_zero List.getElem?_cons_succ Option.bind_some List.take_succ_cons List.take_zero List.drop_succ_cons List.drop_nil List.take_nil
attribute [go_sem] nL List.all_cons List.all_nil List.length_cons List.length_nil
@[go_sem] theorem V8 (cs:List AV) : (AV.agg cs).cells=cs:=rfl
@[go_sem] theorem Ya (v:Value) : (AV.sc v).cells=[.sc v]:=rfl
@[go_sem] theorem Wn (b o:Nat) : (AV.ptr b o).cells=[.ptr b o]:=rfl
@[go_sem] theorem Wl (b o n:Nat) (c:Cap) : (AV.slc b o n c).cells=[.slc b o n c]:=rfl
@[go_sem] theorem V7 (b:Nat) : (AV.emp b).cells=[.emp b]:=rfl
@[go_sem] theorem Wj (b:Nat) : (AV.map b).cells=[.map b]:=rfl
@[go_sem] theorem WO (f:Fn) (xs ys:List AV) : (AV.fn f xs ys).cells=[.fn f xs ys]:=rfl
@[go_sem] theorem Yt (v:Value) : oneCell (.sc v)=true:=rfl
@[go_sem] theorem Yh (b o:Nat) : oneCell (.ptr b o)=true:=rfl
@[go_sem] theorem Yk (b o n:Nat) (c:Cap) : oneCell (.slc b o n c)=true:=rfl
@[go_sem] theorem Yj (b:Nat) : oneCell (.emp b)=true:=rfl
@[go_sem] theorem Yg (b:Nat) : oneCell (.map b)=true:=rfl
@[go_sem] theorem Ym (f:Fn) (xs ys:List AV) : oneCell (.fn f xs ys)=true:=rfl
end
theorem RM.Qm {M:RM} {b:Nat} {l:List AV} {p:Bool} {e f:Nat} (h:M.heap b=some (.row l p e f)) (o k:Nat) : M.loads b o k=tu (some l) o k:=by rw[RM.CJ,RM.uN h]
theorem RM.cell_of {M:RM} {b:Nat} {l:List AV} {p:Bool} {e f:Nat} (h:M.heap b=some (.row l p e f)) (o:Nat) : M.cell b o=l[o]?:=RM.Qk h
theorem RM.A7 {M:RM} {b:Nat} {l:List AV} {p:Bool} {e f:Nat} (h:M.heap b=some (.row l p e f)) (o:Nat) (vs:List AV) : M.stores b o vs=(mf l f o vs).map fun l'=>M.put b (.row l' p e f):=RM.uA h
theorem ae.aL {bs:List Nat} {M M' : RM} (h:ae bs M M') {b:Nat} {x:RB} (hh:M.heap b=some x) (hlt:b<M.next) (hb:b ∉ bs) : M'.heap b=some x:=by rw[h.heap b hlt hb,hh]
inductive Yn where
 | val (v:AV)
 | rows (n:Nat) (v:AV) (bs:List (Nat × iA)) (n' : Nat)
structure Sr where
 args:List AV
 fp:List (Nat × iA):=[]
 dead:List Nat:=[]
 nx:Nat:=0
 ans:Yn
def Nk:Tree iA→List (Nat × iA)→Tree iA
 | t,[]=>t
 | t,(b,x) :: r=>Nk (t.set b x) r
def NS:Tree iA→List Nat→Tree iA
 | t,[]=>t
 | t,b :: r=>NS (t.del b) r
def KM (A:AW) : List (Nat × iA)→Bool
 | []=>true
 | (b,x) :: r=>match A.heap.get b with
   | some y=>Vq x y && KM A r
   | none=>false
def Wz (A:AW) (e:Sr) : Option (AV × AW) :=
 match KM A e.fp with
 | false=>none
 | true=>match e.ans with
   | .val v=>some (v,A)
   | .rows n v bs n'=>match Nat.beq n A.next with
     | true=>some (v,{ next:=n',heap:=Nk (NS A.heap e.dead) bs })
     | false=>none
abbrev Table:=List (Nat × List Sr)
section
variable {P:Program} {X:Ext}
def Vv (P:Program) (I:World→Prop) (f:Nat) (e:Sr) : Prop :=
 ∀ (base:Base),(∀ w,base.inv w→I w)→∀ A v A',Wz A e=some (v,A')→∀ (ρ:Ren) (w:World) (us:List Value),aI ρ e.args us→bV P base ρ A w→base≤w.heap.size →
   Calls P f ⟨us⟩ w fun r w'=>∃ ρ' v',r=.returned v'∧Step base A.next ρ w ρ' w'∧bV P base ρ' A' w'∧A.next≤A'.next∧ag ρ' v v'
def QA (P:Program) (I:World→Prop) (T:Table) : Prop:=∀ g∈T,∀ e∈g.2,Vv P I g.1 e
theorem bV.none {P:Program} {base:Base} {n:Nat} {w:World} (hi:base.inv w) : bV P base (fun _=>none) { next:=n,heap:=.leaf } w :=
 ⟨fun _ _ h=>(by cases h),fun _ _ _ h=>(by cases h),fun _ _ _ _ _ _ h=>(by cases h),fun _ _ h=>(by simp[Tree.get] at h),fun _ _ _ h=>(by cases h),hi⟩
def only(ρ:Ren) (ks:List Nat) : Ren:=fun b=>if b∈ks then ρ b else none
theorem QA.nil {I:World→Prop} : QA P I []:=fun g hg=>by cases hg
open Go.WideShapes Go.ChangeShapes in
open Go.WideShapes Go.ChangeShapes in
end
structure Enc (α:Type) where
 size:Nat
 cells:α→List AV
 len:∀ a,(cells a).length=size
 one:∀ a,(cells a).all oneCell=true
section
variable {α:Type} (E:Enc α)
def Enc.row (xs:List α) : List AV:=xs.flatMap E.cells
theorem Enc.Q8:E.row []=[]:=rfl
theorem Enc.lI (x:α) (xs:List α) : E.row (x :: xs)=E.cells x++E.row xs:=rfl
theorem Enc.oM (xs ys:List α) : E.row (xs++ys)=E.row xs++E.row ys:=by simp[Enc.row]
theorem Enc.row_one (x:α) : E.row [x]=E.cells x:=by simp[Enc.row]
theorem Enc.gz:∀ (xs:List α),(E.row xs).length=xs.length * E.size
 | []=>by simp[Enc.row]
 | x :: xs=>by rw[Enc.lI,List.length_append,E.len,Enc.gz xs,List.length_cons,Nat.succ_mul,Nat.add_comm]
theorem Enc.rW:∀ (xs:List α),(E.row xs).all oneCell=true
 | []=>by simp[Enc.row]
 | x :: xs=>by rw[Enc.lI,List.all_append,E.one,Enc.rW xs]; rfl
theorem Enc.yA:∀ (xs:List α) (i:Nat),(E.row xs).drop (i * E.size)=E.row (xs.drop i)
 | [],i=>by simp[Enc.row]
 | x :: xs,0=>by simp
 | x :: xs,i + 1=>by
   rw[Enc.lI,Nat.succ_mul,Nat.add_comm,← List.drop_drop,List.drop_left' (E.len x),Enc.yA xs i]
   rfl
theorem Enc.CO:∀ (xs:List α) (i:Nat),(E.row xs).take (i * E.size)=E.row (xs.take i)
 | [],i=>by simp[Enc.row]
 | x :: xs,0=>by simp[Enc.row]
 | x :: xs,i + 1=>by
   rw[Enc.lI,Nat.succ_mul,Nat.add_comm,List.take_append,List.take_of_length_le (by rw[E.len]; omega),E.len,Nat.add_sub_cancel_left,Enc.CO xs i]
   rfl
theorem Enc.ED {xs:List α} {i:Nat} (hi:i<xs.length) : ((E.row xs).drop (i * E.size)).take E.size=E.cells xs[i]:=by
 rw[Enc.yA,List.drop_eq_getElem_cons hi,Enc.lI]
 rw[List.take_append_of_le_length (by rw[E.len]; exact Nat.le_refl _),List.take_of_length_le (by rw[E.len]; exact Nat.le_refl _)]
abbrev Sl (M:RM) (v:AV) (xs:List α) : Prop:=aG M E.size v (E.row xs) xs.length
abbrev Ow (M:RM) (base el:Nat) (v:AV) (xs:List α) : Prop:=Own M base el E.size v (E.row xs) xs.length
variable {E} {M M' : RM} {v:AV} {xs:List α}
theorem Sl.elem (h:Sl E M v xs) {i:Nat} (hi:i<xs.length) : ∃ b o,b<M.next∧b∈aH v∧(∀ (kd:IntKind) (K:AV→Prop),cK v (N kd (i:Int)) E.size K=K (.ptr b o))∧M.loads b o E.size=some (E.cells xs[i]):=by
 obtain⟨b,o,cap,rfl,hb,hl⟩:=h.pos (by omega)
 have hsum:i * E.size + E.size≤xs.length * E.size:=by rw[← Nat.succ_mul]; exact Nat.mul_le_mul_right _ hi
 refine⟨b,o + i * E.size,hb,by simp[aH],fun kd K=>?_, ?_⟩
 ·rw[sG]
  simp only[Int.toNat_natCast]
  exact propext ⟨fun h=>h.2.2,fun h=>⟨by omega,by omega,h⟩⟩
 ·rw[uz hl (i * E.size) E.size hsum,E.ED hi]
theorem Sl.at (h:Sl E M v xs) {i:Nat} (sz:Nat) (j:Int) (hi:i<xs.length) (hsz:E.size=sz:=by rfl) (hj:j=(i:Int):=by rfl) : ∃ b o,b<M.next∧b∈aH v∧(∀ (kd:IntKind) (K:AV→Prop),cK v (N kd j) sz K=K (.ptr b o))∧M.loads b o sz=some (E.cells xs[i]):=by
 subst hsz hj; exact h.elem hi
theorem qH {b o k:Nat} {cs:List AV} (h:M.loads b o k=some cs) {j:Nat} {x:AV} (hj:cs[j]?=some x) : M.cell b (o + j)=some x:=by
 have hlt:j<k:=by rw[← FK h]; exact(List.getElem?_eq_some_iff.1 hj).1
 rw[Om h j hlt,hj]
theorem vY {b o k:Nat} {cs:List AV} (h:M.loads b o k=some cs) {x:AV} (hj:cs[0]?=some x) : M.cell b o=some x:=qH h hj
theorem kL {base T bytes:Nat} {zs:List AV} {u:AV} {ys:List α} {K:ah} (ho:Ow E M base T v xs) (hb:base≤M.next) (hs:1≤E.size) (hu:Sl E M u ys)
  (hn:(xs.length + ys.length) * bytes≤140737488355328) (hn2:xs.length + ys.length≤140737488355328)
  (hK:∀ v' M',Ow E M' base T v' (xs++ys)→ae (aH v) M M'→M.next≤M'.next→(v'=v∨∀ b∈aH v',M.next≤b)→K v' M') :
  appW T E.size bytes zs false v u M K:=by
 refine Bc ho hb hs (aG.nW hu _) (E.gz ys) (E.rW ys) hn hn2 ?_
 intro v' M' h1 h2 h3 h4
 refine hK v' M' ?_ h2 h3 h4
 rw[← E.oM] at h1
 simpa [Ow] using h1
theorem Sl.new {T c:Nat} {p:Bool} (ys:List α) : Sl E (M.push (.row (E.row ys) p T 0)) (.slc M.next 0 ys.length (.ex c)) ys :=
 .slc _ _ _ _ _ (by simp[RM.push]) (by rw[RM.iM (RM.lh _) (by rw[E.gz]; omega),List.drop_zero,← E.gz,List.take_length])
theorem wN {base T bytes:Nat} {zs:List AV} {a:α} {K:ah} (ho:Ow E M base T v xs) (hb:base≤M.next) (hs:1≤E.size)
  (hn:(xs.length + 1) * bytes≤140737488355328) (hn2:xs.length + 1≤140737488355328)
  (hK:∀ v' M',Ow E M' base T v' (xs++[a])→ae (aH v) M M'→M.next≤M'.next→(v'=v∨∀ b∈aH v',M.next≤b)→K v' M') :
  appW T E.size bytes zs false v (.slc M.next 0 1 (.ex 1)) (M.push (.row (E.cells a) false T 0)) K:=by
 have hk:ae [] M (M.push (.row (E.cells a) false T 0)):=(ae.refl _ _).push _
 refine kL (ys:=[a]) (Own.keep ho hk (by simp)) (Nat.le_trans hb hk.next) hs (by rw[← E.row_one]; exact Sl.new [a]) hn hn2 ?_
 intro v' M' h1 h2 h3 h4
 exact hK v' M' h1 ((hk.mono (by simp)).trans h2) (Nat.le_trans hk.next h3) (h4.imp id fun h b hb=>Nat.le_trans hk.next (h b hb))
@[go_sem] theorem G8 {T:Nat} {zs:List AV} {K:RB→(Nat→AV)→Prop} : dW T 0 zs [] K=K (.row [] false T 0) (fun b=>.slc b 0 0 (.ex 0)):=by
 apply propext; unfold dW
 constructor
 ·rintro⟨l,h,hk⟩; cases h; exact hk
 ·intro hk; exact⟨_,rfl,hk⟩
theorem yM {T size:Nat} {zs:List AV} {x:AV} {K:RB→(Nat→AV)→Prop} (h:x.cells.length=size) (h1:x.cells.all oneCell=true) (hz:zs.length=size) :
  dW T 1 zs [(0,size,x)] K=K (.row x.cells false T 0) (fun b=>.slc b 0 1 (.ex 1)):=by
 have:qc (dQ zs 1) [(0,size,x)]=some x.cells:=by
  simp only[qc,dQ,List.append_nil,h1,h,Nat.zero_add,hz,Nat.le_refl,and_self,if_true,List.take_zero,List.nil_append]
  rw[List.drop_of_length_le (by omega),List.append_nil]
 apply propext; unfold dW
 constructor
 ·rintro⟨l,h,hk⟩; rw[this] at h; cases h; exact hk
 ·intro hk; exact⟨_,this,hk⟩
theorem Ow.lit (E:Enc α) {T:Nat} (M:RM) : Ow E (M.push (.row [] false T 0)) M.next T (.slc M.next 0 0 (.ex 0)) []:=Own.lit M (Nat.le_refl _)
theorem sU {i:Nat} (h:i<9223372036854775807) : IntKind.wrap .i64 ((i:Int) + 1)=((i + 1:Nat) : Int):=by
 rw[gU (by omega) (by omega)]; rfl
end
@[go_sem] theorem Vj:dB [] [] []=some true:=rfl
@[go_sem] theorem Vu (ks:List Nat) (k:IntKind) (a b:Int) (xs ys:List AV) : dB (1 :: ks) (N k a :: xs) (N k b :: ys)=if a=b then dB ks xs ys else some false:=by
 simp only[dB,og,if_true]
 by_cases h:a=b
 ·simp[h]
 ·have:(a == b)=false:=by simp[h]
  simp[this,h]
@[go_sem] theorem Vw (ks:List Nat) (a b:List UInt8) (xs ys:List AV) : dB (2 :: ks) (St a :: xs) (St b :: ys)=if a=b then dB ks xs ys else some false:=by
 simp only[dB,og]
 by_cases h:a=b
 ·simp[h]
 ·have:(a == b)=false:=by simp[h]
  simp[this,h]
@[go_sem] theorem UQ (ks:List Nat) (a b:Bool) (xs ys:List AV) : dB (3 :: ks) (Bo a :: xs) (Bo b :: ys)=if a=b then dB ks xs ys else some false:=by
 simp only[dB,og]
 by_cases h:a=b
 ·simp[h]
 ·have:(a == b)=false:=by simp[h]
  simp[this,h]
theorem bX (x:AV) (w:Bool) (f g:ah→Prop) (F G:AV→RM→ah→Prop) (k:ah) :
  aa x w f g (fun v M=>aa x w (F v M) (G v M) k)=aa x w (fun k'=>f fun v M=>F v M k') (fun k'=>g fun v M=>G v M k') k:=by
 unfold aa mU
 split
 ·split <;> simp_all
 ·rfl
 ·rfl
theorem di {body:(List AV→RM→Prop)→List AV→RM→Prop} {xs:List AV} {M:RM} (I:Nat→List AV→RM→Prop) (n:Nat) (h0:I n xs M)
  (hb:∀ (next:List AV→RM→Prop) m ys M',(∀ m' zs M'',m'<m→I m' zs M''→next zs M'')→I m ys M'→body next ys M') : eX body xs M :=
 ⟨I,n,h0,fun m ys M' hI=>hb _ m ys M' (fun m' zs M'' hlt h=>⟨m',hlt,h⟩) hI⟩
abbrev By (b:UInt8) : AV:=N .u8 (b.toNat:Int)
def BY:Enc UInt8:=⟨1,fun b=>[By b],fun _=>rfl,fun _=>rfl⟩
theorem DV (s:List UInt8) : BY.row s=s.map By:=by
 induction s with
 | nil=>rfl
 | cons b s ih=>rw[Enc.lI,ih]; rfl
def nY:Enc (List UInt8):=⟨1,fun s=>[St s],fun _=>rfl,fun _=>rfl⟩
def INT:Enc Int:=⟨1,fun n=>[N .i64 n],fun _=>rfl,fun _=>rfl⟩
theorem D6:∀ (s:List UInt8),dF byteOf (s.map By)=some s
 | []=>rfl
 | b :: s=>by
   simp only[List.map_cons,dF,byteOf,D6 s]
   simp
section
variable {α:Type} {E:Enc α} {M M' : RM} {v:AV} {xs:List α}
theorem Sl.str {s:List UInt8} (h:Sl BY M v s) {K:AV→Prop} : bQ M v K=K (St s) :=
 Ke (aG.xH h (by rw[DV]; exact D6 s))
theorem Sl.Yr (h:Sl E M v xs) {i:Nat} (j:Int) (hi:i<xs.length) (hsz:E.size=1:=by rfl) (hj:j=(i:Int):=by rfl) :
  ∃ b o,b<M.next∧b∈aH v∧(∀ (kd:IntKind) (K:AV→Prop),cK v (N kd j) 1 K=K (.ptr b o))∧∀ x,E.cells xs[i]=[x]→M.cell b o=some x:=by
 obtain⟨b,o,h1,h2,h3,h4⟩:=Sl.at h 1 j hi hsz hj
 exact⟨b,o,h1,h2,h3,fun x hx=>vY h4 (by rw[hx]; rfl)⟩
structure Rw (E:Enc α) (M:RM) (b:Nat) (opn:Bool) (el:Nat) (xs:List α) : Prop where
 heap:M.heap b=some (.row (E.row xs) opn el 0)
 lt:b<M.next
theorem Rw.sl {b el:Nat} {p:Bool} {cap:Cap} (h:Rw E M b p el xs) : Sl E M (.slc b 0 xs.length cap) xs:=by
 refine .slc _ _ _ _ _ h.lt ?_
 rw[RM.iM h.heap (by rw[E.gz]; omega),List.drop_zero,← E.gz,List.take_length]
theorem Rw.keep {b el:Nat} {p:Bool} {bs:List Nat} (h:Rw E M b p el xs) (hk:ae bs M M') (hb:b ∉ bs) : Rw E M' b p el xs :=
 ⟨hk.aL h.heap h.lt hb,Nat.lt_of_lt_of_le h.lt hk.next⟩
theorem Rw.new {el:Nat} {p:Bool} (M:RM) (xs:List α) : Rw E (M.push (.row (E.row xs) p el 0)) M.next p el xs :=
 ⟨RM.lh _,by simp[RM.push]⟩
theorem Rw.load {b el:Nat} {p:Bool} (h:Rw E M b p el xs) {i:Nat} (hi:i<xs.length) : M.loads b (i * E.size) E.size=some (E.cells xs[i]):=by
 have hsum:i * E.size + E.size≤xs.length * E.size:=by rw[← Nat.succ_mul]; exact Nat.mul_le_mul_right _ hi
 rw[RM.iM h.heap (by rw[E.gz]; exact hsum),E.ED hi]
theorem Enc.Q0 (E:Enc α) {xs:List α} {i:Nat} (hi:i<xs.length) (x:α) : E.row (xs.set i x)=(E.row xs).take (i * E.size)++E.cells x++(E.row xs).drop (i * E.size + E.size):=by
 rw[E.CO,← Nat.succ_mul,E.yA,List.set_eq_take_append_cons_drop,if_pos hi,E.oM,E.lI,List.append_assoc]
theorem Rw.store {b el:Nat} {p:Bool} (h:Rw E M b p el xs) {i:Nat} (hi:i<xs.length) (x:α) :
  M.stores b (i * E.size) (E.cells x)=some (M.put b (.row (E.row (xs.set i x)) p el 0))∧Rw E (M.put b (.row (E.row (xs.set i x)) p el 0)) b p el (xs.set i x):=by
 have hsum:i * E.size + E.size≤xs.length * E.size:=by rw[← Nat.succ_mul]; exact Nat.mul_le_mul_right _ hi
 refine⟨?_,RM.CF _ _,h.lt⟩
 rw[RM.Mm h.heap (by rw[E.len,E.gz]; exact hsum) (Nat.zero_le _) (E.one x),E.Q0 hi,E.len]
theorem Rw.aj {b el:Nat} {p:Bool} (h:Rw E M b p el xs) {i:Nat} (hi:i<xs.length) (hsz:E.size=1:=by rfl) {x:AV} (hx:E.cells xs[i]=[x]:=by rfl) : M.cell b i=some x:=by
 have:=h.load hi
 rw[hsz,Nat.mul_one] at this
 exact vY this (by rw[hx]; rfl)
theorem Rw.Hg {b el:Nat} {p:Bool} (h:Rw E M b p el xs) {i:Nat} (hi:i<xs.length) (x:α) (hsz:E.size=1:=by rfl) {u:AV} (hx:E.cells x=[u]:=by rfl) :
  M.stores b i [u]=some (M.put b (.row (E.row (xs.set i x)) p el 0))∧Rw E (M.put b (.row (E.row (xs.set i x)) p el 0)) b p el (xs.set i x):=by
 have:=h.store hi x
 rw[hsz,Nat.mul_one,hx] at this
 exact this
end
@[go_sem] theorem gD (el:Nat) (s:List UInt8) (K:RB→(Nat→AV)→Prop) : iN el (St s) K=K (.row (BY.row s) true el 0) (fun b=>.slc b 0 s.length (.op 1)):=by
 rw[DV]
 apply propext; unfold iN
 constructor
 ·rintro⟨s',h,hk⟩; cases h; exact hk
 ·intro hk; exact⟨s,rfl,hk⟩
def bJ (b:UInt8) : UInt8:=if 65≤b.toNat∧b.toNat≤90 then b + 32 else b
def low (s:List UInt8) : List UInt8:=s.map bJ
def vK (c:ak) : Prop:=∀ {M:RM} {s:List UInt8} {Q:ah},s.length<9223372036854775807→(∀ M',ae [] M M'→Q (St (low s)) M')→c [St s] M Q
def upTo (f:UInt8→UInt8) (i:Nat) (s:List UInt8) : List UInt8:=(s.take i).map f++s.drop i
theorem Gc (f:UInt8→UInt8) (s:List UInt8) : upTo f 0 s=s:=by simp[upTo]
theorem I4 (f:UInt8→UInt8) (s:List UInt8) : upTo f s.length s=s.map f:=by simp[upTo]
theorem CW (f:UInt8→UInt8) (i:Nat) (s:List UInt8) : (upTo f i s).length=s.length:=by
 simp[upTo]; omega
theorem Cz (f:UInt8→UInt8) {i:Nat} {s:List UInt8} (hi:i<s.length) : (upTo f i s)[i]?=some s[i]:=by
 simp only[upTo]
 rw[List.getElem?_append_right (by simp; omega)]
 simp
 rw[Nat.min_eq_left (by omega),Nat.sub_self,Nat.add_zero,List.getElem?_eq_getElem hi]
theorem Cy (f:UInt8→UInt8) {i:Nat} {s:List UInt8} (hi:i<s.length) : (upTo f i s).set i (f s[i])=upTo f (i + 1) s:=by
 simp only[upTo]
 have hl:((s.take i).map f).length=i:=by simp; omega
 rw[List.set_append_right _ _ (by omega),hl,Nat.sub_self,List.drop_eq_getElem_cons hi,List.set_cons_zero,List.take_succ_eq_append_getElem hi,List.map_append,List.append_assoc]
 rfl
theorem Gg (f:UInt8→UInt8) {i:Nat} {s:List UInt8} (hi:i<s.length) (h:f s[i]=s[i]) : upTo f (i + 1) s=upTo f i s:=by
 rw[← Cy f hi,h]
 apply List.ext_getElem?
 intro j
 rw[List.getElem?_set]
 split
 ·rename_i e; subst e
  rw[Cz f hi]; simp[CW,hi]
 ·rfl
theorem Bg (b:UInt8) : b.toNat<256:=b.toNat_lt
structure tN (n:Nat) (bs:List Nat) (M M' : RM) : Prop where
 base:M'.base=M.base
 next:M.next≤M'.next
 heap:∀ c,c<n→c ∉ bs→M'.heap c=M.heap c
theorem tN.refl (n:Nat) (bs:List Nat) (M:RM) : tN n bs M M:=⟨rfl,Nat.le_refl _,fun _ _ _=>rfl⟩
theorem tN.trans {n:Nat} {bs:List Nat} {M M1 M2:RM} (h:tN n bs M M1) (k:tN n bs M1 M2) : tN n bs M M2 :=
 ⟨k.base.trans h.base,Nat.le_trans h.next k.next,fun c h1 h2=>(k.heap c h1 h2).trans (h.heap c h1 h2)⟩
theorem ae.to {bs cs:List Nat} {n:Nat} {M M' : RM} (h:ae bs M M') (hn:n≤M.next) (hb:∀ b∈bs,n≤b∨b∈cs) : tN n cs M M' :=
 ⟨h.base,h.next,fun c h1 h2=>h.heap c (Nat.lt_of_lt_of_le h1 hn) (fun hm=>by rcases hb c hm with h3 | h3; omega; exact h2 h3)⟩
theorem Own.same {M M' : RM} {n el size n0:Nat} {v:AV} {cs:List AV} (h:Own M n0 el size v cs n) (hn:M'.next=M.next) (hb:∀ c∈aH v,M'.heap c=M.heap c) (hbase:M'.base=M.base) : Own M' n0 el size v cs n:=by
 cases h with
 | nil=>exact .nil
 | ex0 b o h1 h2 h3=>exact .ex0 b o h1 (by omega) (by simpa [RM.sQ,hb b (by simp[aH]),RM.lo,hbase] using h3)
 | op b n cs h1 h2 h3 h4=>exact .op b n cs h1 (by omega) (by rw[hb b (by simp[aH]),h3]) h4
theorem Own.one {M:RM} {n el size n0:Nat} {v:AV} {cs:List AV} (h:Own M n0 el size v cs n) : oneCell v=true:=by
 cases h <;> rfl
theorem Own.cells {M:RM} {n el size n0:Nat} {v:AV} {cs:List AV} (h:Own M n0 el size v cs n) : v.cells=[v]:=by
 cases h <;> rfl
end Go.Ab
set_option maxRecDepth 10000
namespace Go.Ab.Vl
open Go Go.Ab
structure Wm (TB T8 n0:Nat) (M:RM) (b:Nat) (xs:List UInt8) : Prop where
 lt:b<n0
 hn:n0≤M.next
 row:∃ addr buf,M.heap b=some (.row [addr,buf] false TB 0)∧(addr=.sc (.pointer none)∨addr=.ptr b 0)∧Ow BY M n0 T8 buf xs∧(xs=[]→buf=aA)
theorem Wm.new {TB T8 n0 b:Nat} {M:RM} (hh:M.heap b=some (.row [.sc (.pointer none),aA] false TB 0)) (hb:b<n0) (hn:n0≤M.next) : Wm TB T8 n0 M b [] :=
 ⟨hb,hn,_,_,hh,.inl rfl,.nil,fun _=>rfl⟩
theorem eH {s:List UInt8} {i:Nat} (hi:i<s.length) (kd:IntKind) (K:AV→Prop) : dH (St s) (N kd (i:Int)) K=K (By s[i]):=by
 rw[RD]
 apply propext
 constructor
 ·rintro⟨_,b,hb,hk⟩
  rw[Int.toNat_natCast,List.getElem?_eq_getElem hi] at hb
  cases hb; exact hk
 ·intro hk; exact⟨by omega,s[i],by rw[Int.toNat_natCast,List.getElem?_eq_getElem hi],hk⟩
theorem Ms {T:Nat} {zs:List AV} {K:RB→(Nat→AV)→Prop} (h:K (.row [] false T 0) (fun b=>.slc b 0 0 (.ex 0))) : QI T 1 zs (N .i64 0) (N .i64 0) K :=
 ⟨_,_,0,0,rfl,rfl,by omega,by omega,by decide,by decide,h⟩
def UJ (d:UInt8) : Prop:=d.toNat=92∨d.toNat=44∨d.toNat=59∨d.toNat=58
instance (d:UInt8) : Decidable (UJ d):=inferInstanceAs (Decidable (_∨_))
def Yp (d:UInt8) : Prop:=d.toNat=110∨d.toNat=78
instance (d:UInt8) : Decidable (Yp d):=inferInstanceAs (Decidable (_∨_))
def iD (c:ak) : Prop:=∀ {M:RM} {s:List UInt8} {x:UInt8} {Q:ah},Q (N .i64 (Lib.indexByte s x)) M→c [St s,By x] M Q
theorem EP (l:List UInt8) (x:UInt8) : (Lib.indexByte l x ≥ 0)↔x∈l:=by
 induction l with
 | nil=>simp[Lib.indexByte]
 | cons y ys ih =>
   simp only[Lib.indexByte]
   have:=Lib.indexByte_ge ys x
   by_cases h:y=x
   ·subst h; simp
   ·have hb:(y == x)=false:=by simpa using h
    have h' : ¬ x=y:=fun e=>h e.symm
    simp only[hb,List.mem_cons,h',false_or]
    rw[← ih]
    simp
    split <;> omega
def Jj (x:UInt8) : List UInt8→List UInt8→Bool→List (List UInt8)
 | [],cur,_=>[cur]
 | c :: s,cur,odd=>if c=x∧odd=false then cur :: Jj x s [] (decide (c.toNat=92) && !odd) else Jj x s (cur++[c]) (decide (c.toNat=92) && !odd)
def parts (x:UInt8) (s:List UInt8) : List (List UInt8):=Jj x s [] false
def JB (T:Nat) (c:ak) : Prop:=∀ {M:RM} {s:List UInt8} {x:UInt8} {Q:ah},s.length≤1000000→(∀ v M',Ow nY M' M.next T v (parts x s)→ae [] M M'→Q v M')→c [St s,By x] M Q
theorem dR {s:List UInt8} {l h:Nat} (h1:l≤h) (h2:h≤s.length) (k1 k2:IntKind) : dP (St s) (some (N k1 (l:Int))) (some (N k2 (h:Int)))=some (St ((s.drop l).take (h - l))):=by
 simp only[dP,bnd]
 simp[h1,h2]
theorem dK {s:List UInt8} {l:Nat} (h1:l≤s.length) (k1:IntKind) : dP (St s) (some (N k1 (l:Int))) none=some (St (s.drop l)):=by
 simp only[dP,bnd]
 simp[h1]
 rw[List.take_of_length_le (by simp)]
set_option maxRecDepth 100000
def Yq (n b0 b1 b2 b3:Nat) : Nat:=if Lib.decodeN n b0 b1 b2 b3=(65533,1) then 0 else(Lib.decodeN n b0 b1 b2 b3).2
section
variable {n b0 b1 b2 b3:Nat}
end
def bt (s:List UInt8) (i:Nat) : Nat:=(s.getD i 0).toNat
def rk (s:List UInt8) : Nat:=if s=[] then 0 else Yq s.length (bt s 0) (bt s 1) (bt s 2) (bt s 3)
def acc (v0:Nat) (s:List UInt8) : Nat→Nat
 | 0=>v0
 | k + 1=>64 * acc v0 s k + bt s (k + 1) - 128
def QJ (f:(List AV→RM→Prop)→Prop) (g:List AV→RM→Prop) : Prop:=f g
theorem gq (f:(List AV→RM→Prop)→Prop) (g:List AV→RM→Prop) : dL f g=QJ f g:=rfl
theorem gp {H:(List AV→RM→Prop)→Prop} {G:List AV→RM→Prop} (P:List AV→RM→Prop) (hT:∀ xs M,P xs M→G xs M)
  (hH:∀ J:List AV→RM→Prop,(∀ xs M,P xs M→J xs M)→H J) : QJ H G:=hH G hT
theorem CR {x:Int} (h : -9223372036854775808≤x) (k:x<9223372036854775808) : IntKind.wrap .i64 x=x:=gU (by omega) (by omega)
set_option maxRecDepth 10000
theorem Q5 {s:List UInt8} (h:s≠[]) {k:Nat} (hk:1≤k) : (s.drop k).length<s.length:=by
 have:=List.length_pos_iff.2 h
 simp; omega
def SA (s:List UInt8) : Bool:=if s=[] then true else if h:rk s=0 then false else SA (s.drop (rk s)) termination_by s.length decreasing_by exact Q5 (by assumption) (by omega)
theorem wO {n0 T8:Nat} {M:RM} {v:AV} {xs s:List UInt8} {K:AV→RM→Prop} (ho:Ow BY M n0 T8 v xs) (hn:n0≤M.next) (hl:xs.length + s.length≤140737488355328)
  (hK:∀ v' M',Ow BY M' n0 T8 v' (xs++s)→ae (aH v) M M'→K v' M') : appW T8 1 1 [N .u8 0] false v (St s) M K:=by
 have hnew:nW M 1 [N .u8 0] false (St s)=some (s.length,BY.row s):=by simp only[nW,DV,if_true]
 refine Bc ho hn (Nat.le_refl _) hnew (by rw[BY.gz]; rfl) (BY.rW s) (by omega) (by omega) fun v' M2 h2 k2 hnx2 hv=>hK v' M2 ?_ k2
 rw[← BY.oM] at h2
 show Own M2 n0 T8 1 v' (BY.row (xs++s)) (xs++s).length
 rw[List.length_append]; exact h2
theorem eO {s:List UInt8} {h:Nat} (h2:h≤s.length) (k2:IntKind) : dP (St s) none (some (N k2 (h:Int)))=some (St (s.take h)):=by
 have:=dR (s:=s) (l:=0) (h:=h) (by omega) h2 .i64 k2
 rw[List.drop_zero,Nat.sub_zero] at this; exact this
def strip (s:List UInt8) : List UInt8:=if s.drop (s.length - 1)=[13] then s.take (s.length - 1) else s
def Eb (c:ak) : Prop:=∀ {M:RM} {s:List UInt8} {Q:ah},Q (N .i64 (Lib.indexByte s 10)) M→c [St s,St [10]] M Q
def GJ (c:ak) : Prop:=∀ {M:RM} {s:List UInt8} {Q:ah},s.length≤1000000000→Q (St (strip s)) M→c [St s,St [13]] M Q
def EJ (s:List UInt8) : Prop:=∀ b∈s,b.toNat≠10
theorem EJ.take {s:List UInt8} (h:EJ s) (n:Nat) : EJ (s.take n):=fun b hb=>h b (List.mem_of_mem_take hb)
theorem EJ.drop {s:List UInt8} (h:EJ s) (n:Nat) : EJ (s.drop n):=fun b hb=>h b (List.mem_of_mem_drop hb)
def Ii (c:UInt8) : Bool:=(decide (32≤c.toNat) && decide (c.toNat≠127)) || decide (c.toNat=9)
def UH (c:ak) : Prop:=∀ {M:RM} {x:UInt8} {Q:ah},Q (Bo (Ii x)) M→c [By x] M Q
def bJ (c:UInt8) : UInt8:=if 65≤c.toNat∧c.toNat≤90 then UInt8.ofNat (c.toNat + 32) else c
def Tg (c:ak) : Prop:=∀ {M:RM} {s:List UInt8} {Q:ah},s.length≤1000000000→(∀ M',ae [] M M'→Q (St (s.map bJ)) M')→c [St s] M Q
theorem Kz {s:List UInt8} {i:Nat} (hi:i<s.length) : ((s.take i).map bJ).length=i:=by simp; omega
theorem Pq {s:List UInt8} {i:Nat} (hi:i<s.length) (x:UInt8) : ((s.take i).map bJ++s.drop i).set i x=(s.take i).map bJ++x :: s.drop (i + 1):=by
 have hl:=Kz hi
 rw[List.drop_eq_getElem_cons hi,List.set_append_right _ _ (by omega),hl,Nat.sub_self,List.set_cons_zero]
theorem Jn {s:List UInt8} {i:Nat} (hi:i<s.length) : (s.take (i + 1)).map bJ++s.drop (i + 1)=(s.take i).map bJ++bJ s[i] :: s.drop (i + 1):=by
 rw[List.take_succ_eq_append_getElem hi,List.map_append,List.append_assoc]
 rfl
theorem Rp {s:List UInt8} {i:Nat} (hi:i<s.length) (h:i<((s.take i).map bJ++s.drop i).length) : ((s.take i).map bJ++s.drop i)[i]=s[i]:=by
 have hl:=Kz hi
 rw[List.getElem_append_right (by omega)]
 simp only[hl,Nat.sub_self,List.getElem_drop,Nat.add_zero]
theorem DL {T8:Nat} : Tg fun args M Q=>∃ a0,args=[a0]∧yY T8 a0 M Q:=by
 intro M s Q hl hQ
 refine⟨_,rfl, ?_⟩
 unfold yY
 simp only[bX,aU,gD,lQ]
 have hk1:ae [] M (M.push (.row (BY.row s) true T8 0)):=(ae.refl _ _).push _
 have hr1:Rw BY (M.push (.row (BY.row s) true T8 0)) M.next true T8 s:=Rw.new M s
 generalize M.push (.row (BY.row s) true T8 0)=M1 at *
 refine di (fun m ys M3=>∃ i:Nat,m=s.length - i∧ys=[N .i64 i]∧i≤s.length∧Rw BY M3 M.next true T8 ((s.take i).map bJ++s.drop i)∧ae [] M M3) _
  ⟨0,rfl,rfl,Nat.zero_le _,by simpa using hr1,hk1⟩ ?_
 rintro next m ys M3 hnext ⟨i,rfl,rfl,hi,hR,hK⟩
 simp only[go_sem]
 refine⟨fun hlt=>?_,fun hge=>?_⟩
 ·have hlt:i<s.length:=by simpa using hlt
  have hlen:i<((s.take i).map bJ++s.drop i).length:=by simp; omega
  have hc:=hR.aj hlen
  have w1:=sU (show i<9223372036854775807 by omega)
  rw[Rp hlt hlen] at hc
  refine⟨by omega,_,hc, ?_⟩
  have same:bJ s[i]=s[i]→next [N .i64 ((i + 1:Nat) : Int)] M3:=fun h=>by
   refine hnext _ _ _ (by omega) ⟨i + 1,rfl,rfl,by omega, ?_,hK⟩
   rw[Jn hlt,h,← List.drop_eq_getElem_cons hlt]
   exact hR
  have cb:=Bg s[i]
  simp only[w1]
  by_cases h1:65≤s[i].toNat
  ·have e1:((s[i].toNat:Int) ≥ 65):=by omega
   by_cases h2:s[i].toNat≤90
   ·have e2:((s[i].toNat:Int)≤90):=by omega
    have hlow:bJ s[i]=UInt8.ofNat (s[i].toNat + 32):=by rw[bJ,if_pos ⟨h1,h2⟩]
    have wv:N IntKind.u8 (IntKind.u8.wrap (IntKind.u8.wrap ((s[i].toNat:Int) + 97) - 65))=By (bJ s[i]):=by
     rw[hlow,By,Uv,Nat.mod_eq_of_lt (by omega)]
     congr 1
     rw[show IntKind.u8.wrap ((s[i].toNat:Int) + 97)=(s[i].toNat:Int) + 97 from jl (by omega) (by omega)]
     rw[jl (by omega) (by omega)]; omega
    obtain⟨hs,hR'⟩:=hR.Hg hlen (bJ s[i])
    simp only[e1,e2,decide_true,go_sem]
    rw[Pq hlt] at hs hR'
    refine⟨by omega,_,(congrArg (fun x=>M3.stores M.next i [x]) wv).trans hs, ?_⟩
    refine hnext _ _ _ (by omega) ⟨i + 1,rfl,rfl,by omega, ?_,hK.put _ (.inl (Nat.le_refl _))⟩
    rw[Jn hlt]
    exact hR'
   ·have e2:¬ ((s[i].toNat:Int)≤90):=by omega
    simp only[e1,e2,decide_true,decide_false,go_sem]
    exact same (by rw[bJ,if_neg (by omega)])
  ·have e1:¬ ((s[i].toNat:Int) ≥ 65):=by omega
   simp only[e1,decide_false,go_sem]
   exact same (by rw[bJ,if_neg (by omega)])
 ·have:i=s.length:=by simp at hge; omega
  subst this
  rw[List.take_length,List.drop_length,List.append_nil] at hR
  have:=hR.sl (cap:=.op 1)
  rw[List.length_map] at this
  rw[Sl.str this]
  exact hQ M3 hK
def SG (B:Base) (c:ak) : Prop:=∀ {M:RM} {s:List UInt8} {Q:ah},M.base=B→s.length≤1000000000→Q (Bo (SA s)) M→c [St s] M Q
def okB (x:List UInt8) (c:UInt8) : Bool:=Ii c && !(decide (c∈x))
def G5 (x s:List UInt8) : Bool:=s.all (okB x) && SA s
def Lr (B:Base) (c:ak) : Prop:=∀ {M:RM} {s x:List UInt8} {Q:ah},M.base=B→s.length≤1000000000→(∀ M',ae [] M M'→Q (Bo (G5 x s)) M')→c [St s,St x] M Q
theorem wR {B:Base} {T8:Nat} {cp ci cv:ak} (hp:UH cp) (hi:iD ci) (hv:SG B cv) : Lr B fun args M Q=>∃ a0 a1,args=[a0,a1]∧qL T8 cp ci cv a0 a1 M Q:=by
 intro M s x Q hM hl hQ
 refine⟨_,_,rfl, ?_⟩
 unfold qL
 simp only[bX,aU,gD,lQ]
 have hk1:ae [] M (M.push (.row (BY.row s) true T8 0)):=(ae.refl _ _).push _
 have hr1:Rw BY (M.push (.row (BY.row s) true T8 0)) M.next true T8 s:=Rw.new M s
 generalize M.push (.row (BY.row s) true T8 0)=M1 at *
 refine di (fun m ys M3=>M3=M1∧∃ i:Nat,m=s.length - i∧ys=[N .i64 i]∧i≤s.length∧(s.take i).all (okB x)=true) _
  ⟨rfl,0,rfl,rfl,Nat.zero_le _,by simp⟩ ?_
 rintro next m ys M3 hnext ⟨hM3,i,rfl,rfl,hile,hall⟩
 subst hM3
 simp only[go_sem]
 refine⟨fun hlt=>?_,fun hge=>?_⟩
 ·have hlt:i<s.length:=by simpa using hlt
  have hc:=hr1.aj hlt
  have htk:=List.take_succ_eq_append_getElem hlt
  have hmem:=List.getElem_mem hlt
  generalize s[i]=c at *
  have w1:=sU (show i<9223372036854775807 by omega)
  have bad:okB x c=false→Q (Bo false) M3:=fun h=>by
   have:G5 x s=false:=by
    have h2:s.all (okB x)=false:=by
     rw[List.all_eq_false]
     exact⟨c,hmem,by rw[h]; simp⟩
    rw[G5,h2]; rfl
   rw[← this]; exact hQ M3 hk1
  have good:okB x c=true→next [N .i64 ((i + 1:Nat) : Int)] M3:=fun h=>by
   refine hnext _ _ _ (by omega) ⟨rfl,i + 1,rfl,rfl,by omega, ?_⟩
   rw[htk,List.all_append,hall]
   simp[h]
  refine⟨by omega,By c,hc,hp ?_⟩
  cases hpl:Ii c with
  | false =>
    simp only[go_sem]
    exact bad (by simp[okB,hpl])
  | true =>
    simp only[go_sem]
    refine hi ?_
    have hge:=EP x c
    by_cases hcx:c∈x
    ·have e1:decide (Lib.indexByte x c ≥ 0)=true:=decide_eq_true (hge.2 hcx)
     simp only[go_sem,e1]
     exact bad (by simp[okB,hcx])
    ·have e1:decide (Lib.indexByte x c ≥ 0)=false:=decide_eq_false fun h=>hcx (hge.1 h)
     simp only[go_sem,e1,w1]
     exact good (by simp[okB,hcx,hpl])
 ·have:i=s.length:=by simp at hge; omega
  subst this
  rw[List.take_length] at hall
  refine hv (by rw[hk1.base,hM]) hl ?_
  have:=hQ M3 hk1
  rw[G5,hall,Bool.true_and] at this
  exact this
def Wt:List UInt8:=[97,98,99,100,101,102,103,104,105,106,107,108,109,110,111,112,113,114,115,116,117,118,119,120,121,122,48,49,50,51,52,53,54,55,56,57,45]
def PD (B:Base) (f:List UInt8→List UInt8) (c:ak) : Prop:=∀ {M:RM} {s:List UInt8} {Q:ah},M.base=B→s.length≤1000000000→(∀ M',ae [] M M'→Q (St (f s)) M')→c [St s,St Wt] M Q
def QT (f:List UInt8→List UInt8) (s:List UInt8) : Bool:=decide (1≤s.length) && decide (s.length≤20) && (f s == [])
def NQ (B:Base) (f:List UInt8→List UInt8) (c:ak) : Prop:=∀ {M:RM} {s:List UInt8} {Q:ah},M.base=B→s.length≤1000000000→(∀ M',ae [] M M'→Q (Bo (QT f s)) M')→c [St s] M Q
theorem yQ {B:Base} {f:List UInt8→List UInt8} {ct:ak} (ht:PD B f ct) : NQ B f fun args M Q=>∃ a0,args=[a0]∧ul ct a0 M Q:=by
 intro M s Q hM hl hQ
 refine⟨_,rfl, ?_⟩
 unfold ul
 simp only[bX]
 rw[gY,dh]
 unfold QT at hQ
 by_cases h1:1≤s.length
 ·have e1:decide ((s.length:Int) ≥ 1)=true:=by simp; omega
  rw[e1]
  by_cases h2:s.length≤20
  ·have e2:decide ((s.length:Int)≤20)=true:=by simp; omega
   simp only[go_sem,e2]
   refine ht hM hl fun M1 k1=>?_
   simp only[go_sem]
   have:=hQ M1 k1
   simpa [h1,h2] using this
  ·have e2:decide ((s.length:Int)≤20)=false:=by simp; omega
   simp only[go_sem,e2]
   simpa [h1,h2] using hQ M (ae.refl _ _)
 ·have e1:decide ((s.length:Int) ≥ 1)=false:=by simp; omega
  rw[e1]
  simp only[go_sem]
  simpa [h1] using hQ M (ae.refl _ _)
def brk (x:UInt8) : List UInt8→Option (List UInt8 × List UInt8)
 | []=>none
 | c :: t=>if c=x then some ([],t) else(brk x t).map fun p=>(c :: p.1,p.2)
theorem wJ (x:UInt8) : ∀ s:List UInt8,(brk x s=none∧Lib.indexByte s x=-1∧x ∉ s)∨∃ a b,brk x s=some (a,b)∧Lib.indexByte s x=(a.length:Int)∧s=a++x :: b∧x ∉ a
 | []=>.inl ⟨rfl,rfl,by simp⟩
 | c :: t=>by
   by_cases h:c=x
   ·subst h
    exact .inr ⟨[],t,by simp[brk],by simp[Lib.indexByte],rfl,by simp⟩
   ·have hc:(c == x)=false:=by simpa using h
    rcases wJ x t with⟨h1,h2,h4⟩ | ⟨a,b,h1,h2,h3,h4⟩
    ·exact .inl ⟨by simp[brk,h,h1],by simp[Lib.indexByte,hc,h2],by simp[h4,Ne.symm h]⟩
    ·refine .inr ⟨c :: a,b,by simp[brk,h,h1], ?_,by rw[h3]; rfl,by simp[h4,Ne.symm h]⟩
     have:((a.length:Int) == -1)=false:=by simp
     simp[Lib.indexByte,hc,h2,this]
def wE (x:UInt8) (c:ak) : Prop:=∀ {M:RM} {s:List UInt8} {Q:ah},Q (N .i64 (Lib.indexByte s x)) M→c [St s,St [x]] M Q
theorem Cc {x:UInt8} {ci xx c1 c2:ak} (hi:iD ci) : wE x fun args M Q=>∃ a0 a1,args=[a0,a1]∧dx ci xx c1 c2 a0 a1 M Q:=by
 intro M s Q hQ
 refine⟨_,_,rfl, ?_⟩
 unfold dx
 rw[gY,bE,show((([x] : List UInt8).length:Int) == 0)=false from rfl]
 simp only[bX]
 by_cases h:[x]=s
 ·subst h
  have:Lib.indexByte [x] x=0:=by simp[Lib.indexByte]
  rw[this] at hQ
  simp only[go_sem,beq_self_eq_true]
  exact hQ
 ·have h' : (([x] : List UInt8) == s)=false:=by simp[h]
  simp only[go_sem,h']
  exact⟨fun _=>⟨by omega,x,rfl,hi hQ⟩,fun h=>absurd h (by decide)⟩
def rR (x:UInt8) (s:List UInt8) : AV:=match brk x s with
 | some (a,b)=>.tup [St a,St b,Bo true]
 | none=>.tup [St s,St [],Bo false]
def lZ (x:UInt8) (c:ak) : Prop:=∀ {M:RM} {s:List UInt8} {Q:ah},s.length≤1000000000→Q (rR x s) M→c [St s,St [x]] M Q
theorem EG {x:UInt8} {ci:ak} (hi:wE x ci) : lZ x fun args M Q=>∃ a0 a1,args=[a0,a1]∧iB ci a0 a1 M Q:=by
 intro M s Q hl hQ
 refine⟨_,_,rfl, ?_⟩
 unfold iB
 refine hi ?_
 unfold rR at hQ
 rcases wJ x s with⟨h1,h2,_⟩ | ⟨a,b,h1,h2,h3,_⟩
 ·rw[h1] at hQ
  simp only[go_sem,h2]
  exact⟨fun h=>absurd h (by decide),fun _=>hQ⟩
 ·rw[h1] at hQ
  have hsl:=congrArg List.length h3
  simp at hsl
  rw[h2,dh,show decide ((a.length:Int) ≥ 0)=true by simp]
  refine⟨fun _=>?_,fun h=>by cases h⟩
  rw[eO (by omega)]
  simp only[go_sem]
  rw[show IntKind.wrap .i64 ((a.length:Int) + ((1:Nat) : Int))=((a.length + 1:Nat) : Int) by rw[CR (by omega) (by omega)]; omega]
  rw[dK (by omega)]
  simp only[go_sem]
  rw[h3]
  rw[show(a++x :: b).take a.length=a by simp,show(a++x :: b).drop (a.length + 1)=b by rw[← List.drop_drop]; simp]
  exact hQ
theorem Ny {x:UInt8} {ci:ak} (hi:lZ x ci) : lZ x fun args M Q=>∃ a0 a1,args=[a0,a1]∧qJ ci a0 a1 M Q:=by
 intro M s Q hl hQ
 refine⟨_,_,rfl, ?_⟩
 unfold qJ
 refine hi hl ?_
 unfold rR at hQ ⊢
 cases h:brk x s with
 | none=>rw[h] at hQ; simpa only[go_sem] using hQ
 | some p=>rw[h] at hQ; simpa only[go_sem] using hQ
end Go.Ab.Vl
namespace Go.Ab
open Go Go.RowKit
section
variable {P:Program} {ρ:Ren} {M:RM} {w w' : World}
theorem bV.below {base:Base} {A:AW} (h:bV P base ρ A w) (hb:Below w.heap.size w w') (hn:base.n≤w.heap.size) : bV P base ρ A w' where
 dom b i hbi:=⟨(h.dom b i hbi).1,Nat.lt_of_lt_of_le (h.dom b i hbi).2 hb.size⟩
 blk b i x hbi hx:=let ⟨o,ho,hr⟩:=h.blk b i x hbi hx; ⟨o,by rw[hb.block _ (h.dom b i hbi).2]; exact ho,hr⟩
 sep:=h.sep
 top:=h.top
 lo:=h.lo
 inv:=base.low w w' (fun c hc=>hb.block c (Nat.lt_of_lt_of_le hc hn)) h.inv
theorem Step.of_below {base n:Nat} (hb:Below w.heap.size w w') (hn:base≤w.heap.size) : Step base n ρ w ρ w' where
 os:=hb.os
 tape:=hb.tape
 output:=hb.output
 size:=hb.size
 frame c hc _:=hb.block c hc
 ext _ _:=rfl
 fresh b i h:=.inl ⟨b,i,h,rfl⟩
 low c hc:=hb.block c (Nat.lt_of_lt_of_le hc hn)
theorem After.below (h:bP P ρ M w) (hb:Below w.heap.size w w') : After P M ρ w M ρ w':=by
 obtain⟨A,hA⟩:=h
 refine iC hA (Step.of_below hb hA.size) (hA.rel.below hb hA.size) rfl hA.next (Nat.le_refl _) fun b x hx=>?_
 rcases hA.blk b x hx with h | ⟨c,rfl,_⟩
 ·exact .inl h
 ·exact .inr ⟨c,rfl,hx⟩
theorem bP.inv (h:bP P ρ M w) : M.base.inv w:=by
 obtain⟨A,hA⟩:=h
 exact hA.rel.inv
theorem fe.r9 {f:FuncId} {args:List AV} {v:AV} {Q:ah} (hP:Fa P f)
  (h:∀ (ρ:Ren) (w:World) (us:List Value),aI ρ args us→bP P ρ M w→Calls P f ⟨us⟩ w fun e w'=>∃ v',e=.returned v'∧Below w.heap.size w w'∧ag ρ v v') (hQ:Q v M) : fe P f args M Q:=by
 refine⟨hP,fun ρ w us hargs hw=>(h ρ w us hargs hw).mono fun e w' hR=>?_⟩
 obtain⟨v',rfl,hb,hv⟩:=hR
 exact⟨v',v,M,ρ,rfl,After.below hw hb,hv,hQ⟩
end
structure qj (α:Type) where
 size:Nat
 rel:RM→List AV→α→(Nat→Prop)→Prop
 len:∀ {M cs a S},rel M cs a S→cs.length=size
 one:∀ {M cs a S},rel M cs a S→cs.all oneCell=true
 mono:∀ {M cs a S S'},rel M cs a S→(∀ b,S b→S' b)→rel M cs a S'
 lt:∀ {M cs a S},rel M cs a S→rel M cs a (fun b=>S b∧b<M.next)
 keep:∀ {M M' cs a S bs},rel M cs a S→ae bs M M'→(∀ b∈bs,¬ S b)→rel M' cs a S
def Enc.BO {α:Type} (E:Enc α) : qj α where
 size:=E.size
 rel _ cs a _:=cs=E.cells a
 len h:=by subst h; exact E.len _
 one h:=by subst h; exact E.one _
 mono h _:=h
 lt h:=h
 keep h _ _:=h
inductive gu {α:Type} (R:qj α) (M:RM) (S:Nat→Prop) : List AV→List α→Prop
 | nil:gu R M S [] []
 | cons {cs ds:List AV} {a:α} {xs:List α} : R.rel M cs a S→gu R M S ds xs→gu R M S (cs++ds) (a :: xs)
section
variable {α:Type} {R:qj α} {M M' : RM} {S S' : Nat→Prop} {cs ds:List AV} {xs ys:List α} {a:α}
theorem gu.len (h:gu R M S cs xs) : cs.length=xs.length * R.size:=by
 induction h with
 | nil=>simp
 | cons h1 _ ih=>rw[List.length_append,R.len h1,ih,List.length_cons,Nat.succ_mul,Nat.add_comm]
theorem gu.one (h:gu R M S cs xs) : cs.all oneCell=true:=by
 induction h with
 | nil=>rfl
 | cons h1 _ ih=>rw[List.all_append,R.one h1,ih]; rfl
theorem gu.mono (h:gu R M S cs xs) (hs:∀ b,S b→S' b) : gu R M S' cs xs:=by
 induction h with
 | nil=>exact .nil
 | cons h1 _ ih=>exact .cons (R.mono h1 hs) ih
theorem gu.lt (h:gu R M S cs xs) : gu R M (fun b=>S b∧b<M.next) cs xs:=by
 induction h with
 | nil=>exact .nil
 | cons h1 _ ih=>exact .cons (R.lt h1) ih
theorem gu.keep {bs:List Nat} (h:gu R M S cs xs) (hk:ae bs M M') (hb:∀ b∈bs,¬ S b) : gu R M' S cs xs:=by
 induction h with
 | nil=>exact .nil
 | cons h1 _ ih=>exact .cons (R.keep h1 hk hb) ih
theorem gu.get (h:gu R M S cs xs) : ∀ {i:Nat} (hi:i<xs.length),R.rel M ((cs.drop (i * R.size)).take R.size) xs[i] S:=by
 induction h with
 | nil=>intro i hi; simp at hi
 | cons h1 h2 ih =>
   rename_i c1 d1 a1 x1
   intro i hi
   cases i with
   | zero =>
     rw[Nat.zero_mul,List.drop_zero,List.take_append_of_le_length (by rw[R.len h1]; exact Nat.le_refl _),List.take_of_length_le (by rw[R.len h1]; exact Nat.le_refl _)]
     exact h1
   | succ i =>
     rw[Nat.succ_mul,Nat.add_comm,← List.drop_drop,List.drop_left' (R.len h1)]
     exact ih (by simpa using hi)
theorem gu.take (h:gu R M S cs xs) : ∀ (k:Nat),gu R M S (cs.take (k * R.size)) (xs.take k):=by
 induction h with
 | nil=>intro k; simp; exact .nil
 | cons h1 h2 ih =>
   intro k
   cases k with
   | zero=>simp; exact .nil
   | succ k =>
     rw[Nat.succ_mul,Nat.add_comm,List.take_append,List.take_of_length_le (by rw[R.len h1]; omega),R.len h1,Nat.add_sub_cancel_left]
     exact .cons h1 (ih k)
theorem gu.drop (h:gu R M S cs xs) : ∀ (k:Nat),gu R M S (cs.drop (k * R.size)) (xs.drop k):=by
 induction h with
 | nil=>intro k; simp; exact .nil
 | cons h1 h2 ih =>
   intro k
   cases k with
   | zero=>simp; exact .cons h1 h2
   | succ k =>
     rw[Nat.succ_mul,Nat.add_comm,← List.drop_drop,List.drop_left' (R.len h1)]
     exact ih k
theorem gu.cells {E:Enc α} : ∀ {cs:List AV} {xs:List α},gu E.BO M S cs xs→cs=E.row xs
 | _,_,.nil=>rfl
 | _,_,.cons h1 h2=>by rw[Enc.lI,gu.cells h2]; rw[show _=_ from h1]
def nT (R:qj α) (M:RM) (v:AV) (xs:List α) (S:Nat→Prop) : Prop :=
 ∃ cs,aG M R.size v cs xs.length∧(∀ b∈aH v,S b)∧gu R M S cs xs
theorem aG.lt {size n:Nat} {v:AV} (h:aG M size v cs n) : ∀ b∈aH v,b<M.next:=by
 cases h with
 | nil=>intro b hb; simp[aH] at hb
 | emp=>intro b hb; simp[aH] at hb
 | slc b o n cap cs hb _=>intro c hc; simp[aH] at hc; omega
theorem aG.one {size n:Nat} {v:AV} (h:aG M size v cs n) : oneCell v=true:=by
 cases h <;> rfl
theorem aG.cells {size n:Nat} {v:AV} (h:aG M size v cs n) : v.cells=[v]:=by
 cases h <;> rfl
variable {v:AV}
theorem nT.mono (h:nT R M v xs S) (hs:∀ b,S b→S' b) : nT R M v xs S':=let ⟨cs,h1,h2,h3⟩:=h; ⟨cs,h1,fun b hb=>hs b (h2 b hb),h3.mono hs⟩
theorem nT.lt (h:nT R M v xs S) : nT R M v xs (fun b=>S b∧b<M.next):=let ⟨cs,h1,h2,h3⟩:=h; ⟨cs,h1,fun b hb=>⟨h2 b hb,h1.lt b hb⟩,h3.lt⟩
theorem nT.keep {bs:List Nat} (h:nT R M v xs S) (hk:ae bs M M') (hb:∀ b∈bs,¬ S b) : nT R M' v xs S :=
 let ⟨cs,h1,h2,h3⟩:=h; ⟨cs,h1.keep hk (fun b hv hbs=>hb b hbs (h2 b hv)),h2,h3.keep hk hb⟩
theorem nT.len (h:nT R M v xs S) {K:AV→Prop} : aT v K=K (N .i64 xs.length):=let ⟨cs,h1,_,_⟩:=h; h1.len
theorem nT.one (h:nT R M v xs S) : oneCell v=true:=let ⟨cs,h1,_,_⟩:=h; h1.one
theorem nT.cells (h:nT R M v xs S) : v.cells=[v]:=let ⟨cs,h1,_,_⟩:=h; h1.cells
theorem nT.sl {E:Enc α} (h:nT E.BO M v xs S) : Sl E M v xs:=by
 obtain⟨cs,h1,h2,h3⟩:=h
 rw[h3.cells] at h1
 exact h1
theorem nT.at (h:nT R M v xs S) {i:Nat} (sz:Nat) (j:Int) (hi:i<xs.length) (hsz:R.size=sz:=by rfl) (hj:j=(i:Int):=by rfl) :
  ∃ b o cs,b<M.next∧b∈aH v∧(∀ (kd:IntKind) (K:AV→Prop),cK v (N kd j) sz K=K (.ptr b o))∧M.loads b o sz=some cs∧R.rel M cs xs[i] S:=by
 subst hsz hj
 obtain⟨cs,h1,h2,h3⟩:=h
 obtain⟨b,o,cap,rfl,hb,hl⟩:=h1.pos (by omega)
 have hsum:i * R.size + R.size≤xs.length * R.size:=by rw[← Nat.succ_mul]; exact Nat.mul_le_mul_right _ hi
 refine⟨b,o + i * R.size,(cs.drop (i * R.size)).take R.size,hb,by simp[aH],fun kd K=>?_, ?_,h3.get hi⟩
 ·rw[sG]
  simp only[Int.toNat_natCast]
  exact propext ⟨fun h=>h.2.2,fun h=>⟨by omega,by omega,h⟩⟩
 ·rw[uz hl (i * R.size) R.size hsum]
def qj.slice (R:qj α) : qj (List α) where
 size:=1
 rel M cs xs S:=∃ v,cs=[v]∧nT R M v xs S
 len h:=by obtain⟨v,rfl,_⟩:=h; rfl
 one h:=by obtain⟨v,rfl,h⟩:=h; simp[h.one]
 mono h hs:=by obtain⟨v,rfl,h⟩:=h; exact⟨v,rfl,h.mono hs⟩
 lt h:=by obtain⟨v,rfl,h⟩:=h; exact⟨v,rfl,h.lt⟩
 keep h hk hb:=by obtain⟨v,rfl,h⟩:=h; exact⟨v,rfl,h.keep hk hb⟩
def uk (R:qj α) (M:RM) (base el:Nat) (v:AV) (xs:List α) (S:Nat→Prop) : Prop :=
 ∃ cs,Own M base el R.size v cs xs.length∧gu R M S cs xs
theorem uk.mono {base el:Nat} (h:uk R M base el v xs S) (hs:∀ b,S b→S' b) : uk R M base el v xs S':=let ⟨cs,h1,h2⟩:=h; ⟨cs,h1,h2.mono hs⟩
theorem uk.lt {base el:Nat} (h:uk R M base el v xs S) : uk R M base el v xs (fun b=>S b∧b<M.next):=let ⟨cs,h1,h2⟩:=h; ⟨cs,h1,h2.lt⟩
theorem uk.keep {base el:Nat} {bs:List Nat} (h:uk R M base el v xs S) (hk:ae bs M M') (hb:∀ b∈bs,¬ S b) (hv:∀ b∈aH v,b ∉ bs) : uk R M' base el v xs S :=
 let ⟨cs,h1,h2⟩:=h; ⟨cs,h1.keep hk hv,h2.keep hk hb⟩
theorem uk.len {base el:Nat} (h:uk R M base el v xs S) {K:AV→Prop} : aT v K=K (N .i64 xs.length):=let ⟨cs,h1,_⟩:=h; h1.kZ.len
theorem uk.cells {base el:Nat} (h:uk R M base el v xs S) : v.cells=[v]:=let ⟨cs,h1,_⟩:=h; h1.cells
theorem uk.one {base el:Nat} (h:uk R M base el v xs S) : oneCell v=true:=let ⟨cs,h1,_⟩:=h; h1.one
end
section
variable {M M' : RM} {b i n e f:Nat} {l:List AV} {p:Bool} {x:AV}
theorem az {K:AV→Prop} (h:M.heap b=some (.row l p e f)) (hx:l[i]?=some x) : aj M (.ptr b i) K=K x:=by
 rw[dD,RM.cell_of h,hx]; simp
theorem bN {K:AV→Prop} (h:M.heap b=some (.row l p e f)) (hn:l.length=n) : bI M (.ptr b 0) n K=K (.agg l):=by
 rw[uC,RM.Qm h]
 have:tu (some l) 0 n=some l:=by simp[tu,← hn]
 rw[this]; simp
theorem OV {K:RM→Prop} (h:M.heap b=some (.row l p e 0)) (hi:i<l.length) (hc:x.cells=[x]) (h1:oneCell x=true) : aK M (.ptr b i) x 1 K=K (M.put b (.row (l.set i x) p e 0)):=by
 rw[Ei,hc,RM.A7 h,sH (by simp only[List.length_cons,List.length_nil]; omega) (Nat.zero_le _) (by simp[h1])]
 have:l.take i++[x]++l.drop (i + 1)=l.set i x:=by
  rw[List.set_eq_take_append_cons_drop,if_pos hi]; simp
 simp[this]
theorem gZ {K:RM→Prop} (l' : List AV) (h:M.heap b=some (.row l p e 0)) (hi:i<l.length) (hc:x.cells=[x]) (h1:oneCell x=true) (hl:l.set i x=l') : aK M (.ptr b i) x 1 K=K (M.put b (.row l' p e 0)):=by
 rw[OV h hi hc h1,hl]
theorem gK {K:AV→Prop} : aJ (.ptr b 0) n K=K (.ptr b n):=by rw[iO,Nat.zero_add]
theorem MH {K:RM→Prop} (h:M.heap b=some (.row l p e 0)) (hn:x.cells.length=n) (hl:l.length=n) (h1:x.cells.all oneCell=true) : aK M (.ptr b 0) x n K=K (M.put b (.row x.cells p e 0)):=by
 rw[Ei,RM.A7 h,Gz (by rw[hn,hl]) h1]
 simp[hn]
theorem uR {c:Nat} {y z:RB} (h:M.heap b=some y) (hb:b≠c) : (M.put c z).heap b=some y:=by
 simp only[RM.put]; rw[if_neg hb]; exact h
theorem aP (y:RB) : (M.put b y).heap b=some y:=RM.CF _ _
theorem IQ (c:Nat) (y:RB) : (M.put c y).next=M.next:=rfl
theorem ae.new {bs:List Nat} (h:ae bs M M') {b:Nat} (y:RB) (hb:M.next≤b) : ae bs M (M'.put b y):=h.put y (.inl hb)
end
variable {M:RM}
theorem bB {a:AV} {l:List AV} {K:AV→Prop} : aF (.tup (a :: l)) 0 K=K a:=by rw[CK]; simp
theorem bz {a b:AV} {l:List AV} {K:AV→Prop} : aF (.tup (a :: b :: l)) 1 K=K b:=by rw[CK]; simp
theorem fF {a b c:AV} {l:List AV} {K:AV→Prop} : aF (.tup (a :: b :: c :: l)) 2 K=K c:=by rw[CK]; simp
theorem bW {p q:Prop} : ax (Bo true) p q=p:=by simp[IK]
theorem bq {p q:Prop} : ax (Bo false) p q=q:=by simp[IK]
theorem bH {b:Bool} {p q:Prop} (h1:b=true→p) (h2:b=false→q) : ax (Bo b) p q:=⟨h1,h2⟩
theorem bM {f g:ah→Prop} {k:ah} : aa (Bo true) true f g k=f k:=rfl
theorem bg {f g:ah→Prop} {k:ah} : aa (Bo false) false f g k=f k:=rfl
theorem bS {f g:ah→Prop} {k:ah} : aa (Bo true) false f g k=g k:=rfl
theorem eP {f g:ah→Prop} {k:ah} : aa (Bo false) true f g k=g k:=rfl
theorem F9 {f g:KR→Prop} {k:KR} : mV (Bo true) true f g k=f k:=rfl
theorem Ay {f g:KR→Prop} {k:KR} : mV (Bo false) true f g k=g k:=rfl
theorem iE {w:Bool} {f g:ah→Prop} {k:ah} : aa .undef w f g k=g k:=rfl
theorem bU {a b:AV} {K:AV→Prop} : ay (Bo true) a b K=K a:=by rw[Ij]; rfl
theorem bZ {a b:AV} {K:AV→Prop} : ay (Bo false) a b K=K b:=by rw[Ij]; rfl
theorem aG.known {size:Nat} {v:AV} {cs:List AV} {n:Nat} (h:aG M size v cs n) : known v=true:=by
 cases h <;> rfl
theorem iU {t:TypeId} {cs:List AV} {K:RB→(Nat→AV)→Prop} (h1:cs.all oneCell=true) (h2:1≤cs.length) : nL t (.agg cs) K=K (.row cs false t 0) (fun b=>.ptr b 0):=by
 unfold nL
 exact propext ⟨fun h=>h.2.2,fun h=>⟨h1,h2,h⟩⟩
theorem zN {x y a b:AV} (h1:known x=true) (h2:x.cells=[x]) (h3:known y=true) (h4:y.cells=[y]) : jK [a,b] [(0,1,x),(1,1,y)]=some [x,y]:=by
 simp[jK,h1,h2,h3,h4]
def qj.pre {α β:Type} (E:Enc α) (R:qj β) : qj (α × β) where
 size:=E.size + R.size
 rel M cs a S:=∃ ds,cs=E.cells a.1++ds∧R.rel M ds a.2 S
 len h:=by obtain⟨ds,rfl,h⟩:=h; rw[List.length_append,E.len,R.len h]
 one h:=by obtain⟨ds,rfl,h⟩:=h; rw[List.all_append,E.one,R.one h]; rfl
 mono h hs:=by obtain⟨ds,rfl,h⟩:=h; exact⟨ds,rfl,R.mono h hs⟩
 lt h:=by obtain⟨ds,rfl,h⟩:=h; exact⟨ds,rfl,R.lt h⟩
 keep h hk hb:=by obtain⟨ds,rfl,h⟩:=h; exact⟨ds,rfl,R.keep h hk hb⟩
def qj.post {α β:Type} (R:qj α) (E:Enc β) : qj (α × β) where
 size:=R.size + E.size
 rel M cs a S:=∃ ds,cs=ds++E.cells a.2∧R.rel M ds a.1 S
 len h:=by obtain⟨ds,rfl,h⟩:=h; rw[List.length_append,E.len,R.len h]
 one h:=by obtain⟨ds,rfl,h⟩:=h; rw[List.all_append,E.one,R.one h]; rfl
 mono h hs:=by obtain⟨ds,rfl,h⟩:=h; exact⟨ds,rfl,R.mono h hs⟩
 lt h:=by obtain⟨ds,rfl,h⟩:=h; exact⟨ds,rfl,R.lt h⟩
 keep h hk hb:=by obtain⟨ds,rfl,h⟩:=h; exact⟨ds,rfl,R.keep h hk hb⟩
def qj.map {α β:Type} (R:qj α) (g:β→α) : qj β where
 size:=R.size
 rel M cs a S:=R.rel M cs (g a) S
 len h:=R.len h
 one h:=R.one h
 mono h hs:=R.mono h hs
 lt h:=R.lt h
 keep h hk hb:=R.keep h hk hb
end Go.Ab
namespace Go.Ab
open Go Go.RowKit Go.ChangeShapes
section
variable {H:Type} {enc:TypeId × Value→H} {P:Program} {w:World} {base:Nat} {spare:Nat→Bool} {held:Bool}
theorem IV {t0 t1 t2 t3 t4:TypeId} {args:Array Value} {ds:List (DataW H)} {ps:List MemPlace} (h:DataW.TrodAll enc P w base spare held [t0,t1,t2,t3,t4] args.toList ds ps) :
  ∃ v0 v1 v2 v3 v4 d0 d1 d2 d3 d4 p0 p1 p2 p3 p4,args = #[v0,v1,v2,v3,v4]∧ds=[d0,d1,d2,d3,d4]∧ps=p0++p1++p2++p3++p4∧DataW.Trod enc P w base spare held t0 v0 d0 p0∧DataW.Trod enc P w base spare held t1 v1 d1 p1∧DataW.Trod enc P w base spare held t2 v2 d2 p2∧DataW.Trod enc P w base spare held t3 v3 d3 p3∧DataW.Trod enc P w base spare held t4 v4 d4 p4:=by
 obtain⟨v0,vs0,d0,ds0,p0,q0,hargs,rfl,rfl,h0,r0⟩:=trodAll_cons h
 obtain⟨v1,vs1,d1,ds1,p1,q1,rfl,rfl,rfl,h1,r1⟩:=trodAll_cons r0
 obtain⟨v2,vs2,d2,ds2,p2,q2,rfl,rfl,rfl,h2,r2⟩:=trodAll_cons r1
 obtain⟨v3,vs3,d3,ds3,p3,q3,rfl,rfl,rfl,h3,r3⟩:=trodAll_cons r2
 obtain⟨v4,vs4,d4,ds4,p4,q4,rfl,rfl,rfl,h4,r4⟩:=trodAll_cons r3
 obtain⟨rfl,rfl,rfl⟩:=trodAll_nil r4
 exact⟨v0,v1,v2,v3,v4,d0,d1,d2,d3,d4,p0,p1,p2,p3,p4,by cases args; simp_all,rfl,by simp,h0,h1,h2,h3,h4⟩
end
end Go.Ab
namespace Go.Ab
open Go Go.ChangeShapes
end Go.Ab
namespace Go.Ab
open Go Go.RowKit
section
variable {P:Program} {f:FuncId} {fn:Func} {w w' : World} {M:RM}
end
end Go.Ab
namespace Go.Ab.Sm
open Go Go.Ab
section
variable {i j:Nat} {K:AV→Prop}
theorem addN (h:i + j<4611686018427387904) : af .add (N .i64 (i:Int)) (N .i64 (j:Int)) K=K (N .i64 ((i + j:Nat) : Int)):=by
 rw[yB,gU (by omega) (by omega),Int.natCast_add]
theorem add1 (h:i<4611686018427387904) : af .add (N .i64 (i:Int)) (N .i64 1) K=K (N .i64 ((i + 1:Nat) : Int)):=by
 rw[yB,sU (by omega)]
theorem IW (h:j≤i) (hb:i<4611686018427387904) : af .sub (N .i64 (i:Int)) (N .i64 (j:Int)) K=K (N .i64 ((i - j:Nat) : Int)):=by
 rw[lL,gU (by omega) (by omega),show(i:Int) - (j:Int)=((i - j:Nat) : Int) by omega]
theorem ny:af .lss (N .i64 (i:Int)) (N .i64 (j:Int)) K=K (Bo (decide (i<j))):=by rw[eU,show decide ((i:Int)<(j:Int))=decide (i<j) by simp]
theorem II:af .gtr (N .i64 (i:Int)) (N .i64 (j:Int)) K=K (Bo (decide (i > j))):=by rw[cZ,show decide ((i:Int) > (j:Int))=decide (i > j) by simp]
theorem XP:af .eql (N .i64 (i:Int)) (N .i64 (j:Int)) K=K (Bo (decide (i=j))):=by
 rw[bE,show((i:Int) == (j:Int))=decide (i=j) by by_cases h:i=j <;> simp[h]; omega]
end
section
variable {M:RM} {c p:Bool} {f:ah→Prop} {P:RM→Prop} {G:AV→RM→Prop}
theorem kD (hf:c=true→∀ k:ah,k (Bo p) M→f k) (hG:G (Bo (c && p)) M) :
  aa (Bo c) true f (fun k=>k .undef M) (fun t M'=>ay (Bo c) t (Bo false) fun u=>G u M'):=by
 cases c with
 | false=>rw[eP]; dsimp only; rw[bZ]; exact hG
 | true=>rw[bM]; exact hf rfl _ (by rw[bU]; exact hG)
theorem sN (hf:c=false→∀ k:ah,k (Bo p) M→f k) (hG:G (Bo (c || p)) M) :
  aa (Bo c) false f (fun k=>k .undef M) (fun t M'=>ay (Bo c) (Bo true) t fun u=>G u M'):=by
 cases c with
 | true=>rw[bS]; dsimp only; rw[bU]; exact hG
 | false=>rw[bg]; exact hf rfl _ (by rw[bZ]; exact hG)
theorem xS (h0:P M) (hf:c=true→∀ k:ah,(∀ M',P M'→k (Bo p) M')→f k) (hG:∀ M',P M'→G (Bo (c && p)) M') :
  aa (Bo c) true f (fun k=>k .undef M) (fun t M'=>ay (Bo c) t (Bo false) fun u=>G u M'):=by
 cases c with
 | false=>rw[eP]; dsimp only; rw[bZ]; exact hG M h0
 | true=>rw[bM]; exact hf rfl _ fun M' h=>by rw[bU]; exact hG M' h
theorem vP (h0:P M) (hf:c=false→∀ k:ah,(∀ M',P M'→k (Bo p) M')→f k) (hG:∀ M',P M'→G (Bo (c || p)) M') :
  aa (Bo c) false f (fun k=>k .undef M) (fun t M'=>ay (Bo c) (Bo true) t fun u=>G u M'):=by
 cases c with
 | true=>rw[bS]; dsimp only; rw[bU]; exact hG M h0
 | false=>rw[bg]; exact hf rfl _ fun M' h=>by rw[bZ]; exact hG M' h
end
section
variable {M:RM} {c p:Bool} {f:KR→Prop} {G:AV→RM→Prop}
end
theorem Ck {a:Int} {K:AV→Prop} : af .neq (N .i64 a) (N .i64 a) K=K (Bo false):=by rw[gN,bne_self_eq_false]
end Go.Ab.Sm
namespace Go.Ab
open Go Go.RowKit
inductive jL (B:Nat) (P:Program) (M:RM) : TypeId→List AV→Prop
 | bool (t:TypeId) (b:Bool) : P.underlying t=some .bool→jL B P M t [Bo b]
 | int (t:TypeId) (k:IntKind) (n:Int) : P.underlying t=some (.int k)→k.min≤n→n≤k.max→jL B P M t [N k n]
 | str (t:TypeId) (s:List UInt8) : P.underlying t=some .string→s.length≤B→jL B P M t [St s]
 | K9 (t e:TypeId) : P.underlying t=some (.slice e)→jL B P M t [aA]
 | emp (t e:TypeId) (b:Nat) : P.underlying t=some (.slice e)→jL B P M t [.emp b]
 | slc (t e:TypeId) (b o n c:Nat) (cs:List AV) : P.underlying t=some (.slice e)→b<M.next→n≤c→n≤B→M.loads b o (n * P.cellsOf e)=some cs →
   (∀ i,i<n→jL B P M e ((cs.drop (i * P.cellsOf e)).take (P.cellsOf e)))→jL B P M t [.slc b o n (.ex c)]
 | struct (t:TypeId) (fs:Array Field) (cs:List AV) : P.underlying t=some (.struct fs)→cs.length=P.cellsOf t →
   (∀ (i:Nat) (f:Field),fs[i]?=some f→jL B P M f.type ((cs.drop f.offset).take (P.cellsOf f.type)))→jL B P M t cs
 | array (t e:TypeId) (n:Nat) (cs:List AV) : P.underlying t=some (.array n e)→cs.length=P.cellsOf t →
   (∀ i,i<n→jL B P M e ((cs.drop (i * P.cellsOf e)).take (P.cellsOf e)))→jL B P M t cs
 | other (t:TypeId) (cs:List AV) : tH (P.underlying t)=true→jL B P M t cs
 | zero (t e:TypeId) (cs:List AV) : P.underlying t=some (.slice e)→P.cellsOf e=0→jL B P M t cs
section
variable {H:Type} {enc:TypeId × Value→H} {P:Program} {base:Base} {w:World}
variable {bulk:DataW H→Nat} {B:Nat}
structure Yu (bulk:DataW H→Nat) : Prop where
 str:∀ bs:List UInt8,bs.length≤bulk (.lit (.string bs))
 len:∀ es sp:List (DataW H),es.length≤bulk (.slice es sp)
 elem:∀ (es sp:List (DataW H)) d,d∈es→bulk d≤bulk (.slice es sp)
 spare:∀ (es sp:List (DataW H)) d,d∈sp→bulk d≤bulk (.slice es sp)
 agg:∀ (ps:List (DataW H)) d,d∈ps→bulk d≤bulk (.agg ps)
end
section
variable {P:Program} {M:RM} {t:TypeId} {cs:List AV} {B:Nat}
def MO:AV→Prop
 | .slc _ _ n (.ex c)=>n≤c
 | .slc _ _ _ (.op e)=>e=1
 | _=>True
end
def IZ (B:Nat) (P:Program) (M:RM) (t:TypeId) (v:AV) : Prop :=
 match Aq P t with
 | true=>∃ cs,v=.agg cs∧jL B P M t cs
 | false=>jL B P M t [v]
theorem IZ.one {B:Nat} {P:Program} {M:RM} {t:TypeId} {v:AV} (h:IZ B P M t v) (ha:Aq P t=false) : jL B P M t [v]:=by
 unfold IZ at h; rw[ha] at h; exact h
section
variable {H:Type} {enc:TypeId × Value→H} {P:Program} {base:Base} {w:World} {bulk:DataW H→Nat} {B:Nat}
end
end Go.Ab
namespace Go.Ab.Hw
open Go Go.Ab Go.Ab.Sm
open Go.Ab.Vl (brk lZ iD dK dR eO CR)
abbrev Str:=List UInt8
structure Bs (M:RM) (v:AV) (b:Str) : Prop where
 sl:Sl BY M v b
 cap:MO v
theorem Bs.keep {M M' : RM} {v:AV} {b:Str} {bs:List Nat} (h:Bs M v b) (k:ae bs M M') (hb:∀ x∈aH v,x ∉ bs) : Bs M' v b:=⟨aG.keep h.sl k hb,h.cap⟩
theorem Bs.len {M:RM} {v:AV} {b:Str} (h:Bs M v b) {K:AV→Prop} : aT v K=K (N .i64 (b.length:Int)):=aG.len h.sl
theorem Bs.str {M:RM} {v:AV} {b:Str} (h:Bs M v b) {K:AV→Prop} : bQ M v K=K (St b):=Sl.str h.sl
theorem Re {M:RM} {base T n:Nat} {v:AV} {cs:List AV} (h:Own M base T 1 v cs n) : MO v:=by
 cases h with
 | nil=>trivial
 | ex0 b o _ _ _=>exact Nat.le_refl _
 | op b n cs _ _ _ _=>rfl
theorem Bs.own {M:RM} {base T:Nat} {v:AV} {b:Str} (h:Ow BY M base T v b) : Bs M v b:=⟨Own.kZ h,Re h⟩
theorem Es {M:RM} {b o n:Nat} {x:Str} (h:M.loads b o (n * 1)=some (BY.row x)) {l u:Nat} (h1:l≤u) (h2:u≤n) : M.loads b (o + l * 1) ((u - l) * 1)=some (BY.row ((x.drop l).take (u - l))):=by
 have:=uz h (l * 1) ((u - l) * 1) (by omega)
 rw[this]
 congr 1
 have e1:=BY.yA x l
 have e2:=BY.CO (x.drop l) (u - l)
 rw[show l * 1=l * BY.size from rfl,e1,show(u - l) * 1=(u - l) * BY.size from rfl,e2]
theorem Bs.sub {M:RM} {v:AV} {b:Str} (h:Bs M v b) {lo hi:Option AV} {l u:Nat} (e1:bnd 0 lo=some l) (e2:bnd b.length hi=some u) (h1:l≤u) (h2:u≤b.length) {K:AV→Prop}
  (hK:∀ v',Bs M v' ((b.drop l).take (u - l))→(∀ x∈aH v',x∈aH v)→K v') : bL (dz 1 v lo hi none) K:=by
 obtain⟨hs,hc⟩:=h
 have hlen:((b.drop l).take (u - l)).length=u - l:=by simp; omega
 have zero:u=l→∀ {w:AV},aG M 1 w [] 0→Sl BY M w ((b.drop l).take (u - l)):=by
  intro e w hw
  subst e
  rw[Nat.sub_self,List.take_zero]
  exact hw
 unfold Sl at hs
 generalize hn:b.length=n at *
 generalize hcs:BY.row b=cs at *
 cases hs with
 | nil =>
   have l0:l=0:=by omega
   have u0:u=0:=by omega
   subst l0 u0
   exact⟨aA,by simp only[dz,aA,e1,e2],hK _ ⟨zero rfl .nil,trivial⟩ (fun x hx=>hx)⟩
 | emp b0 =>
   have l0:l=0:=by omega
   have u0:u=0:=by omega
   subst l0 u0
   exact⟨.emp b0,by simp only[dz,e1,e2],hK _ ⟨zero rfl (.emp _),trivial⟩ (fun x hx=>hx)⟩
 | slc b0 o _ cap cs hb hl =>
   subst hcs
   have hl':=Es hl h1 h2
   have whole:∀ cap',MO (.slc b0 (o + l * 1) (u - l) cap')→(Bs M (.slc b0 (o + l * 1) (u - l) cap') ((b.drop l).take (u - l))):=fun cap' hcap=>⟨by
    unfold Sl; rw[hlen]; exact .slc _ _ _ _ _ hb hl',hcap⟩
   cases cap with
   | ex c =>
     have hcn:n≤c:=hc
     by_cases e:c=l
     ·subst e
      have hu:u=c:=by omega
      subst hu
      refine⟨.slc b0 o 0 (.ex 0),by simp only[dz,e1,e2]; rw[if_pos ⟨Nat.le_refl _,Nat.le_refl _⟩]; simp,hK _ ⟨zero rfl (.slc _ _ _ _ _ hb ?_),Nat.le_refl _⟩ (fun x hx=>hx)⟩
      have:=Es hl (Nat.le_refl 0) (Nat.zero_le n)
      simpa [BY,Enc.row] using this
     ·exact⟨_,by simp only[dz,e1,e2]; rw[if_pos ⟨h1,by omega⟩,if_neg e],hK _ (whole _ (by show u - l≤c - l; omega)) (fun x hx=>hx)⟩
   | op esz =>
     have he:esz=1:=hc
     subst he
     by_cases e:n≤l
     ·have hu:u=l:=by omega
      exact⟨.emp b0,by simp only[dz,e1,e2]; simp[h1,h2,e],hK _ ⟨zero hu (.emp _),trivial⟩ (fun x hx=>by simp[aH] at hx)⟩
     ·exact⟨_,by simp only[dz,e1,e2]; simp only[and_true]; rw[if_pos ⟨h1,h2⟩,if_neg e],hK _ (whole (.op 1) rfl) (fun x hx=>hx)⟩
theorem kw (d n:Nat) (k:IntKind) : bnd d (some (N k (n:Int)))=some n:=by simp[bnd]
theorem Aw (d:Nat) : bnd d none=some d:=rfl
def pre (p s:Str) : Bool:=decide (p.length≤s.length) && (s.take p.length == p)
def CL (c:ak) : Prop:=∀ {M:RM} {s p:Str} {Q:ah},Q (Bo (pre p s)) M→c [St s,St p] M Q
theorem GD:CL fun args M Q=>∃ a0 a1,args=[a0,a1]∧Vl.fH a0 a1 M Q:=by
 intro M s p Q hQ
 refine⟨_,_,rfl, ?_⟩
 unfold Go.Ab.Vl.fH
 simp only[bX,gY,dh]
 unfold pre at hQ
 by_cases h:p.length≤s.length
 ·have e:decide ((s.length:Int) ≥ (p.length:Int))=true:=by simp[h]
  rw[e]
  simp only[go_sem,if_true]
  rw[eO h]
  simpa only[go_sem,h,decide_true,Bool.true_and,if_true] using hQ
 ·have e:decide ((s.length:Int) ≥ (p.length:Int))=false:=by simp; omega
  rw[e]
  simpa [go_sem,h] using hQ
theorem Ph {ch:ak} (hh:CL ch) : CL fun args M Q=>∃ a0 a1,args=[a0,a1]∧Vl.oU ch a0 a1 M Q:=by
 intro M s p Q hQ
 exact⟨_,_,rfl,hh hQ⟩
def Ap (p s:Str) : AV:=if pre p s then .tup [St (s.drop p.length),Bo true] else .tup [St s,Bo false]
def rU (c:ak) : Prop:=∀ {M:RM} {s p:Str} {Q:ah},Q (Ap p s) M→c [St s,St p] M Q
theorem Cm {ch:ak} (hh:CL ch) : rU fun args M Q=>∃ a0 a1,args=[a0,a1]∧Vl.fI ch a0 a1 M Q:=by
 intro M s p Q hQ
 refine⟨_,_,rfl, ?_⟩
 unfold Go.Ab.Vl.fI
 refine hh ?_
 unfold Ap at hQ
 cases h:pre p s
 ·rw[h] at hQ; simpa [go_sem] using hQ
 ·rw[h] at hQ
  have hl:p.length≤s.length:=by unfold pre at h; simp at h; exact h.1
  simp only[bn,Bool.not_true,bq,gY]
  rw[dK hl]
  simpa [go_sem] using hQ
theorem J6 {ch:ak} (hh:rU ch) : rU fun args M Q=>∃ a0 a1,args=[a0,a1]∧Vl.kU ch a0 a1 M Q:=by
 intro M s p Q hQ
 refine⟨_,_,rfl, ?_⟩
 unfold Go.Ab.Vl.kU
 refine hh ?_
 unfold Ap at hQ ⊢
 cases h:pre p s <;> rw[h] at hQ <;> simpa [go_sem] using hQ
def wE (x:UInt8) (c:ak) : Prop:=∀ {M:RM} {s:List UInt8} {Q:ah},Q (N .i64 (Lib.indexByte s x)) M→c [St s,St [x]] M Q
theorem Cc {x:UInt8} {g:Nat} {ci xx c1 c2:ak} (hi:iD ci) : wE x fun args M Q=>∃ a0 a1,args=[a0,a1]∧dx ci g xx c1 c2 a0 a1 M Q:=by
 intro M s Q hQ
 refine⟨_,_,rfl, ?_⟩
 unfold dx
 rw[gY,bE,show((([x] : List UInt8).length:Int) == 0)=false from rfl]
 simp only[bX]
 by_cases h:[x]=s
 ·subst h
  have:Lib.indexByte [x] x=0:=by simp[Lib.indexByte]
  rw[this] at hQ
  simp only[go_sem,beq_self_eq_true]
  exact hQ
 ·have h' : (([x] : List UInt8) == s)=false:=by simp[h]
  simp only[go_sem,h']
  exact⟨fun _=>⟨by omega,x,rfl,hi hQ⟩,fun h=>absurd h (by decide)⟩
def fO (s:Str) (a b:Int) : Bool:=decide ((s.length:Int) ≥ a) && decide ((s.length:Int)≤b)
def rV (c:ak) : Prop:=∀ {M:RM} {s:Str} {a b:Int} {Q:ah},Q (Bo (fO s a b)) M→c [St s,N .i64 a,N .i64 b] M Q
theorem Kb:rV fun args M Q=>∃ a0 a1 a2,args=[a0,a1,a2]∧mr a0 a1 a2 M Q:=by
 intro M s a b Q hQ
 refine⟨_,_,_,rfl, ?_⟩
 unfold mr
 simp only[bX,gY,dh]
 refine kD (fun _ k hk=>?_) hQ
 simpa only[go_sem] using hk
theorem DL {T8:Nat} : vK fun args M Q=>∃ a0,args=[a0]∧nk T8 a0 M Q:=by
 intro M s Q hl hQ
 refine⟨_,rfl, ?_⟩
 unfold nk
 simp only[bX,aU,gD,lQ]
 have hk1:ae [] M (M.push (.row (BY.row s) true T8 0)):=(ae.refl _ _).push _
 have hr1:Rw BY (M.push (.row (BY.row s) true T8 0)) M.next true T8 s:=Rw.new M s
 generalize M.push (.row (BY.row s) true T8 0)=M1 at *
 refine di (fun m ys M3=>∃ i:Nat,m=s.length - i∧ys=[N .i64 i]∧i≤s.length∧Rw BY M3 M.next true T8 (upTo bJ i s)∧ae [] M M3) _
  ⟨0,rfl,rfl,Nat.zero_le _,by rw[Gc]; exact hr1,hk1⟩ ?_
 rintro next m ys M3 hnext ⟨i,rfl,rfl,hi,hR,hK⟩
 simp only[go_sem]
 refine⟨fun hlt=>?_,fun hge=>?_⟩
 ·have hlt:i<s.length:=by simpa using hlt
  have hlen:i<(upTo bJ i s).length:=by rw[CW]; exact hlt
  have hg:=Cz bJ hlt
  have hc:=hR.aj hlen
  have w1:=sU (show i<9223372036854775807 by omega)
  have hge:(upTo bJ i s)[i]=s[i]:=Option.some.inj ((List.getElem?_eq_getElem hlen).symm.trans hg)
  rw[hge] at hc
  refine⟨by omega,_,hc, ?_⟩
  have same:bJ s[i]=s[i]→next [N .i64 ((i + 1:Nat) : Int)] M3:=fun h=>by
   refine hnext _ _ _ (by omega) ⟨i + 1,rfl,rfl,by omega, ?_,hK⟩
   rw[Gg bJ hlt h]
   exact hR
  have cb:=Bg s[i]
  simp only[w1]
  by_cases h1:65≤s[i].toNat
  ·have e1:((s[i].toNat:Int) ≥ 65):=by omega
   by_cases h2:s[i].toNat≤90
   ·have e2:((s[i].toNat:Int)≤90):=by omega
    have hlow:bJ s[i]=s[i] + 32:=by rw[bJ,if_pos ⟨h1,h2⟩]
    have hn:(bJ s[i]).toNat=s[i].toNat + 32:=by
     rw[hlow,UInt8.toNat_add]
     show(s[i].toNat + 32) % 256=_
     omega
    have wv:N IntKind.u8 (IntKind.u8.wrap (IntKind.u8.wrap ((s[i].toNat:Int) + 97) - 65))=By (bJ s[i]):=by
     rw[By,hn]
     congr 1
     rw[show IntKind.u8.wrap ((s[i].toNat:Int) + 97)=(s[i].toNat:Int) + 97 from jl (by omega) (by omega)]
     rw[jl (by omega) (by omega)]; omega
    obtain⟨hs,hR'⟩:=hR.Hg hlen (bJ s[i])
    simp only[e1,e2,decide_true,go_sem]
    rw[Cy bJ hlt] at hs hR'
    refine⟨by omega,_,(congrArg (fun x=>M3.stores M.next i [x]) wv).trans hs, ?_⟩
    exact hnext _ _ _ (by omega) ⟨i + 1,rfl,rfl,by omega,hR',hK.put _ (.inl (Nat.le_refl _))⟩
   ·have e2:¬ ((s[i].toNat:Int)≤90):=by omega
    simp only[e1,e2,decide_true,decide_false,go_sem]
    exact same (by rw[bJ,if_neg (by omega)])
  ·have e1:¬ ((s[i].toNat:Int) ≥ 65):=by omega
   simp only[e1,decide_false,go_sem]
   exact same (by rw[bJ,if_neg (by omega)])
 ·have:i=s.length:=by simp at hge; omega
  subst this
  rw[I4] at hR
  have:=hR.sl (cap:=.op 1)
  rw[List.length_map] at this
  rw[Sl.str this]
  exact hQ M3 hK
end Go.Ab.Hw
