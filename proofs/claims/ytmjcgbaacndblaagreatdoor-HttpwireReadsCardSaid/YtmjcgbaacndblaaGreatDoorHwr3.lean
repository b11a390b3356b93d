/- Part 3 of the ground of the proofs of this seat (texts R9 to R25). By an AI agent. -/
import Derived.Test.YtmjcgbaacndblaaGreatDoorHwr2
import Derived.Scope
import Derived.ChangeShapes
import Derived.OpenShut
import Derived.WideKeyArgs
import GoSem.ClaimJoined
import Derived.Lib.Bytealg
import Derived.Lib.DecodeN
import Derived.Lib.ValidU
import Derived.Lib.ValidLaws
import Derived.Carry
import Derived.JoinedCond
import Derived.SizedLaws
import GoSem.Extern.Atomic
import GoSem.Extern.MapsClone
set_option linter.unusedVariables false
set_option linter.unusedSimpArgs false
namespace Go.Ab
open Go Go.RowKit
def IV:Option Tmp→Nat
 | some d=>2 ^ d
 | none=>0
def NN:Operand→Nat
 | .tmp t=>2 ^ t
 | _=>0
def Oc:List Operand→Nat
 | []=>0
 | x :: xs=>NN x ||| Oc xs
def O0 (L m:Nat) : Nat:=L ^^^ (L &&& m)
def D6:List Oper→Nat
 | []=>0
 | o :: os=>IV o.dst ||| D6 os
def fF:Nat→Code→Nat
 | 0,_=>0
 | f + 1,c=>match c with
   | .region _ ops _=>D6 ops.toList
   | .seq a b=>fF f a ||| fF f b
   | .cond _ a b=>fF f a ||| fF f b
   | .block _ c=>fF f c
   | .loop c=>fF f c
   | .scope c=>fF f c
   | _=>0
def Kc:List Oper→Nat→Nat
 | [],L=>L
 | o :: os,L=>O0 (Kc os L) (IV o.dst) ||| Oc o.op.operands.toList
def N8:List (Nat × Nat)→Nat→Nat
 | [],_=>0
 | (i,L) :: r,id=>match Nat.beq i id with
   | true=>L
   | false=>N8 r id
def fQ (ret:Nat) : Nat→List (Nat × Nat)→Code→Nat→Nat
 | 0,_,_,_=>0
 | f + 1,env,c,L=>match c with
   | .skip=>L
   | .region _ ops _=>Kc ops.toList L
   | .seq a b=>fQ ret f env a (fQ ret f env b L)
   | .cond c a b=>NN c ||| fQ ret f env a L ||| fQ ret f env b L
   | .block id c=>fQ ret f ((id,L) :: env) c L
   | .loop c=>fQ ret f env c (fQ ret f env c 0)
   | .exit id=>N8 env id
   | .ret=>ret
   | .scope c=>fQ ret f env c L
   | .label _=>L
   | _=>0
def cap2 (n:Nat) : Nat:=match n with | 0=>0 | 1=>1 | _=>2
def pz (id:Nat) : Nat→Code→Nat
 | 0,_=>2
 | f + 1,c=>match c with
   | .seq a b=>cap2 (pz id f a + pz id f b)
   | .cond _ a b=>cap2 (pz id f a + pz id f b)
   | .block _ c=>pz id f c
   | .loop c=>pz id f c
   | .exit i=>match Nat.beq i id with | true=>1 | false=>0
   | _=>0
def sS:Nat→Code→Nat
 | 0,_=>2
 | f + 1,c=>match c with
   | .skip=>1
   | .region _ _ _=>1
   | .seq a b=>cap2 (sS f a * sS f b)
   | .cond _ a b=>cap2 (sS f a + sS f b)
   | .block id c=>cap2 (sS f c + pz id f c)
   | .scope c=>sS f c
   | .label _=>1
   | _=>0
def vO (m:Nat) : Nat→Nat→List Nat
 | _,0=>[]
 | i,n + 1=>match Nat.testBit m i with
   | true=>i :: vO m (i + 1) n
   | false=>vO m (i + 1) n
def bitsOf (m nt:Nat) : List Nat:=vO m 0 nt
def uV (T:Tree AV) : List Nat→List AV
 | []=>[]
 | t :: ts=>(T.get t).getD .top :: uV T ts
def ag:List AV→Nat→AV
 | [],_=>.top
 | x :: _,0=>x
 | _ :: xs,n + 1=>ag xs n
def wN (T:Tree AV) : List Nat→Tree AV
 | []=>T
 | t :: ts=>wN (T.set t .top) ts
def IY (T:Tree AV) (xs:List AV) : Nat→List Nat→Tree AV
 | _,[]=>T
 | i,t :: ts=>IY (T.set t (ag xs i)) xs (i + 1) ts
def xY (T:Tree AV) (asg vs:List Nat) (xs:List AV) : Tree AV:=IY (wN T asg) xs 0 vs
def aj (x:AV) (p q:Prop) : Prop :=
 match x with
 | .sc (.bool b)=>(b=true→p)∧(b=false→q)
 | _=>False
def eG (f:(List AV→RM→Prop)→Prop) (g:List AV→RM→Prop) : Prop:=f g
def cZ (body:(List AV→RM→Prop)→List AV→RM→Prop) (xs:List AV) (M:RM) : Prop :=
 ∃ (I:Nat→List AV→RM→Prop) (n:Nat),I n xs M∧∀ m ys M',I m ys M'→body (fun zs M''=>∃ m',m'<m∧I m' zs M'') ys M'
abbrev K3:=Ex→Tree AV→RM→Prop
def wpC (P:Program) (nt ret:Nat) : Nat→Code→List (Nat × Nat)→Nat→Tree AV→RM→K3→Prop
 | 0,_,_,_,_,_,_=>False
 | f + 1,c,env,L,T,M,K=>match c with
   | .skip=>K .normal T M
   | .region _ ops false=>EH P nt ops ops.toList T M (fun T' M'=>K .normal T' M')
   | .region _ ops true=>La P nt ops T M (fun T' M'=>K .normal T' M')
   | .seq a b=>match Nat.ble (sS f a) 1 with
     | true=>wpC P nt ret f a env (fQ ret f env b L) T M (fun e T' M'=>match e with
       | .normal=>wpC P nt ret f b env L T' M' K
       | e=>K e T' M')
     | false=>eG (fun J=>wpC P nt ret f a env (fQ ret f env b L) T M (fun e T' M'=>match e with
       | .normal=>J (uV T' (bitsOf (fF f a &&& fQ ret f env b L) nt)) M'
       | e=>K e T' M'))
       (fun xs M'=>wpC P nt ret f b env L (xY T (bitsOf (fF f a) nt) (bitsOf (fF f a &&& fQ ret f env b L) nt) xs) M' K)
   | .cond c a b=>aj (rE T c) (wpC P nt ret f a env L T M K) (wpC P nt ret f b env L T M K)
   | .block id c=>wpC P nt ret f c ((id,L) :: env) L T M (fun e T' M'=>match e with
     | .exit i=>match Nat.beq i id with
       | true=>K .normal T' M'
       | false=>K (.exit i) T' M'
     | e=>K e T' M')
   | .loop c=>cZ (fun next xs M'=>wpC P nt ret f c env (fQ ret f env c (fQ ret f env c 0)) (xY T (bitsOf (fF f c) nt) (bitsOf (fF f c &&& fQ ret f env c (fQ ret f env c 0)) nt) xs) M'
     (fun e T' M'=>match e with
      | .normal=>next (uV T' (bitsOf (fF f c &&& fQ ret f env c (fQ ret f env c 0)) nt)) M'
      | e=>K e T' M'))
     (uV T (bitsOf (fF f c &&& fQ ret f env c (fQ ret f env c 0)) nt)) M
   | .exit id=>K (.exit id) T M
   | .ret=>K .ret T M
   | .scope c=>wpC P nt ret f c env L T M K
   | .label _=>K .normal T M
   | _=>False
def P5 (P:Program) (T:Tree AV) (M:RM) (r:ResultVar) (K:AV→Prop) : Prop :=
 match r with
 | .tmp t=>K ((T.get t).getD .top)
 | .cell a t=>match dB P t with
   | some false=>ax M ((T.get a).getD .top) K
   | some true=>match aT P t with
     | some n=>aL M ((T.get a).getD .top) n K
     | none=>False
   | none=>False
def OX (P:Program) (T:Tree AV) (M:RM) : List ResultVar→(List AV→Prop)→Prop
 | [],K=>K []
 | r :: rs,K=>P5 P T M r (fun v=>OX P T M rs (fun vs=>K (v :: vs)))
def SI (Q:ai) (M:RM) : List AV→Prop
 | [v]=>Q v M
 | vs=>Q (.tup vs) M
def ED:List ResultVar→Nat
 | []=>0
 | .tmp t :: rs=>2 ^ t ||| ED rs
 | .cell a _ :: rs=>2 ^ a ||| ED rs
def Ol (P:Program) (fn:Func) (c:Code) (args:List AV) (M:RM) (Q:ai) : Prop :=
 wpC P (args.length + (fn.ntmps - args.length)) (ED fn.results.toList) 1000 c [] 0 (Tree.ofList args 0 .leaf) M
  (fun e T M'=>match e with
   | .exit _=>False
   | _=>OX P T M' fn.results.toList (SI Q M'))
section
variable {P:Program} {nt ret:Nat}
def Lt (P:Program) (nt:Nat) (M0:RM) (ρ0:Ren) (w0:World) (T:Tree AV) (asg:Nat) (K:K3) (e:Exit) (a:Act) (w:World) : Prop :=
 ∃ x T' M' ρ',e=OY x∧After P M0 ρ0 w0 M' ρ' w∧gK ρ' nt T' a∧(∀ t,Nat.testBit asg t=false→T'.get t=T.get t)∧K x T' M'
theorem Jb {T:Tree AV} : ∀ (vs:List Nat) (i:Nat),ag (uV T vs) i=match vs[i]? with | some t=>(T.get t).getD .top | none=>.top
 | [],i=>by simp[uV,ag]
 | t :: vs,0=>by simp[uV,ag]
 | t :: vs,i + 1=>by simp[uV,ag,Jb vs i]
theorem zD:∀ (asg:List Nat) (T:Tree AV) (t:Nat),(wN T asg).get t=if t∈asg then some .top else T.get t
 | [],T,t=>by simp[wN]
 | d :: asg,T,t=>by
   simp only[wN,zD asg,Tree.bH,List.mem_cons]
   by_cases h1:t∈asg
   ·simp[h1]
   ·by_cases h2:t=d <;> simp[h1,h2]
theorem BL:∀ (vs:List Nat) (T:Tree AV) (xs:List AV) (i t:Nat),(t ∉ vs∧(IY T xs i vs).get t=T.get t)∨∃ j,vs[j]?=some t∧(IY T xs i vs).get t=some (ag xs (i + j))
 | [],T,xs,i,t=>.inl ⟨by simp,rfl⟩
 | d :: vs,T,xs,i,t=>by
   simp only[IY]
   rcases BL vs (T.set d (ag xs i)) xs (i + 1) t with⟨h1,h2⟩ | ⟨j,h1,h2⟩
   ·rw[Tree.bH] at h2
    by_cases e:t=d
    ·rw[if_pos e] at h2
     exact .inr ⟨0,by simp[e],h2⟩
    ·rw[if_neg e] at h2
     exact .inl ⟨by simp[e,h1],h2⟩
   ·exact .inr ⟨j + 1,by simpa using h1,by rw[h2]; congr 2; omega⟩
theorem xO {m:Nat} : ∀ (n i t:Nat),t∈vO m i n↔i≤t∧t<i + n∧Nat.testBit m t=true
 | 0,i,t=>by simp[vO]; omega
 | n + 1,i,t=>by
   simp only[vO]
   split
   ·rename_i h
    rw[List.mem_cons,xO n (i + 1) t]
    constructor
    ·rintro(rfl | ⟨a,b,c⟩)
     ·exact⟨Nat.le_refl _,by omega,h⟩
     ·exact⟨by omega,by omega,c⟩
    ·rintro⟨a,b,c⟩
     by_cases e:t=i
     ·exact .inl e
     ·exact .inr ⟨by omega,by omega,c⟩
   ·rename_i h
    rw[xO n (i + 1) t]
    constructor
    ·rintro⟨a,b,c⟩; exact⟨by omega,by omega,c⟩
    ·rintro⟨a,b,c⟩
     have:t≠i:=fun e=>by subst e; rw[h] at c; cases c
     exact⟨by omega,by omega,c⟩
theorem q9 {m n t:Nat} : t∈bitsOf m n↔t<n∧Nat.testBit m t=true:=by
 unfold bitsOf; rw[xO]; simp
theorem zY {ρ:Ren} {T T' : Tree AV} {a:Act} {asg:Nat} {vs:List Nat} (h:gK ρ nt T' a) (hge:∀ t,nt≤t→ah ρ ((T.get t).getD .top) undef) (hk:∀ t,Nat.testBit asg t=false→T'.get t=T.get t) : gK ρ nt (xY T (bitsOf asg nt) vs (uV T' vs)) a:=by
 refine⟨h.size,fun t=>?_,h.defers⟩
 unfold xY
 rcases BL vs (wN T (bitsOf asg nt)) (uV T' vs) 0 t with⟨_,h2⟩ | ⟨j,h1,h2⟩
 ·rw[h2,zD]
  split
  ·exact .top _
  ·rename_i hm
   by_cases hb:Nat.testBit asg t=true
   ·have hge' : nt≤t:=by
     rcases Nat.lt_or_ge t nt with hlt | hge
     ·exact absurd (q9.2 ⟨hlt,hb⟩) hm
     ·exact hge
    have hv:a.tmps.getD t undef=undef:=by
     rw[Array.getD_eq_getD_getElem?,Array.getElem?_eq_none (by rw[h.size]; exact hge')]; rfl
    rw[hv]; exact hge t hge'
   ·rw[← hk t (by simpa using hb)]
    exact h.val t
 ·rw[h2,Nat.zero_add,Jb,h1]
  exact h.val t
theorem Dw {T:Tree AV} {asg:Nat} {vs:List Nat} {xs:List AV} (hvs:∀ t∈vs,Nat.testBit asg t=true) (t:Nat) (h:Nat.testBit asg t=false) : (xY T (bitsOf asg nt) vs xs).get t=T.get t:=by
 unfold xY
 rcases BL vs (wN T (bitsOf asg nt)) xs 0 t with⟨_,h2⟩ | ⟨j,h1,h2⟩
 ·rw[h2,zD,if_neg]
  intro hm
  rw[(q9.1 hm).2] at h; cases h
 ·have:=hvs t (List.mem_of_getElem? h1)
  rw[h] at this; cases this
theorem gK.ge {ρ:Ren} {T:Tree AV} {a:Act} (h:gK ρ nt T a) : ∀ t,nt≤t→ah ρ ((T.get t).getD .top) undef:=by
 intro t ht
 have:=h.val t
 rw[Array.getD_eq_getD_getElem?,Array.getElem?_eq_none (by rw[h.size]; exact ht)] at this
 exact this
theorem BB {c:Code} {Q:Exit→Act→World→Prop} : ∀ {n m:Nat} {a:Act} {w:World},n≤m→Code.rounds P c Q n a w→Code.rounds P c Q m a w
 | 0,_,_,_,_,h=>h.elim
 | n + 1,m + 1,a,w,hle,h=>by
   rw[rounds_succ] at h ⊢
   refine wp_mono h fun e a' w' hp=>?_
   cases e with
   | normal=>exact BB (Nat.le_of_succ_le_succ hle) hp
   | exit id=>exact hp
   | ret=>exact hp
   | goto l=>exact hp
   | panic c=>exact hp
   | outgrown=>exact hp
theorem xU {t:Nat} : ∀ (l:List Oper),Nat.testBit (D6 l) t=false→∀ o∈l,o.dst≠some t
 | [],_,o,ho=>by cases ho
 | x :: l,h,o,ho=>by
   simp only[D6,Nat.testBit_or,Bool.or_eq_false_iff] at h
   rcases List.mem_cons.1 ho with rfl | ho
   ·intro e
    rw[e] at h
    simp[IV,Nat.testBit_two_pow] at h
   ·exact xU l h.2 o ho
theorem OG {ρ:Ren} {x:AV} {u:Value} {p q:Prop} (h:aj x p q) (hx:ah ρ x u) : ∃ b,u=.bool b∧(b=true→p)∧(b=false→q):=by
 unfold aj at h
 split at h <;> first | (cases h; done) | skip
 rename_i b
 exact⟨b,(aI hx).1,h.1,h.2⟩
theorem N9 (hP:Al P) : ∀ (f:Nat) (c:Code) (env:List (Nat × Nat)) (L:Nat) (T:Tree AV) (M:RM) (K:K3),wpC P nt ret f c env L T M K →
  ∀ (M0:RM) (ρ0:Ren) (w0:World) (ρ:Ren) (a:Act) (w:World),After P M0 ρ0 w0 M ρ w→gK ρ nt T a→c.wp P (Lt P nt M0 ρ0 w0 T (fF f c) K) a w:=by
 intro f
 induction f with
 | zero=>intro c env L T M K h; exact h.elim
 | succ f ih =>
   intro c env L T M K h M0 ρ0 w0 ρ a w hM hA
   cases c with
   | skip=>exact wp_skip ⟨.normal,T,M,ρ,rfl,hM,hA,fun _ _=>rfl,h⟩
   | region id ops d =>
     cases d with
     | false =>
       refine wp_region ?_
       have:=wT (nt:=nt) hP (ops:=ops) (Q:=Lt P nt M0 ρ0 w0 T (fF (f + 1) (.region id ops false)) K) (K:=fun T' M'=>K .normal T' M') (M0:=M0) (ρ0:=ρ0) (w0:=w0) (T0:=T)
        (fun T' M' ρ' a' w' k1 k2 k3 k4=>⟨.normal,T',M',ρ',rfl,k1,k2,fun t ht=>k4 t (xU _ ht),k3⟩) ops.toList 0 (by simp) hA hM (fun _ _=>rfl) h
       rw[Array.length_toList,← List.range_eq_range'] at this
       exact this
     | true =>
       exact JS (nt:=nt) (T:=T) hP hM hA (fun T' M' ρ' a' w' k1 k2 k3 k4=>⟨.normal,T',M',ρ',rfl,k1,k2,fun t ht=>k4 t (xU _ ht),k3⟩) h
   | seq c1 c2 =>
     simp only[wpC] at h
     refine wp_seq ?_
     split at h
     ·refine wp_mono (ih c1 _ _ _ _ _ h M0 ρ0 w0 ρ a w hM hA) fun e a' w' hp=>?_
      obtain⟨x,T1,M1,ρ1,rfl,k1,k2,k3,k4⟩:=hp
      cases x with
      | normal =>
        refine wp_mono (ih c2 _ _ _ _ _ k4 M0 ρ0 w0 ρ1 a' w' k1 k2) fun e a2 w2 hp=>?_
        obtain⟨x,T2,M2,ρ2,he,q1,q2,q3,q4⟩:=hp
        exact⟨x,T2,M2,ρ2,he,q1,q2,fun t ht=>by
         simp only[fF,Nat.testBit_or,Bool.or_eq_false_iff] at ht
         rw[q3 t ht.2,k3 t ht.1],q4⟩
      | exit i=>exact⟨.exit i,T1,M1,ρ1,rfl,k1,k2,fun t ht=>by
        simp only[fF,Nat.testBit_or,Bool.or_eq_false_iff] at ht
        exact k3 t ht.1,k4⟩
      | ret=>exact⟨.ret,T1,M1,ρ1,rfl,k1,k2,fun t ht=>by
        simp only[fF,Nat.testBit_or,Bool.or_eq_false_iff] at ht
        exact k3 t ht.1,k4⟩
     ·unfold eG at h
      refine wp_mono (ih c1 _ _ _ _ _ h M0 ρ0 w0 ρ a w hM hA) fun e a' w' hp=>?_
      obtain⟨x,T1,M1,ρ1,rfl,k1,k2,k3,k4⟩:=hp
      have hge:∀ t,nt≤t→ah ρ1 ((T.get t).getD .top) undef:=fun t ht=>by
       have h1:=k2.ge t ht
       by_cases hb:Nat.testBit (fF f c1) t=false
       ·rw[k3 t hb] at h1; exact h1
       ·have h0:=hA.ge t ht
        have hu:∀ (ρ ρ' : Ren) (x:AV),ah ρ x undef→ah ρ' x undef:=by
         intro ρ ρ' x hx
         unfold undef at hx ⊢
         cases hx with
         | top=>exact .top _
         | sc v p=>exact .sc _ p
         | tup xs vs a=>cases a; exact .tup _ _ .nil
        exact hu _ _ _ h0
      cases x with
      | normal =>
        refine wp_mono (ih c2 _ _ _ _ _ k4 M0 ρ0 w0 ρ1 a' w' k1 (zY k2 hge k3)) fun e a2 w2 hp=>?_
        obtain⟨x,T2,M2,ρ2,he,q1,q2,q3,q4⟩:=hp
        refine⟨x,T2,M2,ρ2,he,q1,q2,fun t ht=>?_,q4⟩
        simp only[fF,Nat.testBit_or,Bool.or_eq_false_iff] at ht
        rw[q3 t ht.2]
        refine Dw (fun t' ht'=>?_) t ht.1
        have:=(q9.1 ht').2
        rw[Nat.testBit_and,Bool.and_eq_true] at this
        exact this.1
      | exit i=>exact⟨.exit i,T1,M1,ρ1,rfl,k1,k2,fun t ht=>by
        simp only[fF,Nat.testBit_or,Bool.or_eq_false_iff] at ht
        exact k3 t ht.1,k4⟩
      | ret=>exact⟨.ret,T1,M1,ρ1,rfl,k1,k2,fun t ht=>by
        simp only[fF,Nat.testBit_or,Bool.or_eq_false_iff] at ht
        exact k3 t ht.1,k4⟩
   | cond cnd c1 c2 =>
     simp only[wpC] at h
     obtain⟨b,hb,h1,h2⟩:=OG h (F3 hA cnd)
     cases b with
     | true =>
       refine wp_cond_true hb (wp_mono (ih c1 _ _ _ _ _ (h1 rfl) M0 ρ0 w0 ρ a w hM hA) fun e a' w' hp=>?_)
       obtain⟨x,T1,M1,ρ1,he,k1,k2,k3,k4⟩:=hp
       exact⟨x,T1,M1,ρ1,he,k1,k2,fun t ht=>by
         simp only[fF,Nat.testBit_or,Bool.or_eq_false_iff] at ht
         exact k3 t ht.1,k4⟩
     | false =>
       refine wp_cond_false hb (wp_mono (ih c2 _ _ _ _ _ (h2 rfl) M0 ρ0 w0 ρ a w hM hA) fun e a' w' hp=>?_)
       obtain⟨x,T1,M1,ρ1,he,k1,k2,k3,k4⟩:=hp
       exact⟨x,T1,M1,ρ1,he,k1,k2,fun t ht=>by
         simp only[fF,Nat.testBit_or,Bool.or_eq_false_iff] at ht
         exact k3 t ht.2,k4⟩
   | block id c1 =>
     simp only[wpC] at h
     refine wp_block (wp_mono (ih c1 _ _ _ _ _ h M0 ρ0 w0 ρ a w hM hA) fun e a' w' hp=>?_)
     obtain⟨x,T1,M1,ρ1,rfl,k1,k2,k3,k4⟩:=hp
     cases x with
     | normal=>exact⟨.normal,T1,M1,ρ1,rfl,k1,k2,k3,k4⟩
     | ret=>exact⟨.ret,T1,M1,ρ1,rfl,k1,k2,k3,k4⟩
     | exit i =>
       simp only at k4
       split at k4
       ·rename_i he
        have he:=dx he
        subst he
        simp only[OY,Exit.inBlock,if_true]
        exact⟨.normal,T1,M1,ρ1,rfl,k1,k2,k3,k4⟩
       ·rename_i he
        have he:=CQ he
        simp only[OY,Exit.inBlock,if_neg he]
        exact⟨.exit i,T1,M1,ρ1,rfl,k1,k2,k3,k4⟩
   | loop c1 =>
     simp only[wpC] at h
     obtain⟨I,n,hI,hbody⟩:=h
     have hvs:∀ t∈bitsOf (fF f c1 &&& fQ ret f env c1 (fQ ret f env c1 0)) nt,Nat.testBit (fF f c1) t=true:=fun t' ht'=>by
      have:=(q9.1 ht').2
      rw[Nat.testBit_and,Bool.and_eq_true] at this
      exact this.1
     generalize hv:bitsOf (fF f c1 &&& fQ ret f env c1 (fQ ret f env c1 0)) nt=vs at hI hbody hvs
     have hu:∀ (ρ ρ' : Ren) (x:AV),ah ρ x undef→ah ρ' x undef:=by
      intro ρ ρ' x hx
      unfold undef at hx ⊢
      cases hx with
      | top=>exact .top _
      | sc v p=>exact .sc _ p
      | tup xs vs a=>cases a; exact .tup _ _ .nil
     have hge:∀ (ρ1:Ren) t,nt≤t→ah ρ1 ((T.get t).getD .top) undef:=fun ρ1 t ht=>hu _ _ _ (hA.ge t ht)
     have key:∀ (m:Nat) (ys:List AV) (M1:RM) (ρ1:Ren) (a1:Act) (w1:World),I m ys M1→After P M0 ρ0 w0 M1 ρ1 w1→gK ρ1 nt (xY T (bitsOf (fF f c1) nt) vs ys) a1 →
       Code.rounds P c1 (Lt P nt M0 ρ0 w0 T (fF (f + 1) (.loop c1)) K) (m + 1) a1 w1:=by
      intro m
      induction m using Nat.strongRecOn with
      | _ m ihm =>
        intro ys M1 ρ1 a1 w1 hIm hM1 hA1
        rw[rounds_succ]
        refine wp_mono (ih c1 _ _ _ _ _ (hbody m ys M1 hIm) M0 ρ0 w0 ρ1 a1 w1 hM1 hA1) fun e a' w' hp=>?_
        obtain⟨x,T2,M2,ρ2,rfl,k1,k2,k3,k4⟩:=hp
        have k3' : ∀ t,Nat.testBit (fF f c1) t=false→T2.get t=T.get t:=fun t ht=>by rw[k3 t ht]; exact Dw hvs t ht
        cases x with
        | normal =>
          obtain⟨m',hlt,hI'⟩:=k4
          exact BB (by omega) (ihm m' hlt _ M2 ρ2 a' w' hI' k1 (zY k2 (hge ρ2) k3'))
        | exit i=>exact⟨.exit i,T2,M2,ρ2,rfl,k1,k2,k3',k4⟩
        | ret=>exact⟨.ret,T2,M2,ρ2,rfl,k1,k2,k3',k4⟩
     exact wp_loop_rounds _ (key n _ M ρ a w hI hM (zY hA (hge ρ) fun _ _=>rfl))
   | exit id=>exact wp_exit ⟨.exit id,T,M,ρ,rfl,hM,hA,fun _ _=>rfl,h⟩
   | ret=>exact wp_ret ⟨.ret,T,M,ρ,rfl,hM,hA,fun _ _=>rfl,h⟩
   | rangeFunc=>simp[wpC] at h
   | scope c1 =>
     simp only[wpC] at h
     refine wp_scope_straight (wp_mono (ih c1 _ _ _ _ _ h M0 ρ0 w0 ρ a w hM hA) fun e a' w' hp=>?_)
     obtain⟨x,T1,M1,ρ1,rfl,k1,k2,k3,k4⟩:=hp
     cases x with
     | normal=>exact⟨.normal,T1,M1,ρ1,rfl,k1,k2,k3,k4⟩
     | exit i=>exact⟨.exit i,T1,M1,ρ1,rfl,k1,k2,k3,k4⟩
     | ret=>exact⟨.ret,T1,M1,ρ1,rfl,k1,k2,k3,k4⟩
   | label l=>exact wp_label ⟨.normal,T,M,ρ,rfl,hM,hA,fun _ _=>rfl,h⟩
   | goto=>simp[wpC] at h
   | refuse=>simp[wpC] at h
theorem Mj {ρ:Ren} {T:Tree AV} {M:RM} {a:Act} {w:World} (hA:gK ρ nt T a) (hw:bY P ρ M w) {r:ResultVar} {K:AV→Prop} (h:P5 P T M r K) :
  ∃ v v',(Az a.tmps r).run P w=.ok v' w∧ah ρ v v'∧K v:=by
 cases r with
 | tmp t=>exact⟨_,_,rfl,hA.val t,h⟩
 | cell x t =>
   simp only[P5] at h
   have hv:=hA.val x
   split at h <;> first | (cases h; done) | skip
   ·rename_i ha
    obtain⟨b,p,v,hx,hl,hk⟩:=h
    rw[hx] at hv
    obtain⟨i,hb,hc⟩:=dH hv
    obtain⟨u,hu,hcell⟩:=Af hw hb hl
    refine⟨v,u, ?_,hu,hk⟩
    simp only[Az,hc,asAddr,Sem.run_bind,Sem.run_pure,Result.andThen_ok,loadVar,gV ha,Bool.false_eq_true,if_false,load,Sem.run,hcell]
   ·rename_i ha
    split at h <;> first | (cases h; done) | skip
    rename_i n hs
    obtain⟨b,p,xs,hx,hl,hk⟩:=h
    rw[hx] at hv
    obtain⟨i,hb,hc⟩:=dH hv
    obtain⟨vs,hr,hlen,_,hrun⟩:=RM.jV (P:=P) hw hb hl
    exact⟨.agg xs,.agg ⟨vs⟩,by simp only[Az,hc,asAddr,Sem.run_bind,Sem.run_pure,Result.andThen_ok,loadVar,gV ha,if_true,cB hs,hrun],.agg _ _ hr,hk⟩
theorem yC {ρ:Ren} {T:Tree AV} {M:RM} {a:Act} {w:World} (hA:gK ρ nt T a) (hw:bY P ρ M w) : ∀ (rs:List ResultVar) (K:List AV→Prop),OX P T M rs K →
  ∃ vs us,(rs.mapM (Az a.tmps)).run P w=.ok us w∧aO ρ vs us∧K vs
 | [],K,h=>⟨[],[],by simp,.nil,h⟩
 | r :: rs,K,h=>by
   obtain⟨v,v',h1,h2,h3⟩:=Mj hA hw h
   obtain⟨vs,us,h4,h5,h6⟩:=yC hA hw rs _ h3
   refine⟨v :: vs,v' :: us, ?_,.cons _ _ _ _ h2 h5,h6⟩
   simp only[List.mapM_cons,Sem.run_bind,h1,Result.andThen_ok,h4,Sem.run_pure]
theorem EF (hP:Al P) {f:FuncId} {fn:Func} {c:Code} {args:List AV} {M:RM} {Q:ai} (hfn:P.funcs[f]?=some fn) (hbody:fn.body=some c) (h:Ol P fn c args M Q) : eZ P f args M Q:=by
 refine⟨⟨fn,c,hfn,hbody⟩,fun ρ w us hargs hw=>?_⟩
 have hlen:=hargs.length
 have hA:gK ρ (args.length + (fn.ntmps - args.length)) (Tree.ofList args 0 .leaf) { tmps:=⟨us⟩++Array.replicate (fn.ntmps - (⟨us⟩ : Array Value).size) undef,defers:=[] } := by
  refine⟨by simp[hlen],fun t=>?_,rfl⟩
  rw[Tree.qQ]
  by_cases ht:t<args.length
  ·rw[if_pos (by omega),Nat.sub_zero]
   obtain⟨u,hu,hv⟩:=hargs.get (n:=t) (x:=args[t]) (by simp[ht])
   rw[List.getElem?_eq_getElem ht]
   simp only[Option.getD_some]
   have:((⟨us⟩ : Array Value)++Array.replicate (fn.ntmps - (⟨us⟩ : Array Value).size) undef).getD t undef=u:=by
    rw[Array.getD_eq_getD_getElem?,Array.getElem?_append_left (by simp; omega)]
    simp[hu]
   rw[this]; exact hv
  ·rw[if_neg (by omega)]
   exact .top _
 refine calls_of_wp hfn hbody (wp_mono (N9 hP 1000 c [] 0 _ M _ h M ρ w ρ _ w (After.refl hw) hA) fun e a w' hp=>?_)
 obtain⟨x,T',M',ρ',rfl,k1,k2,k3,k4⟩:=hp
 have key:(∃ vs us,(fn.results.toList.mapM (Az a.tmps)).run P w'=.ok us w'∧aO ρ' vs us∧SI Q M' vs) →
   a.defers=[]∧∃ v,(results fn a.tmps).run P w'=.ok v w'∧∃ v' v_1 SC S9,Ending.returned v=.returned v'∧After P M ρ w SC S9 w'∧ah S9 v_1 v'∧Q v_1 SC:=by
  rintro⟨vs,us,h1,h2,h3⟩
  have hres:(results fn a.tmps).run P w'=.ok (if h:(⟨us⟩ : Array Value).size=1 then(⟨us⟩ : Array Value)[0] else .tuple ⟨us⟩) w':=by
   have e:results fn a.tmps=(fn.results.mapM (Az a.tmps) >>= fun vs=>pure (if h:vs.size=1 then vs[0] else .tuple vs)):=rfl
   rw[e,Array.mapM_eq_mapM_toList]
   simp only[Sem.run_bind,Sem.run_map,h1,Result.andThen_ok,Sem.run_pure]
  refine⟨k2.defers,_,hres, ?_⟩
  cases h2 with
  | nil=>exact⟨_,_,M',ρ',rfl,k1,.tup _ _ .nil,h3⟩
  | cons x v xs vs2 hv htl =>
    cases htl with
    | nil=>exact⟨_,x,M',ρ',rfl,k1,hv,h3⟩
    | cons y u ys us2 hu VV=>exact⟨_,_,M',ρ',rfl,k1,.tup _ _ (.cons _ _ _ _ hv (.cons _ _ _ _ hu VV)),h3⟩
 cases x with
 | normal=>exact key (yC k2 k1.rel _ _ k4)
 | ret=>exact key (yC k2 k1.rel _ _ k4)
 | exit id=>exact k4.elim
abbrev ak:=List AV→RM→ai→Prop
def E8 (P:Program) (fn:Func) (args:List AV) (M:RM) (Q:ai) : Prop :=
 match fn.body with
 | some c=>Ol P fn c args M Q
 | none=>False
theorem NQ (hP:Al P) {f:FuncId} {fn:Func} {args:List AV} {M:RM} {Q:ai} (hfn:P.funcs[f]?=some fn) (h:E8 P fn args M Q) : eZ P f args M Q:=by
 unfold E8 at h
 split at h
 ·rename_i c hc; exact EF hP hfn hc h
 ·cases h
end
end Go.Ab
set_option maxRecDepth 100000
namespace Go.Ab.Hw
open Go Go.Ab
def nD (p1:ak) (p2:Nat) (p3:ak) (p4:Nat) (p5:ak) (p6:Nat) (p7:ak) (p8:Nat) (p9 p10 p11:ak) (a0:AV) (M0:RM) (Q:ai) : Prop:=p1 [] M0 fun wg i=>fw wg fun wh=>aj wh ( Q (Bo false) i) ( bi a0 fun wi=>ae .gtr wi (N .i64 40000) fun wj=>aj wj ( Q (Bo true) i) ( dR i a0 fun wk=>ji p2 wk fun wb vq=>bf wb vq i fun wl X=>dX p2 1 [(N .u8 0)] [(0,1,(N .u8 9))] fun wc vr=>bf wc vr X fun wm ve=>appW p2 1 1 [(N .u8 0)] false wl wm ve fun h vg=>bi a0 fun wn=>bB (dL 1 h none (some wn) none) fun wo=>p3 [wo] vg fun w vi=>aG w 0 fun wp=>aG w 1 fun wq=>aG w 2 fun wr=>bf (.row [(St []),(St []),(.sc (.slice none 0 0)),(.sc (.slice none 0 0))] false p4 0) (fun d=>.ptr d 0) vi fun S vj=>az vj S wp 4 fun vk=>bi a0 fun ws=>bB (dL 1 h none (some ws) none) fun wt=>p5 [wt] vk fun x vm=>aG x 0 fun wu=>aG x 1 fun wv=>aG x 2 fun ww=>bf (.row [(N .i64 0),(.sc (.slice none 0 0)),(.sc (.slice none 0 0))] false p6 0) (fun d=>.ptr d 0) vm fun U vp=>az vp U wu 3 fun j=>dR j h fun wx=>dR j a0 fun wy=>bE .add wy (St [9]) fun wz=>bE .neq wx wz fun w0=>aj w0 ( Q (Bo false) j) ( cZ (fun wa A B=>bi h fun w1=>ae .lss (ag A 0) w1 fun w2=>aj w2 ( bZ h (ag A 0) 1 fun w4=>az B w4 (N .u8 0) 1 fun Y=>ae .add (ag A 0) (N .i64 1) fun w3=>wa [w3] Y) ( p7 [a0,(Bo true)] B fun y Z=>aG y 0 fun w5=>aG y 1 fun w6=>aG y 2 fun w7=>bf (.row [(St []),(St []),(N .i64 0),(.sc (.slice none 0 0)),(.sc (.slice none 0 0))] false p8 0) (fun d=>.ptr d 0) Z fun u va=>az va u w5 5 fun vb=>p7 [a0,(Bo false)] vb fun z vc=>aG z 0 fun w8=>aG z 1 fun w9=>aG z 2 fun xa=>bf (.row [(St []),(St []),(N .i64 0),(.sc (.slice none 0 0)),(.sc (.slice none 0 0))] false p8 0) (fun d=>.ptr d 0) vc fun v vd=>az vd v w8 5 fun C=>ae .eql wr w7 fun l=>dP l true (fun c=>c wq C none) (fun c=>c .undef C none) fun xb D d=>dP l true (fun vs=>vs w6 D none) (fun c=>c .undef D none) fun xc E x1=>dP l true (fun vt=>ae .eql xb xc fun xd=>vt xd E none) (fun c=>c .undef E none) fun xe o x2=>ay l xe (Bo false) fun e=>dP e true (fun vu=>aL o S 4 fun xf=>vu xf o none) (fun c=>c .undef o none) fun xg p x3=>dP e true (fun vv=>aL p u 5 fun xj=>vv xj p none) (fun c=>c .undef p none) fun V F x4=>aa e true (fun vw=>p9 [xg] F fun xh vf=>vw xh vf) (fun c=>c .undef F) fun xi q=>vW e true (fun vx=>aL q u 5 fun xk=>(xk=V∧vx)) (fun c=>c) (aa e true (fun vy=>p10 [xi,V] q fun xl vh=>vy xl vh) (fun c=>c .undef q) fun xm G=>ay e xm (Bo false) fun m=>dP m true (fun vz=>vz ww G none) (fun c=>c .undef G none) fun xn H x5=>dP m true (fun v0=>v0 xa H none) (fun c=>c .undef H none) fun xo I x6=>dP m true (fun v1=>ae .eql xn xo fun xp=>v1 xp I none) (fun c=>c .undef I none) fun xq L x7=>ay m xq (Bo false) fun n=>dP n true (fun v2=>v2 wv L none) (fun c=>c .undef L none) fun xr O x8=>dP n true (fun v3=>v3 w9 O none) (fun c=>c .undef O none) fun xs P x9=>dP n true (fun v4=>ae .eql xr xs fun xt=>v4 xt P none) (fun c=>c .undef P none) fun xu r ya=>ay n xu (Bo false) fun g=>dP g true (fun v5=>aL r U 3 fun xv=>v5 xv r none) (fun c=>c .undef r none) fun xw s yb=>dP g true (fun v6=>aL s v 5 fun xz=>v6 xz s none) (fun c=>c .undef s none) fun W R yc=>aa g true (fun v7=>p11 [xw] R fun xx vl=>v7 xx vl) (fun c=>c .undef R) fun xy t=>vW g true (fun v8=>aL t v 5 fun x0=>(x0=W∧v8)) (fun c=>c) (aa g true (fun v9=>p10 [xy,W] t fun wd vn=>v9 wd vn) (fun c=>c .undef t) fun we vo=>ay g we (Bo false) fun wf=>Q wf vo)))) [(N .i64 0)] j)))
def yQ (p1 p2:Nat) (p3:ak) (p4:Nat) (p5 p6 p7 p8:ak) (p9:Nat) (p10:ak) (p11:Nat) (p12:ak) (M0:RM) (Q:ai) : Prop:=dC [(St []),(St [])] [(0,1,(St [88])),(1,1,(St [49]))] fun zu=>dX p1 1 [(St []),(St [])] [(0,2,zu)] fun x9 wy=>bf x9 wy M0 fun zv wb=>dC [(St []),(St []),(.sc (.slice none 0 0)),(.sc (.slice none 0 0))] [(0,1,(St [71,69,84])),(1,1,(St [47,97])),(2,1,zv)] fun zw=>bf (.row [(St []),(St []),(.sc (.slice none 0 0)),(.sc (.slice none 0 0))] false p2 0) (fun d=>.ptr d 0) wb fun l wc=>az wc l zw 4 fun G=>aL G l 4 fun zx=>p3 [zx] G fun v2 wl=>aG v2 0 fun A=>aG v2 1 fun zy=>dX p4 0 [(N .u8 0)] [] fun yd w2=>bf yd w2 wl fun zz wv=>appW p4 1 1 [(N .u8 0)] false zz A wv fun z0 ww=>dX p4 1 [(N .u8 0)] [(0,1,(N .u8 120))] fun ye w3=>bf ye w3 ww fun z1 wx=>appW p4 1 1 [(N .u8 0)] false z0 z1 wx fun z2 wd=>p5 [z2] wd fun B we=>aG B 0 fun z3=>aG B 1 fun z4=>aG B 2 fun z5=>bf (.row [(St []),(St []),(.sc (.slice none 0 0)),(.sc (.slice none 0 0))] false p2 0) (fun d=>.ptr d 0) we fun v3 wf=>az wf v3 z3 4 fun Z=>aL Z v3 4 fun z6=>p6 [z6,(St [120])] Z fun v4 wg=>aG v4 0 fun z7=>aG v4 1 fun z8=>dX p4 2 [(N .u8 0)] [(0,1,(N .u8 110)),(1,1,(N .u8 111))] fun ya wz=>bf ya wz wg fun z9 wi=>qH z9 wi fun c0 wj=>dC [(N .i64 0),(.sc (.slice none 0 0)),(.sc (.slice none 0 0))] [(0,1,(N .i64 404)),(2,1,c0)] fun c1=>p7 [c1] wj fun v5 wk=>aG v5 0 fun v6=>aG v5 1 fun c2=>p8 [v6] wk fun C wm=>aG C 0 fun c3=>aG C 1 fun c4=>aG C 2 fun c5=>bf (.row [(N .i64 0),(.sc (.slice none 0 0)),(.sc (.slice none 0 0))] false p9 0) (fun d=>.ptr d 0) wm fun m wn=>az wn m c3 3 fun vc=>aL vc m 3 fun c6=>p10 [c6,(St [67,79,78,84,69,78,84,45,76,69,78,71,84,72])] vc fun v7 wo=>aG v7 0 fun c7=>aG v7 1 fun c8=>dX p4 4 [(N .u8 0)] [(0,1,(N .u8 97)),(1,1,(N .u8 98)),(2,1,(N .u8 99)),(3,1,(N .u8 100))] fun yb w0=>bf yb w0 wo fun c9 wp=>qH c9 wp fun d0 wq=>aP l 3 fun d1=>az wq d1 d0 1 fun vd=>aL vd l 4 fun d2=>dX p11 1 [(N .i64 0)] [(0,1,(N .i64 3))] fun yc w1=>bf yc w1 vd fun d3 wr=>p12 [d2,d3] wr fun v8 ws=>aG v8 0 fun v9=>aG v8 1 fun d4=>p5 [v9] ws fun D wt=>aG D 0 fun d5=>aG D 1 fun d6=>aG D 2 fun d7=>bf (.row [(St []),(St []),(.sc (.slice none 0 0)),(.sc (.slice none 0 0))] false p2 0) (fun d=>.ptr d 0) wt fun v1 wu=>az wu v1 d5 4 fun ve=>ae .eql zy (N .i64 0) fun o=>aa o true (fun c=>c A ve) (fun c=>c .undef ve) fun d8 r=>aa o true (fun xl=>dR r d8 fun d9=>xl d9 r) (fun c=>c .undef r) fun e0 vf=>aa o true (fun xm=>bE .eql e0 (St [71,69,84,32,47,97,32,72,84,84,80,47,49,46,49,13,10,88,58,32,49,13,10,67,111,110,116,101,110,116,45,76,101,110,103,116,104,58,32,48,13,10,13,10]) fun e1=>xm e1 vf) (fun c=>c .undef vf) fun e2 vg=>ay o e2 (Bo false) fun E=>aa E true (fun xn=>xn z5 vg) (fun c=>c .undef vg) fun e3 vh=>aa E true (fun xo=>ae .eql e3 (N .i64 0) fun e4=>xo e4 vh) (fun c=>c .undef vh) fun e5 vi=>ay E e5 (Bo false) fun j=>aa j true (fun xp=>xp z4 vi) (fun c=>c .undef vi) fun e6 vj=>aa j true (fun xq=>xq A vj) (fun c=>c .undef vj) fun e7 vk=>aa j true (fun xr=>bi e7 fun e8=>xr e8 vk) (fun c=>c .undef vk) fun e9 vl=>aa j true (fun xs=>ae .eql e6 e9 fun g0=>xs g0 vl) (fun c=>c .undef vl) fun g1 vm=>ay j g1 (Bo false) fun wa=>aa wa true (fun xt=>xt z8 vm) (fun c=>c .undef vm) fun g2 vn=>ay wa g2 (Bo false) fun F=>aa F true (fun xu=>xu z7 vn) (fun c=>c .undef vn) fun g3 vo=>aa F true (fun xv=>bE .eql g3 (St [49]) fun g4=>xv g4 vo) (fun c=>c .undef vo) fun g5 vp=>ay F g5 (Bo false) fun v=>aa v true (fun xw=>xw c2 vp) (fun c=>c .undef vp) fun yf vq=>aa v true (fun xx=>ae .eql yf (N .i64 0) fun yg=>xx yg vq) (fun c=>c .undef vq) fun yh vr=>ay v yh (Bo false) fun w=>aa w true (fun xy=>xy c5 vr) (fun c=>c .undef vr) fun yi vs=>aa w true (fun xz=>ae .eql yi (N .i64 0) fun yj=>xz yj vs) (fun c=>c .undef vs) fun yk vt=>ay w yk (Bo false) fun e=>aa e true (fun x0=>x0 c4 vt) (fun c=>c .undef vt) fun yl vu=>aa e true (fun x1=>x1 v6 vu) (fun c=>c .undef vu) fun ym vv=>aa e true (fun x2=>bi ym fun yn=>x2 yn vv) (fun c=>c .undef vv) fun yo vw=>aa e true (fun x3=>ae .eql yl yo fun yp=>x3 yp vw) (fun c=>c .undef vw) fun yq vx=>ay e yq (Bo false) fun n=>aa n true (fun x4=>aP m 0 fun yr=>x4 yr vx) (fun c=>c .undef vx) fun ys s=>aa n true (fun x5=>ax s ys fun yt=>x5 yt s) (fun c=>c .undef s) fun yu vy=>aa n true (fun x6=>ae .eql yu (N .i64 404) fun yv=>x6 yv vy) (fun c=>c .undef vy) fun yw vz=>ay n yw (Bo false) fun g=>aa g true (fun x7=>aP m 2 fun yx=>x7 yx vz) (fun c=>c .undef vz) fun yy t=>aa g true (fun x8=>ax t yy fun yz=>x8 yz t) (fun c=>c .undef t) fun y0 u=>aa g true (fun w4=>dR u y0 fun y1=>w4 y1 u) (fun c=>c .undef u) fun y2 H=>aa g true (fun w5=>bE .eql y2 (St [110,111]) fun y3=>w5 y3 H) (fun c=>c .undef H) fun y4 I=>ay g y4 (Bo false) fun v0=>aa v0 true (fun w6=>w6 c8 I) (fun c=>c .undef I) fun y5 L=>ay v0 y5 (Bo false) fun x=>aa x true (fun w7=>w7 c7 L) (fun c=>c .undef L) fun y6 O=>aa x true (fun w8=>bE .eql y6 (St [50]) fun y7=>w8 y7 O) (fun c=>c .undef O) fun y8 P=>ay x y8 (Bo false) fun y=>aa y true (fun w9=>w9 d4 P) (fun c=>c .undef P) fun y9 R=>aa y true (fun xa=>ae .eql y9 (N .i64 0) fun za=>xa za R) (fun c=>c .undef R) fun zb S=>ay y zb (Bo false) fun z=>aa z true (fun xb=>xb d7 S) (fun c=>c .undef S) fun zc U=>aa z true (fun xc=>ae .eql zc (N .i64 0) fun zd=>xc zd U) (fun c=>c .undef U) fun ze V=>ay z ze (Bo false) fun h=>aa h true (fun xd=>xd d6 V) (fun c=>c .undef V) fun zf W=>aa h true (fun xe=>xe v9 W) (fun c=>c .undef W) fun zg X=>aa h true (fun xf=>bi zg fun zh=>xf zh X) (fun c=>c .undef X) fun zi Y=>aa h true (fun xg=>ae .eql zf zi fun zj=>xg zj Y) (fun c=>c .undef Y) fun zk va=>ay h zk (Bo false) fun i=>aa i true (fun xh=>aP v1 3 fun zl=>xh zl va) (fun c=>c .undef va) fun zm p=>aa i true (fun xi=>ax p zm fun zn=>xi zn p) (fun c=>c .undef p) fun zo q=>aa i true (fun xj=>dR q zo fun zp=>xj zp q) (fun c=>c .undef q) fun zq vb=>aa i true (fun xk=>bE .eql zq (St [97,98,99,100]) fun zr=>xk zr vb) (fun c=>c .undef vb) fun zs wh=>ay i zs (Bo false) fun zt=>Q zt wh
def jE (p1 p2:Nat) (p3 p4:ak) (a0:AV) (M0:RM) (Q:ai) : Prop:=bf (.row [(St []),(St []),(.sc (.slice none 0 0)),(.sc (.slice none 0 0))] false p1 0) (fun g=>.ptr g 0) M0 fun c r=>bf (.row [(St []),(St []),(.sc (.slice none 0 0)),(.sc (.slice none 0 0))] false p1 0) (fun g=>.ptr g 0) r fun d s=>p3 [a0,(.fn (.func p2) [] [d])] s fun h j=>aG h 0 fun o=>aG h 1 fun y=>aG h 2 fun p=>ae .neq p (N .i64 0) fun z=>aj z ( dC [(St []),(St []),(.sc (.slice none 0 0)),(.sc (.slice none 0 0))] [] fun A=>az j c A 4 fun l=>aL l c 4 fun v=>Q (.tup [v,(N .i64 0),p]) l) ( aP d 2 fun B=>az j B o 1 fun t=>p4 [a0,y,o] t fun i u=>aG i 0 fun C=>aG i 1 fun D=>aG i 2 fun q=>aP d 3 fun E=>az u E C 1 fun e=>ae .neq q (N .i64 0) fun F=>aj F ( dC [(St []),(St []),(.sc (.slice none 0 0)),(.sc (.slice none 0 0))] [] fun G=>az e c G 4 fun m=>aL m c 4 fun w=>Q (.tup [w,(N .i64 0),q]) m) ( aL e d 4 fun H=>az e c H 4 fun n=>aL n c 4 fun x=>Q (.tup [x,D,(N .i64 0)]) n))
def jf (p1:Nat) (p2 p3 p4:ak) (a0:AV) (M0:RM) (Q:ai) : Prop:=mU p1 a0 fun v u=>bf v u M0 fun d g=>aL g d 4 fun O=>p2 [O] g fun P c=>fw P fun R=>aj R ( Q (.tup [(.sc (.slice none 0 0)),(N .i64 1)]) c) ( aP d 0 fun r=>ax c r fun s=>bE .add s (St [32]) fun U=>aP d 1 fun h=>ax c h fun i=>bE .add U i fun x=>bE .add x (St [32]) fun y=>bE .add y (St [72,84,84,80,47,49,46,49]) fun z=>aP d 2 fun j=>ax c j fun l=>aP d 3 fun B=>ax c B fun C=>bi C fun D=>aP d 3 fun m=>ax c m fun n=>bi n fun G=>aP d 3 fun o=>ax c o fun p=>p3 [D] c fun E e=>ax e r fun S=>(S=s∧ax e h fun w=>(w=i∧ax e j fun A=>(A=l∧ax e m fun F=>(F=n∧ax e o fun H=>(H=p∧p4 [z,l,E,G,p] e fun q t=>aG q 0 fun I=>aG q 1 fun L=>Q (.tup [I,L]) t))))))
def iT (p1:Nat) (p2 p3 p4:ak) (a0:AV) (M0:RM) (Q:ai) : Prop:=mU p1 a0 fun C z=>bf C z M0 fun c l=>aP c 0 fun vk=>ax l vk fun vl=>ae .lss vl (N .i64 100) fun j=>aa j false (fun d=>aP c 0 fun vm=>d vm l) (fun d=>d .undef l) fun vn m=>aa j false (fun A=>ax m vn fun D=>A D m) (fun d=>d .undef m) fun E u=>aa j false (fun B=>ae .gtr E (N .i64 599) fun F=>B F u) (fun d=>d .undef u) fun G i=>ay j (Bo true) G fun H=>aj H ( Q (.tup [(.sc (.slice none 0 0)),(N .i64 1)]) i) ( eG (fun t=>aP c 0 fun I=>ax i I fun L=>ae .quo L (N .i64 100) fun O=>ae .eql O (N .i64 2) fun P=>aj P ( t [(St [79,75])] i) ( t [(St [78,111])] i)) (fun vo e=>aP c 0 fun R=>ax e R fun S=>aP c 1 fun n=>ax e n fun o=>aP c 2 fun v=>ax e v fun w=>bi w fun vb=>aP c 2 fun p=>ax e p fun q=>bi q fun vf=>aP c 2 fun r=>ax e r fun s=>p2 [S] e fun U g=>ax g n fun Z=>(Z=o∧ax g v fun va=>(va=w∧ax g p fun ve=>(ve=q∧ax g r fun vh=>(vh=s∧bE .add (St [72,84,84,80,47,49,46,49,32]) U fun V=>bE .add V (St [32]) fun W=>bE .add W (ag vo 0) fun X=>p3 [vb] g fun vc h=>ax h n fun Y=>(Y=o∧ax h p fun vd=>(vd=q∧ax h r fun vg=>(vg=s∧p4 [X,o,vc,vf,s] h fun x y=>aG x 0 fun vi=>aG x 1 fun vj=>Q (.tup [vi,vj]) y)))))))))
def je (p1 p2:Nat) (p3 p4:ak) (a0:AV) (M0:RM) (Q:ai) : Prop:=bf (.row [(N .i64 0),(.sc (.slice none 0 0)),(.sc (.slice none 0 0))] false p1 0) (fun g=>.ptr g 0) M0 fun c r=>bf (.row [(N .i64 0),(.sc (.slice none 0 0)),(.sc (.slice none 0 0))] false p1 0) (fun g=>.ptr g 0) r fun d s=>p3 [a0,(.fn (.func p2) [] [d])] s fun h j=>aG h 0 fun o=>aG h 1 fun y=>aG h 2 fun p=>ae .neq p (N .i64 0) fun z=>aj z ( dC [(N .i64 0),(.sc (.slice none 0 0)),(.sc (.slice none 0 0))] [] fun A=>az j c A 3 fun l=>aL l c 3 fun v=>Q (.tup [v,(N .i64 0),p]) l) ( aP d 1 fun B=>az j B o 1 fun t=>p4 [a0,y,o] t fun i u=>aG i 0 fun C=>aG i 1 fun D=>aG i 2 fun q=>aP d 2 fun E=>az u E C 1 fun e=>ae .neq q (N .i64 0) fun F=>aj F ( dC [(N .i64 0),(.sc (.slice none 0 0)),(.sc (.slice none 0 0))] [] fun G=>az e c G 3 fun m=>aL m c 3 fun w=>Q (.tup [w,(N .i64 0),q]) m) ( aL e d 3 fun H=>az e c H 3 fun n=>aL n c 3 fun x=>Q (.tup [x,D,(N .i64 0)]) n))
def rR (p1:Nat) (p2 p3 p4 p5:ak) (p6:Nat) (p7:ak) (p8:Nat) (a0 a1:AV) (M0:RM) (Q:ai) : Prop:=bf (.row [(St []),(St []),(N .i64 0),(.sc (.slice none 0 0)),(.sc (.slice none 0 0))] false p1 0) (fun l=>.ptr l 0) M0 fun c vb=>dC [(St []),(St []),(N .i64 0),(.sc (.slice none 0 0)),(.sc (.slice none 0 0))] [] fun ws=>bf (.row [(St []),(St []),(N .i64 0),(.sc (.slice none 0 0)),(.sc (.slice none 0 0))] false p1 0) (fun l=>.ptr l 0) vb fun e vc=>az vc e ws 5 fun vd=>cZ (fun vw i ve=>eG (fun u=>bB (dL 1 a0 (some (ag i 0)) none none) fun wu=>p2 [wu] ve fun m D=>ae .lss m (N .i64 0) fun j=>aa j false (fun d=>d (ag i 0) D) (fun d=>d .undef D) fun wv L=>aa j false (fun vu=>vu m L) (fun d=>d .undef L) fun ww U=>aa j false (fun vv=>ae .add wv ww fun wx=>vv wx U) (fun d=>d .undef U) fun wy V=>aa j false (fun vq=>ae .add wy (N .i64 2) fun wz=>vq wz V) (fun d=>d .undef V) fun w0 v=>aa j false (fun vr=>ae .gtr w0 (N .i64 2048) fun w1=>vr w1 v) (fun d=>d .undef v) fun w2 g=>ay j (Bo true) w2 fun w3=>aj w3 ( bi a0 fun w4=>ae .geq w4 (N .i64 2048) fun q=>aa q false (fun vs=>vs m g) (fun d=>d .undef g) fun w5 w=>aa q false (fun vt=>ae .geq w5 (N .i64 0) fun w6=>vt w6 w) (fun d=>d .undef w) fun w7 x=>ay q (Bo true) w7 fun w8=>aj w8 ( dC [(St []),(St []),(N .i64 0),(.sc (.slice none 0 0)),(.sc (.slice none 0 0))] [] fun w9=>az x c w9 5 fun y=>aL y c 5 fun vz=>Q (.tup [vz,(N .i64 0),(N .i64 2)]) y) ( dC [(St []),(St []),(N .i64 0),(.sc (.slice none 0 0)),(.sc (.slice none 0 0))] [] fun xa=>az x c xa 5 fun z=>aL z c 5 fun v0=>Q (.tup [v0,(N .i64 0),(N .i64 15)]) z)) ( ae .add (ag i 0) m fun xb=>bB (dL 1 a0 (some (ag i 0)) (some xb) none) fun xc=>dR g xc fun r=>ae .add (ag i 0) m fun xd=>ae .add xd (N .i64 2) fun h=>ae .eql (ag i 1) (N .i64 0) fun xe=>aj xe ( p3 [r,a1] g fun Y vf=>aG Y 0 fun xf=>aG Y 1 fun xg=>az vf e xf 5 fun A=>fw xg fun xh=>aj xh ( dC [(St []),(St []),(N .i64 0),(.sc (.slice none 0 0)),(.sc (.slice none 0 0))] [] fun xi=>az A c xi 5 fun B=>aL B c 5 fun v1=>Q (.tup [v1,(N .i64 0),(N .i64 14)]) B) ( u [h] A)) ( bE .eql r (St []) fun xj=>aj xj ( aP e 3 fun xw=>ax g xw fun xx=>p4 [xx] g fun s n=>aG s 0 fun t=>aG s 1 fun xy=>aG s 2 fun va=>ae .neq va (N .i64 0) fun xz=>aj xz ( dC [(St []),(St []),(N .i64 0),(.sc (.slice none 0 0)),(.sc (.slice none 0 0))] [] fun x0=>az n c x0 5 fun C=>aL C c 5 fun v2=>Q (.tup [v2,(N .i64 0),va]) C) ( aj xy ( bB (dL 1 a0 (some h) none none) fun v9=>p5 [v9] n fun p E=>aG p 0 fun wa=>aG p 1 fun wb=>aG p 2 fun W=>ae .neq W (N .i64 0) fun wc=>aj wc ( dC [(St []),(St []),(N .i64 0),(.sc (.slice none 0 0)),(.sc (.slice none 0 0))] [] fun wd=>az E c wd 5 fun F=>aL F c 5 fun v3=>Q (.tup [v3,(N .i64 0),W]) F) ( aP e 4 fun we=>az E we wa 1 fun G=>aL G e 5 fun wf=>ae .add h wb fun wg=>az G c wf 5 fun H=>aL H c 5 fun v4=>Q (.tup [v4,wg,(N .i64 0)]) H)) ( bi a0 fun wh=>ae .sub wh h fun wi=>ae .lss wi t fun wj=>aj wj ( dC [(St []),(St []),(N .i64 0),(.sc (.slice none 0 0)),(.sc (.slice none 0 0))] [] fun wk=>az n c wk 5 fun I=>aL I c 5 fun v5=>Q (.tup [v5,(N .i64 0),(N .i64 15)]) I) ( dX p6 0 [(N .u8 0)] [] fun vx vo=>bf vx vo n fun wl vg=>ae .add h t fun wm=>bB (dL 1 a0 (some h) (some wm) none) fun wn=>appW p6 1 1 [(N .u8 0)] false wl wn vg fun wo vh=>aP e 4 fun wp=>az vh wp wo 1 fun O=>aL O e 5 fun wq=>ae .add h t fun wr=>az O c wq 5 fun P=>aL P c 5 fun v6=>Q (.tup [v6,wr,(N .i64 0)]) P)))) ( ae .gtr (ag i 1) (N .i64 32) fun xk=>aj xk ( dC [(St []),(St []),(N .i64 0),(.sc (.slice none 0 0)),(.sc (.slice none 0 0))] [] fun xl=>az g c xl 5 fun R=>aL R c 5 fun v7=>Q (.tup [v7,(N .i64 0),(N .i64 2)]) R) ( p7 [r] g fun Z vi=>aG Z 0 fun xm=>aG Z 1 fun xn=>bf (.row [(St []),(St [])] false p8 0) (fun l=>.ptr l 0) vi fun X vj=>az vj X xm 2 fun o=>fw xn fun xo=>aj xo ( dC [(St []),(St []),(N .i64 0),(.sc (.slice none 0 0)),(.sc (.slice none 0 0))] [] fun xp=>az o c xp 5 fun S=>aL S c 5 fun v8=>Q (.tup [v8,(N .i64 0),(N .i64 14)]) S) ( aP e 3 fun xq=>ax o xq fun xr=>aL o X 2 fun xs=>dX p8 1 [(St []),(St [])] [(0,2,xs)] fun vy vp=>bf vy vp o fun xt vk=>appW p8 2 32 [(St []),(St [])] false xr xt vk fun xu vl=>aP e 3 fun xv=>az vl xv xu 1 fun vm=>u [h] vm)))))) (fun x1 vn=>ae .add (ag i 1) (N .i64 1) fun wt=>vw [(ag x1 0),wt] vn)) [(N .i64 0),(N .i64 0)] vd
def tJ (p1:Nat) (a0 a1:AV) (M0:RM) (Q:ai) : Prop:=mU p1 a0 fun vt S=>bf vt S M0 fun h R=>mU p1 a1 fun vu U=>bf vu U R fun l m=>aP h 0 fun xl=>ax m xl fun xn=>aP l 0 fun xo=>ax m xo fun xp=>bE .neq xn xp fun i=>aa i false (fun c=>aP h 1 fun vv=>c vv m) (fun c=>c .undef m) fun vw t=>aa i false (fun vi=>ax t vw fun vx=>vi vx t) (fun c=>c .undef t) fun vy L=>aa i false (fun vr=>aP l 1 fun vz=>vr vz L) (fun c=>c .undef L) fun v0 o=>aa i false (fun V=>ax o v0 fun v1=>V v1 o) (fun c=>c .undef o) fun v2 y=>aa i false (fun W=>bE .neq vy v2 fun v3=>W v3 y) (fun c=>c .undef y) fun v4 z=>ay i (Bo true) v4 fun j=>aa j false (fun X=>aP h 2 fun v5=>X v5 z) (fun c=>c .undef z) fun v6 p=>aa j false (fun Y=>ax p v6 fun v7=>Y v7 p) (fun c=>c .undef p) fun v8 A=>aa j false (fun Z=>aP l 2 fun v9=>Z v9 A) (fun c=>c .undef A) fun wa q=>aa j false (fun va=>ax q wa fun wb=>va wb q) (fun c=>c .undef q) fun wc B=>aa j false (fun vb=>ae .neq v8 wc fun wd=>vb wd B) (fun c=>c .undef B) fun we C=>ay j (Bo true) we fun e=>aa e false (fun vc=>aP h 4 fun wf=>vc wf C) (fun c=>c .undef C) fun wg r=>aa e false (fun vd=>ax r wg fun wh=>vd wh r) (fun c=>c .undef r) fun wi s=>aa e false (fun ve=>dR s wi fun wj=>ve wj s) (fun c=>c .undef s) fun wk D=>aa e false (fun vf=>aP l 4 fun wl=>vf wl D) (fun c=>c .undef D) fun wm u=>aa e false (fun vg=>ax u wm fun wn=>vg wn u) (fun c=>c .undef u) fun wo v=>aa e false (fun vh=>dR v wo fun wp=>vh wp v) (fun c=>c .undef v) fun wq E=>aa e false (fun vj=>bE .neq wk wq fun wr=>vj wr E) (fun c=>c .undef E) fun ws F=>ay e (Bo true) ws fun g=>aa g false (fun vk=>aP h 3 fun wt=>vk wt F) (fun c=>c .undef F) fun wu w=>aa g false (fun vl=>ax w wu fun wv=>vl wv w) (fun c=>c .undef w) fun ww G=>aa g false (fun vm=>bi ww fun wx=>vm wx G) (fun c=>c .undef G) fun wy H=>aa g false (fun vn=>aP l 3 fun wz=>vn wz H) (fun c=>c .undef H) fun w0 x=>aa g false (fun vo=>ax x w0 fun w1=>vo w1 x) (fun c=>c .undef x) fun w2 I=>aa g false (fun vp=>bi w2 fun w3=>vp w3 I) (fun c=>c .undef I) fun w4 O=>aa g false (fun vq=>ae .neq wy w4 fun w5=>vq w5 O) (fun c=>c .undef O) fun w6 P=>ay g (Bo true) w6 fun w7=>aj w7 ( Q (Bo false) P) ( cZ (fun vs n d=>aP h 3 fun w8=>ax d w8 fun w9=>bi w9 fun xa=>ae .lss (ag n 0) xa fun xb=>aj xb ( aP h 3 fun xd=>ax d xd fun xe=>bZ xe (ag n 0) 2 fun xf=>aL d xf 2 fun xg=>aP l 3 fun xh=>ax d xh fun xi=>bZ xi (ag n 0) 2 fun xj=>aL d xj 2 fun xk=>sG true [2,2] xg xk fun xm=>aj xm ( Q (Bo false) d) ( ae .add (ag n 0) (N .i64 1) fun xc=>vs [xc] d)) ( Q (Bo true) d)) [(N .i64 0)] P)
def oo (p1 p2:Nat) (p3:ak) (a0:AV) (M0:RM) (Q:ai) : Prop:=mU p1 a0 fun s r=>bf s r M0 fun e p=>bf (.row [(St []),(St []),(N .i64 0),(.sc (.slice none 0 0)),(.sc (.slice none 0 0))] false p2 0) (fun q=>.ptr q 0) p fun j c=>aP e 0 fun l=>ax c l fun m=>aP e 1 fun n=>ax c n fun o=>aP e 2 fun y=>ax c y fun z=>aP e 3 fun h=>ax c h fun i=>p3 [z] c fun A d=>ax d l fun w=>(w=m∧ax d n fun x=>(x=o∧ax d h fun u=>(u=i∧dC [(St []),(St []),(N .i64 0),(.sc (.slice none 0 0)),(.sc (.slice none 0 0))] [(0,1,m),(1,1,o),(3,1,A),(4,1,i)] fun v=>az d j v 5 fun g=>aL g j 5 fun t=>Q t g)))
def mV (p1 p2:Nat) (p3:ak) (a0:AV) (M0:RM) (Q:ai) : Prop:=mU p1 a0 fun q p=>bf q p M0 fun e n=>bf (.row [(St []),(St []),(N .i64 0),(.sc (.slice none 0 0)),(.sc (.slice none 0 0))] false p2 0) (fun o=>.ptr o 0) n fun h c=>aP e 0 fun i=>ax c i fun j=>aP e 1 fun u=>ax c u fun v=>aP e 2 fun l=>ax c l fun m=>p3 [v] c fun w d=>ax d i fun t=>(t=j∧ax d l fun x=>(x=m∧dC [(St []),(St []),(N .i64 0),(.sc (.slice none 0 0)),(.sc (.slice none 0 0))] [(2,1,j),(3,1,w),(4,1,m)] fun s=>az d h s 5 fun g=>aL g h 5 fun r=>Q r g))
def lN (p1:Nat) (p2 p3:ak) (p4 p5:Nat) (p6:ak) (p7:Nat) (p8 p9:ak) (a0 a1:AV) (M0:RM) (Q:ai) : Prop:=mU p1 a0 fun vf U=>bf vf U M0 fun e n=>aL n e 4 fun vp=>p2 [vp] n fun vq j=>fw vq fun vr=>aj vr ( Q (.tup [(.sc (.slice none 0 0)),(N .i64 1)]) j) ( aP e 3 fun vs=>ax j vs fun q=>p3 [a1] j fun vt x=>bi q fun vu=>dX p4 1 [(N .i64 0)] [(0,1,vu)] fun vi va=>bf vi va x fun vv E=>appW p4 1 8 [(N .i64 0)] false vt vv E fun r I=>bi r fun vw=>cZ (fun ve c h=>ae .lss (ag c 2) vw fun vx=>aj vx ( eG (fun i=>bZ r (ag c 2) 1 fun vy=>ax h vy fun vz=>bi (ag c 1) fun v0=>Et false vz v0 fun d=>ae .lss d (N .i64 1) fun v1=>aj v1 ( i [(ag c 0),(ag c 1)] h) ( (( bB (dL 1 (ag c 1) none (some d) none) fun l=>dX p5 2 [(N .u8 0)] [(0,1,(N .u8 13)),(1,1,(N .u8 10))] fun vo vd=>uM vo vd h fun u P R=>p6 [d,(N .i64 16)] P fun v2 o=>bB (dL 1 (ag c 1) none (some d) none) fun v7=>(v7=l∧dX p5 2 [(N .u8 0)] [(0,1,(N .u8 13)),(1,1,(N .u8 10))] fun vk Y=>(GH R o vk Y u∧bE .add v2 (St [13,10]) fun s=>ji p5 s fun vg V=>uM vg V o fun t y S=>qH u y fun wb p=>ji p5 s fun vj X=>(GH S p vj X t∧bB (dL 1 (ag c 1) none (some d) none) fun v6=>(v6=l∧dX p7 4 [(.sc (.slice none 0 0))] [(0,1,(ag c 0)),(1,1,t),(2,1,l),(3,1,wb)] fun vh W=>uM vh W p fun wd z w1=>p8 [wd] z fun wf A=>bB (dL 1 (ag c 1) (some d) none none) fun wh=>i [wf,wh] A)))))∧( dX p5 2 [(N .u8 0)] [(0,1,(N .u8 13)),(1,1,(N .u8 10))] fun vl Z=>uM vl Z h fun wa B w2=>bB (dL 1 (ag c 1) none (some d) none) fun m=>qH wa B fun wc C=>bB (dL 1 (ag c 1) none (some d) none) fun v9=>(v9=m∧p6 [d,(N .i64 16)] C fun v3 D=>bB (dL 1 (ag c 1) none (some d) none) fun v8=>(v8=m∧bE .add v3 (St [13,10]) fun v4=>ji p5 v4 fun vm vb=>uM vm vb D fun v5 F w3=>dX p7 4 [(.sc (.slice none 0 0))] [(0,1,(ag c 0)),(1,1,v5),(2,1,m),(3,1,wc)] fun vn vc=>uM vn vc F fun we G w4=>p8 [we] G fun wg H=>bB (dL 1 (ag c 1) (some d) none none) fun wi=>i [wg,wi] H)))))) (fun w L=>ae .add (ag c 2) (N .i64 1) fun wj=>ve [(ag w 0),(ag w 1),wj] L)) ( appW p5 1 1 [(N .u8 0)] false (ag c 0) (St [48,13,10,13,10]) h fun wk g=>aP e 0 fun wl=>ax g wl fun wm=>bE .add wm (St [32]) fun wn=>aP e 1 fun wo=>ax g wo fun wp=>bE .add wn wp fun wq=>bE .add wq (St [32]) fun wr=>bE .add wr (St [72,84,84,80,47,49,46,49]) fun ws=>aP e 2 fun wt=>ax g wt fun wu=>dC [(St []),(St [])] [(0,1,(St [84,114,97,110,115,102,101,114,45,69,110,99,111,100,105,110,103])),(1,1,(St [99,104,117,110,107,101,100]))] fun wv=>aP e 3 fun ww=>ax g ww fun wx=>bi wx fun wy=>p9 [ws,wu,wv,wy,wk] g fun v O=>aG v 0 fun wz=>aG v 1 fun w0=>Q (.tup [wz,w0]) O)) [(.sc (.slice none 0 0)),q,(N .i64 0)] I)
def jA (p1:Nat) (p2:ak) (a0 a1:AV) (M0:RM) (Q:ai) : Prop:=mU p1 a0 fun h g=>bf h g M0 fun l c=>aP l 2 fun m=>ax c m fun n=>p2 [n,a1] c fun d e=>aG d 0 fun i=>aG d 1 fun j=>Q (.tup [i,j]) e
def jd (p1:Nat) (p2:ak) (a0 a1:AV) (M0:RM) (Q:ai) : Prop:=mU p1 a0 fun h g=>bf h g M0 fun l c=>aP l 1 fun m=>ax c m fun n=>p2 [n,a1] c fun d e=>aG d 0 fun i=>aG d 1 fun j=>Q (.tup [i,j]) e
def uY (p1:Nat) (a0:AV) (M0:RM) (Q:ai) : Prop:=ji p1 a0 fun y s=>bf y s M0 fun e p=>cZ (fun x g h=>bi e fun X=>ae .lss (ag g 0) X fun z=>aj z ( eG (fun l=>bZ e (ag g 0) 1 fun B=>ax h B fun C=>ae .geq C (N .u8 65) fun d=>aa d true (fun c=>c e h) (fun c=>c .undef h) fun D m=>aa d true (fun u=>u (ag g 0) m) (fun c=>c .undef m) fun E n=>aa d true (fun v=>bZ D E 1 fun F=>v F n) (fun c=>c .undef n) fun G j=>aa d true (fun w=>ax j G fun H=>w H j) (fun c=>c .undef j) fun I o=>aa d true (fun t=>ae .leq I (N .u8 90) fun L=>t L o) (fun c=>c .undef o) fun O i=>ay d O (Bo false) fun P=>aj P ( bZ e (ag g 0) 1 fun R=>ax i R fun S=>ae .add S (N .u8 32) fun U=>bZ e (ag g 0) 1 fun V=>az i V U 1 fun q=>l [] q) ( l [] i)) (fun Y r=>ae .add (ag g 0) (N .i64 1) fun A=>x [A] r)) ( dR h e fun W=>Q W h)) [(N .i64 0)] p
def oz (p1:ak) (cv:(FuncId→ak)) (p2:ak) (p3:Nat) (a0 a1:AV) (M0:RM) (Q:ai) : Prop:=p1 [a0,(N .i64 0)] M0 fun g i=>aG g 0 fun A=>aG g 1 fun B=>aG g 2 fun l=>ae .neq l (N .i64 0) fun C=>aj C ( Q (.tup [(.sc (.slice none 0 0)),(N .i64 0),l]) i) ( Ba cv a1 [A] i fun D j=>fw D fun E=>aj E ( Q (.tup [(.sc (.slice none 0 0)),(N .i64 0),(N .i64 14)]) j) ( cZ (fun y d r=>p1 [a0,(ag d 1)] r fun h c=>aG h 0 fun m=>aG h 1 fun n=>aG h 2 fun o=>ae .neq o (N .i64 0) fun F=>aj F ( Q (.tup [(.sc (.slice none 0 0)),(N .i64 0),o]) c) ( bE .eql m (St []) fun G=>aj G ( Q (.tup [(ag d 0),n,(N .i64 0)]) c) ( bi (ag d 0) fun H=>ae .eql H (N .i64 32) fun I=>aj I ( Q (.tup [(.sc (.slice none 0 0)),(N .i64 0),(N .i64 2)]) c) ( p2 [m] c fun p s=>aG p 0 fun L=>aG p 1 fun O=>bf (.row [(St []),(St [])] false p3 0) (fun w=>.ptr w 0) s fun q t=>az t q L 2 fun e=>fw O fun P=>aj P ( Q (.tup [(.sc (.slice none 0 0)),(N .i64 0),(N .i64 14)]) e) ( aL e q 2 fun R=>dX p3 1 [(St []),(St [])] [(0,2,R)] fun z x=>bf z x e fun S u=>appW p3 2 32 [(St []),(St [])] false (ag d 0) S u fun U v=>y [U,n] v))))) [(.sc (.slice none 0 0)),B] j))
def iW (p1 p2 p3:ak) (a0 a1:AV) (M0:RM) (Q:ai) : Prop:=p1 [a0,(St [32])] M0 fun e n=>bi e fun v2=>ae .neq v2 (N .i64 3) fun g=>aa g false (fun c=>c e n) (fun c=>c .undef n) fun X o=>aa g false (fun E=>bZ X (N .i64 0) 1 fun Y=>E Y o) (fun c=>c .undef o) fun Z l=>aa g false (fun V=>ax l Z fun va=>V va l) (fun c=>c .undef l) fun vb y=>aa g false (fun W=>p2 [vb] y fun vc D=>W vc D) (fun c=>c .undef y) fun vd p=>aa g false (fun F=>fw vd fun ve=>F ve p) (fun c=>c .undef p) fun vf q=>ay g (Bo true) vf fun d=>aa d false (fun G=>G e q) (fun c=>c .undef q) fun vg r=>aa d false (fun H=>bZ vg (N .i64 1) 1 fun vh=>H vh r) (fun c=>c .undef r) fun vi j=>aa d false (fun I=>ax j vi fun vj=>I vj j) (fun c=>c .undef j) fun vk s=>aa d false (fun L=>p3 [vk] s fun vl B=>L vl B) (fun c=>c .undef s) fun vm t=>aa d false (fun O=>fw vm fun vn=>O vn t) (fun c=>c .undef t) fun vo u=>ay d (Bo true) vo fun h=>aa h false (fun P=>P e u) (fun c=>c .undef u) fun vp v=>aa h false (fun R=>bZ vp (N .i64 2) 1 fun vq=>R vq v) (fun c=>c .undef v) fun vr m=>aa h false (fun S=>ax m vr fun vs=>S vs m) (fun c=>c .undef m) fun vt w=>aa h false (fun U=>bE .neq vt (St [72,84,84,80,47,49,46,49]) fun vu=>U vu w) (fun c=>c .undef w) fun vv i=>ay h (Bo true) vv fun vw=>aj vw ( Q (Bo false) i) ( bZ e (N .i64 0) 1 fun vx=>ax i vx fun vy=>bZ e (N .i64 1) 1 fun z=>ax i z fun A=>aP a1 0 fun v0=>az i v0 vy 1 fun x=>ax x z fun vz=>(vz=A∧aP a1 1 fun v1=>az x v1 A 1 fun C=>Q (Bo true) C))
def jM (p1 p2:ak) (p3:Nat) (a0:AV) (M0:RM) (Q:ai) : Prop:=p1 [a0,(N .i64 1),(N .i64 8)] M0 fun d e=>aa d true (fun c=>c a0 e) (fun c=>c .undef e) fun l g=>aa d true (fun j=>p2 [l,(.fn (.func p3) [] [])] g fun m h=>j m h) (fun c=>c .undef g) fun n i=>ay d n (Bo false) fun o=>Q o i
def kI (p1 p2:ak) (p3:Nat) (a0:AV) (M0:RM) (Q:ai) : Prop:=p1 [a0,(St [47])] M0 fun d g=>aa d true (fun c=>c a0 g) (fun c=>c .undef g) fun w h=>aa d true (fun o=>aS w fun x=>o x h) (fun c=>c .undef h) fun y i=>aa d true (fun p=>ae .leq y (N .i64 201) fun z=>p z i) (fun c=>c .undef i) fun A j=>ay d A (Bo false) fun e=>aa e true (fun q=>q a0 j) (fun c=>c .undef j) fun s l=>aa e true (fun r=>p2 [s,(.fn (.func p3) [] [])] l fun t m=>r t m) (fun c=>c .undef l) fun u n=>ay e u (Bo false) fun v=>Q v n
def ou (p1 p2 p3 p4 p5:ak) (p6:Nat) (p7 p8:ak) (a0 a1 a2:AV) (M0:RM) (Q:ai) : Prop:=p1 [a2,(St [116,114,97,110,115,102,101,114,45,101,110,99,111,100,105,110,103])] M0 fun r I=>p1 [a2,(St [99,111,110,116,101,110,116,45,108,101,110,103,116,104])] I fun d i=>bi r fun vl=>ae .gtr vl (N .i64 0) fun vm=>aj vm ( bi r fun vn=>ae .gtr vn (N .i64 1) fun e=>aa e false (fun c=>c r i) (fun c=>c .undef i) fun vo t=>aa e false (fun X=>bZ vo (N .i64 0) 1 fun vp=>X vp t) (fun c=>c .undef t) fun vq n=>aa e false (fun vi=>ax n vq fun vr=>vi vr n) (fun c=>c .undef n) fun vs G=>aa e false (fun vk=>p2 [vs] G fun vt S=>vk vt S) (fun c=>c .undef G) fun vu u=>aa e false (fun U=>bE .neq vu (St [99,104,117,110,107,101,100]) fun vv=>U vv u) (fun c=>c .undef u) fun vw v=>ay e (Bo true) vw fun j=>aa j false (fun V=>V d v) (fun c=>c .undef v) fun vx w=>aa j false (fun W=>bi vx fun vy=>W vy w) (fun c=>c .undef w) fun vz x=>aa j false (fun Y=>ae .gtr vz (N .i64 0) fun v0=>Y v0 x) (fun c=>c .undef x) fun v1 y=>ay j (Bo true) v1 fun v2=>aj v2 ( Q (.tup [(.sc (.slice none 0 0)),(N .i64 0),(N .i64 14)]) y) ( p3 [a0,a1] y fun s L=>aG s 0 fun v3=>aG s 1 fun v4=>aG s 2 fun v5=>Q (.tup [v3,v4,v5]) L)) ( bi d fun v6=>ae .eql v6 (N .i64 0) fun v7=>aj v7 ( Q (.tup [(.sc (.slice none 0 0)),a1,(N .i64 0)]) i) ( bi d fun v8=>ae .gtr v8 (N .i64 1) fun g=>aa g false (fun Z=>Z d i) (fun c=>c .undef i) fun v9 z=>aa g false (fun va=>bZ v9 (N .i64 0) 1 fun wa=>va wa z) (fun c=>c .undef z) fun wb m=>aa g false (fun vb=>ax m wb fun wc=>vb wc m) (fun c=>c .undef m) fun wd A=>aa g false (fun vc=>p4 [wd,(N .i64 1),(N .i64 9)] A fun we O=>vc we O) (fun c=>c .undef A) fun wf B=>aa g false (fun vd=>fw wf fun wg=>vd wg B) (fun c=>c .undef B) fun wh C=>ay g (Bo true) wh fun h=>aa h false (fun ve=>ve d C) (fun c=>c .undef C) fun wi D=>aa h false (fun vf=>bZ wi (N .i64 0) 1 fun wj=>vf wj D) (fun c=>c .undef D) fun wk o=>aa h false (fun vg=>ax o wk fun wl=>vg wl o) (fun c=>c .undef o) fun wm E=>aa h false (fun vh=>p5 [wm,(.fn (.func p6) [] [])] E fun wn P=>vh wn P) (fun c=>c .undef E) fun wo F=>aa h false (fun vj=>fw wo fun wp=>vj wp F) (fun c=>c .undef F) fun wq p=>ay h (Bo true) wq fun wr=>aj wr ( Q (.tup [(.sc (.slice none 0 0)),(N .i64 0),(N .i64 14)]) p) ( bZ d (N .i64 0) 1 fun ws=>ax p ws fun wt=>p7 [wt] p fun H q=>aG H 0 fun l=>aG H 1 fun w2=>ae .gtr l (N .i64 16384) fun wu=>aj wu ( Q (.tup [(.sc (.slice none 0 0)),(N .i64 0),(N .i64 2)]) q) ( bi a0 fun wv=>ae .sub wv a1 fun ww=>ae .gtr l ww fun wx=>aj wx ( Q (.tup [(.sc (.slice none 0 0)),(N .i64 0),(N .i64 15)]) q) ( ae .add a1 l fun wy=>bB (dL 1 a0 (some a1) (some wy) none) fun wz=>p8 [wz] q fun w0 R=>ae .add a1 l fun w1=>Q (.tup [w0,w1,(N .i64 0)]) R)))))
def jC (p1:Nat) (p2 p3:ak) (a0:AV) (M0:RM) (Q:ai) : Prop:=mU p1 a0 fun q n=>bf q n M0 fun j g=>aP j 0 fun s=>ax g s fun t=>p2 [t] g fun d h=>aa d true (fun c=>aP j 1 fun u=>c u h) (fun c=>c .undef h) fun v e=>aa d true (fun o=>ax e v fun w=>o w e) (fun c=>c .undef e) fun x i=>aa d true (fun p=>p3 [x] i fun y l=>p y l) (fun c=>c .undef i) fun z m=>ay d z (Bo false) fun r=>Q r m
def lh (p1:Nat) (p2 p3 p4:ak) (p5:Nat) (a0 a1 a2 a3 a4:AV) (M0:RM) (Q:ai) : Prop:=mU p1 a2 fun vp W=>bf vp W M0 fun H I=>bE .add a0 (St [13,10]) fun vr=>bi a1 fun vs=>cZ (fun vo j e=>ae .lss (ag j 1) vs fun vt=>aj vt ( bZ a1 (ag j 1) 2 fun vu=>aL e vu 2 fun vv=>bf (.row [(St []),(St [])] false p1 0) (fun V=>.ptr V 0) e fun d L=>az L d vv 2 fun t=>aP d 0 fun vw=>ax t vw fun vx=>p2 [vx] t fun vy x=>fw vy fun g=>aa g false (fun c=>aP d 1 fun vz=>c vz x) (fun c=>c .undef x) fun v0 p=>aa g false (fun vm=>ax p v0 fun v1=>vm v1 p) (fun c=>c .undef p) fun v2 F=>aa g false (fun vn=>p3 [v2] F fun v3 O=>vn v3 O) (fun c=>c .undef F) fun v4 r=>aa g false (fun Y=>fw v4 fun v5=>Y v5 r) (fun c=>c .undef r) fun v6 s=>ay g (Bo true) v6 fun h=>aa h false (fun Z=>aP d 0 fun v7=>Z v7 s) (fun c=>c .undef s) fun v8 n=>aa h false (fun va=>ax n v8 fun v9=>va v9 n) (fun c=>c .undef n) fun wa u=>aa h false (fun vb=>p4 [wa] u fun wb P=>vb wb P) (fun c=>c .undef u) fun wc v=>aa h false (fun vc=>bE .eql wc (St [116,114,97,110,115,102,101,114,45,101,110,99,111,100,105,110,103]) fun wd=>vc wd v) (fun c=>c .undef v) fun we w=>ay h (Bo true) we fun i=>aa i false (fun vd=>aP d 0 fun wf=>vd wf w) (fun c=>c .undef w) fun wg o=>aa i false (fun ve=>ax o wg fun wh=>ve wh o) (fun c=>c .undef o) fun wi y=>aa i false (fun vf=>p4 [wi] y fun wj R=>vf wj R) (fun c=>c .undef y) fun wk z=>aa i false (fun vg=>bE .eql wk (St [99,111,110,116,101,110,116,45,108,101,110,103,116,104]) fun wl=>vg wl z) (fun c=>c .undef z) fun wm l=>ay i (Bo true) wm fun wn=>aj wn ( Q (.tup [(.sc (.slice none 0 0)),(N .i64 1)]) l) ( aP d 0 fun wo=>ax l wo fun wp=>bE .add wp (St [58,32]) fun wq=>aP d 1 fun wr=>ax l wr fun ws=>bE .add wq ws fun wt=>bE .add wt (St [13,10]) fun wu=>bE .add (ag j 0) wu fun wv=>ae .add (ag j 1) (N .i64 1) fun ww=>vo [wv,ww] l)) ( aP H 0 fun wx=>ax e wx fun wy=>bE .add wy (St [58,32]) fun wz=>aP H 1 fun w0=>ax e w0 fun w1=>bE .add wz w1 fun w2=>bE .add w2 (St [13,10]) fun w3=>bE .add w3 (St [13,10]) fun w4=>bE .add (ag j 0) w4 fun G=>bi a1 fun w5=>ae .add w5 (N .i64 1) fun w6=>ae .gtr w6 (N .i64 32) fun m=>aa m false (fun vh=>vh G e) (fun c=>c .undef e) fun w7 A=>aa m false (fun vi=>aS w7 fun w8=>vi w8 A) (fun c=>c .undef A) fun w9 B=>aa m false (fun vj=>ae .gtr w9 (N .i64 2048) fun xa=>vj xa B) (fun c=>c .undef B) fun xb C=>ay m (Bo true) xb fun q=>aa q false (fun vk=>vk a3 C) (fun c=>c .undef C) fun xc D=>aa q false (fun vl=>ae .gtr xc (N .i64 16384) fun xd=>vl xd D) (fun c=>c .undef D) fun xe E=>ay q (Bo true) xe fun xf=>aj xf ( Q (.tup [(.sc (.slice none 0 0)),(N .i64 2)]) E) ( ji p5 G fun vq X=>bf vq X E fun xg S=>appW p5 1 1 [(N .u8 0)] false xg a4 S fun xh U=>Q (.tup [xh,(N .i64 0)]) U))) [vr,(N .i64 0)] I
def lQ (p1:Nat) (p2:ak) (a0:AV) (M0:RM) (Q:ai) : Prop:=bf (.row [(St []),(St [])] false p1 0) (fun h=>.ptr h 0) M0 fun d e=>p2 [a0] e fun j g=>dC [(St []),(St [])] [(0,1,(St [67,111,110,116,101,110,116,45,76,101,110,103,116,104])),(1,1,j)] fun l=>az g d l 2 fun c=>aL c d 2 fun i=>Q i c
def iK (p1 p2:ak) (p3 p4:Nat) (p5:ak) (a0 a1:AV) (M0:RM) (Q:ai) : Prop:=p1 [a0,(St [72,84,84,80,47,49,46,49,32])] M0 fun E n=>aG E 0 fun g=>aG E 1 fun vf=>fw vf fun h=>aa h false (fun c=>c g n) (fun c=>c .undef n) fun vg o=>aa h false (fun L=>aS vg fun vh=>L vh o) (fun c=>c .undef o) fun vi w=>aa h false (fun Z=>ae .lss vi (N .i64 4) fun vj=>Z vj w) (fun c=>c .undef w) fun vk B=>ay h (Bo true) vk fun d=>aa d false (fun vd=>vd g B) (fun c=>c .undef B) fun vl C=>aa d false (fun ve=>bB (bV vl none (some (N .i64 3))) fun vm=>ve vm C) (fun c=>c .undef C) fun vn p=>aa d false (fun O=>p2 [vn,(.fn (.func p3) [] [])] p fun vo F=>O vo F) (fun c=>c .undef p) fun vp q=>aa d false (fun P=>fw vp fun vq=>P vq q) (fun c=>c .undef q) fun vr r=>ay d (Bo true) vr fun i=>aa i false (fun R=>R g r) (fun c=>c .undef r) fun vs s=>aa i false (fun S=>bQ vs (N .i64 3) fun vt=>S vt s) (fun c=>c .undef s) fun vu t=>aa i false (fun U=>ae .neq vu (N .u8 32) fun vv=>U vv t) (fun c=>c .undef t) fun vw u=>ay i (Bo true) vw fun e=>aa e false (fun V=>V g u) (fun c=>c .undef u) fun vx v=>aa e false (fun W=>bB (bV vx (some (N .i64 3)) none) fun vy=>W vy v) (fun c=>c .undef v) fun vz x=>aa e false (fun X=>p2 [vz,(.fn (.func p4) [] [])] x fun v0 G=>X v0 G) (fun c=>c .undef x) fun v1 y=>aa e false (fun Y=>fw v1 fun v2=>Y v2 y) (fun c=>c .undef y) fun v3 z=>ay e (Bo true) v3 fun v4=>aj v4 ( Q (Bo false) z) ( bB (bV g none (some (N .i64 3))) fun v5=>p5 [v5] z fun D H=>aG D 0 fun v6=>aG D 1 fun wh=>aP a1 0 fun v7=>az H v7 v6 1 fun l=>aP a1 0 fun v8=>ax l v8 fun v9=>ae .geq v9 (N .i64 100) fun j=>aa j true (fun va=>aP a1 0 fun wa=>va wa l) (fun c=>c .undef l) fun wb m=>aa j true (fun vb=>ax m wb fun wc=>vb wc m) (fun c=>c .undef m) fun wd A=>aa j true (fun vc=>ae .leq wd (N .i64 599) fun we=>vc we A) (fun c=>c .undef A) fun wf I=>ay j wf (Bo false) fun wg=>Q wg I)
def oV (p1:Nat) (cv:(FuncId→ak)) (a0 a1:AV) (M0:RM) (Q:ai) : Prop:=ji p1 a0 fun l i=>bf l i M0 fun g h=>bi g fun s=>cZ (fun j d c=>ae .lss (ag d 0) s fun m=>aj m ( bZ g (ag d 0) 1 fun n=>ax c n fun o=>Ba cv a1 [o] c fun p e=>fw p fun q=>aj q ( Q (Bo false) e) ( ae .add (ag d 0) (N .i64 1) fun r=>j [r] e)) ( Q (Bo true) c)) [(N .i64 0)] h
def mJ (a0:AV) (M0:RM) (Q:ai) : Prop:=ae .geq a0 (N .u8 48) fun d=>aa d true (fun c=>c a0 M0) (fun c=>c .undef M0) fun i e=>aa d true (fun h=>ae .leq i (N .u8 57) fun j=>h j e) (fun c=>c .undef e) fun l g=>ay d l (Bo false) fun m=>Q m g
def il (a0:AV) (M0:RM) (Q:ai) : Prop:=ae .geq a0 (N .u8 32) fun d=>aa d true (fun c=>c a0 M0) (fun c=>c .undef M0) fun i e=>aa d true (fun h=>ae .leq i (N .u8 126) fun j=>h j e) (fun c=>c .undef e) fun l g=>ay d l (Bo false) fun m=>Q m g
def vD (a0:AV) (M0:RM) (Q:ai) : Prop:=cZ (fun t e g=>bi a0 fun I=>ae .sub I (N .i64 1) fun L=>ae .lss (ag e 0) L fun O=>aj O ( bZ a0 (ag e 0) 1 fun v=>ax g v fun w=>ae .eql w (N .u8 13) fun d=>aa d true (fun c=>c a0 g) (fun c=>c .undef g) fun x i=>aa d true (fun o=>o (ag e 0) i) (fun c=>c .undef i) fun y m=>aa d true (fun q=>ae .add y (N .i64 1) fun z=>q z m) (fun c=>c .undef m) fun A n=>aa d true (fun r=>bZ x A 1 fun B=>r B n) (fun c=>c .undef n) fun C h=>aa d true (fun s=>ax h C fun D=>s D h) (fun c=>c .undef h) fun E j=>aa d true (fun p=>ae .eql E (N .u8 10) fun F=>p F j) (fun c=>c .undef j) fun G l=>ay d G (Bo false) fun H=>aj H ( Q (ag e 0) l) ( ae .add (ag e 0) (N .i64 1) fun u=>t [u] l)) ( Q (N .i64 (-1)) g)) [(N .i64 0)] M0
def qx (p1:Nat) (p2 p3:ak) (a0 a1:AV) (M0:RM) (Q:ai) : Prop:=bf (.row [(St []),(St []),(N .i64 0),(.sc (.slice none 0 0)),(.sc (.slice none 0 0))] false p1 0) (fun s=>.ptr s 0) M0 fun e vw=>dC [(St []),(St []),(N .i64 0),(.sc (.slice none 0 0)),(.sc (.slice none 0 0))] [] fun xe=>bf (.row [(St []),(St []),(N .i64 0),(.sc (.slice none 0 0)),(.sc (.slice none 0 0))] false p1 0) (fun s=>.ptr s 0) vw fun d vx=>az vx d xe 5 fun x=>aj a1 ( cZ (fun wy h V=>aS a0 fun x0=>ae .lss (ag h 0) x0 fun m=>aa m true (fun c=>c a0 V) (fun c=>c .undef V) fun x1 Z=>aa m true (fun wf=>wf (ag h 0) Z) (fun c=>c .undef Z) fun x2 ve=>aa m true (fun wl=>bQ x1 x2 fun x3=>wl x3 ve) (fun c=>c .undef ve) fun x4 vo=>aa m true (fun wt=>ae .neq x4 (N .u8 32) fun x5=>wt x5 vo) (fun c=>c .undef vo) fun x6 P=>ay m x6 (Bo false) fun x7=>aj x7 ( ae .add (ag h 0) (N .i64 1) fun x8=>wy [x8] P) ( ae .add (ag h 0) (N .i64 1) fun x9=>cZ (fun wz i R=>aS a0 fun ya=>ae .lss (ag i 0) ya fun n=>aa n true (fun v6=>v6 a0 R) (fun c=>c .undef R) fun yb S=>aa n true (fun v7=>v7 (ag i 0) S) (fun c=>c .undef S) fun yc U=>aa n true (fun v8=>bQ yb yc fun yd=>v8 yd U) (fun c=>c .undef U) fun ye W=>aa n true (fun v9=>ae .neq ye (N .u8 32) fun yf=>v9 yf W) (fun c=>c .undef W) fun yg B=>ay n yg (Bo false) fun yh=>aj yh ( ae .add (ag i 0) (N .i64 1) fun yi=>wz [yi] B) ( aS a0 fun yj=>ae .geq (ag i 0) yj fun o=>aa o false (fun wa=>wa a0 B) (fun c=>c .undef B) fun yk X=>aa o false (fun wb=>wb (ag i 0) X) (fun c=>c .undef X) fun yl Y=>aa o false (fun wc=>bB (bV yk (some yl) none) fun ym=>wc ym Y) (fun c=>c .undef Y) fun yn va=>aa o false (fun wd=>bE .neq yn (St [32,72,84,84,80,47,49,46,49]) fun yo=>wd yo va) (fun c=>c .undef va) fun yp C=>ay o (Bo true) yp fun yq=>aj yq ( aL C d 5 fun yr=>az C e yr 5 fun vb=>aL vb e 5 fun w2=>Q (.tup [w2,(Bo false)]) vb) ( bB (bV a0 none (some (ag h 0))) fun ys=>aP d 0 fun yt=>az C yt ys 1 fun vz=>ae .add (ag h 0) (N .i64 1) fun yu=>bB (bV a0 (some yu) (some (ag i 0))) fun yv=>aP d 1 fun yw=>az vz yw yv 1 fun D=>aL D d 5 fun I=>aP d 0 fun yz=>ax D yz fun y0=>p2 [y0] D fun t E=>aL E d 5 fun yy=>(yy=I∧dP t true (fun we=>aP d 1 fun y1=>we y1 E none) (fun c=>c .undef E none) fun y2 F s=>dP t true (fun wg=>ax F y2 fun y3=>wg y3 F none) (fun c=>c .undef F none) fun y4 vc z1=>aa t true (fun wh=>p3 [y4] vc fun y5 v0=>wh y5 v0) (fun c=>c .undef vc) fun y6 vd=>aL vd d 5 fun yx=>(yx=I∧ay t y6 (Bo false) fun y7=>az vd e I 5 fun vf=>aL vf e 5 fun w5=>Q (.tup [w5,y7]) vf))))) [x9] P)) [(N .i64 0)] x) ( aS a0 fun y8=>ae .lss y8 (N .i64 13) fun u=>aa u false (fun wi=>wi a0 x) (fun c=>c .undef x) fun y9 vg=>aa u false (fun wj=>bB (bV y9 none (some (N .i64 9))) fun za=>wj za vg) (fun c=>c .undef vg) fun zb vh=>aa u false (fun wk=>bE .neq zb (St [72,84,84,80,47,49,46,49,32]) fun zc=>wk zc vh) (fun c=>c .undef vh) fun zd vi=>ay u (Bo true) zd fun v=>aa v false (fun wm=>wm a0 vi) (fun c=>c .undef vi) fun ze vj=>aa v false (fun wn=>bQ ze (N .i64 12) fun zf=>wn zf vj) (fun c=>c .undef vj) fun zg vk=>aa v false (fun wo=>ae .neq zg (N .u8 32) fun zh=>wo zh vk) (fun c=>c .undef vk) fun zi G=>ay v (Bo true) zi fun zj=>aj zj ( aL G d 5 fun zk=>az G e zk 5 fun vl=>aL vl e 5 fun w6=>Q (.tup [w6,(Bo false)]) vl) ( cZ (fun w0 q H=>ae .lss (ag q 0) (N .i64 12) fun zl=>aj zl ( bQ a0 (ag q 0) fun zn=>ae .lss zn (N .u8 48) fun p=>aa p false (fun wp=>wp a0 H) (fun c=>c .undef H) fun zo vm=>aa p false (fun wq=>wq (ag q 0) vm) (fun c=>c .undef vm) fun zp vn=>aa p false (fun wr=>bQ zo zp fun zq=>wr zq vn) (fun c=>c .undef vn) fun zr vp=>aa p false (fun ws=>ae .gtr zr (N .u8 57) fun zs=>ws zs vp) (fun c=>c .undef vp) fun zt r=>ay p (Bo true) zt fun zu=>aj zu ( aL r d 5 fun zv=>az r e zv 5 fun vq=>aL vq e 5 fun w7=>Q (.tup [w7,(Bo false)]) vq) ( aP d 2 fun zw=>ax r zw fun zx=>ae .mul (N .i64 10) zx fun w8=>bQ a0 (ag q 0) fun w9=>ae .sub w9 (N .u8 48) fun xa=>gP .i64 xa fun xb=>ae .add w8 xb fun xc=>aP d 2 fun xd=>az r xd xc 1 fun v1=>ae .add (ag q 0) (N .i64 1) fun zm=>w0 [zm] v1)) ( cZ (fun w1 w g=>aS a0 fun xf=>ae .lss (ag w 0) xf fun xg=>aj xg ( bQ a0 (ag w 0) fun xi=>ae .lss xi (N .u8 32) fun j=>aa j false (fun wu=>wu a0 g) (fun c=>c .undef g) fun xj vr=>aa j false (fun wv=>wv (ag w 0) vr) (fun c=>c .undef vr) fun xk vs=>aa j false (fun ww=>bQ xj xk fun xl=>ww xl vs) (fun c=>c .undef vs) fun xm vt=>aa j false (fun wx=>ae .gtr xm (N .u8 126) fun xn=>wx xn vt) (fun c=>c .undef vt) fun xo y=>ay j (Bo true) xo fun xp=>aj xp ( aL y d 5 fun xq=>az y e xq 5 fun L=>aL L e 5 fun w3=>Q (.tup [w3,(Bo false)]) L) ( ae .add (ag w 0) (N .i64 1) fun xh=>w1 [xh] y)) ( aL g d 5 fun xr=>aP d 2 fun xs=>ax g xs fun xt=>ae .geq xt (N .i64 100) fun l=>dP l true (fun v2=>aP d 2 fun xu=>v2 xu g none) (fun c=>c .undef g none) fun vu z zy=>dP l true (fun v3=>ax z vu fun xv=>v3 xv z none) (fun c=>c .undef z none) fun vv O zz=>dP l true (fun v4=>ae .leq vv (N .i64 599) fun xx=>v4 xx O none) (fun c=>c .undef O none) fun xy vy z0=>ay l xy (Bo false) fun xz=>az vy e xr 5 fun A=>vW l true (fun v5=>ax A vu fun xw=>(xw=vv∧v5)) (fun c=>c) (aL A e 5 fun w4=>Q (.tup [w4,xz]) A))) [(N .i64 13)] H)) [(N .i64 9)] G))
def pQ (p1:Nat) (p2 p3 p4:ak) (a0:AV) (M0:RM) (Q:ai) : Prop:=bf (.row [(St []),(St [])] false p1 0) (fun B=>.ptr B 0) M0 fun h x=>cZ (fun O d j=>aS a0 fun vr=>ae .lss (ag d 0) vr fun g=>aa g true (fun c=>c a0 j) (fun c=>c .undef j) fun S l=>aa g true (fun G=>G (ag d 0) l) (fun c=>c .undef l) fun U t=>aa g true (fun I=>bQ S U fun V=>I V t) (fun c=>c .undef t) fun W u=>aa g true (fun L=>ae .neq W (N .u8 58) fun X=>L X u) (fun c=>c .undef u) fun Y i=>ay g Y (Bo false) fun Z=>aj Z ( ae .add (ag d 0) (N .i64 1) fun va=>O [va] i) ( aS a0 fun vb=>ae .eql (ag d 0) vb fun e=>aa e false (fun C=>C a0 i) (fun c=>c .undef i) fun vc m=>aa e false (fun D=>D (ag d 0) m) (fun c=>c .undef m) fun vd n=>aa e false (fun E=>bB (bV vc none (some vd)) fun ve=>E ve n) (fun c=>c .undef n) fun vf o=>aa e false (fun F=>p2 [vf] o fun vg y=>F vg y) (fun c=>c .undef o) fun vh p=>aa e false (fun H=>fw vh fun vi=>H vi p) (fun c=>c .undef p) fun vj q=>ay e (Bo true) vj fun vk=>aj vk ( dC [(St []),(St [])] [] fun vl=>az q h vl 2 fun r=>aL r h 2 fun P=>Q (.tup [P,(Bo false)]) r) ( ae .add (ag d 0) (N .i64 1) fun vm=>bB (bV a0 (some vm) none) fun vn=>p3 [vn] q fun v z=>bB (bV a0 none (some (ag d 0))) fun w=>dC [(St []),(St [])] [(0,1,w),(1,1,v)] fun vp=>p4 [v] z fun vq A=>bB (bV a0 none (some (ag d 0))) fun vo=>(vo=w∧az A h vp 2 fun s=>aL s h 2 fun R=>Q (.tup [R,vq]) s)))) [(N .i64 0)] x
def qA (p1:ak) (a0:AV) (M0:RM) (Q:ai) : Prop:=cZ (fun ve d l=>bi a0 fun vg=>ae .lss (ag d 3) vg fun vh=>aj vh ( eG (fun n=>bZ a0 (ag d 3) 2 fun vj=>aP vj 0 fun vk=>ax l vk fun vl=>p1 [vl] l fun I g=>bE .eql I (St [116,114,97,110,115,102,101,114,45,101,110,99,111,100,105,110,103]) fun vm=>aj vm ( ae .add (ag d 0) (N .i64 1) fun vn=>bZ a0 (ag d 3) 2 fun vo=>aP vo 1 fun vp=>ax g vp fun vq=>p1 [vq] g fun vr t=>bE .neq vr (St [99,104,117,110,107,101,100]) fun vs=>aj vs ( Q (.tup [(N .i64 0),(Bo false),(N .i64 14)]) t) ( n [vn,(ag d 1),(ag d 2)] t)) ( bE .eql I (St [99,111,110,116,101,110,116,45,108,101,110,103,116,104]) fun vt=>aj vt ( ae .add (ag d 1) (N .i64 1) fun vu=>bZ a0 (ag d 3) 2 fun vv=>aP vv 1 fun vw=>ax g vw fun h=>aS h fun vx=>ae .lss vx (N .i64 1) fun m=>aa m false (fun c=>c h g) (fun c=>c .undef g) fun vy x=>aa m false (fun X=>aS vy fun vz=>X vz x) (fun c=>c .undef x) fun v0 G=>aa m false (fun vd=>ae .gtr v0 (N .i64 9) fun v1=>vd v1 G) (fun c=>c .undef G) fun v2 H=>ay m (Bo true) v2 fun v3=>aj v3 ( Q (.tup [(N .i64 0),(Bo false),(N .i64 14)]) H) ( cZ (fun vf e o=>aS h fun v4=>ae .lss (ag e 1) v4 fun v5=>aj v5 ( bQ h (ag e 1) fun v7=>ae .lss v7 (N .u8 48) fun i=>aa i false (fun O=>O h o) (fun c=>c .undef o) fun v8 u=>aa i false (fun P=>P (ag e 1) u) (fun c=>c .undef u) fun v9 v=>aa i false (fun R=>bQ v8 v9 fun wa=>R wa v) (fun c=>c .undef v) fun wb w=>aa i false (fun S=>ae .gtr wb (N .u8 57) fun wc=>S wc w) (fun c=>c .undef w) fun wd y=>ay i (Bo true) wd fun we=>aj we ( Q (.tup [(N .i64 0),(Bo false),(N .i64 14)]) y) ( ae .mul (N .i64 10) (ag e 0) fun wf=>bQ h (ag e 1) fun wg=>ae .sub wg (N .u8 48) fun wh=>gP .i64 wh fun wi=>ae .add wf wi fun wj=>ae .add (ag e 1) (N .i64 1) fun v6=>vf [wj,v6] y)) ( n [(ag d 0),vu,(ag e 0)] o)) [(N .i64 0),(N .i64 0)] H)) ( n [(ag d 0),(ag d 1),(ag d 2)] g))) (fun s L=>ae .add (ag d 3) (N .i64 1) fun vi=>ve [(ag s 0),(ag s 1),(ag s 2),vi] L)) ( ae .gtr (ag d 0) (N .i64 1) fun q=>aa q false (fun U=>U (ag d 1) l) (fun c=>c .undef l) fun wk z=>aa q false (fun V=>ae .gtr wk (N .i64 1) fun wl=>V wl z) (fun c=>c .undef z) fun wm A=>ay q (Bo true) wm fun j=>aa j false (fun W=>W (ag d 0) A) (fun c=>c .undef A) fun wn B=>aa j false (fun Y=>ae .gtr wn (N .i64 0) fun wo=>Y wo B) (fun c=>c .undef B) fun wp C=>aa j false (fun Z=>Z wp C) (fun c=>c .undef C) fun r D=>aa r true (fun va=>va (ag d 1) D) (fun c=>c .undef D) fun wq E=>aa r true (fun vb=>ae .gtr wq (N .i64 0) fun wr=>vb wr E) (fun c=>c .undef E) fun ws F=>aa j false (fun vc=>ay r ws (Bo false) fun wt=>vc wt F) (fun c=>c .undef F) fun wu p=>ay j (Bo true) wu fun wv=>aj wv ( Q (.tup [(N .i64 0),(Bo false),(N .i64 14)]) p) ( ae .gtr (ag d 2) (N .i64 16384) fun ww=>aj ww ( Q (.tup [(N .i64 0),(Bo false),(N .i64 2)]) p) ( ae .eql (ag d 0) (N .i64 1) fun wx=>Q (.tup [(ag d 2),wx,(N .i64 0)]) p)))) [(N .i64 0),(N .i64 0),(N .i64 0),(N .i64 0)] M0
def oL (p1:Nat) (p2 p3:ak) (a0:AV) (M0:RM) (Q:ai) : Prop:=L9 p1 1 [(N .u8 0)] (N .i64 0) (N .i64 0) fun G z=>bf G z M0 fun H x=>cZ (fun F e y=>bB (dL 1 a0 (some (ag e 1)) none none) fun I=>p2 [I] y fun o h=>ae .lss o (N .i64 0) fun L=>aj L ( bi a0 fun O=>ae .sub O (ag e 1) fun P=>ae .gtr P (N .i64 10) fun R=>aj R ( Q (.tup [(.sc (.slice none 0 0)),(N .i64 0),(N .i64 14)]) h) ( Q (.tup [(.sc (.slice none 0 0)),(N .i64 0),(N .i64 15)]) h)) ( ae .add (ag e 1) o fun S=>bB (dL 1 a0 (some (ag e 1)) (some S) none) fun U=>dR h U fun V=>p3 [V] h fun u i=>aG u 0 fun g=>aG u 1 fun W=>fw W fun X=>aj X ( Q (.tup [(.sc (.slice none 0 0)),(N .i64 0),(N .i64 14)]) i) ( bi (ag e 0) fun Y=>ae .sub (N .i64 16384) Y fun Z=>ae .gtr g Z fun va=>aj va ( Q (.tup [(.sc (.slice none 0 0)),(N .i64 0),(N .i64 2)]) i) ( ae .add (ag e 1) o fun vb=>ae .add vb (N .i64 2) fun j=>bi a0 fun vc=>ae .sub vc j fun vd=>ae .add g (N .i64 2) fun ve=>ae .lss vd ve fun vf=>aj vf ( Q (.tup [(.sc (.slice none 0 0)),(N .i64 0),(N .i64 15)]) i) ( ae .add j g fun vg=>bB (dL 1 a0 (some j) (some vg) none) fun vh=>appW p1 1 1 [(N .u8 0)] false (ag e 0) vh i fun v n=>ae .add j g fun p=>bZ a0 p 1 fun vi=>ax n vi fun vj=>ae .neq vj (N .u8 13) fun d=>aa d false (fun c=>c a0 n) (fun c=>c .undef n) fun vk r=>aa d false (fun D=>D p r) (fun c=>c .undef r) fun vl s=>aa d false (fun E=>ae .add vl (N .i64 1) fun vm=>E vm s) (fun c=>c .undef s) fun vn t=>aa d false (fun A=>bZ vk vn 1 fun vo=>A vo t) (fun c=>c .undef t) fun vp l=>aa d false (fun B=>ax l vp fun vq=>B vq l) (fun c=>c .undef l) fun vr q=>aa d false (fun C=>ae .neq vr (N .u8 10) fun vs=>C vs q) (fun c=>c .undef q) fun vt m=>ay d (Bo true) vt fun vu=>aj vu ( Q (.tup [(.sc (.slice none 0 0)),(N .i64 0),(N .i64 14)]) m) ( ae .add p (N .i64 2) fun w=>ae .eql g (N .i64 0) fun vv=>aj vv ( Q (.tup [v,w,(N .i64 0)]) m) ( F [v,w] m))))))) [H,(N .i64 0)] x
def nS (p1:Nat) (a0:AV) (M0:RM) (Q:ai) : Prop:=cZ (fun i c d=>bi a0 fun v=>ae .lss (ag c 1) v fun w=>aj w ( bZ a0 (ag c 1) 2 fun m=>aP m 0 fun n=>ax d n fun o=>bZ a0 (ag c 1) 2 fun p=>aP p 1 fun q=>ax d q fun r=>dC [(St []),(St [])] [(0,1,o),(1,1,r)] fun s=>dX p1 1 [(St []),(St [])] [(0,2,s)] fun j h=>uM j h d fun t e x=>appW p1 2 32 [(St []),(St [])] false (ag c 0) t e fun u g=>ae .add (ag c 1) (N .i64 1) fun l=>i [u,l] g) ( Q (ag c 0) d)) [(.sc (.slice none 0 0)),(N .i64 0)] M0
def vH (p1:Nat) (a0:AV) (M0:RM) (Q:ai) : Prop:=iH false 2 a0 (.sc (.slice none 0 0)) fun h=>aj h ( Q (.sc (.slice none 0 0)) M0) ( dX p1 0 [(N .i64 0)] [] fun g e=>bf g e M0 fun i c=>appW p1 1 8 [(N .i64 0)] false i a0 c fun j d=>Q j d)
def qC (p1:Nat) (p2:ak) (p3:Nat) (a0:AV) (M0:RM) (Q:ai) : Prop:=bi a0 fun p=>cZ (fun n c e=>ae .lss (ag c 1) p fun q=>aj q ( eG (fun i=>bZ a0 (ag c 1) 1 fun r=>ax e r fun s=>bi s fun t=>ae .add (ag c 0) t fun h=>ae .lss h (N .i64 0) fun u=>aj u ( False) ( i [h] e)) (fun D j=>ae .add (ag c 1) (N .i64 1) fun v=>n [(ag D 0),v] j)) ( p2 [(.sc (.slice none 0 0)),(ag c 0)] e fun w l=>bi a0 fun x=>cZ (fun o d g=>ae .lss (ag d 1) x fun y=>aj y ( bZ a0 (ag d 1) 1 fun z=>ax g z fun A=>appW p3 1 1 [(N .u8 0)] false (ag d 0) A g fun B m=>ae .add (ag d 1) (N .i64 1) fun C=>o [B,C] m) ( Q (ag d 0) g)) [w,(N .i64 0)] l)) [(N .i64 0),(N .i64 0)] M0
def oJ (p1:ak) (a0 a1:AV) (M0:RM) (Q:ai) : Prop:=p1 [a0,a1] M0 fun d c=>Q d c
def pq (a0:AV) (M0:RM) (Q:ai) : Prop:=cZ (fun w h e=>aS a0 fun R=>ae .lss (ag h 0) R fun S=>aj S ( bQ a0 (ag h 0) fun x=>ae .lss x (N .u8 65) fun d=>aa d false (fun c=>c a0 e) (fun c=>c .undef e) fun y i=>aa d false (fun q=>q (ag h 0) i) (fun c=>c .undef i) fun z m=>aa d false (fun t=>bQ y z fun A=>t A m) (fun c=>c .undef m) fun B n=>aa d false (fun u=>ae .gtr B (N .u8 90) fun C=>u C n) (fun c=>c .undef n) fun D o=>ay d (Bo true) D fun E=>aj E ( Q (Bo false) o) ( ae .add (ag h 0) (N .i64 1) fun U=>w [U] o)) ( aS a0 fun F=>ae .geq F (N .i64 1) fun g=>aa g true (fun v=>v a0 e) (fun c=>c .undef e) fun G j=>aa g true (fun r=>aS G fun H=>r H j) (fun c=>c .undef j) fun I l=>aa g true (fun s=>ae .leq I (N .i64 8) fun L=>s L l) (fun c=>c .undef l) fun O p=>ay g O (Bo false) fun P=>Q P p)) [(N .i64 0)] M0
def rT (a0:AV) (M0:RM) (Q:ai) : Prop:=cZ (fun D i e=>aS a0 fun ve=>ae .lss (ag i 0) ve fun vf=>aj vf ( bQ a0 (ag i 0) fun E=>ae .lss E (N .u8 33) fun d=>aa d false (fun c=>c a0 e) (fun c=>c .undef e) fun F j=>aa d false (fun u=>u (ag i 0) j) (fun c=>c .undef j) fun G p=>aa d false (fun A=>bQ F G fun H=>A H p) (fun c=>c .undef p) fun I r=>aa d false (fun B=>ae .gtr I (N .u8 126) fun L=>B L r) (fun c=>c .undef r) fun O s=>ay d (Bo true) O fun P=>aj P ( Q (Bo false) s) ( ae .add (ag i 0) (N .i64 1) fun vg=>D [vg] s)) ( aS a0 fun R=>ae .geq R (N .i64 1) fun g=>aa g true (fun C=>C a0 e) (fun c=>c .undef e) fun S l=>aa g true (fun v=>bQ S (N .i64 0) fun U=>v U l) (fun c=>c .undef l) fun V m=>aa g true (fun w=>ae .eql V (N .u8 47) fun W=>w W m) (fun c=>c .undef m) fun X n=>ay g X (Bo false) fun h=>aa h true (fun x=>x a0 n) (fun c=>c .undef n) fun Y o=>aa h true (fun y=>aS Y fun Z=>y Z o) (fun c=>c .undef o) fun va q=>aa h true (fun z=>ae .leq va (N .i64 201) fun vb=>z vb q) (fun c=>c .undef q) fun vc t=>ay h vc (Bo false) fun vd=>Q vd t)) [(N .i64 0)] M0
def sI (a0:AV) (M0:RM) (Q:ai) : Prop:=cZ (fun vg o h=>aS a0 fun wd=>ae .lss (ag o 0) wd fun we=>aj we ( bQ a0 (ag o 0) fun d=>ae .geq d (N .u8 97) fun j=>aa j true (fun c=>c d h) (fun c=>c .undef h) fun vi p=>aa j true (fun I=>ae .leq vi (N .u8 122) fun vj=>I vj p) (fun c=>c .undef p) fun vk y=>ay j vk (Bo false) fun e=>aa e false (fun vb=>vb d y) (fun c=>c .undef y) fun vl F=>aa e false (fun ve=>ae .geq vl (N .u8 65) fun vm=>ve vm F) (fun c=>c .undef F) fun vn G=>aa e false (fun vf=>vf vn G) (fun c=>c .undef G) fun l q=>aa l true (fun L=>L d q) (fun c=>c .undef q) fun vo r=>aa l true (fun O=>ae .leq vo (N .u8 90) fun vp=>O vp r) (fun c=>c .undef r) fun vq s=>aa e false (fun P=>ay l vq (Bo false) fun vr=>P vr s) (fun c=>c .undef s) fun vs t=>ay e (Bo true) vs fun g=>aa g false (fun R=>R d t) (fun c=>c .undef t) fun vt u=>aa g false (fun S=>ae .geq vt (N .u8 48) fun vu=>S vu u) (fun c=>c .undef u) fun vv v=>aa g false (fun U=>U vv v) (fun c=>c .undef v) fun m w=>aa m true (fun V=>V d w) (fun c=>c .undef w) fun vw x=>aa m true (fun W=>ae .leq vw (N .u8 57) fun vx=>W vx x) (fun c=>c .undef x) fun vy z=>aa g false (fun X=>ay m vy (Bo false) fun vz=>X vz z) (fun c=>c .undef z) fun v0 A=>ay g (Bo true) v0 fun n=>aa n false (fun Y=>Y d A) (fun c=>c .undef A) fun v1 B=>aa n false (fun Z=>ae .eql v1 (N .u8 45) fun v2=>Z v2 B) (fun c=>c .undef B) fun v3 C=>ay n (Bo true) v3 fun v4=>fw v4 fun v5=>aj v5 ( Q (Bo false) C) ( ae .add (ag o 0) (N .i64 1) fun vh=>vg [vh] C)) ( aS a0 fun v6=>ae .geq v6 (N .i64 1) fun i=>aa i true (fun va=>va a0 h) (fun c=>c .undef h) fun v7 D=>aa i true (fun vc=>aS v7 fun v8=>vc v8 D) (fun c=>c .undef D) fun v9 E=>aa i true (fun vd=>ae .leq v9 (N .i64 40) fun wa=>vd wa E) (fun c=>c .undef E) fun wb H=>ay i wb (Bo false) fun wc=>Q wc H)) [(N .i64 0)] M0
def qp (p1:ak) (a0:AV) (M0:RM) (Q:ai) : Prop:=cZ (fun vm i j=>aS a0 fun wq=>ae .lss (ag i 0) wq fun wr=>aj wr ( bQ a0 (ag i 0) fun vn=>ae .neq vn (N .u8 9) fun e=>aa e true (fun c=>c a0 j) (fun c=>c .undef j) fun vo l=>aa e true (fun O=>O (ag i 0) l) (fun c=>c .undef l) fun vp q=>aa e true (fun Z=>bQ vo vp fun vq=>Z vq q) (fun c=>c .undef q) fun vr C=>aa e true (fun vk=>ae .lss vr (N .u8 32) fun vs=>vk vs C) (fun c=>c .undef C) fun vt G=>aa e true (fun vl=>vl vt G) (fun c=>c .undef G) fun h m=>aa h false (fun P=>P a0 m) (fun c=>c .undef m) fun vu n=>aa h false (fun R=>R (ag i 0) n) (fun c=>c .undef n) fun vv o=>aa h false (fun S=>bQ vu vv fun vw=>S vw o) (fun c=>c .undef o) fun vx p=>aa h false (fun U=>ae .gtr vx (N .u8 126) fun vy=>U vy p) (fun c=>c .undef p) fun vz r=>aa e true (fun V=>ay h (Bo true) vz fun v0=>V v0 r) (fun c=>c .undef r) fun v1 s=>ay e v1 (Bo false) fun v2=>aj v2 ( Q (Bo false) s) ( ae .add (ag i 0) (N .i64 1) fun ws=>vm [ws] s)) ( aS a0 fun v3=>ae .eql v3 (N .i64 0) fun g=>aa g false (fun W=>W a0 j) (fun c=>c .undef j) fun v4 t=>aa g false (fun X=>bQ v4 (N .i64 0) fun v5=>X v5 t) (fun c=>c .undef t) fun v6 u=>aa g false (fun Y=>p1 [v6] u fun v7 H=>Y v7 H) (fun c=>c .undef u) fun v8 v=>aa g false (fun va=>fw v8 fun v9=>va v9 v) (fun c=>c .undef v) fun wa w=>aa g false (fun vb=>vb wa w) (fun c=>c .undef w) fun d x=>aa d true (fun vc=>vc a0 x) (fun c=>c .undef x) fun wb y=>aa d true (fun vd=>vd a0 y) (fun c=>c .undef y) fun wc z=>aa d true (fun ve=>aS wc fun wd=>ve wd z) (fun c=>c .undef z) fun we A=>aa d true (fun vf=>ae .sub we (N .i64 1) fun wf=>vf wf A) (fun c=>c .undef A) fun wg B=>aa d true (fun vg=>bQ wb wg fun wh=>vg wh B) (fun c=>c .undef B) fun wi D=>aa d true (fun vh=>p1 [wi] D fun wj I=>vh wj I) (fun c=>c .undef D) fun wk E=>aa d true (fun vi=>fw wk fun wl=>vi wl E) (fun c=>c .undef E) fun wm F=>aa g false (fun vj=>ay d wm (Bo false) fun wn=>vj wn F) (fun c=>c .undef F) fun wo L=>ay g (Bo true) wo fun wp=>Q wp L)) [(N .i64 0)] M0
def mO (p1:ak) (a0 a1:AV) (M0:RM) (Q:ai) : Prop:=p1 [a0,a1] M0 fun d c=>bi d fun e=>ae .gtr e (N .i64 0) fun g=>aj g ( bZ d (N .i64 0) 1 fun h=>ax c h fun i=>Q (.tup [i,(Bo true)]) c) ( Q (.tup [(St []),(Bo false)]) c)
def nV (p1:Nat) (p2:ak) (a0 a1:AV) (M0:RM) (Q:ai) : Prop:=bi a0 fun j=>Et false j (N .i64 2048) fun l=>bB (dL 1 a0 (some a1) (some l) none) fun m=>dX p1 2 [(N .u8 0)] [(0,1,(N .u8 13)),(1,1,(N .u8 10))] fun i h=>bf i h M0 fun n e=>qH n e fun o g=>p2 [m,o] g fun d c=>ae .geq d (N .i64 0) fun p=>aj p ( ae .add a1 d fun q=>bB (dL 1 a0 (some a1) (some q) none) fun r=>dR c r fun s=>ae .add a1 d fun t=>ae .add t (N .i64 2) fun u=>Q (.tup [s,u,(N .i64 0)]) c) ( bi a0 fun v=>ae .lss v (N .i64 2048) fun w=>aj w ( Q (.tup [(St []),(N .i64 0),(N .i64 15)]) c) ( Q (.tup [(St []),(N .i64 0),(N .i64 2)]) c))
def l9 (p1:Nat) (p2 p3 p4 p5:ak) (a0:AV) (M0:RM) (Q:ai) : Prop:=bf (.row [(St []),(St [])] false p1 0) (fun e=>.ptr e 0) M0 fun t u=>p2 [a0,(St [58])] u fun n v=>aG n 0 fun G=>aG n 1 fun H=>aG n 2 fun g=>p3 [H,(St [32,9])] v fun I w=>dC [(St []),(St [])] [(0,1,G),(1,1,I)] fun L=>bf (.row [(St []),(St [])] false p1 0) (fun e=>.ptr e 0) w fun d y=>az y d L 2 fun l=>aL l d 2 fun o=>dP g true (fun c=>aP d 0 fun R=>c R l none) (fun c=>c .undef l none) fun S m e=>dP g true (fun E=>ax m S fun U=>E U m none) (fun c=>c .undef m none) fun V s vh=>aa g true (fun A=>p4 [V] s fun W x=>A W x) (fun c=>c .undef s) fun X i=>aL i d 2 fun P=>(P=o∧ay g X (Bo false) fun h=>dP h true (fun B=>aP d 1 fun Y=>B Y i none) (fun c=>c .undef i none) fun Z j vf=>dP h true (fun C=>ax j Z fun va=>C va j none) (fun c=>c .undef j none) fun vb p vg=>aa h true (fun D=>p5 [vb] p fun vc z=>D vc z) (fun c=>c .undef p) fun vd q=>aL q d 2 fun O=>(O=o∧ay h vd (Bo false) fun ve=>az q t o 2 fun r=>aL r t 2 fun F=>Q (.tup [F,ve]) r))
def mh (a0 a1 a2:AV) (M0:RM) (Q:ai) : Prop:=aS a0 fun u=>ae .geq u a1 fun d=>aa d true (fun c=>c a0 M0) (fun c=>c .undef M0) fun n e=>aa d true (fun j=>aS n fun o=>j o e) (fun c=>c .undef e) fun p g=>aa d true (fun l=>l a2 g) (fun c=>c .undef g) fun q h=>aa d true (fun m=>ae .leq p q fun r=>m r h) (fun c=>c .undef h) fun s i=>ay d s (Bo false) fun t=>Q t i
def mY (a0:AV) (M0:RM) (Q:ai) : Prop:=ae .geq a0 (N .u8 65) fun d=>aa d true (fun c=>c a0 M0) (fun c=>c .undef M0) fun i e=>aa d true (fun h=>ae .leq i (N .u8 90) fun j=>h j e) (fun c=>c .undef e) fun l g=>ay d l (Bo false) fun m=>Q m g
def lM (a0:AV) (M0:RM) (Q:ai) : Prop:=ae .geq a0 (N .u8 33) fun d=>aa d true (fun c=>c a0 M0) (fun c=>c .undef M0) fun i e=>aa d true (fun h=>ae .leq i (N .u8 126) fun j=>h j e) (fun c=>c .undef e) fun l g=>ay d l (Bo false) fun m=>Q m g
def mP (p1:Nat) (p2:ak) (p3:Nat) (a0 a1:AV) (M0:RM) (Q:ai) : Prop:=bi a0 fun G=>cZ (fun r c d=>ae .lss (ag c 1) G fun t=>aj t ( eG (fun h=>bZ a0 (ag c 1) 2 fun u=>aL d u 2 fun v=>bf (.row [(St []),(St [])] false p1 0) (fun p=>.ptr p 0) d fun g j=>az j g v 2 fun i=>aP g 0 fun w=>ax i w fun x=>p2 [x] i fun y l=>p2 [a1] l fun z e=>bE .eql y z fun A=>aj A ( aP g 1 fun B=>ax e B fun C=>dX p3 1 [(St [])] [(0,1,C)] fun s q=>bf s q e fun D m=>appW p3 1 16 [(St [])] false (ag c 0) D m fun E n=>h [E] n) ( h [(ag c 0)] e)) (fun H o=>ae .add (ag c 1) (N .i64 1) fun F=>r [(ag H 0),F] o)) ( Q (ag c 0) d)) [(.sc (.slice none 0 0)),(N .i64 0)] M0
def mZ (p1:Nat) (a0:AV) (M0:RM) (Q:ai) : Prop:=ji p1 a0 fun t q=>bf t q M0 fun e n=>bi e fun F=>cZ (fun s g c=>ae .lss (ag g 0) F fun u=>aj u ( eG (fun j=>bZ e (ag g 0) 1 fun v=>ax c v fun h=>ae .geq h (N .u8 65) fun i=>aa i true (fun d=>d h c) (fun d=>d .undef c) fun w l=>aa i true (fun r=>ae .leq w (N .u8 90) fun x=>r x l) (fun d=>d .undef l) fun y m=>ay i y (Bo false) fun z=>aj z ( ae .add h (N .u8 97) fun A=>ae .sub A (N .u8 65) fun B=>bZ e (ag g 0) 1 fun C=>az m C B 1 fun o=>j [] o) ( j [] m)) (fun G p=>ae .add (ag g 0) (N .i64 1) fun D=>s [D] p)) ( dR c e fun E=>Q E c)) [(N .i64 0)] n
def lI (p1:ak) (p2:Nat) (a0 a1:AV) (M0:RM) (Q:ai) : Prop:=cZ (fun n g l=>p1 [a0,(ag g 0)] l fun h c=>aG h 0 fun d=>aG h 1 fun e=>aG h 2 fun i=>ae .neq i (N .i64 0) fun o=>aj o ( Q (.tup [(.sc (.slice none 0 0)),(N .i64 0),i]) c) ( bi (ag g 1) fun p=>ae .sub (N .i64 16384) p fun q=>ae .gtr d q fun r=>aj r ( Q (.tup [(.sc (.slice none 0 0)),(N .i64 0),(N .i64 2)]) c) ( ae .add d (N .i64 2) fun s=>bi a0 fun t=>ae .sub t e fun u=>ae .gtr s u fun v=>aj v ( Q (.tup [(.sc (.slice none 0 0)),(N .i64 0),(N .i64 15)]) c) ( ae .add e d fun w=>ae .add e d fun x=>ae .add x (N .i64 2) fun y=>bB (dL 1 a0 (some w) (some y) none) fun z=>dR c z fun A=>bE .neq A (St [13,10]) fun B=>aj B ( Q (.tup [(.sc (.slice none 0 0)),(N .i64 0),(N .i64 14)]) c) ( ae .add e d fun C=>ae .add C (N .i64 2) fun j=>ae .eql d (N .i64 0) fun D=>aj D ( Q (.tup [(ag g 1),j,(N .i64 0)]) c) ( ae .add e d fun E=>bB (dL 1 a0 (some e) (some E) none) fun F=>appW p2 1 1 [(N .u8 0)] false (ag g 1) F c fun G m=>n [j,G] m)))))) [a1,(.sc (.slice none 0 0))] M0
def kJ (p1 p2 p3:ak) (p4:Nat) (a0:AV) (M0:RM) (Q:ai) : Prop:=p1 [a0,(N .i64 1),(N .i64 40)] M0 fun d e=>aa d true (fun c=>c a0 e) (fun c=>c .undef e) fun o g=>aa d true (fun m=>p2 [o] g fun p i=>m p i) (fun c=>c .undef g) fun q h=>aa d true (fun n=>p3 [q,(.fn (.func p4) [] [])] h fun r j=>n r j) (fun c=>c .undef h) fun s l=>ay d s (Bo false) fun t=>Q t l
def kg (p1 p2:ak) (p3:Nat) (a0:AV) (M0:RM) (Q:ai) : Prop:=p1 [a0,(St [32,9])] M0 fun m e=>bE .eql a0 m fun d=>aa d true (fun c=>c a0 e) (fun c=>c .undef e) fun n g=>aa d true (fun j=>p2 [n,(.fn (.func p3) [] [])] g fun o h=>j o h) (fun c=>c .undef g) fun p i=>ay d p (Bo false) fun l=>Q l i
def sO (p1:ak) (a0:AV) (M0:RM) (Q:ai) : Prop:=cZ (fun E h i=>aS (ag h 0) fun vd=>ae .gtr vd (N .i64 0) fun g=>aa g true (fun c=>c (ag h 0) i) (fun c=>c .undef i) fun ve j=>aa g true (fun w=>bQ ve (N .i64 0) fun vf=>w vf j) (fun c=>c .undef j) fun vg s=>aa g true (fun D=>p1 [vg] s fun vh v=>D vh v) (fun c=>c .undef s) fun vi t=>ay g vi (Bo false) fun G=>aj G ( bB (bV (ag h 0) (some (N .i64 1)) none) fun H=>E [H] t) ( cZ (fun F e l=>aS (ag e 0) fun I=>ae .gtr I (N .i64 0) fun d=>aa d true (fun x=>x (ag e 0) l) (fun c=>c .undef l) fun L m=>aa d true (fun y=>y (ag e 0) m) (fun c=>c .undef m) fun O n=>aa d true (fun z=>aS O fun P=>z P n) (fun c=>c .undef n) fun R o=>aa d true (fun A=>ae .sub R (N .i64 1) fun S=>A S o) (fun c=>c .undef o) fun U p=>aa d true (fun B=>bQ L U fun V=>B V p) (fun c=>c .undef p) fun W q=>aa d true (fun C=>p1 [W] q fun X u=>C X u) (fun c=>c .undef q) fun Y r=>ay d Y (Bo false) fun Z=>aj Z ( aS (ag e 0) fun va=>ae .sub va (N .i64 1) fun vb=>bB (bV (ag e 0) none (some vb)) fun vc=>F [vc] r) ( Q (ag e 0) r)) [(ag h 0)] t)) [a0] M0
def uX (a0:AV) (M0:RM) (Q:ai) : Prop:=cZ (fun F e g=>aS a0 fun vv=>ae .lss (ag e 1) vv fun G=>aj G ( eG (fun i=>bQ a0 (ag e 1) fun d=>ae .geq d (N .u8 48) fun m=>aa m true (fun c=>c d g) (fun c=>c .undef g) fun I p=>aa m true (fun x=>ae .leq I (N .u8 57) fun L=>x L p) (fun c=>c .undef p) fun O j=>ay m O (Bo false) fun P=>aj P ( ae .mul (N .i64 16) (ag e 0) fun R=>ae .sub d (N .u8 48) fun S=>gP .i64 S fun U=>ae .add R U fun V=>i [V] j) ( ae .geq d (N .u8 97) fun n=>aa n true (fun C=>C d j) (fun c=>c .undef j) fun W u=>aa n true (fun D=>ae .leq W (N .u8 102) fun X=>D X u) (fun c=>c .undef u) fun Y l=>ay n Y (Bo false) fun Z=>aj Z ( ae .mul (N .i64 16) (ag e 0) fun va=>ae .sub d (N .u8 97) fun vb=>gP .i64 vb fun vc=>ae .add va vc fun vd=>ae .add vd (N .i64 10) fun ve=>i [ve] l) ( ae .geq d (N .u8 65) fun o=>aa o true (fun E=>E d l) (fun c=>c .undef l) fun vf q=>aa o true (fun y=>ae .leq vf (N .u8 70) fun vg=>y vg q) (fun c=>c .undef q) fun vh r=>ay o vh (Bo false) fun vi=>aj vi ( ae .mul (N .i64 16) (ag e 0) fun vj=>ae .sub d (N .u8 65) fun vk=>gP .i64 vk fun vl=>ae .add vj vl fun vm=>ae .add vm (N .i64 10) fun vn=>i [vn] r) ( Q (.tup [(N .i64 0),(Bo false)]) r)))) (fun vw v=>ae .add (ag e 1) (N .i64 1) fun H=>F [(ag vw 0),H] v)) ( aS a0 fun vo=>ae .geq vo (N .i64 1) fun h=>aa h true (fun z=>z a0 g) (fun c=>c .undef g) fun vp s=>aa h true (fun A=>aS vp fun vq=>A vq s) (fun c=>c .undef s) fun vr t=>aa h true (fun B=>ae .leq vr (N .i64 8) fun vs=>B vs t) (fun c=>c .undef t) fun vt w=>ay h vt (Bo false) fun vu=>Q (.tup [(ag e 0),vu]) w)) [(N .i64 0),(N .i64 0)] M0
def uH (p1 p2:Nat) (a0 a1:AV) (M0:RM) (Q:ai) : Prop:=eG (fun g=>ae .lss a1 (N .i64 0) fun t=>aj t ( False) ( g [] M0)) (fun v d=>eG (fun c=>wR a0 fun j=>bi a0 fun l=>ae .sub j l fun m=>ae .sub a1 m fun e=>ae .gtr e (N .i64 0) fun n=>aj n ( wR a0 fun o=>bB (dL 1 a0 none (some o) none) fun p=>appW p2 1 1 [(N .u8 0)] true p e d fun q h=>bi a0 fun r=>bB (dL 1 q none (some r) none) fun s=>c [s] h) ( c [a0] d)) (fun u i=>Q (ag u 0) i))
def gN (p1:ak) (p2:Nat) (p3 p4 p5:ak) (a0 a1:AV) (M0:RM) (Q:ai) : Prop:=ae .eql a1 (N .i64 10) fun x=>aj x ( ae .leq (N .i64 0) a0 fun g=>aa g true (fun c=>c a0 M0) (fun c=>c .undef M0) fun y j=>aa g true (fun w=>ae .lss y (N .i64 100) fun z=>w z j) (fun c=>c .undef j) fun A l=>ay g A (Bo false) fun B=>aj B ( p1 [a0] l fun C r=>Q C r) ( bf (.row [(N .u8 0),(N .u8 0),(N .u8 0),(N .u8 0),(N .u8 0),(N .u8 0),(N .u8 0),(N .u8 0),(N .u8 0),(N .u8 0),(N .u8 0),(N .u8 0),(N .u8 0),(N .u8 0),(N .u8 0),(N .u8 0),(N .u8 0),(N .u8 0),(N .u8 0),(N .u8 0),(N .u8 0),(N .u8 0),(N .u8 0),(N .u8 0)] false p2 0) (fun v=>.ptr v 0) l fun d m=>gP .u64 a0 fun o=>eG (fun i=>ae .lss a0 (N .i64 0) fun D=>aj D ( IW o fun E=>i [E] m) ( i [o] m)) (fun q s=>p3 [(ag q 0)] s fun h t=>ae .add (N .i64 1) h fun F=>bB (tX 24 1 d (some (N .i64 1)) (some F)) fun G=>p4 [G,(ag q 0)] t fun Y e=>ae .lss a0 (N .i64 0) fun H=>aj H ( oD d (N .i64 0) 24 1 fun I=>az e I (N .u8 45) 1 fun n=>ae .add (N .i64 1) h fun L=>bB (tX 24 1 d none (some L)) fun O=>dR n O fun P=>Q P n) ( ae .add (N .i64 1) h fun R=>bB (tX 24 1 d (some (N .i64 1)) (some R)) fun S=>dR e S fun U=>Q U e)))) ( gP .u64 a0 fun V=>ae .lss a0 (N .i64 0) fun W=>p5 [(.sc (.slice none 0 0)),V,a1,W,(Bo false)] M0 fun p u=>aG p 0 fun Z=>aG p 1 fun X=>Q X u)
def qz (a0:AV) (M0:RM) (Q:ai) : Prop:=ae .eql a0 (N .u8 32) fun d=>aa d false (fun c=>c a0 M0) (fun c=>c .undef M0) fun i e=>aa d false (fun h=>ae .eql i (N .u8 9) fun j=>h j e) (fun c=>c .undef e) fun l g=>ay d (Bo true) l fun m=>Q m g
def nU (p1:Nat) (p2 p3 p4 p5:ak) (p6:Nat) (p7:ak) (a0 a1:AV) (M0:RM) (Q:ai) : Prop:=bB (dL 1 a0 (some a1) none none) fun L=>dX p1 2 [(N .u8 0)] [(0,1,(N .u8 13)),(1,1,(N .u8 10))] fun I A=>bf I A M0 fun O v=>qH O v fun P w=>p2 [L,P] w fun l m=>aG l 0 fun e=>aG l 1 fun vr=>aG l 2 fun t=>fw t fun h=>aa h true (fun c=>c e m) (fun c=>c .undef m) fun R p=>aa h true (fun G=>bi R fun S=>G S p) (fun c=>c .undef p) fun U r=>aa h true (fun H=>ae .gtr U (N .i64 10) fun V=>H V r) (fun c=>c .undef r) fun W g=>ay h W (Bo false) fun X=>aj X ( Q (.tup [(N .i64 0),(N .i64 0),(N .i64 14)]) g) ( fw t fun Y=>aj Y ( Q (.tup [(N .i64 0),(N .i64 0),(N .i64 15)]) g) ( dR g e fun Z=>p3 [Z,(N .i64 1),(N .i64 8)] g fun va s=>fw va fun d=>aa d false (fun B=>B e s) (fun c=>c .undef s) fun vb i=>aa d false (fun C=>dR i vb fun vc=>C vc i) (fun c=>c .undef i) fun vd n=>aa d false (fun D=>p4 [vd] n fun ve x=>D ve x) (fun c=>c .undef n) fun vf o=>aa d false (fun E=>p5 [vf,(.fn (.func p6) [] [])] o fun vg y=>E vg y) (fun c=>c .undef o) fun vh q=>aa d false (fun F=>fw vh fun vi=>F vi q) (fun c=>c .undef q) fun vj j=>ay d (Bo true) vj fun vk=>aj vk ( Q (.tup [(N .i64 0),(N .i64 0),(N .i64 14)]) j) ( dR j e fun vl=>p7 [vl,(N .i64 16),(N .i64 64)] j fun u z=>aG u 0 fun vm=>aG u 1 fun vs=>gP .i64 vm fun vn=>bi e fun vo=>ae .add a1 vo fun vp=>ae .add vp (N .i64 2) fun vq=>Q (.tup [vn,vq,(N .i64 0)]) z)))
def jO (p1:ak) (a0:AV) (M0:RM) (Q:ai) : Prop:=ae .geq a0 (N .u8 97) fun e=>aa e true (fun c=>c a0 M0) (fun c=>c .undef M0) fun B h=>aa e true (fun p=>ae .leq B (N .u8 122) fun C=>p C h) (fun c=>c .undef h) fun D j=>ay e D (Bo false) fun g=>aa g false (fun r=>r a0 j) (fun c=>c .undef j) fun u l=>aa g false (fun s=>p1 [u] l fun v o=>s v o) (fun c=>c .undef l) fun w m=>ay g (Bo true) w fun d=>aa d false (fun t=>t a0 m) (fun c=>c .undef m) fun x i=>aa d false (fun q=>ae .eql x (N .u8 45) fun y=>q y i) (fun c=>c .undef i) fun z n=>ay d (Bo true) z fun A=>Q A n
def jH (a0:AV) (M0:RM) (Q:ai) : Prop:=ae .geq a0 (N .u8 32) fun d=>aa d true (fun c=>c a0 M0) (fun c=>c .undef M0) fun s g=>aa d true (fun l=>ae .leq s (N .u8 126) fun t=>l t g) (fun c=>c .undef g) fun u h=>ay d u (Bo false) fun e=>aa e false (fun m=>m a0 h) (fun c=>c .undef h) fun o i=>aa e false (fun n=>ae .eql o (N .u8 9) fun p=>n p i) (fun c=>c .undef i) fun q j=>ay e (Bo true) q fun r=>Q r j
def gG (p1 p2:Nat) (p3 p4:ak) (p5:Nat) (a0 a1 a2 a3 a4:AV) (M0:RM) (Q:ai) : Prop:=eG (fun G=>ae .lss a2 (N .i64 2) fun i=>aa i false (fun c=>c a2 M0) (fun c=>c .undef M0) fun vf p=>aa i false (fun Y=>ae .eql vf (N .i64 10) fun vg=>Y vg p) (fun c=>c .undef p) fun vh s=>ay i (Bo true) vh fun j=>aa j false (fun Z=>Z a2 s) (fun c=>c .undef s) fun vi v=>aa j false (fun va=>ae .gtr vi (N .i64 36) fun vj=>va vj v) (fun c=>c .undef v) fun vk V=>ay j (Bo true) vk fun vl=>aj vl ( False) ( G [] V)) (fun wb W=>bf (.row [(N .u8 0),(N .u8 0),(N .u8 0),(N .u8 0),(N .u8 0),(N .u8 0),(N .u8 0),(N .u8 0),(N .u8 0),(N .u8 0),(N .u8 0),(N .u8 0),(N .u8 0),(N .u8 0),(N .u8 0),(N .u8 0),(N .u8 0),(N .u8 0),(N .u8 0),(N .u8 0),(N .u8 0),(N .u8 0),(N .u8 0),(N .u8 0),(N .u8 0),(N .u8 0),(N .u8 0),(N .u8 0),(N .u8 0),(N .u8 0),(N .u8 0),(N .u8 0),(N .u8 0),(N .u8 0),(N .u8 0),(N .u8 0),(N .u8 0),(N .u8 0),(N .u8 0),(N .u8 0),(N .u8 0),(N .u8 0),(N .u8 0),(N .u8 0),(N .u8 0),(N .u8 0),(N .u8 0),(N .u8 0),(N .u8 0),(N .u8 0),(N .u8 0),(N .u8 0),(N .u8 0),(N .u8 0),(N .u8 0),(N .u8 0),(N .u8 0),(N .u8 0),(N .u8 0),(N .u8 0),(N .u8 0),(N .u8 0),(N .u8 0),(N .u8 0),(N .u8 0)] false p2 0) (fun X=>.ptr X 0) W fun d w=>eG (fun m=>aj a3 ( IW a1 fun vm=>m [vm] w) ( m [a1] w)) (fun D H=>eG (fun n=>p3 [a2] H fun vn q=>aj vn ( gP .u64 a2 fun vo=>p4 [vo] q fun vp I=>gP .u64 vp fun vq=>gP .u64 a2 fun vr=>gP .u64 a2 fun vs=>ae .sub vs (N .u64 1) fun vt=>cZ (fun vb e r=>ae .geq (ag e 0) vr fun vu=>aj vu ( ae .sub (ag e 1) (N .i64 1) fun x=>ae .and (ag e 0) vt fun vv=>bQ (St [48,49,50,51,52,53,54,55,56,57,97,98,99,100,101,102,103,104,105,106,107,108,109,110,111,112,113,114,115,116,117,118,119,120,121,122]) vv fun vw=>oD d x 65 1 fun vx=>az r vx vw 1 fun L=>Bp .shr (ag e 0) vq fun vy=>vb [vy,x] L) ( ae .sub (ag e 1) (N .i64 1) fun y=>bQ (St [48,49,50,51,52,53,54,55,56,57,97,98,99,100,101,102,103,104,105,106,107,108,109,110,111,112,113,114,115,116,117,118,119,120,121,122]) (ag e 0) fun vz=>oD d y 65 1 fun v0=>az r v0 vz 1 fun O=>n [y] O)) [(ag D 0),(N .i64 65)] I) ( gP .u64 a2 fun l=>cZ (fun vc g t=>ae .geq (ag g 0) l fun v1=>aj v1 ( ae .sub (ag g 1) (N .i64 1) fun z=>ae .quo (ag g 0) l fun A=>ae .mul A l fun v2=>ae .sub (ag g 0) v2 fun v3=>bQ (St [48,49,50,51,52,53,54,55,56,57,97,98,99,100,101,102,103,104,105,106,107,108,109,110,111,112,113,114,115,116,117,118,119,120,121,122]) v3 fun v4=>oD d z 65 1 fun v5=>az t v5 v4 1 fun P=>vc [A,z] P) ( ae .sub (ag g 1) (N .i64 1) fun B=>bQ (St [48,49,50,51,52,53,54,55,56,57,97,98,99,100,101,102,103,104,105,106,107,108,109,110,111,112,113,114,115,116,117,118,119,120,121,122]) (ag g 0) fun v6=>oD d B 65 1 fun v7=>az t v7 v6 1 fun R=>n [B] R)) [(ag D 0),(N .i64 65)] q)) (fun E u=>eG (fun o=>aj a3 ( ae .sub (ag E 0) (N .i64 1) fun C=>oD d C 65 1 fun v8=>az u v8 (N .u8 45) 1 fun S=>o [C] S) ( o [(ag E 0)] u)) (fun F h=>aj a4 ( bB (tX 65 1 d (some (ag F 0)) none) fun v9=>appW p5 1 1 [(N .u8 0)] false a0 v9 h fun wa U=>Q (.tup [wa,(St [])]) U) ( bB (tX 65 1 d (some (ag F 0)) none) fun vd=>dR h vd fun ve=>Q (.tup [(.sc (.slice none 0 0)),ve]) h)))))
def dE (p1:ak) (p2:Nat) (p3 p4 p5:ak) (a0 a1:AV) (M0:RM) (Q:ai) : Prop:=aS a1 fun e=>ae .eql e (N .i64 0) fun q=>aa q false (fun c=>c a1 M0) (fun c=>c .undef M0) fun w2 w=>aa q false (fun vk=>vk a0 w) (fun c=>c .undef w) fun w3 x=>aa q false (fun vn=>bE .eql w2 w3 fun w4=>vn w4 x) (fun c=>c .undef x) fun w5 h=>ay q (Bo true) w5 fun w6=>aj w6 ( Q (N .i64 0) h) ( ae .eql e (N .i64 1) fun w7=>aj w7 ( bQ a1 (N .i64 0) fun w8=>p1 [a0,w8] h fun w9 vj=>Q w9 vj) ( aS a0 fun xa=>ae .geq e xa fun xb=>aj xb ( Q (N .i64 (-1)) h) ( ax h (Em h p2) fun xc=>ae .leq e xc fun r=>aa r true (fun v3=>v3 a0 h) (fun c=>c .undef h) fun xd vb=>aa r true (fun v8=>aS xd fun xe=>v8 xe vb) (fun c=>c .undef vb) fun xf y=>aa r true (fun vl=>ae .leq xf (N .i64 64) fun xg=>vl xg y) (fun c=>c .undef y) fun xh z=>ay r xh (Bo false) fun xi=>aj xi ( p3 [a0,a1] z fun xj vh=>Q xj vh) ( bQ a1 (N .i64 0) fun vf=>bQ a1 (N .i64 1) fun xk=>aS a0 fun xl=>ae .sub xl e fun xm=>ae .add xm (N .i64 1) fun t=>cZ (fun v9 j s=>ae .lss (ag j 0) t fun xn=>aj xn ( eG (fun v=>bQ a0 (ag j 0) fun xo=>ae .neq xo vf fun xp=>aj xp ( ae .add (ag j 0) (N .i64 1) fun xq=>bB (bV a0 (some xq) (some t)) fun xr=>p1 [xr,vf] s fun vg A=>ae .lss vg (N .i64 0) fun xs=>aj xs ( Q (N .i64 (-1)) A) ( ae .add vg (N .i64 1) fun xt=>ae .add (ag j 0) xt fun xu=>v [xu] A)) ( v [(ag j 0)] s)) (fun o B=>ae .add (ag o 0) (N .i64 1) fun xv=>bQ a0 xv fun xw=>ae .eql xw xk fun d=>aa d true (fun vm=>vm a0 B) (fun c=>c .undef B) fun xx C=>aa d true (fun vo=>vo (ag o 0) C) (fun c=>c .undef C) fun xy D=>aa d true (fun vp=>vp (ag o 0) D) (fun c=>c .undef D) fun xz E=>aa d true (fun vq=>vq e E) (fun c=>c .undef E) fun x0 F=>aa d true (fun vr=>ae .add xz x0 fun x1=>vr x1 F) (fun c=>c .undef F) fun x2 G=>aa d true (fun vs=>bB (bV xx (some xy) (some x2)) fun x3=>vs x3 G) (fun c=>c .undef G) fun x4 H=>aa d true (fun vt=>vt a1 H) (fun c=>c .undef H) fun x5 I=>aa d true (fun vu=>bE .eql x4 x5 fun x6=>vu x6 I) (fun c=>c .undef I) fun x7 l=>ay d x7 (Bo false) fun x8=>aj x8 ( Q (ag o 0) l) ( ae .add (ag o 0) (N .i64 1) fun g=>ae .add (ag j 1) (N .i64 1) fun u=>ax l (Em l p2) fun wa=>ae .leq e wa fun n=>aa n true (fun vv=>vv u l) (fun c=>c .undef l) fun wb L=>aa n true (fun vw=>vw g L) (fun c=>c .undef L) fun wc O=>aa n true (fun vx=>p4 [wc] O fun wd vi=>vx wd vi) (fun c=>c .undef O) fun we P=>aa n true (fun vy=>ae .gtr wb we fun wf=>vy wf P) (fun c=>c .undef P) fun wg m=>ay n wg (Bo false) fun wh=>aj wh ( bB (bV a0 (some g) none) fun wi=>p3 [wi,a1] m fun vd R=>ae .geq vd (N .i64 0) fun wj=>aj wj ( ae .add vd g fun wk=>Q wk R) ( Q (N .i64 (-1)) R)) ( ax m (Em m p2) fun wl=>ae .gtr e wl fun i=>aa i true (fun vz=>vz u m) (fun c=>c .undef m) fun wm S=>aa i true (fun v0=>v0 g S) (fun c=>c .undef S) fun wn U=>aa i true (fun v1=>Bp .shr wn (N .u64 4) fun wo=>v1 wo U) (fun c=>c .undef U) fun wp V=>aa i true (fun v2=>ae .add (N .i64 4) wp fun wq=>v2 wq V) (fun c=>c .undef V) fun wr W=>aa i true (fun v4=>ae .geq wm wr fun ws=>v4 ws W) (fun c=>c .undef W) fun wt X=>ay i wt (Bo false) fun p=>aa p true (fun v5=>v5 g X) (fun c=>c .undef X) fun wu Y=>aa p true (fun v6=>v6 t Y) (fun c=>c .undef Y) fun wv Z=>aa p true (fun v7=>ae .lss wu wv fun ww=>v7 ww Z) (fun c=>c .undef Z) fun wx va=>ay p wx (Bo false) fun wy=>aj wy ( bB (bV a0 (some g) none) fun wz=>p5 [wz,a1] va fun ve vc=>ae .lss ve (N .i64 0) fun w0=>aj w0 ( Q (N .i64 (-1)) vc) ( ae .add g ve fun w1=>Q w1 vc)) ( v9 [g,u] va))))) ( Q (N .i64 (-1)) s)) [(N .i64 0),(N .i64 0)] z))))
def uI (p1:ak) (a0 a1:AV) (M0:RM) (Q:ai) : Prop:=p1 [a0,a1] M0 fun c d=>ae .geq c (N .i64 0) fun e=>aj e ( bB (dL 1 a0 none (some c) none) fun g=>bi a1 fun h=>ae .add c h fun i=>bB (dL 1 a0 (some i) none none) fun j=>Q (.tup [g,j,(Bo true)]) d) ( Q (.tup [a0,(.sc (.slice none 0 0)),(Bo false)]) d)
def ma (p1:ak) (a0:AV) (M0:RM) (Q:ai) : Prop:=p1 [a0] M0 fun d g=>aa d false (fun c=>c a0 g) (fun c=>c .undef g) fun y h=>aa d false (fun o=>ae .geq y (N .u8 97) fun z=>o z h) (fun c=>c .undef h) fun A j=>aa d false (fun q=>q A j) (fun c=>c .undef j) fun e l=>aa e true (fun r=>r a0 l) (fun c=>c .undef l) fun B m=>aa e true (fun s=>ae .leq B (N .u8 102) fun t=>s t m) (fun c=>c .undef m) fun u i=>aa d false (fun p=>ay e u (Bo false) fun v=>p v i) (fun c=>c .undef i) fun w n=>ay d (Bo true) w fun x=>Q x n
def kP (p1 p2:ak) (a0 a1 a2:AV) (M0:RM) (Q:ai) : Prop:=p1 [a0,a1,a2] M0 fun d c=>aG d 0 fun e=>aG d 1 fun g=>Nz true g (.sc .nilIface) fun i=>aj i ( p2 [(St [80,97,114,115,101,85,105,110,116]),a0,a1,a2,g] c fun j h=>Q (.tup [e,j]) h) ( Q (.tup [e,(.sc .nilIface)]) c)
def gM (p1:Nat) (p2:ak) (p3:Nat) (p4:ak) (a0 a1 a2:AV) (M0:RM) (Q:ai) : Prop:=bE .eql a0 (St []) fun xt=>aj xt ( Q (.tup [(N .u64 0),(.ifc p1 (N .i64 2))]) M0) ( ae .eql a1 (N .i64 0) fun xu=>eG (fun g=>ae .leq (N .i64 2) a1 fun z=>aa z true (fun c=>c a1 M0) (fun c=>c .undef M0) fun xv G=>aa z true (fun vz=>ae .leq xv (N .i64 36) fun xw=>vz xw G) (fun c=>c .undef G) fun xx i=>ay z xx (Bo false) fun xy=>aj xy ( g [a0,a1] i) ( ae .eql a1 (N .i64 0) fun xz=>aj xz ( bQ a0 (N .i64 0) fun x0=>ae .eql x0 (N .u8 48) fun x1=>aj x1 ( aS a0 fun x3=>ae .geq x3 (N .i64 3) fun l=>aa l true (fun v7=>v7 a0 i) (fun c=>c .undef i) fun x4 V=>aa l true (fun wc=>bQ x4 (N .i64 1) fun x5=>wc x5 V) (fun c=>c .undef V) fun x6 vd=>aa l true (fun wl=>p2 [x6] vd fun x7 vx=>wl x7 vx) (fun c=>c .undef vd) fun x8 H=>aa l true (fun v0=>ae .eql x8 (N .u8 98) fun x9=>v0 x9 H) (fun c=>c .undef H) fun ya s=>ay l ya (Bo false) fun yb=>aj yb ( bB (bV a0 (some (N .i64 2)) none) fun yc=>g [yc,(N .i64 2)] s) ( aS a0 fun yd=>ae .geq yd (N .i64 3) fun m=>aa m true (fun v1=>v1 a0 s) (fun c=>c .undef s) fun ye I=>aa m true (fun v2=>bQ ye (N .i64 1) fun yf=>v2 yf I) (fun c=>c .undef I) fun yg L=>aa m true (fun v3=>p2 [yg] L fun yh vp=>v3 yh vp) (fun c=>c .undef L) fun yi O=>aa m true (fun v4=>ae .eql yi (N .u8 111) fun yj=>v4 yj O) (fun c=>c .undef O) fun yk t=>ay m yk (Bo false) fun yl=>aj yl ( bB (bV a0 (some (N .i64 2)) none) fun ym=>g [ym,(N .i64 8)] t) ( aS a0 fun yn=>ae .geq yn (N .i64 3) fun n=>aa n true (fun v5=>v5 a0 t) (fun c=>c .undef t) fun yo P=>aa n true (fun v6=>bQ yo (N .i64 1) fun yp=>v6 yp P) (fun c=>c .undef P) fun yq R=>aa n true (fun v8=>p2 [yq] R fun yr vq=>v8 yr vq) (fun c=>c .undef R) fun ys S=>aa n true (fun v9=>ae .eql ys (N .u8 120) fun yt=>v9 yt S) (fun c=>c .undef S) fun yu U=>ay n yu (Bo false) fun yv=>aj yv ( bB (bV a0 (some (N .i64 2)) none) fun yw=>g [yw,(N .i64 16)] U) ( bB (bV a0 (some (N .i64 1)) none) fun x2=>g [x2,(N .i64 8)] U)))) ( g [a0,(N .i64 10)] i)) ( Q (.tup [(N .u64 0),(.ifc p1 (N .i64 3))]) i))) (fun h u=>eG (fun D=>ae .eql a2 (N .i64 0) fun yx=>aj yx ( D [(N .i64 64)] u) ( ae .lss a2 (N .i64 0) fun A=>aa A false (fun wa=>wa a2 u) (fun c=>c .undef u) fun yy W=>aa A false (fun wb=>ae .gtr yy (N .i64 64) fun yz=>wb yz W) (fun c=>c .undef W) fun y0 X=>ay A (Bo true) y0 fun y1=>aj y1 ( Q (.tup [(N .u64 0),(.ifc p1 (N .i64 4))]) X) ( D [a2] X))) (fun y9 v=>eG (fun r=>ae .eql (ag h 1) (N .i64 10) fun y5=>aj y5 ( r [(N .u64 1844674407370955162)] v) ( ae .eql (ag h 1) (N .i64 16) fun y6=>aj y6 ( r [(N .u64 1152921504606846976)] v) ( gP .u64 (ag h 1) fun y2=>ae .quo (N .u64 18446744073709551615) y2 fun y3=>ae .add y3 (N .u64 1) fun y4=>r [y4] v))) (fun za vr=>gP .u64 (ag y9 0) fun y7=>Bp .shl (N .u64 1) y7 fun y8=>ae .sub y8 (N .u64 1) fun B=>ji p3 (ag h 0) fun wr vy=>bf wr vy vr fun vn vs=>bi vn fun ws=>cZ (fun wq d j=>ae .lss (ag d 2) ws fun wt=>aj wt ( eG (fun E=>bZ vn (ag d 2) 1 fun wu=>ax j wu fun e=>eG (fun F=>ae .eql e (N .u8 95) fun vl=>aa vl true (fun wd=>wd xu j) (fun c=>c .undef j) fun wv w=>ay vl wv (Bo false) fun ww=>aj ww ( E [(Bo true),(ag d 1)] w) ( ae .leq (N .u8 48) e fun x=>aa x true (fun we=>we e w) (fun c=>c .undef w) fun wx Y=>aa x true (fun wf=>ae .leq wx (N .u8 57) fun wy=>wf wy Y) (fun c=>c .undef Y) fun wz Z=>ay x wz (Bo false) fun w0=>aj w0 ( ae .sub e (N .u8 48) fun w1=>F [(ag d 0),w1] Z) ( p2 [e] Z fun w2 va=>ae .leq (N .u8 97) w2 fun p=>aa p true (fun wg=>wg e va) (fun c=>c .undef va) fun w3 vb=>aa p true (fun wh=>p2 [w3] vb fun w4 vt=>wh w4 vt) (fun c=>c .undef vb) fun w5 vc=>aa p true (fun wi=>ae .leq w5 (N .u8 122) fun w6=>wi w6 vc) (fun c=>c .undef vc) fun w7 ve=>ay p w7 (Bo false) fun w8=>aj w8 ( p2 [e] ve fun w9 vu=>ae .sub w9 (N .u8 97) fun xa=>ae .add xa (N .u8 10) fun xb=>F [(ag d 0),xb] vu) ( Q (.tup [(N .u64 0),(.ifc p1 (N .i64 2))]) ve)))) (fun C o=>gP .u8 (ag h 1) fun xc=>ae .geq (ag C 1) xc fun xd=>aj xd ( Q (.tup [(N .u64 0),(.ifc p1 (N .i64 2))]) o) ( ae .geq (ag d 1) (ag za 0) fun xe=>aj xe ( Q (.tup [B,(.ifc p1 (N .i64 1))]) o) ( gP .u64 (ag h 1) fun xf=>ae .mul (ag d 1) xf fun vm=>gP .u64 (ag C 1) fun xg=>ae .add vm xg fun y=>ae .lss y vm fun q=>aa q false (fun wj=>wj y o) (fun c=>c .undef o) fun xh vf=>aa q false (fun wk=>wk B vf) (fun c=>c .undef vf) fun xi vg=>aa q false (fun wm=>ae .gtr xh xi fun xj=>wm xj vg) (fun c=>c .undef vg) fun xk vh=>ay q (Bo true) xk fun xl=>aj xl ( Q (.tup [B,(.ifc p1 (N .i64 1))]) vh) ( E [(ag C 0),y] vh))))) (fun vo vv=>ae .add (ag d 2) (N .i64 1) fun xm=>wq [(ag vo 0),(ag vo 1),xm] vv)) ( aa (ag d 0) true (fun wn=>wn a0 j) (fun c=>c .undef j) fun xn vi=>aa (ag d 0) true (fun wo=>p4 [xn] vi fun xo vw=>wo xo vw) (fun c=>c .undef vi) fun xp vj=>aa (ag d 0) true (fun wp=>fw xp fun xq=>wp xq vj) (fun c=>c .undef vj) fun xr vk=>ay (ag d 0) xr (Bo false) fun xs=>aj xs ( Q (.tup [(N .u64 0),(.ifc p1 (N .i64 2))]) vk) ( Q (.tup [(ag d 1),(.sc .nilIface)]) vk))) [(Bo false),(N .u64 0),(N .i64 0)] vs))))
def fT (a0:AV) (M0:RM) (Q:ai) : Prop:=ae .sub a0 (N .i64 1) fun c=>ae .and a0 c fun d=>ae .eql d (N .i64 0) fun e=>Q e M0
def iY (a0:AV) (M0:RM) (Q:ai) : Prop:=ae .or a0 (N .u8 32) fun c=>Q c M0
end Go.Ab.Hw
namespace Go.Ab.Vl
open Go Go.Ab
def qy (p1:ak) (a0 a1:AV) (M0:RM) (Q:ai) : Prop:=p1 [a0,a1] M0 fun c d=>aG c 0 fun e=>aG c 1 fun g=>aG c 2 fun h=>Q (.tup [e,g,h]) d
def iZ (p1:ak) (a0 a1:AV) (M0:RM) (Q:ai) : Prop:=p1 [a0,a1] M0 fun d c=>Q d c
def sH (p1:ak) (a0:AV) (M0:RM) (Q:ai) : Prop:=aS a0 fun z=>ae .geq z (N .i64 1) fun e=>aa e true (fun c=>c a0 M0) (fun c=>c .undef M0) fun A g=>aa e true (fun o=>aS A fun B=>o B g) (fun c=>c .undef g) fun C i=>aa e true (fun q=>ae .leq C (N .i64 20) fun D=>q D i) (fun c=>c .undef i) fun E j=>ay e E (Bo false) fun d=>aa d true (fun r=>r a0 j) (fun c=>c .undef j) fun t l=>aa d true (fun s=>p1 [t,(St [97,98,99,100,101,102,103,104,105,106,107,108,109,110,111,112,113,114,115,116,117,118,119,120,121,122,48,49,50,51,52,53,54,55,56,57,45])] l fun u n=>s u n) (fun c=>c .undef l) fun v h=>aa d true (fun p=>bE .eql v (St []) fun w=>p w h) (fun c=>c .undef h) fun x m=>ay d x (Bo false) fun y=>Q y m
def qE (p1:Nat) (p2 p3 p4:ak) (a0 a1:AV) (M0:RM) (Q:ai) : Prop:=ji p1 a0 fun x s=>bf x s M0 fun o p=>bi o fun O=>cZ (fun w g e=>ae .lss (ag g 0) O fun y=>aj y ( bZ o (ag g 0) 1 fun z=>ax e z fun n=>p2 [n] e fun A h=>fw A fun d=>aa d false (fun c=>c a1 h) (fun c=>c .undef h) fun B j=>aa d false (fun t=>t n j) (fun c=>c .undef j) fun C l=>aa d false (fun u=>p3 [B,C] l fun D r=>u D r) (fun c=>c .undef l) fun E m=>aa d false (fun v=>ae .geq E (N .i64 0) fun F=>v F m) (fun c=>c .undef m) fun G i=>ay d (Bo true) G fun H=>aj H ( Q (Bo false) i) ( ae .add (ag g 0) (N .i64 1) fun I=>w [I] i)) ( p4 [a0] e fun L q=>Q L q)) [(N .i64 0)] p
def oK (p1:ak) (a0 a1:AV) (M0:RM) (Q:ai) : Prop:=p1 [a0,a1] M0 fun d c=>Q d c
def iD (p1:ak) (a0 a1:AV) (M0:RM) (Q:ai) : Prop:=p1 [a0,a1] M0 fun c d=>ae .geq c (N .i64 0) fun e=>aj e ( bB (bV a0 none (some c)) fun g=>aS a1 fun h=>ae .add c h fun i=>bB (bV a0 (some i) none) fun j=>Q (.tup [g,j,(Bo true)]) d) ( Q (.tup [a0,(St []),(Bo false)]) d)
def vP (p1 p2 p3:ak) (p4:Nat) (p5 p6 p7 p8:ak) (a0 a1:AV) (M0:RM) (Q:ai) : Prop:=bE .eql a0 (St []) fun h=>aa h false (fun c=>c a1 M0) (fun c=>c .undef M0) fun C i=>aa h false (fun y=>bE .eql C (St []) fun D=>y D i) (fun c=>c .undef i) fun E e=>ay h (Bo true) E fun F=>aj F ( Q a0 e) ( aS a1 fun G=>ae .eql G (N .i64 1) fun d=>aa d true (fun z=>z a1 e) (fun c=>c .undef e) fun H m=>aa d true (fun A=>bQ H (N .i64 0) fun I=>A I m) (fun c=>c .undef m) fun L n=>aa d true (fun B=>ae .lss L (N .u8 128) fun O=>B O n) (fun c=>c .undef n) fun P j=>ay d P (Bo false) fun R=>aj R ( bQ a1 (N .i64 0) fun S=>bQ a1 (N .i64 0) fun V=>p1 [a0,S] j fun U p=>p2 [U,V] p fun W q=>Q W q) ( p3 [a1] j fun o r=>aG o 0 fun X=>aG o 1 fun Y=>bf (.row [(Bo false),(Bo false),(Bo false),(Bo false),(Bo false),(Bo false),(Bo false),(Bo false),(Bo false),(Bo false),(Bo false),(Bo false),(Bo false),(Bo false),(Bo false),(Bo false),(Bo false),(Bo false),(Bo false),(Bo false),(Bo false),(Bo false),(Bo false),(Bo false),(Bo false),(Bo false),(Bo false),(Bo false),(Bo false),(Bo false),(Bo false),(Bo false),(Bo false),(Bo false),(Bo false),(Bo false),(Bo false),(Bo false),(Bo false),(Bo false),(Bo false),(Bo false),(Bo false),(Bo false),(Bo false),(Bo false),(Bo false),(Bo false),(Bo false),(Bo false),(Bo false),(Bo false),(Bo false),(Bo false),(Bo false),(Bo false),(Bo false),(Bo false),(Bo false),(Bo false),(Bo false),(Bo false),(Bo false),(Bo false),(Bo false),(Bo false),(Bo false),(Bo false),(Bo false),(Bo false),(Bo false),(Bo false),(Bo false),(Bo false),(Bo false),(Bo false),(Bo false),(Bo false),(Bo false),(Bo false),(Bo false),(Bo false),(Bo false),(Bo false),(Bo false),(Bo false),(Bo false),(Bo false),(Bo false),(Bo false),(Bo false),(Bo false),(Bo false),(Bo false),(Bo false),(Bo false),(Bo false),(Bo false),(Bo false),(Bo false),(Bo false),(Bo false),(Bo false),(Bo false),(Bo false),(Bo false),(Bo false),(Bo false),(Bo false),(Bo false),(Bo false),(Bo false),(Bo false),(Bo false),(Bo false),(Bo false),(Bo false),(Bo false),(Bo false),(Bo false),(Bo false),(Bo false),(Bo false),(Bo false),(Bo false),(Bo false),(Bo false),(Bo false),(Bo false),(Bo false),(Bo false),(Bo false),(Bo false),(Bo false),(Bo false),(Bo false),(Bo false),(Bo false),(Bo false),(Bo false),(Bo false),(Bo false),(Bo false),(Bo false),(Bo false),(Bo false),(Bo false),(Bo false),(Bo false),(Bo false),(Bo false),(Bo false),(Bo false),(Bo false),(Bo false),(Bo false),(Bo false),(Bo false),(Bo false),(Bo false),(Bo false),(Bo false),(Bo false),(Bo false),(Bo false),(Bo false),(Bo false),(Bo false),(Bo false),(Bo false),(Bo false),(Bo false),(Bo false),(Bo false),(Bo false),(Bo false),(Bo false),(Bo false),(Bo false),(Bo false),(Bo false),(Bo false),(Bo false),(Bo false),(Bo false),(Bo false),(Bo false),(Bo false),(Bo false),(Bo false),(Bo false),(Bo false),(Bo false),(Bo false),(Bo false),(Bo false),(Bo false),(Bo false),(Bo false),(Bo false),(Bo false),(Bo false),(Bo false),(Bo false),(Bo false),(Bo false),(Bo false),(Bo false),(Bo false),(Bo false),(Bo false),(Bo false),(Bo false),(Bo false),(Bo false),(Bo false),(Bo false),(Bo false),(Bo false),(Bo false),(Bo false),(Bo false),(Bo false),(Bo false),(Bo false),(Bo false),(Bo false),(Bo false),(Bo false),(Bo false),(Bo false),(Bo false),(Bo false),(Bo false),(Bo false),(Bo false),(Bo false),(Bo false),(Bo false),(Bo false),(Bo false),(Bo false),(Bo false),(Bo false),(Bo false),(Bo false),(Bo false),(Bo false),(Bo false),(Bo false),(Bo false),(Bo false),(Bo false),(Bo false),(Bo false),(Bo false)] false p4 0) (fun x=>.ptr x 0) r fun g s=>az s g X 256 fun l=>aj Y ( p5 [a0,g] l fun Z t=>p6 [Z,g] t fun va u=>Q va u) ( p7 [a0,a1] l fun vb v=>p8 [vb,a1] v fun vc w=>Q vc w)))
def yL (p1:Nat) (a0:AV) (M0:RM) (Q:ai) : Prop:=ji p1 a0 fun t q=>bf t q M0 fun e n=>bi e fun F=>cZ (fun s g c=>ae .lss (ag g 0) F fun u=>aj u ( eG (fun j=>bZ e (ag g 0) 1 fun v=>ax c v fun h=>ae .geq h (N .u8 65) fun i=>aa i true (fun d=>d h c) (fun d=>d .undef c) fun w l=>aa i true (fun r=>ae .leq w (N .u8 90) fun x=>r x l) (fun d=>d .undef l) fun y m=>ay i y (Bo false) fun z=>aj z ( ae .add h (N .u8 97) fun A=>ae .sub A (N .u8 65) fun B=>bZ e (ag g 0) 1 fun C=>az m C B 1 fun o=>j [] o) ( j [] m)) (fun G p=>ae .add (ag g 0) (N .i64 1) fun D=>s [D] p)) ( dR c e fun E=>Q E c)) [(N .i64 0)] n
def fE (a0 a1:AV) (M0:RM) (Q:ai) : Prop:=aS a0 fun B=>aS a1 fun C=>ae .geq B C fun d=>aa d true (fun c=>c a0 M0) (fun c=>c .undef M0) fun r e=>aa d true (fun m=>m a1 e) (fun c=>c .undef e) fun s g=>aa d true (fun o=>aS s fun t=>o t g) (fun c=>c .undef g) fun u h=>aa d true (fun p=>bB (bV r none (some u)) fun v=>p v h) (fun c=>c .undef h) fun w i=>aa d true (fun q=>q a1 i) (fun c=>c .undef i) fun x j=>aa d true (fun n=>bE .eql w x fun y=>n y j) (fun c=>c .undef j) fun z l=>ay d z (Bo false) fun A=>Q A l
def dE (p1 p2 p3 p4:ak) (a0 a1:AV) (M0:RM) (Q:ai) : Prop:=aS a1 fun e=>ae .eql e (N .i64 0) fun q=>aa q false (fun c=>c a1 M0) (fun c=>c .undef M0) fun w2 w=>aa q false (fun vk=>vk a0 w) (fun c=>c .undef w) fun w3 x=>aa q false (fun vn=>bE .eql w2 w3 fun w4=>vn w4 x) (fun c=>c .undef x) fun w5 h=>ay q (Bo true) w5 fun w6=>aj w6 ( Q (N .i64 0) h) ( ae .eql e (N .i64 1) fun w7=>aj w7 ( bQ a1 (N .i64 0) fun w8=>p1 [a0,w8] h fun w9 vj=>Q w9 vj) ( aS a0 fun xa=>ae .geq e xa fun xb=>aj xb ( Q (N .i64 (-1)) h) ( ax h .top fun xc=>ae .leq e xc fun r=>aa r true (fun v3=>v3 a0 h) (fun c=>c .undef h) fun xd vb=>aa r true (fun v8=>aS xd fun xe=>v8 xe vb) (fun c=>c .undef vb) fun xf y=>aa r true (fun vl=>ae .leq xf (N .i64 64) fun xg=>vl xg y) (fun c=>c .undef y) fun xh z=>ay r xh (Bo false) fun xi=>aj xi ( p2 [a0,a1] z fun xj vh=>Q xj vh) ( bQ a1 (N .i64 0) fun vf=>bQ a1 (N .i64 1) fun xk=>aS a0 fun xl=>ae .sub xl e fun xm=>ae .add xm (N .i64 1) fun t=>cZ (fun v9 j s=>ae .lss (ag j 0) t fun xn=>aj xn ( eG (fun v=>bQ a0 (ag j 0) fun xo=>ae .neq xo vf fun xp=>aj xp ( ae .add (ag j 0) (N .i64 1) fun xq=>bB (bV a0 (some xq) (some t)) fun xr=>p1 [xr,vf] s fun vg A=>ae .lss vg (N .i64 0) fun xs=>aj xs ( Q (N .i64 (-1)) A) ( ae .add vg (N .i64 1) fun xt=>ae .add (ag j 0) xt fun xu=>v [xu] A)) ( v [(ag j 0)] s)) (fun m B=>ae .add (ag m 0) (N .i64 1) fun xv=>bQ a0 xv fun xw=>ae .eql xw xk fun d=>aa d true (fun vm=>vm a0 B) (fun c=>c .undef B) fun xx C=>aa d true (fun vo=>vo (ag m 0) C) (fun c=>c .undef C) fun xy D=>aa d true (fun vp=>vp (ag m 0) D) (fun c=>c .undef D) fun xz E=>aa d true (fun vq=>vq e E) (fun c=>c .undef E) fun x0 F=>aa d true (fun vr=>ae .add xz x0 fun x1=>vr x1 F) (fun c=>c .undef F) fun x2 G=>aa d true (fun vs=>bB (bV xx (some xy) (some x2)) fun x3=>vs x3 G) (fun c=>c .undef G) fun x4 H=>aa d true (fun vt=>vt a1 H) (fun c=>c .undef H) fun x5 I=>aa d true (fun vu=>bE .eql x4 x5 fun x6=>vu x6 I) (fun c=>c .undef I) fun x7 n=>ay d x7 (Bo false) fun x8=>aj x8 ( Q (ag m 0) n) ( ae .add (ag m 0) (N .i64 1) fun g=>ae .add (ag j 1) (N .i64 1) fun u=>ax n .top fun wa=>ae .leq e wa fun l=>aa l true (fun vv=>vv u n) (fun c=>c .undef n) fun wb L=>aa l true (fun vw=>vw g L) (fun c=>c .undef L) fun wc O=>aa l true (fun vx=>p3 [wc] O fun wd vi=>vx wd vi) (fun c=>c .undef O) fun we P=>aa l true (fun vy=>ae .gtr wb we fun wf=>vy wf P) (fun c=>c .undef P) fun wg o=>ay l wg (Bo false) fun wh=>aj wh ( bB (bV a0 (some g) none) fun wi=>p2 [wi,a1] o fun vd R=>ae .geq vd (N .i64 0) fun wj=>aj wj ( ae .add vd g fun wk=>Q wk R) ( Q (N .i64 (-1)) R)) ( ax o .top fun wl=>ae .gtr e wl fun i=>aa i true (fun vz=>vz u o) (fun c=>c .undef o) fun wm S=>aa i true (fun v0=>v0 g S) (fun c=>c .undef S) fun wn U=>aa i true (fun v1=>Bp .shr wn (N .u64 4) fun wo=>v1 wo U) (fun c=>c .undef U) fun wp V=>aa i true (fun v2=>ae .add (N .i64 4) wp fun wq=>v2 wq V) (fun c=>c .undef V) fun wr W=>aa i true (fun v4=>ae .geq wm wr fun ws=>v4 ws W) (fun c=>c .undef W) fun wt X=>ay i wt (Bo false) fun p=>aa p true (fun v5=>v5 g X) (fun c=>c .undef X) fun wu Y=>aa p true (fun v6=>v6 t Y) (fun c=>c .undef Y) fun wv Z=>aa p true (fun v7=>ae .lss wu wv fun ww=>v7 ww Z) (fun c=>c .undef Z) fun wx va=>ay p wx (Bo false) fun wy=>aj wy ( bB (bV a0 (some g) none) fun wz=>p4 [wz,a1] va fun ve vc=>ae .lss ve (N .i64 0) fun w0=>aj w0 ( Q (N .i64 (-1)) vc) ( ae .add g ve fun w1=>Q w1 vc)) ( v9 [g,u] va))))) ( Q (N .i64 (-1)) s)) [(N .i64 0),(N .i64 0)] z))))
def kN (p1:ak) (a0 a1:AV) (M0:RM) (Q:ai) : Prop:=p1 [a0,a1] M0 fun c d=>aG c 0 fun g=>aG c 1 fun e=>Q (.tup [g,e]) d
def fG (p1:ak) (a0 a1:AV) (M0:RM) (Q:ai) : Prop:=p1 [a0,a1] M0 fun g c=>fw g fun h=>aj h ( Q (.tup [a0,(Bo false)]) c) ( aS a1 fun d=>bB (bV a0 (some d) none) fun e=>Q (.tup [e,(Bo true)]) c)
end Go.Ab.Vl
namespace Go.Ab
open Go Go.RowKit
def RM.cell (M:RM) (b o:Nat) : Option AV:=(M.cells b).bind (·[o]?)
section
variable {M M' : RM} {K:AV→Prop} {KQ:ai}
theorem fB {b o:Nat} {v:AV} : M.loads b o 1=some [v]↔M.cell b o=some v:=by
 unfold RM.loads RM.cell
 cases hc:M.cells b with
 | none=>simp
 | some l =>
   simp only[Option.bind_some]
   constructor
   ·intro h
    split at h
    ·rename_i hlt
     have h1:=Option.some.inj h
     have:((l.drop o).take 1)[0]?=some v:=by rw[h1]; rfl
     rw[List.getElem?_take,if_pos (by omega),List.getElem?_drop] at this
     simpa using this
    ·cases h
   ·intro h
    have hlt:=(List.getElem?_eq_some_iff.1 h).1
    rw[if_pos (by omega)]
    congr 1
    rw[List.drop_eq_getElem_cons hlt]
    simp only[List.take_succ_cons,List.take_zero]
    congr 1
    exact(List.getElem?_eq_some_iff.1 h).2
@[go_sem] theorem dI (b o:Nat) : ax M (.ptr b o) K=∃ v,M.cell b o=some v∧K v:=by
 apply propext; unfold ax
 constructor
 ·rintro⟨b',o',v,h,hl,hk⟩; cases h; exact⟨v,fB.1 hl,hk⟩
 ·rintro⟨v,hl,hk⟩; exact⟨b,o,v,rfl,fB.2 hl,hk⟩
@[go_sem] theorem qm (b o n:Nat) : aL M (.ptr b o) n K=∃ vs,M.loads b o n=some vs∧K (.agg vs):=by
 apply propext; unfold aL
 constructor
 ·rintro⟨b',o',v,h,hl,hk⟩; cases h; exact⟨v,hl,hk⟩
 ·rintro⟨v,hl,hk⟩; exact⟨b,o,v,rfl,hl,hk⟩
@[go_sem] theorem xB (b p:Nat) (x:AV) (n:Nat) (K:RM→Prop) : az M (.ptr b p) x n K=(x.cells.length=n∧∃ M',M.stores b p x.cells=some M'∧K M'):=by
 apply propext; unfold az
 constructor
 ·rintro⟨b',o',M',h,h1,h2,hk⟩; cases h; exact⟨h1,M',h2,hk⟩
 ·rintro⟨h1,M',h2,hk⟩; exact⟨b,p,M',rfl,h1,h2,hk⟩
def Mm (k:IntKind) (a b:Int) : Int:=k.wrap (BitVec.ofInt k.bits a &&& BitVec.ofInt k.bits b).toNat
def UM (k:IntKind) (a b:Int) : Int:=k.wrap (BitVec.ofInt k.bits a ||| BitVec.ofInt k.bits b).toNat
def Vp (k:IntKind) (a b:Int) : Int:=k.wrap (BitVec.ofInt k.bits a ^^^ BitVec.ofInt k.bits b).toNat
def Qt (k:IntKind) (a b:Int) : Int:=k.wrap (BitVec.ofInt k.bits a &&& ~~~BitVec.ofInt k.bits b).toNat
def SK (k:IntKind) (a b:Int) : Int:=k.wrap (a * 2 ^ (min b.toNat k.bits))
def O6 (k:IntKind) (a b:Int) : Int:=a.fdiv (2 ^ (min b.toNat k.bits))
section
variable (k:IntKind) (a b:Int)
theorem fJ {op:BinOp} {v:Value} (h:sN op k a b=some v) : ae op (N k a) (N k b) K=K (.sc v):=by
 apply propext; unfold ae
 constructor
 ·rintro⟨k',a',b',u,h1,h2,h3,hk⟩; cases h1; cases h2; rw[h] at h3; cases h3; exact hk
 ·intro hk; exact⟨k,a,b,v,rfl,rfl,h,hk⟩
@[go_sem] theorem iQ:ae .add (N k a) (N k b) K=K (N k (k.wrap (a + b))):=fJ k a b rfl
@[go_sem] theorem gu:ae .sub (N k a) (N k b) K=K (N k (k.wrap (a - b))):=fJ k a b rfl
@[go_sem] theorem oW:ae .mul (N k a) (N k b) K=K (N k (k.wrap (a * b))):=fJ k a b rfl
@[go_sem] theorem GL:ae .and (N k a) (N k b) K=K (N k (Mm k a b)):=fJ k a b rfl
@[go_sem] theorem QW:ae .or (N k a) (N k b) K=K (N k (UM k a b)):=fJ k a b rfl
@[go_sem] theorem VM:ae .xor (N k a) (N k b) K=K (N k (Vp k a b)):=fJ k a b rfl
@[go_sem] theorem TL:ae .andNot (N k a) (N k b) K=K (N k (Qt k a b)):=fJ k a b rfl
@[go_sem] theorem bq:ae .eql (N k a) (N k b) K=K (Bo (a == b)):=fJ k a b rfl
@[go_sem] theorem dV:ae .neq (N k a) (N k b) K=K (Bo (a != b)):=fJ k a b rfl
@[go_sem] theorem dF:ae .lss (N k a) (N k b) K=K (Bo (decide (a<b))):=fJ k a b rfl
@[go_sem] theorem gy:ae .leq (N k a) (N k b) K=K (Bo (decide (a≤b))):=fJ k a b rfl
@[go_sem] theorem bG:ae .gtr (N k a) (N k b) K=K (Bo (decide (a > b))):=fJ k a b rfl
@[go_sem] theorem bL:ae .geq (N k a) (N k b) K=K (Bo (decide (a ≥ b))):=fJ k a b rfl
@[go_sem] theorem PX:ae .quo (N k a) (N k b) K=(b≠0∧K (N k (k.wrap (a.tdiv b)))):=by
 apply propext; unfold ae sN
 constructor
 ·rintro⟨k',a',b',u,h1,h2,h3,hk⟩; cases h1; cases h2
  simp only at h3
  split at h3
  ·cases h3
  ·cases h3; exact⟨‹_›,hk⟩
 ·rintro⟨h0,hk⟩; exact⟨k,a,b,_,rfl,rfl,by simp only[if_neg h0],hk⟩
@[go_sem] theorem Vb:ae .rem (N k a) (N k b) K=(b≠0∧K (N k (a.tmod b))):=by
 apply propext; unfold ae sN
 constructor
 ·rintro⟨k',a',b',u,h1,h2,h3,hk⟩; cases h1; cases h2
  simp only at h3
  split at h3
  ·cases h3
  ·cases h3; exact⟨‹_›,hk⟩
 ·rintro⟨h0,hk⟩; exact⟨k,a,b,_,rfl,rfl,by simp only[if_neg h0],hk⟩
variable (l:IntKind)
@[go_sem] theorem QM:Bp .shl (N k a) (N l b) K=(0≤b∧K (N k (SK k a b))):=by
 apply propext; unfold Bp Dr
 constructor
 ·rintro⟨k',a',l',b',u,h1,h2,h3,hk⟩; cases h1; cases h2
  split at h3
  ·cases h3
  ·cases h3; exact⟨by omega,hk⟩
 ·rintro⟨h0,hk⟩; exact⟨k,a,l,b,_,rfl,rfl,by rw[if_neg (by omega)]; rfl,hk⟩
@[go_sem] theorem Qz:Bp .shr (N k a) (N l b) K=(0≤b∧K (N k (O6 k a b))):=by
 apply propext; unfold Bp Dr
 constructor
 ·rintro⟨k',a',l',b',u,h1,h2,h3,hk⟩; cases h1; cases h2
  split at h3
  ·cases h3
  ·cases h3; exact⟨by omega,hk⟩
 ·rintro⟨h0,hk⟩; exact⟨k,a,l,b,_,rfl,rfl,by rw[if_neg (by omega)]; rfl,hk⟩
@[go_sem] theorem WO {l:IntKind} {a:Int} {K:AV→Prop} : KT (N l a) K=K (St (Utf8.encode a).data.toList):=by
 apply propext; unfold KT
 constructor
 ·rintro⟨l',n,h,hk⟩; cases h; exact hk
 ·intro h; exact⟨_,_,rfl,h⟩
@[go_sem] theorem iU:gP k (N l a) K=K (N k (k.wrap a)):=by
 apply propext; unfold gP
 constructor
 ·rintro⟨l',n,h,hk⟩; cases h; exact hk
 ·intro hk; exact⟨l,a,rfl,hk⟩
@[go_sem] theorem MO (mx:Bool) : Et mx (N k a) (N k b) K=K (N k (if mx then(if b > a then b else a) else(if b<a then b else a))):=by
 apply propext; unfold Et
 constructor
 ·rintro⟨k',a',b',h1,h2,hk⟩; cases h1; cases h2; exact hk
 ·intro hk; exact⟨k,a,b,rfl,rfl,hk⟩
@[go_sem] theorem WZ:IW (N k a) K=K (N k (k.wrap (0 - a))):=by
 apply propext; unfold IW
 constructor
 ·rintro⟨k',a',h1,hk⟩; cases h1; exact hk
 ·intro hk; exact⟨k,a,rfl,hk⟩
end
@[go_sem] theorem bO (b:Bool) : fw (Bo b) K=K (Bo (!b)):=by
 apply propext; unfold fw
 constructor
 ·rintro⟨b',h,hk⟩; cases h; exact hk
 ·intro hk; exact⟨b,rfl,hk⟩
@[go_sem] theorem TW (neg a b:Bool) : AY neg (Bo a) (Bo b) K=K (Bo ((a == b) != neg)):=by
 apply propext; unfold AY
 constructor
 ·rintro⟨a',b',h,h',hk⟩; cases h; cases h'; exact hk
 ·intro hk; exact⟨a,b,rfl,rfl,hk⟩
@[go_sem] theorem IQ (t:Bool) (a b:AV) : ay (Bo t) a b K=K (if t then a else b):=by
 apply propext; unfold ay
 constructor
 ·rintro⟨t',h,hk⟩; cases h; exact hk
 ·intro hk; exact⟨t,rfl,hk⟩
@[go_sem] theorem Ht (b:Bool) (p q:Prop) : aj (Bo b) p q=((b=true→p)∧(b=false→q)):=rfl
@[go_sem] theorem U0 {α:Type} (b want:Bool) (f g:α→Prop) (k:α) : lG (Bo b) want f g k=if b=want then f k else g k:=rfl
@[go_sem] theorem Ri {α:Type} (want:Bool) (f g:α→Prop) (k:α) : lG .undef want f g k=g k:=rfl
@[go_sem] theorem VI (b o:Nat) : Pk (.ptr b o) K=K (.ptr b o):=by
 apply propext; unfold Pk
 constructor
 ·rintro⟨b',o',h,hk⟩; cases h; exact hk
 ·intro hk; exact⟨b,o,rfl,hk⟩
@[go_sem] theorem gm (b o n:Nat) : aP (.ptr b o) n K=K (.ptr b (o + n)):=by
 apply propext; unfold aP
 constructor
 ·rintro⟨b',o',h,hk⟩; cases h; exact hk
 ·intro hk; exact⟨b,o,rfl,hk⟩
@[go_sem] theorem oM (b p len:Nat) (cap:Cap) (k:IntKind) (n:Int) (size:Nat) : bZ (.slc b p len cap) (N k n) size K=(0≤n∧n<len∧K (.ptr b (p + n.toNat * size))):=by
 apply propext; unfold bZ
 constructor
 ·rintro⟨b',p',l',c',k',n',h,h',h0,h1,hk⟩; cases h; cases h'; exact⟨h0,h1,hk⟩
 ·rintro⟨h0,h1,hk⟩; exact⟨b,p,len,cap,k,n,rfl,rfl,h0,h1,hk⟩
@[go_sem] theorem Pp (b p:Nat) (k:IntKind) (n:Int) (len size:Nat) : oD (.ptr b p) (N k n) len size K=(0≤n∧n<len∧K (.ptr b (p + n.toNat * size))):=by
 apply propext; unfold oD
 constructor
 ·rintro⟨b',p',k',n',h,h',h0,h1,hk⟩; cases h; cases h'; exact⟨h0,h1,hk⟩
 ·rintro⟨h0,h1,hk⟩; exact⟨b,p,k,n,rfl,rfl,h0,h1,hk⟩
@[go_sem] theorem U3 (cs:List AV) (off:Nat) : K4 (.agg cs) off K=∃ v,cs[off]?=some v∧K v:=by
 apply propext; unfold K4
 constructor
 ·rintro⟨cs',v,h,h1,hk⟩; cases h; exact⟨v,h1,hk⟩
 ·rintro⟨v,h1,hk⟩; exact⟨cs,v,rfl,h1,hk⟩
@[go_sem] theorem UU (cs:List AV) (off n:Nat) : Lu (.agg cs) off n K=(off + n≤cs.length∧K (.agg ((cs.drop off).take n))):=by
 apply propext; unfold Lu
 constructor
 ·rintro⟨cs',h,h1,hk⟩; cases h; exact⟨h1,hk⟩
 ·rintro⟨h1,hk⟩; exact⟨cs,rfl,h1,hk⟩
@[go_sem] theorem UW (cs:List AV) (k:IntKind) (n:Int) (len:Nat) : KN (.agg cs) (N k n) len K=(0≤n∧n<len∧∃ v,cs[n.toNat]?=some v∧K v):=by
 apply propext; unfold KN
 constructor
 ·rintro⟨cs',k',n',v,h,h',h0,h1,h2,hk⟩; cases h; cases h'; exact⟨h0,h1,v,h2,hk⟩
 ·rintro⟨h0,h1,v,h2,hk⟩; exact⟨cs,k,n,v,rfl,rfl,h0,h1,h2,hk⟩
@[go_sem] theorem UR (cs:List AV) (k:IntKind) (n:Int) (len size:Nat) : KJ (.agg cs) (N k n) len size K=(0≤n∧n<len∧n.toNat * size + size≤cs.length∧K (.agg ((cs.drop (n.toNat * size)).take size))):=by
 apply propext; unfold KJ
 constructor
 ·rintro⟨cs',k',n',h,h',h0,h1,h2,hk⟩; cases h; cases h'; exact⟨h0,h1,h2,hk⟩
 ·rintro⟨h0,h1,h2,hk⟩; exact⟨cs,k,n,rfl,rfl,h0,h1,h2,hk⟩
@[go_sem] theorem QN (s:List UInt8) (k:IntKind) (n:Int) : bQ (St s) (N k n) K=(0≤n∧∃ b,s[n.toNat]?=some b∧K (N .u8 b.toNat)):=by
 apply propext; unfold bQ
 constructor
 ·rintro⟨s',k',n',b,h,h',h0,h1,hk⟩; cases h; cases h'; exact⟨h0,b,h1,hk⟩
 ·rintro⟨h0,b,h1,hk⟩; exact⟨s,k,n,b,rfl,rfl,h0,h1,hk⟩
@[go_sem] theorem BM (vs:List AV) (i:Nat) : aG (.tup vs) i K=∃ v,vs[i]?=some v∧K v:=by
 apply propext; unfold aG
 constructor
 ·rintro⟨cs',v,h,h1,hk⟩; cases h; exact⟨v,h1,hk⟩
 ·rintro⟨v,h1,hk⟩; exact⟨vs,v,rfl,h1,hk⟩
@[go_sem] theorem cz (v:AV) : bB (some v) K=K v:=by
 apply propext; unfold bB
 constructor
 ·rintro⟨v',h,hk⟩; cases h; exact hk
 ·intro hk; exact⟨v,rfl,hk⟩
@[go_sem] theorem kw (b o n:Nat) (c:Cap) : bi (.slc b o n c) K=K (N .i64 n):=by
 apply propext; unfold bi
 constructor
 ·rintro⟨n',h,hk⟩; cases h; exact hk
 ·intro hk; exact⟨n,rfl,hk⟩
@[go_sem] theorem OP (b:Nat) : bi (.emp b) K=K (N .i64 0):=by
 apply propext; unfold bi
 constructor
 ·rintro⟨n',h,hk⟩; cases h; exact hk
 ·intro hk; exact⟨0,rfl,hk⟩
@[go_sem] theorem Cv:bi (.sc (.slice none 0 0)) K=K (N .i64 0):=by
 apply propext; unfold bi
 constructor
 ·rintro⟨n',h,hk⟩; cases h; exact hk
 ·intro hk; exact⟨0,rfl,hk⟩
@[go_sem] theorem dS (s:List UInt8) : aS (St s) K=K (N .i64 s.length):=by
 apply propext; unfold aS
 constructor
 ·rintro⟨s',h,hk⟩; cases h; exact hk
 ·intro hk; exact⟨s,rfl,hk⟩
@[go_sem] theorem WT (b o n c:Nat) : wR (.slc b o n (.ex c)) K=K (N .i64 c):=by
 apply propext; unfold wR
 constructor
 ·rintro⟨n',h,hk⟩; cases h; exact hk
 ·intro hk; exact⟨c,rfl,hk⟩
@[go_sem] theorem Wt:wR (.sc (.slice none 0 0)) K=K (N .i64 0):=by
 apply propext; unfold wR
 constructor
 ·rintro⟨n',h,hk⟩; cases h; exact hk
 ·intro hk; exact⟨0,rfl,hk⟩
@[go_sem] theorem VQ (s:List UInt8) : isStr (St s) K=K (St s):=by
 apply propext; unfold isStr
 constructor
 ·rintro⟨s',h,hk⟩; cases h; exact hk
 ·intro hk; exact⟨s,rfl,hk⟩
@[go_sem] theorem JO {x:AV} {s:List UInt8} (h:wY M x=some s) : dR M x K=K (St s):=by
 apply propext; unfold dR
 constructor
 ·rintro⟨s',h',hk⟩; rw[h] at h'; cases h'; exact hk
 ·intro hk; exact⟨s,h,hk⟩
theorem nz {op:BinOp} {a b:List UInt8} {v:AV} (h:xH op a b=some v) : bE op (St a) (St b) K=K v:=by
 apply propext; unfold bE
 constructor
 ·rintro⟨a',b',u,h1,h2,h3,hk⟩; cases h1; cases h2; rw[h] at h3; cases h3; exact hk
 ·intro hk; exact⟨a,b,v,rfl,rfl,h,hk⟩
@[go_sem] theorem eX (a b:List UInt8) : bE .eql (St a) (St b) K=K (Bo (a == b)):=by rw[← gQ]; exact nz rfl
@[go_sem] theorem lg (a b:List UInt8) : bE .neq (St a) (St b) K=K (Bo (a != b)):=by rw[bne,← gQ]; exact nz rfl
@[go_sem] theorem VX (a b:List UInt8) : bE .lss (St a) (St b) K=K (Bo (Op.bytesLess a b)):=nz rfl
@[go_sem] theorem Vk (a b:List UInt8) : bE .leq (St a) (St b) K=K (Bo (Op.bytesLess a b || a == b)):=by rw[← gQ]; exact nz rfl
@[go_sem] theorem Wz (a b:List UInt8) : bE .gtr (St a) (St b) K=K (Bo (!(Op.bytesLess a b || a == b))):=by rw[← gQ]; exact nz rfl
@[go_sem] theorem Wq (a b:List UInt8) : bE .geq (St a) (St b) K=K (Bo (!Op.bytesLess a b)):=nz rfl
@[go_sem] theorem dz (a b:List UInt8) : bE .add (St a) (St b) K=(a.length + b.length≤9223372036854775807∧K (St (a++b))):=by
 apply propext; unfold bE
 constructor
 ·rintro⟨a',b',u,h1,h2,h3,hk⟩; cases h1; cases h2
  simp only[xH] at h3
  split at h3
  ·rename_i hb; cases h3; exact⟨aU hb,hk⟩
  ·cases h3
 ·rintro⟨h0,hk⟩; exact⟨a,b,_,rfl,rfl,by simp only[xH,aR.2 h0],hk⟩
theorem jy {neg:Bool} {tag:Nat} {x y:AV} {r:Bool} (ht:GA x=tag) (h:xD x y=some r) : iH neg tag x y K=K (Bo (r != neg)):=by
 apply propext; unfold iH
 constructor
 ·rintro⟨_,r',h',hk⟩; rw[h] at h'; cases h'; exact hk
 ·intro hk; exact⟨ht,r,h,hk⟩
@[go_sem] theorem EZ (neg:Bool) : iH neg 2 (.sc (.slice none 0 0)) (.sc (.slice none 0 0)) K=K (Bo (!neg)):=(jy (tag:=2) (r:=true) rfl rfl).trans (by cases neg <;> rfl)
@[go_sem] theorem EP (neg:Bool) (b:Nat) : iH neg 2 (.emp b) (.sc (.slice none 0 0)) K=K (Bo neg):=(jy (tag:=2) (r:=false) rfl rfl).trans (by cases neg <;> rfl)
@[go_sem] theorem EO (neg:Bool) (b o n:Nat) (c:Cap) : iH neg 2 (.slc b o n c) (.sc (.slice none 0 0)) K=K (Bo neg):=(jy (tag:=2) (r:=false) rfl rfl).trans (by cases neg <;> rfl)
@[go_sem] theorem QS (neg:Bool) (b o:Nat) : iH neg 1 (.ptr b o) (.sc (.pointer none)) K=K (Bo neg):=(jy (tag:=1) (r:=false) rfl rfl).trans (by cases neg <;> rfl)
@[go_sem] theorem Qo (neg:Bool) : iH neg 1 (.sc (.pointer none)) (.sc (.pointer none)) K=K (Bo (!neg)):=(jy (tag:=1) (r:=true) rfl rfl).trans (by cases neg <;> rfl)
@[go_sem] theorem QF (neg:Bool) (b:Nat) : iH neg 3 (.map b) (.sc (.map none)) K=K (Bo neg):=(jy (tag:=3) (r:=false) rfl rfl).trans (by cases neg <;> rfl)
@[go_sem] theorem Rc (neg:Bool) (f:Fn) (xs ys:List AV) : iH neg 4 (.fn f xs ys) (.sc .nilFunc) K=K (Bo neg):=(jy (tag:=4) (r:=false) rfl rfl).trans (by cases neg <;> rfl)
@[go_sem] theorem Ll (neg:Bool) (ks:List Nat) (cs ds:List AV) : sG neg ks (.agg cs) (.agg ds) K=(cs.length=ks.length∧ds.length=ks.length∧∃ r,dD ks cs ds=some r∧K (Bo (r != neg))):=by
 apply propext; unfold sG
 constructor
 ·rintro⟨a',b',r,h1,h2,h3,h4,h5,hk⟩; cases h1; cases h2; exact⟨h3,h4,r,h5,hk⟩
 ·rintro⟨h3,h4,r,h5,hk⟩; exact⟨cs,ds,r,rfl,rfl,h3,h4,h5,hk⟩
@[go_sem] theorem Ci (C:FuncId→ak) (g:FuncId) (first cap args:List AV) : Ba C (.fn (.func g) first cap) args M KQ=C g (first++args++cap) M KQ:=by
 apply propext; unfold Ba
 constructor
 ·rintro⟨g',f',c',h,hk⟩; cases h; exact hk
 ·intro hk; exact⟨g,first,cap,rfl,hk⟩
@[go_sem] theorem eu (cs:List AV) (parts:List (Nat × Nat × AV)) : dC cs parts K=∃ cs',kQ cs parts=some cs'∧K (.agg cs'):=rfl
@[go_sem] theorem aV (x:RB) (mk:Nat→AV) : bf x mk M KQ=KQ (mk M.next) (M.push x):=rfl
@[go_sem] theorem A9 (x:RB) (mk:Nat→AV) (k:KR) : uM x mk M k=k (mk M.next) (M.push x) (some M.next):=rfl
@[go_sem] theorem pM (f:(List AV→RM→Prop)→Prop) (g:List AV→RM→Prop) : eG f g=f g:=rfl
@[go_sem] theorem aN (x:AV) (xs:List AV) : ag (x :: xs) 0=x:=rfl
@[go_sem] theorem cK (x:AV) (xs:List AV) (n:Nat) : ag (x :: xs) (n + 1)=ag xs n:=rfl
@[go_sem] theorem Ub (b:Nat) (x:RB) (mk:Nat→AV) (v:AV) : GH (some b) M x mk v=(M.heap b=some x∧mk b=v):=rfl
end
section
variable {M M' : RM}
theorem RM.uo {b:Nat} {l:List AV} {opn:Bool} {el fz:Nat} (h:M.heap b=some (.row l opn el fz)) : M.cells b=some l:=by simp[RM.cells,h]
theorem RM.OL {b o:Nat} {l:List AV} {opn:Bool} {el fz:Nat} (h:M.heap b=some (.row l opn el fz)) : M.cell b o=l[o]?:=by simp[RM.cell,RM.uo h]
theorem RM.iP {b o k:Nat} {l:List AV} {opn:Bool} {el fz:Nat} (h:M.heap b=some (.row l opn el fz)) (hk:o + k≤l.length) : M.loads b o k=some ((l.drop o).take k):=by
 simp[RM.loads,RM.uo h,hk]
theorem RM.Ml {b o:Nat} {l vs:List AV} {opn:Bool} {el fz:Nat} (h:M.heap b=some (.row l opn el fz)) (h1:o + vs.length≤l.length) (h2:fz≤o) (h3:vs.all oneCell=true) :
  M.stores b o vs=some (M.put b (.row (l.take o++vs++l.drop (o + vs.length)) opn el fz)):=by
 simp only[RM.stores,h]
 rw[if_pos ⟨h1,h2,h3⟩]
structure af (bs:List Nat) (M M' : RM) : Prop where
 base:M'.base=M.base
 next:M.next≤M'.next
 heap:∀ c,c<M.next→c ∉ bs→M'.heap c=M.heap c
theorem af.refl (bs:List Nat) (M:RM) : af bs M M:=⟨rfl,Nat.le_refl _,fun _ _ _=>rfl⟩
theorem af.trans {bs:List Nat} {M1 M2:RM} (h:af bs M M1) (k:af bs M1 M2) : af bs M M2 :=
 ⟨k.base.trans h.base,Nat.le_trans h.next k.next,fun c hc hb=>(k.heap c (Nat.lt_of_lt_of_le hc h.next) hb).trans (h.heap c hc hb)⟩
theorem af.push {bs:List Nat} (h:af bs M M') (x:RB) : af bs M (M'.push x) :=
 ⟨h.base,Nat.le_succ_of_le h.next,fun c hc hb=>by
  have:=h.next
  simp only[RM.push]; rw[if_neg (by omega)]; exact h.heap c hc hb⟩
theorem af.put {bs:List Nat} (h:af bs M M') {b:Nat} (x:RB) (hb:M.next≤b∨b∈bs) : af bs M (M'.put b x) :=
 ⟨h.base,h.next,fun c hc hcb=>by
  simp only[RM.put]; rw[if_neg]
  ·exact h.heap c hc hcb
  ·rintro rfl; rcases hb with hb | hb
   ·omega
   ·exact hcb hb⟩
theorem af.del {bs:List Nat} (h:af bs M M') {b:Nat} (hb:M.next≤b∨b∈bs) : af bs M (M'.del b) :=
 ⟨h.base,h.next,fun c hc hcb=>by
  simp only[RM.del]; rw[if_neg]
  ·exact h.heap c hc hcb
  ·rintro rfl; rcases hb with hb | hb
   ·omega
   ·exact hcb hb⟩
theorem af.mono {bs cs:List Nat} (h:af bs M M') (hs:∀ b∈bs,b∈cs) : af cs M M':=⟨h.base,h.next,fun c hc hb=>h.heap c hc fun h=>hb (hs c h)⟩
theorem af.cells {bs:List Nat} (h:af bs M M') {b:Nat} (hlt:b<M.next) (hb:b ∉ bs) : M'.cells b=M.cells b:=by
 simp only[RM.cells,h.heap b hlt hb,RM.lo,h.base]
theorem af.cell {bs:List Nat} (h:af bs M M') {b o:Nat} (hlt:b<M.next) (hb:b ∉ bs) : M'.cell b o=M.cell b o:=by
 simp only[RM.cell,h.cells hlt hb]
theorem af.loads {bs:List Nat} (h:af bs M M') {b o k:Nat} (hlt:b<M.next) (hb:b ∉ bs) : M'.loads b o k=M.loads b o k:=by
 simp only[RM.loads,h.cells hlt hb]
@[go_sem] theorem RM.UX (x:RB) : (M.push x).next=M.next + 1:=rfl
@[go_sem] theorem RM.VU (b:Nat) (x:RB) : (M.put b x).next=M.next:=rfl
@[go_sem] theorem RM.VF (b:Nat) : (M.del b).next=M.next:=rfl
@[go_sem] theorem RM.lJ (x:RB) : (M.push x).heap M.next=some x:=by simp[RM.push]
theorem RM.PG {x:RB} {c:Nat} (h:c≠M.next) : (M.push x).heap c=M.heap c:=by simp[RM.push,h]
@[go_sem] theorem RM.Cc (b:Nat) (x:RB) : (M.put b x).heap b=some x:=by simp[RM.put]
end
abbrev aA:AV:=.sc (.slice none 0 0)
inductive aJ (M:RM) (size:Nat) : AV→List AV→Nat→Prop
 | nil:aJ M size aA [] 0
 | emp (b:Nat) : aJ M size (.emp b) [] 0
 | slc (b o n:Nat) (cap:Cap) (cs:List AV) : b<M.next→M.loads b o (n * size)=some cs→aJ M size (.slc b o n cap) cs n
section
variable {M M' : RM} {size:Nat} {v:AV} {cs:List AV} {n:Nat}
theorem Fv {b o k:Nat} {cs:List AV} (h:M.loads b o k=some cs) : cs.length=k:=by
 unfold RM.loads at h
 split at h <;> first | (cases h; done) | skip
 split at h <;> first | (cases h; done) | skip
 rename_i hle
 have:=Option.some.inj h
 rw[← this,List.length_take,List.length_drop]; omega
theorem Om {b o k:Nat} {cs:List AV} (h:M.loads b o k=some cs) (i:Nat) (hi:i<k) : M.cell b (o + i)=cs[i]?:=by
 unfold RM.loads at h
 unfold RM.cell
 split at h <;> first | (cases h; done) | skip
 rename_i l hl
 split at h <;> first | (cases h; done) | skip
 cases h
 simp only[hl,Option.bind_some]
 rw[List.getElem?_take,if_pos hi,List.getElem?_drop]
theorem ul {b o k:Nat} {cs:List AV} (h:M.loads b o k=some cs) (i j:Nat) (hij:i + j≤k) : M.loads b (o + i) j=some ((cs.drop i).take j):=by
 unfold RM.loads at h ⊢
 cases hl:M.cells b with
 | none=>rw[hl] at h; cases h
 | some l =>
   rw[hl] at h
   simp only at h ⊢
   split at h
   ·rename_i hle
    have h:=Option.some.inj h
    subst h
    rw[if_pos (by omega),List.drop_take,List.drop_drop,List.take_take]
    congr 2
    omega
   ·cases h
theorem Df {b o:Nat} {l:List AV} (h:M.cells b=some l) (ho:o≤l.length) : M.loads b o 0=some []:=by
 simp[RM.loads,h,ho]
theorem aJ.length (h:aJ M size v cs n) : cs.length=n * size:=by
 cases h with
 | nil=>exact(Nat.zero_mul _).symm
 | emp=>exact(Nat.zero_mul _).symm
 | slc b o n cap cs hb0 hl=>exact Fv hl
theorem aJ.len (h:aJ M size v cs n) {K:AV→Prop} : bi v K=K (N .i64 n):=by
 cases h with
 | nil=>exact Cv
 | emp b=>exact OP b
 | slc b o n cap cs hb0 hl=>exact kw b o n cap
theorem aJ.nZ (h:aJ M size v cs n) (zs:List AV) : nZ M size zs false v=some (n,cs):=by
 cases h with
 | nil=>rfl
 | emp b=>rfl
 | slc b o n cap cs hb0 hl=>simp only[Go.Ab.nZ,hl]
theorem aJ.pos (h:aJ M size v cs n) (hn:0<n) : ∃ b o cap,v=.slc b o n cap∧b<M.next∧M.loads b o (n * size)=some cs:=by
 cases h with
 | nil=>omega
 | emp b=>omega
 | slc b o n cap cs hb0 hl=>exact⟨b,o,cap,rfl,hb0,hl⟩
theorem aJ.wY (h:aJ M 1 v cs n) {l:List UInt8} (hb:dK byteOf cs=some l) : wY M v=some l:=by
 cases h with
 | nil=>simp[dK] at hb; subst hb; rfl
 | emp b=>simp[dK] at hb; subst hb; rfl
 | slc b o n cap cs hb0 hl =>
   rw[Nat.mul_one] at hl
   simp only[Go.Ab.wY,hl]; exact hb
def aW:AV→List Nat
 | .slc b _ _ _=>[b]
 | _=>[]
theorem aJ.keep {bs:List Nat} (h:aJ M size v cs n) (hk:af bs M M') (hb:∀ b∈aW v,b ∉ bs) : aJ M' size v cs n:=by
 cases h with
 | nil=>exact .nil
 | emp b=>exact .emp b
 | slc b o n cap cs hb0 hl =>
   exact .slc b o n cap cs (Nat.lt_of_lt_of_le hb0 hk.next) (by rw[hk.loads hb0 (hb b (by simp[aW]))]; exact hl)
inductive Own (M:RM) (base el size:Nat) : AV→List AV→Nat→Prop
 | nil:Own M base el size aA [] 0
 | ex0 (b o:Nat) : base≤b→b<M.next→(∃ l,M.cells b=some l∧o≤l.length)→Own M base el size (.slc b o 0 (.ex 0)) [] 0
 | op (b n:Nat) (cs:List AV) : base≤b→b<M.next→M.heap b=some (.row cs true el 0)→cs.length=n * size→Own M base el size (.slc b 0 n (.op size)) cs n
theorem Own.jc {base el:Nat} (h:Own M base el size v cs n) : aJ M size v cs n:=by
 cases h with
 | nil=>exact .nil
 | ex0 b o hb hlt hc =>
   obtain⟨l,hl,ho⟩:=hc
   exact .slc b o 0 _ [] hlt (by rw[Nat.zero_mul]; exact Df hl ho)
 | op b n cs hb hlt hh hl =>
   refine .slc b 0 n _ cs hlt ?_
   rw[RM.iP hh (by omega)]
   simp[← hl]
theorem Own.blk {base el:Nat} (h:Own M base el size v cs n) : ∀ b∈aW v,base≤b∧b<M.next:=by
 cases h with
 | nil=>intro b hb; simp[aW] at hb
 | ex0 b o hb hlt hc=>intro c hc; simp[aW] at hc; subst hc; exact⟨hb,hlt⟩
 | op b n cs hb hlt hh hl=>intro c hc; simp[aW] at hc; subst hc; exact⟨hb,hlt⟩
theorem Own.keep {base el:Nat} {bs:List Nat} (h:Own M base el size v cs n) (hk:af bs M M') (hb:∀ b∈aW v,b ∉ bs) : Own M' base el size v cs n:=by
 cases h with
 | nil=>exact .nil
 | ex0 b o h1 hlt hc=>exact .ex0 b o h1 (Nat.lt_of_lt_of_le hlt hk.next) (by rw[hk.cells hlt (hb b (by simp[aW]))]; exact hc)
 | op b n cs h1 hlt hh hl=>exact .op b n cs h1 (Nat.lt_of_lt_of_le hlt hk.next) (by rw[hk.heap b hlt (hb b (by simp[aW]))]; exact hh) hl
theorem Own.mono {base base' el:Nat} (h:Own M base el size v cs n) (hb:base'≤base) : Own M base' el size v cs n:=by
 cases h with
 | nil=>exact .nil
 | ex0 b o h1 hlt hc=>exact .ex0 b o (Nat.le_trans hb h1) hlt hc
 | op b n cs h1 hlt hh hl=>exact .op b n cs (Nat.le_trans hb h1) hlt hh hl
theorem AA {base el bytes:Nat} {zs:List AV} {zeros:Bool} {x:AV} {m:Nat} {ds:List AV} {K:ai} (h:Own M base el size v cs n) (hbase:base≤M.next) (hs:1≤size) (hx:nZ M size zs zeros x=some (m,ds)) (hd:ds.length=m * size)
  (h1:ds.all oneCell=true) (hb:(n + m) * bytes≤140737488355328) (hb2:n + m≤140737488355328)
  (hK:∀ v' M',Own M' base el size v' (cs++ds) (n + m)→af (aW v) M M'→M.next≤M'.next→(v'=v∨∀ b∈aW v',M.next≤b)→K v' M') : appW el size bytes zs zeros v x M K:=by
 have hmb:m * bytes≤140737488355328:=Nat.le_trans (Nat.mul_le_mul_right _ (by omega)) hb
 refine⟨m,ds,hx,hmb,by omega, ?_⟩
 cases h with
 | nil =>
   by_cases hm:m=0
   ·subst hm
    have:ds=[]:=List.eq_nil_of_length_eq_zero (by simpa using hd)
    subst this
    exact⟨aA,M,by simp[rZ],hK _ _ .nil (af.refl _ _) (Nat.le_refl _) (.inl rfl)⟩
   ·refine⟨.slc M.next 0 m (.op size),M.push (.row ds true el 0),by simp only[rZ,if_neg hm,h1,if_true],hK _ _ ?_ ((af.refl _ _).push _) (by simp[RM.push]) (.inr fun b hb=>by simp[aW] at hb; omega)⟩
    simp only[List.nil_append,Nat.zero_add]
    exact .op _ _ _ hbase (by simp[RM.push]) (RM.lJ _) hd
 | ex0 b o hb0 hlt hc =>
   obtain⟨l,hl,ho⟩:=hc
   by_cases hm:m=0
   ·subst hm
    have:ds=[]:=List.eq_nil_of_length_eq_zero (by simpa using hd)
    subst this
    exact⟨_,M,by simp[rZ],hK _ _ (.ex0 b o hb0 hlt ⟨l,hl,ho⟩) (af.refl _ _) (Nat.le_refl _) (.inl rfl)⟩
   ·refine⟨.slc M.next 0 m (.op size),M.push (.row ds true el 0), ?_,hK _ _ ?_ ((af.refl _ _).push _) (by simp[RM.push]) (.inr fun b hb=>by simp[aW] at hb; omega)⟩
    ·have hl0:M.loads b o (0 * size)=some []:=by rw[Nat.zero_mul]; exact Df hl ho
     simp only[rZ,if_neg hm]
     rw[if_neg (by omega),hl0]
     simp only[Nat.zero_add,List.nil_append]
     rw[if_pos ⟨hmb,by omega,h1⟩]
    ·simp only[List.nil_append,Nat.zero_add]
     exact .op _ _ _ hbase (by simp[RM.push]) (RM.lJ _) hd
 | op b n cs hb0 hlt hh hl =>
   by_cases hm:m=0
   ·subst hm
    have:ds=[]:=List.eq_nil_of_length_eq_zero (by simpa using hd)
    subst this
    exact⟨_,M,by simp[rZ],hK _ _ (by simpa using .op b n cs hb0 hlt hh hl) (af.refl _ _) (Nat.le_refl _) (.inl rfl)⟩
   ·have hpos:1≤m * size:=Nat.mul_pos (by omega) hs
    have hsum:(n + m) * size=n * size + m * size:=Nat.add_mul _ _ _
    refine⟨.slc M.next 0 (n + m) (.op size),(M.del b).push (.row (cs++ds) true el 0), ?_,hK _ _ ?_ (((af.refl _ _).del (.inr (by simp[aW]))).push _) (by simp[RM.push,RM.del]) (.inr fun b hb=>by simp[aW] at hb; omega)⟩
    ·simp only[rZ,if_neg hm,hh,and_self,if_true]
     rw[if_neg (by omega),if_pos ⟨trivial,hb,hb2,trivial,hl,Nat.zero_le _,h1⟩]
    ·exact .op _ _ _ (show base≤M.next from hbase) (by simp[RM.push,RM.del]) (by simp[RM.push,RM.del]) (by rw[List.length_append,hl,hd,hsum])
theorem aJ.xD (h:aJ M size v cs n) (neg:Bool) : (v=aA∧∀ K:AV→Prop,iH neg 2 v aA K=K (Bo (!neg)))∨(v≠aA∧∀ K:AV→Prop,iH neg 2 v aA K=K (Bo neg)):=by
 cases h with
 | nil=>exact .inl ⟨rfl,fun _=>EZ neg⟩
 | emp b=>exact .inr ⟨by(intro h; cases h),fun _=>EP neg b⟩
 | slc b o n cap cs hb0 hl=>exact .inr ⟨by(intro h; cases h),fun _=>EO neg b o n cap⟩
theorem Own.lit {base el T:Nat} (M:RM) (h:base≤M.next) : Own (M.push (.row [] false T 0)) base el size (.slc M.next 0 0 (.ex 0)) [] 0 :=
 .ex0 _ _ h (by simp[RM.push]) ⟨[],by simp[RM.cells,RM.push],Nat.le_refl _⟩
end
end Go.Ab
set_option maxRecDepth 4000
namespace Go.Ab
open Go
theorem wrap_u8 (n:Nat) : IntKind.wrap .u8 (n:Int)=((n % 256:Nat) : Int):=by
 simp only[IntKind.wrap,IntKind.bits,IntKind.signed,IntKind.max,IntKind.min]
 simp
theorem fq {n:Int} (h0:0≤n) (h:n<256) : IntKind.wrap .u8 n=n:=by
 obtain⟨m,rfl⟩:=Int.eq_ofNat_of_zero_le h0
 rw[wrap_u8,Nat.mod_eq_of_lt (by omega)]
theorem bn {n:Int} (h0 : -9223372036854775808≤n) (h:n<9223372036854775808) : IntKind.wrap .i64 n=n:=by
 rw[IntKind.wrap_i64]; omega
theorem QR (k:Nat) (a b:Nat) : (BitVec.ofInt k (a:Int) &&& BitVec.ofInt k (b:Int)).toNat=(a &&& b) % 2 ^ k:=by
 rw[BitVec.toNat_and,BitVec.ofInt_natCast,BitVec.ofInt_natCast,BitVec.toNat_ofNat,BitVec.toNat_ofNat,← Nat.and_mod_two_pow]
def Eb:IntKind→Nat
 | .u8=>8 | .u16=>16 | .u32=>32 | _=>64
def DY:IntKind→Bool
 | .u8 | .u16 | .u32 | .u64=>true
 | _=>false
theorem Pg {k:IntKind} (h:DY k=true) (n:Nat) : k.wrap (n:Int)=((n % 2 ^ Eb k:Nat) : Int):=by
 cases k <;> simp[DY] at h <;> (simp only[IntKind.wrap,IntKind.bits,IntKind.signed,Eb]; simp)
theorem PH (k:IntKind) (h:DY k=true) : k.bits=Eb k:=by cases k <;> simp[DY] at h <;> rfl
theorem PL {k:IntKind} (h:DY k=true) (a b:Nat) : Mm k a b=(((a &&& b) % 2 ^ Eb k:Nat) : Int):=by
 unfold Mm
 rw[QR,Pg h,PH k h,Nat.mod_mod]
theorem SF (n:Nat) : (UInt8.ofNat n).toNat=n % 256:=by simp
end Go.Ab
namespace Go.Ab
open Go Go.RowKit
section
variable {P:Program}
end
def RM.old (base:Base) (w:World) : RM where
 next:=base.n
 heap:=fun b=>if b<base.n then(match w.heap[b]? with | some (.cells c _ _)=>some (.ro c) | _=>none) else none
 base:=base
def Je (n:Nat) : Ren:=fun b=>if b<n then some ⟨b,0,0,0⟩ else none
theorem PS {P:Program} {base:Base} {w:World} (hn:base.n=w.heap.size) (hi:base.inv w) : bY P (Je base.n) (RM.old base w) w:=by
 refine⟨{ next:=base.n,heap:=.leaf },rfl,⟨fun b i h=>?_,fun b i x _ h=>by simp[Tree.get] at h,fun b _ i _ x _ _ _ h=>by simp[Tree.get] at h,fun b x h=>by simp[Tree.get] at h,fun b i x _ h=>by simp[Tree.get] at h,hi⟩,by simp[RM.old,RM.lo,hn],fun b x h=>.inr ?_,fun c hc=>by have hc' : c<base.n:=hc; simp only[Je]; rw[if_pos hc']⟩
 ·simp only[Je] at h
  split at h <;> first | (cases h; done) | skip
  cases h
  exact⟨by assumption,by rw[← hn]; assumption⟩
 ·simp only[RM.old] at h
  split at h <;> first | (cases h; done) | skip
  rename_i hlt
  split at h <;> first | (cases h; done) | skip
  rename_i c el fr hh
  cases h
  exact⟨c,rfl,hlt,el,fr,hh⟩
theorem RM.NG {base:Base} {w:World} {b:Nat} {c:Array Value} {el:TypeId} {fr:_} (hb:b<base.n) (h:w.heap[b]?=some (.cells c el fr)) : (RM.old base w).cells b=some (c.toList.map (mQ base.n)):=by
 simp only[RM.cells,RM.old,if_pos hb,h]
def yD (lo:Nat) : Value→AV
 | .agg cs=>.agg (cs.toList.map (mQ lo))
 | v=>mQ lo v
theorem Ji {ρ:Ren} {lo:Nat} (h:∀ c,c<lo→ρ c=some ⟨c,0,0,0⟩) : ∀ (vs:List Value),aO ρ (vs.map (mQ lo)) vs
 | []=>.nil
 | v :: vs=>.cons _ _ _ _ (BH h v) (Ji h vs)
theorem PN {ρ:Ren} {lo:Nat} (h:∀ c,c<lo→ρ c=some ⟨c,0,0,0⟩) (v:Value) : ah ρ (yD lo v) v:=by
 unfold yD
 split
 ·exact .agg _ _ (Ji h _)
 ·exact BH h v
theorem Fp {ρ:Ren} {lo:Nat} (h:∀ c,c<lo→ρ c=some ⟨c,0,0,0⟩) : ∀ (vs:List Value),aO ρ (vs.map (yD lo)) vs
 | []=>.nil
 | v :: vs=>.cons _ _ _ _ (PN h v) (Fp h vs)
theorem eZ.close {P:Program} {f:FuncId} {base:Base} {w:World} {us:Array Value} (hn:base.n=w.heap.size) (hi:base.inv w)
  (h:eZ P f (us.toList.map (yD base.n)) (RM.old base w) fun v _=>v=Bo true) :
  Calls P f us w fun e w'=>e=.returned (.bool true)∧Below w.heap.size w w':=by
 have hr:=PS (P:=P) hn hi
 refine((h.2 (Je base.n) w us.toList (Fp (fun c hc=>by simp only[Je]; rw[if_pos hc]) _) hr)).mono fun e w' hR=>?_
 obtain⟨v',v,M',ρ',rfl,k1,k2,rfl⟩:=hR
 obtain⟨rfl,_⟩:=aI k2
 refine⟨rfl,k1.step.os,k1.step.tape,k1.step.output,k1.step.size,fun k hk=>k1.step.low k ?_⟩
 show k<base.n
 rw[hn]; exact hk
def zT:Option TypeDesc→Bool
 | some .bool | some (.int _) | some .string | some (.slice _) | some (.struct _) | some (.array _ _)=>false
 | _=>true
inductive Fits (P:Program) (M:RM) : TypeId→List AV→Prop
 | bool (t:TypeId) (b:Bool) : P.underlying t=some .bool→Fits P M t [Bo b]
 | int (t:TypeId) (k:IntKind) (n:Int) : P.underlying t=some (.int k)→k.min≤n→n≤k.max→Fits P M t [N k n]
 | str (t:TypeId) (s:List UInt8) : P.underlying t=some .string→s.length≤reachBytes→Fits P M t [St s]
 | K9 (t e:TypeId) : P.underlying t=some (.slice e)→Fits P M t [aA]
 | emp (t e:TypeId) (b:Nat) : P.underlying t=some (.slice e)→Fits P M t [.emp b]
 | slc (t e:TypeId) (b o n c:Nat) (cs:List AV) : P.underlying t=some (.slice e)→b<M.next→n≤c→c * P.bytesOf e≤reachBytes→M.loads b o (n * P.cellsOf e)=some cs →
   (∀ i,i<n→Fits P M e ((cs.drop (i * P.cellsOf e)).take (P.cellsOf e)))→Fits P M t [.slc b o n (.ex c)]
 | struct (t:TypeId) (fs:Array Field) (cs:List AV) : P.underlying t=some (.struct fs)→cs.length=P.cellsOf t →
   (∀ (i:Nat) (f:Field),fs[i]?=some f→Fits P M f.type ((cs.drop f.offset).take (P.cellsOf f.type)))→Fits P M t cs
 | array (t e:TypeId) (n:Nat) (cs:List AV) : P.underlying t=some (.array n e)→cs.length=P.cellsOf t →
   (∀ i,i<n→Fits P M e ((cs.drop (i * P.cellsOf e)).take (P.cellsOf e)))→Fits P M t cs
 | other (t:TypeId) (cs:List AV) : zT (P.underlying t)=true→Fits P M t cs
 | zero (t e:TypeId) (cs:List AV) : P.underlying t=some (.slice e)→P.cellsOf e=0→Fits P M t cs
theorem yF (a:Addr) : a.add 0=a:=by simp[Addr.add]
theorem ru {w:World} {base:Nat} {a:Addr} {n:Nat} {cs:List Value} (h:w.cells? base a n=some cs) : cs.length=n∧∀ i,i<n→w.cell? (a.add i)=cs[i]?:=by
 unfold World.cells? at h
 split at h
 ·exact⟨by simpa using mapM_some_length h,fun i hi=>mapM_some_get h i i (by simp[hi])⟩
 ·cases h
theorem cell?_at {w:World} {a:Addr} {v:Value} (h:w.cell? a=some v) : ∃ c el fr,w.heap[a.block]?=some (.cells c el fr)∧a.spot=none∧a.off<c.size∧c[a.off]?=some v:=by
 unfold World.cell? at h
 split at h
 ·rename_i c el fr hh
  split at h
  ·cases h
  ·rename_i hs
   exact⟨c,el,fr,hh,by simpa using hs,(Array.getElem?_eq_some_iff.1 h).1,h⟩
 ·cases h
section
variable {H:Type} {enc:TypeId × Value→H} {P:Program} {base:Base} {w:World}
theorem pg {e:TypeId} {ds:List (DataW H)} {d:DataW H} (hd:d∈ds) {x:Nat} (hx:x∈d.weights P e) : x∈DataW.weightsAll P e ds:=by
 induction ds with
 | nil=>cases hd
 | cons y ys ih =>
   simp only[DataW.weightsAll,List.mem_append]
   rcases List.mem_cons.1 hd with rfl | hd
   ·exact .inl hx
   ·exact .inr (ih hd)
theorem uF {x:Nat} : ∀ (ts:List TypeId) (ds:List (DataW H)) (i:Nat) (t:TypeId) (d:DataW H),ts[i]?=some t→ds[i]?=some d→x∈d.weights P t→x∈DataW.weightsEach P ts ds
 | [],_,_,_,_,h,_,_=>by simp at h
 | _ :: _,[],_,_,_,_,h,_=>by simp at h
 | t :: ts,d :: ds,0,t',d',h,h',hx=>by
   simp at h h'; subst h h'
   simp only[DataW.weightsEach,List.mem_append]; exact .inl hx
 | t :: ts,d :: ds,i + 1,t',d',h,h',hx=>by
   simp only[DataW.weightsEach,List.mem_append]
   exact .inr (uF ts ds i t' d' (by simpa using h) (by simpa using h') hx)
theorem Ib (hn:base.n=w.heap.size) {held:Bool} : ∀ (fuel:Nat) (t:TypeId) (cs:List Value) (x:DataW H × List MemPlace),DataW.trod enc P w 0 (fun _=>true) held fuel t cs=some x →
  (∀ y∈x.1.weights P t,y≤reachBytes)→Fits P (RM.old base w) t (cs.map (mQ base.n)):=by
 intro fuel
 induction fuel with
 | zero=>intro t cs x h; simp[DataW.trod] at h
 | succ m ih =>
   intro t cs x h hw
   cases hu:P.underlying t with
   | none=>exact .other _ _ (by rw[hu]; rfl)
   | some d =>
     cases d with
     | bool =>
       obtain⟨b,rfl,rfl⟩:=DataW.trod_bool hu h
       exact .bool t b hu
     | int k =>
       obtain⟨n,rfl,rfl,hwf⟩:=DataW.trod_int hu h
       simp only[Lit.wf,Bool.and_eq_true,decide_eq_true_eq] at hwf
       exact .int t k n hu hwf.1 hwf.2
     | string =>
       obtain⟨s,rfl,rfl,_⟩:=DataW.trod_string hu h
       exact .str t s.data.toList hu (hw _ (by simp[DataW.weights]))
     | slice e =>
       rcases DataW.trod_slice hu h with⟨rfl,rfl⟩ | ⟨a,len,cap,elems,rest,n,hm,rfl,rfl,_,hlc,_,hel,hget,hrest,_⟩
       ·exact .K9 t e hu
       ·cases hm
        rcases Nat.eq_zero_or_pos (P.cellsOf e) with hz | hz
        ·exact .zero t e _ hu hz
        rcases Nat.eq_zero_or_pos cap with hc | hc
        ·have hl0:len=0:=by omega
         subst hc hl0
         exact .emp t e 0 hu
        ·obtain⟨hr1,hr2⟩:=hrest rfl
         have every:∀ i,i<cap→∃ es y,w.cells? 0 (a.add (i * P.cellsOf e)) (P.cellsOf e)=some es∧DataW.trod enc P w 0 (fun _=>true) held m e es=some y∧(y∈elems∨y∈rest):=by
          intro i hi
          by_cases hil:i<len
          ·have h1:=hget i hil
           have h2:elems[i]?=some (elems[i]'(by omega)):=by simp[hel,hil]
           rw[h2] at h1
           obtain⟨es,e1,e2⟩:=Option.bind_eq_some_iff.1 h1
           exact⟨es,_,e1,e2,.inl (List.getElem_mem _)⟩
          ·have h1:=hr2 (i - len) (by omega)
           rw[show len + (i - len)=i by omega] at h1
           have h2:rest[i - len]?=some (rest[i - len]'(by omega)):=by
            rw[List.getElem?_eq_getElem]
           rw[h2] at h1
           obtain⟨es,e1,e2⟩:=Option.bind_eq_some_iff.1 h1
           exact⟨es,_,e1,e2,.inr (List.getElem_mem _)⟩
         obtain⟨es0,_,k0,_,_⟩:=every 0 hc
         obtain⟨kl0,kg0⟩:=ru k0
         have hc0:=kg0 0 hz
         rw[List.getElem?_eq_getElem (by omega)] at hc0
         obtain⟨c,el,fr,hh,hsp,_,_⟩:=cell?_at hc0
         obtain⟨b,o,sp⟩:=a
         rw[Nat.zero_mul,yF,yF] at hh hsp
         simp only at hh hsp
         subst hsp
         have hblt:b<base.n:=by rw[hn]; exact(Array.getElem?_eq_some_iff.1 hh).1
         have hlast:o + cap * P.cellsOf e≤c.size:=by
          obtain⟨es1,_,k1,_,_⟩:=every (cap - 1) (by omega)
          obtain⟨kl1,kg1⟩:=ru k1
          have hc1:=kg1 (P.cellsOf e - 1) (by omega)
          rw[List.getElem?_eq_getElem (by omega)] at hc1
          obtain⟨c',el',fr',hh',_,hlt,_⟩:=cell?_at hc1
          rw[eB,eB] at hh' hlt
          simp only at hh' hlt
          rw[hh] at hh'
          cases hh'
          have:cap * P.cellsOf e=(cap - 1) * P.cellsOf e + P.cellsOf e:=by
           rw[← Nat.succ_mul]; congr 1; omega
          omega
         have VR:mQ base.n (.slice (some ⟨b,o,none⟩) len cap)=.slc b o len (.ex cap):=by
          obtain⟨cap,rfl⟩ : ∃ k,cap=k + 1:=⟨cap - 1,by omega⟩
          simp only[mQ,if_pos hblt]
         have hcells:=RM.NG hblt hh
         have hle:len * P.cellsOf e≤cap * P.cellsOf e:=Nat.mul_le_mul_right _ hlc
         have hload:(RM.old base w).loads b o (len * P.cellsOf e)=some (((c.toList.map (mQ base.n)).drop o).take (len * P.cellsOf e)):=by
          simp only[RM.loads,hcells]
          rw[if_pos (by simp; omega)]
         simp only[List.map_cons,List.map_nil,VR]
         refine .slc t e b o len cap _ hu hblt hlc ?_ hload fun i hi=>?_
         ·have:=hw ((elems.length + rest.length) * P.bytesOf e) (by simp[DataW.weights,hu])
          rwa [hel,hr1,show len + (cap - len)=cap by omega] at this
         ·obtain⟨es,y,k1,k2,k3⟩:=every i (by omega)
          have hlen:=(ru k1).1
          have hes:((((c.toList.map (mQ base.n)).drop o).take (len * P.cellsOf e)).drop (i * P.cellsOf e)).take (P.cellsOf e)=es.map (mQ base.n):=by
           have hii:i * P.cellsOf e + P.cellsOf e≤len * P.cellsOf e:=by rw[← Nat.succ_mul]; exact Nat.mul_le_mul_right _ hi
           apply List.ext_getElem?
           intro j
           by_cases hj:j<P.cellsOf e
           ·have hg:=(ru k1).2 j hj
            rw[List.getElem?_take,if_pos hj,List.getElem?_drop,List.getElem?_take,if_pos (by omega),List.getElem?_drop,List.getElem?_map,List.getElem?_map,← hg]
            rw[eB,eB]
            simp only[World.cell?,hh]
            rw[Array.getElem?_toList]
            simp[Nat.add_assoc]
           ·rw[List.getElem?_eq_none (by simp; omega),List.getElem?_eq_none (by simp; omega)]
          rw[hes]
          refine ih e es y k2 fun z hz=>hw z ?_
          simp only[DataW.weights,hu,List.mem_cons,List.mem_append]
          rcases k3 with k3 | k3
          ·exact .inr (.inl (pg (List.mem_map_of_mem k3) hz))
          ·exact .inr (.inr (pg (List.mem_map_of_mem k3) hz))
     | struct fs =>
       obtain⟨xs,n,hm,rfl,hl,hxl,hget⟩:=DataW.trod_struct hu h
       cases hm
       refine .struct t fs _ hu (by simpa using hl) fun i f hf=>?_
       have h1:=hget i f hf
       have hi:i<fs.size:=(Array.getElem?_eq_some_iff.1 hf).1
       rw[List.getElem?_eq_getElem (by omega)] at h1
       rw[← List.map_drop,← List.map_take]
       refine ih _ _ _ h1 fun z hz=>hw z ?_
       simp only[DataW.weights,hu]
       refine uF _ _ i f.type _ (by simp[hf]) (by rw[List.getElem?_map,List.getElem?_eq_getElem (by omega)]; rfl) hz
     | array n e =>
       obtain⟨xs,m',hm,rfl,hl,hxl,hget⟩:=DataW.trod_array hu h
       cases hm
       refine .array t e n _ hu (by simpa using hl) fun i hi=>?_
       have h1:=hget i hi
       rw[List.getElem?_eq_getElem (by omega)] at h1
       rw[← List.map_drop,← List.map_take]
       refine ih _ _ _ h1 fun z hz=>hw z ?_
       simp only[DataW.weights,hu]
       exact pg (List.mem_map_of_mem (List.getElem_mem _)) hz
     | _=>exact .other _ _ (by rw[hu]; rfl)
end
section
variable {P:Program} {M:RM} {t:TypeId} {cs:List AV}
theorem Fits.Q8 (h:Fits P M t cs) {k:IntKind} (hu:P.underlying t=some (.int k)) : ∃ n:Int,cs=[N k n]∧k.min≤n∧n≤k.max:=by
 cases h with
 | int _ k' n h1 h2 h3=>rw[hu] at h1; cases h1; exact⟨n,rfl,h2,h3⟩
 | _=>simp_all [zT]
theorem Fits.MW (h:Fits P M t cs) {e:TypeId} (hu:P.underlying t=some (.slice e)) (hz:0<P.cellsOf e) :
  ∃ v n ds,cs=[v]∧aJ M (P.cellsOf e) v ds n∧n * P.bytesOf e≤reachBytes∧∀ i,i<n→Fits P M e ((ds.drop (i * P.cellsOf e)).take (P.cellsOf e)):=by
 cases h with
 | K9 _ e' h1=>exact⟨_,0,[],rfl,.nil,by simp,fun i hi=>absurd hi (by omega)⟩
 | emp _ e' b h1=>exact⟨_,0,[],rfl,.emp b,by simp,fun i hi=>absurd hi (by omega)⟩
 | slc _ e' b o n c ds h1 h2 h3 h4 h5 h6 =>
   rw[hu] at h1; cases h1
   exact⟨_,n,ds,rfl,.slc b o n _ ds h2 h5,Nat.le_trans (Nat.mul_le_mul_right _ h3) h4,h6⟩
 | zero _ e' _ h1 h2=>rw[hu] at h1; cases h1; omega
 | _=>simp_all [zT]
theorem FO {α:Type} {size:Nat} (enc:α→List AV) (p:α→Prop) (hs:∀ a,(enc a).length=size) : ∀ (n:Nat) (ds:List AV),ds.length=n * size→(∀ i,i<n→∃ a,p a∧(ds.drop (i * size)).take size=enc a) →
  ∃ xs:List α,xs.length=n∧ds=xs.flatMap enc∧∀ x∈xs,p x
 | 0,ds,hl,_=>⟨[],rfl,by simpa using hl,by simp⟩
 | n + 1,ds,hl,h=>by
   obtain⟨a,pa,ha⟩:=h 0 (by omega)
   simp only[Nat.zero_mul,List.drop_zero] at ha
   have hl' : (ds.drop size).length=n * size:=by rw[List.length_drop,hl,Nat.succ_mul]; omega
   obtain⟨xs,h1,h2,h3⟩:=FO enc p hs n (ds.drop size) hl' fun i hi=>by
    obtain⟨b,pb,hb⟩:=h (i + 1) (by omega)
    refine⟨b,pb, ?_⟩
    rw[List.drop_drop,← hb,Nat.succ_mul,Nat.add_comm]
   refine⟨a :: xs,by simp[h1], ?_,fun x hx=>?_⟩
   ·rw[List.flatMap_cons,← h2,← ha,List.take_append_drop]
   ·rcases List.mem_cons.1 hx with rfl | hx
    ·exact pa
    ·exact h3 x hx
end
def zJ (P:Program) (t:TypeId) : Bool :=
 match P.underlying t with
 | some (.struct _) | some (.array _ _)=>true
 | _=>false
def pX (P:Program) (M:RM) (t:TypeId) (v:AV) : Prop :=
 match zJ P t with
 | true=>∃ cs,v=.agg cs∧Fits P M t cs
 | false=>Fits P M t [v]
theorem pX.agg {P:Program} {M:RM} {t:TypeId} {v:AV} (h:pX P M t v) (ha:zJ P t=true) : ∃ cs,v=.agg cs∧Fits P M t cs:=by
 unfold pX at h; rw[ha] at h; exact h
theorem pX.one {P:Program} {M:RM} {t:TypeId} {v:AV} (h:pX P M t v) (ha:zJ P t=false) : Fits P M t [v]:=by
 unfold pX at h; rw[ha] at h; exact h
section
variable {H:Type} {enc:TypeId × Value→H} {P:Program} {base:Base} {w:World}
theorem GY {r:Reach} {b:Nat} {t:TypeId} {cs:Array Value} (h:Cell.okWide P w r b t (.agg cs)) : False:=by
 unfold Cell.okWide at h
 split at h <;> first | (rename_i e _; cases e; done) | skip
 all_goals first | (rename_i e; cases e; done) | skip
 unfold Cell.ok at h
 split at h <;> first | exact h | simp_all
theorem OV (hn:base.n=w.heap.size) {r:Reach} {b:Nat} {held:Bool} {t:TypeId} {v:Value} {d:DataW H} {ps:List MemPlace} (hv:Value.okWide P w r b t v) (h:DataW.Trod enc P w 0 (fun _=>true) held t v d ps)
  (hw:∀ y∈d.weights P t,y≤reachBytes) : pX P (RM.old base w) t (yD base.n v):=by
 obtain⟨fuel,hf⟩:=h
 have hfit:=Ib hn fuel t _ _ hf hw
 unfold pX
 cases ha:zJ P t with
 | true =>
   have:∃ cs,v=.agg cs:=by
    unfold Value.okWide at hv
    unfold zJ at ha
    split at hv
    ·obtain⟨cs,h,_⟩:=hv; exact⟨cs,h⟩
    ·obtain⟨cs,h,_⟩:=hv; exact⟨cs,h⟩
    ·split at ha <;> simp_all
   obtain⟨cs,rfl⟩:=this
   exact⟨_,rfl,hfit⟩
 | false =>
   have hc:Cell.okWide P w r b t v:=by
    unfold Value.okWide at hv
    unfold zJ at ha
    split at hv
    ·simp_all
    ·simp_all
    ·exact hv
   have:v.cells.toList=[v]∧yD base.n v=mQ base.n v:=by
    cases v with
    | agg cs=>exact(GY hc).elim
    | _=>exact⟨rfl,rfl⟩
   rw[this.1] at hfit
   rw[this.2]
   exact hfit
theorem Ir (hn:base.n=w.heap.size) {r:Reach} {b:Nat} {held:Bool} : ∀ {ts:List TypeId} {vs:List Value} {ds:List (DataW H)} {ps:List MemPlace},DataW.TrodAll enc P w 0 (fun _=>true) held ts vs ds ps →
  (∀ (j:Nat) t v,ts[j]?=some t→vs[j]?=some v→Value.okWide P w r b t v)→(∀ y∈DataW.weightsEach P ts ds,y≤reachBytes) →
  ∀ (j:Nat) t v,ts[j]?=some t→vs[j]?=some v→pX P (RM.old base w) t (yD base.n v)
 | [],_,_,_,_,_,_,j,t,v,h,_=>by simp at h
 | t0 :: ts,vs,ds,ps,h,hv,hw,j,t,v,hj,hvj=>by
   cases vs with
   | nil=>simp at hvj
   | cons v0 vs =>
   cases ds with
   | nil=>exact h.elim
   | cons d ds =>
   obtain⟨p,q,h1,h2,_⟩:=h
   cases j with
   | zero =>
     simp at hj hvj; subst hj hvj
     exact OV hn (hv 0 _ _ rfl rfl) h1 fun y hy=>hw y (by simp[DataW.weightsEach,hy])
   | succ j =>
     exact Ir hn h2 (fun j t v a b=>hv (j + 1) t v (by simpa using a) (by simpa using b)) (fun y hy=>hw y (by simp[DataW.weightsEach,hy])) j t v (by simpa using hj) (by simpa using hvj)
theorem yP (hl:laidOutB P=true) {W W' : World} {sp:Nat→Bool} (hb:Below W.heap.size W W') : ∀ {ts:List TypeId} {vs:List Value} {ds:List (DataW H)} {ps:List MemPlace},
  (∀ t∈ts,P.readableRec t=true∧t<P.types.size)→DataW.TrodAll enc P W 0 (fun _=>true) true ts vs ds ps→(∀ p∈ps,p.block<W.heap.size)→(∀ p∈ps,sp p.block=true)→DataW.TrodAll enc P W' 0 sp true ts vs ds ps
 | [],vs,ds,ps,_,h,_,_=>by
   cases vs <;> cases ds <;> first | exact h | exact h.elim
 | t :: ts,vs,ds,ps,hr,h,hlt,hsp=>by
   cases vs with
   | nil=>cases ds <;> exact h.elim
   | cons v vs =>
   cases ds with
   | nil=>exact h.elim
   | cons d ds =>
   obtain⟨p,q,h1,h2,rfl⟩:=h
   have hrt:=hr t (List.mem_cons_self ..)
   exact⟨p,q,WideElems.Trod_stays hl hrt.1 hrt.2 h1 (fun x hx=>hb.same (hlt x (List.mem_append_left _ hx))) (fun x hx=>hsp x (List.mem_append_left _ hx)),
    yP hl hb (fun t ht=>hr t (List.mem_cons_of_mem _ ht)) h2 (fun x hx=>hlt x (List.mem_append_right _ hx)) (fun x hx=>hsp x (List.mem_append_right _ hx)),rfl⟩
end
def RB.cells (lo:Nat) : RB→Option (List AV)
 | .row l _ _ _=>some l
 | .ro c=>some (c.toList.map (mQ lo))
 | _=>none
@[go_sem] theorem RB.uo (lo:Nat) (l:List AV) (p:Bool) (e f:Nat) : RB.cells lo (.row l p e f)=some l:=rfl
theorem RM.tN (M:RM) (b:Nat) : M.cells b=(M.heap b).bind (RB.cells M.lo):=by
 unfold RM.cells RB.cells
 cases M.heap b with
 | none=>rfl
 | some x=>cases x <;> rfl
def sP (l:Option (List AV)) (o k:Nat) : Option (List AV) :=
 match l with
 | some l=>if o + k≤l.length then some ((l.drop o).take k) else none
 | none=>none
@[go_sem] theorem TK (l:List AV) (o k:Nat) : sP (some l) o k=if o + k≤l.length then some ((l.drop o).take k) else none:=rfl
theorem RM.Ct (M:RM) (b o k:Nat) : M.loads b o k=sP (M.cells b) o k:=rfl
section
variable {M M' : RM}
@[go_sem] theorem RM.MU (x:RB) (c:Nat) : (M.push x).heap c=if c=M.next then some x else M.heap c:=rfl
@[go_sem] theorem RM.heap_put (b:Nat) (x:RB) (c:Nat) : (M.put b x).heap c=if c=b then some x else M.heap c:=rfl
@[go_sem] theorem RM.VW (b:Nat) (c:Nat) : (M.del b).heap c=if c=b then none else M.heap c:=rfl
@[go_sem] theorem RM.UO (x:RB) : (M.push x).base=M.base:=rfl
@[go_sem] theorem RM.Wp (b:Nat) (x:RB) : (M.put b x).base=M.base:=rfl
@[go_sem] theorem RM.WG (b:Nat) : (M.del b).base=M.base:=rfl
theorem RM.Db (x:RB) (c:Nat) : (M.push x).cells c=if c=M.next then x.cells M.lo else M.cells c:=by
 simp only[RM.tN,RM.MU]
 split <;> rfl
theorem RM.FL (b:Nat) (x:RB) (c:Nat) : (M.put b x).cells c=if c=b then x.cells M.lo else M.cells c:=by
 simp only[RM.tN,RM.heap_put]
 split <;> rfl
@[go_sem] theorem RM.UJ (x:RB) (c o:Nat) : (M.push x).cell c o=if c=M.next then(x.cells M.lo).bind (·[o]?) else M.cell c o:=by
 simp only[RM.cell,RM.Db]
 split <;> rfl
@[go_sem] theorem RM.V8 (b:Nat) (x:RB) (c o:Nat) : (M.put b x).cell c o=if c=b then(x.cells M.lo).bind (·[o]?) else M.cell c o:=by
 simp only[RM.cell,RM.FL]
 split <;> rfl
@[go_sem] theorem RM.Ug (x:RB) (c o k:Nat) : (M.push x).loads c o k=if c=M.next then sP (x.cells M.lo) o k else M.loads c o k:=by
 simp only[RM.Ct,RM.Db]
 split <;> rfl
@[go_sem] theorem RM.U4 (b:Nat) (x:RB) (c o k:Nat) : (M.put b x).loads c o k=if c=b then sP (x.cells M.lo) o k else M.loads c o k:=by
 simp only[RM.Ct,RM.FL]
 split <;> rfl
def lS (l:List AV) (fz o:Nat) (vs:List AV) : Option (List AV) :=
 if o + vs.length≤l.length∧fz≤o∧vs.all oneCell=true then some (l.take o++vs++l.drop (o + vs.length)) else none
theorem sV {l vs:List AV} {fz o:Nat} (h1:o + vs.length≤l.length) (h2:fz≤o) (h3:vs.all oneCell=true) : lS l fz o vs=some (l.take o++vs++l.drop (o + vs.length)):=if_pos ⟨h1,h2,h3⟩
@[go_sem] theorem Gc {l vs:List AV} (h:vs.length=l.length) (h3:vs.all oneCell=true) : lS l 0 0 vs=some vs:=by
 rw[sV (by omega) (Nat.le_refl _) h3]
 simp[h]
theorem RM.ui {b o:Nat} {vs l:List AV} {p:Bool} {e f:Nat} (h:M.heap b=some (.row l p e f)) : M.stores b o vs=(lS l f o vs).map fun l'=>M.put b (.row l' p e f):=by
 simp only[RM.stores,h,lS]
 split <;> rfl
theorem RM.Pf {x y:RB} : (M.push x).put M.next y=M.push y:=by
 simp only[RM.put,RM.push]
 congr 1
 funext c
 split <;> rfl
theorem RM.I4 {x y:RB} {b:Nat} (hb:b≠M.next) : (M.push x).put b y=(M.put b y).push x:=by
 simp only[RM.put,RM.push]
 congr 1
 funext c
 by_cases h1:c=b
 ·subst h1; simp[hb]
 ·simp[h1]
theorem RM.DV {l vs:List AV} {p:Bool} {e f o:Nat} : (M.push (.row l p e f)).stores M.next o vs=(lS l f o vs).map fun l'=>M.push (.row l' p e f):=by
 rw[RM.ui (RM.lJ _)]
 congr 1
 funext l'
 exact RM.Pf
theorem RM.DJ {M:RM} {b o:Nat} {vs:List AV} : M.stores b o vs=match M.heap b with
  | some (.row l p e f)=>(lS l f o vs).map fun l'=>M.put b (.row l' p e f)
  | _=>none:=by
 cases h:M.heap b with
 | none=>simp[RM.stores,h]
 | some x =>
   cases x with
   | row l p e f=>rw[RM.ui h]
   | _=>simp[RM.stores,h]
@[go_sem] theorem RM.Dj {x:RB} {vs:List AV} {c o:Nat} (hc:c≠M.next) : (M.push x).stores c o vs=(M.stores c o vs).map (·.push x):=by
 rw[RM.DJ,RM.DJ,RM.PG hc]
 split
 ·simp only[Option.map_map]
  congr 1
  funext l'
  exact RM.I4 hc
 ·rfl
@[go_sem] theorem RM.TP {l vs:List AV} {p:Bool} {e f c o:Nat} : (M.push (.row l p e f)).stores c o vs =
  if c=M.next then(lS l f o vs).map fun l'=>M.push (.row l' p e f) else(M.stores c o vs).map (·.push (.row l p e f)):=by
 split
 ·rename_i h; subst h; exact RM.DV
 ·rename_i h; exact RM.Dj h
@[go_sem] theorem RM.Qf {b o:Nat} {l vs:List AV} {p:Bool} {e f:Nat} : (M.put b (.row l p e f)).stores b o vs=(lS l f o vs).map fun l'=>M.put b (.row l' p e f):=by
 rw[RM.ui (RM.Cc _ _)]
 congr 1
 funext l'
 simp only[RM.put]
 congr 1
 funext c
 split <;> rfl
@[go_sem] theorem EQ {α:Type} (a:α) (K:α→Prop) : (∃ x,some a=some x∧K x)=K a:=by simp
@[go_sem] theorem TN {α β:Type} (f:α→β) (x:α) : (some x).map f=some (f x):=rfl
attribute [go_sem] Int.natCast_nonneg Int.toNat_natCast Nat.mul_one true_implies false_implies Bool.false_eq_true Bool.true_eq_false Bool.not_true Bool.not_false Bool.and_self Bool.and_true Bool.true_and Nat.le_refl List.append_nil List.nil_append if_true if_false Nat.lt_irrefl Nat.add_one_ne_zero true_and and_true Nat.zero_add Nat.add_zero List.drop_zero List.getElem?_cons_zero List.getElem?_cons_succ Option.bind_some List.take_succ_cons List.take_zero List.drop_succ_cons List.drop_nil List.take_nil
attribute [go_sem] mU List.all_cons List.all_nil List.length_cons List.length_nil
@[go_sem] theorem UL (cs:List AV) : (AV.agg cs).cells=cs:=rfl
@[go_sem] theorem Vg (v:Value) : (AV.sc v).cells=[.sc v]:=rfl
@[go_sem] theorem U1 (b o:Nat) : (AV.ptr b o).cells=[.ptr b o]:=rfl
@[go_sem] theorem UZ (b o n:Nat) (c:Cap) : (AV.slc b o n c).cells=[.slc b o n c]:=rfl
@[go_sem] theorem UY (b:Nat) : (AV.emp b).cells=[.emp b]:=rfl
@[go_sem] theorem UN (b:Nat) : (AV.map b).cells=[.map b]:=rfl
@[go_sem] theorem V7 (f:Fn) (xs ys:List AV) : (AV.fn f xs ys).cells=[.fn f xs ys]:=rfl
@[go_sem] theorem WY (v:Value) : oneCell (.sc v)=true:=rfl
@[go_sem] theorem WQ (b o:Nat) : oneCell (.ptr b o)=true:=rfl
@[go_sem] theorem WR (b o n:Nat) (c:Cap) : oneCell (.slc b o n c)=true:=rfl
@[go_sem] theorem WN (b:Nat) : oneCell (.emp b)=true:=rfl
@[go_sem] theorem WS (b:Nat) : oneCell (.map b)=true:=rfl
@[go_sem] theorem Xa (f:Fn) (xs ys:List AV) : oneCell (.fn f xs ys)=true:=rfl
end
theorem RM.PM {M:RM} {b:Nat} {l:List AV} {p:Bool} {e f:Nat} (h:M.heap b=some (.row l p e f)) (o k:Nat) : M.loads b o k=sP (some l) o k:=by rw[RM.Ct,RM.uo h]
theorem RM.cell_of {M:RM} {b:Nat} {l:List AV} {p:Bool} {e f:Nat} (h:M.heap b=some (.row l p e f)) (o:Nat) : M.cell b o=l[o]?:=RM.OL h
theorem RM.zR {M:RM} {b:Nat} {l:List AV} {p:Bool} {e f:Nat} (h:M.heap b=some (.row l p e f)) (o:Nat) (vs:List AV) : M.stores b o vs=(lS l f o vs).map fun l'=>M.put b (.row l' p e f):=RM.ui h
theorem af.aC {bs:List Nat} {M M' : RM} (h:af bs M M') {b:Nat} {x:RB} (hh:M.heap b=some x) (hlt:b<M.next) (hb:b ∉ bs) : M'.heap b=some x:=by rw[h.heap b hlt hb,hh]
inductive W9 where
 | val (v:AV)
 | rows (n:Nat) (v:AV) (bs:List (Nat × iA)) (n' : Nat)
structure RH where
 args:List AV
 fp:List (Nat × iA):=[]
 dead:List Nat:=[]
 nx:Nat:=0
 ans:W9
def Np:Tree iA→List (Nat × iA)→Tree iA
 | t,[]=>t
 | t,(b,x) :: r=>Np (t.set b x) r
def Oy:Tree iA→List Nat→Tree iA
 | t,[]=>t
 | t,b :: r=>Oy (t.del b) r
def El (A:AW) : List (Nat × iA)→Bool
 | []=>true
 | (b,x) :: r=>match A.heap.get b with
   | some y=>TR x y && El A r
   | none=>false
def Sn (A:AW) (e:RH) : Option (AV × AW) :=
 match El A e.fp with
 | false=>none
 | true=>match e.ans with
   | .val v=>some (v,A)
   | .rows n v bs n'=>match Nat.beq n A.next with
     | true=>some (v,{ next:=n',heap:=Np (Oy A.heap e.dead) bs })
     | false=>none
abbrev Table:=List (Nat × List RH)
def U6:List Nat→Nat→Bool
 | [],_=>false
 | k :: ks,b=>match Nat.beq k b with
   | true=>true
   | false=>U6 ks b
mutual
def within (ks:List Nat) : AV→Bool
 | .sc _ | .top | .atl _=>true
 | .ptr b _ | .slc b _ _ _ | .emp b | .map b=>U6 ks b
 | .fn _ xs ys=>AJ ks xs && AJ ks ys
 | .ifc _ x=>within ks x
 | .agg xs | .tup xs=>AJ ks xs
def AJ (ks:List Nat) : List AV→Bool
 | []=>true
 | x :: xs=>within ks x && AJ ks xs
end
section
variable {P:Program} {X:Ext}
def Mk (P:Program) (I:World→Prop) (f:Nat) (e:RH) : Prop :=
 ∀ (base:Base),(∀ w,base.inv w→I w)→∀ A v A',Sn A e=some (v,A')→∀ (ρ:Ren) (w:World) (us:List Value),aO ρ e.args us→df P base ρ A w→base≤w.heap.size →
   Calls P f ⟨us⟩ w fun r w'=>∃ ρ' v',r=.returned v'∧Step base A.next ρ w ρ' w'∧df P base ρ' A' w'∧A.next≤A'.next∧ah ρ' v v'
def Qj (P:Program) (I:World→Prop) (T:Table) : Prop:=∀ g∈T,∀ e∈g.2,Mk P I g.1 e
theorem df.none {P:Program} {base:Base} {n:Nat} {w:World} (hi:base.inv w) : df P base (fun _=>none) { next:=n,heap:=.leaf } w :=
 ⟨fun _ _ h=>(by cases h),fun _ _ _ h=>(by cases h),fun _ _ _ _ _ _ h=>(by cases h),fun _ _ h=>(by simp[Tree.get] at h),fun _ _ _ h=>(by cases h),hi⟩
def only(ρ:Ren) (ks:List Nat) : Ren:=fun b=>if b∈ks then ρ b else none
theorem Qj.nil {I:World→Prop} : Qj P I []:=fun g hg=>by cases hg
open Go.WideShapes Go.ChangeShapes in
open Go.WideShapes Go.ChangeShapes in
theorem Mk.val {P:Program} {I:World→Prop} {f:Nat} {args:List AV} {v:AV} (hv:within [] v=true)
  (h:∀ w,I w→∀ (ρ:Ren) us,aO ρ args us→Calls P f ⟨us⟩ w fun e w'=>(∃ u,e=.returned u∧∀ ρ:Ren,ah ρ v u)∧w'=w) : Mk P I f { args,ans:=.val v } := by
 intro base hI A v0 A' ha ρ w us hargs hw hb
 simp only[Sn,El] at ha
 cases ha
 refine(h w (hI w hw.inv) ρ us hargs).mono fun e w' hR=>?_
 obtain⟨⟨u,rfl,hu⟩,rfl⟩:=hR
 exact⟨ρ,u,rfl,Step.refl _ _ _,hw,Nat.le_refl _,hu ρ⟩
end
structure Enc (α:Type) where
 size:Nat
 cells:α→List AV
 len:∀ a,(cells a).length=size
 one:∀ a,(cells a).all oneCell=true
section
variable {α:Type} (E:Enc α)
def Enc.row (xs:List α) : List AV:=xs.flatMap E.cells
theorem Enc.Q4:E.row []=[]:=rfl
theorem Enc.kZ (x:α) (xs:List α) : E.row (x :: xs)=E.cells x++E.row xs:=rfl
theorem Enc.nK (xs ys:List α) : E.row (xs++ys)=E.row xs++E.row ys:=by simp[Enc.row]
theorem Enc.row_one (x:α) : E.row [x]=E.cells x:=by simp[Enc.row]
theorem Enc.gB:∀ (xs:List α),(E.row xs).length=xs.length * E.size
 | []=>by simp[Enc.row]
 | x :: xs=>by rw[Enc.kZ,List.length_append,E.len,Enc.gB xs,List.length_cons,Nat.succ_mul,Nat.add_comm]
theorem Enc.rM:∀ (xs:List α),(E.row xs).all oneCell=true
 | []=>by simp[Enc.row]
 | x :: xs=>by rw[Enc.kZ,List.all_append,E.one,Enc.rM xs]; rfl
theorem Enc.xV:∀ (xs:List α) (i:Nat),(E.row xs).drop (i * E.size)=E.row (xs.drop i)
 | [],i=>by simp[Enc.row]
 | x :: xs,0=>by simp
 | x :: xs,i + 1=>by
   rw[Enc.kZ,Nat.succ_mul,Nat.add_comm,← List.drop_drop,List.drop_left' (E.len x),Enc.xV xs i]
   rfl
theorem Enc.Cy:∀ (xs:List α) (i:Nat),(E.row xs).take (i * E.size)=E.row (xs.take i)
 | [],i=>by simp[Enc.row]
 | x :: xs,0=>by simp[Enc.row]
 | x :: xs,i + 1=>by
   rw[Enc.kZ,Nat.succ_mul,Nat.add_comm,List.take_append,List.take_of_length_le (by rw[E.len]; omega),E.len,Nat.add_sub_cancel_left,Enc.Cy xs i]
   rfl
theorem Enc.EG {xs:List α} {i:Nat} (hi:i<xs.length) : ((E.row xs).drop (i * E.size)).take E.size=E.cells xs[i]:=by
 rw[Enc.xV,List.drop_eq_getElem_cons hi,Enc.kZ]
 rw[List.take_append_of_le_length (by rw[E.len]; exact Nat.le_refl _),List.take_of_length_le (by rw[E.len]; exact Nat.le_refl _)]
abbrev Sl (M:RM) (v:AV) (xs:List α) : Prop:=aJ M E.size v (E.row xs) xs.length
abbrev Ow (M:RM) (base el:Nat) (v:AV) (xs:List α) : Prop:=Own M base el E.size v (E.row xs) xs.length
variable {E} {M M' : RM} {v:AV} {xs:List α}
theorem Sl.elem (h:Sl E M v xs) {i:Nat} (hi:i<xs.length) : ∃ b o,b<M.next∧b∈aW v∧(∀ (kd:IntKind) (K:AV→Prop),bZ v (N kd (i:Int)) E.size K=K (.ptr b o))∧M.loads b o E.size=some (E.cells xs[i]):=by
 obtain⟨b,o,cap,rfl,hb,hl⟩:=h.pos (by omega)
 have hsum:i * E.size + E.size≤xs.length * E.size:=by rw[← Nat.succ_mul]; exact Nat.mul_le_mul_right _ hi
 refine⟨b,o + i * E.size,hb,by simp[aW],fun kd K=>?_, ?_⟩
 ·rw[oM]
  simp only[Int.toNat_natCast]
  exact propext ⟨fun h=>h.2.2,fun h=>⟨by omega,by omega,h⟩⟩
 ·rw[ul hl (i * E.size) E.size hsum,E.EG hi]
theorem Sl.at (h:Sl E M v xs) {i:Nat} (sz:Nat) (j:Int) (hi:i<xs.length) (hsz:E.size=sz:=by rfl) (hj:j=(i:Int):=by rfl) : ∃ b o,b<M.next∧b∈aW v∧(∀ (kd:IntKind) (K:AV→Prop),bZ v (N kd j) sz K=K (.ptr b o))∧M.loads b o sz=some (E.cells xs[i]):=by
 subst hsz hj; exact h.elem hi
theorem jg {b o k:Nat} {cs:List AV} (h:M.loads b o k=some cs) {j:Nat} {x:AV} (hj:cs[j]?=some x) : M.cell b (o + j)=some x:=by
 have hlt:j<k:=by rw[← Fv h]; exact(List.getElem?_eq_some_iff.1 hj).1
 rw[Om h j hlt,hj]
theorem vT {b o k:Nat} {cs:List AV} (h:M.loads b o k=some cs) {x:AV} (hj:cs[0]?=some x) : M.cell b o=some x:=jg h hj
theorem nE {base T bytes:Nat} {zs:List AV} {u:AV} {ys:List α} {K:ai} (ho:Ow E M base T v xs) (hb:base≤M.next) (hs:1≤E.size) (hu:Sl E M u ys)
  (hn:(xs.length + ys.length) * bytes≤140737488355328) (hn2:xs.length + ys.length≤140737488355328)
  (hK:∀ v' M',Ow E M' base T v' (xs++ys)→af (aW v) M M'→M.next≤M'.next→(v'=v∨∀ b∈aW v',M.next≤b)→K v' M') :
  appW T E.size bytes zs false v u M K:=by
 refine AA ho hb hs (aJ.nZ hu _) (E.gB ys) (E.rM ys) hn hn2 ?_
 intro v' M' h1 h2 h3 h4
 refine hK v' M' ?_ h2 h3 h4
 rw[← E.nK] at h1
 simpa [Ow] using h1
theorem Sl.new {T c:Nat} {p:Bool} (ys:List α) : Sl E (M.push (.row (E.row ys) p T 0)) (.slc M.next 0 ys.length (.ex c)) ys :=
 .slc _ _ _ _ _ (by simp[RM.push]) (by rw[RM.iP (RM.lJ _) (by rw[E.gB]; omega),List.drop_zero,← E.gB,List.take_length])
theorem o8 {base T bytes:Nat} {zs:List AV} {a:α} {K:ai} (ho:Ow E M base T v xs) (hb:base≤M.next) (hs:1≤E.size)
  (hn:(xs.length + 1) * bytes≤140737488355328) (hn2:xs.length + 1≤140737488355328)
  (hK:∀ v' M',Ow E M' base T v' (xs++[a])→af (aW v) M M'→M.next≤M'.next→(v'=v∨∀ b∈aW v',M.next≤b)→K v' M') :
  appW T E.size bytes zs false v (.slc M.next 0 1 (.ex 1)) (M.push (.row (E.cells a) false T 0)) K:=by
 have hk:af [] M (M.push (.row (E.cells a) false T 0)):=(af.refl _ _).push _
 refine nE (ys:=[a]) (Own.keep ho hk (by simp)) (Nat.le_trans hb hk.next) hs (by rw[← E.row_one]; exact Sl.new [a]) hn hn2 ?_
 intro v' M' h1 h2 h3 h4
 exact hK v' M' h1 ((hk.mono (by simp)).trans h2) (Nat.le_trans hk.next h3) (h4.imp id fun h b hb=>Nat.le_trans hk.next (h b hb))
@[go_sem] theorem Gz {T:Nat} {zs:List AV} {K:RB→(Nat→AV)→Prop} : dX T 0 zs [] K=K (.row [] false T 0) (fun b=>.slc b 0 0 (.ex 0)):=by
 apply propext; unfold dX
 constructor
 ·rintro⟨l,h,hk⟩; cases h; exact hk
 ·intro hk; exact⟨_,rfl,hk⟩
theorem qM {T size:Nat} {zs:List AV} {x:AV} {K:RB→(Nat→AV)→Prop} (h:x.cells.length=size) (h1:x.cells.all oneCell=true) (hz:zs.length=size) :
  dX T 1 zs [(0,size,x)] K=K (.row x.cells false T 0) (fun b=>.slc b 0 1 (.ex 1)):=by
 have:pY (ed zs 1) [(0,size,x)]=some x.cells:=by
  simp only[pY,ed,List.append_nil,h1,h,Nat.zero_add,hz,Nat.le_refl,and_self,if_true,List.take_zero,List.nil_append]
  rw[List.drop_of_length_le (by omega),List.append_nil]
 apply propext; unfold dX
 constructor
 ·rintro⟨l,h,hk⟩; rw[this] at h; cases h; exact hk
 ·intro hk; exact⟨_,this,hk⟩
theorem Ow.lit (E:Enc α) {T:Nat} (M:RM) : Ow E (M.push (.row [] false T 0)) M.next T (.slc M.next 0 0 (.ex 0)) []:=Own.lit M (Nat.le_refl _)
theorem tu {i:Nat} (h:i<9223372036854775807) : IntKind.wrap .i64 ((i:Int) + 1)=((i + 1:Nat) : Int):=by
 rw[bn (by omega) (by omega)]; rfl
end
@[go_sem] theorem Ma:dD [] [] []=some true:=rfl
@[go_sem] theorem TU (ks:List Nat) (k:IntKind) (a b:Int) (xs ys:List AV) : dD (1 :: ks) (N k a :: xs) (N k b :: ys)=if a=b then dD ks xs ys else some false:=by
 simp only[dD,nR,if_true]
 by_cases h:a=b
 ·simp[h]
 ·have:(a == b)=false:=by simp[h]
  simp[this,h]
@[go_sem] theorem LM (ks:List Nat) (a b:List UInt8) (xs ys:List AV) : dD (2 :: ks) (St a :: xs) (St b :: ys)=if a=b then dD ks xs ys else some false:=by
 simp only[dD,nR]
 by_cases h:a=b
 ·simp[h]
 ·have:(a == b)=false:=by simp[h]
  simp[this,h]
@[go_sem] theorem TJ (ks:List Nat) (a b:Bool) (xs ys:List AV) : dD (3 :: ks) (Bo a :: xs) (Bo b :: ys)=if a=b then dD ks xs ys else some false:=by
 simp only[dD,nR]
 by_cases h:a=b
 ·simp[h]
 ·have:(a == b)=false:=by simp[h]
  simp[this,h]
theorem NA {neg:Bool} {ks:List Nat} {cs ds:List AV} {r:Bool} {K:AV→Prop} (h1:cs.length=ks.length) (h2:ds.length=ks.length) (h:dD ks cs ds=some r) : sG neg ks (.agg cs) (.agg ds) K=K (Bo (r != neg)):=by
 rw[Ll]
 apply propext
 constructor
 ·rintro⟨_,_,r',h',hk⟩; rw[h] at h'; cases h'; exact hk
 ·intro hk; exact⟨h1,h2,r,h,hk⟩
theorem bS (x:AV) (w:Bool) (f g:ai→Prop) (F G:AV→RM→ai→Prop) (k:ai) :
  aa x w f g (fun v M=>aa x w (F v M) (G v M) k)=aa x w (fun k'=>f fun v M=>F v M k') (fun k'=>g fun v M=>G v M k') k:=by
 unfold aa lG
 split
 ·split <;> simp_all
 ·rfl
 ·rfl
theorem aZ {body:(List AV→RM→Prop)→List AV→RM→Prop} {xs:List AV} {M:RM} (I:Nat→List AV→RM→Prop) (n:Nat) (h0:I n xs M)
  (hb:∀ (next:List AV→RM→Prop) m ys M',(∀ m' zs M'',m'<m→I m' zs M''→next zs M'')→I m ys M'→body next ys M') : cZ body xs M :=
 ⟨I,n,h0,fun m ys M' hI=>hb _ m ys M' (fun m' zs M'' hlt h=>⟨m',hlt,h⟩) hI⟩
abbrev By (b:UInt8) : AV:=N .u8 (b.toNat:Int)
def BY:Enc UInt8:=⟨1,fun b=>[By b],fun _=>rfl,fun _=>rfl⟩
theorem CZ (s:List UInt8) : BY.row s=s.map By:=by
 induction s with
 | nil=>rfl
 | cons b s ih=>rw[Enc.kZ,ih]; rfl
def om:Enc (List UInt8):=⟨1,fun s=>[St s],fun _=>rfl,fun _=>rfl⟩
def INT:Enc Int:=⟨1,fun n=>[N .i64 n],fun _=>rfl,fun _=>rfl⟩
theorem DT:∀ (s:List UInt8),dK byteOf (s.map By)=some s
 | []=>rfl
 | b :: s=>by
   simp only[List.map_cons,dK,byteOf,DT s]
   simp
section
variable {α:Type} {E:Enc α} {M M' : RM} {v:AV} {xs:List α}
theorem Sl.str {s:List UInt8} (h:Sl BY M v s) {K:AV→Prop} : dR M v K=K (St s) :=
 JO (aJ.wY h (by rw[CZ]; exact DT s))
theorem Sl.WU (h:Sl E M v xs) {i:Nat} (j:Int) (hi:i<xs.length) (hsz:E.size=1:=by rfl) (hj:j=(i:Int):=by rfl) :
  ∃ b o,b<M.next∧b∈aW v∧(∀ (kd:IntKind) (K:AV→Prop),bZ v (N kd j) 1 K=K (.ptr b o))∧∀ x,E.cells xs[i]=[x]→M.cell b o=some x:=by
 obtain⟨b,o,h1,h2,h3,h4⟩:=Sl.at h 1 j hi hsz hj
 exact⟨b,o,h1,h2,h3,fun x hx=>vT h4 (by rw[hx]; rfl)⟩
structure Rw (E:Enc α) (M:RM) (b:Nat) (opn:Bool) (el:Nat) (xs:List α) : Prop where
 heap:M.heap b=some (.row (E.row xs) opn el 0)
 lt:b<M.next
theorem Rw.sl {b el:Nat} {p:Bool} {cap:Cap} (h:Rw E M b p el xs) : Sl E M (.slc b 0 xs.length cap) xs:=by
 refine .slc _ _ _ _ _ h.lt ?_
 rw[RM.iP h.heap (by rw[E.gB]; omega),List.drop_zero,← E.gB,List.take_length]
theorem Rw.keep {b el:Nat} {p:Bool} {bs:List Nat} (h:Rw E M b p el xs) (hk:af bs M M') (hb:b ∉ bs) : Rw E M' b p el xs :=
 ⟨hk.aC h.heap h.lt hb,Nat.lt_of_lt_of_le h.lt hk.next⟩
theorem Rw.new {el:Nat} {p:Bool} (M:RM) (xs:List α) : Rw E (M.push (.row (E.row xs) p el 0)) M.next p el xs :=
 ⟨RM.lJ _,by simp[RM.push]⟩
theorem Rw.load {b el:Nat} {p:Bool} (h:Rw E M b p el xs) {i:Nat} (hi:i<xs.length) : M.loads b (i * E.size) E.size=some (E.cells xs[i]):=by
 have hsum:i * E.size + E.size≤xs.length * E.size:=by rw[← Nat.succ_mul]; exact Nat.mul_le_mul_right _ hi
 rw[RM.iP h.heap (by rw[E.gB]; exact hsum),E.EG hi]
theorem Enc.QH (E:Enc α) {xs:List α} {i:Nat} (hi:i<xs.length) (x:α) : E.row (xs.set i x)=(E.row xs).take (i * E.size)++E.cells x++(E.row xs).drop (i * E.size + E.size):=by
 rw[E.Cy,← Nat.succ_mul,E.xV,List.set_eq_take_append_cons_drop,if_pos hi,E.nK,E.kZ,List.append_assoc]
theorem Rw.store {b el:Nat} {p:Bool} (h:Rw E M b p el xs) {i:Nat} (hi:i<xs.length) (x:α) :
  M.stores b (i * E.size) (E.cells x)=some (M.put b (.row (E.row (xs.set i x)) p el 0))∧Rw E (M.put b (.row (E.row (xs.set i x)) p el 0)) b p el (xs.set i x):=by
 have hsum:i * E.size + E.size≤xs.length * E.size:=by rw[← Nat.succ_mul]; exact Nat.mul_le_mul_right _ hi
 refine⟨?_,RM.Cc _ _,h.lt⟩
 rw[RM.Ml h.heap (by rw[E.len,E.gB]; exact hsum) (Nat.zero_le _) (E.one x),E.QH hi,E.len]
theorem Rw.ax {b el:Nat} {p:Bool} (h:Rw E M b p el xs) {i:Nat} (hi:i<xs.length) (hsz:E.size=1:=by rfl) {x:AV} (hx:E.cells xs[i]=[x]:=by rfl) : M.cell b i=some x:=by
 have:=h.load hi
 rw[hsz,Nat.mul_one] at this
 exact vT this (by rw[hx]; rfl)
theorem Rw.CJ {b el:Nat} {p:Bool} (h:Rw E M b p el xs) {i:Nat} (hi:i<xs.length) (x:α) (hsz:E.size=1:=by rfl) {u:AV} (hx:E.cells x=[u]:=by rfl) :
  M.stores b i [u]=some (M.put b (.row (E.row (xs.set i x)) p el 0))∧Rw E (M.put b (.row (E.row (xs.set i x)) p el 0)) b p el (xs.set i x):=by
 have:=h.store hi x
 rw[hsz,Nat.mul_one,hx] at this
 exact this
end
@[go_sem] theorem gZ (el:Nat) (s:List UInt8) (K:RB→(Nat→AV)→Prop) : ji el (St s) K=K (.row (BY.row s) true el 0) (fun b=>.slc b 0 s.length (.op 1)):=by
 rw[CZ]
 apply propext; unfold ji
 constructor
 ·rintro⟨s',h,hk⟩; cases h; exact hk
 ·intro hk; exact⟨s,rfl,hk⟩
def bU (b:UInt8) : UInt8:=if 65≤b.toNat∧b.toNat≤90 then b + 32 else b
def low (s:List UInt8) : List UInt8:=s.map bU
def uW (c:ak) : Prop:=∀ {M:RM} {s:List UInt8} {Q:ai},s.length<9223372036854775807→(∀ M',af [] M M'→Q (St (low s)) M')→c [St s] M Q
def upTo (f:UInt8→UInt8) (i:Nat) (s:List UInt8) : List UInt8:=(s.take i).map f++s.drop i
theorem FE (f:UInt8→UInt8) (s:List UInt8) : upTo f 0 s=s:=by simp[upTo]
theorem I5 (f:UInt8→UInt8) (s:List UInt8) : upTo f s.length s=s.map f:=by simp[upTo]
theorem Cr (f:UInt8→UInt8) (i:Nat) (s:List UInt8) : (upTo f i s).length=s.length:=by
 simp[upTo]; omega
theorem Cx (f:UInt8→UInt8) {i:Nat} {s:List UInt8} (hi:i<s.length) : (upTo f i s)[i]?=some s[i]:=by
 simp only[upTo]
 rw[List.getElem?_append_right (by simp; omega)]
 simp
 rw[Nat.min_eq_left (by omega),Nat.sub_self,Nat.add_zero,List.getElem?_eq_getElem hi]
theorem Cf (f:UInt8→UInt8) {i:Nat} {s:List UInt8} (hi:i<s.length) : (upTo f i s).set i (f s[i])=upTo f (i + 1) s:=by
 simp only[upTo]
 have hl:((s.take i).map f).length=i:=by simp; omega
 rw[List.set_append_right _ _ (by omega),hl,Nat.sub_self,List.drop_eq_getElem_cons hi,List.set_cons_zero,List.take_succ_eq_append_getElem hi,List.map_append,List.append_assoc]
 rfl
theorem Fe (f:UInt8→UInt8) {i:Nat} {s:List UInt8} (hi:i<s.length) (h:f s[i]=s[i]) : upTo f (i + 1) s=upTo f i s:=by
 rw[← Cf f hi,h]
 apply List.ext_getElem?
 intro j
 rw[List.getElem?_set]
 split
 ·rename_i e; subst e
  rw[Cx f hi]; simp[Cr,hi]
 ·rfl
theorem xQ (b:UInt8) : b.toNat<256:=b.toNat_lt
structure sZ (n:Nat) (bs:List Nat) (M M' : RM) : Prop where
 base:M'.base=M.base
 next:M.next≤M'.next
 heap:∀ c,c<n→c ∉ bs→M'.heap c=M.heap c
theorem sZ.refl (n:Nat) (bs:List Nat) (M:RM) : sZ n bs M M:=⟨rfl,Nat.le_refl _,fun _ _ _=>rfl⟩
theorem sZ.trans {n:Nat} {bs:List Nat} {M M1 M2:RM} (h:sZ n bs M M1) (k:sZ n bs M1 M2) : sZ n bs M M2 :=
 ⟨k.base.trans h.base,Nat.le_trans h.next k.next,fun c h1 h2=>(k.heap c h1 h2).trans (h.heap c h1 h2)⟩
theorem af.to {bs cs:List Nat} {n:Nat} {M M' : RM} (h:af bs M M') (hn:n≤M.next) (hb:∀ b∈bs,n≤b∨b∈cs) : sZ n cs M M' :=
 ⟨h.base,h.next,fun c h1 h2=>h.heap c (Nat.lt_of_lt_of_le h1 hn) (fun hm=>by rcases hb c hm with h3 | h3; omega; exact h2 h3)⟩
theorem Own.same {M M' : RM} {n el size n0:Nat} {v:AV} {cs:List AV} (h:Own M n0 el size v cs n) (hn:M'.next=M.next) (hb:∀ c∈aW v,M'.heap c=M.heap c) (hbase:M'.base=M.base) : Own M' n0 el size v cs n:=by
 cases h with
 | nil=>exact .nil
 | ex0 b o h1 h2 h3=>exact .ex0 b o h1 (by omega) (by simpa [RM.tN,hb b (by simp[aW]),RM.lo,hbase] using h3)
 | op b n cs h1 h2 h3 h4=>exact .op b n cs h1 (by omega) (by rw[hb b (by simp[aW]),h3]) h4
theorem Own.one {M:RM} {n el size n0:Nat} {v:AV} {cs:List AV} (h:Own M n0 el size v cs n) : oneCell v=true:=by
 cases h <;> rfl
theorem Own.cells {M:RM} {n el size n0:Nat} {v:AV} {cs:List AV} (h:Own M n0 el size v cs n) : v.cells=[v]:=by
 cases h <;> rfl
end Go.Ab
set_option maxRecDepth 10000
namespace Go.Ab.Vl
open Go Go.Ab
structure U5 (TB T8 n0:Nat) (M:RM) (b:Nat) (xs:List UInt8) : Prop where
 lt:b<n0
 hn:n0≤M.next
 row:∃ addr buf,M.heap b=some (.row [addr,buf] false TB 0)∧(addr=.sc (.pointer none)∨addr=.ptr b 0)∧Ow BY M n0 T8 buf xs∧(xs=[]→buf=aA)
theorem U5.new {TB T8 n0 b:Nat} {M:RM} (hh:M.heap b=some (.row [.sc (.pointer none),aA] false TB 0)) (hb:b<n0) (hn:n0≤M.next) : U5 TB T8 n0 M b [] :=
 ⟨hb,hn,_,_,hh,.inl rfl,.nil,fun _=>rfl⟩
theorem bK {s:List UInt8} {i:Nat} (hi:i<s.length) (kd:IntKind) (K:AV→Prop) : bQ (St s) (N kd (i:Int)) K=K (By s[i]):=by
 rw[QN]
 apply propext
 constructor
 ·rintro⟨_,b,hb,hk⟩
  rw[Int.toNat_natCast,List.getElem?_eq_getElem hi] at hb
  cases hb; exact hk
 ·intro hk; exact⟨by omega,s[i],by rw[Int.toNat_natCast,List.getElem?_eq_getElem hi],hk⟩
theorem Gs {T:Nat} {zs:List AV} {K:RB→(Nat→AV)→Prop} (h:K (.row [] false T 0) (fun b=>.slc b 0 0 (.ex 0))) : L9 T 1 zs (N .i64 0) (N .i64 0) K :=
 ⟨_,_,0,0,rfl,rfl,by omega,by omega,by decide,by decide,h⟩
def Tk (d:UInt8) : Prop:=d.toNat=92∨d.toNat=44∨d.toNat=59∨d.toNat=58
instance (d:UInt8) : Decidable (Tk d):=inferInstanceAs (Decidable (_∨_))
def WV (d:UInt8) : Prop:=d.toNat=110∨d.toNat=78
instance (d:UInt8) : Decidable (WV d):=inferInstanceAs (Decidable (_∨_))
def iF (c:ak) : Prop:=∀ {M:RM} {s:List UInt8} {x:UInt8} {Q:ai},Q (N .i64 (Lib.indexByte s x)) M→c [St s,By x] M Q
theorem Ej (l:List UInt8) (x:UInt8) : (Lib.indexByte l x ≥ 0)↔x∈l:=by
 induction l with
 | nil=>simp[Lib.indexByte]
 | cons y ys ih =>
   simp only[Lib.indexByte]
   have:=Lib.indexByte_ge ys x
   by_cases h:y=x
   ·subst h; simp
   ·have hb:(y == x)=false:=by simpa using h
    have h' : ¬ x=y:=fun e=>h e.symm
    simp only[hb,List.mem_cons,h',false_or]
    rw[← ih]
    simp
    split <;> omega
def Ho (x:UInt8) : List UInt8→List UInt8→Bool→List (List UInt8)
 | [],cur,_=>[cur]
 | c :: s,cur,odd=>if c=x∧odd=false then cur :: Ho x s [] (decide (c.toNat=92) && !odd) else Ho x s (cur++[c]) (decide (c.toNat=92) && !odd)
def parts (x:UInt8) (s:List UInt8) : List (List UInt8):=Ho x s [] false
def Ij (T:Nat) (c:ak) : Prop:=∀ {M:RM} {s:List UInt8} {x:UInt8} {Q:ai},s.length≤1000000→(∀ v M',Ow om M' M.next T v (parts x s)→af [] M M'→Q v M')→c [St s,By x] M Q
theorem ek {s:List UInt8} {l h:Nat} (h1:l≤h) (h2:h≤s.length) (k1 k2:IntKind) : bV (St s) (some (N k1 (l:Int))) (some (N k2 (h:Int)))=some (St ((s.drop l).take (h - l))):=by
 simp only[bV,bnd]
 simp[h1,h2]
theorem di {s:List UInt8} {l:Nat} (h1:l≤s.length) (k1:IntKind) : bV (St s) (some (N k1 (l:Int))) none=some (St (s.drop l)):=by
 simp only[bV,bnd]
 simp[h1]
 rw[List.take_of_length_le (by simp)]
set_option maxRecDepth 100000
def WW (n b0 b1 b2 b3:Nat) : Nat:=if Lib.decodeN n b0 b1 b2 b3=(65533,1) then 0 else(Lib.decodeN n b0 b1 b2 b3).2
section
variable {n b0 b1 b2 b3:Nat}
end
def bt (s:List UInt8) (i:Nat) : Nat:=(s.getD i 0).toNat
def rk (s:List UInt8) : Nat:=if s=[] then 0 else WW s.length (bt s 0) (bt s 1) (bt s 2) (bt s 3)
def acc (v0:Nat) (s:List UInt8) : Nat→Nat
 | 0=>v0
 | k + 1=>64 * acc v0 s k + bt s (k + 1) - 128
def P9 (f:(List AV→RM→Prop)→Prop) (g:List AV→RM→Prop) : Prop:=f g
theorem gX (f:(List AV→RM→Prop)→Prop) (g:List AV→RM→Prop) : eG f g=P9 f g:=rfl
theorem gT {H:(List AV→RM→Prop)→Prop} {G:List AV→RM→Prop} (P:List AV→RM→Prop) (hT:∀ xs M,P xs M→G xs M)
  (hH:∀ J:List AV→RM→Prop,(∀ xs M,P xs M→J xs M)→H J) : P9 H G:=hH G hT
theorem Cg {x:Int} (h : -9223372036854775808≤x) (k:x<9223372036854775808) : IntKind.wrap .i64 x=x:=bn (by omega) (by omega)
set_option maxRecDepth 10000
theorem QL {s:List UInt8} (h:s≠[]) {k:Nat} (hk:1≤k) : (s.drop k).length<s.length:=by
 have:=List.length_pos_iff.2 h
 simp; omega
def Rj (s:List UInt8) : Bool:=if s=[] then true else if h:rk s=0 then false else Rj (s.drop (rk s)) termination_by s.length decreasing_by exact QL (by assumption) (by omega)
theorem Kr {n0 T8:Nat} {M:RM} {v:AV} {xs s:List UInt8} {K:AV→RM→Prop} (ho:Ow BY M n0 T8 v xs) (hn:n0≤M.next) (hl:xs.length + s.length≤140737488355328)
  (hK:∀ v' M',Ow BY M' n0 T8 v' (xs++s)→af (aW v) M M'→K v' M') : appW T8 1 1 [N .u8 0] false v (St s) M K:=by
 have hnew:nZ M 1 [N .u8 0] false (St s)=some (s.length,BY.row s):=by simp only[nZ,CZ,if_true]
 refine AA ho hn (Nat.le_refl _) hnew (by rw[BY.gB]; rfl) (BY.rM s) (by omega) (by omega) fun v' M2 h2 k2 hnx2 hv=>hK v' M2 ?_ k2
 rw[← BY.nK] at h2
 show Own M2 n0 T8 1 v' (BY.row (xs++s)) (xs++s).length
 rw[List.length_append]; exact h2
theorem dJ {s:List UInt8} {h:Nat} (h2:h≤s.length) (k2:IntKind) : bV (St s) none (some (N k2 (h:Int)))=some (St (s.take h)):=by
 have:=ek (s:=s) (l:=0) (h:=h) (by omega) h2 .i64 k2
 rw[List.drop_zero,Nat.sub_zero] at this; exact this
def strip (s:List UInt8) : List UInt8:=if s.drop (s.length - 1)=[13] then s.take (s.length - 1) else s
def Dy (c:ak) : Prop:=∀ {M:RM} {s:List UInt8} {Q:ai},Q (N .i64 (Lib.indexByte s 10)) M→c [St s,St [10]] M Q
def Gq (c:ak) : Prop:=∀ {M:RM} {s:List UInt8} {Q:ai},s.length≤1000000000→Q (St (strip s)) M→c [St s,St [13]] M Q
def E9 (s:List UInt8) : Prop:=∀ b∈s,b.toNat≠10
theorem E9.take {s:List UInt8} (h:E9 s) (n:Nat) : E9 (s.take n):=fun b hb=>h b (List.mem_of_mem_take hb)
theorem E9.drop {s:List UInt8} (h:E9 s) (n:Nat) : E9 (s.drop n):=fun b hb=>h b (List.mem_of_mem_drop hb)
def Jh (c:UInt8) : Bool:=(decide (32≤c.toNat) && decide (c.toNat≠127)) || decide (c.toNat=9)
def Td (c:ak) : Prop:=∀ {M:RM} {x:UInt8} {Q:ai},Q (Bo (Jh x)) M→c [By x] M Q
def bU (c:UInt8) : UInt8:=if 65≤c.toNat∧c.toNat≤90 then UInt8.ofNat (c.toNat + 32) else c
def RF (c:ak) : Prop:=∀ {M:RM} {s:List UInt8} {Q:ai},s.length≤1000000000→(∀ M',af [] M M'→Q (St (s.map bU)) M')→c [St s] M Q
theorem Kq {s:List UInt8} {i:Nat} (hi:i<s.length) : ((s.take i).map bU).length=i:=by simp; omega
theorem OJ {s:List UInt8} {i:Nat} (hi:i<s.length) (x:UInt8) : ((s.take i).map bU++s.drop i).set i x=(s.take i).map bU++x :: s.drop (i + 1):=by
 have hl:=Kq hi
 rw[List.drop_eq_getElem_cons hi,List.set_append_right _ _ (by omega),hl,Nat.sub_self,List.set_cons_zero]
theorem HV {s:List UInt8} {i:Nat} (hi:i<s.length) : (s.take (i + 1)).map bU++s.drop (i + 1)=(s.take i).map bU++bU s[i] :: s.drop (i + 1):=by
 rw[List.take_succ_eq_append_getElem hi,List.map_append,List.append_assoc]
 rfl
theorem QU {s:List UInt8} {i:Nat} (hi:i<s.length) (h:i<((s.take i).map bU++s.drop i).length) : ((s.take i).map bU++s.drop i)[i]=s[i]:=by
 have hl:=Kq hi
 rw[List.getElem_append_right (by omega)]
 simp only[hl,Nat.sub_self,List.getElem_drop,Nat.add_zero]
theorem Di {T8:Nat} : RF fun args M Q=>∃ a0,args=[a0]∧yL T8 a0 M Q:=by
 intro M s Q hl hQ
 refine⟨_,rfl, ?_⟩
 unfold yL
 simp only[bS,aV,gZ,kw]
 have hk1:af [] M (M.push (.row (BY.row s) true T8 0)):=(af.refl _ _).push _
 have hr1:Rw BY (M.push (.row (BY.row s) true T8 0)) M.next true T8 s:=Rw.new M s
 generalize M.push (.row (BY.row s) true T8 0)=M1 at *
 refine aZ (fun m ys M3=>∃ i:Nat,m=s.length - i∧ys=[N .i64 i]∧i≤s.length∧Rw BY M3 M.next true T8 ((s.take i).map bU++s.drop i)∧af [] M M3) _
  ⟨0,rfl,rfl,Nat.zero_le _,by simpa using hr1,hk1⟩ ?_
 rintro next m ys M3 hnext ⟨i,rfl,rfl,hi,hR,hK⟩
 simp only[go_sem]
 refine⟨fun hlt=>?_,fun hge=>?_⟩
 ·have hlt:i<s.length:=by simpa using hlt
  have hlen:i<((s.take i).map bU++s.drop i).length:=by simp; omega
  have hc:=hR.ax hlen
  have w1:=tu (show i<9223372036854775807 by omega)
  rw[QU hlt hlen] at hc
  refine⟨by omega,_,hc, ?_⟩
  have same:bU s[i]=s[i]→next [N .i64 ((i + 1:Nat) : Int)] M3:=fun h=>by
   refine hnext _ _ _ (by omega) ⟨i + 1,rfl,rfl,by omega, ?_,hK⟩
   rw[HV hlt,h,← List.drop_eq_getElem_cons hlt]
   exact hR
  have cb:=xQ s[i]
  simp only[w1]
  by_cases h1:65≤s[i].toNat
  ·have e1:((s[i].toNat:Int) ≥ 65):=by omega
   by_cases h2:s[i].toNat≤90
   ·have e2:((s[i].toNat:Int)≤90):=by omega
    have hlow:bU s[i]=UInt8.ofNat (s[i].toNat + 32):=by rw[bU,if_pos ⟨h1,h2⟩]
    have wv:N IntKind.u8 (IntKind.u8.wrap (IntKind.u8.wrap ((s[i].toNat:Int) + 97) - 65))=By (bU s[i]):=by
     rw[hlow,By,SF,Nat.mod_eq_of_lt (by omega)]
     congr 1
     rw[show IntKind.u8.wrap ((s[i].toNat:Int) + 97)=(s[i].toNat:Int) + 97 from fq (by omega) (by omega)]
     rw[fq (by omega) (by omega)]; omega
    obtain⟨hs,hR'⟩:=hR.CJ hlen (bU s[i])
    simp only[e1,e2,decide_true,go_sem]
    rw[OJ hlt] at hs hR'
    refine⟨by omega,_,(congrArg (fun x=>M3.stores M.next i [x]) wv).trans hs, ?_⟩
    refine hnext _ _ _ (by omega) ⟨i + 1,rfl,rfl,by omega, ?_,hK.put _ (.inl (Nat.le_refl _))⟩
    rw[HV hlt]
    exact hR'
   ·have e2:¬ ((s[i].toNat:Int)≤90):=by omega
    simp only[e1,e2,decide_true,decide_false,go_sem]
    exact same (by rw[bU,if_neg (by omega)])
  ·have e1:¬ ((s[i].toNat:Int) ≥ 65):=by omega
   simp only[e1,decide_false,go_sem]
   exact same (by rw[bU,if_neg (by omega)])
 ·have:i=s.length:=by simp at hge; omega
  subst this
  rw[List.take_length,List.drop_length,List.append_nil] at hR
  have:=hR.sl (cap:=.op 1)
  rw[List.length_map] at this
  rw[Sl.str this]
  exact hQ M3 hK
def Ry (B:Base) (c:ak) : Prop:=∀ {M:RM} {s:List UInt8} {Q:ai},M.base=B→s.length≤1000000000→Q (Bo (Rj s)) M→c [St s] M Q
def okB (x:List UInt8) (c:UInt8) : Bool:=Jh c && !(decide (c∈x))
def Gr (x s:List UInt8) : Bool:=s.all (okB x) && Rj s
def Mf (B:Base) (c:ak) : Prop:=∀ {M:RM} {s x:List UInt8} {Q:ai},M.base=B→s.length≤1000000000→(∀ M',af [] M M'→Q (Bo (Gr x s)) M')→c [St s,St x] M Q
theorem vR {B:Base} {T8:Nat} {cp ci cv:ak} (hp:Td cp) (hi:iF ci) (hv:Ry B cv) : Mf B fun args M Q=>∃ a0 a1,args=[a0,a1]∧qE T8 cp ci cv a0 a1 M Q:=by
 intro M s x Q hM hl hQ
 refine⟨_,_,rfl, ?_⟩
 unfold qE
 simp only[bS,aV,gZ,kw]
 have hk1:af [] M (M.push (.row (BY.row s) true T8 0)):=(af.refl _ _).push _
 have hr1:Rw BY (M.push (.row (BY.row s) true T8 0)) M.next true T8 s:=Rw.new M s
 generalize M.push (.row (BY.row s) true T8 0)=M1 at *
 refine aZ (fun m ys M3=>M3=M1∧∃ i:Nat,m=s.length - i∧ys=[N .i64 i]∧i≤s.length∧(s.take i).all (okB x)=true) _
  ⟨rfl,0,rfl,rfl,Nat.zero_le _,by simp⟩ ?_
 rintro next m ys M3 hnext ⟨hM3,i,rfl,rfl,hile,hall⟩
 subst hM3
 simp only[go_sem]
 refine⟨fun hlt=>?_,fun hge=>?_⟩
 ·have hlt:i<s.length:=by simpa using hlt
  have hc:=hr1.ax hlt
  have htk:=List.take_succ_eq_append_getElem hlt
  have hmem:=List.getElem_mem hlt
  generalize s[i]=c at *
  have w1:=tu (show i<9223372036854775807 by omega)
  have bad:okB x c=false→Q (Bo false) M3:=fun h=>by
   have:Gr x s=false:=by
    have h2:s.all (okB x)=false:=by
     rw[List.all_eq_false]
     exact⟨c,hmem,by rw[h]; simp⟩
    rw[Gr,h2]; rfl
   rw[← this]; exact hQ M3 hk1
  have good:okB x c=true→next [N .i64 ((i + 1:Nat) : Int)] M3:=fun h=>by
   refine hnext _ _ _ (by omega) ⟨rfl,i + 1,rfl,rfl,by omega, ?_⟩
   rw[htk,List.all_append,hall]
   simp[h]
  refine⟨by omega,By c,hc,hp ?_⟩
  cases hpl:Jh c with
  | false =>
    simp only[go_sem]
    exact bad (by simp[okB,hpl])
  | true =>
    simp only[go_sem]
    refine hi ?_
    have hge:=Ej x c
    by_cases hcx:c∈x
    ·have e1:decide (Lib.indexByte x c ≥ 0)=true:=decide_eq_true (hge.2 hcx)
     simp only[go_sem,e1]
     exact bad (by simp[okB,hcx])
    ·have e1:decide (Lib.indexByte x c ≥ 0)=false:=decide_eq_false fun h=>hcx (hge.1 h)
     simp only[go_sem,e1,w1]
     exact good (by simp[okB,hcx,hpl])
 ·have:i=s.length:=by simp at hge; omega
  subst this
  rw[List.take_length] at hall
  refine hv (by rw[hk1.base,hM]) hl ?_
  have:=hQ M3 hk1
  rw[Gr,hall,Bool.true_and] at this
  exact this
def VA:List UInt8:=[97,98,99,100,101,102,103,104,105,106,107,108,109,110,111,112,113,114,115,116,117,118,119,120,121,122,48,49,50,51,52,53,54,55,56,57,45]
def PP (B:Base) (f:List UInt8→List UInt8) (c:ak) : Prop:=∀ {M:RM} {s:List UInt8} {Q:ai},M.base=B→s.length≤1000000000→(∀ M',af [] M M'→Q (St (f s)) M')→c [St s,St VA] M Q
def Qn (f:List UInt8→List UInt8) (s:List UInt8) : Bool:=decide (1≤s.length) && decide (s.length≤20) && (f s == [])
def NU (B:Base) (f:List UInt8→List UInt8) (c:ak) : Prop:=∀ {M:RM} {s:List UInt8} {Q:ai},M.base=B→s.length≤1000000000→(∀ M',af [] M M'→Q (Bo (Qn f s)) M')→c [St s] M Q
theorem yG {B:Base} {f:List UInt8→List UInt8} {ct:ak} (ht:PP B f ct) : NU B f fun args M Q=>∃ a0,args=[a0]∧sH ct a0 M Q:=by
 intro M s Q hM hl hQ
 refine⟨_,rfl, ?_⟩
 unfold sH
 simp only[bS]
 rw[dS,bL]
 unfold Qn at hQ
 by_cases h1:1≤s.length
 ·have e1:decide ((s.length:Int) ≥ 1)=true:=by simp; omega
  rw[e1]
  by_cases h2:s.length≤20
  ·have e2:decide ((s.length:Int)≤20)=true:=by simp; omega
   simp only[go_sem,e2]
   refine ht hM hl fun M1 k1=>?_
   simp only[go_sem]
   have:=hQ M1 k1
   simpa [h1,h2] using this
  ·have e2:decide ((s.length:Int)≤20)=false:=by simp; omega
   simp only[go_sem,e2]
   simpa [h1,h2] using hQ M (af.refl _ _)
 ·have e1:decide ((s.length:Int) ≥ 1)=false:=by simp; omega
  rw[e1]
  simp only[go_sem]
  simpa [h1] using hQ M (af.refl _ _)
def brk (x:UInt8) : List UInt8→Option (List UInt8 × List UInt8)
 | []=>none
 | c :: t=>if c=x then some ([],t) else(brk x t).map fun p=>(c :: p.1,p.2)
theorem wH (x:UInt8) : ∀ s:List UInt8,(brk x s=none∧Lib.indexByte s x=-1∧x ∉ s)∨∃ a b,brk x s=some (a,b)∧Lib.indexByte s x=(a.length:Int)∧s=a++x :: b∧x ∉ a
 | []=>.inl ⟨rfl,rfl,by simp⟩
 | c :: t=>by
   by_cases h:c=x
   ·subst h
    exact .inr ⟨[],t,by simp[brk],by simp[Lib.indexByte],rfl,by simp⟩
   ·have hc:(c == x)=false:=by simpa using h
    rcases wH x t with⟨h1,h2,h4⟩ | ⟨a,b,h1,h2,h3,h4⟩
    ·exact .inl ⟨by simp[brk,h,h1],by simp[Lib.indexByte,hc,h2],by simp[h4,Ne.symm h]⟩
    ·refine .inr ⟨c :: a,b,by simp[brk,h,h1], ?_,by rw[h3]; rfl,by simp[h4,Ne.symm h]⟩
     have:((a.length:Int) == -1)=false:=by simp
     simp[Lib.indexByte,hc,h2,this]
def wC (x:UInt8) (c:ak) : Prop:=∀ {M:RM} {s:List UInt8} {Q:ai},Q (N .i64 (Lib.indexByte s x)) M→c [St s,St [x]] M Q
theorem Bv {x:UInt8} {ci xx c1 c2:ak} (hi:iF ci) : wC x fun args M Q=>∃ a0 a1,args=[a0,a1]∧dE ci xx c1 c2 a0 a1 M Q:=by
 intro M s Q hQ
 refine⟨_,_,rfl, ?_⟩
 unfold dE
 rw[dS,bq,show((([x] : List UInt8).length:Int) == 0)=false from rfl]
 simp only[bS]
 by_cases h:[x]=s
 ·subst h
  have:Lib.indexByte [x] x=0:=by simp[Lib.indexByte]
  rw[this] at hQ
  simp only[go_sem,beq_self_eq_true]
  exact hQ
 ·have h' : (([x] : List UInt8) == s)=false:=by simp[h]
  simp only[go_sem,h']
  exact⟨fun _=>⟨by omega,x,rfl,hi hQ⟩,fun h=>absurd h (by decide)⟩
def qP (x:UInt8) (s:List UInt8) : AV:=match brk x s with
 | some (a,b)=>.tup [St a,St b,Bo true]
 | none=>.tup [St s,St [],Bo false]
def lY (x:UInt8) (c:ak) : Prop:=∀ {M:RM} {s:List UInt8} {Q:ai},s.length≤1000000000→Q (qP x s) M→c [St s,St [x]] M Q
theorem Fa {x:UInt8} {ci:ak} (hi:wC x ci) : lY x fun args M Q=>∃ a0 a1,args=[a0,a1]∧iD ci a0 a1 M Q:=by
 intro M s Q hl hQ
 refine⟨_,_,rfl, ?_⟩
 unfold iD
 refine hi ?_
 unfold qP at hQ
 rcases wH x s with⟨h1,h2,_⟩ | ⟨a,b,h1,h2,h3,_⟩
 ·rw[h1] at hQ
  simp only[go_sem,h2]
  exact⟨fun h=>absurd h (by decide),fun _=>hQ⟩
 ·rw[h1] at hQ
  have hsl:=congrArg List.length h3
  simp at hsl
  rw[h2,bL,show decide ((a.length:Int) ≥ 0)=true by simp]
  refine⟨fun _=>?_,fun h=>by cases h⟩
  rw[dJ (by omega)]
  simp only[go_sem]
  rw[show IntKind.wrap .i64 ((a.length:Int) + ((1:Nat) : Int))=((a.length + 1:Nat) : Int) by rw[Cg (by omega) (by omega)]; omega]
  rw[di (by omega)]
  simp only[go_sem]
  rw[h3]
  rw[show(a++x :: b).take a.length=a by simp,show(a++x :: b).drop (a.length + 1)=b by rw[← List.drop_drop]; simp]
  exact hQ
theorem Nn {x:UInt8} {ci:ak} (hi:lY x ci) : lY x fun args M Q=>∃ a0 a1,args=[a0,a1]∧qy ci a0 a1 M Q:=by
 intro M s Q hl hQ
 refine⟨_,_,rfl, ?_⟩
 unfold qy
 refine hi hl ?_
 unfold qP at hQ ⊢
 cases h:brk x s with
 | none=>rw[h] at hQ; simpa only[go_sem] using hQ
 | some p=>rw[h] at hQ; simpa only[go_sem] using hQ
end Go.Ab.Vl
namespace Go.Ab
open Go Go.RowKit
section
variable {P:Program} {ρ:Ren} {M:RM} {w w' : World}
theorem df.below {base:Base} {A:AW} (h:df P base ρ A w) (hb:Below w.heap.size w w') (hn:base.n≤w.heap.size) : df P base ρ A w' where
 dom b i hbi:=⟨(h.dom b i hbi).1,Nat.lt_of_lt_of_le (h.dom b i hbi).2 hb.size⟩
 blk b i x hbi hx:=let ⟨o,ho,hr⟩:=h.blk b i x hbi hx; ⟨o,by rw[hb.block _ (h.dom b i hbi).2]; exact ho,hr⟩
 sep:=h.sep
 top:=h.top
 lo:=h.lo
 inv:=base.low w w' (fun c hc=>hb.block c (Nat.lt_of_lt_of_le hc hn)) h.inv
theorem Step.of_below {base n:Nat} (hb:Below w.heap.size w w') (hn:base≤w.heap.size) : Step base n ρ w ρ w' where
 os:=hb.os
 tape:=hb.tape
 output:=hb.output
 size:=hb.size
 frame c hc _:=hb.block c hc
 ext _ _:=rfl
 fresh b i h:=.inl ⟨b,i,h,rfl⟩
 low c hc:=hb.block c (Nat.lt_of_lt_of_le hc hn)
theorem After.below (h:bY P ρ M w) (hb:Below w.heap.size w w') : After P M ρ w M ρ w':=by
 obtain⟨A,hA⟩:=h
 refine iG hA (Step.of_below hb hA.size) (hA.rel.below hb hA.size) rfl hA.next (Nat.le_refl _) fun b x hx=>?_
 rcases hA.blk b x hx with h | ⟨c,rfl,_⟩
 ·exact .inl h
 ·exact .inr ⟨c,rfl,hx⟩
theorem bY.inv (h:bY P ρ M w) : M.base.inv w:=by
 obtain⟨A,hA⟩:=h
 exact hA.rel.inv
theorem eZ.sM {f:FuncId} {args:List AV} {v:AV} {Q:ai} (hP:EJ P f)
  (h:∀ (ρ:Ren) (w:World) (us:List Value),aO ρ args us→bY P ρ M w→Calls P f ⟨us⟩ w fun e w'=>∃ v',e=.returned v'∧Below w.heap.size w w'∧ah ρ v v') (hQ:Q v M) : eZ P f args M Q:=by
 refine⟨hP,fun ρ w us hargs hw=>(h ρ w us hargs hw).mono fun e w' hR=>?_⟩
 obtain⟨v',rfl,hb,hv⟩:=hR
 exact⟨v',v,M,ρ,rfl,After.below hw hb,hv,hQ⟩
end
structure qb (α:Type) where
 size:Nat
 rel:RM→List AV→α→(Nat→Prop)→Prop
 len:∀ {M cs a S},rel M cs a S→cs.length=size
 one:∀ {M cs a S},rel M cs a S→cs.all oneCell=true
 mono:∀ {M cs a S S'},rel M cs a S→(∀ b,S b→S' b)→rel M cs a S'
 lt:∀ {M cs a S},rel M cs a S→rel M cs a (fun b=>S b∧b<M.next)
 keep:∀ {M M' cs a S bs},rel M cs a S→af bs M M'→(∀ b∈bs,¬ S b)→rel M' cs a S
def Enc.CR {α:Type} (E:Enc α) : qb α where
 size:=E.size
 rel _ cs a _:=cs=E.cells a
 len h:=by subst h; exact E.len _
 one h:=by subst h; exact E.one _
 mono h _:=h
 lt h:=h
 keep h _ _:=h
inductive fZ {α:Type} (R:qb α) (M:RM) (S:Nat→Prop) : List AV→List α→Prop
 | nil:fZ R M S [] []
 | cons {cs ds:List AV} {a:α} {xs:List α} : R.rel M cs a S→fZ R M S ds xs→fZ R M S (cs++ds) (a :: xs)
section
variable {α:Type} {R:qb α} {M M' : RM} {S S' : Nat→Prop} {cs ds:List AV} {xs ys:List α} {a:α}
theorem fZ.len (h:fZ R M S cs xs) : cs.length=xs.length * R.size:=by
 induction h with
 | nil=>simp
 | cons h1 _ ih=>rw[List.length_append,R.len h1,ih,List.length_cons,Nat.succ_mul,Nat.add_comm]
theorem fZ.one (h:fZ R M S cs xs) : cs.all oneCell=true:=by
 induction h with
 | nil=>rfl
 | cons h1 _ ih=>rw[List.all_append,R.one h1,ih]; rfl
theorem fZ.mono (h:fZ R M S cs xs) (hs:∀ b,S b→S' b) : fZ R M S' cs xs:=by
 induction h with
 | nil=>exact .nil
 | cons h1 _ ih=>exact .cons (R.mono h1 hs) ih
theorem fZ.lt (h:fZ R M S cs xs) : fZ R M (fun b=>S b∧b<M.next) cs xs:=by
 induction h with
 | nil=>exact .nil
 | cons h1 _ ih=>exact .cons (R.lt h1) ih
theorem fZ.keep {bs:List Nat} (h:fZ R M S cs xs) (hk:af bs M M') (hb:∀ b∈bs,¬ S b) : fZ R M' S cs xs:=by
 induction h with
 | nil=>exact .nil
 | cons h1 _ ih=>exact .cons (R.keep h1 hk hb) ih
theorem fZ.get (h:fZ R M S cs xs) : ∀ {i:Nat} (hi:i<xs.length),R.rel M ((cs.drop (i * R.size)).take R.size) xs[i] S:=by
 induction h with
 | nil=>intro i hi; simp at hi
 | cons h1 h2 ih =>
   rename_i c1 d1 a1 x1
   intro i hi
   cases i with
   | zero =>
     rw[Nat.zero_mul,List.drop_zero,List.take_append_of_le_length (by rw[R.len h1]; exact Nat.le_refl _),List.take_of_length_le (by rw[R.len h1]; exact Nat.le_refl _)]
     exact h1
   | succ i =>
     rw[Nat.succ_mul,Nat.add_comm,← List.drop_drop,List.drop_left' (R.len h1)]
     exact ih (by simpa using hi)
theorem fZ.take (h:fZ R M S cs xs) : ∀ (k:Nat),fZ R M S (cs.take (k * R.size)) (xs.take k):=by
 induction h with
 | nil=>intro k; simp; exact .nil
 | cons h1 h2 ih =>
   intro k
   cases k with
   | zero=>simp; exact .nil
   | succ k =>
     rw[Nat.succ_mul,Nat.add_comm,List.take_append,List.take_of_length_le (by rw[R.len h1]; omega),R.len h1,Nat.add_sub_cancel_left]
     exact .cons h1 (ih k)
theorem fZ.drop (h:fZ R M S cs xs) : ∀ (k:Nat),fZ R M S (cs.drop (k * R.size)) (xs.drop k):=by
 induction h with
 | nil=>intro k; simp; exact .nil
 | cons h1 h2 ih =>
   intro k
   cases k with
   | zero=>simp; exact .cons h1 h2
   | succ k =>
     rw[Nat.succ_mul,Nat.add_comm,← List.drop_drop,List.drop_left' (R.len h1)]
     exact ih k
theorem fZ.cells {E:Enc α} : ∀ {cs:List AV} {xs:List α},fZ E.CR M S cs xs→cs=E.row xs
 | _,_,.nil=>rfl
 | _,_,.cons h1 h2=>by rw[Enc.kZ,fZ.cells h2]; rw[show _=_ from h1]
def oI (R:qb α) (M:RM) (v:AV) (xs:List α) (S:Nat→Prop) : Prop :=
 ∃ cs,aJ M R.size v cs xs.length∧(∀ b∈aW v,S b)∧fZ R M S cs xs
theorem aJ.lt {size n:Nat} {v:AV} (h:aJ M size v cs n) : ∀ b∈aW v,b<M.next:=by
 cases h with
 | nil=>intro b hb; simp[aW] at hb
 | emp=>intro b hb; simp[aW] at hb
 | slc b o n cap cs hb _=>intro c hc; simp[aW] at hc; omega
theorem aJ.one {size n:Nat} {v:AV} (h:aJ M size v cs n) : oneCell v=true:=by
 cases h <;> rfl
theorem aJ.cells {size n:Nat} {v:AV} (h:aJ M size v cs n) : v.cells=[v]:=by
 cases h <;> rfl
variable {v:AV}
theorem oI.mono (h:oI R M v xs S) (hs:∀ b,S b→S' b) : oI R M v xs S':=let ⟨cs,h1,h2,h3⟩:=h; ⟨cs,h1,fun b hb=>hs b (h2 b hb),h3.mono hs⟩
theorem oI.lt (h:oI R M v xs S) : oI R M v xs (fun b=>S b∧b<M.next):=let ⟨cs,h1,h2,h3⟩:=h; ⟨cs,h1,fun b hb=>⟨h2 b hb,h1.lt b hb⟩,h3.lt⟩
theorem oI.keep {bs:List Nat} (h:oI R M v xs S) (hk:af bs M M') (hb:∀ b∈bs,¬ S b) : oI R M' v xs S :=
 let ⟨cs,h1,h2,h3⟩:=h; ⟨cs,h1.keep hk (fun b hv hbs=>hb b hbs (h2 b hv)),h2,h3.keep hk hb⟩
theorem oI.len (h:oI R M v xs S) {K:AV→Prop} : bi v K=K (N .i64 xs.length):=let ⟨cs,h1,_,_⟩:=h; h1.len
theorem oI.one (h:oI R M v xs S) : oneCell v=true:=let ⟨cs,h1,_,_⟩:=h; h1.one
theorem oI.cells (h:oI R M v xs S) : v.cells=[v]:=let ⟨cs,h1,_,_⟩:=h; h1.cells
theorem oI.at (h:oI R M v xs S) {i:Nat} (sz:Nat) (j:Int) (hi:i<xs.length) (hsz:R.size=sz:=by rfl) (hj:j=(i:Int):=by rfl) :
  ∃ b o cs,b<M.next∧b∈aW v∧(∀ (kd:IntKind) (K:AV→Prop),bZ v (N kd j) sz K=K (.ptr b o))∧M.loads b o sz=some cs∧R.rel M cs xs[i] S:=by
 subst hsz hj
 obtain⟨cs,h1,h2,h3⟩:=h
 obtain⟨b,o,cap,rfl,hb,hl⟩:=h1.pos (by omega)
 have hsum:i * R.size + R.size≤xs.length * R.size:=by rw[← Nat.succ_mul]; exact Nat.mul_le_mul_right _ hi
 refine⟨b,o + i * R.size,(cs.drop (i * R.size)).take R.size,hb,by simp[aW],fun kd K=>?_, ?_,h3.get hi⟩
 ·rw[oM]
  simp only[Int.toNat_natCast]
  exact propext ⟨fun h=>h.2.2,fun h=>⟨by omega,by omega,h⟩⟩
 ·rw[ul hl (i * R.size) R.size hsum]
def qb.slice (R:qb α) : qb (List α) where
 size:=1
 rel M cs xs S:=∃ v,cs=[v]∧oI R M v xs S
 len h:=by obtain⟨v,rfl,_⟩:=h; rfl
 one h:=by obtain⟨v,rfl,h⟩:=h; simp[h.one]
 mono h hs:=by obtain⟨v,rfl,h⟩:=h; exact⟨v,rfl,h.mono hs⟩
 lt h:=by obtain⟨v,rfl,h⟩:=h; exact⟨v,rfl,h.lt⟩
 keep h hk hb:=by obtain⟨v,rfl,h⟩:=h; exact⟨v,rfl,h.keep hk hb⟩
def tV (R:qb α) (M:RM) (base el:Nat) (v:AV) (xs:List α) (S:Nat→Prop) : Prop :=
 ∃ cs,Own M base el R.size v cs xs.length∧fZ R M S cs xs
theorem tV.mono {base el:Nat} (h:tV R M base el v xs S) (hs:∀ b,S b→S' b) : tV R M base el v xs S':=let ⟨cs,h1,h2⟩:=h; ⟨cs,h1,h2.mono hs⟩
theorem tV.lt {base el:Nat} (h:tV R M base el v xs S) : tV R M base el v xs (fun b=>S b∧b<M.next):=let ⟨cs,h1,h2⟩:=h; ⟨cs,h1,h2.lt⟩
theorem tV.keep {base el:Nat} {bs:List Nat} (h:tV R M base el v xs S) (hk:af bs M M') (hb:∀ b∈bs,¬ S b) (hv:∀ b∈aW v,b ∉ bs) : tV R M' base el v xs S :=
 let ⟨cs,h1,h2⟩:=h; ⟨cs,h1.keep hk hv,h2.keep hk hb⟩
theorem tV.len {base el:Nat} (h:tV R M base el v xs S) {K:AV→Prop} : bi v K=K (N .i64 xs.length):=let ⟨cs,h1,_⟩:=h; h1.jc.len
theorem tV.cells {base el:Nat} (h:tV R M base el v xs S) : v.cells=[v]:=let ⟨cs,h1,_⟩:=h; h1.cells
theorem tV.one {base el:Nat} (h:tV R M base el v xs S) : oneCell v=true:=let ⟨cs,h1,_⟩:=h; h1.one
end
section
variable {M M' : RM} {b i n e f:Nat} {l:List AV} {p:Bool} {x:AV}
theorem aK {K:AV→Prop} (h:M.heap b=some (.row l p e f)) (hx:l[i]?=some x) : ax M (.ptr b i) K=K x:=by
 rw[dI,RM.cell_of h,hx]; simp
theorem aQ {K:AV→Prop} (h:M.heap b=some (.row l p e f)) (hn:l.length=n) : aL M (.ptr b 0) n K=K (.agg l):=by
 rw[qm,RM.PM h]
 have:sP (some l) 0 n=some l:=by simp[sP,← hn]
 rw[this]; simp
theorem MK {K:RM→Prop} (h:M.heap b=some (.row l p e 0)) (hi:i<l.length) (hc:x.cells=[x]) (h1:oneCell x=true) : az M (.ptr b i) x 1 K=K (M.put b (.row (l.set i x) p e 0)):=by
 rw[xB,hc,RM.zR h,sV (by simp only[List.length_cons,List.length_nil]; omega) (Nat.zero_le _) (by simp[h1])]
 have:l.take i++[x]++l.drop (i + 1)=l.set i x:=by
  rw[List.set_eq_take_append_cons_drop,if_pos hi]; simp
 simp[this]
theorem eQ {K:RM→Prop} (l' : List AV) (h:M.heap b=some (.row l p e 0)) (hi:i<l.length) (hc:x.cells=[x]) (h1:oneCell x=true) (hl:l.set i x=l') : az M (.ptr b i) x 1 K=K (M.put b (.row l' p e 0)):=by
 rw[MK h hi hc h1,hl]
theorem iE {K:AV→Prop} : aP (.ptr b 0) n K=K (.ptr b n):=by rw[gm,Nat.zero_add]
theorem LU {K:RM→Prop} (h:M.heap b=some (.row l p e 0)) (hn:x.cells.length=n) (hl:l.length=n) (h1:x.cells.all oneCell=true) : az M (.ptr b 0) x n K=K (M.put b (.row x.cells p e 0)):=by
 rw[xB,RM.zR h,Gc (by rw[hn,hl]) h1]
 simp[hn]
theorem eP {c:Nat} {y z:RB} (h:M.heap b=some y) (hb:b≠c) : (M.put c z).heap b=some y:=by
 simp only[RM.put]; rw[if_neg hb]; exact h
theorem aB (y:RB) : (M.put b y).heap b=some y:=RM.Cc _ _
theorem Hm (c:Nat) (y:RB) : (M.put c y).next=M.next:=rfl
theorem af.new {bs:List Nat} (h:af bs M M') {b:Nat} (y:RB) (hb:M.next≤b) : af bs M (M'.put b y):=h.put y (.inl hb)
end
variable {M:RM}
theorem bz {a:AV} {l:List AV} {K:AV→Prop} : aG (.tup (a :: l)) 0 K=K a:=by rw[BM]; simp
theorem bu {a b:AV} {l:List AV} {K:AV→Prop} : aG (.tup (a :: b :: l)) 1 K=K b:=by rw[BM]; simp
theorem eH {a b c:AV} {l:List AV} {K:AV→Prop} : aG (.tup (a :: b :: c :: l)) 2 K=K c:=by rw[BM]; simp
theorem bN {p q:Prop} : aj (Bo true) p q=p:=by simp[Ht]
theorem aX {p q:Prop} : aj (Bo false) p q=q:=by simp[Ht]
theorem aM {b:Bool} {p q:Prop} (h1:b=true→p) (h2:b=false→q) : aj (Bo b) p q:=⟨h1,h2⟩
theorem bI {f g:ai→Prop} {k:ai} : aa (Bo true) true f g k=f k:=rfl
theorem bP {f g:ai→Prop} {k:ai} : aa (Bo false) false f g k=f k:=rfl
theorem bX {f g:ai→Prop} {k:ai} : aa (Bo true) false f g k=g k:=rfl
theorem eU {f g:ai→Prop} {k:ai} : aa (Bo false) true f g k=g k:=rfl
theorem jW {f g:KR→Prop} {k:KR} : dP (Bo true) true f g k=f k:=rfl
theorem qc {f g:KR→Prop} {k:KR} : dP (Bo false) true f g k=g k:=rfl
theorem gq {w:Bool} {f g:ai→Prop} {k:ai} : aa .undef w f g k=g k:=rfl
theorem IZ {w:Bool} {f g:KR→Prop} {k:KR} : dP .undef w f g k=g k:=rfl
theorem bT {a b:AV} {K:AV→Prop} : ay (Bo true) a b K=K a:=by rw[IQ]; rfl
theorem cO {a b:AV} {K:AV→Prop} : ay (Bo false) a b K=K b:=by rw[IQ]; rfl
theorem aJ.known {size:Nat} {v:AV} {cs:List AV} {n:Nat} (h:aJ M size v cs n) : known v=true:=by
 cases h <;> rfl
theorem iV {t:TypeId} {cs:List AV} {K:RB→(Nat→AV)→Prop} (h1:cs.all oneCell=true) (h2:1≤cs.length) : mU t (.agg cs) K=K (.row cs false t 0) (fun b=>.ptr b 0):=by
 unfold mU
 exact propext ⟨fun h=>h.2.2,fun h=>⟨h1,h2,h⟩⟩
theorem vM {x y a b:AV} (h1:known x=true) (h2:x.cells=[x]) (h3:known y=true) (h4:y.cells=[y]) : kQ [a,b] [(0,1,x),(1,1,y)]=some [x,y]:=by
 simp[kQ,h1,h2,h3,h4]
def qb.pre {α β:Type} (E:Enc α) (R:qb β) : qb (α × β) where
 size:=E.size + R.size
 rel M cs a S:=∃ ds,cs=E.cells a.1++ds∧R.rel M ds a.2 S
 len h:=by obtain⟨ds,rfl,h⟩:=h; rw[List.length_append,E.len,R.len h]
 one h:=by obtain⟨ds,rfl,h⟩:=h; rw[List.all_append,E.one,R.one h]; rfl
 mono h hs:=by obtain⟨ds,rfl,h⟩:=h; exact⟨ds,rfl,R.mono h hs⟩
 lt h:=by obtain⟨ds,rfl,h⟩:=h; exact⟨ds,rfl,R.lt h⟩
 keep h hk hb:=by obtain⟨ds,rfl,h⟩:=h; exact⟨ds,rfl,R.keep h hk hb⟩
def qb.post {α β:Type} (R:qb α) (E:Enc β) : qb (α × β) where
 size:=R.size + E.size
 rel M cs a S:=∃ ds,cs=ds++E.cells a.2∧R.rel M ds a.1 S
 len h:=by obtain⟨ds,rfl,h⟩:=h; rw[List.length_append,E.len,R.len h]
 one h:=by obtain⟨ds,rfl,h⟩:=h; rw[List.all_append,E.one,R.one h]; rfl
 mono h hs:=by obtain⟨ds,rfl,h⟩:=h; exact⟨ds,rfl,R.mono h hs⟩
 lt h:=by obtain⟨ds,rfl,h⟩:=h; exact⟨ds,rfl,R.lt h⟩
 keep h hk hb:=by obtain⟨ds,rfl,h⟩:=h; exact⟨ds,rfl,R.keep h hk hb⟩
def qb.map {α β:Type} (R:qb α) (g:β→α) : qb β where
 size:=R.size
 rel M cs a S:=R.rel M cs (g a) S
 len h:=R.len h
 one h:=R.one h
 mono h hs:=R.mono h hs
 lt h:=R.lt h
 keep h hk hb:=R.keep h hk hb
end Go.Ab
namespace Go.Ab
open Go Go.RowKit Go.ChangeShapes
section
variable {H:Type} {enc:TypeId × Value→H} {P:Program} {w:World} {base:Nat} {spare:Nat→Bool} {held:Bool}
end
end Go.Ab
namespace Go.Ab
open Go Go.ChangeShapes
end Go.Ab
namespace Go.Ab
open Go Go.RowKit
section
variable {P:Program} {f:FuncId} {fn:Func} {w w' : World} {M:RM}
end
end Go.Ab
namespace Go.Ab.Sm
open Go Go.Ab
section
variable {i j:Nat} {K:AV→Prop}
theorem addN (h:i + j<4611686018427387904) : ae .add (N .i64 (i:Int)) (N .i64 (j:Int)) K=K (N .i64 ((i + j:Nat) : Int)):=by
 rw[iQ,bn (by omega) (by omega),Int.natCast_add]
theorem add1 (h:i<4611686018427387904) : ae .add (N .i64 (i:Int)) (N .i64 1) K=K (N .i64 ((i + 1:Nat) : Int)):=by
 rw[iQ,tu (by omega)]
theorem sW (h:j≤i) (hb:i<4611686018427387904) : ae .sub (N .i64 (i:Int)) (N .i64 (j:Int)) K=K (N .i64 ((i - j:Nat) : Int)):=by
 rw[gu,bn (by omega) (by omega),show(i:Int) - (j:Int)=((i - j:Nat) : Int) by omega]
theorem iO:ae .lss (N .i64 (i:Int)) (N .i64 (j:Int)) K=K (Bo (decide (i<j))):=by rw[dF,show decide ((i:Int)<(j:Int))=decide (i<j) by simp]
theorem BJ:ae .gtr (N .i64 (i:Int)) (N .i64 (j:Int)) K=K (Bo (decide (i > j))):=by rw[bG,show decide ((i:Int) > (j:Int))=decide (i > j) by simp]
theorem Vx:ae .geq (N .i64 (i:Int)) (N .i64 (j:Int)) K=K (Bo (decide (i ≥ j))):=by rw[bL,show decide ((i:Int) ≥ (j:Int))=decide (i ≥ j) by simp]
theorem Pt:ae .eql (N .i64 (i:Int)) (N .i64 (j:Int)) K=K (Bo (decide (i=j))):=by
 rw[bq,show((i:Int) == (j:Int))=decide (i=j) by by_cases h:i=j <;> simp[h]; omega]
end
section
variable {M:RM} {c p:Bool} {f:ai→Prop} {P:RM→Prop} {G:AV→RM→Prop}
theorem gp (hf:c=true→∀ k:ai,k (Bo p) M→f k) (hG:G (Bo (c && p)) M) :
  aa (Bo c) true f (fun k=>k .undef M) (fun t M'=>ay (Bo c) t (Bo false) fun u=>G u M'):=by
 cases c with
 | false=>rw[eU]; dsimp only; rw[cO]; exact hG
 | true=>rw[bI]; exact hf rfl _ (by rw[bT]; exact hG)
theorem mK (hf:c=false→∀ k:ai,k (Bo p) M→f k) (hG:G (Bo (c || p)) M) :
  aa (Bo c) false f (fun k=>k .undef M) (fun t M'=>ay (Bo c) (Bo true) t fun u=>G u M'):=by
 cases c with
 | true=>rw[bX]; dsimp only; rw[bT]; exact hG
 | false=>rw[bP]; exact hf rfl _ (by rw[cO]; exact hG)
theorem DF (h0:P M) (hf:c=true→∀ k:ai,(∀ M',P M'→k (Bo p) M')→f k) (hG:∀ M',P M'→G (Bo (c && p)) M') :
  aa (Bo c) true f (fun k=>k .undef M) (fun t M'=>ay (Bo c) t (Bo false) fun u=>G u M'):=by
 cases c with
 | false=>rw[eU]; dsimp only; rw[cO]; exact hG M h0
 | true=>rw[bI]; exact hf rfl _ fun M' h=>by rw[bT]; exact hG M' h
theorem Cz (h0:P M) (hf:c=false→∀ k:ai,(∀ M',P M'→k (Bo p) M')→f k) (hG:∀ M',P M'→G (Bo (c || p)) M') :
  aa (Bo c) false f (fun k=>k .undef M) (fun t M'=>ay (Bo c) (Bo true) t fun u=>G u M'):=by
 cases c with
 | true=>rw[bX]; dsimp only; rw[bT]; exact hG M h0
 | false=>rw[bP]; exact hf rfl _ fun M' h=>by rw[cO]; exact hG M' h
end
section
variable {M:RM} {c p:Bool} {f:KR→Prop} {G:AV→RM→Prop}
end
theorem BS {a:Int} {K:AV→Prop} : ae .neq (N .i64 a) (N .i64 a) K=K (Bo false):=by rw[dV,bne_self_eq_false]
end Go.Ab.Sm
namespace Go.Ab
open Go Go.RowKit
inductive jJ (B:Nat) (P:Program) (M:RM) : TypeId→List AV→Prop
 | bool (t:TypeId) (b:Bool) : P.underlying t=some .bool→jJ B P M t [Bo b]
 | int (t:TypeId) (k:IntKind) (n:Int) : P.underlying t=some (.int k)→k.min≤n→n≤k.max→jJ B P M t [N k n]
 | str (t:TypeId) (s:List UInt8) : P.underlying t=some .string→s.length≤B→jJ B P M t [St s]
 | K9 (t e:TypeId) : P.underlying t=some (.slice e)→jJ B P M t [aA]
 | emp (t e:TypeId) (b:Nat) : P.underlying t=some (.slice e)→jJ B P M t [.emp b]
 | slc (t e:TypeId) (b o n c:Nat) (cs:List AV) : P.underlying t=some (.slice e)→b<M.next→n≤c→n≤B→M.loads b o (n * P.cellsOf e)=some cs →
   (∀ i,i<n→jJ B P M e ((cs.drop (i * P.cellsOf e)).take (P.cellsOf e)))→jJ B P M t [.slc b o n (.ex c)]
 | struct (t:TypeId) (fs:Array Field) (cs:List AV) : P.underlying t=some (.struct fs)→cs.length=P.cellsOf t →
   (∀ (i:Nat) (f:Field),fs[i]?=some f→jJ B P M f.type ((cs.drop f.offset).take (P.cellsOf f.type)))→jJ B P M t cs
 | array (t e:TypeId) (n:Nat) (cs:List AV) : P.underlying t=some (.array n e)→cs.length=P.cellsOf t →
   (∀ i,i<n→jJ B P M e ((cs.drop (i * P.cellsOf e)).take (P.cellsOf e)))→jJ B P M t cs
 | other (t:TypeId) (cs:List AV) : zT (P.underlying t)=true→jJ B P M t cs
 | zero (t e:TypeId) (cs:List AV) : P.underlying t=some (.slice e)→P.cellsOf e=0→jJ B P M t cs
section
variable {H:Type} {enc:TypeId × Value→H} {P:Program} {base:Base} {w:World}
variable {bulk:DataW H→Nat} {B:Nat}
structure WX (bulk:DataW H→Nat) : Prop where
 str:∀ bs:List UInt8,bs.length≤bulk (.lit (.string bs))
 len:∀ es sp:List (DataW H),es.length≤bulk (.slice es sp)
 elem:∀ (es sp:List (DataW H)) d,d∈es→bulk d≤bulk (.slice es sp)
 spare:∀ (es sp:List (DataW H)) d,d∈sp→bulk d≤bulk (.slice es sp)
 agg:∀ (ps:List (DataW H)) d,d∈ps→bulk d≤bulk (.agg ps)
end
section
variable {P:Program} {M:RM} {t:TypeId} {cs:List AV} {B:Nat}
def LZ:AV→Prop
 | .slc _ _ n (.ex c)=>n≤c
 | .slc _ _ _ (.op e)=>e=1
 | _=>True
end
def GN (B:Nat) (P:Program) (M:RM) (t:TypeId) (v:AV) : Prop :=
 match zJ P t with
 | true=>∃ cs,v=.agg cs∧jJ B P M t cs
 | false=>jJ B P M t [v]
theorem GN.one {B:Nat} {P:Program} {M:RM} {t:TypeId} {v:AV} (h:GN B P M t v) (ha:zJ P t=false) : jJ B P M t [v]:=by
 unfold GN at h; rw[ha] at h; exact h
section
variable {H:Type} {enc:TypeId × Value→H} {P:Program} {base:Base} {w:World} {bulk:DataW H→Nat} {B:Nat}
end
end Go.Ab
