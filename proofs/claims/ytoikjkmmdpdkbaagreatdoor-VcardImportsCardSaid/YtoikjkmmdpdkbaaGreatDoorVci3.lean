/- Part 3 of the ground of the proofs of this seat (texts R9 to VlE). By an AI agent. -/
import Derived.Test.YtoikjkmmdpdkbaaGreatDoorVci2
import Derived.Scope
import Derived.ChangeShapes
import Derived.OpenShut
import Derived.WideKeyArgs
import GoSem.ClaimJoined
import Derived.Carry
import Derived.JoinedCond
import Derived.SizedLaws
import GoSem.Extern.Atomic
import GoSem.Extern.MapsClone
import Derived.Laws.AppendOwn
import Derived.Lib.Bytealg
set_option linter.unusedVariables false
set_option linter.unusedSimpArgs false
namespace Go.Ab
open Go Go.RowKit
def Qj:Option Tmp→Nat
 | some d=>2 ^ d
 | none=>0
def Xo:Operand→Nat
 | .tmp t=>2 ^ t
 | _=>0
def XQ:List Operand→Nat
 | []=>0
 | x :: xs=>Xo x ||| XQ xs
def Y9 (L m:Nat) : Nat:=L ^^^ (L &&& m)
def JD:List Oper→Nat
 | []=>0
 | o :: os=>Qj o.dst ||| JD os
def gt:Nat:=1000000
def uC:Code→List Nat
 | .seq a b=>uC a++uC b
 | .label l=>[l]
 | _=>[]
def Bp (c:Code) (l:Nat) : Code:=match findLabel c l with
 | some r=>r
 | none=>.skip
def fH:Nat→Code→Nat
 | 0,_=>0
 | f + 1,c=>match c with
   | .region _ ops _=>JD ops.toList
   | .seq a b=>fH f a ||| fH f b
   | .cond _ a b=>fH f a ||| fH f b
   | .block _ c=>fH f c
   | .loop c=>fH f c
   | .scope c=>fH f c ||| (uC c).foldr (fun l s=>fH f (Bp c l) ||| s) 0
   | _=>0
def RZ:List Oper→Nat→Nat
 | [],L=>L
 | o :: os,L=>Y9 (RZ os L) (Qj o.dst) ||| XQ o.op.operands.toList
def PU:List (Nat × Nat)→Nat→Nat
 | [],_=>0
 | (i,L) :: r,id=>match Nat.beq i id with
   | true=>L
   | false=>PU r id
def iA (ret:Nat) : Nat→List (Nat × Nat)→Code→Nat→Nat
 | 0,_,_,_=>0
 | f + 1,env,c,L=>match c with
   | .skip=>L
   | .region _ ops _=>RZ ops.toList L
   | .seq a b=>iA ret f env a (iA ret f env b L)
   | .cond c a b=>Xo c ||| iA ret f env a L ||| iA ret f env b L
   | .block id c=>iA ret f ((id,L) :: env) c L
   | .loop c=>iA ret f env c (iA ret f env c 0)
   | .exit id=>PU env id
   | .ret=>ret
   | .scope c=>iA ret f ((uC c).map (fun l=>(gt + l,iA ret f env (Bp c l) L))++env) c L
   | .label _=>L
   | .goto l=>PU env (gt + l)
   | _=>0
def cap2 (n:Nat) : Nat:=match n with | 0=>0 | 1=>1 | _=>2
def tN (id:Nat) : Nat→Code→Nat
 | 0,_=>2
 | f + 1,c=>match c with
   | .seq a b=>cap2 (tN id f a + tN id f b)
   | .cond _ a b=>cap2 (tN id f a + tN id f b)
   | .block _ c=>tN id f c
   | .loop c=>tN id f c
   | .exit i=>match Nat.beq i id with | true=>1 | false=>0
   | _=>0
def xG:Nat→Code→Nat
 | 0,_=>2
 | f + 1,c=>match c with
   | .skip=>1
   | .region _ _ _=>1
   | .seq a b=>cap2 (xG f a * xG f b)
   | .cond _ a b=>cap2 (xG f a + xG f b)
   | .block id c=>cap2 (xG f c + tN id f c)
   | .scope c=>xG f c
   | .label _=>1
   | _=>0
def Bj (m:Nat) : Nat→Nat→List Nat
 | _,0=>[]
 | i,n + 1=>match Nat.testBit m i with
   | true=>i :: Bj m (i + 1) n
   | false=>Bj m (i + 1) n
def bitsOf (m nt:Nat) : List Nat:=Bj m 0 nt
def Ak (T:Tree AV) : List Nat→List AV
 | []=>[]
 | t :: ts=>(T.get t).getD .top :: Ak T ts
def ae:List AV→Nat→AV
 | [],_=>.top
 | x :: _,0=>x
 | _ :: xs,n + 1=>ae xs n
def BO (T:Tree AV) : List Nat→Tree AV
 | []=>T
 | t :: ts=>BO (T.set t .top) ts
def Pq (T:Tree AV) (xs:List AV) : Nat→List Nat→Tree AV
 | _,[]=>T
 | i,t :: ts=>Pq (T.set t (ae xs i)) xs (i + 1) ts
def CJ (T:Tree AV) (asg vs:List Nat) (xs:List AV) : Tree AV:=Pq (BO T asg) xs 0 vs
def aj (x:AV) (p q:Prop) : Prop :=
 match x with
 | .sc (.bool b)=>(b=true→p)∧(b=false→q)
 | _=>False
def bG (f:(List AV→RM→Prop)→Prop) (g:List AV→RM→Prop) : Prop:=f g
def bf (body:(List AV→RM→Prop)→List AV→RM→Prop) (xs:List AV) (M:RM) : Prop :=
 ∃ (I:Nat→List AV→RM→Prop) (n:Nat),I n xs M∧∀ m ys M',I m ys M'→body (fun zs M''=>∃ m',m'<m∧I m' zs M'') ys M'
abbrev K3:=Ex→Tree AV→RM→Prop
def wpC (P:Program) (nt ret:Nat) : Nat→Code→List (Nat × Nat)→Nat→Tree AV→RM→K3→Prop
 | 0,_,_,_,_,_,_=>False
 | f + 1,c,env,L,T,M,K=>match c with
   | .skip=>K .normal T M
   | .region _ ops false=>LM P nt ops ops.toList T M (fun T' M'=>K .normal T' M')
   | .region _ ops true=>VK P nt ops T M (fun T' M'=>K .normal T' M')
   | .seq a b=>match Nat.ble (xG f a) 1 with
     | true=>wpC P nt ret f a env (iA ret f env b L) T M (fun e T' M'=>match e with
       | .normal=>wpC P nt ret f b env L T' M' K
       | e=>K e T' M')
     | false=>bG (fun J=>wpC P nt ret f a env (iA ret f env b L) T M (fun e T' M'=>match e with
       | .normal=>J (Ak T' (bitsOf (fH f a &&& iA ret f env b L) nt)) M'
       | e=>K e T' M'))
       (fun xs M'=>wpC P nt ret f b env L (CJ T (bitsOf (fH f a) nt) (bitsOf (fH f a &&& iA ret f env b L) nt) xs) M' K)
   | .cond c a b=>aj (vM T c) (wpC P nt ret f a env L T M K) (wpC P nt ret f b env L T M K)
   | .block id c=>match Nat.ble gt id with
     | true=>False
     | false=>wpC P nt ret f c ((id,L) :: env) L T M (fun e T' M'=>match e with
       | .exit i=>match Nat.beq i id with
         | true=>K .normal T' M'
         | false=>K (.exit i) T' M'
       | e=>K e T' M')
   | .loop c=>bf (fun next xs M'=>wpC P nt ret f c env (iA ret f env c (iA ret f env c 0)) (CJ T (bitsOf (fH f c) nt) (bitsOf (fH f c &&& iA ret f env c (iA ret f env c 0)) nt) xs) M'
     (fun e T' M'=>match e with
      | .normal=>next (Ak T' (bitsOf (fH f c &&& iA ret f env c (iA ret f env c 0)) nt)) M'
      | e=>K e T' M'))
     (Ak T (bitsOf (fH f c &&& iA ret f env c (iA ret f env c 0)) nt)) M
   | .exit id=>match Nat.ble gt id with
     | true=>False
     | false=>K (.exit id) T M
   | .ret=>K .ret T M
   | .scope c=>wpC P nt ret f c ((uC c).map (fun l=>(gt + l,iA ret f env (Bp c l) L))++env) L T M (fun e T' M'=>match e with
     | .exit i=>match Nat.ble gt i with
       | true=>match findLabel c (i - gt) with
         | some r=>wpC P nt ret f r env L T' M' (fun e T2 M2=>match e with
           | .exit j=>match Nat.ble gt j with
             | true=>False
             | false=>K (.exit j) T2 M2
           | e=>K e T2 M2)
         | none=>K (.exit i) T' M'
       | false=>K (.exit i) T' M'
     | e=>K e T' M')
   | .label _=>K .normal T M
   | .goto l=>K (.exit (gt + l)) T M
   | _=>False
def Zj (P:Program) (T:Tree AV) (M:RM) (r:ResultVar) (K:AV→Prop) : Prop :=
 match r with
 | .tmp t=>K ((T.get t).getD .top)
 | .cell a t=>match eQ P t with
   | some false=>ah M ((T.get a).getD .top) K
   | some true=>match bR P t with
     | some n=>aL M ((T.get a).getD .top) n K
     | none=>False
   | none=>False
def Y6 (P:Program) (T:Tree AV) (M:RM) : List ResultVar→(List AV→Prop)→Prop
 | [],K=>K []
 | r :: rs,K=>Zj P T M r (fun v=>Y6 P T M rs (fun vs=>K (v :: vs)))
def abA (Q:ak) (M:RM) : List AV→Prop
 | [v]=>Q v M
 | vs=>Q (.tup vs) M
def Mj:List ResultVar→Nat
 | []=>0
 | .tmp t :: rs=>2 ^ t ||| Mj rs
 | .cell a _ :: rs=>2 ^ a ||| Mj rs
def VZ (P:Program) (fn:Func) (c:Code) (args:List AV) (M:RM) (Q:ak) : Prop :=
 wpC P (args.length + (fn.ntmps - args.length)) (Mj fn.results.toList) 1000 c [] 0 (Tree.ofList args 0 .leaf) M
  (fun e T M'=>match e with
   | .exit _=>False
   | _=>Y6 P T M' fn.results.toList (abA Q M'))
section
variable {P:Program} {nt ret:Nat}
def OM:Ex→Exit
 | .normal=>.normal
 | .exit i=>match Nat.ble gt i with
   | true=>.goto (i - gt)
   | false=>.exit i
 | .ret=>.ret
theorem rq {i:Nat} (h:Nat.ble gt i=false) : OM (.exit i)=.exit i:=by simp only[OM,h]
theorem BB {i:Nat} (h:Nat.ble gt i=true) : OM (.exit i)=.goto (i - gt):=by simp only[OM,h]
theorem IC (i:Nat) : OM (.exit i)=.goto (i - gt)∨OM (.exit i)=.exit i:=by
 cases h:Nat.ble gt i with
 | true=>exact .inl (BB h)
 | false=>exact .inr (rq h)
theorem NI {c:Code} {Q:Exit→Act→World→Prop} {a:Act} {w:World} (h:c.wp P (fun e a w=>match e with
  | .goto l=>match findLabel c l with
    | some r=>r.wp P (Exit.noGoto Q) a w
    | none=>Q (.goto l) a w
  | e=>Q e a w) a w) : (Code.scope c).wp P Q a w:=by
 intro b k cs
 obtain⟨e,a₁,w₁,hq,harr⟩:=h b (.inScope c :: k) cs
 have afg:∀ {c' : Code} {a w},c'.wp P (Exit.noGoto Q) a w→∃ e a' w',Q e a' w'∧Arrives P (lone (b.at a (.code c' :: .inScope c :: k)) cs w) b k cs e a' w':=by
  intro c' a w h
  obtain⟨e,a₁,w₁,hq,harr⟩:=h b (.inScope c :: k) cs
  cases e with
  | normal=>exact⟨.normal,a₁,w₁,hq,Steps.trans harr (.one step_inScope)⟩
  | exit id=>exact⟨.exit id,a₁,w₁,hq,fun k' hk=>harr k' (by simp[exitTo,hk])⟩
  | goto l=>exact hq.elim
  | ret=>exact⟨_,a₁,w₁,hq,harr⟩
  | panic ch=>exact⟨_,a₁,w₁,hq,harr⟩
  | outgrown=>exact⟨_,a₁,w₁,hq,harr⟩
 cases e with
 | normal=>exact⟨.normal,a₁,w₁,hq,.head step_scope (Steps.trans harr (.one step_inScope))⟩
 | exit id=>exact⟨.exit id,a₁,w₁,hq,fun k' hk=>.head step_scope (harr k' (by simp[exitTo,hk]))⟩
 | goto l =>
   simp only at hq
   cases hf:findLabel c l with
   | none =>
     rw[hf] at hq
     exact⟨.goto l,a₁,w₁,hq,fun k' hk=>.head step_scope (harr k' (by simp[gotoIn,hf,hk]))⟩
   | some r =>
     rw[hf] at hq
     obtain⟨e2,a2,w2,q2,r2⟩:=afg hq
     exact⟨e2,a2,w2,q2,.of_steps (Steps.trans (.one step_scope) (harr _ (by simp[gotoIn,hf]))) r2⟩
 | ret=>exact⟨_,a₁,w₁,hq,.of_steps (.one step_scope) harr⟩
 | panic ch=>exact⟨_,a₁,w₁,hq,.of_steps (.one step_scope) harr⟩
 | outgrown=>exact⟨_,a₁,w₁,hq,.of_steps (.one step_scope) harr⟩
theorem Ie:∀ {c:Code} {l:Nat} {r:Code},findLabel c l=some r→l∈uC c
 | .seq a b,l,r,h=>by
   rw[findLabel] at h
   rw[uC,List.mem_append]
   split at h
   ·rename_i rest hr
    exact .inl (Ie hr)
   ·exact .inr (Ie h)
 | .label l',l,r,h=>by
   rw[findLabel] at h
   split at h
   ·rename_i he
    have:l'=l:=by simpa using he
    simp[uC,this]
   ·cases h
 | .skip,_,_,h=>by simp[findLabel] at h
 | .region ..,_,_,h=>by simp[findLabel] at h
 | .cond ..,_,_,h=>by simp[findLabel] at h
 | .block ..,_,_,h=>by simp[findLabel] at h
 | .loop ..,_,_,h=>by simp[findLabel] at h
 | .exit ..,_,_,h=>by simp[findLabel] at h
 | .ret,_,_,h=>by simp[findLabel] at h
 | .scope ..,_,_,h=>by simp[findLabel] at h
 | .goto ..,_,_,h=>by simp[findLabel] at h
 | .rangeFunc ..,_,_,h=>by simp[findLabel] at h
 | .refuse ..,_,_,h=>by simp[findLabel] at h
theorem PL {t f:Nat} {c:Code} : ∀ (ls:List Nat),Nat.testBit (ls.foldr (fun l s=>fH f (Bp c l) ||| s) 0) t=false→∀ l∈ls,Nat.testBit (fH f (Bp c l)) t=false
 | [],_,_,hl=>by cases hl
 | x :: ls,h,l,hl=>by
   simp only[List.foldr_cons,Nat.testBit_or,Bool.or_eq_false_iff] at h
   rcases List.mem_cons.1 hl with rfl | hl
   ·exact h.1
   ·exact PL ls h.2 l hl
theorem YD {t f:Nat} {c r:Code} {l:Nat} (hf:findLabel c l=some r) (h:Nat.testBit (fH (f + 1) (.scope c)) t=false) : Nat.testBit (fH f r) t=false:=by
 simp only[fH,Nat.testBit_or,Bool.or_eq_false_iff] at h
 have:=PL _ h.2 l (Ie hf)
 unfold Bp at this
 rw[hf] at this
 exact this
def UO (P:Program) (nt:Nat) (M0:RM) (ρ0:Ren) (w0:World) (T:Tree AV) (asg:Nat) (K:K3) (e:Exit) (a:Act) (w:World) : Prop :=
 ∃ x T' M' ρ',e=OM x∧After P M0 ρ0 w0 M' ρ' w∧jc ρ' nt T' a∧(∀ t,Nat.testBit asg t=false→T'.get t=T.get t)∧K x T' M'
theorem Qp {T:Tree AV} : ∀ (vs:List Nat) (i:Nat),ae (Ak T vs) i=match vs[i]? with | some t=>(T.get t).getD .top | none=>.top
 | [],i=>by simp[Ak,ae]
 | t :: vs,0=>by simp[Ak,ae]
 | t :: vs,i + 1=>by simp[Ak,ae,Qp vs i]
theorem FP:∀ (asg:List Nat) (T:Tree AV) (t:Nat),(BO T asg).get t=if t∈asg then some .top else T.get t
 | [],T,t=>by simp[BO]
 | d :: asg,T,t=>by
   simp only[BO,FP asg,Tree.dG,List.mem_cons]
   by_cases h1:t∈asg
   ·simp[h1]
   ·by_cases h2:t=d <;> simp[h1,h2]
theorem IB:∀ (vs:List Nat) (T:Tree AV) (xs:List AV) (i t:Nat),(t ∉ vs∧(Pq T xs i vs).get t=T.get t)∨∃ j,vs[j]?=some t∧(Pq T xs i vs).get t=some (ae xs (i + j))
 | [],T,xs,i,t=>.inl ⟨by simp,rfl⟩
 | d :: vs,T,xs,i,t=>by
   simp only[Pq]
   rcases IB vs (T.set d (ae xs i)) xs (i + 1) t with⟨h1,h2⟩ | ⟨j,h1,h2⟩
   ·rw[Tree.dG] at h2
    by_cases e:t=d
    ·rw[if_pos e] at h2
     exact .inr ⟨0,by simp[e],h2⟩
    ·rw[if_neg e] at h2
     exact .inl ⟨by simp[e,h1],h2⟩
   ·exact .inr ⟨j + 1,by simpa using h1,by rw[h2]; congr 2; omega⟩
theorem Dk {m:Nat} : ∀ (n i t:Nat),t∈Bj m i n↔i≤t∧t<i + n∧Nat.testBit m t=true
 | 0,i,t=>by simp[Bj]; omega
 | n + 1,i,t=>by
   simp only[Bj]
   split
   ·rename_i h
    rw[List.mem_cons,Dk n (i + 1) t]
    constructor
    ·rintro(rfl | ⟨a,b,c⟩)
     ·exact⟨Nat.le_refl _,by omega,h⟩
     ·exact⟨by omega,by omega,c⟩
    ·rintro⟨a,b,c⟩
     by_cases e:t=i
     ·exact .inl e
     ·exact .inr ⟨by omega,by omega,c⟩
   ·rename_i h
    rw[Dk n (i + 1) t]
    constructor
    ·rintro⟨a,b,c⟩; exact⟨by omega,by omega,c⟩
    ·rintro⟨a,b,c⟩
     have:t≠i:=fun e=>by subst e; rw[h] at c; cases c
     exact⟨by omega,by omega,c⟩
theorem vS {m n t:Nat} : t∈bitsOf m n↔t<n∧Nat.testBit m t=true:=by
 unfold bitsOf; rw[Dk]; simp
theorem FY {ρ:Ren} {T T' : Tree AV} {a:Act} {asg:Nat} {vs:List Nat} (h:jc ρ nt T' a) (hge:∀ t,nt≤t→az ρ ((T.get t).getD .top) undef) (hk:∀ t,Nat.testBit asg t=false→T'.get t=T.get t) : jc ρ nt (CJ T (bitsOf asg nt) vs (Ak T' vs)) a:=by
 refine⟨h.size,fun t=>?_,h.defers⟩
 unfold CJ
 rcases IB vs (BO T (bitsOf asg nt)) (Ak T' vs) 0 t with⟨_,h2⟩ | ⟨j,h1,h2⟩
 ·rw[h2,FP]
  split
  ·exact .top _
  ·rename_i hm
   by_cases hb:Nat.testBit asg t=true
   ·have hge' : nt≤t:=by
     rcases Nat.lt_or_ge t nt with hlt | hge
     ·exact absurd (vS.2 ⟨hlt,hb⟩) hm
     ·exact hge
    have hv:a.tmps.getD t undef=undef:=by
     rw[Array.getD_eq_getD_getElem?,Array.getElem?_eq_none (by rw[h.size]; exact hge')]; rfl
    rw[hv]; exact hge t hge'
   ·rw[← hk t (by simpa using hb)]
    exact h.val t
 ·rw[h2,Nat.zero_add,Qp,h1]
  exact h.val t
theorem Jm {T:Tree AV} {asg:Nat} {vs:List Nat} {xs:List AV} (hvs:∀ t∈vs,Nat.testBit asg t=true) (t:Nat) (h:Nat.testBit asg t=false) : (CJ T (bitsOf asg nt) vs xs).get t=T.get t:=by
 unfold CJ
 rcases IB vs (BO T (bitsOf asg nt)) xs 0 t with⟨_,h2⟩ | ⟨j,h1,h2⟩
 ·rw[h2,FP,if_neg]
  intro hm
  rw[(vS.1 hm).2] at h; cases h
 ·have:=hvs t (List.mem_of_getElem? h1)
  rw[h] at this; cases this
theorem jc.ge {ρ:Ren} {T:Tree AV} {a:Act} (h:jc ρ nt T a) : ∀ t,nt≤t→az ρ ((T.get t).getD .top) undef:=by
 intro t ht
 have:=h.val t
 rw[Array.getD_eq_getD_getElem?,Array.getElem?_eq_none (by rw[h.size]; exact ht)] at this
 exact this
theorem Hz {c:Code} {Q:Exit→Act→World→Prop} : ∀ {n m:Nat} {a:Act} {w:World},n≤m→Code.rounds P c Q n a w→Code.rounds P c Q m a w
 | 0,_,_,_,_,h=>h.elim
 | n + 1,m + 1,a,w,hle,h=>by
   rw[rounds_succ] at h ⊢
   refine wp_mono h fun e a' w' hp=>?_
   cases e with
   | normal=>exact Hz (Nat.le_of_succ_le_succ hle) hp
   | exit id=>exact hp
   | ret=>exact hp
   | goto l=>exact hp
   | panic c=>exact hp
   | outgrown=>exact hp
theorem Cw {t:Nat} : ∀ (l:List Oper),Nat.testBit (JD l) t=false→∀ o∈l,o.dst≠some t
 | [],_,o,ho=>by cases ho
 | x :: l,h,o,ho=>by
   simp only[JD,Nat.testBit_or,Bool.or_eq_false_iff] at h
   rcases List.mem_cons.1 ho with rfl | ho
   ·intro e
    rw[e] at h
    simp[Qj,Nat.testBit_two_pow] at h
   ·exact Cw l h.2 o ho
theorem XI {ρ:Ren} {x:AV} {u:Value} {p q:Prop} (h:aj x p q) (hx:az ρ x u) : ∃ b,u=.bool b∧(b=true→p)∧(b=false→q):=by
 unfold aj at h
 split at h <;> first | (cases h; done) | skip
 rename_i b
 exact⟨b,(aZ hx).1,h.1,h.2⟩
theorem Wj (hP:Eo P) : ∀ (f:Nat) (c:Code) (env:List (Nat × Nat)) (L:Nat) (T:Tree AV) (M:RM) (K:K3),wpC P nt ret f c env L T M K →
  ∀ (M0:RM) (ρ0:Ren) (w0:World) (ρ:Ren) (a:Act) (w:World),After P M0 ρ0 w0 M ρ w→jc ρ nt T a→c.wp P (UO P nt M0 ρ0 w0 T (fH f c) K) a w:=by
 intro f
 induction f with
 | zero=>intro c env L T M K h; exact h.elim
 | succ f ih =>
   intro c env L T M K h M0 ρ0 w0 ρ a w hM hA
   cases c with
   | skip=>exact wp_skip ⟨.normal,T,M,ρ,rfl,hM,hA,fun _ _=>rfl,h⟩
   | region id ops d =>
     cases d with
     | false =>
       refine wp_region ?_
       have:=Cz (nt:=nt) hP (ops:=ops) (Q:=UO P nt M0 ρ0 w0 T (fH (f + 1) (.region id ops false)) K) (K:=fun T' M'=>K .normal T' M') (M0:=M0) (ρ0:=ρ0) (w0:=w0) (T0:=T)
        (fun T' M' ρ' a' w' k1 k2 k3 k4=>⟨.normal,T',M',ρ',rfl,k1,k2,fun t ht=>k4 t (Cw _ ht),k3⟩) ops.toList 0 (by simp) hA hM (fun _ _=>rfl) h
       rw[Array.length_toList,← List.range_eq_range'] at this
       exact this
     | true =>
       exact Rv (nt:=nt) (T:=T) hP hM hA (fun T' M' ρ' a' w' k1 k2 k3 k4=>⟨.normal,T',M',ρ',rfl,k1,k2,fun t ht=>k4 t (Cw _ ht),k3⟩) h
   | seq c1 c2 =>
     simp only[wpC] at h
     refine wp_seq ?_
     split at h
     ·refine wp_mono (ih c1 _ _ _ _ _ h M0 ρ0 w0 ρ a w hM hA) fun e a' w' hp=>?_
      obtain⟨x,T1,M1,ρ1,rfl,k1,k2,k3,k4⟩:=hp
      cases x with
      | normal =>
        refine wp_mono (ih c2 _ _ _ _ _ k4 M0 ρ0 w0 ρ1 a' w' k1 k2) fun e a2 w2 hp=>?_
        obtain⟨x,T2,M2,ρ2,he,q1,q2,q3,q4⟩:=hp
        exact⟨x,T2,M2,ρ2,he,q1,q2,fun t ht=>by
         simp only[fH,Nat.testBit_or,Bool.or_eq_false_iff] at ht
         rw[q3 t ht.2,k3 t ht.1],q4⟩
      | exit i =>
        have kk:∀ t,Nat.testBit (fH (f + 1) (.seq c1 c2)) t=false→T1.get t=T.get t:=fun t ht=>by
         simp only[fH,Nat.testBit_or,Bool.or_eq_false_iff] at ht
         exact k3 t ht.1
        rcases IC i with he | he <;> rw[he] <;> exact⟨.exit i,T1,M1,ρ1,he.symm,k1,k2,kk,k4⟩
      | ret=>exact⟨.ret,T1,M1,ρ1,rfl,k1,k2,fun t ht=>by
        simp only[fH,Nat.testBit_or,Bool.or_eq_false_iff] at ht
        exact k3 t ht.1,k4⟩
     ·unfold bG at h
      refine wp_mono (ih c1 _ _ _ _ _ h M0 ρ0 w0 ρ a w hM hA) fun e a' w' hp=>?_
      obtain⟨x,T1,M1,ρ1,rfl,k1,k2,k3,k4⟩:=hp
      have hge:∀ t,nt≤t→az ρ1 ((T.get t).getD .top) undef:=fun t ht=>by
       have h1:=k2.ge t ht
       by_cases hb:Nat.testBit (fH f c1) t=false
       ·rw[k3 t hb] at h1; exact h1
       ·have h0:=hA.ge t ht
        have hu:∀ (ρ ρ' : Ren) (x:AV),az ρ x undef→az ρ' x undef:=by
         intro ρ ρ' x hx
         unfold undef at hx ⊢
         cases hx with
         | top=>exact .top _
         | sc v p=>exact .sc _ p
         | tup xs vs a=>cases a; exact .tup _ _ .nil
        exact hu _ _ _ h0
      cases x with
      | normal =>
        refine wp_mono (ih c2 _ _ _ _ _ k4 M0 ρ0 w0 ρ1 a' w' k1 (FY k2 hge k3)) fun e a2 w2 hp=>?_
        obtain⟨x,T2,M2,ρ2,he,q1,q2,q3,q4⟩:=hp
        refine⟨x,T2,M2,ρ2,he,q1,q2,fun t ht=>?_,q4⟩
        simp only[fH,Nat.testBit_or,Bool.or_eq_false_iff] at ht
        rw[q3 t ht.2]
        refine Jm (fun t' ht'=>?_) t ht.1
        have:=(vS.1 ht').2
        rw[Nat.testBit_and,Bool.and_eq_true] at this
        exact this.1
      | exit i =>
        have kk:∀ t,Nat.testBit (fH (f + 1) (.seq c1 c2)) t=false→T1.get t=T.get t:=fun t ht=>by
         simp only[fH,Nat.testBit_or,Bool.or_eq_false_iff] at ht
         exact k3 t ht.1
        rcases IC i with he | he <;> rw[he] <;> exact⟨.exit i,T1,M1,ρ1,he.symm,k1,k2,kk,k4⟩
      | ret=>exact⟨.ret,T1,M1,ρ1,rfl,k1,k2,fun t ht=>by
        simp only[fH,Nat.testBit_or,Bool.or_eq_false_iff] at ht
        exact k3 t ht.1,k4⟩
   | cond cnd c1 c2 =>
     simp only[wpC] at h
     obtain⟨b,hb,h1,h2⟩:=XI h (NF hA cnd)
     cases b with
     | true =>
       refine wp_cond_true hb (wp_mono (ih c1 _ _ _ _ _ (h1 rfl) M0 ρ0 w0 ρ a w hM hA) fun e a' w' hp=>?_)
       obtain⟨x,T1,M1,ρ1,he,k1,k2,k3,k4⟩:=hp
       exact⟨x,T1,M1,ρ1,he,k1,k2,fun t ht=>by
         simp only[fH,Nat.testBit_or,Bool.or_eq_false_iff] at ht
         exact k3 t ht.1,k4⟩
     | false =>
       refine wp_cond_false hb (wp_mono (ih c2 _ _ _ _ _ (h2 rfl) M0 ρ0 w0 ρ a w hM hA) fun e a' w' hp=>?_)
       obtain⟨x,T1,M1,ρ1,he,k1,k2,k3,k4⟩:=hp
       exact⟨x,T1,M1,ρ1,he,k1,k2,fun t ht=>by
         simp only[fH,Nat.testBit_or,Bool.or_eq_false_iff] at ht
         exact k3 t ht.2,k4⟩
   | block id c1 =>
     simp only[wpC] at h
     split at h <;> first | (cases h; done) | skip
     rename_i hid
     refine wp_block (wp_mono (ih c1 _ _ _ _ _ h M0 ρ0 w0 ρ a w hM hA) fun e a' w' hp=>?_)
     obtain⟨x,T1,M1,ρ1,rfl,k1,k2,k3,k4⟩:=hp
     cases x with
     | normal=>exact⟨.normal,T1,M1,ρ1,rfl,k1,k2,k3,k4⟩
     | ret=>exact⟨.ret,T1,M1,ρ1,rfl,k1,k2,k3,k4⟩
     | exit i =>
       simp only at k4
       split at k4
       ·rename_i he
        have he:=eP he
        subst he
        rw[rq hid]
        simp only[Exit.inBlock,if_true]
        exact⟨.normal,T1,M1,ρ1,rfl,k1,k2,k3,k4⟩
       ·rename_i he
        have he:=Kk he
        cases hg:Nat.ble gt i with
        | false=>rw[rq hg]; simp only[Exit.inBlock,if_neg he]; exact⟨.exit i,T1,M1,ρ1,(rq hg).symm,k1,k2,k3,k4⟩
        | true=>rw[BB hg]; exact⟨.exit i,T1,M1,ρ1,(BB hg).symm,k1,k2,k3,k4⟩
   | loop c1 =>
     simp only[wpC] at h
     obtain⟨I,n,hI,hbody⟩:=h
     have hvs:∀ t∈bitsOf (fH f c1 &&& iA ret f env c1 (iA ret f env c1 0)) nt,Nat.testBit (fH f c1) t=true:=fun t' ht'=>by
      have:=(vS.1 ht').2
      rw[Nat.testBit_and,Bool.and_eq_true] at this
      exact this.1
     generalize hv:bitsOf (fH f c1 &&& iA ret f env c1 (iA ret f env c1 0)) nt=vs at hI hbody hvs
     have hu:∀ (ρ ρ' : Ren) (x:AV),az ρ x undef→az ρ' x undef:=by
      intro ρ ρ' x hx
      unfold undef at hx ⊢
      cases hx with
      | top=>exact .top _
      | sc v p=>exact .sc _ p
      | tup xs vs a=>cases a; exact .tup _ _ .nil
     have hge:∀ (ρ1:Ren) t,nt≤t→az ρ1 ((T.get t).getD .top) undef:=fun ρ1 t ht=>hu _ _ _ (hA.ge t ht)
     have key:∀ (m:Nat) (ys:List AV) (M1:RM) (ρ1:Ren) (a1:Act) (w1:World),I m ys M1→After P M0 ρ0 w0 M1 ρ1 w1→jc ρ1 nt (CJ T (bitsOf (fH f c1) nt) vs ys) a1 →
       Code.rounds P c1 (UO P nt M0 ρ0 w0 T (fH (f + 1) (.loop c1)) K) (m + 1) a1 w1:=by
      intro m
      induction m using Nat.strongRecOn with
      | _ m ihm =>
        intro ys M1 ρ1 a1 w1 hIm hM1 hA1
        rw[rounds_succ]
        refine wp_mono (ih c1 _ _ _ _ _ (hbody m ys M1 hIm) M0 ρ0 w0 ρ1 a1 w1 hM1 hA1) fun e a' w' hp=>?_
        obtain⟨x,T2,M2,ρ2,rfl,k1,k2,k3,k4⟩:=hp
        have k3' : ∀ t,Nat.testBit (fH f c1) t=false→T2.get t=T.get t:=fun t ht=>by rw[k3 t ht]; exact Jm hvs t ht
        cases x with
        | normal =>
          obtain⟨m',hlt,hI'⟩:=k4
          exact Hz (by omega) (ihm m' hlt _ M2 ρ2 a' w' hI' k1 (FY k2 (hge ρ2) k3'))
        | exit i=>rcases IC i with he | he <;> rw[he] <;> exact⟨.exit i,T2,M2,ρ2,he.symm,k1,k2,k3',k4⟩
        | ret=>exact⟨.ret,T2,M2,ρ2,rfl,k1,k2,k3',k4⟩
     exact wp_loop_rounds _ (key n _ M ρ a w hI hM (FY hA (hge ρ) fun _ _=>rfl))
   | exit id =>
     simp only[wpC] at h
     split at h <;> first | (cases h; done) | skip
     rename_i hid
     exact wp_exit ⟨.exit id,T,M,ρ,(rq hid).symm,hM,hA,fun _ _=>rfl,h⟩
   | ret=>exact wp_ret ⟨.ret,T,M,ρ,rfl,hM,hA,fun _ _=>rfl,h⟩
   | rangeFunc=>simp[wpC] at h
   | scope c1 =>
     simp only[wpC] at h
     have hs:∀ t,Nat.testBit (fH (f + 1) (.scope c1)) t=false→Nat.testBit (fH f c1) t=false:=fun t ht=>by
      simp only[fH,Nat.testBit_or,Bool.or_eq_false_iff] at ht
      exact ht.1
     refine NI (wp_mono (ih c1 _ _ _ _ _ h M0 ρ0 w0 ρ a w hM hA) fun e a' w' hp=>?_)
     obtain⟨x,T1,M1,ρ1,rfl,k1,k2,k3,k4⟩:=hp
     cases x with
     | normal=>exact⟨.normal,T1,M1,ρ1,rfl,k1,k2,fun t ht=>k3 t (hs t ht),k4⟩
     | ret=>exact⟨.ret,T1,M1,ρ1,rfl,k1,k2,fun t ht=>k3 t (hs t ht),k4⟩
     | exit i =>
       cases hg:Nat.ble gt i with
       | false =>
         simp only[hg] at k4
         rw[rq hg]
         exact⟨.exit i,T1,M1,ρ1,(rq hg).symm,k1,k2,fun t ht=>k3 t (hs t ht),k4⟩
       | true =>
         simp only[hg] at k4
         rw[BB hg]
         simp only
         cases hf:findLabel c1 (i - gt) with
         | none =>
           simp only[hf] at k4
           exact⟨.exit i,T1,M1,ρ1,(BB hg).symm,k1,k2,fun t ht=>k3 t (hs t ht),k4⟩
         | some r =>
           simp only[hf] at k4
           refine wp_mono (ih r _ _ _ _ _ k4 M0 ρ0 w0 ρ1 a' w' k1 k2) fun e a2 w2 hp=>?_
           obtain⟨x,T2,M2,ρ2,rfl,q1,q2,q3,q4⟩:=hp
           have q3' : ∀ t,Nat.testBit (fH (f + 1) (.scope c1)) t=false→T2.get t=T.get t:=fun t ht=>by rw[q3 t (YD hf ht),k3 t (hs t ht)]
           cases x with
           | normal=>exact⟨.normal,T2,M2,ρ2,rfl,q1,q2,q3',q4⟩
           | ret=>exact⟨.ret,T2,M2,ρ2,rfl,q1,q2,q3',q4⟩
           | exit j =>
             cases hj:Nat.ble gt j with
             | true=>simp only[hj] at q4
             | false =>
               simp only[hj] at q4
               rw[rq hj]
               exact⟨.exit j,T2,M2,ρ2,(rq hj).symm,q1,q2,q3',q4⟩
   | label l=>exact wp_label ⟨.normal,T,M,ρ,rfl,hM,hA,fun _ _=>rfl,h⟩
   | goto l =>
     simp only[wpC] at h
     refine wp_goto ⟨.exit (gt + l),T,M,ρ, ?_,hM,hA,fun _ _=>rfl,h⟩
     rw[BB (by simp),Nat.add_sub_cancel_left]
   | refuse=>simp[wpC] at h
theorem UE {ρ:Ren} {T:Tree AV} {M:RM} {a:Act} {w:World} (hA:jc ρ nt T a) (hw:dV P ρ M w) {r:ResultVar} {K:AV→Prop} (h:Zj P T M r K) :
  ∃ v v',(Gr a.tmps r).run P w=.ok v' w∧az ρ v v'∧K v:=by
 cases r with
 | tmp t=>exact⟨_,_,rfl,hA.val t,h⟩
 | cell x t =>
   simp only[Zj] at h
   have hv:=hA.val x
   split at h <;> first | (cases h; done) | skip
   ·rename_i ha
    obtain⟨b,p,v,hx,hl,hk⟩:=h
    rw[hx] at hv
    obtain⟨i,hb,hc⟩:=fq hv
    obtain⟨u,hu,hcell⟩:=NH hw hb hl
    refine⟨v,u, ?_,hu,hk⟩
    simp only[Gr,hc,asAddr,Sem.run_bind,Sem.run_pure,Result.andThen_ok,loadVar,jv ha,Bool.false_eq_true,if_false,load,Sem.run,hcell]
   ·rename_i ha
    split at h <;> first | (cases h; done) | skip
    rename_i n hs
    obtain⟨b,p,xs,hx,hl,hk⟩:=h
    rw[hx] at hv
    obtain⟨i,hb,hc⟩:=fq hv
    obtain⟨vs,hr,hlen,_,hrun⟩:=RM.mP (P:=P) hw hb hl
    exact⟨.agg xs,.agg ⟨vs⟩,by simp only[Gr,hc,asAddr,Sem.run_bind,Sem.run_pure,Result.andThen_ok,loadVar,jv ha,if_true,dX hs,hrun],.agg _ _ hr,hk⟩
theorem Dv {ρ:Ren} {T:Tree AV} {M:RM} {a:Act} {w:World} (hA:jc ρ nt T a) (hw:dV P ρ M w) : ∀ (rs:List ResultVar) (K:List AV→Prop),Y6 P T M rs K →
  ∃ vs us,(rs.mapM (Gr a.tmps)).run P w=.ok us w∧bD ρ vs us∧K vs
 | [],K,h=>⟨[],[],by simp,.nil,h⟩
 | r :: rs,K,h=>by
   obtain⟨v,v',h1,h2,h3⟩:=UE hA hw h
   obtain⟨vs,us,h4,h5,h6⟩:=Dv hA hw rs _ h3
   refine⟨v :: vs,v' :: us, ?_,.cons _ _ _ _ h2 h5,h6⟩
   simp only[List.mapM_cons,Sem.run_bind,h1,Result.andThen_ok,h4,Sem.run_pure]
theorem L8 (hP:Eo P) {f:FuncId} {fn:Func} {c:Code} {args:List AV} {M:RM} {Q:ak} (hfn:P.funcs[f]?=some fn) (hbody:fn.body=some c) (h:VZ P fn c args M Q) : gK P f args M Q:=by
 refine⟨⟨fn,c,hfn,hbody⟩,fun ρ w us hargs hw=>?_⟩
 have hlen:=hargs.length
 have hA:jc ρ (args.length + (fn.ntmps - args.length)) (Tree.ofList args 0 .leaf) { tmps:=⟨us⟩++Array.replicate (fn.ntmps - (⟨us⟩ : Array Value).size) undef,defers:=[] } := by
  refine⟨by simp[hlen],fun t=>?_,rfl⟩
  rw[Tree.vP]
  by_cases ht:t<args.length
  ·rw[if_pos (by omega),Nat.sub_zero]
   obtain⟨u,hu,hv⟩:=hargs.get (n:=t) (x:=args[t]) (by simp[ht])
   rw[List.getElem?_eq_getElem ht]
   simp only[Option.getD_some]
   have:((⟨us⟩ : Array Value)++Array.replicate (fn.ntmps - (⟨us⟩ : Array Value).size) undef).getD t undef=u:=by
    rw[Array.getD_eq_getD_getElem?,Array.getElem?_append_left (by simp; omega)]
    simp[hu]
   rw[this]; exact hv
  ·rw[if_neg (by omega)]
   exact .top _
 refine calls_of_wp hfn hbody (wp_mono (Wj hP 1000 c [] 0 _ M _ h M ρ w ρ _ w (After.refl hw) hA) fun e a w' hp=>?_)
 obtain⟨x,T',M',ρ',rfl,k1,k2,k3,k4⟩:=hp
 have key:(∃ vs us,(fn.results.toList.mapM (Gr a.tmps)).run P w'=.ok us w'∧bD ρ' vs us∧abA Q M' vs) →
   a.defers=[]∧∃ v,(results fn a.tmps).run P w'=.ok v w'∧∃ v' v_1 acB acx,Ending.returned v=.returned v'∧After P M ρ w acB acx w'∧az acx v_1 v'∧Q v_1 acB:=by
  rintro⟨vs,us,h1,h2,h3⟩
  have hres:(results fn a.tmps).run P w'=.ok (if h:(⟨us⟩ : Array Value).size=1 then(⟨us⟩ : Array Value)[0] else .tuple ⟨us⟩) w':=by
   have e:results fn a.tmps=(fn.results.mapM (Gr a.tmps) >>= fun vs=>pure (if h:vs.size=1 then vs[0] else .tuple vs)):=rfl
   rw[e,Array.mapM_eq_mapM_toList]
   simp only[Sem.run_bind,Sem.run_map,h1,Result.andThen_ok,Sem.run_pure]
  refine⟨k2.defers,_,hres, ?_⟩
  cases h2 with
  | nil=>exact⟨_,_,M',ρ',rfl,k1,.tup _ _ .nil,h3⟩
  | cons x v xs vs2 hv htl =>
    cases htl with
    | nil=>exact⟨_,x,M',ρ',rfl,k1,hv,h3⟩
    | cons y u ys us2 hu afx=>exact⟨_,_,M',ρ',rfl,k1,.tup _ _ (.cons _ _ _ _ hv (.cons _ _ _ _ hu afx)),h3⟩
 cases x with
 | normal=>exact key (Dv k2 k1.rel _ _ k4)
 | ret=>exact key (Dv k2 k1.rel _ _ k4)
 | exit id=>exact k4.elim
abbrev au:=List AV→RM→ak→Prop
def LD (P:Program) (fn:Func) (args:List AV) (M:RM) (Q:ak) : Prop :=
 match fn.body with
 | some c=>VZ P fn c args M Q
 | none=>False
theorem V4 (hP:Eo P) {f:FuncId} {fn:Func} {args:List AV} {M:RM} {Q:ak} (hfn:P.funcs[f]?=some fn) (h:LD P fn args M Q) : gK P f args M Q:=by
 unfold LD at h
 split at h
 ·rename_i c hc; exact L8 hP hfn hc h
 ·cases h
end
def RM.cell (M:RM) (b o:Nat) : Option AV:=(M.cells b).bind (·[o]?)
section
variable {M M' : RM} {K:AV→Prop} {KQ:ak}
theorem KC {b o:Nat} {v:AV} : M.loads b o 1=some [v]↔M.cell b o=some v:=by
 unfold RM.loads RM.cell
 cases hc:M.cells b with
 | none=>simp
 | some l =>
   simp only[Option.bind_some]
   constructor
   ·intro h
    split at h
    ·rename_i hlt
     have h1:=Option.some.inj h
     have:((l.drop o).take 1)[0]?=some v:=by rw[h1]; rfl
     rw[List.getElem?_take,if_pos (by omega),List.getElem?_drop] at this
     simpa using this
    ·cases h
   ·intro h
    have hlt:=(List.getElem?_eq_some_iff.1 h).1
    rw[if_pos (by omega)]
    congr 1
    rw[List.drop_eq_getElem_cons hlt]
    simp only[List.take_succ_cons,List.take_zero]
    congr 1
    exact(List.getElem?_eq_some_iff.1 h).2
@[go_sem] theorem bT (b o:Nat) : ah M (.ptr b o) K=∃ v,M.cell b o=some v∧K v:=by
 apply propext; unfold ah
 constructor
 ·rintro⟨b',o',v,h,hl,hk⟩; cases h; exact⟨v,KC.1 hl,hk⟩
 ·rintro⟨v,hl,hk⟩; exact⟨b,o,v,rfl,KC.2 hl,hk⟩
@[go_sem] theorem uF (b o n:Nat) : aL M (.ptr b o) n K=∃ vs,M.loads b o n=some vs∧K (.agg vs):=by
 apply propext; unfold aL
 constructor
 ·rintro⟨b',o',v,h,hl,hk⟩; cases h; exact⟨v,hl,hk⟩
 ·rintro⟨v,hl,hk⟩; exact⟨b,o,v,rfl,hl,hk⟩
@[go_sem] theorem vY (b p:Nat) (x:AV) (n:Nat) (K:RM→Prop) : aC M (.ptr b p) x n K=(x.cells.length=n∧∃ M',M.stores b p x.cells=some M'∧K M'):=by
 apply propext; unfold aC
 constructor
 ·rintro⟨b',o',M',h,h1,h2,hk⟩; cases h; exact⟨h1,M',h2,hk⟩
 ·rintro⟨h1,M',h2,hk⟩; exact⟨b,p,M',rfl,h1,h2,hk⟩
def xE (k:IntKind) (a b:Int) : Int:=k.wrap (BitVec.ofInt k.bits a &&& BitVec.ofInt k.bits b).toNat
def FU (k:IntKind) (a b:Int) : Int:=k.wrap (BitVec.ofInt k.bits a ||| BitVec.ofInt k.bits b).toNat
def En (k:IntKind) (a b:Int) : Int:=k.wrap (BitVec.ofInt k.bits a ^^^ BitVec.ofInt k.bits b).toNat
def abj (k:IntKind) (a b:Int) : Int:=k.wrap (BitVec.ofInt k.bits a &&& ~~~BitVec.ofInt k.bits b).toNat
def IX (k:IntKind) (a b:Int) : Int:=k.wrap (a * 2 ^ (min b.toNat k.bits))
def nT (k:IntKind) (a b:Int) : Int:=a.fdiv (2 ^ (min b.toNat k.bits))
section
variable (k:IntKind) (a b:Int)
theorem iJ {op:BinOp} {v:Value} (h:yF op k a b=some v) : af op (N k a) (N k b) K=K (.sc v):=by
 apply propext; unfold af
 constructor
 ·rintro⟨k',a',b',u,h1,h2,h3,hk⟩; cases h1; cases h2; rw[h] at h3; cases h3; exact hk
 ·intro hk; exact⟨k,a,b,v,rfl,rfl,h,hk⟩
@[go_sem] theorem bE:af .add (N k a) (N k b) K=K (N k (k.wrap (a + b))):=iJ k a b rfl
@[go_sem] theorem gB:af .sub (N k a) (N k b) K=K (N k (k.wrap (a - b))):=iJ k a b rfl
@[go_sem] theorem kN:af .mul (N k a) (N k b) K=K (N k (k.wrap (a * b))):=iJ k a b rfl
@[go_sem] theorem fQ:af .and (N k a) (N k b) K=K (N k (xE k a b)):=iJ k a b rfl
@[go_sem] theorem fJ:af .or (N k a) (N k b) K=K (N k (FU k a b)):=iJ k a b rfl
@[go_sem] theorem fB:af .xor (N k a) (N k b) K=K (N k (En k a b)):=iJ k a b rfl
@[go_sem] theorem adv:af .andNot (N k a) (N k b) K=K (N k (abj k a b)):=iJ k a b rfl
@[go_sem] theorem bH:af .eql (N k a) (N k b) K=K (Bo (a == b)):=iJ k a b rfl
@[go_sem] theorem di:af .neq (N k a) (N k b) K=K (Bo (a != b)):=iJ k a b rfl
@[go_sem] theorem dO:af .lss (N k a) (N k b) K=K (Bo (decide (a<b))):=iJ k a b rfl
@[go_sem] theorem il:af .leq (N k a) (N k b) K=K (Bo (decide (a≤b))):=iJ k a b rfl
@[go_sem] theorem gV:af .gtr (N k a) (N k b) K=K (Bo (decide (a > b))):=iJ k a b rfl
@[go_sem] theorem dL:af .geq (N k a) (N k b) K=K (Bo (decide (a ≥ b))):=iJ k a b rfl
@[go_sem] theorem Cb:af .quo (N k a) (N k b) K=(b≠0∧K (N k (k.wrap (a.tdiv b)))):=by
 apply propext; unfold af yF
 constructor
 ·rintro⟨k',a',b',u,h1,h2,h3,hk⟩; cases h1; cases h2
  simp only at h3
  split at h3
  ·cases h3
  ·cases h3; exact⟨‹_›,hk⟩
 ·rintro⟨h0,hk⟩; exact⟨k,a,b,_,rfl,rfl,by simp only[if_neg h0],hk⟩
@[go_sem] theorem tF:af .rem (N k a) (N k b) K=(b≠0∧K (N k (a.tmod b))):=by
 apply propext; unfold af yF
 constructor
 ·rintro⟨k',a',b',u,h1,h2,h3,hk⟩; cases h1; cases h2
  simp only at h3
  split at h3
  ·cases h3
  ·cases h3; exact⟨‹_›,hk⟩
 ·rintro⟨h0,hk⟩; exact⟨k,a,b,_,rfl,rfl,by simp only[if_neg h0],hk⟩
variable (l:IntKind)
@[go_sem] theorem pE:jZ .shl (N k a) (N l b) K=(0≤b∧K (N k (IX k a b))):=by
 apply propext; unfold jZ KD
 constructor
 ·rintro⟨k',a',l',b',u,h1,h2,h3,hk⟩; cases h1; cases h2
  split at h3
  ·cases h3
  ·cases h3; exact⟨by omega,hk⟩
 ·rintro⟨h0,hk⟩; exact⟨k,a,l,b,_,rfl,rfl,by rw[if_neg (by omega)]; rfl,hk⟩
@[go_sem] theorem jm:jZ .shr (N k a) (N l b) K=(0≤b∧K (N k (nT k a b))):=by
 apply propext; unfold jZ KD
 constructor
 ·rintro⟨k',a',l',b',u,h1,h2,h3,hk⟩; cases h1; cases h2
  split at h3
  ·cases h3
  ·cases h3; exact⟨by omega,hk⟩
 ·rintro⟨h0,hk⟩; exact⟨k,a,l,b,_,rfl,rfl,by rw[if_neg (by omega)]; rfl,hk⟩
@[go_sem] theorem age {l:IntKind} {a:Int} {K:AV→Prop} : Kz (N l a) K=K (St (Utf8.encode a).data.toList):=by
 apply propext; unfold Kz
 constructor
 ·rintro⟨l',n,h,hk⟩; cases h; exact hk
 ·intro h; exact⟨_,_,rfl,h⟩
@[go_sem] theorem gU:iH k (N l a) K=K (N k (k.wrap a)):=by
 apply propext; unfold iH
 constructor
 ·rintro⟨l',n,h,hk⟩; cases h; exact hk
 ·intro hk; exact⟨l,a,rfl,hk⟩
@[go_sem] theorem acd (mx:Bool) : L9 mx (N k a) (N k b) K=K (N k (if mx then(if b > a then b else a) else(if b<a then b else a))):=by
 apply propext; unfold L9
 constructor
 ·rintro⟨k',a',b',h1,h2,hk⟩; cases h1; cases h2; exact hk
 ·intro hk; exact⟨k,a,b,rfl,rfl,hk⟩
@[go_sem] theorem abw:UB (N k a) K=K (N k (k.wrap (0 - a))):=by
 apply propext; unfold UB
 constructor
 ·rintro⟨k',a',h1,hk⟩; cases h1; exact hk
 ·intro hk; exact⟨k,a,rfl,hk⟩
end
@[go_sem] theorem bX (b:Bool) : fu (Bo b) K=K (Bo (!b)):=by
 apply propext; unfold fu
 constructor
 ·rintro⟨b',h,hk⟩; cases h; exact hk
 ·intro hk; exact⟨b,rfl,hk⟩
@[go_sem] theorem aea (neg a b:Bool) : Gi neg (Bo a) (Bo b) K=K (Bo ((a == b) != neg)):=by
 apply propext; unfold Gi
 constructor
 ·rintro⟨a',b',h,h',hk⟩; cases h; cases h'; exact hk
 ·intro hk; exact⟨a,b,rfl,rfl,hk⟩
@[go_sem] theorem O6 (t:Bool) (a b:AV) : aD (Bo t) a b K=K (if t then a else b):=by
 apply propext; unfold aD
 constructor
 ·rintro⟨t',h,hk⟩; cases h; exact hk
 ·intro hk; exact⟨t,rfl,hk⟩
@[go_sem] theorem Ck (b:Bool) (p q:Prop) : aj (Bo b) p q=((b=true→p)∧(b=false→q)):=rfl
@[go_sem] theorem aef {α:Type} (b want:Bool) (f g:α→Prop) (k:α) : nP (Bo b) want f g k=if b=want then f k else g k:=rfl
@[go_sem] theorem abR {α:Type} (want:Bool) (f g:α→Prop) (k:α) : nP .undef want f g k=g k:=rfl
@[go_sem] theorem fP (b o:Nat) : jA (.ptr b o) K=K (.ptr b o):=by
 apply propext; unfold jA
 constructor
 ·rintro⟨b',o',h,hk⟩; cases h; exact hk
 ·intro hk; exact⟨b,o,rfl,hk⟩
@[go_sem] theorem dM (b o n:Nat) : aF (.ptr b o) n K=K (.ptr b (o + n)):=by
 apply propext; unfold aF
 constructor
 ·rintro⟨b',o',h,hk⟩; cases h; exact hk
 ·intro hk; exact⟨b,o,rfl,hk⟩
@[go_sem] theorem qK (b p len:Nat) (cap:Cap) (k:IntKind) (n:Int) (size:Nat) : aM (.slc b p len cap) (N k n) size K=(0≤n∧n<len∧K (.ptr b (p + n.toNat * size))):=by
 apply propext; unfold aM
 constructor
 ·rintro⟨b',p',l',c',k',n',h,h',h0,h1,hk⟩; cases h; cases h'; exact⟨h0,h1,hk⟩
 ·rintro⟨h0,h1,hk⟩; exact⟨b,p,len,cap,k,n,rfl,rfl,h0,h1,hk⟩
@[go_sem] theorem Yy (b p:Nat) (k:IntKind) (n:Int) (len size:Nat) : dK (.ptr b p) (N k n) len size K=(0≤n∧n<len∧K (.ptr b (p + n.toNat * size))):=by
 apply propext; unfold dK
 constructor
 ·rintro⟨b',p',k',n',h,h',h0,h1,hk⟩; cases h; cases h'; exact⟨h0,h1,hk⟩
 ·rintro⟨h0,h1,hk⟩; exact⟨b,p,k,n,rfl,rfl,h0,h1,hk⟩
@[go_sem] theorem WS (cs:List AV) (off:Nat) : Ou (.agg cs) off K=∃ v,cs[off]?=some v∧K v:=by
 apply propext; unfold Ou
 constructor
 ·rintro⟨cs',v,h,h1,hk⟩; cases h; exact⟨v,h1,hk⟩
 ·rintro⟨v,h1,hk⟩; exact⟨cs,v,rfl,h1,hk⟩
@[go_sem] theorem aet (cs:List AV) (off n:Nat) : U2 (.agg cs) off n K=(off + n≤cs.length∧K (.agg ((cs.drop off).take n))):=by
 apply propext; unfold U2
 constructor
 ·rintro⟨cs',h,h1,hk⟩; cases h; exact⟨h1,hk⟩
 ·rintro⟨h1,hk⟩; exact⟨cs,rfl,h1,hk⟩
@[go_sem] theorem Nf (cs:List AV) (k:IntKind) (n:Int) (len:Nat) : JR (.agg cs) (N k n) len K=(0≤n∧n<len∧∃ v,cs[n.toNat]?=some v∧K v):=by
 apply propext; unfold JR
 constructor
 ·rintro⟨cs',k',n',v,h,h',h0,h1,h2,hk⟩; cases h; cases h'; exact⟨h0,h1,v,h2,hk⟩
 ·rintro⟨h0,h1,v,h2,hk⟩; exact⟨cs,k,n,v,rfl,rfl,h0,h1,h2,hk⟩
@[go_sem] theorem ael (cs:List AV) (k:IntKind) (n:Int) (len size:Nat) : TV (.agg cs) (N k n) len size K=(0≤n∧n<len∧n.toNat * size + size≤cs.length∧K (.agg ((cs.drop (n.toNat * size)).take size))):=by
 apply propext; unfold TV
 constructor
 ·rintro⟨cs',k',n',h,h',h0,h1,h2,hk⟩; cases h; cases h'; exact⟨h0,h1,h2,hk⟩
 ·rintro⟨h0,h1,h2,hk⟩; exact⟨cs,k,n,rfl,rfl,h0,h1,h2,hk⟩
@[go_sem] theorem Lv (s:List UInt8) (k:IntKind) (n:Int) : bA (St s) (N k n) K=(0≤n∧∃ b,s[n.toNat]?=some b∧K (N .u8 b.toNat)):=by
 apply propext; unfold bA
 constructor
 ·rintro⟨s',k',n',b,h,h',h0,h1,hk⟩; cases h; cases h'; exact⟨h0,b,h1,hk⟩
 ·rintro⟨h0,b,h1,hk⟩; exact⟨s,k,n,b,rfl,rfl,h0,h1,hk⟩
@[go_sem] theorem Jg (vs:List AV) (i:Nat) : aS (.tup vs) i K=∃ v,vs[i]?=some v∧K v:=by
 apply propext; unfold aS
 constructor
 ·rintro⟨cs',v,h,h1,hk⟩; cases h; exact⟨v,h1,hk⟩
 ·rintro⟨v,h1,hk⟩; exact⟨vs,v,rfl,h1,hk⟩
@[go_sem] theorem bK (v:AV) : bP (some v) K=K v:=by
 apply propext; unfold bP
 constructor
 ·rintro⟨v',h,hk⟩; cases h; exact hk
 ·intro hk; exact⟨v,rfl,hk⟩
@[go_sem] theorem oM (b o n:Nat) (c:Cap) : cK (.slc b o n c) K=K (N .i64 n):=by
 apply propext; unfold cK
 constructor
 ·rintro⟨n',h,hk⟩; cases h; exact hk
 ·intro hk; exact⟨n,rfl,hk⟩
@[go_sem] theorem YN (b:Nat) : cK (.emp b) K=K (N .i64 0):=by
 apply propext; unfold cK
 constructor
 ·rintro⟨n',h,hk⟩; cases h; exact hk
 ·intro hk; exact⟨0,rfl,hk⟩
@[go_sem] theorem Cr:cK (.sc (.slice none 0 0)) K=K (N .i64 0):=by
 apply propext; unfold cK
 constructor
 ·rintro⟨n',h,hk⟩; cases h; exact hk
 ·intro hk; exact⟨0,rfl,hk⟩
@[go_sem] theorem bi (s:List UInt8) : aQ (St s) K=K (N .i64 s.length):=by
 apply propext; unfold aQ
 constructor
 ·rintro⟨s',h,hk⟩; cases h; exact hk
 ·intro hk; exact⟨s,rfl,hk⟩
@[go_sem] theorem agf (b o n c:Nat) : QO (.slc b o n (.ex c)) K=K (N .i64 c):=by
 apply propext; unfold QO
 constructor
 ·rintro⟨n',h,hk⟩; cases h; exact hk
 ·intro hk; exact⟨c,rfl,hk⟩
@[go_sem] theorem af3:QO (.sc (.slice none 0 0)) K=K (N .i64 0):=by
 apply propext; unfold QO
 constructor
 ·rintro⟨n',h,hk⟩; cases h; exact hk
 ·intro hk; exact⟨0,rfl,hk⟩
@[go_sem] theorem afa (s:List UInt8) : isStr (St s) K=K (St s):=by
 apply propext; unfold isStr
 constructor
 ·rintro⟨s',h,hk⟩; cases h; exact hk
 ·intro hk; exact⟨s,rfl,hk⟩
@[go_sem] theorem Rh {x:AV} {s:List UInt8} (h:CR M x=some s) : oF M x K=K (St s):=by
 apply propext; unfold oF
 constructor
 ·rintro⟨s',h',hk⟩; rw[h] at h'; cases h'; exact hk
 ·intro hk; exact⟨s,h,hk⟩
theorem qO {op:BinOp} {a b:List UInt8} {v:AV} (h:Dt op a b=some v) : aX op (St a) (St b) K=K v:=by
 apply propext; unfold aX
 constructor
 ·rintro⟨a',b',u,h1,h2,h3,hk⟩; cases h1; cases h2; rw[h] at h3; cases h3; exact hk
 ·intro hk; exact⟨a,b,v,rfl,rfl,h,hk⟩
@[go_sem] theorem dm (a b:List UInt8) : aX .eql (St a) (St b) K=K (Bo (a == b)):=by rw[← jw]; exact qO rfl
@[go_sem] theorem jP (a b:List UInt8) : aX .neq (St a) (St b) K=K (Bo (a != b)):=by rw[bne,← jw]; exact qO rfl
@[go_sem] theorem afc (a b:List UInt8) : aX .lss (St a) (St b) K=K (Bo (Op.bytesLess a b)):=qO rfl
@[go_sem] theorem afk (a b:List UInt8) : aX .leq (St a) (St b) K=K (Bo (Op.bytesLess a b || a == b)):=by rw[← jw]; exact qO rfl
@[go_sem] theorem afR (a b:List UInt8) : aX .gtr (St a) (St b) K=K (Bo (!(Op.bytesLess a b || a == b))):=by rw[← jw]; exact qO rfl
@[go_sem] theorem afJ (a b:List UInt8) : aX .geq (St a) (St b) K=K (Bo (!Op.bytesLess a b)):=qO rfl
@[go_sem] theorem bI (a b:List UInt8) : aX .add (St a) (St b) K=(a.length + b.length≤9223372036854775807∧K (St (a++b))):=by
 apply propext; unfold aX
 constructor
 ·rintro⟨a',b',u,h1,h2,h3,hk⟩; cases h1; cases h2
  simp only[Dt] at h3
  split at h3
  ·rename_i hb; cases h3; exact⟨bN hb,hk⟩
  ·cases h3
 ·rintro⟨h0,hk⟩; exact⟨a,b,_,rfl,rfl,by simp only[Dt,bF.2 h0],hk⟩
theorem ku {neg:Bool} {tag:Nat} {x y:AV} {r:Bool} (ht:OD x=tag) (h:BM x y=some r) : jf neg tag x y K=K (Bo (r != neg)):=by
 apply propext; unfold jf
 constructor
 ·rintro⟨_,r',h',hk⟩; rw[h] at h'; cases h'; exact hk
 ·intro hk; exact⟨ht,r,h,hk⟩
@[go_sem] theorem Ll (neg:Bool) : jf neg 2 (.sc (.slice none 0 0)) (.sc (.slice none 0 0)) K=K (Bo (!neg)):=(ku (tag:=2) (r:=true) rfl rfl).trans (by cases neg <;> rfl)
@[go_sem] theorem Ms (neg:Bool) (b:Nat) : jf neg 2 (.emp b) (.sc (.slice none 0 0)) K=K (Bo neg):=(ku (tag:=2) (r:=false) rfl rfl).trans (by cases neg <;> rfl)
@[go_sem] theorem KW (neg:Bool) (b o n:Nat) (c:Cap) : jf neg 2 (.slc b o n c) (.sc (.slice none 0 0)) K=K (Bo neg):=(ku (tag:=2) (r:=false) rfl rfl).trans (by cases neg <;> rfl)
@[go_sem] theorem aaL (neg:Bool) (b o:Nat) : jf neg 1 (.ptr b o) (.sc (.pointer none)) K=K (Bo neg):=(ku (tag:=1) (r:=false) rfl rfl).trans (by cases neg <;> rfl)
@[go_sem] theorem ZU (neg:Bool) : jf neg 1 (.sc (.pointer none)) (.sc (.pointer none)) K=K (Bo (!neg)):=(ku (tag:=1) (r:=true) rfl rfl).trans (by cases neg <;> rfl)
@[go_sem] theorem aa8 (neg:Bool) (b:Nat) : jf neg 3 (.map b) (.sc (.map none)) K=K (Bo neg):=(ku (tag:=3) (r:=false) rfl rfl).trans (by cases neg <;> rfl)
@[go_sem] theorem abu (neg:Bool) (f:Fn) (xs ys:List AV) : jf neg 4 (.fn f xs ys) (.sc .nilFunc) K=K (Bo neg):=(ku (tag:=4) (r:=false) rfl rfl).trans (by cases neg <;> rfl)
@[go_sem] theorem VF (neg:Bool) (ks:List Nat) (cs ds:List AV) : qc neg ks (.agg cs) (.agg ds) K=(cs.length=ks.length∧ds.length=ks.length∧∃ r,eB ks cs ds=some r∧K (Bo (r != neg))):=by
 apply propext; unfold qc
 constructor
 ·rintro⟨a',b',r,h1,h2,h3,h4,h5,hk⟩; cases h1; cases h2; exact⟨h3,h4,r,h5,hk⟩
 ·rintro⟨h3,h4,r,h5,hk⟩; exact⟨cs,ds,r,rfl,rfl,h3,h4,h5,hk⟩
@[go_sem] theorem Yc (C:FuncId→au) (g:FuncId) (first cap args:List AV) : NZ C (.fn (.func g) first cap) args M KQ=C g (first++args++cap) M KQ:=by
 apply propext; unfold NZ
 constructor
 ·rintro⟨g',f',c',h,hk⟩; cases h; exact hk
 ·intro hk; exact⟨g,first,cap,rfl,hk⟩
@[go_sem] theorem gN (cs:List AV) (parts:List (Nat × Nat × AV)) : dW cs parts K=∃ cs',mf cs parts=some cs'∧K (.agg cs'):=rfl
@[go_sem] theorem aG (x:RB) (mk:Nat→AV) : aO x mk M KQ=KQ (mk M.next) (M.push x):=rfl
@[go_sem] theorem qL (x:RB) (mk:Nat→AV) (k:KR) : zZ x mk M k=k (mk M.next) (M.push x) (some M.next):=rfl
@[go_sem] theorem aeY (f:(List AV→RM→Prop)→Prop) (g:List AV→RM→Prop) : bG f g=f g:=rfl
@[go_sem] theorem dC (x:AV) (xs:List AV) : ae (x :: xs) 0=x:=rfl
@[go_sem] theorem jC (x:AV) (xs:List AV) (n:Nat) : ae (x :: xs) (n + 1)=ae xs n:=rfl
@[go_sem] theorem adY (b:Nat) (x:RB) (mk:Nat→AV) (v:AV) : BS (some b) M x mk v=(M.heap b=some x∧mk b=v):=rfl
end
section
variable {M M' : RM}
theorem RM.zI {b:Nat} {l:List AV} {opn:Bool} {el fz:Nat} (h:M.heap b=some (.row l opn el fz)) : M.cells b=some l:=by simp[RM.cells,h]
theorem RM.Zh {b o:Nat} {l:List AV} {opn:Bool} {el fz:Nat} (h:M.heap b=some (.row l opn el fz)) : M.cell b o=l[o]?:=by simp[RM.cell,RM.zI h]
theorem RM.jE {b o k:Nat} {l:List AV} {opn:Bool} {el fz:Nat} (h:M.heap b=some (.row l opn el fz)) (hk:o + k≤l.length) : M.loads b o k=some ((l.drop o).take k):=by
 simp[RM.loads,RM.zI h,hk]
theorem RM.TG {b o:Nat} {l vs:List AV} {opn:Bool} {el fz:Nat} (h:M.heap b=some (.row l opn el fz)) (h1:o + vs.length≤l.length) (h2:fz≤o) (h3:vs.all oneCell=true) :
  M.stores b o vs=some (M.put b (.row (l.take o++vs++l.drop (o + vs.length)) opn el fz)):=by
 simp only[RM.stores,h]
 rw[if_pos ⟨h1,h2,h3⟩]
structure ag (bs:List Nat) (M M' : RM) : Prop where
 base:M'.base=M.base
 next:M.next≤M'.next
 heap:∀ c,c<M.next→c ∉ bs→M'.heap c=M.heap c
theorem ag.refl (bs:List Nat) (M:RM) : ag bs M M:=⟨rfl,Nat.le_refl _,fun _ _ _=>rfl⟩
theorem ag.trans {bs:List Nat} {M1 M2:RM} (h:ag bs M M1) (k:ag bs M1 M2) : ag bs M M2 :=
 ⟨k.base.trans h.base,Nat.le_trans h.next k.next,fun c hc hb=>(k.heap c (Nat.lt_of_lt_of_le hc h.next) hb).trans (h.heap c hc hb)⟩
theorem ag.push {bs:List Nat} (h:ag bs M M') (x:RB) : ag bs M (M'.push x) :=
 ⟨h.base,Nat.le_succ_of_le h.next,fun c hc hb=>by
  have:=h.next
  simp only[RM.push]; rw[if_neg (by omega)]; exact h.heap c hc hb⟩
theorem ag.put {bs:List Nat} (h:ag bs M M') {b:Nat} (x:RB) (hb:M.next≤b∨b∈bs) : ag bs M (M'.put b x) :=
 ⟨h.base,h.next,fun c hc hcb=>by
  simp only[RM.put]; rw[if_neg]
  ·exact h.heap c hc hcb
  ·rintro rfl; rcases hb with hb | hb
   ·omega
   ·exact hcb hb⟩
theorem ag.del {bs:List Nat} (h:ag bs M M') {b:Nat} (hb:M.next≤b∨b∈bs) : ag bs M (M'.del b) :=
 ⟨h.base,h.next,fun c hc hcb=>by
  simp only[RM.del]; rw[if_neg]
  ·exact h.heap c hc hcb
  ·rintro rfl; rcases hb with hb | hb
   ·omega
   ·exact hcb hb⟩
theorem ag.mono {bs cs:List Nat} (h:ag bs M M') (hs:∀ b∈bs,b∈cs) : ag cs M M':=⟨h.base,h.next,fun c hc hb=>h.heap c hc fun h=>hb (hs c h)⟩
theorem ag.dH {bs:List Nat} {M1 M2:RM} {cs:List Nat} (h:ag bs M M1) (k:ag cs M1 M2) (hn:∀ c∈cs,M.next≤c∨c∈bs) : ag bs M M2 :=
 ⟨k.base.trans h.base,Nat.le_trans h.next k.next,fun c hc hb=>by
  rw[k.heap c (Nat.lt_of_lt_of_le hc h.next) (fun hm=>by rcases hn c hm with h1 | h1; omega; exact hb h1),h.heap c hc hb]⟩
theorem ag.cells {bs:List Nat} (h:ag bs M M') {b:Nat} (hlt:b<M.next) (hb:b ∉ bs) : M'.cells b=M.cells b:=by
 simp only[RM.cells,h.heap b hlt hb,RM.lo,h.base]
theorem ag.cell {bs:List Nat} (h:ag bs M M') {b o:Nat} (hlt:b<M.next) (hb:b ∉ bs) : M'.cell b o=M.cell b o:=by
 simp only[RM.cell,h.cells hlt hb]
theorem ag.loads {bs:List Nat} (h:ag bs M M') {b o k:Nat} (hlt:b<M.next) (hb:b ∉ bs) : M'.loads b o k=M.loads b o k:=by
 simp only[RM.loads,h.cells hlt hb]
@[go_sem] theorem RM.aei (x:RB) : (M.push x).next=M.next + 1:=rfl
@[go_sem] theorem RM.afW (b:Nat) (x:RB) : (M.put b x).next=M.next:=rfl
@[go_sem] theorem RM.afY (b:Nat) : (M.del b).next=M.next:=rfl
@[go_sem] theorem RM.aV (x:RB) : (M.push x).heap M.next=some x:=by simp[RM.push]
theorem RM.Yv {x:RB} {c:Nat} (h:c≠M.next) : (M.push x).heap c=M.heap c:=by simp[RM.push,h]
@[go_sem] theorem RM.lU (b:Nat) (x:RB) : (M.put b x).heap b=some x:=by simp[RM.put]
end
abbrev aJ:AV:=.sc (.slice none 0 0)
inductive dE (M:RM) (size:Nat) : AV→List AV→Nat→Prop
 | nil:dE M size aJ [] 0
 | emp (b:Nat) : dE M size (.emp b) [] 0
 | slc (b o n:Nat) (cap:Cap) (cs:List AV) : b<M.next→M.loads b o (n * size)=some cs→dE M size (.slc b o n cap) cs n
section
variable {M M' : RM} {size:Nat} {v:AV} {cs:List AV} {n:Nat}
theorem Nl {b o k:Nat} {cs:List AV} (h:M.loads b o k=some cs) : cs.length=k:=by
 unfold RM.loads at h
 split at h <;> first | (cases h; done) | skip
 split at h <;> first | (cases h; done) | skip
 rename_i hle
 have:=Option.some.inj h
 rw[← this,List.length_take,List.length_drop]; omega
theorem Wv {b o k:Nat} {cs:List AV} (h:M.loads b o k=some cs) (i:Nat) (hi:i<k) : M.cell b (o + i)=cs[i]?:=by
 unfold RM.loads at h
 unfold RM.cell
 split at h <;> first | (cases h; done) | skip
 rename_i l hl
 split at h <;> first | (cases h; done) | skip
 cases h
 simp only[hl,Option.bind_some]
 rw[List.getElem?_take,if_pos hi,List.getElem?_drop]
theorem zW {b o k:Nat} {cs:List AV} (h:M.loads b o k=some cs) (i j:Nat) (hij:i + j≤k) : M.loads b (o + i) j=some ((cs.drop i).take j):=by
 unfold RM.loads at h ⊢
 cases hl:M.cells b with
 | none=>rw[hl] at h; cases h
 | some l =>
   rw[hl] at h
   simp only at h ⊢
   split at h
   ·rename_i hle
    have h:=Option.some.inj h
    subst h
    rw[if_pos (by omega),List.drop_take,List.drop_drop,List.take_take]
    congr 2
    omega
   ·cases h
theorem JQ {b o:Nat} {l:List AV} (h:M.cells b=some l) (ho:o≤l.length) : M.loads b o 0=some []:=by
 simp[RM.loads,h,ho]
theorem dE.length (h:dE M size v cs n) : cs.length=n * size:=by
 cases h with
 | nil=>exact(Nat.zero_mul _).symm
 | emp=>exact(Nat.zero_mul _).symm
 | slc b o n cap cs hb0 hl=>exact Nl hl
theorem dE.len (h:dE M size v cs n) {K:AV→Prop} : cK v K=K (N .i64 n):=by
 cases h with
 | nil=>exact Cr
 | emp b=>exact YN b
 | slc b o n cap cs hb0 hl=>exact oM b o n cap
theorem dE.kQ (h:dE M size v cs n) (zs:List AV) : kQ M size zs false v=some (n,cs):=by
 cases h with
 | nil=>rfl
 | emp b=>rfl
 | slc b o n cap cs hb0 hl=>simp only[Go.Ab.kQ,hl]
theorem dE.pos (h:dE M size v cs n) (hn:0<n) : ∃ b o cap,v=.slc b o n cap∧b<M.next∧M.loads b o (n * size)=some cs:=by
 cases h with
 | nil=>omega
 | emp b=>omega
 | slc b o n cap cs hb0 hl=>exact⟨b,o,cap,rfl,hb0,hl⟩
theorem dE.CR (h:dE M 1 v cs n) {l:List UInt8} (hb:eT byteOf cs=some l) : CR M v=some l:=by
 cases h with
 | nil=>simp[eT] at hb; subst hb; rfl
 | emp b=>simp[eT] at hb; subst hb; rfl
 | slc b o n cap cs hb0 hl =>
   rw[Nat.mul_one] at hl
   simp only[Go.Ab.CR,hl]; exact hb
def aH:AV→List Nat
 | .slc b _ _ _=>[b]
 | _=>[]
theorem dE.keep {bs:List Nat} (h:dE M size v cs n) (hk:ag bs M M') (hb:∀ b∈aH v,b ∉ bs) : dE M' size v cs n:=by
 cases h with
 | nil=>exact .nil
 | emp b=>exact .emp b
 | slc b o n cap cs hb0 hl =>
   exact .slc b o n cap cs (Nat.lt_of_lt_of_le hb0 hk.next) (by rw[hk.loads hb0 (hb b (by simp[aH]))]; exact hl)
inductive Own (M:RM) (base el size:Nat) : AV→List AV→Nat→Prop
 | nil:Own M base el size aJ [] 0
 | ex0 (b o:Nat) : base≤b→b<M.next→(∃ l,M.cells b=some l∧o≤l.length)→Own M base el size (.slc b o 0 (.ex 0)) [] 0
 | op (b n:Nat) (cs:List AV) : base≤b→b<M.next→M.heap b=some (.row cs true el 0)→cs.length=n * size→Own M base el size (.slc b 0 n (.op size)) cs n
theorem Own.jX {base el:Nat} (h:Own M base el size v cs n) : dE M size v cs n:=by
 cases h with
 | nil=>exact .nil
 | ex0 b o hb hlt hc =>
   obtain⟨l,hl,ho⟩:=hc
   exact .slc b o 0 _ [] hlt (by rw[Nat.zero_mul]; exact JQ hl ho)
 | op b n cs hb hlt hh hl =>
   refine .slc b 0 n _ cs hlt ?_
   rw[RM.jE hh (by omega)]
   simp[← hl]
theorem Own.blk {base el:Nat} (h:Own M base el size v cs n) : ∀ b∈aH v,base≤b∧b<M.next:=by
 cases h with
 | nil=>intro b hb; simp[aH] at hb
 | ex0 b o hb hlt hc=>intro c hc; simp[aH] at hc; subst hc; exact⟨hb,hlt⟩
 | op b n cs hb hlt hh hl=>intro c hc; simp[aH] at hc; subst hc; exact⟨hb,hlt⟩
theorem Own.keep {base el:Nat} {bs:List Nat} (h:Own M base el size v cs n) (hk:ag bs M M') (hb:∀ b∈aH v,b ∉ bs) : Own M' base el size v cs n:=by
 cases h with
 | nil=>exact .nil
 | ex0 b o h1 hlt hc=>exact .ex0 b o h1 (Nat.lt_of_lt_of_le hlt hk.next) (by rw[hk.cells hlt (hb b (by simp[aH]))]; exact hc)
 | op b n cs h1 hlt hh hl=>exact .op b n cs h1 (Nat.lt_of_lt_of_le hlt hk.next) (by rw[hk.heap b hlt (hb b (by simp[aH]))]; exact hh) hl
theorem Own.mono {base base' el:Nat} (h:Own M base el size v cs n) (hb:base'≤base) : Own M base' el size v cs n:=by
 cases h with
 | nil=>exact .nil
 | ex0 b o h1 hlt hc=>exact .ex0 b o (Nat.le_trans hb h1) hlt hc
 | op b n cs h1 hlt hh hl=>exact .op b n cs (Nat.le_trans hb h1) hlt hh hl
theorem wH {base el bytes:Nat} {zs:List AV} {zeros:Bool} {x:AV} {m:Nat} {ds:List AV} {K:ak} (h:Own M base el size v cs n) (hbase:base≤M.next) (hs:1≤size) (hx:kQ M size zs zeros x=some (m,ds)) (hd:ds.length=m * size)
  (h1:ds.all oneCell=true) (hb:(n + m) * bytes≤140737488355328) (hb2:n + m≤140737488355328)
  (hK:∀ v' M',Own M' base el size v' (cs++ds) (n + m)→ag (aH v) M M'→M.next≤M'.next→(v'=v∨∀ b∈aH v',M.next≤b)→K v' M') : appW el size bytes zs zeros v x M K:=by
 have hmb:m * bytes≤140737488355328:=Nat.le_trans (Nat.mul_le_mul_right _ (by omega)) hb
 refine⟨m,ds,hx,hmb,by omega, ?_⟩
 cases h with
 | nil =>
   by_cases hm:m=0
   ·subst hm
    have:ds=[]:=List.eq_nil_of_length_eq_zero (by simpa using hd)
    subst this
    exact⟨aJ,M,by simp[uK],hK _ _ .nil (ag.refl _ _) (Nat.le_refl _) (.inl rfl)⟩
   ·refine⟨.slc M.next 0 m (.op size),M.push (.row ds true el 0),by simp only[uK,if_neg hm,h1,if_true],hK _ _ ?_ ((ag.refl _ _).push _) (by simp[RM.push]) (.inr fun b hb=>by simp[aH] at hb; omega)⟩
    simp only[List.nil_append,Nat.zero_add]
    exact .op _ _ _ hbase (by simp[RM.push]) (RM.aV _) hd
 | ex0 b o hb0 hlt hc =>
   obtain⟨l,hl,ho⟩:=hc
   by_cases hm:m=0
   ·subst hm
    have:ds=[]:=List.eq_nil_of_length_eq_zero (by simpa using hd)
    subst this
    exact⟨_,M,by simp[uK],hK _ _ (.ex0 b o hb0 hlt ⟨l,hl,ho⟩) (ag.refl _ _) (Nat.le_refl _) (.inl rfl)⟩
   ·refine⟨.slc M.next 0 m (.op size),M.push (.row ds true el 0), ?_,hK _ _ ?_ ((ag.refl _ _).push _) (by simp[RM.push]) (.inr fun b hb=>by simp[aH] at hb; omega)⟩
    ·have hl0:M.loads b o (0 * size)=some []:=by rw[Nat.zero_mul]; exact JQ hl ho
     simp only[uK,if_neg hm]
     rw[if_neg (by omega),hl0]
     simp only[Nat.zero_add,List.nil_append]
     rw[if_pos ⟨hmb,by omega,h1⟩]
    ·simp only[List.nil_append,Nat.zero_add]
     exact .op _ _ _ hbase (by simp[RM.push]) (RM.aV _) hd
 | op b n cs hb0 hlt hh hl =>
   by_cases hm:m=0
   ·subst hm
    have:ds=[]:=List.eq_nil_of_length_eq_zero (by simpa using hd)
    subst this
    exact⟨_,M,by simp[uK],hK _ _ (by simpa using .op b n cs hb0 hlt hh hl) (ag.refl _ _) (Nat.le_refl _) (.inl rfl)⟩
   ·have hpos:1≤m * size:=Nat.mul_pos (by omega) hs
    have hsum:(n + m) * size=n * size + m * size:=Nat.add_mul _ _ _
    refine⟨.slc M.next 0 (n + m) (.op size),(M.del b).push (.row (cs++ds) true el 0), ?_,hK _ _ ?_ (((ag.refl _ _).del (.inr (by simp[aH]))).push _) (by simp[RM.push,RM.del]) (.inr fun b hb=>by simp[aH] at hb; omega)⟩
    ·simp only[uK,if_neg hm,hh,and_self,if_true]
     rw[if_neg (by omega),if_pos ⟨trivial,hb,hb2,trivial,hl,Nat.zero_le _,h1⟩]
    ·exact .op _ _ _ (show base≤M.next from hbase) (by simp[RM.push,RM.del]) (by simp[RM.push,RM.del]) (by rw[List.length_append,hl,hd,hsum])
theorem dE.BM (h:dE M size v cs n) (neg:Bool) : (v=aJ∧∀ K:AV→Prop,jf neg 2 v aJ K=K (Bo (!neg)))∨(v≠aJ∧∀ K:AV→Prop,jf neg 2 v aJ K=K (Bo neg)):=by
 cases h with
 | nil=>exact .inl ⟨rfl,fun _=>Ll neg⟩
 | emp b=>exact .inr ⟨by(intro h; cases h),fun _=>Ms neg b⟩
 | slc b o n cap cs hb0 hl=>exact .inr ⟨by(intro h; cases h),fun _=>KW neg b o n cap⟩
theorem Own.lit {base el T:Nat} (M:RM) (h:base≤M.next) : Own (M.push (.row [] false T 0)) base el size (.slc M.next 0 0 (.ex 0)) [] 0 :=
 .ex0 _ _ h (by simp[RM.push]) ⟨[],by simp[RM.cells,RM.push],Nat.le_refl _⟩
end
end Go.Ab
set_option maxRecDepth 4000
namespace Go.Ab
open Go
theorem wrap_u8 (n:Nat) : IntKind.wrap .u8 (n:Int)=((n % 256:Nat) : Int):=by
 simp only[IntKind.wrap,IntKind.bits,IntKind.signed,IntKind.max,IntKind.min]
 simp
theorem wrap_u32 (n:Nat) : IntKind.wrap .u32 (n:Int)=((n % 4294967296:Nat) : Int):=by
 simp only[IntKind.wrap,IntKind.bits,IntKind.signed,IntKind.max,IntKind.min]
 simp
theorem wrap_u64 (n:Nat) : IntKind.wrap .u64 (n:Int)=((n % 18446744073709551616:Nat) : Int):=by
 simp only[IntKind.wrap,IntKind.bits,IntKind.signed,IntKind.max,IntKind.min]
 simp
theorem nC {n:Int} (h0:0≤n) (h:n<256) : IntKind.wrap .u8 n=n:=by
 obtain⟨m,rfl⟩:=Int.eq_ofNat_of_zero_le h0
 rw[wrap_u8,Nat.mod_eq_of_lt (by omega)]
theorem fG {n:Int} (h0:0≤n) (h:n<18446744073709551616) : IntKind.wrap .u64 n=n:=by
 obtain⟨m,rfl⟩:=Int.eq_ofNat_of_zero_le h0
 rw[wrap_u64,Nat.mod_eq_of_lt (by omega)]
theorem bO {n:Int} (h0 : -9223372036854775808≤n) (h:n<9223372036854775808) : IntKind.wrap .i64 n=n:=by
 rw[IntKind.wrap_i64]; omega
theorem ac8 (k:Nat) (a b:Nat) : (BitVec.ofInt k (a:Int) ||| BitVec.ofInt k (b:Int)).toNat=(a ||| b) % 2 ^ k:=by
 rw[BitVec.toNat_or,BitVec.ofInt_natCast,BitVec.ofInt_natCast,BitVec.toNat_ofNat,BitVec.toNat_ofNat,← Nat.or_mod_two_pow]
theorem Pg (n:Nat) : (UInt8.ofNat n).toNat=n % 256:=by simp
end Go.Ab
namespace Go.Ab
open Go Go.RowKit
section
variable {P:Program}
end
def RM.old (base:Base) (w:World) : RM where
 next:=base.n
 heap:=fun b=>if b<base.n then(match w.heap[b]? with | some (.cells c _ _)=>some (.ro c) | _=>none) else none
 base:=base
def OT (n:Nat) : Ren:=fun b=>if b<n then some ⟨b,0,0,0⟩ else none
theorem YZ {P:Program} {base:Base} {w:World} (hn:base.n=w.heap.size) (hi:base.inv w) : dV P (OT base.n) (RM.old base w) w:=by
 refine⟨{ next:=base.n,heap:=.leaf },rfl,⟨fun b i h=>?_,fun b i x _ h=>by simp[Tree.get] at h,fun b _ i _ x _ _ _ h=>by simp[Tree.get] at h,fun b x h=>by simp[Tree.get] at h,fun b i x _ h=>by simp[Tree.get] at h,hi⟩,by simp[RM.old,RM.lo,hn],fun b x h=>.inr ?_,fun c hc=>by have hc' : c<base.n:=hc; simp only[OT]; rw[if_pos hc']⟩
 ·simp only[OT] at h
  split at h <;> first | (cases h; done) | skip
  cases h
  exact⟨by assumption,by rw[← hn]; assumption⟩
 ·simp only[RM.old] at h
  split at h <;> first | (cases h; done) | skip
  rename_i hlt
  split at h <;> first | (cases h; done) | skip
  rename_i c el fr hh
  cases h
  exact⟨c,rfl,hlt,el,fr,hh⟩
theorem RM.WR {base:Base} {w:World} {b:Nat} {c:Array Value} {el:TypeId} {fr:_} (hb:b<base.n) (h:w.heap[b]?=some (.cells c el fr)) : (RM.old base w).cells b=some (c.toList.map (qC base.n)):=by
 simp only[RM.cells,RM.old,if_pos hb,h]
def Cn (lo:Nat) : Value→AV
 | .agg cs=>.agg (cs.toList.map (qC lo))
 | v=>qC lo v
theorem O9 {ρ:Ren} {lo:Nat} (h:∀ c,c<lo→ρ c=some ⟨c,0,0,0⟩) : ∀ (vs:List Value),bD ρ (vs.map (qC lo)) vs
 | []=>.nil
 | v :: vs=>.cons _ _ _ _ (IG h v) (O9 h vs)
theorem Zl {ρ:Ren} {lo:Nat} (h:∀ c,c<lo→ρ c=some ⟨c,0,0,0⟩) (v:Value) : az ρ (Cn lo v) v:=by
 unfold Cn
 split
 ·exact .agg _ _ (O9 h _)
 ·exact IG h v
theorem Nk {ρ:Ren} {lo:Nat} (h:∀ c,c<lo→ρ c=some ⟨c,0,0,0⟩) : ∀ (vs:List Value),bD ρ (vs.map (Cn lo)) vs
 | []=>.nil
 | v :: vs=>.cons _ _ _ _ (Zl h v) (Nk h vs)
theorem gK.close {P:Program} {f:FuncId} {base:Base} {w:World} {us:Array Value} (hn:base.n=w.heap.size) (hi:base.inv w)
  (h:gK P f (us.toList.map (Cn base.n)) (RM.old base w) fun v _=>v=Bo true) :
  Calls P f us w fun e w'=>e=.returned (.bool true)∧Below w.heap.size w w':=by
 have hr:=YZ (P:=P) hn hi
 refine((h.2 (OT base.n) w us.toList (Nk (fun c hc=>by simp only[OT]; rw[if_pos hc]) _) hr)).mono fun e w' hR=>?_
 obtain⟨v',v,M',ρ',rfl,k1,k2,rfl⟩:=hR
 obtain⟨rfl,_⟩:=aZ k2
 refine⟨rfl,k1.step.os,k1.step.tape,k1.step.output,k1.step.size,fun k hk=>k1.step.low k ?_⟩
 show k<base.n
 rw[hn]; exact hk
def Pn:Option TypeDesc→Bool
 | some .bool | some (.int _) | some .string | some (.slice _) | some (.struct _) | some (.array _ _)=>false
 | _=>true
inductive Fits (P:Program) (M:RM) : TypeId→List AV→Prop
 | bool (t:TypeId) (b:Bool) : P.underlying t=some .bool→Fits P M t [Bo b]
 | int (t:TypeId) (k:IntKind) (n:Int) : P.underlying t=some (.int k)→k.min≤n→n≤k.max→Fits P M t [N k n]
 | str (t:TypeId) (s:List UInt8) : P.underlying t=some .string→s.length≤reachBytes→Fits P M t [St s]
 | abP (t e:TypeId) : P.underlying t=some (.slice e)→Fits P M t [aJ]
 | emp (t e:TypeId) (b:Nat) : P.underlying t=some (.slice e)→Fits P M t [.emp b]
 | slc (t e:TypeId) (b o n c:Nat) (cs:List AV) : P.underlying t=some (.slice e)→b<M.next→n≤c→c * P.bytesOf e≤reachBytes→M.loads b o (n * P.cellsOf e)=some cs →
   (∀ i,i<n→Fits P M e ((cs.drop (i * P.cellsOf e)).take (P.cellsOf e)))→Fits P M t [.slc b o n (.ex c)]
 | struct (t:TypeId) (fs:Array Field) (cs:List AV) : P.underlying t=some (.struct fs)→cs.length=P.cellsOf t →
   (∀ (i:Nat) (f:Field),fs[i]?=some f→Fits P M f.type ((cs.drop f.offset).take (P.cellsOf f.type)))→Fits P M t cs
 | array (t e:TypeId) (n:Nat) (cs:List AV) : P.underlying t=some (.array n e)→cs.length=P.cellsOf t →
   (∀ i,i<n→Fits P M e ((cs.drop (i * P.cellsOf e)).take (P.cellsOf e)))→Fits P M t cs
 | other (t:TypeId) (cs:List AV) : Pn (P.underlying t)=true→Fits P M t cs
 | zero (t e:TypeId) (cs:List AV) : P.underlying t=some (.slice e)→P.cellsOf e=0→Fits P M t cs
theorem DU (a:Addr) : a.add 0=a:=by simp[Addr.add]
theorem vQ {w:World} {base:Nat} {a:Addr} {n:Nat} {cs:List Value} (h:w.cells? base a n=some cs) : cs.length=n∧∀ i,i<n→w.cell? (a.add i)=cs[i]?:=by
 unfold World.cells? at h
 split at h
 ·exact⟨by simpa using mapM_some_length h,fun i hi=>mapM_some_get h i i (by simp[hi])⟩
 ·cases h
theorem cell?_at {w:World} {a:Addr} {v:Value} (h:w.cell? a=some v) : ∃ c el fr,w.heap[a.block]?=some (.cells c el fr)∧a.spot=none∧a.off<c.size∧c[a.off]?=some v:=by
 unfold World.cell? at h
 split at h
 ·rename_i c el fr hh
  split at h
  ·cases h
  ·rename_i hs
   exact⟨c,el,fr,hh,by simpa using hs,(Array.getElem?_eq_some_iff.1 h).1,h⟩
 ·cases h
section
variable {H:Type} {enc:TypeId × Value→H} {P:Program} {base:Base} {w:World}
theorem tq {e:TypeId} {ds:List (DataW H)} {d:DataW H} (hd:d∈ds) {x:Nat} (hx:x∈d.weights P e) : x∈DataW.weightsAll P e ds:=by
 induction ds with
 | nil=>cases hd
 | cons y ys ih =>
   simp only[DataW.weightsAll,List.mem_append]
   rcases List.mem_cons.1 hd with rfl | hd
   ·exact .inl hx
   ·exact .inr (ih hd)
theorem zC {x:Nat} : ∀ (ts:List TypeId) (ds:List (DataW H)) (i:Nat) (t:TypeId) (d:DataW H),ts[i]?=some t→ds[i]?=some d→x∈d.weights P t→x∈DataW.weightsEach P ts ds
 | [],_,_,_,_,h,_,_=>by simp at h
 | _ :: _,[],_,_,_,_,h,_=>by simp at h
 | t :: ts,d :: ds,0,t',d',h,h',hx=>by
   simp at h h'; subst h h'
   simp only[DataW.weightsEach,List.mem_append]; exact .inl hx
 | t :: ts,d :: ds,i + 1,t',d',h,h',hx=>by
   simp only[DataW.weightsEach,List.mem_append]
   exact .inr (zC ts ds i t' d' (by simpa using h) (by simpa using h') hx)
theorem Qm (hn:base.n=w.heap.size) {held:Bool} : ∀ (fuel:Nat) (t:TypeId) (cs:List Value) (x:DataW H × List MemPlace),DataW.trod enc P w 0 (fun _=>true) held fuel t cs=some x →
  (∀ y∈x.1.weights P t,y≤reachBytes)→Fits P (RM.old base w) t (cs.map (qC base.n)):=by
 intro fuel
 induction fuel with
 | zero=>intro t cs x h; simp[DataW.trod] at h
 | succ m ih =>
   intro t cs x h hw
   cases hu:P.underlying t with
   | none=>exact .other _ _ (by rw[hu]; rfl)
   | some d =>
     cases d with
     | bool =>
       obtain⟨b,rfl,rfl⟩:=DataW.trod_bool hu h
       exact .bool t b hu
     | int k =>
       obtain⟨n,rfl,rfl,hwf⟩:=DataW.trod_int hu h
       simp only[Lit.wf,Bool.and_eq_true,decide_eq_true_eq] at hwf
       exact .int t k n hu hwf.1 hwf.2
     | string =>
       obtain⟨s,rfl,rfl,_⟩:=DataW.trod_string hu h
       exact .str t s.data.toList hu (hw _ (by simp[DataW.weights]))
     | slice e =>
       rcases DataW.trod_slice hu h with⟨rfl,rfl⟩ | ⟨a,len,cap,elems,rest,n,hm,rfl,rfl,_,hlc,_,hel,hget,hrest,_⟩
       ·exact .abP t e hu
       ·cases hm
        rcases Nat.eq_zero_or_pos (P.cellsOf e) with hz | hz
        ·exact .zero t e _ hu hz
        rcases Nat.eq_zero_or_pos cap with hc | hc
        ·have hl0:len=0:=by omega
         subst hc hl0
         exact .emp t e 0 hu
        ·obtain⟨hr1,hr2⟩:=hrest rfl
         have every:∀ i,i<cap→∃ es y,w.cells? 0 (a.add (i * P.cellsOf e)) (P.cellsOf e)=some es∧DataW.trod enc P w 0 (fun _=>true) held m e es=some y∧(y∈elems∨y∈rest):=by
          intro i hi
          by_cases hil:i<len
          ·have h1:=hget i hil
           have h2:elems[i]?=some (elems[i]'(by omega)):=by simp[hel,hil]
           rw[h2] at h1
           obtain⟨es,e1,e2⟩:=Option.bind_eq_some_iff.1 h1
           exact⟨es,_,e1,e2,.inl (List.getElem_mem _)⟩
          ·have h1:=hr2 (i - len) (by omega)
           rw[show len + (i - len)=i by omega] at h1
           have h2:rest[i - len]?=some (rest[i - len]'(by omega)):=by
            rw[List.getElem?_eq_getElem]
           rw[h2] at h1
           obtain⟨es,e1,e2⟩:=Option.bind_eq_some_iff.1 h1
           exact⟨es,_,e1,e2,.inr (List.getElem_mem _)⟩
         obtain⟨es0,_,k0,_,_⟩:=every 0 hc
         obtain⟨kl0,kg0⟩:=vQ k0
         have hc0:=kg0 0 hz
         rw[List.getElem?_eq_getElem (by omega)] at hc0
         obtain⟨c,el,fr,hh,hsp,_,_⟩:=cell?_at hc0
         obtain⟨b,o,sp⟩:=a
         rw[Nat.zero_mul,DU,DU] at hh hsp
         simp only at hh hsp
         subst hsp
         have hblt:b<base.n:=by rw[hn]; exact(Array.getElem?_eq_some_iff.1 hh).1
         have hlast:o + cap * P.cellsOf e≤c.size:=by
          obtain⟨es1,_,k1,_,_⟩:=every (cap - 1) (by omega)
          obtain⟨kl1,kg1⟩:=vQ k1
          have hc1:=kg1 (P.cellsOf e - 1) (by omega)
          rw[List.getElem?_eq_getElem (by omega)] at hc1
          obtain⟨c',el',fr',hh',_,hlt,_⟩:=cell?_at hc1
          rw[gz,gz] at hh' hlt
          simp only at hh' hlt
          rw[hh] at hh'
          cases hh'
          have:cap * P.cellsOf e=(cap - 1) * P.cellsOf e + P.cellsOf e:=by
           rw[← Nat.succ_mul]; congr 1; omega
          omega
         have af5:qC base.n (.slice (some ⟨b,o,none⟩) len cap)=.slc b o len (.ex cap):=by
          obtain⟨cap,rfl⟩ : ∃ k,cap=k + 1:=⟨cap - 1,by omega⟩
          simp only[qC,if_pos hblt]
         have hcells:=RM.WR hblt hh
         have hle:len * P.cellsOf e≤cap * P.cellsOf e:=Nat.mul_le_mul_right _ hlc
         have hload:(RM.old base w).loads b o (len * P.cellsOf e)=some (((c.toList.map (qC base.n)).drop o).take (len * P.cellsOf e)):=by
          simp only[RM.loads,hcells]
          rw[if_pos (by simp; omega)]
         simp only[List.map_cons,List.map_nil,af5]
         refine .slc t e b o len cap _ hu hblt hlc ?_ hload fun i hi=>?_
         ·have:=hw ((elems.length + rest.length) * P.bytesOf e) (by simp[DataW.weights,hu])
          rwa [hel,hr1,show len + (cap - len)=cap by omega] at this
         ·obtain⟨es,y,k1,k2,k3⟩:=every i (by omega)
          have hlen:=(vQ k1).1
          have hes:((((c.toList.map (qC base.n)).drop o).take (len * P.cellsOf e)).drop (i * P.cellsOf e)).take (P.cellsOf e)=es.map (qC base.n):=by
           have hii:i * P.cellsOf e + P.cellsOf e≤len * P.cellsOf e:=by rw[← Nat.succ_mul]; exact Nat.mul_le_mul_right _ hi
           apply List.ext_getElem?
           intro j
           by_cases hj:j<P.cellsOf e
           ·have hg:=(vQ k1).2 j hj
            rw[List.getElem?_take,if_pos hj,List.getElem?_drop,List.getElem?_take,if_pos (by omega),List.getElem?_drop,List.getElem?_map,List.getElem?_map,← hg]
            rw[gz,gz]
            simp only[World.cell?,hh]
            rw[Array.getElem?_toList]
            simp[Nat.add_assoc]
           ·rw[List.getElem?_eq_none (by simp; omega),List.getElem?_eq_none (by simp; omega)]
          rw[hes]
          refine ih e es y k2 fun z hz=>hw z ?_
          simp only[DataW.weights,hu,List.mem_cons,List.mem_append]
          rcases k3 with k3 | k3
          ·exact .inr (.inl (tq (List.mem_map_of_mem k3) hz))
          ·exact .inr (.inr (tq (List.mem_map_of_mem k3) hz))
     | struct fs =>
       obtain⟨xs,n,hm,rfl,hl,hxl,hget⟩:=DataW.trod_struct hu h
       cases hm
       refine .struct t fs _ hu (by simpa using hl) fun i f hf=>?_
       have h1:=hget i f hf
       have hi:i<fs.size:=(Array.getElem?_eq_some_iff.1 hf).1
       rw[List.getElem?_eq_getElem (by omega)] at h1
       rw[← List.map_drop,← List.map_take]
       refine ih _ _ _ h1 fun z hz=>hw z ?_
       simp only[DataW.weights,hu]
       refine zC _ _ i f.type _ (by simp[hf]) (by rw[List.getElem?_map,List.getElem?_eq_getElem (by omega)]; rfl) hz
     | array n e =>
       obtain⟨xs,m',hm,rfl,hl,hxl,hget⟩:=DataW.trod_array hu h
       cases hm
       refine .array t e n _ hu (by simpa using hl) fun i hi=>?_
       have h1:=hget i hi
       rw[List.getElem?_eq_getElem (by omega)] at h1
       rw[← List.map_drop,← List.map_take]
       refine ih _ _ _ h1 fun z hz=>hw z ?_
       simp only[DataW.weights,hu]
       exact tq (List.mem_map_of_mem (List.getElem_mem _)) hz
     | _=>exact .other _ _ (by rw[hu]; rfl)
end
section
variable {P:Program} {M:RM} {t:TypeId} {cs:List AV}
theorem Fits.abl (h:Fits P M t cs) (hu:P.underlying t=some .string) : ∃ s,cs=[St s]∧s.length≤reachBytes:=by
 cases h with
 | str _ s h1 h2=>exact⟨s,rfl,h2⟩
 | _=>simp_all [Pn]
end
def Ew (P:Program) (t:TypeId) : Bool :=
 match P.underlying t with
 | some (.struct _) | some (.array _ _)=>true
 | _=>false
def uh (P:Program) (M:RM) (t:TypeId) (v:AV) : Prop :=
 match Ew P t with
 | true=>∃ cs,v=.agg cs∧Fits P M t cs
 | false=>Fits P M t [v]
theorem uh.agg {P:Program} {M:RM} {t:TypeId} {v:AV} (h:uh P M t v) (ha:Ew P t=true) : ∃ cs,v=.agg cs∧Fits P M t cs:=by
 unfold uh at h; rw[ha] at h; exact h
theorem uh.one {P:Program} {M:RM} {t:TypeId} {v:AV} (h:uh P M t v) (ha:Ew P t=false) : Fits P M t [v]:=by
 unfold uh at h; rw[ha] at h; exact h
section
variable {H:Type} {enc:TypeId × Value→H} {P:Program} {base:Base} {w:World}
theorem PY {r:Reach} {b:Nat} {t:TypeId} {cs:Array Value} (h:Cell.okWide P w r b t (.agg cs)) : False:=by
 unfold Cell.okWide at h
 split at h <;> first | (rename_i e _; cases e; done) | skip
 all_goals first | (rename_i e; cases e; done) | skip
 unfold Cell.ok at h
 split at h <;> first | exact h | simp_all
theorem Zr (hn:base.n=w.heap.size) {r:Reach} {b:Nat} {held:Bool} {t:TypeId} {v:Value} {d:DataW H} {ps:List MemPlace} (hv:Value.okWide P w r b t v) (h:DataW.Trod enc P w 0 (fun _=>true) held t v d ps)
  (hw:∀ y∈d.weights P t,y≤reachBytes) : uh P (RM.old base w) t (Cn base.n v):=by
 obtain⟨fuel,hf⟩:=h
 have hfit:=Qm hn fuel t _ _ hf hw
 unfold uh
 cases ha:Ew P t with
 | true =>
   have:∃ cs,v=.agg cs:=by
    unfold Value.okWide at hv
    unfold Ew at ha
    split at hv
    ·obtain⟨cs,h,_⟩:=hv; exact⟨cs,h⟩
    ·obtain⟨cs,h,_⟩:=hv; exact⟨cs,h⟩
    ·split at ha <;> simp_all
   obtain⟨cs,rfl⟩:=this
   exact⟨_,rfl,hfit⟩
 | false =>
   have hc:Cell.okWide P w r b t v:=by
    unfold Value.okWide at hv
    unfold Ew at ha
    split at hv
    ·simp_all
    ·simp_all
    ·exact hv
   have:v.cells.toList=[v]∧Cn base.n v=qC base.n v:=by
    cases v with
    | agg cs=>exact(PY hc).elim
    | _=>exact⟨rfl,rfl⟩
   rw[this.1] at hfit
   rw[this.2]
   exact hfit
theorem QV (hn:base.n=w.heap.size) {r:Reach} {b:Nat} {held:Bool} : ∀ {ts:List TypeId} {vs:List Value} {ds:List (DataW H)} {ps:List MemPlace},DataW.TrodAll enc P w 0 (fun _=>true) held ts vs ds ps →
  (∀ (j:Nat) t v,ts[j]?=some t→vs[j]?=some v→Value.okWide P w r b t v)→(∀ y∈DataW.weightsEach P ts ds,y≤reachBytes) →
  ∀ (j:Nat) t v,ts[j]?=some t→vs[j]?=some v→uh P (RM.old base w) t (Cn base.n v)
 | [],_,_,_,_,_,_,j,t,v,h,_=>by simp at h
 | t0 :: ts,vs,ds,ps,h,hv,hw,j,t,v,hj,hvj=>by
   cases vs with
   | nil=>simp at hvj
   | cons v0 vs =>
   cases ds with
   | nil=>exact h.elim
   | cons d ds =>
   obtain⟨p,q,h1,h2,_⟩:=h
   cases j with
   | zero =>
     simp at hj hvj; subst hj hvj
     exact Zr hn (hv 0 _ _ rfl rfl) h1 fun y hy=>hw y (by simp[DataW.weightsEach,hy])
   | succ j =>
     exact QV hn h2 (fun j t v a b=>hv (j + 1) t v (by simpa using a) (by simpa using b)) (fun y hy=>hw y (by simp[DataW.weightsEach,hy])) j t v (by simpa using hj) (by simpa using hvj)
theorem DX (hl:laidOutB P=true) {W W' : World} {sp:Nat→Bool} (hb:Below W.heap.size W W') : ∀ {ts:List TypeId} {vs:List Value} {ds:List (DataW H)} {ps:List MemPlace},
  (∀ t∈ts,P.readableRec t=true∧t<P.types.size)→DataW.TrodAll enc P W 0 (fun _=>true) true ts vs ds ps→(∀ p∈ps,p.block<W.heap.size)→(∀ p∈ps,sp p.block=true)→DataW.TrodAll enc P W' 0 sp true ts vs ds ps
 | [],vs,ds,ps,_,h,_,_=>by
   cases vs <;> cases ds <;> first | exact h | exact h.elim
 | t :: ts,vs,ds,ps,hr,h,hlt,hsp=>by
   cases vs with
   | nil=>cases ds <;> exact h.elim
   | cons v vs =>
   cases ds with
   | nil=>exact h.elim
   | cons d ds =>
   obtain⟨p,q,h1,h2,rfl⟩:=h
   have hrt:=hr t (List.mem_cons_self ..)
   exact⟨p,q,WideElems.Trod_stays hl hrt.1 hrt.2 h1 (fun x hx=>hb.same (hlt x (List.mem_append_left _ hx))) (fun x hx=>hsp x (List.mem_append_left _ hx)),
    DX hl hb (fun t ht=>hr t (List.mem_cons_of_mem _ ht)) h2 (fun x hx=>hlt x (List.mem_append_right _ hx)) (fun x hx=>hsp x (List.mem_append_right _ hx)),rfl⟩
end
def RB.cells (lo:Nat) : RB→Option (List AV)
 | .row l _ _ _=>some l
 | .ro c=>some (c.toList.map (qC lo))
 | _=>none
@[go_sem] theorem RB.zI (lo:Nat) (l:List AV) (p:Bool) (e f:Nat) : RB.cells lo (.row l p e f)=some l:=rfl
theorem RM.IY (M:RM) (b:Nat) : M.cells b=(M.heap b).bind (RB.cells M.lo):=by
 unfold RM.cells RB.cells
 cases M.heap b with
 | none=>rfl
 | some x=>cases x <;> rfl
def xO (l:Option (List AV)) (o k:Nat) : Option (List AV) :=
 match l with
 | some l=>if o + k≤l.length then some ((l.drop o).take k) else none
 | none=>none
@[go_sem] theorem ads (l:List AV) (o k:Nat) : xO (some l) o k=if o + k≤l.length then some ((l.drop o).take k) else none:=rfl
theorem RM.IK (M:RM) (b o k:Nat) : M.loads b o k=xO (M.cells b) o k:=rfl
section
variable {M M' : RM}
@[go_sem] theorem RM.XP (x:RB) (c:Nat) : (M.push x).heap c=if c=M.next then some x else M.heap c:=rfl
@[go_sem] theorem RM.heap_put (b:Nat) (x:RB) (c:Nat) : (M.put b x).heap c=if c=b then some x else M.heap c:=rfl
@[go_sem] theorem RM.afn (b:Nat) (c:Nat) : (M.del b).heap c=if c=b then none else M.heap c:=rfl
@[go_sem] theorem RM.WU (x:RB) : (M.push x).base=M.base:=rfl
@[go_sem] theorem RM.Y0 (b:Nat) (x:RB) : (M.put b x).base=M.base:=rfl
@[go_sem] theorem RM.afm (b:Nat) : (M.del b).base=M.base:=rfl
theorem RM.Jn (x:RB) (c:Nat) : (M.push x).cells c=if c=M.next then x.cells M.lo else M.cells c:=by
 simp only[RM.IY,RM.XP]
 split <;> rfl
theorem RM.Nj (b:Nat) (x:RB) (c:Nat) : (M.put b x).cells c=if c=b then x.cells M.lo else M.cells c:=by
 simp only[RM.IY,RM.heap_put]
 split <;> rfl
@[go_sem] theorem RM.aew (x:RB) (c o:Nat) : (M.push x).cell c o=if c=M.next then(x.cells M.lo).bind (·[o]?) else M.cell c o:=by
 simp only[RM.cell,RM.Jn]
 split <;> rfl
@[go_sem] theorem RM.aeL (b:Nat) (x:RB) (c o:Nat) : (M.put b x).cell c o=if c=b then(x.cells M.lo).bind (·[o]?) else M.cell c o:=by
 simp only[RM.cell,RM.Nj]
 split <;> rfl
@[go_sem] theorem RM.adK (x:RB) (c o k:Nat) : (M.push x).loads c o k=if c=M.next then xO (x.cells M.lo) o k else M.loads c o k:=by
 simp only[RM.IK,RM.Jn]
 split <;> rfl
@[go_sem] theorem RM.aer (b:Nat) (x:RB) (c o k:Nat) : (M.put b x).loads c o k=if c=b then xO (x.cells M.lo) o k else M.loads c o k:=by
 simp only[RM.IK,RM.Nj]
 split <;> rfl
def pK (l:List AV) (fz o:Nat) (vs:List AV) : Option (List AV) :=
 if o + vs.length≤l.length∧fz≤o∧vs.all oneCell=true then some (l.take o++vs++l.drop (o + vs.length)) else none
theorem iX {l vs:List AV} {fz o:Nat} (h1:o + vs.length≤l.length) (h2:fz≤o) (h3:vs.all oneCell=true) : pK l fz o vs=some (l.take o++vs++l.drop (o + vs.length)):=if_pos ⟨h1,h2,h3⟩
@[go_sem] theorem NV {l vs:List AV} (h:vs.length=l.length) (h3:vs.all oneCell=true) : pK l 0 0 vs=some vs:=by
 rw[iX (by omega) (Nat.le_refl _) h3]
 simp[h]
theorem RM.zT {b o:Nat} {vs l:List AV} {p:Bool} {e f:Nat} (h:M.heap b=some (.row l p e f)) : M.stores b o vs=(pK l f o vs).map fun l'=>M.put b (.row l' p e f):=by
 simp only[RM.stores,h,pK]
 split <;> rfl
theorem RM.Yk {x y:RB} : (M.push x).put M.next y=M.push y:=by
 simp only[RM.put,RM.push]
 congr 1
 funext c
 split <;> rfl
theorem RM.PH {x y:RB} {b:Nat} (hb:b≠M.next) : (M.push x).put b y=(M.put b y).push x:=by
 simp only[RM.put,RM.push]
 congr 1
 funext c
 by_cases h1:c=b
 ·subst h1; simp[hb]
 ·simp[h1]
theorem RM.JN {l vs:List AV} {p:Bool} {e f o:Nat} : (M.push (.row l p e f)).stores M.next o vs=(pK l f o vs).map fun l'=>M.push (.row l' p e f):=by
 rw[RM.zT (RM.aV _)]
 congr 1
 funext l'
 exact RM.Yk
theorem RM.JU {M:RM} {b o:Nat} {vs:List AV} : M.stores b o vs=match M.heap b with
  | some (.row l p e f)=>(pK l f o vs).map fun l'=>M.put b (.row l' p e f)
  | _=>none:=by
 cases h:M.heap b with
 | none=>simp[RM.stores,h]
 | some x =>
   cases x with
   | row l p e f=>rw[RM.zT h]
   | _=>simp[RM.stores,h]
@[go_sem] theorem RM.JI {x:RB} {vs:List AV} {c o:Nat} (hc:c≠M.next) : (M.push x).stores c o vs=(M.stores c o vs).map (·.push x):=by
 rw[RM.JU,RM.JU,RM.Yv hc]
 split
 ·simp only[Option.map_map]
  congr 1
  funext l'
  exact RM.PH hc
 ·rfl
@[go_sem] theorem RM.adu {l vs:List AV} {p:Bool} {e f c o:Nat} : (M.push (.row l p e f)).stores c o vs =
  if c=M.next then(pK l f o vs).map fun l'=>M.push (.row l' p e f) else(M.stores c o vs).map (·.push (.row l p e f)):=by
 split
 ·rename_i h; subst h; exact RM.JN
 ·rename_i h; exact RM.JI h
@[go_sem] theorem RM.ZV {b o:Nat} {l vs:List AV} {p:Bool} {e f:Nat} : (M.put b (.row l p e f)).stores b o vs=(pK l f o vs).map fun l'=>M.put b (.row l' p e f):=by
 rw[RM.zT (RM.lU _ _)]
 congr 1
 funext l'
 simp only[RM.put]
 congr 1
 funext c
 split <;> rfl
@[go_sem] theorem agb {α:Type} (a:α) (K:α→Prop) : (∃ x,some a=some x∧K x)=K a:=by simp
@[go_sem] theorem adr {α β:Type} (f:α→β) (x:α) : (some x).map f=some (f x):=rfl
theorem RM.ql (b:Nat) (x:RB) : (M.put b x).next=M.next:=rfl
attribute [go_sem] Int.natCast_nonneg Int.toNat_natCast Nat.mul_one true_implies false_implies Bool.false_eq_true Bool.true_eq_false Bool.not_true Bool.not_false Bool.and_self Bool.and_true Bool.true_and Nat.le_refl List.append_nil List.nil_append if_true if_false Nat.lt_irrefl Nat.add_one_ne_zero true_and and_true Nat.zero_add Nat.add_zero List.drop_zero List.getElem?_cons_zero List.getElem?_cons_succ Option.bind_some List.take_succ_cons List.take_zero List.drop_succ_cons List.drop_nil List.take_nil
attribute [go_sem] jU List.all_cons List.all_nil List.length_cons List.length_nil
@[go_sem] theorem aev (cs:List AV) : (AV.agg cs).cells=cs:=rfl
@[go_sem] theorem afP (v:Value) : (AV.sc v).cells=[.sc v]:=rfl
@[go_sem] theorem aeu (b o:Nat) : (AV.ptr b o).cells=[.ptr b o]:=rfl
@[go_sem] theorem aey (b o n:Nat) (c:Cap) : (AV.slc b o n c).cells=[.slc b o n c]:=rfl
@[go_sem] theorem aen (b:Nat) : (AV.emp b).cells=[.emp b]:=rfl
@[go_sem] theorem aeg (b:Nat) : (AV.map b).cells=[.map b]:=rfl
@[go_sem] theorem afI (f:Fn) (xs ys:List AV) : (AV.fn f xs ys).cells=[.fn f xs ys]:=rfl
@[go_sem] theorem eu (v:Value) : oneCell (.sc v)=true:=rfl
@[go_sem] theorem af9 (b o:Nat) : oneCell (.ptr b o)=true:=rfl
@[go_sem] theorem aga (b o n:Nat) (c:Cap) : oneCell (.slc b o n c)=true:=rfl
@[go_sem] theorem agd (b:Nat) : oneCell (.emp b)=true:=rfl
@[go_sem] theorem agc (b:Nat) : oneCell (.map b)=true:=rfl
@[go_sem] theorem agm (f:Fn) (xs ys:List AV) : oneCell (.fn f xs ys)=true:=rfl
end
theorem RM.Zw {M:RM} {b:Nat} {l:List AV} {p:Bool} {e f:Nat} (h:M.heap b=some (.row l p e f)) (o k:Nat) : M.loads b o k=xO (some l) o k:=by rw[RM.IK,RM.zI h]
theorem RM.cell_of {M:RM} {b:Nat} {l:List AV} {p:Bool} {e f:Nat} (h:M.heap b=some (.row l p e f)) (o:Nat) : M.cell b o=l[o]?:=RM.Zh h
theorem RM.lI {M:RM} {b:Nat} {l:List AV} {p:Bool} {e f:Nat} (h:M.heap b=some (.row l p e f)) (o:Nat) (vs:List AV) : M.stores b o vs=(pK l f o vs).map fun l'=>M.put b (.row l' p e f):=RM.zT h
theorem ag.ay {bs:List Nat} {M M' : RM} (h:ag bs M M') {b:Nat} {x:RB} (hh:M.heap b=some x) (hlt:b<M.next) (hb:b ∉ bs) : M'.heap b=some x:=by rw[h.heap b hlt hb,hh]
inductive Ans where
 | val (v:AV)
 | rows (n:Nat) (v:AV) (bs:List (Nat × jQ)) (n' : Nat)
structure Ent where
 args:List AV
 fp:List (Nat × jQ):=[]
 dead:List Nat:=[]
 nx:Nat:=0
 ans:Ans
def Xh:Tree jQ→List (Nat × jQ)→Tree jQ
 | t,[]=>t
 | t,(b,x) :: r=>Xh (t.set b x) r
def V5:Tree jQ→List Nat→Tree jQ
 | t,[]=>t
 | t,b :: r=>V5 (t.del b) r
def Sk (A:AW) : List (Nat × jQ)→Bool
 | []=>true
 | (b,x) :: r=>match A.heap.get b with
   | some y=>adP x y && Sk A r
   | none=>false
def aeU (A:AW) (e:Ent) : Option (AV × AW) :=
 match Sk A e.fp with
 | false=>none
 | true=>match e.ans with
   | .val v=>some (v,A)
   | .rows n v bs n'=>match Nat.beq n A.next with
     | true=>some (v,{ next:=n',heap:=Xh (V5 A.heap e.dead) bs })
     | false=>none
abbrev Table:=List (Nat × List Ent)
def inK:List Nat→Nat→Bool
 | [],_=>false
 | k :: ks,b=>match Nat.beq k b with
   | true=>true
   | false=>inK ks b
mutual
def within (ks:List Nat) : AV→Bool
 | .sc _ | .top | .atl _=>true
 | .ptr b _ | .slc b _ _ _ | .emp b | .map b=>inK ks b
 | .fn _ xs ys=>Gh ks xs && Gh ks ys
 | .ifc _ x=>within ks x
 | .agg xs | .tup xs=>Gh ks xs
def Gh (ks:List Nat) : List AV→Bool
 | []=>true
 | x :: xs=>within ks x && Gh ks xs
end
section
variable {P:Program} {X:Ext}
def ad7 (P:Program) (I:World→Prop) (f:Nat) (e:Ent) : Prop :=
 ∀ (base:Base),(∀ w,base.inv w→I w)→∀ A v A',aeU A e=some (v,A')→∀ (ρ:Ren) (w:World) (us:List Value),bD ρ e.args us→eD P base ρ A w→base≤w.heap.size →
   Calls P f ⟨us⟩ w fun r w'=>∃ ρ' v',r=.returned v'∧Step base A.next ρ w ρ' w'∧eD P base ρ' A' w'∧A.next≤A'.next∧az ρ' v v'
def aac (P:Program) (I:World→Prop) (T:Table) : Prop:=∀ g∈T,∀ e∈g.2,ad7 P I g.1 e
theorem eD.none {P:Program} {base:Base} {n:Nat} {w:World} (hi:base.inv w) : eD P base (fun _=>none) { next:=n,heap:=.leaf } w :=
 ⟨fun _ _ h=>(by cases h),fun _ _ _ h=>(by cases h),fun _ _ _ _ _ _ h=>(by cases h),fun _ _ h=>(by simp[Tree.get] at h),fun _ _ _ h=>(by cases h),hi⟩
def only(ρ:Ren) (ks:List Nat) : Ren:=fun b=>if b∈ks then ρ b else none
theorem aac.nil {I:World→Prop} : aac P I []:=fun g hg=>by cases hg
open Go.WideShapes Go.ChangeShapes in
open Go.WideShapes Go.ChangeShapes in
end
structure Enc (α:Type) where
 size:Nat
 cells:α→List AV
 len:∀ a,(cells a).length=size
 one:∀ a,(cells a).all oneCell=true
section
variable {α:Type} (E:Enc α)
def Enc.row (xs:List α) : List AV:=xs.flatMap E.cells
theorem Enc.jN (x:α) (xs:List α) : E.row (x :: xs)=E.cells x++E.row xs:=rfl
theorem Enc.rT (xs ys:List α) : E.row (xs++ys)=E.row xs++E.row ys:=by simp[Enc.row]
theorem Enc.row_one (x:α) : E.row [x]=E.cells x:=by simp[Enc.row]
theorem Enc.ic:∀ (xs:List α),(E.row xs).length=xs.length * E.size
 | []=>by simp[Enc.row]
 | x :: xs=>by rw[Enc.jN,List.length_append,E.len,Enc.ic xs,List.length_cons,Nat.succ_mul,Nat.add_comm]
theorem Enc.fT:∀ (xs:List α),(E.row xs).all oneCell=true
 | []=>by simp[Enc.row]
 | x :: xs=>by rw[Enc.jN,List.all_append,E.one,Enc.fT xs]; rfl
theorem Enc.CU:∀ (xs:List α) (i:Nat),(E.row xs).drop (i * E.size)=E.row (xs.drop i)
 | [],i=>by simp[Enc.row]
 | x :: xs,0=>by simp
 | x :: xs,i + 1=>by
   rw[Enc.jN,Nat.succ_mul,Nat.add_comm,← List.drop_drop,List.drop_left' (E.len x),Enc.CU xs i]
   rfl
theorem Enc.Jl:∀ (xs:List α) (i:Nat),(E.row xs).take (i * E.size)=E.row (xs.take i)
 | [],i=>by simp[Enc.row]
 | x :: xs,0=>by simp[Enc.row]
 | x :: xs,i + 1=>by
   rw[Enc.jN,Nat.succ_mul,Nat.add_comm,List.take_append,List.take_of_length_le (by rw[E.len]; omega),E.len,Nat.add_sub_cancel_left,Enc.Jl xs i]
   rfl
theorem Enc.Bl {xs:List α} {i:Nat} (hi:i<xs.length) : ((E.row xs).drop (i * E.size)).take E.size=E.cells xs[i]:=by
 rw[Enc.CU,List.drop_eq_getElem_cons hi,Enc.jN]
 rw[List.take_append_of_le_length (by rw[E.len]; exact Nat.le_refl _),List.take_of_length_le (by rw[E.len]; exact Nat.le_refl _)]
abbrev Sl (M:RM) (v:AV) (xs:List α) : Prop:=dE M E.size v (E.row xs) xs.length
abbrev Ow (M:RM) (base el:Nat) (v:AV) (xs:List α) : Prop:=Own M base el E.size v (E.row xs) xs.length
variable {E} {M M' : RM} {v:AV} {xs:List α}
theorem Sl.elem (h:Sl E M v xs) {i:Nat} (hi:i<xs.length) : ∃ b o,b<M.next∧b∈aH v∧(∀ (kd:IntKind) (K:AV→Prop),aM v (N kd (i:Int)) E.size K=K (.ptr b o))∧M.loads b o E.size=some (E.cells xs[i]):=by
 obtain⟨b,o,cap,rfl,hb,hl⟩:=h.pos (by omega)
 have hsum:i * E.size + E.size≤xs.length * E.size:=by rw[← Nat.succ_mul]; exact Nat.mul_le_mul_right _ hi
 refine⟨b,o + i * E.size,hb,by simp[aH],fun kd K=>?_, ?_⟩
 ·rw[qK]
  simp only[Int.toNat_natCast]
  exact propext ⟨fun h=>h.2.2,fun h=>⟨by omega,by omega,h⟩⟩
 ·rw[zW hl (i * E.size) E.size hsum,E.Bl hi]
theorem Sl.at (h:Sl E M v xs) {i:Nat} (sz:Nat) (j:Int) (hi:i<xs.length) (hsz:E.size=sz:=by rfl) (hj:j=(i:Int):=by rfl) : ∃ b o,b<M.next∧b∈aH v∧(∀ (kd:IntKind) (K:AV→Prop),aM v (N kd j) sz K=K (.ptr b o))∧M.loads b o sz=some (E.cells xs[i]):=by
 subst hsz hj; exact h.elem hi
theorem dU {b o k:Nat} {cs:List AV} (h:M.loads b o k=some cs) {j:Nat} {x:AV} (hj:cs[j]?=some x) : M.cell b (o + j)=some x:=by
 have hlt:j<k:=by rw[← Nl h]; exact(List.getElem?_eq_some_iff.1 hj).1
 rw[Wv h j hlt,hj]
theorem tu {b o k:Nat} {cs:List AV} (h:M.loads b o k=some cs) {x:AV} (hj:cs[0]?=some x) : M.cell b o=some x:=dU h hj
theorem Ku {b o k:Nat} {cs:List AV} (h:M.loads b o k=some cs) (j m:Nat) (hm:j + m≤k) : M.loads b (o + j) m=some ((cs.drop j).take m):=zW h j m hm
theorem wO {base T bytes:Nat} {zs:List AV} {u:AV} {ys:List α} {K:ak} (ho:Ow E M base T v xs) (hb:base≤M.next) (hs:1≤E.size) (hu:Sl E M u ys)
  (hn:(xs.length + ys.length) * bytes≤140737488355328) (hn2:xs.length + ys.length≤140737488355328)
  (hK:∀ v' M',Ow E M' base T v' (xs++ys)→ag (aH v) M M'→M.next≤M'.next→(v'=v∨∀ b∈aH v',M.next≤b)→K v' M') :
  appW T E.size bytes zs false v u M K:=by
 refine wH ho hb hs (dE.kQ hu _) (E.ic ys) (E.fT ys) hn hn2 ?_
 intro v' M' h1 h2 h3 h4
 refine hK v' M' ?_ h2 h3 h4
 rw[← E.rT] at h1
 simpa [Ow] using h1
theorem Sl.new {T c:Nat} {p:Bool} (ys:List α) : Sl E (M.push (.row (E.row ys) p T 0)) (.slc M.next 0 ys.length (.ex c)) ys :=
 .slc _ _ _ _ _ (by simp[RM.push]) (by rw[RM.jE (RM.aV _) (by rw[E.ic]; omega),List.drop_zero,← E.ic,List.take_length])
theorem iY {base T bytes:Nat} {zs:List AV} {a:α} {K:ak} (ho:Ow E M base T v xs) (hb:base≤M.next) (hs:1≤E.size)
  (hn:(xs.length + 1) * bytes≤140737488355328) (hn2:xs.length + 1≤140737488355328)
  (hK:∀ v' M',Ow E M' base T v' (xs++[a])→ag (aH v) M M'→M.next≤M'.next→(v'=v∨∀ b∈aH v',M.next≤b)→K v' M') :
  appW T E.size bytes zs false v (.slc M.next 0 1 (.ex 1)) (M.push (.row (E.cells a) false T 0)) K:=by
 have hk:ag [] M (M.push (.row (E.cells a) false T 0)):=(ag.refl _ _).push _
 refine wO (ys:=[a]) (Own.keep ho hk (by simp)) (Nat.le_trans hb hk.next) hs (by rw[← E.row_one]; exact Sl.new [a]) hn hn2 ?_
 intro v' M' h1 h2 h3 h4
 exact hK v' M' h1 ((hk.mono (by simp)).trans h2) (Nat.le_trans hk.next h3) (h4.imp id fun h b hb=>Nat.le_trans hk.next (h b hb))
@[go_sem] theorem VI {T:Nat} {zs:List AV} {K:RB→(Nat→AV)→Prop} : bM T 0 zs [] K=K (.row [] false T 0) (fun b=>.slc b 0 0 (.ex 0)):=by
 apply propext; unfold bM
 constructor
 ·rintro⟨l,h,hk⟩; cases h; exact hk
 ·intro hk; exact⟨_,rfl,hk⟩
theorem gD {T size:Nat} {zs:List AV} {x:AV} {K:RB→(Nat→AV)→Prop} (h:x.cells.length=size) (h1:x.cells.all oneCell=true) (hz:zs.length=size) :
  bM T 1 zs [(0,size,x)] K=K (.row x.cells false T 0) (fun b=>.slc b 0 1 (.ex 1)):=by
 have:om (nH zs 1) [(0,size,x)]=some x.cells:=by
  simp only[om,nH,List.append_nil,h1,h,Nat.zero_add,hz,Nat.le_refl,and_self,if_true,List.take_zero,List.nil_append]
  rw[List.drop_of_length_le (by omega),List.append_nil]
 apply propext; unfold bM
 constructor
 ·rintro⟨l,h,hk⟩; rw[this] at h; cases h; exact hk
 ·intro hk; exact⟨_,this,hk⟩
theorem Ow.lit (E:Enc α) {T:Nat} (M:RM) : Ow E (M.push (.row [] false T 0)) M.next T (.slc M.next 0 0 (.ex 0)) []:=Own.lit M (Nat.le_refl _)
theorem eO {i:Nat} (h:i<9223372036854775807) : IntKind.wrap .i64 ((i:Int) + 1)=((i + 1:Nat) : Int):=by
 rw[bO (by omega) (by omega)]; rfl
end
@[go_sem] theorem JJ:eB [] [] []=some true:=rfl
@[go_sem] theorem adM (ks:List Nat) (k:IntKind) (a b:Int) (xs ys:List AV) : eB (1 :: ks) (N k a :: xs) (N k b :: ys)=if a=b then eB ks xs ys else some false:=by
 simp only[eB,rG,if_true]
 by_cases h:a=b
 ·simp[h]
 ·have:(a == b)=false:=by simp[h]
  simp[this,h]
@[go_sem] theorem Dq (ks:List Nat) (a b:List UInt8) (xs ys:List AV) : eB (2 :: ks) (St a :: xs) (St b :: ys)=if a=b then eB ks xs ys else some false:=by
 simp only[eB,rG]
 by_cases h:a=b
 ·simp[h]
 ·have:(a == b)=false:=by simp[h]
  simp[this,h]
@[go_sem] theorem adt (ks:List Nat) (a b:Bool) (xs ys:List AV) : eB (3 :: ks) (Bo a :: xs) (Bo b :: ys)=if a=b then eB ks xs ys else some false:=by
 simp only[eB,rG]
 by_cases h:a=b
 ·simp[h]
 ·have:(a == b)=false:=by simp[h]
  simp[this,h]
theorem zG {neg:Bool} {ks:List Nat} {cs ds:List AV} {r:Bool} {K:AV→Prop} (h1:cs.length=ks.length) (h2:ds.length=ks.length) (h:eB ks cs ds=some r) : qc neg ks (.agg cs) (.agg ds) K=K (Bo (r != neg)):=by
 rw[VF]
 apply propext
 constructor
 ·rintro⟨_,_,r',h',hk⟩; rw[h] at h'; cases h'; exact hk
 ·intro hk; exact⟨h1,h2,r,h,hk⟩
theorem dN (x:AV) (w:Bool) (f g:ak→Prop) (F G:AV→RM→ak→Prop) (k:ak) :
  aa x w f g (fun v M=>aa x w (F v M) (G v M) k)=aa x w (fun k'=>f fun v M=>F v M k') (fun k'=>g fun v M=>G v M k') k:=by
 unfold aa nP
 split
 ·split <;> simp_all
 ·rfl
 ·rfl
theorem CV (x:AV) (w:Bool) (f g:KR→Prop) (F G:AV→RM→Option Nat→KR→Prop) (k:KR) :
  aK x w f g (fun v M b=>aK x w (F v M b) (G v M b) k)=aK x w (fun k'=>f fun v M b=>F v M b k') (fun k'=>g fun v M b=>G v M b k') k:=by
 unfold aK nP
 split
 ·split <;> simp_all
 ·rfl
 ·rfl
theorem aI {body:(List AV→RM→Prop)→List AV→RM→Prop} {xs:List AV} {M:RM} (I:Nat→List AV→RM→Prop) (n:Nat) (h0:I n xs M)
  (hb:∀ (next:List AV→RM→Prop) m ys M',(∀ m' zs M'',m'<m→I m' zs M''→next zs M'')→I m ys M'→body next ys M') : bf body xs M :=
 ⟨I,n,h0,fun m ys M' hI=>hb _ m ys M' (fun m' zs M'' hlt h=>⟨m',hlt,h⟩) hI⟩
abbrev By (b:UInt8) : AV:=N .u8 (b.toNat:Int)
def BY:Enc UInt8:=⟨1,fun b=>[By b],fun _=>rfl,fun _=>rfl⟩
theorem nO (s:List UInt8) : BY.row s=s.map By:=by
 induction s with
 | nil=>rfl
 | cons b s ih=>rw[Enc.jN,ih]; rfl
def gH:Enc (List UInt8):=⟨1,fun s=>[St s],fun _=>rfl,fun _=>rfl⟩
def INT:Enc Int:=⟨1,fun n=>[N .i64 n],fun _=>rfl,fun _=>rfl⟩
def iW:Enc Nat:=⟨1,fun n=>[N .u64 (n:Int)],fun _=>rfl,fun _=>rfl⟩
theorem Bi (s:List Nat) : iW.row s=s.map (fun(s:Nat)=>N .u64 (s:Int)):=by
 induction s with
 | nil=>rfl
 | cons b s ih=>rw[Enc.jN,ih]; rfl
theorem Dh:∀ (s:List UInt8),eT byteOf (s.map By)=some s
 | []=>rfl
 | b :: s=>by
   simp only[List.map_cons,eT,byteOf,Dh s]
   simp
section
variable {α:Type} {E:Enc α} {M M' : RM} {v:AV} {xs:List α}
theorem Sl.str {s:List UInt8} (h:Sl BY M v s) {K:AV→Prop} : oF M v K=K (St s) :=
 Rh (dE.CR h (by rw[nO]; exact Dh s))
theorem Sl.Hl (h:Sl E M v xs) {i:Nat} (j:Int) (hi:i<xs.length) (hsz:E.size=1:=by rfl) (hj:j=(i:Int):=by rfl) :
  ∃ b o,b<M.next∧b∈aH v∧(∀ (kd:IntKind) (K:AV→Prop),aM v (N kd j) 1 K=K (.ptr b o))∧∀ x,E.cells xs[i]=[x]→M.cell b o=some x:=by
 obtain⟨b,o,h1,h2,h3,h4⟩:=Sl.at h 1 j hi hsz hj
 exact⟨b,o,h1,h2,h3,fun x hx=>tu h4 (by rw[hx]; rfl)⟩
structure Rw (E:Enc α) (M:RM) (b:Nat) (opn:Bool) (el:Nat) (xs:List α) : Prop where
 heap:M.heap b=some (.row (E.row xs) opn el 0)
 lt:b<M.next
theorem Rw.sl {b el:Nat} {p:Bool} {cap:Cap} (h:Rw E M b p el xs) : Sl E M (.slc b 0 xs.length cap) xs:=by
 refine .slc _ _ _ _ _ h.lt ?_
 rw[RM.jE h.heap (by rw[E.ic]; omega),List.drop_zero,← E.ic,List.take_length]
theorem Rw.keep {b el:Nat} {p:Bool} {bs:List Nat} (h:Rw E M b p el xs) (hk:ag bs M M') (hb:b ∉ bs) : Rw E M' b p el xs :=
 ⟨hk.ay h.heap h.lt hb,Nat.lt_of_lt_of_le h.lt hk.next⟩
theorem Rw.new {el:Nat} {p:Bool} (M:RM) (xs:List α) : Rw E (M.push (.row (E.row xs) p el 0)) M.next p el xs :=
 ⟨RM.aV _,by simp[RM.push]⟩
theorem Rw.load {b el:Nat} {p:Bool} (h:Rw E M b p el xs) {i:Nat} (hi:i<xs.length) : M.loads b (i * E.size) E.size=some (E.cells xs[i]):=by
 have hsum:i * E.size + E.size≤xs.length * E.size:=by rw[← Nat.succ_mul]; exact Nat.mul_le_mul_right _ hi
 rw[RM.jE h.heap (by rw[E.ic]; exact hsum),E.Bl hi]
theorem Enc.aa6 (E:Enc α) {xs:List α} {i:Nat} (hi:i<xs.length) (x:α) : E.row (xs.set i x)=(E.row xs).take (i * E.size)++E.cells x++(E.row xs).drop (i * E.size + E.size):=by
 rw[E.Jl,← Nat.succ_mul,E.CU,List.set_eq_take_append_cons_drop,if_pos hi,E.rT,E.jN,List.append_assoc]
theorem Rw.store {b el:Nat} {p:Bool} (h:Rw E M b p el xs) {i:Nat} (hi:i<xs.length) (x:α) :
  M.stores b (i * E.size) (E.cells x)=some (M.put b (.row (E.row (xs.set i x)) p el 0))∧Rw E (M.put b (.row (E.row (xs.set i x)) p el 0)) b p el (xs.set i x):=by
 have hsum:i * E.size + E.size≤xs.length * E.size:=by rw[← Nat.succ_mul]; exact Nat.mul_le_mul_right _ hi
 refine⟨?_,RM.lU _ _,h.lt⟩
 rw[RM.TG h.heap (by rw[E.len,E.ic]; exact hsum) (Nat.zero_le _) (E.one x),E.aa6 hi,E.len]
theorem Rw.ah {b el:Nat} {p:Bool} (h:Rw E M b p el xs) {i:Nat} (hi:i<xs.length) (hsz:E.size=1:=by rfl) {x:AV} (hx:E.cells xs[i]=[x]:=by rfl) : M.cell b i=some x:=by
 have:=h.load hi
 rw[hsz,Nat.mul_one] at this
 exact tu this (by rw[hx]; rfl)
theorem Rw.Jw {b el:Nat} {p:Bool} (h:Rw E M b p el xs) {i:Nat} (hi:i<xs.length) (x:α) (hsz:E.size=1:=by rfl) {u:AV} (hx:E.cells x=[u]:=by rfl) :
  M.stores b i [u]=some (M.put b (.row (E.row (xs.set i x)) p el 0))∧Rw E (M.put b (.row (E.row (xs.set i x)) p el 0)) b p el (xs.set i x):=by
 have:=h.store hi x
 rw[hsz,Nat.mul_one,hx] at this
 exact this
end
@[go_sem] theorem qV (el:Nat) (s:List UInt8) (K:RB→(Nat→AV)→Prop) : rR el (St s) K=K (.row (BY.row s) true el 0) (fun b=>.slc b 0 s.length (.op 1)):=by
 rw[nO]
 apply propext; unfold rR
 constructor
 ·rintro⟨s',h,hk⟩; cases h; exact hk
 ·intro hk; exact⟨s,rfl,hk⟩
def dz (b:UInt8) : UInt8:=if 65≤b.toNat∧b.toNat≤90 then b + 32 else b
def low (s:List UInt8) : List UInt8:=s.map dz
theorem ug (b:UInt8) : b.toNat<256:=b.toNat_lt
structure ig (n:Nat) (bs:List Nat) (M M' : RM) : Prop where
 base:M'.base=M.base
 next:M.next≤M'.next
 heap:∀ c,c<n→c ∉ bs→M'.heap c=M.heap c
theorem ig.refl (n:Nat) (bs:List Nat) (M:RM) : ig n bs M M:=⟨rfl,Nat.le_refl _,fun _ _ _=>rfl⟩
theorem ig.trans {n:Nat} {bs:List Nat} {M M1 M2:RM} (h:ig n bs M M1) (k:ig n bs M1 M2) : ig n bs M M2 :=
 ⟨k.base.trans h.base,Nat.le_trans h.next k.next,fun c h1 h2=>(k.heap c h1 h2).trans (h.heap c h1 h2)⟩
theorem ag.LQ {bs cs:List Nat} {n:Nat} {M0 M M' : RM} (h:ag bs M0 M) (k:ig n cs M M') (hn:M0.next≤n) (hc:∀ c∈cs,M0.next≤c∨c∈bs) : ag bs M0 M' :=
 ⟨k.base.trans h.base,Nat.le_trans h.next k.next,fun c h1 h2=>by
  rw[k.heap c (Nat.lt_of_lt_of_le h1 hn) (fun hm=>by rcases hc c hm with h3 | h3; omega; exact h2 h3),h.heap c h1 h2]⟩
theorem ig.ay {n:Nat} {bs:List Nat} {M M' : RM} (h:ig n bs M M') {b:Nat} {x:RB} (hh:M.heap b=some x) (hlt:b<n) (hb:b ∉ bs) : M'.heap b=some x:=by rw[h.heap b hlt hb,hh]
theorem Own.same {M M' : RM} {n el size n0:Nat} {v:AV} {cs:List AV} (h:Own M n0 el size v cs n) (hn:M'.next=M.next) (hb:∀ c∈aH v,M'.heap c=M.heap c) (hbase:M'.base=M.base) : Own M' n0 el size v cs n:=by
 cases h with
 | nil=>exact .nil
 | ex0 b o h1 h2 h3=>exact .ex0 b o h1 (by omega) (by simpa [RM.IY,hb b (by simp[aH]),RM.lo,hbase] using h3)
 | op b n cs h1 h2 h3 h4=>exact .op b n cs h1 (by omega) (by rw[hb b (by simp[aH]),h3]) h4
theorem Own.one {M:RM} {n el size n0:Nat} {v:AV} {cs:List AV} (h:Own M n0 el size v cs n) : oneCell v=true:=by
 cases h <;> rfl
theorem Own.cells {M:RM} {n el size n0:Nat} {v:AV} {cs:List AV} (h:Own M n0 el size v cs n) : v.cells=[v]:=by
 cases h <;> rfl
section
variable {P:Program} {ρ:Ren} {M:RM} {w w' : World}
theorem eD.below {base:Base} {A:AW} (h:eD P base ρ A w) (hb:Below w.heap.size w w') (hn:base.n≤w.heap.size) : eD P base ρ A w' where
 dom b i hbi:=⟨(h.dom b i hbi).1,Nat.lt_of_lt_of_le (h.dom b i hbi).2 hb.size⟩
 blk b i x hbi hx:=let ⟨o,ho,hr⟩:=h.blk b i x hbi hx; ⟨o,by rw[hb.block _ (h.dom b i hbi).2]; exact ho,hr⟩
 sep:=h.sep
 top:=h.top
 lo:=h.lo
 inv:=base.low w w' (fun c hc=>hb.block c (Nat.lt_of_lt_of_le hc hn)) h.inv
theorem Step.of_below {base n:Nat} (hb:Below w.heap.size w w') (hn:base≤w.heap.size) : Step base n ρ w ρ w' where
 os:=hb.os
 tape:=hb.tape
 output:=hb.output
 size:=hb.size
 frame c hc _:=hb.block c hc
 ext _ _:=rfl
 fresh b i h:=.inl ⟨b,i,h,rfl⟩
 low c hc:=hb.block c (Nat.lt_of_lt_of_le hc hn)
theorem After.below (h:dV P ρ M w) (hb:Below w.heap.size w w') : After P M ρ w M ρ w':=by
 obtain⟨A,hA⟩:=h
 refine kU hA (Step.of_below hb hA.size) (hA.rel.below hb hA.size) rfl hA.next (Nat.le_refl _) fun b x hx=>?_
 rcases hA.blk b x hx with h | ⟨c,rfl,_⟩
 ·exact .inl h
 ·exact .inr ⟨c,rfl,hx⟩
theorem dV.inv (h:dV P ρ M w) : M.base.inv w:=by
 obtain⟨A,hA⟩:=h
 exact hA.rel.inv
theorem gK.ny {f:FuncId} {args:List AV} {v:AV} {Q:ak} (hP:Tj P f)
  (h:∀ (ρ:Ren) (w:World) (us:List Value),bD ρ args us→dV P ρ M w→Calls P f ⟨us⟩ w fun e w'=>∃ v',e=.returned v'∧Below w.heap.size w w'∧az ρ v v') (hQ:Q v M) : gK P f args M Q:=by
 refine⟨hP,fun ρ w us hargs hw=>(h ρ w us hargs hw).mono fun e w' hR=>?_⟩
 obtain⟨v',rfl,hb,hv⟩:=hR
 exact⟨v',v,M,ρ,rfl,After.below hw hb,hv,hQ⟩
end
structure lG (α:Type) where
 size:Nat
 rel:RM→List AV→α→(Nat→Prop)→Prop
 len:∀ {M cs a S},rel M cs a S→cs.length=size
 one:∀ {M cs a S},rel M cs a S→cs.all oneCell=true
 mono:∀ {M cs a S S'},rel M cs a S→(∀ b,S b→S' b)→rel M cs a S'
 lt:∀ {M cs a S},rel M cs a S→rel M cs a (fun b=>S b∧b<M.next)
 keep:∀ {M M' cs a S bs},rel M cs a S→ag bs M M'→(∀ b∈bs,¬ S b)→rel M' cs a S
def Enc.kG {α:Type} (E:Enc α) : lG α where
 size:=E.size
 rel _ cs a _:=cs=E.cells a
 len h:=by subst h; exact E.len _
 one h:=by subst h; exact E.one _
 mono h _:=h
 lt h:=h
 keep h _ _:=h
inductive fw {α:Type} (R:lG α) (M:RM) (S:Nat→Prop) : List AV→List α→Prop
 | nil:fw R M S [] []
 | cons {cs ds:List AV} {a:α} {xs:List α} : R.rel M cs a S→fw R M S ds xs→fw R M S (cs++ds) (a :: xs)
section
variable {α:Type} {R:lG α} {M M' : RM} {S S' : Nat→Prop} {cs ds:List AV} {xs ys:List α} {a:α}
theorem fw.len (h:fw R M S cs xs) : cs.length=xs.length * R.size:=by
 induction h with
 | nil=>simp
 | cons h1 _ ih=>rw[List.length_append,R.len h1,ih,List.length_cons,Nat.succ_mul,Nat.add_comm]
theorem fw.one (h:fw R M S cs xs) : cs.all oneCell=true:=by
 induction h with
 | nil=>rfl
 | cons h1 _ ih=>rw[List.all_append,R.one h1,ih]; rfl
theorem fw.mono (h:fw R M S cs xs) (hs:∀ b,S b→S' b) : fw R M S' cs xs:=by
 induction h with
 | nil=>exact .nil
 | cons h1 _ ih=>exact .cons (R.mono h1 hs) ih
theorem fw.lt (h:fw R M S cs xs) : fw R M (fun b=>S b∧b<M.next) cs xs:=by
 induction h with
 | nil=>exact .nil
 | cons h1 _ ih=>exact .cons (R.lt h1) ih
theorem fw.keep {bs:List Nat} (h:fw R M S cs xs) (hk:ag bs M M') (hb:∀ b∈bs,¬ S b) : fw R M' S cs xs:=by
 induction h with
 | nil=>exact .nil
 | cons h1 _ ih=>exact .cons (R.keep h1 hk hb) ih
theorem fw.append (h:fw R M S cs xs) (k:fw R M S ds ys) : fw R M S (cs++ds) (xs++ys):=by
 induction h with
 | nil=>exact k
 | cons h1 _ ih=>rw[List.append_assoc]; exact .cons h1 ih
theorem fw.single (h:R.rel M cs a S) : fw R M S cs [a]:=by
 have:=fw.cons h .nil
 simpa using this
theorem fw.get (h:fw R M S cs xs) : ∀ {i:Nat} (hi:i<xs.length),R.rel M ((cs.drop (i * R.size)).take R.size) xs[i] S:=by
 induction h with
 | nil=>intro i hi; simp at hi
 | cons h1 h2 ih =>
   rename_i c1 d1 a1 x1
   intro i hi
   cases i with
   | zero =>
     rw[Nat.zero_mul,List.drop_zero,List.take_append_of_le_length (by rw[R.len h1]; exact Nat.le_refl _),List.take_of_length_le (by rw[R.len h1]; exact Nat.le_refl _)]
     exact h1
   | succ i =>
     rw[Nat.succ_mul,Nat.add_comm,← List.drop_drop,List.drop_left' (R.len h1)]
     exact ih (by simpa using hi)
theorem fw.take (h:fw R M S cs xs) : ∀ (k:Nat),fw R M S (cs.take (k * R.size)) (xs.take k):=by
 induction h with
 | nil=>intro k; simp; exact .nil
 | cons h1 h2 ih =>
   intro k
   cases k with
   | zero=>simp; exact .nil
   | succ k =>
     rw[Nat.succ_mul,Nat.add_comm,List.take_append,List.take_of_length_le (by rw[R.len h1]; omega),R.len h1,Nat.add_sub_cancel_left]
     exact .cons h1 (ih k)
theorem fw.drop (h:fw R M S cs xs) : ∀ (k:Nat),fw R M S (cs.drop (k * R.size)) (xs.drop k):=by
 induction h with
 | nil=>intro k; simp; exact .nil
 | cons h1 h2 ih =>
   intro k
   cases k with
   | zero=>simp; exact .cons h1 h2
   | succ k =>
     rw[Nat.succ_mul,Nat.add_comm,← List.drop_drop,List.drop_left' (R.len h1)]
     exact ih k
theorem fw.cells {E:Enc α} : ∀ {cs:List AV} {xs:List α},fw E.kG M S cs xs→cs=E.row xs
 | _,_,.nil=>rfl
 | _,_,.cons h1 h2=>by rw[Enc.jN,fw.cells h2]; rw[show _=_ from h1]
theorem fw.of_cells {E:Enc α} : ∀ (xs:List α),fw E.kG M S (E.row xs) xs
 | []=>.nil
 | x :: xs=>by rw[Enc.jN]; exact .cons rfl (fw.of_cells xs)
def cB (R:lG α) (M:RM) (v:AV) (xs:List α) (S:Nat→Prop) : Prop :=
 ∃ cs,dE M R.size v cs xs.length∧(∀ b∈aH v,S b)∧fw R M S cs xs
theorem dE.lt {size n:Nat} {v:AV} (h:dE M size v cs n) : ∀ b∈aH v,b<M.next:=by
 cases h with
 | nil=>intro b hb; simp[aH] at hb
 | emp=>intro b hb; simp[aH] at hb
 | slc b o n cap cs hb _=>intro c hc; simp[aH] at hc; omega
theorem dE.one {size n:Nat} {v:AV} (h:dE M size v cs n) : oneCell v=true:=by
 cases h <;> rfl
theorem dE.cells {size n:Nat} {v:AV} (h:dE M size v cs n) : v.cells=[v]:=by
 cases h <;> rfl
variable {v:AV}
theorem cB.mono (h:cB R M v xs S) (hs:∀ b,S b→S' b) : cB R M v xs S':=let ⟨cs,h1,h2,h3⟩:=h; ⟨cs,h1,fun b hb=>hs b (h2 b hb),h3.mono hs⟩
theorem cB.lt (h:cB R M v xs S) : cB R M v xs (fun b=>S b∧b<M.next):=let ⟨cs,h1,h2,h3⟩:=h; ⟨cs,h1,fun b hb=>⟨h2 b hb,h1.lt b hb⟩,h3.lt⟩
theorem cB.keep {bs:List Nat} (h:cB R M v xs S) (hk:ag bs M M') (hb:∀ b∈bs,¬ S b) : cB R M' v xs S :=
 let ⟨cs,h1,h2,h3⟩:=h; ⟨cs,h1.keep hk (fun b hv hbs=>hb b hbs (h2 b hv)),h2,h3.keep hk hb⟩
theorem cB.len (h:cB R M v xs S) {K:AV→Prop} : cK v K=K (N .i64 xs.length):=let ⟨cs,h1,_,_⟩:=h; h1.len
theorem cB.one (h:cB R M v xs S) : oneCell v=true:=let ⟨cs,h1,_,_⟩:=h; h1.one
theorem cB.cells (h:cB R M v xs S) : v.cells=[v]:=let ⟨cs,h1,_,_⟩:=h; h1.cells
theorem cB.nil:cB R M aJ [] S:=⟨[],.nil,by simp[aH],.nil⟩
theorem cB.sl {E:Enc α} (h:cB E.kG M v xs S) : Sl E M v xs:=by
 obtain⟨cs,h1,h2,h3⟩:=h
 rw[h3.cells] at h1
 exact h1
theorem cB.TH {E:Enc α} (h:Sl E M v xs) (hs:∀ b∈aH v,S b) : cB E.kG M v xs S:=⟨_,h,hs,fw.of_cells xs⟩
theorem cB.at (h:cB R M v xs S) {i:Nat} (sz:Nat) (j:Int) (hi:i<xs.length) (hsz:R.size=sz:=by rfl) (hj:j=(i:Int):=by rfl) :
  ∃ b o cs,b<M.next∧b∈aH v∧(∀ (kd:IntKind) (K:AV→Prop),aM v (N kd j) sz K=K (.ptr b o))∧M.loads b o sz=some cs∧R.rel M cs xs[i] S:=by
 subst hsz hj
 obtain⟨cs,h1,h2,h3⟩:=h
 obtain⟨b,o,cap,rfl,hb,hl⟩:=h1.pos (by omega)
 have hsum:i * R.size + R.size≤xs.length * R.size:=by rw[← Nat.succ_mul]; exact Nat.mul_le_mul_right _ hi
 refine⟨b,o + i * R.size,(cs.drop (i * R.size)).take R.size,hb,by simp[aH],fun kd K=>?_, ?_,h3.get hi⟩
 ·rw[qK]
  simp only[Int.toNat_natCast]
  exact propext ⟨fun h=>h.2.2,fun h=>⟨by omega,by omega,h⟩⟩
 ·rw[zW hl (i * R.size) R.size hsum]
def lG.slice (R:lG α) : lG (List α) where
 size:=1
 rel M cs xs S:=∃ v,cs=[v]∧cB R M v xs S
 len h:=by obtain⟨v,rfl,_⟩:=h; rfl
 one h:=by obtain⟨v,rfl,h⟩:=h; simp[h.one]
 mono h hs:=by obtain⟨v,rfl,h⟩:=h; exact⟨v,rfl,h.mono hs⟩
 lt h:=by obtain⟨v,rfl,h⟩:=h; exact⟨v,rfl,h.lt⟩
 keep h hk hb:=by obtain⟨v,rfl,h⟩:=h; exact⟨v,rfl,h.keep hk hb⟩
def eX (R:lG α) (M:RM) (base el:Nat) (v:AV) (xs:List α) (S:Nat→Prop) : Prop :=
 ∃ cs,Own M base el R.size v cs xs.length∧fw R M S cs xs
theorem eX.nil {base el:Nat} : eX R M base el aJ [] S:=⟨[],.nil,.nil⟩
theorem eX.mono {base el:Nat} (h:eX R M base el v xs S) (hs:∀ b,S b→S' b) : eX R M base el v xs S':=let ⟨cs,h1,h2⟩:=h; ⟨cs,h1,h2.mono hs⟩
theorem eX.lt {base el:Nat} (h:eX R M base el v xs S) : eX R M base el v xs (fun b=>S b∧b<M.next):=let ⟨cs,h1,h2⟩:=h; ⟨cs,h1,h2.lt⟩
theorem eX.keep {base el:Nat} {bs:List Nat} (h:eX R M base el v xs S) (hk:ag bs M M') (hb:∀ b∈bs,¬ S b) (hv:∀ b∈aH v,b ∉ bs) : eX R M' base el v xs S :=
 let ⟨cs,h1,h2⟩:=h; ⟨cs,h1.keep hk hv,h2.keep hk hb⟩
theorem eX.len {base el:Nat} (h:eX R M base el v xs S) {K:AV→Prop} : cK v K=K (N .i64 xs.length):=let ⟨cs,h1,_⟩:=h; h1.jX.len
theorem eX.blk {base el:Nat} (h:eX R M base el v xs S) : ∀ b∈aH v,base≤b∧b<M.next:=let ⟨cs,h1,_⟩:=h; h1.blk
theorem eX.zL {base el:Nat} (h:eX R M base el v xs S) (hs:∀ b,base≤b→b<M.next→S b) : cB R M v xs S :=
 let ⟨cs,h1,h2⟩:=h; ⟨cs,h1.jX,fun b hb=>hs b (h1.blk b hb).1 (h1.blk b hb).2,h2⟩
theorem eX.cells {base el:Nat} (h:eX R M base el v xs S) : v.cells=[v]:=let ⟨cs,h1,_⟩:=h; h1.cells
theorem eX.one {base el:Nat} (h:eX R M base el v xs S) : oneCell v=true:=let ⟨cs,h1,_⟩:=h; h1.one
theorem eX.app {base T bytes:Nat} {zs:List AV} {K:ak} (ho:eX R M base T v xs S) (ha:R.rel M cs a S) (hb:base≤M.next) (hs:1≤R.size)
  (hd:∀ b∈aH v,¬ S b) (hS:∀ b,S b→b<M.next)
  (hn:(xs.length + 1) * bytes≤140737488355328) (hn2:xs.length + 1≤140737488355328)
  (hK:∀ v' M',eX R M' base T v' (xs++[a]) S→ag (aH v) M M'→M.next≤M'.next→(v'=v∨∀ b∈aH v',M.next≤b)→(∀ b∈aH v',¬ S b)→K v' M') :
  appW T R.size bytes zs false v (.slc M.next 0 1 (.ex 1)) (M.push (.row cs false T 0)) K:=by
 obtain⟨ds,h1,h2⟩:=ho
 have hk:ag [] M (M.push (.row cs false T 0)):=(ag.refl _ _).push _
 have hl:=R.len ha
 have hnl:kQ (M.push (.row cs false T 0)) R.size zs false (.slc M.next 0 1 (.ex 1))=some (1,cs):=by
  simp only[kQ,Nat.one_mul]
  rw[RM.jE (RM.aV _) (by omega),List.drop_zero,← hl,List.take_length]
 refine wH (h1.keep hk (by simp)) (Nat.le_trans hb hk.next) hs hnl (by rw[hl,Nat.one_mul]) (R.one ha) hn hn2 ?_
 intro v' M' q1 q2 q3 q4
 have kk:ag (aH v) M M':=(hk.mono (by simp)).trans q2
 refine hK v' M' ⟨_,by simpa using q1, ?_⟩ kk (Nat.le_trans hk.next q3) (q4.imp id fun h b hb=>Nat.le_trans hk.next (h b hb)) ?_
 ·exact(h2.keep kk hd).append (fw.single (R.keep ha kk hd))
 ·rcases q4 with rfl | q4
  ·exact hd
  ·intro b hb hSb
   have:=q4 b hb
   have:=hS b hSb
   simp only[RM.push] at *
   omega
end
section
variable {M M' : RM} {b i n e f:Nat} {l:List AV} {p:Bool} {x:AV}
theorem aA {K:AV→Prop} (h:M.heap b=some (.row l p e f)) (hx:l[i]?=some x) : ah M (.ptr b i) K=K x:=by
 rw[bT,RM.cell_of h,hx]; simp
theorem aP {K:AV→Prop} (h:M.heap b=some (.row l p e f)) (hn:l.length=n) : aL M (.ptr b 0) n K=K (.agg l):=by
 rw[uF,RM.Zw h]
 have:xO (some l) 0 n=some l:=by simp[xO,← hn]
 rw[this]; simp
theorem zM {K:RM→Prop} (h:M.heap b=some (.row l p e 0)) (hi:i<l.length) (hc:x.cells=[x]) (h1:oneCell x=true) : aC M (.ptr b i) x 1 K=K (M.put b (.row (l.set i x) p e 0)):=by
 rw[vY,hc,RM.lI h,iX (by simp only[List.length_cons,List.length_nil]; omega) (Nat.zero_le _) (by simp[h1])]
 have:l.take i++[x]++l.drop (i + 1)=l.set i x:=by
  rw[List.set_eq_take_append_cons_drop,if_pos hi]; simp
 simp[this]
theorem bQ {K:RM→Prop} (l' : List AV) (h:M.heap b=some (.row l p e 0)) (hi:i<l.length) (hc:x.cells=[x]) (h1:oneCell x=true) (hl:l.set i x=l') : aC M (.ptr b i) x 1 K=K (M.put b (.row l' p e 0)):=by
 rw[zM h hi hc h1,hl]
theorem aT {K:AV→Prop} : aF (.ptr b 0) n K=K (.ptr b n):=by rw[dM,Nat.zero_add]
theorem bY {K:RM→Prop} (h:M.heap b=some (.row l p e 0)) (hn:x.cells.length=n) (hl:l.length=n) (h1:x.cells.all oneCell=true) : aC M (.ptr b 0) x n K=K (M.put b (.row x.cells p e 0)):=by
 rw[vY,RM.lI h,NV (by rw[hn,hl]) h1]
 simp[hn]
theorem bJ {c:Nat} {y z:RB} (h:M.heap b=some y) (hb:b≠c) : (M.put c z).heap b=some y:=by
 simp only[RM.put]; rw[if_neg hb]; exact h
theorem aB (y:RB) : (M.put b y).heap b=some y:=RM.lU _ _
theorem kT {y z:RB} (h:M.heap b=some y) (hb:b<M.next) : (M.push z).heap b=some y:=by
 simp only[RM.push]; rw[if_neg (by omega)]; exact h
theorem bZ (y:RB) : (M.push y).next=M.next + 1:=rfl
theorem iq (c:Nat) (y:RB) : (M.put c y).next=M.next:=rfl
theorem ag.new {bs:List Nat} (h:ag bs M M') {b:Nat} (y:RB) (hb:M.next≤b) : ag bs M (M'.put b y):=h.put y (.inl hb)
end
variable {M:RM}
theorem cO {a:AV} {l:List AV} {K:AV→Prop} : aS (.tup (a :: l)) 0 K=K a:=by rw[Jg]; simp
theorem df {a b:AV} {l:List AV} {K:AV→Prop} : aS (.tup (a :: b :: l)) 1 K=K b:=by rw[Jg]; simp
theorem iO {a b c:AV} {l:List AV} {K:AV→Prop} : aS (.tup (a :: b :: c :: l)) 2 K=K c:=by rw[Jg]; simp
theorem bC {p q:Prop} : aj (Bo true) p q=p:=by simp[Ck]
theorem bq {p q:Prop} : aj (Bo false) p q=q:=by simp[Ck]
theorem aN {b:Bool} {p q:Prop} (h1:b=true→p) (h2:b=false→q) : aj (Bo b) p q:=⟨h1,h2⟩
theorem bV {f g:ak→Prop} {k:ak} : aa (Bo true) true f g k=f k:=rfl
theorem cz {f g:ak→Prop} {k:ak} : aa (Bo false) false f g k=f k:=rfl
theorem bU {f g:ak→Prop} {k:ak} : aa (Bo true) false f g k=g k:=rfl
theorem dF {f g:ak→Prop} {k:ak} : aa (Bo false) true f g k=g k:=rfl
theorem oW {f g:KR→Prop} {k:KR} : aK (Bo true) true f g k=f k:=rfl
theorem EE {f g:KR→Prop} {k:KR} : aK (Bo false) false f g k=f k:=rfl
theorem Nr {f g:KR→Prop} {k:KR} : aK (Bo true) false f g k=g k:=rfl
theorem qM {f g:KR→Prop} {k:KR} : aK (Bo false) true f g k=g k:=rfl
theorem gP {w:Bool} {f g:ak→Prop} {k:ak} : aa .undef w f g k=g k:=rfl
theorem dh {a b:AV} {K:AV→Prop} : aD (Bo true) a b K=K a:=by rw[O6]; rfl
theorem dJ {a b:AV} {K:AV→Prop} : aD (Bo false) a b K=K b:=by rw[O6]; rfl
theorem dE.known {size:Nat} {v:AV} {cs:List AV} {n:Nat} (h:dE M size v cs n) : known v=true:=by
 cases h <;> rfl
theorem cB.known {α:Type} {R:lG α} {v:AV} {xs:List α} {S:Nat→Prop} (h:cB R M v xs S) : known v=true:=let ⟨_,h1,_,_⟩:=h; h1.known
theorem fU {t:TypeId} {cs:List AV} {K:RB→(Nat→AV)→Prop} (h1:cs.all oneCell=true) (h2:1≤cs.length) : jU t (.agg cs) K=K (.row cs false t 0) (fun b=>.ptr b 0):=by
 unfold jU
 exact propext ⟨fun h=>h.2.2,fun h=>⟨h1,h2,h⟩⟩
theorem acK {x y a b:AV} (h1:known x=true) (h2:x.cells=[x]) (h3:known y=true) (h4:y.cells=[y]) : mf [a,b] [(0,1,x),(1,1,y)]=some [x,y]:=by
 simp[mf,h1,h2,h3,h4]
def lG.pre {α β:Type} (E:Enc α) (R:lG β) : lG (α × β) where
 size:=E.size + R.size
 rel M cs a S:=∃ ds,cs=E.cells a.1++ds∧R.rel M ds a.2 S
 len h:=by obtain⟨ds,rfl,h⟩:=h; rw[List.length_append,E.len,R.len h]
 one h:=by obtain⟨ds,rfl,h⟩:=h; rw[List.all_append,E.one,R.one h]; rfl
 mono h hs:=by obtain⟨ds,rfl,h⟩:=h; exact⟨ds,rfl,R.mono h hs⟩
 lt h:=by obtain⟨ds,rfl,h⟩:=h; exact⟨ds,rfl,R.lt h⟩
 keep h hk hb:=by obtain⟨ds,rfl,h⟩:=h; exact⟨ds,rfl,R.keep h hk hb⟩
def lG.post {α β:Type} (R:lG α) (E:Enc β) : lG (α × β) where
 size:=R.size + E.size
 rel M cs a S:=∃ ds,cs=ds++E.cells a.2∧R.rel M ds a.1 S
 len h:=by obtain⟨ds,rfl,h⟩:=h; rw[List.length_append,E.len,R.len h]
 one h:=by obtain⟨ds,rfl,h⟩:=h; rw[List.all_append,E.one,R.one h]; rfl
 mono h hs:=by obtain⟨ds,rfl,h⟩:=h; exact⟨ds,rfl,R.mono h hs⟩
 lt h:=by obtain⟨ds,rfl,h⟩:=h; exact⟨ds,rfl,R.lt h⟩
 keep h hk hb:=by obtain⟨ds,rfl,h⟩:=h; exact⟨ds,rfl,R.keep h hk hb⟩
def lG.map {α β:Type} (R:lG α) (g:β→α) : lG β where
 size:=R.size
 rel M cs a S:=R.rel M cs (g a) S
 len h:=R.len h
 one h:=R.one h
 mono h hs:=R.mono h hs
 lt h:=R.lt h
 keep h hk hb:=R.keep h hk hb
end Go.Ab
namespace Go.Ab
open Go Go.RowKit Go.ChangeShapes
section
variable {H:Type} {enc:TypeId × Value→H} {P:Program} {w:World} {base:Nat} {spare:Nat→Bool} {held:Bool}
end
end Go.Ab
set_option maxRecDepth 10000
namespace Go.Ab
open Go Go.ChangeShapes
end Go.Ab
namespace Go.Ab
open Go Go.RowKit
section
variable {P:Program} {f:FuncId} {fn:Func} {w w' : World} {M:RM}
end
end Go.Ab
namespace Go.Ab.Sm
open Go Go.Ab
section
variable {i j:Nat} {K:AV→Prop}
theorem addN (h:i + j<4611686018427387904) : af .add (N .i64 (i:Int)) (N .i64 (j:Int)) K=K (N .i64 ((i + j:Nat) : Int)):=by
 rw[bE,bO (by omega) (by omega),Int.natCast_add]
theorem add1 (h:i<4611686018427387904) : af .add (N .i64 (i:Int)) (N .i64 1) K=K (N .i64 ((i + 1:Nat) : Int)):=by
 rw[bE,eO (by omega)]
theorem acR (h:j≤i) (hb:i<4611686018427387904) : af .sub (N .i64 (i:Int)) (N .i64 (j:Int)) K=K (N .i64 ((i - j:Nat) : Int)):=by
 rw[gB,bO (by omega) (by omega),show(i:Int) - (j:Int)=((i - j:Nat) : Int) by omega]
theorem gQ:af .lss (N .i64 (i:Int)) (N .i64 (j:Int)) K=K (Bo (decide (i<j))):=by rw[dO,show decide ((i:Int)<(j:Int))=decide (i<j) by simp]
theorem xQ:af .gtr (N .i64 (i:Int)) (N .i64 (j:Int)) K=K (Bo (decide (i > j))):=by rw[gV,show decide ((i:Int) > (j:Int))=decide (i > j) by simp]
theorem Lf:af .leq (N .i64 (i:Int)) (N .i64 (j:Int)) K=K (Bo (decide (i≤j))):=by rw[il,show decide ((i:Int)≤(j:Int))=decide (i≤j) by simp]
theorem acJ:af .eql (N .i64 (i:Int)) (N .i64 (j:Int)) K=K (Bo (decide (i=j))):=by
 rw[bH,show((i:Int) == (j:Int))=decide (i=j) by by_cases h:i=j <;> simp[h]; omega]
end
section
variable {M:RM} {c p:Bool} {f:ak→Prop} {P:RM→Prop} {G:AV→RM→Prop}
theorem qw (hf:c=true→∀ k:ak,k (Bo p) M→f k) (hG:G (Bo (c && p)) M) :
  aa (Bo c) true f (fun k=>k .undef M) (fun t M'=>aD (Bo c) t (Bo false) fun u=>G u M'):=by
 cases c with
 | false=>rw[dF]; dsimp only; rw[dJ]; exact hG
 | true=>rw[bV]; exact hf rfl _ (by rw[dh]; exact hG)
theorem jF (hf:c=false→∀ k:ak,k (Bo p) M→f k) (hG:G (Bo (c || p)) M) :
  aa (Bo c) false f (fun k=>k .undef M) (fun t M'=>aD (Bo c) (Bo true) t fun u=>G u M'):=by
 cases c with
 | true=>rw[bU]; dsimp only; rw[dh]; exact hG
 | false=>rw[cz]; exact hf rfl _ (by rw[dJ]; exact hG)
theorem Ol (h0:P M) (hf:c=true→∀ k:ak,(∀ M',P M'→k (Bo p) M')→f k) (hG:∀ M',P M'→G (Bo (c && p)) M') :
  aa (Bo c) true f (fun k=>k .undef M) (fun t M'=>aD (Bo c) t (Bo false) fun u=>G u M'):=by
 cases c with
 | false=>rw[dF]; dsimp only; rw[dJ]; exact hG M h0
 | true=>rw[bV]; exact hf rfl _ fun M' h=>by rw[dh]; exact hG M' h
theorem U8 (h0:P M) (hf:c=false→∀ k:ak,(∀ M',P M'→k (Bo p) M')→f k) (hG:∀ M',P M'→G (Bo (c || p)) M') :
  aa (Bo c) false f (fun k=>k .undef M) (fun t M'=>aD (Bo c) (Bo true) t fun u=>G u M'):=by
 cases c with
 | true=>rw[bU]; dsimp only; rw[dh]; exact hG M h0
 | false=>rw[cz]; exact hf rfl _ fun M' h=>by rw[dJ]; exact hG M' h
end
section
variable {M:RM} {c p:Bool} {f:KR→Prop} {G:AV→RM→Prop}
theorem adf (hf:c=false→∀ k:KR,k (Bo p) M none→f k) (hG:G (Bo (c || p)) M) :
  aK (Bo c) false f (fun k=>k .undef M none) (fun t M' b=>aD (Bo c) (Bo true) t fun u=>G u M'):=by
 cases c with
 | true=>rw[Nr]; dsimp only; rw[dh]; exact hG
 | false=>rw[EE]; exact hf rfl _ (by rw[Go.Ab.dJ]; exact hG)
end
theorem afQ {a:Int} {K:AV→Prop} : af .neq (N .i64 a) (N .i64 a) K=K (Bo false):=by rw[di,bne_self_eq_false]
theorem V7 {α:Type} {E:Enc α} {M:RM} {T:Nat} {v:AV} {xs:List α} (h:Ow E M 0 T v xs) (hi:0<xs.length) : ∃ b,v=.slc b 0 xs.length (.op E.size)∧b<M.next∧M.heap b=some (.row (E.row xs) true T 0):=by
 unfold Ow at h
 generalize xs.length=n at *
 generalize E.row xs=cs at *
 cases h with
 | nil=>omega
 | ex0 b o h1 h2 h3=>omega
 | op b n cs h1 h2 h3 h4=>exact⟨b,rfl,h2,h3⟩
theorem Yh {α:Type} {E:Enc α} (hs:E.size=1) {M:RM} {T:Nat} {v:AV} {xs:List α} (h:Ow E M 0 T v xs) {i:Nat} (hi:i<xs.length) : ∃ b,aH v=[b]∧b<M.next ∧
  (∀ (K:AV→Prop),aM v (N .i64 (i:Int)) 1 K=K (.ptr b i))∧(∀ x,E.cells xs[i]=[x]→∀ K:AV→Prop,ah M (.ptr b i) K=K x) ∧
  ∀ (a:α) (x:AV),E.cells a=[x]→x.cells=[x]→∃ M',Ow E M' 0 T v (xs.set i a)∧M'=M.put b (.row (E.row (xs.set i a)) true T 0)∧∀ K:RM→Prop,aC M (.ptr b i) x 1 K=K M':=by
 obtain⟨b,rfl,h2,h3⟩:=V7 h (by omega)
 rw[hs]
 have hlen:(E.row xs).length=xs.length:=by rw[E.ic,hs,Nat.mul_one]
 have hget:∀ x,E.cells xs[i]=[x]→(E.row xs)[i]?=some x:=by
  intro x hx
  have:=E.Bl hi
  rw[hs,Nat.mul_one,hx] at this
  have h2:=congrArg (fun l:List AV=>l[0]?) this
  simpa using h2
 have hset:∀ (a:α) (x:AV),E.cells a=[x]→(E.row xs).set i x=E.row (xs.set i a):=by
  intro a x hx
  apply List.ext_getElem?
  intro j
  have hl2:(E.row (xs.set i a)).length=xs.length:=by rw[E.ic,hs,Nat.mul_one,List.length_set]
  by_cases hj:j<xs.length
  ·have hj2:j<(xs.set i a).length:=by rw[List.length_set]; exact hj
   have e1:=E.Bl (xs:=xs.set i a) hj2
   rw[hs,Nat.mul_one] at e1
   have e2:=E.Bl (xs:=xs) hj
   rw[hs,Nat.mul_one] at e2
   have e1:=congrArg (fun l:List AV=>l[0]?) e1
   have e2:=congrArg (fun l:List AV=>l[0]?) e2
   simp only[List.getElem?_take,List.getElem?_drop,Nat.zero_lt_one,if_true,Nat.add_zero] at e1 e2
   rw[e1]
   by_cases hji:j=i
   ·subst hji
    rw[List.getElem?_set_self (by omega)]
    simp[hx]
   ·rw[List.getElem?_set_ne (fun e=>hji e.symm),e2]
    rw[List.getElem_set_ne (fun e=>hji e.symm)]
  ·rw[List.getElem?_eq_none (by rw[List.length_set]; omega),List.getElem?_eq_none (by omega)]
 refine⟨b,rfl,h2,fun K=>?_,fun x hx K=>aA h3 (hget x hx),fun a x hx hc=>?_⟩
 ·rw[qK]
  simp only[Int.toNat_natCast,Nat.mul_one,Nat.zero_add]
  exact propext ⟨fun h=>h.2.2,fun h=>⟨by omega,by omega,h⟩⟩
 ·have h1x:oneCell x=true:=by
   have:=E.one a
   rw[hx] at this
   simpa using this
  refine⟨_, ?_,rfl,fun K=>bQ (l':=E.row (xs.set i a)) h3 (by omega) hc h1x (hset a x hx)⟩
  have hl3:(xs.set i a).length=xs.length:=List.length_set
  show Own _ 0 T E.size (.slc b 0 xs.length (.op 1)) _ _
  rw[hs,hl3]
  exact .op b xs.length _ (Nat.zero_le _) h2 (aB _) (by rw[E.ic,hs,hl3])
end Go.Ab.Sm
namespace Go.Ab
open Go Go.RowKit
inductive lZ (B:Nat) (P:Program) (M:RM) : TypeId→List AV→Prop
 | bool (t:TypeId) (b:Bool) : P.underlying t=some .bool→lZ B P M t [Bo b]
 | int (t:TypeId) (k:IntKind) (n:Int) : P.underlying t=some (.int k)→k.min≤n→n≤k.max→lZ B P M t [N k n]
 | str (t:TypeId) (s:List UInt8) : P.underlying t=some .string→s.length≤B→lZ B P M t [St s]
 | abP (t e:TypeId) : P.underlying t=some (.slice e)→lZ B P M t [aJ]
 | emp (t e:TypeId) (b:Nat) : P.underlying t=some (.slice e)→lZ B P M t [.emp b]
 | slc (t e:TypeId) (b o n c:Nat) (cs:List AV) : P.underlying t=some (.slice e)→b<M.next→n≤c→n≤B→M.loads b o (n * P.cellsOf e)=some cs →
   (∀ i,i<n→lZ B P M e ((cs.drop (i * P.cellsOf e)).take (P.cellsOf e)))→lZ B P M t [.slc b o n (.ex c)]
 | struct (t:TypeId) (fs:Array Field) (cs:List AV) : P.underlying t=some (.struct fs)→cs.length=P.cellsOf t →
   (∀ (i:Nat) (f:Field),fs[i]?=some f→lZ B P M f.type ((cs.drop f.offset).take (P.cellsOf f.type)))→lZ B P M t cs
 | array (t e:TypeId) (n:Nat) (cs:List AV) : P.underlying t=some (.array n e)→cs.length=P.cellsOf t →
   (∀ i,i<n→lZ B P M e ((cs.drop (i * P.cellsOf e)).take (P.cellsOf e)))→lZ B P M t cs
 | other (t:TypeId) (cs:List AV) : Pn (P.underlying t)=true→lZ B P M t cs
 | zero (t e:TypeId) (cs:List AV) : P.underlying t=some (.slice e)→P.cellsOf e=0→lZ B P M t cs
section
variable {H:Type} {enc:TypeId × Value→H} {P:Program} {base:Base} {w:World}
variable {bulk:DataW H→Nat} {B:Nat}
structure agk (bulk:DataW H→Nat) : Prop where
 str:∀ bs:List UInt8,bs.length≤bulk (.lit (.string bs))
 len:∀ es sp:List (DataW H),es.length≤bulk (.slice es sp)
 elem:∀ (es sp:List (DataW H)) d,d∈es→bulk d≤bulk (.slice es sp)
 spare:∀ (es sp:List (DataW H)) d,d∈sp→bulk d≤bulk (.slice es sp)
 agg:∀ (ps:List (DataW H)) d,d∈ps→bulk d≤bulk (.agg ps)
end
section
variable {P:Program} {M:RM} {t:TypeId} {cs:List AV} {B:Nat}
def X7:AV→Prop
 | .slc _ _ n (.ex c)=>n≤c
 | .slc _ _ _ (.op e)=>e=1
 | _=>True
end
def OO (B:Nat) (P:Program) (M:RM) (t:TypeId) (v:AV) : Prop :=
 match Ew P t with
 | true=>∃ cs,v=.agg cs∧lZ B P M t cs
 | false=>lZ B P M t [v]
theorem OO.one {B:Nat} {P:Program} {M:RM} {t:TypeId} {v:AV} (h:OO B P M t v) (ha:Ew P t=false) : lZ B P M t [v]:=by
 unfold OO at h; rw[ha] at h; exact h
section
variable {H:Type} {enc:TypeId × Value→H} {P:Program} {base:Base} {w:World} {bulk:DataW H→Nat} {B:Nat}
end
section
variable {P:Program} {ρ:Ren} {M:RM} {w w' : World}
end
end Go.Ab
namespace Go.Ab.Sha
open Go Go.Ab
abbrev Str:=List UInt8
structure Bs (M:RM) (v:AV) (b:Str) : Prop where
 sl:Sl BY M v b
 cap:X7 v
theorem Bs.keep {M M' : RM} {v:AV} {b:Str} {bs:List Nat} (h:Bs M v b) (k:ag bs M M') (hb:∀ x∈aH v,x ∉ bs) : Bs M' v b:=⟨dE.keep h.sl k hb,h.cap⟩
theorem Bs.len {M:RM} {v:AV} {b:Str} (h:Bs M v b) {K:AV→Prop} : cK v K=K (N .i64 (b.length:Int)):=dE.len h.sl
theorem aaT {M:RM} {base T n:Nat} {v:AV} {cs:List AV} (h:Own M base T 1 v cs n) : X7 v:=by
 cases h with
 | nil=>trivial
 | ex0 b o _ _ _=>exact Nat.le_refl _
 | op b n cs _ _ _ _=>rfl
theorem Bs.own {M:RM} {base T:Nat} {v:AV} {b:Str} (h:Ow BY M base T v b) : Bs M v b:=⟨Own.jX h,aaT h⟩
theorem JB {M:RM} {b o n:Nat} {x:Str} (h:M.loads b o (n * 1)=some (BY.row x)) {l u:Nat} (h1:l≤u) (h2:u≤n) : M.loads b (o + l * 1) ((u - l) * 1)=some (BY.row ((x.drop l).take (u - l))):=by
 have:=zW h (l * 1) ((u - l) * 1) (by omega)
 rw[this]
 congr 1
 have e1:=BY.CU x l
 have e2:=BY.Jl (x.drop l) (u - l)
 rw[show l * 1=l * BY.size from rfl,e1,show(u - l) * 1=(u - l) * BY.size from rfl,e2]
theorem Bs.sub {M:RM} {v:AV} {b:Str} (h:Bs M v b) {lo hi:Option AV} {l u:Nat} (e1:bnd 0 lo=some l) (e2:bnd b.length hi=some u) (h1:l≤u) (h2:u≤b.length) {K:AV→Prop}
  (hK:∀ v',Bs M v' ((b.drop l).take (u - l))→(∀ x∈aH v',x∈aH v)→K v') : bP (jD 1 v lo hi none) K:=by
 obtain⟨hs,hc⟩:=h
 have hlen:((b.drop l).take (u - l)).length=u - l:=by simp; omega
 have zero:u=l→∀ {w:AV},dE M 1 w [] 0→Sl BY M w ((b.drop l).take (u - l)):=by
  intro e w hw
  subst e
  rw[Nat.sub_self,List.take_zero]
  exact hw
 unfold Sl at hs
 generalize hn:b.length=n at *
 generalize hcs:BY.row b=cs at *
 cases hs with
 | nil =>
   have l0:l=0:=by omega
   have u0:u=0:=by omega
   subst l0 u0
   exact⟨aJ,by simp only[jD,aJ,e1,e2],hK _ ⟨zero rfl .nil,trivial⟩ (fun x hx=>hx)⟩
 | emp b0 =>
   have l0:l=0:=by omega
   have u0:u=0:=by omega
   subst l0 u0
   exact⟨.emp b0,by simp only[jD,e1,e2],hK _ ⟨zero rfl (.emp _),trivial⟩ (fun x hx=>hx)⟩
 | slc b0 o _ cap cs hb hl =>
   subst hcs
   have hl':=JB hl h1 h2
   have whole:∀ cap',X7 (.slc b0 (o + l * 1) (u - l) cap')→(Bs M (.slc b0 (o + l * 1) (u - l) cap') ((b.drop l).take (u - l))):=fun cap' hcap=>⟨by
    unfold Sl; rw[hlen]; exact .slc _ _ _ _ _ hb hl',hcap⟩
   cases cap with
   | ex c =>
     have hcn:n≤c:=hc
     by_cases e:c=l
     ·subst e
      have hu:u=c:=by omega
      subst hu
      refine⟨.slc b0 o 0 (.ex 0),by simp only[jD,e1,e2]; rw[if_pos ⟨Nat.le_refl _,Nat.le_refl _⟩]; simp,hK _ ⟨zero rfl (.slc _ _ _ _ _ hb ?_),Nat.le_refl _⟩ (fun x hx=>hx)⟩
      have:=JB hl (Nat.le_refl 0) (Nat.zero_le n)
      simpa [BY,Enc.row] using this
     ·exact⟨_,by simp only[jD,e1,e2]; rw[if_pos ⟨h1,by omega⟩,if_neg e],hK _ (whole _ (by show u - l≤c - l; omega)) (fun x hx=>hx)⟩
   | op esz =>
     have he:esz=1:=hc
     subst he
     by_cases e:n≤l
     ·have hu:u=l:=by omega
      exact⟨.emp b0,by simp only[jD,e1,e2]; simp[h1,h2,e],hK _ ⟨zero hu (.emp _),trivial⟩ (fun x hx=>by simp[aH] at hx)⟩
     ·exact⟨_,by simp only[jD,e1,e2]; simp only[and_true]; rw[if_pos ⟨h1,h2⟩,if_neg e],hK _ (whole (.op 1) rfl) (fun x hx=>hx)⟩
theorem IV (d n:Nat) (k:IntKind) : bnd d (some (N k (n:Int)))=some n:=by simp[bnd]
theorem ae9 (d:Nat) : bnd d none=some d:=rfl
theorem ag.own {bs:List Nat} {M M1 M2:RM} {v:AV} (k1:ag bs M M1) (k2:ag (aH v) M1 M2) (hv:∀ b∈aH v,M.next≤b) : ag bs M M2 :=
 ⟨k2.base.trans k1.base,Nat.le_trans k1.next k2.next,fun x hx hb=>by
  rw[k2.heap x (Nat.lt_of_lt_of_le hx k1.next) (fun h=>by have:=hv x h; omega),k1.heap x hx hb]⟩
theorem qi {M:RM} {b n:Nat} {l cs:List AV} {p:Bool} {e:Nat} {K:RM→Prop} (h:M.heap b=some (.row l p e 0)) (hn:cs.length=n) (hl:l.length=n) (h1:cs.all oneCell=true) :
  aC M (.ptr b 0) (.agg cs) n K=K (M.put b (.row cs p e 0)):=bY (x:=.agg cs) h hn hl h1
theorem Bs.lt {M:RM} {v:AV} {b:Str} (h:Bs M v b) : ∀ x∈aH v,x<M.next:=dE.lt h.sl
theorem Pp {br:Nat} {M M0 M1:RM} (k0:ag [] M M0) (h:ag [br] M0 M1) (hb:M.next≤br) : ag [] M M1 :=
 ⟨h.base.trans k0.base,Nat.le_trans k0.next h.next,fun x hx _=>by rw[h.heap x (Nat.lt_of_lt_of_le hx k0.next) (fun e=>by simp at e; omega),k0.heap x hx (by simp)]⟩
theorem lF (s:Str) : (BY.row s).length=s.length:=by rw[Enc.ic]; simp[BY]
theorem Bs.read {M:RM} {v:AV} {b:Str} (h:Bs M v b) {i:Nat} (hi:i<b.length) {K:AV→Prop} : (aM v (N .i64 (i:Int)) 1 fun t=>ah M t K)=K (By b[i]):=by
 obtain⟨c,o,_,_,hix,hld⟩:=h.sl.Hl (i:Int) hi
 rw[hix,bT,hld _ rfl]
 exact propext ⟨fun⟨v,e,k⟩=>by cases e; exact k,fun k=>⟨_,rfl,k⟩⟩
theorem Oa {T:Nat} {M:RM} {z cs:List AV} {K:AV→RM→Prop} (n:Nat) (hz:z.length=n) (hc:cs.length=n) (h1:cs.all oneCell=true)
  (hK:∀ M',ag [] M M'→M'.heap M.next=some (.row cs false T 0)→M.next<M'.next→K (.ptr M.next 0) M') :
  aO (.row z false T 0) (fun b=>.ptr b 0) M fun t M1=>aC M1 t (.agg cs) n fun M2=>K t M2:=by
 simp only[aG]
 have n1:(M.push (.row z false T 0)).heap M.next=some (.row z false T 0):=by simp[RM.push]
 rw[qi n1 hc hz h1]
 exact hK _ (((ag.refl _ _).push _).new _ (Nat.le_refl _)) (aB _) (by simp[RM.push,RM.put])
def Gp (f:(List AV→RM→Prop)→Prop) (g:List AV→RM→Prop) : Prop:=f g
theorem bL (f:(List AV→RM→Prop)→Prop) (g:List AV→RM→Prop) : bG f g=Gp f g:=rfl
theorem aW {H:(List AV→RM→Prop)→Prop} {G:List AV→RM→Prop} (P:List AV→RM→Prop) (hT:∀ xs M,P xs M→G xs M)
  (hH:∀ J:List AV→RM→Prop,(∀ xs M,P xs M→J xs M)→H J) : Gp H G:=hH G hT
theorem gM {s:List UInt8} {i:Nat} (hi:i<s.length) (kd:IntKind) (K:AV→Prop) : bA (St s) (N kd (i:Int)) K=K (By s[i]):=by
 rw[Lv]
 apply propext
 constructor
 ·rintro⟨_,b,hb,hk⟩
  rw[Int.toNat_natCast,List.getElem?_eq_getElem hi] at hb
  cases hb; exact hk
 ·intro hk; exact⟨by omega,s[i],by rw[Int.toNat_natCast,List.getElem?_eq_getElem hi],hk⟩
theorem BR {T bytes:Nat} {zs:List AV} {K:RB→(Nat→AV)→Prop} (h:K (.row [] false T 0) (fun b=>.slc b 0 0 (.ex 0))) : lX T bytes zs (N .i64 0) (N .i64 0) K :=
 ⟨_,_,0,0,rfl,rfl,by omega,by omega,by simp,by simp,h⟩
theorem iV {k:IntKind} {a:Int} {K:AV→Prop} : FE (N k a) K=K (N k (En k (if k.signed then -1 else k.max) a)):=by
 apply propext; unfold FE
 constructor
 ·rintro⟨k',a',h1,hk⟩; cases h1; exact hk
 ·intro hk; exact⟨k,a,rfl,hk⟩
end Go.Ab.Sha
set_option maxRecDepth 100000
namespace Go.Ab.Vl
open Go Go.Ab
def qI (p1:Nat) (p2 p3 p4:au) (a0:AV) (M0:RM) (Q:ak) : Prop:=aO (.row [(.sc (.pointer none)),(.sc (.slice none 0 0))] false p1 0) (fun L=>.ptr L 0) M0 fun l C=>bf (fun ve i j=>aQ a0 fun wb=>af .lss (ae i 0) wb fun wc=>aj wc ( bG (fun m=>bA a0 (ae i 0) fun vg=>af .neq vg (N .u8 92) fun vh=>aj vh ( bA a0 (ae i 0) fun vi=>p2 [l,vi] j fun we D=>m [(ae i 0)] D) ( af .add (ae i 0) (N .i64 1) fun d=>aQ a0 fun vj=>af .lss d vj fun e=>aa e true (fun c=>c a0 j) (fun c=>c .undef j) fun vk t=>aa e true (fun Y=>Y d t) (fun c=>c .undef t) fun vl z=>aa e true (fun vc=>bA vk vl fun vm=>vc vm z) (fun c=>c .undef z) fun vn B=>aa e true (fun vd=>af .eql vn (N .u8 110) fun vo=>vd vo B) (fun c=>c .undef B) fun vp o=>aa e true (fun O=>O vp o) (fun c=>c .undef o) fun h p=>aa h false (fun P=>P a0 p) (fun c=>c .undef p) fun vq q=>aa h false (fun R=>R d q) (fun c=>c .undef q) fun vr r=>aa h false (fun S=>bA vq vr fun vs=>S vs r) (fun c=>c .undef r) fun vt s=>aa h false (fun U=>af .eql vt (N .u8 78) fun vu=>U vu s) (fun c=>c .undef s) fun vv u=>aa e true (fun V=>aD h (Bo true) vv fun vw=>V vw u) (fun c=>c .undef u) fun vx n=>aD e vx (Bo false) fun vy=>aj vy ( p2 [l,(N .u8 10)] n fun wf E=>m [d] E) ( aQ a0 fun vz=>af .lss d vz fun g=>aa g true (fun W=>W a0 n) (fun c=>c .undef n) fun v0 v=>aa g true (fun X=>X d v) (fun c=>c .undef v) fun v1 w=>aa g true (fun Z=>bA v0 v1 fun v2=>Z v2 w) (fun c=>c .undef w) fun v3 x=>aa g true (fun va=>p3 [(St [92,44,59,58]),v3] x fun v4 F=>va v4 F) (fun c=>c .undef x) fun v5 y=>aa g true (fun vb=>af .geq v5 (N .i64 0) fun v6=>vb v6 y) (fun c=>c .undef y) fun v7 A=>aD g v7 (Bo false) fun v8=>aj v8 ( bA a0 d fun v9=>p2 [l,v9] A fun wg G=>m [d] G) ( Q (.tup [(St []),(N .i64 14)]) A)))) (fun wd H=>af .add (ae wd 0) (N .i64 1) fun vf=>ve [vf] H)) ( p4 [l] j fun wa I=>Q (.tup [wa,(N .i64 0)]) I)) [(N .i64 0)] C
def uV (p1:Nat) (p2 p3 p4:au) (a0:AV) (M0:RM) (Q:ak) : Prop:=jU p1 a0 fun l j=>aO l j M0 fun g d=>aL d g 5 fun q=>p2 [q] d fun r c=>fu r fun s=>aj s ( Q (.tup [(St []),(N .i64 1)]) c) ( aL c g 5 fun t=>p3 [t] c fun h e=>aQ h fun m=>af .gtr m (N .i64 912) fun n=>aj n ( Q (.tup [(St []),(N .i64 2)]) e) ( p4 [h] e fun o i=>aX .add o (St [13,10]) fun p=>Q (.tup [p,(N .i64 0)]) i))
def wV (p1 p2:au) (p3:Nat) (a0:AV) (M0:RM) (Q:ak) : Prop:=p1 [a0] M0 fun m p=>aS m 0 fun n=>aS m 1 fun h=>cK n fun z=>bf (fun x c d=>af .lss (ae c 1) z fun A=>aj A ( bG (fun j=>aM n (ae c 1) 1 fun B=>ah d B fun i=>aX .eql i (St []) fun C=>aj C ( j [(ae c 0)] d) ( aQ i fun D=>af .gtr D (N .i64 912) fun E=>aj E ( aM h (ae c 1) 1 fun F=>ah d F fun G=>Q (.tup [(.sc (.slice none 0 0)),G,(N .i64 2)]) d) ( p2 [i] d fun o q=>aS o 0 fun H=>aS o 1 fun I=>aO (.row [(St []),(St []),(.sc (.slice none 0 0)),(St []),(N .i64 0)] false p3 0) (fun v=>.ptr v 0) q fun g r=>aC r g H 5 fun e=>fu I fun L=>aj L ( aM h (ae c 1) 1 fun O=>ah e O fun P=>Q (.tup [(.sc (.slice none 0 0)),P,(N .i64 3)]) e) ( aM h (ae c 1) 1 fun R=>ah e R fun S=>aF g 4 fun U=>aC e U S 1 fun l=>aL l g 5 fun V=>bM p3 1 [(St []),(St []),(.sc (.slice none 0 0)),(St []),(N .i64 0)] [(0,5,V)] fun y w=>aO y w l fun W s=>appW p3 5 80 [(St []),(St []),(.sc (.slice none 0 0)),(St []),(N .i64 0)] false (ae c 0) W s fun X t=>j [X] t)))) (fun Z u=>af .add (ae c 1) (N .i64 1) fun Y=>x [(ae Z 0),Y] u)) ( Q (.tup [(ae c 0),(N .i64 0),(N .i64 0)]) d)) [(.sc (.slice none 0 0)),(N .i64 0)] p
def yH (p1:au) (p2:Nat) (p3:au) (a0:AV) (M0:RM) (Q:ak) : Prop:=p1 [a0] M0 fun m o=>aS m 0 fun g=>aS m 1 fun h=>lX p2 80 [(St []),(St []),(.sc (.slice none 0 0)),(St []),(N .i64 0)] (N .i64 0) (N .i64 0) fun z w=>aO z w o fun B p=>bf (fun y c d=>cK g fun C=>af .lss (ae c 1) C fun D=>aj D ( bG (fun j=>aM g (ae c 1) 1 fun F=>ah d F fun G=>aQ G fun H=>af .gtr H (N .i64 912) fun I=>aj I ( aM h (ae c 1) 1 fun L=>ah d L fun O=>Q (.tup [(.sc (.slice none 0 0)),O,(N .i64 2)]) d) ( aM g (ae c 1) 1 fun P=>ah d P fun R=>aX .eql R (St []) fun S=>aj S ( j [(ae c 0)] d) ( aM g (ae c 1) 1 fun U=>ah d U fun V=>p3 [V] d fun n r=>aS n 0 fun W=>aS n 1 fun X=>aO (.row [(St []),(St []),(.sc (.slice none 0 0)),(St []),(N .i64 0)] false p2 0) (fun v=>.ptr v 0) r fun i s=>aC s i W 5 fun e=>fu X fun Y=>aj Y ( aM h (ae c 1) 1 fun Z=>ah e Z fun va=>Q (.tup [(.sc (.slice none 0 0)),va,(N .i64 3)]) e) ( aM h (ae c 1) 1 fun vb=>ah e vb fun vc=>aF i 4 fun vd=>aC e vd vc 1 fun l=>aL l i 5 fun ve=>bM p2 1 [(St []),(St []),(.sc (.slice none 0 0)),(St []),(N .i64 0)] [(0,5,ve)] fun A x=>aO A x l fun vf t=>appW p2 5 80 [(St []),(St []),(.sc (.slice none 0 0)),(St []),(N .i64 0)] false (ae c 0) vf t fun vg u=>j [vg] u)))) (fun vh q=>af .add (ae c 1) (N .i64 1) fun E=>y [(ae vh 0),E] q)) ( Q (.tup [(ae c 0),(N .i64 0),(N .i64 0)]) d)) [B,(N .i64 0)] p
def tQ (p1 p2:au) (p3 p4:Nat) (a0:AV) (M0:RM) (Q:ak) : Prop:=bf (fun vc d p=>aX .neq (ae d 0) (St []) fun vf=>aj vf ( bG (fun n=>p1 [(ae d 0),(St [10])] p fun j q=>aS j 0 fun B=>aS j 1 fun C=>aS j 2 fun vh=>bG (fun o=>aj vh ( p2 [B,(St [13])] q fun vi E=>o [vi] E) ( o [B] q)) (fun g y=>cK (ae d 1) fun vj=>af .gtr vj (N .i64 0) fun l=>aa l true (fun c=>c (ae g 0) y) (fun c=>c .undef y) fun vk z=>aa l true (fun va=>aX .neq vk (St []) fun vl=>va vl z) (fun c=>c .undef z) fun vm A=>aD l vm (Bo false) fun e=>aa e true (fun vb=>vb (ae g 0) A) (fun c=>c .undef A) fun vn r=>aa e true (fun S=>bA vn (N .i64 0) fun vo=>S vo r) (fun c=>c .undef r) fun vp s=>aa e true (fun U=>af .eql vp (N .u8 32) fun vq=>U vq s) (fun c=>c .undef s) fun vr t=>aa e true (fun V=>V vr t) (fun c=>c .undef t) fun h u=>aa h false (fun W=>W (ae g 0) u) (fun c=>c .undef u) fun vs v=>aa h false (fun X=>bA vs (N .i64 0) fun vt=>X vt v) (fun c=>c .undef v) fun vu w=>aa h false (fun Y=>af .eql vu (N .u8 9) fun vv=>Y vv w) (fun c=>c .undef w) fun vw x=>aa e true (fun Z=>aD h (Bo true) vw fun vx=>Z vx x) (fun c=>c .undef x) fun vy i=>aD e vy (Bo false) fun vz=>aj vz ( cK (ae d 1) fun v0=>af .sub v0 (N .i64 1) fun D=>aM (ae d 1) D 1 fun v1=>ah i v1 fun v2=>bP (aR (ae g 0) (some (N .i64 1)) none) fun v3=>aX .add v2 v3 fun v4=>aM (ae d 1) D 1 fun v5=>aC i v5 v4 1 fun F=>n [C,(ae d 1),(ae d 2)] F) ( bM p3 1 [(St [])] [(0,1,(ae g 0))] fun vd P=>aO vd P i fun v6 G=>appW p3 1 16 [(St [])] false (ae d 1) v6 G fun v7 H=>bM p4 1 [(N .i64 0)] [(0,1,(ae d 3))] fun ve R=>aO ve R H fun v8 I=>appW p4 1 8 [(N .i64 0)] false (ae d 2) v8 I fun v9 L=>n [C,v7,v9] L))) (fun m O=>af .add (ae d 3) (N .i64 1) fun vg=>vc [(ae m 0),(ae m 1),(ae m 2),vg] O)) ( Q (.tup [(ae d 1),(ae d 2)]) p)) [a0,(.sc (.slice none 0 0)),(.sc (.slice none 0 0)),(N .i64 1)] M0
def tC (p1:au) (p2 p3:Nat) (a0:AV) (M0:RM) (Q:ak) : Prop:=p1 [a0] M0 fun x z=>lX p2 16 [(St [])] (N .i64 0) (N .i64 0) fun vd I=>aO vd I z fun vh A=>lX p3 8 [(N .i64 0)] (N .i64 0) (N .i64 0) fun ve L=>aO ve L A fun vi B=>bf (fun vc d h=>cK x fun vj=>af .lss (ae d 2) vj fun vk=>aj vk ( bG (fun m=>aM x (ae d 2) 1 fun vm=>ah h vm fun g=>af .gtr (ae d 2) (N .i64 0) fun i=>aa i true (fun c=>c g h) (fun c=>c .undef h) fun vn v=>aa i true (fun va=>aQ vn fun vo=>va vo v) (fun c=>c .undef v) fun vp w=>aa i true (fun vb=>af .gtr vp (N .i64 0) fun vq=>vb vq w) (fun c=>c .undef w) fun vr n=>aD i vr (Bo false) fun e=>aa e true (fun R=>R g n) (fun c=>c .undef n) fun vs o=>aa e true (fun S=>bA vs (N .i64 0) fun vt=>S vt o) (fun c=>c .undef o) fun vu p=>aa e true (fun U=>af .eql vu (N .u8 32) fun vv=>U vv p) (fun c=>c .undef p) fun vw q=>aa e true (fun V=>V vw q) (fun c=>c .undef q) fun j r=>aa j false (fun W=>W g r) (fun c=>c .undef r) fun vx s=>aa j false (fun X=>bA vx (N .i64 0) fun vy=>X vy s) (fun c=>c .undef s) fun vz t=>aa j false (fun Y=>af .eql vz (N .u8 9) fun v0=>Y v0 t) (fun c=>c .undef t) fun v1 u=>aa e true (fun Z=>aD j (Bo true) v1 fun v2=>Z v2 u) (fun c=>c .undef u) fun v3 l=>aD e v3 (Bo false) fun v4=>aj v4 ( cK (ae d 0) fun v5=>af .sub v5 (N .i64 1) fun v6=>cK (ae d 0) fun v7=>af .sub v7 (N .i64 1) fun v8=>aM (ae d 0) v8 1 fun v9=>ah l v9 fun wa=>bP (aR g (some (N .i64 1)) none) fun wb=>aX .add wa wb fun wc=>aM (ae d 0) v6 1 fun wd=>aC l wd wc 1 fun C=>m [(ae d 0),(ae d 1)] C) ( bM p2 1 [(St [])] [(0,1,g)] fun vf O=>aO vf O l fun we D=>appW p2 1 16 [(St [])] false (ae d 0) we D fun wf E=>af .add (ae d 2) (N .i64 1) fun wg=>bM p3 1 [(N .i64 0)] [(0,1,wg)] fun vg P=>aO vg P E fun wh F=>appW p3 1 8 [(N .i64 0)] false (ae d 1) wh F fun wi G=>m [wf,wi] G)) (fun y H=>af .add (ae d 2) (N .i64 1) fun vl=>vc [(ae y 0),(ae y 1),vl] H)) ( Q (.tup [(ae d 0),(ae d 1)]) h)) [vh,vi,(N .i64 0)] B
def KN (p1 p2 p3:Nat) (a0:AV) (M0:RM) (Q:ak) : Prop:=jU p1 a0 fun v s=>aO v s M0 fun d m=>aO (.row [(St []),(St []),(.sc (.slice none 0 0)),(St []),(N .i64 0)] false p2 0) (fun g=>.ptr g 0) m fun l e=>aF d 0 fun ve=>ah e ve fun vf=>aF d 1 fun vg=>ah e vg fun vh=>aF d 3 fun vi=>ah e vi fun y=>aF d 4 fun z=>ah e z fun A=>dW [(St []),(St []),(.sc (.slice none 0 0)),(St []),(N .i64 0)] [(0,1,vf),(1,1,vh),(3,1,y),(4,1,A)] fun B=>aO (.row [(St []),(St []),(.sc (.slice none 0 0)),(St []),(N .i64 0)] false p2 0) (fun g=>.ptr g 0) e fun h n=>aC n h B 5 fun o=>bf (fun u i c=>aF d 2 fun C=>ah c C fun D=>cK D fun E=>af .lss (ae i 0) E fun F=>aj F ( aF h 2 fun H=>ah c H fun I=>aF d 2 fun L=>ah c L fun O=>aM O (ae i 0) 2 fun P=>aF P 0 fun R=>ah c R fun S=>aF d 2 fun U=>ah c U fun V=>aM V (ae i 0) 2 fun W=>aF W 1 fun X=>ah c X fun Y=>dW [(St []),(.sc (.slice none 0 0))] [(0,1,S),(1,1,Y)] fun Z=>bM p3 1 [(St []),(.sc (.slice none 0 0))] [(0,2,Z)] fun w t=>zZ w t c fun va p g=>appW p3 2 40 [(St []),(.sc (.slice none 0 0))] false I va p fun vb q=>aF h 2 fun vc=>aC q vc vb 1 fun r=>af .add (ae i 0) (N .i64 1) fun G=>u [G] r) ( aL c h 5 fun vd=>aC c l vd 5 fun j=>aL j l 5 fun x=>Q x j)) [(N .i64 0)] o
def xU (p1:Nat) (p2 p3 p4:au) (a0:AV) (M0:RM) (Q:ak) : Prop:=aO (.row [(.sc (.pointer none)),(.sc (.slice none 0 0))] false p1 0) (fun q=>.ptr q 0) M0 fun d l=>bf (fun r c g=>aX .neq (ae c 0) (St []) fun v=>aj v ( p2 [(ae c 0),(ae c 1)] g fun i m=>bP (aR (ae c 0) none (some i)) fun s=>p3 [d,s] m fun w h=>bP (aR (ae c 0) (some i) none) fun j=>bG (fun e=>aX .neq j (St []) fun t=>aj t ( p3 [d,(St [13,10,32])] h fun x n=>e [] n) ( e [] h)) (fun y o=>r [j,(N .i64 74)] o)) ( p4 [d] g fun u p=>Q u p)) [a0,(N .i64 75)] l
def Au (p1:Nat) (a0:AV) (M0:RM) (Q:ak) : Prop:=lX p1 16 [(St [])] (N .i64 0) (N .i64 0) fun H z=>aO H z M0 fun vo r=>bf (fun G c g=>aQ a0 fun O=>af .lss (ae c 2) O fun P=>aj P ( bG (fun h=>bA a0 (ae c 2) fun S=>af .eql S (N .u8 10) fun U=>aj U ( bG (fun i=>af .gtr (ae c 2) (ae c 1) fun e=>aa e true (fun d=>d a0 g) (fun d=>d .undef g) fun V n=>aa e true (fun D=>D (ae c 2) n) (fun d=>d .undef n) fun W o=>aa e true (fun E=>af .sub W (N .i64 1) fun X=>E X o) (fun d=>d .undef o) fun Y p=>aa e true (fun F=>bA V Y fun Z=>F Z p) (fun d=>d .undef p) fun va l=>aa e true (fun C=>af .eql va (N .u8 13) fun vb=>C vb l) (fun d=>d .undef l) fun vc m=>aD e vc (Bo false) fun vd=>aj vd ( af .sub (ae c 2) (N .i64 1) fun ve=>i [ve] m) ( i [(ae c 2)] m)) (fun vp s=>bP (aR a0 (some (ae c 1)) (some (ae vp 0))) fun vf=>bM p1 1 [(St [])] [(0,1,vf)] fun I A=>aO I A s fun vg t=>appW p1 1 16 [(St [])] false (ae c 0) vg t fun vh u=>af .add (ae c 2) (N .i64 1) fun vi=>h [vh,vi] u)) ( h [(ae c 0),(ae c 1)] g)) (fun q v=>af .add (ae c 2) (N .i64 1) fun R=>G [(ae q 0),(ae q 1),R] v)) ( bG (fun j=>aQ a0 fun vj=>af .lss (ae c 1) vj fun vk=>aj vk ( bP (aR a0 (some (ae c 1)) none) fun vl=>bM p1 1 [(St [])] [(0,1,vl)] fun L B=>aO L B g fun vm w=>appW p1 1 16 [(St [])] false (ae c 0) vm w fun vn x=>j [vn] x) ( j [(ae c 0)] g)) (fun vq y=>Q (ae vq 0) y))) [vo,(N .i64 0),(N .i64 0)] r
def sH (p1:au) (a0:AV) (M0:RM) (Q:ak) : Prop:=bf (fun h c d=>aQ (ae c 0) fun l=>af .gtr l (N .i64 0) fun m=>aj m ( p1 [(ae c 0)] d fun g e=>af .eql g (N .i64 0) fun i=>aj i ( Q (Bo false) e) ( bP (aR (ae c 0) (some g) none) fun j=>h [j] e)) ( Q (Bo true) d)) [a0] M0
def sQ (p1 p2:Nat) (p3 p4 p5:au) (a0:AV) (M0:RM) (Q:ak) : Prop:=aO (.row [(.sc (.pointer none)),(.sc (.slice none 0 0))] false p1 0) (fun w=>.ptr w 0) M0 fun e o=>rR p2 a0 fun z x=>aO z x o fun n p=>cK n fun G=>bf (fun y j d=>af .lss (ae j 0) G fun A=>aj A ( bG (fun g=>aM n (ae j 0) 1 fun B=>ah d B fun c=>bG (fun h=>af .eql c (N .u8 92) fun l=>aj l ( h [l] d) ( af .eql c (N .u8 44) fun m=>aj m ( h [m] d) ( af .eql c (N .u8 59) fun C=>h [C] d))) (fun H i=>aj (ae H 0) ( p3 [e,(N .u8 92)] i fun L s=>p3 [e,c] s fun O t=>g [] t) ( af .eql c (N .u8 10) fun D=>aj D ( p4 [e,(St [92,110])] i fun P u=>g [] u) ( p3 [e,c] i fun I v=>g [] v)))) (fun R q=>af .add (ae j 0) (N .i64 1) fun E=>y [E] q)) ( p5 [e] d fun F r=>Q F r)) [(N .i64 0)] p
def qG (p1:Nat) (a0:AV) (M0:RM) (Q:ak) : Prop:=lX p1 1 [(N .u8 0)] (N .i64 0) (N .i64 0) fun F A=>aO F A M0 fun vg s=>bf (fun E c d=>aQ a0 fun vh=>af .lss (ae c 1) vh fun L=>aj L ( bG (fun i=>bA a0 (ae c 1) fun P=>af .neq P (N .u8 92) fun R=>aj R ( bA a0 (ae c 1) fun S=>bM p1 1 [(N .u8 0)] [(0,1,S)] fun G C=>aO G C d fun U y=>appW p1 1 1 [(N .u8 0)] false (ae c 0) U y fun V z=>i [V,(ae c 1)] z) ( af .add (ae c 1) (N .i64 1) fun g=>aQ a0 fun W=>af .eql g W fun X=>aj X ( Q (.tup [(St []),(Bo false)]) d) ( bA a0 g fun e=>bG (fun h=>af .eql e (N .u8 92) fun n=>aj n ( h [n] d) ( af .eql e (N .u8 44) fun o=>aj o ( h [o] d) ( af .eql e (N .u8 59) fun p=>aj p ( h [p] d) ( af .eql e (N .u8 58) fun Y=>h [Y] d)))) (fun vj j=>aj (ae vj 0) ( bA a0 g fun Z=>bM p1 1 [(N .u8 0)] [(0,1,Z)] fun I D=>aO I D j fun va t=>appW p1 1 1 [(N .u8 0)] false (ae c 0) va t fun vb u=>i [vb,g] u) ( bG (fun l=>af .eql e (N .u8 110) fun q=>aj q ( l [q] j) ( af .eql e (N .u8 78) fun vc=>l [vc] j)) (fun vi m=>aj (ae vi 0) ( bM p1 1 [(N .u8 0)] [(0,1,(N .u8 10))] fun H B=>aO H B m fun vd v=>appW p1 1 1 [(N .u8 0)] false (ae c 0) vd v fun ve w=>i [ve,g] w) ( Q (.tup [(St []),(Bo false)]) m))))))) (fun r x=>af .add (ae r 1) (N .i64 1) fun O=>E [(ae r 0),O] x)) ( oF d (ae c 0) fun vf=>Q (.tup [vf,(Bo true)]) d)) [vg,(N .i64 0)] s
def sN (p1:Nat) (a0:AV) (M0:RM) (Q:ak) : Prop:=lX p1 1 [(N .u8 0)] (N .i64 0) (N .i64 0) fun z u=>aO z u M0 fun V m=>bf (fun y c d=>aQ a0 fun W=>af .lss (ae c 1) W fun X=>aj X ( bG (fun g=>bA a0 (ae c 1) fun e=>bG (fun h=>af .eql e (N .u8 92) fun j=>aj j ( h [j] d) ( af .eql e (N .u8 44) fun l=>aj l ( h [l] d) ( af .eql e (N .u8 59) fun H=>h [H] d))) (fun Z i=>aj (ae Z 0) ( bA a0 (ae c 1) fun I=>bM p1 2 [(N .u8 0)] [(0,1,(N .u8 92)),(1,1,I)] fun B w=>aO B w i fun L s=>appW p1 1 1 [(N .u8 0)] false (ae c 0) L s fun O t=>g [O] t) ( af .eql e (N .u8 10) fun P=>aj P ( bM p1 2 [(N .u8 0)] [(0,1,(N .u8 92)),(1,1,(N .u8 110))] fun C x=>aO C x i fun R n=>appW p1 1 1 [(N .u8 0)] false (ae c 0) R n fun S o=>g [S] o) ( bA a0 (ae c 1) fun E=>bM p1 1 [(N .u8 0)] [(0,1,E)] fun A v=>aO A v i fun F p=>appW p1 1 1 [(N .u8 0)] false (ae c 0) F p fun G q=>g [G] q)))) (fun Y r=>af .add (ae c 1) (N .i64 1) fun D=>y [(ae Y 0),D] r)) ( oF d (ae c 0) fun U=>Q U d)) [V,(N .i64 0)] m
def gp (p1:au) (p2:Nat) (a0 a1:AV) (M0:RM) (Q:ak) : Prop:=p1 [a0] M0 fun r c=>jA a0 fun q=>aF q 1 fun j=>ah c j fun l=>bM p2 1 [(N .u8 0)] [(0,1,a1)] fun i h=>aO i h c fun m d=>appW p2 1 1 [(N .u8 0)] false l m d fun n e=>jA a0 fun o=>aF o 1 fun p=>aC e p n 1 fun g=>Q (.sc .nilIface) g
def rW (p1:au) (a0 a1:AV) (M0:RM) (Q:ak) : Prop:=p1 [a0,a1] M0 fun d c=>Q d c
def kV (p1:Nat) (a0:AV) (M0:RM) (Q:ak) : Prop:=jA a0 fun i=>aF i 1 fun j=>ah M0 j fun l=>ES l fun m=>jA a0 fun n=>aF n 1 fun d=>ah M0 d fun e=>cK e fun g=>aae p1 m g M0 fun h c=>Q h c
def xC (p1:Nat) (p2 p3:au) (p4:Nat) (p5:au) (p6:Nat) (a0:AV) (M0:RM) (Q:ak) : Prop:=jU p1 a0 fun vr X=>aO vr X M0 fun d m=>aF d 0 fun w3=>ah m w3 fun w4=>aX .neq w4 (St []) fun i=>aa i true (fun c=>aF d 0 fun w5=>c w5 m) (fun c=>c .undef m) fun w6 n=>aa i true (fun vb=>ah n w6 fun vs=>vb vs n) (fun c=>c .undef n) fun vt B=>aa i true (fun vk=>p2 [vt] B fun vu U=>vk vu U) (fun c=>c .undef B) fun vv L=>aa i true (fun vp=>fu vv fun vw=>vp vw L) (fun c=>c .undef L) fun vx v=>aD i vx (Bo false) fun e=>aa e false (fun Y=>aF d 1 fun vy=>Y vy v) (fun c=>c .undef v) fun vz o=>aa e false (fun Z=>ah o vz fun v0=>Z v0 o) (fun c=>c .undef o) fun v1 w=>aa e false (fun va=>p2 [v1] w fun v2 P=>va v2 P) (fun c=>c .undef w) fun v3 x=>aa e false (fun vc=>fu v3 fun v4=>vc v4 x) (fun c=>c .undef x) fun v5 y=>aD e (Bo true) v5 fun g=>aa g false (fun vd=>aF d 3 fun v6=>vd v6 y) (fun c=>c .undef y) fun v7 p=>aa g false (fun ve=>ah p v7 fun v8=>ve v8 p) (fun c=>c .undef p) fun v9 z=>aa g false (fun vf=>p3 [v9,(St [])] z fun wa R=>vf wa R) (fun c=>c .undef z) fun wb A=>aa g false (fun vg=>fu wb fun wc=>vg wc A) (fun c=>c .undef A) fun wd q=>aD g (Bo true) wd fun we=>aj we ( Q (Bo false) q) ( aF d 2 fun wf=>ah q wf fun O=>cK O fun wg=>bf (fun vq u r=>af .lss (ae u 0) wg fun wh=>aj wh ( aM O (ae u 0) 2 fun wi=>aL r wi 2 fun wj=>aO (.row [(St []),(.sc (.slice none 0 0))] false p4 0) (fun W=>.ptr W 0) r fun j S=>aC S j wj 2 fun C=>aF j 0 fun wk=>ah C wk fun wl=>p2 [wl] C fun wm D=>fu wm fun h=>aa h false (fun vh=>aF j 1 fun wn=>vh wn D) (fun c=>c .undef D) fun wo s=>aa h false (fun vi=>ah s wo fun wp=>vi wp s) (fun c=>c .undef s) fun wq E=>aa h false (fun vj=>cK wq fun wr=>vj wr E) (fun c=>c .undef E) fun ws F=>aa h false (fun vl=>af .eql ws (N .i64 0) fun wt=>vl wt F) (fun c=>c .undef F) fun wu G=>aD h (Bo true) wu fun l=>aa l false (fun vm=>aF j 1 fun wv=>vm wv G) (fun c=>c .undef G) fun ww t=>aa l false (fun vn=>ah t ww fun wx=>vn wx t) (fun c=>c .undef t) fun wy H=>aa l false (fun vo=>p5 [wy,(.fn (.func p6) [] [])] H fun wz V=>vo wz V) (fun c=>c .undef H) fun w0 I=>aD l (Bo true) w0 fun w1=>aj w1 ( Q (Bo false) I) ( af .add (ae u 0) (N .i64 1) fun w2=>vq [w2] I)) ( Q (Bo true) r)) [(N .i64 0)] q)
def yD (p1 p2:Nat) (p3 p4:au) (p5:Nat) (p6 p7 p8:au) (a0:AV) (M0:RM) (Q:ak) : Prop:=jU p1 a0 fun V R=>aO V R M0 fun d C=>aO (.row [(.sc (.pointer none)),(.sc (.slice none 0 0))] false p2 0) (fun j=>.ptr j 0) C fun c e=>bG (fun o=>aF d 0 fun v1=>ah e v1 fun v2=>aX .neq v2 (St []) fun W=>aj W ( aF d 0 fun X=>ah e X fun Y=>aX .add Y (St [46]) fun Z=>p3 [c,Z] e fun v4 D=>o [] D) ( o [] e)) (fun v9 s=>aF d 1 fun va=>ah s va fun vb=>p4 [vb] s fun vc L=>p3 [c,vc] L fun v5 v=>aF d 2 fun vd=>ah v vd fun x=>cK x fun ve=>bf (fun S n h=>af .lss (ae n 0) ve fun vf=>aj vf ( aM x (ae n 0) 2 fun vg=>aL h vg 2 fun vh=>aO (.row [(St []),(.sc (.slice none 0 0))] false p5 0) (fun j=>.ptr j 0) h fun m O=>aC O m vh 2 fun w=>aF m 0 fun vi=>ah w vi fun vj=>p4 [vj] w fun vk P=>aX .add (St [59]) vk fun vl=>aX .add vl (St [61]) fun vm=>p3 [c,vm] P fun v6 r=>aF m 1 fun vn=>ah r vn fun y=>cK y fun vo=>bf (fun U i g=>af .lss (ae i 0) vo fun vp=>aj vp ( bG (fun B=>aM y (ae i 0) 1 fun vq=>ah g vq fun l=>bG (fun p=>af .gtr (ae i 0) (N .i64 0) fun vr=>aj vr ( p6 [c,(N .u8 44)] g fun v7 E=>p [] E) ( p [] g)) (fun wa F=>bG (fun q=>p7 [l,(St [44,59,58])] F fun vs t=>aj vs ( aX .add (St [34]) l fun vt=>aX .add vt (St [34]) fun vu=>q [vu] t) ( q [l] t)) (fun v3 G=>p3 [c,(ae v3 0)] G fun v8 H=>B [] H))) (fun wb I=>af .add (ae i 0) (N .i64 1) fun vv=>U [vv] I)) ( af .add (ae n 0) (N .i64 1) fun vw=>S [vw] g)) [(N .i64 0)] r) ( aF d 3 fun z=>ah h z fun A=>p8 [c] h fun vx u=>ah u z fun vz=>(vz=A∧aX .add vx (St [58]) fun vy=>aX .add vy A fun v0=>Q v0 u))) [(N .i64 0)] v)
def xL (p1:Nat) (p2 p3 p4 p5 p6 p7:au) (a0:AV) (M0:RM) (Q:ak) : Prop:=aO (.row [(St []),(St []),(.sc (.slice none 0 0)),(St []),(N .i64 0)] false p1 0) (fun n=>.ptr n 0) M0 fun e S=>p2 [a0] S fun w0 r=>fu w0 fun w1=>aj w1 ( dW [(St []),(St []),(.sc (.slice none 0 0)),(St []),(N .i64 0)] [] fun vs=>aC r e vs 5 fun s=>aL s e 5 fun vo=>Q (.tup [vo,(Bo false)]) s) ( aO (.row [(St []),(St []),(.sc (.slice none 0 0)),(St []),(N .i64 0)] false p1 0) (fun n=>.ptr n 0) r fun d X=>p3 [a0] X fun O va=>aS O 0 fun vt=>aS O 1 fun o=>aF d 1 fun vu=>aC va vu vt 1 fun vb=>bG (fun q=>p4 [o,(St [46])] vb fun vv m=>aj vv ( aF d 1 fun vw=>ah m vw fun vx=>aF d 0 fun vy=>aC m vy vx 1 fun H=>aF d 0 fun vz=>ah H vz fun v0=>p5 [v0] H fun v1 I=>fu v1 fun v2=>aj v2 ( dW [(St []),(St []),(.sc (.slice none 0 0)),(St []),(N .i64 0)] [] fun v3=>aC I e v3 5 fun L=>aL L e 5 fun vr=>Q (.tup [vr,(Bo false)]) L) ( bP (aR o (some (N .i64 1)) none) fun v4=>p3 [v4] I fun P U=>aS P 0 fun v5=>aS P 1 fun v6=>aF d 1 fun v7=>aC U v7 v5 1 fun V=>q [v6] V)) ( q [o] m)) (fun w2 W=>p6 [(ae w2 0)] W fun p t=>aS p 0 fun v8=>aS p 1 fun i=>aS p 2 fun v9=>fu v9 fun g=>aa g false (fun c=>aF d 1 fun wa=>c wa t) (fun c=>c .undef t) fun wb l=>aa g false (fun ve=>ah l wb fun wc=>ve wc l) (fun c=>c .undef l) fun wd u=>aa g false (fun vf=>p5 [wd] u fun we Y=>vf we Y) (fun c=>c .undef u) fun wf v=>aa g false (fun vg=>fu wf fun wg=>vg wg v) (fun c=>c .undef v) fun wh w=>aD g (Bo true) wh fun j=>aa j false (fun vh=>vh i w) (fun c=>c .undef w) fun wi x=>aa j false (fun vi=>p4 [wi,(St [58])] x fun wj Z=>vi wj Z) (fun c=>c .undef x) fun wk y=>aa j false (fun vj=>fu wk fun wl=>vj wl y) (fun c=>c .undef y) fun wm z=>aD j (Bo true) wm fun h=>aa h false (fun vk=>vk i z) (fun c=>c .undef z) fun wn A=>aa h false (fun vl=>bP (aR wn (some (N .i64 1)) none) fun wo=>vl wo A) (fun c=>c .undef A) fun wp B=>aa h false (fun vm=>p7 [wp,(St [])] B fun wq vc=>vm wq vc) (fun c=>c .undef B) fun wr C=>aa h false (fun vn=>fu wr fun ws=>vn ws C) (fun c=>c .undef C) fun wt D=>aD h (Bo true) wt fun wu=>aj wu ( dW [(St []),(St []),(.sc (.slice none 0 0)),(St []),(N .i64 0)] [] fun wv=>aC D e wv 5 fun E=>aL E e 5 fun vp=>Q (.tup [vp,(Bo false)]) E) ( bP (aR i (some (N .i64 1)) none) fun R=>aF d 2 fun wx=>aC D wx v8 1 fun vd=>bP (aR i (some (N .i64 1)) none) fun ww=>(ww=R∧aF d 3 fun wy=>aC vd wy R 1 fun F=>aL F d 5 fun wz=>aC F e wz 5 fun G=>aL G e 5 fun vq=>Q (.tup [vq,(Bo true)]) G))))
def vF (p1:Nat) (p2 p3 p4:au) (p5:Nat) (p6 p7:au) (a0:AV) (M0:RM) (Q:ak) : Prop:=aO (.row [(St []),(St []),(.sc (.slice none 0 0)),(St []),(N .i64 0)] false p1 0) (fun n=>.ptr n 0) M0 fun d vv=>dW [(St []),(St []),(.sc (.slice none 0 0)),(St []),(N .i64 0)] [] fun zp=>aO (.row [(St []),(St []),(.sc (.slice none 0 0)),(St []),(N .i64 0)] false p1 0) (fun n=>.ptr n 0) vv fun e vw=>aC vw e zp 5 fun vx=>p2 [a0] vx fun xh u=>fu xh fun xq=>aj xq ( aL u e 5 fun x0=>aC u d x0 5 fun V=>aL V d 5 fun w1=>Q (.tup [w1,(Bo false)]) V) ( p3 [a0] u fun g Z=>bG (fun H=>aQ a0 fun ya=>af .lss g ya fun o=>aa o true (fun c=>c a0 Z) (fun c=>c .undef Z) fun yb ve=>aa o true (fun wp=>wp g ve) (fun c=>c .undef ve) fun yc vm=>aa o true (fun wu=>bA yb yc fun yd=>wu yd vm) (fun c=>c .undef vm) fun ye I=>aa o true (fun wb=>af .eql ye (N .u8 46) fun yf=>wb yf I) (fun c=>c .undef I) fun yg L=>aD o yg (Bo false) fun yh=>aj yh ( bP (aR a0 none (some g)) fun yi=>p4 [yi] L fun yj vy=>aF e 0 fun yk=>aC vy yk yj 1 fun O=>af .lss g (N .i64 1) fun C=>aa C false (fun wc=>wc g O) (fun c=>c .undef O) fun yl P=>aa C false (fun wd=>af .gtr yl (N .i64 20) fun ym=>wd ym P) (fun c=>c .undef P) fun yn v=>aD C (Bo true) yn fun yo=>aj yo ( aL v e 5 fun yp=>aC v d yp 5 fun R=>aL R d 5 fun w3=>Q (.tup [w3,(Bo false)]) R) ( af .add g (N .i64 1) fun yq=>bP (aR a0 (some yq) none) fun vu=>p3 [vu] v fun yr vz=>H [vu,yr] vz)) ( H [a0,g] L)) (fun i S=>af .lss (ae i 1) (N .i64 1) fun D=>aa D false (fun we=>we (ae i 1) S) (fun c=>c .undef S) fun ys U=>aa D false (fun wf=>af .gtr ys (N .i64 20) fun yt=>wf yt U) (fun c=>c .undef U) fun yu w=>aD D (Bo true) yu fun yv=>aj yv ( aL w e 5 fun yw=>aC w d yw 5 fun W=>aL W d 5 fun w4=>Q (.tup [w4,(Bo false)]) W) ( bP (aR (ae i 0) none (some (ae i 1))) fun yx=>p4 [yx] w fun yy v0=>aF e 1 fun yz=>aC v0 yz yy 1 fun v1=>bP (aR (ae i 0) (some (ae i 1)) none) fun y0=>bf (fun wy j X=>aQ (ae j 0) fun y1=>af .gtr y1 (N .i64 0) fun t=>aa t true (fun wg=>wg (ae j 0) X) (fun c=>c .undef X) fun y2 Y=>aa t true (fun wh=>bA y2 (N .i64 0) fun y3=>wh y3 Y) (fun c=>c .undef Y) fun y4 va=>aa t true (fun wi=>af .eql y4 (N .u8 59) fun y5=>wi y5 va) (fun c=>c .undef va) fun y6 x=>aD t y6 (Bo false) fun y7=>aj y7 ( bP (aR (ae j 0) (some (N .i64 1)) none) fun p=>p3 [p] x fun h vb=>af .lss h (N .i64 1) fun F=>aa F false (fun wj=>wj h vb) (fun c=>c .undef vb) fun y8 vc=>aa F false (fun wk=>af .gtr y8 (N .i64 20) fun y9=>wk y9 vc) (fun c=>c .undef vc) fun za vd=>aD F (Bo true) za fun q=>aa q false (fun wl=>wl h vd) (fun c=>c .undef vd) fun zb vf=>aa q false (fun wm=>wm p vf) (fun c=>c .undef vf) fun zc vg=>aa q false (fun wn=>aQ zc fun zd=>wn zd vg) (fun c=>c .undef vg) fun ze vh=>aa q false (fun wo=>af .eql zb ze fun zf=>wo zf vh) (fun c=>c .undef vh) fun zg vi=>aD q (Bo true) zg fun r=>aa r false (fun wq=>wq p vi) (fun c=>c .undef vi) fun zh vj=>aa r false (fun wr=>wr h vj) (fun c=>c .undef vj) fun zi vk=>aa r false (fun ws=>bA zh zi fun zj=>ws zj vk) (fun c=>c .undef vk) fun zk vl=>aa r false (fun wt=>af .neq zk (N .u8 61) fun zl=>wt zl vl) (fun c=>c .undef vl) fun zm y=>aD r (Bo true) zm fun zn=>aj zn ( aL y e 5 fun zo=>aC y d zo 5 fun vn=>aL vn d 5 fun w5=>Q (.tup [w5,(Bo false)]) vn) ( bP (aR p none (some h)) fun zq=>p4 [zq] y fun zr v2=>dW [(St []),(.sc (.slice none 0 0))] [(0,1,zr)] fun zs=>aO (.row [(St []),(.sc (.slice none 0 0))] false p5 0) (fun n=>.ptr n 0) v2 fun E v3=>aC v3 E zs 2 fun v4=>af .add h (N .i64 1) fun zt=>bP (aR p (some zt) none) fun zu=>p6 [zu] v4 fun B v5=>aS B 0 fun w9=>aS B 1 fun xa=>aS B 2 fun xb=>aF E 1 fun xc=>aC v5 xc w9 1 fun l=>fu xb fun xd=>aj xd ( aL l e 5 fun xe=>aC l d xe 5 fun vo=>aL vo d 5 fun w6=>Q (.tup [w6,(Bo false)]) vo) ( aF e 2 fun xf=>ah l xf fun xg=>aL l E 2 fun xi=>bM p5 1 [(St []),(.sc (.slice none 0 0))] [(0,2,xi)] fun w0 wa=>aO w0 wa l fun xj v6=>appW p5 2 40 [(St []),(.sc (.slice none 0 0))] false xg xj v6 fun xk v7=>aF e 2 fun xl=>aC v7 xl xk 1 fun v8=>wy [xa] v8))) ( aQ (ae j 0) fun xm=>af .eql xm (N .i64 0) fun s=>aa s false (fun wv=>wv (ae j 0) x) (fun c=>c .undef x) fun xn vp=>aa s false (fun ww=>bA xn (N .i64 0) fun xo=>ww xo vp) (fun c=>c .undef vp) fun xp vq=>aa s false (fun wx=>af .neq xp (N .u8 58) fun xr=>wx xr vq) (fun c=>c .undef vq) fun xs z=>aD s (Bo true) xs fun xt=>aj xt ( aL z e 5 fun xu=>aC z d xu 5 fun vr=>aL vr d 5 fun w7=>Q (.tup [w7,(Bo false)]) vr) ( bP (aR (ae j 0) (some (N .i64 1)) none) fun xv=>aF e 3 fun xw=>aC z xw xv 1 fun v9=>bf (fun wz G m=>aF e 3 fun xx=>ah m xx fun xy=>aQ xy fun xz=>af .lss (ae G 0) xz fun x1=>aj x1 ( aF e 3 fun x3=>ah m x3 fun x4=>bA x4 (ae G 0) fun x5=>p7 [x5] m fun x6 A=>fu x6 fun x7=>aj x7 ( aL A e 5 fun x8=>aC A d x8 5 fun vs=>aL vs d 5 fun w8=>Q (.tup [w8,(Bo false)]) vs) ( af .add (ae G 0) (N .i64 1) fun x2=>wz [x2] A)) ( aL m e 5 fun x9=>aC m d x9 5 fun vt=>aL vt d 5 fun w2=>Q (.tup [w2,(Bo true)]) vt)) [(N .i64 0)] v9))) [y0] v1)))
def nQ (p1:au) (a0 a1:AV) (M0:RM) (Q:ak) : Prop:=p1 [a0,a1] M0 fun c d=>aS c 0 fun e=>aS c 1 fun g=>aS c 2 fun h=>Q (.tup [e,g,h]) d
def nA (p1:au) (a0 a1:AV) (M0:RM) (Q:ak) : Prop:=p1 [a0,a1] M0 fun d c=>Q d c
def tL (p1:Nat) (p2 p3:au) (a0 a1 a2:AV) (M0:RM) (Q:ak) : Prop:=jU p1 a0 fun B y=>aO B y M0 fun h r=>bf (fun z d g=>aF h 2 fun C=>ah g C fun D=>cK D fun E=>af .lss (ae d 1) E fun F=>aj F ( bG (fun p=>aF h 2 fun H=>ah g H fun I=>aM I (ae d 1) 2 fun L=>aF L 0 fun O=>ah g O fun o=>bG (fun j=>aj a1 ( p2 [o] g fun P w=>j [P] w) ( j [o] g)) (fun vt x=>aX .add (ae d 0) (St [59]) fun R=>aX .add R (ae vt 0) fun S=>aX .add S (St [61]) fun U=>bf (fun A e c=>aF h 2 fun V=>ah c V fun W=>aM W (ae d 1) 2 fun X=>aF X 1 fun Y=>ah c Y fun Z=>cK Z fun va=>af .lss (ae e 1) va fun vb=>aj vb ( bG (fun q=>aF h 2 fun vd=>ah c vd fun ve=>aM ve (ae d 1) 2 fun vf=>aF vf 1 fun vg=>ah c vg fun vh=>aM vh (ae e 1) 1 fun vi=>ah c vi fun i=>bG (fun m=>af .gtr (ae e 1) (N .i64 0) fun vj=>aj vj ( aX .add (ae e 0) (St [44]) fun vk=>m [vk] c) ( m [(ae e 0)] c)) (fun vp s=>bG (fun l=>p3 [i,a2] s fun vl n=>aj vl ( aX .add (St [34]) i fun vm=>aX .add vm (St [34]) fun vn=>l [vn] n) ( l [i] n)) (fun vq t=>aX .add (ae vp 0) (ae vq 0) fun vo=>q [vo] t))) (fun vr u=>af .add (ae e 1) (N .i64 1) fun vc=>A [(ae vr 0),vc] u)) ( p [(ae e 0)] c)) [U,(N .i64 0)] x)) (fun vs v=>af .add (ae d 1) (N .i64 1) fun G=>z [(ae vs 0),G] v)) ( Q (ae d 0) g)) [(St []),(N .i64 0)] r
def vB (p1:au) (a0 a1:AV) (M0:RM) (Q:ak) : Prop:=bG (fun d=>bf (fun l c e=>aQ a0 fun m=>af .lss (ae c 0) m fun n=>aj n ( bP (aR a0 (some (ae c 0)) none) fun o=>p1 [o] e fun h g=>aS h 0 fun t=>aS h 1 fun i=>af .add (ae c 0) i fun p=>af .gtr p a1 fun q=>aj q ( d [(ae c 0)] g) ( af .add (ae c 0) i fun r=>l [r] g)) ( d [(ae c 0)] e)) [(N .i64 0)] M0) (fun s j=>Q (ae s 0) j)
def fM (p1:au) (p2:Nat) (a0 a1:AV) (M0:RM) (Q:ak) : Prop:=p1 [a0] M0 fun o c=>jA a0 fun g=>aF g 1 fun h=>ah c h fun i=>appW p2 1 1 [(N .u8 0)] false i a1 c fun j d=>jA a0 fun l=>aF l 1 fun m=>aC d m j 1 fun e=>aQ a1 fun n=>Q (.tup [n,(.sc .nilIface)]) e
def wY (a0:AV) (M0:RM) (Q:ak) : Prop:=aQ a0 fun xm=>af .eql xm (N .i64 0) fun v6=>aj v6 ( Q (N .i64 0) M0) ( bA a0 (N .i64 0) fun v7=>iH .i64 v7 fun d=>af .lss d (N .i64 128) fun v8=>aj v8 ( Q (N .i64 1) M0) ( bG (fun n=>af .geq d (N .i64 194) fun q=>aa q true (fun c=>c d M0) (fun c=>c .undef M0) fun v9 x=>aa q true (fun ve=>af .lss v9 (N .i64 224) fun wa=>ve wa x) (fun c=>c .undef x) fun wb o=>aD q wb (Bo false) fun wc=>aj wc ( af .sub d (N .i64 192) fun wd=>n [(N .i64 2),wd] o) ( af .geq d (N .i64 224) fun r=>aa r true (fun vm=>vm d o) (fun c=>c .undef o) fun we O=>aa r true (fun vv=>af .lss we (N .i64 240) fun wf=>vv wf O) (fun c=>c .undef O) fun wg p=>aD r wg (Bo false) fun wh=>aj wh ( af .sub d (N .i64 224) fun wi=>n [(N .i64 3),wi] p) ( af .geq d (N .i64 240) fun s=>aa s true (fun v4=>v4 d p) (fun c=>c .undef p) fun wj vd=>aa s true (fun vf=>af .lss wj (N .i64 245) fun wk=>vf wk vd) (fun c=>c .undef vd) fun wl y=>aD s wl (Bo false) fun wm=>aj wm ( af .sub d (N .i64 240) fun wn=>n [(N .i64 4),wn] y) ( Q (N .i64 0) y)))) (fun g z=>aQ a0 fun wo=>af .lss wo (ae g 0) fun wp=>aj wp ( Q (N .i64 0) z) ( bf (fun v5 e m=>af .lss (ae e 1) (ae g 0) fun wq=>aj wq ( bA a0 (ae e 1) fun ws=>iH .i64 ws fun t=>af .lss t (N .i64 128) fun u=>aa u false (fun vg=>vg t m) (fun c=>c .undef m) fun wt A=>aa u false (fun vh=>af .gtr wt (N .i64 191) fun wu=>vh wu A) (fun c=>c .undef A) fun wv B=>aD u (Bo true) wv fun ww=>aj ww ( Q (N .i64 0) B) ( af .mul (N .i64 64) (ae e 0) fun wx=>af .add wx t fun wy=>af .sub wy (N .i64 128) fun wz=>af .add (ae e 1) (N .i64 1) fun wr=>v5 [wz,wr] B)) ( af .eql (ae g 0) (N .i64 3) fun h=>aa h true (fun vi=>vi (ae e 0) m) (fun c=>c .undef m) fun w0 C=>aa h true (fun vj=>af .lss w0 (N .i64 2048) fun w1=>vj w1 C) (fun c=>c .undef C) fun w2 D=>aa h true (fun vk=>vk w2 D) (fun c=>c .undef D) fun i E=>aa i false (fun vl=>vl (ae e 0) E) (fun c=>c .undef E) fun w3 F=>aa i false (fun vn=>af .geq w3 (N .i64 55296) fun w4=>vn w4 F) (fun c=>c .undef F) fun w5 G=>aa i false (fun vo=>vo w5 G) (fun c=>c .undef G) fun v H=>aa v true (fun vp=>vp (ae e 0) H) (fun c=>c .undef H) fun w6 I=>aa v true (fun vq=>af .lss w6 (N .i64 57344) fun w7=>vq w7 I) (fun c=>c .undef I) fun w8 L=>aa i false (fun vr=>aD v w8 (Bo false) fun w9=>vr w9 L) (fun c=>c .undef L) fun xa P=>aa h true (fun vs=>aD i (Bo true) xa fun xb=>vs xb P) (fun c=>c .undef P) fun xc R=>aD h xc (Bo false) fun j=>aa j false (fun vt=>vt (ae g 0) R) (fun c=>c .undef R) fun xd S=>aa j false (fun vu=>af .eql xd (N .i64 4) fun xe=>vu xe S) (fun c=>c .undef S) fun xf U=>aa j false (fun vw=>vw xf U) (fun c=>c .undef U) fun l V=>aa l true (fun vx=>vx (ae e 0) V) (fun c=>c .undef V) fun xg W=>aa l true (fun vy=>af .lss xg (N .i64 65536) fun xh=>vy xh W) (fun c=>c .undef W) fun xi X=>aa l true (fun vz=>vz xi X) (fun c=>c .undef X) fun w Y=>aa w false (fun v0=>v0 (ae e 0) Y) (fun c=>c .undef Y) fun xj Z=>aa w false (fun v1=>af .gtr xj (N .i64 1114111) fun xk=>v1 xk Z) (fun c=>c .undef Z) fun xl va=>aa l true (fun v2=>aD w (Bo true) xl fun xn=>v2 xn va) (fun c=>c .undef va) fun xo vb=>aa j false (fun v3=>aD l xo (Bo false) fun xp=>v3 xp vb) (fun c=>c .undef vb) fun xq vc=>aD j (Bo true) xq fun xr=>aj xr ( Q (N .i64 0) vc) ( Q (ae g 0) vc))) [(ae g 1),(N .i64 1)] z))))
def jy (p1:au) (p2:Nat) (a0:AV) (M0:RM) (Q:ak) : Prop:=jA a0 fun o=>aF o 0 fun p=>ah M0 p fun q=>jf false 1 q (.sc (.pointer none)) fun r=>aj r ( aaa M0 a0 fun s=>p1 [s] M0 fun e c=>aad p2 2 c e fun g=>jA a0 fun h=>aF h 0 fun i=>aC c i g 1 fun d=>Q (.tup []) d) ( jA a0 fun j=>aF j 0 fun l=>ah M0 l fun m=>jf true 1 m a0 fun n=>aj n ( False) ( Q (.tup []) M0))
def kI (p1:au) (a0 a1:AV) (M0:RM) (Q:ak) : Prop:=p1 [a0,a1] M0 fun d c=>Q d c
def qJ (p1:au) (a0:AV) (M0:RM) (Q:ak) : Prop:=aQ a0 fun z=>af .geq z (N .i64 1) fun e=>aa e true (fun c=>c a0 M0) (fun c=>c .undef M0) fun A g=>aa e true (fun o=>aQ A fun B=>o B g) (fun c=>c .undef g) fun C i=>aa e true (fun q=>af .leq C (N .i64 20) fun D=>q D i) (fun c=>c .undef i) fun E j=>aD e E (Bo false) fun d=>aa d true (fun r=>r a0 j) (fun c=>c .undef j) fun t l=>aa d true (fun s=>p1 [t,(St [97,98,99,100,101,102,103,104,105,106,107,108,109,110,111,112,113,114,115,116,117,118,119,120,121,122,48,49,50,51,52,53,54,55,56,57,45])] l fun u n=>s u n) (fun c=>c .undef l) fun v h=>aa d true (fun p=>aX .eql v (St []) fun w=>p w h) (fun c=>c .undef h) fun x m=>aD d x (Bo false) fun y=>Q y m
def pO (p1:Nat) (p2 p3 p4:au) (a0 a1:AV) (M0:RM) (Q:ak) : Prop:=rR p1 a0 fun x s=>aO x s M0 fun o p=>cK o fun O=>bf (fun w g e=>af .lss (ae g 0) O fun y=>aj y ( aM o (ae g 0) 1 fun z=>ah e z fun n=>p2 [n] e fun A h=>fu A fun d=>aa d false (fun c=>c a1 h) (fun c=>c .undef h) fun B j=>aa d false (fun t=>t n j) (fun c=>c .undef j) fun C l=>aa d false (fun u=>p3 [B,C] l fun D r=>u D r) (fun c=>c .undef l) fun E m=>aa d false (fun v=>af .geq E (N .i64 0) fun F=>v F m) (fun c=>c .undef m) fun G i=>aD d (Bo true) G fun H=>aj H ( Q (Bo false) i) ( af .add (ae g 0) (N .i64 1) fun I=>w [I] i)) ( p4 [a0] e fun L q=>Q L q)) [(N .i64 0)] p
def mq (p1:au) (a0 a1:AV) (M0:RM) (Q:ak) : Prop:=p1 [a0,a1] M0 fun d c=>af .geq d (N .i64 0) fun e=>Q e c
def sD (p1:au) (a0:AV) (M0:RM) (Q:ak) : Prop:=p1 [a0,(St [34])] M0 fun d c=>fu d fun e=>Q e c
def uQ (p1:Nat) (a0:AV) (M0:RM) (Q:ak) : Prop:=rR p1 a0 fun t q=>aO t q M0 fun e n=>cK e fun F=>bf (fun s g c=>af .lss (ae g 0) F fun u=>aj u ( bG (fun j=>aM e (ae g 0) 1 fun v=>ah c v fun h=>af .geq h (N .u8 97) fun i=>aa i true (fun d=>d h c) (fun d=>d .undef c) fun w l=>aa i true (fun r=>af .leq w (N .u8 122) fun x=>r x l) (fun d=>d .undef l) fun y m=>aD i y (Bo false) fun z=>aj z ( af .add h (N .u8 65) fun A=>af .sub A (N .u8 97) fun B=>aM e (ae g 0) 1 fun C=>aC m C B 1 fun o=>j [] o) ( j [] m)) (fun G p=>af .add (ae g 0) (N .i64 1) fun D=>s [D] p)) ( oF c e fun E=>Q E c)) [(N .i64 0)] n
def iK (p1:au) (a0 a1:AV) (M0:RM) (Q:ak) : Prop:=p1 [a0,a1] M0 fun d c=>af .geq d (N .i64 0) fun e=>Q e c
def yJ (p1 p2:au) (a0:AV) (M0:RM) (Q:ak) : Prop:=aQ a0 fun n=>p1 [a0] M0 fun o e=>p2 [o,(St [97,98,99,100,101,102,103,104,105,106,107,108,109,110,111,112,113,114,115,116,117,118,119,120,121,122,48,49,50,51,52,53,54,55,56,57,45])] e fun p g=>aQ p fun i=>af .sub n i fun c=>bP (aR a0 none (some c)) fun j=>bP (aR a0 (some c) none) fun d=>p1 [j] g fun l h=>bP (aR a0 (some c) none) fun m=>(m=d∧Q (.tup [l,d]) h)
def nY (p1:au) (a0 a1:AV) (M0:RM) (Q:ak) : Prop:=p1 [a0,a1] M0 fun d c=>Q d c
def sM (p1:au) (p2:Nat) (p3 p4 p5:au) (p6:Nat) (a0:AV) (M0:RM) (Q:ak) : Prop:=bf (fun O e v=>p1 [(ae e 0),(St [59])] v fun U m=>aj U ( aO (.row [(St []),(.sc (.slice none 0 0))] false p2 0) (fun F=>.ptr F 0) m fun d w=>bP (aR (ae e 0) (some (N .i64 1)) none) fun V=>p3 [V] w fun s A=>aS s 0 fun W=>aS s 1 fun t=>aF d 0 fun X=>aC A X W 1 fun o=>aF d 0 fun Y=>ah o Y fun Z=>p4 [Z] o fun va p=>fu va fun h=>aa h false (fun c=>c t p) (fun c=>c .undef p) fun vb q=>aa h false (fun L=>p1 [vb,(St [61])] q fun vc E=>L vc E) (fun c=>c .undef q) fun vd r=>aa h false (fun I=>fu vd fun ve=>I ve r) (fun c=>c .undef r) fun vf n=>aD h (Bo true) vf fun vg=>aj vg ( Q (.tup [(.sc (.slice none 0 0)),(St []),(Bo false)]) n) ( bf (fun P g i=>aj (ae g 2) ( bP (aR (ae g 0) (some (N .i64 1)) none) fun vi=>p5 [vi] i fun l j=>aS l 0 fun vj=>aS l 1 fun u=>aS l 2 fun vk=>fu vk fun vl=>aj vl ( Q (.tup [(.sc (.slice none 0 0)),(St []),(Bo false)]) j) ( aF d 1 fun vm=>ah j vm fun vn=>bM p6 1 [(St [])] [(0,1,vj)] fun R G=>aO R G j fun vo x=>appW p6 1 16 [(St [])] false vn vo x fun vp y=>aF d 1 fun vq=>aC y vq vp 1 fun z=>p1 [u,(St [44])] z fun vh B=>P [u,(ae g 1),vh] B)) ( aL i d 2 fun vr=>bM p2 1 [(St []),(.sc (.slice none 0 0))] [(0,2,vr)] fun S H=>aO S H i fun vs C=>appW p2 2 40 [(St []),(.sc (.slice none 0 0))] false (ae g 1) vs C fun vt D=>O [(ae g 0),vt] D)) [t,(ae e 1),(Bo true)] n)) ( Q (.tup [(ae e 1),(ae e 0),(Bo true)]) m)) [a0,(.sc (.slice none 0 0))] M0
def xS (a0:AV) (M0:RM) (Q:ak) : Prop:=bf (fun wl e n=>aQ a0 fun x5=>af .lss (ae e 0) x5 fun d=>aa d true (fun c=>c a0 n) (fun c=>c .undef n) fun x6 o=>aa d true (fun vi=>vi (ae e 0) o) (fun c=>c .undef o) fun wm t=>aa d true (fun vr=>bA x6 wm fun wn=>vr wn t) (fun c=>c .undef t) fun wo G=>aa d true (fun v4=>af .geq wo (N .u8 97) fun wp=>v4 wp G) (fun c=>c .undef G) fun wq Z=>aa d true (fun wh=>wh wq Z) (fun c=>c .undef Z) fun i p=>aa i true (fun vj=>vj a0 p) (fun c=>c .undef p) fun wr q=>aa i true (fun vk=>vk (ae e 0) q) (fun c=>c .undef q) fun ws r=>aa i true (fun vl=>bA wr ws fun wt=>vl wt r) (fun c=>c .undef r) fun wu s=>aa i true (fun vm=>af .leq wu (N .u8 122) fun wv=>vm wv s) (fun c=>c .undef s) fun ww u=>aa d true (fun vn=>aD i ww (Bo false) fun wx=>vn wx u) (fun c=>c .undef u) fun wy v=>aa d true (fun vo=>vo wy v) (fun c=>c .undef v) fun g w=>aa g false (fun vp=>vp a0 w) (fun c=>c .undef w) fun wz x=>aa g false (fun vq=>vq (ae e 0) x) (fun c=>c .undef x) fun w0 y=>aa g false (fun vs=>bA wz w0 fun w1=>vs w1 y) (fun c=>c .undef y) fun w2 z=>aa g false (fun vt=>af .geq w2 (N .u8 65) fun w3=>vt w3 z) (fun c=>c .undef z) fun w4 A=>aa g false (fun vu=>vu w4 A) (fun c=>c .undef A) fun j B=>aa j true (fun vv=>vv a0 B) (fun c=>c .undef B) fun w5 C=>aa j true (fun vw=>vw (ae e 0) C) (fun c=>c .undef C) fun w6 D=>aa j true (fun vx=>bA w5 w6 fun w7=>vx w7 D) (fun c=>c .undef D) fun w8 E=>aa j true (fun vy=>af .leq w8 (N .u8 90) fun w9=>vy w9 E) (fun c=>c .undef E) fun xa F=>aa g false (fun vz=>aD j xa (Bo false) fun xb=>vz xb F) (fun c=>c .undef F) fun xc H=>aa d true (fun v0=>aD g (Bo true) xc fun xd=>v0 xd H) (fun c=>c .undef H) fun xe I=>aa d true (fun v1=>v1 xe I) (fun c=>c .undef I) fun h L=>aa h false (fun v2=>v2 a0 L) (fun c=>c .undef L) fun xf O=>aa h false (fun v3=>v3 (ae e 0) O) (fun c=>c .undef O) fun xg P=>aa h false (fun v5=>bA xf xg fun xh=>v5 xh P) (fun c=>c .undef P) fun xi R=>aa h false (fun v6=>af .geq xi (N .u8 48) fun xj=>v6 xj R) (fun c=>c .undef R) fun xk S=>aa h false (fun v7=>v7 xk S) (fun c=>c .undef S) fun l U=>aa l true (fun v8=>v8 a0 U) (fun c=>c .undef U) fun xl V=>aa l true (fun v9=>v9 (ae e 0) V) (fun c=>c .undef V) fun xm W=>aa l true (fun wa=>bA xl xm fun xn=>wa xn W) (fun c=>c .undef W) fun xo X=>aa l true (fun wb=>af .leq xo (N .u8 57) fun xp=>wb xp X) (fun c=>c .undef X) fun xq Y=>aa h false (fun wc=>aD l xq (Bo false) fun xr=>wc xr Y) (fun c=>c .undef Y) fun xs va=>aa d true (fun wd=>aD h (Bo true) xs fun xt=>wd xt va) (fun c=>c .undef va) fun xu vb=>aa d true (fun we=>we xu vb) (fun c=>c .undef vb) fun m vc=>aa m false (fun wf=>wf a0 vc) (fun c=>c .undef vc) fun xv vd=>aa m false (fun wg=>wg (ae e 0) vd) (fun c=>c .undef vd) fun xw ve=>aa m false (fun wi=>bA xv xw fun xx=>wi xx ve) (fun c=>c .undef ve) fun xy vf=>aa m false (fun wj=>af .eql xy (N .u8 45) fun xz=>wj xz vf) (fun c=>c .undef vf) fun x0 vg=>aa d true (fun wk=>aD m (Bo true) x0 fun x1=>wk x1 vg) (fun c=>c .undef vg) fun x2 vh=>aD d x2 (Bo false) fun x3=>aj x3 ( af .add (ae e 0) (N .i64 1) fun x4=>wl [x4] vh) ( Q (ae e 0) vh)) [(N .i64 0)] M0
def Af (p1:Nat) (a0:AV) (M0:RM) (Q:ak) : Prop:=rR p1 a0 fun y s=>aO y s M0 fun e p=>bf (fun x g h=>cK e fun X=>af .lss (ae g 0) X fun z=>aj z ( bG (fun l=>aM e (ae g 0) 1 fun B=>ah h B fun C=>af .geq C (N .u8 65) fun d=>aa d true (fun c=>c e h) (fun c=>c .undef h) fun D m=>aa d true (fun u=>u (ae g 0) m) (fun c=>c .undef m) fun E n=>aa d true (fun v=>aM D E 1 fun F=>v F n) (fun c=>c .undef n) fun G j=>aa d true (fun w=>ah j G fun H=>w H j) (fun c=>c .undef j) fun I o=>aa d true (fun t=>af .leq I (N .u8 90) fun L=>t L o) (fun c=>c .undef o) fun O i=>aD d O (Bo false) fun P=>aj P ( aM e (ae g 0) 1 fun R=>ah i R fun S=>af .add S (N .u8 32) fun U=>aM e (ae g 0) 1 fun V=>aC i V U 1 fun q=>l [] q) ( l [] i)) (fun Y r=>af .add (ae g 0) (N .i64 1) fun A=>x [A] r)) ( oF h e fun W=>Q W h)) [(N .i64 0)] p
def tH (p1:au) (p2:Nat) (a0:AV) (M0:RM) (Q:ak) : Prop:=bf (fun wy d v=>bG (fun u=>aQ (ae d 0) fun y1=>af .gtr y1 (N .i64 0) fun q=>aa q true (fun c=>c (ae d 0) v) (fun c=>c .undef v) fun w8 w=>aa q true (fun vx=>bA w8 (N .i64 0) fun w9=>vx w9 w) (fun c=>c .undef w) fun xa H=>aa q true (fun wc=>af .eql xa (N .u8 34) fun xb=>wc xb H) (fun c=>c .undef H) fun xc Z=>aD q xc (Bo false) fun xd=>aj xd ( bf (fun w0 g vm=>aQ (ae d 0) fun xe=>af .lss (ae g 0) xe fun h=>aa h true (fun vy=>vy (ae d 0) vm) (fun c=>c .undef vm) fun xf A=>aa h true (fun v1=>v1 (ae g 0) A) (fun c=>c .undef A) fun xg B=>aa h true (fun v2=>bA xf xg fun xh=>v2 xh B) (fun c=>c .undef B) fun xi C=>aa h true (fun v3=>af .neq xi (N .u8 34) fun xj=>v3 xj C) (fun c=>c .undef C) fun xk D=>aD h xk (Bo false) fun i=>aa i true (fun v4=>v4 (ae d 0) D) (fun c=>c .undef D) fun xl E=>aa i true (fun v5=>v5 (ae g 0) E) (fun c=>c .undef E) fun xm F=>aa i true (fun v6=>bA xl xm fun xn=>v6 xn F) (fun c=>c .undef F) fun xo G=>aa i true (fun v7=>p1 [xo] G fun xp vs=>v7 xp vs) (fun c=>c .undef G) fun xq t=>aD i xq (Bo false) fun xr=>aj xr ( af .add (ae g 0) (N .i64 1) fun xs=>w0 [xs] t) ( aQ (ae d 0) fun xt=>af .eql (ae g 0) xt fun j=>aa j false (fun v8=>v8 (ae d 0) t) (fun c=>c .undef t) fun xu I=>aa j false (fun v9=>v9 (ae g 0) I) (fun c=>c .undef I) fun xv L=>aa j false (fun wa=>bA xu xv fun xw=>wa xw L) (fun c=>c .undef L) fun xx O=>aa j false (fun wb=>af .neq xx (N .u8 34) fun xy=>wb xy O) (fun c=>c .undef O) fun xz P=>aD j (Bo true) xz fun x0=>aj x0 ( Q (.tup [(.sc (.slice none 0 0)),(St []),(Bo false)]) P) ( bP (aR (ae d 0) (some (N .i64 1)) (some (ae g 0))) fun x1=>af .add (ae g 0) (N .i64 1) fun x2=>u [x2,x1] P))) [(N .i64 1)] Z) ( bf (fun wz e R=>aQ (ae d 0) fun x3=>af .lss (ae e 0) x3 fun l=>aa l true (fun wd=>wd (ae d 0) R) (fun c=>c .undef R) fun x4 S=>aa l true (fun we=>we (ae e 0) S) (fun c=>c .undef S) fun x5 U=>aa l true (fun wf=>bA x4 x5 fun x6=>wf x6 U) (fun c=>c .undef U) fun x7 V=>aa l true (fun wg=>p1 [x7] V fun x8 vt=>wg x8 vt) (fun c=>c .undef V) fun x9 W=>aD l x9 (Bo false) fun m=>aa m true (fun wh=>wh (ae d 0) W) (fun c=>c .undef W) fun ya X=>aa m true (fun wi=>wi (ae e 0) X) (fun c=>c .undef X) fun yb Y=>aa m true (fun wj=>bA ya yb fun yc=>wj yc Y) (fun c=>c .undef Y) fun yd va=>aa m true (fun wk=>af .neq yd (N .u8 34) fun ye=>wk ye va) (fun c=>c .undef va) fun yf vb=>aD m yf (Bo false) fun n=>aa n true (fun wl=>wl (ae d 0) vb) (fun c=>c .undef vb) fun yg vc=>aa n true (fun wm=>wm (ae e 0) vc) (fun c=>c .undef vc) fun yh vd=>aa n true (fun wn=>bA yg yh fun yi=>wn yi vd) (fun c=>c .undef vd) fun yj ve=>aa n true (fun wo=>af .neq yj (N .u8 44) fun yk=>wo yk ve) (fun c=>c .undef ve) fun yl vf=>aD n yl (Bo false) fun o=>aa o true (fun wp=>wp (ae d 0) vf) (fun c=>c .undef vf) fun ym vg=>aa o true (fun wq=>wq (ae e 0) vg) (fun c=>c .undef vg) fun yn vh=>aa o true (fun wr=>bA ym yn fun yo=>wr yo vh) (fun c=>c .undef vh) fun yp vi=>aa o true (fun ws=>af .neq yp (N .u8 59) fun yq=>ws yq vi) (fun c=>c .undef vi) fun yr vj=>aD o yr (Bo false) fun p=>aa p true (fun wt=>wt (ae d 0) vj) (fun c=>c .undef vj) fun ys vk=>aa p true (fun wu=>wu (ae e 0) vk) (fun c=>c .undef vk) fun yt vl=>aa p true (fun wv=>bA ys yt fun yu=>wv yu vl) (fun c=>c .undef vl) fun yv vn=>aa p true (fun ww=>af .neq yv (N .u8 58) fun yw=>ww yw vn) (fun c=>c .undef vn) fun yx vo=>aD p yx (Bo false) fun yy=>aj yy ( af .add (ae e 0) (N .i64 1) fun yz=>wz [yz] vo) ( bP (aR (ae d 0) none (some (ae e 0))) fun y0=>u [(ae e 0),y0] vo)) [(N .i64 0)] Z)) (fun vr vu=>bM p2 1 [(St [])] [(0,1,(ae vr 1))] fun w1 vw=>aO w1 vw vu fun y2 vv=>appW p2 1 16 [(St [])] false (ae d 1) y2 vv fun vq vp=>bP (aR (ae d 0) (some (ae vr 0)) none) fun r=>aQ r fun y3=>af .eql y3 (N .i64 0) fun s=>aa s false (fun wx=>wx r vp) (fun c=>c .undef vp) fun y4 x=>aa s false (fun vz=>bA y4 (N .i64 0) fun w2=>vz w2 x) (fun c=>c .undef x) fun w3 y=>aa s false (fun v0=>af .neq w3 (N .u8 44) fun w4=>v0 w4 y) (fun c=>c .undef y) fun w5 z=>aD s (Bo true) w5 fun w6=>aj w6 ( Q (.tup [vq,r,(Bo true)]) z) ( bP (aR r (some (N .i64 1)) none) fun w7=>wy [w7,vq] z))) [a0,(.sc (.slice none 0 0))] M0
def uT (a0:AV) (M0:RM) (Q:ak) : Prop:=af .eql a0 (N .u8 9) fun d=>aa d false (fun c=>c a0 M0) (fun c=>c .undef M0) fun x g=>aa d false (fun n=>af .geq x (N .u8 32) fun y=>n y g) (fun c=>c .undef g) fun z h=>aa d false (fun p=>p z h) (fun c=>c .undef h) fun e i=>aa e true (fun q=>q a0 i) (fun c=>c .undef i) fun A j=>aa e true (fun r=>af .neq A (N .u8 127) fun s=>r s j) (fun c=>c .undef j) fun t l=>aa d false (fun o=>aD e t (Bo false) fun u=>o u l) (fun c=>c .undef l) fun v m=>aD d (Bo true) v fun w=>Q w m
def gJ (p1:au) (a0 a1:AV) (M0:RM) (Q:ak) : Prop:=p1 [a0,a1] M0 fun c d=>af .geq c (N .i64 0) fun e=>aj e ( bP (aR a0 none (some c)) fun g=>aQ a1 fun h=>af .add c h fun i=>bP (aR a0 (some i) none) fun j=>Q (.tup [g,j,(Bo true)]) d) ( Q (.tup [a0,(St []),(Bo false)]) d)
def iB (p1:au) (a0 a1:AV) (M0:RM) (Q:ak) : Prop:=p1 [a0,a1] M0 fun i c=>aj i ( aQ a0 fun d=>aQ a1 fun e=>af .sub d e fun g=>bP (aR a0 none (some g)) fun h=>Q h c) ( Q a0 c)
def Ay (a0 a1:AV) (M0:RM) (Q:ak) : Prop:=bf (fun h d g=>aQ a0 fun s=>af .lss (ae d 0) s fun j=>aj j ( bf (fun i e c=>aQ a1 fun m=>af .lss (ae e 0) m fun n=>aj n ( bA a0 (ae d 0) fun p=>bA a1 (ae e 0) fun q=>af .eql p q fun r=>aj r ( Q (Bo true) c) ( af .add (ae e 0) (N .i64 1) fun o=>i [o] c)) ( af .add (ae d 0) (N .i64 1) fun l=>h [l] c)) [(N .i64 0)] g) ( Q (Bo false) g)) [(N .i64 0)] M0
def Bn (p1 p2 p3:au) (p4:Nat) (p5 p6 p7 p8:au) (a0 a1:AV) (M0:RM) (Q:ak) : Prop:=aX .eql a0 (St []) fun h=>aa h false (fun c=>c a1 M0) (fun c=>c .undef M0) fun C i=>aa h false (fun y=>aX .eql C (St []) fun D=>y D i) (fun c=>c .undef i) fun E e=>aD h (Bo true) E fun F=>aj F ( Q a0 e) ( aQ a1 fun G=>af .eql G (N .i64 1) fun d=>aa d true (fun z=>z a1 e) (fun c=>c .undef e) fun H m=>aa d true (fun A=>bA H (N .i64 0) fun I=>A I m) (fun c=>c .undef m) fun L n=>aa d true (fun B=>af .lss L (N .u8 128) fun O=>B O n) (fun c=>c .undef n) fun P j=>aD d P (Bo false) fun R=>aj R ( bA a1 (N .i64 0) fun S=>bA a1 (N .i64 0) fun V=>p1 [a0,S] j fun U p=>p2 [U,V] p fun W q=>Q W q) ( p3 [a1] j fun o r=>aS o 0 fun X=>aS o 1 fun Y=>aO (.row [(Bo false),(Bo false),(Bo false),(Bo false),(Bo false),(Bo false),(Bo false),(Bo false),(Bo false),(Bo false),(Bo false),(Bo false),(Bo false),(Bo false),(Bo false),(Bo false),(Bo false),(Bo false),(Bo false),(Bo false),(Bo false),(Bo false),(Bo false),(Bo false),(Bo false),(Bo false),(Bo false),(Bo false),(Bo false),(Bo false),(Bo false),(Bo false),(Bo false),(Bo false),(Bo false),(Bo false),(Bo false),(Bo false),(Bo false),(Bo false),(Bo false),(Bo false),(Bo false),(Bo false),(Bo false),(Bo false),(Bo false),(Bo false),(Bo false),(Bo false),(Bo false),(Bo false),(Bo false),(Bo false),(Bo false),(Bo false),(Bo false),(Bo false),(Bo false),(Bo false),(Bo false),(Bo false),(Bo false),(Bo false),(Bo false),(Bo false),(Bo false),(Bo false),(Bo false),(Bo false),(Bo false),(Bo false),(Bo false),(Bo false),(Bo false),(Bo false),(Bo false),(Bo false),(Bo false),(Bo false),(Bo false),(Bo false),(Bo false),(Bo false),(Bo false),(Bo false),(Bo false),(Bo false),(Bo false),(Bo false),(Bo false),(Bo false),(Bo false),(Bo false),(Bo false),(Bo false),(Bo false),(Bo false),(Bo false),(Bo false),(Bo false),(Bo false),(Bo false),(Bo false),(Bo false),(Bo false),(Bo false),(Bo false),(Bo false),(Bo false),(Bo false),(Bo false),(Bo false),(Bo false),(Bo false),(Bo false),(Bo false),(Bo false),(Bo false),(Bo false),(Bo false),(Bo false),(Bo false),(Bo false),(Bo false),(Bo false),(Bo false),(Bo false),(Bo false),(Bo false),(Bo false),(Bo false),(Bo false),(Bo false),(Bo false),(Bo false),(Bo false),(Bo false),(Bo false),(Bo false),(Bo false),(Bo false),(Bo false),(Bo false),(Bo false),(Bo false),(Bo false),(Bo false),(Bo false),(Bo false),(Bo false),(Bo false),(Bo false),(Bo false),(Bo false),(Bo false),(Bo false),(Bo false),(Bo false),(Bo false),(Bo false),(Bo false),(Bo false),(Bo false),(Bo false),(Bo false),(Bo false),(Bo false),(Bo false),(Bo false),(Bo false),(Bo false),(Bo false),(Bo false),(Bo false),(Bo false),(Bo false),(Bo false),(Bo false),(Bo false),(Bo false),(Bo false),(Bo false),(Bo false),(Bo false),(Bo false),(Bo false),(Bo false),(Bo false),(Bo false),(Bo false),(Bo false),(Bo false),(Bo false),(Bo false),(Bo false),(Bo false),(Bo false),(Bo false),(Bo false),(Bo false),(Bo false),(Bo false),(Bo false),(Bo false),(Bo false),(Bo false),(Bo false),(Bo false),(Bo false),(Bo false),(Bo false),(Bo false),(Bo false),(Bo false),(Bo false),(Bo false),(Bo false),(Bo false),(Bo false),(Bo false),(Bo false),(Bo false),(Bo false),(Bo false),(Bo false),(Bo false),(Bo false),(Bo false),(Bo false),(Bo false),(Bo false),(Bo false),(Bo false),(Bo false),(Bo false),(Bo false),(Bo false),(Bo false),(Bo false),(Bo false),(Bo false),(Bo false),(Bo false),(Bo false),(Bo false),(Bo false),(Bo false),(Bo false),(Bo false),(Bo false),(Bo false),(Bo false),(Bo false),(Bo false),(Bo false)] false p4 0) (fun x=>.ptr x 0) r fun g s=>aC s g X 256 fun l=>aj Y ( p5 [a0,g] l fun Z t=>p6 [Z,g] t fun va u=>Q va u) ( p7 [a0,a1] l fun vb v=>p8 [vb,a1] v fun vc w=>Q vc w)))
def uP (a0:AV) (M0:RM) (Q:ak) : Prop:=af .geq a0 (N .u8 32) fun d=>aa d true (fun c=>c a0 M0) (fun c=>c .undef M0) fun s g=>aa d true (fun l=>af .neq s (N .u8 127) fun t=>l t g) (fun c=>c .undef g) fun u h=>aD d u (Bo false) fun e=>aa e false (fun m=>m a0 h) (fun c=>c .undef h) fun o i=>aa e false (fun n=>af .eql o (N .u8 9) fun p=>n p i) (fun c=>c .undef i) fun q j=>aD e (Bo true) q fun r=>Q r j
def oG (cv:(FuncId→au)) (a0 a1:AV) (M0:RM) (Q:ak) : Prop:=cK a0 fun m=>bf (fun g c d=>af .lss (ae c 0) m fun n=>aj n ( aM a0 (ae c 0) 1 fun h=>ah d h fun i=>NZ cv a1 [i] d fun j e=>aj j ( Q (ae c 0) e) ( af .add (ae c 0) (N .i64 1) fun l=>g [l] e)) ( Q (N .i64 (-1)) d)) [(N .i64 0)] M0
def oI (p1 p2 p3:au) (p4:Nat) (p5:au) (a0 a1:AV) (M0:RM) (Q:ak) : Prop:=aX .eql a1 (St []) fun D=>aj D ( Q (N .i64 (-1)) M0) ( aQ a1 fun E=>af .eql E (N .i64 1) fun F=>aj F ( bA a1 (N .i64 0) fun G=>iH .i32 G fun o=>bG (fun e=>af .geq o (N .i32 128) fun H=>aj H ( e [(N .i32 65533)] M0) ( e [o] M0)) (fun ve r=>p1 [a0,(ae ve 0)] r fun I s=>Q I s)) ( bG (fun g=>aQ a0 fun L=>p2 [L] M0 fun O j=>aj O ( p3 [a1] j fun p w=>aS p 0 fun P=>aS p 1 fun R=>aO (.row [(Bo false),(Bo false),(Bo false),(Bo false),(Bo false),(Bo false),(Bo false),(Bo false),(Bo false),(Bo false),(Bo false),(Bo false),(Bo false),(Bo false),(Bo false),(Bo false),(Bo false),(Bo false),(Bo false),(Bo false),(Bo false),(Bo false),(Bo false),(Bo false),(Bo false),(Bo false),(Bo false),(Bo false),(Bo false),(Bo false),(Bo false),(Bo false),(Bo false),(Bo false),(Bo false),(Bo false),(Bo false),(Bo false),(Bo false),(Bo false),(Bo false),(Bo false),(Bo false),(Bo false),(Bo false),(Bo false),(Bo false),(Bo false),(Bo false),(Bo false),(Bo false),(Bo false),(Bo false),(Bo false),(Bo false),(Bo false),(Bo false),(Bo false),(Bo false),(Bo false),(Bo false),(Bo false),(Bo false),(Bo false),(Bo false),(Bo false),(Bo false),(Bo false),(Bo false),(Bo false),(Bo false),(Bo false),(Bo false),(Bo false),(Bo false),(Bo false),(Bo false),(Bo false),(Bo false),(Bo false),(Bo false),(Bo false),(Bo false),(Bo false),(Bo false),(Bo false),(Bo false),(Bo false),(Bo false),(Bo false),(Bo false),(Bo false),(Bo false),(Bo false),(Bo false),(Bo false),(Bo false),(Bo false),(Bo false),(Bo false),(Bo false),(Bo false),(Bo false),(Bo false),(Bo false),(Bo false),(Bo false),(Bo false),(Bo false),(Bo false),(Bo false),(Bo false),(Bo false),(Bo false),(Bo false),(Bo false),(Bo false),(Bo false),(Bo false),(Bo false),(Bo false),(Bo false),(Bo false),(Bo false),(Bo false),(Bo false),(Bo false),(Bo false),(Bo false),(Bo false),(Bo false),(Bo false),(Bo false),(Bo false),(Bo false),(Bo false),(Bo false),(Bo false),(Bo false),(Bo false),(Bo false),(Bo false),(Bo false),(Bo false),(Bo false),(Bo false),(Bo false),(Bo false),(Bo false),(Bo false),(Bo false),(Bo false),(Bo false),(Bo false),(Bo false),(Bo false),(Bo false),(Bo false),(Bo false),(Bo false),(Bo false),(Bo false),(Bo false),(Bo false),(Bo false),(Bo false),(Bo false),(Bo false),(Bo false),(Bo false),(Bo false),(Bo false),(Bo false),(Bo false),(Bo false),(Bo false),(Bo false),(Bo false),(Bo false),(Bo false),(Bo false),(Bo false),(Bo false),(Bo false),(Bo false),(Bo false),(Bo false),(Bo false),(Bo false),(Bo false),(Bo false),(Bo false),(Bo false),(Bo false),(Bo false),(Bo false),(Bo false),(Bo false),(Bo false),(Bo false),(Bo false),(Bo false),(Bo false),(Bo false),(Bo false),(Bo false),(Bo false),(Bo false),(Bo false),(Bo false),(Bo false),(Bo false),(Bo false),(Bo false),(Bo false),(Bo false),(Bo false),(Bo false),(Bo false),(Bo false),(Bo false),(Bo false),(Bo false),(Bo false),(Bo false),(Bo false),(Bo false),(Bo false),(Bo false),(Bo false),(Bo false),(Bo false),(Bo false),(Bo false),(Bo false),(Bo false),(Bo false),(Bo false),(Bo false),(Bo false),(Bo false),(Bo false),(Bo false),(Bo false),(Bo false),(Bo false),(Bo false),(Bo false),(Bo false),(Bo false),(Bo false),(Bo false),(Bo false),(Bo false),(Bo false),(Bo false)] false p4 0) (fun y=>.ptr y 0) w fun q x=>aC x q P 256 fun l=>aj R ( bf (fun A c m=>aQ a0 fun S=>af .lss (ae c 0) S fun U=>aj U ( bA a0 (ae c 0) fun W=>p5 [q,W] m fun X n=>aj X ( Q (ae c 0) n) ( af .add (ae c 0) (N .i64 1) fun V=>A [V] n)) ( Q (N .i64 (-1)) m)) [(N .i64 0)] l) ( g [] l)) ( g [] j)) (fun vg t=>Gc a0 fun C z=>aO C z t fun Y u=>bf (fun B vf v=>EK Y v fun d h=>aS d 0 fun Z=>aj Z ( aS d 1 fun va=>aS d 2 fun vb=>p1 [a1,vb] h fun vc i=>af .geq vc (N .i64 0) fun vd=>aj vd ( Q va i) ( B [] i)) ( Q (N .i64 (-1)) h)) [] u)))
def uo (p1 p2:au) (p3:Nat) (p4 p5:au) (a0 a1:AV) (M0:RM) (Q:ak) : Prop:=aX .eql a0 (St []) fun g=>aa g false (fun c=>c a1 M0) (fun c=>c .undef M0) fun z h=>aa g false (fun v=>aX .eql z (St []) fun A=>v A h) (fun c=>c .undef h) fun B e=>aD g (Bo true) B fun C=>aj C ( Q a0 e) ( aQ a1 fun D=>af .eql D (N .i64 1) fun d=>aa d true (fun w=>w a1 e) (fun c=>c .undef e) fun E l=>aa d true (fun x=>bA E (N .i64 0) fun F=>x F l) (fun c=>c .undef l) fun G m=>aa d true (fun y=>af .lss G (N .u8 128) fun H=>y H m) (fun c=>c .undef m) fun I i=>aD d I (Bo false) fun L=>aj L ( bA a1 (N .i64 0) fun O=>p1 [a0,O] i fun P p=>Q P p) ( p2 [a1] i fun n q=>aS n 0 fun R=>aS n 1 fun S=>aO (.row [(Bo false),(Bo false),(Bo false),(Bo false),(Bo false),(Bo false),(Bo false),(Bo false),(Bo false),(Bo false),(Bo false),(Bo false),(Bo false),(Bo false),(Bo false),(Bo false),(Bo false),(Bo false),(Bo false),(Bo false),(Bo false),(Bo false),(Bo false),(Bo false),(Bo false),(Bo false),(Bo false),(Bo false),(Bo false),(Bo false),(Bo false),(Bo false),(Bo false),(Bo false),(Bo false),(Bo false),(Bo false),(Bo false),(Bo false),(Bo false),(Bo false),(Bo false),(Bo false),(Bo false),(Bo false),(Bo false),(Bo false),(Bo false),(Bo false),(Bo false),(Bo false),(Bo false),(Bo false),(Bo false),(Bo false),(Bo false),(Bo false),(Bo false),(Bo false),(Bo false),(Bo false),(Bo false),(Bo false),(Bo false),(Bo false),(Bo false),(Bo false),(Bo false),(Bo false),(Bo false),(Bo false),(Bo false),(Bo false),(Bo false),(Bo false),(Bo false),(Bo false),(Bo false),(Bo false),(Bo false),(Bo false),(Bo false),(Bo false),(Bo false),(Bo false),(Bo false),(Bo false),(Bo false),(Bo false),(Bo false),(Bo false),(Bo false),(Bo false),(Bo false),(Bo false),(Bo false),(Bo false),(Bo false),(Bo false),(Bo false),(Bo false),(Bo false),(Bo false),(Bo false),(Bo false),(Bo false),(Bo false),(Bo false),(Bo false),(Bo false),(Bo false),(Bo false),(Bo false),(Bo false),(Bo false),(Bo false),(Bo false),(Bo false),(Bo false),(Bo false),(Bo false),(Bo false),(Bo false),(Bo false),(Bo false),(Bo false),(Bo false),(Bo false),(Bo false),(Bo false),(Bo false),(Bo false),(Bo false),(Bo false),(Bo false),(Bo false),(Bo false),(Bo false),(Bo false),(Bo false),(Bo false),(Bo false),(Bo false),(Bo false),(Bo false),(Bo false),(Bo false),(Bo false),(Bo false),(Bo false),(Bo false),(Bo false),(Bo false),(Bo false),(Bo false),(Bo false),(Bo false),(Bo false),(Bo false),(Bo false),(Bo false),(Bo false),(Bo false),(Bo false),(Bo false),(Bo false),(Bo false),(Bo false),(Bo false),(Bo false),(Bo false),(Bo false),(Bo false),(Bo false),(Bo false),(Bo false),(Bo false),(Bo false),(Bo false),(Bo false),(Bo false),(Bo false),(Bo false),(Bo false),(Bo false),(Bo false),(Bo false),(Bo false),(Bo false),(Bo false),(Bo false),(Bo false),(Bo false),(Bo false),(Bo false),(Bo false),(Bo false),(Bo false),(Bo false),(Bo false),(Bo false),(Bo false),(Bo false),(Bo false),(Bo false),(Bo false),(Bo false),(Bo false),(Bo false),(Bo false),(Bo false),(Bo false),(Bo false),(Bo false),(Bo false),(Bo false),(Bo false),(Bo false),(Bo false),(Bo false),(Bo false),(Bo false),(Bo false),(Bo false),(Bo false),(Bo false),(Bo false),(Bo false),(Bo false),(Bo false),(Bo false),(Bo false),(Bo false),(Bo false),(Bo false),(Bo false),(Bo false),(Bo false),(Bo false),(Bo false),(Bo false),(Bo false),(Bo false),(Bo false),(Bo false),(Bo false),(Bo false),(Bo false),(Bo false),(Bo false),(Bo false),(Bo false),(Bo false),(Bo false),(Bo false),(Bo false)] false p3 0) (fun u=>.ptr u 0) q fun o r=>aC r o R 256 fun j=>aj S ( p4 [a0,o] j fun U s=>Q U s) ( p5 [a0,a1] j fun V t=>Q V t)))
def uZ (p1:Nat) (a0:AV) (M0:RM) (Q:ak) : Prop:=rR p1 a0 fun t q=>aO t q M0 fun e n=>cK e fun F=>bf (fun s g c=>af .lss (ae g 0) F fun u=>aj u ( bG (fun j=>aM e (ae g 0) 1 fun v=>ah c v fun h=>af .geq h (N .u8 65) fun i=>aa i true (fun d=>d h c) (fun d=>d .undef c) fun w l=>aa i true (fun r=>af .leq w (N .u8 90) fun x=>r x l) (fun d=>d .undef l) fun y m=>aD i y (Bo false) fun z=>aj z ( af .add h (N .u8 97) fun A=>af .sub A (N .u8 65) fun B=>aM e (ae g 0) 1 fun C=>aC m C B 1 fun o=>j [] o) ( j [] m)) (fun G p=>af .add (ae g 0) (N .i64 1) fun D=>s [D] p)) ( oF c e fun E=>Q E c)) [(N .i64 0)] n
def fe (a0 a1:AV) (M0:RM) (Q:ak) : Prop:=aQ a0 fun B=>aQ a1 fun C=>af .geq B C fun d=>aa d true (fun c=>c a0 M0) (fun c=>c .undef M0) fun r e=>aa d true (fun m=>m a1 e) (fun c=>c .undef e) fun s g=>aa d true (fun o=>aQ s fun t=>o t g) (fun c=>c .undef g) fun u h=>aa d true (fun p=>bP (aR r none (some u)) fun v=>p v h) (fun c=>c .undef h) fun w i=>aa d true (fun q=>q a1 i) (fun c=>c .undef i) fun x j=>aa d true (fun n=>aX .eql w x fun y=>n y j) (fun c=>c .undef j) fun z l=>aD d z (Bo false) fun A=>Q A l
def u7 (p1 p2 p3 p4:au) (a0:AV) (M0:RM) (Q:ak) : Prop:=p1 [a0,(St [34])] M0 fun m h=>aS m 0 fun u=>aS m 1 fun v=>aj v ( p2 [u,(St [34])] h fun e i=>aS e 0 fun n=>aS e 1 fun w=>aS e 2 fun g=>aa g true (fun d=>d n i) (fun d=>d .undef i) fun x j=>aa g true (fun t=>p3 [x,(St [])] j fun y q=>t y q) (fun d=>d .undef j) fun z r=>aD g z (Bo false) fun A=>Q (.tup [n,w,A]) r) ( p4 [a0,(St [44,59,58])] h fun c l=>af .lss c (N .i64 0) fun B=>aj B ( Q (.tup [(St []),(St []),(Bo false)]) l) ( bP (aR a0 none (some c)) fun o=>bP (aR a0 (some c) none) fun p=>bP (aR a0 none (some c)) fun E=>p3 [E,(St [34])] l fun F s=>bP (aR a0 none (some c)) fun C=>(C=o∧bP (aR a0 (some c) none) fun D=>(D=p∧Q (.tup [o,p,F]) s))))
def gX (p1 p2 p3 p4:au) (a0 a1:AV) (M0:RM) (Q:ak) : Prop:=aQ a1 fun e=>af .eql e (N .i64 0) fun q=>aa q false (fun c=>c a1 M0) (fun c=>c .undef M0) fun w2 w=>aa q false (fun vk=>vk a0 w) (fun c=>c .undef w) fun w3 x=>aa q false (fun vn=>aX .eql w2 w3 fun w4=>vn w4 x) (fun c=>c .undef x) fun w5 h=>aD q (Bo true) w5 fun w6=>aj w6 ( Q (N .i64 0) h) ( af .eql e (N .i64 1) fun w7=>aj w7 ( bA a1 (N .i64 0) fun w8=>p1 [a0,w8] h fun w9 vj=>Q w9 vj) ( aQ a0 fun xa=>af .geq e xa fun xb=>aj xb ( Q (N .i64 (-1)) h) ( ah h .top fun xc=>af .leq e xc fun r=>aa r true (fun v3=>v3 a0 h) (fun c=>c .undef h) fun xd vb=>aa r true (fun v8=>aQ xd fun xe=>v8 xe vb) (fun c=>c .undef vb) fun xf y=>aa r true (fun vl=>af .leq xf (N .i64 64) fun xg=>vl xg y) (fun c=>c .undef y) fun xh z=>aD r xh (Bo false) fun xi=>aj xi ( p2 [a0,a1] z fun xj vh=>Q xj vh) ( bA a1 (N .i64 0) fun vf=>bA a1 (N .i64 1) fun xk=>aQ a0 fun xl=>af .sub xl e fun xm=>af .add xm (N .i64 1) fun t=>bf (fun v9 j s=>af .lss (ae j 0) t fun xn=>aj xn ( bG (fun v=>bA a0 (ae j 0) fun xo=>af .neq xo vf fun xp=>aj xp ( af .add (ae j 0) (N .i64 1) fun xq=>bP (aR a0 (some xq) (some t)) fun xr=>p1 [xr,vf] s fun vg A=>af .lss vg (N .i64 0) fun xs=>aj xs ( Q (N .i64 (-1)) A) ( af .add vg (N .i64 1) fun xt=>af .add (ae j 0) xt fun xu=>v [xu] A)) ( v [(ae j 0)] s)) (fun m B=>af .add (ae m 0) (N .i64 1) fun xv=>bA a0 xv fun xw=>af .eql xw xk fun d=>aa d true (fun vm=>vm a0 B) (fun c=>c .undef B) fun xx C=>aa d true (fun vo=>vo (ae m 0) C) (fun c=>c .undef C) fun xy D=>aa d true (fun vp=>vp (ae m 0) D) (fun c=>c .undef D) fun xz E=>aa d true (fun vq=>vq e E) (fun c=>c .undef E) fun x0 F=>aa d true (fun vr=>af .add xz x0 fun x1=>vr x1 F) (fun c=>c .undef F) fun x2 G=>aa d true (fun vs=>bP (aR xx (some xy) (some x2)) fun x3=>vs x3 G) (fun c=>c .undef G) fun x4 H=>aa d true (fun vt=>vt a1 H) (fun c=>c .undef H) fun x5 I=>aa d true (fun vu=>aX .eql x4 x5 fun x6=>vu x6 I) (fun c=>c .undef I) fun x7 n=>aD d x7 (Bo false) fun x8=>aj x8 ( Q (ae m 0) n) ( af .add (ae m 0) (N .i64 1) fun g=>af .add (ae j 1) (N .i64 1) fun u=>ah n .top fun wa=>af .leq e wa fun l=>aa l true (fun vv=>vv u n) (fun c=>c .undef n) fun wb L=>aa l true (fun vw=>vw g L) (fun c=>c .undef L) fun wc O=>aa l true (fun vx=>p3 [wc] O fun wd vi=>vx wd vi) (fun c=>c .undef O) fun we P=>aa l true (fun vy=>af .gtr wb we fun wf=>vy wf P) (fun c=>c .undef P) fun wg o=>aD l wg (Bo false) fun wh=>aj wh ( bP (aR a0 (some g) none) fun wi=>p2 [wi,a1] o fun vd R=>af .geq vd (N .i64 0) fun wj=>aj wj ( af .add vd g fun wk=>Q wk R) ( Q (N .i64 (-1)) R)) ( ah o .top fun wl=>af .gtr e wl fun i=>aa i true (fun vz=>vz u o) (fun c=>c .undef o) fun wm S=>aa i true (fun v0=>v0 g S) (fun c=>c .undef S) fun wn U=>aa i true (fun v1=>jZ .shr wn (N .u64 4) fun wo=>v1 wo U) (fun c=>c .undef U) fun wp V=>aa i true (fun v2=>af .add (N .i64 4) wp fun wq=>v2 wq V) (fun c=>c .undef V) fun wr W=>aa i true (fun v4=>af .geq wm wr fun ws=>v4 ws W) (fun c=>c .undef W) fun wt X=>aD i wt (Bo false) fun p=>aa p true (fun v5=>v5 g X) (fun c=>c .undef X) fun wu Y=>aa p true (fun v6=>v6 t Y) (fun c=>c .undef Y) fun wv Z=>aa p true (fun v7=>af .lss wu wv fun ww=>v7 ww Z) (fun c=>c .undef Z) fun wx va=>aD p wx (Bo false) fun wy=>aj wy ( bP (aR a0 (some g) none) fun wz=>p4 [wz,a1] va fun ve vc=>af .lss ve (N .i64 0) fun w0=>aj w0 ( Q (N .i64 (-1)) vc) ( af .add g ve fun w1=>Q w1 vc)) ( v9 [g,u] va))))) ( Q (N .i64 (-1)) s)) [(N .i64 0),(N .i64 0)] z))))
def iF (a0 a1:AV) (M0:RM) (Q:ak) : Prop:=aQ a0 fun R=>aQ a1 fun S=>af .geq R S fun d=>aa d true (fun c=>c a0 M0) (fun c=>c .undef M0) fun x e=>aa d true (fun p=>p a0 e) (fun c=>c .undef e) fun y g=>aa d true (fun u=>aQ y fun z=>u z g) (fun c=>c .undef g) fun A l=>aa d true (fun v=>v a1 l) (fun c=>c .undef l) fun B m=>aa d true (fun w=>aQ B fun C=>w C m) (fun c=>c .undef m) fun D n=>aa d true (fun q=>af .sub A D fun E=>q E n) (fun c=>c .undef n) fun F h=>aa d true (fun r=>bP (aR x (some F) none) fun G=>r G h) (fun c=>c .undef h) fun H i=>aa d true (fun s=>s a1 i) (fun c=>c .undef i) fun I j=>aa d true (fun t=>aX .eql H I fun L=>t L j) (fun c=>c .undef j) fun O o=>aD d O (Bo false) fun P=>Q P o
def lc (p1 p2:au) (a0 a1:AV) (M0:RM) (Q:ak) : Prop:=af .leq (N .i32 0) a1 fun m=>aa m true (fun c=>c a1 M0) (fun c=>c .undef M0) fun E p=>aa m true (fun A=>af .lss E (N .i32 128) fun F=>A F p) (fun c=>c .undef p) fun G j=>aD m G (Bo false) fun H=>aj H ( iH .u8 a1 fun I=>p1 [a0,I] j fun L w=>Q L w) ( af .eql a1 (N .i32 65533) fun O=>aj O ( Gc a0 fun D z=>aO D z j fun P x=>bf (fun B vu y=>EK P y fun n l=>aS n 0 fun R=>aj R ( aS n 1 fun S=>aS n 2 fun U=>af .eql U (N .i32 65533) fun V=>aj V ( Q S l) ( B [] l)) ( Q (N .i64 (-1)) l)) [] x) ( p2 [a1] j fun W s=>fu W fun X=>aj X ( Q (N .i64 (-1)) s) ( Kz a1 fun d=>aQ d fun Y=>af .sub Y (N .i64 1) fun e=>bf (fun vt g i=>aQ a0 fun Z=>af .lss (ae g 0) Z fun va=>aj va ( bG (fun o=>bA a0 (ae g 0) fun vb=>bA d e fun vc=>af .neq vb vc fun vd=>aj vd ( af .add (ae g 0) (N .i64 1) fun ve=>bP (aR a0 (some ve) none) fun vf=>bA d e fun vg=>p1 [vf,vg] i fun t q=>af .lss t (N .i64 0) fun vh=>aj vh ( Q (N .i64 (-1)) q) ( af .add t (N .i64 1) fun vi=>af .add (ae g 0) vi fun vj=>o [vj] q)) ( o [(ae g 0)] i)) (fun u v=>bf (fun C h r=>aQ d fun vk=>af .lss (ae h 0) vk fun vl=>aj vl ( af .sub (ae u 0) (ae h 0) fun vn=>bA a0 vn fun vo=>af .sub e (ae h 0) fun vp=>bA d vp fun vq=>af .neq vo vq fun vr=>aj vr ( False) ( af .add (ae h 0) (N .i64 1) fun vm=>C [vm] r)) ( af .sub (ae u 0) e fun vs=>Q vs r)) [(N .i64 1)] v)) ( Q (N .i64 (-1)) i)) [e] s)))
def mJ (a0:AV) (M0:RM) (Q:ak) : Prop:=af .gtr a0 (N .i64 8) fun c=>Q c M0
def jk (p1:au) (a0 a1:AV) (M0:RM) (Q:ak) : Prop:=p1 [a0,a1] M0 fun c d=>aS c 0 fun g=>aS c 1 fun e=>Q (.tup [g,e]) d
def kS (a0:AV) (M0:RM) (Q:ak) : Prop:=af .leq (N .i32 0) a0 fun g=>aa g true (fun c=>c a0 M0) (fun c=>c .undef M0) fun s h=>aa g true (fun l=>af .lss s (N .i32 55296) fun t=>l t h) (fun c=>c .undef h) fun u d=>aD g u (Bo false) fun v=>aj v ( Q (Bo true) d) ( af .lss (N .i32 57343) a0 fun e=>aa e true (fun m=>m a0 d) (fun c=>c .undef d) fun o i=>aa e true (fun n=>af .leq o (N .i32 1114111) fun p=>n p i) (fun c=>c .undef i) fun q j=>aD e q (Bo false) fun r=>aj r ( Q (Bo true) j) ( Q (Bo false) j))
def eZ (p1:au) (a0 a1:AV) (M0:RM) (Q:ak) : Prop:=p1 [a0,a1] M0 fun g c=>fu g fun h=>aj h ( Q (.tup [a0,(Bo false)]) c) ( aQ a1 fun d=>bP (aR a0 (some d) none) fun e=>Q (.tup [e,(Bo true)]) c)
set_option maxRecDepth 10000
structure lg (TB T8 n0:Nat) (M:RM) (b:Nat) (xs:List UInt8) : Prop where
 lt:b<n0
 hn:n0≤M.next
 row:∃ addr buf,M.heap b=some (.row [addr,buf] false TB 0)∧(addr=.sc (.pointer none)∨addr=.ptr b 0)∧Ow BY M n0 T8 buf xs∧(xs=[]→buf=aJ)
def WW (x:au) : Prop:=∀ {v:AV} {M:RM} {Q:ak},Q v M→x [v] M Q
def BF (TB:Nat) (c:au) : Prop:=∀ {M:RM} {b:Nat} {addr buf:AV} {Q:ak},M.heap b=some (.row [addr,buf] false TB 0)→(addr=.sc (.pointer none)∨addr=.ptr b 0)→oneCell buf=true →
 (∀ M',M'.heap b=some (.row [.ptr b 0,buf] false TB 0)→M'.next=M.next→M'.base=M.base→(∀ c,c≠b→M'.heap c=M.heap c)→Q (.tup []) M')→c [.ptr b 0] M Q
theorem Uq {TB:Nat} {x:au} (hx:WW x) : BF TB fun args M Q=>∃ a0,args=[a0]∧jy x TB a0 M Q:=by
 intro M b addr buf Q hh ha hb hQ
 refine⟨_,rfl, ?_⟩
 unfold jy
 rcases ha with rfl | rfl
 ·simp only[go_sem,RM.cell_of hh]
  refine⟨_,0,_,_,_,_,rfl,hh,by simp,hx ⟨_,_,_,_,rfl,hh,rfl, ?_⟩⟩
  simp only[go_sem,RM.lI hh]
  rw[iX (by simp) (by simp) (by simp[oneCell])]
  simp only[go_sem]
  refine hQ _ (by simp[go_sem]) rfl rfl fun c hc=>by simp[go_sem,hc]
 ·simp only[go_sem,RM.cell_of hh]
  have:∀ K:AV→Prop,jf true 1 (.ptr b 0) (.ptr b 0) K=K (Bo false):=fun K=>(ku (r:=true) rfl (by simp[BM])).trans rfl
  rw[this]
  simp only[go_sem]
  exact hQ _ hh rfl rfl fun _ _=>rfl
def vU (TB T8:Nat) (c:au) : Prop:=∀ {n0:Nat} {M:RM} {b:Nat} {xs:List UInt8} {x:UInt8} {Q:ak},lg TB T8 n0 M b xs→xs.length + 1≤140737488355328 →
 (∀ M',lg TB T8 n0 M' b (xs++[x])→ig n0 [b] M M'→Q (.sc .nilIface) M')→c [.ptr b 0,By x] M Q
theorem KX {TB T8:Nat} {c:au} (hc:BF TB c) : vU TB T8 fun args M Q=>∃ a0 a1,args=[a0,a1]∧gp c T8 a0 a1 M Q:=by
 intro n0 M b xs x Q hB hl hQ
 obtain⟨addr,buf,hh,ha,ho,he⟩:=hB.row
 refine⟨_,_,rfl, ?_⟩
 unfold gp
 refine hc hh ha ho.one fun M1 h1 hnx hbs hot=>?_
 have hlt:=hB.lt
 have hn:=hB.hn
 have ho1:Ow BY M1 n0 T8 buf xs:=Own.same ho hnx (fun c hc=>hot c (by have:=ho.blk c hc; omega)) hbs
 simp only[go_sem,RM.cell_of h1]
 rw[gD (x:=By x) (size:=1) rfl rfl rfl]
 simp only[aG]
 refine iY (E:=BY) (a:=x) ho1 (by omega) (Nat.le_refl _) (by omega) hl fun v' M2 h2 k2 hnx2 hv=>?_
 have hb2:b ∉ aH buf:=fun hm=>by have:=ho.blk b hm; omega
 have hh2:=k2.ay h1 (by omega) hb2
 simp only[go_sem,RM.lI hh2]
 rw[Own.cells h2,iX (by simp) (by simp) (by simp[Own.one h2])]
 simp only[go_sem]
 have hne:∀ c∈aH v',c≠b:=fun c hm=>by have:=h2.blk c hm; omega
 refine hQ _ ⟨hlt,by show n0≤M2.next; omega,.ptr b 0,v',RM.lU _ _,.inr rfl,Own.same h2 rfl (fun c hm=>by simp[go_sem,hne c hm]) rfl,by simp⟩ ⟨?_, ?_,fun c h3 h4=>?_⟩
 ·exact k2.base.trans hbs
 ·show M.next≤M2.next
  omega
 ·have h4:c≠b:=by simpa using h4
  simp only[go_sem,if_neg h4]
  rw[k2.heap c (by omega) (fun hm=>by have:=ho.blk c hm; omega),hot c h4]
def rC (TB T8:Nat) (c:au) : Prop:=∀ {n0:Nat} {M:RM} {b:Nat} {xs s:List UInt8} {Q:ak},lg TB T8 n0 M b xs→xs.length + s.length≤140737488355328 →
 (∀ M',lg TB T8 n0 M' b (xs++s)→ig n0 [b] M M'→Q (.tup [N .i64 s.length,.sc .nilIface]) M')→c [.ptr b 0,St s] M Q
theorem Jh {TB T8:Nat} {c:au} (hc:BF TB c) : rC TB T8 fun args M Q=>∃ a0 a1,args=[a0,a1]∧fM c T8 a0 a1 M Q:=by
 intro n0 M b xs s Q hB hl hQ
 obtain⟨addr,buf,hh,ha,ho,he⟩:=hB.row
 refine⟨_,_,rfl, ?_⟩
 unfold fM
 refine hc hh ha ho.one fun M1 h1 hnx hbs hot=>?_
 have hlt:=hB.lt
 have hn:=hB.hn
 have ho1:Ow BY M1 n0 T8 buf xs:=Own.same ho hnx (fun c hc=>hot c (by have:=ho.blk c hc; omega)) hbs
 simp only[go_sem,RM.cell_of h1]
 have hnew:kQ M1 1 [N .u8 0] false (St s)=some (s.length,BY.row s):=by
  simp only[kQ,nO,if_true]
 by_cases hne0:xs++s=[]
 ·obtain⟨rfl,rfl⟩:=List.append_eq_nil_iff.1 hne0
  have hb0:=he rfl
  subst hb0
  refine⟨0,[],hnew,by omega,by omega,aJ,M1,by simp[uK], ?_⟩
  simp only[go_sem,RM.lI h1]
  rw[iX (by simp) (by simp) (by simp[oneCell])]
  simp only[go_sem]
  refine hQ _ ⟨hlt,by show n0≤M1.next; omega,.ptr b 0,aJ,by simp[go_sem],.inr rfl,.nil,fun _=>rfl⟩ ⟨hbs,by show M.next≤M1.next; omega,fun c h3 h4=>?_⟩
  have h4:c≠b:=by simpa using h4
  simp only[go_sem,if_neg h4]
  exact hot c h4
 refine wH ho1 (by omega) (Nat.le_refl _) hnew (by rw[BY.ic]; rfl) (BY.fT s) (by omega) (by omega) fun v' M2 h2 k2 hnx2 hv=>?_
 rw[← BY.rT] at h2
 have h2:Ow BY M2 n0 T8 v' (xs++s):=by
  show Own M2 n0 T8 1 v' (BY.row (xs++s)) (xs++s).length
  rw[List.length_append]; exact h2
 have hb2:b ∉ aH buf:=fun hm=>by have:=ho.blk b hm; omega
 have hh2:=k2.ay h1 (by omega) hb2
 simp only[go_sem,RM.lI hh2]
 rw[Own.cells h2,iX (by simp) (by simp) (by simp[Own.one h2])]
 simp only[go_sem]
 have hne:∀ c∈aH v',c≠b:=fun c hm=>by have:=h2.blk c hm; omega
 refine hQ _ ⟨hlt,by show n0≤M2.next; omega,.ptr b 0,v',RM.lU _ _,.inr rfl,Own.same h2 rfl (fun c hm=>by simp[go_sem,hne c hm]) rfl,fun e=>absurd e hne0⟩ ⟨?_, ?_,fun c h3 h4=>?_⟩
 ·exact k2.base.trans hbs
 ·show M.next≤M2.next
  omega
 ·have h4:c≠b:=by simpa using h4
  simp only[go_sem,if_neg h4]
  rw[k2.heap c (by omega) (fun hm=>by have:=ho.blk c hm; omega),hot c h4]
def wI (TB T8:Nat) (c:au) : Prop:=∀ {n0:Nat} {M:RM} {b:Nat} {xs:List UInt8} {Q:ak},lg TB T8 n0 M b xs→xs.length≤4611686018427387904 →
 (∀ M',ig n0 [] M M'→Q (St xs) M')→c [.ptr b 0] M Q
theorem RQ {TB T8:Nat} : wI TB T8 fun args M Q=>∃ a0,args=[a0]∧kV T8 a0 M Q:=by
 intro n0 M b xs Q hB hl hQ
 obtain⟨addr,buf,hh,ha,ho,he⟩:=hB.row
 refine⟨_,rfl, ?_⟩
 unfold kV
 simp only[go_sem,RM.cell_of hh]
 by_cases hx:xs=[]
 ·subst hx
  have hb0:=he rfl
  subst hb0
  simp only[ES,go_sem]
  exact .inr ⟨rfl,rfl,hQ _ (ig.refl _ _ _)⟩
 ·obtain⟨nn,hnn⟩ : ∃ nn,xs.length=nn + 1:=⟨xs.length - 1,by have:=List.length_pos_iff.2 hx; omega⟩
  have hcs:eT byteOf (BY.row xs)=some xs:=by rw[nO]; exact Dh xs
  have hl8:(BY.row xs).length=nn + 1:=by rw[BY.ic,hnn]; exact Nat.mul_one _
  have ho' : Own M n0 T8 1 buf (BY.row xs) (nn + 1):=by rw[← hnn]; exact ho
  generalize BY.row xs=cs at hcs hl8 ho'
  cases ho' with
  | op c n cs h1 h2 h3 h4 =>
    simp only[ES,go_sem]
    refine .inl ⟨c,nn,cs,true,0,xs,rfl,rfl,by omega,h3,by omega,by rw[List.take_of_length_le (by omega)]; exact hcs,hQ _ ⟨rfl,Nat.le_refl _,fun d hd _=>?_⟩⟩
    simp only[go_sem]
    rw[if_neg (by omega)]
theorem lg.new {TB T8 n0 b:Nat} {M:RM} (hh:M.heap b=some (.row [.sc (.pointer none),aJ] false TB 0)) (hb:b<n0) (hn:n0≤M.next) : lg TB T8 n0 M b [] :=
 ⟨hb,hn,_,_,hh,.inl rfl,.nil,fun _=>rfl⟩
theorem gM {s:List UInt8} {i:Nat} (hi:i<s.length) (kd:IntKind) (K:AV→Prop) : bA (St s) (N kd (i:Int)) K=K (By s[i]):=by
 rw[Lv]
 apply propext
 constructor
 ·rintro⟨_,b,hb,hk⟩
  rw[Int.toNat_natCast,List.getElem?_eq_getElem hi] at hb
  cases hb; exact hk
 ·intro hk; exact⟨by omega,s[i],by rw[Int.toNat_natCast,List.getElem?_eq_getElem hi],hk⟩
theorem BR {T:Nat} {zs:List AV} {K:RB→(Nat→AV)→Prop} (h:K (.row [] false T 0) (fun b=>.slc b 0 0 (.ex 0))) : lX T 1 zs (N .i64 0) (N .i64 0) K :=
 ⟨_,_,0,0,rfl,rfl,by omega,by omega,by decide,by decide,h⟩
def pQ (c:UInt8) : List UInt8:=if c.toNat=92∨c.toNat=44∨c.toNat=59 then[92,c] else if c.toNat=10 then[92,110] else[c]
def esc (s:List UInt8) : List UInt8:=s.flatMap pQ
theorem Te (s:List UInt8) : (esc s).length≤2 * s.length:=by
 induction s with
 | nil=>simp[esc]
 | cons c s ih =>
   have:(pQ c).length≤2:=by unfold pQ; split <;> (try split) <;> simp
   simp only[esc,List.flatMap_cons,List.length_append,List.length_cons] at ih ⊢
   omega
theorem PP (s:List UInt8) {i:Nat} (hi:i<s.length) : esc (s.take (i + 1))=esc (s.take i)++pQ s[i]:=by
 rw[List.take_succ_eq_append_getElem hi,esc,List.flatMap_append]; simp[esc]
theorem EP (s:List UInt8) (i:Nat) : (esc (s.take i)).length≤2 * s.length:=by
 have:=Te (s.take i); simp at this; omega
def Iu (c:au) : Prop:=∀ {M:RM} {s:List UInt8} {Q:ak},s.length≤100000000→(∀ M',ag [] M M'→Q (St (esc s)) M')→c [St s] M Q
theorem RV {TB T8:Nat} {cw cs ct:au} (hw:vU TB T8 cw) (hs:rC TB T8 cs) (ht:wI TB T8 ct) : Iu fun args M Q=>∃ a0,args=[a0]∧sQ TB T8 cw cs ct a0 M Q:=by
 intro M s Q hl hQ
 refine⟨_,rfl, ?_⟩
 unfold sQ
 simp only[aG,qV,oM]
 generalize hM1:M.push (.row [.sc (.pointer none),.sc (.slice none 0 0)] false TB 0)=M1
 have hn1:M1.next=M.next + 1:=by rw[← hM1]; rfl
 generalize hM2:M1.push (.row (BY.row s) true T8 0)=M2
 have hn2:M2.next=M1.next + 1:=by rw[← hM2]; rfl
 have hk2:ag [] M M2:=by rw[← hM2,← hM1]; exact((ag.refl _ _).push _).push _
 have hb0:lg TB T8 M2.next M2 M.next []:=lg.new (by rw[← hM2,← hM1]; simp[go_sem]) (by omega) (Nat.le_refl _)
 have hr0:Rw BY M2 M1.next true T8 s:=by rw[← hM2]; exact Rw.new M1 s
 refine aI (fun m ys M3=>∃ i:Nat,m=s.length - i∧ys=[N .i64 i]∧i≤s.length∧lg TB T8 M2.next M3 M.next (esc (s.take i))∧ig M2.next [M.next] M2 M3) _
  ⟨0,rfl,rfl,Nat.zero_le _,by simpa [esc] using hb0,ig.refl _ _ _⟩ ?_
 rintro next m ys M3 hnext ⟨i,rfl,rfl,hi,hB,hK⟩
 have hr3:Rw BY M3 M1.next true T8 s:=⟨hK.ay hr0.heap (by omega) (by simp; omega),by have:=hK.next; omega⟩
 have hel:=EP s i
 simp only[go_sem]
 refine⟨fun hlt=>?_,fun hge=>?_⟩
 ·have hlt:i<s.length:=by simpa using hlt
  have hc:=hr3.ah hlt
  have hstep:=PP s hlt
  generalize s[i]=c at *
  have fin:∀ M4,lg TB T8 M2.next M4 M.next (esc (s.take (i + 1)))→ig M2.next [M.next] M3 M4→next [N .i64 (IntKind.i64.wrap ((i:Int) + 1))] M4:=fun M4 h1 h2=>by
   rw[eO (by omega)]
   exact hnext _ _ _ (by omega) ⟨i + 1,rfl,rfl,by omega,h1,hK.trans h2⟩
  refine⟨by omega,By c,hc, ?_⟩
  have two:pQ c=[92,c]→cw [.ptr M.next 0,N .u8 92] M3 fun t20 M_5=>cw [.ptr M.next 0,By c] M_5 fun t22 M_6=>next [N .i64 (IntKind.i64.wrap ((i:Int) + 1))] M_6:=fun he=>by
   refine hw (x:=92) hB (by omega) fun M4 h4 k4=>?_
   refine hw (x:=c) h4 (by simp; omega) fun M5 h5 k5=>fin M5 ?_ (k4.trans k5)
   rw[hstep,he]; simpa using h5
  by_cases h1:c.toNat=92
  ·have e1:((c.toNat:Int) == 92)=true:=by rw[h1]; rfl
   simp only[e1,go_sem]
   exact two (by simp[pQ,h1])
  have e1:((c.toNat:Int) == 92)=false:=by simp; omega
  by_cases h2:c.toNat=44
  ·have e2:((c.toNat:Int) == 44)=true:=by rw[h2]; rfl
   simp only[e1,e2,go_sem]
   exact two (by simp[pQ,h2])
  have e2:((c.toNat:Int) == 44)=false:=by simp; omega
  by_cases h3:c.toNat=59
  ·have e3:((c.toNat:Int) == 59)=true:=by rw[h3]; rfl
   simp only[e1,e2,e3,go_sem]
   exact two (by simp[pQ,h3])
  have e3:((c.toNat:Int) == 59)=false:=by simp; omega
  by_cases h4:c.toNat=10
  ·have e4:((c.toNat:Int) == 10)=true:=by rw[h4]; rfl
   simp only[e1,e2,e3,e4,go_sem]
   refine hs (s:=[92,110]) hB (by simp; omega) fun M4 h5 k4=>fin M4 ?_ k4
   rw[hstep]; simpa [pQ,h1,h2,h3,h4] using h5
  have e4:((c.toNat:Int) == 10)=false:=by simp; omega
  simp only[e1,e2,e3,e4,go_sem]
  refine hw (x:=c) hB (by omega) fun M4 h5 k4=>fin M4 ?_ k4
  rw[hstep]; simpa [pQ,h1,h2,h3,h4] using h5
 ·have:i=s.length:=by simp at hge; omega
  subst this
  rw[List.take_length] at hB hel
  refine ht hB (by omega) fun M4 k4=>hQ M4 ?_
  refine hk2.LQ (hK.trans ⟨k4.base,k4.next,fun c h1 h2=>k4.heap c h1 (by simp)⟩) (by omega) fun c hc=>.inl (by simp at hc; omega)
theorem Mk {T8:Nat} : Iu fun args M Q=>∃ a0,args=[a0]∧sN T8 a0 M Q:=by
 intro M s Q hl hQ
 refine⟨_,rfl, ?_⟩
 unfold sN
 refine BR ?_
 simp only[aG]
 refine aI (fun m ys M3=>∃ (i:Nat) (v:AV),m=s.length - i∧ys=[v,N .i64 i]∧i≤s.length∧Ow BY M3 M.next T8 v (esc (s.take i))∧ag [] M M3) _
  ⟨0,_,rfl,rfl,Nat.zero_le _,Ow.lit BY M,(ag.refl _ _).push _⟩ ?_
 rintro next m ys M3 hnext ⟨i,v,rfl,rfl,hi,ho,hK⟩
 have hel:=EP s i
 simp only[go_sem]
 refine⟨fun hlt=>?_,fun hge=>?_⟩
 ·have hlt:i<s.length:=by simpa using hlt
  have hstep:=PP s hlt
  have hg:s[i]?=some s[i]:=List.getElem?_eq_getElem hlt
  generalize s[i]=c at *
  simp only[go_sem,hg]
  have fin:∀ v' M4,Ow BY M4 M.next T8 v' (esc (s.take (i + 1)))→ag [] M M4→next [v',N .i64 (IntKind.i64.wrap ((i:Int) + 1))] M4:=fun v' M4 h1 h2=>by
   rw[eO (by omega)]
   exact hnext _ _ _ (by omega) ⟨i + 1,v',rfl,rfl,by omega,h1,h2⟩
  have kk:∀ {M' : RM},ag (aH v) M3 M'→ag [] M M':=fun h=>hK.dH h fun c hc=>.inl (ho.blk c hc).1
  have app:∀ (xs:List UInt8) (K:AV→RM→Prop),xs.length≤2→(∀ v' M4,Ow BY M4 M.next T8 v' (esc (s.take i)++xs)→ag [] M M4→K v' M4)→appW T8 1 1 [N .u8 0] false v (.slc M3.next 0 xs.length (.ex xs.length)) (M3.push (.row (BY.row xs) false T8 0)) K:=fun xs K hx hK'=>by
   have hk:ag [] M3 (M3.push (.row (BY.row xs) false T8 0)):=(ag.refl _ _).push _
   refine wO (E:=BY) (ys:=xs) (Own.keep ho hk (by simp)) (Nat.le_trans hK.next hk.next) (Nat.le_refl _) (Sl.new xs) (by omega) (by omega) fun v' M4 h1 h2 h3 h4=>hK' v' M4 h1 (kk ((hk.mono (by simp)).trans h2))
  have two:∀ (d:UInt8),pQ c=[92,d]→bM T8 2 [N .u8 0] [(0,1,N .u8 92),(1,1,By d)] fun r f=>appW T8 1 1 [N .u8 0] false v (f M3.next) (M3.push r) fun t30 M_7=>next [t30,N .i64 (IntKind.i64.wrap ((i:Int) + 1))] M_7:=fun d he=>by
   refine⟨BY.row [92,d],by simp[om,nH,oneCell,AV.cells,nO], ?_⟩
   simp only[aG]
   exact app [92,d] _ (by simp) fun v' M4 h1 h2=>fin v' M4 (by rw[hstep,he]; exact h1) h2
  by_cases h1:c.toNat=92
  ·have e1:((c.toNat:Int) == 92)=true:=by rw[h1]; rfl
   simp only[e1,go_sem]
   exact two c (by simp[pQ,h1])
  have e1:((c.toNat:Int) == 92)=false:=by simp; omega
  by_cases h2:c.toNat=44
  ·have e2:((c.toNat:Int) == 44)=true:=by rw[h2]; rfl
   simp only[e1,e2,go_sem]
   exact two c (by simp[pQ,h2])
  have e2:((c.toNat:Int) == 44)=false:=by simp; omega
  by_cases h3:c.toNat=59
  ·have e3:((c.toNat:Int) == 59)=true:=by rw[h3]; rfl
   simp only[e1,e2,e3,go_sem]
   exact two c (by simp[pQ,h3])
  have e3:((c.toNat:Int) == 59)=false:=by simp; omega
  by_cases h4:c.toNat=10
  ·have e4:((c.toNat:Int) == 10)=true:=by rw[h4]; rfl
   simp only[e1,e2,e3,e4,go_sem]
   exact two 110 (by simp[pQ,h1,h2,h3,h4])
  have e4:((c.toNat:Int) == 10)=false:=by simp; omega
  simp only[e1,e2,e3,e4,go_sem]
  rw[gD (x:=By c) (size:=1) rfl rfl rfl]
  exact app [c] _ (by simp) fun v' M4 h5 h6=>fin v' M4 (by rw[hstep]; simpa [pQ,h1,h2,h3,h4] using h5) h6
 ·have:i=s.length:=by simp at hge; omega
  subst this
  rw[List.take_length] at ho
  rw[Sl.str ho.jX]
  exact hQ M3 hK
def mE (d:UInt8) : Prop:=d.toNat=92∨d.toNat=44∨d.toNat=59∨d.toNat=58
instance (d:UInt8) : Decidable (mE d):=inferInstanceAs (Decidable (_∨_))
def DR (d:UInt8) : Prop:=d.toNat=110∨d.toNat=78
instance (d:UInt8) : Decidable (DR d):=inferInstanceAs (Decidable (_∨_))
def fK:List UInt8→Option (List UInt8)
 | []=>some []
 | c :: s=>if c.toNat≠92 then(fK s).map (c :: ·) else match s with
   | []=>none
   | d :: s=>if DR d then(fK s).map (10 :: ·) else if mE d then(fK s).map (d :: ·) else none
theorem Ar {c:UInt8} {s:List UInt8} (h:c.toNat≠92) : fK (c :: s)=(fK s).map (c :: ·):=by
 cases s <;> simp[fK,h]
theorem Fh {c:UInt8} (h:c.toNat=92) : fK [c]=none:=by simp[fK,h]
theorem Bh {c d:UInt8} {s:List UInt8} (h:c.toNat=92) (hd:DR d) : fK (c :: d :: s)=(fK s).map (10 :: ·):=by rw[fK]; simp[h,hd]
theorem pM {c d:UInt8} {s:List UInt8} (h:c.toNat=92) (hn:¬ DR d) (hd:mE d) : fK (c :: d :: s)=(fK s).map (d :: ·):=by rw[fK]; simp[h,hn,hd]
theorem FQ {c d:UInt8} {s:List UInt8} (h:c.toNat=92) (hn:¬ DR d) (hd:¬ mE d) : fK (c :: d :: s)=none:=by rw[fK]; simp[h,hn,hd]
def sP (c:au) : Prop:=∀ {M:RM} {s:List UInt8} {x:UInt8} {Q:ak},Q (N .i64 (Lib.indexByte s x)) M→c [St s,By x] M Q
theorem tJ (l:List UInt8) (x:UInt8) : (Lib.indexByte l x ≥ 0)↔x∈l:=by
 induction l with
 | nil=>simp[Lib.indexByte]
 | cons y ys ih =>
   simp only[Lib.indexByte]
   have:=Lib.indexByte_ge ys x
   by_cases h:y=x
   ·subst h; simp
   ·have hb:(y == x)=false:=by simpa using h
    have h' : ¬ x=y:=fun e=>h e.symm
    simp only[hb,List.mem_cons,h',false_or]
    rw[← ih]
    simp
    split <;> omega
theorem OP (d:UInt8) : d∈([92,44,59,58] : List UInt8)↔mE d:=by
 unfold mE
 simp only[List.mem_cons,List.not_mem_nil,or_false,← UInt8.toNat_inj]
 exact Iff.rfl
def mG (bad good:AV) (s:List UInt8) : AV:=match fK s with
 | some x=>.tup [St x,good]
 | none=>.tup [St [],bad]
def BG (bad good:AV) (c:au) : Prop:=∀ {M:RM} {s:List UInt8} {Q:ak},s.length≤1000000→(∀ M',ag [] M M'→Q (mG bad good s) M')→c [St s] M Q
theorem qU:∀ (n:Nat) (s x:List UInt8),s.length≤n→fK s=some x→x.length≤s.length
 | _,[],x,_,h=>by simp[fK] at h; subst h; simp
 | n + 1,c :: s,x,hl,h=>by
   simp at hl
   by_cases h1:c.toNat=92
   ·cases s with
    | nil=>rw[Fh h1] at h; cases h
    | cons d s =>
      simp at hl
      by_cases h2:DR d
      ·rw[Bh h1 h2] at h
       obtain⟨y,hy,rfl⟩:=Option.map_eq_some_iff.1 h
       have:=qU n s y (by omega) hy
       simp; omega
      ·by_cases h3:mE d
       ·rw[pM h1 h2 h3] at h
        obtain⟨y,hy,rfl⟩:=Option.map_eq_some_iff.1 h
        have:=qU n s y (by omega) hy
        simp; omega
       ·rw[FQ h1 h2 h3] at h; cases h
   ·rw[Ar h1] at h
    obtain⟨y,hy,rfl⟩:=Option.map_eq_some_iff.1 h
    have:=qU n s y (by omega) hy
    simp; omega
theorem NK {TB T8:Nat} {cw ci ct:au} (hw:vU TB T8 cw) (hi:sP ci) (ht:wI TB T8 ct) :
  BG (N .i64 14) (N .i64 0) fun args M Q=>∃ a0,args=[a0]∧qI TB cw ci ct a0 M Q:=by
 intro M s Q hl hQ
 refine⟨_,rfl, ?_⟩
 unfold qI
 simp only[dN,aG]
 generalize hM1:M.push (.row [.sc (.pointer none),.sc (.slice none 0 0)] false TB 0)=M1
 have hn1:M1.next=M.next + 1:=by rw[← hM1]; rfl
 have hk1:ag [] M M1:=by rw[← hM1]; exact(ag.refl _ _).push _
 have hb0:lg TB T8 M1.next M1 M.next []:=lg.new (by rw[← hM1]; simp[go_sem]) (by omega) (Nat.le_refl _)
 have fin:∀ {M' : RM},ig M1.next [M.next] M1 M'→ag [] M M':=fun h=>hk1.LQ h (by omega) fun c hc=>.inl (by simp at hc; omega)
 refine aI (fun m ys M3=>∃ (i:Nat) (out:List UInt8),m=s.length - i∧ys=[N .i64 i]∧i≤s.length∧lg TB T8 M1.next M3 M.next out∧ig M1.next [M.next] M1 M3∧out.length≤i ∧
  fK s=(fK (s.drop i)).map (out ++ ·)) _
  ⟨0,[],rfl,rfl,Nat.zero_le _,hb0,ig.refl _ _ _,by simp,by simp⟩ ?_
 rintro next m ys M3 hnext ⟨i,out,rfl,rfl,hile,hB,hK,hol,hu⟩
 simp only[go_sem]
 refine⟨fun hlt=>?_,fun hge=>?_⟩
 ·have hlt:i<s.length:=by simpa using hlt
  have hg:s[i]?=some s[i]:=List.getElem?_eq_getElem hlt
  have hd:=List.drop_eq_getElem_cons hlt
  generalize s[i]=c at *
  simp only[hg,go_sem,eO (show i<9223372036854775807 by omega)]
  by_cases h1:c.toNat=92
  ·have e1:((c.toNat:Int) != 92)=false:=by rw[h1]; rfl
   simp only[e1,go_sem]
   by_cases hlt2:i + 1<s.length
   ·have e2:decide (((i + 1:Nat) : Int)<(s.length:Int))=true:=by simp; omega
    have hg2:s[i + 1]?=some s[i + 1]:=List.getElem?_eq_getElem hlt2
    have hd2:=List.drop_eq_getElem_cons hlt2
    generalize s[i + 1]=d at *
    have go:∀ (x:UInt8),fK (c :: d :: s.drop (i + 2))=(fK (s.drop (i + 2))).map (x :: ·)→∀ M4,lg TB T8 M1.next M4 M.next (out++[x])→ig M1.next [M.next] M3 M4→next [N .i64 ((i + 1 + 1:Nat) : Int)] M4:=fun x hx M4 h4 k4=>by
     refine hnext _ _ _ (by omega) ⟨i + 2,out++[x],rfl,rfl,by omega,h4,hK.trans k4,by simp; omega, ?_⟩
     rw[hu,hd,hd2,hx,Option.map_map]
     congr 1
     funext y; simp
    simp only[e2,hg2,go_sem,eO (show i + 1<9223372036854775807 by omega)]
    have bad:fK (c :: d :: s.drop (i + 2))=none→mG (N .i64 14) (N .i64 0) s=.tup [St [],N .i64 14]:=fun h=>by
     simp[mG,hu,hd,hd2,h]
    by_cases h2:d.toNat=110
    ·have e3:((d.toNat:Int) == 110)=true:=by rw[h2]; rfl
     simp only[e3,go_sem]
     exact hw (x:=10) hB (by omega) fun M4 h4 k4=>go 10 (Bh h1 (.inl h2)) M4 h4 k4
    have e3:((d.toNat:Int) == 110)=false:=by simp; omega
    by_cases h3:d.toNat=78
    ·have e4:((d.toNat:Int) == 78)=true:=by rw[h3]; rfl
     simp only[e3,e4,go_sem]
     exact hw (x:=10) hB (by omega) fun M4 h4 k4=>go 10 (Bh h1 (.inr h3)) M4 h4 k4
    have e4:((d.toNat:Int) == 78)=false:=by simp; omega
    have hn:¬ DR d:=by unfold DR; omega
    simp only[e3,e4,go_sem]
    refine hi (s:=[92,44,59,58]) (x:=d) ?_
    simp only[go_sem]
    refine⟨fun h=>?_,fun h=>?_⟩
    ·have hm:mE d:=(OP d).1 ((tJ _ _).1 (of_decide_eq_true h))
     exact hw (x:=d) hB (by omega) fun M4 h4 k4=>go d (pM h1 hn hm) M4 h4 k4
    ·have hm:¬ mE d:=fun hm=>(of_decide_eq_false h) ((tJ _ _).2 ((OP d).2 hm))
     rw[← bad (FQ h1 hn hm)]
     exact hQ _ (fin hK)
   ·have e2:decide (((i + 1:Nat) : Int)<(s.length:Int))=false:=by simp; omega
    simp only[e2,go_sem]
    have:s.drop (i + 1)=[]:=List.drop_of_length_le (by omega)
    have hb:mG (N .i64 14) (N .i64 0) s=.tup [St [],N .i64 14]:=by simp[mG,hu,hd,this,Fh h1]
    rw[← hb]
    exact hQ _ (fin hK)
  ·have e1:((c.toNat:Int) != 92)=true:=by simp; omega
   simp only[e1,go_sem]
   refine hw (x:=c) hB (by omega) fun M4 h4 k4=>?_
   refine hnext _ _ _ (by omega) ⟨i + 1,out++[c],rfl,rfl,by omega,h4,hK.trans k4,by simp; omega, ?_⟩
   rw[hu,hd,Ar h1,Option.map_map]
   congr 1
   funext y; simp
 ·have:i=s.length:=by simp at hge; omega
  subst this
  refine ht hB (by omega) fun M4 k4=>?_
  have:=hQ M4 (fin (hK.trans ⟨k4.base,k4.next,fun c h1 h2=>k4.heap c h1 (by simp)⟩))
  simpa [mG,hu,fK] using this
theorem Db {n0 T8:Nat} {M:RM} {v:AV} {xs:List UInt8} {x:UInt8} {K:AV→RM→Prop} (ho:Ow BY M n0 T8 v xs) (hn:n0≤M.next) (hl:xs.length + 1≤140737488355328)
  (hK:∀ v' M',Ow BY M' n0 T8 v' (xs++[x])→ag (aH v) M M'→K v' M') :
  bM T8 1 [N .u8 0] [(0,1,By x)] fun r f=>appW T8 1 1 [N .u8 0] false v (f M.next) (M.push r) K:=by
 rw[gD (x:=By x) (size:=1) rfl rfl rfl]
 exact iY (E:=BY) (a:=x) ho hn (Nat.le_refl _) (by omega) hl fun v' M' h1 h2 _ _=>hK v' M' h1 h2
theorem Jf {T8:Nat} : BG (Bo false) (Bo true) fun args M Q=>∃ a0,args=[a0]∧qG T8 a0 M Q:=by
 intro M s Q hl hQ
 refine⟨_,rfl, ?_⟩
 unfold qG
 refine BR ?_
 simp only[aG]
 refine aI (fun m ys M3=>∃ (i:Nat) (v:AV) (out:List UInt8),m=s.length - i∧ys=[v,N .i64 i]∧i≤s.length∧Ow BY M3 M.next T8 v out∧ag [] M M3∧out.length≤i ∧
  fK s=(fK (s.drop i)).map (out ++ ·)) _
  ⟨0,_,[],rfl,rfl,Nat.zero_le _,Ow.lit BY M,(ag.refl _ _).push _,by simp,by simp⟩ ?_
 rintro next m ys M3 hnext ⟨i,v,out,rfl,rfl,hile,ho,hK,hol,hu⟩
 have kk:∀ {M' : RM},ag (aH v) M3 M'→ag [] M M':=fun h=>hK.dH h fun c hc=>.inl (ho.blk c hc).1
 simp only[go_sem]
 refine⟨fun hlt=>?_,fun hge=>?_⟩
 ·have hlt:i<s.length:=by simpa using hlt
  have hg:s[i]?=some s[i]:=List.getElem?_eq_getElem hlt
  have hd:=List.drop_eq_getElem_cons hlt
  generalize s[i]=c at *
  simp only[hg,go_sem,eO (show i<9223372036854775807 by omega)]
  by_cases h1:c.toNat=92
  ·have e1:((c.toNat:Int) != 92)=false:=by rw[h1]; rfl
   simp only[e1,go_sem]
   by_cases hlt2:i + 1<s.length
   ·have e2:(((i + 1:Nat) : Int) == (s.length:Int))=false:=by simp; omega
    have hg2:s[i + 1]?=some s[i + 1]:=List.getElem?_eq_getElem hlt2
    have hd2:=List.drop_eq_getElem_cons hlt2
    generalize s[i + 1]=d at *
    have go:∀ (x:UInt8),fK (c :: d :: s.drop (i + 2))=(fK (s.drop (i + 2))).map (x :: ·)→∀ v' M4,Ow BY M4 M.next T8 v' (out++[x])→ag (aH v) M3 M4→next [v',N .i64 ((i + 1 + 1:Nat) : Int)] M4:=fun x hx v' M4 h4 k4=>by
     refine hnext _ _ _ (by omega) ⟨i + 2,v',out++[x],rfl,rfl,by omega,h4,kk k4,by simp; omega, ?_⟩
     rw[hu,hd,hd2,hx,Option.map_map]
     congr 1
     funext y; simp
    simp only[e2,hg2,go_sem,eO (show i + 1<9223372036854775807 by omega)]
    have bad:fK (c :: d :: s.drop (i + 2))=none→mG (Bo false) (Bo true) s=.tup [St [],Bo false]:=fun h=>by
     simp[mG,hu,hd,hd2,h]
    have mk:mE d→¬ DR d:=fun h=>by unfold mE at h; unfold DR; omega
    by_cases m1:d.toNat=92
    ·have e3:((d.toNat:Int) == 92)=true:=by rw[m1]; rfl
     simp only[e3,go_sem]
     exact Db ho hK.next (by omega) fun v' M' h1' h2'=>go d (pM h1 (mk (.inl m1)) (.inl m1)) v' M' h1' h2'
    have e3:((d.toNat:Int) == 92)=false:=by simp; omega
    by_cases m2:d.toNat=44
    ·have e4:((d.toNat:Int) == 44)=true:=by rw[m2]; rfl
     simp only[e3,e4,go_sem]
     exact Db ho hK.next (by omega) fun v' M' h1' h2'=>go d (pM h1 (mk (.inr (.inl m2))) (.inr (.inl m2))) v' M' h1' h2'
    have e4:((d.toNat:Int) == 44)=false:=by simp; omega
    by_cases m3:d.toNat=59
    ·have e5:((d.toNat:Int) == 59)=true:=by rw[m3]; rfl
     simp only[e3,e4,e5,go_sem]
     exact Db ho hK.next (by omega) fun v' M' h1' h2'=>go d (pM h1 (mk (.inr (.inr (.inl m3)))) (.inr (.inr (.inl m3)))) v' M' h1' h2'
    have e5:((d.toNat:Int) == 59)=false:=by simp; omega
    by_cases m4:d.toNat=58
    ·have e6:((d.toNat:Int) == 58)=true:=by rw[m4]; rfl
     simp only[e3,e4,e5,e6,go_sem]
     exact Db ho hK.next (by omega) fun v' M' h1' h2'=>go d (pM h1 (mk (.inr (.inr (.inr m4)))) (.inr (.inr (.inr m4)))) v' M' h1' h2'
    have e6:((d.toNat:Int) == 58)=false:=by simp; omega
    have hm:¬ mE d:=by unfold mE; omega
    by_cases n1:d.toNat=110
    ·have e7:((d.toNat:Int) == 110)=true:=by rw[n1]; rfl
     simp only[e3,e4,e5,e6,e7,go_sem]
     exact Db (x:=10) ho hK.next (by omega) fun v' M' h1' h2'=>go 10 (Bh h1 (.inl n1)) v' M' h1' h2'
    have e7:((d.toNat:Int) == 110)=false:=by simp; omega
    by_cases n2:d.toNat=78
    ·have e8:((d.toNat:Int) == 78)=true:=by rw[n2]; rfl
     simp only[e3,e4,e5,e6,e7,e8,go_sem]
     exact Db (x:=10) ho hK.next (by omega) fun v' M' h1' h2'=>go 10 (Bh h1 (.inr n2)) v' M' h1' h2'
    have e8:((d.toNat:Int) == 78)=false:=by simp; omega
    have hn:¬ DR d:=by unfold DR; omega
    simp only[e3,e4,e5,e6,e7,e8,go_sem]
    rw[← bad (FQ h1 hn hm)]
    exact hQ _ hK
   ·have e2:(((i + 1:Nat) : Int) == (s.length:Int))=true:=by simp; omega
    simp only[e2,go_sem]
    have:s.drop (i + 1)=[]:=List.drop_of_length_le (by omega)
    have hb:mG (Bo false) (Bo true) s=.tup [St [],Bo false]:=by simp[mG,hu,hd,this,Fh h1]
    rw[← hb]
    exact hQ _ hK
  ·have e1:((c.toNat:Int) != 92)=true:=by simp; omega
   simp only[e1,go_sem]
   refine Db ho hK.next (by omega) fun v' M4 h4 k4=>?_
   refine hnext _ _ _ (by omega) ⟨i + 1,v',out++[c],rfl,rfl,by omega,h4,kk k4,by simp; omega, ?_⟩
   rw[hu,hd,Ar h1,Option.map_map]
   congr 1
   funext y; simp
 ·have:i=s.length:=by simp at hge; omega
  subst this
  rw[Sl.str ho.jX]
  have:=hQ M3 hK
  simpa [mG,hu,fK] using this
def Q3 (x:UInt8) : List UInt8→List UInt8→Bool→List (List UInt8)
 | [],cur,_=>[cur]
 | c :: s,cur,odd=>if c=x∧odd=false then cur :: Q3 x s [] (decide (c.toNat=92) && !odd) else Q3 x s (cur++[c]) (decide (c.toNat=92) && !odd)
def parts (x:UInt8) (s:List UInt8) : List (List UInt8):=Q3 x s [] false
theorem tX {s:List UInt8} {l h:Nat} (h1:l≤h) (h2:h≤s.length) (k1 k2:IntKind) : aR (St s) (some (N k1 (l:Int))) (some (N k2 (h:Int)))=some (St ((s.drop l).take (h - l))):=by
 simp only[aR,bnd]
 simp[h1,h2]
theorem bB {s:List UInt8} {l:Nat} (h1:l≤s.length) (k1:IntKind) : aR (St s) (some (N k1 (l:Int))) none=some (St (s.drop l)):=by
 simp only[aR,bnd]
 simp[h1]
 rw[List.take_of_length_le (by simp)]
end Go.Ab.Vl
