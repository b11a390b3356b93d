/- Part 3 of the ground of the proofs of this seat (texts R9 to VlH2). By an AI agent. -/
import Derived.Test.YtoikjkmmdpdkbaaGreatDoorVck2
import Derived.Scope
import Derived.ChangeShapes
import Derived.OpenShut
import Derived.WideKeyArgs
import GoSem.ClaimJoined
import Derived.Carry
import Derived.JoinedCond
import Derived.SizedLaws
import GoSem.Extern.Atomic
import GoSem.Extern.MapsClone
import Derived.Laws.AppendOwn
import Derived.Lib.Bytealg
import Derived.Lib.DecodeN
import Derived.Lib.ValidU
import Derived.Lib.ValidLaws
set_option linter.unusedVariables false
set_option linter.unusedSimpArgs false
namespace Go.Ab
open Go Go.RowKit
def KE:Option Tmp→Nat
 | some d=>2 ^ d
 | none=>0
def Px:Operand→Nat
 | .tmp t=>2 ^ t
 | _=>0
def PI:List Operand→Nat
 | []=>0
 | x :: xs=>Px x ||| PI xs
def Q6 (L m:Nat) : Nat:=L ^^^ (L &&& m)
def ET:List Oper→Nat
 | []=>0
 | o :: os=>KE o.dst ||| ET os
def gt:Nat:=1000000
def qo:Code→List Nat
 | .seq a b=>qo a++qo b
 | .label l=>[l]
 | _=>[]
def vY (c:Code) (l:Nat) : Code:=match findLabel c l with
 | some r=>r
 | none=>.skip
def dC:Nat→Code→Nat
 | 0,_=>0
 | f + 1,c=>match c with
   | .region _ ops _=>ET ops.toList
   | .seq a b=>dC f a ||| dC f b
   | .cond _ a b=>dC f a ||| dC f b
   | .block _ c=>dC f c
   | .loop c=>dC f c
   | .scope c=>dC f c ||| (qo c).foldr (fun l s=>dC f (vY c l) ||| s) 0
   | _=>0
def Lm:List Oper→Nat→Nat
 | [],L=>L
 | o :: os,L=>Q6 (Lm os L) (KE o.dst) ||| PI o.op.operands.toList
def Ji:List (Nat × Nat)→Nat→Nat
 | [],_=>0
 | (i,L) :: r,id=>match Nat.beq i id with
   | true=>L
   | false=>Ji r id
def eZ (ret:Nat) : Nat→List (Nat × Nat)→Code→Nat→Nat
 | 0,_,_,_=>0
 | f + 1,env,c,L=>match c with
   | .skip=>L
   | .region _ ops _=>Lm ops.toList L
   | .seq a b=>eZ ret f env a (eZ ret f env b L)
   | .cond c a b=>Px c ||| eZ ret f env a L ||| eZ ret f env b L
   | .block id c=>eZ ret f ((id,L) :: env) c L
   | .loop c=>eZ ret f env c (eZ ret f env c 0)
   | .exit id=>Ji env id
   | .ret=>ret
   | .scope c=>eZ ret f ((qo c).map (fun l=>(gt + l,eZ ret f env (vY c l) L))++env) c L
   | .label _=>L
   | .goto l=>Ji env (gt + l)
   | _=>0
def cap2 (n:Nat) : Nat:=match n with | 0=>0 | 1=>1 | _=>2
def oI (id:Nat) : Nat→Code→Nat
 | 0,_=>2
 | f + 1,c=>match c with
   | .seq a b=>cap2 (oI id f a + oI id f b)
   | .cond _ a b=>cap2 (oI id f a + oI id f b)
   | .block _ c=>oI id f c
   | .loop c=>oI id f c
   | .exit i=>match Nat.beq i id with | true=>1 | false=>0
   | _=>0
def rW:Nat→Code→Nat
 | 0,_=>2
 | f + 1,c=>match c with
   | .skip=>1
   | .region _ _ _=>1
   | .seq a b=>cap2 (rW f a * rW f b)
   | .cond _ a b=>cap2 (rW f a + rW f b)
   | .block id c=>cap2 (rW f c + oI id f c)
   | .scope c=>rW f c
   | .label _=>1
   | _=>0
def vT (m:Nat) : Nat→Nat→List Nat
 | _,0=>[]
 | i,n + 1=>match Nat.testBit m i with
   | true=>i :: vT m (i + 1) n
   | false=>vT m (i + 1) n
def bitsOf (m nt:Nat) : List Nat:=vT m 0 nt
def uN (T:Tree AV) : List Nat→List AV
 | []=>[]
 | t :: ts=>(T.get t).getD .top :: uN T ts
def ag:List AV→Nat→AV
 | [],_=>.top
 | x :: _,0=>x
 | _ :: xs,n + 1=>ag xs n
def wN (T:Tree AV) : List Nat→Tree AV
 | []=>T
 | t :: ts=>wN (T.set t .top) ts
def IY (T:Tree AV) (xs:List AV) : Nat→List Nat→Tree AV
 | _,[]=>T
 | i,t :: ts=>IY (T.set t (ag xs i)) xs (i + 1) ts
def yR (T:Tree AV) (asg vs:List Nat) (xs:List AV) : Tree AV:=IY (wN T asg) xs 0 vs
def au (x:AV) (p q:Prop) : Prop :=
 match x with
 | .sc (.bool b)=>(b=true→p)∧(b=false→q)
 | _=>False
def bY (f:(List AV→RM→Prop)→Prop) (g:List AV→RM→Prop) : Prop:=f g
def bz (body:(List AV→RM→Prop)→List AV→RM→Prop) (xs:List AV) (M:RM) : Prop :=
 ∃ (I:Nat→List AV→RM→Prop) (n:Nat),I n xs M∧∀ m ys M',I m ys M'→body (fun zs M''=>∃ m',m'<m∧I m' zs M'') ys M'
abbrev K3:=Ex→Tree AV→RM→Prop
def wpC (P:Program) (nt ret:Nat) : Nat→Code→List (Nat × Nat)→Nat→Tree AV→RM→K3→Prop
 | 0,_,_,_,_,_,_=>False
 | f + 1,c,env,L,T,M,K=>match c with
   | .skip=>K .normal T M
   | .region _ ops false=>Gd P nt ops ops.toList T M (fun T' M'=>K .normal T' M')
   | .region _ ops true=>Oj P nt ops T M (fun T' M'=>K .normal T' M')
   | .seq a b=>match Nat.ble (rW f a) 1 with
     | true=>wpC P nt ret f a env (eZ ret f env b L) T M (fun e T' M'=>match e with
       | .normal=>wpC P nt ret f b env L T' M' K
       | e=>K e T' M')
     | false=>bY (fun J=>wpC P nt ret f a env (eZ ret f env b L) T M (fun e T' M'=>match e with
       | .normal=>J (uN T' (bitsOf (dC f a &&& eZ ret f env b L) nt)) M'
       | e=>K e T' M'))
       (fun xs M'=>wpC P nt ret f b env L (yR T (bitsOf (dC f a) nt) (bitsOf (dC f a &&& eZ ret f env b L) nt) xs) M' K)
   | .cond c a b=>au (qQ T c) (wpC P nt ret f a env L T M K) (wpC P nt ret f b env L T M K)
   | .block id c=>match Nat.ble gt id with
     | true=>False
     | false=>wpC P nt ret f c ((id,L) :: env) L T M (fun e T' M'=>match e with
       | .exit i=>match Nat.beq i id with
         | true=>K .normal T' M'
         | false=>K (.exit i) T' M'
       | e=>K e T' M')
   | .loop c=>bz (fun next xs M'=>wpC P nt ret f c env (eZ ret f env c (eZ ret f env c 0)) (yR T (bitsOf (dC f c) nt) (bitsOf (dC f c &&& eZ ret f env c (eZ ret f env c 0)) nt) xs) M'
     (fun e T' M'=>match e with
      | .normal=>next (uN T' (bitsOf (dC f c &&& eZ ret f env c (eZ ret f env c 0)) nt)) M'
      | e=>K e T' M'))
     (uN T (bitsOf (dC f c &&& eZ ret f env c (eZ ret f env c 0)) nt)) M
   | .exit id=>match Nat.ble gt id with
     | true=>False
     | false=>K (.exit id) T M
   | .ret=>K .ret T M
   | .scope c=>wpC P nt ret f c ((qo c).map (fun l=>(gt + l,eZ ret f env (vY c l) L))++env) L T M (fun e T' M'=>match e with
     | .exit i=>match Nat.ble gt i with
       | true=>match findLabel c (i - gt) with
         | some r=>wpC P nt ret f r env L T' M' (fun e T2 M2=>match e with
           | .exit j=>match Nat.ble gt j with
             | true=>False
             | false=>K (.exit j) T2 M2
           | e=>K e T2 M2)
         | none=>K (.exit i) T' M'
       | false=>K (.exit i) T' M'
     | e=>K e T' M')
   | .label _=>K .normal T M
   | .goto l=>K (.exit (gt + l)) T M
   | _=>False
def Q4 (P:Program) (T:Tree AV) (M:RM) (r:ResultVar) (K:AV→Prop) : Prop :=
 match r with
 | .tmp t=>K ((T.get t).getD .top)
 | .cell a t=>match bZ P t with
   | some false=>ak M ((T.get a).getD .top) K
   | some true=>match aW P t with
     | some n=>aI M ((T.get a).getD .top) n K
     | none=>False
   | none=>False
def Q3 (P:Program) (T:Tree AV) (M:RM) : List ResultVar→(List AV→Prop)→Prop
 | [],K=>K []
 | r :: rs,K=>Q4 P T M r (fun v=>Q3 P T M rs (fun vs=>K (v :: vs)))
def TY (Q:ai) (M:RM) : List AV→Prop
 | [v]=>Q v M
 | vs=>Q (.tup vs) M
def FB:List ResultVar→Nat
 | []=>0
 | .tmp t :: rs=>2 ^ t ||| FB rs
 | .cell a _ :: rs=>2 ^ a ||| FB rs
def PR (P:Program) (fn:Func) (c:Code) (args:List AV) (M:RM) (Q:ai) : Prop :=
 wpC P (args.length + (fn.ntmps - args.length)) (FB fn.results.toList) 1000 c [] 0 (Tree.ofList args 0 .leaf) M
  (fun e T M'=>match e with
   | .exit _=>False
   | _=>Q3 P T M' fn.results.toList (TY Q M'))
section
variable {P:Program} {nt ret:Nat}
def JQ:Ex→Exit
 | .normal=>.normal
 | .exit i=>match Nat.ble gt i with
   | true=>.goto (i - gt)
   | false=>.exit i
 | .ret=>.ret
theorem nV {i:Nat} (h:Nat.ble gt i=false) : JQ (.exit i)=.exit i:=by simp only[JQ,h]
theorem vO {i:Nat} (h:Nat.ble gt i=true) : JQ (.exit i)=.goto (i - gt):=by simp only[JQ,h]
theorem Dm (i:Nat) : JQ (.exit i)=.goto (i - gt)∨JQ (.exit i)=.exit i:=by
 cases h:Nat.ble gt i with
 | true=>exact .inl (vO h)
 | false=>exact .inr (nV h)
theorem H9 {c:Code} {Q:Exit→Act→World→Prop} {a:Act} {w:World} (h:c.wp P (fun e a w=>match e with
  | .goto l=>match findLabel c l with
    | some r=>r.wp P (Exit.noGoto Q) a w
    | none=>Q (.goto l) a w
  | e=>Q e a w) a w) : (Code.scope c).wp P Q a w:=by
 intro b k cs
 obtain⟨e,a₁,w₁,hq,harr⟩:=h b (.inScope c :: k) cs
 have WR:∀ {c' : Code} {a w},c'.wp P (Exit.noGoto Q) a w→∃ e a' w',Q e a' w'∧Arrives P (lone (b.at a (.code c' :: .inScope c :: k)) cs w) b k cs e a' w':=by
  intro c' a w h
  obtain⟨e,a₁,w₁,hq,harr⟩:=h b (.inScope c :: k) cs
  cases e with
  | normal=>exact⟨.normal,a₁,w₁,hq,Steps.trans harr (.one step_inScope)⟩
  | exit id=>exact⟨.exit id,a₁,w₁,hq,fun k' hk=>harr k' (by simp[exitTo,hk])⟩
  | goto l=>exact hq.elim
  | ret=>exact⟨_,a₁,w₁,hq,harr⟩
  | panic ch=>exact⟨_,a₁,w₁,hq,harr⟩
  | outgrown=>exact⟨_,a₁,w₁,hq,harr⟩
 cases e with
 | normal=>exact⟨.normal,a₁,w₁,hq,.head step_scope (Steps.trans harr (.one step_inScope))⟩
 | exit id=>exact⟨.exit id,a₁,w₁,hq,fun k' hk=>.head step_scope (harr k' (by simp[exitTo,hk]))⟩
 | goto l =>
   simp only at hq
   cases hf:findLabel c l with
   | none =>
     rw[hf] at hq
     exact⟨.goto l,a₁,w₁,hq,fun k' hk=>.head step_scope (harr k' (by simp[gotoIn,hf,hk]))⟩
   | some r =>
     rw[hf] at hq
     obtain⟨e2,a2,w2,q2,r2⟩:=WR hq
     exact⟨e2,a2,w2,q2,.of_steps (Steps.trans (.one step_scope) (harr _ (by simp[gotoIn,hf]))) r2⟩
 | ret=>exact⟨_,a₁,w₁,hq,.of_steps (.one step_scope) harr⟩
 | panic ch=>exact⟨_,a₁,w₁,hq,.of_steps (.one step_scope) harr⟩
 | outgrown=>exact⟨_,a₁,w₁,hq,.of_steps (.one step_scope) harr⟩
theorem CS:∀ {c:Code} {l:Nat} {r:Code},findLabel c l=some r→l∈qo c
 | .seq a b,l,r,h=>by
   rw[findLabel] at h
   rw[qo,List.mem_append]
   split at h
   ·rename_i rest hr
    exact .inl (CS hr)
   ·exact .inr (CS h)
 | .label l',l,r,h=>by
   rw[findLabel] at h
   split at h
   ·rename_i he
    have:l'=l:=by simpa using he
    simp[qo,this]
   ·cases h
 | .skip,_,_,h=>by simp[findLabel] at h
 | .region ..,_,_,h=>by simp[findLabel] at h
 | .cond ..,_,_,h=>by simp[findLabel] at h
 | .block ..,_,_,h=>by simp[findLabel] at h
 | .loop ..,_,_,h=>by simp[findLabel] at h
 | .exit ..,_,_,h=>by simp[findLabel] at h
 | .ret,_,_,h=>by simp[findLabel] at h
 | .scope ..,_,_,h=>by simp[findLabel] at h
 | .goto ..,_,_,h=>by simp[findLabel] at h
 | .rangeFunc ..,_,_,h=>by simp[findLabel] at h
 | .refuse ..,_,_,h=>by simp[findLabel] at h
theorem Jb {t f:Nat} {c:Code} : ∀ (ls:List Nat),Nat.testBit (ls.foldr (fun l s=>dC f (vY c l) ||| s) 0) t=false→∀ l∈ls,Nat.testBit (dC f (vY c l)) t=false
 | [],_,_,hl=>by cases hl
 | x :: ls,h,l,hl=>by
   simp only[List.foldr_cons,Nat.testBit_or,Bool.or_eq_false_iff] at h
   rcases List.mem_cons.1 hl with rfl | hl
   ·exact h.1
   ·exact Jb ls h.2 l hl
theorem Rq {t f:Nat} {c r:Code} {l:Nat} (hf:findLabel c l=some r) (h:Nat.testBit (dC (f + 1) (.scope c)) t=false) : Nat.testBit (dC f r) t=false:=by
 simp only[dC,Nat.testBit_or,Bool.or_eq_false_iff] at h
 have:=Jb _ h.2 l (CS hf)
 unfold vY at this
 rw[hf] at this
 exact this
def NA (P:Program) (nt:Nat) (M0:RM) (ρ0:Ren) (w0:World) (T:Tree AV) (asg:Nat) (K:K3) (e:Exit) (a:Act) (w:World) : Prop :=
 ∃ x T' M' ρ',e=JQ x∧After P M0 ρ0 w0 M' ρ' w∧gp ρ' nt T' a∧(∀ t,Nat.testBit asg t=false→T'.get t=T.get t)∧K x T' M'
theorem JG {T:Tree AV} : ∀ (vs:List Nat) (i:Nat),ag (uN T vs) i=match vs[i]? with | some t=>(T.get t).getD .top | none=>.top
 | [],i=>by simp[uN,ag]
 | t :: vs,0=>by simp[uN,ag]
 | t :: vs,i + 1=>by simp[uN,ag,JG vs i]
theorem Br:∀ (asg:List Nat) (T:Tree AV) (t:Nat),(wN T asg).get t=if t∈asg then some .top else T.get t
 | [],T,t=>by simp[wN]
 | d :: asg,T,t=>by
   simp only[wN,Br asg,Tree.bq,List.mem_cons]
   by_cases h1:t∈asg
   ·simp[h1]
   ·by_cases h2:t=d <;> simp[h1,h2]
theorem CJ:∀ (vs:List Nat) (T:Tree AV) (xs:List AV) (i t:Nat),(t ∉ vs∧(IY T xs i vs).get t=T.get t)∨∃ j,vs[j]?=some t∧(IY T xs i vs).get t=some (ag xs (i + j))
 | [],T,xs,i,t=>.inl ⟨by simp,rfl⟩
 | d :: vs,T,xs,i,t=>by
   simp only[IY]
   rcases CJ vs (T.set d (ag xs i)) xs (i + 1) t with⟨h1,h2⟩ | ⟨j,h1,h2⟩
   ·rw[Tree.bq] at h2
    by_cases e:t=d
    ·rw[if_pos e] at h2
     exact .inr ⟨0,by simp[e],h2⟩
    ·rw[if_neg e] at h2
     exact .inl ⟨by simp[e,h1],h2⟩
   ·exact .inr ⟨j + 1,by simpa using h1,by rw[h2]; congr 2; omega⟩
theorem xL {m:Nat} : ∀ (n i t:Nat),t∈vT m i n↔i≤t∧t<i + n∧Nat.testBit m t=true
 | 0,i,t=>by simp[vT]; omega
 | n + 1,i,t=>by
   simp only[vT]
   split
   ·rename_i h
    rw[List.mem_cons,xL n (i + 1) t]
    constructor
    ·rintro(rfl | ⟨a,b,c⟩)
     ·exact⟨Nat.le_refl _,by omega,h⟩
     ·exact⟨by omega,by omega,c⟩
    ·rintro⟨a,b,c⟩
     by_cases e:t=i
     ·exact .inl e
     ·exact .inr ⟨by omega,by omega,c⟩
   ·rename_i h
    rw[xL n (i + 1) t]
    constructor
    ·rintro⟨a,b,c⟩; exact⟨by omega,by omega,c⟩
    ·rintro⟨a,b,c⟩
     have:t≠i:=fun e=>by subst e; rw[h] at c; cases c
     exact⟨by omega,by omega,c⟩
theorem rG {m n t:Nat} : t∈bitsOf m n↔t<n∧Nat.testBit m t=true:=by
 unfold bitsOf; rw[xL]; simp
theorem Bg {ρ:Ren} {T T' : Tree AV} {a:Act} {asg:Nat} {vs:List Nat} (h:gp ρ nt T' a) (hge:∀ t,nt≤t→ah ρ ((T.get t).getD .top) undef) (hk:∀ t,Nat.testBit asg t=false→T'.get t=T.get t) : gp ρ nt (yR T (bitsOf asg nt) vs (uN T' vs)) a:=by
 refine⟨h.size,fun t=>?_,h.defers⟩
 unfold yR
 rcases CJ vs (wN T (bitsOf asg nt)) (uN T' vs) 0 t with⟨_,h2⟩ | ⟨j,h1,h2⟩
 ·rw[h2,Br]
  split
  ·exact .top _
  ·rename_i hm
   by_cases hb:Nat.testBit asg t=true
   ·have hge' : nt≤t:=by
     rcases Nat.lt_or_ge t nt with hlt | hge
     ·exact absurd (rG.2 ⟨hlt,hb⟩) hm
     ·exact hge
    have hv:a.tmps.getD t undef=undef:=by
     rw[Array.getD_eq_getD_getElem?,Array.getElem?_eq_none (by rw[h.size]; exact hge')]; rfl
    rw[hv]; exact hge t hge'
   ·rw[← hk t (by simpa using hb)]
    exact h.val t
 ·rw[h2,Nat.zero_add,JG,h1]
  exact h.val t
theorem D8 {T:Tree AV} {asg:Nat} {vs:List Nat} {xs:List AV} (hvs:∀ t∈vs,Nat.testBit asg t=true) (t:Nat) (h:Nat.testBit asg t=false) : (yR T (bitsOf asg nt) vs xs).get t=T.get t:=by
 unfold yR
 rcases CJ vs (wN T (bitsOf asg nt)) xs 0 t with⟨_,h2⟩ | ⟨j,h1,h2⟩
 ·rw[h2,Br,if_neg]
  intro hm
  rw[(rG.1 hm).2] at h; cases h
 ·have:=hvs t (List.mem_of_getElem? h1)
  rw[h] at this; cases this
theorem gp.ge {ρ:Ren} {T:Tree AV} {a:Act} (h:gp ρ nt T a) : ∀ t,nt≤t→ah ρ ((T.get t).getD .top) undef:=by
 intro t ht
 have:=h.val t
 rw[Array.getD_eq_getD_getElem?,Array.getElem?_eq_none (by rw[h.size]; exact ht)] at this
 exact this
theorem Cs {c:Code} {Q:Exit→Act→World→Prop} : ∀ {n m:Nat} {a:Act} {w:World},n≤m→Code.rounds P c Q n a w→Code.rounds P c Q m a w
 | 0,_,_,_,_,h=>h.elim
 | n + 1,m + 1,a,w,hle,h=>by
   rw[rounds_succ] at h ⊢
   refine wp_mono h fun e a' w' hp=>?_
   cases e with
   | normal=>exact Cs (Nat.le_of_succ_le_succ hle) hp
   | exit id=>exact hp
   | ret=>exact hp
   | goto l=>exact hp
   | panic c=>exact hp
   | outgrown=>exact hp
theorem xI {t:Nat} : ∀ (l:List Oper),Nat.testBit (ET l) t=false→∀ o∈l,o.dst≠some t
 | [],_,o,ho=>by cases ho
 | x :: l,h,o,ho=>by
   simp only[ET,Nat.testBit_or,Bool.or_eq_false_iff] at h
   rcases List.mem_cons.1 ho with rfl | ho
   ·intro e
    rw[e] at h
    simp[KE,Nat.testBit_two_pow] at h
   ·exact xI l h.2 o ho
theorem OB {ρ:Ren} {x:AV} {u:Value} {p q:Prop} (h:au x p q) (hx:ah ρ x u) : ∃ b,u=.bool b∧(b=true→p)∧(b=false→q):=by
 unfold au at h
 split at h <;> first | (cases h; done) | skip
 rename_i b
 exact⟨b,(aL hx).1,h.1,h.2⟩
theorem PE (hP:Aq P) : ∀ (f:Nat) (c:Code) (env:List (Nat × Nat)) (L:Nat) (T:Tree AV) (M:RM) (K:K3),wpC P nt ret f c env L T M K →
  ∀ (M0:RM) (ρ0:Ren) (w0:World) (ρ:Ren) (a:Act) (w:World),After P M0 ρ0 w0 M ρ w→gp ρ nt T a→c.wp P (NA P nt M0 ρ0 w0 T (dC f c) K) a w:=by
 intro f
 induction f with
 | zero=>intro c env L T M K h; exact h.elim
 | succ f ih =>
   intro c env L T M K h M0 ρ0 w0 ρ a w hM hA
   cases c with
   | skip=>exact wp_skip ⟨.normal,T,M,ρ,rfl,hM,hA,fun _ _=>rfl,h⟩
   | region id ops d =>
     cases d with
     | false =>
       refine wp_region ?_
       have:=xM (nt:=nt) hP (ops:=ops) (Q:=NA P nt M0 ρ0 w0 T (dC (f + 1) (.region id ops false)) K) (K:=fun T' M'=>K .normal T' M') (M0:=M0) (ρ0:=ρ0) (w0:=w0) (T0:=T)
        (fun T' M' ρ' a' w' k1 k2 k3 k4=>⟨.normal,T',M',ρ',rfl,k1,k2,fun t ht=>k4 t (xI _ ht),k3⟩) ops.toList 0 (by simp) hA hM (fun _ _=>rfl) h
       rw[Array.length_toList,← List.range_eq_range'] at this
       exact this
     | true =>
       exact KX (nt:=nt) (T:=T) hP hM hA (fun T' M' ρ' a' w' k1 k2 k3 k4=>⟨.normal,T',M',ρ',rfl,k1,k2,fun t ht=>k4 t (xI _ ht),k3⟩) h
   | seq c1 c2 =>
     simp only[wpC] at h
     refine wp_seq ?_
     split at h
     ·refine wp_mono (ih c1 _ _ _ _ _ h M0 ρ0 w0 ρ a w hM hA) fun e a' w' hp=>?_
      obtain⟨x,T1,M1,ρ1,rfl,k1,k2,k3,k4⟩:=hp
      cases x with
      | normal =>
        refine wp_mono (ih c2 _ _ _ _ _ k4 M0 ρ0 w0 ρ1 a' w' k1 k2) fun e a2 w2 hp=>?_
        obtain⟨x,T2,M2,ρ2,he,q1,q2,q3,q4⟩:=hp
        exact⟨x,T2,M2,ρ2,he,q1,q2,fun t ht=>by
         simp only[dC,Nat.testBit_or,Bool.or_eq_false_iff] at ht
         rw[q3 t ht.2,k3 t ht.1],q4⟩
      | exit i =>
        have kk:∀ t,Nat.testBit (dC (f + 1) (.seq c1 c2)) t=false→T1.get t=T.get t:=fun t ht=>by
         simp only[dC,Nat.testBit_or,Bool.or_eq_false_iff] at ht
         exact k3 t ht.1
        rcases Dm i with he | he <;> rw[he] <;> exact⟨.exit i,T1,M1,ρ1,he.symm,k1,k2,kk,k4⟩
      | ret=>exact⟨.ret,T1,M1,ρ1,rfl,k1,k2,fun t ht=>by
        simp only[dC,Nat.testBit_or,Bool.or_eq_false_iff] at ht
        exact k3 t ht.1,k4⟩
     ·unfold bY at h
      refine wp_mono (ih c1 _ _ _ _ _ h M0 ρ0 w0 ρ a w hM hA) fun e a' w' hp=>?_
      obtain⟨x,T1,M1,ρ1,rfl,k1,k2,k3,k4⟩:=hp
      have hge:∀ t,nt≤t→ah ρ1 ((T.get t).getD .top) undef:=fun t ht=>by
       have h1:=k2.ge t ht
       by_cases hb:Nat.testBit (dC f c1) t=false
       ·rw[k3 t hb] at h1; exact h1
       ·have h0:=hA.ge t ht
        have hu:∀ (ρ ρ' : Ren) (x:AV),ah ρ x undef→ah ρ' x undef:=by
         intro ρ ρ' x hx
         unfold undef at hx ⊢
         cases hx with
         | top=>exact .top _
         | sc v p=>exact .sc _ p
         | tup xs vs a=>cases a; exact .tup _ _ .nil
        exact hu _ _ _ h0
      cases x with
      | normal =>
        refine wp_mono (ih c2 _ _ _ _ _ k4 M0 ρ0 w0 ρ1 a' w' k1 (Bg k2 hge k3)) fun e a2 w2 hp=>?_
        obtain⟨x,T2,M2,ρ2,he,q1,q2,q3,q4⟩:=hp
        refine⟨x,T2,M2,ρ2,he,q1,q2,fun t ht=>?_,q4⟩
        simp only[dC,Nat.testBit_or,Bool.or_eq_false_iff] at ht
        rw[q3 t ht.2]
        refine D8 (fun t' ht'=>?_) t ht.1
        have:=(rG.1 ht').2
        rw[Nat.testBit_and,Bool.and_eq_true] at this
        exact this.1
      | exit i =>
        have kk:∀ t,Nat.testBit (dC (f + 1) (.seq c1 c2)) t=false→T1.get t=T.get t:=fun t ht=>by
         simp only[dC,Nat.testBit_or,Bool.or_eq_false_iff] at ht
         exact k3 t ht.1
        rcases Dm i with he | he <;> rw[he] <;> exact⟨.exit i,T1,M1,ρ1,he.symm,k1,k2,kk,k4⟩
      | ret=>exact⟨.ret,T1,M1,ρ1,rfl,k1,k2,fun t ht=>by
        simp only[dC,Nat.testBit_or,Bool.or_eq_false_iff] at ht
        exact k3 t ht.1,k4⟩
   | cond cnd c1 c2 =>
     simp only[wpC] at h
     obtain⟨b,hb,h1,h2⟩:=OB h (GA hA cnd)
     cases b with
     | true =>
       refine wp_cond_true hb (wp_mono (ih c1 _ _ _ _ _ (h1 rfl) M0 ρ0 w0 ρ a w hM hA) fun e a' w' hp=>?_)
       obtain⟨x,T1,M1,ρ1,he,k1,k2,k3,k4⟩:=hp
       exact⟨x,T1,M1,ρ1,he,k1,k2,fun t ht=>by
         simp only[dC,Nat.testBit_or,Bool.or_eq_false_iff] at ht
         exact k3 t ht.1,k4⟩
     | false =>
       refine wp_cond_false hb (wp_mono (ih c2 _ _ _ _ _ (h2 rfl) M0 ρ0 w0 ρ a w hM hA) fun e a' w' hp=>?_)
       obtain⟨x,T1,M1,ρ1,he,k1,k2,k3,k4⟩:=hp
       exact⟨x,T1,M1,ρ1,he,k1,k2,fun t ht=>by
         simp only[dC,Nat.testBit_or,Bool.or_eq_false_iff] at ht
         exact k3 t ht.2,k4⟩
   | block id c1 =>
     simp only[wpC] at h
     split at h <;> first | (cases h; done) | skip
     rename_i hid
     refine wp_block (wp_mono (ih c1 _ _ _ _ _ h M0 ρ0 w0 ρ a w hM hA) fun e a' w' hp=>?_)
     obtain⟨x,T1,M1,ρ1,rfl,k1,k2,k3,k4⟩:=hp
     cases x with
     | normal=>exact⟨.normal,T1,M1,ρ1,rfl,k1,k2,k3,k4⟩
     | ret=>exact⟨.ret,T1,M1,ρ1,rfl,k1,k2,k3,k4⟩
     | exit i =>
       simp only at k4
       split at k4
       ·rename_i he
        have he:=bX he
        subst he
        rw[nV hid]
        simp only[Exit.inBlock,if_true]
        exact⟨.normal,T1,M1,ρ1,rfl,k1,k2,k3,k4⟩
       ·rename_i he
        have he:=Eo he
        cases hg:Nat.ble gt i with
        | false=>rw[nV hg]; simp only[Exit.inBlock,if_neg he]; exact⟨.exit i,T1,M1,ρ1,(nV hg).symm,k1,k2,k3,k4⟩
        | true=>rw[vO hg]; exact⟨.exit i,T1,M1,ρ1,(vO hg).symm,k1,k2,k3,k4⟩
   | loop c1 =>
     simp only[wpC] at h
     obtain⟨I,n,hI,hbody⟩:=h
     have hvs:∀ t∈bitsOf (dC f c1 &&& eZ ret f env c1 (eZ ret f env c1 0)) nt,Nat.testBit (dC f c1) t=true:=fun t' ht'=>by
      have:=(rG.1 ht').2
      rw[Nat.testBit_and,Bool.and_eq_true] at this
      exact this.1
     generalize hv:bitsOf (dC f c1 &&& eZ ret f env c1 (eZ ret f env c1 0)) nt=vs at hI hbody hvs
     have hu:∀ (ρ ρ' : Ren) (x:AV),ah ρ x undef→ah ρ' x undef:=by
      intro ρ ρ' x hx
      unfold undef at hx ⊢
      cases hx with
      | top=>exact .top _
      | sc v p=>exact .sc _ p
      | tup xs vs a=>cases a; exact .tup _ _ .nil
     have hge:∀ (ρ1:Ren) t,nt≤t→ah ρ1 ((T.get t).getD .top) undef:=fun ρ1 t ht=>hu _ _ _ (hA.ge t ht)
     have key:∀ (m:Nat) (ys:List AV) (M1:RM) (ρ1:Ren) (a1:Act) (w1:World),I m ys M1→After P M0 ρ0 w0 M1 ρ1 w1→gp ρ1 nt (yR T (bitsOf (dC f c1) nt) vs ys) a1 →
       Code.rounds P c1 (NA P nt M0 ρ0 w0 T (dC (f + 1) (.loop c1)) K) (m + 1) a1 w1:=by
      intro m
      induction m using Nat.strongRecOn with
      | _ m ihm =>
        intro ys M1 ρ1 a1 w1 hIm hM1 hA1
        rw[rounds_succ]
        refine wp_mono (ih c1 _ _ _ _ _ (hbody m ys M1 hIm) M0 ρ0 w0 ρ1 a1 w1 hM1 hA1) fun e a' w' hp=>?_
        obtain⟨x,T2,M2,ρ2,rfl,k1,k2,k3,k4⟩:=hp
        have k3' : ∀ t,Nat.testBit (dC f c1) t=false→T2.get t=T.get t:=fun t ht=>by rw[k3 t ht]; exact D8 hvs t ht
        cases x with
        | normal =>
          obtain⟨m',hlt,hI'⟩:=k4
          exact Cs (by omega) (ihm m' hlt _ M2 ρ2 a' w' hI' k1 (Bg k2 (hge ρ2) k3'))
        | exit i=>rcases Dm i with he | he <;> rw[he] <;> exact⟨.exit i,T2,M2,ρ2,he.symm,k1,k2,k3',k4⟩
        | ret=>exact⟨.ret,T2,M2,ρ2,rfl,k1,k2,k3',k4⟩
     exact wp_loop_rounds _ (key n _ M ρ a w hI hM (Bg hA (hge ρ) fun _ _=>rfl))
   | exit id =>
     simp only[wpC] at h
     split at h <;> first | (cases h; done) | skip
     rename_i hid
     exact wp_exit ⟨.exit id,T,M,ρ,(nV hid).symm,hM,hA,fun _ _=>rfl,h⟩
   | ret=>exact wp_ret ⟨.ret,T,M,ρ,rfl,hM,hA,fun _ _=>rfl,h⟩
   | rangeFunc=>simp[wpC] at h
   | scope c1 =>
     simp only[wpC] at h
     have hs:∀ t,Nat.testBit (dC (f + 1) (.scope c1)) t=false→Nat.testBit (dC f c1) t=false:=fun t ht=>by
      simp only[dC,Nat.testBit_or,Bool.or_eq_false_iff] at ht
      exact ht.1
     refine H9 (wp_mono (ih c1 _ _ _ _ _ h M0 ρ0 w0 ρ a w hM hA) fun e a' w' hp=>?_)
     obtain⟨x,T1,M1,ρ1,rfl,k1,k2,k3,k4⟩:=hp
     cases x with
     | normal=>exact⟨.normal,T1,M1,ρ1,rfl,k1,k2,fun t ht=>k3 t (hs t ht),k4⟩
     | ret=>exact⟨.ret,T1,M1,ρ1,rfl,k1,k2,fun t ht=>k3 t (hs t ht),k4⟩
     | exit i =>
       cases hg:Nat.ble gt i with
       | false =>
         simp only[hg] at k4
         rw[nV hg]
         exact⟨.exit i,T1,M1,ρ1,(nV hg).symm,k1,k2,fun t ht=>k3 t (hs t ht),k4⟩
       | true =>
         simp only[hg] at k4
         rw[vO hg]
         simp only
         cases hf:findLabel c1 (i - gt) with
         | none =>
           simp only[hf] at k4
           exact⟨.exit i,T1,M1,ρ1,(vO hg).symm,k1,k2,fun t ht=>k3 t (hs t ht),k4⟩
         | some r =>
           simp only[hf] at k4
           refine wp_mono (ih r _ _ _ _ _ k4 M0 ρ0 w0 ρ1 a' w' k1 k2) fun e a2 w2 hp=>?_
           obtain⟨x,T2,M2,ρ2,rfl,q1,q2,q3,q4⟩:=hp
           have q3' : ∀ t,Nat.testBit (dC (f + 1) (.scope c1)) t=false→T2.get t=T.get t:=fun t ht=>by rw[q3 t (Rq hf ht),k3 t (hs t ht)]
           cases x with
           | normal=>exact⟨.normal,T2,M2,ρ2,rfl,q1,q2,q3',q4⟩
           | ret=>exact⟨.ret,T2,M2,ρ2,rfl,q1,q2,q3',q4⟩
           | exit j =>
             cases hj:Nat.ble gt j with
             | true=>simp only[hj] at q4
             | false =>
               simp only[hj] at q4
               rw[nV hj]
               exact⟨.exit j,T2,M2,ρ2,(nV hj).symm,q1,q2,q3',q4⟩
   | label l=>exact wp_label ⟨.normal,T,M,ρ,rfl,hM,hA,fun _ _=>rfl,h⟩
   | goto l =>
     simp only[wpC] at h
     refine wp_goto ⟨.exit (gt + l),T,M,ρ, ?_,hM,hA,fun _ _=>rfl,h⟩
     rw[vO (by simp),Nat.add_sub_cancel_left]
   | refuse=>simp[wpC] at h
theorem Nu {ρ:Ren} {T:Tree AV} {M:RM} {a:Act} {w:World} (hA:gp ρ nt T a) (hw:bP P ρ M w) {r:ResultVar} {K:AV→Prop} (h:Q4 P T M r K) :
  ∃ v v',(BV a.tmps r).run P w=.ok v' w∧ah ρ v v'∧K v:=by
 cases r with
 | tmp t=>exact⟨_,_,rfl,hA.val t,h⟩
 | cell x t =>
   simp only[Q4] at h
   have hv:=hA.val x
   split at h <;> first | (cases h; done) | skip
   ·rename_i ha
    obtain⟨b,p,v,hx,hl,hk⟩:=h
    rw[hx] at hv
    obtain⟨i,hb,hc⟩:=cZ hv
    obtain⟨u,hu,hcell⟩:=Gw hw hb hl
    refine⟨v,u, ?_,hu,hk⟩
    simp only[BV,hc,asAddr,Sem.run_bind,Sem.run_pure,Result.andThen_ok,loadVar,gJ ha,Bool.false_eq_true,if_false,load,Sem.run,hcell]
   ·rename_i ha
    split at h <;> first | (cases h; done) | skip
    rename_i n hs
    obtain⟨b,p,xs,hx,hl,hk⟩:=h
    rw[hx] at hv
    obtain⟨i,hb,hc⟩:=cZ hv
    obtain⟨vs,hr,hlen,_,hrun⟩:=RM.jZ (P:=P) hw hb hl
    exact⟨.agg xs,.agg ⟨vs⟩,by simp only[BV,hc,asAddr,Sem.run_bind,Sem.run_pure,Result.andThen_ok,loadVar,gJ ha,if_true,bS hs,hrun],.agg _ _ hr,hk⟩
theorem xS {ρ:Ren} {T:Tree AV} {M:RM} {a:Act} {w:World} (hA:gp ρ nt T a) (hw:bP P ρ M w) : ∀ (rs:List ResultVar) (K:List AV→Prop),Q3 P T M rs K →
  ∃ vs us,(rs.mapM (BV a.tmps)).run P w=.ok us w∧aO ρ vs us∧K vs
 | [],K,h=>⟨[],[],by simp,.nil,h⟩
 | r :: rs,K,h=>by
   obtain⟨v,v',h1,h2,h3⟩:=Nu hA hw h
   obtain⟨vs,us,h4,h5,h6⟩:=xS hA hw rs _ h3
   refine⟨v :: vs,v' :: us, ?_,.cons _ _ _ _ h2 h5,h6⟩
   simp only[List.mapM_cons,Sem.run_bind,h1,Result.andThen_ok,h4,Sem.run_pure]
theorem Gc (hP:Aq P) {f:FuncId} {fn:Func} {c:Code} {args:List AV} {M:RM} {Q:ai} (hfn:P.funcs[f]?=some fn) (hbody:fn.body=some c) (h:PR P fn c args M Q) : dR P f args M Q:=by
 refine⟨⟨fn,c,hfn,hbody⟩,fun ρ w us hargs hw=>?_⟩
 have hlen:=hargs.length
 have hA:gp ρ (args.length + (fn.ntmps - args.length)) (Tree.ofList args 0 .leaf) { tmps:=⟨us⟩++Array.replicate (fn.ntmps - (⟨us⟩ : Array Value).size) undef,defers:=[] } := by
  refine⟨by simp[hlen],fun t=>?_,rfl⟩
  rw[Tree.ma]
  by_cases ht:t<args.length
  ·rw[if_pos (by omega),Nat.sub_zero]
   obtain⟨u,hu,hv⟩:=hargs.get (n:=t) (x:=args[t]) (by simp[ht])
   rw[List.getElem?_eq_getElem ht]
   simp only[Option.getD_some]
   have:((⟨us⟩ : Array Value)++Array.replicate (fn.ntmps - (⟨us⟩ : Array Value).size) undef).getD t undef=u:=by
    rw[Array.getD_eq_getD_getElem?,Array.getElem?_append_left (by simp; omega)]
    simp[hu]
   rw[this]; exact hv
  ·rw[if_neg (by omega)]
   exact .top _
 refine calls_of_wp hfn hbody (wp_mono (PE hP 1000 c [] 0 _ M _ h M ρ w ρ _ w (After.refl hw) hA) fun e a w' hp=>?_)
 obtain⟨x,T',M',ρ',rfl,k1,k2,k3,k4⟩:=hp
 have key:(∃ vs us,(fn.results.toList.mapM (BV a.tmps)).run P w'=.ok us w'∧aO ρ' vs us∧TY Q M' vs) →
   a.defers=[]∧∃ v,(results fn a.tmps).run P w'=.ok v w'∧∃ v' v_1 UH Ud,Ending.returned v=.returned v'∧After P M ρ w UH Ud w'∧ah Ud v_1 v'∧Q v_1 UH:=by
  rintro⟨vs,us,h1,h2,h3⟩
  have hres:(results fn a.tmps).run P w'=.ok (if h:(⟨us⟩ : Array Value).size=1 then(⟨us⟩ : Array Value)[0] else .tuple ⟨us⟩) w':=by
   have e:results fn a.tmps=(fn.results.mapM (BV a.tmps) >>= fun vs=>pure (if h:vs.size=1 then vs[0] else .tuple vs)):=rfl
   rw[e,Array.mapM_eq_mapM_toList]
   simp only[Sem.run_bind,Sem.run_map,h1,Result.andThen_ok,Sem.run_pure]
  refine⟨k2.defers,_,hres, ?_⟩
  cases h2 with
  | nil=>exact⟨_,_,M',ρ',rfl,k1,.tup _ _ .nil,h3⟩
  | cons x v xs vs2 hv htl =>
    cases htl with
    | nil=>exact⟨_,x,M',ρ',rfl,k1,hv,h3⟩
    | cons y u ys us2 hu Xt=>exact⟨_,_,M',ρ',rfl,k1,.tup _ _ (.cons _ _ _ _ hv (.cons _ _ _ _ hu Xt)),h3⟩
 cases x with
 | normal=>exact key (xS k2 k1.rel _ _ k4)
 | ret=>exact key (xS k2 k1.rel _ _ k4)
 | exit id=>exact k4.elim
abbrev aj:=List AV→RM→ai→Prop
def Fj (P:Program) (fn:Func) (args:List AV) (M:RM) (Q:ai) : Prop :=
 match fn.body with
 | some c=>PR P fn c args M Q
 | none=>False
theorem Qb (hP:Aq P) {f:FuncId} {fn:Func} {args:List AV} {M:RM} {Q:ai} (hfn:P.funcs[f]?=some fn) (h:Fj P fn args M Q) : dR P f args M Q:=by
 unfold Fj at h
 split at h
 ·rename_i c hc; exact Gc hP hfn hc h
 ·cases h
end
def RM.cell (M:RM) (b o:Nat) : Option AV:=(M.cells b).bind (·[o]?)
section
variable {M M' : RM} {K:AV→Prop} {KQ:ai}
theorem EY {b o:Nat} {v:AV} : M.loads b o 1=some [v]↔M.cell b o=some v:=by
 unfold RM.loads RM.cell
 cases hc:M.cells b with
 | none=>simp
 | some l =>
   simp only[Option.bind_some]
   constructor
   ·intro h
    split at h
    ·rename_i hlt
     have h1:=Option.some.inj h
     have:((l.drop o).take 1)[0]?=some v:=by rw[h1]; rfl
     rw[List.getElem?_take,if_pos (by omega),List.getElem?_drop] at this
     simpa using this
    ·cases h
   ·intro h
    have hlt:=(List.getElem?_eq_some_iff.1 h).1
    rw[if_pos (by omega)]
    congr 1
    rw[List.drop_eq_getElem_cons hlt]
    simp only[List.take_succ_cons,List.take_zero]
    congr 1
    exact(List.getElem?_eq_some_iff.1 h).2
@[go_sem] theorem dZ (b o:Nat) : ak M (.ptr b o) K=∃ v,M.cell b o=some v∧K v:=by
 apply propext; unfold ak
 constructor
 ·rintro⟨b',o',v,h,hl,hk⟩; cases h; exact⟨v,EY.1 hl,hk⟩
 ·rintro⟨v,hl,hk⟩; exact⟨b,o,v,rfl,EY.2 hl,hk⟩
@[go_sem] theorem qf (b o n:Nat) : aI M (.ptr b o) n K=∃ vs,M.loads b o n=some vs∧K (.agg vs):=by
 apply propext; unfold aI
 constructor
 ·rintro⟨b',o',v,h,hl,hk⟩; cases h; exact⟨v,hl,hk⟩
 ·rintro⟨v,hl,hk⟩; exact⟨b,o,v,rfl,hl,hk⟩
@[go_sem] theorem E8 (b p:Nat) (x:AV) (n:Nat) (K:RM→Prop) : aA M (.ptr b p) x n K=(x.cells.length=n∧∃ M',M.stores b p x.cells=some M'∧K M'):=by
 apply propext; unfold aA
 constructor
 ·rintro⟨b',o',M',h,h1,h2,hk⟩; cases h; exact⟨h1,M',h2,hk⟩
 ·rintro⟨h1,M',h2,hk⟩; exact⟨b,p,M',rfl,h1,h2,hk⟩
def xK (k:IntKind) (a b:Int) : Int:=k.wrap (BitVec.ofInt k.bits a &&& BitVec.ofInt k.bits b).toNat
def EX (k:IntKind) (a b:Int) : Int:=k.wrap (BitVec.ofInt k.bits a ||| BitVec.ofInt k.bits b).toNat
def zW (k:IntKind) (a b:Int) : Int:=k.wrap (BitVec.ofInt k.bits a ^^^ BitVec.ofInt k.bits b).toNat
def TG (k:IntKind) (a b:Int) : Int:=k.wrap (BitVec.ofInt k.bits a &&& ~~~BitVec.ofInt k.bits b).toNat
def JP (k:IntKind) (a b:Int) : Int:=k.wrap (a * 2 ^ (min b.toNat k.bits))
def tu (k:IntKind) (a b:Int) : Int:=a.fdiv (2 ^ (min b.toNat k.bits))
section
variable (k:IntKind) (a b:Int)
theorem fF {op:BinOp} {v:Value} (h:tK op k a b=some v) : af op (N k a) (N k b) K=K (.sc v):=by
 apply propext; unfold af
 constructor
 ·rintro⟨k',a',b',u,h1,h2,h3,hk⟩; cases h1; cases h2; rw[h] at h3; cases h3; exact hk
 ·intro hk; exact⟨k,a,b,v,rfl,rfl,h,hk⟩
@[go_sem] theorem ed:af .add (N k a) (N k b) K=K (N k (k.wrap (a + b))):=fF k a b rfl
@[go_sem] theorem lN:af .sub (N k a) (N k b) K=K (N k (k.wrap (a - b))):=fF k a b rfl
@[go_sem] theorem sI:af .mul (N k a) (N k b) K=K (N k (k.wrap (a * b))):=fF k a b rfl
@[go_sem] theorem kE:af .and (N k a) (N k b) K=K (N k (xK k a b)):=fF k a b rfl
@[go_sem] theorem iZ:af .or (N k a) (N k b) K=K (N k (EX k a b)):=fF k a b rfl
@[go_sem] theorem iL:af .xor (N k a) (N k b) K=K (N k (zW k a b)):=fF k a b rfl
@[go_sem] theorem Ve:af .andNot (N k a) (N k b) K=K (N k (TG k a b)):=fF k a b rfl
@[go_sem] theorem bR:af .eql (N k a) (N k b) K=K (Bo (a == b)):=fF k a b rfl
@[go_sem] theorem fP:af .neq (N k a) (N k b) K=K (Bo (a != b)):=fF k a b rfl
@[go_sem] theorem lM:af .lss (N k a) (N k b) K=K (Bo (decide (a<b))):=fF k a b rfl
@[go_sem] theorem mX:af .leq (N k a) (N k b) K=K (Bo (decide (a≤b))):=fF k a b rfl
@[go_sem] theorem uf:af .gtr (N k a) (N k b) K=K (Bo (decide (a > b))):=fF k a b rfl
@[go_sem] theorem eY:af .geq (N k a) (N k b) K=K (Bo (decide (a ≥ b))):=fF k a b rfl
@[go_sem] theorem Ki:af .quo (N k a) (N k b) K=(b≠0∧K (N k (k.wrap (a.tdiv b)))):=by
 apply propext; unfold af tK
 constructor
 ·rintro⟨k',a',b',u,h1,h2,h3,hk⟩; cases h1; cases h2
  simp only at h3
  split at h3
  ·cases h3
  ·cases h3; exact⟨‹_›,hk⟩
 ·rintro⟨h0,hk⟩; exact⟨k,a,b,_,rfl,rfl,by simp only[if_neg h0],hk⟩
@[go_sem] theorem Kh:af .rem (N k a) (N k b) K=(b≠0∧K (N k (a.tmod b))):=by
 apply propext; unfold af tK
 constructor
 ·rintro⟨k',a',b',u,h1,h2,h3,hk⟩; cases h1; cases h2
  simp only at h3
  split at h3
  ·cases h3
  ·cases h3; exact⟨‹_›,hk⟩
 ·rintro⟨h0,hk⟩; exact⟨k,a,b,_,rfl,rfl,by simp only[if_neg h0],hk⟩
variable (l:IntKind)
@[go_sem] theorem Bz:oH .shl (N k a) (N l b) K=(0≤b∧K (N k (JP k a b))):=by
 apply propext; unfold oH DY
 constructor
 ·rintro⟨k',a',l',b',u,h1,h2,h3,hk⟩; cases h1; cases h2
  split at h3
  ·cases h3
  ·cases h3; exact⟨by omega,hk⟩
 ·rintro⟨h0,hk⟩; exact⟨k,a,l,b,_,rfl,rfl,by rw[if_neg (by omega)]; rfl,hk⟩
@[go_sem] theorem rO:oH .shr (N k a) (N l b) K=(0≤b∧K (N k (tu k a b))):=by
 apply propext; unfold oH DY
 constructor
 ·rintro⟨k',a',l',b',u,h1,h2,h3,hk⟩; cases h1; cases h2
  split at h3
  ·cases h3
  ·cases h3; exact⟨by omega,hk⟩
 ·rintro⟨h0,hk⟩; exact⟨k,a,l,b,_,rfl,rfl,by rw[if_neg (by omega)]; rfl,hk⟩
@[go_sem] theorem X6 {l:IntKind} {a:Int} {K:AV→Prop} : DU (N l a) K=K (St (Utf8.encode a).data.toList):=by
 apply propext; unfold DU
 constructor
 ·rintro⟨l',n,h,hk⟩; cases h; exact hk
 ·intro h; exact⟨_,_,rfl,h⟩
@[go_sem] theorem qg:oh k (N l a) K=K (N k (k.wrap a)):=by
 apply propext; unfold oh
 constructor
 ·rintro⟨l',n,h,hk⟩; cases h; exact hk
 ·intro hk; exact⟨l,a,rfl,hk⟩
@[go_sem] theorem Ua (mx:Bool) : FY mx (N k a) (N k b) K=K (N k (if mx then(if b > a then b else a) else(if b<a then b else a))):=by
 apply propext; unfold FY
 constructor
 ·rintro⟨k',a',b',h1,h2,hk⟩; cases h1; cases h2; exact hk
 ·intro hk; exact⟨k,a,b,rfl,rfl,hk⟩
@[go_sem] theorem U9:NY (N k a) K=K (N k (k.wrap (0 - a))):=by
 apply propext; unfold NY
 constructor
 ·rintro⟨k',a',h1,hk⟩; cases h1; exact hk
 ·intro hk; exact⟨k,a,rfl,hk⟩
end
@[go_sem] theorem bQ (b:Bool) : eB (Bo b) K=K (Bo (!b)):=by
 apply propext; unfold eB
 constructor
 ·rintro⟨b',h,hk⟩; cases h; exact hk
 ·intro hk; exact⟨b,rfl,hk⟩
@[go_sem] theorem VU (neg a b:Bool) : BL neg (Bo a) (Bo b) K=K (Bo ((a == b) != neg)):=by
 apply propext; unfold BL
 constructor
 ·rintro⟨a',b',h,h',hk⟩; cases h; cases h'; exact hk
 ·intro hk; exact⟨a,b,rfl,rfl,hk⟩
@[go_sem] theorem I9 (t:Bool) (a b:AV) : aB (Bo t) a b K=K (if t then a else b):=by
 apply propext; unfold aB
 constructor
 ·rintro⟨t',h,hk⟩; cases h; exact hk
 ·intro hk; exact⟨t,rfl,hk⟩
@[go_sem] theorem Kq (b:Bool) (p q:Prop) : au (Bo b) p q=((b=true→p)∧(b=false→q)):=rfl
@[go_sem] theorem Wq {α:Type} (b want:Bool) (f g:α→Prop) (k:α) : kR (Bo b) want f g k=if b=want then f k else g k:=rfl
@[go_sem] theorem Uk {α:Type} (want:Bool) (f g:α→Prop) (k:α) : kR .undef want f g k=g k:=rfl
@[go_sem] theorem jr (b o:Nat) : mE (.ptr b o) K=K (.ptr b o):=by
 apply propext; unfold mE
 constructor
 ·rintro⟨b',o',h,hk⟩; cases h; exact hk
 ·intro hk; exact⟨b,o,rfl,hk⟩
@[go_sem] theorem gY (b o n:Nat) : aJ (.ptr b o) n K=K (.ptr b (o + n)):=by
 apply propext; unfold aJ
 constructor
 ·rintro⟨b',o',h,hk⟩; cases h; exact hk
 ·intro hk; exact⟨b,o,rfl,hk⟩
@[go_sem] theorem De (b p len:Nat) (cap:Cap) (k:IntKind) (n:Int) (size:Nat) : bg (.slc b p len cap) (N k n) size K=(0≤n∧n<len∧K (.ptr b (p + n.toNat * size))):=by
 apply propext; unfold bg
 constructor
 ·rintro⟨b',p',l',c',k',n',h,h',h0,h1,hk⟩; cases h; cases h'; exact⟨h0,h1,hk⟩
 ·rintro⟨h0,h1,hk⟩; exact⟨b,p,len,cap,k,n,rfl,rfl,h0,h1,hk⟩
@[go_sem] theorem Qo (b p:Nat) (k:IntKind) (n:Int) (len size:Nat) : dJ (.ptr b p) (N k n) len size K=(0≤n∧n<len∧K (.ptr b (p + n.toNat * size))):=by
 apply propext; unfold dJ
 constructor
 ·rintro⟨b',p',k',n',h,h',h0,h1,hk⟩; cases h; cases h'; exact⟨h0,h1,hk⟩
 ·rintro⟨h0,h1,hk⟩; exact⟨b,p,k,n,rfl,rfl,h0,h1,hk⟩
@[go_sem] theorem Ox (cs:List AV) (off:Nat) : Ir (.agg cs) off K=∃ v,cs[off]?=some v∧K v:=by
 apply propext; unfold Ir
 constructor
 ·rintro⟨cs',v,h,h1,hk⟩; cases h; exact⟨v,h1,hk⟩
 ·rintro⟨v,h1,hk⟩; exact⟨cs,v,rfl,h1,hk⟩
@[go_sem] theorem V6 (cs:List AV) (off n:Nat) : Ni (.agg cs) off n K=(off + n≤cs.length∧K (.agg ((cs.drop off).take n))):=by
 apply propext; unfold Ni
 constructor
 ·rintro⟨cs',h,h1,hk⟩; cases h; exact⟨h1,hk⟩
 ·rintro⟨h1,hk⟩; exact⟨cs,rfl,h1,hk⟩
@[go_sem] theorem He (cs:List AV) (k:IntKind) (n:Int) (len:Nat) : En (.agg cs) (N k n) len K=(0≤n∧n<len∧∃ v,cs[n.toNat]?=some v∧K v):=by
 apply propext; unfold En
 constructor
 ·rintro⟨cs',k',n',v,h,h',h0,h1,h2,hk⟩; cases h; cases h'; exact⟨h0,h1,v,h2,hk⟩
 ·rintro⟨h0,h1,v,h2,hk⟩; exact⟨cs,k,n,v,rfl,rfl,h0,h1,h2,hk⟩
@[go_sem] theorem V9 (cs:List AV) (k:IntKind) (n:Int) (len size:Nat) : MO (.agg cs) (N k n) len size K=(0≤n∧n<len∧n.toNat * size + size≤cs.length∧K (.agg ((cs.drop (n.toNat * size)).take size))):=by
 apply propext; unfold MO
 constructor
 ·rintro⟨cs',k',n',h,h',h0,h1,h2,hk⟩; cases h; cases h'; exact⟨h0,h1,h2,hk⟩
 ·rintro⟨h0,h1,h2,hk⟩; exact⟨cs,k,n,rfl,rfl,h0,h1,h2,hk⟩
@[go_sem] theorem LZ (s:List UInt8) (k:IntKind) (n:Int) : di (St s) (N k n) K=(0≤n∧∃ b,s[n.toNat]?=some b∧K (N .u8 b.toNat)):=by
 apply propext; unfold di
 constructor
 ·rintro⟨s',k',n',b,h,h',h0,h1,hk⟩; cases h; cases h'; exact⟨h0,b,h1,hk⟩
 ·rintro⟨h0,b,h1,hk⟩; exact⟨s,k,n,b,rfl,rfl,h0,h1,hk⟩
@[go_sem] theorem Dr (vs:List AV) (i:Nat) : aG (.tup vs) i K=∃ v,vs[i]?=some v∧K v:=by
 apply propext; unfold aG
 constructor
 ·rintro⟨cs',v,h,h1,hk⟩; cases h; exact⟨v,h1,hk⟩
 ·rintro⟨v,h1,hk⟩; exact⟨vs,v,rfl,h1,hk⟩
@[go_sem] theorem dG (v:AV) : bL (some v) K=K v:=by
 apply propext; unfold bL
 constructor
 ·rintro⟨v',h,hk⟩; cases h; exact hk
 ·intro hk; exact⟨v,rfl,hk⟩
@[go_sem] theorem rT (b o n:Nat) (c:Cap) : dz (.slc b o n c) K=K (N .i64 n):=by
 apply propext; unfold dz
 constructor
 ·rintro⟨n',h,hk⟩; cases h; exact hk
 ·intro hk; exact⟨n,rfl,hk⟩
@[go_sem] theorem Qt (b:Nat) : dz (.emp b) K=K (N .i64 0):=by
 apply propext; unfold dz
 constructor
 ·rintro⟨n',h,hk⟩; cases h; exact hk
 ·intro hk; exact⟨0,rfl,hk⟩
@[go_sem] theorem QP:dz (.sc (.slice none 0 0)) K=K (N .i64 0):=by
 apply propext; unfold dz
 constructor
 ·rintro⟨n',h,hk⟩; cases h; exact hk
 ·intro hk; exact⟨0,rfl,hk⟩
@[go_sem] theorem bC (s:List UInt8) : aP (St s) K=K (N .i64 s.length):=by
 apply propext; unfold aP
 constructor
 ·rintro⟨s',h,hk⟩; cases h; exact hk
 ·intro hk; exact⟨s,rfl,hk⟩
@[go_sem] theorem X7 (b o n c:Nat) : Jy (.slc b o n (.ex c)) K=K (N .i64 c):=by
 apply propext; unfold Jy
 constructor
 ·rintro⟨n',h,hk⟩; cases h; exact hk
 ·intro hk; exact⟨c,rfl,hk⟩
@[go_sem] theorem Xo:Jy (.sc (.slice none 0 0)) K=K (N .i64 0):=by
 apply propext; unfold Jy
 constructor
 ·rintro⟨n',h,hk⟩; cases h; exact hk
 ·intro hk; exact⟨0,rfl,hk⟩
@[go_sem] theorem XF (s:List UInt8) : isStr (St s) K=K (St s):=by
 apply propext; unfold isStr
 constructor
 ·rintro⟨s',h,hk⟩; cases h; exact hk
 ·intro hk; exact⟨s,rfl,hk⟩
@[go_sem] theorem KT {x:AV} {s:List UInt8} (h:yE M x=some s) : tT M x K=K (St s):=by
 apply propext; unfold tT
 constructor
 ·rintro⟨s',h',hk⟩; rw[h] at h'; cases h'; exact hk
 ·intro hk; exact⟨s,h,hk⟩
theorem nK {op:BinOp} {a b:List UInt8} {v:AV} (h:wU op a b=some v) : aY op (St a) (St b) K=K v:=by
 apply propext; unfold aY
 constructor
 ·rintro⟨a',b',u,h1,h2,h3,hk⟩; cases h1; cases h2; rw[h] at h3; cases h3; exact hk
 ·intro hk; exact⟨a,b,v,rfl,rfl,h,hk⟩
@[go_sem] theorem fB (a b:List UInt8) : aY .eql (St a) (St b) K=K (Bo (a == b)):=by rw[← gK]; exact nK rfl
@[go_sem] theorem ni (a b:List UInt8) : aY .neq (St a) (St b) K=K (Bo (a != b)):=by rw[bne,← gK]; exact nK rfl
@[go_sem] theorem WB (a b:List UInt8) : aY .lss (St a) (St b) K=K (Bo (Op.bytesLess a b)):=nK rfl
@[go_sem] theorem XO (a b:List UInt8) : aY .leq (St a) (St b) K=K (Bo (Op.bytesLess a b || a == b)):=by rw[← gK]; exact nK rfl
@[go_sem] theorem WG (a b:List UInt8) : aY .gtr (St a) (St b) K=K (Bo (!(Op.bytesLess a b || a == b))):=by rw[← gK]; exact nK rfl
@[go_sem] theorem Xx (a b:List UInt8) : aY .geq (St a) (St b) K=K (Bo (!Op.bytesLess a b)):=nK rfl
@[go_sem] theorem bM (a b:List UInt8) : aY .add (St a) (St b) K=(a.length + b.length≤9223372036854775807∧K (St (a++b))):=by
 apply propext; unfold aY
 constructor
 ·rintro⟨a',b',u,h1,h2,h3,hk⟩; cases h1; cases h2
  simp only[wU] at h3
  split at h3
  ·rename_i hb; cases h3; exact⟨aV hb,hk⟩
  ·cases h3
 ·rintro⟨h0,hk⟩; exact⟨a,b,_,rfl,rfl,by simp only[wU,aT.2 h0],hk⟩
theorem iE {neg:Bool} {tag:Nat} {x y:AV} {r:Bool} (ht:Im x=tag) (h:wS x y=some r) : gD neg tag x y K=K (Bo (r != neg)):=by
 apply propext; unfold gD
 constructor
 ·rintro⟨_,r',h',hk⟩; rw[h] at h'; cases h'; exact hk
 ·intro hk; exact⟨ht,r,h,hk⟩
@[go_sem] theorem FL (neg:Bool) : gD neg 2 (.sc (.slice none 0 0)) (.sc (.slice none 0 0)) K=K (Bo (!neg)):=(iE (tag:=2) (r:=true) rfl rfl).trans (by cases neg <;> rfl)
@[go_sem] theorem FT (neg:Bool) (b:Nat) : gD neg 2 (.emp b) (.sc (.slice none 0 0)) K=K (Bo neg):=(iE (tag:=2) (r:=false) rfl rfl).trans (by cases neg <;> rfl)
@[go_sem] theorem FJ (neg:Bool) (b o n:Nat) (c:Cap) : gD neg 2 (.slc b o n c) (.sc (.slice none 0 0)) K=K (Bo neg):=(iE (tag:=2) (r:=false) rfl rfl).trans (by cases neg <;> rfl)
@[go_sem] theorem Tu (neg:Bool) (b o:Nat) : gD neg 1 (.ptr b o) (.sc (.pointer none)) K=K (Bo neg):=(iE (tag:=1) (r:=false) rfl rfl).trans (by cases neg <;> rfl)
@[go_sem] theorem Sy (neg:Bool) : gD neg 1 (.sc (.pointer none)) (.sc (.pointer none)) K=K (Bo (!neg)):=(iE (tag:=1) (r:=true) rfl rfl).trans (by cases neg <;> rfl)
@[go_sem] theorem SA (neg:Bool) (b:Nat) : gD neg 3 (.map b) (.sc (.map none)) K=K (Bo neg):=(iE (tag:=3) (r:=false) rfl rfl).trans (by cases neg <;> rfl)
@[go_sem] theorem TH (neg:Bool) (f:Fn) (xs ys:List AV) : gD neg 4 (.fn f xs ys) (.sc .nilFunc) K=K (Bo neg):=(iE (tag:=4) (r:=false) rfl rfl).trans (by cases neg <;> rfl)
@[go_sem] theorem Ns (neg:Bool) (ks:List Nat) (cs ds:List AV) : lF neg ks (.agg cs) (.agg ds) K=(cs.length=ks.length∧ds.length=ks.length∧∃ r,bW ks cs ds=some r∧K (Bo (r != neg))):=by
 apply propext; unfold lF
 constructor
 ·rintro⟨a',b',r,h1,h2,h3,h4,h5,hk⟩; cases h1; cases h2; exact⟨h3,h4,r,h5,hk⟩
 ·rintro⟨h3,h4,r,h5,hk⟩; exact⟨cs,ds,r,rfl,rfl,h3,h4,h5,hk⟩
@[go_sem] theorem QC (C:FuncId→aj) (g:FuncId) (first cap args:List AV) : Ij C (.fn (.func g) first cap) args M KQ=C g (first++args++cap) M KQ:=by
 apply propext; unfold Ij
 constructor
 ·rintro⟨g',f',c',h,hk⟩; cases h; exact hk
 ·intro hk; exact⟨g,first,cap,rfl,hk⟩
@[go_sem] theorem iG (cs:List AV) (parts:List (Nat × Nat × AV)) : dB cs parts K=∃ cs',kZ cs parts=some cs'∧K (.agg cs'):=rfl
@[go_sem] theorem aF (x:RB) (mk:Nat→AV) : aU x mk M KQ=KQ (mk M.next) (M.push x):=rfl
@[go_sem] theorem LU (x:RB) (mk:Nat→AV) (k:KR) : Og x mk M k=k (mk M.next) (M.push x) (some M.next):=rfl
@[go_sem] theorem WI (f:(List AV→RM→Prop)→Prop) (g:List AV→RM→Prop) : bY f g=f g:=rfl
@[go_sem] theorem iF (x:AV) (xs:List AV) : ag (x :: xs) 0=x:=rfl
@[go_sem] theorem G5 (x:AV) (xs:List AV) (n:Nat) : ag (x :: xs) (n + 1)=ag xs n:=rfl
@[go_sem] theorem V3 (b:Nat) (x:RB) (mk:Nat→AV) (v:AV) : MR (some b) M x mk v=(M.heap b=some x∧mk b=v):=rfl
end
section
variable {M M' : RM}
theorem RM.uA {b:Nat} {l:List AV} {opn:Bool} {el fz:Nat} (h:M.heap b=some (.row l opn el fz)) : M.cells b=some l:=by simp[RM.cells,h]
theorem RM.Re {b o:Nat} {l:List AV} {opn:Bool} {el fz:Nat} (h:M.heap b=some (.row l opn el fz)) : M.cell b o=l[o]?:=by simp[RM.cell,RM.uA h]
theorem RM.jT {b o k:Nat} {l:List AV} {opn:Bool} {el fz:Nat} (h:M.heap b=some (.row l opn el fz)) (hk:o + k≤l.length) : M.loads b o k=some ((l.drop o).take k):=by
 simp[RM.loads,RM.uA h,hk]
theorem RM.NC {b o:Nat} {l vs:List AV} {opn:Bool} {el fz:Nat} (h:M.heap b=some (.row l opn el fz)) (h1:o + vs.length≤l.length) (h2:fz≤o) (h3:vs.all oneCell=true) :
  M.stores b o vs=some (M.put b (.row (l.take o++vs++l.drop (o + vs.length)) opn el fz)):=by
 simp only[RM.stores,h]
 rw[if_pos ⟨h1,h2,h3⟩]
structure ae (bs:List Nat) (M M' : RM) : Prop where
 base:M'.base=M.base
 next:M.next≤M'.next
 heap:∀ c,c<M.next→c ∉ bs→M'.heap c=M.heap c
theorem ae.refl (bs:List Nat) (M:RM) : ae bs M M:=⟨rfl,Nat.le_refl _,fun _ _ _=>rfl⟩
theorem ae.trans {bs:List Nat} {M1 M2:RM} (h:ae bs M M1) (k:ae bs M1 M2) : ae bs M M2 :=
 ⟨k.base.trans h.base,Nat.le_trans h.next k.next,fun c hc hb=>(k.heap c (Nat.lt_of_lt_of_le hc h.next) hb).trans (h.heap c hc hb)⟩
theorem ae.push {bs:List Nat} (h:ae bs M M') (x:RB) : ae bs M (M'.push x) :=
 ⟨h.base,Nat.le_succ_of_le h.next,fun c hc hb=>by
  have:=h.next
  simp only[RM.push]; rw[if_neg (by omega)]; exact h.heap c hc hb⟩
theorem ae.put {bs:List Nat} (h:ae bs M M') {b:Nat} (x:RB) (hb:M.next≤b∨b∈bs) : ae bs M (M'.put b x) :=
 ⟨h.base,h.next,fun c hc hcb=>by
  simp only[RM.put]; rw[if_neg]
  ·exact h.heap c hc hcb
  ·rintro rfl; rcases hb with hb | hb
   ·omega
   ·exact hcb hb⟩
theorem ae.del {bs:List Nat} (h:ae bs M M') {b:Nat} (hb:M.next≤b∨b∈bs) : ae bs M (M'.del b) :=
 ⟨h.base,h.next,fun c hc hcb=>by
  simp only[RM.del]; rw[if_neg]
  ·exact h.heap c hc hcb
  ·rintro rfl; rcases hb with hb | hb
   ·omega
   ·exact hcb hb⟩
theorem ae.mono {bs cs:List Nat} (h:ae bs M M') (hs:∀ b∈bs,b∈cs) : ae cs M M':=⟨h.base,h.next,fun c hc hb=>h.heap c hc fun h=>hb (hs c h)⟩
theorem ae.eU {bs:List Nat} {M1 M2:RM} {cs:List Nat} (h:ae bs M M1) (k:ae cs M1 M2) (hn:∀ c∈cs,M.next≤c∨c∈bs) : ae bs M M2 :=
 ⟨k.base.trans h.base,Nat.le_trans h.next k.next,fun c hc hb=>by
  rw[k.heap c (Nat.lt_of_lt_of_le hc h.next) (fun hm=>by rcases hn c hm with h1 | h1; omega; exact hb h1),h.heap c hc hb]⟩
theorem ae.cells {bs:List Nat} (h:ae bs M M') {b:Nat} (hlt:b<M.next) (hb:b ∉ bs) : M'.cells b=M.cells b:=by
 simp only[RM.cells,h.heap b hlt hb,RM.lo,h.base]
theorem ae.cell {bs:List Nat} (h:ae bs M M') {b o:Nat} (hlt:b<M.next) (hb:b ∉ bs) : M'.cell b o=M.cell b o:=by
 simp only[RM.cell,h.cells hlt hb]
theorem ae.loads {bs:List Nat} (h:ae bs M M') {b o k:Nat} (hlt:b<M.next) (hb:b ∉ bs) : M'.loads b o k=M.loads b o k:=by
 simp only[RM.loads,h.cells hlt hb]
@[go_sem] theorem RM.Ws (x:RB) : (M.push x).next=M.next + 1:=rfl
@[go_sem] theorem RM.WT (b:Nat) (x:RB) : (M.put b x).next=M.next:=rfl
@[go_sem] theorem RM.Xq (b:Nat) : (M.del b).next=M.next:=rfl
@[go_sem] theorem RM.aQ (x:RB) : (M.push x).heap M.next=some x:=by simp[RM.push]
theorem RM.QH {x:RB} {c:Nat} (h:c≠M.next) : (M.push x).heap c=M.heap c:=by simp[RM.push,h]
@[go_sem] theorem RM.jD (b:Nat) (x:RB) : (M.put b x).heap b=some x:=by simp[RM.put]
end
abbrev aC:AV:=.sc (.slice none 0 0)
inductive dK (M:RM) (size:Nat) : AV→List AV→Nat→Prop
 | nil:dK M size aC [] 0
 | emp (b:Nat) : dK M size (.emp b) [] 0
 | slc (b o n:Nat) (cap:Cap) (cs:List AV) : b<M.next→M.loads b o (n * size)=some cs→dK M size (.slc b o n cap) cs n
section
variable {M M' : RM} {size:Nat} {v:AV} {cs:List AV} {n:Nat}
theorem Gu {b o k:Nat} {cs:List AV} (h:M.loads b o k=some cs) : cs.length=k:=by
 unfold RM.loads at h
 split at h <;> first | (cases h; done) | skip
 split at h <;> first | (cases h; done) | skip
 rename_i hle
 have:=Option.some.inj h
 rw[← this,List.length_take,List.length_drop]; omega
theorem PO {b o k:Nat} {cs:List AV} (h:M.loads b o k=some cs) (i:Nat) (hi:i<k) : M.cell b (o + i)=cs[i]?:=by
 unfold RM.loads at h
 unfold RM.cell
 split at h <;> first | (cases h; done) | skip
 rename_i l hl
 split at h <;> first | (cases h; done) | skip
 cases h
 simp only[hl,Option.bind_some]
 rw[List.getElem?_take,if_pos hi,List.getElem?_drop]
theorem uz {b o k:Nat} {cs:List AV} (h:M.loads b o k=some cs) (i j:Nat) (hij:i + j≤k) : M.loads b (o + i) j=some ((cs.drop i).take j):=by
 unfold RM.loads at h ⊢
 cases hl:M.cells b with
 | none=>rw[hl] at h; cases h
 | some l =>
   rw[hl] at h
   simp only at h ⊢
   split at h
   ·rename_i hle
    have h:=Option.some.inj h
    subst h
    rw[if_pos (by omega),List.drop_take,List.drop_drop,List.take_take]
    congr 2
    omega
   ·cases h
theorem Eg {b o:Nat} {l:List AV} (h:M.cells b=some l) (ho:o≤l.length) : M.loads b o 0=some []:=by
 simp[RM.loads,h,ho]
theorem dK.length (h:dK M size v cs n) : cs.length=n * size:=by
 cases h with
 | nil=>exact(Nat.zero_mul _).symm
 | emp=>exact(Nat.zero_mul _).symm
 | slc b o n cap cs hb0 hl=>exact Gu hl
theorem dK.len (h:dK M size v cs n) {K:AV→Prop} : dz v K=K (N .i64 n):=by
 cases h with
 | nil=>exact QP
 | emp b=>exact Qt b
 | slc b o n cap cs hb0 hl=>exact rT b o n cap
theorem dK.mq (h:dK M size v cs n) (zs:List AV) : mq M size zs false v=some (n,cs):=by
 cases h with
 | nil=>rfl
 | emp b=>rfl
 | slc b o n cap cs hb0 hl=>simp only[Go.Ab.mq,hl]
theorem dK.pos (h:dK M size v cs n) (hn:0<n) : ∃ b o cap,v=.slc b o n cap∧b<M.next∧M.loads b o (n * size)=some cs:=by
 cases h with
 | nil=>omega
 | emp b=>omega
 | slc b o n cap cs hb0 hl=>exact⟨b,o,cap,rfl,hb0,hl⟩
theorem dK.yE (h:dK M 1 v cs n) {l:List UInt8} (hb:cz byteOf cs=some l) : yE M v=some l:=by
 cases h with
 | nil=>simp[cz] at hb; subst hb; rfl
 | emp b=>simp[cz] at hb; subst hb; rfl
 | slc b o n cap cs hb0 hl =>
   rw[Nat.mul_one] at hl
   simp only[Go.Ab.yE,hl]; exact hb
def aD:AV→List Nat
 | .slc b _ _ _=>[b]
 | _=>[]
theorem dK.keep {bs:List Nat} (h:dK M size v cs n) (hk:ae bs M M') (hb:∀ b∈aD v,b ∉ bs) : dK M' size v cs n:=by
 cases h with
 | nil=>exact .nil
 | emp b=>exact .emp b
 | slc b o n cap cs hb0 hl =>
   exact .slc b o n cap cs (Nat.lt_of_lt_of_le hb0 hk.next) (by rw[hk.loads hb0 (hb b (by simp[aD]))]; exact hl)
inductive Own (M:RM) (base el size:Nat) : AV→List AV→Nat→Prop
 | nil:Own M base el size aC [] 0
 | ex0 (b o:Nat) : base≤b→b<M.next→(∃ l,M.cells b=some l∧o≤l.length)→Own M base el size (.slc b o 0 (.ex 0)) [] 0
 | op (b n:Nat) (cs:List AV) : base≤b→b<M.next→M.heap b=some (.row cs true el 0)→cs.length=n * size→Own M base el size (.slc b 0 n (.op size)) cs n
theorem Own.sD {base el:Nat} (h:Own M base el size v cs n) : dK M size v cs n:=by
 cases h with
 | nil=>exact .nil
 | ex0 b o hb hlt hc =>
   obtain⟨l,hl,ho⟩:=hc
   exact .slc b o 0 _ [] hlt (by rw[Nat.zero_mul]; exact Eg hl ho)
 | op b n cs hb hlt hh hl =>
   refine .slc b 0 n _ cs hlt ?_
   rw[RM.jT hh (by omega)]
   simp[← hl]
theorem Own.blk {base el:Nat} (h:Own M base el size v cs n) : ∀ b∈aD v,base≤b∧b<M.next:=by
 cases h with
 | nil=>intro b hb; simp[aD] at hb
 | ex0 b o hb hlt hc=>intro c hc; simp[aD] at hc; subst hc; exact⟨hb,hlt⟩
 | op b n cs hb hlt hh hl=>intro c hc; simp[aD] at hc; subst hc; exact⟨hb,hlt⟩
theorem Own.keep {base el:Nat} {bs:List Nat} (h:Own M base el size v cs n) (hk:ae bs M M') (hb:∀ b∈aD v,b ∉ bs) : Own M' base el size v cs n:=by
 cases h with
 | nil=>exact .nil
 | ex0 b o h1 hlt hc=>exact .ex0 b o h1 (Nat.lt_of_lt_of_le hlt hk.next) (by rw[hk.cells hlt (hb b (by simp[aD]))]; exact hc)
 | op b n cs h1 hlt hh hl=>exact .op b n cs h1 (Nat.lt_of_lt_of_le hlt hk.next) (by rw[hk.heap b hlt (hb b (by simp[aD]))]; exact hh) hl
theorem Own.mono {base base' el:Nat} (h:Own M base el size v cs n) (hb:base'≤base) : Own M base' el size v cs n:=by
 cases h with
 | nil=>exact .nil
 | ex0 b o h1 hlt hc=>exact .ex0 b o (Nat.le_trans hb h1) hlt hc
 | op b n cs h1 hlt hh hl=>exact .op b n cs (Nat.le_trans hb h1) hlt hh hl
theorem BP {base el bytes:Nat} {zs:List AV} {zeros:Bool} {x:AV} {m:Nat} {ds:List AV} {K:ai} (h:Own M base el size v cs n) (hbase:base≤M.next) (hs:1≤size) (hx:mq M size zs zeros x=some (m,ds)) (hd:ds.length=m * size)
  (h1:ds.all oneCell=true) (hb:(n + m) * bytes≤140737488355328) (hb2:n + m≤140737488355328)
  (hK:∀ v' M',Own M' base el size v' (cs++ds) (n + m)→ae (aD v) M M'→M.next≤M'.next→(v'=v∨∀ b∈aD v',M.next≤b)→K v' M') : appW el size bytes zs zeros v x M K:=by
 have hmb:m * bytes≤140737488355328:=Nat.le_trans (Nat.mul_le_mul_right _ (by omega)) hb
 refine⟨m,ds,hx,hmb,by omega, ?_⟩
 cases h with
 | nil =>
   by_cases hm:m=0
   ·subst hm
    have:ds=[]:=List.eq_nil_of_length_eq_zero (by simpa using hd)
    subst this
    exact⟨aC,M,by simp[qF],hK _ _ .nil (ae.refl _ _) (Nat.le_refl _) (.inl rfl)⟩
   ·refine⟨.slc M.next 0 m (.op size),M.push (.row ds true el 0),by simp only[qF,if_neg hm,h1,if_true],hK _ _ ?_ ((ae.refl _ _).push _) (by simp[RM.push]) (.inr fun b hb=>by simp[aD] at hb; omega)⟩
    simp only[List.nil_append,Nat.zero_add]
    exact .op _ _ _ hbase (by simp[RM.push]) (RM.aQ _) hd
 | ex0 b o hb0 hlt hc =>
   obtain⟨l,hl,ho⟩:=hc
   by_cases hm:m=0
   ·subst hm
    have:ds=[]:=List.eq_nil_of_length_eq_zero (by simpa using hd)
    subst this
    exact⟨_,M,by simp[qF],hK _ _ (.ex0 b o hb0 hlt ⟨l,hl,ho⟩) (ae.refl _ _) (Nat.le_refl _) (.inl rfl)⟩
   ·refine⟨.slc M.next 0 m (.op size),M.push (.row ds true el 0), ?_,hK _ _ ?_ ((ae.refl _ _).push _) (by simp[RM.push]) (.inr fun b hb=>by simp[aD] at hb; omega)⟩
    ·have hl0:M.loads b o (0 * size)=some []:=by rw[Nat.zero_mul]; exact Eg hl ho
     simp only[qF,if_neg hm]
     rw[if_neg (by omega),hl0]
     simp only[Nat.zero_add,List.nil_append]
     rw[if_pos ⟨hmb,by omega,h1⟩]
    ·simp only[List.nil_append,Nat.zero_add]
     exact .op _ _ _ hbase (by simp[RM.push]) (RM.aQ _) hd
 | op b n cs hb0 hlt hh hl =>
   by_cases hm:m=0
   ·subst hm
    have:ds=[]:=List.eq_nil_of_length_eq_zero (by simpa using hd)
    subst this
    exact⟨_,M,by simp[qF],hK _ _ (by simpa using .op b n cs hb0 hlt hh hl) (ae.refl _ _) (Nat.le_refl _) (.inl rfl)⟩
   ·have hpos:1≤m * size:=Nat.mul_pos (by omega) hs
    have hsum:(n + m) * size=n * size + m * size:=Nat.add_mul _ _ _
    refine⟨.slc M.next 0 (n + m) (.op size),(M.del b).push (.row (cs++ds) true el 0), ?_,hK _ _ ?_ (((ae.refl _ _).del (.inr (by simp[aD]))).push _) (by simp[RM.push,RM.del]) (.inr fun b hb=>by simp[aD] at hb; omega)⟩
    ·simp only[qF,if_neg hm,hh,and_self,if_true]
     rw[if_neg (by omega),if_pos ⟨trivial,hb,hb2,trivial,hl,Nat.zero_le _,h1⟩]
    ·exact .op _ _ _ (show base≤M.next from hbase) (by simp[RM.push,RM.del]) (by simp[RM.push,RM.del]) (by rw[List.length_append,hl,hd,hsum])
theorem dK.wS (h:dK M size v cs n) (neg:Bool) : (v=aC∧∀ K:AV→Prop,gD neg 2 v aC K=K (Bo (!neg)))∨(v≠aC∧∀ K:AV→Prop,gD neg 2 v aC K=K (Bo neg)):=by
 cases h with
 | nil=>exact .inl ⟨rfl,fun _=>FL neg⟩
 | emp b=>exact .inr ⟨by(intro h; cases h),fun _=>FT neg b⟩
 | slc b o n cap cs hb0 hl=>exact .inr ⟨by(intro h; cases h),fun _=>FJ neg b o n cap⟩
theorem Own.lit {base el T:Nat} (M:RM) (h:base≤M.next) : Own (M.push (.row [] false T 0)) base el size (.slc M.next 0 0 (.ex 0)) [] 0 :=
 .ex0 _ _ h (by simp[RM.push]) ⟨[],by simp[RM.cells,RM.push],Nat.le_refl _⟩
end
end Go.Ab
set_option maxRecDepth 4000
namespace Go.Ab
open Go
theorem wrap_u8 (n:Nat) : IntKind.wrap .u8 (n:Int)=((n % 256:Nat) : Int):=by
 simp only[IntKind.wrap,IntKind.bits,IntKind.signed,IntKind.max,IntKind.min]
 simp
theorem wrap_u64 (n:Nat) : IntKind.wrap .u64 (n:Int)=((n % 18446744073709551616:Nat) : Int):=by
 simp only[IntKind.wrap,IntKind.bits,IntKind.signed,IntKind.max,IntKind.min]
 simp
theorem qO {n:Int} (h0:0≤n) (h:n<256) : IntKind.wrap .u8 n=n:=by
 obtain⟨m,rfl⟩:=Int.eq_ofNat_of_zero_le h0
 rw[wrap_u8,Nat.mod_eq_of_lt (by omega)]
theorem CF {n:Int} (h0:0≤n) (h:n<18446744073709551616) : IntKind.wrap .u64 n=n:=by
 obtain⟨m,rfl⟩:=Int.eq_ofNat_of_zero_le h0
 rw[wrap_u64,Nat.mod_eq_of_lt (by omega)]
theorem eD {n:Int} (h0 : -9223372036854775808≤n) (h:n<9223372036854775808) : IntKind.wrap .i64 n=n:=by
 rw[IntKind.wrap_i64]; omega
theorem OY (n:Nat) : (UInt8.ofNat n).toNat=n % 256:=by simp
end Go.Ab
namespace Go.Ab
open Go Go.RowKit
section
variable {P:Program}
theorem bP.opened {ρ:Ren} {M:RM} {w:World} {b n:Nat} {l:List AV} {el:Nat} {u:Value} (hw:bP P ρ M w) (hh:M.heap b=some (.row l true el 0)) (hl:l.length=n) (hv:ah ρ (.slc b 0 n (.op 1)) u) :
  ∃ c,n≤c∧ah ρ (.slc b 0 n (.ex c)) u∧bP P ρ (M.put b (.row (l++List.replicate (c - n) .top) true el 0)) w:=by
 obtain⟨A,hA⟩:=hw
 obtain⟨k,i,hb,hp,he,hk,rfl⟩:=CW hv
 rcases hA.blk b _ hh with⟨y,hy,hle⟩ | ⟨_,e0,_⟩
 ·cases y <;> first | exact hle.elim | skip
  rename_i nn tree zs opn elem fz
  obtain⟨r1,rfl,rfl,rfl,r5⟩:=hle
  obtain⟨ob,hob,cs,fr,rfl,hrow⟩:=hA.rel.blk b i _ hb hy
  obtain⟨h0,hcs,hels⟩:=hrow.opn rfl
  have hk0:k=0:=by
   rcases Nat.eq_zero_or_pos k with e | e
   ·exact e
   ·have:0<k * i.esz:=Nat.mul_pos e h0
    omega
  subst hk0
  have hsh:=hrow.sh0
  rw[← he,Nat.mul_one,hsh,Nat.zero_add] at hcs
  refine⟨i.fH,by omega, ?_,⟨{ A with heap:=A.heap.set b (.row i.fH (Tree.ofList (l++List.replicate (i.fH - n) .top) 0 .leaf) [] true elem 0) },hA.next,⟨hA.rel.dom,fun b' i' x hb' hx=>?_,fun b1 b2 i1 i2 x1 x2 p1 p2 g1 g2 e=>?_,fun b' x hx=>?_,fun b' i' x hb' hx=>?_,hA.rel.inv⟩,hA.size,fun c x hx=>?_,hA.old⟩⟩
  ·have:=ah.gN (ρ:=ρ) b 0 n i.fH i hb
   rw[Nat.zero_mul] at *
   simpa using this
  ·simp only[Tree.bq] at hx
   by_cases e:b'=b
   ·subst e
    rw[if_pos rfl] at hx
    cases hx
    rw[hb] at hb'; cases hb'
    refine⟨_,hob,cs,fr,rfl,⟨by rw[hsh]; omega,fun j x hj=>?_,fun j h1 h2=>hrow.free j h1 h2,hrow.mark,fun _=>⟨h0,by rw[hsh,← he]; omega,hels⟩,hsh⟩⟩
    obtain⟨hjlt,hj2⟩:=jP hj
    rw[Tree.ma] at hj2
    split at hj2
    ·rename_i hlt
     rw[Nat.sub_zero] at hj2
     by_cases hjl:j<l.length
     ·rw[List.getElem?_append_left hjl] at hj2
      exact hrow.val j x (r5 j x hj2)
     ·rw[List.getElem?_append_right (by omega),List.getElem?_replicate] at hj2
      split at hj2
      ·cases hj2
       exact⟨cs[j]'(by omega),by rw[hsh,Nat.zero_add]; simp,.top _⟩
      ·cases hj2
    ·simp[Tree.get] at hj2
   ·rw[if_neg e] at hx
    exact hA.rel.blk b' i' x hb' hx
  ·have q:∀ {b1 x1},(A.heap.set b (gU.row i.fH (Tree.ofList (l++List.replicate (i.fH - n) .top) 0 .leaf) [] true elem 0)).get b1=some x1→∃ y,A.heap.get b1=some y:=by
    intro b1 x1 h
    rw[Tree.bq] at h
    by_cases e:b1=b
    ·subst e; exact⟨_,hy⟩
    ·rw[if_neg e] at h; exact⟨_,h⟩
   obtain⟨y1,e1⟩:=q g1
   obtain⟨y2,e2⟩:=q g2
   exact hA.rel.sep _ _ _ _ _ _ p1 p2 e1 e2 e
  ·simp only[Tree.bq] at hx
   by_cases e:b'=b
   ·subst e; exact hA.rel.top _ _ hy
   ·rw[if_neg e] at hx; exact hA.rel.top _ _ hx
  ·simp only[Tree.bq] at hx
   by_cases e:b'=b
   ·subst e; exact hA.rel.lo _ _ _ hb' hy
   ·rw[if_neg e] at hx; exact hA.rel.lo _ _ _ hb' hx
  ·simp only[RM.put] at hx
   simp only[Tree.bq]
   by_cases e:c=b
   ·subst e
    rw[if_pos rfl] at hx ⊢
    cases hx
    refine .inl ⟨_,rfl,by simp; omega,rfl,rfl,rfl,fun j v hj=>?_⟩
    have hjl:=(List.getElem?_eq_some_iff.1 hj).1
    exact pQ (by simp at hjl; omega) (by rw[Tree.ma,if_pos (by omega)]; simpa using hj)
   ·rw[if_neg e] at hx ⊢
    exact hA.blk c x hx
 ·cases e0
end
def RM.old (base:Base) (w:World) : RM where
 next:=base.n
 heap:=fun b=>if b<base.n then(match w.heap[b]? with | some (.cells c _ _)=>some (.ro c) | _=>none) else none
 base:=base
def Je (n:Nat) : Ren:=fun b=>if b<n then some ⟨b,0,0,0⟩ else none
theorem Rn {P:Program} {base:Base} {w:World} (hn:base.n=w.heap.size) (hi:base.inv w) : bP P (Je base.n) (RM.old base w) w:=by
 refine⟨{ next:=base.n,heap:=.leaf },rfl,⟨fun b i h=>?_,fun b i x _ h=>by simp[Tree.get] at h,fun b _ i _ x _ _ _ h=>by simp[Tree.get] at h,fun b x h=>by simp[Tree.get] at h,fun b i x _ h=>by simp[Tree.get] at h,hi⟩,by simp[RM.old,RM.lo,hn],fun b x h=>.inr ?_,fun c hc=>by have hc' : c<base.n:=hc; simp only[Je]; rw[if_pos hc']⟩
 ·simp only[Je] at h
  split at h <;> first | (cases h; done) | skip
  cases h
  exact⟨by assumption,by rw[← hn]; assumption⟩
 ·simp only[RM.old] at h
  split at h <;> first | (cases h; done) | skip
  rename_i hlt
  split at h <;> first | (cases h; done) | skip
  rename_i c el fr hh
  cases h
  exact⟨c,rfl,hlt,el,fr,hh⟩
def Ou (lo:Nat) : Value→AV
 | .agg cs=>.agg (cs.toList.map (Dl lo))
 | v=>Dl lo v
theorem Kt {ρ:Ren} {lo:Nat} (h:∀ c,c<lo→ρ c=some ⟨c,0,0,0⟩) : ∀ (vs:List Value),aO ρ (vs.map (Dl lo)) vs
 | []=>.nil
 | v :: vs=>.cons _ _ _ _ (DD h v) (Kt h vs)
theorem Qh {ρ:Ren} {lo:Nat} (h:∀ c,c<lo→ρ c=some ⟨c,0,0,0⟩) (v:Value) : ah ρ (Ou lo v) v:=by
 unfold Ou
 split
 ·exact .agg _ _ (Kt h _)
 ·exact DD h v
theorem G6 {ρ:Ren} {lo:Nat} (h:∀ c,c<lo→ρ c=some ⟨c,0,0,0⟩) : ∀ (vs:List Value),aO ρ (vs.map (Ou lo)) vs
 | []=>.nil
 | v :: vs=>.cons _ _ _ _ (Qh h v) (G6 h vs)
theorem dR.close {P:Program} {f:FuncId} {base:Base} {w:World} {us:Array Value} (hn:base.n=w.heap.size) (hi:base.inv w)
  (h:dR P f (us.toList.map (Ou base.n)) (RM.old base w) fun v _=>v=Bo true) :
  Calls P f us w fun e w'=>e=.returned (.bool true)∧Below w.heap.size w w':=by
 have hr:=Rn (P:=P) hn hi
 refine((h.2 (Je base.n) w us.toList (G6 (fun c hc=>by simp only[Je]; rw[if_pos hc]) _) hr)).mono fun e w' hR=>?_
 obtain⟨v',v,M',ρ',rfl,k1,k2,rfl⟩:=hR
 obtain⟨rfl,_⟩:=aL k2
 refine⟨rfl,k1.step.os,k1.step.tape,k1.step.output,k1.step.size,fun k hk=>k1.step.low k ?_⟩
 show k<base.n
 rw[hn]; exact hk
def PK:Option TypeDesc→Bool
 | some .bool | some (.int _) | some .string | some (.slice _) | some (.struct _) | some (.array _ _)=>false
 | _=>true
inductive Fits (P:Program) (M:RM) : TypeId→List AV→Prop
 | bool (t:TypeId) (b:Bool) : P.underlying t=some .bool→Fits P M t [Bo b]
 | int (t:TypeId) (k:IntKind) (n:Int) : P.underlying t=some (.int k)→k.min≤n→n≤k.max→Fits P M t [N k n]
 | str (t:TypeId) (s:List UInt8) : P.underlying t=some .string→s.length≤reachBytes→Fits P M t [St s]
 | Xe (t e:TypeId) : P.underlying t=some (.slice e)→Fits P M t [aC]
 | emp (t e:TypeId) (b:Nat) : P.underlying t=some (.slice e)→Fits P M t [.emp b]
 | slc (t e:TypeId) (b o n c:Nat) (cs:List AV) : P.underlying t=some (.slice e)→b<M.next→n≤c→c * P.bytesOf e≤reachBytes→M.loads b o (n * P.cellsOf e)=some cs →
   (∀ i,i<n→Fits P M e ((cs.drop (i * P.cellsOf e)).take (P.cellsOf e)))→Fits P M t [.slc b o n (.ex c)]
 | struct (t:TypeId) (fs:Array Field) (cs:List AV) : P.underlying t=some (.struct fs)→cs.length=P.cellsOf t →
   (∀ (i:Nat) (f:Field),fs[i]?=some f→Fits P M f.type ((cs.drop f.offset).take (P.cellsOf f.type)))→Fits P M t cs
 | array (t e:TypeId) (n:Nat) (cs:List AV) : P.underlying t=some (.array n e)→cs.length=P.cellsOf t →
   (∀ i,i<n→Fits P M e ((cs.drop (i * P.cellsOf e)).take (P.cellsOf e)))→Fits P M t cs
 | other (t:TypeId) (cs:List AV) : PK (P.underlying t)=true→Fits P M t cs
 | zero (t e:TypeId) (cs:List AV) : P.underlying t=some (.slice e)→P.cellsOf e=0→Fits P M t cs
section
variable {H:Type} {enc:TypeId × Value→H} {P:Program} {base:Base} {w:World}
end
section
variable {P:Program} {M:RM} {t:TypeId} {cs:List AV}
end
def Ko (P:Program) (t:TypeId) : Bool :=
 match P.underlying t with
 | some (.struct _) | some (.array _ _)=>true
 | _=>false
def Bw (P:Program) (M:RM) (t:TypeId) (v:AV) : Prop :=
 match Ko P t with
 | true=>∃ cs,v=.agg cs∧Fits P M t cs
 | false=>Fits P M t [v]
theorem Bw.agg {P:Program} {M:RM} {t:TypeId} {v:AV} (h:Bw P M t v) (ha:Ko P t=true) : ∃ cs,v=.agg cs∧Fits P M t cs:=by
 unfold Bw at h; rw[ha] at h; exact h
theorem Bw.one {P:Program} {M:RM} {t:TypeId} {v:AV} (h:Bw P M t v) (ha:Ko P t=false) : Fits P M t [v]:=by
 unfold Bw at h; rw[ha] at h; exact h
section
variable {H:Type} {enc:TypeId × Value→H} {P:Program} {base:Base} {w:World}
end
def RB.cells (lo:Nat) : RB→Option (List AV)
 | .row l _ _ _=>some l
 | .ro c=>some (c.toList.map (Dl lo))
 | _=>none
@[go_sem] theorem RB.uA (lo:Nat) (l:List AV) (p:Bool) (e f:Nat) : RB.cells lo (.row l p e f)=some l:=rfl
theorem RM.Da (M:RM) (b:Nat) : M.cells b=(M.heap b).bind (RB.cells M.lo):=by
 unfold RM.cells RB.cells
 cases M.heap b with
 | none=>rfl
 | some x=>cases x <;> rfl
def sG (l:Option (List AV)) (o k:Nat) : Option (List AV) :=
 match l with
 | some l=>if o + k≤l.length then some ((l.drop o).take k) else none
 | none=>none
@[go_sem] theorem Vf (l:List AV) (o k:Nat) : sG (some l) o k=if o + k≤l.length then some ((l.drop o).take k) else none:=rfl
theorem RM.Df (M:RM) (b o k:Nat) : M.loads b o k=sG (M.cells b) o k:=rfl
section
variable {M M' : RM}
@[go_sem] theorem RM.PG (x:RB) (c:Nat) : (M.push x).heap c=if c=M.next then some x else M.heap c:=rfl
@[go_sem] theorem RM.heap_put (b:Nat) (x:RB) (c:Nat) : (M.put b x).heap c=if c=b then some x else M.heap c:=rfl
@[go_sem] theorem RM.Xv (b:Nat) (c:Nat) : (M.del b).heap c=if c=b then none else M.heap c:=rfl
@[go_sem] theorem RM.Qc (x:RB) : (M.push x).base=M.base:=rfl
@[go_sem] theorem RM.QL (b:Nat) (x:RB) : (M.put b x).base=M.base:=rfl
@[go_sem] theorem RM.WL (b:Nat) : (M.del b).base=M.base:=rfl
theorem RM.E9 (x:RB) (c:Nat) : (M.push x).cells c=if c=M.next then x.cells M.lo else M.cells c:=by
 simp only[RM.Da,RM.PG]
 split <;> rfl
theorem RM.G8 (b:Nat) (x:RB) (c:Nat) : (M.put b x).cells c=if c=b then x.cells M.lo else M.cells c:=by
 simp only[RM.Da,RM.heap_put]
 split <;> rfl
@[go_sem] theorem RM.V8 (x:RB) (c o:Nat) : (M.push x).cell c o=if c=M.next then(x.cells M.lo).bind (·[o]?) else M.cell c o:=by
 simp only[RM.cell,RM.E9]
 split <;> rfl
@[go_sem] theorem RM.XY (b:Nat) (x:RB) (c o:Nat) : (M.put b x).cell c o=if c=b then(x.cells M.lo).bind (·[o]?) else M.cell c o:=by
 simp only[RM.cell,RM.G8]
 split <;> rfl
@[go_sem] theorem RM.Vm (x:RB) (c o k:Nat) : (M.push x).loads c o k=if c=M.next then sG (x.cells M.lo) o k else M.loads c o k:=by
 simp only[RM.Df,RM.E9]
 split <;> rfl
@[go_sem] theorem RM.Wi (b:Nat) (x:RB) (c o k:Nat) : (M.put b x).loads c o k=if c=b then sG (x.cells M.lo) o k else M.loads c o k:=by
 simp only[RM.Df,RM.G8]
 split <;> rfl
def lY (l:List AV) (fz o:Nat) (vs:List AV) : Option (List AV) :=
 if o + vs.length≤l.length∧fz≤o∧vs.all oneCell=true then some (l.take o++vs++l.drop (o + vs.length)) else none
theorem fO {l vs:List AV} {fz o:Nat} (h1:o + vs.length≤l.length) (h2:fz≤o) (h3:vs.all oneCell=true) : lY l fz o vs=some (l.take o++vs++l.drop (o + vs.length)):=if_pos ⟨h1,h2,h3⟩
@[go_sem] theorem Ia {l vs:List AV} (h:vs.length=l.length) (h3:vs.all oneCell=true) : lY l 0 0 vs=some vs:=by
 rw[fO (by omega) (Nat.le_refl _) h3]
 simp[h]
theorem RM.uJ {b o:Nat} {vs l:List AV} {p:Bool} {e f:Nat} (h:M.heap b=some (.row l p e f)) : M.stores b o vs=(lY l f o vs).map fun l'=>M.put b (.row l' p e f):=by
 simp only[RM.stores,h,lY]
 split <;> rfl
theorem RM.Rm {x y:RB} : (M.push x).put M.next y=M.push y:=by
 simp only[RM.put,RM.push]
 congr 1
 funext c
 split <;> rfl
theorem RM.J8 {x y:RB} {b:Nat} (hb:b≠M.next) : (M.push x).put b y=(M.put b y).push x:=by
 simp only[RM.put,RM.push]
 congr 1
 funext c
 by_cases h1:c=b
 ·subst h1; simp[hb]
 ·simp[h1]
theorem RM.D7 {l vs:List AV} {p:Bool} {e f o:Nat} : (M.push (.row l p e f)).stores M.next o vs=(lY l f o vs).map fun l'=>M.push (.row l' p e f):=by
 rw[RM.uJ (RM.aQ _)]
 congr 1
 funext l'
 exact RM.Rm
theorem RM.EN {M:RM} {b o:Nat} {vs:List AV} : M.stores b o vs=match M.heap b with
  | some (.row l p e f)=>(lY l f o vs).map fun l'=>M.put b (.row l' p e f)
  | _=>none:=by
 cases h:M.heap b with
 | none=>simp[RM.stores,h]
 | some x =>
   cases x with
   | row l p e f=>rw[RM.uJ h]
   | _=>simp[RM.stores,h]
@[go_sem] theorem RM.Es {x:RB} {vs:List AV} {c o:Nat} (hc:c≠M.next) : (M.push x).stores c o vs=(M.stores c o vs).map (·.push x):=by
 rw[RM.EN,RM.EN,RM.QH hc]
 split
 ·simp only[Option.map_map]
  congr 1
  funext l'
  exact RM.J8 hc
 ·rfl
@[go_sem] theorem RM.Vd {l vs:List AV} {p:Bool} {e f c o:Nat} : (M.push (.row l p e f)).stores c o vs =
  if c=M.next then(lY l f o vs).map fun l'=>M.push (.row l' p e f) else(M.stores c o vs).map (·.push (.row l p e f)):=by
 split
 ·rename_i h; subst h; exact RM.D7
 ·rename_i h; exact RM.Es h
@[go_sem] theorem RM.RV {b o:Nat} {l vs:List AV} {p:Bool} {e f:Nat} : (M.put b (.row l p e f)).stores b o vs=(lY l f o vs).map fun l'=>M.put b (.row l' p e f):=by
 rw[RM.uJ (RM.jD _ _)]
 congr 1
 funext l'
 simp only[RM.put]
 congr 1
 funext c
 split <;> rfl
@[go_sem] theorem X3 {α:Type} (a:α) (K:α→Prop) : (∃ x,some a=some x∧K x)=K a:=by simp
@[go_sem] theorem Vh {α β:Type} (f:α→β) (x:α) : (some x).map f=some (f x):=rfl
theorem RM.mR (b:Nat) (x:RB) : (M.put b x).next=M.next:=rfl
attribute [go_sem] Int.natCast_nonneg Int.toNat_natCast Nat.mul_one true_implies false_implies Bool.false_eq_true Bool.true_eq_false Bool.not_true Bool.not_false Bool.and_self Bool.and_true Bool.true_and Nat.le_refl List.append_nil List.nil_append if_true if_false Nat.lt_irrefl Nat.add_one_ne_zero true_and and_true Nat.zero_add Nat.add_zero List.drop_zero List.getElem?_cons_zero List.getElem?_cons_succ Option.bind_some List.take_succ_cons List.take_zero List.drop_succ_cons List.drop_nil List.take_nil
attribute [go_sem] mD List.all_cons List.all_nil List.length_cons List.length_nil
@[go_sem] theorem V7 (cs:List AV) : (AV.agg cs).cells=cs:=rfl
@[go_sem] theorem Xr (v:Value) : (AV.sc v).cells=[.sc v]:=rfl
@[go_sem] theorem Wm (b o:Nat) : (AV.ptr b o).cells=[.ptr b o]:=rfl
@[go_sem] theorem Wv (b o n:Nat) (c:Cap) : (AV.slc b o n c).cells=[.slc b o n c]:=rfl
@[go_sem] theorem Wj (b:Nat) : (AV.emp b).cells=[.emp b]:=rfl
@[go_sem] theorem Wp (b:Nat) : (AV.map b).cells=[.map b]:=rfl
@[go_sem] theorem WQ (f:Fn) (xs ys:List AV) : (AV.fn f xs ys).cells=[.fn f xs ys]:=rfl
@[go_sem] theorem eT (v:Value) : oneCell (.sc v)=true:=rfl
@[go_sem] theorem X8 (b o:Nat) : oneCell (.ptr b o)=true:=rfl
@[go_sem] theorem X5 (b o n:Nat) (c:Cap) : oneCell (.slc b o n c)=true:=rfl
@[go_sem] theorem X9 (b:Nat) : oneCell (.emp b)=true:=rfl
@[go_sem] theorem X4 (b:Nat) : oneCell (.map b)=true:=rfl
@[go_sem] theorem Yg (f:Fn) (xs ys:List AV) : oneCell (.fn f xs ys)=true:=rfl
end
theorem RM.QG {M:RM} {b:Nat} {l:List AV} {p:Bool} {e f:Nat} (h:M.heap b=some (.row l p e f)) (o k:Nat) : M.loads b o k=sG (some l) o k:=by rw[RM.Df,RM.uA h]
theorem RM.cell_of {M:RM} {b:Nat} {l:List AV} {p:Bool} {e f:Nat} (h:M.heap b=some (.row l p e f)) (o:Nat) : M.cell b o=l[o]?:=RM.Re h
theorem RM.jg {M:RM} {b:Nat} {l:List AV} {p:Bool} {e f:Nat} (h:M.heap b=some (.row l p e f)) (o:Nat) (vs:List AV) : M.stores b o vs=(lY l f o vs).map fun l'=>M.put b (.row l' p e f):=RM.uJ h
theorem ae.ax {bs:List Nat} {M M' : RM} (h:ae bs M M') {b:Nat} {x:RB} (hh:M.heap b=some x) (hlt:b<M.next) (hb:b ∉ bs) : M'.heap b=some x:=by rw[h.heap b hlt hb,hh]
inductive Yc where
 | val (v:AV)
 | rows (n:Nat) (v:AV) (bs:List (Nat × gU)) (n' : Nat)
structure UJ where
 args:List AV
 fp:List (Nat × gU):=[]
 dead:List Nat:=[]
 nx:Nat:=0
 ans:Yc
def Pf:Tree gU→List (Nat × gU)→Tree gU
 | t,[]=>t
 | t,(b,x) :: r=>Pf (t.set b x) r
def PQ:Tree gU→List Nat→Tree gU
 | t,[]=>t
 | t,b :: r=>PQ (t.del b) r
def Ll (A:AW) : List (Nat × gU)→Bool
 | []=>true
 | (b,x) :: r=>match A.heap.get b with
   | some y=>VV x y && Ll A r
   | none=>false
def XB (A:AW) (e:UJ) : Option (AV × AW) :=
 match Ll A e.fp with
 | false=>none
 | true=>match e.ans with
   | .val v=>some (v,A)
   | .rows n v bs n'=>match Nat.beq n A.next with
     | true=>some (v,{ next:=n',heap:=Pf (PQ A.heap e.dead) bs })
     | false=>none
abbrev Table:=List (Nat × List UJ)
def Wz:List Nat→Nat→Bool
 | [],_=>false
 | k :: ks,b=>match Nat.beq k b with
   | true=>true
   | false=>Wz ks b
mutual
def within (ks:List Nat) : AV→Bool
 | .sc _ | .top | .atl _=>true
 | .ptr b _ | .slc b _ _ _ | .emp b | .map b=>Wz ks b
 | .fn _ xs ys=>BU ks xs && BU ks ys
 | .ifc _ x=>within ks x
 | .agg xs | .tup xs=>BU ks xs
def BU (ks:List Nat) : List AV→Bool
 | []=>true
 | x :: xs=>within ks x && BU ks xs
end
section
variable {P:Program} {X:Ext}
def VX (P:Program) (I:World→Prop) (f:Nat) (e:UJ) : Prop :=
 ∀ (base:Base),(∀ w,base.inv w→I w)→∀ A v A',XB A e=some (v,A')→∀ (ρ:Ren) (w:World) (us:List Value),aO ρ e.args us→bU P base ρ A w→base≤w.heap.size →
   Calls P f ⟨us⟩ w fun r w'=>∃ ρ' v',r=.returned v'∧Step base A.next ρ w ρ' w'∧bU P base ρ' A' w'∧A.next≤A'.next∧ah ρ' v v'
def RA (P:Program) (I:World→Prop) (T:Table) : Prop:=∀ g∈T,∀ e∈g.2,VX P I g.1 e
theorem bU.none {P:Program} {base:Base} {n:Nat} {w:World} (hi:base.inv w) : bU P base (fun _=>none) { next:=n,heap:=.leaf } w :=
 ⟨fun _ _ h=>(by cases h),fun _ _ _ h=>(by cases h),fun _ _ _ _ _ _ h=>(by cases h),fun _ _ h=>(by simp[Tree.get] at h),fun _ _ _ h=>(by cases h),hi⟩
def only(ρ:Ren) (ks:List Nat) : Ren:=fun b=>if b∈ks then ρ b else none
theorem RA.nil {I:World→Prop} : RA P I []:=fun g hg=>by cases hg
open Go.WideShapes Go.ChangeShapes in
open Go.WideShapes Go.ChangeShapes in
end
structure Enc (α:Type) where
 size:Nat
 cells:α→List AV
 len:∀ a,(cells a).length=size
 one:∀ a,(cells a).all oneCell=true
section
variable {α:Type} (E:Enc α)
def Enc.row (xs:List α) : List AV:=xs.flatMap E.cells
theorem Enc.jw (x:α) (xs:List α) : E.row (x :: xs)=E.cells x++E.row xs:=rfl
theorem Enc.qW (xs ys:List α) : E.row (xs++ys)=E.row xs++E.row ys:=by simp[Enc.row]
theorem Enc.row_one (x:α) : E.row [x]=E.cells x:=by simp[Enc.row]
theorem Enc.fu:∀ (xs:List α),(E.row xs).length=xs.length * E.size
 | []=>by simp[Enc.row]
 | x :: xs=>by rw[Enc.jw,List.length_append,E.len,Enc.fu xs,List.length_cons,Nat.succ_mul,Nat.add_comm]
theorem Enc.jR:∀ (xs:List α),(E.row xs).all oneCell=true
 | []=>by simp[Enc.row]
 | x :: xs=>by rw[Enc.jw,List.all_append,E.one,Enc.jR xs]; rfl
theorem Enc.xC:∀ (xs:List α) (i:Nat),(E.row xs).drop (i * E.size)=E.row (xs.drop i)
 | [],i=>by simp[Enc.row]
 | x :: xs,0=>by simp
 | x :: xs,i + 1=>by
   rw[Enc.jw,Nat.succ_mul,Nat.add_comm,← List.drop_drop,List.drop_left' (E.len x),Enc.xC xs i]
   rfl
theorem Enc.Du:∀ (xs:List α) (i:Nat),(E.row xs).take (i * E.size)=E.row (xs.take i)
 | [],i=>by simp[Enc.row]
 | x :: xs,0=>by simp[Enc.row]
 | x :: xs,i + 1=>by
   rw[Enc.jw,Nat.succ_mul,Nat.add_comm,List.take_append,List.take_of_length_le (by rw[E.len]; omega),E.len,Nat.add_sub_cancel_left,Enc.Du xs i]
   rfl
theorem Enc.vQ {xs:List α} {i:Nat} (hi:i<xs.length) : ((E.row xs).drop (i * E.size)).take E.size=E.cells xs[i]:=by
 rw[Enc.xC,List.drop_eq_getElem_cons hi,Enc.jw]
 rw[List.take_append_of_le_length (by rw[E.len]; exact Nat.le_refl _),List.take_of_length_le (by rw[E.len]; exact Nat.le_refl _)]
abbrev Sl (M:RM) (v:AV) (xs:List α) : Prop:=dK M E.size v (E.row xs) xs.length
abbrev Ow (M:RM) (base el:Nat) (v:AV) (xs:List α) : Prop:=Own M base el E.size v (E.row xs) xs.length
variable {E} {M M' : RM} {v:AV} {xs:List α}
theorem Sl.elem (h:Sl E M v xs) {i:Nat} (hi:i<xs.length) : ∃ b o,b<M.next∧b∈aD v∧(∀ (kd:IntKind) (K:AV→Prop),bg v (N kd (i:Int)) E.size K=K (.ptr b o))∧M.loads b o E.size=some (E.cells xs[i]):=by
 obtain⟨b,o,cap,rfl,hb,hl⟩:=h.pos (by omega)
 have hsum:i * E.size + E.size≤xs.length * E.size:=by rw[← Nat.succ_mul]; exact Nat.mul_le_mul_right _ hi
 refine⟨b,o + i * E.size,hb,by simp[aD],fun kd K=>?_, ?_⟩
 ·rw[De]
  simp only[Int.toNat_natCast]
  exact propext ⟨fun h=>h.2.2,fun h=>⟨by omega,by omega,h⟩⟩
 ·rw[uz hl (i * E.size) E.size hsum,E.vQ hi]
theorem Sl.at (h:Sl E M v xs) {i:Nat} (sz:Nat) (j:Int) (hi:i<xs.length) (hsz:E.size=sz:=by rfl) (hj:j=(i:Int):=by rfl) : ∃ b o,b<M.next∧b∈aD v∧(∀ (kd:IntKind) (K:AV→Prop),bg v (N kd j) sz K=K (.ptr b o))∧M.loads b o sz=some (E.cells xs[i]):=by
 subst hsz hj; exact h.elem hi
theorem fU {b o k:Nat} {cs:List AV} (h:M.loads b o k=some cs) {j:Nat} {x:AV} (hj:cs[j]?=some x) : M.cell b (o + j)=some x:=by
 have hlt:j<k:=by rw[← Gu h]; exact(List.getElem?_eq_some_iff.1 hj).1
 rw[PO h j hlt,hj]
theorem oV {b o k:Nat} {cs:List AV} (h:M.loads b o k=some cs) {x:AV} (hj:cs[0]?=some x) : M.cell b o=some x:=fU h hj
theorem Fa {b o k:Nat} {cs:List AV} (h:M.loads b o k=some cs) (j m:Nat) (hm:j + m≤k) : M.loads b (o + j) m=some ((cs.drop j).take m):=uz h j m hm
theorem Gb {base T bytes:Nat} {zs:List AV} {u:AV} {ys:List α} {K:ai} (ho:Ow E M base T v xs) (hb:base≤M.next) (hs:1≤E.size) (hu:Sl E M u ys)
  (hn:(xs.length + ys.length) * bytes≤140737488355328) (hn2:xs.length + ys.length≤140737488355328)
  (hK:∀ v' M',Ow E M' base T v' (xs++ys)→ae (aD v) M M'→M.next≤M'.next→(v'=v∨∀ b∈aD v',M.next≤b)→K v' M') :
  appW T E.size bytes zs false v u M K:=by
 refine BP ho hb hs (dK.mq hu _) (E.fu ys) (E.jR ys) hn hn2 ?_
 intro v' M' h1 h2 h3 h4
 refine hK v' M' ?_ h2 h3 h4
 rw[← E.qW] at h1
 simpa [Ow] using h1
theorem Sl.new {T c:Nat} {p:Bool} (ys:List α) : Sl E (M.push (.row (E.row ys) p T 0)) (.slc M.next 0 ys.length (.ex c)) ys :=
 .slc _ _ _ _ _ (by simp[RM.push]) (by rw[RM.jT (RM.aQ _) (by rw[E.fu]; omega),List.drop_zero,← E.fu,List.take_length])
theorem nG {base T bytes:Nat} {zs:List AV} {a:α} {K:ai} (ho:Ow E M base T v xs) (hb:base≤M.next) (hs:1≤E.size)
  (hn:(xs.length + 1) * bytes≤140737488355328) (hn2:xs.length + 1≤140737488355328)
  (hK:∀ v' M',Ow E M' base T v' (xs++[a])→ae (aD v) M M'→M.next≤M'.next→(v'=v∨∀ b∈aD v',M.next≤b)→K v' M') :
  appW T E.size bytes zs false v (.slc M.next 0 1 (.ex 1)) (M.push (.row (E.cells a) false T 0)) K:=by
 have hk:ae [] M (M.push (.row (E.cells a) false T 0)):=(ae.refl _ _).push _
 refine Gb (ys:=[a]) (Own.keep ho hk (by simp)) (Nat.le_trans hb hk.next) hs (by rw[← E.row_one]; exact Sl.new [a]) hn hn2 ?_
 intro v' M' h1 h2 h3 h4
 exact hK v' M' h1 ((hk.mono (by simp)).trans h2) (Nat.le_trans hk.next h3) (h4.imp id fun h b hb=>Nat.le_trans hk.next (h b hb))
@[go_sem] theorem VH {T:Nat} {zs:List AV} {K:RB→(Nat→AV)→Prop} : dV T 0 zs [] K=K (.row [] false T 0) (fun b=>.slc b 0 0 (.ex 0)):=by
 apply propext; unfold dV
 constructor
 ·rintro⟨l,h,hk⟩; cases h; exact hk
 ·intro hk; exact⟨_,rfl,hk⟩
theorem iR {T size:Nat} {zs:List AV} {x:AV} {K:RB→(Nat→AV)→Prop} (h:x.cells.length=size) (h1:x.cells.all oneCell=true) (hz:zs.length=size) :
  dV T 1 zs [(0,size,x)] K=K (.row x.cells false T 0) (fun b=>.slc b 0 1 (.ex 1)):=by
 have:qP (mi zs 1) [(0,size,x)]=some x.cells:=by
  simp only[qP,mi,List.append_nil,h1,h,Nat.zero_add,hz,Nat.le_refl,and_self,if_true,List.take_zero,List.nil_append]
  rw[List.drop_of_length_le (by omega),List.append_nil]
 apply propext; unfold dV
 constructor
 ·rintro⟨l,h,hk⟩; rw[this] at h; cases h; exact hk
 ·intro hk; exact⟨_,this,hk⟩
theorem Ow.lit (E:Enc α) {T:Nat} (M:RM) : Ow E (M.push (.row [] false T 0)) M.next T (.slc M.next 0 0 (.ex 0)) []:=Own.lit M (Nat.le_refl _)
theorem lG {i:Nat} (h:i<9223372036854775807) : IntKind.wrap .i64 ((i:Int) + 1)=((i + 1:Nat) : Int):=by
 rw[eD (by omega) (by omega)]; rfl
end
@[go_sem] theorem Eb:bW [] [] []=some true:=rfl
@[go_sem] theorem VE (ks:List Nat) (k:IntKind) (a b:Int) (xs ys:List AV) : bW (1 :: ks) (N k a :: xs) (N k b :: ys)=if a=b then bW ks xs ys else some false:=by
 simp only[bW,ow,if_true]
 by_cases h:a=b
 ·simp[h]
 ·have:(a == b)=false:=by simp[h]
  simp[this,h]
@[go_sem] theorem yN (ks:List Nat) (a b:List UInt8) (xs ys:List AV) : bW (2 :: ks) (St a :: xs) (St b :: ys)=if a=b then bW ks xs ys else some false:=by
 simp only[bW,ow]
 by_cases h:a=b
 ·simp[h]
 ·have:(a == b)=false:=by simp[h]
  simp[this,h]
@[go_sem] theorem Vg (ks:List Nat) (a b:Bool) (xs ys:List AV) : bW (3 :: ks) (Bo a :: xs) (Bo b :: ys)=if a=b then bW ks xs ys else some false:=by
 simp only[bW,ow]
 by_cases h:a=b
 ·simp[h]
 ·have:(a == b)=false:=by simp[h]
  simp[this,h]
theorem pW {neg:Bool} {ks:List Nat} {cs ds:List AV} {r:Bool} {K:AV→Prop} (h1:cs.length=ks.length) (h2:ds.length=ks.length) (h:bW ks cs ds=some r) : lF neg ks (.agg cs) (.agg ds) K=K (Bo (r != neg)):=by
 rw[Ns]
 apply propext
 constructor
 ·rintro⟨_,_,r',h',hk⟩; rw[h] at h'; cases h'; exact hk
 ·intro hk; exact⟨h1,h2,r,h,hk⟩
theorem dH (x:AV) (w:Bool) (f g:ai→Prop) (F G:AV→RM→ai→Prop) (k:ai) :
  aa x w f g (fun v M=>aa x w (F v M) (G v M) k)=aa x w (fun k'=>f fun v M=>F v M k') (fun k'=>g fun v M=>G v M k') k:=by
 unfold aa kR
 split
 ·split <;> simp_all
 ·rfl
 ·rfl
theorem Rz (x:AV) (w:Bool) (f g:KR→Prop) (F G:AV→RM→Option Nat→KR→Prop) (k:KR) :
  aN x w f g (fun v M b=>aN x w (F v M b) (G v M b) k)=aN x w (fun k'=>f fun v M b=>F v M b k') (fun k'=>g fun v M b=>G v M b k') k:=by
 unfold aN kR
 split
 ·split <;> simp_all
 ·rfl
 ·rfl
theorem aR {body:(List AV→RM→Prop)→List AV→RM→Prop} {xs:List AV} {M:RM} (I:Nat→List AV→RM→Prop) (n:Nat) (h0:I n xs M)
  (hb:∀ (next:List AV→RM→Prop) m ys M',(∀ m' zs M'',m'<m→I m' zs M''→next zs M'')→I m ys M'→body next ys M') : bz body xs M :=
 ⟨I,n,h0,fun m ys M' hI=>hb _ m ys M' (fun m' zs M'' hlt h=>⟨m',hlt,h⟩) hI⟩
abbrev By (b:UInt8) : AV:=N .u8 (b.toNat:Int)
def BY:Enc UInt8:=⟨1,fun b=>[By b],fun _=>rfl,fun _=>rfl⟩
theorem qj (s:List UInt8) : BY.row s=s.map By:=by
 induction s with
 | nil=>rfl
 | cons b s ih=>rw[Enc.jw,ih]; rfl
def iW:Enc (List UInt8):=⟨1,fun s=>[St s],fun _=>rfl,fun _=>rfl⟩
def INT:Enc Int:=⟨1,fun n=>[N .i64 n],fun _=>rfl,fun _=>rfl⟩
theorem xH:∀ (s:List UInt8),cz byteOf (s.map By)=some s
 | []=>rfl
 | b :: s=>by
   simp only[List.map_cons,cz,byteOf,xH s]
   simp
section
variable {α:Type} {E:Enc α} {M M' : RM} {v:AV} {xs:List α}
theorem Sl.str {s:List UInt8} (h:Sl BY M v s) {K:AV→Prop} : tT M v K=K (St s) :=
 KT (dK.yE h (by rw[qj]; exact xH s))
theorem Sl.Sg (h:Sl E M v xs) {i:Nat} (j:Int) (hi:i<xs.length) (hsz:E.size=1:=by rfl) (hj:j=(i:Int):=by rfl) :
  ∃ b o,b<M.next∧b∈aD v∧(∀ (kd:IntKind) (K:AV→Prop),bg v (N kd j) 1 K=K (.ptr b o))∧∀ x,E.cells xs[i]=[x]→M.cell b o=some x:=by
 obtain⟨b,o,h1,h2,h3,h4⟩:=Sl.at h 1 j hi hsz hj
 exact⟨b,o,h1,h2,h3,fun x hx=>oV h4 (by rw[hx]; rfl)⟩
structure Rw (E:Enc α) (M:RM) (b:Nat) (opn:Bool) (el:Nat) (xs:List α) : Prop where
 heap:M.heap b=some (.row (E.row xs) opn el 0)
 lt:b<M.next
theorem Rw.sl {b el:Nat} {p:Bool} {cap:Cap} (h:Rw E M b p el xs) : Sl E M (.slc b 0 xs.length cap) xs:=by
 refine .slc _ _ _ _ _ h.lt ?_
 rw[RM.jT h.heap (by rw[E.fu]; omega),List.drop_zero,← E.fu,List.take_length]
theorem Rw.keep {b el:Nat} {p:Bool} {bs:List Nat} (h:Rw E M b p el xs) (hk:ae bs M M') (hb:b ∉ bs) : Rw E M' b p el xs :=
 ⟨hk.ax h.heap h.lt hb,Nat.lt_of_lt_of_le h.lt hk.next⟩
theorem Rw.new {el:Nat} {p:Bool} (M:RM) (xs:List α) : Rw E (M.push (.row (E.row xs) p el 0)) M.next p el xs :=
 ⟨RM.aQ _,by simp[RM.push]⟩
theorem Rw.load {b el:Nat} {p:Bool} (h:Rw E M b p el xs) {i:Nat} (hi:i<xs.length) : M.loads b (i * E.size) E.size=some (E.cells xs[i]):=by
 have hsum:i * E.size + E.size≤xs.length * E.size:=by rw[← Nat.succ_mul]; exact Nat.mul_le_mul_right _ hi
 rw[RM.jT h.heap (by rw[E.fu]; exact hsum),E.vQ hi]
theorem Enc.SC (E:Enc α) {xs:List α} {i:Nat} (hi:i<xs.length) (x:α) : E.row (xs.set i x)=(E.row xs).take (i * E.size)++E.cells x++(E.row xs).drop (i * E.size + E.size):=by
 rw[E.Du,← Nat.succ_mul,E.xC,List.set_eq_take_append_cons_drop,if_pos hi,E.qW,E.jw,List.append_assoc]
theorem Rw.store {b el:Nat} {p:Bool} (h:Rw E M b p el xs) {i:Nat} (hi:i<xs.length) (x:α) :
  M.stores b (i * E.size) (E.cells x)=some (M.put b (.row (E.row (xs.set i x)) p el 0))∧Rw E (M.put b (.row (E.row (xs.set i x)) p el 0)) b p el (xs.set i x):=by
 have hsum:i * E.size + E.size≤xs.length * E.size:=by rw[← Nat.succ_mul]; exact Nat.mul_le_mul_right _ hi
 refine⟨?_,RM.jD _ _,h.lt⟩
 rw[RM.NC h.heap (by rw[E.len,E.fu]; exact hsum) (Nat.zero_le _) (E.one x),E.SC hi,E.len]
theorem Rw.ak {b el:Nat} {p:Bool} (h:Rw E M b p el xs) {i:Nat} (hi:i<xs.length) (hsz:E.size=1:=by rfl) {x:AV} (hx:E.cells xs[i]=[x]:=by rfl) : M.cell b i=some x:=by
 have:=h.load hi
 rw[hsz,Nat.mul_one] at this
 exact oV this (by rw[hx]; rfl)
theorem Rw.Oz {b el:Nat} {p:Bool} (h:Rw E M b p el xs) {i:Nat} (hi:i<xs.length) (x:α) (hsz:E.size=1:=by rfl) {u:AV} (hx:E.cells x=[u]:=by rfl) :
  M.stores b i [u]=some (M.put b (.row (E.row (xs.set i x)) p el 0))∧Rw E (M.put b (.row (E.row (xs.set i x)) p el 0)) b p el (xs.set i x):=by
 have:=h.store hi x
 rw[hsz,Nat.mul_one,hx] at this
 exact this
end
@[go_sem] theorem qp (el:Nat) (s:List UInt8) (K:RB→(Nat→AV)→Prop) : qi el (St s) K=K (.row (BY.row s) true el 0) (fun b=>.slc b 0 s.length (.op 1)):=by
 rw[qj]
 apply propext; unfold qi
 constructor
 ·rintro⟨s',h,hk⟩; cases h; exact hk
 ·intro hk; exact⟨s,rfl,hk⟩
def dF (b:UInt8) : UInt8:=if 65≤b.toNat∧b.toNat≤90 then b + 32 else b
def low (s:List UInt8) : List UInt8:=s.map dF
theorem Ie (b:UInt8) : b.toNat<256:=b.toNat_lt
structure ek (n:Nat) (bs:List Nat) (M M' : RM) : Prop where
 base:M'.base=M.base
 next:M.next≤M'.next
 heap:∀ c,c<n→c ∉ bs→M'.heap c=M.heap c
theorem ek.refl (n:Nat) (bs:List Nat) (M:RM) : ek n bs M M:=⟨rfl,Nat.le_refl _,fun _ _ _=>rfl⟩
theorem ek.trans {n:Nat} {bs:List Nat} {M M1 M2:RM} (h:ek n bs M M1) (k:ek n bs M1 M2) : ek n bs M M2 :=
 ⟨k.base.trans h.base,Nat.le_trans h.next k.next,fun c h1 h2=>(k.heap c h1 h2).trans (h.heap c h1 h2)⟩
theorem ae.to {bs cs:List Nat} {n:Nat} {M M' : RM} (h:ae bs M M') (hn:n≤M.next) (hb:∀ b∈bs,n≤b∨b∈cs) : ek n cs M M' :=
 ⟨h.base,h.next,fun c h1 h2=>h.heap c (Nat.lt_of_lt_of_le h1 hn) (fun hm=>by rcases hb c hm with h3 | h3; omega; exact h2 h3)⟩
theorem ae.F6 {bs cs:List Nat} {n:Nat} {M0 M M' : RM} (h:ae bs M0 M) (k:ek n cs M M') (hn:M0.next≤n) (hc:∀ c∈cs,M0.next≤c∨c∈bs) : ae bs M0 M' :=
 ⟨k.base.trans h.base,Nat.le_trans h.next k.next,fun c h1 h2=>by
  rw[k.heap c (Nat.lt_of_lt_of_le h1 hn) (fun hm=>by rcases hc c hm with h3 | h3; omega; exact h2 h3),h.heap c h1 h2]⟩
theorem ek.ax {n:Nat} {bs:List Nat} {M M' : RM} (h:ek n bs M M') {b:Nat} {x:RB} (hh:M.heap b=some x) (hlt:b<n) (hb:b ∉ bs) : M'.heap b=some x:=by rw[h.heap b hlt hb,hh]
theorem Own.same {M M' : RM} {n el size n0:Nat} {v:AV} {cs:List AV} (h:Own M n0 el size v cs n) (hn:M'.next=M.next) (hb:∀ c∈aD v,M'.heap c=M.heap c) (hbase:M'.base=M.base) : Own M' n0 el size v cs n:=by
 cases h with
 | nil=>exact .nil
 | ex0 b o h1 h2 h3=>exact .ex0 b o h1 (by omega) (by simpa [RM.Da,hb b (by simp[aD]),RM.lo,hbase] using h3)
 | op b n cs h1 h2 h3 h4=>exact .op b n cs h1 (by omega) (by rw[hb b (by simp[aD]),h3]) h4
theorem Own.one {M:RM} {n el size n0:Nat} {v:AV} {cs:List AV} (h:Own M n0 el size v cs n) : oneCell v=true:=by
 cases h <;> rfl
theorem Own.cells {M:RM} {n el size n0:Nat} {v:AV} {cs:List AV} (h:Own M n0 el size v cs n) : v.cells=[v]:=by
 cases h <;> rfl
section
variable {P:Program} {ρ:Ren} {M:RM} {w w' : World}
theorem bU.below {base:Base} {A:AW} (h:bU P base ρ A w) (hb:Below w.heap.size w w') (hn:base.n≤w.heap.size) : bU P base ρ A w' where
 dom b i hbi:=⟨(h.dom b i hbi).1,Nat.lt_of_lt_of_le (h.dom b i hbi).2 hb.size⟩
 blk b i x hbi hx:=let ⟨o,ho,hr⟩:=h.blk b i x hbi hx; ⟨o,by rw[hb.block _ (h.dom b i hbi).2]; exact ho,hr⟩
 sep:=h.sep
 top:=h.top
 lo:=h.lo
 inv:=base.low w w' (fun c hc=>hb.block c (Nat.lt_of_lt_of_le hc hn)) h.inv
theorem Step.of_below {base n:Nat} (hb:Below w.heap.size w w') (hn:base≤w.heap.size) : Step base n ρ w ρ w' where
 os:=hb.os
 tape:=hb.tape
 output:=hb.output
 size:=hb.size
 frame c hc _:=hb.block c hc
 ext _ _:=rfl
 fresh b i h:=.inl ⟨b,i,h,rfl⟩
 low c hc:=hb.block c (Nat.lt_of_lt_of_le hc hn)
theorem After.below (h:bP P ρ M w) (hb:Below w.heap.size w w') : After P M ρ w M ρ w':=by
 obtain⟨A,hA⟩:=h
 refine iQ hA (Step.of_below hb hA.size) (hA.rel.below hb hA.size) rfl hA.next (Nat.le_refl _) fun b x hx=>?_
 rcases hA.blk b x hx with h | ⟨c,rfl,_⟩
 ·exact .inl h
 ·exact .inr ⟨c,rfl,hx⟩
theorem bP.inv (h:bP P ρ M w) : M.base.inv w:=by
 obtain⟨A,hA⟩:=h
 exact hA.rel.inv
theorem dR.kK {f:FuncId} {args:List AV} {v:AV} {Q:ai} (hP:Md P f)
  (h:∀ (ρ:Ren) (w:World) (us:List Value),aO ρ args us→bP P ρ M w→Calls P f ⟨us⟩ w fun e w'=>∃ v',e=.returned v'∧Below w.heap.size w w'∧ah ρ v v') (hQ:Q v M) : dR P f args M Q:=by
 refine⟨hP,fun ρ w us hargs hw=>(h ρ w us hargs hw).mono fun e w' hR=>?_⟩
 obtain⟨v',rfl,hb,hv⟩:=hR
 exact⟨v',v,M,ρ,rfl,After.below hw hb,hv,hQ⟩
end
structure jk (α:Type) where
 size:Nat
 rel:RM→List AV→α→(Nat→Prop)→Prop
 len:∀ {M cs a S},rel M cs a S→cs.length=size
 one:∀ {M cs a S},rel M cs a S→cs.all oneCell=true
 mono:∀ {M cs a S S'},rel M cs a S→(∀ b,S b→S' b)→rel M cs a S'
 lt:∀ {M cs a S},rel M cs a S→rel M cs a (fun b=>S b∧b<M.next)
 keep:∀ {M M' cs a S bs},rel M cs a S→ae bs M M'→(∀ b∈bs,¬ S b)→rel M' cs a S
def Enc.iY {α:Type} (E:Enc α) : jk α where
 size:=E.size
 rel _ cs a _:=cs=E.cells a
 len h:=by subst h; exact E.len _
 one h:=by subst h; exact E.one _
 mono h _:=h
 lt h:=h
 keep h _ _:=h
inductive dw {α:Type} (R:jk α) (M:RM) (S:Nat→Prop) : List AV→List α→Prop
 | nil:dw R M S [] []
 | cons {cs ds:List AV} {a:α} {xs:List α} : R.rel M cs a S→dw R M S ds xs→dw R M S (cs++ds) (a :: xs)
section
variable {α:Type} {R:jk α} {M M' : RM} {S S' : Nat→Prop} {cs ds:List AV} {xs ys:List α} {a:α}
theorem dw.len (h:dw R M S cs xs) : cs.length=xs.length * R.size:=by
 induction h with
 | nil=>simp
 | cons h1 _ ih=>rw[List.length_append,R.len h1,ih,List.length_cons,Nat.succ_mul,Nat.add_comm]
theorem dw.one (h:dw R M S cs xs) : cs.all oneCell=true:=by
 induction h with
 | nil=>rfl
 | cons h1 _ ih=>rw[List.all_append,R.one h1,ih]; rfl
theorem dw.mono (h:dw R M S cs xs) (hs:∀ b,S b→S' b) : dw R M S' cs xs:=by
 induction h with
 | nil=>exact .nil
 | cons h1 _ ih=>exact .cons (R.mono h1 hs) ih
theorem dw.lt (h:dw R M S cs xs) : dw R M (fun b=>S b∧b<M.next) cs xs:=by
 induction h with
 | nil=>exact .nil
 | cons h1 _ ih=>exact .cons (R.lt h1) ih
theorem dw.keep {bs:List Nat} (h:dw R M S cs xs) (hk:ae bs M M') (hb:∀ b∈bs,¬ S b) : dw R M' S cs xs:=by
 induction h with
 | nil=>exact .nil
 | cons h1 _ ih=>exact .cons (R.keep h1 hk hb) ih
theorem dw.append (h:dw R M S cs xs) (k:dw R M S ds ys) : dw R M S (cs++ds) (xs++ys):=by
 induction h with
 | nil=>exact k
 | cons h1 _ ih=>rw[List.append_assoc]; exact .cons h1 ih
theorem dw.single (h:R.rel M cs a S) : dw R M S cs [a]:=by
 have:=dw.cons h .nil
 simpa using this
theorem dw.get (h:dw R M S cs xs) : ∀ {i:Nat} (hi:i<xs.length),R.rel M ((cs.drop (i * R.size)).take R.size) xs[i] S:=by
 induction h with
 | nil=>intro i hi; simp at hi
 | cons h1 h2 ih =>
   rename_i c1 d1 a1 x1
   intro i hi
   cases i with
   | zero =>
     rw[Nat.zero_mul,List.drop_zero,List.take_append_of_le_length (by rw[R.len h1]; exact Nat.le_refl _),List.take_of_length_le (by rw[R.len h1]; exact Nat.le_refl _)]
     exact h1
   | succ i =>
     rw[Nat.succ_mul,Nat.add_comm,← List.drop_drop,List.drop_left' (R.len h1)]
     exact ih (by simpa using hi)
theorem dw.take (h:dw R M S cs xs) : ∀ (k:Nat),dw R M S (cs.take (k * R.size)) (xs.take k):=by
 induction h with
 | nil=>intro k; simp; exact .nil
 | cons h1 h2 ih =>
   intro k
   cases k with
   | zero=>simp; exact .nil
   | succ k =>
     rw[Nat.succ_mul,Nat.add_comm,List.take_append,List.take_of_length_le (by rw[R.len h1]; omega),R.len h1,Nat.add_sub_cancel_left]
     exact .cons h1 (ih k)
theorem dw.drop (h:dw R M S cs xs) : ∀ (k:Nat),dw R M S (cs.drop (k * R.size)) (xs.drop k):=by
 induction h with
 | nil=>intro k; simp; exact .nil
 | cons h1 h2 ih =>
   intro k
   cases k with
   | zero=>simp; exact .cons h1 h2
   | succ k =>
     rw[Nat.succ_mul,Nat.add_comm,← List.drop_drop,List.drop_left' (R.len h1)]
     exact ih k
theorem dw.cells {E:Enc α} : ∀ {cs:List AV} {xs:List α},dw E.iY M S cs xs→cs=E.row xs
 | _,_,.nil=>rfl
 | _,_,.cons h1 h2=>by rw[Enc.jw,dw.cells h2]; rw[show _=_ from h1]
theorem dw.of_cells {E:Enc α} : ∀ (xs:List α),dw E.iY M S (E.row xs) xs
 | []=>.nil
 | x :: xs=>by rw[Enc.jw]; exact .cons rfl (dw.of_cells xs)
def bD (R:jk α) (M:RM) (v:AV) (xs:List α) (S:Nat→Prop) : Prop :=
 ∃ cs,dK M R.size v cs xs.length∧(∀ b∈aD v,S b)∧dw R M S cs xs
theorem dK.lt {size n:Nat} {v:AV} (h:dK M size v cs n) : ∀ b∈aD v,b<M.next:=by
 cases h with
 | nil=>intro b hb; simp[aD] at hb
 | emp=>intro b hb; simp[aD] at hb
 | slc b o n cap cs hb _=>intro c hc; simp[aD] at hc; omega
theorem dK.one {size n:Nat} {v:AV} (h:dK M size v cs n) : oneCell v=true:=by
 cases h <;> rfl
theorem dK.cells {size n:Nat} {v:AV} (h:dK M size v cs n) : v.cells=[v]:=by
 cases h <;> rfl
variable {v:AV}
theorem bD.mono (h:bD R M v xs S) (hs:∀ b,S b→S' b) : bD R M v xs S':=let ⟨cs,h1,h2,h3⟩:=h; ⟨cs,h1,fun b hb=>hs b (h2 b hb),h3.mono hs⟩
theorem bD.lt (h:bD R M v xs S) : bD R M v xs (fun b=>S b∧b<M.next):=let ⟨cs,h1,h2,h3⟩:=h; ⟨cs,h1,fun b hb=>⟨h2 b hb,h1.lt b hb⟩,h3.lt⟩
theorem bD.keep {bs:List Nat} (h:bD R M v xs S) (hk:ae bs M M') (hb:∀ b∈bs,¬ S b) : bD R M' v xs S :=
 let ⟨cs,h1,h2,h3⟩:=h; ⟨cs,h1.keep hk (fun b hv hbs=>hb b hbs (h2 b hv)),h2,h3.keep hk hb⟩
theorem bD.len (h:bD R M v xs S) {K:AV→Prop} : dz v K=K (N .i64 xs.length):=let ⟨cs,h1,_,_⟩:=h; h1.len
theorem bD.one (h:bD R M v xs S) : oneCell v=true:=let ⟨cs,h1,_,_⟩:=h; h1.one
theorem bD.cells (h:bD R M v xs S) : v.cells=[v]:=let ⟨cs,h1,_,_⟩:=h; h1.cells
theorem bD.nil:bD R M aC [] S:=⟨[],.nil,by simp[aD],.nil⟩
theorem bD.sl {E:Enc α} (h:bD E.iY M v xs S) : Sl E M v xs:=by
 obtain⟨cs,h1,h2,h3⟩:=h
 rw[h3.cells] at h1
 exact h1
theorem bD.Vk {E:Enc α} (h:Sl E M v xs) (hs:∀ b∈aD v,S b) : bD E.iY M v xs S:=⟨_,h,hs,dw.of_cells xs⟩
theorem bD.at (h:bD R M v xs S) {i:Nat} (sz:Nat) (j:Int) (hi:i<xs.length) (hsz:R.size=sz:=by rfl) (hj:j=(i:Int):=by rfl) :
  ∃ b o cs,b<M.next∧b∈aD v∧(∀ (kd:IntKind) (K:AV→Prop),bg v (N kd j) sz K=K (.ptr b o))∧M.loads b o sz=some cs∧R.rel M cs xs[i] S:=by
 subst hsz hj
 obtain⟨cs,h1,h2,h3⟩:=h
 obtain⟨b,o,cap,rfl,hb,hl⟩:=h1.pos (by omega)
 have hsum:i * R.size + R.size≤xs.length * R.size:=by rw[← Nat.succ_mul]; exact Nat.mul_le_mul_right _ hi
 refine⟨b,o + i * R.size,(cs.drop (i * R.size)).take R.size,hb,by simp[aD],fun kd K=>?_, ?_,h3.get hi⟩
 ·rw[De]
  simp only[Int.toNat_natCast]
  exact propext ⟨fun h=>h.2.2,fun h=>⟨by omega,by omega,h⟩⟩
 ·rw[uz hl (i * R.size) R.size hsum]
def jk.slice (R:jk α) : jk (List α) where
 size:=1
 rel M cs xs S:=∃ v,cs=[v]∧bD R M v xs S
 len h:=by obtain⟨v,rfl,_⟩:=h; rfl
 one h:=by obtain⟨v,rfl,h⟩:=h; simp[h.one]
 mono h hs:=by obtain⟨v,rfl,h⟩:=h; exact⟨v,rfl,h.mono hs⟩
 lt h:=by obtain⟨v,rfl,h⟩:=h; exact⟨v,rfl,h.lt⟩
 keep h hk hb:=by obtain⟨v,rfl,h⟩:=h; exact⟨v,rfl,h.keep hk hb⟩
def eu (R:jk α) (M:RM) (base el:Nat) (v:AV) (xs:List α) (S:Nat→Prop) : Prop :=
 ∃ cs,Own M base el R.size v cs xs.length∧dw R M S cs xs
theorem eu.nil {base el:Nat} : eu R M base el aC [] S:=⟨[],.nil,.nil⟩
theorem eu.mono {base el:Nat} (h:eu R M base el v xs S) (hs:∀ b,S b→S' b) : eu R M base el v xs S':=let ⟨cs,h1,h2⟩:=h; ⟨cs,h1,h2.mono hs⟩
theorem eu.lt {base el:Nat} (h:eu R M base el v xs S) : eu R M base el v xs (fun b=>S b∧b<M.next):=let ⟨cs,h1,h2⟩:=h; ⟨cs,h1,h2.lt⟩
theorem eu.keep {base el:Nat} {bs:List Nat} (h:eu R M base el v xs S) (hk:ae bs M M') (hb:∀ b∈bs,¬ S b) (hv:∀ b∈aD v,b ∉ bs) : eu R M' base el v xs S :=
 let ⟨cs,h1,h2⟩:=h; ⟨cs,h1.keep hk hv,h2.keep hk hb⟩
theorem eu.len {base el:Nat} (h:eu R M base el v xs S) {K:AV→Prop} : dz v K=K (N .i64 xs.length):=let ⟨cs,h1,_⟩:=h; h1.sD.len
theorem eu.blk {base el:Nat} (h:eu R M base el v xs S) : ∀ b∈aD v,base≤b∧b<M.next:=let ⟨cs,h1,_⟩:=h; h1.blk
theorem eu.Cj {base el:Nat} (h:eu R M base el v xs S) (hs:∀ b,base≤b→b<M.next→S b) : bD R M v xs S :=
 let ⟨cs,h1,h2⟩:=h; ⟨cs,h1.sD,fun b hb=>hs b (h1.blk b hb).1 (h1.blk b hb).2,h2⟩
theorem eu.cells {base el:Nat} (h:eu R M base el v xs S) : v.cells=[v]:=let ⟨cs,h1,_⟩:=h; h1.cells
theorem eu.one {base el:Nat} (h:eu R M base el v xs S) : oneCell v=true:=let ⟨cs,h1,_⟩:=h; h1.one
theorem eu.app {base T bytes:Nat} {zs:List AV} {K:ai} (ho:eu R M base T v xs S) (ha:R.rel M cs a S) (hb:base≤M.next) (hs:1≤R.size)
  (hd:∀ b∈aD v,¬ S b) (hS:∀ b,S b→b<M.next)
  (hn:(xs.length + 1) * bytes≤140737488355328) (hn2:xs.length + 1≤140737488355328)
  (hK:∀ v' M',eu R M' base T v' (xs++[a]) S→ae (aD v) M M'→M.next≤M'.next→(v'=v∨∀ b∈aD v',M.next≤b)→(∀ b∈aD v',¬ S b)→K v' M') :
  appW T R.size bytes zs false v (.slc M.next 0 1 (.ex 1)) (M.push (.row cs false T 0)) K:=by
 obtain⟨ds,h1,h2⟩:=ho
 have hk:ae [] M (M.push (.row cs false T 0)):=(ae.refl _ _).push _
 have hl:=R.len ha
 have hnl:mq (M.push (.row cs false T 0)) R.size zs false (.slc M.next 0 1 (.ex 1))=some (1,cs):=by
  simp only[mq,Nat.one_mul]
  rw[RM.jT (RM.aQ _) (by omega),List.drop_zero,← hl,List.take_length]
 refine BP (h1.keep hk (by simp)) (Nat.le_trans hb hk.next) hs hnl (by rw[hl,Nat.one_mul]) (R.one ha) hn hn2 ?_
 intro v' M' q1 q2 q3 q4
 have kk:ae (aD v) M M':=(hk.mono (by simp)).trans q2
 refine hK v' M' ⟨_,by simpa using q1, ?_⟩ kk (Nat.le_trans hk.next q3) (q4.imp id fun h b hb=>Nat.le_trans hk.next (h b hb)) ?_
 ·exact(h2.keep kk hd).append (dw.single (R.keep ha kk hd))
 ·rcases q4 with rfl | q4
  ·exact hd
  ·intro b hb hSb
   have:=q4 b hb
   have:=hS b hSb
   simp only[RM.push] at *
   omega
end
section
variable {M M' : RM} {b i n e f:Nat} {l:List AV} {p:Bool} {x:AV}
theorem az {K:AV→Prop} (h:M.heap b=some (.row l p e f)) (hx:l[i]?=some x) : ak M (.ptr b i) K=K x:=by
 rw[dZ,RM.cell_of h,hx]; simp
theorem aM {K:AV→Prop} (h:M.heap b=some (.row l p e f)) (hn:l.length=n) : aI M (.ptr b 0) n K=K (.agg l):=by
 rw[qf,RM.QG h]
 have:sG (some l) 0 n=some l:=by simp[sG,← hn]
 rw[this]; simp
theorem AZ {K:RM→Prop} (h:M.heap b=some (.row l p e 0)) (hi:i<l.length) (hc:x.cells=[x]) (h1:oneCell x=true) : aA M (.ptr b i) x 1 K=K (M.put b (.row (l.set i x) p e 0)):=by
 rw[E8,hc,RM.jg h,fO (by simp only[List.length_cons,List.length_nil]; omega) (Nat.zero_le _) (by simp[h1])]
 have:l.take i++[x]++l.drop (i + 1)=l.set i x:=by
  rw[List.set_eq_take_append_cons_drop,if_pos hi]; simp
 simp[this]
theorem bK {K:RM→Prop} (l' : List AV) (h:M.heap b=some (.row l p e 0)) (hi:i<l.length) (hc:x.cells=[x]) (h1:oneCell x=true) (hl:l.set i x=l') : aA M (.ptr b i) x 1 K=K (M.put b (.row l' p e 0)):=by
 rw[AZ h hi hc h1,hl]
theorem aX {K:AV→Prop} : aJ (.ptr b 0) n K=K (.ptr b n):=by rw[gY,Nat.zero_add]
theorem bJ {K:RM→Prop} (h:M.heap b=some (.row l p e 0)) (hn:x.cells.length=n) (hl:l.length=n) (h1:x.cells.all oneCell=true) : aA M (.ptr b 0) x n K=K (M.put b (.row x.cells p e 0)):=by
 rw[E8,RM.jg h,Ia (by rw[hn,hl]) h1]
 simp[hn]
theorem df {c:Nat} {y z:RB} (h:M.heap b=some y) (hb:b≠c) : (M.put c z).heap b=some y:=by
 simp only[RM.put]; rw[if_neg hb]; exact h
theorem ay (y:RB) : (M.put b y).heap b=some y:=RM.jD _ _
theorem rU {y z:RB} (h:M.heap b=some y) (hb:b<M.next) : (M.push z).heap b=some y:=by
 simp only[RM.push]; rw[if_neg (by omega)]; exact h
theorem bF (y:RB) : (M.push y).next=M.next + 1:=rfl
theorem jA (c:Nat) (y:RB) : (M.put c y).next=M.next:=rfl
theorem ae.new {bs:List Nat} (h:ae bs M M') {b:Nat} (y:RB) (hb:M.next≤b) : ae bs M (M'.put b y):=h.put y (.inl hb)
end
variable {M:RM}
theorem bG {a:AV} {l:List AV} {K:AV→Prop} : aG (.tup (a :: l)) 0 K=K a:=by rw[Dr]; simp
theorem bI {a b:AV} {l:List AV} {K:AV→Prop} : aG (.tup (a :: b :: l)) 1 K=K b:=by rw[Dr]; simp
theorem iq {a b c:AV} {l:List AV} {K:AV→Prop} : aG (.tup (a :: b :: c :: l)) 2 K=K c:=by rw[Dr]; simp
theorem eQ {p q:Prop} : au (Bo true) p q=p:=by simp[Kq]
theorem dU {p q:Prop} : au (Bo false) p q=q:=by simp[Kq]
theorem bi {b:Bool} {p q:Prop} (h1:b=true→p) (h2:b=false→q) : au (Bo b) p q:=⟨h1,h2⟩
theorem qh {f g:ai→Prop} {k:ai} : aa (Bo true) true f g k=f k:=rfl
theorem jW {f g:ai→Prop} {k:ai} : aa (Bo false) false f g k=f k:=rfl
theorem gL {f g:ai→Prop} {k:ai} : aa (Bo true) false f g k=g k:=rfl
theorem uK {f g:ai→Prop} {k:ai} : aa (Bo false) true f g k=g k:=rfl
theorem lT {f g:KR→Prop} {k:KR} : aN (Bo true) true f g k=f k:=rfl
theorem nJ {f g:KR→Prop} {k:KR} : aN (Bo false) true f g k=g k:=rfl
theorem gI {a b:AV} {K:AV→Prop} : aB (Bo true) a b K=K a:=by rw[I9]; rfl
theorem iV {a b:AV} {K:AV→Prop} : aB (Bo false) a b K=K b:=by rw[I9]; rfl
theorem dK.known {size:Nat} {v:AV} {cs:List AV} {n:Nat} (h:dK M size v cs n) : known v=true:=by
 cases h <;> rfl
theorem bD.known {α:Type} {R:jk α} {v:AV} {xs:List α} {S:Nat→Prop} (h:bD R M v xs S) : known v=true:=let ⟨_,h1,_,_⟩:=h; h1.known
theorem ic {t:TypeId} {cs:List AV} {K:RB→(Nat→AV)→Prop} (h1:cs.all oneCell=true) (h2:1≤cs.length) : mD t (.agg cs) K=K (.row cs false t 0) (fun b=>.ptr b 0):=by
 unfold mD
 exact propext ⟨fun h=>h.2.2,fun h=>⟨h1,h2,h⟩⟩
def jk.pre {α β:Type} (E:Enc α) (R:jk β) : jk (α × β) where
 size:=E.size + R.size
 rel M cs a S:=∃ ds,cs=E.cells a.1++ds∧R.rel M ds a.2 S
 len h:=by obtain⟨ds,rfl,h⟩:=h; rw[List.length_append,E.len,R.len h]
 one h:=by obtain⟨ds,rfl,h⟩:=h; rw[List.all_append,E.one,R.one h]; rfl
 mono h hs:=by obtain⟨ds,rfl,h⟩:=h; exact⟨ds,rfl,R.mono h hs⟩
 lt h:=by obtain⟨ds,rfl,h⟩:=h; exact⟨ds,rfl,R.lt h⟩
 keep h hk hb:=by obtain⟨ds,rfl,h⟩:=h; exact⟨ds,rfl,R.keep h hk hb⟩
def jk.post {α β:Type} (R:jk α) (E:Enc β) : jk (α × β) where
 size:=R.size + E.size
 rel M cs a S:=∃ ds,cs=ds++E.cells a.2∧R.rel M ds a.1 S
 len h:=by obtain⟨ds,rfl,h⟩:=h; rw[List.length_append,E.len,R.len h]
 one h:=by obtain⟨ds,rfl,h⟩:=h; rw[List.all_append,E.one,R.one h]; rfl
 mono h hs:=by obtain⟨ds,rfl,h⟩:=h; exact⟨ds,rfl,R.mono h hs⟩
 lt h:=by obtain⟨ds,rfl,h⟩:=h; exact⟨ds,rfl,R.lt h⟩
 keep h hk hb:=by obtain⟨ds,rfl,h⟩:=h; exact⟨ds,rfl,R.keep h hk hb⟩
def jk.map {α β:Type} (R:jk α) (g:β→α) : jk β where
 size:=R.size
 rel M cs a S:=R.rel M cs (g a) S
 len h:=R.len h
 one h:=R.one h
 mono h hs:=R.mono h hs
 lt h:=R.lt h
 keep h hk hb:=R.keep h hk hb
end Go.Ab
namespace Go.Ab
open Go Go.RowKit Go.ChangeShapes
section
variable {H:Type} {enc:TypeId × Value→H} {P:Program} {w:World} {base:Nat} {spare:Nat→Bool} {held:Bool}
end
end Go.Ab
set_option maxRecDepth 10000
namespace Go.Ab
open Go Go.ChangeShapes
end Go.Ab
namespace Go.Ab
open Go Go.RowKit
section
variable {P:Program} {f:FuncId} {fn:Func} {w w' : World} {M:RM}
end
end Go.Ab
namespace Go.Ab.Sm
open Go Go.Ab
section
variable {i j:Nat} {K:AV→Prop}
theorem addN (h:i + j<4611686018427387904) : af .add (N .i64 (i:Int)) (N .i64 (j:Int)) K=K (N .i64 ((i + j:Nat) : Int)):=by
 rw[ed,eD (by omega) (by omega),Int.natCast_add]
theorem add1 (h:i<4611686018427387904) : af .add (N .i64 (i:Int)) (N .i64 1) K=K (N .i64 ((i + 1:Nat) : Int)):=by
 rw[ed,lG (by omega)]
theorem UQ (h:j≤i) (hb:i<4611686018427387904) : af .sub (N .i64 (i:Int)) (N .i64 (j:Int)) K=K (N .i64 ((i - j:Nat) : Int)):=by
 rw[lN,eD (by omega) (by omega),show(i:Int) - (j:Int)=((i - j:Nat) : Int) by omega]
theorem kU:af .lss (N .i64 (i:Int)) (N .i64 (j:Int)) K=K (Bo (decide (i<j))):=by rw[lM,show decide ((i:Int)<(j:Int))=decide (i<j) by simp]
theorem Gp:af .gtr (N .i64 (i:Int)) (N .i64 (j:Int)) K=K (Bo (decide (i > j))):=by rw[uf,show decide ((i:Int) > (j:Int))=decide (i > j) by simp]
theorem MZ:af .leq (N .i64 (i:Int)) (N .i64 (j:Int)) K=K (Bo (decide (i≤j))):=by rw[mX,show decide ((i:Int)≤(j:Int))=decide (i≤j) by simp]
theorem Xf:af .eql (N .i64 (i:Int)) (N .i64 (j:Int)) K=K (Bo (decide (i=j))):=by
 rw[bR,show((i:Int) == (j:Int))=decide (i=j) by by_cases h:i=j <;> simp[h]; omega]
end
section
variable {M:RM} {c p:Bool} {f:ai→Prop} {P:RM→Prop} {G:AV→RM→Prop}
theorem jH (hf:c=true→∀ k:ai,k (Bo p) M→f k) (hG:G (Bo (c && p)) M) :
  aa (Bo c) true f (fun k=>k .undef M) (fun t M'=>aB (Bo c) t (Bo false) fun u=>G u M'):=by
 cases c with
 | false=>rw[uK]; dsimp only; rw[iV]; exact hG
 | true=>rw[qh]; exact hf rfl _ (by rw[gI]; exact hG)
theorem qN (hf:c=false→∀ k:ai,k (Bo p) M→f k) (hG:G (Bo (c || p)) M) :
  aa (Bo c) false f (fun k=>k .undef M) (fun t M'=>aB (Bo c) (Bo true) t fun u=>G u M'):=by
 cases c with
 | true=>rw[gL]; dsimp only; rw[gI]; exact hG
 | false=>rw[jW]; exact hf rfl _ (by rw[iV]; exact hG)
theorem IG (h0:P M) (hf:c=true→∀ k:ai,(∀ M',P M'→k (Bo p) M')→f k) (hG:∀ M',P M'→G (Bo (c && p)) M') :
  aa (Bo c) true f (fun k=>k .undef M) (fun t M'=>aB (Bo c) t (Bo false) fun u=>G u M'):=by
 cases c with
 | false=>rw[uK]; dsimp only; rw[iV]; exact hG M h0
 | true=>rw[qh]; exact hf rfl _ fun M' h=>by rw[gI]; exact hG M' h
theorem Oe (h0:P M) (hf:c=false→∀ k:ai,(∀ M',P M'→k (Bo p) M')→f k) (hG:∀ M',P M'→G (Bo (c || p)) M') :
  aa (Bo c) false f (fun k=>k .undef M) (fun t M'=>aB (Bo c) (Bo true) t fun u=>G u M'):=by
 cases c with
 | true=>rw[gL]; dsimp only; rw[gI]; exact hG M h0
 | false=>rw[jW]; exact hf rfl _ fun M' h=>by rw[iV]; exact hG M' h
end
section
variable {M:RM} {c p:Bool} {f:KR→Prop} {G:AV→RM→Prop}
end
theorem Xz {a:Int} {K:AV→Prop} : af .neq (N .i64 a) (N .i64 a) K=K (Bo false):=by rw[fP,bne_self_eq_false]
theorem OV {α:Type} {E:Enc α} {M:RM} {T:Nat} {v:AV} {xs:List α} (h:Ow E M 0 T v xs) (hi:0<xs.length) : ∃ b,v=.slc b 0 xs.length (.op E.size)∧b<M.next∧M.heap b=some (.row (E.row xs) true T 0):=by
 unfold Ow at h
 generalize xs.length=n at *
 generalize E.row xs=cs at *
 cases h with
 | nil=>omega
 | ex0 b o h1 h2 h3=>omega
 | op b n cs h1 h2 h3 h4=>exact⟨b,rfl,h2,h3⟩
theorem QE {α:Type} {E:Enc α} (hs:E.size=1) {M:RM} {T:Nat} {v:AV} {xs:List α} (h:Ow E M 0 T v xs) {i:Nat} (hi:i<xs.length) : ∃ b,aD v=[b]∧b<M.next ∧
  (∀ (K:AV→Prop),bg v (N .i64 (i:Int)) 1 K=K (.ptr b i))∧(∀ x,E.cells xs[i]=[x]→∀ K:AV→Prop,ak M (.ptr b i) K=K x) ∧
  ∀ (a:α) (x:AV),E.cells a=[x]→x.cells=[x]→∃ M',Ow E M' 0 T v (xs.set i a)∧M'=M.put b (.row (E.row (xs.set i a)) true T 0)∧∀ K:RM→Prop,aA M (.ptr b i) x 1 K=K M':=by
 obtain⟨b,rfl,h2,h3⟩:=OV h (by omega)
 rw[hs]
 have hlen:(E.row xs).length=xs.length:=by rw[E.fu,hs,Nat.mul_one]
 have hget:∀ x,E.cells xs[i]=[x]→(E.row xs)[i]?=some x:=by
  intro x hx
  have:=E.vQ hi
  rw[hs,Nat.mul_one,hx] at this
  have h2:=congrArg (fun l:List AV=>l[0]?) this
  simpa using h2
 have hset:∀ (a:α) (x:AV),E.cells a=[x]→(E.row xs).set i x=E.row (xs.set i a):=by
  intro a x hx
  apply List.ext_getElem?
  intro j
  have hl2:(E.row (xs.set i a)).length=xs.length:=by rw[E.fu,hs,Nat.mul_one,List.length_set]
  by_cases hj:j<xs.length
  ·have hj2:j<(xs.set i a).length:=by rw[List.length_set]; exact hj
   have e1:=E.vQ (xs:=xs.set i a) hj2
   rw[hs,Nat.mul_one] at e1
   have e2:=E.vQ (xs:=xs) hj
   rw[hs,Nat.mul_one] at e2
   have e1:=congrArg (fun l:List AV=>l[0]?) e1
   have e2:=congrArg (fun l:List AV=>l[0]?) e2
   simp only[List.getElem?_take,List.getElem?_drop,Nat.zero_lt_one,if_true,Nat.add_zero] at e1 e2
   rw[e1]
   by_cases hji:j=i
   ·subst hji
    rw[List.getElem?_set_self (by omega)]
    simp[hx]
   ·rw[List.getElem?_set_ne (fun e=>hji e.symm),e2]
    rw[List.getElem_set_ne (fun e=>hji e.symm)]
  ·rw[List.getElem?_eq_none (by rw[List.length_set]; omega),List.getElem?_eq_none (by omega)]
 refine⟨b,rfl,h2,fun K=>?_,fun x hx K=>az h3 (hget x hx),fun a x hx hc=>?_⟩
 ·rw[De]
  simp only[Int.toNat_natCast,Nat.mul_one,Nat.zero_add]
  exact propext ⟨fun h=>h.2.2,fun h=>⟨by omega,by omega,h⟩⟩
 ·have h1x:oneCell x=true:=by
   have:=E.one a
   rw[hx] at this
   simpa using this
  refine⟨_, ?_,rfl,fun K=>bK (l':=E.row (xs.set i a)) h3 (by omega) hc h1x (hset a x hx)⟩
  have hl3:(xs.set i a).length=xs.length:=List.length_set
  show Own _ 0 T E.size (.slc b 0 xs.length (.op 1)) _ _
  rw[hs,hl3]
  exact .op b xs.length _ (Nat.zero_le _) h2 (ay _) (by rw[E.fu,hs,hl3])
end Go.Ab.Sm
namespace Go.Ab
open Go Go.RowKit
inductive jI (B:Nat) (P:Program) (M:RM) : TypeId→List AV→Prop
 | bool (t:TypeId) (b:Bool) : P.underlying t=some .bool→jI B P M t [Bo b]
 | int (t:TypeId) (k:IntKind) (n:Int) : P.underlying t=some (.int k)→k.min≤n→n≤k.max→jI B P M t [N k n]
 | str (t:TypeId) (s:List UInt8) : P.underlying t=some .string→s.length≤B→jI B P M t [St s]
 | Xe (t e:TypeId) : P.underlying t=some (.slice e)→jI B P M t [aC]
 | emp (t e:TypeId) (b:Nat) : P.underlying t=some (.slice e)→jI B P M t [.emp b]
 | slc (t e:TypeId) (b o n c:Nat) (cs:List AV) : P.underlying t=some (.slice e)→b<M.next→n≤c→n≤B→M.loads b o (n * P.cellsOf e)=some cs →
   (∀ i,i<n→jI B P M e ((cs.drop (i * P.cellsOf e)).take (P.cellsOf e)))→jI B P M t [.slc b o n (.ex c)]
 | struct (t:TypeId) (fs:Array Field) (cs:List AV) : P.underlying t=some (.struct fs)→cs.length=P.cellsOf t →
   (∀ (i:Nat) (f:Field),fs[i]?=some f→jI B P M f.type ((cs.drop f.offset).take (P.cellsOf f.type)))→jI B P M t cs
 | array (t e:TypeId) (n:Nat) (cs:List AV) : P.underlying t=some (.array n e)→cs.length=P.cellsOf t →
   (∀ i,i<n→jI B P M e ((cs.drop (i * P.cellsOf e)).take (P.cellsOf e)))→jI B P M t cs
 | other (t:TypeId) (cs:List AV) : PK (P.underlying t)=true→jI B P M t cs
 | zero (t e:TypeId) (cs:List AV) : P.underlying t=some (.slice e)→P.cellsOf e=0→jI B P M t cs
section
variable {H:Type} {enc:TypeId × Value→H} {P:Program} {base:Base} {w:World}
variable {bulk:DataW H→Nat} {B:Nat}
structure Ya (bulk:DataW H→Nat) : Prop where
 str:∀ bs:List UInt8,bs.length≤bulk (.lit (.string bs))
 len:∀ es sp:List (DataW H),es.length≤bulk (.slice es sp)
 elem:∀ (es sp:List (DataW H)) d,d∈es→bulk d≤bulk (.slice es sp)
 spare:∀ (es sp:List (DataW H)) d,d∈sp→bulk d≤bulk (.slice es sp)
 agg:∀ (ps:List (DataW H)) d,d∈ps→bulk d≤bulk (.agg ps)
end
section
variable {P:Program} {M:RM} {t:TypeId} {cs:List AV} {B:Nat}
def Rx:AV→Prop
 | .slc _ _ n (.ex c)=>n≤c
 | .slc _ _ _ (.op e)=>e=1
 | _=>True
end
def JO (B:Nat) (P:Program) (M:RM) (t:TypeId) (v:AV) : Prop :=
 match Ko P t with
 | true=>∃ cs,v=.agg cs∧jI B P M t cs
 | false=>jI B P M t [v]
theorem JO.one {B:Nat} {P:Program} {M:RM} {t:TypeId} {v:AV} (h:JO B P M t v) (ha:Ko P t=false) : jI B P M t [v]:=by
 unfold JO at h; rw[ha] at h; exact h
section
variable {H:Type} {enc:TypeId × Value→H} {P:Program} {base:Base} {w:World} {bulk:DataW H→Nat} {B:Nat}
end
section
variable {P:Program} {ρ:Ren} {M:RM} {w w' : World}
end
end Go.Ab
namespace Go.Ab.Sha
open Go Go.Ab
abbrev Str:=List UInt8
structure Bs (M:RM) (v:AV) (b:Str) : Prop where
 sl:Sl BY M v b
 cap:Rx v
theorem Bs.keep {M M' : RM} {v:AV} {b:Str} {bs:List Nat} (h:Bs M v b) (k:ae bs M M') (hb:∀ x∈aD v,x ∉ bs) : Bs M' v b:=⟨dK.keep h.sl k hb,h.cap⟩
theorem Bs.len {M:RM} {v:AV} {b:Str} (h:Bs M v b) {K:AV→Prop} : dz v K=K (N .i64 (b.length:Int)):=dK.len h.sl
theorem Tn {M:RM} {base T n:Nat} {v:AV} {cs:List AV} (h:Own M base T 1 v cs n) : Rx v:=by
 cases h with
 | nil=>trivial
 | ex0 b o _ _ _=>exact Nat.le_refl _
 | op b n cs _ _ _ _=>rfl
theorem Bs.own {M:RM} {base T:Nat} {v:AV} {b:Str} (h:Ow BY M base T v b) : Bs M v b:=⟨Own.sD h,Tn h⟩
theorem Ef {M:RM} {b o n:Nat} {x:Str} (h:M.loads b o (n * 1)=some (BY.row x)) {l u:Nat} (h1:l≤u) (h2:u≤n) : M.loads b (o + l * 1) ((u - l) * 1)=some (BY.row ((x.drop l).take (u - l))):=by
 have:=uz h (l * 1) ((u - l) * 1) (by omega)
 rw[this]
 congr 1
 have e1:=BY.xC x l
 have e2:=BY.Du (x.drop l) (u - l)
 rw[show l * 1=l * BY.size from rfl,e1,show(u - l) * 1=(u - l) * BY.size from rfl,e2]
theorem Bs.sub {M:RM} {v:AV} {b:Str} (h:Bs M v b) {lo hi:Option AV} {l u:Nat} (e1:bnd 0 lo=some l) (e2:bnd b.length hi=some u) (h1:l≤u) (h2:u≤b.length) {K:AV→Prop}
  (hK:∀ v',Bs M v' ((b.drop l).take (u - l))→(∀ x∈aD v',x∈aD v)→K v') : bL (jy 1 v lo hi none) K:=by
 obtain⟨hs,hc⟩:=h
 have hlen:((b.drop l).take (u - l)).length=u - l:=by simp; omega
 have zero:u=l→∀ {w:AV},dK M 1 w [] 0→Sl BY M w ((b.drop l).take (u - l)):=by
  intro e w hw
  subst e
  rw[Nat.sub_self,List.take_zero]
  exact hw
 unfold Sl at hs
 generalize hn:b.length=n at *
 generalize hcs:BY.row b=cs at *
 cases hs with
 | nil =>
   have l0:l=0:=by omega
   have u0:u=0:=by omega
   subst l0 u0
   exact⟨aC,by simp only[jy,aC,e1,e2],hK _ ⟨zero rfl .nil,trivial⟩ (fun x hx=>hx)⟩
 | emp b0 =>
   have l0:l=0:=by omega
   have u0:u=0:=by omega
   subst l0 u0
   exact⟨.emp b0,by simp only[jy,e1,e2],hK _ ⟨zero rfl (.emp _),trivial⟩ (fun x hx=>hx)⟩
 | slc b0 o _ cap cs hb hl =>
   subst hcs
   have hl':=Ef hl h1 h2
   have whole:∀ cap',Rx (.slc b0 (o + l * 1) (u - l) cap')→(Bs M (.slc b0 (o + l * 1) (u - l) cap') ((b.drop l).take (u - l))):=fun cap' hcap=>⟨by
    unfold Sl; rw[hlen]; exact .slc _ _ _ _ _ hb hl',hcap⟩
   cases cap with
   | ex c =>
     have hcn:n≤c:=hc
     by_cases e:c=l
     ·subst e
      have hu:u=c:=by omega
      subst hu
      refine⟨.slc b0 o 0 (.ex 0),by simp only[jy,e1,e2]; rw[if_pos ⟨Nat.le_refl _,Nat.le_refl _⟩]; simp,hK _ ⟨zero rfl (.slc _ _ _ _ _ hb ?_),Nat.le_refl _⟩ (fun x hx=>hx)⟩
      have:=Ef hl (Nat.le_refl 0) (Nat.zero_le n)
      simpa [BY,Enc.row] using this
     ·exact⟨_,by simp only[jy,e1,e2]; rw[if_pos ⟨h1,by omega⟩,if_neg e],hK _ (whole _ (by show u - l≤c - l; omega)) (fun x hx=>hx)⟩
   | op esz =>
     have he:esz=1:=hc
     subst he
     by_cases e:n≤l
     ·have hu:u=l:=by omega
      exact⟨.emp b0,by simp only[jy,e1,e2]; simp[h1,h2,e],hK _ ⟨zero hu (.emp _),trivial⟩ (fun x hx=>by simp[aD] at hx)⟩
     ·exact⟨_,by simp only[jy,e1,e2]; simp only[and_true]; rw[if_pos ⟨h1,h2⟩,if_neg e],hK _ (whole (.op 1) rfl) (fun x hx=>hx)⟩
theorem IK (d n:Nat) (k:IntKind) : bnd d (some (N k (n:Int)))=some n:=by simp[bnd]
theorem W9 (d:Nat) : bnd d none=some d:=rfl
theorem ae.own {bs:List Nat} {M M1 M2:RM} {v:AV} (k1:ae bs M M1) (k2:ae (aD v) M1 M2) (hv:∀ b∈aD v,M.next≤b) : ae bs M M2 :=
 ⟨k2.base.trans k1.base,Nat.le_trans k1.next k2.next,fun x hx hb=>by
  rw[k2.heap x (Nat.lt_of_lt_of_le hx k1.next) (fun h=>by have:=hv x h; omega),k1.heap x hx hb]⟩
theorem Ac {M:RM} {b n:Nat} {l cs:List AV} {p:Bool} {e:Nat} {K:RM→Prop} (h:M.heap b=some (.row l p e 0)) (hn:cs.length=n) (hl:l.length=n) (h1:cs.all oneCell=true) :
  aA M (.ptr b 0) (.agg cs) n K=K (M.put b (.row cs p e 0)):=bJ (x:=.agg cs) h hn hl h1
theorem Bs.lt {M:RM} {v:AV} {b:Str} (h:Bs M v b) : ∀ x∈aD v,x<M.next:=dK.lt h.sl
theorem tN (s:Str) : (BY.row s).length=s.length:=by rw[Enc.fu]; simp[BY]
theorem Bs.read {M:RM} {v:AV} {b:Str} (h:Bs M v b) {i:Nat} (hi:i<b.length) {K:AV→Prop} : (bg v (N .i64 (i:Int)) 1 fun t=>ak M t K)=K (By b[i]):=by
 obtain⟨c,o,_,_,hix,hld⟩:=h.sl.Sg (i:Int) hi
 rw[hix,dZ,hld _ rfl]
 exact propext ⟨fun⟨v,e,k⟩=>by cases e; exact k,fun k=>⟨_,rfl,k⟩⟩
theorem RG {T:Nat} {M:RM} {z cs:List AV} {K:AV→RM→Prop} (n:Nat) (hz:z.length=n) (hc:cs.length=n) (h1:cs.all oneCell=true)
  (hK:∀ M',ae [] M M'→M'.heap M.next=some (.row cs false T 0)→M.next<M'.next→K (.ptr M.next 0) M') :
  aU (.row z false T 0) (fun b=>.ptr b 0) M fun t M1=>aA M1 t (.agg cs) n fun M2=>K t M2:=by
 simp only[aF]
 have n1:(M.push (.row z false T 0)).heap M.next=some (.row z false T 0):=by simp[RM.push]
 rw[Ac n1 hc hz h1]
 exact hK _ (((ae.refl _ _).push _).new _ (Nat.le_refl _)) (ay _) (by simp[RM.push,RM.put])
def BJ (f:(List AV→RM→Prop)→Prop) (g:List AV→RM→Prop) : Prop:=f g
theorem dI (f:(List AV→RM→Prop)→Prop) (g:List AV→RM→Prop) : bY f g=BJ f g:=rfl
theorem bN {H:(List AV→RM→Prop)→Prop} {G:List AV→RM→Prop} (P:List AV→RM→Prop) (hT:∀ xs M,P xs M→G xs M)
  (hH:∀ J:List AV→RM→Prop,(∀ xs M,P xs M→J xs M)→H J) : BJ H G:=hH G hT
theorem BO {s:List UInt8} {i:Nat} (hi:i<s.length) (kd:IntKind) (K:AV→Prop) : di (St s) (N kd (i:Int)) K=K (By s[i]):=by
 rw[LZ]
 apply propext
 constructor
 ·rintro⟨_,b,hb,hk⟩
  rw[Int.toNat_natCast,List.getElem?_eq_getElem hi] at hb
  cases hb; exact hk
 ·intro hk; exact⟨by omega,s[i],by rw[Int.toNat_natCast,List.getElem?_eq_getElem hi],hk⟩
theorem nu {k:IntKind} {a:Int} {K:AV→Prop} : ER (N k a) K=K (N k (zW k (if k.signed then -1 else k.max) a)):=by
 apply propext; unfold ER
 constructor
 ·rintro⟨k',a',h1,hk⟩; cases h1; exact hk
 ·intro hk; exact⟨k,a,rfl,hk⟩
end Go.Ab.Sha
set_option maxRecDepth 100000
namespace Go.Ab.Vl
open Go Go.Ab
def ny (p1:Nat) (p2 p3 p4:aj) (a0:AV) (M0:RM) (Q:ai) : Prop:=aU (.row [(.sc (.pointer none)),(.sc (.slice none 0 0))] false p1 0) (fun L=>.ptr L 0) M0 fun l C=>bz (fun ve i j=>aP a0 fun wb=>af .lss (ag i 0) wb fun wc=>au wc ( bY (fun m=>di a0 (ag i 0) fun vg=>af .neq vg (N .u8 92) fun vh=>au vh ( di a0 (ag i 0) fun vi=>p2 [l,vi] j fun we D=>m [(ag i 0)] D) ( af .add (ag i 0) (N .i64 1) fun d=>aP a0 fun vj=>af .lss d vj fun e=>aa e true (fun c=>c a0 j) (fun c=>c .undef j) fun vk t=>aa e true (fun Y=>Y d t) (fun c=>c .undef t) fun vl z=>aa e true (fun vc=>di vk vl fun vm=>vc vm z) (fun c=>c .undef z) fun vn B=>aa e true (fun vd=>af .eql vn (N .u8 110) fun vo=>vd vo B) (fun c=>c .undef B) fun vp o=>aa e true (fun O=>O vp o) (fun c=>c .undef o) fun h p=>aa h false (fun P=>P a0 p) (fun c=>c .undef p) fun vq q=>aa h false (fun R=>R d q) (fun c=>c .undef q) fun vr r=>aa h false (fun S=>di vq vr fun vs=>S vs r) (fun c=>c .undef r) fun vt s=>aa h false (fun U=>af .eql vt (N .u8 78) fun vu=>U vu s) (fun c=>c .undef s) fun vv u=>aa e true (fun V=>aB h (Bo true) vv fun vw=>V vw u) (fun c=>c .undef u) fun vx n=>aB e vx (Bo false) fun vy=>au vy ( p2 [l,(N .u8 10)] n fun wf E=>m [d] E) ( aP a0 fun vz=>af .lss d vz fun g=>aa g true (fun W=>W a0 n) (fun c=>c .undef n) fun v0 v=>aa g true (fun X=>X d v) (fun c=>c .undef v) fun v1 w=>aa g true (fun Z=>di v0 v1 fun v2=>Z v2 w) (fun c=>c .undef w) fun v3 x=>aa g true (fun va=>p3 [(St [92,44,59,58]),v3] x fun v4 F=>va v4 F) (fun c=>c .undef x) fun v5 y=>aa g true (fun vb=>af .geq v5 (N .i64 0) fun v6=>vb v6 y) (fun c=>c .undef y) fun v7 A=>aB g v7 (Bo false) fun v8=>au v8 ( di a0 d fun v9=>p2 [l,v9] A fun wg G=>m [d] G) ( Q (.tup [(St []),(N .i64 14)]) A)))) (fun wd H=>af .add (ag wd 0) (N .i64 1) fun vf=>ve [vf] H)) ( p4 [l] j fun wa I=>Q (.tup [wa,(N .i64 0)]) I)) [(N .i64 0)] C
def qJ (p1:Nat) (p2 p3 p4:aj) (a0:AV) (M0:RM) (Q:ai) : Prop:=mD p1 a0 fun l j=>aU l j M0 fun g d=>aI d g 5 fun q=>p2 [q] d fun r c=>eB r fun s=>au s ( Q (.tup [(St []),(N .i64 1)]) c) ( aI c g 5 fun t=>p3 [t] c fun h e=>aP h fun m=>af .gtr m (N .i64 912) fun n=>au n ( Q (.tup [(St []),(N .i64 2)]) e) ( p4 [h] e fun o i=>aY .add o (St [13,10]) fun p=>Q (.tup [p,(N .i64 0)]) i))
def ul (p1 p2:aj) (p3:Nat) (a0:AV) (M0:RM) (Q:ai) : Prop:=p1 [a0] M0 fun m p=>aG m 0 fun n=>aG m 1 fun h=>dz n fun z=>bz (fun x c d=>af .lss (ag c 1) z fun A=>au A ( bY (fun j=>bg n (ag c 1) 1 fun B=>ak d B fun i=>aY .eql i (St []) fun C=>au C ( j [(ag c 0)] d) ( aP i fun D=>af .gtr D (N .i64 912) fun E=>au E ( bg h (ag c 1) 1 fun F=>ak d F fun G=>Q (.tup [(.sc (.slice none 0 0)),G,(N .i64 2)]) d) ( p2 [i] d fun o q=>aG o 0 fun H=>aG o 1 fun I=>aU (.row [(St []),(St []),(.sc (.slice none 0 0)),(St []),(N .i64 0)] false p3 0) (fun v=>.ptr v 0) q fun g r=>aA r g H 5 fun e=>eB I fun L=>au L ( bg h (ag c 1) 1 fun O=>ak e O fun P=>Q (.tup [(.sc (.slice none 0 0)),P,(N .i64 3)]) e) ( bg h (ag c 1) 1 fun R=>ak e R fun S=>aJ g 4 fun U=>aA e U S 1 fun l=>aI l g 5 fun V=>dV p3 1 [(St []),(St []),(.sc (.slice none 0 0)),(St []),(N .i64 0)] [(0,5,V)] fun y w=>aU y w l fun W s=>appW p3 5 80 [(St []),(St []),(.sc (.slice none 0 0)),(St []),(N .i64 0)] false (ag c 0) W s fun X t=>j [X] t)))) (fun Z u=>af .add (ag c 1) (N .i64 1) fun Y=>x [(ag Z 0),Y] u)) ( Q (.tup [(ag c 0),(N .i64 0),(N .i64 0)]) d)) [(.sc (.slice none 0 0)),(N .i64 0)] p
def oU (p1 p2:aj) (p3 p4:Nat) (a0:AV) (M0:RM) (Q:ai) : Prop:=bz (fun vc d p=>aY .neq (ag d 0) (St []) fun vf=>au vf ( bY (fun n=>p1 [(ag d 0),(St [10])] p fun j q=>aG j 0 fun B=>aG j 1 fun C=>aG j 2 fun vh=>bY (fun o=>au vh ( p2 [B,(St [13])] q fun vi E=>o [vi] E) ( o [B] q)) (fun g y=>dz (ag d 1) fun vj=>af .gtr vj (N .i64 0) fun l=>aa l true (fun c=>c (ag g 0) y) (fun c=>c .undef y) fun vk z=>aa l true (fun va=>aY .neq vk (St []) fun vl=>va vl z) (fun c=>c .undef z) fun vm A=>aB l vm (Bo false) fun e=>aa e true (fun vb=>vb (ag g 0) A) (fun c=>c .undef A) fun vn r=>aa e true (fun S=>di vn (N .i64 0) fun vo=>S vo r) (fun c=>c .undef r) fun vp s=>aa e true (fun U=>af .eql vp (N .u8 32) fun vq=>U vq s) (fun c=>c .undef s) fun vr t=>aa e true (fun V=>V vr t) (fun c=>c .undef t) fun h u=>aa h false (fun W=>W (ag g 0) u) (fun c=>c .undef u) fun vs v=>aa h false (fun X=>di vs (N .i64 0) fun vt=>X vt v) (fun c=>c .undef v) fun vu w=>aa h false (fun Y=>af .eql vu (N .u8 9) fun vv=>Y vv w) (fun c=>c .undef w) fun vw x=>aa e true (fun Z=>aB h (Bo true) vw fun vx=>Z vx x) (fun c=>c .undef x) fun vy i=>aB e vy (Bo false) fun vz=>au vz ( dz (ag d 1) fun v0=>af .sub v0 (N .i64 1) fun D=>bg (ag d 1) D 1 fun v1=>ak i v1 fun v2=>bL (aS (ag g 0) (some (N .i64 1)) none) fun v3=>aY .add v2 v3 fun v4=>bg (ag d 1) D 1 fun v5=>aA i v5 v4 1 fun F=>n [C,(ag d 1),(ag d 2)] F) ( dV p3 1 [(St [])] [(0,1,(ag g 0))] fun vd P=>aU vd P i fun v6 G=>appW p3 1 16 [(St [])] false (ag d 1) v6 G fun v7 H=>dV p4 1 [(N .i64 0)] [(0,1,(ag d 3))] fun ve R=>aU ve R H fun v8 I=>appW p4 1 8 [(N .i64 0)] false (ag d 2) v8 I fun v9 L=>n [C,v7,v9] L))) (fun m O=>af .add (ag d 3) (N .i64 1) fun vg=>vc [(ag m 0),(ag m 1),(ag m 2),vg] O)) ( Q (.tup [(ag d 1),(ag d 2)]) p)) [a0,(.sc (.slice none 0 0)),(.sc (.slice none 0 0)),(N .i64 1)] M0
def sQ (p1:Nat) (p2 p3 p4:aj) (a0:AV) (M0:RM) (Q:ai) : Prop:=aU (.row [(.sc (.pointer none)),(.sc (.slice none 0 0))] false p1 0) (fun q=>.ptr q 0) M0 fun d l=>bz (fun r c g=>aY .neq (ag c 0) (St []) fun v=>au v ( p2 [(ag c 0),(ag c 1)] g fun i m=>bL (aS (ag c 0) none (some i)) fun s=>p3 [d,s] m fun w h=>bL (aS (ag c 0) (some i) none) fun j=>bY (fun e=>aY .neq j (St []) fun t=>au t ( p3 [d,(St [13,10,32])] h fun x n=>e [] n) ( e [] h)) (fun y o=>r [j,(N .i64 74)] o)) ( p4 [d] g fun u p=>Q u p)) [a0,(N .i64 75)] l
def pF (p1 p2:Nat) (p3 p4 p5:aj) (a0:AV) (M0:RM) (Q:ai) : Prop:=aU (.row [(.sc (.pointer none)),(.sc (.slice none 0 0))] false p1 0) (fun w=>.ptr w 0) M0 fun e o=>qi p2 a0 fun z x=>aU z x o fun n p=>dz n fun G=>bz (fun y j d=>af .lss (ag j 0) G fun A=>au A ( bY (fun g=>bg n (ag j 0) 1 fun B=>ak d B fun c=>bY (fun h=>af .eql c (N .u8 92) fun l=>au l ( h [l] d) ( af .eql c (N .u8 44) fun m=>au m ( h [m] d) ( af .eql c (N .u8 59) fun C=>h [C] d))) (fun H i=>au (ag H 0) ( p3 [e,(N .u8 92)] i fun L s=>p3 [e,c] s fun O t=>g [] t) ( af .eql c (N .u8 10) fun D=>au D ( p4 [e,(St [92,110])] i fun P u=>g [] u) ( p3 [e,c] i fun I v=>g [] v)))) (fun R q=>af .add (ag j 0) (N .i64 1) fun E=>y [E] q)) ( p5 [e] d fun F r=>Q F r)) [(N .i64 0)] p
def dN (p1:aj) (p2:Nat) (a0 a1:AV) (M0:RM) (Q:ai) : Prop:=p1 [a0] M0 fun r c=>mE a0 fun q=>aJ q 1 fun j=>ak c j fun l=>dV p2 1 [(N .u8 0)] [(0,1,a1)] fun i h=>aU i h c fun m d=>appW p2 1 1 [(N .u8 0)] false l m d fun n e=>mE a0 fun o=>aJ o 1 fun p=>aA e p n 1 fun g=>Q (.sc .nilIface) g
def oF (p1:aj) (a0 a1:AV) (M0:RM) (Q:ai) : Prop:=p1 [a0,a1] M0 fun d c=>Q d c
def iN (p1:Nat) (a0:AV) (M0:RM) (Q:ai) : Prop:=mE a0 fun i=>aJ i 1 fun j=>ak M0 j fun l=>Ah l fun m=>mE a0 fun n=>aJ n 1 fun d=>ak M0 d fun e=>dz e fun g=>RJ p1 m g M0 fun h c=>Q h c
def sJ (p1:Nat) (p2 p3:aj) (p4:Nat) (p5:aj) (p6:Nat) (a0:AV) (M0:RM) (Q:ai) : Prop:=mD p1 a0 fun vr X=>aU vr X M0 fun d m=>aJ d 0 fun w3=>ak m w3 fun w4=>aY .neq w4 (St []) fun i=>aa i true (fun c=>aJ d 0 fun w5=>c w5 m) (fun c=>c .undef m) fun w6 n=>aa i true (fun vb=>ak n w6 fun vs=>vb vs n) (fun c=>c .undef n) fun vt B=>aa i true (fun vk=>p2 [vt] B fun vu U=>vk vu U) (fun c=>c .undef B) fun vv L=>aa i true (fun vp=>eB vv fun vw=>vp vw L) (fun c=>c .undef L) fun vx v=>aB i vx (Bo false) fun e=>aa e false (fun Y=>aJ d 1 fun vy=>Y vy v) (fun c=>c .undef v) fun vz o=>aa e false (fun Z=>ak o vz fun v0=>Z v0 o) (fun c=>c .undef o) fun v1 w=>aa e false (fun va=>p2 [v1] w fun v2 P=>va v2 P) (fun c=>c .undef w) fun v3 x=>aa e false (fun vc=>eB v3 fun v4=>vc v4 x) (fun c=>c .undef x) fun v5 y=>aB e (Bo true) v5 fun g=>aa g false (fun vd=>aJ d 3 fun v6=>vd v6 y) (fun c=>c .undef y) fun v7 p=>aa g false (fun ve=>ak p v7 fun v8=>ve v8 p) (fun c=>c .undef p) fun v9 z=>aa g false (fun vf=>p3 [v9,(St [])] z fun wa R=>vf wa R) (fun c=>c .undef z) fun wb A=>aa g false (fun vg=>eB wb fun wc=>vg wc A) (fun c=>c .undef A) fun wd q=>aB g (Bo true) wd fun we=>au we ( Q (Bo false) q) ( aJ d 2 fun wf=>ak q wf fun O=>dz O fun wg=>bz (fun vq u r=>af .lss (ag u 0) wg fun wh=>au wh ( bg O (ag u 0) 2 fun wi=>aI r wi 2 fun wj=>aU (.row [(St []),(.sc (.slice none 0 0))] false p4 0) (fun W=>.ptr W 0) r fun j S=>aA S j wj 2 fun C=>aJ j 0 fun wk=>ak C wk fun wl=>p2 [wl] C fun wm D=>eB wm fun h=>aa h false (fun vh=>aJ j 1 fun wn=>vh wn D) (fun c=>c .undef D) fun wo s=>aa h false (fun vi=>ak s wo fun wp=>vi wp s) (fun c=>c .undef s) fun wq E=>aa h false (fun vj=>dz wq fun wr=>vj wr E) (fun c=>c .undef E) fun ws F=>aa h false (fun vl=>af .eql ws (N .i64 0) fun wt=>vl wt F) (fun c=>c .undef F) fun wu G=>aB h (Bo true) wu fun l=>aa l false (fun vm=>aJ j 1 fun wv=>vm wv G) (fun c=>c .undef G) fun ww t=>aa l false (fun vn=>ak t ww fun wx=>vn wx t) (fun c=>c .undef t) fun wy H=>aa l false (fun vo=>p5 [wy,(.fn (.func p6) [] [])] H fun wz V=>vo wz V) (fun c=>c .undef H) fun w0 I=>aB l (Bo true) w0 fun w1=>au w1 ( Q (Bo false) I) ( af .add (ag u 0) (N .i64 1) fun w2=>vq [w2] I)) ( Q (Bo true) r)) [(N .i64 0)] q)
def ug (p1 p2:Nat) (p3 p4:aj) (p5:Nat) (p6 p7 p8:aj) (a0:AV) (M0:RM) (Q:ai) : Prop:=mD p1 a0 fun V R=>aU V R M0 fun d C=>aU (.row [(.sc (.pointer none)),(.sc (.slice none 0 0))] false p2 0) (fun j=>.ptr j 0) C fun c e=>bY (fun o=>aJ d 0 fun v1=>ak e v1 fun v2=>aY .neq v2 (St []) fun W=>au W ( aJ d 0 fun X=>ak e X fun Y=>aY .add Y (St [46]) fun Z=>p3 [c,Z] e fun v4 D=>o [] D) ( o [] e)) (fun v9 s=>aJ d 1 fun va=>ak s va fun vb=>p4 [vb] s fun vc L=>p3 [c,vc] L fun v5 v=>aJ d 2 fun vd=>ak v vd fun x=>dz x fun ve=>bz (fun S n h=>af .lss (ag n 0) ve fun vf=>au vf ( bg x (ag n 0) 2 fun vg=>aI h vg 2 fun vh=>aU (.row [(St []),(.sc (.slice none 0 0))] false p5 0) (fun j=>.ptr j 0) h fun m O=>aA O m vh 2 fun w=>aJ m 0 fun vi=>ak w vi fun vj=>p4 [vj] w fun vk P=>aY .add (St [59]) vk fun vl=>aY .add vl (St [61]) fun vm=>p3 [c,vm] P fun v6 r=>aJ m 1 fun vn=>ak r vn fun y=>dz y fun vo=>bz (fun U i g=>af .lss (ag i 0) vo fun vp=>au vp ( bY (fun B=>bg y (ag i 0) 1 fun vq=>ak g vq fun l=>bY (fun p=>af .gtr (ag i 0) (N .i64 0) fun vr=>au vr ( p6 [c,(N .u8 44)] g fun v7 E=>p [] E) ( p [] g)) (fun wa F=>bY (fun q=>p7 [l,(St [44,59,58])] F fun vs t=>au vs ( aY .add (St [34]) l fun vt=>aY .add vt (St [34]) fun vu=>q [vu] t) ( q [l] t)) (fun v3 G=>p3 [c,(ag v3 0)] G fun v8 H=>B [] H))) (fun wb I=>af .add (ag i 0) (N .i64 1) fun vv=>U [vv] I)) ( af .add (ag n 0) (N .i64 1) fun vw=>S [vw] g)) [(N .i64 0)] r) ( aJ d 3 fun z=>ak h z fun A=>p8 [c] h fun vx u=>ak u z fun vz=>(vz=A∧aY .add vx (St [58]) fun vy=>aY .add vy A fun v0=>Q v0 u))) [(N .i64 0)] v)
def tO (p1:Nat) (p2 p3 p4 p5 p6 p7:aj) (a0:AV) (M0:RM) (Q:ai) : Prop:=aU (.row [(St []),(St []),(.sc (.slice none 0 0)),(St []),(N .i64 0)] false p1 0) (fun n=>.ptr n 0) M0 fun e S=>p2 [a0] S fun w0 r=>eB w0 fun w1=>au w1 ( dB [(St []),(St []),(.sc (.slice none 0 0)),(St []),(N .i64 0)] [] fun vs=>aA r e vs 5 fun s=>aI s e 5 fun vo=>Q (.tup [vo,(Bo false)]) s) ( aU (.row [(St []),(St []),(.sc (.slice none 0 0)),(St []),(N .i64 0)] false p1 0) (fun n=>.ptr n 0) r fun d X=>p3 [a0] X fun O va=>aG O 0 fun vt=>aG O 1 fun o=>aJ d 1 fun vu=>aA va vu vt 1 fun vb=>bY (fun q=>p4 [o,(St [46])] vb fun vv m=>au vv ( aJ d 1 fun vw=>ak m vw fun vx=>aJ d 0 fun vy=>aA m vy vx 1 fun H=>aJ d 0 fun vz=>ak H vz fun v0=>p5 [v0] H fun v1 I=>eB v1 fun v2=>au v2 ( dB [(St []),(St []),(.sc (.slice none 0 0)),(St []),(N .i64 0)] [] fun v3=>aA I e v3 5 fun L=>aI L e 5 fun vr=>Q (.tup [vr,(Bo false)]) L) ( bL (aS o (some (N .i64 1)) none) fun v4=>p3 [v4] I fun P U=>aG P 0 fun v5=>aG P 1 fun v6=>aJ d 1 fun v7=>aA U v7 v5 1 fun V=>q [v6] V)) ( q [o] m)) (fun w2 W=>p6 [(ag w2 0)] W fun p t=>aG p 0 fun v8=>aG p 1 fun i=>aG p 2 fun v9=>eB v9 fun g=>aa g false (fun c=>aJ d 1 fun wa=>c wa t) (fun c=>c .undef t) fun wb l=>aa g false (fun ve=>ak l wb fun wc=>ve wc l) (fun c=>c .undef l) fun wd u=>aa g false (fun vf=>p5 [wd] u fun we Y=>vf we Y) (fun c=>c .undef u) fun wf v=>aa g false (fun vg=>eB wf fun wg=>vg wg v) (fun c=>c .undef v) fun wh w=>aB g (Bo true) wh fun j=>aa j false (fun vh=>vh i w) (fun c=>c .undef w) fun wi x=>aa j false (fun vi=>p4 [wi,(St [58])] x fun wj Z=>vi wj Z) (fun c=>c .undef x) fun wk y=>aa j false (fun vj=>eB wk fun wl=>vj wl y) (fun c=>c .undef y) fun wm z=>aB j (Bo true) wm fun h=>aa h false (fun vk=>vk i z) (fun c=>c .undef z) fun wn A=>aa h false (fun vl=>bL (aS wn (some (N .i64 1)) none) fun wo=>vl wo A) (fun c=>c .undef A) fun wp B=>aa h false (fun vm=>p7 [wp,(St [])] B fun wq vc=>vm wq vc) (fun c=>c .undef B) fun wr C=>aa h false (fun vn=>eB wr fun ws=>vn ws C) (fun c=>c .undef C) fun wt D=>aB h (Bo true) wt fun wu=>au wu ( dB [(St []),(St []),(.sc (.slice none 0 0)),(St []),(N .i64 0)] [] fun wv=>aA D e wv 5 fun E=>aI E e 5 fun vp=>Q (.tup [vp,(Bo false)]) E) ( bL (aS i (some (N .i64 1)) none) fun R=>aJ d 2 fun wx=>aA D wx v8 1 fun vd=>bL (aS i (some (N .i64 1)) none) fun ww=>(ww=R∧aJ d 3 fun wy=>aA vd wy R 1 fun F=>aI F d 5 fun wz=>aA F e wz 5 fun G=>aI G e 5 fun vq=>Q (.tup [vq,(Bo true)]) G))))
def kN (p1:aj) (a0 a1:AV) (M0:RM) (Q:ai) : Prop:=p1 [a0,a1] M0 fun c d=>aG c 0 fun e=>aG c 1 fun g=>aG c 2 fun h=>Q (.tup [e,g,h]) d
def kg (p1:aj) (a0 a1:AV) (M0:RM) (Q:ai) : Prop:=p1 [a0,a1] M0 fun d c=>Q d c
def qD (p1:aj) (a0 a1:AV) (M0:RM) (Q:ai) : Prop:=bY (fun d=>bz (fun l c e=>aP a0 fun m=>af .lss (ag c 0) m fun n=>au n ( bL (aS a0 (some (ag c 0)) none) fun o=>p1 [o] e fun h g=>aG h 0 fun t=>aG h 1 fun i=>af .add (ag c 0) i fun p=>af .gtr p a1 fun q=>au q ( d [(ag c 0)] g) ( af .add (ag c 0) i fun r=>l [r] g)) ( d [(ag c 0)] e)) [(N .i64 0)] M0) (fun s j=>Q (ag s 0) j)
def dE (p1:aj) (p2:Nat) (a0 a1:AV) (M0:RM) (Q:ai) : Prop:=p1 [a0] M0 fun o c=>mE a0 fun g=>aJ g 1 fun h=>ak c h fun i=>appW p2 1 1 [(N .u8 0)] false i a1 c fun j d=>mE a0 fun l=>aJ l 1 fun m=>aA d m j 1 fun e=>aP a1 fun n=>Q (.tup [n,(.sc .nilIface)]) e
def gM (p1:aj) (p2:Nat) (a0:AV) (M0:RM) (Q:ai) : Prop:=mE a0 fun o=>aJ o 0 fun p=>ak M0 p fun q=>gD false 1 q (.sc (.pointer none)) fun r=>au r ( RD M0 a0 fun s=>p1 [s] M0 fun e c=>Sa p2 2 c e fun g=>mE a0 fun h=>aJ h 0 fun i=>aA c i g 1 fun d=>Q (.tup []) d) ( mE a0 fun j=>aJ j 0 fun l=>ak M0 l fun m=>gD true 1 m a0 fun n=>au n ( False) ( Q (.tup []) M0))
def iO (p1:aj) (a0 a1:AV) (M0:RM) (Q:ai) : Prop:=p1 [a0,a1] M0 fun d c=>Q d c
def nA (p1:aj) (a0:AV) (M0:RM) (Q:ai) : Prop:=aP a0 fun z=>af .geq z (N .i64 1) fun e=>aa e true (fun c=>c a0 M0) (fun c=>c .undef M0) fun A g=>aa e true (fun o=>aP A fun B=>o B g) (fun c=>c .undef g) fun C i=>aa e true (fun q=>af .leq C (N .i64 20) fun D=>q D i) (fun c=>c .undef i) fun E j=>aB e E (Bo false) fun d=>aa d true (fun r=>r a0 j) (fun c=>c .undef j) fun t l=>aa d true (fun s=>p1 [t,(St [97,98,99,100,101,102,103,104,105,106,107,108,109,110,111,112,113,114,115,116,117,118,119,120,121,122,48,49,50,51,52,53,54,55,56,57,45])] l fun u n=>s u n) (fun c=>c .undef l) fun v h=>aa d true (fun p=>aY .eql v (St []) fun w=>p w h) (fun c=>c .undef h) fun x m=>aB d x (Bo false) fun y=>Q y m
def mF (p1:Nat) (p2 p3 p4:aj) (a0 a1:AV) (M0:RM) (Q:ai) : Prop:=qi p1 a0 fun x s=>aU x s M0 fun o p=>dz o fun O=>bz (fun w g e=>af .lss (ag g 0) O fun y=>au y ( bg o (ag g 0) 1 fun z=>ak e z fun n=>p2 [n] e fun A h=>eB A fun d=>aa d false (fun c=>c a1 h) (fun c=>c .undef h) fun B j=>aa d false (fun t=>t n j) (fun c=>c .undef j) fun C l=>aa d false (fun u=>p3 [B,C] l fun D r=>u D r) (fun c=>c .undef l) fun E m=>aa d false (fun v=>af .geq E (N .i64 0) fun F=>v F m) (fun c=>c .undef m) fun G i=>aB d (Bo true) G fun H=>au H ( Q (Bo false) i) ( af .add (ag g 0) (N .i64 1) fun I=>w [I] i)) ( p4 [a0] e fun L q=>Q L q)) [(N .i64 0)] p
def jM (p1:aj) (a0 a1:AV) (M0:RM) (Q:ai) : Prop:=p1 [a0,a1] M0 fun d c=>af .geq d (N .i64 0) fun e=>Q e c
def oQ (p1:aj) (a0:AV) (M0:RM) (Q:ai) : Prop:=p1 [a0,(St [34])] M0 fun d c=>eB d fun e=>Q e c
def qG (p1:Nat) (a0:AV) (M0:RM) (Q:ai) : Prop:=qi p1 a0 fun t q=>aU t q M0 fun e n=>dz e fun F=>bz (fun s g c=>af .lss (ag g 0) F fun u=>au u ( bY (fun j=>bg e (ag g 0) 1 fun v=>ak c v fun h=>af .geq h (N .u8 97) fun i=>aa i true (fun d=>d h c) (fun d=>d .undef c) fun w l=>aa i true (fun r=>af .leq w (N .u8 122) fun x=>r x l) (fun d=>d .undef l) fun y m=>aB i y (Bo false) fun z=>au z ( af .add h (N .u8 65) fun A=>af .sub A (N .u8 97) fun B=>bg e (ag g 0) 1 fun C=>aA m C B 1 fun o=>j [] o) ( j [] m)) (fun G p=>af .add (ag g 0) (N .i64 1) fun D=>s [D] p)) ( tT c e fun E=>Q E c)) [(N .i64 0)] n
def fG (p1:aj) (a0 a1:AV) (M0:RM) (Q:ai) : Prop:=p1 [a0,a1] M0 fun d c=>af .geq d (N .i64 0) fun e=>Q e c
def si (p1 p2:aj) (a0:AV) (M0:RM) (Q:ai) : Prop:=aP a0 fun n=>p1 [a0] M0 fun o e=>p2 [o,(St [97,98,99,100,101,102,103,104,105,106,107,108,109,110,111,112,113,114,115,116,117,118,119,120,121,122,48,49,50,51,52,53,54,55,56,57,45])] e fun p g=>aP p fun i=>af .sub n i fun c=>bL (aS a0 none (some c)) fun j=>bL (aS a0 (some c) none) fun d=>p1 [j] g fun l h=>bL (aS a0 (some c) none) fun m=>(m=d∧Q (.tup [l,d]) h)
def kX (p1:aj) (a0 a1:AV) (M0:RM) (Q:ai) : Prop:=p1 [a0,a1] M0 fun d c=>Q d c
def oO (p1:aj) (p2:Nat) (p3 p4 p5:aj) (p6:Nat) (a0:AV) (M0:RM) (Q:ai) : Prop:=bz (fun O e v=>p1 [(ag e 0),(St [59])] v fun U m=>au U ( aU (.row [(St []),(.sc (.slice none 0 0))] false p2 0) (fun F=>.ptr F 0) m fun d w=>bL (aS (ag e 0) (some (N .i64 1)) none) fun V=>p3 [V] w fun s A=>aG s 0 fun W=>aG s 1 fun t=>aJ d 0 fun X=>aA A X W 1 fun o=>aJ d 0 fun Y=>ak o Y fun Z=>p4 [Z] o fun va p=>eB va fun h=>aa h false (fun c=>c t p) (fun c=>c .undef p) fun vb q=>aa h false (fun L=>p1 [vb,(St [61])] q fun vc E=>L vc E) (fun c=>c .undef q) fun vd r=>aa h false (fun I=>eB vd fun ve=>I ve r) (fun c=>c .undef r) fun vf n=>aB h (Bo true) vf fun vg=>au vg ( Q (.tup [(.sc (.slice none 0 0)),(St []),(Bo false)]) n) ( bz (fun P g i=>au (ag g 2) ( bL (aS (ag g 0) (some (N .i64 1)) none) fun vi=>p5 [vi] i fun l j=>aG l 0 fun vj=>aG l 1 fun u=>aG l 2 fun vk=>eB vk fun vl=>au vl ( Q (.tup [(.sc (.slice none 0 0)),(St []),(Bo false)]) j) ( aJ d 1 fun vm=>ak j vm fun vn=>dV p6 1 [(St [])] [(0,1,vj)] fun R G=>aU R G j fun vo x=>appW p6 1 16 [(St [])] false vn vo x fun vp y=>aJ d 1 fun vq=>aA y vq vp 1 fun z=>p1 [u,(St [44])] z fun vh B=>P [u,(ag g 1),vh] B)) ( aI i d 2 fun vr=>dV p2 1 [(St []),(.sc (.slice none 0 0))] [(0,2,vr)] fun S H=>aU S H i fun vs C=>appW p2 2 40 [(St []),(.sc (.slice none 0 0))] false (ag g 1) vs C fun vt D=>O [(ag g 0),vt] D)) [t,(ag e 1),(Bo true)] n)) ( Q (.tup [(ag e 1),(ag e 0),(Bo true)]) m)) [a0,(.sc (.slice none 0 0))] M0
def dS (p1:aj) (a0 a1:AV) (M0:RM) (Q:ai) : Prop:=p1 [a0,a1] M0 fun c d=>af .geq c (N .i64 0) fun e=>au e ( bL (aS a0 none (some c)) fun g=>aP a1 fun h=>af .add c h fun i=>bL (aS a0 (some i) none) fun j=>Q (.tup [g,j,(Bo true)]) d) ( Q (.tup [a0,(St []),(Bo false)]) d)
def fA (p1:aj) (a0 a1:AV) (M0:RM) (Q:ai) : Prop:=p1 [a0,a1] M0 fun i c=>au i ( aP a0 fun d=>aP a1 fun e=>af .sub d e fun g=>bL (aS a0 none (some g)) fun h=>Q h c) ( Q a0 c)
def vZ (p1 p2 p3:aj) (p4:Nat) (p5 p6 p7 p8:aj) (a0 a1:AV) (M0:RM) (Q:ai) : Prop:=aY .eql a0 (St []) fun h=>aa h false (fun c=>c a1 M0) (fun c=>c .undef M0) fun C i=>aa h false (fun y=>aY .eql C (St []) fun D=>y D i) (fun c=>c .undef i) fun E e=>aB h (Bo true) E fun F=>au F ( Q a0 e) ( aP a1 fun G=>af .eql G (N .i64 1) fun d=>aa d true (fun z=>z a1 e) (fun c=>c .undef e) fun H m=>aa d true (fun A=>di H (N .i64 0) fun I=>A I m) (fun c=>c .undef m) fun L n=>aa d true (fun B=>af .lss L (N .u8 128) fun O=>B O n) (fun c=>c .undef n) fun P j=>aB d P (Bo false) fun R=>au R ( di a1 (N .i64 0) fun S=>di a1 (N .i64 0) fun V=>p1 [a0,S] j fun U p=>p2 [U,V] p fun W q=>Q W q) ( p3 [a1] j fun o r=>aG o 0 fun X=>aG o 1 fun Y=>aU (.row [(Bo false),(Bo false),(Bo false),(Bo false),(Bo false),(Bo false),(Bo false),(Bo false),(Bo false),(Bo false),(Bo false),(Bo false),(Bo false),(Bo false),(Bo false),(Bo false),(Bo false),(Bo false),(Bo false),(Bo false),(Bo false),(Bo false),(Bo false),(Bo false),(Bo false),(Bo false),(Bo false),(Bo false),(Bo false),(Bo false),(Bo false),(Bo false),(Bo false),(Bo false),(Bo false),(Bo false),(Bo false),(Bo false),(Bo false),(Bo false),(Bo false),(Bo false),(Bo false),(Bo false),(Bo false),(Bo false),(Bo false),(Bo false),(Bo false),(Bo false),(Bo false),(Bo false),(Bo false),(Bo false),(Bo false),(Bo false),(Bo false),(Bo false),(Bo false),(Bo false),(Bo false),(Bo false),(Bo false),(Bo false),(Bo false),(Bo false),(Bo false),(Bo false),(Bo false),(Bo false),(Bo false),(Bo false),(Bo false),(Bo false),(Bo false),(Bo false),(Bo false),(Bo false),(Bo false),(Bo false),(Bo false),(Bo false),(Bo false),(Bo false),(Bo false),(Bo false),(Bo false),(Bo false),(Bo false),(Bo false),(Bo false),(Bo false),(Bo false),(Bo false),(Bo false),(Bo false),(Bo false),(Bo false),(Bo false),(Bo false),(Bo false),(Bo false),(Bo false),(Bo false),(Bo false),(Bo false),(Bo false),(Bo false),(Bo false),(Bo false),(Bo false),(Bo false),(Bo false),(Bo false),(Bo false),(Bo false),(Bo false),(Bo false),(Bo false),(Bo false),(Bo false),(Bo false),(Bo false),(Bo false),(Bo false),(Bo false),(Bo false),(Bo false),(Bo false),(Bo false),(Bo false),(Bo false),(Bo false),(Bo false),(Bo false),(Bo false),(Bo false),(Bo false),(Bo false),(Bo false),(Bo false),(Bo false),(Bo false),(Bo false),(Bo false),(Bo false),(Bo false),(Bo false),(Bo false),(Bo false),(Bo false),(Bo false),(Bo false),(Bo false),(Bo false),(Bo false),(Bo false),(Bo false),(Bo false),(Bo false),(Bo false),(Bo false),(Bo false),(Bo false),(Bo false),(Bo false),(Bo false),(Bo false),(Bo false),(Bo false),(Bo false),(Bo false),(Bo false),(Bo false),(Bo false),(Bo false),(Bo false),(Bo false),(Bo false),(Bo false),(Bo false),(Bo false),(Bo false),(Bo false),(Bo false),(Bo false),(Bo false),(Bo false),(Bo false),(Bo false),(Bo false),(Bo false),(Bo false),(Bo false),(Bo false),(Bo false),(Bo false),(Bo false),(Bo false),(Bo false),(Bo false),(Bo false),(Bo false),(Bo false),(Bo false),(Bo false),(Bo false),(Bo false),(Bo false),(Bo false),(Bo false),(Bo false),(Bo false),(Bo false),(Bo false),(Bo false),(Bo false),(Bo false),(Bo false),(Bo false),(Bo false),(Bo false),(Bo false),(Bo false),(Bo false),(Bo false),(Bo false),(Bo false),(Bo false),(Bo false),(Bo false),(Bo false),(Bo false),(Bo false),(Bo false),(Bo false),(Bo false),(Bo false),(Bo false),(Bo false),(Bo false),(Bo false),(Bo false),(Bo false),(Bo false),(Bo false),(Bo false),(Bo false),(Bo false),(Bo false),(Bo false),(Bo false),(Bo false),(Bo false),(Bo false),(Bo false)] false p4 0) (fun x=>.ptr x 0) r fun g s=>aA s g X 256 fun l=>au Y ( p5 [a0,g] l fun Z t=>p6 [Z,g] t fun va u=>Q va u) ( p7 [a0,a1] l fun vb v=>p8 [vb,a1] v fun vc w=>Q vc w)))
def qK (a0:AV) (M0:RM) (Q:ai) : Prop:=af .geq a0 (N .u8 32) fun d=>aa d true (fun c=>c a0 M0) (fun c=>c .undef M0) fun s g=>aa d true (fun l=>af .neq s (N .u8 127) fun t=>l t g) (fun c=>c .undef g) fun u h=>aB d u (Bo false) fun e=>aa e false (fun m=>m a0 h) (fun c=>c .undef h) fun o i=>aa e false (fun n=>af .eql o (N .u8 9) fun p=>n p i) (fun c=>c .undef i) fun q j=>aB e (Bo true) q fun r=>Q r j
def lJ (cv:(FuncId→aj)) (a0 a1:AV) (M0:RM) (Q:ai) : Prop:=dz a0 fun m=>bz (fun g c d=>af .lss (ag c 0) m fun n=>au n ( bg a0 (ag c 0) 1 fun h=>ak d h fun i=>Ij cv a1 [i] d fun j e=>au j ( Q (ag c 0) e) ( af .add (ag c 0) (N .i64 1) fun l=>g [l] e)) ( Q (N .i64 (-1)) d)) [(N .i64 0)] M0
def lv (p1 p2 p3:aj) (p4:Nat) (p5:aj) (a0 a1:AV) (M0:RM) (Q:ai) : Prop:=aY .eql a1 (St []) fun D=>au D ( Q (N .i64 (-1)) M0) ( aP a1 fun E=>af .eql E (N .i64 1) fun F=>au F ( di a1 (N .i64 0) fun G=>oh .i32 G fun o=>bY (fun e=>af .geq o (N .i32 128) fun H=>au H ( e [(N .i32 65533)] M0) ( e [o] M0)) (fun ve r=>p1 [a0,(ag ve 0)] r fun I s=>Q I s)) ( bY (fun g=>aP a0 fun L=>p2 [L] M0 fun O j=>au O ( p3 [a1] j fun p w=>aG p 0 fun P=>aG p 1 fun R=>aU (.row [(Bo false),(Bo false),(Bo false),(Bo false),(Bo false),(Bo false),(Bo false),(Bo false),(Bo false),(Bo false),(Bo false),(Bo false),(Bo false),(Bo false),(Bo false),(Bo false),(Bo false),(Bo false),(Bo false),(Bo false),(Bo false),(Bo false),(Bo false),(Bo false),(Bo false),(Bo false),(Bo false),(Bo false),(Bo false),(Bo false),(Bo false),(Bo false),(Bo false),(Bo false),(Bo false),(Bo false),(Bo false),(Bo false),(Bo false),(Bo false),(Bo false),(Bo false),(Bo false),(Bo false),(Bo false),(Bo false),(Bo false),(Bo false),(Bo false),(Bo false),(Bo false),(Bo false),(Bo false),(Bo false),(Bo false),(Bo false),(Bo false),(Bo false),(Bo false),(Bo false),(Bo false),(Bo false),(Bo false),(Bo false),(Bo false),(Bo false),(Bo false),(Bo false),(Bo false),(Bo false),(Bo false),(Bo false),(Bo false),(Bo false),(Bo false),(Bo false),(Bo false),(Bo false),(Bo false),(Bo false),(Bo false),(Bo false),(Bo false),(Bo false),(Bo false),(Bo false),(Bo false),(Bo false),(Bo false),(Bo false),(Bo false),(Bo false),(Bo false),(Bo false),(Bo false),(Bo false),(Bo false),(Bo false),(Bo false),(Bo false),(Bo false),(Bo false),(Bo false),(Bo false),(Bo false),(Bo false),(Bo false),(Bo false),(Bo false),(Bo false),(Bo false),(Bo false),(Bo false),(Bo false),(Bo false),(Bo false),(Bo false),(Bo false),(Bo false),(Bo false),(Bo false),(Bo false),(Bo false),(Bo false),(Bo false),(Bo false),(Bo false),(Bo false),(Bo false),(Bo false),(Bo false),(Bo false),(Bo false),(Bo false),(Bo false),(Bo false),(Bo false),(Bo false),(Bo false),(Bo false),(Bo false),(Bo false),(Bo false),(Bo false),(Bo false),(Bo false),(Bo false),(Bo false),(Bo false),(Bo false),(Bo false),(Bo false),(Bo false),(Bo false),(Bo false),(Bo false),(Bo false),(Bo false),(Bo false),(Bo false),(Bo false),(Bo false),(Bo false),(Bo false),(Bo false),(Bo false),(Bo false),(Bo false),(Bo false),(Bo false),(Bo false),(Bo false),(Bo false),(Bo false),(Bo false),(Bo false),(Bo false),(Bo false),(Bo false),(Bo false),(Bo false),(Bo false),(Bo false),(Bo false),(Bo false),(Bo false),(Bo false),(Bo false),(Bo false),(Bo false),(Bo false),(Bo false),(Bo false),(Bo false),(Bo false),(Bo false),(Bo false),(Bo false),(Bo false),(Bo false),(Bo false),(Bo false),(Bo false),(Bo false),(Bo false),(Bo false),(Bo false),(Bo false),(Bo false),(Bo false),(Bo false),(Bo false),(Bo false),(Bo false),(Bo false),(Bo false),(Bo false),(Bo false),(Bo false),(Bo false),(Bo false),(Bo false),(Bo false),(Bo false),(Bo false),(Bo false),(Bo false),(Bo false),(Bo false),(Bo false),(Bo false),(Bo false),(Bo false),(Bo false),(Bo false),(Bo false),(Bo false),(Bo false),(Bo false),(Bo false),(Bo false),(Bo false),(Bo false),(Bo false),(Bo false),(Bo false),(Bo false),(Bo false),(Bo false),(Bo false),(Bo false),(Bo false),(Bo false),(Bo false),(Bo false),(Bo false)] false p4 0) (fun y=>.ptr y 0) w fun q x=>aA x q P 256 fun l=>au R ( bz (fun A c m=>aP a0 fun S=>af .lss (ag c 0) S fun U=>au U ( di a0 (ag c 0) fun W=>p5 [q,W] m fun X n=>au X ( Q (ag c 0) n) ( af .add (ag c 0) (N .i64 1) fun V=>A [V] n)) ( Q (N .i64 (-1)) m)) [(N .i64 0)] l) ( g [] l)) ( g [] j)) (fun vg t=>zZ a0 fun C z=>aU C z t fun Y u=>bz (fun B vf v=>Ai Y v fun d h=>aG d 0 fun Z=>au Z ( aG d 1 fun va=>aG d 2 fun vb=>p1 [a1,vb] h fun vc i=>af .geq vc (N .i64 0) fun vd=>au vd ( Q va i) ( B [] i)) ( Q (N .i64 (-1)) h)) [] u)))
def pY (p1 p2:aj) (p3:Nat) (p4 p5:aj) (a0 a1:AV) (M0:RM) (Q:ai) : Prop:=aY .eql a0 (St []) fun g=>aa g false (fun c=>c a1 M0) (fun c=>c .undef M0) fun z h=>aa g false (fun v=>aY .eql z (St []) fun A=>v A h) (fun c=>c .undef h) fun B e=>aB g (Bo true) B fun C=>au C ( Q a0 e) ( aP a1 fun D=>af .eql D (N .i64 1) fun d=>aa d true (fun w=>w a1 e) (fun c=>c .undef e) fun E l=>aa d true (fun x=>di E (N .i64 0) fun F=>x F l) (fun c=>c .undef l) fun G m=>aa d true (fun y=>af .lss G (N .u8 128) fun H=>y H m) (fun c=>c .undef m) fun I i=>aB d I (Bo false) fun L=>au L ( di a1 (N .i64 0) fun O=>p1 [a0,O] i fun P p=>Q P p) ( p2 [a1] i fun n q=>aG n 0 fun R=>aG n 1 fun S=>aU (.row [(Bo false),(Bo false),(Bo false),(Bo false),(Bo false),(Bo false),(Bo false),(Bo false),(Bo false),(Bo false),(Bo false),(Bo false),(Bo false),(Bo false),(Bo false),(Bo false),(Bo false),(Bo false),(Bo false),(Bo false),(Bo false),(Bo false),(Bo false),(Bo false),(Bo false),(Bo false),(Bo false),(Bo false),(Bo false),(Bo false),(Bo false),(Bo false),(Bo false),(Bo false),(Bo false),(Bo false),(Bo false),(Bo false),(Bo false),(Bo false),(Bo false),(Bo false),(Bo false),(Bo false),(Bo false),(Bo false),(Bo false),(Bo false),(Bo false),(Bo false),(Bo false),(Bo false),(Bo false),(Bo false),(Bo false),(Bo false),(Bo false),(Bo false),(Bo false),(Bo false),(Bo false),(Bo false),(Bo false),(Bo false),(Bo false),(Bo false),(Bo false),(Bo false),(Bo false),(Bo false),(Bo false),(Bo false),(Bo false),(Bo false),(Bo false),(Bo false),(Bo false),(Bo false),(Bo false),(Bo false),(Bo false),(Bo false),(Bo false),(Bo false),(Bo false),(Bo false),(Bo false),(Bo false),(Bo false),(Bo false),(Bo false),(Bo false),(Bo false),(Bo false),(Bo false),(Bo false),(Bo false),(Bo false),(Bo false),(Bo false),(Bo false),(Bo false),(Bo false),(Bo false),(Bo false),(Bo false),(Bo false),(Bo false),(Bo false),(Bo false),(Bo false),(Bo false),(Bo false),(Bo false),(Bo false),(Bo false),(Bo false),(Bo false),(Bo false),(Bo false),(Bo false),(Bo false),(Bo false),(Bo false),(Bo false),(Bo false),(Bo false),(Bo false),(Bo false),(Bo false),(Bo false),(Bo false),(Bo false),(Bo false),(Bo false),(Bo false),(Bo false),(Bo false),(Bo false),(Bo false),(Bo false),(Bo false),(Bo false),(Bo false),(Bo false),(Bo false),(Bo false),(Bo false),(Bo false),(Bo false),(Bo false),(Bo false),(Bo false),(Bo false),(Bo false),(Bo false),(Bo false),(Bo false),(Bo false),(Bo false),(Bo false),(Bo false),(Bo false),(Bo false),(Bo false),(Bo false),(Bo false),(Bo false),(Bo false),(Bo false),(Bo false),(Bo false),(Bo false),(Bo false),(Bo false),(Bo false),(Bo false),(Bo false),(Bo false),(Bo false),(Bo false),(Bo false),(Bo false),(Bo false),(Bo false),(Bo false),(Bo false),(Bo false),(Bo false),(Bo false),(Bo false),(Bo false),(Bo false),(Bo false),(Bo false),(Bo false),(Bo false),(Bo false),(Bo false),(Bo false),(Bo false),(Bo false),(Bo false),(Bo false),(Bo false),(Bo false),(Bo false),(Bo false),(Bo false),(Bo false),(Bo false),(Bo false),(Bo false),(Bo false),(Bo false),(Bo false),(Bo false),(Bo false),(Bo false),(Bo false),(Bo false),(Bo false),(Bo false),(Bo false),(Bo false),(Bo false),(Bo false),(Bo false),(Bo false),(Bo false),(Bo false),(Bo false),(Bo false),(Bo false),(Bo false),(Bo false),(Bo false),(Bo false),(Bo false),(Bo false),(Bo false),(Bo false),(Bo false),(Bo false),(Bo false),(Bo false),(Bo false),(Bo false),(Bo false),(Bo false),(Bo false),(Bo false),(Bo false),(Bo false),(Bo false),(Bo false)] false p3 0) (fun u=>.ptr u 0) q fun o r=>aA r o R 256 fun j=>au S ( p4 [a0,o] j fun U s=>Q U s) ( p5 [a0,a1] j fun V t=>Q V t)))
def qM (p1:Nat) (a0:AV) (M0:RM) (Q:ai) : Prop:=qi p1 a0 fun t q=>aU t q M0 fun e n=>dz e fun F=>bz (fun s g c=>af .lss (ag g 0) F fun u=>au u ( bY (fun j=>bg e (ag g 0) 1 fun v=>ak c v fun h=>af .geq h (N .u8 65) fun i=>aa i true (fun d=>d h c) (fun d=>d .undef c) fun w l=>aa i true (fun r=>af .leq w (N .u8 90) fun x=>r x l) (fun d=>d .undef l) fun y m=>aB i y (Bo false) fun z=>au z ( af .add h (N .u8 97) fun A=>af .sub A (N .u8 65) fun B=>bg e (ag g 0) 1 fun C=>aA m C B 1 fun o=>j [] o) ( j [] m)) (fun G p=>af .add (ag g 0) (N .i64 1) fun D=>s [D] p)) ( tT c e fun E=>Q E c)) [(N .i64 0)] n
def cO (a0 a1:AV) (M0:RM) (Q:ai) : Prop:=aP a0 fun B=>aP a1 fun C=>af .geq B C fun d=>aa d true (fun c=>c a0 M0) (fun c=>c .undef M0) fun r e=>aa d true (fun m=>m a1 e) (fun c=>c .undef e) fun s g=>aa d true (fun o=>aP s fun t=>o t g) (fun c=>c .undef g) fun u h=>aa d true (fun p=>bL (aS r none (some u)) fun v=>p v h) (fun c=>c .undef h) fun w i=>aa d true (fun q=>q a1 i) (fun c=>c .undef i) fun x j=>aa d true (fun n=>aY .eql w x fun y=>n y j) (fun c=>c .undef j) fun z l=>aB d z (Bo false) fun A=>Q A l
def qC (p1 p2 p3 p4:aj) (a0:AV) (M0:RM) (Q:ai) : Prop:=p1 [a0,(St [34])] M0 fun m h=>aG m 0 fun u=>aG m 1 fun v=>au v ( p2 [u,(St [34])] h fun e i=>aG e 0 fun n=>aG e 1 fun w=>aG e 2 fun g=>aa g true (fun d=>d n i) (fun d=>d .undef i) fun x j=>aa g true (fun t=>p3 [x,(St [])] j fun y q=>t y q) (fun d=>d .undef j) fun z r=>aB g z (Bo false) fun A=>Q (.tup [n,w,A]) r) ( p4 [a0,(St [44,59,58])] h fun c l=>af .lss c (N .i64 0) fun B=>au B ( Q (.tup [(St []),(St []),(Bo false)]) l) ( bL (aS a0 none (some c)) fun o=>bL (aS a0 (some c) none) fun p=>bL (aS a0 none (some c)) fun E=>p3 [E,(St [34])] l fun F s=>bL (aS a0 none (some c)) fun C=>(C=o∧bL (aS a0 (some c) none) fun D=>(D=p∧Q (.tup [o,p,F]) s))))
def eH (p1 p2 p3 p4:aj) (a0 a1:AV) (M0:RM) (Q:ai) : Prop:=aP a1 fun e=>af .eql e (N .i64 0) fun q=>aa q false (fun c=>c a1 M0) (fun c=>c .undef M0) fun w2 w=>aa q false (fun vk=>vk a0 w) (fun c=>c .undef w) fun w3 x=>aa q false (fun vn=>aY .eql w2 w3 fun w4=>vn w4 x) (fun c=>c .undef x) fun w5 h=>aB q (Bo true) w5 fun w6=>au w6 ( Q (N .i64 0) h) ( af .eql e (N .i64 1) fun w7=>au w7 ( di a1 (N .i64 0) fun w8=>p1 [a0,w8] h fun w9 vj=>Q w9 vj) ( aP a0 fun xa=>af .geq e xa fun xb=>au xb ( Q (N .i64 (-1)) h) ( ak h .top fun xc=>af .leq e xc fun r=>aa r true (fun v3=>v3 a0 h) (fun c=>c .undef h) fun xd vb=>aa r true (fun v8=>aP xd fun xe=>v8 xe vb) (fun c=>c .undef vb) fun xf y=>aa r true (fun vl=>af .leq xf (N .i64 64) fun xg=>vl xg y) (fun c=>c .undef y) fun xh z=>aB r xh (Bo false) fun xi=>au xi ( p2 [a0,a1] z fun xj vh=>Q xj vh) ( di a1 (N .i64 0) fun vf=>di a1 (N .i64 1) fun xk=>aP a0 fun xl=>af .sub xl e fun xm=>af .add xm (N .i64 1) fun t=>bz (fun v9 j s=>af .lss (ag j 0) t fun xn=>au xn ( bY (fun v=>di a0 (ag j 0) fun xo=>af .neq xo vf fun xp=>au xp ( af .add (ag j 0) (N .i64 1) fun xq=>bL (aS a0 (some xq) (some t)) fun xr=>p1 [xr,vf] s fun vg A=>af .lss vg (N .i64 0) fun xs=>au xs ( Q (N .i64 (-1)) A) ( af .add vg (N .i64 1) fun xt=>af .add (ag j 0) xt fun xu=>v [xu] A)) ( v [(ag j 0)] s)) (fun m B=>af .add (ag m 0) (N .i64 1) fun xv=>di a0 xv fun xw=>af .eql xw xk fun d=>aa d true (fun vm=>vm a0 B) (fun c=>c .undef B) fun xx C=>aa d true (fun vo=>vo (ag m 0) C) (fun c=>c .undef C) fun xy D=>aa d true (fun vp=>vp (ag m 0) D) (fun c=>c .undef D) fun xz E=>aa d true (fun vq=>vq e E) (fun c=>c .undef E) fun x0 F=>aa d true (fun vr=>af .add xz x0 fun x1=>vr x1 F) (fun c=>c .undef F) fun x2 G=>aa d true (fun vs=>bL (aS xx (some xy) (some x2)) fun x3=>vs x3 G) (fun c=>c .undef G) fun x4 H=>aa d true (fun vt=>vt a1 H) (fun c=>c .undef H) fun x5 I=>aa d true (fun vu=>aY .eql x4 x5 fun x6=>vu x6 I) (fun c=>c .undef I) fun x7 n=>aB d x7 (Bo false) fun x8=>au x8 ( Q (ag m 0) n) ( af .add (ag m 0) (N .i64 1) fun g=>af .add (ag j 1) (N .i64 1) fun u=>ak n .top fun wa=>af .leq e wa fun l=>aa l true (fun vv=>vv u n) (fun c=>c .undef n) fun wb L=>aa l true (fun vw=>vw g L) (fun c=>c .undef L) fun wc O=>aa l true (fun vx=>p3 [wc] O fun wd vi=>vx wd vi) (fun c=>c .undef O) fun we P=>aa l true (fun vy=>af .gtr wb we fun wf=>vy wf P) (fun c=>c .undef P) fun wg o=>aB l wg (Bo false) fun wh=>au wh ( bL (aS a0 (some g) none) fun wi=>p2 [wi,a1] o fun vd R=>af .geq vd (N .i64 0) fun wj=>au wj ( af .add vd g fun wk=>Q wk R) ( Q (N .i64 (-1)) R)) ( ak o .top fun wl=>af .gtr e wl fun i=>aa i true (fun vz=>vz u o) (fun c=>c .undef o) fun wm S=>aa i true (fun v0=>v0 g S) (fun c=>c .undef S) fun wn U=>aa i true (fun v1=>oH .shr wn (N .u64 4) fun wo=>v1 wo U) (fun c=>c .undef U) fun wp V=>aa i true (fun v2=>af .add (N .i64 4) wp fun wq=>v2 wq V) (fun c=>c .undef V) fun wr W=>aa i true (fun v4=>af .geq wm wr fun ws=>v4 ws W) (fun c=>c .undef W) fun wt X=>aB i wt (Bo false) fun p=>aa p true (fun v5=>v5 g X) (fun c=>c .undef X) fun wu Y=>aa p true (fun v6=>v6 t Y) (fun c=>c .undef Y) fun wv Z=>aa p true (fun v7=>af .lss wu wv fun ww=>v7 ww Z) (fun c=>c .undef Z) fun wx va=>aB p wx (Bo false) fun wy=>au wy ( bL (aS a0 (some g) none) fun wz=>p4 [wz,a1] va fun ve vc=>af .lss ve (N .i64 0) fun w0=>au w0 ( Q (N .i64 (-1)) vc) ( af .add g ve fun w1=>Q w1 vc)) ( v9 [g,u] va))))) ( Q (N .i64 (-1)) s)) [(N .i64 0),(N .i64 0)] z))))
def fC (a0 a1:AV) (M0:RM) (Q:ai) : Prop:=aP a0 fun R=>aP a1 fun S=>af .geq R S fun d=>aa d true (fun c=>c a0 M0) (fun c=>c .undef M0) fun x e=>aa d true (fun p=>p a0 e) (fun c=>c .undef e) fun y g=>aa d true (fun u=>aP y fun z=>u z g) (fun c=>c .undef g) fun A l=>aa d true (fun v=>v a1 l) (fun c=>c .undef l) fun B m=>aa d true (fun w=>aP B fun C=>w C m) (fun c=>c .undef m) fun D n=>aa d true (fun q=>af .sub A D fun E=>q E n) (fun c=>c .undef n) fun F h=>aa d true (fun r=>bL (aS x (some F) none) fun G=>r G h) (fun c=>c .undef h) fun H i=>aa d true (fun s=>s a1 i) (fun c=>c .undef i) fun I j=>aa d true (fun t=>aY .eql H I fun L=>t L j) (fun c=>c .undef j) fun O o=>aB d O (Bo false) fun P=>Q P o
def iT (p1 p2:aj) (a0 a1:AV) (M0:RM) (Q:ai) : Prop:=af .leq (N .i32 0) a1 fun m=>aa m true (fun c=>c a1 M0) (fun c=>c .undef M0) fun E p=>aa m true (fun A=>af .lss E (N .i32 128) fun F=>A F p) (fun c=>c .undef p) fun G j=>aB m G (Bo false) fun H=>au H ( oh .u8 a1 fun I=>p1 [a0,I] j fun L w=>Q L w) ( af .eql a1 (N .i32 65533) fun O=>au O ( zZ a0 fun D z=>aU D z j fun P x=>bz (fun B vu y=>Ai P y fun n l=>aG n 0 fun R=>au R ( aG n 1 fun S=>aG n 2 fun U=>af .eql U (N .i32 65533) fun V=>au V ( Q S l) ( B [] l)) ( Q (N .i64 (-1)) l)) [] x) ( p2 [a1] j fun W s=>eB W fun X=>au X ( Q (N .i64 (-1)) s) ( DU a1 fun d=>aP d fun Y=>af .sub Y (N .i64 1) fun e=>bz (fun vt g i=>aP a0 fun Z=>af .lss (ag g 0) Z fun va=>au va ( bY (fun o=>di a0 (ag g 0) fun vb=>di d e fun vc=>af .neq vb vc fun vd=>au vd ( af .add (ag g 0) (N .i64 1) fun ve=>bL (aS a0 (some ve) none) fun vf=>di d e fun vg=>p1 [vf,vg] i fun t q=>af .lss t (N .i64 0) fun vh=>au vh ( Q (N .i64 (-1)) q) ( af .add t (N .i64 1) fun vi=>af .add (ag g 0) vi fun vj=>o [vj] q)) ( o [(ag g 0)] i)) (fun u v=>bz (fun C h r=>aP d fun vk=>af .lss (ag h 0) vk fun vl=>au vl ( af .sub (ag u 0) (ag h 0) fun vn=>di a0 vn fun vo=>af .sub e (ag h 0) fun vp=>di d vp fun vq=>af .neq vo vq fun vr=>au vr ( False) ( af .add (ag h 0) (N .i64 1) fun vm=>C [vm] r)) ( af .sub (ag u 0) e fun vs=>Q vs r)) [(N .i64 1)] v)) ( Q (N .i64 (-1)) i)) [e] s)))
def jV (a0:AV) (M0:RM) (Q:ai) : Prop:=af .gtr a0 (N .i64 8) fun c=>Q c M0
def gy (p1:aj) (a0 a1:AV) (M0:RM) (Q:ai) : Prop:=p1 [a0,a1] M0 fun c d=>aG c 0 fun g=>aG c 1 fun e=>Q (.tup [g,e]) d
def iK (a0:AV) (M0:RM) (Q:ai) : Prop:=af .leq (N .i32 0) a0 fun g=>aa g true (fun c=>c a0 M0) (fun c=>c .undef M0) fun s h=>aa g true (fun l=>af .lss s (N .i32 55296) fun t=>l t h) (fun c=>c .undef h) fun u d=>aB g u (Bo false) fun v=>au v ( Q (Bo true) d) ( af .lss (N .i32 57343) a0 fun e=>aa e true (fun m=>m a0 d) (fun c=>c .undef d) fun o i=>aa e true (fun n=>af .leq o (N .i32 1114111) fun p=>n p i) (fun c=>c .undef i) fun q j=>aB e q (Bo false) fun r=>au r ( Q (Bo true) j) ( Q (Bo false) j))
def cK (p1:aj) (a0 a1:AV) (M0:RM) (Q:ai) : Prop:=p1 [a0,a1] M0 fun g c=>eB g fun h=>au h ( Q (.tup [a0,(Bo false)]) c) ( aP a1 fun d=>bL (aS a0 (some d) none) fun e=>Q (.tup [e,(Bo true)]) c)
set_option maxRecDepth 10000
structure iX (TB T8 n0:Nat) (M:RM) (b:Nat) (xs:List UInt8) : Prop where
 lt:b<n0
 hn:n0≤M.next
 row:∃ addr buf,M.heap b=some (.row [addr,buf] false TB 0)∧(addr=.sc (.pointer none)∨addr=.ptr b 0)∧Ow BY M n0 T8 buf xs∧(xs=[]→buf=aC)
def O8 (x:aj) : Prop:=∀ {v:AV} {M:RM} {Q:ai},Q v M→x [v] M Q
def wE (TB:Nat) (c:aj) : Prop:=∀ {M:RM} {b:Nat} {addr buf:AV} {Q:ai},M.heap b=some (.row [addr,buf] false TB 0)→(addr=.sc (.pointer none)∨addr=.ptr b 0)→oneCell buf=true →
 (∀ M',M'.heap b=some (.row [.ptr b 0,buf] false TB 0)→M'.next=M.next→M'.base=M.base→(∀ c,c≠b→M'.heap c=M.heap c)→Q (.tup []) M')→c [.ptr b 0] M Q
theorem MU {TB:Nat} {x:aj} (hx:O8 x) : wE TB fun args M Q=>∃ a0,args=[a0]∧gM x TB a0 M Q:=by
 intro M b addr buf Q hh ha hb hQ
 refine⟨_,rfl, ?_⟩
 unfold gM
 rcases ha with rfl | rfl
 ·simp only[go_sem,RM.cell_of hh]
  refine⟨_,0,_,_,_,_,rfl,hh,by simp,hx ⟨_,_,_,_,rfl,hh,rfl, ?_⟩⟩
  simp only[go_sem,RM.jg hh]
  rw[fO (by simp) (by simp) (by simp[oneCell])]
  simp only[go_sem]
  refine hQ _ (by simp[go_sem]) rfl rfl fun c hc=>by simp[go_sem,hc]
 ·simp only[go_sem,RM.cell_of hh]
  have:∀ K:AV→Prop,gD true 1 (.ptr b 0) (.ptr b 0) K=K (Bo false):=fun K=>(iE (r:=true) rfl (by simp[wS])).trans rfl
  rw[this]
  simp only[go_sem]
  exact hQ _ hh rfl rfl fun _ _=>rfl
def rq (TB T8:Nat) (c:aj) : Prop:=∀ {n0:Nat} {M:RM} {b:Nat} {xs:List UInt8} {x:UInt8} {Q:ai},iX TB T8 n0 M b xs→xs.length + 1≤140737488355328 →
 (∀ M',iX TB T8 n0 M' b (xs++[x])→ek n0 [b] M M'→Q (.sc .nilIface) M')→c [.ptr b 0,By x] M Q
theorem Gl {TB T8:Nat} {c:aj} (hc:wE TB c) : rq TB T8 fun args M Q=>∃ a0 a1,args=[a0,a1]∧dN c T8 a0 a1 M Q:=by
 intro n0 M b xs x Q hB hl hQ
 obtain⟨addr,buf,hh,ha,ho,he⟩:=hB.row
 refine⟨_,_,rfl, ?_⟩
 unfold dN
 refine hc hh ha ho.one fun M1 h1 hnx hbs hot=>?_
 have hlt:=hB.lt
 have hn:=hB.hn
 have ho1:Ow BY M1 n0 T8 buf xs:=Own.same ho hnx (fun c hc=>hot c (by have:=ho.blk c hc; omega)) hbs
 simp only[go_sem,RM.cell_of h1]
 rw[iR (x:=By x) (size:=1) rfl rfl rfl]
 simp only[aF]
 refine nG (E:=BY) (a:=x) ho1 (by omega) (Nat.le_refl _) (by omega) hl fun v' M2 h2 k2 hnx2 hv=>?_
 have hb2:b ∉ aD buf:=fun hm=>by have:=ho.blk b hm; omega
 have hh2:=k2.ax h1 (by omega) hb2
 simp only[go_sem,RM.jg hh2]
 rw[Own.cells h2,fO (by simp) (by simp) (by simp[Own.one h2])]
 simp only[go_sem]
 have hne:∀ c∈aD v',c≠b:=fun c hm=>by have:=h2.blk c hm; omega
 refine hQ _ ⟨hlt,by show n0≤M2.next; omega,.ptr b 0,v',RM.jD _ _,.inr rfl,Own.same h2 rfl (fun c hm=>by simp[go_sem,hne c hm]) rfl,by simp⟩ ⟨?_, ?_,fun c h3 h4=>?_⟩
 ·exact k2.base.trans hbs
 ·show M.next≤M2.next
  omega
 ·have h4:c≠b:=by simpa using h4
  simp only[go_sem,if_neg h4]
  rw[k2.heap c (by omega) (fun hm=>by have:=ho.blk c hm; omega),hot c h4]
def nW (TB T8:Nat) (c:aj) : Prop:=∀ {n0:Nat} {M:RM} {b:Nat} {xs s:List UInt8} {Q:ai},iX TB T8 n0 M b xs→xs.length + s.length≤140737488355328 →
 (∀ M',iX TB T8 n0 M' b (xs++s)→ek n0 [b] M M'→Q (.tup [N .i64 s.length,.sc .nilIface]) M')→c [.ptr b 0,St s] M Q
theorem Dc {TB T8:Nat} {c:aj} (hc:wE TB c) : nW TB T8 fun args M Q=>∃ a0 a1,args=[a0,a1]∧dE c T8 a0 a1 M Q:=by
 intro n0 M b xs s Q hB hl hQ
 obtain⟨addr,buf,hh,ha,ho,he⟩:=hB.row
 refine⟨_,_,rfl, ?_⟩
 unfold dE
 refine hc hh ha ho.one fun M1 h1 hnx hbs hot=>?_
 have hlt:=hB.lt
 have hn:=hB.hn
 have ho1:Ow BY M1 n0 T8 buf xs:=Own.same ho hnx (fun c hc=>hot c (by have:=ho.blk c hc; omega)) hbs
 simp only[go_sem,RM.cell_of h1]
 have hnew:mq M1 1 [N .u8 0] false (St s)=some (s.length,BY.row s):=by
  simp only[mq,qj,if_true]
 by_cases hne0:xs++s=[]
 ·obtain⟨rfl,rfl⟩:=List.append_eq_nil_iff.1 hne0
  have hb0:=he rfl
  subst hb0
  refine⟨0,[],hnew,by omega,by omega,aC,M1,by simp[qF], ?_⟩
  simp only[go_sem,RM.jg h1]
  rw[fO (by simp) (by simp) (by simp[oneCell])]
  simp only[go_sem]
  refine hQ _ ⟨hlt,by show n0≤M1.next; omega,.ptr b 0,aC,by simp[go_sem],.inr rfl,.nil,fun _=>rfl⟩ ⟨hbs,by show M.next≤M1.next; omega,fun c h3 h4=>?_⟩
  have h4:c≠b:=by simpa using h4
  simp only[go_sem,if_neg h4]
  exact hot c h4
 refine BP ho1 (by omega) (Nat.le_refl _) hnew (by rw[BY.fu]; rfl) (BY.jR s) (by omega) (by omega) fun v' M2 h2 k2 hnx2 hv=>?_
 rw[← BY.qW] at h2
 have h2:Ow BY M2 n0 T8 v' (xs++s):=by
  show Own M2 n0 T8 1 v' (BY.row (xs++s)) (xs++s).length
  rw[List.length_append]; exact h2
 have hb2:b ∉ aD buf:=fun hm=>by have:=ho.blk b hm; omega
 have hh2:=k2.ax h1 (by omega) hb2
 simp only[go_sem,RM.jg hh2]
 rw[Own.cells h2,fO (by simp) (by simp) (by simp[Own.one h2])]
 simp only[go_sem]
 have hne:∀ c∈aD v',c≠b:=fun c hm=>by have:=h2.blk c hm; omega
 refine hQ _ ⟨hlt,by show n0≤M2.next; omega,.ptr b 0,v',RM.jD _ _,.inr rfl,Own.same h2 rfl (fun c hm=>by simp[go_sem,hne c hm]) rfl,fun e=>absurd e hne0⟩ ⟨?_, ?_,fun c h3 h4=>?_⟩
 ·exact k2.base.trans hbs
 ·show M.next≤M2.next
  omega
 ·have h4:c≠b:=by simpa using h4
  simp only[go_sem,if_neg h4]
  rw[k2.heap c (by omega) (fun hm=>by have:=ho.blk c hm; omega),hot c h4]
def rJ (TB T8:Nat) (c:aj) : Prop:=∀ {n0:Nat} {M:RM} {b:Nat} {xs:List UInt8} {Q:ai},iX TB T8 n0 M b xs→xs.length≤4611686018427387904 →
 (∀ M',ek n0 [] M M'→Q (St xs) M')→c [.ptr b 0] M Q
theorem Lj {TB T8:Nat} : rJ TB T8 fun args M Q=>∃ a0,args=[a0]∧iN T8 a0 M Q:=by
 intro n0 M b xs Q hB hl hQ
 obtain⟨addr,buf,hh,ha,ho,he⟩:=hB.row
 refine⟨_,rfl, ?_⟩
 unfold iN
 simp only[go_sem,RM.cell_of hh]
 by_cases hx:xs=[]
 ·subst hx
  have hb0:=he rfl
  subst hb0
  simp only[Ah,go_sem]
  exact .inr ⟨rfl,rfl,hQ _ (ek.refl _ _ _)⟩
 ·obtain⟨nn,hnn⟩ : ∃ nn,xs.length=nn + 1:=⟨xs.length - 1,by have:=List.length_pos_iff.2 hx; omega⟩
  have hcs:cz byteOf (BY.row xs)=some xs:=by rw[qj]; exact xH xs
  have hl8:(BY.row xs).length=nn + 1:=by rw[BY.fu,hnn]; exact Nat.mul_one _
  have ho' : Own M n0 T8 1 buf (BY.row xs) (nn + 1):=by rw[← hnn]; exact ho
  generalize BY.row xs=cs at hcs hl8 ho'
  cases ho' with
  | op c n cs h1 h2 h3 h4 =>
    simp only[Ah,go_sem]
    refine .inl ⟨c,nn,cs,true,0,xs,rfl,rfl,by omega,h3,by omega,by rw[List.take_of_length_le (by omega)]; exact hcs,hQ _ ⟨rfl,Nat.le_refl _,fun d hd _=>?_⟩⟩
    simp only[go_sem]
    rw[if_neg (by omega)]
theorem iX.new {TB T8 n0 b:Nat} {M:RM} (hh:M.heap b=some (.row [.sc (.pointer none),aC] false TB 0)) (hb:b<n0) (hn:n0≤M.next) : iX TB T8 n0 M b [] :=
 ⟨hb,hn,_,_,hh,.inl rfl,.nil,fun _=>rfl⟩
theorem BO {s:List UInt8} {i:Nat} (hi:i<s.length) (kd:IntKind) (K:AV→Prop) : di (St s) (N kd (i:Int)) K=K (By s[i]):=by
 rw[LZ]
 apply propext
 constructor
 ·rintro⟨_,b,hb,hk⟩
  rw[Int.toNat_natCast,List.getElem?_eq_getElem hi] at hb
  cases hb; exact hk
 ·intro hk; exact⟨by omega,s[i],by rw[Int.toNat_natCast,List.getElem?_eq_getElem hi],hk⟩
def uV (c:UInt8) : List UInt8:=if c.toNat=92∨c.toNat=44∨c.toNat=59 then[92,c] else if c.toNat=10 then[92,110] else[c]
def esc (s:List UInt8) : List UInt8:=s.flatMap uV
theorem LY (s:List UInt8) : (esc s).length≤2 * s.length:=by
 induction s with
 | nil=>simp[esc]
 | cons c s ih =>
   have:(uV c).length≤2:=by unfold uV; split <;> (try split) <;> simp
   simp only[esc,List.flatMap_cons,List.length_append,List.length_cons] at ih ⊢
   omega
theorem Qn (s:List UInt8) {i:Nat} (hi:i<s.length) : esc (s.take (i + 1))=esc (s.take i)++uV s[i]:=by
 rw[List.take_succ_eq_append_getElem hi,esc,List.flatMap_append]; simp[esc]
theorem Jh (s:List UInt8) (i:Nat) : (esc (s.take i)).length≤2 * s.length:=by
 have:=LY (s.take i); simp at this; omega
def NJ (c:aj) : Prop:=∀ {M:RM} {s:List UInt8} {Q:ai},s.length≤100000000→(∀ M',ae [] M M'→Q (St (esc s)) M')→c [St s] M Q
theorem KS {TB T8:Nat} {cw cs ct:aj} (hw:rq TB T8 cw) (hs:nW TB T8 cs) (ht:rJ TB T8 ct) : NJ fun args M Q=>∃ a0,args=[a0]∧pF TB T8 cw cs ct a0 M Q:=by
 intro M s Q hl hQ
 refine⟨_,rfl, ?_⟩
 unfold pF
 simp only[aF,qp,rT]
 generalize hM1:M.push (.row [.sc (.pointer none),.sc (.slice none 0 0)] false TB 0)=M1
 have hn1:M1.next=M.next + 1:=by rw[← hM1]; rfl
 generalize hM2:M1.push (.row (BY.row s) true T8 0)=M2
 have hn2:M2.next=M1.next + 1:=by rw[← hM2]; rfl
 have hk2:ae [] M M2:=by rw[← hM2,← hM1]; exact((ae.refl _ _).push _).push _
 have hb0:iX TB T8 M2.next M2 M.next []:=iX.new (by rw[← hM2,← hM1]; simp[go_sem]) (by omega) (Nat.le_refl _)
 have hr0:Rw BY M2 M1.next true T8 s:=by rw[← hM2]; exact Rw.new M1 s
 refine aR (fun m ys M3=>∃ i:Nat,m=s.length - i∧ys=[N .i64 i]∧i≤s.length∧iX TB T8 M2.next M3 M.next (esc (s.take i))∧ek M2.next [M.next] M2 M3) _
  ⟨0,rfl,rfl,Nat.zero_le _,by simpa [esc] using hb0,ek.refl _ _ _⟩ ?_
 rintro next m ys M3 hnext ⟨i,rfl,rfl,hi,hB,hK⟩
 have hr3:Rw BY M3 M1.next true T8 s:=⟨hK.ax hr0.heap (by omega) (by simp; omega),by have:=hK.next; omega⟩
 have hel:=Jh s i
 simp only[go_sem]
 refine⟨fun hlt=>?_,fun hge=>?_⟩
 ·have hlt:i<s.length:=by simpa using hlt
  have hc:=hr3.ak hlt
  have hstep:=Qn s hlt
  generalize s[i]=c at *
  have fin:∀ M4,iX TB T8 M2.next M4 M.next (esc (s.take (i + 1)))→ek M2.next [M.next] M3 M4→next [N .i64 (IntKind.i64.wrap ((i:Int) + 1))] M4:=fun M4 h1 h2=>by
   rw[lG (by omega)]
   exact hnext _ _ _ (by omega) ⟨i + 1,rfl,rfl,by omega,h1,hK.trans h2⟩
  refine⟨by omega,By c,hc, ?_⟩
  have two:uV c=[92,c]→cw [.ptr M.next 0,N .u8 92] M3 fun t20 M_5=>cw [.ptr M.next 0,By c] M_5 fun t22 M_6=>next [N .i64 (IntKind.i64.wrap ((i:Int) + 1))] M_6:=fun he=>by
   refine hw (x:=92) hB (by omega) fun M4 h4 k4=>?_
   refine hw (x:=c) h4 (by simp; omega) fun M5 h5 k5=>fin M5 ?_ (k4.trans k5)
   rw[hstep,he]; simpa using h5
  by_cases h1:c.toNat=92
  ·have e1:((c.toNat:Int) == 92)=true:=by rw[h1]; rfl
   simp only[e1,go_sem]
   exact two (by simp[uV,h1])
  have e1:((c.toNat:Int) == 92)=false:=by simp; omega
  by_cases h2:c.toNat=44
  ·have e2:((c.toNat:Int) == 44)=true:=by rw[h2]; rfl
   simp only[e1,e2,go_sem]
   exact two (by simp[uV,h2])
  have e2:((c.toNat:Int) == 44)=false:=by simp; omega
  by_cases h3:c.toNat=59
  ·have e3:((c.toNat:Int) == 59)=true:=by rw[h3]; rfl
   simp only[e1,e2,e3,go_sem]
   exact two (by simp[uV,h3])
  have e3:((c.toNat:Int) == 59)=false:=by simp; omega
  by_cases h4:c.toNat=10
  ·have e4:((c.toNat:Int) == 10)=true:=by rw[h4]; rfl
   simp only[e1,e2,e3,e4,go_sem]
   refine hs (s:=[92,110]) hB (by simp; omega) fun M4 h5 k4=>fin M4 ?_ k4
   rw[hstep]; simpa [uV,h1,h2,h3,h4] using h5
  have e4:((c.toNat:Int) == 10)=false:=by simp; omega
  simp only[e1,e2,e3,e4,go_sem]
  refine hw (x:=c) hB (by omega) fun M4 h5 k4=>fin M4 ?_ k4
  rw[hstep]; simpa [uV,h1,h2,h3,h4] using h5
 ·have:i=s.length:=by simp at hge; omega
  subst this
  rw[List.take_length] at hB hel
  refine ht hB (by omega) fun M4 k4=>hQ M4 ?_
  refine hk2.F6 (hK.trans ⟨k4.base,k4.next,fun c h1 h2=>k4.heap c h1 (by simp)⟩) (by omega) fun c hc=>.inl (by simp at hc; omega)
def nM (d:UInt8) : Prop:=d.toNat=92∨d.toNat=44∨d.toNat=59∨d.toNat=58
instance (d:UInt8) : Decidable (nM d):=inferInstanceAs (Decidable (_∨_))
def Hd (d:UInt8) : Prop:=d.toNat=110∨d.toNat=78
instance (d:UInt8) : Decidable (Hd d):=inferInstanceAs (Decidable (_∨_))
def eG:List UInt8→Option (List UInt8)
 | []=>some []
 | c :: s=>if c.toNat≠92 then(eG s).map (c :: ·) else match s with
   | []=>none
   | d :: s=>if Hd d then(eG s).map (10 :: ·) else if nM d then(eG s).map (d :: ·) else none
theorem Ct {c:UInt8} {s:List UInt8} (h:c.toNat≠92) : eG (c :: s)=(eG s).map (c :: ·):=by
 cases s <;> simp[eG,h]
theorem Ho {c:UInt8} (h:c.toNat=92) : eG [c]=none:=by simp[eG,h]
theorem Fu {c d:UInt8} {s:List UInt8} (h:c.toNat=92) (hd:Hd d) : eG (c :: d :: s)=(eG s).map (10 :: ·):=by rw[eG]; simp[h,hd]
theorem Eh {c d:UInt8} {s:List UInt8} (h:c.toNat=92) (hn:¬ Hd d) (hd:nM d) : eG (c :: d :: s)=(eG s).map (d :: ·):=by rw[eG]; simp[h,hn,hd]
theorem GH {c d:UInt8} {s:List UInt8} (h:c.toNat=92) (hn:¬ Hd d) (hd:¬ nM d) : eG (c :: d :: s)=none:=by rw[eG]; simp[h,hn,hd]
def oJ (c:aj) : Prop:=∀ {M:RM} {s:List UInt8} {x:UInt8} {Q:ai},Q (N .i64 (Lib.indexByte s x)) M→c [St s,By x] M Q
theorem pI (l:List UInt8) (x:UInt8) : (Lib.indexByte l x ≥ 0)↔x∈l:=by
 induction l with
 | nil=>simp[Lib.indexByte]
 | cons y ys ih =>
   simp only[Lib.indexByte]
   have:=Lib.indexByte_ge ys x
   by_cases h:y=x
   ·subst h; simp
   ·have hb:(y == x)=false:=by simpa using h
    have h' : ¬ x=y:=fun e=>h e.symm
    simp only[hb,List.mem_cons,h',false_or]
    rw[← ih]
    simp
    split <;> omega
theorem IZ (d:UInt8) : d∈([92,44,59,58] : List UInt8)↔nM d:=by
 unfold nM
 simp only[List.mem_cons,List.not_mem_nil,or_false,← UInt8.toNat_inj]
 exact Iff.rfl
def sj (bad good:AV) (s:List UInt8) : AV:=match eG s with
 | some x=>.tup [St x,good]
 | none=>.tup [St [],bad]
def JR (bad good:AV) (c:aj) : Prop:=∀ {M:RM} {s:List UInt8} {Q:ai},s.length≤1000000→(∀ M',ae [] M M'→Q (sj bad good s) M')→c [St s] M Q
theorem qm:∀ (n:Nat) (s x:List UInt8),s.length≤n→eG s=some x→x.length≤s.length
 | _,[],x,_,h=>by simp[eG] at h; subst h; simp
 | n + 1,c :: s,x,hl,h=>by
   simp at hl
   by_cases h1:c.toNat=92
   ·cases s with
    | nil=>rw[Ho h1] at h; cases h
    | cons d s =>
      simp at hl
      by_cases h2:Hd d
      ·rw[Fu h1 h2] at h
       obtain⟨y,hy,rfl⟩:=Option.map_eq_some_iff.1 h
       have:=qm n s y (by omega) hy
       simp; omega
      ·by_cases h3:nM d
       ·rw[Eh h1 h2 h3] at h
        obtain⟨y,hy,rfl⟩:=Option.map_eq_some_iff.1 h
        have:=qm n s y (by omega) hy
        simp; omega
       ·rw[GH h1 h2 h3] at h; cases h
   ·rw[Ct h1] at h
    obtain⟨y,hy,rfl⟩:=Option.map_eq_some_iff.1 h
    have:=qm n s y (by omega) hy
    simp; omega
theorem Hy {TB T8:Nat} {cw ci ct:aj} (hw:rq TB T8 cw) (hi:oJ ci) (ht:rJ TB T8 ct) :
  JR (N .i64 14) (N .i64 0) fun args M Q=>∃ a0,args=[a0]∧ny TB cw ci ct a0 M Q:=by
 intro M s Q hl hQ
 refine⟨_,rfl, ?_⟩
 unfold ny
 simp only[dH,aF]
 generalize hM1:M.push (.row [.sc (.pointer none),.sc (.slice none 0 0)] false TB 0)=M1
 have hn1:M1.next=M.next + 1:=by rw[← hM1]; rfl
 have hk1:ae [] M M1:=by rw[← hM1]; exact(ae.refl _ _).push _
 have hb0:iX TB T8 M1.next M1 M.next []:=iX.new (by rw[← hM1]; simp[go_sem]) (by omega) (Nat.le_refl _)
 have fin:∀ {M' : RM},ek M1.next [M.next] M1 M'→ae [] M M':=fun h=>hk1.F6 h (by omega) fun c hc=>.inl (by simp at hc; omega)
 refine aR (fun m ys M3=>∃ (i:Nat) (out:List UInt8),m=s.length - i∧ys=[N .i64 i]∧i≤s.length∧iX TB T8 M1.next M3 M.next out∧ek M1.next [M.next] M1 M3∧out.length≤i ∧
  eG s=(eG (s.drop i)).map (out ++ ·)) _
  ⟨0,[],rfl,rfl,Nat.zero_le _,hb0,ek.refl _ _ _,by simp,by simp⟩ ?_
 rintro next m ys M3 hnext ⟨i,out,rfl,rfl,hile,hB,hK,hol,hu⟩
 simp only[go_sem]
 refine⟨fun hlt=>?_,fun hge=>?_⟩
 ·have hlt:i<s.length:=by simpa using hlt
  have hg:s[i]?=some s[i]:=List.getElem?_eq_getElem hlt
  have hd:=List.drop_eq_getElem_cons hlt
  generalize s[i]=c at *
  simp only[hg,go_sem,lG (show i<9223372036854775807 by omega)]
  by_cases h1:c.toNat=92
  ·have e1:((c.toNat:Int) != 92)=false:=by rw[h1]; rfl
   simp only[e1,go_sem]
   by_cases hlt2:i + 1<s.length
   ·have e2:decide (((i + 1:Nat) : Int)<(s.length:Int))=true:=by simp; omega
    have hg2:s[i + 1]?=some s[i + 1]:=List.getElem?_eq_getElem hlt2
    have hd2:=List.drop_eq_getElem_cons hlt2
    generalize s[i + 1]=d at *
    have go:∀ (x:UInt8),eG (c :: d :: s.drop (i + 2))=(eG (s.drop (i + 2))).map (x :: ·)→∀ M4,iX TB T8 M1.next M4 M.next (out++[x])→ek M1.next [M.next] M3 M4→next [N .i64 ((i + 1 + 1:Nat) : Int)] M4:=fun x hx M4 h4 k4=>by
     refine hnext _ _ _ (by omega) ⟨i + 2,out++[x],rfl,rfl,by omega,h4,hK.trans k4,by simp; omega, ?_⟩
     rw[hu,hd,hd2,hx,Option.map_map]
     congr 1
     funext y; simp
    simp only[e2,hg2,go_sem,lG (show i + 1<9223372036854775807 by omega)]
    have bad:eG (c :: d :: s.drop (i + 2))=none→sj (N .i64 14) (N .i64 0) s=.tup [St [],N .i64 14]:=fun h=>by
     simp[sj,hu,hd,hd2,h]
    by_cases h2:d.toNat=110
    ·have e3:((d.toNat:Int) == 110)=true:=by rw[h2]; rfl
     simp only[e3,go_sem]
     exact hw (x:=10) hB (by omega) fun M4 h4 k4=>go 10 (Fu h1 (.inl h2)) M4 h4 k4
    have e3:((d.toNat:Int) == 110)=false:=by simp; omega
    by_cases h3:d.toNat=78
    ·have e4:((d.toNat:Int) == 78)=true:=by rw[h3]; rfl
     simp only[e3,e4,go_sem]
     exact hw (x:=10) hB (by omega) fun M4 h4 k4=>go 10 (Fu h1 (.inr h3)) M4 h4 k4
    have e4:((d.toNat:Int) == 78)=false:=by simp; omega
    have hn:¬ Hd d:=by unfold Hd; omega
    simp only[e3,e4,go_sem]
    refine hi (s:=[92,44,59,58]) (x:=d) ?_
    simp only[go_sem]
    refine⟨fun h=>?_,fun h=>?_⟩
    ·have hm:nM d:=(IZ d).1 ((pI _ _).1 (of_decide_eq_true h))
     exact hw (x:=d) hB (by omega) fun M4 h4 k4=>go d (Eh h1 hn hm) M4 h4 k4
    ·have hm:¬ nM d:=fun hm=>(of_decide_eq_false h) ((pI _ _).2 ((IZ d).2 hm))
     rw[← bad (GH h1 hn hm)]
     exact hQ _ (fin hK)
   ·have e2:decide (((i + 1:Nat) : Int)<(s.length:Int))=false:=by simp; omega
    simp only[e2,go_sem]
    have:s.drop (i + 1)=[]:=List.drop_of_length_le (by omega)
    have hb:sj (N .i64 14) (N .i64 0) s=.tup [St [],N .i64 14]:=by simp[sj,hu,hd,this,Ho h1]
    rw[← hb]
    exact hQ _ (fin hK)
  ·have e1:((c.toNat:Int) != 92)=true:=by simp; omega
   simp only[e1,go_sem]
   refine hw (x:=c) hB (by omega) fun M4 h4 k4=>?_
   refine hnext _ _ _ (by omega) ⟨i + 1,out++[c],rfl,rfl,by omega,h4,hK.trans k4,by simp; omega, ?_⟩
   rw[hu,hd,Ct h1,Option.map_map]
   congr 1
   funext y; simp
 ·have:i=s.length:=by simp at hge; omega
  subst this
  refine ht hB (by omega) fun M4 k4=>?_
  have:=hQ M4 (fin (hK.trans ⟨k4.base,k4.next,fun c h1 h2=>k4.heap c h1 (by simp)⟩))
  simpa [sj,hu,eG] using this
def IM (x:UInt8) : List UInt8→List UInt8→Bool→List (List UInt8)
 | [],cur,_=>[cur]
 | c :: s,cur,odd=>if c=x∧odd=false then cur :: IM x s [] (decide (c.toNat=92) && !odd) else IM x s (cur++[c]) (decide (c.toNat=92) && !odd)
def parts (x:UInt8) (s:List UInt8) : List (List UInt8):=IM x s [] false
theorem K7 {s:List UInt8} {l h:Nat} (h1:l≤h) (h2:h≤s.length) (k1 k2:IntKind) : aS (St s) (some (N k1 (l:Int))) (some (N k2 (h:Int)))=some (St ((s.drop l).take (h - l))):=by
 simp only[aS,bnd]
 simp[h1,h2]
theorem bB {s:List UInt8} {l:Nat} (h1:l≤s.length) (k1:IntKind) : aS (St s) (some (N k1 (l:Int))) none=some (St (s.drop l)):=by
 simp only[aS,bnd]
 simp[h1]
 rw[List.take_of_length_le (by simp)]
set_option maxRecDepth 100000
def Yb (n b0 b1 b2 b3:Nat) : Nat:=if Lib.decodeN n b0 b1 b2 b3=(65533,1) then 0 else(Lib.decodeN n b0 b1 b2 b3).2
section
variable {n b0 b1 b2 b3:Nat}
end
def bt (s:List UInt8) (i:Nat) : Nat:=(s.getD i 0).toNat
theorem Io {s:List UInt8} {i:Nat} (hi:i<s.length) : s[i].toNat=bt s i:=by simp[bt,List.getD_eq_getElem?_getD,hi]
def dec (s:List UInt8) : Nat × Nat:=Lib.decodeN s.length (bt s 0) (bt s 1) (bt s 2) (bt s 3)
def rk (s:List UInt8) : Nat:=if s=[] then 0 else Yb s.length (bt s 0) (bt s 1) (bt s 2) (bt s 3)
def rs (s:List UInt8) : Nat:=if s=[] then 0 else(dec s).2
theorem Ak (s:List UInt8) : 1≤(dec s).2:=Lib.decodeN_ge1 _ _ _ _ _
theorem NB (n b0 b1 b2 b3:Nat) (hn:1≤n) : (Lib.decodeN n b0 b1 b2 b3).2≤n∧(Lib.decodeN n b0 b1 b2 b3).2≤4:=by
 unfold Lib.decodeN
 repeat' split
 all_goals (simp; try omega)
theorem sM {s:List UInt8} (h:s≠[]) : 1≤rs s:=by simp only[rs,if_neg h]; exact Ak s
theorem DV {s:List UInt8} (h:s≠[]) : rs s≤s.length∧rs s≤4:=by
 simp only[rs,if_neg h]
 exact NB _ _ _ _ _ (List.length_pos_iff.2 h)
def acc (v0:Nat) (s:List UInt8) : Nat→Nat
 | 0=>v0
 | k + 1=>64 * acc v0 s k + bt s (k + 1) - 128
def BJ (f:(List AV→RM→Prop)→Prop) (g:List AV→RM→Prop) : Prop:=f g
theorem dI (f:(List AV→RM→Prop)→Prop) (g:List AV→RM→Prop) : bY f g=BJ f g:=rfl
theorem wZ {f:(List AV→RM→Prop)→Prop} {g:List AV→RM→Prop} (h:f g) : BJ f g:=h
theorem bN {H:(List AV→RM→Prop)→Prop} {G:List AV→RM→Prop} (P:List AV→RM→Prop) (hT:∀ xs M,P xs M→G xs M)
  (hH:∀ J:List AV→RM→Prop,(∀ xs M,P xs M→J xs M)→H J) : BJ H G:=hH G hT
theorem wX {x:Int} (h : -9223372036854775808≤x) (k:x<9223372036854775808) : IntKind.wrap .i64 x=x:=eD (by omega) (by omega)
set_option maxRecDepth 10000
theorem vV {s:List UInt8} (h:s≠[]) {k:Nat} (hk:1≤k) : (s.drop k).length<s.length:=by
 have:=List.length_pos_iff.2 h
 simp; omega
def uy (s:List UInt8) : Bool:=if s=[] then true else if h:rk s=0 then false else uy (s.drop (rk s)) termination_by s.length decreasing_by exact vV (by assumption) (by omega)
theorem S9:uy []=true:=by rw[uy]; simp
theorem Tx {s:List UInt8} (hne:s≠[]) (h:rk s=0) : uy s=false:=by rw[uy]; simp[hne,h]
theorem Qz {s:List UInt8} (h:rk s≠0) : uy s=uy (s.drop (rk s)):=by
 have hne:s≠[]:=by intro e; subst e; simp[rk] at h
 rw[uy]; simp[hne,h]
def fo (u:Nat) (s:List UInt8) : List UInt8 :=
 if s=[] then[] else if u + rs s > 75 then[13,10,32]++s.take (rs s)++fo (1 + rs s) (s.drop (rs s)) else s.take (rs s)++fo (u + rs s) (s.drop (rs s)) termination_by s.length decreasing_by all_goals exact vV (by assumption) (sM (by assumption))
theorem EJ (u:Nat) : fo u []=[]:=by rw[fo]; simp
theorem Jj {u:Nat} {s:List UInt8} (hne:s≠[]) (h:75<u + rs s) : fo u s=[13,10,32]++s.take (rs s)++fo (1 + rs s) (s.drop (rs s)):=by
 rw[fo,if_neg hne,if_pos (by omega)]
theorem Gn {u:Nat} {s:List UInt8} (hne:s≠[]) (h:u + rs s≤75) : fo u s=s.take (rs s)++fo (u + rs s) (s.drop (rs s)):=by
 rw[fo,if_neg hne,if_neg (by omega)]
def pc (lim:Nat) (s:List UInt8) : Nat:=if s=[] then 0 else if rs s > lim then 0 else rs s + pc (lim - rs s) (s.drop (rs s)) termination_by s.length decreasing_by exact vV (by assumption) (sM (by assumption))
theorem OL (l:Nat) : pc l []=0:=by rw[pc]; simp
theorem Kk {l:Nat} {s:List UInt8} (h:l<rs s) : pc l s=0:=by rw[pc]; simp; intro _ _; omega
theorem BF {l:Nat} {s:List UInt8} (hne:s≠[]) (h:rs s≤l) : pc l s=rs s + pc (l - rs s) (s.drop (rs s)):=by
 rw[pc,if_neg hne,if_neg (by omega)]
theorem Sb:∀ (n:Nat) {l:Nat} {s:List UInt8},s.length≤n→pc l s≤s.length
 | n,l,s,hn=>by
   by_cases hne:s=[]
   ·subst hne; simp[OL]
   by_cases h:l<rs s
   ·simp[Kk h]
   rw[BF hne (by omega)]
   have h1:=sM hne
   have h2:=DV hne
   cases n with
   | zero=>exact absurd (List.eq_nil_of_length_eq_zero (by omega)) hne
   | succ n =>
     have:=Sb n (l:=l - rs s) (s:=s.drop (rs s)) (by simp; omega)
     simp at this; omega
theorem UN {l:Nat} {s:List UInt8} (hne:s≠[]) (h:4≤l) : 1≤pc l s:=by
 have h1:=sM hne
 have h2:=DV hne
 rw[BF hne (by omega)]; omega
theorem Sn:∀ (n:Nat) {u:Nat} {s:List UInt8},s.length≤n→u≤75→fo u s=s.take (pc (75 - u) s)++(if s.drop (pc (75 - u) s)=[] then[] else[13,10,32]++fo 1 (s.drop (pc (75 - u) s)))
 | n,u,s,hn,hu=>by
   by_cases hne:s=[]
   ·subst hne; simp[EJ]
   have h1:=sM hne
   have h2:=DV hne
   by_cases h:75<u + rs s
   ·rw[Kk (by omega),Jj hne h]
    simp only[List.take_zero,List.drop_zero,List.nil_append,if_neg hne]
    rw[Gn (u:=1) hne (by omega)]; simp
   ·rw[BF hne (by omega),Gn hne (by omega)]
    cases n with
    | zero=>exact absurd (List.eq_nil_of_length_eq_zero (by omega)) hne
    | succ n =>
      rw[Sn n (u:=u + rs s) (by simp; omega) (by omega),List.take_add,← List.drop_drop,show 75 - (u + rs s)=75 - u - rs s by omega,List.append_assoc]
theorem E5:∀ (n:Nat) {u:Nat} {s:List UInt8},s.length≤n→(fo u s).length≤4 * s.length
 | n,u,s,hn=>by
   by_cases hne:s=[]
   ·subst hne; simp[EJ]
   have h1:=sM hne
   have h2:=DV hne
   cases n with
   | zero=>exact absurd (List.eq_nil_of_length_eq_zero (by omega)) hne
   | succ n =>
     by_cases h:75<u + rs s
     ·rw[Jj hne h]
      have:=E5 n (u:=1 + rs s) (s:=s.drop (rs s)) (by simp; omega)
      simp at this ⊢; omega
     ·rw[Gn hne (by omega)]
      have:=E5 n (u:=u + rs s) (s:=s.drop (rs s)) (by simp; omega)
      simp at this ⊢; omega
theorem gm {s:List UInt8} {h:Nat} (h2:h≤s.length) (k2:IntKind) : aS (St s) none (some (N k2 (h:Int)))=some (St (s.take h)):=by
 have:=K7 (s:=s) (l:=0) (h:=h) (by omega) h2 .i64 k2
 rw[List.drop_zero,Nat.sub_zero] at this; exact this
theorem SS {α:Type} {l t s:List α} (h:l++t=s) : l.length≤s.length:=by rw[← h]; simp
def UC (B:Base) (c:aj) : Prop:=∀ {M:RM} {s:List UInt8} {Q:ai},M.base=B→s≠[]→s.length≤1000000→(∀ r:AV,Q (.tup [r,N .i64 (rs s)]) M)→c [St s] M Q
def Jf (B:Base) (c:aj) : Prop:=∀ {M:RM} {s:List UInt8} {l:Nat} {Q:ai},M.base=B→s.length≤1000000→l≤1000→Q (N .i64 (pc l s)) M→c [St s,N .i64 l] M Q
theorem NU {B:Base} {cd:aj} (hd:UC B cd) : Jf B fun args M Q=>∃ a0 a1,args=[a0,a1]∧qD cd a0 a1 M Q:=by
 intro M s l Q hM hl hll hQ
 refine⟨_,_,rfl, ?_⟩
 unfold qD
 simp only[go_sem]
 refine aR (fun m ys M'=>M'=M∧∃ i:Nat,m=s.length - i∧ys=[N .i64 i]∧i≤s.length∧i≤l∧i + pc (l - i) (s.drop i)=pc l s) _ ⟨rfl,0,rfl,rfl,Nat.zero_le _,Nat.zero_le _,by simp⟩ ?_
 rintro next m ys M' hnext ⟨rfl,i,rfl,rfl,hi,hil,hp⟩
 simp only[go_sem]
 refine⟨fun hlt=>?_,fun hge=>?_⟩
 ·have hlt:i<s.length:=by have:=of_decide_eq_true hlt; omega
  have hne:s.drop i≠[]:=by intro e; have:=congrArg List.length e; simp at this; omega
  have h1:=sM hne
  have h2:=DV hne
  rw[List.length_drop] at h2
  rw[bB hi]
  simp only[go_sem]
  refine hd hM hne (by simp; omega) fun r=>?_
  have e1:IntKind.wrap .i64 ((i:Int) + (rs (s.drop i) : Int))=((i + rs (s.drop i) : Nat) : Int):=by rw[wX (by omega) (by omega)]; omega
  simp only[go_sem,e1]
  refine⟨fun h=>?_,fun h=>?_⟩
  ·have h:l<i + rs (s.drop i):=by have:=of_decide_eq_true h; omega
   rw[Kk (by omega),Nat.add_zero] at hp
   rw[hp]; exact hQ
  ·have h:i + rs (s.drop i)≤l:=by have:=of_decide_eq_false h; omega
   rw[BF hne (by omega),List.drop_drop] at hp
   exact hnext _ _ _ (by omega) ⟨rfl,_,rfl,rfl,by omega,h,by rw[← hp,show l - (i + rs (s.drop i))=l - i - rs (s.drop i) by omega]; omega⟩
 ·have hge:s.length≤i:=by have:=of_decide_eq_false hge; omega
  rw[List.drop_eq_nil_of_le hge,OL,Nat.add_zero] at hp
  rw[hp]; exact hQ
theorem P7 {B:Base} {TB T8:Nat} {cp cs ct:aj} (hp:Jf B cp) (hs:nW TB T8 cs) (ht:rJ TB T8 ct) {M:RM} {s:List UInt8} {Q:ai} (hM:M.base=B) (hl:s.length≤1000000) (hQ:∀ M',ae [] M M'→Q (St (fo 0 s)) M') :
  sQ TB cp cs ct (St s) M Q:=by
 unfold sQ
 simp only[aF]
 generalize hM2:M.push (.row [.sc (.pointer none),.sc (.slice none 0 0)] false TB 0)=M2
 have hn2:M2.next=M.next + 1:=by rw[← hM2]; rfl
 have hk2:ae [] M M2:=by rw[← hM2]; exact(ae.refl _ _).push _
 have hb0:iX TB T8 M2.next M2 M.next []:=iX.new (by rw[← hM2]; simp[go_sem]) (by omega) (Nat.le_refl _)
 have hfl:=E5 s.length (u:=0) (s:=s) (Nat.le_refl _)
 refine aR (fun m ys M3=>∃ (t w:List UInt8) (u:Nat),m=t.length∧ys=[St t,N .i64 ((75 - u:Nat) : Int)]∧u≤1∧t.length≤s.length∧iX TB T8 M2.next M3 M.next w∧w++fo u t=fo 0 s∧ek M2.next [M.next] M2 M3) _
  ⟨s,[],0,rfl,rfl,by omega,Nat.le_refl _,hb0,rfl,ek.refl _ _ _⟩ ?_
 rintro next m ys M3 hnext ⟨t,w,u,rfl,rfl,hu,ht',hB,hw,hK⟩
 have hwl:=SS hw
 by_cases hne:t=[]
 ·subst hne
  simp only[go_sem,bne_self_eq_false]
  rw[EJ,List.append_nil] at hw
  subst hw
  refine ht hB (by omega) fun M4 k4=>hQ M4 ?_
  refine hk2.F6 (hK.trans ⟨k4.base,k4.next,fun c h1 h2=>k4.heap c h1 (by simp)⟩) (by omega) fun c hc=>.inl (by simp at hc; omega)
 ·have hne' : (t != [])=true:=by simp[hne]
  simp only[go_sem,hne']
  have hb3:M3.base=B:=by rw[hK.base,hk2.base,hM]
  refine hp hb3 (by omega) (by omega) ?_
  have hpl:=Sb t.length (l:=75 - u) (s:=t) (Nat.le_refl _)
  have hpp:=UN hne (show 4≤75 - u by omega)
  rw[Sn t.length (Nat.le_refl _) (by omega)] at hw
  generalize pc (75 - u) t=n at *
  rw[gm hpl,bB hpl]
  simp only[go_sem]
  have hx:=congrArg List.length hw
  simp only[List.length_append] at hx
  refine hs hB (by omega) fun M4 hB4 k4=>?_
  by_cases hz:t.drop n=[]
  ·rw[hz]
   simp only[go_sem,bne_self_eq_false]
   refine hnext _ _ _ (by simp; exact List.length_pos_iff.2 hne) ⟨[],_,1,rfl,rfl,by omega,Nat.zero_le _,hB4, ?_,hK.trans k4⟩
   rw[if_pos hz] at hw
   rw[EJ,← hw]; simp
  ·have hz' : (t.drop n != [])=true:=by simp[hz]
   rw[if_neg hz] at hw hx
   simp only[go_sem,hz']
   simp only[List.length_append,List.length_cons,List.length_nil] at hx
   refine hs (s:=[13,10,32]) hB4 (by simp; omega) fun M5 hB5 k5=>?_
   refine hnext _ _ _ (vV hne hpp) ⟨_,_,1,rfl,rfl,by omega,by simp; omega,hB5, ?_,(hK.trans k4).trans k5⟩
   rw[← hw]; simp
def nl:List UInt8→Option (List UInt8 × List UInt8)
 | []=>none
 | c :: t=>if c.toNat=10 then some ([],t) else(nl t).map fun p=>(c :: p.1,p.2)
theorem JF:∀ s:List UInt8,(nl s=none∧Lib.indexByte s 10=-1)∨∃ a b,nl s=some (a,b)∧Lib.indexByte s 10=(a.length:Int)∧s=a++10 :: b
 | []=>.inl ⟨rfl,rfl⟩
 | c :: t=>by
   by_cases h:c.toNat=10
   ·obtain rfl:c=10:=UInt8.toNat_inj.1 h
    exact .inr ⟨[],t,by simp[nl],by simp[Lib.indexByte],rfl⟩
   ·have hc:(c == (10:UInt8))=false:=by
     simp only[beq_eq_false_iff_ne,ne_eq]
     intro e; subst e; exact h rfl
    rcases JF t with⟨h1,h2⟩ | ⟨a,b,h1,h2,h3⟩
    ·exact .inl ⟨by simp[nl,h,h1],by simp[Lib.indexByte,hc,h2]⟩
    ·refine .inr ⟨c :: a,b,by simp[nl,h,h1], ?_,by rw[h3]; rfl⟩
     have:((a.length:Int) == -1)=false:=by simp
     simp[Lib.indexByte,hc,h2,this]
def strip (s:List UInt8) : List UInt8:=if s.drop (s.length - 1)=[13] then s.take (s.length - 1) else s
theorem Pj (a:List UInt8) : (strip a).length≤a.length:=by
 unfold strip; split
 ·simp
 ·exact Nat.le_refl _
def gZ:List UInt8→List UInt8→List (List UInt8)
 | cur,[]=>if cur=[] then[] else[cur]
 | cur,c :: t=>if c.toNat=10 then strip cur :: gZ [] t else gZ (cur++[c]) t
theorem Fy:∀ (s cur:List UInt8),gZ cur s=match nl s with | some (a,b)=>strip (cur++a) :: gZ [] b | none=>if cur++s=[] then[] else[cur++s]
 | [],cur=>by simp[gZ,nl]
 | c :: t,cur=>by
   by_cases h:c.toNat=10
   ·simp[gZ,nl,h]
   ·simp only[gZ,nl,if_neg h]
    rw[Fy t (cur++[c])]
    cases nl t with
    | none=>simp
    | some p=>simp
theorem sH:∀ (s cur:List UInt8),(gZ cur s).length≤s.length + 1
 | [],cur=>by simp only[gZ]; split <;> simp
 | c :: t,cur=>by
   simp only[gZ]
   split
   ·have:=sH t []
    simp; omega
   ·have:=sH t (cur++[c])
    simp; omega
def Ps (c:aj) : Prop:=∀ {M:RM} {s:List UInt8} {Q:ai},Q (N .i64 (Lib.indexByte s 10)) M→c [St s,St [10]] M Q
def Fq (s:List UInt8) : AV:=match nl s with
 | some (a,b)=>.tup [St a,St b,Bo true]
 | none=>.tup [St s,St [],Bo false]
def vG (c:aj) : Prop:=∀ {M:RM} {s:List UInt8} {Q:ai},s.length≤1000000000→Q (Fq s) M→c [St s,St [10]] M Q
theorem H8 {ci:aj} (hi:Ps ci) : vG fun args M Q=>∃ a0 a1,args=[a0,a1]∧dS ci a0 a1 M Q:=by
 intro M s Q hl hQ
 refine⟨_,_,rfl, ?_⟩
 unfold dS
 refine hi ?_
 unfold Fq at hQ
 rcases JF s with⟨h1,h2⟩ | ⟨a,b,h1,h2,h3⟩
 ·rw[h1] at hQ
  simp only[go_sem,h2]
  exact⟨fun h=>absurd h (by decide),fun _=>hQ⟩
 ·rw[h1] at hQ
  have hsl:=congrArg List.length h3
  simp at hsl
  rw[h2,eY,show decide ((a.length:Int) ≥ 0)=true by simp]
  refine⟨fun _=>?_,fun h=>by cases h⟩
  rw[gm (by omega)]
  simp only[go_sem]
  rw[show IntKind.wrap .i64 ((a.length:Int) + ((1:Nat) : Int))=((a.length + 1:Nat) : Int) by rw[wX (by omega) (by omega)]; omega]
  rw[bB (by omega)]
  simp only[go_sem]
  rw[h3]
  rw[show(a++10 :: b).take a.length=a by simp,show(a++10 :: b).drop (a.length + 1)=b by rw[← List.drop_drop]; simp]
  exact hQ
theorem DC {ci:aj} (hi:vG ci) : vG fun args M Q=>∃ a0 a1,args=[a0,a1]∧kN ci a0 a1 M Q:=by
 intro M s Q hl hQ
 refine⟨_,_,rfl, ?_⟩
 unfold kN
 refine hi hl ?_
 unfold Fq at hQ ⊢
 cases h:nl s with
 | none=>rw[h] at hQ; simpa only[go_sem] using hQ
 | some p=>rw[h] at hQ; simpa only[go_sem] using hQ
def yI (c:aj) : Prop:=∀ {M:RM} {s:List UInt8} {Q:ai},s.length≤1000000000→Q (Bo (decide (s.drop (s.length - 1)=[13]))) M→c [St s,St [13]] M Q
theorem FX:yI fun args M Q=>∃ a0 a1,args=[a0,a1]∧fC a0 a1 M Q:=by
 intro M s Q hl hQ
 refine⟨_,_,rfl, ?_⟩
 unfold fC
 simp only[dH]
 rw[bC,bC,eY]
 by_cases h:s=[]
 ·subst h
  simp only[go_sem,show decide ((([] : List UInt8).length:Int) ≥ (([13] : List UInt8).length:Int))=false from rfl]
  exact hQ
 ·have hpos:=List.length_pos_iff.2 h
  rw[show decide ((s.length:Int) ≥ (([13] : List UInt8).length:Int))=true by simp; omega]
  simp only[go_sem]
  rw[show IntKind.wrap .i64 ((s.length:Int) - ((1:Nat) : Int))=((s.length - 1:Nat) : Int) by rw[wX (by omega) (by omega)]; omega]
  rw[bB (by omega)]
  simp only[go_sem]
  have:(s.drop (s.length - 1) == [13])=decide (s.drop (s.length - 1)=[13]):=by
   by_cases e:s.drop (s.length - 1)=[13] <;> simp[e]
  rw[this]; exact hQ
def BX (c:aj) : Prop:=∀ {M:RM} {s:List UInt8} {Q:ai},s.length≤1000000000→Q (St (strip s)) M→c [St s,St [13]] M Q
theorem F5 {ch:aj} (hh:yI ch) : BX fun args M Q=>∃ a0 a1,args=[a0,a1]∧fA ch a0 a1 M Q:=by
 intro M s Q hl hQ
 refine⟨_,_,rfl, ?_⟩
 unfold fA
 refine hh hl ?_
 unfold strip at hQ
 by_cases e:s.drop (s.length - 1)=[13]
 ·rw[if_pos e] at hQ
  have hne:s≠[]:=by intro h; subst h; simp at e
  have hpos:=List.length_pos_iff.2 hne
  rw[decide_eq_true e]
  refine⟨fun _=>?_,fun h=>by cases h⟩
  simp only[go_sem]
  rw[show IntKind.wrap .i64 ((s.length:Int) - ((1:Nat) : Int))=((s.length - 1:Nat) : Int) by rw[wX (by omega) (by omega)]; omega]
  rw[gm (by omega)]
  simp only[go_sem]
  exact hQ
 ·rw[if_neg e] at hQ
  rw[decide_eq_false e]
  exact⟨fun h=>(by cases h),fun _=>hQ⟩
theorem Pk {ch:aj} (hh:BX ch) : BX fun args M Q=>∃ a0 a1,args=[a0,a1]∧kg ch a0 a1 M Q:=by
 intro M s Q hl hQ
 refine⟨_,_,rfl, ?_⟩
 unfold kg
 exact hh hl hQ
theorem VJ {n0 T:Nat} {M:RM} {v:AV} {xs:List (List UInt8)} {x:List UInt8} {K:AV→RM→Prop} (ho:Ow iW M n0 T v xs) (hn:n0≤M.next) (hl:xs.length≤2000000000)
  (hK:∀ v' M',Ow iW M' n0 T v' (xs++[x])→ae (aD v) M M'→(v'=v∨∀ b∈aD v',M.next≤b)→K v' M') :
  dV T 1 [St []] [(0,1,St x)] fun r f=>appW T 1 16 [St []] false v (f M.next) (M.push r) K:=by
 rw[iR (x:=St x) (size:=1) rfl rfl rfl]
 exact nG (E:=iW) (a:=x) ho hn (Nat.le_refl _) (by omega) (by omega) fun v' M' h1 h2 _ h4=>hK v' M' h1 h2 h4
theorem VL {n0 T:Nat} {M:RM} {v:AV} {xs:List Int} {x:Int} {K:AV→RM→Prop} (ho:Ow INT M n0 T v xs) (hn:n0≤M.next) (hl:xs.length≤2000000000)
  (hK:∀ v' M',Ow INT M' n0 T v' (xs++[x])→ae (aD v) M M'→(v'=v∨∀ b∈aD v',M.next≤b)→K v' M') :
  dV T 1 [N .i64 0] [(0,1,N .i64 x)] fun r f=>appW T 1 8 [N .i64 0] false v (f M.next) (M.push r) K:=by
 rw[iR (x:=N .i64 x) (size:=1) rfl rfl rfl]
 exact nG (E:=INT) (a:=x) ho hn (Nat.le_refl _) (by omega) (by omega) fun v' M' h1 h2 _ h4=>hK v' M' h1 h2 h4
theorem Vv {M:RM} {n0 T:Nat} {v:AV} {xs:List (List UInt8)} (ho:Ow iW M n0 T v xs) (hne:xs≠[]) : ∃ b,v=.slc b 0 xs.length (.op 1)∧Rw iW M b true T xs∧n0≤b:=by
 have ho' : Own M n0 T 1 v (iW.row xs) xs.length:=ho
 have hp:=List.length_pos_iff.2 hne
 generalize hcs:iW.row xs=cs at ho'
 generalize hn:xs.length=n at ho'
 cases ho' with
 | nil=>omega
 | ex0=>omega
 | op b n cs h1 h2 h3 h4=>exact⟨b,rfl,⟨by rw[h3,hcs],h2⟩,h1⟩
theorem Vn {M:RM} {n0 T b:Nat} {xs:List (List UInt8)} (h:Rw iW M b true T xs) (hb:n0≤b) : Ow iW M n0 T (.slc b 0 xs.length (.op 1)) xs :=
 Own.op b _ _ hb h.lt h.heap (by rw[iW.fu])
def isSp:List UInt8→Bool
 | []=>false
 | c :: _=>decide (c.toNat=32) || decide (c.toNat=9)
def glue (acc:List (List UInt8)) (x:List UInt8) : List (List UInt8):=if acc≠[]∧isSp x=true then acc.set (acc.length - 1) (acc.getD (acc.length - 1) []++x.drop 1) else acc++[x]
theorem Rt (acc:List (List UInt8)) (x:List UInt8) : (glue acc x).length≤acc.length + 1:=by
 unfold glue; split <;> simp
theorem Ql {t:List UInt8} (hne:t≠[]) : ∃ mU rest found,Fq t=.tup [St mU,St rest,Bo found]∧rest.length<t.length∧mU.length + rest.length≤t.length∧gZ [] t=(if found then strip mU else mU) :: gZ [] rest:=by
 have hp:=List.length_pos_iff.2 hne
 rcases JF t with⟨h1,_⟩ | ⟨a,b,h1,_,h3⟩
 ·exact⟨t,[],false,by simp[Fq,h1],by simpa using hp,by simp,by rw[Fy,h1]; simp[hne,gZ]⟩
 ·have:=congrArg List.length h3
  simp at this
  exact⟨a,b,true,by simp[Fq,h1],by omega,by omega,by rw[Fy,h1]; simp⟩
def Rl (s:List UInt8) : Prop:=∀ b∈s,b.toNat≠10
theorem Rl.drop {s:List UInt8} (h:Rl s) (n:Nat) : Rl (s.drop n):=fun b hb=>h b (List.mem_of_mem_drop hb)
def Pg (B:Base) (c:aj) : Prop:=∀ {M:RM} {s:List UInt8} {Q:ai},M.base=B→s.length≤1000000→(∀ M',ae [] M M'→Q (St (fo 0 s)) M')→c [St s] M Q
def kI (acc:List (List UInt8)) (ns:List Int) (k:Int) : List (List UInt8)→List (List UInt8) × List Int
 | []=>(acc,ns)
 | x :: xs=>kI (glue acc x) (if acc≠[]∧isSp x=true then ns else ns++[k]) (IntKind.i64.wrap (k + 1)) xs
def CP (T TI:Nat) (c:aj) : Prop:=∀ {M:RM} {s:List UInt8} {Q:ai},s.length≤100000000 →
 (∀ v u M',Ow iW M' M.next T v (kI [] [] 1 (gZ [] s)).1→Ow INT M' M.next TI u (kI [] [] 1 (gZ [] s)).2→(∀ b∈aD v,b ∉ aD u)→ae [] M M'→Q (.tup [v,u]) M')→c [St s] M Q
theorem Kz {T TI:Nat} {cc ct:aj} (hc:vG cc) (ht:BX ct) : CP T TI fun args M Q=>∃ a0,args=[a0]∧oU cc ct T TI a0 M Q:=by
 intro M s Q hl hQ
 refine⟨_,rfl, ?_⟩
 unfold oU
 simp only[dH,dI]
 refine aR (fun m ys M3=>∃ (t:List UInt8) (v u:AV) (acc:List (List UInt8)) (ns:List Int) (k:Int),m=t.length∧ys=[St t,v,u,N .i64 k]∧acc.length + t.length≤s.length∧(∀ x∈acc,x.length + t.length≤s.length)∧ns.length + t.length≤s.length ∧
   Ow iW M3 M.next T v acc∧Ow INT M3 M.next TI u ns∧(∀ b∈aD v,b ∉ aD u)∧ae [] M M3∧kI acc ns k (gZ [] t)=kI [] [] 1 (gZ [] s)) _
  ⟨s,aC,aC,[],[],1,rfl,rfl,by simp,by simp,by simp,.nil,.nil,by simp[aD],ae.refl _ _,rfl⟩ ?_
 rintro next m ys M3 hnext ⟨t,v,u,acc,ns,k,rfl,rfl,hal,hxl,hnl,hv,hu,hd,hK,hf⟩
 by_cases hne:t=[]
 ·subst hne
  simp only[go_sem,bne_self_eq_false]
  simp only[gZ,if_true,kI] at hf
  exact hQ v u M3 (by rw[← hf]; exact hv) (by rw[← hf]; exact hu) hd hK
 have hne' : (t != [])=true:=by simp[hne]
 have hpos:=List.length_pos_iff.2 hne
 obtain⟨mU,rest,found,hcut,hrl,hll,hraw⟩:=Ql hne
 simp only[go_sem,hne']
 refine wZ ?_
 refine hc (by omega) ?_
 rw[hcut]
 simp only[go_sem]
 refine bN (fun xs M'=>M'=M3∧xs=[St (if found then strip mU else mU)]) ?_ ?_
 ·rintro _ M0 ⟨hM0,rfl⟩
  subst hM0
  have hlen:(if found then strip mU else mU).length + rest.length≤t.length:=by
   split
   ·have:=Pj mU; omega
   ·exact hll
  generalize (if found then strip mU else mU)=line at *
  rw[hraw,kI] at hf
  have app:glue acc line=acc++[line]∧¬ (acc≠[]∧isSp line=true)→dV T 1 [St []] [(0,1,St line)] fun r f=>appW T 1 16 [St []] false v (f M0.next) (M0.push r) fun t54 UL =>
    dV TI 1 [N IntKind.i64 0] [(0,1,N IntKind.i64 k)] fun XZ WN=>appW TI 1 8 [N IntKind.i64 0] false u (WN UL.next) (UL.push XZ) fun t58 WA =>
     next [St rest,t54,t58,N IntKind.i64 (IntKind.i64.wrap (k + 1))] WA:=fun hg=>by
   refine VJ hv hK.next (by omega) fun v' M4 h4 k4 hv'=>?_
   have hu4:Ow INT M4 M.next TI u ns:=Own.keep hu k4 (fun b hb hb'=>hd b hb' hb)
   have hK4:ae [] M M4:=hK.eU k4 fun c hc=>.inl (hv.blk c hc).1
   have hd4:∀ b∈aD v',b ∉ aD u:=fun b hb hb'=>by
    rcases hv' with rfl | hv'
    ·exact hd b hb hb'
    ·have h1:=hv' b hb
     have h2:=(hu.blk b hb').2
     omega
   refine VL hu4 hK4.next (by omega) fun u' M5 h5 k5 hu'=>?_
   have hv5:Ow iW M5 M.next T v' (acc++[line]):=Own.keep h4 k5 hd4
   have hd5:∀ b∈aD v',b ∉ aD u':=fun b hb hb'=>by
    rcases hu' with rfl | hu'
    ·exact hd4 b hb hb'
    ·have h1:=hu' b hb'
     have h2:=(h4.blk b hb).2
     omega
   refine hnext _ _ _ hrl ⟨rest,v',u',_,_,_,rfl,rfl,by simp; omega, ?_,by simp; omega,hv5,h5,hd5,hK4.eU k5 fun c hc=>.inl (hu4.blk c hc).1,by rw[hg.1,if_neg hg.2] at hf; exact hf⟩
   intro x hx
   rcases List.mem_append.1 hx with hx | hx
   ·have:=hxl x hx; omega
   ·have:x=line:=by simpa using hx
    subst this; omega
  by_cases ha:acc=[]
  ·rw[dK.len hv.sD]
   subst ha
   rw[show((([] : List (List UInt8)).length:Nat) : Int)=0 from rfl,uf,show decide ((0:Int) > 0)=false from rfl]
   simp only[go_sem]
   exact app (by simp[glue])
  have hap:=List.length_pos_iff.2 ha
  rw[dK.len hv.sD]
  have e0:decide (((acc.length:Nat) : Int) > 0)=true:=by simp; omega
  obtain⟨b,rfl,hrw,hb⟩:=Vv hv ha
  cases line with
  | nil =>
    simp only[go_sem,e0,bne_self_eq_false]
    exact app (by simp[glue,isSp])
  | cons c r =>
    have e1:(c :: r != [])=true:=by simp
    have w1:IntKind.wrap .i64 ((acc.length:Int) - 1)=((acc.length - 1:Nat) : Int):=by rw[wX (by omega) (by omega)]; omega
    have hld:=hrw.ak (i:=acc.length - 1) (by omega)
    have Ur:acc.getD (acc.length - 1) []=acc[acc.length - 1]'(by omega):=by
     rw[List.getD_eq_getElem?_getD,List.getElem?_eq_getElem (by omega)]; rfl
    have set:isSp (c :: r)=true→(0≤IntKind.i64.wrap (↑acc.length - 1)∧IntKind.i64.wrap (↑acc.length - 1) < ↑acc.length ∧
      ∃ v,M0.cell b (IntKind.i64.wrap (↑acc.length - 1)).toNat=some v∧bL (aS (St (c :: r)) (some (N IntKind.i64 1)) none) fun t48=>aY BinOp.add v t48 fun t49 =>
        0≤IntKind.i64.wrap (↑acc.length - 1)∧IntKind.i64.wrap (↑acc.length - 1) < ↑acc.length∧t49.cells.length=1∧∃ M',M0.stores b (IntKind.i64.wrap (↑acc.length - 1)).toNat t49.cells=some M' ∧
          next [St rest,AV.slc b 0 acc.length (Cap.op 1),u,N IntKind.i64 (IntKind.i64.wrap (k + 1))] M'):=fun hs=>by
     obtain⟨hst,Vb⟩:=hrw.Oz (i:=acc.length - 1) (by omega) (acc.getD (acc.length - 1) []++r)
     rw[w1,Int.toNat_natCast]
     refine⟨by omega,by omega,_,hld, ?_⟩
     rw[show aS (St (c :: r)) (some (N .i64 1)) none=some (St r) from bB (l:=1) (by simp) .i64]
     rw[Ur] at hst Vb
     simp only[go_sem]
     have hxa:=hxl _ (List.getElem_mem (l:=acc) (n:=acc.length - 1) (by omega))
     have hlr:r.length + 1 + rest.length≤t.length:=by simpa using hlen
     refine⟨by omega,by omega,_,hst, ?_⟩
     have hv4:=Vn Vb hb
     rw[List.length_set] at hv4
     have hkp:ae [b] M0 (M0.put b (.row (iW.row (acc.set (acc.length - 1) (acc[acc.length - 1]'(by omega)++r))) true T 0)):=(ae.refl _ _).put _ (.inr (by simp))
     refine hnext _ _ _ hrl ⟨rest,_,u,_,ns,_,rfl,rfl,by simp; omega, ?_,by omega,hv4,Own.keep hu hkp ?_,hd,hK.put _ (.inl hb), ?_⟩
     ·intro x hx
      rcases List.mem_or_eq_of_mem_set hx with hx | rfl
      ·have:=hxl x hx; omega
      ·simp; omega
     ·intro b' hb' hm
      have:b'=b:=by simpa using hm
      subst this
      exact hd b' (by simp[aD]) hb'
     ·rw[if_pos ⟨ha,hs⟩,glue,if_pos ⟨ha,hs⟩,Ur] at hf; exact hf
    simp only[go_sem,e0,e1]
    refine⟨by omega,c,rfl, ?_⟩
    by_cases h32:c.toNat=32
    ·have e32:((c.toNat:Int) == 32)=true:=by simp[h32]
     simp only[e32,go_sem]
     exact set (by simp[isSp,h32])
    ·have e32:((c.toNat:Int) == 32)=false:=by simp; omega
     simp only[e32,go_sem]
     refine⟨by omega,c,rfl, ?_⟩
     by_cases h9:c.toNat=9
     ·have e9:((c.toNat:Int) == 9)=true:=by simp[h9]
      simp only[e9,go_sem]
      exact set (by simp[isSp,h9])
     ·have e9:((c.toNat:Int) == 9)=false:=by simp; omega
      simp only[e9,go_sem]
      exact app (by simp[glue,isSp,h32,h9])
 ·intro J hJ
  cases found with
  | true =>
    refine⟨fun _=>ht (by omega) (hJ _ _ ⟨rfl,rfl⟩),fun h=>by cases h⟩
  | false=>exact⟨fun h=>(by cases h),fun _=>hJ _ _ ⟨rfl,rfl⟩⟩
def bH (x:UInt8) : List UInt8→Bool
 | []=>false
 | c :: _=>c == x
def lV (c:aj) : Prop:=∀ {M:RM} {s:List UInt8} {x:UInt8} {Q:ai},s.length≤1000000000→Q (Bo (bH x s)) M→c [St s,St [x]] M Q
theorem Dj:lV fun args M Q=>∃ a0 a1,args=[a0,a1]∧cO a0 a1 M Q:=by
 intro M s x Q hl hQ
 refine⟨_,_,rfl, ?_⟩
 unfold cO
 simp only[dH]
 rw[bC,bC,eY]
 cases s with
 | nil =>
   rw[show decide ((([] : List UInt8).length:Int) ≥ (([x] : List UInt8).length:Int))=false from rfl]
   simp only[go_sem]
   exact hQ
 | cons c r =>
   rw[show decide (((c :: r).length:Int) ≥ (([x] : List UInt8).length:Int))=true by simp; omega]
   simp only[go_sem]
   rw[show aS (St (c :: r)) none (some (N .i64 ((1:Nat) : Int)))=some (St [c]) from gm (h:=1) (by simp) .i64]
   simp only[go_sem]
   rw[show(([c] : List UInt8) == [x])=(c == x) by simp]
   exact hQ
theorem K8 {ch:aj} (hh:lV ch) : lV fun args M Q=>∃ a0 a1,args=[a0,a1]∧kX ch a0 a1 M Q:=by
 intro M s x Q hl hQ
 refine⟨_,_,rfl, ?_⟩
 unfold kX
 exact hh hl hQ
def DK (c:UInt8) : Bool:=(decide (32≤c.toNat) && decide (c.toNat≠127)) || decide (c.toNat=9)
def Jn (c:aj) : Prop:=∀ {M:RM} {x:UInt8} {Q:ai},Q (Bo (DK x)) M→c [By x] M Q
theorem Ot:Jn fun args M Q=>∃ a0,args=[a0]∧qK a0 M Q:=by
 intro M x Q hQ
 refine⟨_,rfl, ?_⟩
 unfold qK
 simp only[dH]
 unfold DK at hQ
 by_cases h1:32≤x.toNat
 ·have e1:decide ((x.toNat:Int) ≥ 32)=true:=by simp; omega
  rw[eY,e1]
  by_cases h2:x.toNat=127
  ·have e2:((x.toNat:Int) != 127)=false:=by simp[h2]
   have e9:((x.toNat:Int) == 9)=false:=by simp; omega
   simp only[go_sem,e2,e9]
   simpa [h2] using hQ
  ·have e2:((x.toNat:Int) != 127)=true:=by simp; omega
   simp only[go_sem,e2]
   simpa [h1,h2] using hQ
 ·have e1:decide ((x.toNat:Int) ≥ 32)=false:=by simp; omega
  rw[eY,e1]
  by_cases h9:x.toNat=9
  ·have e9:((x.toNat:Int) == 9)=true:=by simp[h9]
   simp only[go_sem,e9]
   simpa [h1,h9] using hQ
  ·have e9:((x.toNat:Int) == 9)=false:=by simp; omega
   simp only[go_sem,e9]
   simpa [h1,h9] using hQ
def dF (c:UInt8) : UInt8:=if 65≤c.toNat∧c.toNat≤90 then UInt8.ofNat (c.toNat + 32) else c
def Kj (c:aj) : Prop:=∀ {M:RM} {s:List UInt8} {Q:ai},s.length≤1000000000→(∀ M',ae [] M M'→Q (St (s.map dF)) M')→c [St s] M Q
theorem Mk {s:List UInt8} {i:Nat} (hi:i<s.length) : ((s.take i).map dF).length=i:=by simp; omega
theorem QN {s:List UInt8} {i:Nat} (hi:i<s.length) (x:UInt8) : ((s.take i).map dF++s.drop i).set i x=(s.take i).map dF++x :: s.drop (i + 1):=by
 have hl:=Mk hi
 rw[List.drop_eq_getElem_cons hi,List.set_append_right _ _ (by omega),hl,Nat.sub_self,List.set_cons_zero]
theorem JW {s:List UInt8} {i:Nat} (hi:i<s.length) : (s.take (i + 1)).map dF++s.drop (i + 1)=(s.take i).map dF++dF s[i] :: s.drop (i + 1):=by
 rw[List.take_succ_eq_append_getElem hi,List.map_append,List.append_assoc]
 rfl
theorem Tw {s:List UInt8} {i:Nat} (hi:i<s.length) (h:i<((s.take i).map dF++s.drop i).length) : ((s.take i).map dF++s.drop i)[i]=s[i]:=by
 have hl:=Mk hi
 rw[List.getElem_append_right (by omega)]
 simp only[hl,Nat.sub_self,List.getElem_drop,Nat.add_zero]
theorem NN {T8:Nat} : Kj fun args M Q=>∃ a0,args=[a0]∧qM T8 a0 M Q:=by
 intro M s Q hl hQ
 refine⟨_,rfl, ?_⟩
 unfold qM
 simp only[dH,aF,qp,rT]
 have hk1:ae [] M (M.push (.row (BY.row s) true T8 0)):=(ae.refl _ _).push _
 have hr1:Rw BY (M.push (.row (BY.row s) true T8 0)) M.next true T8 s:=Rw.new M s
 generalize M.push (.row (BY.row s) true T8 0)=M1 at *
 refine aR (fun m ys M3=>∃ i:Nat,m=s.length - i∧ys=[N .i64 i]∧i≤s.length∧Rw BY M3 M.next true T8 ((s.take i).map dF++s.drop i)∧ae [] M M3) _
  ⟨0,rfl,rfl,Nat.zero_le _,by simpa using hr1,hk1⟩ ?_
 rintro next m ys M3 hnext ⟨i,rfl,rfl,hi,hR,hK⟩
 simp only[go_sem]
 refine⟨fun hlt=>?_,fun hge=>?_⟩
 ·have hlt:i<s.length:=by simpa using hlt
  have hlen:i<((s.take i).map dF++s.drop i).length:=by simp; omega
  have hc:=hR.ak hlen
  have w1:=lG (show i<9223372036854775807 by omega)
  rw[Tw hlt hlen] at hc
  refine⟨by omega,_,hc, ?_⟩
  have same:dF s[i]=s[i]→next [N .i64 ((i + 1:Nat) : Int)] M3:=fun h=>by
   refine hnext _ _ _ (by omega) ⟨i + 1,rfl,rfl,by omega, ?_,hK⟩
   rw[JW hlt,h,← List.drop_eq_getElem_cons hlt]
   exact hR
  have cb:=Ie s[i]
  simp only[w1]
  by_cases h1:65≤s[i].toNat
  ·have e1:((s[i].toNat:Int) ≥ 65):=by omega
   by_cases h2:s[i].toNat≤90
   ·have e2:((s[i].toNat:Int)≤90):=by omega
    have hlow:dF s[i]=UInt8.ofNat (s[i].toNat + 32):=by rw[dF,if_pos ⟨h1,h2⟩]
    have wv:N IntKind.u8 (IntKind.u8.wrap (IntKind.u8.wrap ((s[i].toNat:Int) + 97) - 65))=By (dF s[i]):=by
     rw[hlow,By,OY,Nat.mod_eq_of_lt (by omega)]
     congr 1
     rw[show IntKind.u8.wrap ((s[i].toNat:Int) + 97)=(s[i].toNat:Int) + 97 from qO (by omega) (by omega)]
     rw[qO (by omega) (by omega)]; omega
    obtain⟨hs,hR'⟩:=hR.Oz hlen (dF s[i])
    simp only[e1,e2,decide_true,go_sem]
    rw[QN hlt] at hs hR'
    refine⟨by omega,_,(congrArg (fun x=>M3.stores M.next i [x]) wv).trans hs, ?_⟩
    refine hnext _ _ _ (by omega) ⟨i + 1,rfl,rfl,by omega, ?_,hK.put _ (.inl (Nat.le_refl _))⟩
    rw[JW hlt]
    exact hR'
   ·have e2:¬ ((s[i].toNat:Int)≤90):=by omega
    simp only[e1,e2,decide_true,decide_false,go_sem]
    exact same (by rw[dF,if_neg (by omega)])
  ·have e1:¬ ((s[i].toNat:Int) ≥ 65):=by omega
   simp only[e1,decide_false,go_sem]
   exact same (by rw[dF,if_neg (by omega)])
 ·have:i=s.length:=by simp at hge; omega
  subst this
  rw[List.take_length,List.drop_length,List.append_nil] at hR
  have:=hR.sl (cap:=.op 1)
  rw[List.length_map] at this
  rw[Sl.str this]
  exact hQ M3 hK
theorem Lc (s:List UInt8) (h:s≠[]) : Lib.decodeL s=dec s:=by
 have hp:=List.length_pos_iff.2 h
 have g:∀ i,((⟨⟨s⟩⟩ : ByteArray).get! i).toNat=bt s i:=fun i=>by
  simp only[ByteArray.get!,bt,List.getD_eq_getElem?_getD]
  simp[getElem!_def]
  cases s[i]? <;> rfl
 first
  | (rw[Lib.decodeL]; rw[Lib.decode_at,g,g,g,g]; rfl)
  | (simp only[Lib.decodeL,dec,bt])
theorem DR:∀ (n:Nat) (s:List UInt8),s.length≤n→Lib.validD s=uy s
 | n,s,hn=>by
   by_cases hne:s=[]
   ·subst hne; rw[Lib.validD_nil,S9]
   have hrk:rk s=if dec s=(65533,1) then 0 else(dec s).2:=by rw[rk,if_neg hne]; rfl
   rw[Lib.validD_step s hne,Lc s hne]
   have h1:=Ak s
   by_cases hb:(dec s).1=65533∧(dec s).2=1
   ·rw[if_pos hb,Tx hne (by rw[hrk,if_pos (Prod.ext hb.1 hb.2)])]
   ·rw[if_neg hb]
    have h0:rk s=(dec s).2:=by
     rw[hrk,if_neg]
     intro e; rw[e] at hb; exact hb ⟨rfl,rfl⟩
    rw[Qz (by omega),h0]
    cases n with
    | zero=>exact absurd (List.eq_nil_of_length_eq_zero (by omega)) hne
    | succ n =>
      refine DR n _ ?_
      have:=vV hne h1
      omega
def JK (B:Base) (c:aj) : Prop:=∀ {M:RM} {s:List UInt8} {Q:ai},M.base=B→s.length≤1000000000→Q (Bo (uy s)) M→c [St s] M Q
def okB (x:List UInt8) (c:UInt8) : Bool:=DK c && !(decide (c∈x))
def mV (x s:List UInt8) : Bool:=s.all (okB x) && uy s
def lW (B:Base) (c:aj) : Prop:=∀ {M:RM} {s x:List UInt8} {Q:ai},M.base=B→s.length≤1000000000→(∀ M',ae [] M M'→Q (Bo (mV x s)) M')→c [St s,St x] M Q
theorem FP {B:Base} {T8:Nat} {cp ci cv:aj} (hp:Jn cp) (hi:oJ ci) (hv:JK B cv) : lW B fun args M Q=>∃ a0 a1,args=[a0,a1]∧mF T8 cp ci cv a0 a1 M Q:=by
 intro M s x Q hM hl hQ
 refine⟨_,_,rfl, ?_⟩
 unfold mF
 simp only[dH,aF,qp,rT]
 have hk1:ae [] M (M.push (.row (BY.row s) true T8 0)):=(ae.refl _ _).push _
 have hr1:Rw BY (M.push (.row (BY.row s) true T8 0)) M.next true T8 s:=Rw.new M s
 generalize M.push (.row (BY.row s) true T8 0)=M1 at *
 refine aR (fun m ys M3=>M3=M1∧∃ i:Nat,m=s.length - i∧ys=[N .i64 i]∧i≤s.length∧(s.take i).all (okB x)=true) _
  ⟨rfl,0,rfl,rfl,Nat.zero_le _,by simp⟩ ?_
 rintro next m ys M3 hnext ⟨hM3,i,rfl,rfl,hile,hall⟩
 subst hM3
 simp only[go_sem]
 refine⟨fun hlt=>?_,fun hge=>?_⟩
 ·have hlt:i<s.length:=by simpa using hlt
  have hc:=hr1.ak hlt
  have htk:=List.take_succ_eq_append_getElem hlt
  have hmem:=List.getElem_mem hlt
  generalize s[i]=c at *
  have w1:=lG (show i<9223372036854775807 by omega)
  have bad:okB x c=false→Q (Bo false) M3:=fun h=>by
   have:mV x s=false:=by
    have h2:s.all (okB x)=false:=by
     rw[List.all_eq_false]
     exact⟨c,hmem,by rw[h]; simp⟩
    rw[mV,h2]; rfl
   rw[← this]; exact hQ M3 hk1
  have good:okB x c=true→next [N .i64 ((i + 1:Nat) : Int)] M3:=fun h=>by
   refine hnext _ _ _ (by omega) ⟨rfl,i + 1,rfl,rfl,by omega, ?_⟩
   rw[htk,List.all_append,hall]
   simp[h]
  refine⟨by omega,By c,hc,hp ?_⟩
  cases hpl:DK c with
  | false =>
    simp only[go_sem]
    exact bad (by simp[okB,hpl])
  | true =>
    simp only[go_sem]
    refine hi ?_
    have hge:=pI x c
    by_cases hcx:c∈x
    ·have e1:decide (Lib.indexByte x c ≥ 0)=true:=decide_eq_true (hge.2 hcx)
     simp only[go_sem,e1]
     exact bad (by simp[okB,hcx])
    ·have e1:decide (Lib.indexByte x c ≥ 0)=false:=decide_eq_false fun h=>hcx (hge.1 h)
     simp only[go_sem,e1,w1]
     exact good (by simp[okB,hcx,hpl])
 ·have:i=s.length:=by simp at hge; omega
  subst this
  rw[List.take_length] at hall
  refine hv (by rw[hk1.base,hM]) hl ?_
  have:=hQ M3 hk1
  rw[mV,hall,Bool.true_and] at this
  exact this
def Bi (x:UInt8) (s:List UInt8) : AV:=if bH x s then .tup [St (s.drop 1),Bo true] else .tup [St s,Bo false]
def jq (c:aj) : Prop:=∀ {M:RM} {s:List UInt8} {x:UInt8} {Q:ai},s.length≤1000000000→Q (Bi x s) M→c [St s,St [x]] M Q
theorem zL {ch:aj} (hh:lV ch) : jq fun args M Q=>∃ a0 a1,args=[a0,a1]∧cK ch a0 a1 M Q:=by
 intro M s x Q hl hQ
 refine⟨_,_,rfl, ?_⟩
 unfold cK
 refine hh hl ?_
 unfold Bi at hQ
 cases h:bH x s with
 | false =>
   simp only[h,Bool.false_eq_true,if_false] at hQ
   simp only[go_sem]
   exact hQ
 | true =>
   simp only[h,if_true] at hQ
   have hne:s≠[]:=by intro e; subst e; cases h
   have hp:=List.length_pos_iff.2 hne
   simp only[go_sem]
   rw[show aS (St s) (some (N .i64 ((1:Nat) : Int))) none=some (St (s.drop 1)) from bB (by omega) .i64]
   simp only[go_sem]
   exact hQ
theorem Fx {ch:aj} (hh:jq ch) : jq fun args M Q=>∃ a0 a1,args=[a0,a1]∧gy ch a0 a1 M Q:=by
 intro M s x Q hl hQ
 refine⟨_,_,rfl, ?_⟩
 unfold gy
 refine hh hl ?_
 unfold Bi at hQ ⊢
 cases h:bH x s with
 | false=>rw[h] at hQ; simpa only[go_sem,Bool.false_eq_true,if_false] using hQ
 | true=>rw[h] at hQ; simpa only[go_sem,if_true] using hQ
def iw:List UInt8:=[97,98,99,100,101,102,103,104,105,106,107,108,109,110,111,112,113,114,115,116,117,118,119,120,121,122,48,49,50,51,52,53,54,55,56,57,45]
def Ka (B:Base) (c:aj) : Prop:=∀ {M:RM} {s:List UInt8} {Q:ai},M.base=B→s.length≤1000000000→(∀ M',ae [] M M'→Q (St (s.dropWhile (iw.contains ·))) M')→c [St s,St iw] M Q
theorem qz {α:Type} (p:α→Bool) : ∀ l:List α,(l.dropWhile p).length≤l.length
 | []=>by simp
 | x :: l=>by
   rw[List.dropWhile_cons]
   have:=qz p l
   split
   ·simp; omega
   ·exact Nat.le_refl _
def wk (s:List UInt8) : Nat:=s.length - ((s.map dF).dropWhile (iw.contains ·)).length
theorem uw (s:List UInt8) : wk s≤s.length:=Nat.sub_le _ _
def Ng (s:List UInt8) : AV:=.tup [St ((s.take (wk s)).map dF),St (s.drop (wk s))]
def IA (B:Base) (c:aj) : Prop:=∀ {M:RM} {s:List UInt8} {Q:ai},M.base=B→s.length≤1000000000→(∀ M',ae [] M M'→Q (Ng s) M')→c [St s] M Q
theorem PW {B:Base} {cs ct:aj} (hs:Kj cs) (ht:Ka B ct) : IA B fun args M Q=>∃ a0,args=[a0]∧si cs ct a0 M Q:=by
 intro M s Q hM hl hQ
 refine⟨_,rfl, ?_⟩
 unfold si
 rw[bC]
 refine hs hl fun M1 k1=>?_
 refine ht (by rw[k1.base,hM]) (by simpa using hl) fun M2 k2=>?_
 have hd:=qz (iw.contains ·) (s.map dF)
 rw[List.length_map] at hd
 rw[bC,lN]
 rw[show IntKind.wrap .i64 ((s.length:Int) - (((s.map dF).dropWhile (iw.contains ·)).length:Int))=((wk s:Nat) : Int) by rw[wX (by omega) (by omega)]; unfold wk; omega]
 rw[gm (uw s),bB (uw s)]
 simp only[go_sem]
 have:=uw s
 refine hs (by simp; omega) fun M3 k3=>?_
 exact hQ M3 ((k1.trans k2).trans k3)
def Kb (B:Base) (f:List UInt8→List UInt8) (c:aj) : Prop:=∀ {M:RM} {s:List UInt8} {Q:ai},M.base=B→s.length≤1000000000→(∀ M',ae [] M M'→Q (St (f s)) M')→c [St s,St iw] M Q
def ll (f:List UInt8→List UInt8) (s:List UInt8) : Bool:=decide (1≤s.length) && decide (s.length≤20) && (f s == [])
def pU (B:Base) (f:List UInt8→List UInt8) (c:aj) : Prop:=∀ {M:RM} {s:List UInt8} {Q:ai},M.base=B→s.length≤1000000000→(∀ M',ae [] M M'→Q (Bo (ll f s)) M')→c [St s] M Q
theorem H7 {B:Base} {f:List UInt8→List UInt8} {ct:aj} (ht:Kb B f ct) : pU B f fun args M Q=>∃ a0,args=[a0]∧nA ct a0 M Q:=by
 intro M s Q hM hl hQ
 refine⟨_,rfl, ?_⟩
 unfold nA
 simp only[dH]
 rw[bC,eY]
 unfold ll at hQ
 by_cases h1:1≤s.length
 ·have e1:decide ((s.length:Int) ≥ 1)=true:=by simp; omega
  rw[e1]
  by_cases h2:s.length≤20
  ·have e2:decide ((s.length:Int)≤20)=true:=by simp; omega
   simp only[go_sem,e2]
   refine ht hM hl fun M1 k1=>?_
   simp only[go_sem]
   have:=hQ M1 k1
   simpa [h1,h2] using this
  ·have e2:decide ((s.length:Int)≤20)=false:=by simp; omega
   simp only[go_sem,e2]
   simpa [h1,h2] using hQ M (ae.refl _ _)
 ·have e1:decide ((s.length:Int) ≥ 1)=false:=by simp; omega
  rw[e1]
  simp only[go_sem]
  simpa [h1] using hQ M (ae.refl _ _)
def brk (x:UInt8) : List UInt8→Option (List UInt8 × List UInt8)
 | []=>none
 | c :: t=>if c=x then some ([],t) else(brk x t).map fun p=>(c :: p.1,p.2)
theorem vN (x:UInt8) : ∀ s:List UInt8,(brk x s=none∧Lib.indexByte s x=-1∧x ∉ s)∨∃ a b,brk x s=some (a,b)∧Lib.indexByte s x=(a.length:Int)∧s=a++x :: b∧x ∉ a
 | []=>.inl ⟨rfl,rfl,by simp⟩
 | c :: t=>by
   by_cases h:c=x
   ·subst h
    exact .inr ⟨[],t,by simp[brk],by simp[Lib.indexByte],rfl,by simp⟩
   ·have hc:(c == x)=false:=by simpa using h
    rcases vN x t with⟨h1,h2,h4⟩ | ⟨a,b,h1,h2,h3,h4⟩
    ·exact .inl ⟨by simp[brk,h,h1],by simp[Lib.indexByte,hc,h2],by simp[h4,Ne.symm h]⟩
    ·refine .inr ⟨c :: a,b,by simp[brk,h,h1], ?_,by rw[h3]; rfl,by simp[h4,Ne.symm h]⟩
     have:((a.length:Int) == -1)=false:=by simp
     simp[Lib.indexByte,hc,h2,this]
def FO (x:UInt8) (c:aj) : Prop:=∀ {M:RM} {s:List UInt8} {Q:ai},Q (N .i64 (Lib.indexByte s x)) M→c [St s,St [x]] M Q
def ED (x:UInt8) (s:List UInt8) : AV:=match brk x s with
 | some (a,b)=>.tup [St a,St b,Bo true]
 | none=>.tup [St s,St [],Bo false]
def xE (x:UInt8) (c:aj) : Prop:=∀ {M:RM} {s:List UInt8} {Q:ai},s.length≤1000000000→Q (ED x s) M→c [St s,St [x]] M Q
theorem Gj {x:UInt8} {ci:aj} (hi:FO x ci) : xE x fun args M Q=>∃ a0 a1,args=[a0,a1]∧dS ci a0 a1 M Q:=by
 intro M s Q hl hQ
 refine⟨_,_,rfl, ?_⟩
 unfold dS
 refine hi ?_
 unfold ED at hQ
 rcases vN x s with⟨h1,h2,_⟩ | ⟨a,b,h1,h2,h3,_⟩
 ·rw[h1] at hQ
  simp only[go_sem,h2]
  exact⟨fun h=>absurd h (by decide),fun _=>hQ⟩
 ·rw[h1] at hQ
  have hsl:=congrArg List.length h3
  simp at hsl
  rw[h2,eY,show decide ((a.length:Int) ≥ 0)=true by simp]
  refine⟨fun _=>?_,fun h=>by cases h⟩
  rw[gm (by omega)]
  simp only[go_sem]
  rw[show IntKind.wrap .i64 ((a.length:Int) + ((1:Nat) : Int))=((a.length + 1:Nat) : Int) by rw[wX (by omega) (by omega)]; omega]
  rw[bB (by omega)]
  simp only[go_sem]
  rw[h3]
  rw[show(a++x :: b).take a.length=a by simp,show(a++x :: b).drop (a.length + 1)=b by rw[← List.drop_drop]; simp]
  exact hQ
theorem P6 {x:UInt8} {ci:aj} (hi:xE x ci) : xE x fun args M Q=>∃ a0 a1,args=[a0,a1]∧kN ci a0 a1 M Q:=by
 intro M s Q hl hQ
 refine⟨_,_,rfl, ?_⟩
 unfold kN
 refine hi hl ?_
 unfold ED at hQ ⊢
 cases h:brk x s with
 | none=>rw[h] at hQ; simpa only[go_sem] using hQ
 | some p=>rw[h] at hQ; simpa only[go_sem] using hQ
theorem get_bt (s:List UInt8) (i:Nat) : ((⟨⟨s⟩⟩ : ByteArray).get! i).toNat=bt s i:=by
 unfold bt
 show((⟨s⟩ : Array UInt8)[i]!).toNat=_
 simp only[getElem!_def]
 rw[List.getElem?_toArray]
 cases h:s[i]? with
 | none=>simp only[List.getD_eq_getElem?_getD,h]; rfl
 | some x=>simp[List.getD_eq_getElem?_getD,h]
theorem sP {s:List UInt8} {i:Nat} (hi:i<s.length) :
  (bt s i<128∧Utf8.decode ⟨⟨s⟩⟩ i=(bt s i,1))∨(128≤bt s i∧128≤(Utf8.decode ⟨⟨s⟩⟩ i).1∧(Utf8.decode ⟨⟨s⟩⟩ i).1<2147483648∧1≤(Utf8.decode ⟨⟨s⟩⟩ i).2∧i + (Utf8.decode ⟨⟨s⟩⟩ i).2≤s.length∧∀ k,i≤k→k<i + (Utf8.decode ⟨⟨s⟩⟩ i).2→128≤bt s k):=by
 have hs:(⟨⟨s⟩⟩ : ByteArray).size=s.length:=rfl
 unfold Utf8.decode
 simp only[get_bt,hs,Nat.add_zero,Utf8.runeError]
 by_cases h0:bt s i<128
 ·exact .inl ⟨h0,by rw[if_pos h0]⟩
 right
 have h8:bt s i<256:=by unfold bt; exact(s.getD i 0).toNat_lt
 refine⟨by omega, ?_⟩
 rw[if_neg h0]
 have one:∀ k,i≤k→k<i + 1→128≤bt s k:=fun k h1 h2=>by
  have:k=i:=by omega
  subst this; omega
 split
 ·rename_i h2
  simp only[Bool.and_eq_true,beq_iff_eq,decide_eq_true_eq] at h2
  split
  ·refine⟨by simpa using ‹_›,by simp; omega,by simp,by simp; omega,fun k h3 h4=>?_⟩
   simp at h4
   rcases Nat.lt_or_ge k (i + 1) with h5 | h5
   ·exact one k h3 h5
   ·have:k=i + 1:=by omega
    subst this; omega
  ·exact⟨by simp,by simp,by simp,by simp; omega,fun k h3 h4=>one k h3 (by simpa using h4)⟩
 ·split
  ·rename_i h3
   simp only[Bool.and_eq_true,beq_iff_eq,decide_eq_true_eq] at h3
   split
   ·rename_i h4
    simp only[Bool.and_eq_true,decide_eq_true_eq,ge_iff_le] at h4
    refine⟨by simp; omega,by simp; omega,by simp,by simp; omega,fun k h5 h6=>?_⟩
    simp at h6
    rcases Nat.lt_or_ge k (i + 1) with h7 | h7
    ·exact one k h5 h7
    ·rcases Nat.lt_or_ge k (i + 2) with h7 | h7
     ·have:k=i + 1:=by omega
      subst this; omega
     ·have:k=i + 2:=by omega
      subst this; omega
   ·exact⟨by simp,by simp,by simp,by simp; omega,fun k h3 h4=>one k h3 (by simpa using h4)⟩
  ·split
   ·rename_i h3
    simp only[Bool.and_eq_true,beq_iff_eq,decide_eq_true_eq] at h3
    split
    ·rename_i h4
     simp only[Bool.and_eq_true,decide_eq_true_eq,ge_iff_le] at h4
     refine⟨by simp; omega,by simp; omega,by simp,by simp; omega,fun k h5 h6=>?_⟩
     simp at h6
     rcases Nat.lt_or_ge k (i + 1) with h7 | h7
     ·exact one k h5 h7
     ·rcases Nat.lt_or_ge k (i + 2) with h7 | h7
      ·have:k=i + 1:=by omega
       subst this; omega
      ·rcases Nat.lt_or_ge k (i + 3) with h7 | h7
       ·have:k=i + 2:=by omega
        subst this; omega
       ·have:k=i + 3:=by omega
        subst this; omega
    ·exact⟨by simp,by simp,by simp,by simp; omega,fun k h3 h4=>one k h3 (by simpa using h4)⟩
   ·exact⟨by simp,by simp,by simp,by simp; omega,fun k h3 h4=>one k h3 (by simpa using h4)⟩
theorem KP {r:Nat} (h:128≤r) : ∃ a x,(Utf8.encode (r:Int)).data.toList=a++[x]∧128≤x.toNat∧1≤a.length∧a.length≤3:=by
 have key:∀ c:Nat,128≤c→∃ a x,(if c<0x80 then(⟨#[UInt8.ofNat c]⟩ : ByteArray) else if c<0x800 then⟨#[UInt8.ofNat (0xC0 + c / 64),UInt8.ofNat (0x80 + c % 64)]⟩
   else if c<0x10000 then⟨#[UInt8.ofNat (0xE0 + c / 4096),UInt8.ofNat (0x80 + c / 64 % 64),UInt8.ofNat (0x80 + c % 64)]⟩
   else⟨#[UInt8.ofNat (0xF0 + c / 262144),UInt8.ofNat (0x80 + c / 4096 % 64),UInt8.ofNat (0x80 + c / 64 % 64),UInt8.ofNat (0x80 + c % 64)]⟩).data.toList=a++[x]∧128≤x.toNat∧1≤a.length∧a.length≤3:=by
  intro c hc
  rw[if_neg (by omega)]
  have hx:128≤(UInt8.ofNat (0x80 + c % 64)).toNat:=by simp; omega
  split
  ·exact⟨[_],_,rfl,hx,by simp,by simp⟩
  ·split
   ·exact⟨[_,_],_,rfl,hx,by simp,by simp⟩
   ·exact⟨[_,_,_],_,rfl,hx,by simp,by simp⟩
 have h2:128≤(if Utf8.valid (r:Int)=true then(r:Int).toNat else Utf8.runeError):=by
  split
  ·simpa using h
  ·decide
 simp only[Utf8.encode]
 generalize (if Utf8.valid (r:Int)=true then(r:Int).toNat else Utf8.runeError)=c at h2 ⊢
 exact key c h2
end Go.Ab.Vl
