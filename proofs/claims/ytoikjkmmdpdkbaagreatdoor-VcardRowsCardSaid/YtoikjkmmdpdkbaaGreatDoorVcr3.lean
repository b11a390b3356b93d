/- Part 3 of the ground of the proofs of this seat (texts R9 to VlG7). By an AI agent. -/
import Derived.Test.YtoikjkmmdpdkbaaGreatDoorVcr2
import Derived.Scope
import Derived.ChangeShapes
import Derived.OpenShut
import Derived.WideKeyArgs
import GoSem.ClaimJoined
import Derived.Carry
import Derived.JoinedCond
import Derived.SizedLaws
import GoSem.Extern.Atomic
import GoSem.Extern.MapsClone
import Derived.Laws.AppendOwn
import Derived.Lib.Bytealg
import Derived.Lib.DecodeN
import Derived.Lib.ValidU
import Derived.Lib.ValidLaws
set_option linter.unusedVariables false
set_option linter.unusedSimpArgs false
namespace Go.Ab
open Go Go.RowKit
def JA:Option Tmp→Nat
 | some d=>2 ^ d
 | none=>0
def Ql:Operand→Nat
 | .tmp t=>2 ^ t
 | _=>0
def PN:List Operand→Nat
 | []=>0
 | x :: xs=>Ql x ||| PN xs
def SK (L m:Nat) : Nat:=L ^^^ (L &&& m)
def FL:List Oper→Nat
 | []=>0
 | o :: os=>JA o.dst ||| FL os
def gt:Nat:=1000000
def qG:Code→List Nat
 | .seq a b=>qG a++qG b
 | .label l=>[l]
 | _=>[]
def wS (c:Code) (l:Nat) : Code:=match findLabel c l with
 | some r=>r
 | none=>.skip
def dF:Nat→Code→Nat
 | 0,_=>0
 | f + 1,c=>match c with
   | .region _ ops _=>FL ops.toList
   | .seq a b=>dF f a ||| dF f b
   | .cond _ a b=>dF f a ||| dF f b
   | .block _ c=>dF f c
   | .loop c=>dF f c
   | .scope c=>dF f c ||| (qG c).foldr (fun l s=>dF f (wS c l) ||| s) 0
   | _=>0
def Mk:List Oper→Nat→Nat
 | [],L=>L
 | o :: os,L=>SK (Mk os L) (JA o.dst) ||| PN o.op.operands.toList
def Jw:List (Nat × Nat)→Nat→Nat
 | [],_=>0
 | (i,L) :: r,id=>match Nat.beq i id with
   | true=>L
   | false=>Jw r id
def fw (ret:Nat) : Nat→List (Nat × Nat)→Code→Nat→Nat
 | 0,_,_,_=>0
 | f + 1,env,c,L=>match c with
   | .skip=>L
   | .region _ ops _=>Mk ops.toList L
   | .seq a b=>fw ret f env a (fw ret f env b L)
   | .cond c a b=>Ql c ||| fw ret f env a L ||| fw ret f env b L
   | .block id c=>fw ret f ((id,L) :: env) c L
   | .loop c=>fw ret f env c (fw ret f env c 0)
   | .exit id=>Jw env id
   | .ret=>ret
   | .scope c=>fw ret f ((qG c).map (fun l=>(gt + l,fw ret f env (wS c l) L))++env) c L
   | .label _=>L
   | .goto l=>Jw env (gt + l)
   | _=>0
def cap2 (n:Nat) : Nat:=match n with | 0=>0 | 1=>1 | _=>2
def pM (id:Nat) : Nat→Code→Nat
 | 0,_=>2
 | f + 1,c=>match c with
   | .seq a b=>cap2 (pM id f a + pM id f b)
   | .cond _ a b=>cap2 (pM id f a + pM id f b)
   | .block _ c=>pM id f c
   | .loop c=>pM id f c
   | .exit i=>match Nat.beq i id with | true=>1 | false=>0
   | _=>0
def uE:Nat→Code→Nat
 | 0,_=>2
 | f + 1,c=>match c with
   | .skip=>1
   | .region _ _ _=>1
   | .seq a b=>cap2 (uE f a * uE f b)
   | .cond _ a b=>cap2 (uE f a + uE f b)
   | .block id c=>cap2 (uE f c + pM id f c)
   | .scope c=>uE f c
   | .label _=>1
   | _=>0
def xC (m:Nat) : Nat→Nat→List Nat
 | _,0=>[]
 | i,n + 1=>match Nat.testBit m i with
   | true=>i :: xC m (i + 1) n
   | false=>xC m (i + 1) n
def bitsOf (m nt:Nat) : List Nat:=xC m 0 nt
def vV (T:Tree AV) : List Nat→List AV
 | []=>[]
 | t :: ts=>(T.get t).getD .top :: vV T ts
def ag:List AV→Nat→AV
 | [],_=>.top
 | x :: _,0=>x
 | _ :: xs,n + 1=>ag xs n
def zM (T:Tree AV) : List Nat→Tree AV
 | []=>T
 | t :: ts=>zM (T.set t .top) ts
def Jp (T:Tree AV) (xs:List AV) : Nat→List Nat→Tree AV
 | _,[]=>T
 | i,t :: ts=>Jp (T.set t (ag xs i)) xs (i + 1) ts
def zP (T:Tree AV) (asg vs:List Nat) (xs:List AV) : Tree AV:=Jp (zM T asg) xs 0 vs
def au (x:AV) (p q:Prop) : Prop :=
 match x with
 | .sc (.bool b)=>(b=true→p)∧(b=false→q)
 | _=>False
def bT (f:(List AV→RM→Prop)→Prop) (g:List AV→RM→Prop) : Prop:=f g
def bA (body:(List AV→RM→Prop)→List AV→RM→Prop) (xs:List AV) (M:RM) : Prop :=
 ∃ (I:Nat→List AV→RM→Prop) (n:Nat),I n xs M∧∀ m ys M',I m ys M'→body (fun zs M''=>∃ m',m'<m∧I m' zs M'') ys M'
abbrev K3:=Ex→Tree AV→RM→Prop
def wpC (P:Program) (nt ret:Nat) : Nat→Code→List (Nat × Nat)→Nat→Tree AV→RM→K3→Prop
 | 0,_,_,_,_,_,_=>False
 | f + 1,c,env,L,T,M,K=>match c with
   | .skip=>K .normal T M
   | .region _ ops false=>Ga P nt ops ops.toList T M (fun T' M'=>K .normal T' M')
   | .region _ ops true=>NA P nt ops T M (fun T' M'=>K .normal T' M')
   | .seq a b=>match Nat.ble (uE f a) 1 with
     | true=>wpC P nt ret f a env (fw ret f env b L) T M (fun e T' M'=>match e with
       | .normal=>wpC P nt ret f b env L T' M' K
       | e=>K e T' M')
     | false=>bT (fun J=>wpC P nt ret f a env (fw ret f env b L) T M (fun e T' M'=>match e with
       | .normal=>J (vV T' (bitsOf (dF f a &&& fw ret f env b L) nt)) M'
       | e=>K e T' M'))
       (fun xs M'=>wpC P nt ret f b env L (zP T (bitsOf (dF f a) nt) (bitsOf (dF f a &&& fw ret f env b L) nt) xs) M' K)
   | .cond c a b=>au (rX T c) (wpC P nt ret f a env L T M K) (wpC P nt ret f b env L T M K)
   | .block id c=>match Nat.ble gt id with
     | true=>False
     | false=>wpC P nt ret f c ((id,L) :: env) L T M (fun e T' M'=>match e with
       | .exit i=>match Nat.beq i id with
         | true=>K .normal T' M'
         | false=>K (.exit i) T' M'
       | e=>K e T' M')
   | .loop c=>bA (fun next xs M'=>wpC P nt ret f c env (fw ret f env c (fw ret f env c 0)) (zP T (bitsOf (dF f c) nt) (bitsOf (dF f c &&& fw ret f env c (fw ret f env c 0)) nt) xs) M'
     (fun e T' M'=>match e with
      | .normal=>next (vV T' (bitsOf (dF f c &&& fw ret f env c (fw ret f env c 0)) nt)) M'
      | e=>K e T' M'))
     (vV T (bitsOf (dF f c &&& fw ret f env c (fw ret f env c 0)) nt)) M
   | .exit id=>match Nat.ble gt id with
     | true=>False
     | false=>K (.exit id) T M
   | .ret=>K .ret T M
   | .scope c=>wpC P nt ret f c ((qG c).map (fun l=>(gt + l,fw ret f env (wS c l) L))++env) L T M (fun e T' M'=>match e with
     | .exit i=>match Nat.ble gt i with
       | true=>match findLabel c (i - gt) with
         | some r=>wpC P nt ret f r env L T' M' (fun e T2 M2=>match e with
           | .exit j=>match Nat.ble gt j with
             | true=>False
             | false=>K (.exit j) T2 M2
           | e=>K e T2 M2)
         | none=>K (.exit i) T' M'
       | false=>K (.exit i) T' M'
     | e=>K e T' M')
   | .label _=>K .normal T M
   | .goto l=>K (.exit (gt + l)) T M
   | _=>False
def Sy (P:Program) (T:Tree AV) (M:RM) (r:ResultVar) (K:AV→Prop) : Prop :=
 match r with
 | .tmp t=>K ((T.get t).getD .top)
 | .cell a t=>match bZ P t with
   | some false=>ak M ((T.get a).getD .top) K
   | some true=>match aY P t with
     | some n=>aH M ((T.get a).getD .top) n K
     | none=>False
   | none=>False
def Rz (P:Program) (T:Tree AV) (M:RM) : List ResultVar→(List AV→Prop)→Prop
 | [],K=>K []
 | r :: rs,K=>Sy P T M r (fun v=>Rz P T M rs (fun vs=>K (v :: vs)))
def VK (Q:ai) (M:RM) : List AV→Prop
 | [v]=>Q v M
 | vs=>Q (.tup vs) M
def GA:List ResultVar→Nat
 | []=>0
 | .tmp t :: rs=>2 ^ t ||| GA rs
 | .cell a _ :: rs=>2 ^ a ||| GA rs
def PL (P:Program) (fn:Func) (c:Code) (args:List AV) (M:RM) (Q:ai) : Prop :=
 wpC P (args.length + (fn.ntmps - args.length)) (GA fn.results.toList) 1000 c [] 0 (Tree.ofList args 0 .leaf) M
  (fun e T M'=>match e with
   | .exit _=>False
   | _=>Rz P T M' fn.results.toList (VK Q M'))
section
variable {P:Program} {nt ret:Nat}
def Jj:Ex→Exit
 | .normal=>.normal
 | .exit i=>match Nat.ble gt i with
   | true=>.goto (i - gt)
   | false=>.exit i
 | .ret=>.ret
theorem oO {i:Nat} (h:Nat.ble gt i=false) : Jj (.exit i)=.exit i:=by simp only[Jj,h]
theorem wT {i:Nat} (h:Nat.ble gt i=true) : Jj (.exit i)=.goto (i - gt):=by simp only[Jj,h]
theorem Dm (i:Nat) : Jj (.exit i)=.goto (i - gt)∨Jj (.exit i)=.exit i:=by
 cases h:Nat.ble gt i with
 | true=>exact .inl (wT h)
 | false=>exact .inr (oO h)
theorem IE {c:Code} {Q:Exit→Act→World→Prop} {a:Act} {w:World} (h:c.wp P (fun e a w=>match e with
  | .goto l=>match findLabel c l with
    | some r=>r.wp P (Exit.noGoto Q) a w
    | none=>Q (.goto l) a w
  | e=>Q e a w) a w) : (Code.scope c).wp P Q a w:=by
 intro b k cs
 obtain⟨e,a₁,w₁,hq,harr⟩:=h b (.inScope c :: k) cs
 have YH:∀ {c' : Code} {a w},c'.wp P (Exit.noGoto Q) a w→∃ e a' w',Q e a' w'∧Arrives P (lone (b.at a (.code c' :: .inScope c :: k)) cs w) b k cs e a' w':=by
  intro c' a w h
  obtain⟨e,a₁,w₁,hq,harr⟩:=h b (.inScope c :: k) cs
  cases e with
  | normal=>exact⟨.normal,a₁,w₁,hq,Steps.trans harr (.one step_inScope)⟩
  | exit id=>exact⟨.exit id,a₁,w₁,hq,fun k' hk=>harr k' (by simp[exitTo,hk])⟩
  | goto l=>exact hq.elim
  | ret=>exact⟨_,a₁,w₁,hq,harr⟩
  | panic ch=>exact⟨_,a₁,w₁,hq,harr⟩
  | outgrown=>exact⟨_,a₁,w₁,hq,harr⟩
 cases e with
 | normal=>exact⟨.normal,a₁,w₁,hq,.head step_scope (Steps.trans harr (.one step_inScope))⟩
 | exit id=>exact⟨.exit id,a₁,w₁,hq,fun k' hk=>.head step_scope (harr k' (by simp[exitTo,hk]))⟩
 | goto l =>
   simp only at hq
   cases hf:findLabel c l with
   | none =>
     rw[hf] at hq
     exact⟨.goto l,a₁,w₁,hq,fun k' hk=>.head step_scope (harr k' (by simp[gotoIn,hf,hk]))⟩
   | some r =>
     rw[hf] at hq
     obtain⟨e2,a2,w2,q2,r2⟩:=YH hq
     exact⟨e2,a2,w2,q2,.of_steps (Steps.trans (.one step_scope) (harr _ (by simp[gotoIn,hf]))) r2⟩
 | ret=>exact⟨_,a₁,w₁,hq,.of_steps (.one step_scope) harr⟩
 | panic ch=>exact⟨_,a₁,w₁,hq,.of_steps (.one step_scope) harr⟩
 | outgrown=>exact⟨_,a₁,w₁,hq,.of_steps (.one step_scope) harr⟩
theorem Du:∀ {c:Code} {l:Nat} {r:Code},findLabel c l=some r→l∈qG c
 | .seq a b,l,r,h=>by
   rw[findLabel] at h
   rw[qG,List.mem_append]
   split at h
   ·rename_i rest hr
    exact .inl (Du hr)
   ·exact .inr (Du h)
 | .label l',l,r,h=>by
   rw[findLabel] at h
   split at h
   ·rename_i he
    have:l'=l:=by simpa using he
    simp[qG,this]
   ·cases h
 | .skip,_,_,h=>by simp[findLabel] at h
 | .region ..,_,_,h=>by simp[findLabel] at h
 | .cond ..,_,_,h=>by simp[findLabel] at h
 | .block ..,_,_,h=>by simp[findLabel] at h
 | .loop ..,_,_,h=>by simp[findLabel] at h
 | .exit ..,_,_,h=>by simp[findLabel] at h
 | .ret,_,_,h=>by simp[findLabel] at h
 | .scope ..,_,_,h=>by simp[findLabel] at h
 | .goto ..,_,_,h=>by simp[findLabel] at h
 | .rangeFunc ..,_,_,h=>by simp[findLabel] at h
 | .refuse ..,_,_,h=>by simp[findLabel] at h
theorem Jt {t f:Nat} {c:Code} : ∀ (ls:List Nat),Nat.testBit (ls.foldr (fun l s=>dF f (wS c l) ||| s) 0) t=false→∀ l∈ls,Nat.testBit (dF f (wS c l)) t=false
 | [],_,_,hl=>by cases hl
 | x :: ls,h,l,hl=>by
   simp only[List.foldr_cons,Nat.testBit_or,Bool.or_eq_false_iff] at h
   rcases List.mem_cons.1 hl with rfl | hl
   ·exact h.1
   ·exact Jt ls h.2 l hl
theorem RF {t f:Nat} {c r:Code} {l:Nat} (hf:findLabel c l=some r) (h:Nat.testBit (dF (f + 1) (.scope c)) t=false) : Nat.testBit (dF f r) t=false:=by
 simp only[dF,Nat.testBit_or,Bool.or_eq_false_iff] at h
 have:=Jt _ h.2 l (Du hf)
 unfold wS at this
 rw[hf] at this
 exact this
def Ns (P:Program) (nt:Nat) (M0:RM) (ρ0:Ren) (w0:World) (T:Tree AV) (asg:Nat) (K:K3) (e:Exit) (a:Act) (w:World) : Prop :=
 ∃ x T' M' ρ',e=Jj x∧After P M0 ρ0 w0 M' ρ' w∧gz ρ' nt T' a∧(∀ t,Nat.testBit asg t=false→T'.get t=T.get t)∧K x T' M'
theorem Kc {T:Tree AV} : ∀ (vs:List Nat) (i:Nat),ag (vV T vs) i=match vs[i]? with | some t=>(T.get t).getD .top | none=>.top
 | [],i=>by simp[vV,ag]
 | t :: vs,0=>by simp[vV,ag]
 | t :: vs,i + 1=>by simp[vV,ag,Kc vs i]
theorem BJ:∀ (asg:List Nat) (T:Tree AV) (t:Nat),(zM T asg).get t=if t∈asg then some .top else T.get t
 | [],T,t=>by simp[zM]
 | d :: asg,T,t=>by
   simp only[zM,BJ asg,Tree.bq,List.mem_cons]
   by_cases h1:t∈asg
   ·simp[h1]
   ·by_cases h2:t=d <;> simp[h1,h2]
theorem D7:∀ (vs:List Nat) (T:Tree AV) (xs:List AV) (i t:Nat),(t ∉ vs∧(Jp T xs i vs).get t=T.get t)∨∃ j,vs[j]?=some t∧(Jp T xs i vs).get t=some (ag xs (i + j))
 | [],T,xs,i,t=>.inl ⟨by simp,rfl⟩
 | d :: vs,T,xs,i,t=>by
   simp only[Jp]
   rcases D7 vs (T.set d (ag xs i)) xs (i + 1) t with⟨h1,h2⟩ | ⟨j,h1,h2⟩
   ·rw[Tree.bq] at h2
    by_cases e:t=d
    ·rw[if_pos e] at h2
     exact .inr ⟨0,by simp[e],h2⟩
    ·rw[if_neg e] at h2
     exact .inl ⟨by simp[e,h1],h2⟩
   ·exact .inr ⟨j + 1,by simpa using h1,by rw[h2]; congr 2; omega⟩
theorem yM {m:Nat} : ∀ (n i t:Nat),t∈xC m i n↔i≤t∧t<i + n∧Nat.testBit m t=true
 | 0,i,t=>by simp[xC]; omega
 | n + 1,i,t=>by
   simp only[xC]
   split
   ·rename_i h
    rw[List.mem_cons,yM n (i + 1) t]
    constructor
    ·rintro(rfl | ⟨a,b,c⟩)
     ·exact⟨Nat.le_refl _,by omega,h⟩
     ·exact⟨by omega,by omega,c⟩
    ·rintro⟨a,b,c⟩
     by_cases e:t=i
     ·exact .inl e
     ·exact .inr ⟨by omega,by omega,c⟩
   ·rename_i h
    rw[yM n (i + 1) t]
    constructor
    ·rintro⟨a,b,c⟩; exact⟨by omega,by omega,c⟩
    ·rintro⟨a,b,c⟩
     have:t≠i:=fun e=>by subst e; rw[h] at c; cases c
     exact⟨by omega,by omega,c⟩
theorem rR {m n t:Nat} : t∈bitsOf m n↔t<n∧Nat.testBit m t=true:=by
 unfold bitsOf; rw[yM]; simp
theorem Bz {ρ:Ren} {T T' : Tree AV} {a:Act} {asg:Nat} {vs:List Nat} (h:gz ρ nt T' a) (hge:∀ t,nt≤t→ah ρ ((T.get t).getD .top) undef) (hk:∀ t,Nat.testBit asg t=false→T'.get t=T.get t) : gz ρ nt (zP T (bitsOf asg nt) vs (vV T' vs)) a:=by
 refine⟨h.size,fun t=>?_,h.defers⟩
 unfold zP
 rcases D7 vs (zM T (bitsOf asg nt)) (vV T' vs) 0 t with⟨_,h2⟩ | ⟨j,h1,h2⟩
 ·rw[h2,BJ]
  split
  ·exact .top _
  ·rename_i hm
   by_cases hb:Nat.testBit asg t=true
   ·have hge' : nt≤t:=by
     rcases Nat.lt_or_ge t nt with hlt | hge
     ·exact absurd (rR.2 ⟨hlt,hb⟩) hm
     ·exact hge
    have hv:a.tmps.getD t undef=undef:=by
     rw[Array.getD_eq_getD_getElem?,Array.getElem?_eq_none (by rw[h.size]; exact hge')]; rfl
    rw[hv]; exact hge t hge'
   ·rw[← hk t (by simpa using hb)]
    exact h.val t
 ·rw[h2,Nat.zero_add,Kc,h1]
  exact h.val t
theorem EE {T:Tree AV} {asg:Nat} {vs:List Nat} {xs:List AV} (hvs:∀ t∈vs,Nat.testBit asg t=true) (t:Nat) (h:Nat.testBit asg t=false) : (zP T (bitsOf asg nt) vs xs).get t=T.get t:=by
 unfold zP
 rcases D7 vs (zM T (bitsOf asg nt)) xs 0 t with⟨_,h2⟩ | ⟨j,h1,h2⟩
 ·rw[h2,BJ,if_neg]
  intro hm
  rw[(rR.1 hm).2] at h; cases h
 ·have:=hvs t (List.mem_of_getElem? h1)
  rw[h] at this; cases this
theorem gz.ge {ρ:Ren} {T:Tree AV} {a:Act} (h:gz ρ nt T a) : ∀ t,nt≤t→ah ρ ((T.get t).getD .top) undef:=by
 intro t ht
 have:=h.val t
 rw[Array.getD_eq_getD_getElem?,Array.getElem?_eq_none (by rw[h.size]; exact ht)] at this
 exact this
theorem CV {c:Code} {Q:Exit→Act→World→Prop} : ∀ {n m:Nat} {a:Act} {w:World},n≤m→Code.rounds P c Q n a w→Code.rounds P c Q m a w
 | 0,_,_,_,_,h=>h.elim
 | n + 1,m + 1,a,w,hle,h=>by
   rw[rounds_succ] at h ⊢
   refine wp_mono h fun e a' w' hp=>?_
   cases e with
   | normal=>exact CV (Nat.le_of_succ_le_succ hle) hp
   | exit id=>exact hp
   | ret=>exact hp
   | goto l=>exact hp
   | panic c=>exact hp
   | outgrown=>exact hp
theorem zL {t:Nat} : ∀ (l:List Oper),Nat.testBit (FL l) t=false→∀ o∈l,o.dst≠some t
 | [],_,o,ho=>by cases ho
 | x :: l,h,o,ho=>by
   simp only[FL,Nat.testBit_or,Bool.or_eq_false_iff] at h
   rcases List.mem_cons.1 ho with rfl | ho
   ·intro e
    rw[e] at h
    simp[JA,Nat.testBit_two_pow] at h
   ·exact zL l h.2 o ho
theorem QF {ρ:Ren} {x:AV} {u:Value} {p q:Prop} (h:au x p q) (hx:ah ρ x u) : ∃ b,u=.bool b∧(b=true→p)∧(b=false→q):=by
 unfold au at h
 split at h <;> first | (cases h; done) | skip
 rename_i b
 exact⟨b,(aM hx).1,h.1,h.2⟩
theorem Pv (hP:BL P) : ∀ (f:Nat) (c:Code) (env:List (Nat × Nat)) (L:Nat) (T:Tree AV) (M:RM) (K:K3),wpC P nt ret f c env L T M K →
  ∀ (M0:RM) (ρ0:Ren) (w0:World) (ρ:Ren) (a:Act) (w:World),After P M0 ρ0 w0 M ρ w→gz ρ nt T a→c.wp P (Ns P nt M0 ρ0 w0 T (dF f c) K) a w:=by
 intro f
 induction f with
 | zero=>intro c env L T M K h; exact h.elim
 | succ f ih =>
   intro c env L T M K h M0 ρ0 w0 ρ a w hM hA
   cases c with
   | skip=>exact wp_skip ⟨.normal,T,M,ρ,rfl,hM,hA,fun _ _=>rfl,h⟩
   | region id ops d =>
     cases d with
     | false =>
       refine wp_region ?_
       have:=yR (nt:=nt) hP (ops:=ops) (Q:=Ns P nt M0 ρ0 w0 T (dF (f + 1) (.region id ops false)) K) (K:=fun T' M'=>K .normal T' M') (M0:=M0) (ρ0:=ρ0) (w0:=w0) (T0:=T)
        (fun T' M' ρ' a' w' k1 k2 k3 k4=>⟨.normal,T',M',ρ',rfl,k1,k2,fun t ht=>k4 t (zL _ ht),k3⟩) ops.toList 0 (by simp) hA hM (fun _ _=>rfl) h
       rw[Array.length_toList,← List.range_eq_range'] at this
       exact this
     | true =>
       exact LP (nt:=nt) (T:=T) hP hM hA (fun T' M' ρ' a' w' k1 k2 k3 k4=>⟨.normal,T',M',ρ',rfl,k1,k2,fun t ht=>k4 t (zL _ ht),k3⟩) h
   | seq c1 c2 =>
     simp only[wpC] at h
     refine wp_seq ?_
     split at h
     ·refine wp_mono (ih c1 _ _ _ _ _ h M0 ρ0 w0 ρ a w hM hA) fun e a' w' hp=>?_
      obtain⟨x,T1,M1,ρ1,rfl,k1,k2,k3,k4⟩:=hp
      cases x with
      | normal =>
        refine wp_mono (ih c2 _ _ _ _ _ k4 M0 ρ0 w0 ρ1 a' w' k1 k2) fun e a2 w2 hp=>?_
        obtain⟨x,T2,M2,ρ2,he,q1,q2,q3,q4⟩:=hp
        exact⟨x,T2,M2,ρ2,he,q1,q2,fun t ht=>by
         simp only[dF,Nat.testBit_or,Bool.or_eq_false_iff] at ht
         rw[q3 t ht.2,k3 t ht.1],q4⟩
      | exit i =>
        have kk:∀ t,Nat.testBit (dF (f + 1) (.seq c1 c2)) t=false→T1.get t=T.get t:=fun t ht=>by
         simp only[dF,Nat.testBit_or,Bool.or_eq_false_iff] at ht
         exact k3 t ht.1
        rcases Dm i with he | he <;> rw[he] <;> exact⟨.exit i,T1,M1,ρ1,he.symm,k1,k2,kk,k4⟩
      | ret=>exact⟨.ret,T1,M1,ρ1,rfl,k1,k2,fun t ht=>by
        simp only[dF,Nat.testBit_or,Bool.or_eq_false_iff] at ht
        exact k3 t ht.1,k4⟩
     ·unfold bT at h
      refine wp_mono (ih c1 _ _ _ _ _ h M0 ρ0 w0 ρ a w hM hA) fun e a' w' hp=>?_
      obtain⟨x,T1,M1,ρ1,rfl,k1,k2,k3,k4⟩:=hp
      have hge:∀ t,nt≤t→ah ρ1 ((T.get t).getD .top) undef:=fun t ht=>by
       have h1:=k2.ge t ht
       by_cases hb:Nat.testBit (dF f c1) t=false
       ·rw[k3 t hb] at h1; exact h1
       ·have h0:=hA.ge t ht
        have hu:∀ (ρ ρ' : Ren) (x:AV),ah ρ x undef→ah ρ' x undef:=by
         intro ρ ρ' x hx
         unfold undef at hx ⊢
         cases hx with
         | top=>exact .top _
         | sc v p=>exact .sc _ p
         | tup xs vs a=>cases a; exact .tup _ _ .nil
        exact hu _ _ _ h0
      cases x with
      | normal =>
        refine wp_mono (ih c2 _ _ _ _ _ k4 M0 ρ0 w0 ρ1 a' w' k1 (Bz k2 hge k3)) fun e a2 w2 hp=>?_
        obtain⟨x,T2,M2,ρ2,he,q1,q2,q3,q4⟩:=hp
        refine⟨x,T2,M2,ρ2,he,q1,q2,fun t ht=>?_,q4⟩
        simp only[dF,Nat.testBit_or,Bool.or_eq_false_iff] at ht
        rw[q3 t ht.2]
        refine EE (fun t' ht'=>?_) t ht.1
        have:=(rR.1 ht').2
        rw[Nat.testBit_and,Bool.and_eq_true] at this
        exact this.1
      | exit i =>
        have kk:∀ t,Nat.testBit (dF (f + 1) (.seq c1 c2)) t=false→T1.get t=T.get t:=fun t ht=>by
         simp only[dF,Nat.testBit_or,Bool.or_eq_false_iff] at ht
         exact k3 t ht.1
        rcases Dm i with he | he <;> rw[he] <;> exact⟨.exit i,T1,M1,ρ1,he.symm,k1,k2,kk,k4⟩
      | ret=>exact⟨.ret,T1,M1,ρ1,rfl,k1,k2,fun t ht=>by
        simp only[dF,Nat.testBit_or,Bool.or_eq_false_iff] at ht
        exact k3 t ht.1,k4⟩
   | cond cnd c1 c2 =>
     simp only[wpC] at h
     obtain⟨b,hb,h1,h2⟩:=QF h (Hg hA cnd)
     cases b with
     | true =>
       refine wp_cond_true hb (wp_mono (ih c1 _ _ _ _ _ (h1 rfl) M0 ρ0 w0 ρ a w hM hA) fun e a' w' hp=>?_)
       obtain⟨x,T1,M1,ρ1,he,k1,k2,k3,k4⟩:=hp
       exact⟨x,T1,M1,ρ1,he,k1,k2,fun t ht=>by
         simp only[dF,Nat.testBit_or,Bool.or_eq_false_iff] at ht
         exact k3 t ht.1,k4⟩
     | false =>
       refine wp_cond_false hb (wp_mono (ih c2 _ _ _ _ _ (h2 rfl) M0 ρ0 w0 ρ a w hM hA) fun e a' w' hp=>?_)
       obtain⟨x,T1,M1,ρ1,he,k1,k2,k3,k4⟩:=hp
       exact⟨x,T1,M1,ρ1,he,k1,k2,fun t ht=>by
         simp only[dF,Nat.testBit_or,Bool.or_eq_false_iff] at ht
         exact k3 t ht.2,k4⟩
   | block id c1 =>
     simp only[wpC] at h
     split at h <;> first | (cases h; done) | skip
     rename_i hid
     refine wp_block (wp_mono (ih c1 _ _ _ _ _ h M0 ρ0 w0 ρ a w hM hA) fun e a' w' hp=>?_)
     obtain⟨x,T1,M1,ρ1,rfl,k1,k2,k3,k4⟩:=hp
     cases x with
     | normal=>exact⟨.normal,T1,M1,ρ1,rfl,k1,k2,k3,k4⟩
     | ret=>exact⟨.ret,T1,M1,ρ1,rfl,k1,k2,k3,k4⟩
     | exit i =>
       simp only at k4
       split at k4
       ·rename_i he
        have he:=bY he
        subst he
        rw[oO hid]
        simp only[Exit.inBlock,if_true]
        exact⟨.normal,T1,M1,ρ1,rfl,k1,k2,k3,k4⟩
       ·rename_i he
        have he:=EW he
        cases hg:Nat.ble gt i with
        | false=>rw[oO hg]; simp only[Exit.inBlock,if_neg he]; exact⟨.exit i,T1,M1,ρ1,(oO hg).symm,k1,k2,k3,k4⟩
        | true=>rw[wT hg]; exact⟨.exit i,T1,M1,ρ1,(wT hg).symm,k1,k2,k3,k4⟩
   | loop c1 =>
     simp only[wpC] at h
     obtain⟨I,n,hI,hbody⟩:=h
     have hvs:∀ t∈bitsOf (dF f c1 &&& fw ret f env c1 (fw ret f env c1 0)) nt,Nat.testBit (dF f c1) t=true:=fun t' ht'=>by
      have:=(rR.1 ht').2
      rw[Nat.testBit_and,Bool.and_eq_true] at this
      exact this.1
     generalize hv:bitsOf (dF f c1 &&& fw ret f env c1 (fw ret f env c1 0)) nt=vs at hI hbody hvs
     have hu:∀ (ρ ρ' : Ren) (x:AV),ah ρ x undef→ah ρ' x undef:=by
      intro ρ ρ' x hx
      unfold undef at hx ⊢
      cases hx with
      | top=>exact .top _
      | sc v p=>exact .sc _ p
      | tup xs vs a=>cases a; exact .tup _ _ .nil
     have hge:∀ (ρ1:Ren) t,nt≤t→ah ρ1 ((T.get t).getD .top) undef:=fun ρ1 t ht=>hu _ _ _ (hA.ge t ht)
     have key:∀ (m:Nat) (ys:List AV) (M1:RM) (ρ1:Ren) (a1:Act) (w1:World),I m ys M1→After P M0 ρ0 w0 M1 ρ1 w1→gz ρ1 nt (zP T (bitsOf (dF f c1) nt) vs ys) a1 →
       Code.rounds P c1 (Ns P nt M0 ρ0 w0 T (dF (f + 1) (.loop c1)) K) (m + 1) a1 w1:=by
      intro m
      induction m using Nat.strongRecOn with
      | _ m ihm =>
        intro ys M1 ρ1 a1 w1 hIm hM1 hA1
        rw[rounds_succ]
        refine wp_mono (ih c1 _ _ _ _ _ (hbody m ys M1 hIm) M0 ρ0 w0 ρ1 a1 w1 hM1 hA1) fun e a' w' hp=>?_
        obtain⟨x,T2,M2,ρ2,rfl,k1,k2,k3,k4⟩:=hp
        have k3' : ∀ t,Nat.testBit (dF f c1) t=false→T2.get t=T.get t:=fun t ht=>by rw[k3 t ht]; exact EE hvs t ht
        cases x with
        | normal =>
          obtain⟨m',hlt,hI'⟩:=k4
          exact CV (by omega) (ihm m' hlt _ M2 ρ2 a' w' hI' k1 (Bz k2 (hge ρ2) k3'))
        | exit i=>rcases Dm i with he | he <;> rw[he] <;> exact⟨.exit i,T2,M2,ρ2,he.symm,k1,k2,k3',k4⟩
        | ret=>exact⟨.ret,T2,M2,ρ2,rfl,k1,k2,k3',k4⟩
     exact wp_loop_rounds _ (key n _ M ρ a w hI hM (Bz hA (hge ρ) fun _ _=>rfl))
   | exit id =>
     simp only[wpC] at h
     split at h <;> first | (cases h; done) | skip
     rename_i hid
     exact wp_exit ⟨.exit id,T,M,ρ,(oO hid).symm,hM,hA,fun _ _=>rfl,h⟩
   | ret=>exact wp_ret ⟨.ret,T,M,ρ,rfl,hM,hA,fun _ _=>rfl,h⟩
   | rangeFunc=>simp[wpC] at h
   | scope c1 =>
     simp only[wpC] at h
     have hs:∀ t,Nat.testBit (dF (f + 1) (.scope c1)) t=false→Nat.testBit (dF f c1) t=false:=fun t ht=>by
      simp only[dF,Nat.testBit_or,Bool.or_eq_false_iff] at ht
      exact ht.1
     refine IE (wp_mono (ih c1 _ _ _ _ _ h M0 ρ0 w0 ρ a w hM hA) fun e a' w' hp=>?_)
     obtain⟨x,T1,M1,ρ1,rfl,k1,k2,k3,k4⟩:=hp
     cases x with
     | normal=>exact⟨.normal,T1,M1,ρ1,rfl,k1,k2,fun t ht=>k3 t (hs t ht),k4⟩
     | ret=>exact⟨.ret,T1,M1,ρ1,rfl,k1,k2,fun t ht=>k3 t (hs t ht),k4⟩
     | exit i =>
       cases hg:Nat.ble gt i with
       | false =>
         simp only[hg] at k4
         rw[oO hg]
         exact⟨.exit i,T1,M1,ρ1,(oO hg).symm,k1,k2,fun t ht=>k3 t (hs t ht),k4⟩
       | true =>
         simp only[hg] at k4
         rw[wT hg]
         simp only
         cases hf:findLabel c1 (i - gt) with
         | none =>
           simp only[hf] at k4
           exact⟨.exit i,T1,M1,ρ1,(wT hg).symm,k1,k2,fun t ht=>k3 t (hs t ht),k4⟩
         | some r =>
           simp only[hf] at k4
           refine wp_mono (ih r _ _ _ _ _ k4 M0 ρ0 w0 ρ1 a' w' k1 k2) fun e a2 w2 hp=>?_
           obtain⟨x,T2,M2,ρ2,rfl,q1,q2,q3,q4⟩:=hp
           have q3' : ∀ t,Nat.testBit (dF (f + 1) (.scope c1)) t=false→T2.get t=T.get t:=fun t ht=>by rw[q3 t (RF hf ht),k3 t (hs t ht)]
           cases x with
           | normal=>exact⟨.normal,T2,M2,ρ2,rfl,q1,q2,q3',q4⟩
           | ret=>exact⟨.ret,T2,M2,ρ2,rfl,q1,q2,q3',q4⟩
           | exit j =>
             cases hj:Nat.ble gt j with
             | true=>simp only[hj] at q4
             | false =>
               simp only[hj] at q4
               rw[oO hj]
               exact⟨.exit j,T2,M2,ρ2,(oO hj).symm,q1,q2,q3',q4⟩
   | label l=>exact wp_label ⟨.normal,T,M,ρ,rfl,hM,hA,fun _ _=>rfl,h⟩
   | goto l =>
     simp only[wpC] at h
     refine wp_goto ⟨.exit (gt + l),T,M,ρ, ?_,hM,hA,fun _ _=>rfl,h⟩
     rw[wT (by simp),Nat.add_sub_cancel_left]
   | refuse=>simp[wpC] at h
theorem Ol {ρ:Ren} {T:Tree AV} {M:RM} {a:Act} {w:World} (hA:gz ρ nt T a) (hw:bO P ρ M w) {r:ResultVar} {K:AV→Prop} (h:Sy P T M r K) :
  ∃ v v',(BS a.tmps r).run P w=.ok v' w∧ah ρ v v'∧K v:=by
 cases r with
 | tmp t=>exact⟨_,_,rfl,hA.val t,h⟩
 | cell x t =>
   simp only[Sy] at h
   have hv:=hA.val x
   split at h <;> first | (cases h; done) | skip
   ·rename_i ha
    obtain⟨b,p,v,hx,hl,hk⟩:=h
    rw[hx] at hv
    obtain⟨i,hb,hc⟩:=df hv
    obtain⟨u,hu,hcell⟩:=Ht hw hb hl
    refine⟨v,u, ?_,hu,hk⟩
    simp only[BS,hc,asAddr,Sem.run_bind,Sem.run_pure,Result.andThen_ok,loadVar,gU ha,Bool.false_eq_true,if_false,load,Sem.run,hcell]
   ·rename_i ha
    split at h <;> first | (cases h; done) | skip
    rename_i n hs
    obtain⟨b,p,xs,hx,hl,hk⟩:=h
    rw[hx] at hv
    obtain⟨i,hb,hc⟩:=df hv
    obtain⟨vs,hr,hlen,_,hrun⟩:=RM.kH (P:=P) hw hb hl
    exact⟨.agg xs,.agg ⟨vs⟩,by simp only[BS,hc,asAddr,Sem.run_bind,Sem.run_pure,Result.andThen_ok,loadVar,gU ha,if_true,bR hs,hrun],.agg _ _ hr,hk⟩
theorem xP {ρ:Ren} {T:Tree AV} {M:RM} {a:Act} {w:World} (hA:gz ρ nt T a) (hw:bO P ρ M w) : ∀ (rs:List ResultVar) (K:List AV→Prop),Rz P T M rs K →
  ∃ vs us,(rs.mapM (BS a.tmps)).run P w=.ok us w∧aQ ρ vs us∧K vs
 | [],K,h=>⟨[],[],by simp,.nil,h⟩
 | r :: rs,K,h=>by
   obtain⟨v,v',h1,h2,h3⟩:=Ol hA hw h
   obtain⟨vs,us,h4,h5,h6⟩:=xP hA hw rs _ h3
   refine⟨v :: vs,v' :: us, ?_,.cons _ _ _ _ h2 h5,h6⟩
   simp only[List.mapM_cons,Sem.run_bind,h1,Result.andThen_ok,h4,Sem.run_pure]
theorem GM (hP:BL P) {f:FuncId} {fn:Func} {c:Code} {args:List AV} {M:RM} {Q:ai} (hfn:P.funcs[f]?=some fn) (hbody:fn.body=some c) (h:PL P fn c args M Q) : dW P f args M Q:=by
 refine⟨⟨fn,c,hfn,hbody⟩,fun ρ w us hargs hw=>?_⟩
 have hlen:=hargs.length
 have hA:gz ρ (args.length + (fn.ntmps - args.length)) (Tree.ofList args 0 .leaf) { tmps:=⟨us⟩++Array.replicate (fn.ntmps - (⟨us⟩ : Array Value).size) undef,defers:=[] } := by
  refine⟨by simp[hlen],fun t=>?_,rfl⟩
  rw[Tree.mG]
  by_cases ht:t<args.length
  ·rw[if_pos (by omega),Nat.sub_zero]
   obtain⟨u,hu,hv⟩:=hargs.get (n:=t) (x:=args[t]) (by simp[ht])
   rw[List.getElem?_eq_getElem ht]
   simp only[Option.getD_some]
   have:((⟨us⟩ : Array Value)++Array.replicate (fn.ntmps - (⟨us⟩ : Array Value).size) undef).getD t undef=u:=by
    rw[Array.getD_eq_getD_getElem?,Array.getElem?_append_left (by simp; omega)]
    simp[hu]
   rw[this]; exact hv
  ·rw[if_neg (by omega)]
   exact .top _
 refine calls_of_wp hfn hbody (wp_mono (Pv hP 1000 c [] 0 _ M _ h M ρ w ρ _ w (After.refl hw) hA) fun e a w' hp=>?_)
 obtain⟨x,T',M',ρ',rfl,k1,k2,k3,k4⟩:=hp
 have key:(∃ vs us,(fn.results.toList.mapM (BS a.tmps)).run P w'=.ok us w'∧aQ ρ' vs us∧VK Q M' vs) →
   a.defers=[]∧∃ v,(results fn a.tmps).run P w'=.ok v w'∧∃ v' v_1 Vg VW,Ending.returned v=.returned v'∧After P M ρ w Vg VW w'∧ah VW v_1 v'∧Q v_1 Vg:=by
  rintro⟨vs,us,h1,h2,h3⟩
  have hres:(results fn a.tmps).run P w'=.ok (if h:(⟨us⟩ : Array Value).size=1 then(⟨us⟩ : Array Value)[0] else .tuple ⟨us⟩) w':=by
   have e:results fn a.tmps=(fn.results.mapM (BS a.tmps) >>= fun vs=>pure (if h:vs.size=1 then vs[0] else .tuple vs)):=rfl
   rw[e,Array.mapM_eq_mapM_toList]
   simp only[Sem.run_bind,Sem.run_map,h1,Result.andThen_ok,Sem.run_pure]
  refine⟨k2.defers,_,hres, ?_⟩
  cases h2 with
  | nil=>exact⟨_,_,M',ρ',rfl,k1,.tup _ _ .nil,h3⟩
  | cons x v xs vs2 hv htl =>
    cases htl with
    | nil=>exact⟨_,x,M',ρ',rfl,k1,hv,h3⟩
    | cons y u ys us2 hu XZ=>exact⟨_,_,M',ρ',rfl,k1,.tup _ _ (.cons _ _ _ _ hv (.cons _ _ _ _ hu XZ)),h3⟩
 cases x with
 | normal=>exact key (xP k2 k1.rel _ _ k4)
 | ret=>exact key (xP k2 k1.rel _ _ k4)
 | exit id=>exact k4.elim
abbrev aj:=List AV→RM→ai→Prop
def Gp (P:Program) (fn:Func) (args:List AV) (M:RM) (Q:ai) : Prop :=
 match fn.body with
 | some c=>PL P fn c args M Q
 | none=>False
theorem QH (hP:BL P) {f:FuncId} {fn:Func} {args:List AV} {M:RM} {Q:ai} (hfn:P.funcs[f]?=some fn) (h:Gp P fn args M Q) : dW P f args M Q:=by
 unfold Gp at h
 split at h
 ·rename_i c hc; exact GM hP hfn hc h
 ·cases h
end
def RM.cell (M:RM) (b o:Nat) : Option AV:=(M.cells b).bind (·[o]?)
section
variable {M M' : RM} {K:AV→Prop} {KQ:ai}
theorem FK {b o:Nat} {v:AV} : M.loads b o 1=some [v]↔M.cell b o=some v:=by
 unfold RM.loads RM.cell
 cases hc:M.cells b with
 | none=>simp
 | some l =>
   simp only[Option.bind_some]
   constructor
   ·intro h
    split at h
    ·rename_i hlt
     have h1:=Option.some.inj h
     have:((l.drop o).take 1)[0]?=some v:=by rw[h1]; rfl
     rw[List.getElem?_take,if_pos (by omega),List.getElem?_drop] at this
     simpa using this
    ·cases h
   ·intro h
    have hlt:=(List.getElem?_eq_some_iff.1 h).1
    rw[if_pos (by omega)]
    congr 1
    rw[List.drop_eq_getElem_cons hlt]
    simp only[List.take_succ_cons,List.take_zero]
    congr 1
    exact(List.getElem?_eq_some_iff.1 h).2
@[go_sem] theorem eB (b o:Nat) : ak M (.ptr b o) K=∃ v,M.cell b o=some v∧K v:=by
 apply propext; unfold ak
 constructor
 ·rintro⟨b',o',v,h,hl,hk⟩; cases h; exact⟨v,FK.1 hl,hk⟩
 ·rintro⟨v,hl,hk⟩; exact⟨b,o,v,rfl,FK.2 hl,hk⟩
@[go_sem] theorem qz (b o n:Nat) : aH M (.ptr b o) n K=∃ vs,M.loads b o n=some vs∧K (.agg vs):=by
 apply propext; unfold aH
 constructor
 ·rintro⟨b',o',v,h,hl,hk⟩; cases h; exact⟨v,hl,hk⟩
 ·rintro⟨v,hl,hk⟩; exact⟨b,o,v,rfl,hl,hk⟩
@[go_sem] theorem Ev (b p:Nat) (x:AV) (n:Nat) (K:RM→Prop) : aA M (.ptr b p) x n K=(x.cells.length=n∧∃ M',M.stores b p x.cells=some M'∧K M'):=by
 apply propext; unfold aA
 constructor
 ·rintro⟨b',o',M',h,h1,h2,hk⟩; cases h; exact⟨h1,M',h2,hk⟩
 ·rintro⟨h1,M',h2,hk⟩; exact⟨b,p,M',rfl,h1,h2,hk⟩
def zO (k:IntKind) (a b:Int) : Int:=k.wrap (BitVec.ofInt k.bits a &&& BitVec.ofInt k.bits b).toNat
def ES (k:IntKind) (a b:Int) : Int:=k.wrap (BitVec.ofInt k.bits a ||| BitVec.ofInt k.bits b).toNat
def Aw (k:IntKind) (a b:Int) : Int:=k.wrap (BitVec.ofInt k.bits a ^^^ BitVec.ofInt k.bits b).toNat
def Uj (k:IntKind) (a b:Int) : Int:=k.wrap (BitVec.ofInt k.bits a &&& ~~~BitVec.ofInt k.bits b).toNat
def Kk (k:IntKind) (a b:Int) : Int:=k.wrap (a * 2 ^ (min b.toNat k.bits))
def uJ (k:IntKind) (a b:Int) : Int:=a.fdiv (2 ^ (min b.toNat k.bits))
section
variable (k:IntKind) (a b:Int)
theorem fG {op:BinOp} {v:Value} (h:tq op k a b=some v) : af op (N k a) (N k b) K=K (.sc v):=by
 apply propext; unfold af
 constructor
 ·rintro⟨k',a',b',u,h1,h2,h3,hk⟩; cases h1; cases h2; rw[h] at h3; cases h3; exact hk
 ·intro hk; exact⟨k,a,b,v,rfl,rfl,h,hk⟩
@[go_sem] theorem eH:af .add (N k a) (N k b) K=K (N k (k.wrap (a + b))):=fG k a b rfl
@[go_sem] theorem lY:af .sub (N k a) (N k b) K=K (N k (k.wrap (a - b))):=fG k a b rfl
@[go_sem] theorem uf:af .mul (N k a) (N k b) K=K (N k (k.wrap (a * b))):=fG k a b rfl
@[go_sem] theorem kU:af .and (N k a) (N k b) K=K (N k (zO k a b)):=fG k a b rfl
@[go_sem] theorem je:af .or (N k a) (N k b) K=K (N k (ES k a b)):=fG k a b rfl
@[go_sem] theorem iT:af .xor (N k a) (N k b) K=K (N k (Aw k a b)):=fG k a b rfl
@[go_sem] theorem Wv:af .andNot (N k a) (N k b) K=K (N k (Uj k a b)):=fG k a b rfl
@[go_sem] theorem dR:af .eql (N k a) (N k b) K=K (Bo (a == b)):=fG k a b rfl
@[go_sem] theorem dm:af .neq (N k a) (N k b) K=K (Bo (a != b)):=fG k a b rfl
@[go_sem] theorem lN:af .lss (N k a) (N k b) K=K (Bo (decide (a<b))):=fG k a b rfl
@[go_sem] theorem nL:af .leq (N k a) (N k b) K=K (Bo (decide (a≤b))):=fG k a b rfl
@[go_sem] theorem uK:af .gtr (N k a) (N k b) K=K (Bo (decide (a > b))):=fG k a b rfl
@[go_sem] theorem fq:af .geq (N k a) (N k b) K=K (Bo (decide (a ≥ b))):=fG k a b rfl
@[go_sem] theorem JP:af .quo (N k a) (N k b) K=(b≠0∧K (N k (k.wrap (a.tdiv b)))):=by
 apply propext; unfold af tq
 constructor
 ·rintro⟨k',a',b',u,h1,h2,h3,hk⟩; cases h1; cases h2
  simp only at h3
  split at h3
  ·cases h3
  ·cases h3; exact⟨‹_›,hk⟩
 ·rintro⟨h0,hk⟩; exact⟨k,a,b,_,rfl,rfl,by simp only[if_neg h0],hk⟩
@[go_sem] theorem KI:af .rem (N k a) (N k b) K=(b≠0∧K (N k (a.tmod b))):=by
 apply propext; unfold af tq
 constructor
 ·rintro⟨k',a',b',u,h1,h2,h3,hk⟩; cases h1; cases h2
  simp only at h3
  split at h3
  ·cases h3
  ·cases h3; exact⟨‹_›,hk⟩
 ·rintro⟨h0,hk⟩; exact⟨k,a,b,_,rfl,rfl,by simp only[if_neg h0],hk⟩
variable (l:IntKind)
@[go_sem] theorem Cx:oZ .shl (N k a) (N l b) K=(0≤b∧K (N k (Kk k a b))):=by
 apply propext; unfold oZ EQ
 constructor
 ·rintro⟨k',a',l',b',u,h1,h2,h3,hk⟩; cases h1; cases h2
  split at h3
  ·cases h3
  ·cases h3; exact⟨by omega,hk⟩
 ·rintro⟨h0,hk⟩; exact⟨k,a,l,b,_,rfl,rfl,by rw[if_neg (by omega)]; rfl,hk⟩
@[go_sem] theorem sH:oZ .shr (N k a) (N l b) K=(0≤b∧K (N k (uJ k a b))):=by
 apply propext; unfold oZ EQ
 constructor
 ·rintro⟨k',a',l',b',u,h1,h2,h3,hk⟩; cases h1; cases h2
  split at h3
  ·cases h3
  ·cases h3; exact⟨by omega,hk⟩
 ·rintro⟨h0,hk⟩; exact⟨k,a,l,b,_,rfl,rfl,by rw[if_neg (by omega)]; rfl,hk⟩
@[go_sem] theorem Zd {l:IntKind} {a:Int} {K:AV→Prop} : EI (N l a) K=K (St (Utf8.encode a).data.toList):=by
 apply propext; unfold EI
 constructor
 ·rintro⟨l',n,h,hk⟩; cases h; exact hk
 ·intro h; exact⟨_,_,rfl,h⟩
@[go_sem] theorem qy:oF k (N l a) K=K (N k (k.wrap a)):=by
 apply propext; unfold oF
 constructor
 ·rintro⟨l',n,h,hk⟩; cases h; exact hk
 ·intro hk; exact⟨l,a,rfl,hk⟩
@[go_sem] theorem Vo (mx:Bool) : Gm mx (N k a) (N k b) K=K (N k (if mx then(if b > a then b else a) else(if b<a then b else a))):=by
 apply propext; unfold Gm
 constructor
 ·rintro⟨k',a',b',h1,h2,hk⟩; cases h1; cases h2; exact hk
 ·intro hk; exact⟨k,a,b,rfl,rfl,hk⟩
@[go_sem] theorem Vn:Pf (N k a) K=K (N k (k.wrap (0 - a))):=by
 apply propext; unfold Pf
 constructor
 ·rintro⟨k',a',h1,hk⟩; cases h1; exact hk
 ·intro hk; exact⟨k,a,rfl,hk⟩
end
@[go_sem] theorem bQ (b:Bool) : eX (Bo b) K=K (Bo (!b)):=by
 apply propext; unfold eX
 constructor
 ·rintro⟨b',h,hk⟩; cases h; exact hk
 ·intro hk; exact⟨b,rfl,hk⟩
@[go_sem] theorem WO (neg a b:Bool) : Cs neg (Bo a) (Bo b) K=K (Bo ((a == b) != neg)):=by
 apply propext; unfold Cs
 constructor
 ·rintro⟨a',b',h,h',hk⟩; cases h; cases h'; exact hk
 ·intro hk; exact⟨a,b,rfl,rfl,hk⟩
@[go_sem] theorem Kw (t:Bool) (a b:AV) : aC (Bo t) a b K=K (if t then a else b):=by
 apply propext; unfold aC
 constructor
 ·rintro⟨t',h,hk⟩; cases h; exact hk
 ·intro hk; exact⟨t,rfl,hk⟩
@[go_sem] theorem KL (b:Bool) (p q:Prop) : au (Bo b) p q=((b=true→p)∧(b=false→q)):=rfl
@[go_sem] theorem XE {α:Type} (b want:Bool) (f g:α→Prop) (k:α) : lh (Bo b) want f g k=if b=want then f k else g k:=rfl
@[go_sem] theorem Wo {α:Type} (want:Bool) (f g:α→Prop) (k:α) : lh .undef want f g k=g k:=rfl
@[go_sem] theorem jI (b o:Nat) : mU (.ptr b o) K=K (.ptr b o):=by
 apply propext; unfold mU
 constructor
 ·rintro⟨b',o',h,hk⟩; cases h; exact hk
 ·intro hk; exact⟨b,o,rfl,hk⟩
@[go_sem] theorem iD (b o n:Nat) : aG (.ptr b o) n K=K (.ptr b (o + n)):=by
 apply propext; unfold aG
 constructor
 ·rintro⟨b',o',h,hk⟩; cases h; exact hk
 ·intro hk; exact⟨b,o,rfl,hk⟩
@[go_sem] theorem DF (b p len:Nat) (cap:Cap) (k:IntKind) (n:Int) (size:Nat) : bf (.slc b p len cap) (N k n) size K=(0≤n∧n<len∧K (.ptr b (p + n.toNat * size))):=by
 apply propext; unfold bf
 constructor
 ·rintro⟨b',p',l',c',k',n',h,h',h0,h1,hk⟩; cases h; cases h'; exact⟨h0,h1,hk⟩
 ·rintro⟨h0,h1,hk⟩; exact⟨b,p,len,cap,k,n,rfl,rfl,h0,h1,hk⟩
@[go_sem] theorem Rs (b p:Nat) (k:IntKind) (n:Int) (len size:Nat) : dL (.ptr b p) (N k n) len size K=(0≤n∧n<len∧K (.ptr b (p + n.toNat * size))):=by
 apply propext; unfold dL
 constructor
 ·rintro⟨b',p',k',n',h,h',h0,h1,hk⟩; cases h; cases h'; exact⟨h0,h1,hk⟩
 ·rintro⟨h0,h1,hk⟩; exact⟨b,p,k,n,rfl,rfl,h0,h1,hk⟩
@[go_sem] theorem PP (cs:List AV) (off:Nat) : I9 (.agg cs) off K=∃ v,cs[off]?=some v∧K v:=by
 apply propext; unfold I9
 constructor
 ·rintro⟨cs',v,h,h1,hk⟩; cases h; exact⟨v,h1,hk⟩
 ·rintro⟨v,h1,hk⟩; exact⟨cs,v,rfl,h1,hk⟩
@[go_sem] theorem XL (cs:List AV) (off n:Nat) : Pk (.agg cs) off n K=(off + n≤cs.length∧K (.agg ((cs.drop off).take n))):=by
 apply propext; unfold Pk
 constructor
 ·rintro⟨cs',h,h1,hk⟩; cases h; exact⟨h1,hk⟩
 ·rintro⟨h1,hk⟩; exact⟨cs,rfl,h1,hk⟩
@[go_sem] theorem Hu (cs:List AV) (k:IntKind) (n:Int) (len:Nat) : EK (.agg cs) (N k n) len K=(0≤n∧n<len∧∃ v,cs[n.toNat]?=some v∧K v):=by
 apply propext; unfold EK
 constructor
 ·rintro⟨cs',k',n',v,h,h',h0,h1,h2,hk⟩; cases h; cases h'; exact⟨h0,h1,v,h2,hk⟩
 ·rintro⟨h0,h1,v,h2,hk⟩; exact⟨cs,k,n,v,rfl,rfl,h0,h1,h2,hk⟩
@[go_sem] theorem XN (cs:List AV) (k:IntKind) (n:Int) (len size:Nat) : Np (.agg cs) (N k n) len size K=(0≤n∧n<len∧n.toNat * size + size≤cs.length∧K (.agg ((cs.drop (n.toNat * size)).take size))):=by
 apply propext; unfold Np
 constructor
 ·rintro⟨cs',k',n',h,h',h0,h1,h2,hk⟩; cases h; cases h'; exact⟨h0,h1,h2,hk⟩
 ·rintro⟨h0,h1,h2,hk⟩; exact⟨cs,k,n,rfl,rfl,h0,h1,h2,hk⟩
@[go_sem] theorem Nb (s:List UInt8) (k:IntKind) (n:Int) : cK (St s) (N k n) K=(0≤n∧∃ b,s[n.toNat]?=some b∧K (N .u8 b.toNat)):=by
 apply propext; unfold cK
 constructor
 ·rintro⟨s',k',n',b,h,h',h0,h1,hk⟩; cases h; cases h'; exact⟨h0,b,h1,hk⟩
 ·rintro⟨h0,b,h1,hk⟩; exact⟨s,k,n,b,rfl,rfl,h0,h1,hk⟩
@[go_sem] theorem DT (vs:List AV) (i:Nat) : aJ (.tup vs) i K=∃ v,vs[i]?=some v∧K v:=by
 apply propext; unfold aJ
 constructor
 ·rintro⟨cs',v,h,h1,hk⟩; cases h; exact⟨v,h1,hk⟩
 ·rintro⟨v,h1,hk⟩; exact⟨vs,v,rfl,h1,hk⟩
@[go_sem] theorem dI (v:AV) : bN (some v) K=K v:=by
 apply propext; unfold bN
 constructor
 ·rintro⟨v',h,hk⟩; cases h; exact hk
 ·intro hk; exact⟨v,rfl,hk⟩
@[go_sem] theorem uu (b o n:Nat) (c:Cap) : bS (.slc b o n c) K=K (N .i64 n):=by
 apply propext; unfold bS
 constructor
 ·rintro⟨n',h,hk⟩; cases h; exact hk
 ·intro hk; exact⟨n,rfl,hk⟩
@[go_sem] theorem Ru (b:Nat) : bS (.emp b) K=K (N .i64 0):=by
 apply propext; unfold bS
 constructor
 ·rintro⟨n',h,hk⟩; cases h; exact hk
 ·intro hk; exact⟨0,rfl,hk⟩
@[go_sem] theorem SF:bS (.sc (.slice none 0 0)) K=K (N .i64 0):=by
 apply propext; unfold bS
 constructor
 ·rintro⟨n',h,hk⟩; cases h; exact hk
 ·intro hk; exact⟨0,rfl,hk⟩
@[go_sem] theorem bu (s:List UInt8) : aO (St s) K=K (N .i64 s.length):=by
 apply propext; unfold aO
 constructor
 ·rintro⟨s',h,hk⟩; cases h; exact hk
 ·intro hk; exact⟨s,rfl,hk⟩
@[go_sem] theorem Zi (b o n c:Nat) : Km (.slc b o n (.ex c)) K=K (N .i64 c):=by
 apply propext; unfold Km
 constructor
 ·rintro⟨n',h,hk⟩; cases h; exact hk
 ·intro hk; exact⟨c,rfl,hk⟩
@[go_sem] theorem X7:Km (.sc (.slice none 0 0)) K=K (N .i64 0):=by
 apply propext; unfold Km
 constructor
 ·rintro⟨n',h,hk⟩; cases h; exact hk
 ·intro hk; exact⟨0,rfl,hk⟩
@[go_sem] theorem Yi (s:List UInt8) : isStr (St s) K=K (St s):=by
 apply propext; unfold isStr
 constructor
 ·rintro⟨s',h,hk⟩; cases h; exact hk
 ·intro hk; exact⟨s,rfl,hk⟩
@[go_sem] theorem LY {x:AV} {s:List UInt8} (h:xO M x=some s) : tY M x K=K (St s):=by
 apply propext; unfold tY
 constructor
 ·rintro⟨s',h',hk⟩; rw[h] at h'; cases h'; exact hk
 ·intro hk; exact⟨s,h,hk⟩
theorem nX {op:BinOp} {a b:List UInt8} {v:AV} (h:zH op a b=some v) : aX op (St a) (St b) K=K v:=by
 apply propext; unfold aX
 constructor
 ·rintro⟨a',b',u,h1,h2,h3,hk⟩; cases h1; cases h2; rw[h] at h3; cases h3; exact hk
 ·intro hk; exact⟨a,b,v,rfl,rfl,h,hk⟩
@[go_sem] theorem fV (a b:List UInt8) : aX .eql (St a) (St b) K=K (Bo (a == b)):=by rw[← gT]; exact nX rfl
@[go_sem] theorem mh (a b:List UInt8) : aX .neq (St a) (St b) K=K (Bo (a != b)):=by rw[bne,← gT]; exact nX rfl
@[go_sem] theorem YW (a b:List UInt8) : aX .lss (St a) (St b) K=K (Bo (Op.bytesLess a b)):=nX rfl
@[go_sem] theorem XU (a b:List UInt8) : aX .leq (St a) (St b) K=K (Bo (Op.bytesLess a b || a == b)):=by rw[← gT]; exact nX rfl
@[go_sem] theorem Yd (a b:List UInt8) : aX .gtr (St a) (St b) K=K (Bo (!(Op.bytesLess a b || a == b))):=by rw[← gT]; exact nX rfl
@[go_sem] theorem Yq (a b:List UInt8) : aX .geq (St a) (St b) K=K (Bo (!Op.bytesLess a b)):=nX rfl
@[go_sem] theorem bL (a b:List UInt8) : aX .add (St a) (St b) K=(a.length + b.length≤9223372036854775807∧K (St (a++b))):=by
 apply propext; unfold aX
 constructor
 ·rintro⟨a',b',u,h1,h2,h3,hk⟩; cases h1; cases h2
  simp only[zH] at h3
  split at h3
  ·rename_i hb; cases h3; exact⟨aW hb,hk⟩
  ·cases h3
 ·rintro⟨h0,hk⟩; exact⟨a,b,_,rfl,rfl,by simp only[zH,aT.2 h0],hk⟩
theorem iL {neg:Bool} {tag:Nat} {x y:AV} {r:Bool} (ht:IM x=tag) (h:xK x y=some r) : gH neg tag x y K=K (Bo (r != neg)):=by
 apply propext; unfold gH
 constructor
 ·rintro⟨_,r',h',hk⟩; rw[h] at h'; cases h'; exact hk
 ·intro hk; exact⟨ht,r,h,hk⟩
@[go_sem] theorem Gz (neg:Bool) : gH neg 2 (.sc (.slice none 0 0)) (.sc (.slice none 0 0)) K=K (Bo (!neg)):=(iL (tag:=2) (r:=true) rfl rfl).trans (by cases neg <;> rfl)
@[go_sem] theorem Gl (neg:Bool) (b:Nat) : gH neg 2 (.emp b) (.sc (.slice none 0 0)) K=K (Bo neg):=(iL (tag:=2) (r:=false) rfl rfl).trans (by cases neg <;> rfl)
@[go_sem] theorem FP (neg:Bool) (b o n:Nat) (c:Cap) : gH neg 2 (.slc b o n c) (.sc (.slice none 0 0)) K=K (Bo neg):=(iL (tag:=2) (r:=false) rfl rfl).trans (by cases neg <;> rfl)
@[go_sem] theorem UC (neg:Bool) (b o:Nat) : gH neg 1 (.ptr b o) (.sc (.pointer none)) K=K (Bo neg):=(iL (tag:=1) (r:=false) rfl rfl).trans (by cases neg <;> rfl)
@[go_sem] theorem TG (neg:Bool) : gH neg 1 (.sc (.pointer none)) (.sc (.pointer none)) K=K (Bo (!neg)):=(iL (tag:=1) (r:=true) rfl rfl).trans (by cases neg <;> rfl)
@[go_sem] theorem Ur (neg:Bool) (b:Nat) : gH neg 3 (.map b) (.sc (.map none)) K=K (Bo neg):=(iL (tag:=3) (r:=false) rfl rfl).trans (by cases neg <;> rfl)
@[go_sem] theorem U7 (neg:Bool) (f:Fn) (xs ys:List AV) : gH neg 4 (.fn f xs ys) (.sc .nilFunc) K=K (Bo neg):=(iL (tag:=4) (r:=false) rfl rfl).trans (by cases neg <;> rfl)
@[go_sem] theorem OG (neg:Bool) (ks:List Nat) (cs ds:List AV) : lc neg ks (.agg cs) (.agg ds) K=(cs.length=ks.length∧ds.length=ks.length∧∃ r,bV ks cs ds=some r∧K (Bo (r != neg))):=by
 apply propext; unfold lc
 constructor
 ·rintro⟨a',b',r,h1,h2,h3,h4,h5,hk⟩; cases h1; cases h2; exact⟨h3,h4,r,h5,hk⟩
 ·rintro⟨h3,h4,r,h5,hk⟩; exact⟨cs,ds,r,rfl,rfl,h3,h4,h5,hk⟩
@[go_sem] theorem RH (C:FuncId→aj) (g:FuncId) (first cap args:List AV) : IW C (.fn (.func g) first cap) args M KQ=C g (first++args++cap) M KQ:=by
 apply propext; unfold IW
 constructor
 ·rintro⟨g',f',c',h,hk⟩; cases h; exact hk
 ·intro hk; exact⟨g,first,cap,rfl,hk⟩
@[go_sem] theorem iJ (cs:List AV) (parts:List (Nat × Nat × AV)) : dV cs parts K=∃ cs',mD cs parts=some cs'∧K (.agg cs'):=rfl
@[go_sem] theorem aF (x:RB) (mk:Nat→AV) : aV x mk M KQ=KQ (mk M.next) (M.push x):=rfl
@[go_sem] theorem ML (x:RB) (mk:Nat→AV) (k:KR) : Nn x mk M k=k (mk M.next) (M.push x) (some M.next):=rfl
@[go_sem] theorem Yz (f:(List AV→RM→Prop)→Prop) (g:List AV→RM→Prop) : bT f g=f g:=rfl
@[go_sem] theorem iN (x:AV) (xs:List AV) : ag (x :: xs) 0=x:=rfl
@[go_sem] theorem H5 (x:AV) (xs:List AV) (n:Nat) : ag (x :: xs) (n + 1)=ag xs n:=rfl
@[go_sem] theorem Xt (b:Nat) (x:RB) (mk:Nat→AV) (v:AV) : OP (some b) M x mk v=(M.heap b=some x∧mk b=v):=rfl
end
section
variable {M M' : RM}
theorem RM.uW {b:Nat} {l:List AV} {opn:Bool} {el fz:Nat} (h:M.heap b=some (.row l opn el fz)) : M.cells b=some l:=by simp[RM.cells,h]
theorem RM.Sb {b o:Nat} {l:List AV} {opn:Bool} {el fz:Nat} (h:M.heap b=some (.row l opn el fz)) : M.cell b o=l[o]?:=by simp[RM.cell,RM.uW h]
theorem RM.kG {b o k:Nat} {l:List AV} {opn:Bool} {el fz:Nat} (h:M.heap b=some (.row l opn el fz)) (hk:o + k≤l.length) : M.loads b o k=some ((l.drop o).take k):=by
 simp[RM.loads,RM.uW h,hk]
theorem RM.Ob {b o:Nat} {l vs:List AV} {opn:Bool} {el fz:Nat} (h:M.heap b=some (.row l opn el fz)) (h1:o + vs.length≤l.length) (h2:fz≤o) (h3:vs.all oneCell=true) :
  M.stores b o vs=some (M.put b (.row (l.take o++vs++l.drop (o + vs.length)) opn el fz)):=by
 simp only[RM.stores,h]
 rw[if_pos ⟨h1,h2,h3⟩]
structure ae (bs:List Nat) (M M' : RM) : Prop where
 base:M'.base=M.base
 next:M.next≤M'.next
 heap:∀ c,c<M.next→c ∉ bs→M'.heap c=M.heap c
theorem ae.refl (bs:List Nat) (M:RM) : ae bs M M:=⟨rfl,Nat.le_refl _,fun _ _ _=>rfl⟩
theorem ae.trans {bs:List Nat} {M1 M2:RM} (h:ae bs M M1) (k:ae bs M1 M2) : ae bs M M2 :=
 ⟨k.base.trans h.base,Nat.le_trans h.next k.next,fun c hc hb=>(k.heap c (Nat.lt_of_lt_of_le hc h.next) hb).trans (h.heap c hc hb)⟩
theorem ae.push {bs:List Nat} (h:ae bs M M') (x:RB) : ae bs M (M'.push x) :=
 ⟨h.base,Nat.le_succ_of_le h.next,fun c hc hb=>by
  have:=h.next
  simp only[RM.push]; rw[if_neg (by omega)]; exact h.heap c hc hb⟩
theorem ae.put {bs:List Nat} (h:ae bs M M') {b:Nat} (x:RB) (hb:M.next≤b∨b∈bs) : ae bs M (M'.put b x) :=
 ⟨h.base,h.next,fun c hc hcb=>by
  simp only[RM.put]; rw[if_neg]
  ·exact h.heap c hc hcb
  ·rintro rfl; rcases hb with hb | hb
   ·omega
   ·exact hcb hb⟩
theorem ae.del {bs:List Nat} (h:ae bs M M') {b:Nat} (hb:M.next≤b∨b∈bs) : ae bs M (M'.del b) :=
 ⟨h.base,h.next,fun c hc hcb=>by
  simp only[RM.del]; rw[if_neg]
  ·exact h.heap c hc hcb
  ·rintro rfl; rcases hb with hb | hb
   ·omega
   ·exact hcb hb⟩
theorem ae.mono {bs cs:List Nat} (h:ae bs M M') (hs:∀ b∈bs,b∈cs) : ae cs M M':=⟨h.base,h.next,fun c hc hb=>h.heap c hc fun h=>hb (hs c h)⟩
theorem ae.eD {bs:List Nat} {M1 M2:RM} {cs:List Nat} (h:ae bs M M1) (k:ae cs M1 M2) (hn:∀ c∈cs,M.next≤c∨c∈bs) : ae bs M M2 :=
 ⟨k.base.trans h.base,Nat.le_trans h.next k.next,fun c hc hb=>by
  rw[k.heap c (Nat.lt_of_lt_of_le hc h.next) (fun hm=>by rcases hn c hm with h1 | h1; omega; exact hb h1),h.heap c hc hb]⟩
theorem ae.cells {bs:List Nat} (h:ae bs M M') {b:Nat} (hlt:b<M.next) (hb:b ∉ bs) : M'.cells b=M.cells b:=by
 simp only[RM.cells,h.heap b hlt hb,RM.lo,h.base]
theorem ae.cell {bs:List Nat} (h:ae bs M M') {b o:Nat} (hlt:b<M.next) (hb:b ∉ bs) : M'.cell b o=M.cell b o:=by
 simp only[RM.cell,h.cells hlt hb]
theorem ae.loads {bs:List Nat} (h:ae bs M M') {b o k:Nat} (hlt:b<M.next) (hb:b ∉ bs) : M'.loads b o k=M.loads b o k:=by
 simp only[RM.loads,h.cells hlt hb]
@[go_sem] theorem RM.XH (x:RB) : (M.push x).next=M.next + 1:=rfl
@[go_sem] theorem RM.YO (b:Nat) (x:RB) : (M.put b x).next=M.next:=rfl
@[go_sem] theorem RM.Yr (b:Nat) : (M.del b).next=M.next:=rfl
@[go_sem] theorem RM.aR (x:RB) : (M.push x).heap M.next=some x:=by simp[RM.push]
theorem RM.Rv {x:RB} {c:Nat} (h:c≠M.next) : (M.push x).heap c=M.heap c:=by simp[RM.push,h]
@[go_sem] theorem RM.jJ (b:Nat) (x:RB) : (M.put b x).heap b=some x:=by simp[RM.put]
end
abbrev aB:AV:=.sc (.slice none 0 0)
inductive dK (M:RM) (size:Nat) : AV→List AV→Nat→Prop
 | nil:dK M size aB [] 0
 | emp (b:Nat) : dK M size (.emp b) [] 0
 | slc (b o n:Nat) (cap:Cap) (cs:List AV) : b<M.next→M.loads b o (n * size)=some cs→dK M size (.slc b o n cap) cs n
section
variable {M M' : RM} {size:Nat} {v:AV} {cs:List AV} {n:Nat}
theorem Ia {b o k:Nat} {cs:List AV} (h:M.loads b o k=some cs) : cs.length=k:=by
 unfold RM.loads at h
 split at h <;> first | (cases h; done) | skip
 split at h <;> first | (cases h; done) | skip
 rename_i hle
 have:=Option.some.inj h
 rw[← this,List.length_take,List.length_drop]; omega
theorem QR {b o k:Nat} {cs:List AV} (h:M.loads b o k=some cs) (i:Nat) (hi:i<k) : M.cell b (o + i)=cs[i]?:=by
 unfold RM.loads at h
 unfold RM.cell
 split at h <;> first | (cases h; done) | skip
 rename_i l hl
 split at h <;> first | (cases h; done) | skip
 cases h
 simp only[hl,Option.bind_some]
 rw[List.getElem?_take,if_pos hi,List.getElem?_drop]
theorem vD {b o k:Nat} {cs:List AV} (h:M.loads b o k=some cs) (i j:Nat) (hij:i + j≤k) : M.loads b (o + i) j=some ((cs.drop i).take j):=by
 unfold RM.loads at h ⊢
 cases hl:M.cells b with
 | none=>rw[hl] at h; cases h
 | some l =>
   rw[hl] at h
   simp only at h ⊢
   split at h
   ·rename_i hle
    have h:=Option.some.inj h
    subst h
    rw[if_pos (by omega),List.drop_take,List.drop_drop,List.take_take]
    congr 2
    omega
   ·cases h
theorem E9 {b o:Nat} {l:List AV} (h:M.cells b=some l) (ho:o≤l.length) : M.loads b o 0=some []:=by
 simp[RM.loads,h,ho]
theorem dK.length (h:dK M size v cs n) : cs.length=n * size:=by
 cases h with
 | nil=>exact(Nat.zero_mul _).symm
 | emp=>exact(Nat.zero_mul _).symm
 | slc b o n cap cs hb0 hl=>exact Ia hl
theorem dK.len (h:dK M size v cs n) {K:AV→Prop} : bS v K=K (N .i64 n):=by
 cases h with
 | nil=>exact SF
 | emp b=>exact Ru b
 | slc b o n cap cs hb0 hl=>exact uu b o n cap
theorem dK.mV (h:dK M size v cs n) (zs:List AV) : mV M size zs false v=some (n,cs):=by
 cases h with
 | nil=>rfl
 | emp b=>rfl
 | slc b o n cap cs hb0 hl=>simp only[Go.Ab.mV,hl]
theorem dK.pos (h:dK M size v cs n) (hn:0<n) : ∃ b o cap,v=.slc b o n cap∧b<M.next∧M.loads b o (n * size)=some cs:=by
 cases h with
 | nil=>omega
 | emp b=>omega
 | slc b o n cap cs hb0 hl=>exact⟨b,o,cap,rfl,hb0,hl⟩
theorem dK.xO (h:dK M 1 v cs n) {l:List UInt8} (hb:cz byteOf cs=some l) : xO M v=some l:=by
 cases h with
 | nil=>simp[cz] at hb; subst hb; rfl
 | emp b=>simp[cz] at hb; subst hb; rfl
 | slc b o n cap cs hb0 hl =>
   rw[Nat.mul_one] at hl
   simp only[Go.Ab.xO,hl]; exact hb
def aD:AV→List Nat
 | .slc b _ _ _=>[b]
 | _=>[]
theorem dK.keep {bs:List Nat} (h:dK M size v cs n) (hk:ae bs M M') (hb:∀ b∈aD v,b ∉ bs) : dK M' size v cs n:=by
 cases h with
 | nil=>exact .nil
 | emp b=>exact .emp b
 | slc b o n cap cs hb0 hl =>
   exact .slc b o n cap cs (Nat.lt_of_lt_of_le hb0 hk.next) (by rw[hk.loads hb0 (hb b (by simp[aD]))]; exact hl)
inductive Own (M:RM) (base el size:Nat) : AV→List AV→Nat→Prop
 | nil:Own M base el size aB [] 0
 | ex0 (b o:Nat) : base≤b→b<M.next→(∃ l,M.cells b=some l∧o≤l.length)→Own M base el size (.slc b o 0 (.ex 0)) [] 0
 | op (b n:Nat) (cs:List AV) : base≤b→b<M.next→M.heap b=some (.row cs true el 0)→cs.length=n * size→Own M base el size (.slc b 0 n (.op size)) cs n
theorem Own.sZ {base el:Nat} (h:Own M base el size v cs n) : dK M size v cs n:=by
 cases h with
 | nil=>exact .nil
 | ex0 b o hb hlt hc =>
   obtain⟨l,hl,ho⟩:=hc
   exact .slc b o 0 _ [] hlt (by rw[Nat.zero_mul]; exact E9 hl ho)
 | op b n cs hb hlt hh hl =>
   refine .slc b 0 n _ cs hlt ?_
   rw[RM.kG hh (by omega)]
   simp[← hl]
theorem Own.blk {base el:Nat} (h:Own M base el size v cs n) : ∀ b∈aD v,base≤b∧b<M.next:=by
 cases h with
 | nil=>intro b hb; simp[aD] at hb
 | ex0 b o hb hlt hc=>intro c hc; simp[aD] at hc; subst hc; exact⟨hb,hlt⟩
 | op b n cs hb hlt hh hl=>intro c hc; simp[aD] at hc; subst hc; exact⟨hb,hlt⟩
theorem Own.keep {base el:Nat} {bs:List Nat} (h:Own M base el size v cs n) (hk:ae bs M M') (hb:∀ b∈aD v,b ∉ bs) : Own M' base el size v cs n:=by
 cases h with
 | nil=>exact .nil
 | ex0 b o h1 hlt hc=>exact .ex0 b o h1 (Nat.lt_of_lt_of_le hlt hk.next) (by rw[hk.cells hlt (hb b (by simp[aD]))]; exact hc)
 | op b n cs h1 hlt hh hl=>exact .op b n cs h1 (Nat.lt_of_lt_of_le hlt hk.next) (by rw[hk.heap b hlt (hb b (by simp[aD]))]; exact hh) hl
theorem Own.mono {base base' el:Nat} (h:Own M base el size v cs n) (hb:base'≤base) : Own M base' el size v cs n:=by
 cases h with
 | nil=>exact .nil
 | ex0 b o h1 hlt hc=>exact .ex0 b o (Nat.le_trans hb h1) hlt hc
 | op b n cs h1 hlt hh hl=>exact .op b n cs (Nat.le_trans hb h1) hlt hh hl
theorem Cm {base el bytes:Nat} {zs:List AV} {zeros:Bool} {x:AV} {m:Nat} {ds:List AV} {K:ai} (h:Own M base el size v cs n) (hbase:base≤M.next) (hs:1≤size) (hx:mV M size zs zeros x=some (m,ds)) (hd:ds.length=m * size)
  (h1:ds.all oneCell=true) (hb:(n + m) * bytes≤140737488355328) (hb2:n + m≤140737488355328)
  (hK:∀ v' M',Own M' base el size v' (cs++ds) (n + m)→ae (aD v) M M'→M.next≤M'.next→(v'=v∨∀ b∈aD v',M.next≤b)→K v' M') : appW el size bytes zs zeros v x M K:=by
 have hmb:m * bytes≤140737488355328:=Nat.le_trans (Nat.mul_le_mul_right _ (by omega)) hb
 refine⟨m,ds,hx,hmb,by omega, ?_⟩
 cases h with
 | nil =>
   by_cases hm:m=0
   ·subst hm
    have:ds=[]:=List.eq_nil_of_length_eq_zero (by simpa using hd)
    subst this
    exact⟨aB,M,by simp[qR],hK _ _ .nil (ae.refl _ _) (Nat.le_refl _) (.inl rfl)⟩
   ·refine⟨.slc M.next 0 m (.op size),M.push (.row ds true el 0),by simp only[qR,if_neg hm,h1,if_true],hK _ _ ?_ ((ae.refl _ _).push _) (by simp[RM.push]) (.inr fun b hb=>by simp[aD] at hb; omega)⟩
    simp only[List.nil_append,Nat.zero_add]
    exact .op _ _ _ hbase (by simp[RM.push]) (RM.aR _) hd
 | ex0 b o hb0 hlt hc =>
   obtain⟨l,hl,ho⟩:=hc
   by_cases hm:m=0
   ·subst hm
    have:ds=[]:=List.eq_nil_of_length_eq_zero (by simpa using hd)
    subst this
    exact⟨_,M,by simp[qR],hK _ _ (.ex0 b o hb0 hlt ⟨l,hl,ho⟩) (ae.refl _ _) (Nat.le_refl _) (.inl rfl)⟩
   ·refine⟨.slc M.next 0 m (.op size),M.push (.row ds true el 0), ?_,hK _ _ ?_ ((ae.refl _ _).push _) (by simp[RM.push]) (.inr fun b hb=>by simp[aD] at hb; omega)⟩
    ·have hl0:M.loads b o (0 * size)=some []:=by rw[Nat.zero_mul]; exact E9 hl ho
     simp only[qR,if_neg hm]
     rw[if_neg (by omega),hl0]
     simp only[Nat.zero_add,List.nil_append]
     rw[if_pos ⟨hmb,by omega,h1⟩]
    ·simp only[List.nil_append,Nat.zero_add]
     exact .op _ _ _ hbase (by simp[RM.push]) (RM.aR _) hd
 | op b n cs hb0 hlt hh hl =>
   by_cases hm:m=0
   ·subst hm
    have:ds=[]:=List.eq_nil_of_length_eq_zero (by simpa using hd)
    subst this
    exact⟨_,M,by simp[qR],hK _ _ (by simpa using .op b n cs hb0 hlt hh hl) (ae.refl _ _) (Nat.le_refl _) (.inl rfl)⟩
   ·have hpos:1≤m * size:=Nat.mul_pos (by omega) hs
    have hsum:(n + m) * size=n * size + m * size:=Nat.add_mul _ _ _
    refine⟨.slc M.next 0 (n + m) (.op size),(M.del b).push (.row (cs++ds) true el 0), ?_,hK _ _ ?_ (((ae.refl _ _).del (.inr (by simp[aD]))).push _) (by simp[RM.push,RM.del]) (.inr fun b hb=>by simp[aD] at hb; omega)⟩
    ·simp only[qR,if_neg hm,hh,and_self,if_true]
     rw[if_neg (by omega),if_pos ⟨trivial,hb,hb2,trivial,hl,Nat.zero_le _,h1⟩]
    ·exact .op _ _ _ (show base≤M.next from hbase) (by simp[RM.push,RM.del]) (by simp[RM.push,RM.del]) (by rw[List.length_append,hl,hd,hsum])
theorem dK.xK (h:dK M size v cs n) (neg:Bool) : (v=aB∧∀ K:AV→Prop,gH neg 2 v aB K=K (Bo (!neg)))∨(v≠aB∧∀ K:AV→Prop,gH neg 2 v aB K=K (Bo neg)):=by
 cases h with
 | nil=>exact .inl ⟨rfl,fun _=>Gz neg⟩
 | emp b=>exact .inr ⟨by(intro h; cases h),fun _=>Gl neg b⟩
 | slc b o n cap cs hb0 hl=>exact .inr ⟨by(intro h; cases h),fun _=>FP neg b o n cap⟩
theorem Own.lit {base el T:Nat} (M:RM) (h:base≤M.next) : Own (M.push (.row [] false T 0)) base el size (.slc M.next 0 0 (.ex 0)) [] 0 :=
 .ex0 _ _ h (by simp[RM.push]) ⟨[],by simp[RM.cells,RM.push],Nat.le_refl _⟩
end
end Go.Ab
set_option maxRecDepth 4000
namespace Go.Ab
open Go
theorem wrap_u8 (n:Nat) : IntKind.wrap .u8 (n:Int)=((n % 256:Nat) : Int):=by
 simp only[IntKind.wrap,IntKind.bits,IntKind.signed,IntKind.max,IntKind.min]
 simp
theorem wrap_u64 (n:Nat) : IntKind.wrap .u64 (n:Int)=((n % 18446744073709551616:Nat) : Int):=by
 simp only[IntKind.wrap,IntKind.bits,IntKind.signed,IntKind.max,IntKind.min]
 simp
theorem rH {n:Int} (h0:0≤n) (h:n<256) : IntKind.wrap .u8 n=n:=by
 obtain⟨m,rfl⟩:=Int.eq_ofNat_of_zero_le h0
 rw[wrap_u8,Nat.mod_eq_of_lt (by omega)]
theorem CY {n:Int} (h0:0≤n) (h:n<18446744073709551616) : IntKind.wrap .u64 n=n:=by
 obtain⟨m,rfl⟩:=Int.eq_ofNat_of_zero_le h0
 rw[wrap_u64,Nat.mod_eq_of_lt (by omega)]
theorem eO {n:Int} (h0 : -9223372036854775808≤n) (h:n<9223372036854775808) : IntKind.wrap .i64 n=n:=by
 rw[IntKind.wrap_i64]; omega
theorem Qn (n:Nat) : (UInt8.ofNat n).toNat=n % 256:=by simp
end Go.Ab
namespace Go.Ab
open Go Go.RowKit
section
variable {P:Program}
theorem bO.opened {ρ:Ren} {M:RM} {w:World} {b n:Nat} {l:List AV} {el:Nat} {u:Value} (hw:bO P ρ M w) (hh:M.heap b=some (.row l true el 0)) (hl:l.length=n) (hv:ah ρ (.slc b 0 n (.op 1)) u) :
  ∃ c,n≤c∧ah ρ (.slc b 0 n (.ex c)) u∧bO P ρ (M.put b (.row (l++List.replicate (c - n) .top) true el 0)) w:=by
 obtain⟨A,hA⟩:=hw
 obtain⟨k,i,hb,hp,he,hk,rfl⟩:=Dy hv
 rcases hA.blk b _ hh with⟨y,hy,hle⟩ | ⟨_,e0,_⟩
 ·cases y <;> first | exact hle.elim | skip
  rename_i nn tree zs opn elem fz
  obtain⟨r1,rfl,rfl,rfl,r5⟩:=hle
  obtain⟨ob,hob,cs,fr,rfl,hrow⟩:=hA.rel.blk b i _ hb hy
  obtain⟨h0,hcs,hels⟩:=hrow.opn rfl
  have hk0:k=0:=by
   rcases Nat.eq_zero_or_pos k with e | e
   ·exact e
   ·have:0<k * i.esz:=Nat.mul_pos e h0
    omega
  subst hk0
  have hsh:=hrow.sh0
  rw[← he,Nat.mul_one,hsh,Nat.zero_add] at hcs
  refine⟨i.fM,by omega, ?_,⟨{ A with heap:=A.heap.set b (.row i.fM (Tree.ofList (l++List.replicate (i.fM - n) .top) 0 .leaf) [] true elem 0) },hA.next,⟨hA.rel.dom,fun b' i' x hb' hx=>?_,fun b1 b2 i1 i2 x1 x2 p1 p2 g1 g2 e=>?_,fun b' x hx=>?_,fun b' i' x hb' hx=>?_,hA.rel.inv⟩,hA.size,fun c x hx=>?_,hA.old⟩⟩
  ·have:=ah.gZ (ρ:=ρ) b 0 n i.fM i hb
   rw[Nat.zero_mul] at *
   simpa using this
  ·simp only[Tree.bq] at hx
   by_cases e:b'=b
   ·subst e
    rw[if_pos rfl] at hx
    cases hx
    rw[hb] at hb'; cases hb'
    refine⟨_,hob,cs,fr,rfl,⟨by rw[hsh]; omega,fun j x hj=>?_,fun j h1 h2=>hrow.free j h1 h2,hrow.mark,fun _=>⟨h0,by rw[hsh,← he]; omega,hels⟩,hsh⟩⟩
    obtain⟨hjlt,hj2⟩:=jS hj
    rw[Tree.mG] at hj2
    split at hj2
    ·rename_i hlt
     rw[Nat.sub_zero] at hj2
     by_cases hjl:j<l.length
     ·rw[List.getElem?_append_left hjl] at hj2
      exact hrow.val j x (r5 j x hj2)
     ·rw[List.getElem?_append_right (by omega),List.getElem?_replicate] at hj2
      split at hj2
      ·cases hj2
       exact⟨cs[j]'(by omega),by rw[hsh,Nat.zero_add]; simp,.top _⟩
      ·cases hj2
    ·simp[Tree.get] at hj2
   ·rw[if_neg e] at hx
    exact hA.rel.blk b' i' x hb' hx
  ·have q:∀ {b1 x1},(A.heap.set b (ig.row i.fM (Tree.ofList (l++List.replicate (i.fM - n) .top) 0 .leaf) [] true elem 0)).get b1=some x1→∃ y,A.heap.get b1=some y:=by
    intro b1 x1 h
    rw[Tree.bq] at h
    by_cases e:b1=b
    ·subst e; exact⟨_,hy⟩
    ·rw[if_neg e] at h; exact⟨_,h⟩
   obtain⟨y1,e1⟩:=q g1
   obtain⟨y2,e2⟩:=q g2
   exact hA.rel.sep _ _ _ _ _ _ p1 p2 e1 e2 e
  ·simp only[Tree.bq] at hx
   by_cases e:b'=b
   ·subst e; exact hA.rel.top _ _ hy
   ·rw[if_neg e] at hx; exact hA.rel.top _ _ hx
  ·simp only[Tree.bq] at hx
   by_cases e:b'=b
   ·subst e; exact hA.rel.lo _ _ _ hb' hy
   ·rw[if_neg e] at hx; exact hA.rel.lo _ _ _ hb' hx
  ·simp only[RM.put] at hx
   simp only[Tree.bq]
   by_cases e:c=b
   ·subst e
    rw[if_pos rfl] at hx ⊢
    cases hx
    refine .inl ⟨_,rfl,by simp; omega,rfl,rfl,rfl,fun j v hj=>?_⟩
    have hjl:=(List.getElem?_eq_some_iff.1 hj).1
    exact qg (by simp at hjl; omega) (by rw[Tree.mG,if_pos (by omega)]; simpa using hj)
   ·rw[if_neg e] at hx ⊢
    exact hA.blk c x hx
 ·cases e0
end
def RM.old (base:Base) (w:World) : RM where
 next:=base.n
 heap:=fun b=>if b<base.n then(match w.heap[b]? with | some (.cells c _ _)=>some (.ro c) | _=>none) else none
 base:=base
def JJ (n:Nat) : Ren:=fun b=>if b<n then some ⟨b,0,0,0⟩ else none
theorem RG {P:Program} {base:Base} {w:World} (hn:base.n=w.heap.size) (hi:base.inv w) : bO P (JJ base.n) (RM.old base w) w:=by
 refine⟨{ next:=base.n,heap:=.leaf },rfl,⟨fun b i h=>?_,fun b i x _ h=>by simp[Tree.get] at h,fun b _ i _ x _ _ _ h=>by simp[Tree.get] at h,fun b x h=>by simp[Tree.get] at h,fun b i x _ h=>by simp[Tree.get] at h,hi⟩,by simp[RM.old,RM.lo,hn],fun b x h=>.inr ?_,fun c hc=>by have hc' : c<base.n:=hc; simp only[JJ]; rw[if_pos hc']⟩
 ·simp only[JJ] at h
  split at h <;> first | (cases h; done) | skip
  cases h
  exact⟨by assumption,by rw[← hn]; assumption⟩
 ·simp only[RM.old] at h
  split at h <;> first | (cases h; done) | skip
  rename_i hlt
  split at h <;> first | (cases h; done) | skip
  rename_i c el fr hh
  cases h
  exact⟨c,rfl,hlt,el,fr,hh⟩
theorem RM.Qb {base:Base} {w:World} {b:Nat} {c:Array Value} {el:TypeId} {fr:_} (hb:b<base.n) (h:w.heap[b]?=some (.cells c el fr)) : (RM.old base w).cells b=some (c.toList.map (nI base.n)):=by
 simp only[RM.cells,RM.old,if_pos hb,h]
def sM (lo:Nat) : Value→AV
 | .agg cs=>.agg (cs.toList.map (nI lo))
 | v=>nI lo v
theorem JY {ρ:Ren} {lo:Nat} (h:∀ c,c<lo→ρ c=some ⟨c,0,0,0⟩) : ∀ (vs:List Value),aQ ρ (vs.map (nI lo)) vs
 | []=>.nil
 | v :: vs=>.cons _ _ _ _ (Dq h v) (JY h vs)
theorem RO {ρ:Ren} {lo:Nat} (h:∀ c,c<lo→ρ c=some ⟨c,0,0,0⟩) (v:Value) : ah ρ (sM lo v) v:=by
 unfold sM
 split
 ·exact .agg _ _ (JY h _)
 ·exact Dq h v
theorem Hf {ρ:Ren} {lo:Nat} (h:∀ c,c<lo→ρ c=some ⟨c,0,0,0⟩) : ∀ (vs:List Value),aQ ρ (vs.map (sM lo)) vs
 | []=>.nil
 | v :: vs=>.cons _ _ _ _ (RO h v) (Hf h vs)
theorem dW.close {P:Program} {f:FuncId} {base:Base} {w:World} {us:Array Value} (hn:base.n=w.heap.size) (hi:base.inv w)
  (h:dW P f (us.toList.map (sM base.n)) (RM.old base w) fun v _=>v=Bo true) :
  Calls P f us w fun e w'=>e=.returned (.bool true)∧Below w.heap.size w w':=by
 have hr:=RG (P:=P) hn hi
 refine((h.2 (JJ base.n) w us.toList (Hf (fun c hc=>by simp only[JJ]; rw[if_pos hc]) _) hr)).mono fun e w' hR=>?_
 obtain⟨v',v,M',ρ',rfl,k1,k2,rfl⟩:=hR
 obtain⟨rfl,_⟩:=aM k2
 refine⟨rfl,k1.step.os,k1.step.tape,k1.step.output,k1.step.size,fun k hk=>k1.step.low k ?_⟩
 show k<base.n
 rw[hn]; exact hk
def Ky:Option TypeDesc→Bool
 | some .bool | some (.int _) | some .string | some (.slice _) | some (.struct _) | some (.array _ _)=>false
 | _=>true
inductive Fits (P:Program) (M:RM) : TypeId→List AV→Prop
 | bool (t:TypeId) (b:Bool) : P.underlying t=some .bool→Fits P M t [Bo b]
 | int (t:TypeId) (k:IntKind) (n:Int) : P.underlying t=some (.int k)→k.min≤n→n≤k.max→Fits P M t [N k n]
 | str (t:TypeId) (s:List UInt8) : P.underlying t=some .string→s.length≤reachBytes→Fits P M t [St s]
 | VG (t e:TypeId) : P.underlying t=some (.slice e)→Fits P M t [aB]
 | emp (t e:TypeId) (b:Nat) : P.underlying t=some (.slice e)→Fits P M t [.emp b]
 | slc (t e:TypeId) (b o n c:Nat) (cs:List AV) : P.underlying t=some (.slice e)→b<M.next→n≤c→c * P.bytesOf e≤reachBytes→M.loads b o (n * P.cellsOf e)=some cs →
   (∀ i,i<n→Fits P M e ((cs.drop (i * P.cellsOf e)).take (P.cellsOf e)))→Fits P M t [.slc b o n (.ex c)]
 | struct (t:TypeId) (fs:Array Field) (cs:List AV) : P.underlying t=some (.struct fs)→cs.length=P.cellsOf t →
   (∀ (i:Nat) (f:Field),fs[i]?=some f→Fits P M f.type ((cs.drop f.offset).take (P.cellsOf f.type)))→Fits P M t cs
 | array (t e:TypeId) (n:Nat) (cs:List AV) : P.underlying t=some (.array n e)→cs.length=P.cellsOf t →
   (∀ i,i<n→Fits P M e ((cs.drop (i * P.cellsOf e)).take (P.cellsOf e)))→Fits P M t cs
 | other (t:TypeId) (cs:List AV) : Ky (P.underlying t)=true→Fits P M t cs
 | zero (t e:TypeId) (cs:List AV) : P.underlying t=some (.slice e)→P.cellsOf e=0→Fits P M t cs
theorem zY (a:Addr) : a.add 0=a:=by simp[Addr.add]
theorem rM {w:World} {base:Nat} {a:Addr} {n:Nat} {cs:List Value} (h:w.cells? base a n=some cs) : cs.length=n∧∀ i,i<n→w.cell? (a.add i)=cs[i]?:=by
 unfold World.cells? at h
 split at h
 ·exact⟨by simpa using mapM_some_length h,fun i hi=>mapM_some_get h i i (by simp[hi])⟩
 ·cases h
theorem cell?_at {w:World} {a:Addr} {v:Value} (h:w.cell? a=some v) : ∃ c el fr,w.heap[a.block]?=some (.cells c el fr)∧a.spot=none∧a.off<c.size∧c[a.off]?=some v:=by
 unfold World.cell? at h
 split at h
 ·rename_i c el fr hh
  split at h
  ·cases h
  ·rename_i hs
   exact⟨c,el,fr,hh,by simpa using hs,(Array.getElem?_eq_some_iff.1 h).1,h⟩
 ·cases h
section
variable {H:Type} {enc:TypeId × Value→H} {P:Program} {base:Base} {w:World}
theorem pV {e:TypeId} {ds:List (DataW H)} {d:DataW H} (hd:d∈ds) {x:Nat} (hx:x∈d.weights P e) : x∈DataW.weightsAll P e ds:=by
 induction ds with
 | nil=>cases hd
 | cons y ys ih =>
   simp only[DataW.weightsAll,List.mem_append]
   rcases List.mem_cons.1 hd with rfl | hd
   ·exact .inl hx
   ·exact .inr (ih hd)
theorem vB {x:Nat} : ∀ (ts:List TypeId) (ds:List (DataW H)) (i:Nat) (t:TypeId) (d:DataW H),ts[i]?=some t→ds[i]?=some d→x∈d.weights P t→x∈DataW.weightsEach P ts ds
 | [],_,_,_,_,h,_,_=>by simp at h
 | _ :: _,[],_,_,_,_,h,_=>by simp at h
 | t :: ts,d :: ds,0,t',d',h,h',hx=>by
   simp at h h'; subst h h'
   simp only[DataW.weightsEach,List.mem_append]; exact .inl hx
 | t :: ts,d :: ds,i + 1,t',d',h,h',hx=>by
   simp only[DataW.weightsEach,List.mem_append]
   exact .inr (vB ts ds i t' d' (by simpa using h) (by simpa using h') hx)
theorem Jm (hn:base.n=w.heap.size) {held:Bool} : ∀ (fuel:Nat) (t:TypeId) (cs:List Value) (x:DataW H × List MemPlace),DataW.trod enc P w 0 (fun _=>true) held fuel t cs=some x →
  (∀ y∈x.1.weights P t,y≤reachBytes)→Fits P (RM.old base w) t (cs.map (nI base.n)):=by
 intro fuel
 induction fuel with
 | zero=>intro t cs x h; simp[DataW.trod] at h
 | succ m ih =>
   intro t cs x h hw
   cases hu:P.underlying t with
   | none=>exact .other _ _ (by rw[hu]; rfl)
   | some d =>
     cases d with
     | bool =>
       obtain⟨b,rfl,rfl⟩:=DataW.trod_bool hu h
       exact .bool t b hu
     | int k =>
       obtain⟨n,rfl,rfl,hwf⟩:=DataW.trod_int hu h
       simp only[Lit.wf,Bool.and_eq_true,decide_eq_true_eq] at hwf
       exact .int t k n hu hwf.1 hwf.2
     | string =>
       obtain⟨s,rfl,rfl,_⟩:=DataW.trod_string hu h
       exact .str t s.data.toList hu (hw _ (by simp[DataW.weights]))
     | slice e =>
       rcases DataW.trod_slice hu h with⟨rfl,rfl⟩ | ⟨a,len,cap,elems,rest,n,hm,rfl,rfl,_,hlc,_,hel,hget,hrest,_⟩
       ·exact .VG t e hu
       ·cases hm
        rcases Nat.eq_zero_or_pos (P.cellsOf e) with hz | hz
        ·exact .zero t e _ hu hz
        rcases Nat.eq_zero_or_pos cap with hc | hc
        ·have hl0:len=0:=by omega
         subst hc hl0
         exact .emp t e 0 hu
        ·obtain⟨hr1,hr2⟩:=hrest rfl
         have every:∀ i,i<cap→∃ es y,w.cells? 0 (a.add (i * P.cellsOf e)) (P.cellsOf e)=some es∧DataW.trod enc P w 0 (fun _=>true) held m e es=some y∧(y∈elems∨y∈rest):=by
          intro i hi
          by_cases hil:i<len
          ·have h1:=hget i hil
           have h2:elems[i]?=some (elems[i]'(by omega)):=by simp[hel,hil]
           rw[h2] at h1
           obtain⟨es,e1,e2⟩:=Option.bind_eq_some_iff.1 h1
           exact⟨es,_,e1,e2,.inl (List.getElem_mem _)⟩
          ·have h1:=hr2 (i - len) (by omega)
           rw[show len + (i - len)=i by omega] at h1
           have h2:rest[i - len]?=some (rest[i - len]'(by omega)):=by
            rw[List.getElem?_eq_getElem]
           rw[h2] at h1
           obtain⟨es,e1,e2⟩:=Option.bind_eq_some_iff.1 h1
           exact⟨es,_,e1,e2,.inr (List.getElem_mem _)⟩
         obtain⟨es0,_,k0,_,_⟩:=every 0 hc
         obtain⟨kl0,kg0⟩:=rM k0
         have hc0:=kg0 0 hz
         rw[List.getElem?_eq_getElem (by omega)] at hc0
         obtain⟨c,el,fr,hh,hsp,_,_⟩:=cell?_at hc0
         obtain⟨b,o,sp⟩:=a
         rw[Nat.zero_mul,zY,zY] at hh hsp
         simp only at hh hsp
         subst hsp
         have hblt:b<base.n:=by rw[hn]; exact(Array.getElem?_eq_some_iff.1 hh).1
         have hlast:o + cap * P.cellsOf e≤c.size:=by
          obtain⟨es1,_,k1,_,_⟩:=every (cap - 1) (by omega)
          obtain⟨kl1,kg1⟩:=rM k1
          have hc1:=kg1 (P.cellsOf e - 1) (by omega)
          rw[List.getElem?_eq_getElem (by omega)] at hc1
          obtain⟨c',el',fr',hh',_,hlt,_⟩:=cell?_at hc1
          rw[dQ,dQ] at hh' hlt
          simp only at hh' hlt
          rw[hh] at hh'
          cases hh'
          have:cap * P.cellsOf e=(cap - 1) * P.cellsOf e + P.cellsOf e:=by
           rw[← Nat.succ_mul]; congr 1; omega
          omega
         have YV:nI base.n (.slice (some ⟨b,o,none⟩) len cap)=.slc b o len (.ex cap):=by
          obtain⟨cap,rfl⟩ : ∃ k,cap=k + 1:=⟨cap - 1,by omega⟩
          simp only[nI,if_pos hblt]
         have hcells:=RM.Qb hblt hh
         have hle:len * P.cellsOf e≤cap * P.cellsOf e:=Nat.mul_le_mul_right _ hlc
         have hload:(RM.old base w).loads b o (len * P.cellsOf e)=some (((c.toList.map (nI base.n)).drop o).take (len * P.cellsOf e)):=by
          simp only[RM.loads,hcells]
          rw[if_pos (by simp; omega)]
         simp only[List.map_cons,List.map_nil,YV]
         refine .slc t e b o len cap _ hu hblt hlc ?_ hload fun i hi=>?_
         ·have:=hw ((elems.length + rest.length) * P.bytesOf e) (by simp[DataW.weights,hu])
          rwa [hel,hr1,show len + (cap - len)=cap by omega] at this
         ·obtain⟨es,y,k1,k2,k3⟩:=every i (by omega)
          have hlen:=(rM k1).1
          have hes:((((c.toList.map (nI base.n)).drop o).take (len * P.cellsOf e)).drop (i * P.cellsOf e)).take (P.cellsOf e)=es.map (nI base.n):=by
           have hii:i * P.cellsOf e + P.cellsOf e≤len * P.cellsOf e:=by rw[← Nat.succ_mul]; exact Nat.mul_le_mul_right _ hi
           apply List.ext_getElem?
           intro j
           by_cases hj:j<P.cellsOf e
           ·have hg:=(rM k1).2 j hj
            rw[List.getElem?_take,if_pos hj,List.getElem?_drop,List.getElem?_take,if_pos (by omega),List.getElem?_drop,List.getElem?_map,List.getElem?_map,← hg]
            rw[dQ,dQ]
            simp only[World.cell?,hh]
            rw[Array.getElem?_toList]
            simp[Nat.add_assoc]
           ·rw[List.getElem?_eq_none (by simp; omega),List.getElem?_eq_none (by simp; omega)]
          rw[hes]
          refine ih e es y k2 fun z hz=>hw z ?_
          simp only[DataW.weights,hu,List.mem_cons,List.mem_append]
          rcases k3 with k3 | k3
          ·exact .inr (.inl (pV (List.mem_map_of_mem k3) hz))
          ·exact .inr (.inr (pV (List.mem_map_of_mem k3) hz))
     | struct fs =>
       obtain⟨xs,n,hm,rfl,hl,hxl,hget⟩:=DataW.trod_struct hu h
       cases hm
       refine .struct t fs _ hu (by simpa using hl) fun i f hf=>?_
       have h1:=hget i f hf
       have hi:i<fs.size:=(Array.getElem?_eq_some_iff.1 hf).1
       rw[List.getElem?_eq_getElem (by omega)] at h1
       rw[← List.map_drop,← List.map_take]
       refine ih _ _ _ h1 fun z hz=>hw z ?_
       simp only[DataW.weights,hu]
       refine vB _ _ i f.type _ (by simp[hf]) (by rw[List.getElem?_map,List.getElem?_eq_getElem (by omega)]; rfl) hz
     | array n e =>
       obtain⟨xs,m',hm,rfl,hl,hxl,hget⟩:=DataW.trod_array hu h
       cases hm
       refine .array t e n _ hu (by simpa using hl) fun i hi=>?_
       have h1:=hget i hi
       rw[List.getElem?_eq_getElem (by omega)] at h1
       rw[← List.map_drop,← List.map_take]
       refine ih _ _ _ h1 fun z hz=>hw z ?_
       simp only[DataW.weights,hu]
       exact pV (List.mem_map_of_mem (List.getElem_mem _)) hz
     | _=>exact .other _ _ (by rw[hu]; rfl)
end
section
variable {P:Program} {M:RM} {t:TypeId} {cs:List AV}
theorem Fits.Mi (h:Fits P M t cs) (hu:P.underlying t=some .string) : ∃ s,cs=[St s]∧s.length≤reachBytes:=by
 cases h with
 | str _ s h1 h2=>exact⟨s,rfl,h2⟩
 | _=>simp_all [Ky]
end
def Ba (P:Program) (t:TypeId) : Bool :=
 match P.underlying t with
 | some (.struct _) | some (.array _ _)=>true
 | _=>false
def oz (P:Program) (M:RM) (t:TypeId) (v:AV) : Prop :=
 match Ba P t with
 | true=>∃ cs,v=.agg cs∧Fits P M t cs
 | false=>Fits P M t [v]
theorem oz.agg {P:Program} {M:RM} {t:TypeId} {v:AV} (h:oz P M t v) (ha:Ba P t=true) : ∃ cs,v=.agg cs∧Fits P M t cs:=by
 unfold oz at h; rw[ha] at h; exact h
theorem oz.one {P:Program} {M:RM} {t:TypeId} {v:AV} (h:oz P M t v) (ha:Ba P t=false) : Fits P M t [v]:=by
 unfold oz at h; rw[ha] at h; exact h
section
variable {H:Type} {enc:TypeId × Value→H} {P:Program} {base:Base} {w:World}
theorem K5 {r:Reach} {b:Nat} {t:TypeId} {cs:Array Value} (h:Cell.okWide P w r b t (.agg cs)) : False:=by
 unfold Cell.okWide at h
 split at h <;> first | (rename_i e _; cases e; done) | skip
 all_goals first | (rename_i e; cases e; done) | skip
 unfold Cell.ok at h
 split at h <;> first | exact h | simp_all
theorem Sz (hn:base.n=w.heap.size) {r:Reach} {b:Nat} {held:Bool} {t:TypeId} {v:Value} {d:DataW H} {ps:List MemPlace} (hv:Value.okWide P w r b t v) (h:DataW.Trod enc P w 0 (fun _=>true) held t v d ps)
  (hw:∀ y∈d.weights P t,y≤reachBytes) : oz P (RM.old base w) t (sM base.n v):=by
 obtain⟨fuel,hf⟩:=h
 have hfit:=Jm hn fuel t _ _ hf hw
 unfold oz
 cases ha:Ba P t with
 | true =>
   have:∃ cs,v=.agg cs:=by
    unfold Value.okWide at hv
    unfold Ba at ha
    split at hv
    ·obtain⟨cs,h,_⟩:=hv; exact⟨cs,h⟩
    ·obtain⟨cs,h,_⟩:=hv; exact⟨cs,h⟩
    ·split at ha <;> simp_all
   obtain⟨cs,rfl⟩:=this
   exact⟨_,rfl,hfit⟩
 | false =>
   have hc:Cell.okWide P w r b t v:=by
    unfold Value.okWide at hv
    unfold Ba at ha
    split at hv
    ·simp_all
    ·simp_all
    ·exact hv
   have:v.cells.toList=[v]∧sM base.n v=nI base.n v:=by
    cases v with
    | agg cs=>exact(K5 hc).elim
    | _=>exact⟨rfl,rfl⟩
   rw[this.1] at hfit
   rw[this.2]
   exact hfit
theorem JX (hn:base.n=w.heap.size) {r:Reach} {b:Nat} {held:Bool} : ∀ {ts:List TypeId} {vs:List Value} {ds:List (DataW H)} {ps:List MemPlace},DataW.TrodAll enc P w 0 (fun _=>true) held ts vs ds ps →
  (∀ (j:Nat) t v,ts[j]?=some t→vs[j]?=some v→Value.okWide P w r b t v)→(∀ y∈DataW.weightsEach P ts ds,y≤reachBytes) →
  ∀ (j:Nat) t v,ts[j]?=some t→vs[j]?=some v→oz P (RM.old base w) t (sM base.n v)
 | [],_,_,_,_,_,_,j,t,v,h,_=>by simp at h
 | t0 :: ts,vs,ds,ps,h,hv,hw,j,t,v,hj,hvj=>by
   cases vs with
   | nil=>simp at hvj
   | cons v0 vs =>
   cases ds with
   | nil=>exact h.elim
   | cons d ds =>
   obtain⟨p,q,h1,h2,_⟩:=h
   cases j with
   | zero =>
     simp at hj hvj; subst hj hvj
     exact Sz hn (hv 0 _ _ rfl rfl) h1 fun y hy=>hw y (by simp[DataW.weightsEach,hy])
   | succ j =>
     exact JX hn h2 (fun j t v a b=>hv (j + 1) t v (by simpa using a) (by simpa using b)) (fun y hy=>hw y (by simp[DataW.weightsEach,hy])) j t v (by simpa using hj) (by simpa using hvj)
theorem zX (hl:laidOutB P=true) {W W' : World} {sp:Nat→Bool} (hb:Below W.heap.size W W') : ∀ {ts:List TypeId} {vs:List Value} {ds:List (DataW H)} {ps:List MemPlace},
  (∀ t∈ts,P.readableRec t=true∧t<P.types.size)→DataW.TrodAll enc P W 0 (fun _=>true) true ts vs ds ps→(∀ p∈ps,p.block<W.heap.size)→(∀ p∈ps,sp p.block=true)→DataW.TrodAll enc P W' 0 sp true ts vs ds ps
 | [],vs,ds,ps,_,h,_,_=>by
   cases vs <;> cases ds <;> first | exact h | exact h.elim
 | t :: ts,vs,ds,ps,hr,h,hlt,hsp=>by
   cases vs with
   | nil=>cases ds <;> exact h.elim
   | cons v vs =>
   cases ds with
   | nil=>exact h.elim
   | cons d ds =>
   obtain⟨p,q,h1,h2,rfl⟩:=h
   have hrt:=hr t (List.mem_cons_self ..)
   exact⟨p,q,WideElems.Trod_stays hl hrt.1 hrt.2 h1 (fun x hx=>hb.same (hlt x (List.mem_append_left _ hx))) (fun x hx=>hsp x (List.mem_append_left _ hx)),
    zX hl hb (fun t ht=>hr t (List.mem_cons_of_mem _ ht)) h2 (fun x hx=>hlt x (List.mem_append_right _ hx)) (fun x hx=>hsp x (List.mem_append_right _ hx)),rfl⟩
end
def RB.cells (lo:Nat) : RB→Option (List AV)
 | .row l _ _ _=>some l
 | .ro c=>some (c.toList.map (nI lo))
 | _=>none
@[go_sem] theorem RB.uW (lo:Nat) (l:List AV) (p:Bool) (e f:Nat) : RB.cells lo (.row l p e f)=some l:=rfl
theorem RM.DV (M:RM) (b:Nat) : M.cells b=(M.heap b).bind (RB.cells M.lo):=by
 unfold RM.cells RB.cells
 cases M.heap b with
 | none=>rfl
 | some x=>cases x <;> rfl
def tX (l:Option (List AV)) (o k:Nat) : Option (List AV) :=
 match l with
 | some l=>if o + k≤l.length then some ((l.drop o).take k) else none
 | none=>none
@[go_sem] theorem Wu (l:List AV) (o k:Nat) : tX (some l) o k=if o + k≤l.length then some ((l.drop o).take k) else none:=rfl
theorem RM.Dk (M:RM) (b o k:Nat) : M.loads b o k=tX (M.cells b) o k:=rfl
section
variable {M M' : RM}
@[go_sem] theorem RM.PR (x:RB) (c:Nat) : (M.push x).heap c=if c=M.next then some x else M.heap c:=rfl
@[go_sem] theorem RM.heap_put (b:Nat) (x:RB) (c:Nat) : (M.put b x).heap c=if c=b then some x else M.heap c:=rfl
@[go_sem] theorem RM.YT (b:Nat) (c:Nat) : (M.del b).heap c=if c=b then none else M.heap c:=rfl
@[go_sem] theorem RM.PZ (x:RB) : (M.push x).base=M.base:=rfl
@[go_sem] theorem RM.Tf (b:Nat) (x:RB) : (M.put b x).base=M.base:=rfl
@[go_sem] theorem RM.Yf (b:Nat) : (M.del b).base=M.base:=rfl
theorem RM.Fp (x:RB) (c:Nat) : (M.push x).cells c=if c=M.next then x.cells M.lo else M.cells c:=by
 simp only[RM.DV,RM.PR]
 split <;> rfl
theorem RM.Hl (b:Nat) (x:RB) (c:Nat) : (M.put b x).cells c=if c=b then x.cells M.lo else M.cells c:=by
 simp only[RM.DV,RM.heap_put]
 split <;> rfl
@[go_sem] theorem RM.Xv (x:RB) (c o:Nat) : (M.push x).cell c o=if c=M.next then(x.cells M.lo).bind (·[o]?) else M.cell c o:=by
 simp only[RM.cell,RM.Fp]
 split <;> rfl
@[go_sem] theorem RM.YC (b:Nat) (x:RB) (c o:Nat) : (M.put b x).cell c o=if c=b then(x.cells M.lo).bind (·[o]?) else M.cell c o:=by
 simp only[RM.cell,RM.Hl]
 split <;> rfl
@[go_sem] theorem RM.Xg (x:RB) (c o k:Nat) : (M.push x).loads c o k=if c=M.next then tX (x.cells M.lo) o k else M.loads c o k:=by
 simp only[RM.Dk,RM.Fp]
 split <;> rfl
@[go_sem] theorem RM.XA (b:Nat) (x:RB) (c o k:Nat) : (M.put b x).loads c o k=if c=b then tX (x.cells M.lo) o k else M.loads c o k:=by
 simp only[RM.Dk,RM.Hl]
 split <;> rfl
def mF (l:List AV) (fz o:Nat) (vs:List AV) : Option (List AV) :=
 if o + vs.length≤l.length∧fz≤o∧vs.all oneCell=true then some (l.take o++vs++l.drop (o + vs.length)) else none
theorem fT {l vs:List AV} {fz o:Nat} (h1:o + vs.length≤l.length) (h2:fz≤o) (h3:vs.all oneCell=true) : mF l fz o vs=some (l.take o++vs++l.drop (o + vs.length)):=if_pos ⟨h1,h2,h3⟩
@[go_sem] theorem Iz {l vs:List AV} (h:vs.length=l.length) (h3:vs.all oneCell=true) : mF l 0 0 vs=some vs:=by
 rw[fT (by omega) (Nat.le_refl _) h3]
 simp[h]
theorem RM.uV {b o:Nat} {vs l:List AV} {p:Bool} {e f:Nat} (h:M.heap b=some (.row l p e f)) : M.stores b o vs=(mF l f o vs).map fun l'=>M.put b (.row l' p e f):=by
 simp only[RM.stores,h,mF]
 split <;> rfl
theorem RM.SB {x y:RB} : (M.push x).put M.next y=M.push y:=by
 simp only[RM.put,RM.push]
 congr 1
 funext c
 split <;> rfl
theorem RM.JO {x y:RB} {b:Nat} (hb:b≠M.next) : (M.push x).put b y=(M.put b y).push x:=by
 simp only[RM.put,RM.push]
 congr 1
 funext c
 by_cases h1:c=b
 ·subst h1; simp[hb]
 ·simp[h1]
theorem RM.EO {l vs:List AV} {p:Bool} {e f o:Nat} : (M.push (.row l p e f)).stores M.next o vs=(mF l f o vs).map fun l'=>M.push (.row l' p e f):=by
 rw[RM.uV (RM.aR _)]
 congr 1
 funext l'
 exact RM.SB
theorem RM.EZ {M:RM} {b o:Nat} {vs:List AV} : M.stores b o vs=match M.heap b with
  | some (.row l p e f)=>(mF l f o vs).map fun l'=>M.put b (.row l' p e f)
  | _=>none:=by
 cases h:M.heap b with
 | none=>simp[RM.stores,h]
 | some x =>
   cases x with
   | row l p e f=>rw[RM.uV h]
   | _=>simp[RM.stores,h]
@[go_sem] theorem RM.Fq {x:RB} {vs:List AV} {c o:Nat} (hc:c≠M.next) : (M.push x).stores c o vs=(M.stores c o vs).map (·.push x):=by
 rw[RM.EZ,RM.EZ,RM.Rv hc]
 split
 ·simp only[Option.map_map]
  congr 1
  funext l'
  exact RM.JO hc
 ·rfl
@[go_sem] theorem RM.Ws {l vs:List AV} {p:Bool} {e f c o:Nat} : (M.push (.row l p e f)).stores c o vs =
  if c=M.next then(mF l f o vs).map fun l'=>M.push (.row l' p e f) else(M.stores c o vs).map (·.push (.row l p e f)):=by
 split
 ·rename_i h; subst h; exact RM.EO
 ·rename_i h; exact RM.Fq h
@[go_sem] theorem RM.Ue {b o:Nat} {l vs:List AV} {p:Bool} {e f:Nat} : (M.put b (.row l p e f)).stores b o vs=(mF l f o vs).map fun l'=>M.put b (.row l' p e f):=by
 rw[RM.uV (RM.jJ _ _)]
 congr 1
 funext l'
 simp only[RM.put]
 congr 1
 funext c
 split <;> rfl
@[go_sem] theorem Zg {α:Type} (a:α) (K:α→Prop) : (∃ x,some a=some x∧K x)=K a:=by simp
@[go_sem] theorem Ww {α β:Type} (f:α→β) (x:α) : (some x).map f=some (f x):=rfl
theorem RM.nu (b:Nat) (x:RB) : (M.put b x).next=M.next:=rfl
attribute [go_sem] Int.natCast_nonneg Int.toNat_natCast Nat.mul_one true_implies false_implies Bool.false_eq_true Bool.true_eq_false Bool.not_true Bool.not_false Bool.and_self Bool.and_true Bool.true_and Nat.le_refl List.append_nil List.nil_append if_true if_false Nat.lt_irrefl Nat.add_one_ne_zero true_and and_true Nat.zero_add Nat.add_zero List.drop_zero List.getElem?_cons_zero List.getElem?_cons_succ Option.bind_some List.take_succ_cons List.take_zero List.drop_succ_cons List.drop_nil List.take_nil
attribute [go_sem] mW List.all_cons List.all_nil List.length_cons List.length_nil
@[go_sem] theorem Xw (cs:List AV) : (AV.agg cs).cells=cs:=rfl
@[go_sem] theorem Zb (v:Value) : (AV.sc v).cells=[.sc v]:=rfl
@[go_sem] theorem Xx (b o:Nat) : (AV.ptr b o).cells=[.ptr b o]:=rfl
@[go_sem] theorem XK (b o n:Nat) (c:Cap) : (AV.slc b o n c).cells=[.slc b o n c]:=rfl
@[go_sem] theorem XF (b:Nat) : (AV.emp b).cells=[.emp b]:=rfl
@[go_sem] theorem Xz (b:Nat) : (AV.map b).cells=[.map b]:=rfl
@[go_sem] theorem Ya (f:Fn) (xs ys:List AV) : (AV.fn f xs ys).cells=[.fn f xs ys]:=rfl
@[go_sem] theorem eF (v:Value) : oneCell (.sc v)=true:=rfl
@[go_sem] theorem Zh (b o:Nat) : oneCell (.ptr b o)=true:=rfl
@[go_sem] theorem Ze (b o n:Nat) (c:Cap) : oneCell (.slc b o n c)=true:=rfl
@[go_sem] theorem Zf (b:Nat) : oneCell (.emp b)=true:=rfl
@[go_sem] theorem Zc (b:Nat) : oneCell (.map b)=true:=rfl
@[go_sem] theorem Zj (f:Fn) (xs ys:List AV) : oneCell (.fn f xs ys)=true:=rfl
end
theorem RM.Ti {M:RM} {b:Nat} {l:List AV} {p:Bool} {e f:Nat} (h:M.heap b=some (.row l p e f)) (o k:Nat) : M.loads b o k=tX (some l) o k:=by rw[RM.Dk,RM.uW h]
theorem RM.cell_of {M:RM} {b:Nat} {l:List AV} {p:Bool} {e f:Nat} (h:M.heap b=some (.row l p e f)) (o:Nat) : M.cell b o=l[o]?:=RM.Sb h
theorem RM.jm {M:RM} {b:Nat} {l:List AV} {p:Bool} {e f:Nat} (h:M.heap b=some (.row l p e f)) (o:Nat) (vs:List AV) : M.stores b o vs=(mF l f o vs).map fun l'=>M.put b (.row l' p e f):=RM.uV h
theorem ae.ax {bs:List Nat} {M M' : RM} (h:ae bs M M') {b:Nat} {x:RB} (hh:M.heap b=some x) (hlt:b<M.next) (hb:b ∉ bs) : M'.heap b=some x:=by rw[h.heap b hlt hb,hh]
inductive Zk where
 | val (v:AV)
 | rows (n:Nat) (v:AV) (bs:List (Nat × ig)) (n' : Nat)
structure V3 where
 args:List AV
 fp:List (Nat × ig):=[]
 dead:List Nat:=[]
 nx:Nat:=0
 ans:Zk
def Pq:Tree ig→List (Nat × ig)→Tree ig
 | t,[]=>t
 | t,(b,x) :: r=>Pq (t.set b x) r
def Qj:Tree ig→List Nat→Tree ig
 | t,[]=>t
 | t,b :: r=>Qj (t.del b) r
def Mx (A:AW) : List (Nat × ig)→Bool
 | []=>true
 | (b,x) :: r=>match A.heap.get b with
   | some y=>Xj x y && Mx A r
   | none=>false
def X9 (A:AW) (e:V3) : Option (AV × AW) :=
 match Mx A e.fp with
 | false=>none
 | true=>match e.ans with
   | .val v=>some (v,A)
   | .rows n v bs n'=>match Nat.beq n A.next with
     | true=>some (v,{ next:=n',heap:=Pq (Qj A.heap e.dead) bs })
     | false=>none
abbrev Table:=List (Nat × List V3)
def XC:List Nat→Nat→Bool
 | [],_=>false
 | k :: ks,b=>match Nat.beq k b with
   | true=>true
   | false=>XC ks b
mutual
def within (ks:List Nat) : AV→Bool
 | .sc _ | .top | .atl _=>true
 | .ptr b _ | .slc b _ _ _ | .emp b | .map b=>XC ks b
 | .fn _ xs ys=>Ct ks xs && Ct ks ys
 | .ifc _ x=>within ks x
 | .agg xs | .tup xs=>Ct ks xs
def Ct (ks:List Nat) : List AV→Bool
 | []=>true
 | x :: xs=>within ks x && Ct ks xs
end
section
variable {P:Program} {X:Ext}
def Xr (P:Program) (I:World→Prop) (f:Nat) (e:V3) : Prop :=
 ∀ (base:Base),(∀ w,base.inv w→I w)→∀ A v A',X9 A e=some (v,A')→∀ (ρ:Ren) (w:World) (us:List Value),aQ ρ e.args us→bW P base ρ A w→base≤w.heap.size →
   Calls P f ⟨us⟩ w fun r w'=>∃ ρ' v',r=.returned v'∧Step base A.next ρ w ρ' w'∧bW P base ρ' A' w'∧A.next≤A'.next∧ah ρ' v v'
def Tz (P:Program) (I:World→Prop) (T:Table) : Prop:=∀ g∈T,∀ e∈g.2,Xr P I g.1 e
theorem bW.none {P:Program} {base:Base} {n:Nat} {w:World} (hi:base.inv w) : bW P base (fun _=>none) { next:=n,heap:=.leaf } w :=
 ⟨fun _ _ h=>(by cases h),fun _ _ _ h=>(by cases h),fun _ _ _ _ _ _ h=>(by cases h),fun _ _ h=>(by simp[Tree.get] at h),fun _ _ _ h=>(by cases h),hi⟩
def only(ρ:Ren) (ks:List Nat) : Ren:=fun b=>if b∈ks then ρ b else none
theorem Tz.nil {I:World→Prop} : Tz P I []:=fun g hg=>by cases hg
open Go.WideShapes Go.ChangeShapes in
open Go.WideShapes Go.ChangeShapes in
end
structure Enc (α:Type) where
 size:Nat
 cells:α→List AV
 len:∀ a,(cells a).length=size
 one:∀ a,(cells a).all oneCell=true
section
variable {α:Type} (E:Enc α)
def Enc.row (xs:List α) : List AV:=xs.flatMap E.cells
theorem Enc.jD (x:α) (xs:List α) : E.row (x :: xs)=E.cells x++E.row xs:=rfl
theorem Enc.rD (xs ys:List α) : E.row (xs++ys)=E.row xs++E.row ys:=by simp[Enc.row]
theorem Enc.row_one (x:α) : E.row [x]=E.cells x:=by simp[Enc.row]
theorem Enc.fB:∀ (xs:List α),(E.row xs).length=xs.length * E.size
 | []=>by simp[Enc.row]
 | x :: xs=>by rw[Enc.jD,List.length_append,E.len,Enc.fB xs,List.length_cons,Nat.succ_mul,Nat.add_comm]
theorem Enc.jR:∀ (xs:List α),(E.row xs).all oneCell=true
 | []=>by simp[Enc.row]
 | x :: xs=>by rw[Enc.jD,List.all_append,E.one,Enc.jR xs]; rfl
theorem Enc.xI:∀ (xs:List α) (i:Nat),(E.row xs).drop (i * E.size)=E.row (xs.drop i)
 | [],i=>by simp[Enc.row]
 | x :: xs,0=>by simp
 | x :: xs,i + 1=>by
   rw[Enc.jD,Nat.succ_mul,Nat.add_comm,← List.drop_drop,List.drop_left' (E.len x),Enc.xI xs i]
   rfl
theorem Enc.DI:∀ (xs:List α) (i:Nat),(E.row xs).take (i * E.size)=E.row (xs.take i)
 | [],i=>by simp[Enc.row]
 | x :: xs,0=>by simp[Enc.row]
 | x :: xs,i + 1=>by
   rw[Enc.jD,Nat.succ_mul,Nat.add_comm,List.take_append,List.take_of_length_le (by rw[E.len]; omega),E.len,Nat.add_sub_cancel_left,Enc.DI xs i]
   rfl
theorem Enc.wW {xs:List α} {i:Nat} (hi:i<xs.length) : ((E.row xs).drop (i * E.size)).take E.size=E.cells xs[i]:=by
 rw[Enc.xI,List.drop_eq_getElem_cons hi,Enc.jD]
 rw[List.take_append_of_le_length (by rw[E.len]; exact Nat.le_refl _),List.take_of_length_le (by rw[E.len]; exact Nat.le_refl _)]
abbrev Sl (M:RM) (v:AV) (xs:List α) : Prop:=dK M E.size v (E.row xs) xs.length
abbrev Ow (M:RM) (base el:Nat) (v:AV) (xs:List α) : Prop:=Own M base el E.size v (E.row xs) xs.length
variable {E} {M M' : RM} {v:AV} {xs:List α}
theorem Sl.elem (h:Sl E M v xs) {i:Nat} (hi:i<xs.length) : ∃ b o,b<M.next∧b∈aD v∧(∀ (kd:IntKind) (K:AV→Prop),bf v (N kd (i:Int)) E.size K=K (.ptr b o))∧M.loads b o E.size=some (E.cells xs[i]):=by
 obtain⟨b,o,cap,rfl,hb,hl⟩:=h.pos (by omega)
 have hsum:i * E.size + E.size≤xs.length * E.size:=by rw[← Nat.succ_mul]; exact Nat.mul_le_mul_right _ hi
 refine⟨b,o + i * E.size,hb,by simp[aD],fun kd K=>?_, ?_⟩
 ·rw[DF]
  simp only[Int.toNat_natCast]
  exact propext ⟨fun h=>h.2.2,fun h=>⟨by omega,by omega,h⟩⟩
 ·rw[vD hl (i * E.size) E.size hsum,E.wW hi]
theorem Sl.at (h:Sl E M v xs) {i:Nat} (sz:Nat) (j:Int) (hi:i<xs.length) (hsz:E.size=sz:=by rfl) (hj:j=(i:Int):=by rfl) : ∃ b o,b<M.next∧b∈aD v∧(∀ (kd:IntKind) (K:AV→Prop),bf v (N kd j) sz K=K (.ptr b o))∧M.loads b o sz=some (E.cells xs[i]):=by
 subst hsz hj; exact h.elem hi
theorem gy {b o k:Nat} {cs:List AV} (h:M.loads b o k=some cs) {j:Nat} {x:AV} (hj:cs[j]?=some x) : M.cell b (o + j)=some x:=by
 have hlt:j<k:=by rw[← Ia h]; exact(List.getElem?_eq_some_iff.1 hj).1
 rw[QR h j hlt,hj]
theorem pI {b o k:Nat} {cs:List AV} (h:M.loads b o k=some cs) {x:AV} (hj:cs[0]?=some x) : M.cell b o=some x:=gy h hj
theorem Ey {b o k:Nat} {cs:List AV} (h:M.loads b o k=some cs) (j m:Nat) (hm:j + m≤k) : M.loads b (o + j) m=some ((cs.drop j).take m):=vD h j m hm
theorem Gf {base T bytes:Nat} {zs:List AV} {u:AV} {ys:List α} {K:ai} (ho:Ow E M base T v xs) (hb:base≤M.next) (hs:1≤E.size) (hu:Sl E M u ys)
  (hn:(xs.length + ys.length) * bytes≤140737488355328) (hn2:xs.length + ys.length≤140737488355328)
  (hK:∀ v' M',Ow E M' base T v' (xs++ys)→ae (aD v) M M'→M.next≤M'.next→(v'=v∨∀ b∈aD v',M.next≤b)→K v' M') :
  appW T E.size bytes zs false v u M K:=by
 refine Cm ho hb hs (dK.mV hu _) (E.fB ys) (E.jR ys) hn hn2 ?_
 intro v' M' h1 h2 h3 h4
 refine hK v' M' ?_ h2 h3 h4
 rw[← E.rD] at h1
 simpa [Ow] using h1
theorem Sl.new {T c:Nat} {p:Bool} (ys:List α) : Sl E (M.push (.row (E.row ys) p T 0)) (.slc M.next 0 ys.length (.ex c)) ys :=
 .slc _ _ _ _ _ (by simp[RM.push]) (by rw[RM.kG (RM.aR _) (by rw[E.fB]; omega),List.drop_zero,← E.fB,List.take_length])
theorem nT {base T bytes:Nat} {zs:List AV} {a:α} {K:ai} (ho:Ow E M base T v xs) (hb:base≤M.next) (hs:1≤E.size)
  (hn:(xs.length + 1) * bytes≤140737488355328) (hn2:xs.length + 1≤140737488355328)
  (hK:∀ v' M',Ow E M' base T v' (xs++[a])→ae (aD v) M M'→M.next≤M'.next→(v'=v∨∀ b∈aD v',M.next≤b)→K v' M') :
  appW T E.size bytes zs false v (.slc M.next 0 1 (.ex 1)) (M.push (.row (E.cells a) false T 0)) K:=by
 have hk:ae [] M (M.push (.row (E.cells a) false T 0)):=(ae.refl _ _).push _
 refine Gf (ys:=[a]) (Own.keep ho hk (by simp)) (Nat.le_trans hb hk.next) hs (by rw[← E.row_one]; exact Sl.new [a]) hn hn2 ?_
 intro v' M' h1 h2 h3 h4
 exact hK v' M' h1 ((hk.mono (by simp)).trans h2) (Nat.le_trans hk.next h3) (h4.imp id fun h b hb=>Nat.le_trans hk.next (h b hb))
@[go_sem] theorem Xd {T:Nat} {zs:List AV} {K:RB→(Nat→AV)→Prop} : ek T 0 zs [] K=K (.row [] false T 0) (fun b=>.slc b 0 0 (.ex 0)):=by
 apply propext; unfold ek
 constructor
 ·rintro⟨l,h,hk⟩; cases h; exact hk
 ·intro hk; exact⟨_,rfl,hk⟩
theorem jg {T size:Nat} {zs:List AV} {x:AV} {K:RB→(Nat→AV)→Prop} (h:x.cells.length=size) (h1:x.cells.all oneCell=true) (hz:zs.length=size) :
  ek T 1 zs [(0,size,x)] K=K (.row x.cells false T 0) (fun b=>.slc b 0 1 (.ex 1)):=by
 have:rV (mY zs 1) [(0,size,x)]=some x.cells:=by
  simp only[rV,mY,List.append_nil,h1,h,Nat.zero_add,hz,Nat.le_refl,and_self,if_true,List.take_zero,List.nil_append]
  rw[List.drop_of_length_le (by omega),List.append_nil]
 apply propext; unfold ek
 constructor
 ·rintro⟨l,h,hk⟩; rw[this] at h; cases h; exact hk
 ·intro hk; exact⟨_,this,hk⟩
theorem Ow.lit (E:Enc α) {T:Nat} (M:RM) : Ow E (M.push (.row [] false T 0)) M.next T (.slc M.next 0 0 (.ex 0)) []:=Own.lit M (Nat.le_refl _)
theorem lT {i:Nat} (h:i<9223372036854775807) : IntKind.wrap .i64 ((i:Int) + 1)=((i + 1:Nat) : Int):=by
 rw[eO (by omega) (by omega)]; rfl
end
@[go_sem] theorem EM:bV [] [] []=some true:=rfl
@[go_sem] theorem WH (ks:List Nat) (k:IntKind) (a b:Int) (xs ys:List AV) : bV (1 :: ks) (N k a :: xs) (N k b :: ys)=if a=b then bV ks xs ys else some false:=by
 simp only[bV,oN,if_true]
 by_cases h:a=b
 ·simp[h]
 ·have:(a == b)=false:=by simp[h]
  simp[this,h]
@[go_sem] theorem yL (ks:List Nat) (a b:List UInt8) (xs ys:List AV) : bV (2 :: ks) (St a :: xs) (St b :: ys)=if a=b then bV ks xs ys else some false:=by
 simp only[bV,oN]
 by_cases h:a=b
 ·simp[h]
 ·have:(a == b)=false:=by simp[h]
  simp[this,h]
@[go_sem] theorem Wt (ks:List Nat) (a b:Bool) (xs ys:List AV) : bV (3 :: ks) (Bo a :: xs) (Bo b :: ys)=if a=b then bV ks xs ys else some false:=by
 simp only[bV,oN]
 by_cases h:a=b
 ·simp[h]
 ·have:(a == b)=false:=by simp[h]
  simp[this,h]
theorem qJ {neg:Bool} {ks:List Nat} {cs ds:List AV} {r:Bool} {K:AV→Prop} (h1:cs.length=ks.length) (h2:ds.length=ks.length) (h:bV ks cs ds=some r) : lc neg ks (.agg cs) (.agg ds) K=K (Bo (r != neg)):=by
 rw[OG]
 apply propext
 constructor
 ·rintro⟨_,_,r',h',hk⟩; rw[h] at h'; cases h'; exact hk
 ·intro hk; exact⟨h1,h2,r,h,hk⟩
theorem dJ (x:AV) (w:Bool) (f g:ai→Prop) (F G:AV→RM→ai→Prop) (k:ai) :
  aa x w f g (fun v M=>aa x w (F v M) (G v M) k)=aa x w (fun k'=>f fun v M=>F v M k') (fun k'=>g fun v M=>G v M k') k:=by
 unfold aa lh
 split
 ·split <;> simp_all
 ·rfl
 ·rfl
theorem Nr (x:AV) (w:Bool) (f g:KR→Prop) (F G:AV→RM→Option Nat→KR→Prop) (k:KR) :
  aK x w f g (fun v M b=>aK x w (F v M b) (G v M b) k)=aK x w (fun k'=>f fun v M b=>F v M b k') (fun k'=>g fun v M b=>G v M b k') k:=by
 unfold aK lh
 split
 ·split <;> simp_all
 ·rfl
 ·rfl
theorem aP {body:(List AV→RM→Prop)→List AV→RM→Prop} {xs:List AV} {M:RM} (I:Nat→List AV→RM→Prop) (n:Nat) (h0:I n xs M)
  (hb:∀ (next:List AV→RM→Prop) m ys M',(∀ m' zs M'',m'<m→I m' zs M''→next zs M'')→I m ys M'→body next ys M') : bA body xs M :=
 ⟨I,n,h0,fun m ys M' hI=>hb _ m ys M' (fun m' zs M'' hlt h=>⟨m',hlt,h⟩) hI⟩
abbrev By (b:UInt8) : AV:=N .u8 (b.toNat:Int)
def BY:Enc UInt8:=⟨1,fun b=>[By b],fun _=>rfl,fun _=>rfl⟩
theorem qC (s:List UInt8) : BY.row s=s.map By:=by
 induction s with
 | nil=>rfl
 | cons b s ih=>rw[Enc.jD,ih]; rfl
def jd:Enc (List UInt8):=⟨1,fun s=>[St s],fun _=>rfl,fun _=>rfl⟩
def INT:Enc Int:=⟨1,fun n=>[N .i64 n],fun _=>rfl,fun _=>rfl⟩
theorem yU:∀ (s:List UInt8),cz byteOf (s.map By)=some s
 | []=>rfl
 | b :: s=>by
   simp only[List.map_cons,cz,byteOf,yU s]
   simp
section
variable {α:Type} {E:Enc α} {M M' : RM} {v:AV} {xs:List α}
theorem Sl.str {s:List UInt8} (h:Sl BY M v s) {K:AV→Prop} : tY M v K=K (St s) :=
 LY (dK.xO h (by rw[qC]; exact yU s))
theorem Sl.Tq (h:Sl E M v xs) {i:Nat} (j:Int) (hi:i<xs.length) (hsz:E.size=1:=by rfl) (hj:j=(i:Int):=by rfl) :
  ∃ b o,b<M.next∧b∈aD v∧(∀ (kd:IntKind) (K:AV→Prop),bf v (N kd j) 1 K=K (.ptr b o))∧∀ x,E.cells xs[i]=[x]→M.cell b o=some x:=by
 obtain⟨b,o,h1,h2,h3,h4⟩:=Sl.at h 1 j hi hsz hj
 exact⟨b,o,h1,h2,h3,fun x hx=>pI h4 (by rw[hx]; rfl)⟩
structure Rw (E:Enc α) (M:RM) (b:Nat) (opn:Bool) (el:Nat) (xs:List α) : Prop where
 heap:M.heap b=some (.row (E.row xs) opn el 0)
 lt:b<M.next
theorem Rw.sl {b el:Nat} {p:Bool} {cap:Cap} (h:Rw E M b p el xs) : Sl E M (.slc b 0 xs.length cap) xs:=by
 refine .slc _ _ _ _ _ h.lt ?_
 rw[RM.kG h.heap (by rw[E.fB]; omega),List.drop_zero,← E.fB,List.take_length]
theorem Rw.keep {b el:Nat} {p:Bool} {bs:List Nat} (h:Rw E M b p el xs) (hk:ae bs M M') (hb:b ∉ bs) : Rw E M' b p el xs :=
 ⟨hk.ax h.heap h.lt hb,Nat.lt_of_lt_of_le h.lt hk.next⟩
theorem Rw.new {el:Nat} {p:Bool} (M:RM) (xs:List α) : Rw E (M.push (.row (E.row xs) p el 0)) M.next p el xs :=
 ⟨RM.aR _,by simp[RM.push]⟩
theorem Rw.load {b el:Nat} {p:Bool} (h:Rw E M b p el xs) {i:Nat} (hi:i<xs.length) : M.loads b (i * E.size) E.size=some (E.cells xs[i]):=by
 have hsum:i * E.size + E.size≤xs.length * E.size:=by rw[← Nat.succ_mul]; exact Nat.mul_le_mul_right _ hi
 rw[RM.kG h.heap (by rw[E.fB]; exact hsum),E.wW hi]
theorem Enc.UU (E:Enc α) {xs:List α} {i:Nat} (hi:i<xs.length) (x:α) : E.row (xs.set i x)=(E.row xs).take (i * E.size)++E.cells x++(E.row xs).drop (i * E.size + E.size):=by
 rw[E.DI,← Nat.succ_mul,E.xI,List.set_eq_take_append_cons_drop,if_pos hi,E.rD,E.jD,List.append_assoc]
theorem Rw.store {b el:Nat} {p:Bool} (h:Rw E M b p el xs) {i:Nat} (hi:i<xs.length) (x:α) :
  M.stores b (i * E.size) (E.cells x)=some (M.put b (.row (E.row (xs.set i x)) p el 0))∧Rw E (M.put b (.row (E.row (xs.set i x)) p el 0)) b p el (xs.set i x):=by
 have hsum:i * E.size + E.size≤xs.length * E.size:=by rw[← Nat.succ_mul]; exact Nat.mul_le_mul_right _ hi
 refine⟨?_,RM.jJ _ _,h.lt⟩
 rw[RM.Ob h.heap (by rw[E.len,E.fB]; exact hsum) (Nat.zero_le _) (E.one x),E.UU hi,E.len]
theorem Rw.ak {b el:Nat} {p:Bool} (h:Rw E M b p el xs) {i:Nat} (hi:i<xs.length) (hsz:E.size=1:=by rfl) {x:AV} (hx:E.cells xs[i]=[x]:=by rfl) : M.cell b i=some x:=by
 have:=h.load hi
 rw[hsz,Nat.mul_one] at this
 exact pI this (by rw[hx]; rfl)
theorem Rw.Py {b el:Nat} {p:Bool} (h:Rw E M b p el xs) {i:Nat} (hi:i<xs.length) (x:α) (hsz:E.size=1:=by rfl) {u:AV} (hx:E.cells x=[u]:=by rfl) :
  M.stores b i [u]=some (M.put b (.row (E.row (xs.set i x)) p el 0))∧Rw E (M.put b (.row (E.row (xs.set i x)) p el 0)) b p el (xs.set i x):=by
 have:=h.store hi x
 rw[hsz,Nat.mul_one,hx] at this
 exact this
end
@[go_sem] theorem qw (el:Nat) (s:List UInt8) (K:RB→(Nat→AV)→Prop) : qo el (St s) K=K (.row (BY.row s) true el 0) (fun b=>.slc b 0 s.length (.op 1)):=by
 rw[qC]
 apply propext; unfold qo
 constructor
 ·rintro⟨s',h,hk⟩; cases h; exact hk
 ·intro hk; exact⟨s,rfl,hk⟩
def dw (b:UInt8) : UInt8:=if 65≤b.toNat∧b.toNat≤90 then b + 32 else b
def low (s:List UInt8) : List UInt8:=s.map dw
theorem IL (b:UInt8) : b.toNat<256:=b.toNat_lt
structure fe (n:Nat) (bs:List Nat) (M M' : RM) : Prop where
 base:M'.base=M.base
 next:M.next≤M'.next
 heap:∀ c,c<n→c ∉ bs→M'.heap c=M.heap c
theorem fe.refl (n:Nat) (bs:List Nat) (M:RM) : fe n bs M M:=⟨rfl,Nat.le_refl _,fun _ _ _=>rfl⟩
theorem fe.trans {n:Nat} {bs:List Nat} {M M1 M2:RM} (h:fe n bs M M1) (k:fe n bs M1 M2) : fe n bs M M2 :=
 ⟨k.base.trans h.base,Nat.le_trans h.next k.next,fun c h1 h2=>(k.heap c h1 h2).trans (h.heap c h1 h2)⟩
theorem ae.Gj {bs cs:List Nat} {n:Nat} {M0 M M' : RM} (h:ae bs M0 M) (k:fe n cs M M') (hn:M0.next≤n) (hc:∀ c∈cs,M0.next≤c∨c∈bs) : ae bs M0 M' :=
 ⟨k.base.trans h.base,Nat.le_trans h.next k.next,fun c h1 h2=>by
  rw[k.heap c (Nat.lt_of_lt_of_le h1 hn) (fun hm=>by rcases hc c hm with h3 | h3; omega; exact h2 h3),h.heap c h1 h2]⟩
theorem fe.ax {n:Nat} {bs:List Nat} {M M' : RM} (h:fe n bs M M') {b:Nat} {x:RB} (hh:M.heap b=some x) (hlt:b<n) (hb:b ∉ bs) : M'.heap b=some x:=by rw[h.heap b hlt hb,hh]
theorem Own.same {M M' : RM} {n el size n0:Nat} {v:AV} {cs:List AV} (h:Own M n0 el size v cs n) (hn:M'.next=M.next) (hb:∀ c∈aD v,M'.heap c=M.heap c) (hbase:M'.base=M.base) : Own M' n0 el size v cs n:=by
 cases h with
 | nil=>exact .nil
 | ex0 b o h1 h2 h3=>exact .ex0 b o h1 (by omega) (by simpa [RM.DV,hb b (by simp[aD]),RM.lo,hbase] using h3)
 | op b n cs h1 h2 h3 h4=>exact .op b n cs h1 (by omega) (by rw[hb b (by simp[aD]),h3]) h4
theorem Own.one {M:RM} {n el size n0:Nat} {v:AV} {cs:List AV} (h:Own M n0 el size v cs n) : oneCell v=true:=by
 cases h <;> rfl
theorem Own.cells {M:RM} {n el size n0:Nat} {v:AV} {cs:List AV} (h:Own M n0 el size v cs n) : v.cells=[v]:=by
 cases h <;> rfl
section
variable {P:Program} {ρ:Ren} {M:RM} {w w' : World}
theorem bW.below {base:Base} {A:AW} (h:bW P base ρ A w) (hb:Below w.heap.size w w') (hn:base.n≤w.heap.size) : bW P base ρ A w' where
 dom b i hbi:=⟨(h.dom b i hbi).1,Nat.lt_of_lt_of_le (h.dom b i hbi).2 hb.size⟩
 blk b i x hbi hx:=let ⟨o,ho,hr⟩:=h.blk b i x hbi hx; ⟨o,by rw[hb.block _ (h.dom b i hbi).2]; exact ho,hr⟩
 sep:=h.sep
 top:=h.top
 lo:=h.lo
 inv:=base.low w w' (fun c hc=>hb.block c (Nat.lt_of_lt_of_le hc hn)) h.inv
theorem Step.of_below {base n:Nat} (hb:Below w.heap.size w w') (hn:base≤w.heap.size) : Step base n ρ w ρ w' where
 os:=hb.os
 tape:=hb.tape
 output:=hb.output
 size:=hb.size
 frame c hc _:=hb.block c hc
 ext _ _:=rfl
 fresh b i h:=.inl ⟨b,i,h,rfl⟩
 low c hc:=hb.block c (Nat.lt_of_lt_of_le hc hn)
theorem After.below (h:bO P ρ M w) (hb:Below w.heap.size w w') : After P M ρ w M ρ w':=by
 obtain⟨A,hA⟩:=h
 refine iY hA (Step.of_below hb hA.size) (hA.rel.below hb hA.size) rfl hA.next (Nat.le_refl _) fun b x hx=>?_
 rcases hA.blk b x hx with h | ⟨c,rfl,_⟩
 ·exact .inl h
 ·exact .inr ⟨c,rfl,hx⟩
theorem bO.inv (h:bO P ρ M w) : M.base.inv w:=by
 obtain⟨A,hA⟩:=h
 exact hA.rel.inv
theorem dW.kT {f:FuncId} {args:List AV} {v:AV} {Q:ai} (hP:Mo P f)
  (h:∀ (ρ:Ren) (w:World) (us:List Value),aQ ρ args us→bO P ρ M w→Calls P f ⟨us⟩ w fun e w'=>∃ v',e=.returned v'∧Below w.heap.size w w'∧ah ρ v v') (hQ:Q v M) : dW P f args M Q:=by
 refine⟨hP,fun ρ w us hargs hw=>(h ρ w us hargs hw).mono fun e w' hR=>?_⟩
 obtain⟨v',rfl,hb,hv⟩:=hR
 exact⟨v',v,M,ρ,rfl,After.below hw hb,hv,hQ⟩
end
structure jr (α:Type) where
 size:Nat
 rel:RM→List AV→α→(Nat→Prop)→Prop
 len:∀ {M cs a S},rel M cs a S→cs.length=size
 one:∀ {M cs a S},rel M cs a S→cs.all oneCell=true
 mono:∀ {M cs a S S'},rel M cs a S→(∀ b,S b→S' b)→rel M cs a S'
 lt:∀ {M cs a S},rel M cs a S→rel M cs a (fun b=>S b∧b<M.next)
 keep:∀ {M M' cs a S bs},rel M cs a S→ae bs M M'→(∀ b∈bs,¬ S b)→rel M' cs a S
def Enc.iU {α:Type} (E:Enc α) : jr α where
 size:=E.size
 rel _ cs a _:=cs=E.cells a
 len h:=by subst h; exact E.len _
 one h:=by subst h; exact E.one _
 mono h _:=h
 lt h:=h
 keep h _ _:=h
inductive dz {α:Type} (R:jr α) (M:RM) (S:Nat→Prop) : List AV→List α→Prop
 | nil:dz R M S [] []
 | cons {cs ds:List AV} {a:α} {xs:List α} : R.rel M cs a S→dz R M S ds xs→dz R M S (cs++ds) (a :: xs)
section
variable {α:Type} {R:jr α} {M M' : RM} {S S' : Nat→Prop} {cs ds:List AV} {xs ys:List α} {a:α}
theorem dz.len (h:dz R M S cs xs) : cs.length=xs.length * R.size:=by
 induction h with
 | nil=>simp
 | cons h1 _ ih=>rw[List.length_append,R.len h1,ih,List.length_cons,Nat.succ_mul,Nat.add_comm]
theorem dz.one (h:dz R M S cs xs) : cs.all oneCell=true:=by
 induction h with
 | nil=>rfl
 | cons h1 _ ih=>rw[List.all_append,R.one h1,ih]; rfl
theorem dz.mono (h:dz R M S cs xs) (hs:∀ b,S b→S' b) : dz R M S' cs xs:=by
 induction h with
 | nil=>exact .nil
 | cons h1 _ ih=>exact .cons (R.mono h1 hs) ih
theorem dz.lt (h:dz R M S cs xs) : dz R M (fun b=>S b∧b<M.next) cs xs:=by
 induction h with
 | nil=>exact .nil
 | cons h1 _ ih=>exact .cons (R.lt h1) ih
theorem dz.keep {bs:List Nat} (h:dz R M S cs xs) (hk:ae bs M M') (hb:∀ b∈bs,¬ S b) : dz R M' S cs xs:=by
 induction h with
 | nil=>exact .nil
 | cons h1 _ ih=>exact .cons (R.keep h1 hk hb) ih
theorem dz.append (h:dz R M S cs xs) (k:dz R M S ds ys) : dz R M S (cs++ds) (xs++ys):=by
 induction h with
 | nil=>exact k
 | cons h1 _ ih=>rw[List.append_assoc]; exact .cons h1 ih
theorem dz.single (h:R.rel M cs a S) : dz R M S cs [a]:=by
 have:=dz.cons h .nil
 simpa using this
theorem dz.get (h:dz R M S cs xs) : ∀ {i:Nat} (hi:i<xs.length),R.rel M ((cs.drop (i * R.size)).take R.size) xs[i] S:=by
 induction h with
 | nil=>intro i hi; simp at hi
 | cons h1 h2 ih =>
   rename_i c1 d1 a1 x1
   intro i hi
   cases i with
   | zero =>
     rw[Nat.zero_mul,List.drop_zero,List.take_append_of_le_length (by rw[R.len h1]; exact Nat.le_refl _),List.take_of_length_le (by rw[R.len h1]; exact Nat.le_refl _)]
     exact h1
   | succ i =>
     rw[Nat.succ_mul,Nat.add_comm,← List.drop_drop,List.drop_left' (R.len h1)]
     exact ih (by simpa using hi)
theorem dz.take (h:dz R M S cs xs) : ∀ (k:Nat),dz R M S (cs.take (k * R.size)) (xs.take k):=by
 induction h with
 | nil=>intro k; simp; exact .nil
 | cons h1 h2 ih =>
   intro k
   cases k with
   | zero=>simp; exact .nil
   | succ k =>
     rw[Nat.succ_mul,Nat.add_comm,List.take_append,List.take_of_length_le (by rw[R.len h1]; omega),R.len h1,Nat.add_sub_cancel_left]
     exact .cons h1 (ih k)
theorem dz.drop (h:dz R M S cs xs) : ∀ (k:Nat),dz R M S (cs.drop (k * R.size)) (xs.drop k):=by
 induction h with
 | nil=>intro k; simp; exact .nil
 | cons h1 h2 ih =>
   intro k
   cases k with
   | zero=>simp; exact .cons h1 h2
   | succ k =>
     rw[Nat.succ_mul,Nat.add_comm,← List.drop_drop,List.drop_left' (R.len h1)]
     exact ih k
theorem dz.cells {E:Enc α} : ∀ {cs:List AV} {xs:List α},dz E.iU M S cs xs→cs=E.row xs
 | _,_,.nil=>rfl
 | _,_,.cons h1 h2=>by rw[Enc.jD,dz.cells h2]; rw[show _=_ from h1]
theorem dz.of_cells {E:Enc α} : ∀ (xs:List α),dz E.iU M S (E.row xs) xs
 | []=>.nil
 | x :: xs=>by rw[Enc.jD]; exact .cons rfl (dz.of_cells xs)
def bB (R:jr α) (M:RM) (v:AV) (xs:List α) (S:Nat→Prop) : Prop :=
 ∃ cs,dK M R.size v cs xs.length∧(∀ b∈aD v,S b)∧dz R M S cs xs
theorem dK.lt {size n:Nat} {v:AV} (h:dK M size v cs n) : ∀ b∈aD v,b<M.next:=by
 cases h with
 | nil=>intro b hb; simp[aD] at hb
 | emp=>intro b hb; simp[aD] at hb
 | slc b o n cap cs hb _=>intro c hc; simp[aD] at hc; omega
theorem dK.one {size n:Nat} {v:AV} (h:dK M size v cs n) : oneCell v=true:=by
 cases h <;> rfl
theorem dK.cells {size n:Nat} {v:AV} (h:dK M size v cs n) : v.cells=[v]:=by
 cases h <;> rfl
variable {v:AV}
theorem bB.mono (h:bB R M v xs S) (hs:∀ b,S b→S' b) : bB R M v xs S':=let ⟨cs,h1,h2,h3⟩:=h; ⟨cs,h1,fun b hb=>hs b (h2 b hb),h3.mono hs⟩
theorem bB.lt (h:bB R M v xs S) : bB R M v xs (fun b=>S b∧b<M.next):=let ⟨cs,h1,h2,h3⟩:=h; ⟨cs,h1,fun b hb=>⟨h2 b hb,h1.lt b hb⟩,h3.lt⟩
theorem bB.keep {bs:List Nat} (h:bB R M v xs S) (hk:ae bs M M') (hb:∀ b∈bs,¬ S b) : bB R M' v xs S :=
 let ⟨cs,h1,h2,h3⟩:=h; ⟨cs,h1.keep hk (fun b hv hbs=>hb b hbs (h2 b hv)),h2,h3.keep hk hb⟩
theorem bB.len (h:bB R M v xs S) {K:AV→Prop} : bS v K=K (N .i64 xs.length):=let ⟨cs,h1,_,_⟩:=h; h1.len
theorem bB.one (h:bB R M v xs S) : oneCell v=true:=let ⟨cs,h1,_,_⟩:=h; h1.one
theorem bB.cells (h:bB R M v xs S) : v.cells=[v]:=let ⟨cs,h1,_,_⟩:=h; h1.cells
theorem bB.nil:bB R M aB [] S:=⟨[],.nil,by simp[aD],.nil⟩
theorem bB.sl {E:Enc α} (h:bB E.iU M v xs S) : Sl E M v xs:=by
 obtain⟨cs,h1,h2,h3⟩:=h
 rw[h3.cells] at h1
 exact h1
theorem bB.WC {E:Enc α} (h:Sl E M v xs) (hs:∀ b∈aD v,S b) : bB E.iU M v xs S:=⟨_,h,hs,dz.of_cells xs⟩
theorem bB.at (h:bB R M v xs S) {i:Nat} (sz:Nat) (j:Int) (hi:i<xs.length) (hsz:R.size=sz:=by rfl) (hj:j=(i:Int):=by rfl) :
  ∃ b o cs,b<M.next∧b∈aD v∧(∀ (kd:IntKind) (K:AV→Prop),bf v (N kd j) sz K=K (.ptr b o))∧M.loads b o sz=some cs∧R.rel M cs xs[i] S:=by
 subst hsz hj
 obtain⟨cs,h1,h2,h3⟩:=h
 obtain⟨b,o,cap,rfl,hb,hl⟩:=h1.pos (by omega)
 have hsum:i * R.size + R.size≤xs.length * R.size:=by rw[← Nat.succ_mul]; exact Nat.mul_le_mul_right _ hi
 refine⟨b,o + i * R.size,(cs.drop (i * R.size)).take R.size,hb,by simp[aD],fun kd K=>?_, ?_,h3.get hi⟩
 ·rw[DF]
  simp only[Int.toNat_natCast]
  exact propext ⟨fun h=>h.2.2,fun h=>⟨by omega,by omega,h⟩⟩
 ·rw[vD hl (i * R.size) R.size hsum]
def jr.slice (R:jr α) : jr (List α) where
 size:=1
 rel M cs xs S:=∃ v,cs=[v]∧bB R M v xs S
 len h:=by obtain⟨v,rfl,_⟩:=h; rfl
 one h:=by obtain⟨v,rfl,h⟩:=h; simp[h.one]
 mono h hs:=by obtain⟨v,rfl,h⟩:=h; exact⟨v,rfl,h.mono hs⟩
 lt h:=by obtain⟨v,rfl,h⟩:=h; exact⟨v,rfl,h.lt⟩
 keep h hk hb:=by obtain⟨v,rfl,h⟩:=h; exact⟨v,rfl,h.keep hk hb⟩
def eG (R:jr α) (M:RM) (base el:Nat) (v:AV) (xs:List α) (S:Nat→Prop) : Prop :=
 ∃ cs,Own M base el R.size v cs xs.length∧dz R M S cs xs
theorem eG.nil {base el:Nat} : eG R M base el aB [] S:=⟨[],.nil,.nil⟩
theorem eG.mono {base el:Nat} (h:eG R M base el v xs S) (hs:∀ b,S b→S' b) : eG R M base el v xs S':=let ⟨cs,h1,h2⟩:=h; ⟨cs,h1,h2.mono hs⟩
theorem eG.lt {base el:Nat} (h:eG R M base el v xs S) : eG R M base el v xs (fun b=>S b∧b<M.next):=let ⟨cs,h1,h2⟩:=h; ⟨cs,h1,h2.lt⟩
theorem eG.keep {base el:Nat} {bs:List Nat} (h:eG R M base el v xs S) (hk:ae bs M M') (hb:∀ b∈bs,¬ S b) (hv:∀ b∈aD v,b ∉ bs) : eG R M' base el v xs S :=
 let ⟨cs,h1,h2⟩:=h; ⟨cs,h1.keep hk hv,h2.keep hk hb⟩
theorem eG.len {base el:Nat} (h:eG R M base el v xs S) {K:AV→Prop} : bS v K=K (N .i64 xs.length):=let ⟨cs,h1,_⟩:=h; h1.sZ.len
theorem eG.blk {base el:Nat} (h:eG R M base el v xs S) : ∀ b∈aD v,base≤b∧b<M.next:=let ⟨cs,h1,_⟩:=h; h1.blk
theorem eG.CR {base el:Nat} (h:eG R M base el v xs S) (hs:∀ b,base≤b→b<M.next→S b) : bB R M v xs S :=
 let ⟨cs,h1,h2⟩:=h; ⟨cs,h1.sZ,fun b hb=>hs b (h1.blk b hb).1 (h1.blk b hb).2,h2⟩
theorem eG.cells {base el:Nat} (h:eG R M base el v xs S) : v.cells=[v]:=let ⟨cs,h1,_⟩:=h; h1.cells
theorem eG.one {base el:Nat} (h:eG R M base el v xs S) : oneCell v=true:=let ⟨cs,h1,_⟩:=h; h1.one
theorem eG.app {base T bytes:Nat} {zs:List AV} {K:ai} (ho:eG R M base T v xs S) (ha:R.rel M cs a S) (hb:base≤M.next) (hs:1≤R.size)
  (hd:∀ b∈aD v,¬ S b) (hS:∀ b,S b→b<M.next)
  (hn:(xs.length + 1) * bytes≤140737488355328) (hn2:xs.length + 1≤140737488355328)
  (hK:∀ v' M',eG R M' base T v' (xs++[a]) S→ae (aD v) M M'→M.next≤M'.next→(v'=v∨∀ b∈aD v',M.next≤b)→(∀ b∈aD v',¬ S b)→K v' M') :
  appW T R.size bytes zs false v (.slc M.next 0 1 (.ex 1)) (M.push (.row cs false T 0)) K:=by
 obtain⟨ds,h1,h2⟩:=ho
 have hk:ae [] M (M.push (.row cs false T 0)):=(ae.refl _ _).push _
 have hl:=R.len ha
 have hnl:mV (M.push (.row cs false T 0)) R.size zs false (.slc M.next 0 1 (.ex 1))=some (1,cs):=by
  simp only[mV,Nat.one_mul]
  rw[RM.kG (RM.aR _) (by omega),List.drop_zero,← hl,List.take_length]
 refine Cm (h1.keep hk (by simp)) (Nat.le_trans hb hk.next) hs hnl (by rw[hl,Nat.one_mul]) (R.one ha) hn hn2 ?_
 intro v' M' q1 q2 q3 q4
 have kk:ae (aD v) M M':=(hk.mono (by simp)).trans q2
 refine hK v' M' ⟨_,by simpa using q1, ?_⟩ kk (Nat.le_trans hk.next q3) (q4.imp id fun h b hb=>Nat.le_trans hk.next (h b hb)) ?_
 ·exact(h2.keep kk hd).append (dz.single (R.keep ha kk hd))
 ·rcases q4 with rfl | q4
  ·exact hd
  ·intro b hb hSb
   have:=q4 b hb
   have:=hS b hSb
   simp only[RM.push] at *
   omega
end
section
variable {M M' : RM} {b i n e f:Nat} {l:List AV} {p:Bool} {x:AV}
theorem az {K:AV→Prop} (h:M.heap b=some (.row l p e f)) (hx:l[i]?=some x) : ak M (.ptr b i) K=K x:=by
 rw[eB,RM.cell_of h,hx]; simp
theorem aN {K:AV→Prop} (h:M.heap b=some (.row l p e f)) (hn:l.length=n) : aH M (.ptr b 0) n K=K (.agg l):=by
 rw[qz,RM.Ti h]
 have:tX (some l) 0 n=some l:=by simp[tX,← hn]
 rw[this]; simp
theorem BI {K:RM→Prop} (h:M.heap b=some (.row l p e 0)) (hi:i<l.length) (hc:x.cells=[x]) (h1:oneCell x=true) : aA M (.ptr b i) x 1 K=K (M.put b (.row (l.set i x) p e 0)):=by
 rw[Ev,hc,RM.jm h,fT (by simp only[List.length_cons,List.length_nil]; omega) (Nat.zero_le _) (by simp[h1])]
 have:l.take i++[x]++l.drop (i + 1)=l.set i x:=by
  rw[List.set_eq_take_append_cons_drop,if_pos hi]; simp
 simp[this]
theorem bM {K:RM→Prop} (l' : List AV) (h:M.heap b=some (.row l p e 0)) (hi:i<l.length) (hc:x.cells=[x]) (h1:oneCell x=true) (hl:l.set i x=l') : aA M (.ptr b i) x 1 K=K (M.put b (.row l' p e 0)):=by
 rw[BI h hi hc h1,hl]
theorem aU {K:AV→Prop} : aG (.ptr b 0) n K=K (.ptr b n):=by rw[iD,Nat.zero_add]
theorem bK {K:RM→Prop} (h:M.heap b=some (.row l p e 0)) (hn:x.cells.length=n) (hl:l.length=n) (h1:x.cells.all oneCell=true) : aA M (.ptr b 0) x n K=K (M.put b (.row x.cells p e 0)):=by
 rw[Ev,RM.jm h,Iz (by rw[hn,hl]) h1]
 simp[hn]
theorem dh {c:Nat} {y z:RB} (h:M.heap b=some y) (hb:b≠c) : (M.put c z).heap b=some y:=by
 simp only[RM.put]; rw[if_neg hb]; exact h
theorem ay (y:RB) : (M.put b y).heap b=some y:=RM.jJ _ _
theorem uG {y z:RB} (h:M.heap b=some y) (hb:b<M.next) : (M.push z).heap b=some y:=by
 simp only[RM.push]; rw[if_neg (by omega)]; exact h
theorem bH (y:RB) : (M.push y).next=M.next + 1:=rfl
theorem jG (c:Nat) (y:RB) : (M.put c y).next=M.next:=rfl
theorem ae.new {bs:List Nat} (h:ae bs M M') {b:Nat} (y:RB) (hb:M.next≤b) : ae bs M (M'.put b y):=h.put y (.inl hb)
end
variable {M:RM}
theorem bG {a:AV} {l:List AV} {K:AV→Prop} : aJ (.tup (a :: l)) 0 K=K a:=by rw[DT]; simp
theorem bJ {a b:AV} {l:List AV} {K:AV→Prop} : aJ (.tup (a :: b :: l)) 1 K=K b:=by rw[DT]; simp
theorem gF {a b c:AV} {l:List AV} {K:AV→Prop} : aJ (.tup (a :: b :: c :: l)) 2 K=K c:=by rw[DT]; simp
theorem eZ {p q:Prop} : au (Bo true) p q=p:=by simp[KL]
theorem dx {p q:Prop} : au (Bo false) p q=q:=by simp[KL]
theorem aZ {b:Bool} {p q:Prop} (h1:b=true→p) (h2:b=false→q) : au (Bo b) p q:=⟨h1,h2⟩
theorem qD {f g:ai→Prop} {k:ai} : aa (Bo true) true f g k=f k:=rfl
theorem ko {f g:ai→Prop} {k:ai} : aa (Bo false) false f g k=f k:=rfl
theorem gY {f g:ai→Prop} {k:ai} : aa (Bo true) false f g k=g k:=rfl
theorem u7 {f g:ai→Prop} {k:ai} : aa (Bo false) true f g k=g k:=rfl
theorem lS {f g:KR→Prop} {k:KR} : aK (Bo true) true f g k=f k:=rfl
theorem Qf {f g:KR→Prop} {k:KR} : aK (Bo false) false f g k=f k:=rfl
theorem Qx {f g:KR→Prop} {k:KR} : aK (Bo true) false f g k=g k:=rfl
theorem nU {f g:KR→Prop} {k:KR} : aK (Bo false) true f g k=g k:=rfl
theorem gD {a b:AV} {K:AV→Prop} : aC (Bo true) a b K=K a:=by rw[Kw]; rfl
theorem iH {a b:AV} {K:AV→Prop} : aC (Bo false) a b K=K b:=by rw[Kw]; rfl
theorem dK.known {size:Nat} {v:AV} {cs:List AV} {n:Nat} (h:dK M size v cs n) : known v=true:=by
 cases h <;> rfl
theorem bB.known {α:Type} {R:jr α} {v:AV} {xs:List α} {S:Nat→Prop} (h:bB R M v xs S) : known v=true:=let ⟨_,h1,_,_⟩:=h; h1.known
theorem iC {t:TypeId} {cs:List AV} {K:RB→(Nat→AV)→Prop} (h1:cs.all oneCell=true) (h2:1≤cs.length) : mW t (.agg cs) K=K (.row cs false t 0) (fun b=>.ptr b 0):=by
 unfold mW
 exact propext ⟨fun h=>h.2.2,fun h=>⟨h1,h2,h⟩⟩
def jr.pre {α β:Type} (E:Enc α) (R:jr β) : jr (α × β) where
 size:=E.size + R.size
 rel M cs a S:=∃ ds,cs=E.cells a.1++ds∧R.rel M ds a.2 S
 len h:=by obtain⟨ds,rfl,h⟩:=h; rw[List.length_append,E.len,R.len h]
 one h:=by obtain⟨ds,rfl,h⟩:=h; rw[List.all_append,E.one,R.one h]; rfl
 mono h hs:=by obtain⟨ds,rfl,h⟩:=h; exact⟨ds,rfl,R.mono h hs⟩
 lt h:=by obtain⟨ds,rfl,h⟩:=h; exact⟨ds,rfl,R.lt h⟩
 keep h hk hb:=by obtain⟨ds,rfl,h⟩:=h; exact⟨ds,rfl,R.keep h hk hb⟩
def jr.post {α β:Type} (R:jr α) (E:Enc β) : jr (α × β) where
 size:=R.size + E.size
 rel M cs a S:=∃ ds,cs=ds++E.cells a.2∧R.rel M ds a.1 S
 len h:=by obtain⟨ds,rfl,h⟩:=h; rw[List.length_append,E.len,R.len h]
 one h:=by obtain⟨ds,rfl,h⟩:=h; rw[List.all_append,E.one,R.one h]; rfl
 mono h hs:=by obtain⟨ds,rfl,h⟩:=h; exact⟨ds,rfl,R.mono h hs⟩
 lt h:=by obtain⟨ds,rfl,h⟩:=h; exact⟨ds,rfl,R.lt h⟩
 keep h hk hb:=by obtain⟨ds,rfl,h⟩:=h; exact⟨ds,rfl,R.keep h hk hb⟩
def jr.map {α β:Type} (R:jr α) (g:β→α) : jr β where
 size:=R.size
 rel M cs a S:=R.rel M cs (g a) S
 len h:=R.len h
 one h:=R.one h
 mono h hs:=R.mono h hs
 lt h:=R.lt h
 keep h hk hb:=R.keep h hk hb
end Go.Ab
namespace Go.Ab
open Go Go.RowKit Go.ChangeShapes
section
variable {H:Type} {enc:TypeId × Value→H} {P:Program} {w:World} {base:Nat} {spare:Nat→Bool} {held:Bool}
end
end Go.Ab
set_option maxRecDepth 10000
namespace Go.Ab
open Go Go.ChangeShapes
end Go.Ab
namespace Go.Ab
open Go Go.RowKit
section
variable {P:Program} {f:FuncId} {fn:Func} {w w' : World} {M:RM}
end
end Go.Ab
namespace Go.Ab.Sm
open Go Go.Ab
section
variable {i j:Nat} {K:AV→Prop}
theorem addN (h:i + j<4611686018427387904) : af .add (N .i64 (i:Int)) (N .i64 (j:Int)) K=K (N .i64 ((i + j:Nat) : Int)):=by
 rw[eH,eO (by omega) (by omega),Int.natCast_add]
theorem add1 (h:i<4611686018427387904) : af .add (N .i64 (i:Int)) (N .i64 1) K=K (N .i64 ((i + 1:Nat) : Int)):=by
 rw[eH,lT (by omega)]
theorem SL (h:j≤i) (hb:i<4611686018427387904) : af .sub (N .i64 (i:Int)) (N .i64 (j:Int)) K=K (N .i64 ((i - j:Nat) : Int)):=by
 rw[lY,eO (by omega) (by omega),show(i:Int) - (j:Int)=((i - j:Nat) : Int) by omega]
theorem jC:af .lss (N .i64 (i:Int)) (N .i64 (j:Int)) K=K (Bo (decide (i<j))):=by rw[lN,show decide ((i:Int)<(j:Int))=decide (i<j) by simp]
theorem AP:af .gtr (N .i64 (i:Int)) (N .i64 (j:Int)) K=K (Bo (decide (i > j))):=by rw[uK,show decide ((i:Int) > (j:Int))=decide (i > j) by simp]
theorem O8:af .leq (N .i64 (i:Int)) (N .i64 (j:Int)) K=K (Bo (decide (i≤j))):=by rw[nL,show decide ((i:Int)≤(j:Int))=decide (i≤j) by simp]
theorem YG:af .eql (N .i64 (i:Int)) (N .i64 (j:Int)) K=K (Bo (decide (i=j))):=by
 rw[dR,show((i:Int) == (j:Int))=decide (i=j) by by_cases h:i=j <;> simp[h]; omega]
end
section
variable {M:RM} {c p:Bool} {f:ai→Prop} {P:RM→Prop} {G:AV→RM→Prop}
theorem uY (hf:c=true→∀ k:ai,k (Bo p) M→f k) (hG:G (Bo (c && p)) M) :
  aa (Bo c) true f (fun k=>k .undef M) (fun t M'=>aC (Bo c) t (Bo false) fun u=>G u M'):=by
 cases c with
 | false=>rw[u7]; dsimp only; rw[iH]; exact hG
 | true=>rw[qD]; exact hf rfl _ (by rw[gD]; exact hG)
theorem mP (hf:c=false→∀ k:ai,k (Bo p) M→f k) (hG:G (Bo (c || p)) M) :
  aa (Bo c) false f (fun k=>k .undef M) (fun t M'=>aC (Bo c) (Bo true) t fun u=>G u M'):=by
 cases c with
 | true=>rw[gY]; dsimp only; rw[gD]; exact hG
 | false=>rw[ko]; exact hf rfl _ (by rw[iH]; exact hG)
theorem OX (h0:P M) (hf:c=true→∀ k:ai,(∀ M',P M'→k (Bo p) M')→f k) (hG:∀ M',P M'→G (Bo (c && p)) M') :
  aa (Bo c) true f (fun k=>k .undef M) (fun t M'=>aC (Bo c) t (Bo false) fun u=>G u M'):=by
 cases c with
 | false=>rw[u7]; dsimp only; rw[iH]; exact hG M h0
 | true=>rw[qD]; exact hf rfl _ fun M' h=>by rw[gD]; exact hG M' h
theorem Oz (h0:P M) (hf:c=false→∀ k:ai,(∀ M',P M'→k (Bo p) M')→f k) (hG:∀ M',P M'→G (Bo (c || p)) M') :
  aa (Bo c) false f (fun k=>k .undef M) (fun t M'=>aC (Bo c) (Bo true) t fun u=>G u M'):=by
 cases c with
 | true=>rw[gY]; dsimp only; rw[gD]; exact hG M h0
 | false=>rw[ko]; exact hf rfl _ fun M' h=>by rw[iH]; exact hG M' h
end
section
variable {M:RM} {c p:Bool} {f:KR→Prop} {G:AV→RM→Prop}
theorem Yw (hf:c=false→∀ k:KR,k (Bo p) M none→f k) (hG:G (Bo (c || p)) M) :
  aK (Bo c) false f (fun k=>k .undef M none) (fun t M' b=>aC (Bo c) (Bo true) t fun u=>G u M'):=by
 cases c with
 | true=>rw[Qx]; dsimp only; rw[gD]; exact hG
 | false=>rw[Qf]; exact hf rfl _ (by rw[Go.Ab.iH]; exact hG)
end
theorem Y6 {a:Int} {K:AV→Prop} : af .neq (N .i64 a) (N .i64 a) K=K (Bo false):=by rw[dm,bne_self_eq_false]
theorem Qy {α:Type} {E:Enc α} {M:RM} {T:Nat} {v:AV} {xs:List α} (h:Ow E M 0 T v xs) (hi:0<xs.length) : ∃ b,v=.slc b 0 xs.length (.op E.size)∧b<M.next∧M.heap b=some (.row (E.row xs) true T 0):=by
 unfold Ow at h
 generalize xs.length=n at *
 generalize E.row xs=cs at *
 cases h with
 | nil=>omega
 | ex0 b o h1 h2 h3=>omega
 | op b n cs h1 h2 h3 h4=>exact⟨b,rfl,h2,h3⟩
theorem RA {α:Type} {E:Enc α} (hs:E.size=1) {M:RM} {T:Nat} {v:AV} {xs:List α} (h:Ow E M 0 T v xs) {i:Nat} (hi:i<xs.length) : ∃ b,aD v=[b]∧b<M.next ∧
  (∀ (K:AV→Prop),bf v (N .i64 (i:Int)) 1 K=K (.ptr b i))∧(∀ x,E.cells xs[i]=[x]→∀ K:AV→Prop,ak M (.ptr b i) K=K x) ∧
  ∀ (a:α) (x:AV),E.cells a=[x]→x.cells=[x]→∃ M',Ow E M' 0 T v (xs.set i a)∧M'=M.put b (.row (E.row (xs.set i a)) true T 0)∧∀ K:RM→Prop,aA M (.ptr b i) x 1 K=K M':=by
 obtain⟨b,rfl,h2,h3⟩:=Qy h (by omega)
 rw[hs]
 have hlen:(E.row xs).length=xs.length:=by rw[E.fB,hs,Nat.mul_one]
 have hget:∀ x,E.cells xs[i]=[x]→(E.row xs)[i]?=some x:=by
  intro x hx
  have:=E.wW hi
  rw[hs,Nat.mul_one,hx] at this
  have h2:=congrArg (fun l:List AV=>l[0]?) this
  simpa using h2
 have hset:∀ (a:α) (x:AV),E.cells a=[x]→(E.row xs).set i x=E.row (xs.set i a):=by
  intro a x hx
  apply List.ext_getElem?
  intro j
  have hl2:(E.row (xs.set i a)).length=xs.length:=by rw[E.fB,hs,Nat.mul_one,List.length_set]
  by_cases hj:j<xs.length
  ·have hj2:j<(xs.set i a).length:=by rw[List.length_set]; exact hj
   have e1:=E.wW (xs:=xs.set i a) hj2
   rw[hs,Nat.mul_one] at e1
   have e2:=E.wW (xs:=xs) hj
   rw[hs,Nat.mul_one] at e2
   have e1:=congrArg (fun l:List AV=>l[0]?) e1
   have e2:=congrArg (fun l:List AV=>l[0]?) e2
   simp only[List.getElem?_take,List.getElem?_drop,Nat.zero_lt_one,if_true,Nat.add_zero] at e1 e2
   rw[e1]
   by_cases hji:j=i
   ·subst hji
    rw[List.getElem?_set_self (by omega)]
    simp[hx]
   ·rw[List.getElem?_set_ne (fun e=>hji e.symm),e2]
    rw[List.getElem_set_ne (fun e=>hji e.symm)]
  ·rw[List.getElem?_eq_none (by rw[List.length_set]; omega),List.getElem?_eq_none (by omega)]
 refine⟨b,rfl,h2,fun K=>?_,fun x hx K=>az h3 (hget x hx),fun a x hx hc=>?_⟩
 ·rw[DF]
  simp only[Int.toNat_natCast,Nat.mul_one,Nat.zero_add]
  exact propext ⟨fun h=>h.2.2,fun h=>⟨by omega,by omega,h⟩⟩
 ·have h1x:oneCell x=true:=by
   have:=E.one a
   rw[hx] at this
   simpa using this
  refine⟨_, ?_,rfl,fun K=>bM (l':=E.row (xs.set i a)) h3 (by omega) hc h1x (hset a x hx)⟩
  have hl3:(xs.set i a).length=xs.length:=List.length_set
  show Own _ 0 T E.size (.slc b 0 xs.length (.op 1)) _ _
  rw[hs,hl3]
  exact .op b xs.length _ (Nat.zero_le _) h2 (ay _) (by rw[E.fB,hs,hl3])
end Go.Ab.Sm
namespace Go.Ab
open Go Go.RowKit
inductive jP (B:Nat) (P:Program) (M:RM) : TypeId→List AV→Prop
 | bool (t:TypeId) (b:Bool) : P.underlying t=some .bool→jP B P M t [Bo b]
 | int (t:TypeId) (k:IntKind) (n:Int) : P.underlying t=some (.int k)→k.min≤n→n≤k.max→jP B P M t [N k n]
 | str (t:TypeId) (s:List UInt8) : P.underlying t=some .string→s.length≤B→jP B P M t [St s]
 | VG (t e:TypeId) : P.underlying t=some (.slice e)→jP B P M t [aB]
 | emp (t e:TypeId) (b:Nat) : P.underlying t=some (.slice e)→jP B P M t [.emp b]
 | slc (t e:TypeId) (b o n c:Nat) (cs:List AV) : P.underlying t=some (.slice e)→b<M.next→n≤c→n≤B→M.loads b o (n * P.cellsOf e)=some cs →
   (∀ i,i<n→jP B P M e ((cs.drop (i * P.cellsOf e)).take (P.cellsOf e)))→jP B P M t [.slc b o n (.ex c)]
 | struct (t:TypeId) (fs:Array Field) (cs:List AV) : P.underlying t=some (.struct fs)→cs.length=P.cellsOf t →
   (∀ (i:Nat) (f:Field),fs[i]?=some f→jP B P M f.type ((cs.drop f.offset).take (P.cellsOf f.type)))→jP B P M t cs
 | array (t e:TypeId) (n:Nat) (cs:List AV) : P.underlying t=some (.array n e)→cs.length=P.cellsOf t →
   (∀ i,i<n→jP B P M e ((cs.drop (i * P.cellsOf e)).take (P.cellsOf e)))→jP B P M t cs
 | other (t:TypeId) (cs:List AV) : Ky (P.underlying t)=true→jP B P M t cs
 | zero (t e:TypeId) (cs:List AV) : P.underlying t=some (.slice e)→P.cellsOf e=0→jP B P M t cs
section
variable {H:Type} {enc:TypeId × Value→H} {P:Program} {base:Base} {w:World}
variable {bulk:DataW H→Nat} {B:Nat}
structure Zl (bulk:DataW H→Nat) : Prop where
 str:∀ bs:List UInt8,bs.length≤bulk (.lit (.string bs))
 len:∀ es sp:List (DataW H),es.length≤bulk (.slice es sp)
 elem:∀ (es sp:List (DataW H)) d,d∈es→bulk d≤bulk (.slice es sp)
 spare:∀ (es sp:List (DataW H)) d,d∈sp→bulk d≤bulk (.slice es sp)
 agg:∀ (ps:List (DataW H)) d,d∈ps→bulk d≤bulk (.agg ps)
end
section
variable {P:Program} {M:RM} {t:TypeId} {cs:List AV} {B:Nat}
def Sk:AV→Prop
 | .slc _ _ n (.ex c)=>n≤c
 | .slc _ _ _ (.op e)=>e=1
 | _=>True
end
def Ke (B:Nat) (P:Program) (M:RM) (t:TypeId) (v:AV) : Prop :=
 match Ba P t with
 | true=>∃ cs,v=.agg cs∧jP B P M t cs
 | false=>jP B P M t [v]
theorem Ke.one {B:Nat} {P:Program} {M:RM} {t:TypeId} {v:AV} (h:Ke B P M t v) (ha:Ba P t=false) : jP B P M t [v]:=by
 unfold Ke at h; rw[ha] at h; exact h
section
variable {H:Type} {enc:TypeId × Value→H} {P:Program} {base:Base} {w:World} {bulk:DataW H→Nat} {B:Nat}
end
section
variable {P:Program} {ρ:Ren} {M:RM} {w w' : World}
end
end Go.Ab
namespace Go.Ab.Sha
open Go Go.Ab
abbrev Str:=List UInt8
structure Bs (M:RM) (v:AV) (b:Str) : Prop where
 sl:Sl BY M v b
 cap:Sk v
theorem Bs.keep {M M' : RM} {v:AV} {b:Str} {bs:List Nat} (h:Bs M v b) (k:ae bs M M') (hb:∀ x∈aD v,x ∉ bs) : Bs M' v b:=⟨dK.keep h.sl k hb,h.cap⟩
theorem Bs.len {M:RM} {v:AV} {b:Str} (h:Bs M v b) {K:AV→Prop} : bS v K=K (N .i64 (b.length:Int)):=dK.len h.sl
theorem U6 {M:RM} {base T n:Nat} {v:AV} {cs:List AV} (h:Own M base T 1 v cs n) : Sk v:=by
 cases h with
 | nil=>trivial
 | ex0 b o _ _ _=>exact Nat.le_refl _
 | op b n cs _ _ _ _=>rfl
theorem Bs.own {M:RM} {base T:Nat} {v:AV} {b:Str} (h:Ow BY M base T v b) : Bs M v b:=⟨Own.sZ h,U6 h⟩
theorem EU {M:RM} {b o n:Nat} {x:Str} (h:M.loads b o (n * 1)=some (BY.row x)) {l u:Nat} (h1:l≤u) (h2:u≤n) : M.loads b (o + l * 1) ((u - l) * 1)=some (BY.row ((x.drop l).take (u - l))):=by
 have:=vD h (l * 1) ((u - l) * 1) (by omega)
 rw[this]
 congr 1
 have e1:=BY.xI x l
 have e2:=BY.DI (x.drop l) (u - l)
 rw[show l * 1=l * BY.size from rfl,e1,show(u - l) * 1=(u - l) * BY.size from rfl,e2]
theorem Bs.sub {M:RM} {v:AV} {b:Str} (h:Bs M v b) {lo hi:Option AV} {l u:Nat} (e1:bnd 0 lo=some l) (e2:bnd b.length hi=some u) (h1:l≤u) (h2:u≤b.length) {K:AV→Prop}
  (hK:∀ v',Bs M v' ((b.drop l).take (u - l))→(∀ x∈aD v',x∈aD v)→K v') : bN (jM 1 v lo hi none) K:=by
 obtain⟨hs,hc⟩:=h
 have hlen:((b.drop l).take (u - l)).length=u - l:=by simp; omega
 have zero:u=l→∀ {w:AV},dK M 1 w [] 0→Sl BY M w ((b.drop l).take (u - l)):=by
  intro e w hw
  subst e
  rw[Nat.sub_self,List.take_zero]
  exact hw
 unfold Sl at hs
 generalize hn:b.length=n at *
 generalize hcs:BY.row b=cs at *
 cases hs with
 | nil =>
   have l0:l=0:=by omega
   have u0:u=0:=by omega
   subst l0 u0
   exact⟨aB,by simp only[jM,aB,e1,e2],hK _ ⟨zero rfl .nil,trivial⟩ (fun x hx=>hx)⟩
 | emp b0 =>
   have l0:l=0:=by omega
   have u0:u=0:=by omega
   subst l0 u0
   exact⟨.emp b0,by simp only[jM,e1,e2],hK _ ⟨zero rfl (.emp _),trivial⟩ (fun x hx=>hx)⟩
 | slc b0 o _ cap cs hb hl =>
   subst hcs
   have hl':=EU hl h1 h2
   have whole:∀ cap',Sk (.slc b0 (o + l * 1) (u - l) cap')→(Bs M (.slc b0 (o + l * 1) (u - l) cap') ((b.drop l).take (u - l))):=fun cap' hcap=>⟨by
    unfold Sl; rw[hlen]; exact .slc _ _ _ _ _ hb hl',hcap⟩
   cases cap with
   | ex c =>
     have hcn:n≤c:=hc
     by_cases e:c=l
     ·subst e
      have hu:u=c:=by omega
      subst hu
      refine⟨.slc b0 o 0 (.ex 0),by simp only[jM,e1,e2]; rw[if_pos ⟨Nat.le_refl _,Nat.le_refl _⟩]; simp,hK _ ⟨zero rfl (.slc _ _ _ _ _ hb ?_),Nat.le_refl _⟩ (fun x hx=>hx)⟩
      have:=EU hl (Nat.le_refl 0) (Nat.zero_le n)
      simpa [BY,Enc.row] using this
     ·exact⟨_,by simp only[jM,e1,e2]; rw[if_pos ⟨h1,by omega⟩,if_neg e],hK _ (whole _ (by show u - l≤c - l; omega)) (fun x hx=>hx)⟩
   | op esz =>
     have he:esz=1:=hc
     subst he
     by_cases e:n≤l
     ·have hu:u=l:=by omega
      exact⟨.emp b0,by simp only[jM,e1,e2]; simp[h1,h2,e],hK _ ⟨zero hu (.emp _),trivial⟩ (fun x hx=>by simp[aD] at hx)⟩
     ·exact⟨_,by simp only[jM,e1,e2]; simp only[and_true]; rw[if_pos ⟨h1,h2⟩,if_neg e],hK _ (whole (.op 1) rfl) (fun x hx=>hx)⟩
theorem KD (d n:Nat) (k:IntKind) : bnd d (some (N k (n:Int)))=some n:=by simp[bnd]
theorem Za (d:Nat) : bnd d none=some d:=rfl
theorem ae.own {bs:List Nat} {M M1 M2:RM} {v:AV} (k1:ae bs M M1) (k2:ae (aD v) M1 M2) (hv:∀ b∈aD v,M.next≤b) : ae bs M M2 :=
 ⟨k2.base.trans k1.base,Nat.le_trans k1.next k2.next,fun x hx hb=>by
  rw[k2.heap x (Nat.lt_of_lt_of_le hx k1.next) (fun h=>by have:=hv x h; omega),k1.heap x hx hb]⟩
theorem Bj {M:RM} {b n:Nat} {l cs:List AV} {p:Bool} {e:Nat} {K:RM→Prop} (h:M.heap b=some (.row l p e 0)) (hn:cs.length=n) (hl:l.length=n) (h1:cs.all oneCell=true) :
  aA M (.ptr b 0) (.agg cs) n K=K (M.put b (.row cs p e 0)):=bK (x:=.agg cs) h hn hl h1
theorem Bs.lt {M:RM} {v:AV} {b:Str} (h:Bs M v b) : ∀ x∈aD v,x<M.next:=dK.lt h.sl
theorem sI (s:Str) : (BY.row s).length=s.length:=by rw[Enc.fB]; simp[BY]
theorem Bs.read {M:RM} {v:AV} {b:Str} (h:Bs M v b) {i:Nat} (hi:i<b.length) {K:AV→Prop} : (bf v (N .i64 (i:Int)) 1 fun t=>ak M t K)=K (By b[i]):=by
 obtain⟨c,o,_,_,hix,hld⟩:=h.sl.Tq (i:Int) hi
 rw[hix,eB,hld _ rfl]
 exact propext ⟨fun⟨v,e,k⟩=>by cases e; exact k,fun k=>⟨_,rfl,k⟩⟩
theorem TW {T:Nat} {M:RM} {z cs:List AV} {K:AV→RM→Prop} (n:Nat) (hz:z.length=n) (hc:cs.length=n) (h1:cs.all oneCell=true)
  (hK:∀ M',ae [] M M'→M'.heap M.next=some (.row cs false T 0)→M.next<M'.next→K (.ptr M.next 0) M') :
  aV (.row z false T 0) (fun b=>.ptr b 0) M fun t M1=>aA M1 t (.agg cs) n fun M2=>K t M2:=by
 simp only[aF]
 have n1:(M.push (.row z false T 0)).heap M.next=some (.row z false T 0):=by simp[RM.push]
 rw[Bj n1 hc hz h1]
 exact hK _ (((ae.refl _ _).push _).new _ (Nat.le_refl _)) (ay _) (by simp[RM.push,RM.put])
def Ca (f:(List AV→RM→Prop)→Prop) (g:List AV→RM→Prop) : Prop:=f g
theorem dB (f:(List AV→RM→Prop)→Prop) (g:List AV→RM→Prop) : bT f g=Ca f g:=rfl
theorem bI {H:(List AV→RM→Prop)→Prop} {G:List AV→RM→Prop} (P:List AV→RM→Prop) (hT:∀ xs M,P xs M→G xs M)
  (hH:∀ J:List AV→RM→Prop,(∀ xs M,P xs M→J xs M)→H J) : Ca H G:=hH G hT
theorem Ce {s:List UInt8} {i:Nat} (hi:i<s.length) (kd:IntKind) (K:AV→Prop) : cK (St s) (N kd (i:Int)) K=K (By s[i]):=by
 rw[Nb]
 apply propext
 constructor
 ·rintro⟨_,b,hb,hk⟩
  rw[Int.toNat_natCast,List.getElem?_eq_getElem hi] at hb
  cases hb; exact hk
 ·intro hk; exact⟨by omega,s[i],by rw[Int.toNat_natCast,List.getElem?_eq_getElem hi],hk⟩
theorem nM {k:IntKind} {a:Int} {K:AV→Prop} : Fj (N k a) K=K (N k (Aw k (if k.signed then -1 else k.max) a)):=by
 apply propext; unfold Fj
 constructor
 ·rintro⟨k',a',h1,hk⟩; cases h1; exact hk
 ·intro hk; exact⟨k,a,rfl,hk⟩
end Go.Ab.Sha
set_option maxRecDepth 100000
namespace Go.Ab.Vl
open Go Go.Ab
def nG (p1:Nat) (p2 p3 p4:aj) (a0:AV) (M0:RM) (Q:ai) : Prop:=aV (.row [(.sc (.pointer none)),(.sc (.slice none 0 0))] false p1 0) (fun L=>.ptr L 0) M0 fun l C=>bA (fun ve i j=>aO a0 fun wb=>af .lss (ag i 0) wb fun wc=>au wc ( bT (fun m=>cK a0 (ag i 0) fun vg=>af .neq vg (N .u8 92) fun vh=>au vh ( cK a0 (ag i 0) fun vi=>p2 [l,vi] j fun we D=>m [(ag i 0)] D) ( af .add (ag i 0) (N .i64 1) fun d=>aO a0 fun vj=>af .lss d vj fun e=>aa e true (fun c=>c a0 j) (fun c=>c .undef j) fun vk t=>aa e true (fun Y=>Y d t) (fun c=>c .undef t) fun vl z=>aa e true (fun vc=>cK vk vl fun vm=>vc vm z) (fun c=>c .undef z) fun vn B=>aa e true (fun vd=>af .eql vn (N .u8 110) fun vo=>vd vo B) (fun c=>c .undef B) fun vp o=>aa e true (fun O=>O vp o) (fun c=>c .undef o) fun h p=>aa h false (fun P=>P a0 p) (fun c=>c .undef p) fun vq q=>aa h false (fun R=>R d q) (fun c=>c .undef q) fun vr r=>aa h false (fun S=>cK vq vr fun vs=>S vs r) (fun c=>c .undef r) fun vt s=>aa h false (fun U=>af .eql vt (N .u8 78) fun vu=>U vu s) (fun c=>c .undef s) fun vv u=>aa e true (fun V=>aC h (Bo true) vv fun vw=>V vw u) (fun c=>c .undef u) fun vx n=>aC e vx (Bo false) fun vy=>au vy ( p2 [l,(N .u8 10)] n fun wf E=>m [d] E) ( aO a0 fun vz=>af .lss d vz fun g=>aa g true (fun W=>W a0 n) (fun c=>c .undef n) fun v0 v=>aa g true (fun X=>X d v) (fun c=>c .undef v) fun v1 w=>aa g true (fun Z=>cK v0 v1 fun v2=>Z v2 w) (fun c=>c .undef w) fun v3 x=>aa g true (fun va=>p3 [(St [92,44,59,58]),v3] x fun v4 F=>va v4 F) (fun c=>c .undef x) fun v5 y=>aa g true (fun vb=>af .geq v5 (N .i64 0) fun v6=>vb v6 y) (fun c=>c .undef y) fun v7 A=>aC g v7 (Bo false) fun v8=>au v8 ( cK a0 d fun v9=>p2 [l,v9] A fun wg G=>m [d] G) ( Q (.tup [(St []),(N .i64 14)]) A)))) (fun wd H=>af .add (ag wd 0) (N .i64 1) fun vf=>ve [vf] H)) ( p4 [l] j fun wa I=>Q (.tup [wa,(N .i64 0)]) I)) [(N .i64 0)] C
def qO (p1:Nat) (p2 p3 p4:aj) (a0:AV) (M0:RM) (Q:ai) : Prop:=mW p1 a0 fun l j=>aV l j M0 fun g d=>aH d g 5 fun q=>p2 [q] d fun r c=>eX r fun s=>au s ( Q (.tup [(St []),(N .i64 1)]) c) ( aH c g 5 fun t=>p3 [t] c fun h e=>aO h fun m=>af .gtr m (N .i64 912) fun n=>au n ( Q (.tup [(St []),(N .i64 2)]) e) ( p4 [h] e fun o i=>aX .add o (St [13,10]) fun p=>Q (.tup [p,(N .i64 0)]) i))
def sQ (p1 p2:aj) (p3:Nat) (a0:AV) (M0:RM) (Q:ai) : Prop:=p1 [a0] M0 fun m p=>aJ m 0 fun n=>aJ m 1 fun h=>bS n fun z=>bA (fun x c d=>af .lss (ag c 1) z fun A=>au A ( bT (fun j=>bf n (ag c 1) 1 fun B=>ak d B fun i=>aX .eql i (St []) fun C=>au C ( j [(ag c 0)] d) ( aO i fun D=>af .gtr D (N .i64 912) fun E=>au E ( bf h (ag c 1) 1 fun F=>ak d F fun G=>Q (.tup [(.sc (.slice none 0 0)),G,(N .i64 2)]) d) ( p2 [i] d fun o q=>aJ o 0 fun H=>aJ o 1 fun I=>aV (.row [(St []),(St []),(.sc (.slice none 0 0)),(St []),(N .i64 0)] false p3 0) (fun v=>.ptr v 0) q fun g r=>aA r g H 5 fun e=>eX I fun L=>au L ( bf h (ag c 1) 1 fun O=>ak e O fun P=>Q (.tup [(.sc (.slice none 0 0)),P,(N .i64 3)]) e) ( bf h (ag c 1) 1 fun R=>ak e R fun S=>aG g 4 fun U=>aA e U S 1 fun l=>aH l g 5 fun V=>ek p3 1 [(St []),(St []),(.sc (.slice none 0 0)),(St []),(N .i64 0)] [(0,5,V)] fun y w=>aV y w l fun W s=>appW p3 5 80 [(St []),(St []),(.sc (.slice none 0 0)),(St []),(N .i64 0)] false (ag c 0) W s fun X t=>j [X] t)))) (fun Z u=>af .add (ag c 1) (N .i64 1) fun Y=>x [(ag Z 0),Y] u)) ( Q (.tup [(ag c 0),(N .i64 0),(N .i64 0)]) d)) [(.sc (.slice none 0 0)),(N .i64 0)] p
def pQ (p1 p2:aj) (p3 p4:Nat) (a0:AV) (M0:RM) (Q:ai) : Prop:=bA (fun vc d p=>aX .neq (ag d 0) (St []) fun vf=>au vf ( bT (fun n=>p1 [(ag d 0),(St [10])] p fun j q=>aJ j 0 fun B=>aJ j 1 fun C=>aJ j 2 fun vh=>bT (fun o=>au vh ( p2 [B,(St [13])] q fun vi E=>o [vi] E) ( o [B] q)) (fun g y=>bS (ag d 1) fun vj=>af .gtr vj (N .i64 0) fun l=>aa l true (fun c=>c (ag g 0) y) (fun c=>c .undef y) fun vk z=>aa l true (fun va=>aX .neq vk (St []) fun vl=>va vl z) (fun c=>c .undef z) fun vm A=>aC l vm (Bo false) fun e=>aa e true (fun vb=>vb (ag g 0) A) (fun c=>c .undef A) fun vn r=>aa e true (fun S=>cK vn (N .i64 0) fun vo=>S vo r) (fun c=>c .undef r) fun vp s=>aa e true (fun U=>af .eql vp (N .u8 32) fun vq=>U vq s) (fun c=>c .undef s) fun vr t=>aa e true (fun V=>V vr t) (fun c=>c .undef t) fun h u=>aa h false (fun W=>W (ag g 0) u) (fun c=>c .undef u) fun vs v=>aa h false (fun X=>cK vs (N .i64 0) fun vt=>X vt v) (fun c=>c .undef v) fun vu w=>aa h false (fun Y=>af .eql vu (N .u8 9) fun vv=>Y vv w) (fun c=>c .undef w) fun vw x=>aa e true (fun Z=>aC h (Bo true) vw fun vx=>Z vx x) (fun c=>c .undef x) fun vy i=>aC e vy (Bo false) fun vz=>au vz ( bS (ag d 1) fun v0=>af .sub v0 (N .i64 1) fun D=>bf (ag d 1) D 1 fun v1=>ak i v1 fun v2=>bN (aS (ag g 0) (some (N .i64 1)) none) fun v3=>aX .add v2 v3 fun v4=>bf (ag d 1) D 1 fun v5=>aA i v5 v4 1 fun F=>n [C,(ag d 1),(ag d 2)] F) ( ek p3 1 [(St [])] [(0,1,(ag g 0))] fun vd P=>aV vd P i fun v6 G=>appW p3 1 16 [(St [])] false (ag d 1) v6 G fun v7 H=>ek p4 1 [(N .i64 0)] [(0,1,(ag d 3))] fun ve R=>aV ve R H fun v8 I=>appW p4 1 8 [(N .i64 0)] false (ag d 2) v8 I fun v9 L=>n [C,v7,v9] L))) (fun m O=>af .add (ag d 3) (N .i64 1) fun vg=>vc [(ag m 0),(ag m 1),(ag m 2),vg] O)) ( Q (.tup [(ag d 1),(ag d 2)]) p)) [a0,(.sc (.slice none 0 0)),(.sc (.slice none 0 0)),(N .i64 1)] M0
def tu (p1:Nat) (p2 p3 p4:aj) (a0:AV) (M0:RM) (Q:ai) : Prop:=aV (.row [(.sc (.pointer none)),(.sc (.slice none 0 0))] false p1 0) (fun q=>.ptr q 0) M0 fun d l=>bA (fun r c g=>aX .neq (ag c 0) (St []) fun v=>au v ( p2 [(ag c 0),(ag c 1)] g fun i m=>bN (aS (ag c 0) none (some i)) fun s=>p3 [d,s] m fun w h=>bN (aS (ag c 0) (some i) none) fun j=>bT (fun e=>aX .neq j (St []) fun t=>au t ( p3 [d,(St [13,10,32])] h fun x n=>e [] n) ( e [] h)) (fun y o=>r [j,(N .i64 74)] o)) ( p4 [d] g fun u p=>Q u p)) [a0,(N .i64 75)] l
def pu (p1 p2:Nat) (p3 p4 p5:aj) (a0:AV) (M0:RM) (Q:ai) : Prop:=aV (.row [(.sc (.pointer none)),(.sc (.slice none 0 0))] false p1 0) (fun w=>.ptr w 0) M0 fun e o=>qo p2 a0 fun z x=>aV z x o fun n p=>bS n fun G=>bA (fun y j d=>af .lss (ag j 0) G fun A=>au A ( bT (fun g=>bf n (ag j 0) 1 fun B=>ak d B fun c=>bT (fun h=>af .eql c (N .u8 92) fun l=>au l ( h [l] d) ( af .eql c (N .u8 44) fun m=>au m ( h [m] d) ( af .eql c (N .u8 59) fun C=>h [C] d))) (fun H i=>au (ag H 0) ( p3 [e,(N .u8 92)] i fun L s=>p3 [e,c] s fun O t=>g [] t) ( af .eql c (N .u8 10) fun D=>au D ( p4 [e,(St [92,110])] i fun P u=>g [] u) ( p3 [e,c] i fun I v=>g [] v)))) (fun R q=>af .add (ag j 0) (N .i64 1) fun E=>y [E] q)) ( p5 [e] d fun F r=>Q F r)) [(N .i64 0)] p
def dO (p1:aj) (p2:Nat) (a0 a1:AV) (M0:RM) (Q:ai) : Prop:=p1 [a0] M0 fun r c=>mU a0 fun q=>aG q 1 fun j=>ak c j fun l=>ek p2 1 [(N .u8 0)] [(0,1,a1)] fun i h=>aV i h c fun m d=>appW p2 1 1 [(N .u8 0)] false l m d fun n e=>mU a0 fun o=>aG o 1 fun p=>aA e p n 1 fun g=>Q (.sc .nilIface) g
def oU (p1:aj) (a0 a1:AV) (M0:RM) (Q:ai) : Prop:=p1 [a0,a1] M0 fun d c=>Q d c
def iZ (p1:Nat) (a0:AV) (M0:RM) (Q:ai) : Prop:=mU a0 fun i=>aG i 1 fun j=>ak M0 j fun l=>Br l fun m=>mU a0 fun n=>aG n 1 fun d=>ak M0 d fun e=>bS e fun g=>TV p1 m g M0 fun h c=>Q h c
def uL (p1:Nat) (p2 p3:aj) (p4:Nat) (p5:aj) (p6:Nat) (a0:AV) (M0:RM) (Q:ai) : Prop:=mW p1 a0 fun vr X=>aV vr X M0 fun d m=>aG d 0 fun w3=>ak m w3 fun w4=>aX .neq w4 (St []) fun i=>aa i true (fun c=>aG d 0 fun w5=>c w5 m) (fun c=>c .undef m) fun w6 n=>aa i true (fun vb=>ak n w6 fun vs=>vb vs n) (fun c=>c .undef n) fun vt B=>aa i true (fun vk=>p2 [vt] B fun vu U=>vk vu U) (fun c=>c .undef B) fun vv L=>aa i true (fun vp=>eX vv fun vw=>vp vw L) (fun c=>c .undef L) fun vx v=>aC i vx (Bo false) fun e=>aa e false (fun Y=>aG d 1 fun vy=>Y vy v) (fun c=>c .undef v) fun vz o=>aa e false (fun Z=>ak o vz fun v0=>Z v0 o) (fun c=>c .undef o) fun v1 w=>aa e false (fun va=>p2 [v1] w fun v2 P=>va v2 P) (fun c=>c .undef w) fun v3 x=>aa e false (fun vc=>eX v3 fun v4=>vc v4 x) (fun c=>c .undef x) fun v5 y=>aC e (Bo true) v5 fun g=>aa g false (fun vd=>aG d 3 fun v6=>vd v6 y) (fun c=>c .undef y) fun v7 p=>aa g false (fun ve=>ak p v7 fun v8=>ve v8 p) (fun c=>c .undef p) fun v9 z=>aa g false (fun vf=>p3 [v9,(St [])] z fun wa R=>vf wa R) (fun c=>c .undef z) fun wb A=>aa g false (fun vg=>eX wb fun wc=>vg wc A) (fun c=>c .undef A) fun wd q=>aC g (Bo true) wd fun we=>au we ( Q (Bo false) q) ( aG d 2 fun wf=>ak q wf fun O=>bS O fun wg=>bA (fun vq u r=>af .lss (ag u 0) wg fun wh=>au wh ( bf O (ag u 0) 2 fun wi=>aH r wi 2 fun wj=>aV (.row [(St []),(.sc (.slice none 0 0))] false p4 0) (fun W=>.ptr W 0) r fun j S=>aA S j wj 2 fun C=>aG j 0 fun wk=>ak C wk fun wl=>p2 [wl] C fun wm D=>eX wm fun h=>aa h false (fun vh=>aG j 1 fun wn=>vh wn D) (fun c=>c .undef D) fun wo s=>aa h false (fun vi=>ak s wo fun wp=>vi wp s) (fun c=>c .undef s) fun wq E=>aa h false (fun vj=>bS wq fun wr=>vj wr E) (fun c=>c .undef E) fun ws F=>aa h false (fun vl=>af .eql ws (N .i64 0) fun wt=>vl wt F) (fun c=>c .undef F) fun wu G=>aC h (Bo true) wu fun l=>aa l false (fun vm=>aG j 1 fun wv=>vm wv G) (fun c=>c .undef G) fun ww t=>aa l false (fun vn=>ak t ww fun wx=>vn wx t) (fun c=>c .undef t) fun wy H=>aa l false (fun vo=>p5 [wy,(.fn (.func p6) [] [])] H fun wz V=>vo wz V) (fun c=>c .undef H) fun w0 I=>aC l (Bo true) w0 fun w1=>au w1 ( Q (Bo false) I) ( af .add (ag u 0) (N .i64 1) fun w2=>vq [w2] I)) ( Q (Bo true) r)) [(N .i64 0)] q)
def sS (p1 p2:Nat) (p3 p4:aj) (p5:Nat) (p6 p7 p8:aj) (a0:AV) (M0:RM) (Q:ai) : Prop:=mW p1 a0 fun V R=>aV V R M0 fun d C=>aV (.row [(.sc (.pointer none)),(.sc (.slice none 0 0))] false p2 0) (fun j=>.ptr j 0) C fun c e=>bT (fun o=>aG d 0 fun v1=>ak e v1 fun v2=>aX .neq v2 (St []) fun W=>au W ( aG d 0 fun X=>ak e X fun Y=>aX .add Y (St [46]) fun Z=>p3 [c,Z] e fun v4 D=>o [] D) ( o [] e)) (fun v9 s=>aG d 1 fun va=>ak s va fun vb=>p4 [vb] s fun vc L=>p3 [c,vc] L fun v5 v=>aG d 2 fun vd=>ak v vd fun x=>bS x fun ve=>bA (fun S n h=>af .lss (ag n 0) ve fun vf=>au vf ( bf x (ag n 0) 2 fun vg=>aH h vg 2 fun vh=>aV (.row [(St []),(.sc (.slice none 0 0))] false p5 0) (fun j=>.ptr j 0) h fun m O=>aA O m vh 2 fun w=>aG m 0 fun vi=>ak w vi fun vj=>p4 [vj] w fun vk P=>aX .add (St [59]) vk fun vl=>aX .add vl (St [61]) fun vm=>p3 [c,vm] P fun v6 r=>aG m 1 fun vn=>ak r vn fun y=>bS y fun vo=>bA (fun U i g=>af .lss (ag i 0) vo fun vp=>au vp ( bT (fun B=>bf y (ag i 0) 1 fun vq=>ak g vq fun l=>bT (fun p=>af .gtr (ag i 0) (N .i64 0) fun vr=>au vr ( p6 [c,(N .u8 44)] g fun v7 E=>p [] E) ( p [] g)) (fun wa F=>bT (fun q=>p7 [l,(St [44,59,58])] F fun vs t=>au vs ( aX .add (St [34]) l fun vt=>aX .add vt (St [34]) fun vu=>q [vu] t) ( q [l] t)) (fun v3 G=>p3 [c,(ag v3 0)] G fun v8 H=>B [] H))) (fun wb I=>af .add (ag i 0) (N .i64 1) fun vv=>U [vv] I)) ( af .add (ag n 0) (N .i64 1) fun vw=>S [vw] g)) [(N .i64 0)] r) ( aG d 3 fun z=>ak h z fun A=>p8 [c] h fun vx u=>ak u z fun vz=>(vz=A∧aX .add vx (St [58]) fun vy=>aX .add vy A fun v0=>Q v0 u))) [(N .i64 0)] v)
def uj (p1:Nat) (p2 p3 p4 p5 p6 p7:aj) (a0:AV) (M0:RM) (Q:ai) : Prop:=aV (.row [(St []),(St []),(.sc (.slice none 0 0)),(St []),(N .i64 0)] false p1 0) (fun n=>.ptr n 0) M0 fun e S=>p2 [a0] S fun w0 r=>eX w0 fun w1=>au w1 ( dV [(St []),(St []),(.sc (.slice none 0 0)),(St []),(N .i64 0)] [] fun vs=>aA r e vs 5 fun s=>aH s e 5 fun vo=>Q (.tup [vo,(Bo false)]) s) ( aV (.row [(St []),(St []),(.sc (.slice none 0 0)),(St []),(N .i64 0)] false p1 0) (fun n=>.ptr n 0) r fun d X=>p3 [a0] X fun O va=>aJ O 0 fun vt=>aJ O 1 fun o=>aG d 1 fun vu=>aA va vu vt 1 fun vb=>bT (fun q=>p4 [o,(St [46])] vb fun vv m=>au vv ( aG d 1 fun vw=>ak m vw fun vx=>aG d 0 fun vy=>aA m vy vx 1 fun H=>aG d 0 fun vz=>ak H vz fun v0=>p5 [v0] H fun v1 I=>eX v1 fun v2=>au v2 ( dV [(St []),(St []),(.sc (.slice none 0 0)),(St []),(N .i64 0)] [] fun v3=>aA I e v3 5 fun L=>aH L e 5 fun vr=>Q (.tup [vr,(Bo false)]) L) ( bN (aS o (some (N .i64 1)) none) fun v4=>p3 [v4] I fun P U=>aJ P 0 fun v5=>aJ P 1 fun v6=>aG d 1 fun v7=>aA U v7 v5 1 fun V=>q [v6] V)) ( q [o] m)) (fun w2 W=>p6 [(ag w2 0)] W fun p t=>aJ p 0 fun v8=>aJ p 1 fun i=>aJ p 2 fun v9=>eX v9 fun g=>aa g false (fun c=>aG d 1 fun wa=>c wa t) (fun c=>c .undef t) fun wb l=>aa g false (fun ve=>ak l wb fun wc=>ve wc l) (fun c=>c .undef l) fun wd u=>aa g false (fun vf=>p5 [wd] u fun we Y=>vf we Y) (fun c=>c .undef u) fun wf v=>aa g false (fun vg=>eX wf fun wg=>vg wg v) (fun c=>c .undef v) fun wh w=>aC g (Bo true) wh fun j=>aa j false (fun vh=>vh i w) (fun c=>c .undef w) fun wi x=>aa j false (fun vi=>p4 [wi,(St [58])] x fun wj Z=>vi wj Z) (fun c=>c .undef x) fun wk y=>aa j false (fun vj=>eX wk fun wl=>vj wl y) (fun c=>c .undef y) fun wm z=>aC j (Bo true) wm fun h=>aa h false (fun vk=>vk i z) (fun c=>c .undef z) fun wn A=>aa h false (fun vl=>bN (aS wn (some (N .i64 1)) none) fun wo=>vl wo A) (fun c=>c .undef A) fun wp B=>aa h false (fun vm=>p7 [wp,(St [])] B fun wq vc=>vm wq vc) (fun c=>c .undef B) fun wr C=>aa h false (fun vn=>eX wr fun ws=>vn ws C) (fun c=>c .undef C) fun wt D=>aC h (Bo true) wt fun wu=>au wu ( dV [(St []),(St []),(.sc (.slice none 0 0)),(St []),(N .i64 0)] [] fun wv=>aA D e wv 5 fun E=>aH E e 5 fun vp=>Q (.tup [vp,(Bo false)]) E) ( bN (aS i (some (N .i64 1)) none) fun R=>aG d 2 fun wx=>aA D wx v8 1 fun vd=>bN (aS i (some (N .i64 1)) none) fun ww=>(ww=R∧aG d 3 fun wy=>aA vd wy R 1 fun F=>aH F d 5 fun wz=>aA F e wz 5 fun G=>aH G e 5 fun vq=>Q (.tup [vq,(Bo true)]) G))))
def kY (p1:aj) (a0 a1:AV) (M0:RM) (Q:ai) : Prop:=p1 [a0,a1] M0 fun c d=>aJ c 0 fun e=>aJ c 1 fun g=>aJ c 2 fun h=>Q (.tup [e,g,h]) d
def kN (p1:aj) (a0 a1:AV) (M0:RM) (Q:ai) : Prop:=p1 [a0,a1] M0 fun d c=>Q d c
def qX (p1:aj) (a0 a1:AV) (M0:RM) (Q:ai) : Prop:=bT (fun d=>bA (fun l c e=>aO a0 fun m=>af .lss (ag c 0) m fun n=>au n ( bN (aS a0 (some (ag c 0)) none) fun o=>p1 [o] e fun h g=>aJ h 0 fun t=>aJ h 1 fun i=>af .add (ag c 0) i fun p=>af .gtr p a1 fun q=>au q ( d [(ag c 0)] g) ( af .add (ag c 0) i fun r=>l [r] g)) ( d [(ag c 0)] e)) [(N .i64 0)] M0) (fun s j=>Q (ag s 0) j)
def dH (p1:aj) (p2:Nat) (a0 a1:AV) (M0:RM) (Q:ai) : Prop:=p1 [a0] M0 fun o c=>mU a0 fun g=>aG g 1 fun h=>ak c h fun i=>appW p2 1 1 [(N .u8 0)] false i a1 c fun j d=>mU a0 fun l=>aG l 1 fun m=>aA d m j 1 fun e=>aO a1 fun n=>Q (.tup [n,(.sc .nilIface)]) e
def gV (p1:aj) (p2:Nat) (a0:AV) (M0:RM) (Q:ai) : Prop:=mU a0 fun o=>aG o 0 fun p=>ak M0 p fun q=>gH false 1 q (.sc (.pointer none)) fun r=>au r ( TR M0 a0 fun s=>p1 [s] M0 fun e c=>TZ p2 2 c e fun g=>mU a0 fun h=>aG h 0 fun i=>aA c i g 1 fun d=>Q (.tup []) d) ( mU a0 fun j=>aG j 0 fun l=>ak M0 l fun m=>gH true 1 m a0 fun n=>au n ( False) ( Q (.tup []) M0))
def iP (p1:aj) (a0 a1:AV) (M0:RM) (Q:ai) : Prop:=p1 [a0,a1] M0 fun d c=>Q d c
def nH (p1:aj) (a0:AV) (M0:RM) (Q:ai) : Prop:=aO a0 fun z=>af .geq z (N .i64 1) fun e=>aa e true (fun c=>c a0 M0) (fun c=>c .undef M0) fun A g=>aa e true (fun o=>aO A fun B=>o B g) (fun c=>c .undef g) fun C i=>aa e true (fun q=>af .leq C (N .i64 20) fun D=>q D i) (fun c=>c .undef i) fun E j=>aC e E (Bo false) fun d=>aa d true (fun r=>r a0 j) (fun c=>c .undef j) fun t l=>aa d true (fun s=>p1 [t,(St [97,98,99,100,101,102,103,104,105,106,107,108,109,110,111,112,113,114,115,116,117,118,119,120,121,122,48,49,50,51,52,53,54,55,56,57,45])] l fun u n=>s u n) (fun c=>c .undef l) fun v h=>aa d true (fun p=>aX .eql v (St []) fun w=>p w h) (fun c=>c .undef h) fun x m=>aC d x (Bo false) fun y=>Q y m
def mR (p1:Nat) (p2 p3 p4:aj) (a0 a1:AV) (M0:RM) (Q:ai) : Prop:=qo p1 a0 fun x s=>aV x s M0 fun o p=>bS o fun O=>bA (fun w g e=>af .lss (ag g 0) O fun y=>au y ( bf o (ag g 0) 1 fun z=>ak e z fun n=>p2 [n] e fun A h=>eX A fun d=>aa d false (fun c=>c a1 h) (fun c=>c .undef h) fun B j=>aa d false (fun t=>t n j) (fun c=>c .undef j) fun C l=>aa d false (fun u=>p3 [B,C] l fun D r=>u D r) (fun c=>c .undef l) fun E m=>aa d false (fun v=>af .geq E (N .i64 0) fun F=>v F m) (fun c=>c .undef m) fun G i=>aC d (Bo true) G fun H=>au H ( Q (Bo false) i) ( af .add (ag g 0) (N .i64 1) fun I=>w [I] i)) ( p4 [a0] e fun L q=>Q L q)) [(N .i64 0)] p
def jX (p1:aj) (a0 a1:AV) (M0:RM) (Q:ai) : Prop:=p1 [a0,a1] M0 fun d c=>af .geq d (N .i64 0) fun e=>Q e c
def pR (p1:aj) (a0:AV) (M0:RM) (Q:ai) : Prop:=p1 [a0,(St [34])] M0 fun d c=>eX d fun e=>Q e c
def qV (p1:Nat) (a0:AV) (M0:RM) (Q:ai) : Prop:=qo p1 a0 fun t q=>aV t q M0 fun e n=>bS e fun F=>bA (fun s g c=>af .lss (ag g 0) F fun u=>au u ( bT (fun j=>bf e (ag g 0) 1 fun v=>ak c v fun h=>af .geq h (N .u8 97) fun i=>aa i true (fun d=>d h c) (fun d=>d .undef c) fun w l=>aa i true (fun r=>af .leq w (N .u8 122) fun x=>r x l) (fun d=>d .undef l) fun y m=>aC i y (Bo false) fun z=>au z ( af .add h (N .u8 65) fun A=>af .sub A (N .u8 97) fun B=>bf e (ag g 0) 1 fun C=>aA m C B 1 fun o=>j [] o) ( j [] m)) (fun G p=>af .add (ag g 0) (N .i64 1) fun D=>s [D] p)) ( tY c e fun E=>Q E c)) [(N .i64 0)] n
def fH (p1:aj) (a0 a1:AV) (M0:RM) (Q:ai) : Prop:=p1 [a0,a1] M0 fun d c=>af .geq d (N .i64 0) fun e=>Q e c
def uH (p1 p2:aj) (a0:AV) (M0:RM) (Q:ai) : Prop:=aO a0 fun n=>p1 [a0] M0 fun o e=>p2 [o,(St [97,98,99,100,101,102,103,104,105,106,107,108,109,110,111,112,113,114,115,116,117,118,119,120,121,122,48,49,50,51,52,53,54,55,56,57,45])] e fun p g=>aO p fun i=>af .sub n i fun c=>bN (aS a0 none (some c)) fun j=>bN (aS a0 (some c) none) fun d=>p1 [j] g fun l h=>bN (aS a0 (some c) none) fun m=>(m=d∧Q (.tup [l,d]) h)
def lu (p1:aj) (a0 a1:AV) (M0:RM) (Q:ai) : Prop:=p1 [a0,a1] M0 fun d c=>Q d c
def pz (p1:aj) (p2:Nat) (p3 p4 p5:aj) (p6:Nat) (a0:AV) (M0:RM) (Q:ai) : Prop:=bA (fun O e v=>p1 [(ag e 0),(St [59])] v fun U m=>au U ( aV (.row [(St []),(.sc (.slice none 0 0))] false p2 0) (fun F=>.ptr F 0) m fun d w=>bN (aS (ag e 0) (some (N .i64 1)) none) fun V=>p3 [V] w fun s A=>aJ s 0 fun W=>aJ s 1 fun t=>aG d 0 fun X=>aA A X W 1 fun o=>aG d 0 fun Y=>ak o Y fun Z=>p4 [Z] o fun va p=>eX va fun h=>aa h false (fun c=>c t p) (fun c=>c .undef p) fun vb q=>aa h false (fun L=>p1 [vb,(St [61])] q fun vc E=>L vc E) (fun c=>c .undef q) fun vd r=>aa h false (fun I=>eX vd fun ve=>I ve r) (fun c=>c .undef r) fun vf n=>aC h (Bo true) vf fun vg=>au vg ( Q (.tup [(.sc (.slice none 0 0)),(St []),(Bo false)]) n) ( bA (fun P g i=>au (ag g 2) ( bN (aS (ag g 0) (some (N .i64 1)) none) fun vi=>p5 [vi] i fun l j=>aJ l 0 fun vj=>aJ l 1 fun u=>aJ l 2 fun vk=>eX vk fun vl=>au vl ( Q (.tup [(.sc (.slice none 0 0)),(St []),(Bo false)]) j) ( aG d 1 fun vm=>ak j vm fun vn=>ek p6 1 [(St [])] [(0,1,vj)] fun R G=>aV R G j fun vo x=>appW p6 1 16 [(St [])] false vn vo x fun vp y=>aG d 1 fun vq=>aA y vq vp 1 fun z=>p1 [u,(St [44])] z fun vh B=>P [u,(ag g 1),vh] B)) ( aH i d 2 fun vr=>ek p2 1 [(St []),(.sc (.slice none 0 0))] [(0,2,vr)] fun S H=>aV S H i fun vs C=>appW p2 2 40 [(St []),(.sc (.slice none 0 0))] false (ag g 1) vs C fun vt D=>O [(ag g 0),vt] D)) [t,(ag e 1),(Bo true)] n)) ( Q (.tup [(ag e 1),(ag e 0),(Bo true)]) m)) [a0,(.sc (.slice none 0 0))] M0
def dY (p1:aj) (a0 a1:AV) (M0:RM) (Q:ai) : Prop:=p1 [a0,a1] M0 fun c d=>af .geq c (N .i64 0) fun e=>au e ( bN (aS a0 none (some c)) fun g=>aO a1 fun h=>af .add c h fun i=>bN (aS a0 (some i) none) fun j=>Q (.tup [g,j,(Bo true)]) d) ( Q (.tup [a0,(St []),(Bo false)]) d)
def fC (p1:aj) (a0 a1:AV) (M0:RM) (Q:ai) : Prop:=p1 [a0,a1] M0 fun i c=>au i ( aO a0 fun d=>aO a1 fun e=>af .sub d e fun g=>bN (aS a0 none (some g)) fun h=>Q h c) ( Q a0 c)
def xB (p1 p2 p3:aj) (p4:Nat) (p5 p6 p7 p8:aj) (a0 a1:AV) (M0:RM) (Q:ai) : Prop:=aX .eql a0 (St []) fun h=>aa h false (fun c=>c a1 M0) (fun c=>c .undef M0) fun C i=>aa h false (fun y=>aX .eql C (St []) fun D=>y D i) (fun c=>c .undef i) fun E e=>aC h (Bo true) E fun F=>au F ( Q a0 e) ( aO a1 fun G=>af .eql G (N .i64 1) fun d=>aa d true (fun z=>z a1 e) (fun c=>c .undef e) fun H m=>aa d true (fun A=>cK H (N .i64 0) fun I=>A I m) (fun c=>c .undef m) fun L n=>aa d true (fun B=>af .lss L (N .u8 128) fun O=>B O n) (fun c=>c .undef n) fun P j=>aC d P (Bo false) fun R=>au R ( cK a1 (N .i64 0) fun S=>cK a1 (N .i64 0) fun V=>p1 [a0,S] j fun U p=>p2 [U,V] p fun W q=>Q W q) ( p3 [a1] j fun o r=>aJ o 0 fun X=>aJ o 1 fun Y=>aV (.row [(Bo false),(Bo false),(Bo false),(Bo false),(Bo false),(Bo false),(Bo false),(Bo false),(Bo false),(Bo false),(Bo false),(Bo false),(Bo false),(Bo false),(Bo false),(Bo false),(Bo false),(Bo false),(Bo false),(Bo false),(Bo false),(Bo false),(Bo false),(Bo false),(Bo false),(Bo false),(Bo false),(Bo false),(Bo false),(Bo false),(Bo false),(Bo false),(Bo false),(Bo false),(Bo false),(Bo false),(Bo false),(Bo false),(Bo false),(Bo false),(Bo false),(Bo false),(Bo false),(Bo false),(Bo false),(Bo false),(Bo false),(Bo false),(Bo false),(Bo false),(Bo false),(Bo false),(Bo false),(Bo false),(Bo false),(Bo false),(Bo false),(Bo false),(Bo false),(Bo false),(Bo false),(Bo false),(Bo false),(Bo false),(Bo false),(Bo false),(Bo false),(Bo false),(Bo false),(Bo false),(Bo false),(Bo false),(Bo false),(Bo false),(Bo false),(Bo false),(Bo false),(Bo false),(Bo false),(Bo false),(Bo false),(Bo false),(Bo false),(Bo false),(Bo false),(Bo false),(Bo false),(Bo false),(Bo false),(Bo false),(Bo false),(Bo false),(Bo false),(Bo false),(Bo false),(Bo false),(Bo false),(Bo false),(Bo false),(Bo false),(Bo false),(Bo false),(Bo false),(Bo false),(Bo false),(Bo false),(Bo false),(Bo false),(Bo false),(Bo false),(Bo false),(Bo false),(Bo false),(Bo false),(Bo false),(Bo false),(Bo false),(Bo false),(Bo false),(Bo false),(Bo false),(Bo false),(Bo false),(Bo false),(Bo false),(Bo false),(Bo false),(Bo false),(Bo false),(Bo false),(Bo false),(Bo false),(Bo false),(Bo false),(Bo false),(Bo false),(Bo false),(Bo false),(Bo false),(Bo false),(Bo false),(Bo false),(Bo false),(Bo false),(Bo false),(Bo false),(Bo false),(Bo false),(Bo false),(Bo false),(Bo false),(Bo false),(Bo false),(Bo false),(Bo false),(Bo false),(Bo false),(Bo false),(Bo false),(Bo false),(Bo false),(Bo false),(Bo false),(Bo false),(Bo false),(Bo false),(Bo false),(Bo false),(Bo false),(Bo false),(Bo false),(Bo false),(Bo false),(Bo false),(Bo false),(Bo false),(Bo false),(Bo false),(Bo false),(Bo false),(Bo false),(Bo false),(Bo false),(Bo false),(Bo false),(Bo false),(Bo false),(Bo false),(Bo false),(Bo false),(Bo false),(Bo false),(Bo false),(Bo false),(Bo false),(Bo false),(Bo false),(Bo false),(Bo false),(Bo false),(Bo false),(Bo false),(Bo false),(Bo false),(Bo false),(Bo false),(Bo false),(Bo false),(Bo false),(Bo false),(Bo false),(Bo false),(Bo false),(Bo false),(Bo false),(Bo false),(Bo false),(Bo false),(Bo false),(Bo false),(Bo false),(Bo false),(Bo false),(Bo false),(Bo false),(Bo false),(Bo false),(Bo false),(Bo false),(Bo false),(Bo false),(Bo false),(Bo false),(Bo false),(Bo false),(Bo false),(Bo false),(Bo false),(Bo false),(Bo false),(Bo false),(Bo false),(Bo false),(Bo false),(Bo false),(Bo false),(Bo false),(Bo false),(Bo false),(Bo false),(Bo false),(Bo false),(Bo false),(Bo false),(Bo false),(Bo false)] false p4 0) (fun x=>.ptr x 0) r fun g s=>aA s g X 256 fun l=>au Y ( p5 [a0,g] l fun Z t=>p6 [Z,g] t fun va u=>Q va u) ( p7 [a0,a1] l fun vb v=>p8 [vb,a1] v fun vc w=>Q vc w)))
def qZ (a0:AV) (M0:RM) (Q:ai) : Prop:=af .geq a0 (N .u8 32) fun d=>aa d true (fun c=>c a0 M0) (fun c=>c .undef M0) fun s g=>aa d true (fun l=>af .neq s (N .u8 127) fun t=>l t g) (fun c=>c .undef g) fun u h=>aC d u (Bo false) fun e=>aa e false (fun m=>m a0 h) (fun c=>c .undef h) fun o i=>aa e false (fun n=>af .eql o (N .u8 9) fun p=>n p i) (fun c=>c .undef i) fun q j=>aC e (Bo true) q fun r=>Q r j
def mq (cv:(FuncId→aj)) (a0 a1:AV) (M0:RM) (Q:ai) : Prop:=bS a0 fun m=>bA (fun g c d=>af .lss (ag c 0) m fun n=>au n ( bf a0 (ag c 0) 1 fun h=>ak d h fun i=>IW cv a1 [i] d fun j e=>au j ( Q (ag c 0) e) ( af .add (ag c 0) (N .i64 1) fun l=>g [l] e)) ( Q (N .i64 (-1)) d)) [(N .i64 0)] M0
def ma (p1 p2 p3:aj) (p4:Nat) (p5:aj) (a0 a1:AV) (M0:RM) (Q:ai) : Prop:=aX .eql a1 (St []) fun D=>au D ( Q (N .i64 (-1)) M0) ( aO a1 fun E=>af .eql E (N .i64 1) fun F=>au F ( cK a1 (N .i64 0) fun G=>oF .i32 G fun o=>bT (fun e=>af .geq o (N .i32 128) fun H=>au H ( e [(N .i32 65533)] M0) ( e [o] M0)) (fun ve r=>p1 [a0,(ag ve 0)] r fun I s=>Q I s)) ( bT (fun g=>aO a0 fun L=>p2 [L] M0 fun O j=>au O ( p3 [a1] j fun p w=>aJ p 0 fun P=>aJ p 1 fun R=>aV (.row [(Bo false),(Bo false),(Bo false),(Bo false),(Bo false),(Bo false),(Bo false),(Bo false),(Bo false),(Bo false),(Bo false),(Bo false),(Bo false),(Bo false),(Bo false),(Bo false),(Bo false),(Bo false),(Bo false),(Bo false),(Bo false),(Bo false),(Bo false),(Bo false),(Bo false),(Bo false),(Bo false),(Bo false),(Bo false),(Bo false),(Bo false),(Bo false),(Bo false),(Bo false),(Bo false),(Bo false),(Bo false),(Bo false),(Bo false),(Bo false),(Bo false),(Bo false),(Bo false),(Bo false),(Bo false),(Bo false),(Bo false),(Bo false),(Bo false),(Bo false),(Bo false),(Bo false),(Bo false),(Bo false),(Bo false),(Bo false),(Bo false),(Bo false),(Bo false),(Bo false),(Bo false),(Bo false),(Bo false),(Bo false),(Bo false),(Bo false),(Bo false),(Bo false),(Bo false),(Bo false),(Bo false),(Bo false),(Bo false),(Bo false),(Bo false),(Bo false),(Bo false),(Bo false),(Bo false),(Bo false),(Bo false),(Bo false),(Bo false),(Bo false),(Bo false),(Bo false),(Bo false),(Bo false),(Bo false),(Bo false),(Bo false),(Bo false),(Bo false),(Bo false),(Bo false),(Bo false),(Bo false),(Bo false),(Bo false),(Bo false),(Bo false),(Bo false),(Bo false),(Bo false),(Bo false),(Bo false),(Bo false),(Bo false),(Bo false),(Bo false),(Bo false),(Bo false),(Bo false),(Bo false),(Bo false),(Bo false),(Bo false),(Bo false),(Bo false),(Bo false),(Bo false),(Bo false),(Bo false),(Bo false),(Bo false),(Bo false),(Bo false),(Bo false),(Bo false),(Bo false),(Bo false),(Bo false),(Bo false),(Bo false),(Bo false),(Bo false),(Bo false),(Bo false),(Bo false),(Bo false),(Bo false),(Bo false),(Bo false),(Bo false),(Bo false),(Bo false),(Bo false),(Bo false),(Bo false),(Bo false),(Bo false),(Bo false),(Bo false),(Bo false),(Bo false),(Bo false),(Bo false),(Bo false),(Bo false),(Bo false),(Bo false),(Bo false),(Bo false),(Bo false),(Bo false),(Bo false),(Bo false),(Bo false),(Bo false),(Bo false),(Bo false),(Bo false),(Bo false),(Bo false),(Bo false),(Bo false),(Bo false),(Bo false),(Bo false),(Bo false),(Bo false),(Bo false),(Bo false),(Bo false),(Bo false),(Bo false),(Bo false),(Bo false),(Bo false),(Bo false),(Bo false),(Bo false),(Bo false),(Bo false),(Bo false),(Bo false),(Bo false),(Bo false),(Bo false),(Bo false),(Bo false),(Bo false),(Bo false),(Bo false),(Bo false),(Bo false),(Bo false),(Bo false),(Bo false),(Bo false),(Bo false),(Bo false),(Bo false),(Bo false),(Bo false),(Bo false),(Bo false),(Bo false),(Bo false),(Bo false),(Bo false),(Bo false),(Bo false),(Bo false),(Bo false),(Bo false),(Bo false),(Bo false),(Bo false),(Bo false),(Bo false),(Bo false),(Bo false),(Bo false),(Bo false),(Bo false),(Bo false),(Bo false),(Bo false),(Bo false),(Bo false),(Bo false),(Bo false),(Bo false),(Bo false),(Bo false),(Bo false),(Bo false),(Bo false),(Bo false),(Bo false),(Bo false),(Bo false),(Bo false),(Bo false),(Bo false)] false p4 0) (fun y=>.ptr y 0) w fun q x=>aA x q P 256 fun l=>au R ( bA (fun A c m=>aO a0 fun S=>af .lss (ag c 0) S fun U=>au U ( cK a0 (ag c 0) fun W=>p5 [q,W] m fun X n=>au X ( Q (ag c 0) n) ( af .add (ag c 0) (N .i64 1) fun V=>A [V] n)) ( Q (N .i64 (-1)) m)) [(N .i64 0)] l) ( g [] l)) ( g [] j)) (fun vg t=>A7 a0 fun C z=>aV C z t fun Y u=>bA (fun B vf v=>AO Y v fun d h=>aJ d 0 fun Z=>au Z ( aJ d 1 fun va=>aJ d 2 fun vb=>p1 [a1,vb] h fun vc i=>af .geq vc (N .i64 0) fun vd=>au vd ( Q va i) ( B [] i)) ( Q (N .i64 (-1)) h)) [] u)))
def qx (p1 p2:aj) (p3:Nat) (p4 p5:aj) (a0 a1:AV) (M0:RM) (Q:ai) : Prop:=aX .eql a0 (St []) fun g=>aa g false (fun c=>c a1 M0) (fun c=>c .undef M0) fun z h=>aa g false (fun v=>aX .eql z (St []) fun A=>v A h) (fun c=>c .undef h) fun B e=>aC g (Bo true) B fun C=>au C ( Q a0 e) ( aO a1 fun D=>af .eql D (N .i64 1) fun d=>aa d true (fun w=>w a1 e) (fun c=>c .undef e) fun E l=>aa d true (fun x=>cK E (N .i64 0) fun F=>x F l) (fun c=>c .undef l) fun G m=>aa d true (fun y=>af .lss G (N .u8 128) fun H=>y H m) (fun c=>c .undef m) fun I i=>aC d I (Bo false) fun L=>au L ( cK a1 (N .i64 0) fun O=>p1 [a0,O] i fun P p=>Q P p) ( p2 [a1] i fun n q=>aJ n 0 fun R=>aJ n 1 fun S=>aV (.row [(Bo false),(Bo false),(Bo false),(Bo false),(Bo false),(Bo false),(Bo false),(Bo false),(Bo false),(Bo false),(Bo false),(Bo false),(Bo false),(Bo false),(Bo false),(Bo false),(Bo false),(Bo false),(Bo false),(Bo false),(Bo false),(Bo false),(Bo false),(Bo false),(Bo false),(Bo false),(Bo false),(Bo false),(Bo false),(Bo false),(Bo false),(Bo false),(Bo false),(Bo false),(Bo false),(Bo false),(Bo false),(Bo false),(Bo false),(Bo false),(Bo false),(Bo false),(Bo false),(Bo false),(Bo false),(Bo false),(Bo false),(Bo false),(Bo false),(Bo false),(Bo false),(Bo false),(Bo false),(Bo false),(Bo false),(Bo false),(Bo false),(Bo false),(Bo false),(Bo false),(Bo false),(Bo false),(Bo false),(Bo false),(Bo false),(Bo false),(Bo false),(Bo false),(Bo false),(Bo false),(Bo false),(Bo false),(Bo false),(Bo false),(Bo false),(Bo false),(Bo false),(Bo false),(Bo false),(Bo false),(Bo false),(Bo false),(Bo false),(Bo false),(Bo false),(Bo false),(Bo false),(Bo false),(Bo false),(Bo false),(Bo false),(Bo false),(Bo false),(Bo false),(Bo false),(Bo false),(Bo false),(Bo false),(Bo false),(Bo false),(Bo false),(Bo false),(Bo false),(Bo false),(Bo false),(Bo false),(Bo false),(Bo false),(Bo false),(Bo false),(Bo false),(Bo false),(Bo false),(Bo false),(Bo false),(Bo false),(Bo false),(Bo false),(Bo false),(Bo false),(Bo false),(Bo false),(Bo false),(Bo false),(Bo false),(Bo false),(Bo false),(Bo false),(Bo false),(Bo false),(Bo false),(Bo false),(Bo false),(Bo false),(Bo false),(Bo false),(Bo false),(Bo false),(Bo false),(Bo false),(Bo false),(Bo false),(Bo false),(Bo false),(Bo false),(Bo false),(Bo false),(Bo false),(Bo false),(Bo false),(Bo false),(Bo false),(Bo false),(Bo false),(Bo false),(Bo false),(Bo false),(Bo false),(Bo false),(Bo false),(Bo false),(Bo false),(Bo false),(Bo false),(Bo false),(Bo false),(Bo false),(Bo false),(Bo false),(Bo false),(Bo false),(Bo false),(Bo false),(Bo false),(Bo false),(Bo false),(Bo false),(Bo false),(Bo false),(Bo false),(Bo false),(Bo false),(Bo false),(Bo false),(Bo false),(Bo false),(Bo false),(Bo false),(Bo false),(Bo false),(Bo false),(Bo false),(Bo false),(Bo false),(Bo false),(Bo false),(Bo false),(Bo false),(Bo false),(Bo false),(Bo false),(Bo false),(Bo false),(Bo false),(Bo false),(Bo false),(Bo false),(Bo false),(Bo false),(Bo false),(Bo false),(Bo false),(Bo false),(Bo false),(Bo false),(Bo false),(Bo false),(Bo false),(Bo false),(Bo false),(Bo false),(Bo false),(Bo false),(Bo false),(Bo false),(Bo false),(Bo false),(Bo false),(Bo false),(Bo false),(Bo false),(Bo false),(Bo false),(Bo false),(Bo false),(Bo false),(Bo false),(Bo false),(Bo false),(Bo false),(Bo false),(Bo false),(Bo false),(Bo false),(Bo false),(Bo false),(Bo false),(Bo false),(Bo false),(Bo false),(Bo false),(Bo false),(Bo false),(Bo false),(Bo false),(Bo false)] false p3 0) (fun u=>.ptr u 0) q fun o r=>aA r o R 256 fun j=>au S ( p4 [a0,o] j fun U s=>Q U s) ( p5 [a0,a1] j fun V t=>Q V t)))
def rf (p1:Nat) (a0:AV) (M0:RM) (Q:ai) : Prop:=qo p1 a0 fun t q=>aV t q M0 fun e n=>bS e fun F=>bA (fun s g c=>af .lss (ag g 0) F fun u=>au u ( bT (fun j=>bf e (ag g 0) 1 fun v=>ak c v fun h=>af .geq h (N .u8 65) fun i=>aa i true (fun d=>d h c) (fun d=>d .undef c) fun w l=>aa i true (fun r=>af .leq w (N .u8 90) fun x=>r x l) (fun d=>d .undef l) fun y m=>aC i y (Bo false) fun z=>au z ( af .add h (N .u8 97) fun A=>af .sub A (N .u8 65) fun B=>bf e (ag g 0) 1 fun C=>aA m C B 1 fun o=>j [] o) ( j [] m)) (fun G p=>af .add (ag g 0) (N .i64 1) fun D=>s [D] p)) ( tY c e fun E=>Q E c)) [(N .i64 0)] n
def cO (a0 a1:AV) (M0:RM) (Q:ai) : Prop:=aO a0 fun B=>aO a1 fun C=>af .geq B C fun d=>aa d true (fun c=>c a0 M0) (fun c=>c .undef M0) fun r e=>aa d true (fun m=>m a1 e) (fun c=>c .undef e) fun s g=>aa d true (fun o=>aO s fun t=>o t g) (fun c=>c .undef g) fun u h=>aa d true (fun p=>bN (aS r none (some u)) fun v=>p v h) (fun c=>c .undef h) fun w i=>aa d true (fun q=>q a1 i) (fun c=>c .undef i) fun x j=>aa d true (fun n=>aX .eql w x fun y=>n y j) (fun c=>c .undef j) fun z l=>aC d z (Bo false) fun A=>Q A l
def qM (p1 p2 p3 p4:aj) (a0:AV) (M0:RM) (Q:ai) : Prop:=p1 [a0,(St [34])] M0 fun m h=>aJ m 0 fun u=>aJ m 1 fun v=>au v ( p2 [u,(St [34])] h fun e i=>aJ e 0 fun n=>aJ e 1 fun w=>aJ e 2 fun g=>aa g true (fun d=>d n i) (fun d=>d .undef i) fun x j=>aa g true (fun t=>p3 [x,(St [])] j fun y q=>t y q) (fun d=>d .undef j) fun z r=>aC g z (Bo false) fun A=>Q (.tup [n,w,A]) r) ( p4 [a0,(St [44,59,58])] h fun c l=>af .lss c (N .i64 0) fun B=>au B ( Q (.tup [(St []),(St []),(Bo false)]) l) ( bN (aS a0 none (some c)) fun o=>bN (aS a0 (some c) none) fun p=>bN (aS a0 none (some c)) fun E=>p3 [E,(St [34])] l fun F s=>bN (aS a0 none (some c)) fun C=>(C=o∧bN (aS a0 (some c) none) fun D=>(D=p∧Q (.tup [o,p,F]) s))))
def eY (p1 p2 p3 p4:aj) (a0 a1:AV) (M0:RM) (Q:ai) : Prop:=aO a1 fun e=>af .eql e (N .i64 0) fun q=>aa q false (fun c=>c a1 M0) (fun c=>c .undef M0) fun w2 w=>aa q false (fun vk=>vk a0 w) (fun c=>c .undef w) fun w3 x=>aa q false (fun vn=>aX .eql w2 w3 fun w4=>vn w4 x) (fun c=>c .undef x) fun w5 h=>aC q (Bo true) w5 fun w6=>au w6 ( Q (N .i64 0) h) ( af .eql e (N .i64 1) fun w7=>au w7 ( cK a1 (N .i64 0) fun w8=>p1 [a0,w8] h fun w9 vj=>Q w9 vj) ( aO a0 fun xa=>af .geq e xa fun xb=>au xb ( Q (N .i64 (-1)) h) ( ak h .top fun xc=>af .leq e xc fun r=>aa r true (fun v3=>v3 a0 h) (fun c=>c .undef h) fun xd vb=>aa r true (fun v8=>aO xd fun xe=>v8 xe vb) (fun c=>c .undef vb) fun xf y=>aa r true (fun vl=>af .leq xf (N .i64 64) fun xg=>vl xg y) (fun c=>c .undef y) fun xh z=>aC r xh (Bo false) fun xi=>au xi ( p2 [a0,a1] z fun xj vh=>Q xj vh) ( cK a1 (N .i64 0) fun vf=>cK a1 (N .i64 1) fun xk=>aO a0 fun xl=>af .sub xl e fun xm=>af .add xm (N .i64 1) fun t=>bA (fun v9 j s=>af .lss (ag j 0) t fun xn=>au xn ( bT (fun v=>cK a0 (ag j 0) fun xo=>af .neq xo vf fun xp=>au xp ( af .add (ag j 0) (N .i64 1) fun xq=>bN (aS a0 (some xq) (some t)) fun xr=>p1 [xr,vf] s fun vg A=>af .lss vg (N .i64 0) fun xs=>au xs ( Q (N .i64 (-1)) A) ( af .add vg (N .i64 1) fun xt=>af .add (ag j 0) xt fun xu=>v [xu] A)) ( v [(ag j 0)] s)) (fun m B=>af .add (ag m 0) (N .i64 1) fun xv=>cK a0 xv fun xw=>af .eql xw xk fun d=>aa d true (fun vm=>vm a0 B) (fun c=>c .undef B) fun xx C=>aa d true (fun vo=>vo (ag m 0) C) (fun c=>c .undef C) fun xy D=>aa d true (fun vp=>vp (ag m 0) D) (fun c=>c .undef D) fun xz E=>aa d true (fun vq=>vq e E) (fun c=>c .undef E) fun x0 F=>aa d true (fun vr=>af .add xz x0 fun x1=>vr x1 F) (fun c=>c .undef F) fun x2 G=>aa d true (fun vs=>bN (aS xx (some xy) (some x2)) fun x3=>vs x3 G) (fun c=>c .undef G) fun x4 H=>aa d true (fun vt=>vt a1 H) (fun c=>c .undef H) fun x5 I=>aa d true (fun vu=>aX .eql x4 x5 fun x6=>vu x6 I) (fun c=>c .undef I) fun x7 n=>aC d x7 (Bo false) fun x8=>au x8 ( Q (ag m 0) n) ( af .add (ag m 0) (N .i64 1) fun g=>af .add (ag j 1) (N .i64 1) fun u=>ak n .top fun wa=>af .leq e wa fun l=>aa l true (fun vv=>vv u n) (fun c=>c .undef n) fun wb L=>aa l true (fun vw=>vw g L) (fun c=>c .undef L) fun wc O=>aa l true (fun vx=>p3 [wc] O fun wd vi=>vx wd vi) (fun c=>c .undef O) fun we P=>aa l true (fun vy=>af .gtr wb we fun wf=>vy wf P) (fun c=>c .undef P) fun wg o=>aC l wg (Bo false) fun wh=>au wh ( bN (aS a0 (some g) none) fun wi=>p2 [wi,a1] o fun vd R=>af .geq vd (N .i64 0) fun wj=>au wj ( af .add vd g fun wk=>Q wk R) ( Q (N .i64 (-1)) R)) ( ak o .top fun wl=>af .gtr e wl fun i=>aa i true (fun vz=>vz u o) (fun c=>c .undef o) fun wm S=>aa i true (fun v0=>v0 g S) (fun c=>c .undef S) fun wn U=>aa i true (fun v1=>oZ .shr wn (N .u64 4) fun wo=>v1 wo U) (fun c=>c .undef U) fun wp V=>aa i true (fun v2=>af .add (N .i64 4) wp fun wq=>v2 wq V) (fun c=>c .undef V) fun wr W=>aa i true (fun v4=>af .geq wm wr fun ws=>v4 ws W) (fun c=>c .undef W) fun wt X=>aC i wt (Bo false) fun p=>aa p true (fun v5=>v5 g X) (fun c=>c .undef X) fun wu Y=>aa p true (fun v6=>v6 t Y) (fun c=>c .undef Y) fun wv Z=>aa p true (fun v7=>af .lss wu wv fun ww=>v7 ww Z) (fun c=>c .undef Z) fun wx va=>aC p wx (Bo false) fun wy=>au wy ( bN (aS a0 (some g) none) fun wz=>p4 [wz,a1] va fun ve vc=>af .lss ve (N .i64 0) fun w0=>au w0 ( Q (N .i64 (-1)) vc) ( af .add g ve fun w1=>Q w1 vc)) ( v9 [g,u] va))))) ( Q (N .i64 (-1)) s)) [(N .i64 0),(N .i64 0)] z))))
def fE (a0 a1:AV) (M0:RM) (Q:ai) : Prop:=aO a0 fun R=>aO a1 fun S=>af .geq R S fun d=>aa d true (fun c=>c a0 M0) (fun c=>c .undef M0) fun x e=>aa d true (fun p=>p a0 e) (fun c=>c .undef e) fun y g=>aa d true (fun u=>aO y fun z=>u z g) (fun c=>c .undef g) fun A l=>aa d true (fun v=>v a1 l) (fun c=>c .undef l) fun B m=>aa d true (fun w=>aO B fun C=>w C m) (fun c=>c .undef m) fun D n=>aa d true (fun q=>af .sub A D fun E=>q E n) (fun c=>c .undef n) fun F h=>aa d true (fun r=>bN (aS x (some F) none) fun G=>r G h) (fun c=>c .undef h) fun H i=>aa d true (fun s=>s a1 i) (fun c=>c .undef i) fun I j=>aa d true (fun t=>aX .eql H I fun L=>t L j) (fun c=>c .undef j) fun O o=>aC d O (Bo false) fun P=>Q P o
def ja (p1 p2:aj) (a0 a1:AV) (M0:RM) (Q:ai) : Prop:=af .leq (N .i32 0) a1 fun m=>aa m true (fun c=>c a1 M0) (fun c=>c .undef M0) fun E p=>aa m true (fun A=>af .lss E (N .i32 128) fun F=>A F p) (fun c=>c .undef p) fun G j=>aC m G (Bo false) fun H=>au H ( oF .u8 a1 fun I=>p1 [a0,I] j fun L w=>Q L w) ( af .eql a1 (N .i32 65533) fun O=>au O ( A7 a0 fun D z=>aV D z j fun P x=>bA (fun B vu y=>AO P y fun n l=>aJ n 0 fun R=>au R ( aJ n 1 fun S=>aJ n 2 fun U=>af .eql U (N .i32 65533) fun V=>au V ( Q S l) ( B [] l)) ( Q (N .i64 (-1)) l)) [] x) ( p2 [a1] j fun W s=>eX W fun X=>au X ( Q (N .i64 (-1)) s) ( EI a1 fun d=>aO d fun Y=>af .sub Y (N .i64 1) fun e=>bA (fun vt g i=>aO a0 fun Z=>af .lss (ag g 0) Z fun va=>au va ( bT (fun o=>cK a0 (ag g 0) fun vb=>cK d e fun vc=>af .neq vb vc fun vd=>au vd ( af .add (ag g 0) (N .i64 1) fun ve=>bN (aS a0 (some ve) none) fun vf=>cK d e fun vg=>p1 [vf,vg] i fun t q=>af .lss t (N .i64 0) fun vh=>au vh ( Q (N .i64 (-1)) q) ( af .add t (N .i64 1) fun vi=>af .add (ag g 0) vi fun vj=>o [vj] q)) ( o [(ag g 0)] i)) (fun u v=>bA (fun C h r=>aO d fun vk=>af .lss (ag h 0) vk fun vl=>au vl ( af .sub (ag u 0) (ag h 0) fun vn=>cK a0 vn fun vo=>af .sub e (ag h 0) fun vp=>cK d vp fun vq=>af .neq vo vq fun vr=>au vr ( False) ( af .add (ag h 0) (N .i64 1) fun vm=>C [vm] r)) ( af .sub (ag u 0) e fun vs=>Q vs r)) [(N .i64 1)] v)) ( Q (N .i64 (-1)) i)) [e] s)))
def kw (a0:AV) (M0:RM) (Q:ai) : Prop:=af .gtr a0 (N .i64 8) fun c=>Q c M0
def gJ (p1:aj) (a0 a1:AV) (M0:RM) (Q:ai) : Prop:=p1 [a0,a1] M0 fun c d=>aJ c 0 fun g=>aJ c 1 fun e=>Q (.tup [g,e]) d
def iR (a0:AV) (M0:RM) (Q:ai) : Prop:=af .leq (N .i32 0) a0 fun g=>aa g true (fun c=>c a0 M0) (fun c=>c .undef M0) fun s h=>aa g true (fun l=>af .lss s (N .i32 55296) fun t=>l t h) (fun c=>c .undef h) fun u d=>aC g u (Bo false) fun v=>au v ( Q (Bo true) d) ( af .lss (N .i32 57343) a0 fun e=>aa e true (fun m=>m a0 d) (fun c=>c .undef d) fun o i=>aa e true (fun n=>af .leq o (N .i32 1114111) fun p=>n p i) (fun c=>c .undef i) fun q j=>aC e q (Bo false) fun r=>au r ( Q (Bo true) j) ( Q (Bo false) j))
def cZ (p1:aj) (a0 a1:AV) (M0:RM) (Q:ai) : Prop:=p1 [a0,a1] M0 fun g c=>eX g fun h=>au h ( Q (.tup [a0,(Bo false)]) c) ( aO a1 fun d=>bN (aS a0 (some d) none) fun e=>Q (.tup [e,(Bo true)]) c)
set_option maxRecDepth 10000
structure jc (TB T8 n0:Nat) (M:RM) (b:Nat) (xs:List UInt8) : Prop where
 lt:b<n0
 hn:n0≤M.next
 row:∃ addr buf,M.heap b=some (.row [addr,buf] false TB 0)∧(addr=.sc (.pointer none)∨addr=.ptr b 0)∧Ow BY M n0 T8 buf xs∧(xs=[]→buf=aB)
def QY (x:aj) : Prop:=∀ {v:AV} {M:RM} {Q:ai},Q v M→x [v] M Q
def wN (TB:Nat) (c:aj) : Prop:=∀ {M:RM} {b:Nat} {addr buf:AV} {Q:ai},M.heap b=some (.row [addr,buf] false TB 0)→(addr=.sc (.pointer none)∨addr=.ptr b 0)→oneCell buf=true →
 (∀ M',M'.heap b=some (.row [.ptr b 0,buf] false TB 0)→M'.next=M.next→M'.base=M.base→(∀ c,c≠b→M'.heap c=M.heap c)→Q (.tup []) M')→c [.ptr b 0] M Q
theorem OL {TB:Nat} {x:aj} (hx:QY x) : wN TB fun args M Q=>∃ a0,args=[a0]∧gV x TB a0 M Q:=by
 intro M b addr buf Q hh ha hb hQ
 refine⟨_,rfl, ?_⟩
 unfold gV
 rcases ha with rfl | rfl
 ·simp only[go_sem,RM.cell_of hh]
  refine⟨_,0,_,_,_,_,rfl,hh,by simp,hx ⟨_,_,_,_,rfl,hh,rfl, ?_⟩⟩
  simp only[go_sem,RM.jm hh]
  rw[fT (by simp) (by simp) (by simp[oneCell])]
  simp only[go_sem]
  refine hQ _ (by simp[go_sem]) rfl rfl fun c hc=>by simp[go_sem,hc]
 ·simp only[go_sem,RM.cell_of hh]
  have:∀ K:AV→Prop,gH true 1 (.ptr b 0) (.ptr b 0) K=K (Bo false):=fun K=>(iL (r:=true) rfl (by simp[xK])).trans rfl
  rw[this]
  simp only[go_sem]
  exact hQ _ hh rfl rfl fun _ _=>rfl
def rC (TB T8:Nat) (c:aj) : Prop:=∀ {n0:Nat} {M:RM} {b:Nat} {xs:List UInt8} {x:UInt8} {Q:ai},jc TB T8 n0 M b xs→xs.length + 1≤140737488355328 →
 (∀ M',jc TB T8 n0 M' b (xs++[x])→fe n0 [b] M M'→Q (.sc .nilIface) M')→c [.ptr b 0,By x] M Q
theorem Gv {TB T8:Nat} {c:aj} (hc:wN TB c) : rC TB T8 fun args M Q=>∃ a0 a1,args=[a0,a1]∧dO c T8 a0 a1 M Q:=by
 intro n0 M b xs x Q hB hl hQ
 obtain⟨addr,buf,hh,ha,ho,he⟩:=hB.row
 refine⟨_,_,rfl, ?_⟩
 unfold dO
 refine hc hh ha ho.one fun M1 h1 hnx hbs hot=>?_
 have hlt:=hB.lt
 have hn:=hB.hn
 have ho1:Ow BY M1 n0 T8 buf xs:=Own.same ho hnx (fun c hc=>hot c (by have:=ho.blk c hc; omega)) hbs
 simp only[go_sem,RM.cell_of h1]
 rw[jg (x:=By x) (size:=1) rfl rfl rfl]
 simp only[aF]
 refine nT (E:=BY) (a:=x) ho1 (by omega) (Nat.le_refl _) (by omega) hl fun v' M2 h2 k2 hnx2 hv=>?_
 have hb2:b ∉ aD buf:=fun hm=>by have:=ho.blk b hm; omega
 have hh2:=k2.ax h1 (by omega) hb2
 simp only[go_sem,RM.jm hh2]
 rw[Own.cells h2,fT (by simp) (by simp) (by simp[Own.one h2])]
 simp only[go_sem]
 have hne:∀ c∈aD v',c≠b:=fun c hm=>by have:=h2.blk c hm; omega
 refine hQ _ ⟨hlt,by show n0≤M2.next; omega,.ptr b 0,v',RM.jJ _ _,.inr rfl,Own.same h2 rfl (fun c hm=>by simp[go_sem,hne c hm]) rfl,by simp⟩ ⟨?_, ?_,fun c h3 h4=>?_⟩
 ·exact k2.base.trans hbs
 ·show M.next≤M2.next
  omega
 ·have h4:c≠b:=by simpa using h4
  simp only[go_sem,if_neg h4]
  rw[k2.heap c (by omega) (fun hm=>by have:=ho.blk c hm; omega),hot c h4]
def oq (TB T8:Nat) (c:aj) : Prop:=∀ {n0:Nat} {M:RM} {b:Nat} {xs s:List UInt8} {Q:ai},jc TB T8 n0 M b xs→xs.length + s.length≤140737488355328 →
 (∀ M',jc TB T8 n0 M' b (xs++s)→fe n0 [b] M M'→Q (.tup [N .i64 s.length,.sc .nilIface]) M')→c [.ptr b 0,St s] M Q
theorem DL {TB T8:Nat} {c:aj} (hc:wN TB c) : oq TB T8 fun args M Q=>∃ a0 a1,args=[a0,a1]∧dH c T8 a0 a1 M Q:=by
 intro n0 M b xs s Q hB hl hQ
 obtain⟨addr,buf,hh,ha,ho,he⟩:=hB.row
 refine⟨_,_,rfl, ?_⟩
 unfold dH
 refine hc hh ha ho.one fun M1 h1 hnx hbs hot=>?_
 have hlt:=hB.lt
 have hn:=hB.hn
 have ho1:Ow BY M1 n0 T8 buf xs:=Own.same ho hnx (fun c hc=>hot c (by have:=ho.blk c hc; omega)) hbs
 simp only[go_sem,RM.cell_of h1]
 have hnew:mV M1 1 [N .u8 0] false (St s)=some (s.length,BY.row s):=by
  simp only[mV,qC,if_true]
 by_cases hne0:xs++s=[]
 ·obtain⟨rfl,rfl⟩:=List.append_eq_nil_iff.1 hne0
  have hb0:=he rfl
  subst hb0
  refine⟨0,[],hnew,by omega,by omega,aB,M1,by simp[qR], ?_⟩
  simp only[go_sem,RM.jm h1]
  rw[fT (by simp) (by simp) (by simp[oneCell])]
  simp only[go_sem]
  refine hQ _ ⟨hlt,by show n0≤M1.next; omega,.ptr b 0,aB,by simp[go_sem],.inr rfl,.nil,fun _=>rfl⟩ ⟨hbs,by show M.next≤M1.next; omega,fun c h3 h4=>?_⟩
  have h4:c≠b:=by simpa using h4
  simp only[go_sem,if_neg h4]
  exact hot c h4
 refine Cm ho1 (by omega) (Nat.le_refl _) hnew (by rw[BY.fB]; rfl) (BY.jR s) (by omega) (by omega) fun v' M2 h2 k2 hnx2 hv=>?_
 rw[← BY.rD] at h2
 have h2:Ow BY M2 n0 T8 v' (xs++s):=by
  show Own M2 n0 T8 1 v' (BY.row (xs++s)) (xs++s).length
  rw[List.length_append]; exact h2
 have hb2:b ∉ aD buf:=fun hm=>by have:=ho.blk b hm; omega
 have hh2:=k2.ax h1 (by omega) hb2
 simp only[go_sem,RM.jm hh2]
 rw[Own.cells h2,fT (by simp) (by simp) (by simp[Own.one h2])]
 simp only[go_sem]
 have hne:∀ c∈aD v',c≠b:=fun c hm=>by have:=h2.blk c hm; omega
 refine hQ _ ⟨hlt,by show n0≤M2.next; omega,.ptr b 0,v',RM.jJ _ _,.inr rfl,Own.same h2 rfl (fun c hm=>by simp[go_sem,hne c hm]) rfl,fun e=>absurd e hne0⟩ ⟨?_, ?_,fun c h3 h4=>?_⟩
 ·exact k2.base.trans hbs
 ·show M.next≤M2.next
  omega
 ·have h4:c≠b:=by simpa using h4
  simp only[go_sem,if_neg h4]
  rw[k2.heap c (by omega) (fun hm=>by have:=ho.blk c hm; omega),hot c h4]
def su (TB T8:Nat) (c:aj) : Prop:=∀ {n0:Nat} {M:RM} {b:Nat} {xs:List UInt8} {Q:ai},jc TB T8 n0 M b xs→xs.length≤4611686018427387904 →
 (∀ M',fe n0 [] M M'→Q (St xs) M')→c [.ptr b 0] M Q
theorem LF {TB T8:Nat} : su TB T8 fun args M Q=>∃ a0,args=[a0]∧iZ T8 a0 M Q:=by
 intro n0 M b xs Q hB hl hQ
 obtain⟨addr,buf,hh,ha,ho,he⟩:=hB.row
 refine⟨_,rfl, ?_⟩
 unfold iZ
 simp only[go_sem,RM.cell_of hh]
 by_cases hx:xs=[]
 ·subst hx
  have hb0:=he rfl
  subst hb0
  simp only[Br,go_sem]
  exact .inr ⟨rfl,rfl,hQ _ (fe.refl _ _ _)⟩
 ·obtain⟨nn,hnn⟩ : ∃ nn,xs.length=nn + 1:=⟨xs.length - 1,by have:=List.length_pos_iff.2 hx; omega⟩
  have hcs:cz byteOf (BY.row xs)=some xs:=by rw[qC]; exact yU xs
  have hl8:(BY.row xs).length=nn + 1:=by rw[BY.fB,hnn]; exact Nat.mul_one _
  have ho' : Own M n0 T8 1 buf (BY.row xs) (nn + 1):=by rw[← hnn]; exact ho
  generalize BY.row xs=cs at hcs hl8 ho'
  cases ho' with
  | op c n cs h1 h2 h3 h4 =>
    simp only[Br,go_sem]
    refine .inl ⟨c,nn,cs,true,0,xs,rfl,rfl,by omega,h3,by omega,by rw[List.take_of_length_le (by omega)]; exact hcs,hQ _ ⟨rfl,Nat.le_refl _,fun d hd _=>?_⟩⟩
    simp only[go_sem]
    rw[if_neg (by omega)]
theorem jc.new {TB T8 n0 b:Nat} {M:RM} (hh:M.heap b=some (.row [.sc (.pointer none),aB] false TB 0)) (hb:b<n0) (hn:n0≤M.next) : jc TB T8 n0 M b [] :=
 ⟨hb,hn,_,_,hh,.inl rfl,.nil,fun _=>rfl⟩
theorem Ce {s:List UInt8} {i:Nat} (hi:i<s.length) (kd:IntKind) (K:AV→Prop) : cK (St s) (N kd (i:Int)) K=K (By s[i]):=by
 rw[Nb]
 apply propext
 constructor
 ·rintro⟨_,b,hb,hk⟩
  rw[Int.toNat_natCast,List.getElem?_eq_getElem hi] at hb
  cases hb; exact hk
 ·intro hk; exact⟨by omega,s[i],by rw[Int.toNat_natCast,List.getElem?_eq_getElem hi],hk⟩
def vT (c:UInt8) : List UInt8:=if c.toNat=92∨c.toNat=44∨c.toNat=59 then[92,c] else if c.toNat=10 then[92,110] else[c]
def esc (s:List UInt8) : List UInt8:=s.flatMap vT
theorem Mm (s:List UInt8) : (esc s).length≤2 * s.length:=by
 induction s with
 | nil=>simp[esc]
 | cons c s ih =>
   have:(vT c).length≤2:=by unfold vT; split <;> (try split) <;> simp
   simp only[esc,List.flatMap_cons,List.length_append,List.length_cons] at ih ⊢
   omega
theorem SV (s:List UInt8) {i:Nat} (hi:i<s.length) : esc (s.take (i + 1))=esc (s.take i)++vT s[i]:=by
 rw[List.take_succ_eq_append_getElem hi,esc,List.flatMap_append]; simp[esc]
theorem KC (s:List UInt8) (i:Nat) : (esc (s.take i)).length≤2 * s.length:=by
 have:=Mm (s.take i); simp at this; omega
def Nw (c:aj) : Prop:=∀ {M:RM} {s:List UInt8} {Q:ai},s.length≤100000000→(∀ M',ae [] M M'→Q (St (esc s)) M')→c [St s] M Q
theorem LU {TB T8:Nat} {cw cs ct:aj} (hw:rC TB T8 cw) (hs:oq TB T8 cs) (ht:su TB T8 ct) : Nw fun args M Q=>∃ a0,args=[a0]∧pu TB T8 cw cs ct a0 M Q:=by
 intro M s Q hl hQ
 refine⟨_,rfl, ?_⟩
 unfold pu
 simp only[aF,qw,uu]
 generalize hM1:M.push (.row [.sc (.pointer none),.sc (.slice none 0 0)] false TB 0)=M1
 have hn1:M1.next=M.next + 1:=by rw[← hM1]; rfl
 generalize hM2:M1.push (.row (BY.row s) true T8 0)=M2
 have hn2:M2.next=M1.next + 1:=by rw[← hM2]; rfl
 have hk2:ae [] M M2:=by rw[← hM2,← hM1]; exact((ae.refl _ _).push _).push _
 have hb0:jc TB T8 M2.next M2 M.next []:=jc.new (by rw[← hM2,← hM1]; simp[go_sem]) (by omega) (Nat.le_refl _)
 have hr0:Rw BY M2 M1.next true T8 s:=by rw[← hM2]; exact Rw.new M1 s
 refine aP (fun m ys M3=>∃ i:Nat,m=s.length - i∧ys=[N .i64 i]∧i≤s.length∧jc TB T8 M2.next M3 M.next (esc (s.take i))∧fe M2.next [M.next] M2 M3) _
  ⟨0,rfl,rfl,Nat.zero_le _,by simpa [esc] using hb0,fe.refl _ _ _⟩ ?_
 rintro next m ys M3 hnext ⟨i,rfl,rfl,hi,hB,hK⟩
 have hr3:Rw BY M3 M1.next true T8 s:=⟨hK.ax hr0.heap (by omega) (by simp; omega),by have:=hK.next; omega⟩
 have hel:=KC s i
 simp only[go_sem]
 refine⟨fun hlt=>?_,fun hge=>?_⟩
 ·have hlt:i<s.length:=by simpa using hlt
  have hc:=hr3.ak hlt
  have hstep:=SV s hlt
  generalize s[i]=c at *
  have fin:∀ M4,jc TB T8 M2.next M4 M.next (esc (s.take (i + 1)))→fe M2.next [M.next] M3 M4→next [N .i64 (IntKind.i64.wrap ((i:Int) + 1))] M4:=fun M4 h1 h2=>by
   rw[lT (by omega)]
   exact hnext _ _ _ (by omega) ⟨i + 1,rfl,rfl,by omega,h1,hK.trans h2⟩
  refine⟨by omega,By c,hc, ?_⟩
  have two:vT c=[92,c]→cw [.ptr M.next 0,N .u8 92] M3 fun t20 M_5=>cw [.ptr M.next 0,By c] M_5 fun t22 M_6=>next [N .i64 (IntKind.i64.wrap ((i:Int) + 1))] M_6:=fun he=>by
   refine hw (x:=92) hB (by omega) fun M4 h4 k4=>?_
   refine hw (x:=c) h4 (by simp; omega) fun M5 h5 k5=>fin M5 ?_ (k4.trans k5)
   rw[hstep,he]; simpa using h5
  by_cases h1:c.toNat=92
  ·have e1:((c.toNat:Int) == 92)=true:=by rw[h1]; rfl
   simp only[e1,go_sem]
   exact two (by simp[vT,h1])
  have e1:((c.toNat:Int) == 92)=false:=by simp; omega
  by_cases h2:c.toNat=44
  ·have e2:((c.toNat:Int) == 44)=true:=by rw[h2]; rfl
   simp only[e1,e2,go_sem]
   exact two (by simp[vT,h2])
  have e2:((c.toNat:Int) == 44)=false:=by simp; omega
  by_cases h3:c.toNat=59
  ·have e3:((c.toNat:Int) == 59)=true:=by rw[h3]; rfl
   simp only[e1,e2,e3,go_sem]
   exact two (by simp[vT,h3])
  have e3:((c.toNat:Int) == 59)=false:=by simp; omega
  by_cases h4:c.toNat=10
  ·have e4:((c.toNat:Int) == 10)=true:=by rw[h4]; rfl
   simp only[e1,e2,e3,e4,go_sem]
   refine hs (s:=[92,110]) hB (by simp; omega) fun M4 h5 k4=>fin M4 ?_ k4
   rw[hstep]; simpa [vT,h1,h2,h3,h4] using h5
  have e4:((c.toNat:Int) == 10)=false:=by simp; omega
  simp only[e1,e2,e3,e4,go_sem]
  refine hw (x:=c) hB (by omega) fun M4 h5 k4=>fin M4 ?_ k4
  rw[hstep]; simpa [vT,h1,h2,h3,h4] using h5
 ·have:i=s.length:=by simp at hge; omega
  subst this
  rw[List.take_length] at hB hel
  refine ht hB (by omega) fun M4 k4=>hQ M4 ?_
  refine hk2.Gj (hK.trans ⟨k4.base,k4.next,fun c h1 h2=>k4.heap c h1 (by simp)⟩) (by omega) fun c hc=>.inl (by simp at hc; omega)
def ow (d:UInt8) : Prop:=d.toNat=92∨d.toNat=44∨d.toNat=59∨d.toNat=58
instance (d:UInt8) : Decidable (ow d):=inferInstanceAs (Decidable (_∨_))
def Hy (d:UInt8) : Prop:=d.toNat=110∨d.toNat=78
instance (d:UInt8) : Decidable (Hy d):=inferInstanceAs (Decidable (_∨_))
def eU:List UInt8→Option (List UInt8)
 | []=>some []
 | c :: s=>if c.toNat≠92 then(eU s).map (c :: ·) else match s with
   | []=>none
   | d :: s=>if Hy d then(eU s).map (10 :: ·) else if ow d then(eU s).map (d :: ·) else none
theorem Db {c:UInt8} {s:List UInt8} (h:c.toNat≠92) : eU (c :: s)=(eU s).map (c :: ·):=by
 cases s <;> simp[eU,h]
theorem H7 {c:UInt8} (h:c.toNat=92) : eU [c]=none:=by simp[eU,h]
theorem FV {c d:UInt8} {s:List UInt8} (h:c.toNat=92) (hd:Hy d) : eU (c :: d :: s)=(eU s).map (10 :: ·):=by rw[eU]; simp[h,hd]
theorem FD {c d:UInt8} {s:List UInt8} (h:c.toNat=92) (hn:¬ Hy d) (hd:ow d) : eU (c :: d :: s)=(eU s).map (d :: ·):=by rw[eU]; simp[h,hn,hd]
theorem H6 {c d:UInt8} {s:List UInt8} (h:c.toNat=92) (hn:¬ Hy d) (hd:¬ ow d) : eU (c :: d :: s)=none:=by rw[eU]; simp[h,hn,hd]
def pF (c:aj) : Prop:=∀ {M:RM} {s:List UInt8} {x:UInt8} {Q:ai},Q (N .i64 (Lib.indexByte s x)) M→c [St s,By x] M Q
theorem qb (l:List UInt8) (x:UInt8) : (Lib.indexByte l x ≥ 0)↔x∈l:=by
 induction l with
 | nil=>simp[Lib.indexByte]
 | cons y ys ih =>
   simp only[Lib.indexByte]
   have:=Lib.indexByte_ge ys x
   by_cases h:y=x
   ·subst h; simp
   ·have hb:(y == x)=false:=by simpa using h
    have h' : ¬ x=y:=fun e=>h e.symm
    simp only[hb,List.mem_cons,h',false_or]
    rw[← ih]
    simp
    split <;> omega
theorem Kb (d:UInt8) : d∈([92,44,59,58] : List UInt8)↔ow d:=by
 unfold ow
 simp only[List.mem_cons,List.not_mem_nil,or_false,← UInt8.toNat_inj]
 exact Iff.rfl
def tQ (bad good:AV) (s:List UInt8) : AV:=match eU s with
 | some x=>.tup [St x,good]
 | none=>.tup [St [],bad]
def Jv (bad good:AV) (c:aj) : Prop:=∀ {M:RM} {s:List UInt8} {Q:ai},s.length≤1000000→(∀ M',ae [] M M'→Q (tQ bad good s) M')→c [St s] M Q
theorem qA:∀ (n:Nat) (s x:List UInt8),s.length≤n→eU s=some x→x.length≤s.length
 | _,[],x,_,h=>by simp[eU] at h; subst h; simp
 | n + 1,c :: s,x,hl,h=>by
   simp at hl
   by_cases h1:c.toNat=92
   ·cases s with
    | nil=>rw[H7 h1] at h; cases h
    | cons d s =>
      simp at hl
      by_cases h2:Hy d
      ·rw[FV h1 h2] at h
       obtain⟨y,hy,rfl⟩:=Option.map_eq_some_iff.1 h
       have:=qA n s y (by omega) hy
       simp; omega
      ·by_cases h3:ow d
       ·rw[FD h1 h2 h3] at h
        obtain⟨y,hy,rfl⟩:=Option.map_eq_some_iff.1 h
        have:=qA n s y (by omega) hy
        simp; omega
       ·rw[H6 h1 h2 h3] at h; cases h
   ·rw[Db h1] at h
    obtain⟨y,hy,rfl⟩:=Option.map_eq_some_iff.1 h
    have:=qA n s y (by omega) hy
    simp; omega
theorem IB {TB T8:Nat} {cw ci ct:aj} (hw:rC TB T8 cw) (hi:pF ci) (ht:su TB T8 ct) :
  Jv (N .i64 14) (N .i64 0) fun args M Q=>∃ a0,args=[a0]∧nG TB cw ci ct a0 M Q:=by
 intro M s Q hl hQ
 refine⟨_,rfl, ?_⟩
 unfold nG
 simp only[dJ,aF]
 generalize hM1:M.push (.row [.sc (.pointer none),.sc (.slice none 0 0)] false TB 0)=M1
 have hn1:M1.next=M.next + 1:=by rw[← hM1]; rfl
 have hk1:ae [] M M1:=by rw[← hM1]; exact(ae.refl _ _).push _
 have hb0:jc TB T8 M1.next M1 M.next []:=jc.new (by rw[← hM1]; simp[go_sem]) (by omega) (Nat.le_refl _)
 have fin:∀ {M' : RM},fe M1.next [M.next] M1 M'→ae [] M M':=fun h=>hk1.Gj h (by omega) fun c hc=>.inl (by simp at hc; omega)
 refine aP (fun m ys M3=>∃ (i:Nat) (out:List UInt8),m=s.length - i∧ys=[N .i64 i]∧i≤s.length∧jc TB T8 M1.next M3 M.next out∧fe M1.next [M.next] M1 M3∧out.length≤i ∧
  eU s=(eU (s.drop i)).map (out ++ ·)) _
  ⟨0,[],rfl,rfl,Nat.zero_le _,hb0,fe.refl _ _ _,by simp,by simp⟩ ?_
 rintro next m ys M3 hnext ⟨i,out,rfl,rfl,hile,hB,hK,hol,hu⟩
 simp only[go_sem]
 refine⟨fun hlt=>?_,fun hge=>?_⟩
 ·have hlt:i<s.length:=by simpa using hlt
  have hg:s[i]?=some s[i]:=List.getElem?_eq_getElem hlt
  have hd:=List.drop_eq_getElem_cons hlt
  generalize s[i]=c at *
  simp only[hg,go_sem,lT (show i<9223372036854775807 by omega)]
  by_cases h1:c.toNat=92
  ·have e1:((c.toNat:Int) != 92)=false:=by rw[h1]; rfl
   simp only[e1,go_sem]
   by_cases hlt2:i + 1<s.length
   ·have e2:decide (((i + 1:Nat) : Int)<(s.length:Int))=true:=by simp; omega
    have hg2:s[i + 1]?=some s[i + 1]:=List.getElem?_eq_getElem hlt2
    have hd2:=List.drop_eq_getElem_cons hlt2
    generalize s[i + 1]=d at *
    have go:∀ (x:UInt8),eU (c :: d :: s.drop (i + 2))=(eU (s.drop (i + 2))).map (x :: ·)→∀ M4,jc TB T8 M1.next M4 M.next (out++[x])→fe M1.next [M.next] M3 M4→next [N .i64 ((i + 1 + 1:Nat) : Int)] M4:=fun x hx M4 h4 k4=>by
     refine hnext _ _ _ (by omega) ⟨i + 2,out++[x],rfl,rfl,by omega,h4,hK.trans k4,by simp; omega, ?_⟩
     rw[hu,hd,hd2,hx,Option.map_map]
     congr 1
     funext y; simp
    simp only[e2,hg2,go_sem,lT (show i + 1<9223372036854775807 by omega)]
    have bad:eU (c :: d :: s.drop (i + 2))=none→tQ (N .i64 14) (N .i64 0) s=.tup [St [],N .i64 14]:=fun h=>by
     simp[tQ,hu,hd,hd2,h]
    by_cases h2:d.toNat=110
    ·have e3:((d.toNat:Int) == 110)=true:=by rw[h2]; rfl
     simp only[e3,go_sem]
     exact hw (x:=10) hB (by omega) fun M4 h4 k4=>go 10 (FV h1 (.inl h2)) M4 h4 k4
    have e3:((d.toNat:Int) == 110)=false:=by simp; omega
    by_cases h3:d.toNat=78
    ·have e4:((d.toNat:Int) == 78)=true:=by rw[h3]; rfl
     simp only[e3,e4,go_sem]
     exact hw (x:=10) hB (by omega) fun M4 h4 k4=>go 10 (FV h1 (.inr h3)) M4 h4 k4
    have e4:((d.toNat:Int) == 78)=false:=by simp; omega
    have hn:¬ Hy d:=by unfold Hy; omega
    simp only[e3,e4,go_sem]
    refine hi (s:=[92,44,59,58]) (x:=d) ?_
    simp only[go_sem]
    refine⟨fun h=>?_,fun h=>?_⟩
    ·have hm:ow d:=(Kb d).1 ((qb _ _).1 (of_decide_eq_true h))
     exact hw (x:=d) hB (by omega) fun M4 h4 k4=>go d (FD h1 hn hm) M4 h4 k4
    ·have hm:¬ ow d:=fun hm=>(of_decide_eq_false h) ((qb _ _).2 ((Kb d).2 hm))
     rw[← bad (H6 h1 hn hm)]
     exact hQ _ (fin hK)
   ·have e2:decide (((i + 1:Nat) : Int)<(s.length:Int))=false:=by simp; omega
    simp only[e2,go_sem]
    have:s.drop (i + 1)=[]:=List.drop_of_length_le (by omega)
    have hb:tQ (N .i64 14) (N .i64 0) s=.tup [St [],N .i64 14]:=by simp[tQ,hu,hd,this,H7 h1]
    rw[← hb]
    exact hQ _ (fin hK)
  ·have e1:((c.toNat:Int) != 92)=true:=by simp; omega
   simp only[e1,go_sem]
   refine hw (x:=c) hB (by omega) fun M4 h4 k4=>?_
   refine hnext _ _ _ (by omega) ⟨i + 1,out++[c],rfl,rfl,by omega,h4,hK.trans k4,by simp; omega, ?_⟩
   rw[hu,hd,Db h1,Option.map_map]
   congr 1
   funext y; simp
 ·have:i=s.length:=by simp at hge; omega
  subst this
  refine ht hB (by omega) fun M4 k4=>?_
  have:=hQ M4 (fin (hK.trans ⟨k4.base,k4.next,fun c h1 h2=>k4.heap c h1 (by simp)⟩))
  simpa [tQ,hu,eU] using this
def JD (x:UInt8) : List UInt8→List UInt8→Bool→List (List UInt8)
 | [],cur,_=>[cur]
 | c :: s,cur,odd=>if c=x∧odd=false then cur :: JD x s [] (decide (c.toNat=92) && !odd) else JD x s (cur++[c]) (decide (c.toNat=92) && !odd)
def parts (x:UInt8) (s:List UInt8) : List (List UInt8):=JD x s [] false
theorem LH {s:List UInt8} {l h:Nat} (h1:l≤h) (h2:h≤s.length) (k1 k2:IntKind) : aS (St s) (some (N k1 (l:Int))) (some (N k2 (h:Int)))=some (St ((s.drop l).take (h - l))):=by
 simp only[aS,bnd]
 simp[h1,h2]
theorem bD {s:List UInt8} {l:Nat} (h1:l≤s.length) (k1:IntKind) : aS (St s) (some (N k1 (l:Int))) none=some (St (s.drop l)):=by
 simp only[aS,bnd]
 simp[h1]
 rw[List.take_of_length_le (by simp)]
set_option maxRecDepth 100000
def Zo (n b0 b1 b2 b3:Nat) : Nat:=if Lib.decodeN n b0 b1 b2 b3=(65533,1) then 0 else(Lib.decodeN n b0 b1 b2 b3).2
section
variable {n b0 b1 b2 b3:Nat}
end
def bt (s:List UInt8) (i:Nat) : Nat:=(s.getD i 0).toNat
theorem II {s:List UInt8} {i:Nat} (hi:i<s.length) : s[i].toNat=bt s i:=by simp[bt,List.getD_eq_getElem?_getD,hi]
def dec (s:List UInt8) : Nat × Nat:=Lib.decodeN s.length (bt s 0) (bt s 1) (bt s 2) (bt s 3)
def rk (s:List UInt8) : Nat:=if s=[] then 0 else Zo s.length (bt s 0) (bt s 1) (bt s 2) (bt s 3)
def rs (s:List UInt8) : Nat:=if s=[] then 0 else(dec s).2
theorem Bf (s:List UInt8) : 1≤(dec s).2:=Lib.decodeN_ge1 _ _ _ _ _
theorem Oq (n b0 b1 b2 b3:Nat) (hn:1≤n) : (Lib.decodeN n b0 b1 b2 b3).2≤n∧(Lib.decodeN n b0 b1 b2 b3).2≤4:=by
 unfold Lib.decodeN
 repeat' split
 all_goals (simp; try omega)
theorem uz {s:List UInt8} (h:s≠[]) : 1≤rs s:=by simp only[rs,if_neg h]; exact Bf s
theorem Ei {s:List UInt8} (h:s≠[]) : rs s≤s.length∧rs s≤4:=by
 simp only[rs,if_neg h]
 exact Oq _ _ _ _ _ (List.length_pos_iff.2 h)
def acc (v0:Nat) (s:List UInt8) : Nat→Nat
 | 0=>v0
 | k + 1=>64 * acc v0 s k + bt s (k + 1) - 128
def Ca (f:(List AV→RM→Prop)→Prop) (g:List AV→RM→Prop) : Prop:=f g
theorem dB (f:(List AV→RM→Prop)→Prop) (g:List AV→RM→Prop) : bT f g=Ca f g:=rfl
theorem yD {f:(List AV→RM→Prop)→Prop} {g:List AV→RM→Prop} (h:f g) : Ca f g:=h
theorem bI {H:(List AV→RM→Prop)→Prop} {G:List AV→RM→Prop} (P:List AV→RM→Prop) (hT:∀ xs M,P xs M→G xs M)
  (hH:∀ J:List AV→RM→Prop,(∀ xs M,P xs M→J xs M)→H J) : Ca H G:=hH G hT
theorem xR {x:Int} (h : -9223372036854775808≤x) (k:x<9223372036854775808) : IntKind.wrap .i64 x=x:=eO (by omega) (by omega)
set_option maxRecDepth 10000
theorem wP {s:List UInt8} (h:s≠[]) {k:Nat} (hk:1≤k) : (s.drop k).length<s.length:=by
 have:=List.length_pos_iff.2 h
 simp; omega
def uR (s:List UInt8) : Bool:=if s=[] then true else if h:rk s=0 then false else uR (s.drop (rk s)) termination_by s.length decreasing_by exact wP (by assumption) (by omega)
theorem UB:uR []=true:=by rw[uR]; simp
theorem UD {s:List UInt8} (hne:s≠[]) (h:rk s=0) : uR s=false:=by rw[uR]; simp[hne,h]
theorem Ry {s:List UInt8} (h:rk s≠0) : uR s=uR (s.drop (rk s)):=by
 have hne:s≠[]:=by intro e; subst e; simp[rk] at h
 rw[uR]; simp[hne,h]
def fo (u:Nat) (s:List UInt8) : List UInt8 :=
 if s=[] then[] else if u + rs s > 75 then[13,10,32]++s.take (rs s)++fo (1 + rs s) (s.drop (rs s)) else s.take (rs s)++fo (u + rs s) (s.drop (rs s)) termination_by s.length decreasing_by all_goals exact wP (by assumption) (uz (by assumption))
theorem FE (u:Nat) : fo u []=[]:=by rw[fo]; simp
theorem Ko {u:Nat} {s:List UInt8} (hne:s≠[]) (h:75<u + rs s) : fo u s=[13,10,32]++s.take (rs s)++fo (1 + rs s) (s.drop (rs s)):=by
 rw[fo,if_neg hne,if_pos (by omega)]
theorem Gw {u:Nat} {s:List UInt8} (hne:s≠[]) (h:u + rs s≤75) : fo u s=s.take (rs s)++fo (u + rs s) (s.drop (rs s)):=by
 rw[fo,if_neg hne,if_neg (by omega)]
def pc (lim:Nat) (s:List UInt8) : Nat:=if s=[] then 0 else if rs s > lim then 0 else rs s + pc (lim - rs s) (s.drop (rs s)) termination_by s.length decreasing_by exact wP (by assumption) (uz (by assumption))
theorem Px (l:Nat) : pc l []=0:=by rw[pc]; simp
theorem Jk {l:Nat} {s:List UInt8} (h:l<rs s) : pc l s=0:=by rw[pc]; simp; intro _ _; omega
theorem Ci {l:Nat} {s:List UInt8} (hne:s≠[]) (h:rs s≤l) : pc l s=rs s + pc (l - rs s) (s.drop (rs s)):=by
 rw[pc,if_neg hne,if_neg (by omega)]
theorem Tx:∀ (n:Nat) {l:Nat} {s:List UInt8},s.length≤n→pc l s≤s.length
 | n,l,s,hn=>by
   by_cases hne:s=[]
   ·subst hne; simp[Px]
   by_cases h:l<rs s
   ·simp[Jk h]
   rw[Ci hne (by omega)]
   have h1:=uz hne
   have h2:=Ei hne
   cases n with
   | zero=>exact absurd (List.eq_nil_of_length_eq_zero (by omega)) hne
   | succ n =>
     have:=Tx n (l:=l - rs s) (s:=s.drop (rs s)) (by simp; omega)
     simp at this; omega
theorem VV {l:Nat} {s:List UInt8} (hne:s≠[]) (h:4≤l) : 1≤pc l s:=by
 have h1:=uz hne
 have h2:=Ei hne
 rw[Ci hne (by omega)]; omega
theorem Ty:∀ (n:Nat) {u:Nat} {s:List UInt8},s.length≤n→u≤75→fo u s=s.take (pc (75 - u) s)++(if s.drop (pc (75 - u) s)=[] then[] else[13,10,32]++fo 1 (s.drop (pc (75 - u) s)))
 | n,u,s,hn,hu=>by
   by_cases hne:s=[]
   ·subst hne; simp[FE]
   have h1:=uz hne
   have h2:=Ei hne
   by_cases h:75<u + rs s
   ·rw[Jk (by omega),Ko hne h]
    simp only[List.take_zero,List.drop_zero,List.nil_append,if_neg hne]
    rw[Gw (u:=1) hne (by omega)]; simp
   ·rw[Ci hne (by omega),Gw hne (by omega)]
    cases n with
    | zero=>exact absurd (List.eq_nil_of_length_eq_zero (by omega)) hne
    | succ n =>
      rw[Ty n (u:=u + rs s) (by simp; omega) (by omega),List.take_add,← List.drop_drop,show 75 - (u + rs s)=75 - u - rs s by omega,List.append_assoc]
theorem FJ:∀ (n:Nat) {u:Nat} {s:List UInt8},s.length≤n→(fo u s).length≤4 * s.length
 | n,u,s,hn=>by
   by_cases hne:s=[]
   ·subst hne; simp[FE]
   have h1:=uz hne
   have h2:=Ei hne
   cases n with
   | zero=>exact absurd (List.eq_nil_of_length_eq_zero (by omega)) hne
   | succ n =>
     by_cases h:75<u + rs s
     ·rw[Ko hne h]
      have:=FJ n (u:=1 + rs s) (s:=s.drop (rs s)) (by simp; omega)
      simp at this ⊢; omega
     ·rw[Gw hne (by omega)]
      have:=FJ n (u:=u + rs s) (s:=s.drop (rs s)) (by simp; omega)
      simp at this ⊢; omega
theorem gq {s:List UInt8} {h:Nat} (h2:h≤s.length) (k2:IntKind) : aS (St s) none (some (N k2 (h:Int)))=some (St (s.take h)):=by
 have:=LH (s:=s) (l:=0) (h:=h) (by omega) h2 .i64 k2
 rw[List.drop_zero,Nat.sub_zero] at this; exact this
theorem Uy {α:Type} {l t s:List α} (h:l++t=s) : l.length≤s.length:=by rw[← h]; simp
def Vk (B:Base) (c:aj) : Prop:=∀ {M:RM} {s:List UInt8} {Q:ai},M.base=B→s≠[]→s.length≤1000000→(∀ r:AV,Q (.tup [r,N .i64 (rs s)]) M)→c [St s] M Q
def Jq (B:Base) (c:aj) : Prop:=∀ {M:RM} {s:List UInt8} {l:Nat} {Q:ai},M.base=B→s.length≤1000000→l≤1000→Q (N .i64 (pc l s)) M→c [St s,N .i64 l] M Q
theorem Nv {B:Base} {cd:aj} (hd:Vk B cd) : Jq B fun args M Q=>∃ a0 a1,args=[a0,a1]∧qX cd a0 a1 M Q:=by
 intro M s l Q hM hl hll hQ
 refine⟨_,_,rfl, ?_⟩
 unfold qX
 simp only[go_sem]
 refine aP (fun m ys M'=>M'=M∧∃ i:Nat,m=s.length - i∧ys=[N .i64 i]∧i≤s.length∧i≤l∧i + pc (l - i) (s.drop i)=pc l s) _ ⟨rfl,0,rfl,rfl,Nat.zero_le _,Nat.zero_le _,by simp⟩ ?_
 rintro next m ys M' hnext ⟨rfl,i,rfl,rfl,hi,hil,hp⟩
 simp only[go_sem]
 refine⟨fun hlt=>?_,fun hge=>?_⟩
 ·have hlt:i<s.length:=by have:=of_decide_eq_true hlt; omega
  have hne:s.drop i≠[]:=by intro e; have:=congrArg List.length e; simp at this; omega
  have h1:=uz hne
  have h2:=Ei hne
  rw[List.length_drop] at h2
  rw[bD hi]
  simp only[go_sem]
  refine hd hM hne (by simp; omega) fun r=>?_
  have e1:IntKind.wrap .i64 ((i:Int) + (rs (s.drop i) : Int))=((i + rs (s.drop i) : Nat) : Int):=by rw[xR (by omega) (by omega)]; omega
  simp only[go_sem,e1]
  refine⟨fun h=>?_,fun h=>?_⟩
  ·have h:l<i + rs (s.drop i):=by have:=of_decide_eq_true h; omega
   rw[Jk (by omega),Nat.add_zero] at hp
   rw[hp]; exact hQ
  ·have h:i + rs (s.drop i)≤l:=by have:=of_decide_eq_false h; omega
   rw[Ci hne (by omega),List.drop_drop] at hp
   exact hnext _ _ _ (by omega) ⟨rfl,_,rfl,rfl,by omega,h,by rw[← hp,show l - (i + rs (s.drop i))=l - i - rs (s.drop i) by omega]; omega⟩
 ·have hge:s.length≤i:=by have:=of_decide_eq_false hge; omega
  rw[List.drop_eq_nil_of_le hge,Px,Nat.add_zero] at hp
  rw[hp]; exact hQ
theorem QE {B:Base} {TB T8:Nat} {cp cs ct:aj} (hp:Jq B cp) (hs:oq TB T8 cs) (ht:su TB T8 ct) {M:RM} {s:List UInt8} {Q:ai} (hM:M.base=B) (hl:s.length≤1000000) (hQ:∀ M',ae [] M M'→Q (St (fo 0 s)) M') :
  tu TB cp cs ct (St s) M Q:=by
 unfold tu
 simp only[aF]
 generalize hM2:M.push (.row [.sc (.pointer none),.sc (.slice none 0 0)] false TB 0)=M2
 have hn2:M2.next=M.next + 1:=by rw[← hM2]; rfl
 have hk2:ae [] M M2:=by rw[← hM2]; exact(ae.refl _ _).push _
 have hb0:jc TB T8 M2.next M2 M.next []:=jc.new (by rw[← hM2]; simp[go_sem]) (by omega) (Nat.le_refl _)
 have hfl:=FJ s.length (u:=0) (s:=s) (Nat.le_refl _)
 refine aP (fun m ys M3=>∃ (t w:List UInt8) (u:Nat),m=t.length∧ys=[St t,N .i64 ((75 - u:Nat) : Int)]∧u≤1∧t.length≤s.length∧jc TB T8 M2.next M3 M.next w∧w++fo u t=fo 0 s∧fe M2.next [M.next] M2 M3) _
  ⟨s,[],0,rfl,rfl,by omega,Nat.le_refl _,hb0,rfl,fe.refl _ _ _⟩ ?_
 rintro next m ys M3 hnext ⟨t,w,u,rfl,rfl,hu,ht',hB,hw,hK⟩
 have hwl:=Uy hw
 by_cases hne:t=[]
 ·subst hne
  simp only[go_sem,bne_self_eq_false]
  rw[FE,List.append_nil] at hw
  subst hw
  refine ht hB (by omega) fun M4 k4=>hQ M4 ?_
  refine hk2.Gj (hK.trans ⟨k4.base,k4.next,fun c h1 h2=>k4.heap c h1 (by simp)⟩) (by omega) fun c hc=>.inl (by simp at hc; omega)
 ·have hne' : (t != [])=true:=by simp[hne]
  simp only[go_sem,hne']
  have hb3:M3.base=B:=by rw[hK.base,hk2.base,hM]
  refine hp hb3 (by omega) (by omega) ?_
  have hpl:=Tx t.length (l:=75 - u) (s:=t) (Nat.le_refl _)
  have hpp:=VV hne (show 4≤75 - u by omega)
  rw[Ty t.length (Nat.le_refl _) (by omega)] at hw
  generalize pc (75 - u) t=n at *
  rw[gq hpl,bD hpl]
  simp only[go_sem]
  have hx:=congrArg List.length hw
  simp only[List.length_append] at hx
  refine hs hB (by omega) fun M4 hB4 k4=>?_
  by_cases hz:t.drop n=[]
  ·rw[hz]
   simp only[go_sem,bne_self_eq_false]
   refine hnext _ _ _ (by simp; exact List.length_pos_iff.2 hne) ⟨[],_,1,rfl,rfl,by omega,Nat.zero_le _,hB4, ?_,hK.trans k4⟩
   rw[if_pos hz] at hw
   rw[FE,← hw]; simp
  ·have hz' : (t.drop n != [])=true:=by simp[hz]
   rw[if_neg hz] at hw hx
   simp only[go_sem,hz']
   simp only[List.length_append,List.length_cons,List.length_nil] at hx
   refine hs (s:=[13,10,32]) hB4 (by simp; omega) fun M5 hB5 k5=>?_
   refine hnext _ _ _ (wP hne hpp) ⟨_,_,1,rfl,rfl,by omega,by simp; omega,hB5, ?_,(hK.trans k4).trans k5⟩
   rw[← hw]; simp
def nl:List UInt8→Option (List UInt8 × List UInt8)
 | []=>none
 | c :: t=>if c.toNat=10 then some ([],t) else(nl t).map fun p=>(c :: p.1,p.2)
theorem Jr:∀ s:List UInt8,(nl s=none∧Lib.indexByte s 10=-1)∨∃ a b,nl s=some (a,b)∧Lib.indexByte s 10=(a.length:Int)∧s=a++10 :: b
 | []=>.inl ⟨rfl,rfl⟩
 | c :: t=>by
   by_cases h:c.toNat=10
   ·obtain rfl:c=10:=UInt8.toNat_inj.1 h
    exact .inr ⟨[],t,by simp[nl],by simp[Lib.indexByte],rfl⟩
   ·have hc:(c == (10:UInt8))=false:=by
     simp only[beq_eq_false_iff_ne,ne_eq]
     intro e; subst e; exact h rfl
    rcases Jr t with⟨h1,h2⟩ | ⟨a,b,h1,h2,h3⟩
    ·exact .inl ⟨by simp[nl,h,h1],by simp[Lib.indexByte,hc,h2]⟩
    ·refine .inr ⟨c :: a,b,by simp[nl,h,h1], ?_,by rw[h3]; rfl⟩
     have:((a.length:Int) == -1)=false:=by simp
     simp[Lib.indexByte,hc,h2,this]
def strip (s:List UInt8) : List UInt8:=if s.drop (s.length - 1)=[13] then s.take (s.length - 1) else s
theorem QC (a:List UInt8) : (strip a).length≤a.length:=by
 unfold strip; split
 ·simp
 ·exact Nat.le_refl _
def dE:List UInt8→List UInt8→List (List UInt8)
 | cur,[]=>if cur=[] then[] else[cur]
 | cur,c :: t=>if c.toNat=10 then strip cur :: dE [] t else dE (cur++[c]) t
theorem Gh:∀ (s cur:List UInt8),dE cur s=match nl s with | some (a,b)=>strip (cur++a) :: dE [] b | none=>if cur++s=[] then[] else[cur++s]
 | [],cur=>by simp[dE,nl]
 | c :: t,cur=>by
   by_cases h:c.toNat=10
   ·simp[dE,nl,h]
   ·simp only[dE,nl,if_neg h]
    rw[Gh t (cur++[c])]
    cases nl t with
    | none=>simp
    | some p=>simp
theorem sW:∀ (s cur:List UInt8),(dE cur s).length≤s.length + 1
 | [],cur=>by simp only[dE]; split <;> simp
 | c :: t,cur=>by
   simp only[dE]
   split
   ·have:=sW t []
    simp; omega
   ·have:=sW t (cur++[c])
    simp; omega
def PI (c:aj) : Prop:=∀ {M:RM} {s:List UInt8} {Q:ai},Q (N .i64 (Lib.indexByte s 10)) M→c [St s,St [10]] M Q
def FX (s:List UInt8) : AV:=match nl s with
 | some (a,b)=>.tup [St a,St b,Bo true]
 | none=>.tup [St s,St [],Bo false]
def vX (c:aj) : Prop:=∀ {M:RM} {s:List UInt8} {Q:ai},s.length≤1000000000→Q (FX s) M→c [St s,St [10]] M Q
theorem Iy {ci:aj} (hi:PI ci) : vX fun args M Q=>∃ a0 a1,args=[a0,a1]∧dY ci a0 a1 M Q:=by
 intro M s Q hl hQ
 refine⟨_,_,rfl, ?_⟩
 unfold dY
 refine hi ?_
 unfold FX at hQ
 rcases Jr s with⟨h1,h2⟩ | ⟨a,b,h1,h2,h3⟩
 ·rw[h1] at hQ
  simp only[go_sem,h2]
  exact⟨fun h=>absurd h (by decide),fun _=>hQ⟩
 ·rw[h1] at hQ
  have hsl:=congrArg List.length h3
  simp at hsl
  rw[h2,fq,show decide ((a.length:Int) ≥ 0)=true by simp]
  refine⟨fun _=>?_,fun h=>by cases h⟩
  rw[gq (by omega)]
  simp only[go_sem]
  rw[show IntKind.wrap .i64 ((a.length:Int) + ((1:Nat) : Int))=((a.length + 1:Nat) : Int) by rw[xR (by omega) (by omega)]; omega]
  rw[bD (by omega)]
  simp only[go_sem]
  rw[h3]
  rw[show(a++10 :: b).take a.length=a by simp,show(a++10 :: b).drop (a.length + 1)=b by rw[← List.drop_drop]; simp]
  exact hQ
theorem Ee {ci:aj} (hi:vX ci) : vX fun args M Q=>∃ a0 a1,args=[a0,a1]∧kY ci a0 a1 M Q:=by
 intro M s Q hl hQ
 refine⟨_,_,rfl, ?_⟩
 unfold kY
 refine hi hl ?_
 unfold FX at hQ ⊢
 cases h:nl s with
 | none=>rw[h] at hQ; simpa only[go_sem] using hQ
 | some p=>rw[h] at hQ; simpa only[go_sem] using hQ
def yN (c:aj) : Prop:=∀ {M:RM} {s:List UInt8} {Q:ai},s.length≤1000000000→Q (Bo (decide (s.drop (s.length - 1)=[13]))) M→c [St s,St [13]] M Q
theorem Gu:yN fun args M Q=>∃ a0 a1,args=[a0,a1]∧fE a0 a1 M Q:=by
 intro M s Q hl hQ
 refine⟨_,_,rfl, ?_⟩
 unfold fE
 simp only[dJ]
 rw[bu,bu,fq]
 by_cases h:s=[]
 ·subst h
  simp only[go_sem,show decide ((([] : List UInt8).length:Int) ≥ (([13] : List UInt8).length:Int))=false from rfl]
  exact hQ
 ·have hpos:=List.length_pos_iff.2 h
  rw[show decide ((s.length:Int) ≥ (([13] : List UInt8).length:Int))=true by simp; omega]
  simp only[go_sem]
  rw[show IntKind.wrap .i64 ((s.length:Int) - ((1:Nat) : Int))=((s.length - 1:Nat) : Int) by rw[xR (by omega) (by omega)]; omega]
  rw[bD (by omega)]
  simp only[go_sem]
  have:(s.drop (s.length - 1) == [13])=decide (s.drop (s.length - 1)=[13]):=by
   by_cases e:s.drop (s.length - 1)=[13] <;> simp[e]
  rw[this]; exact hQ
def Cr (c:aj) : Prop:=∀ {M:RM} {s:List UInt8} {Q:ai},s.length≤1000000000→Q (St (strip s)) M→c [St s,St [13]] M Q
theorem Gn {ch:aj} (hh:yN ch) : Cr fun args M Q=>∃ a0 a1,args=[a0,a1]∧fC ch a0 a1 M Q:=by
 intro M s Q hl hQ
 refine⟨_,_,rfl, ?_⟩
 unfold fC
 refine hh hl ?_
 unfold strip at hQ
 by_cases e:s.drop (s.length - 1)=[13]
 ·rw[if_pos e] at hQ
  have hne:s≠[]:=by intro h; subst h; simp at e
  have hpos:=List.length_pos_iff.2 hne
  rw[decide_eq_true e]
  refine⟨fun _=>?_,fun h=>by cases h⟩
  simp only[go_sem]
  rw[show IntKind.wrap .i64 ((s.length:Int) - ((1:Nat) : Int))=((s.length - 1:Nat) : Int) by rw[xR (by omega) (by omega)]; omega]
  rw[gq (by omega)]
  simp only[go_sem]
  exact hQ
 ·rw[if_neg e] at hQ
  rw[decide_eq_false e]
  exact⟨fun h=>(by cases h),fun _=>hQ⟩
theorem PY {ch:aj} (hh:Cr ch) : Cr fun args M Q=>∃ a0 a1,args=[a0,a1]∧kN ch a0 a1 M Q:=by
 intro M s Q hl hQ
 refine⟨_,_,rfl, ?_⟩
 unfold kN
 exact hh hl hQ
theorem Xk {n0 T:Nat} {M:RM} {v:AV} {xs:List (List UInt8)} {x:List UInt8} {K:AV→RM→Prop} (ho:Ow jd M n0 T v xs) (hn:n0≤M.next) (hl:xs.length≤2000000000)
  (hK:∀ v' M',Ow jd M' n0 T v' (xs++[x])→ae (aD v) M M'→(v'=v∨∀ b∈aD v',M.next≤b)→K v' M') :
  ek T 1 [St []] [(0,1,St x)] fun r f=>appW T 1 16 [St []] false v (f M.next) (M.push r) K:=by
 rw[jg (x:=St x) (size:=1) rfl rfl rfl]
 exact nT (E:=jd) (a:=x) ho hn (Nat.le_refl _) (by omega) (by omega) fun v' M' h1 h2 _ h4=>hK v' M' h1 h2 h4
theorem WI {n0 T:Nat} {M:RM} {v:AV} {xs:List Int} {x:Int} {K:AV→RM→Prop} (ho:Ow INT M n0 T v xs) (hn:n0≤M.next) (hl:xs.length≤2000000000)
  (hK:∀ v' M',Ow INT M' n0 T v' (xs++[x])→ae (aD v) M M'→(v'=v∨∀ b∈aD v',M.next≤b)→K v' M') :
  ek T 1 [N .i64 0] [(0,1,N .i64 x)] fun r f=>appW T 1 8 [N .i64 0] false v (f M.next) (M.push r) K:=by
 rw[jg (x:=N .i64 x) (size:=1) rfl rfl rfl]
 exact nT (E:=INT) (a:=x) ho hn (Nat.le_refl _) (by omega) (by omega) fun v' M' h1 h2 _ h4=>hK v' M' h1 h2 h4
theorem W9 {M:RM} {n0 T:Nat} {v:AV} {xs:List (List UInt8)} (ho:Ow jd M n0 T v xs) (hne:xs≠[]) : ∃ b,v=.slc b 0 xs.length (.op 1)∧Rw jd M b true T xs∧n0≤b:=by
 have ho' : Own M n0 T 1 v (jd.row xs) xs.length:=ho
 have hp:=List.length_pos_iff.2 hne
 generalize hcs:jd.row xs=cs at ho'
 generalize hn:xs.length=n at ho'
 cases ho' with
 | nil=>omega
 | ex0=>omega
 | op b n cs h1 h2 h3 h4=>exact⟨b,rfl,⟨by rw[h3,hcs],h2⟩,h1⟩
theorem Xp {M:RM} {n0 T b:Nat} {xs:List (List UInt8)} (h:Rw jd M b true T xs) (hb:n0≤b) : Ow jd M n0 T (.slc b 0 xs.length (.op 1)) xs :=
 Own.op b _ _ hb h.lt h.heap (by rw[jd.fB])
def isSp:List UInt8→Bool
 | []=>false
 | c :: _=>decide (c.toNat=32) || decide (c.toNat=9)
def glue (acc:List (List UInt8)) (x:List UInt8) : List (List UInt8):=if acc≠[]∧isSp x=true then acc.set (acc.length - 1) (acc.getD (acc.length - 1) []++x.drop 1) else acc++[x]
theorem SE (acc:List (List UInt8)) (x:List UInt8) : (glue acc x).length≤acc.length + 1:=by
 unfold glue; split <;> simp
theorem Q9 {t:List UInt8} (hne:t≠[]) : ∃ nE rest found,FX t=.tup [St nE,St rest,Bo found]∧rest.length<t.length∧nE.length + rest.length≤t.length∧dE [] t=(if found then strip nE else nE) :: dE [] rest:=by
 have hp:=List.length_pos_iff.2 hne
 rcases Jr t with⟨h1,_⟩ | ⟨a,b,h1,_,h3⟩
 ·exact⟨t,[],false,by simp[FX,h1],by simpa using hp,by simp,by rw[Gh,h1]; simp[hne,dE]⟩
 ·have:=congrArg List.length h3
  simp at this
  exact⟨a,b,true,by simp[FX,h1],by omega,by omega,by rw[Gh,h1]; simp⟩
def RP (s:List UInt8) : Prop:=∀ b∈s,b.toNat≠10
theorem RP.drop {s:List UInt8} (h:RP s) (n:Nat) : RP (s.drop n):=fun b hb=>h b (List.mem_of_mem_drop hb)
def QI (B:Base) (c:aj) : Prop:=∀ {M:RM} {s:List UInt8} {Q:ai},M.base=B→s.length≤1000000→(∀ M',ae [] M M'→Q (St (fo 0 s)) M')→c [St s] M Q
def jL (acc:List (List UInt8)) (ns:List Int) (k:Int) : List (List UInt8)→List (List UInt8) × List Int
 | []=>(acc,ns)
 | x :: xs=>jL (glue acc x) (if acc≠[]∧isSp x=true then ns else ns++[k]) (IntKind.i64.wrap (k + 1)) xs
theorem KF:∀ (xs:List (List UInt8)) (acc:List (List UInt8)) (ns:List Int) (k:Int),(jL acc ns k xs).1=xs.foldl glue acc
 | [],_,_,_=>rfl
 | x :: xs,acc,ns,k=>by rw[jL,KF xs,List.foldl_cons]
def Dn (T TI:Nat) (c:aj) : Prop:=∀ {M:RM} {s:List UInt8} {Q:ai},s.length≤100000000 →
 (∀ v u M',Ow jd M' M.next T v (jL [] [] 1 (dE [] s)).1→Ow INT M' M.next TI u (jL [] [] 1 (dE [] s)).2→(∀ b∈aD v,b ∉ aD u)→ae [] M M'→Q (.tup [v,u]) M')→c [St s] M Q
theorem Jh {T TI:Nat} {cc ct:aj} (hc:vX cc) (ht:Cr ct) : Dn T TI fun args M Q=>∃ a0,args=[a0]∧pQ cc ct T TI a0 M Q:=by
 intro M s Q hl hQ
 refine⟨_,rfl, ?_⟩
 unfold pQ
 simp only[dJ,dB]
 refine aP (fun m ys M3=>∃ (t:List UInt8) (v u:AV) (acc:List (List UInt8)) (ns:List Int) (k:Int),m=t.length∧ys=[St t,v,u,N .i64 k]∧acc.length + t.length≤s.length∧(∀ x∈acc,x.length + t.length≤s.length)∧ns.length + t.length≤s.length ∧
   Ow jd M3 M.next T v acc∧Ow INT M3 M.next TI u ns∧(∀ b∈aD v,b ∉ aD u)∧ae [] M M3∧jL acc ns k (dE [] t)=jL [] [] 1 (dE [] s)) _
  ⟨s,aB,aB,[],[],1,rfl,rfl,by simp,by simp,by simp,.nil,.nil,by simp[aD],ae.refl _ _,rfl⟩ ?_
 rintro next m ys M3 hnext ⟨t,v,u,acc,ns,k,rfl,rfl,hal,hxl,hnl,hv,hu,hd,hK,hf⟩
 by_cases hne:t=[]
 ·subst hne
  simp only[go_sem,bne_self_eq_false]
  simp only[dE,if_true,jL] at hf
  exact hQ v u M3 (by rw[← hf]; exact hv) (by rw[← hf]; exact hu) hd hK
 have hne' : (t != [])=true:=by simp[hne]
 have hpos:=List.length_pos_iff.2 hne
 obtain⟨nE,rest,found,hcut,hrl,hll,hraw⟩:=Q9 hne
 simp only[go_sem,hne']
 refine yD ?_
 refine hc (by omega) ?_
 rw[hcut]
 simp only[go_sem]
 refine bI (fun xs M'=>M'=M3∧xs=[St (if found then strip nE else nE)]) ?_ ?_
 ·rintro _ M0 ⟨hM0,rfl⟩
  subst hM0
  have hlen:(if found then strip nE else nE).length + rest.length≤t.length:=by
   split
   ·have:=QC nE; omega
   ·exact hll
  generalize (if found then strip nE else nE)=line at *
  rw[hraw,jL] at hf
  have app:glue acc line=acc++[line]∧¬ (acc≠[]∧isSp line=true)→ek T 1 [St []] [(0,1,St line)] fun r f=>appW T 1 16 [St []] false v (f M0.next) (M0.push r) fun t54 Vz =>
    ek TI 1 [N IntKind.i64 0] [(0,1,N IntKind.i64 k)] fun X8 XQ=>appW TI 1 8 [N IntKind.i64 0] false u (XQ Vz.next) (Vz.push X8) fun t58 YA =>
     next [St rest,t54,t58,N IntKind.i64 (IntKind.i64.wrap (k + 1))] YA:=fun hg=>by
   refine Xk hv hK.next (by omega) fun v' M4 h4 k4 hv'=>?_
   have hu4:Ow INT M4 M.next TI u ns:=Own.keep hu k4 (fun b hb hb'=>hd b hb' hb)
   have hK4:ae [] M M4:=hK.eD k4 fun c hc=>.inl (hv.blk c hc).1
   have hd4:∀ b∈aD v',b ∉ aD u:=fun b hb hb'=>by
    rcases hv' with rfl | hv'
    ·exact hd b hb hb'
    ·have h1:=hv' b hb
     have h2:=(hu.blk b hb').2
     omega
   refine WI hu4 hK4.next (by omega) fun u' M5 h5 k5 hu'=>?_
   have hv5:Ow jd M5 M.next T v' (acc++[line]):=Own.keep h4 k5 hd4
   have hd5:∀ b∈aD v',b ∉ aD u':=fun b hb hb'=>by
    rcases hu' with rfl | hu'
    ·exact hd4 b hb hb'
    ·have h1:=hu' b hb'
     have h2:=(h4.blk b hb).2
     omega
   refine hnext _ _ _ hrl ⟨rest,v',u',_,_,_,rfl,rfl,by simp; omega, ?_,by simp; omega,hv5,h5,hd5,hK4.eD k5 fun c hc=>.inl (hu4.blk c hc).1,by rw[hg.1,if_neg hg.2] at hf; exact hf⟩
   intro x hx
   rcases List.mem_append.1 hx with hx | hx
   ·have:=hxl x hx; omega
   ·have:x=line:=by simpa using hx
    subst this; omega
  by_cases ha:acc=[]
  ·rw[dK.len hv.sZ]
   subst ha
   rw[show((([] : List (List UInt8)).length:Nat) : Int)=0 from rfl,uK,show decide ((0:Int) > 0)=false from rfl]
   simp only[go_sem]
   exact app (by simp[glue])
  have hap:=List.length_pos_iff.2 ha
  rw[dK.len hv.sZ]
  have e0:decide (((acc.length:Nat) : Int) > 0)=true:=by simp; omega
  obtain⟨b,rfl,hrw,hb⟩:=W9 hv ha
  cases line with
  | nil =>
    simp only[go_sem,e0,bne_self_eq_false]
    exact app (by simp[glue,isSp])
  | cons c r =>
    have e1:(c :: r != [])=true:=by simp
    have w1:IntKind.wrap .i64 ((acc.length:Int) - 1)=((acc.length - 1:Nat) : Int):=by rw[xR (by omega) (by omega)]; omega
    have hld:=hrw.ak (i:=acc.length - 1) (by omega)
    have U8:acc.getD (acc.length - 1) []=acc[acc.length - 1]'(by omega):=by
     rw[List.getD_eq_getElem?_getD,List.getElem?_eq_getElem (by omega)]; rfl
    have set:isSp (c :: r)=true→(0≤IntKind.i64.wrap (↑acc.length - 1)∧IntKind.i64.wrap (↑acc.length - 1) < ↑acc.length ∧
      ∃ v,M0.cell b (IntKind.i64.wrap (↑acc.length - 1)).toNat=some v∧bN (aS (St (c :: r)) (some (N IntKind.i64 1)) none) fun t48=>aX BinOp.add v t48 fun t49 =>
        0≤IntKind.i64.wrap (↑acc.length - 1)∧IntKind.i64.wrap (↑acc.length - 1) < ↑acc.length∧t49.cells.length=1∧∃ M',M0.stores b (IntKind.i64.wrap (↑acc.length - 1)).toNat t49.cells=some M' ∧
          next [St rest,AV.slc b 0 acc.length (Cap.op 1),u,N IntKind.i64 (IntKind.i64.wrap (k + 1))] M'):=fun hs=>by
     obtain⟨hst,Wl⟩:=hrw.Py (i:=acc.length - 1) (by omega) (acc.getD (acc.length - 1) []++r)
     rw[w1,Int.toNat_natCast]
     refine⟨by omega,by omega,_,hld, ?_⟩
     rw[show aS (St (c :: r)) (some (N .i64 1)) none=some (St r) from bD (l:=1) (by simp) .i64]
     rw[U8] at hst Wl
     simp only[go_sem]
     have hxa:=hxl _ (List.getElem_mem (l:=acc) (n:=acc.length - 1) (by omega))
     have hlr:r.length + 1 + rest.length≤t.length:=by simpa using hlen
     refine⟨by omega,by omega,_,hst, ?_⟩
     have hv4:=Xp Wl hb
     rw[List.length_set] at hv4
     have hkp:ae [b] M0 (M0.put b (.row (jd.row (acc.set (acc.length - 1) (acc[acc.length - 1]'(by omega)++r))) true T 0)):=(ae.refl _ _).put _ (.inr (by simp))
     refine hnext _ _ _ hrl ⟨rest,_,u,_,ns,_,rfl,rfl,by simp; omega, ?_,by omega,hv4,Own.keep hu hkp ?_,hd,hK.put _ (.inl hb), ?_⟩
     ·intro x hx
      rcases List.mem_or_eq_of_mem_set hx with hx | rfl
      ·have:=hxl x hx; omega
      ·simp; omega
     ·intro b' hb' hm
      have:b'=b:=by simpa using hm
      subst this
      exact hd b' (by simp[aD]) hb'
     ·rw[if_pos ⟨ha,hs⟩,glue,if_pos ⟨ha,hs⟩,U8] at hf; exact hf
    simp only[go_sem,e0,e1]
    refine⟨by omega,c,rfl, ?_⟩
    by_cases h32:c.toNat=32
    ·have e32:((c.toNat:Int) == 32)=true:=by simp[h32]
     simp only[e32,go_sem]
     exact set (by simp[isSp,h32])
    ·have e32:((c.toNat:Int) == 32)=false:=by simp; omega
     simp only[e32,go_sem]
     refine⟨by omega,c,rfl, ?_⟩
     by_cases h9:c.toNat=9
     ·have e9:((c.toNat:Int) == 9)=true:=by simp[h9]
      simp only[e9,go_sem]
      exact set (by simp[isSp,h9])
     ·have e9:((c.toNat:Int) == 9)=false:=by simp; omega
      simp only[e9,go_sem]
      exact app (by simp[glue,isSp,h32,h9])
 ·intro J hJ
  cases found with
  | true =>
    refine⟨fun _=>ht (by omega) (hJ _ _ ⟨rfl,rfl⟩),fun h=>by cases h⟩
  | false=>exact⟨fun h=>(by cases h),fun _=>hJ _ _ ⟨rfl,rfl⟩⟩
def bE (x:UInt8) : List UInt8→Bool
 | []=>false
 | c :: _=>c == x
def mH (c:aj) : Prop:=∀ {M:RM} {s:List UInt8} {x:UInt8} {Q:ai},s.length≤1000000000→Q (Bo (bE x s)) M→c [St s,St [x]] M Q
theorem Dr:mH fun args M Q=>∃ a0 a1,args=[a0,a1]∧cO a0 a1 M Q:=by
 intro M s x Q hl hQ
 refine⟨_,_,rfl, ?_⟩
 unfold cO
 simp only[dJ]
 rw[bu,bu,fq]
 cases s with
 | nil =>
   rw[show decide ((([] : List UInt8).length:Int) ≥ (([x] : List UInt8).length:Int))=false from rfl]
   simp only[go_sem]
   exact hQ
 | cons c r =>
   rw[show decide (((c :: r).length:Int) ≥ (([x] : List UInt8).length:Int))=true by simp; omega]
   simp only[go_sem]
   rw[show aS (St (c :: r)) none (some (N .i64 ((1:Nat) : Int)))=some (St [c]) from gq (h:=1) (by simp) .i64]
   simp only[go_sem]
   rw[show(([c] : List UInt8) == [x])=(c == x) by simp]
   exact hQ
theorem LA {ch:aj} (hh:mH ch) : mH fun args M Q=>∃ a0 a1,args=[a0,a1]∧lu ch a0 a1 M Q:=by
 intro M s x Q hl hQ
 refine⟨_,_,rfl, ?_⟩
 unfold lu
 exact hh hl hQ
def mo (c:UInt8) : Bool:=(decide (32≤c.toNat) && decide (c.toNat≠127)) || decide (c.toNat=9)
def Lh (c:aj) : Prop:=∀ {M:RM} {x:UInt8} {Q:ai},Q (Bo (mo x)) M→c [By x] M Q
theorem Pg:Lh fun args M Q=>∃ a0,args=[a0]∧qZ a0 M Q:=by
 intro M x Q hQ
 refine⟨_,rfl, ?_⟩
 unfold qZ
 simp only[dJ]
 unfold mo at hQ
 by_cases h1:32≤x.toNat
 ·have e1:decide ((x.toNat:Int) ≥ 32)=true:=by simp; omega
  rw[fq,e1]
  by_cases h2:x.toNat=127
  ·have e2:((x.toNat:Int) != 127)=false:=by simp[h2]
   have e9:((x.toNat:Int) == 9)=false:=by simp; omega
   simp only[go_sem,e2,e9]
   simpa [h2] using hQ
  ·have e2:((x.toNat:Int) != 127)=true:=by simp; omega
   simp only[go_sem,e2]
   simpa [h1,h2] using hQ
 ·have e1:decide ((x.toNat:Int) ≥ 32)=false:=by simp; omega
  rw[fq,e1]
  by_cases h9:x.toNat=9
  ·have e9:((x.toNat:Int) == 9)=true:=by simp[h9]
   simp only[go_sem,e9]
   simpa [h1,h9] using hQ
  ·have e9:((x.toNat:Int) == 9)=false:=by simp; omega
   simp only[go_sem,e9]
   simpa [h1,h9] using hQ
def dw (c:UInt8) : UInt8:=if 65≤c.toNat∧c.toNat≤90 then UInt8.ofNat (c.toNat + 32) else c
def Jl (c:aj) : Prop:=∀ {M:RM} {s:List UInt8} {Q:ai},s.length≤1000000000→(∀ M',ae [] M M'→Q (St (s.map dw)) M')→c [St s] M Q
theorem Mr {s:List UInt8} {i:Nat} (hi:i<s.length) : ((s.take i).map dw).length=i:=by simp; omega
theorem RZ {s:List UInt8} {i:Nat} (hi:i<s.length) (x:UInt8) : ((s.take i).map dw++s.drop i).set i x=(s.take i).map dw++x :: s.drop (i + 1):=by
 have hl:=Mr hi
 rw[List.drop_eq_getElem_cons hi,List.set_append_right _ _ (by omega),hl,Nat.sub_self,List.set_cons_zero]
theorem J6 {s:List UInt8} {i:Nat} (hi:i<s.length) : (s.take (i + 1)).map dw++s.drop (i + 1)=(s.take i).map dw++dw s[i] :: s.drop (i + 1):=by
 rw[List.take_succ_eq_append_getElem hi,List.map_append,List.append_assoc]
 rfl
theorem Uz {s:List UInt8} {i:Nat} (hi:i<s.length) (h:i<((s.take i).map dw++s.drop i).length) : ((s.take i).map dw++s.drop i)[i]=s[i]:=by
 have hl:=Mr hi
 rw[List.getElem_append_right (by omega)]
 simp only[hl,Nat.sub_self,List.getElem_drop,Nat.add_zero]
theorem O3 {T8:Nat} : Jl fun args M Q=>∃ a0,args=[a0]∧rf T8 a0 M Q:=by
 intro M s Q hl hQ
 refine⟨_,rfl, ?_⟩
 unfold rf
 simp only[dJ,aF,qw,uu]
 have hk1:ae [] M (M.push (.row (BY.row s) true T8 0)):=(ae.refl _ _).push _
 have hr1:Rw BY (M.push (.row (BY.row s) true T8 0)) M.next true T8 s:=Rw.new M s
 generalize M.push (.row (BY.row s) true T8 0)=M1 at *
 refine aP (fun m ys M3=>∃ i:Nat,m=s.length - i∧ys=[N .i64 i]∧i≤s.length∧Rw BY M3 M.next true T8 ((s.take i).map dw++s.drop i)∧ae [] M M3) _
  ⟨0,rfl,rfl,Nat.zero_le _,by simpa using hr1,hk1⟩ ?_
 rintro next m ys M3 hnext ⟨i,rfl,rfl,hi,hR,hK⟩
 simp only[go_sem]
 refine⟨fun hlt=>?_,fun hge=>?_⟩
 ·have hlt:i<s.length:=by simpa using hlt
  have hlen:i<((s.take i).map dw++s.drop i).length:=by simp; omega
  have hc:=hR.ak hlen
  have w1:=lT (show i<9223372036854775807 by omega)
  rw[Uz hlt hlen] at hc
  refine⟨by omega,_,hc, ?_⟩
  have same:dw s[i]=s[i]→next [N .i64 ((i + 1:Nat) : Int)] M3:=fun h=>by
   refine hnext _ _ _ (by omega) ⟨i + 1,rfl,rfl,by omega, ?_,hK⟩
   rw[J6 hlt,h,← List.drop_eq_getElem_cons hlt]
   exact hR
  have cb:=IL s[i]
  simp only[w1]
  by_cases h1:65≤s[i].toNat
  ·have e1:((s[i].toNat:Int) ≥ 65):=by omega
   by_cases h2:s[i].toNat≤90
   ·have e2:((s[i].toNat:Int)≤90):=by omega
    have hlow:dw s[i]=UInt8.ofNat (s[i].toNat + 32):=by rw[dw,if_pos ⟨h1,h2⟩]
    have wv:N IntKind.u8 (IntKind.u8.wrap (IntKind.u8.wrap ((s[i].toNat:Int) + 97) - 65))=By (dw s[i]):=by
     rw[hlow,By,Qn,Nat.mod_eq_of_lt (by omega)]
     congr 1
     rw[show IntKind.u8.wrap ((s[i].toNat:Int) + 97)=(s[i].toNat:Int) + 97 from rH (by omega) (by omega)]
     rw[rH (by omega) (by omega)]; omega
    obtain⟨hs,hR'⟩:=hR.Py hlen (dw s[i])
    simp only[e1,e2,decide_true,go_sem]
    rw[RZ hlt] at hs hR'
    refine⟨by omega,_,(congrArg (fun x=>M3.stores M.next i [x]) wv).trans hs, ?_⟩
    refine hnext _ _ _ (by omega) ⟨i + 1,rfl,rfl,by omega, ?_,hK.put _ (.inl (Nat.le_refl _))⟩
    rw[J6 hlt]
    exact hR'
   ·have e2:¬ ((s[i].toNat:Int)≤90):=by omega
    simp only[e1,e2,decide_true,decide_false,go_sem]
    exact same (by rw[dw,if_neg (by omega)])
  ·have e1:¬ ((s[i].toNat:Int) ≥ 65):=by omega
   simp only[e1,decide_false,go_sem]
   exact same (by rw[dw,if_neg (by omega)])
 ·have:i=s.length:=by simp at hge; omega
  subst this
  rw[List.take_length,List.drop_length,List.append_nil] at hR
  have:=hR.sl (cap:=.op 1)
  rw[List.length_map] at this
  rw[Sl.str this]
  exact hQ M3 hK
theorem L9 (s:List UInt8) (h:s≠[]) : Lib.decodeL s=dec s:=by
 have hp:=List.length_pos_iff.2 h
 have g:∀ i,((⟨⟨s⟩⟩ : ByteArray).get! i).toNat=bt s i:=fun i=>by
  simp only[ByteArray.get!,bt,List.getD_eq_getElem?_getD]
  simp[getElem!_def]
  cases s[i]? <;> rfl
 first
  | (rw[Lib.decodeL]; rw[Lib.decode_at,g,g,g,g]; rfl)
  | (simp only[Lib.decodeL,dec,bt])
theorem Ej:∀ (n:Nat) (s:List UInt8),s.length≤n→Lib.validD s=uR s
 | n,s,hn=>by
   by_cases hne:s=[]
   ·subst hne; rw[Lib.validD_nil,UB]
   have hrk:rk s=if dec s=(65533,1) then 0 else(dec s).2:=by rw[rk,if_neg hne]; rfl
   rw[Lib.validD_step s hne,L9 s hne]
   have h1:=Bf s
   by_cases hb:(dec s).1=65533∧(dec s).2=1
   ·rw[if_pos hb,UD hne (by rw[hrk,if_pos (Prod.ext hb.1 hb.2)])]
   ·rw[if_neg hb]
    have h0:rk s=(dec s).2:=by
     rw[hrk,if_neg]
     intro e; rw[e] at hb; exact hb ⟨rfl,rfl⟩
    rw[Ry (by omega),h0]
    cases n with
    | zero=>exact absurd (List.eq_nil_of_length_eq_zero (by omega)) hne
    | succ n =>
      refine Ej n _ ?_
      have:=wP hne h1
      omega
def KP (B:Base) (c:aj) : Prop:=∀ {M:RM} {s:List UInt8} {Q:ai},M.base=B→s.length≤1000000000→Q (Bo (uR s)) M→c [St s] M Q
def okB (x:List UInt8) (c:UInt8) : Bool:=mo c && !(decide (c∈x))
def lG (x s:List UInt8) : Bool:=s.all (okB x) && uR s
def mJ (B:Base) (c:aj) : Prop:=∀ {M:RM} {s x:List UInt8} {Q:ai},M.base=B→s.length≤1000000000→(∀ M',ae [] M M'→Q (Bo (lG x s)) M')→c [St s,St x] M Q
theorem GQ {B:Base} {T8:Nat} {cp ci cv:aj} (hp:Lh cp) (hi:pF ci) (hv:KP B cv) : mJ B fun args M Q=>∃ a0 a1,args=[a0,a1]∧mR T8 cp ci cv a0 a1 M Q:=by
 intro M s x Q hM hl hQ
 refine⟨_,_,rfl, ?_⟩
 unfold mR
 simp only[dJ,aF,qw,uu]
 have hk1:ae [] M (M.push (.row (BY.row s) true T8 0)):=(ae.refl _ _).push _
 have hr1:Rw BY (M.push (.row (BY.row s) true T8 0)) M.next true T8 s:=Rw.new M s
 generalize M.push (.row (BY.row s) true T8 0)=M1 at *
 refine aP (fun m ys M3=>M3=M1∧∃ i:Nat,m=s.length - i∧ys=[N .i64 i]∧i≤s.length∧(s.take i).all (okB x)=true) _
  ⟨rfl,0,rfl,rfl,Nat.zero_le _,by simp⟩ ?_
 rintro next m ys M3 hnext ⟨hM3,i,rfl,rfl,hile,hall⟩
 subst hM3
 simp only[go_sem]
 refine⟨fun hlt=>?_,fun hge=>?_⟩
 ·have hlt:i<s.length:=by simpa using hlt
  have hc:=hr1.ak hlt
  have htk:=List.take_succ_eq_append_getElem hlt
  have hmem:=List.getElem_mem hlt
  generalize s[i]=c at *
  have w1:=lT (show i<9223372036854775807 by omega)
  have bad:okB x c=false→Q (Bo false) M3:=fun h=>by
   have:lG x s=false:=by
    have h2:s.all (okB x)=false:=by
     rw[List.all_eq_false]
     exact⟨c,hmem,by rw[h]; simp⟩
    rw[lG,h2]; rfl
   rw[← this]; exact hQ M3 hk1
  have good:okB x c=true→next [N .i64 ((i + 1:Nat) : Int)] M3:=fun h=>by
   refine hnext _ _ _ (by omega) ⟨rfl,i + 1,rfl,rfl,by omega, ?_⟩
   rw[htk,List.all_append,hall]
   simp[h]
  refine⟨by omega,By c,hc,hp ?_⟩
  cases hpl:mo c with
  | false =>
    simp only[go_sem]
    exact bad (by simp[okB,hpl])
  | true =>
    simp only[go_sem]
    refine hi ?_
    have hge:=qb x c
    by_cases hcx:c∈x
    ·have e1:decide (Lib.indexByte x c ≥ 0)=true:=decide_eq_true (hge.2 hcx)
     simp only[go_sem,e1]
     exact bad (by simp[okB,hcx])
    ·have e1:decide (Lib.indexByte x c ≥ 0)=false:=decide_eq_false fun h=>hcx (hge.1 h)
     simp only[go_sem,e1,w1]
     exact good (by simp[okB,hcx,hpl])
 ·have:i=s.length:=by simp at hge; omega
  subst this
  rw[List.take_length] at hall
  refine hv (by rw[hk1.base,hM]) hl ?_
  have:=hQ M3 hk1
  rw[lG,hall,Bool.true_and] at this
  exact this
def AY (x:UInt8) (s:List UInt8) : AV:=if bE x s then .tup [St (s.drop 1),Bo true] else .tup [St s,Bo false]
def jo (c:aj) : Prop:=∀ {M:RM} {s:List UInt8} {x:UInt8} {Q:ai},s.length≤1000000000→Q (AY x s) M→c [St s,St [x]] M Q
theorem Ac {ch:aj} (hh:mH ch) : jo fun args M Q=>∃ a0 a1,args=[a0,a1]∧cZ ch a0 a1 M Q:=by
 intro M s x Q hl hQ
 refine⟨_,_,rfl, ?_⟩
 unfold cZ
 refine hh hl ?_
 unfold AY at hQ
 cases h:bE x s with
 | false =>
   simp only[h,Bool.false_eq_true,if_false] at hQ
   simp only[go_sem]
   exact hQ
 | true =>
   simp only[h,if_true] at hQ
   have hne:s≠[]:=by intro e; subst e; cases h
   have hp:=List.length_pos_iff.2 hne
   simp only[go_sem]
   rw[show aS (St s) (some (N .i64 ((1:Nat) : Int))) none=some (St (s.drop 1)) from bD (by omega) .i64]
   simp only[go_sem]
   exact hQ
theorem FU {ch:aj} (hh:jo ch) : jo fun args M Q=>∃ a0 a1,args=[a0,a1]∧gJ ch a0 a1 M Q:=by
 intro M s x Q hl hQ
 refine⟨_,_,rfl, ?_⟩
 unfold gJ
 refine hh hl ?_
 unfold AY at hQ ⊢
 cases h:bE x s with
 | false=>rw[h] at hQ; simpa only[go_sem,Bool.false_eq_true,if_false] using hQ
 | true=>rw[h] at hQ; simpa only[go_sem,if_true] using hQ
def gN:List UInt8:=[97,98,99,100,101,102,103,104,105,106,107,108,109,110,111,112,113,114,115,116,117,118,119,120,121,122,48,49,50,51,52,53,54,55,56,57,45]
def Kj (B:Base) (c:aj) : Prop:=∀ {M:RM} {s:List UInt8} {Q:ai},M.base=B→s.length≤1000000000→(∀ M',ae [] M M'→Q (St (s.dropWhile (gN.contains ·))) M')→c [St s,St gN] M Q
theorem qQ {α:Type} (p:α→Bool) : ∀ l:List α,(l.dropWhile p).length≤l.length
 | []=>by simp
 | x :: l=>by
   rw[List.dropWhile_cons]
   have:=qQ p l
   split
   ·simp; omega
   ·exact Nat.le_refl _
def wk (s:List UInt8) : Nat:=s.length - ((s.map dw).dropWhile (gN.contains ·)).length
theorem vE (s:List UInt8) : wk s≤s.length:=Nat.sub_le _ _
def OV (s:List UInt8) : AV:=.tup [St ((s.take (wk s)).map dw),St (s.drop (wk s))]
def Jc (B:Base) (c:aj) : Prop:=∀ {M:RM} {s:List UInt8} {Q:ai},M.base=B→s.length≤1000000000→(∀ M',ae [] M M'→Q (OV s) M')→c [St s] M Q
theorem PH {B:Base} {cs ct:aj} (hs:Jl cs) (ht:Kj B ct) : Jc B fun args M Q=>∃ a0,args=[a0]∧uH cs ct a0 M Q:=by
 intro M s Q hM hl hQ
 refine⟨_,rfl, ?_⟩
 unfold uH
 rw[bu]
 refine hs hl fun M1 k1=>?_
 refine ht (by rw[k1.base,hM]) (by simpa using hl) fun M2 k2=>?_
 have hd:=qQ (gN.contains ·) (s.map dw)
 rw[List.length_map] at hd
 rw[bu,lY]
 rw[show IntKind.wrap .i64 ((s.length:Int) - (((s.map dw).dropWhile (gN.contains ·)).length:Int))=((wk s:Nat) : Int) by rw[xR (by omega) (by omega)]; unfold wk; omega]
 rw[gq (vE s),bD (vE s)]
 simp only[go_sem]
 have:=vE s
 refine hs (by simp; omega) fun M3 k3=>?_
 exact hQ M3 ((k1.trans k2).trans k3)
end Go.Ab.Vl
