/- Part 3 of the ground of the proofs of this seat (texts R9 to VlG2). By an AI agent. -/
import Derived.Test.YtoikjkmmdpdkbaaGreatDoorVca2
import Derived.Scope
import Derived.ChangeShapes
import Derived.OpenShut
import Derived.WideKeyArgs
import GoSem.ClaimJoined
import Derived.Carry
import Derived.JoinedCond
import Derived.SizedLaws
import GoSem.Extern.Atomic
import GoSem.Extern.MapsClone
import Derived.Laws.AppendOwn
import Derived.Lib.Bytealg
import Derived.Lib.DecodeN
import Derived.Lib.ValidU
set_option linter.unusedVariables false
set_option linter.unusedSimpArgs false
namespace Go.Ab
open Go Go.RowKit
def KU:Option Tmp→Nat
 | some d=>2 ^ d
 | none=>0
def Uj:Operand→Nat
 | .tmp t=>2 ^ t
 | _=>0
def RZ:List Operand→Nat
 | []=>0
 | x :: xs=>Uj x ||| RZ xs
def VX (L m:Nat) : Nat:=L ^^^ (L &&& m)
def G8:List Oper→Nat
 | []=>0
 | o :: os=>KU o.dst ||| G8 os
def gt:Nat:=1000000
def sG:Code→List Nat
 | .seq a b=>sG a++sG b
 | .label l=>[l]
 | _=>[]
def zC (c:Code) (l:Nat) : Code:=match findLabel c l with
 | some r=>r
 | none=>.skip
def dN:Nat→Code→Nat
 | 0,_=>0
 | f + 1,c=>match c with
   | .region _ ops _=>G8 ops.toList
   | .seq a b=>dN f a ||| dN f b
   | .cond _ a b=>dN f a ||| dN f b
   | .block _ c=>dN f c
   | .loop c=>dN f c
   | .scope c=>dN f c ||| (sG c).foldr (fun l s=>dN f (zC c l) ||| s) 0
   | _=>0
def OP:List Oper→Nat→Nat
 | [],L=>L
 | o :: os,L=>VX (OP os L) (KU o.dst) ||| RZ o.op.operands.toList
def LZ:List (Nat × Nat)→Nat→Nat
 | [],_=>0
 | (i,L) :: r,id=>match Nat.beq i id with
   | true=>L
   | false=>LZ r id
def fM (ret:Nat) : Nat→List (Nat × Nat)→Code→Nat→Nat
 | 0,_,_,_=>0
 | f + 1,env,c,L=>match c with
   | .skip=>L
   | .region _ ops _=>OP ops.toList L
   | .seq a b=>fM ret f env a (fM ret f env b L)
   | .cond c a b=>Uj c ||| fM ret f env a L ||| fM ret f env b L
   | .block id c=>fM ret f ((id,L) :: env) c L
   | .loop c=>fM ret f env c (fM ret f env c 0)
   | .exit id=>LZ env id
   | .ret=>ret
   | .scope c=>fM ret f ((sG c).map (fun l=>(gt + l,fM ret f env (zC c l) L))++env) c L
   | .label _=>L
   | .goto l=>LZ env (gt + l)
   | _=>0
def cap2 (n:Nat) : Nat:=match n with | 0=>0 | 1=>1 | _=>2
def qF (id:Nat) : Nat→Code→Nat
 | 0,_=>2
 | f + 1,c=>match c with
   | .seq a b=>cap2 (qF id f a + qF id f b)
   | .cond _ a b=>cap2 (qF id f a + qF id f b)
   | .block _ c=>qF id f c
   | .loop c=>qF id f c
   | .exit i=>match Nat.beq i id with | true=>1 | false=>0
   | _=>0
def uZ:Nat→Code→Nat
 | 0,_=>2
 | f + 1,c=>match c with
   | .skip=>1
   | .region _ _ _=>1
   | .seq a b=>cap2 (uZ f a * uZ f b)
   | .cond _ a b=>cap2 (uZ f a + uZ f b)
   | .block id c=>cap2 (uZ f c + qF id f c)
   | .scope c=>uZ f c
   | .label _=>1
   | _=>0
def yY (m:Nat) : Nat→Nat→List Nat
 | _,0=>[]
 | i,n + 1=>match Nat.testBit m i with
   | true=>i :: yY m (i + 1) n
   | false=>yY m (i + 1) n
def bitsOf (m nt:Nat) : List Nat:=yY m 0 nt
def xE (T:Tree AV) : List Nat→List AV
 | []=>[]
 | t :: ts=>(T.get t).getD .top :: xE T ts
def ag:List AV→Nat→AV
 | [],_=>.top
 | x :: _,0=>x
 | _ :: xs,n + 1=>ag xs n
def zJ (T:Tree AV) : List Nat→Tree AV
 | []=>T
 | t :: ts=>zJ (T.set t .top) ts
def LK (T:Tree AV) (xs:List AV) : Nat→List Nat→Tree AV
 | _,[]=>T
 | i,t :: ts=>LK (T.set t (ag xs i)) xs (i + 1) ts
def Az (T:Tree AV) (asg vs:List Nat) (xs:List AV) : Tree AV:=LK (zJ T asg) xs 0 vs
def au (x:AV) (p q:Prop) : Prop :=
 match x with
 | .sc (.bool b)=>(b=true→p)∧(b=false→q)
 | _=>False
def cZ (f:(List AV→RM→Prop)→Prop) (g:List AV→RM→Prop) : Prop:=f g
def bA (body:(List AV→RM→Prop)→List AV→RM→Prop) (xs:List AV) (M:RM) : Prop :=
 ∃ (I:Nat→List AV→RM→Prop) (n:Nat),I n xs M∧∀ m ys M',I m ys M'→body (fun zs M''=>∃ m',m'<m∧I m' zs M'') ys M'
abbrev K3:=Ex→Tree AV→RM→Prop
def wpC (P:Program) (nt ret:Nat) : Nat→Code→List (Nat × Nat)→Nat→Tree AV→RM→K3→Prop
 | 0,_,_,_,_,_,_=>False
 | f + 1,c,env,L,T,M,K=>match c with
   | .skip=>K .normal T M
   | .region _ ops false=>IX P nt ops ops.toList T M (fun T' M'=>K .normal T' M')
   | .region _ ops true=>QS P nt ops T M (fun T' M'=>K .normal T' M')
   | .seq a b=>match Nat.ble (uZ f a) 1 with
     | true=>wpC P nt ret f a env (fM ret f env b L) T M (fun e T' M'=>match e with
       | .normal=>wpC P nt ret f b env L T' M' K
       | e=>K e T' M')
     | false=>cZ (fun J=>wpC P nt ret f a env (fM ret f env b L) T M (fun e T' M'=>match e with
       | .normal=>J (xE T' (bitsOf (dN f a &&& fM ret f env b L) nt)) M'
       | e=>K e T' M'))
       (fun xs M'=>wpC P nt ret f b env L (Az T (bitsOf (dN f a) nt) (bitsOf (dN f a &&& fM ret f env b L) nt) xs) M' K)
   | .cond c a b=>au (tT T c) (wpC P nt ret f a env L T M K) (wpC P nt ret f b env L T M K)
   | .block id c=>match Nat.ble gt id with
     | true=>False
     | false=>wpC P nt ret f c ((id,L) :: env) L T M (fun e T' M'=>match e with
       | .exit i=>match Nat.beq i id with
         | true=>K .normal T' M'
         | false=>K (.exit i) T' M'
       | e=>K e T' M')
   | .loop c=>bA (fun next xs M'=>wpC P nt ret f c env (fM ret f env c (fM ret f env c 0)) (Az T (bitsOf (dN f c) nt) (bitsOf (dN f c &&& fM ret f env c (fM ret f env c 0)) nt) xs) M'
     (fun e T' M'=>match e with
      | .normal=>next (xE T' (bitsOf (dN f c &&& fM ret f env c (fM ret f env c 0)) nt)) M'
      | e=>K e T' M'))
     (xE T (bitsOf (dN f c &&& fM ret f env c (fM ret f env c 0)) nt)) M
   | .exit id=>match Nat.ble gt id with
     | true=>False
     | false=>K (.exit id) T M
   | .ret=>K .ret T M
   | .scope c=>wpC P nt ret f c ((sG c).map (fun l=>(gt + l,fM ret f env (zC c l) L))++env) L T M (fun e T' M'=>match e with
     | .exit i=>match Nat.ble gt i with
       | true=>match findLabel c (i - gt) with
         | some r=>wpC P nt ret f r env L T' M' (fun e T2 M2=>match e with
           | .exit j=>match Nat.ble gt j with
             | true=>False
             | false=>K (.exit j) T2 M2
           | e=>K e T2 M2)
         | none=>K (.exit i) T' M'
       | false=>K (.exit i) T' M'
     | e=>K e T' M')
   | .label _=>K .normal T M
   | .goto l=>K (.exit (gt + l)) T M
   | _=>False
def VJ (P:Program) (T:Tree AV) (M:RM) (r:ResultVar) (K:AV→Prop) : Prop :=
 match r with
 | .tmp t=>K ((T.get t).getD .top)
 | .cell a t=>match dh P t with
   | some false=>ak M ((T.get a).getD .top) K
   | some true=>match bf P t with
     | some n=>aH M ((T.get a).getD .top) n K
     | none=>False
   | none=>False
def VN (P:Program) (T:Tree AV) (M:RM) : List ResultVar→(List AV→Prop)→Prop
 | [],K=>K []
 | r :: rs,K=>VJ P T M r (fun v=>VN P T M rs (fun vs=>K (v :: vs)))
def YA (Q:ai) (M:RM) : List AV→Prop
 | [v]=>Q v M
 | vs=>Q (.tup vs) M
def I9:List ResultVar→Nat
 | []=>0
 | .tmp t :: rs=>2 ^ t ||| I9 rs
 | .cell a _ :: rs=>2 ^ a ||| I9 rs
def SE (P:Program) (fn:Func) (c:Code) (args:List AV) (M:RM) (Q:ai) : Prop :=
 wpC P (args.length + (fn.ntmps - args.length)) (I9 fn.results.toList) 1000 c [] 0 (Tree.ofList args 0 .leaf) M
  (fun e T M'=>match e with
   | .exit _=>False
   | _=>VN P T M' fn.results.toList (YA Q M'))
section
variable {P:Program} {nt ret:Nat}
def KY:Ex→Exit
 | .normal=>.normal
 | .exit i=>match Nat.ble gt i with
   | true=>.goto (i - gt)
   | false=>.exit i
 | .ret=>.ret
theorem pq {i:Nat} (h:Nat.ble gt i=false) : KY (.exit i)=.exit i:=by simp only[KY,h]
theorem zA {i:Nat} (h:Nat.ble gt i=true) : KY (.exit i)=.goto (i - gt):=by simp only[KY,h]
theorem Fa (i:Nat) : KY (.exit i)=.goto (i - gt)∨KY (.exit i)=.exit i:=by
 cases h:Nat.ble gt i with
 | true=>exact .inl (zA h)
 | false=>exact .inr (pq h)
theorem Km {c:Code} {Q:Exit→Act→World→Prop} {a:Act} {w:World} (h:c.wp P (fun e a w=>match e with
  | .goto l=>match findLabel c l with
    | some r=>r.wp P (Exit.noGoto Q) a w
    | none=>Q (.goto l) a w
  | e=>Q e a w) a w) : (Code.scope c).wp P Q a w:=by
 intro b k cs
 obtain⟨e,a₁,w₁,hq,harr⟩:=h b (.inScope c :: k) cs
 have abd:∀ {c' : Code} {a w},c'.wp P (Exit.noGoto Q) a w→∃ e a' w',Q e a' w'∧Arrives P (lone (b.at a (.code c' :: .inScope c :: k)) cs w) b k cs e a' w':=by
  intro c' a w h
  obtain⟨e,a₁,w₁,hq,harr⟩:=h b (.inScope c :: k) cs
  cases e with
  | normal=>exact⟨.normal,a₁,w₁,hq,Steps.trans harr (.one step_inScope)⟩
  | exit id=>exact⟨.exit id,a₁,w₁,hq,fun k' hk=>harr k' (by simp[exitTo,hk])⟩
  | goto l=>exact hq.elim
  | ret=>exact⟨_,a₁,w₁,hq,harr⟩
  | panic ch=>exact⟨_,a₁,w₁,hq,harr⟩
  | outgrown=>exact⟨_,a₁,w₁,hq,harr⟩
 cases e with
 | normal=>exact⟨.normal,a₁,w₁,hq,.head step_scope (Steps.trans harr (.one step_inScope))⟩
 | exit id=>exact⟨.exit id,a₁,w₁,hq,fun k' hk=>.head step_scope (harr k' (by simp[exitTo,hk]))⟩
 | goto l =>
   simp only at hq
   cases hf:findLabel c l with
   | none =>
     rw[hf] at hq
     exact⟨.goto l,a₁,w₁,hq,fun k' hk=>.head step_scope (harr k' (by simp[gotoIn,hf,hk]))⟩
   | some r =>
     rw[hf] at hq
     obtain⟨e2,a2,w2,q2,r2⟩:=abd hq
     exact⟨e2,a2,w2,q2,.of_steps (Steps.trans (.one step_scope) (harr _ (by simp[gotoIn,hf]))) r2⟩
 | ret=>exact⟨_,a₁,w₁,hq,.of_steps (.one step_scope) harr⟩
 | panic ch=>exact⟨_,a₁,w₁,hq,.of_steps (.one step_scope) harr⟩
 | outgrown=>exact⟨_,a₁,w₁,hq,.of_steps (.one step_scope) harr⟩
theorem Fq:∀ {c:Code} {l:Nat} {r:Code},findLabel c l=some r→l∈sG c
 | .seq a b,l,r,h=>by
   rw[findLabel] at h
   rw[sG,List.mem_append]
   split at h
   ·rename_i rest hr
    exact .inl (Fq hr)
   ·exact .inr (Fq h)
 | .label l',l,r,h=>by
   rw[findLabel] at h
   split at h
   ·rename_i he
    have:l'=l:=by simpa using he
    simp[sG,this]
   ·cases h
 | .skip,_,_,h=>by simp[findLabel] at h
 | .region ..,_,_,h=>by simp[findLabel] at h
 | .cond ..,_,_,h=>by simp[findLabel] at h
 | .block ..,_,_,h=>by simp[findLabel] at h
 | .loop ..,_,_,h=>by simp[findLabel] at h
 | .exit ..,_,_,h=>by simp[findLabel] at h
 | .ret,_,_,h=>by simp[findLabel] at h
 | .scope ..,_,_,h=>by simp[findLabel] at h
 | .goto ..,_,_,h=>by simp[findLabel] at h
 | .rangeFunc ..,_,_,h=>by simp[findLabel] at h
 | .refuse ..,_,_,h=>by simp[findLabel] at h
theorem NG {t f:Nat} {c:Code} : ∀ (ls:List Nat),Nat.testBit (ls.foldr (fun l s=>dN f (zC c l) ||| s) 0) t=false→∀ l∈ls,Nat.testBit (dN f (zC c l)) t=false
 | [],_,_,hl=>by cases hl
 | x :: ls,h,l,hl=>by
   simp only[List.foldr_cons,Nat.testBit_or,Bool.or_eq_false_iff] at h
   rcases List.mem_cons.1 hl with rfl | hl
   ·exact h.1
   ·exact NG ls h.2 l hl
theorem VZ {t f:Nat} {c r:Code} {l:Nat} (hf:findLabel c l=some r) (h:Nat.testBit (dN (f + 1) (.scope c)) t=false) : Nat.testBit (dN f r) t=false:=by
 simp only[dN,Nat.testBit_or,Bool.or_eq_false_iff] at h
 have:=NG _ h.2 l (Fq hf)
 unfold zC at this
 rw[hf] at this
 exact this
def Qz (P:Program) (nt:Nat) (M0:RM) (ρ0:Ren) (w0:World) (T:Tree AV) (asg:Nat) (K:K3) (e:Exit) (a:Act) (w:World) : Prop :=
 ∃ x T' M' ρ',e=KY x∧After P M0 ρ0 w0 M' ρ' w∧ic ρ' nt T' a∧(∀ t,Nat.testBit asg t=false→T'.get t=T.get t)∧K x T' M'
theorem LA {T:Tree AV} : ∀ (vs:List Nat) (i:Nat),ag (xE T vs) i=match vs[i]? with | some t=>(T.get t).getD .top | none=>.top
 | [],i=>by simp[xE,ag]
 | t :: vs,0=>by simp[xE,ag]
 | t :: vs,i + 1=>by simp[xE,ag,LA vs i]
theorem CL:∀ (asg:List Nat) (T:Tree AV) (t:Nat),(zJ T asg).get t=if t∈asg then some .top else T.get t
 | [],T,t=>by simp[zJ]
 | d :: asg,T,t=>by
   simp only[zJ,CL asg,Tree.bz,List.mem_cons]
   by_cases h1:t∈asg
   ·simp[h1]
   ·by_cases h2:t=d <;> simp[h1,h2]
theorem EU:∀ (vs:List Nat) (T:Tree AV) (xs:List AV) (i t:Nat),(t ∉ vs∧(LK T xs i vs).get t=T.get t)∨∃ j,vs[j]?=some t∧(LK T xs i vs).get t=some (ag xs (i + j))
 | [],T,xs,i,t=>.inl ⟨by simp,rfl⟩
 | d :: vs,T,xs,i,t=>by
   simp only[LK]
   rcases EU vs (T.set d (ag xs i)) xs (i + 1) t with⟨h1,h2⟩ | ⟨j,h1,h2⟩
   ·rw[Tree.bz] at h2
    by_cases e:t=d
    ·rw[if_pos e] at h2
     exact .inr ⟨0,by simp[e],h2⟩
    ·rw[if_neg e] at h2
     exact .inl ⟨by simp[e,h1],h2⟩
   ·exact .inr ⟨j + 1,by simpa using h1,by rw[h2]; congr 2; omega⟩
theorem Bd {m:Nat} : ∀ (n i t:Nat),t∈yY m i n↔i≤t∧t<i + n∧Nat.testBit m t=true
 | 0,i,t=>by simp[yY]; omega
 | n + 1,i,t=>by
   simp only[yY]
   split
   ·rename_i h
    rw[List.mem_cons,Bd n (i + 1) t]
    constructor
    ·rintro(rfl | ⟨a,b,c⟩)
     ·exact⟨Nat.le_refl _,by omega,h⟩
     ·exact⟨by omega,by omega,c⟩
    ·rintro⟨a,b,c⟩
     by_cases e:t=i
     ·exact .inl e
     ·exact .inr ⟨by omega,by omega,c⟩
   ·rename_i h
    rw[Bd n (i + 1) t]
    constructor
    ·rintro⟨a,b,c⟩; exact⟨by omega,by omega,c⟩
    ·rintro⟨a,b,c⟩
     have:t≠i:=fun e=>by subst e; rw[h] at c; cases c
     exact⟨by omega,by omega,c⟩
theorem tL {m n t:Nat} : t∈bitsOf m n↔t<n∧Nat.testBit m t=true:=by
 unfold bitsOf; rw[Bd]; simp
theorem BO {ρ:Ren} {T T' : Tree AV} {a:Act} {asg:Nat} {vs:List Nat} (h:ic ρ nt T' a) (hge:∀ t,nt≤t→ah ρ ((T.get t).getD .top) undef) (hk:∀ t,Nat.testBit asg t=false→T'.get t=T.get t) : ic ρ nt (Az T (bitsOf asg nt) vs (xE T' vs)) a:=by
 refine⟨h.size,fun t=>?_,h.defers⟩
 unfold Az
 rcases EU vs (zJ T (bitsOf asg nt)) (xE T' vs) 0 t with⟨_,h2⟩ | ⟨j,h1,h2⟩
 ·rw[h2,CL]
  split
  ·exact .top _
  ·rename_i hm
   by_cases hb:Nat.testBit asg t=true
   ·have hge' : nt≤t:=by
     rcases Nat.lt_or_ge t nt with hlt | hge
     ·exact absurd (tL.2 ⟨hlt,hb⟩) hm
     ·exact hge
    have hv:a.tmps.getD t undef=undef:=by
     rw[Array.getD_eq_getD_getElem?,Array.getElem?_eq_none (by rw[h.size]; exact hge')]; rfl
    rw[hv]; exact hge t hge'
   ·rw[← hk t (by simpa using hb)]
    exact h.val t
 ·rw[h2,Nat.zero_add,LA,h1]
  exact h.val t
theorem Gh {T:Tree AV} {asg:Nat} {vs:List Nat} {xs:List AV} (hvs:∀ t∈vs,Nat.testBit asg t=true) (t:Nat) (h:Nat.testBit asg t=false) : (Az T (bitsOf asg nt) vs xs).get t=T.get t:=by
 unfold Az
 rcases EU vs (zJ T (bitsOf asg nt)) xs 0 t with⟨_,h2⟩ | ⟨j,h1,h2⟩
 ·rw[h2,CL,if_neg]
  intro hm
  rw[(tL.1 hm).2] at h; cases h
 ·have:=hvs t (List.mem_of_getElem? h1)
  rw[h] at this; cases this
theorem ic.ge {ρ:Ren} {T:Tree AV} {a:Act} (h:ic ρ nt T a) : ∀ t,nt≤t→ah ρ ((T.get t).getD .top) undef:=by
 intro t ht
 have:=h.val t
 rw[Array.getD_eq_getD_getElem?,Array.getElem?_eq_none (by rw[h.size]; exact ht)] at this
 exact this
theorem Eg {c:Code} {Q:Exit→Act→World→Prop} : ∀ {n m:Nat} {a:Act} {w:World},n≤m→Code.rounds P c Q n a w→Code.rounds P c Q m a w
 | 0,_,_,_,_,h=>h.elim
 | n + 1,m + 1,a,w,hle,h=>by
   rw[rounds_succ] at h ⊢
   refine wp_mono h fun e a' w' hp=>?_
   cases e with
   | normal=>exact Eg (Nat.le_of_succ_le_succ hle) hp
   | exit id=>exact hp
   | ret=>exact hp
   | goto l=>exact hp
   | panic c=>exact hp
   | outgrown=>exact hp
theorem zS {t:Nat} : ∀ (l:List Oper),Nat.testBit (G8 l) t=false→∀ o∈l,o.dst≠some t
 | [],_,o,ho=>by cases ho
 | x :: l,h,o,ho=>by
   simp only[G8,Nat.testBit_or,Bool.or_eq_false_iff] at h
   rcases List.mem_cons.1 ho with rfl | ho
   ·intro e
    rw[e] at h
    simp[KU,Nat.testBit_two_pow] at h
   ·exact zS l h.2 o ho
theorem Uc {ρ:Ren} {x:AV} {u:Value} {p q:Prop} (h:au x p q) (hx:ah ρ x u) : ∃ b,u=.bool b∧(b=true→p)∧(b=false→q):=by
 unfold au at h
 split at h <;> first | (cases h; done) | skip
 rename_i b
 exact⟨b,(aM hx).1,h.1,h.2⟩
theorem RN (hP:BU P) : ∀ (f:Nat) (c:Code) (env:List (Nat × Nat)) (L:Nat) (T:Tree AV) (M:RM) (K:K3),wpC P nt ret f c env L T M K →
  ∀ (M0:RM) (ρ0:Ren) (w0:World) (ρ:Ren) (a:Act) (w:World),After P M0 ρ0 w0 M ρ w→ic ρ nt T a→c.wp P (Qz P nt M0 ρ0 w0 T (dN f c) K) a w:=by
 intro f
 induction f with
 | zero=>intro c env L T M K h; exact h.elim
 | succ f ih =>
   intro c env L T M K h M0 ρ0 w0 ρ a w hM hA
   cases c with
   | skip=>exact wp_skip ⟨.normal,T,M,ρ,rfl,hM,hA,fun _ _=>rfl,h⟩
   | region id ops d =>
     cases d with
     | false =>
       refine wp_region ?_
       have:=Al (nt:=nt) hP (ops:=ops) (Q:=Qz P nt M0 ρ0 w0 T (dN (f + 1) (.region id ops false)) K) (K:=fun T' M'=>K .normal T' M') (M0:=M0) (ρ0:=ρ0) (w0:=w0) (T0:=T)
        (fun T' M' ρ' a' w' k1 k2 k3 k4=>⟨.normal,T',M',ρ',rfl,k1,k2,fun t ht=>k4 t (zS _ ht),k3⟩) ops.toList 0 (by simp) hA hM (fun _ _=>rfl) h
       rw[Array.length_toList,← List.range_eq_range'] at this
       exact this
     | true =>
       exact Oe (nt:=nt) (T:=T) hP hM hA (fun T' M' ρ' a' w' k1 k2 k3 k4=>⟨.normal,T',M',ρ',rfl,k1,k2,fun t ht=>k4 t (zS _ ht),k3⟩) h
   | seq c1 c2 =>
     simp only[wpC] at h
     refine wp_seq ?_
     split at h
     ·refine wp_mono (ih c1 _ _ _ _ _ h M0 ρ0 w0 ρ a w hM hA) fun e a' w' hp=>?_
      obtain⟨x,T1,M1,ρ1,rfl,k1,k2,k3,k4⟩:=hp
      cases x with
      | normal =>
        refine wp_mono (ih c2 _ _ _ _ _ k4 M0 ρ0 w0 ρ1 a' w' k1 k2) fun e a2 w2 hp=>?_
        obtain⟨x,T2,M2,ρ2,he,q1,q2,q3,q4⟩:=hp
        exact⟨x,T2,M2,ρ2,he,q1,q2,fun t ht=>by
         simp only[dN,Nat.testBit_or,Bool.or_eq_false_iff] at ht
         rw[q3 t ht.2,k3 t ht.1],q4⟩
      | exit i =>
        have kk:∀ t,Nat.testBit (dN (f + 1) (.seq c1 c2)) t=false→T1.get t=T.get t:=fun t ht=>by
         simp only[dN,Nat.testBit_or,Bool.or_eq_false_iff] at ht
         exact k3 t ht.1
        rcases Fa i with he | he <;> rw[he] <;> exact⟨.exit i,T1,M1,ρ1,he.symm,k1,k2,kk,k4⟩
      | ret=>exact⟨.ret,T1,M1,ρ1,rfl,k1,k2,fun t ht=>by
        simp only[dN,Nat.testBit_or,Bool.or_eq_false_iff] at ht
        exact k3 t ht.1,k4⟩
     ·unfold cZ at h
      refine wp_mono (ih c1 _ _ _ _ _ h M0 ρ0 w0 ρ a w hM hA) fun e a' w' hp=>?_
      obtain⟨x,T1,M1,ρ1,rfl,k1,k2,k3,k4⟩:=hp
      have hge:∀ t,nt≤t→ah ρ1 ((T.get t).getD .top) undef:=fun t ht=>by
       have h1:=k2.ge t ht
       by_cases hb:Nat.testBit (dN f c1) t=false
       ·rw[k3 t hb] at h1; exact h1
       ·have h0:=hA.ge t ht
        have hu:∀ (ρ ρ' : Ren) (x:AV),ah ρ x undef→ah ρ' x undef:=by
         intro ρ ρ' x hx
         unfold undef at hx ⊢
         cases hx with
         | top=>exact .top _
         | sc v p=>exact .sc _ p
         | tup xs vs a=>cases a; exact .tup _ _ .nil
        exact hu _ _ _ h0
      cases x with
      | normal =>
        refine wp_mono (ih c2 _ _ _ _ _ k4 M0 ρ0 w0 ρ1 a' w' k1 (BO k2 hge k3)) fun e a2 w2 hp=>?_
        obtain⟨x,T2,M2,ρ2,he,q1,q2,q3,q4⟩:=hp
        refine⟨x,T2,M2,ρ2,he,q1,q2,fun t ht=>?_,q4⟩
        simp only[dN,Nat.testBit_or,Bool.or_eq_false_iff] at ht
        rw[q3 t ht.2]
        refine Gh (fun t' ht'=>?_) t ht.1
        have:=(tL.1 ht').2
        rw[Nat.testBit_and,Bool.and_eq_true] at this
        exact this.1
      | exit i =>
        have kk:∀ t,Nat.testBit (dN (f + 1) (.seq c1 c2)) t=false→T1.get t=T.get t:=fun t ht=>by
         simp only[dN,Nat.testBit_or,Bool.or_eq_false_iff] at ht
         exact k3 t ht.1
        rcases Fa i with he | he <;> rw[he] <;> exact⟨.exit i,T1,M1,ρ1,he.symm,k1,k2,kk,k4⟩
      | ret=>exact⟨.ret,T1,M1,ρ1,rfl,k1,k2,fun t ht=>by
        simp only[dN,Nat.testBit_or,Bool.or_eq_false_iff] at ht
        exact k3 t ht.1,k4⟩
   | cond cnd c1 c2 =>
     simp only[wpC] at h
     obtain⟨b,hb,h1,h2⟩:=Uc h (JL hA cnd)
     cases b with
     | true =>
       refine wp_cond_true hb (wp_mono (ih c1 _ _ _ _ _ (h1 rfl) M0 ρ0 w0 ρ a w hM hA) fun e a' w' hp=>?_)
       obtain⟨x,T1,M1,ρ1,he,k1,k2,k3,k4⟩:=hp
       exact⟨x,T1,M1,ρ1,he,k1,k2,fun t ht=>by
         simp only[dN,Nat.testBit_or,Bool.or_eq_false_iff] at ht
         exact k3 t ht.1,k4⟩
     | false =>
       refine wp_cond_false hb (wp_mono (ih c2 _ _ _ _ _ (h2 rfl) M0 ρ0 w0 ρ a w hM hA) fun e a' w' hp=>?_)
       obtain⟨x,T1,M1,ρ1,he,k1,k2,k3,k4⟩:=hp
       exact⟨x,T1,M1,ρ1,he,k1,k2,fun t ht=>by
         simp only[dN,Nat.testBit_or,Bool.or_eq_false_iff] at ht
         exact k3 t ht.2,k4⟩
   | block id c1 =>
     simp only[wpC] at h
     split at h <;> first | (cases h; done) | skip
     rename_i hid
     refine wp_block (wp_mono (ih c1 _ _ _ _ _ h M0 ρ0 w0 ρ a w hM hA) fun e a' w' hp=>?_)
     obtain⟨x,T1,M1,ρ1,rfl,k1,k2,k3,k4⟩:=hp
     cases x with
     | normal=>exact⟨.normal,T1,M1,ρ1,rfl,k1,k2,k3,k4⟩
     | ret=>exact⟨.ret,T1,M1,ρ1,rfl,k1,k2,k3,k4⟩
     | exit i =>
       simp only at k4
       split at k4
       ·rename_i he
        have he:=df he
        subst he
        rw[pq hid]
        simp only[Exit.inBlock,if_true]
        exact⟨.normal,T1,M1,ρ1,rfl,k1,k2,k3,k4⟩
       ·rename_i he
        have he:=Ha he
        cases hg:Nat.ble gt i with
        | false=>rw[pq hg]; simp only[Exit.inBlock,if_neg he]; exact⟨.exit i,T1,M1,ρ1,(pq hg).symm,k1,k2,k3,k4⟩
        | true=>rw[zA hg]; exact⟨.exit i,T1,M1,ρ1,(zA hg).symm,k1,k2,k3,k4⟩
   | loop c1 =>
     simp only[wpC] at h
     obtain⟨I,n,hI,hbody⟩:=h
     have hvs:∀ t∈bitsOf (dN f c1 &&& fM ret f env c1 (fM ret f env c1 0)) nt,Nat.testBit (dN f c1) t=true:=fun t' ht'=>by
      have:=(tL.1 ht').2
      rw[Nat.testBit_and,Bool.and_eq_true] at this
      exact this.1
     generalize hv:bitsOf (dN f c1 &&& fM ret f env c1 (fM ret f env c1 0)) nt=vs at hI hbody hvs
     have hu:∀ (ρ ρ' : Ren) (x:AV),ah ρ x undef→ah ρ' x undef:=by
      intro ρ ρ' x hx
      unfold undef at hx ⊢
      cases hx with
      | top=>exact .top _
      | sc v p=>exact .sc _ p
      | tup xs vs a=>cases a; exact .tup _ _ .nil
     have hge:∀ (ρ1:Ren) t,nt≤t→ah ρ1 ((T.get t).getD .top) undef:=fun ρ1 t ht=>hu _ _ _ (hA.ge t ht)
     have key:∀ (m:Nat) (ys:List AV) (M1:RM) (ρ1:Ren) (a1:Act) (w1:World),I m ys M1→After P M0 ρ0 w0 M1 ρ1 w1→ic ρ1 nt (Az T (bitsOf (dN f c1) nt) vs ys) a1 →
       Code.rounds P c1 (Qz P nt M0 ρ0 w0 T (dN (f + 1) (.loop c1)) K) (m + 1) a1 w1:=by
      intro m
      induction m using Nat.strongRecOn with
      | _ m ihm =>
        intro ys M1 ρ1 a1 w1 hIm hM1 hA1
        rw[rounds_succ]
        refine wp_mono (ih c1 _ _ _ _ _ (hbody m ys M1 hIm) M0 ρ0 w0 ρ1 a1 w1 hM1 hA1) fun e a' w' hp=>?_
        obtain⟨x,T2,M2,ρ2,rfl,k1,k2,k3,k4⟩:=hp
        have k3' : ∀ t,Nat.testBit (dN f c1) t=false→T2.get t=T.get t:=fun t ht=>by rw[k3 t ht]; exact Gh hvs t ht
        cases x with
        | normal =>
          obtain⟨m',hlt,hI'⟩:=k4
          exact Eg (by omega) (ihm m' hlt _ M2 ρ2 a' w' hI' k1 (BO k2 (hge ρ2) k3'))
        | exit i=>rcases Fa i with he | he <;> rw[he] <;> exact⟨.exit i,T2,M2,ρ2,he.symm,k1,k2,k3',k4⟩
        | ret=>exact⟨.ret,T2,M2,ρ2,rfl,k1,k2,k3',k4⟩
     exact wp_loop_rounds _ (key n _ M ρ a w hI hM (BO hA (hge ρ) fun _ _=>rfl))
   | exit id =>
     simp only[wpC] at h
     split at h <;> first | (cases h; done) | skip
     rename_i hid
     exact wp_exit ⟨.exit id,T,M,ρ,(pq hid).symm,hM,hA,fun _ _=>rfl,h⟩
   | ret=>exact wp_ret ⟨.ret,T,M,ρ,rfl,hM,hA,fun _ _=>rfl,h⟩
   | rangeFunc=>simp[wpC] at h
   | scope c1 =>
     simp only[wpC] at h
     have hs:∀ t,Nat.testBit (dN (f + 1) (.scope c1)) t=false→Nat.testBit (dN f c1) t=false:=fun t ht=>by
      simp only[dN,Nat.testBit_or,Bool.or_eq_false_iff] at ht
      exact ht.1
     refine Km (wp_mono (ih c1 _ _ _ _ _ h M0 ρ0 w0 ρ a w hM hA) fun e a' w' hp=>?_)
     obtain⟨x,T1,M1,ρ1,rfl,k1,k2,k3,k4⟩:=hp
     cases x with
     | normal=>exact⟨.normal,T1,M1,ρ1,rfl,k1,k2,fun t ht=>k3 t (hs t ht),k4⟩
     | ret=>exact⟨.ret,T1,M1,ρ1,rfl,k1,k2,fun t ht=>k3 t (hs t ht),k4⟩
     | exit i =>
       cases hg:Nat.ble gt i with
       | false =>
         simp only[hg] at k4
         rw[pq hg]
         exact⟨.exit i,T1,M1,ρ1,(pq hg).symm,k1,k2,fun t ht=>k3 t (hs t ht),k4⟩
       | true =>
         simp only[hg] at k4
         rw[zA hg]
         simp only
         cases hf:findLabel c1 (i - gt) with
         | none =>
           simp only[hf] at k4
           exact⟨.exit i,T1,M1,ρ1,(zA hg).symm,k1,k2,fun t ht=>k3 t (hs t ht),k4⟩
         | some r =>
           simp only[hf] at k4
           refine wp_mono (ih r _ _ _ _ _ k4 M0 ρ0 w0 ρ1 a' w' k1 k2) fun e a2 w2 hp=>?_
           obtain⟨x,T2,M2,ρ2,rfl,q1,q2,q3,q4⟩:=hp
           have q3' : ∀ t,Nat.testBit (dN (f + 1) (.scope c1)) t=false→T2.get t=T.get t:=fun t ht=>by rw[q3 t (VZ hf ht),k3 t (hs t ht)]
           cases x with
           | normal=>exact⟨.normal,T2,M2,ρ2,rfl,q1,q2,q3',q4⟩
           | ret=>exact⟨.ret,T2,M2,ρ2,rfl,q1,q2,q3',q4⟩
           | exit j =>
             cases hj:Nat.ble gt j with
             | true=>simp only[hj] at q4
             | false =>
               simp only[hj] at q4
               rw[pq hj]
               exact⟨.exit j,T2,M2,ρ2,(pq hj).symm,q1,q2,q3',q4⟩
   | label l=>exact wp_label ⟨.normal,T,M,ρ,rfl,hM,hA,fun _ _=>rfl,h⟩
   | goto l =>
     simp only[wpC] at h
     refine wp_goto ⟨.exit (gt + l),T,M,ρ, ?_,hM,hA,fun _ _=>rfl,h⟩
     rw[zA (by simp),Nat.add_sub_cancel_left]
   | refuse=>simp[wpC] at h
theorem PW {ρ:Ren} {T:Tree AV} {M:RM} {a:Act} {w:World} (hA:ic ρ nt T a) (hw:bS P ρ M w) {r:ResultVar} {K:AV→Prop} (h:VJ P T M r K) :
  ∃ v v',(DY a.tmps r).run P w=.ok v' w∧ah ρ v v'∧K v:=by
 cases r with
 | tmp t=>exact⟨_,_,rfl,hA.val t,h⟩
 | cell x t =>
   simp only[VJ] at h
   have hv:=hA.val x
   split at h <;> first | (cases h; done) | skip
   ·rename_i ha
    obtain⟨b,p,v,hx,hl,hk⟩:=h
    rw[hx] at hv
    obtain⟨i,hb,hc⟩:=dB hv
    obtain⟨u,hu,hcell⟩:=JY hw hb hl
    refine⟨v,u, ?_,hu,hk⟩
    simp only[DY,hc,asAddr,Sem.run_bind,Sem.run_pure,Result.andThen_ok,loadVar,iG ha,Bool.false_eq_true,if_false,load,Sem.run,hcell]
   ·rename_i ha
    split at h <;> first | (cases h; done) | skip
    rename_i n hs
    obtain⟨b,p,xs,hx,hl,hk⟩:=h
    rw[hx] at hv
    obtain⟨i,hb,hc⟩:=dB hv
    obtain⟨vs,hr,hlen,_,hrun⟩:=RM.lI (P:=P) hw hb hl
    exact⟨.agg xs,.agg ⟨vs⟩,by simp only[DY,hc,asAddr,Sem.run_bind,Sem.run_pure,Result.andThen_ok,loadVar,iG ha,if_true,bW hs,hrun],.agg _ _ hr,hk⟩
theorem AX {ρ:Ren} {T:Tree AV} {M:RM} {a:Act} {w:World} (hA:ic ρ nt T a) (hw:bS P ρ M w) : ∀ (rs:List ResultVar) (K:List AV→Prop),VN P T M rs K →
  ∃ vs us,(rs.mapM (DY a.tmps)).run P w=.ok us w∧aR ρ vs us∧K vs
 | [],K,h=>⟨[],[],by simp,.nil,h⟩
 | r :: rs,K,h=>by
   obtain⟨v,v',h1,h2,h3⟩:=PW hA hw h
   obtain⟨vs,us,h4,h5,h6⟩:=AX hA hw rs _ h3
   refine⟨v :: vs,v' :: us, ?_,.cons _ _ _ _ h2 h5,h6⟩
   simp only[List.mapM_cons,Sem.run_bind,h1,Result.andThen_ok,h4,Sem.run_pure]
theorem Im (hP:BU P) {f:FuncId} {fn:Func} {c:Code} {args:List AV} {M:RM} {Q:ai} (hfn:P.funcs[f]?=some fn) (hbody:fn.body=some c) (h:SE P fn c args M Q) : eD P f args M Q:=by
 refine⟨⟨fn,c,hfn,hbody⟩,fun ρ w us hargs hw=>?_⟩
 have hlen:=hargs.length
 have hA:ic ρ (args.length + (fn.ntmps - args.length)) (Tree.ofList args 0 .leaf) { tmps:=⟨us⟩++Array.replicate (fn.ntmps - (⟨us⟩ : Array Value).size) undef,defers:=[] } := by
  refine⟨by simp[hlen],fun t=>?_,rfl⟩
  rw[Tree.nD]
  by_cases ht:t<args.length
  ·rw[if_pos (by omega),Nat.sub_zero]
   obtain⟨u,hu,hv⟩:=hargs.get (n:=t) (x:=args[t]) (by simp[ht])
   rw[List.getElem?_eq_getElem ht]
   simp only[Option.getD_some]
   have:((⟨us⟩ : Array Value)++Array.replicate (fn.ntmps - (⟨us⟩ : Array Value).size) undef).getD t undef=u:=by
    rw[Array.getD_eq_getD_getElem?,Array.getElem?_append_left (by simp; omega)]
    simp[hu]
   rw[this]; exact hv
  ·rw[if_neg (by omega)]
   exact .top _
 refine calls_of_wp hfn hbody (wp_mono (RN hP 1000 c [] 0 _ M _ h M ρ w ρ _ w (After.refl hw) hA) fun e a w' hp=>?_)
 obtain⟨x,T',M',ρ',rfl,k1,k2,k3,k4⟩:=hp
 have key:(∃ vs us,(fn.results.toList.mapM (DY a.tmps)).run P w'=.ok us w'∧aR ρ' vs us∧YA Q M' vs) →
   a.defers=[]∧∃ v,(results fn a.tmps).run P w'=.ok v w'∧∃ v' v_1 YR YP,Ending.returned v=.returned v'∧After P M ρ w YR YP w'∧ah YP v_1 v'∧Q v_1 YR:=by
  rintro⟨vs,us,h1,h2,h3⟩
  have hres:(results fn a.tmps).run P w'=.ok (if h:(⟨us⟩ : Array Value).size=1 then(⟨us⟩ : Array Value)[0] else .tuple ⟨us⟩) w':=by
   have e:results fn a.tmps=(fn.results.mapM (DY a.tmps) >>= fun vs=>pure (if h:vs.size=1 then vs[0] else .tuple vs)):=rfl
   rw[e,Array.mapM_eq_mapM_toList]
   simp only[Sem.run_bind,Sem.run_map,h1,Result.andThen_ok,Sem.run_pure]
  refine⟨k2.defers,_,hres, ?_⟩
  cases h2 with
  | nil=>exact⟨_,_,M',ρ',rfl,k1,.tup _ _ .nil,h3⟩
  | cons x v xs vs2 hv htl =>
    cases htl with
    | nil=>exact⟨_,x,M',ρ',rfl,k1,hv,h3⟩
    | cons y u ys us2 hu abT=>exact⟨_,_,M',ρ',rfl,k1,.tup _ _ (.cons _ _ _ _ hv (.cons _ _ _ _ hu abT)),h3⟩
 cases x with
 | normal=>exact key (AX k2 k1.rel _ _ k4)
 | ret=>exact key (AX k2 k1.rel _ _ k4)
 | exit id=>exact k4.elim
abbrev aj:=List AV→RM→ai→Prop
def H5 (P:Program) (fn:Func) (args:List AV) (M:RM) (Q:ai) : Prop :=
 match fn.body with
 | some c=>SE P fn c args M Q
 | none=>False
theorem Ua (hP:BU P) {f:FuncId} {fn:Func} {args:List AV} {M:RM} {Q:ai} (hfn:P.funcs[f]?=some fn) (h:H5 P fn args M Q) : eD P f args M Q:=by
 unfold H5 at h
 split at h
 ·rename_i c hc; exact Im hP hfn hc h
 ·cases h
end
def RM.cell (M:RM) (b o:Nat) : Option AV:=(M.cells b).bind (·[o]?)
section
variable {M M' : RM} {K:AV→Prop} {KQ:ai}
theorem Hf {b o:Nat} {v:AV} : M.loads b o 1=some [v]↔M.cell b o=some v:=by
 unfold RM.loads RM.cell
 cases hc:M.cells b with
 | none=>simp
 | some l =>
   simp only[Option.bind_some]
   constructor
   ·intro h
    split at h
    ·rename_i hlt
     have h1:=Option.some.inj h
     have:((l.drop o).take 1)[0]?=some v:=by rw[h1]; rfl
     rw[List.getElem?_take,if_pos (by omega),List.getElem?_drop] at this
     simpa using this
    ·cases h
   ·intro h
    have hlt:=(List.getElem?_eq_some_iff.1 h).1
    rw[if_pos (by omega)]
    congr 1
    rw[List.drop_eq_getElem_cons hlt]
    simp only[List.take_succ_cons,List.take_zero]
    congr 1
    exact(List.getElem?_eq_some_iff.1 h).2
@[go_sem] theorem eZ (b o:Nat) : ak M (.ptr b o) K=∃ v,M.cell b o=some v∧K v:=by
 apply propext; unfold ak
 constructor
 ·rintro⟨b',o',v,h,hl,hk⟩; cases h; exact⟨v,Hf.1 hl,hk⟩
 ·rintro⟨v,hl,hk⟩; exact⟨b,o,v,rfl,Hf.2 hl,hk⟩
@[go_sem] theorem rO (b o n:Nat) : aH M (.ptr b o) n K=∃ vs,M.loads b o n=some vs∧K (.agg vs):=by
 apply propext; unfold aH
 constructor
 ·rintro⟨b',o',v,h,hl,hk⟩; cases h; exact⟨v,hl,hk⟩
 ·rintro⟨v,hl,hk⟩; exact⟨b,o,v,rfl,hl,hk⟩
@[go_sem] theorem Hq (b p:Nat) (x:AV) (n:Nat) (K:RM→Prop) : aA M (.ptr b p) x n K=(x.cells.length=n∧∃ M',M.stores b p x.cells=some M'∧K M'):=by
 apply propext; unfold aA
 constructor
 ·rintro⟨b',o',M',h,h1,h2,hk⟩; cases h; exact⟨h1,M',h2,hk⟩
 ·rintro⟨h1,M',h2,hk⟩; exact⟨b,p,M',rfl,h1,h2,hk⟩
def Ay (k:IntKind) (a b:Int) : Int:=k.wrap (BitVec.ofInt k.bits a &&& BitVec.ofInt k.bits b).toNat
def GM (k:IntKind) (a b:Int) : Int:=k.wrap (BitVec.ofInt k.bits a ||| BitVec.ofInt k.bits b).toNat
def Cz (k:IntKind) (a b:Int) : Int:=k.wrap (BitVec.ofInt k.bits a ^^^ BitVec.ofInt k.bits b).toNat
def XC (k:IntKind) (a b:Int) : Int:=k.wrap (BitVec.ofInt k.bits a &&& ~~~BitVec.ofInt k.bits b).toNat
def MQ (k:IntKind) (a b:Int) : Int:=k.wrap (a * 2 ^ (min b.toNat k.bits))
def uN (k:IntKind) (a b:Int) : Int:=a.fdiv (2 ^ (min b.toNat k.bits))
section
variable (k:IntKind) (a b:Int)
theorem gD {op:BinOp} {v:Value} (h:vQ op k a b=some v) : af op (N k a) (N k b) K=K (.sc v):=by
 apply propext; unfold af
 constructor
 ·rintro⟨k',a',b',u,h1,h2,h3,hk⟩; cases h1; cases h2; rw[h] at h3; cases h3; exact hk
 ·intro hk; exact⟨k,a,b,v,rfl,rfl,h,hk⟩
@[go_sem] theorem fq:af .add (N k a) (N k b) K=K (N k (k.wrap (a + b))):=gD k a b rfl
@[go_sem] theorem mM:af .sub (N k a) (N k b) K=K (N k (k.wrap (a - b))):=gD k a b rfl
@[go_sem] theorem uG:af .mul (N k a) (N k b) K=K (N k (k.wrap (a * b))):=gD k a b rfl
@[go_sem] theorem lV:af .and (N k a) (N k b) K=K (N k (Ay k a b)):=gD k a b rfl
@[go_sem] theorem jR:af .or (N k a) (N k b) K=K (N k (GM k a b)):=gD k a b rfl
@[go_sem] theorem jE:af .xor (N k a) (N k b) K=K (N k (Cz k a b)):=gD k a b rfl
@[go_sem] theorem Zm:af .andNot (N k a) (N k b) K=K (N k (XC k a b)):=gD k a b rfl
@[go_sem] theorem dV:af .eql (N k a) (N k b) K=K (Bo (a == b)):=gD k a b rfl
@[go_sem] theorem dM:af .neq (N k a) (N k b) K=K (Bo (a != b)):=gD k a b rfl
@[go_sem] theorem mP:af .lss (N k a) (N k b) K=K (Bo (decide (a<b))):=gD k a b rfl
@[go_sem] theorem oJ:af .leq (N k a) (N k b) K=K (Bo (decide (a≤b))):=gD k a b rfl
@[go_sem] theorem uL:af .gtr (N k a) (N k b) K=K (Bo (decide (a > b))):=gD k a b rfl
@[go_sem] theorem fK:af .geq (N k a) (N k b) K=K (Bo (decide (a ≥ b))):=gD k a b rfl
@[go_sem] theorem MM:af .quo (N k a) (N k b) K=(b≠0∧K (N k (k.wrap (a.tdiv b)))):=by
 apply propext; unfold af vQ
 constructor
 ·rintro⟨k',a',b',u,h1,h2,h3,hk⟩; cases h1; cases h2
  simp only at h3
  split at h3
  ·cases h3
  ·cases h3; exact⟨‹_›,hk⟩
 ·rintro⟨h0,hk⟩; exact⟨k,a,b,_,rfl,rfl,by simp only[if_neg h0],hk⟩
@[go_sem] theorem K7:af .rem (N k a) (N k b) K=(b≠0∧K (N k (a.tmod b))):=by
 apply propext; unfold af vQ
 constructor
 ·rintro⟨k',a',b',u,h1,h2,h3,hk⟩; cases h1; cases h2
  simp only at h3
  split at h3
  ·cases h3
  ·cases h3; exact⟨‹_›,hk⟩
 ·rintro⟨h0,hk⟩; exact⟨k,a,b,_,rfl,rfl,by simp only[if_neg h0],hk⟩
variable (l:IntKind)
@[go_sem] theorem DW:qi .shl (N k a) (N l b) K=(0≤b∧K (N k (MQ k a b))):=by
 apply propext; unfold qi Gq
 constructor
 ·rintro⟨k',a',l',b',u,h1,h2,h3,hk⟩; cases h1; cases h2
  split at h3
  ·cases h3
  ·cases h3; exact⟨by omega,hk⟩
 ·rintro⟨h0,hk⟩; exact⟨k,a,l,b,_,rfl,rfl,by rw[if_neg (by omega)]; rfl,hk⟩
@[go_sem] theorem uu:qi .shr (N k a) (N l b) K=(0≤b∧K (N k (uN k a b))):=by
 apply propext; unfold qi Gq
 constructor
 ·rintro⟨k',a',l',b',u,h1,h2,h3,hk⟩; cases h1; cases h2
  split at h3
  ·cases h3
  ·cases h3; exact⟨by omega,hk⟩
 ·rintro⟨h0,hk⟩; exact⟨k,a,l,b,_,rfl,rfl,by rw[if_neg (by omega)]; rfl,hk⟩
@[go_sem] theorem ab0 {l:IntKind} {a:Int} {K:AV→Prop} : F5 (N l a) K=K (St (Utf8.encode a).data.toList):=by
 apply propext; unfold F5
 constructor
 ·rintro⟨l',n,h,hk⟩; cases h; exact hk
 ·intro h; exact⟨_,_,rfl,h⟩
@[go_sem] theorem rY:pR k (N l a) K=K (N k (k.wrap a)):=by
 apply propext; unfold pR
 constructor
 ·rintro⟨l',n,h,hk⟩; cases h; exact hk
 ·intro hk; exact⟨l,a,rfl,hk⟩
@[go_sem] theorem Ye (mx:Bool) : Ic mx (N k a) (N k b) K=K (N k (if mx then(if b > a then b else a) else(if b<a then b else a))):=by
 apply propext; unfold Ic
 constructor
 ·rintro⟨k',a',b',h1,h2,hk⟩; cases h1; cases h2; exact hk
 ·intro hk; exact⟨k,a,b,rfl,rfl,hk⟩
@[go_sem] theorem YI:Rj (N k a) K=K (N k (k.wrap (0 - a))):=by
 apply propext; unfold Rj
 constructor
 ·rintro⟨k',a',h1,hk⟩; cases h1; exact hk
 ·intro hk; exact⟨k,a,rfl,hk⟩
end
@[go_sem] theorem bP (b:Bool) : eY (Bo b) K=K (Bo (!b)):=by
 apply propext; unfold eY
 constructor
 ·rintro⟨b',h,hk⟩; cases h; exact hk
 ·intro hk; exact⟨b,rfl,hk⟩
@[go_sem] theorem Z6 (neg a b:Bool) : Dx neg (Bo a) (Bo b) K=K (Bo ((a == b) != neg)):=by
 apply propext; unfold Dx
 constructor
 ·rintro⟨a',b',h,h',hk⟩; cases h; cases h'; exact hk
 ·intro hk; exact⟨a,b,rfl,rfl,hk⟩
@[go_sem] theorem Mf (t:Bool) (a b:AV) : aD (Bo t) a b K=K (if t then a else b):=by
 apply propext; unfold aD
 constructor
 ·rintro⟨t',h,hk⟩; cases h; exact hk
 ·intro hk; exact⟨t,rfl,hk⟩
@[go_sem] theorem LJ (b:Bool) (p q:Prop) : au (Bo b) p q=((b=true→p)∧(b=false→q)):=rfl
@[go_sem] theorem aah {α:Type} (b want:Bool) (f g:α→Prop) (k:α) : mi (Bo b) want f g k=if b=want then f k else g k:=rfl
@[go_sem] theorem Zb {α:Type} (want:Bool) (f g:α→Prop) (k:α) : mi .undef want f g k=g k:=rfl
@[go_sem] theorem kJ (b o:Nat) : nQ (.ptr b o) K=K (.ptr b o):=by
 apply propext; unfold nQ
 constructor
 ·rintro⟨b',o',h,hk⟩; cases h; exact hk
 ·intro hk; exact⟨b,o,rfl,hk⟩
@[go_sem] theorem ja (b o n:Nat) : aF (.ptr b o) n K=K (.ptr b (o + n)):=by
 apply propext; unfold aF
 constructor
 ·rintro⟨b',o',h,hk⟩; cases h; exact hk
 ·intro hk; exact⟨b,o,rfl,hk⟩
@[go_sem] theorem EY (b p len:Nat) (cap:Cap) (k:IntKind) (n:Int) (size:Nat) : aX (.slc b p len cap) (N k n) size K=(0≤n∧n<len∧K (.ptr b (p + n.toNat * size))):=by
 apply propext; unfold aX
 constructor
 ·rintro⟨b',p',l',c',k',n',h,h',h0,h1,hk⟩; cases h; cases h'; exact⟨h0,h1,hk⟩
 ·rintro⟨h0,h1,hk⟩; exact⟨b,p,len,cap,k,n,rfl,rfl,h0,h1,hk⟩
@[go_sem] theorem UI (b p:Nat) (k:IntKind) (n:Int) (len size:Nat) : dU (.ptr b p) (N k n) len size K=(0≤n∧n<len∧K (.ptr b (p + n.toNat * size))):=by
 apply propext; unfold dU
 constructor
 ·rintro⟨b',p',k',n',h,h',h0,h1,hk⟩; cases h; cases h'; exact⟨h0,h1,hk⟩
 ·rintro⟨h0,h1,hk⟩; exact⟨b,p,k,n,rfl,rfl,h0,h1,hk⟩
@[go_sem] theorem Tp (cs:List AV) (off:Nat) : KH (.agg cs) off K=∃ v,cs[off]?=some v∧K v:=by
 apply propext; unfold KH
 constructor
 ·rintro⟨cs',v,h,h1,hk⟩; cases h; exact⟨v,h1,hk⟩
 ·rintro⟨v,h1,hk⟩; exact⟨cs,v,rfl,h1,hk⟩
@[go_sem] theorem aav (cs:List AV) (off n:Nat) : Qe (.agg cs) off n K=(off + n≤cs.length∧K (.agg ((cs.drop off).take n))):=by
 apply propext; unfold Qe
 constructor
 ·rintro⟨cs',h,h1,hk⟩; cases h; exact⟨h1,hk⟩
 ·rintro⟨h1,hk⟩; exact⟨cs,rfl,h1,hk⟩
@[go_sem] theorem Jk (cs:List AV) (k:IntKind) (n:Int) (len:Nat) : Ht (.agg cs) (N k n) len K=(0≤n∧n<len∧∃ v,cs[n.toNat]?=some v∧K v):=by
 apply propext; unfold Ht
 constructor
 ·rintro⟨cs',k',n',v,h,h',h0,h1,h2,hk⟩; cases h; cases h'; exact⟨h0,h1,v,h2,hk⟩
 ·rintro⟨h0,h1,v,h2,hk⟩; exact⟨cs,k,n,v,rfl,rfl,h0,h1,h2,hk⟩
@[go_sem] theorem aak (cs:List AV) (k:IntKind) (n:Int) (len size:Nat) : Ql (.agg cs) (N k n) len size K=(0≤n∧n<len∧n.toNat * size + size≤cs.length∧K (.agg ((cs.drop (n.toNat * size)).take size))):=by
 apply propext; unfold Ql
 constructor
 ·rintro⟨cs',k',n',h,h',h0,h1,h2,hk⟩; cases h; cases h'; exact⟨h0,h1,h2,hk⟩
 ·rintro⟨h0,h1,h2,hk⟩; exact⟨cs,k,n,rfl,rfl,h0,h1,h2,hk⟩
@[go_sem] theorem Pb (s:List UInt8) (k:IntKind) (n:Int) : dG (St s) (N k n) K=(0≤n∧∃ b,s[n.toNat]?=some b∧K (N .u8 b.toNat)):=by
 apply propext; unfold dG
 constructor
 ·rintro⟨s',k',n',b,h,h',h0,h1,hk⟩; cases h; cases h'; exact⟨h0,b,h1,hk⟩
 ·rintro⟨h0,b,h1,hk⟩; exact⟨s,k,n,b,rfl,rfl,h0,h1,hk⟩
@[go_sem] theorem E9 (vs:List AV) (i:Nat) : aK (.tup vs) i K=∃ v,vs[i]?=some v∧K v:=by
 apply propext; unfold aK
 constructor
 ·rintro⟨cs',v,h,h1,hk⟩; cases h; exact⟨v,h1,hk⟩
 ·rintro⟨v,h1,hk⟩; exact⟨vs,v,rfl,h1,hk⟩
@[go_sem] theorem dR (v:AV) : bO (some v) K=K v:=by
 apply propext; unfold bO
 constructor
 ·rintro⟨v',h,hk⟩; cases h; exact hk
 ·intro hk; exact⟨v,rfl,hk⟩
@[go_sem] theorem vU (b o n:Nat) (c:Cap) : bZ (.slc b o n c) K=K (N .i64 n):=by
 apply propext; unfold bZ
 constructor
 ·rintro⟨n',h,hk⟩; cases h; exact hk
 ·intro hk; exact⟨n,rfl,hk⟩
@[go_sem] theorem VF (b:Nat) : bZ (.emp b) K=K (N .i64 0):=by
 apply propext; unfold bZ
 constructor
 ·rintro⟨n',h,hk⟩; cases h; exact hk
 ·intro hk; exact⟨0,rfl,hk⟩
@[go_sem] theorem UN:bZ (.sc (.slice none 0 0)) K=K (N .i64 0):=by
 apply propext; unfold bZ
 constructor
 ·rintro⟨n',h,hk⟩; cases h; exact hk
 ·intro hk; exact⟨0,rfl,hk⟩
@[go_sem] theorem bC (s:List UInt8) : aQ (St s) K=K (N .i64 s.length):=by
 apply propext; unfold aQ
 constructor
 ·rintro⟨s',h,hk⟩; cases h; exact hk
 ·intro hk; exact⟨s,rfl,hk⟩
@[go_sem] theorem abV (b o n c:Nat) : NP (.slc b o n (.ex c)) K=K (N .i64 c):=by
 apply propext; unfold NP
 constructor
 ·rintro⟨n',h,hk⟩; cases h; exact hk
 ·intro hk; exact⟨c,rfl,hk⟩
@[go_sem] theorem abM:NP (.sc (.slice none 0 0)) K=K (N .i64 0):=by
 apply propext; unfold NP
 constructor
 ·rintro⟨n',h,hk⟩; cases h; exact hk
 ·intro hk; exact⟨0,rfl,hk⟩
@[go_sem] theorem aaP (s:List UInt8) : isStr (St s) K=K (St s):=by
 apply propext; unfold isStr
 constructor
 ·rintro⟨s',h,hk⟩; cases h; exact hk
 ·intro hk; exact⟨s,rfl,hk⟩
@[go_sem] theorem OH {x:AV} {s:List UInt8} (h:zR M x=some s) : vS M x K=K (St s):=by
 apply propext; unfold vS
 constructor
 ·rintro⟨s',h',hk⟩; rw[h] at h'; cases h'; exact hk
 ·intro hk; exact⟨s,h,hk⟩
theorem oU {op:BinOp} {a b:List UInt8} {v:AV} (h:zI op a b=some v) : bn op (St a) (St b) K=K v:=by
 apply propext; unfold bn
 constructor
 ·rintro⟨a',b',u,h1,h2,h3,hk⟩; cases h1; cases h2; rw[h] at h3; cases h3; exact hk
 ·intro hk; exact⟨a,b,v,rfl,rfl,h,hk⟩
@[go_sem] theorem gP (a b:List UInt8) : bn .eql (St a) (St b) K=K (Bo (a == b)):=by rw[← iF]; exact oU rfl
@[go_sem] theorem mR (a b:List UInt8) : bn .neq (St a) (St b) K=K (Bo (a != b)):=by rw[bne,← iF]; exact oU rfl
@[go_sem] theorem aa5 (a b:List UInt8) : bn .lss (St a) (St b) K=K (Bo (Op.bytesLess a b)):=oU rfl
@[go_sem] theorem abk (a b:List UInt8) : bn .leq (St a) (St b) K=K (Bo (Op.bytesLess a b || a == b)):=by rw[← iF]; exact oU rfl
@[go_sem] theorem aaE (a b:List UInt8) : bn .gtr (St a) (St b) K=K (Bo (!(Op.bytesLess a b || a == b))):=by rw[← iF]; exact oU rfl
@[go_sem] theorem abt (a b:List UInt8) : bn .geq (St a) (St b) K=K (Bo (!Op.bytesLess a b)):=oU rfl
@[go_sem] theorem bM (a b:List UInt8) : bn .add (St a) (St b) K=(a.length + b.length≤9223372036854775807∧K (St (a++b))):=by
 apply propext; unfold bn
 constructor
 ·rintro⟨a',b',u,h1,h2,h3,hk⟩; cases h1; cases h2
  simp only[zI] at h3
  split at h3
  ·rename_i hb; cases h3; exact⟨aY hb,hk⟩
  ·cases h3
 ·rintro⟨h0,hk⟩; exact⟨a,b,_,rfl,rfl,by simp only[zI,aV.2 h0],hk⟩
theorem jq {neg:Bool} {tag:Nat} {x y:AV} {r:Bool} (ht:KN x=tag) (h:AJ x y=some r) : iA neg tag x y K=K (Bo (r != neg)):=by
 apply propext; unfold iA
 constructor
 ·rintro⟨_,r',h',hk⟩; rw[h] at h'; cases h'; exact hk
 ·intro hk; exact⟨ht,r,h,hk⟩
@[go_sem] theorem H8 (neg:Bool) : iA neg 2 (.sc (.slice none 0 0)) (.sc (.slice none 0 0)) K=K (Bo (!neg)):=(jq (tag:=2) (r:=true) rfl rfl).trans (by cases neg <;> rfl)
@[go_sem] theorem IV (neg:Bool) (b:Nat) : iA neg 2 (.emp b) (.sc (.slice none 0 0)) K=K (Bo neg):=(jq (tag:=2) (r:=false) rfl rfl).trans (by cases neg <;> rfl)
@[go_sem] theorem Ja (neg:Bool) (b o n:Nat) (c:Cap) : iA neg 2 (.slc b o n c) (.sc (.slice none 0 0)) K=K (Bo neg):=(jq (tag:=2) (r:=false) rfl rfl).trans (by cases neg <;> rfl)
@[go_sem] theorem Xx (neg:Bool) (b o:Nat) : iA neg 1 (.ptr b o) (.sc (.pointer none)) K=K (Bo neg):=(jq (tag:=1) (r:=false) rfl rfl).trans (by cases neg <;> rfl)
@[go_sem] theorem Wz (neg:Bool) : iA neg 1 (.sc (.pointer none)) (.sc (.pointer none)) K=K (Bo (!neg)):=(jq (tag:=1) (r:=true) rfl rfl).trans (by cases neg <;> rfl)
@[go_sem] theorem Xe (neg:Bool) (b:Nat) : iA neg 3 (.map b) (.sc (.map none)) K=K (Bo neg):=(jq (tag:=3) (r:=false) rfl rfl).trans (by cases neg <;> rfl)
@[go_sem] theorem X4 (neg:Bool) (f:Fn) (xs ys:List AV) : iA neg 4 (.fn f xs ys) (.sc .nilFunc) K=K (Bo neg):=(jq (tag:=4) (r:=false) rfl rfl).trans (by cases neg <;> rfl)
@[go_sem] theorem Qq (neg:Bool) (ks:List Nat) (cs ds:List AV) : mh neg ks (.agg cs) (.agg ds) K=(cs.length=ks.length∧ds.length=ks.length∧∃ r,cB ks cs ds=some r∧K (Bo (r != neg))):=by
 apply propext; unfold mh
 constructor
 ·rintro⟨a',b',r,h1,h2,h3,h4,h5,hk⟩; cases h1; cases h2; exact⟨h3,h4,r,h5,hk⟩
 ·rintro⟨h3,h4,r,h5,hk⟩; exact⟨cs,ds,r,rfl,rfl,h3,h4,h5,hk⟩
@[go_sem] theorem VH (C:FuncId→aj) (g:FuncId) (first cap args:List AV) : KD C (.fn (.func g) first cap) args M KQ=C g (first++args++cap) M KQ:=by
 apply propext; unfold KD
 constructor
 ·rintro⟨g',f',c',h,hk⟩; cases h; exact hk
 ·intro hk; exact⟨g,first,cap,rfl,hk⟩
@[go_sem] theorem jX (cs:List AV) (parts:List (Nat × Nat × AV)) : eQ cs parts K=∃ cs',nA cs parts=some cs'∧K (.agg cs'):=rfl
@[go_sem] theorem aG (x:RB) (mk:Nat→AV) : aZ x mk M KQ=KQ (mk M.next) (M.push x):=rfl
@[go_sem] theorem OJ (x:RB) (mk:Nat→AV) (k:KR) : QR x mk M k=k (mk M.next) (M.push x) (some M.next):=rfl
@[go_sem] theorem abQ (f:(List AV→RM→Prop)→Prop) (g:List AV→RM→Prop) : cZ f g=f g:=rfl
@[go_sem] theorem jr (x:AV) (xs:List AV) : ag (x :: xs) 0=x:=rfl
@[go_sem] theorem Jt (x:AV) (xs:List AV) (n:Nat) : ag (x :: xs) (n + 1)=ag xs n:=rfl
@[go_sem] theorem ZK (b:Nat) (x:RB) (mk:Nat→AV) (v:AV) : Rf (some b) M x mk v=(M.heap b=some x∧mk b=v):=rfl
end
section
variable {M M' : RM}
theorem RM.wK {b:Nat} {l:List AV} {opn:Bool} {el fz:Nat} (h:M.heap b=some (.row l opn el fz)) : M.cells b=some l:=by simp[RM.cells,h]
theorem RM.UL {b o:Nat} {l:List AV} {opn:Bool} {el fz:Nat} (h:M.heap b=some (.row l opn el fz)) : M.cell b o=l[o]?:=by simp[RM.cell,RM.wK h]
theorem RM.lH {b o k:Nat} {l:List AV} {opn:Bool} {el fz:Nat} (h:M.heap b=some (.row l opn el fz)) (hk:o + k≤l.length) : M.loads b o k=some ((l.drop o).take k):=by
 simp[RM.loads,RM.wK h,hk]
theorem RM.RA {b o:Nat} {l vs:List AV} {opn:Bool} {el fz:Nat} (h:M.heap b=some (.row l opn el fz)) (h1:o + vs.length≤l.length) (h2:fz≤o) (h3:vs.all oneCell=true) :
  M.stores b o vs=some (M.put b (.row (l.take o++vs++l.drop (o + vs.length)) opn el fz)):=by
 simp only[RM.stores,h]
 rw[if_pos ⟨h1,h2,h3⟩]
structure ae (bs:List Nat) (M M' : RM) : Prop where
 base:M'.base=M.base
 next:M.next≤M'.next
 heap:∀ c,c<M.next→c ∉ bs→M'.heap c=M.heap c
theorem ae.refl (bs:List Nat) (M:RM) : ae bs M M:=⟨rfl,Nat.le_refl _,fun _ _ _=>rfl⟩
theorem ae.trans {bs:List Nat} {M1 M2:RM} (h:ae bs M M1) (k:ae bs M1 M2) : ae bs M M2 :=
 ⟨k.base.trans h.base,Nat.le_trans h.next k.next,fun c hc hb=>(k.heap c (Nat.lt_of_lt_of_le hc h.next) hb).trans (h.heap c hc hb)⟩
theorem ae.push {bs:List Nat} (h:ae bs M M') (x:RB) : ae bs M (M'.push x) :=
 ⟨h.base,Nat.le_succ_of_le h.next,fun c hc hb=>by
  have:=h.next
  simp only[RM.push]; rw[if_neg (by omega)]; exact h.heap c hc hb⟩
theorem ae.put {bs:List Nat} (h:ae bs M M') {b:Nat} (x:RB) (hb:M.next≤b∨b∈bs) : ae bs M (M'.put b x) :=
 ⟨h.base,h.next,fun c hc hcb=>by
  simp only[RM.put]; rw[if_neg]
  ·exact h.heap c hc hcb
  ·rintro rfl; rcases hb with hb | hb
   ·omega
   ·exact hcb hb⟩
theorem ae.del {bs:List Nat} (h:ae bs M M') {b:Nat} (hb:M.next≤b∨b∈bs) : ae bs M (M'.del b) :=
 ⟨h.base,h.next,fun c hc hcb=>by
  simp only[RM.del]; rw[if_neg]
  ·exact h.heap c hc hcb
  ·rintro rfl; rcases hb with hb | hb
   ·omega
   ·exact hcb hb⟩
theorem ae.mono {bs cs:List Nat} (h:ae bs M M') (hs:∀ b∈bs,b∈cs) : ae cs M M':=⟨h.base,h.next,fun c hc hb=>h.heap c hc fun h=>hb (hs c h)⟩
theorem ae.fI {bs:List Nat} {M1 M2:RM} {cs:List Nat} (h:ae bs M M1) (k:ae cs M1 M2) (hn:∀ c∈cs,M.next≤c∨c∈bs) : ae bs M M2 :=
 ⟨k.base.trans h.base,Nat.le_trans h.next k.next,fun c hc hb=>by
  rw[k.heap c (Nat.lt_of_lt_of_le hc h.next) (fun hm=>by rcases hn c hm with h1 | h1; omega; exact hb h1),h.heap c hc hb]⟩
theorem ae.cells {bs:List Nat} (h:ae bs M M') {b:Nat} (hlt:b<M.next) (hb:b ∉ bs) : M'.cells b=M.cells b:=by
 simp only[RM.cells,h.heap b hlt hb,RM.lo,h.base]
theorem ae.cell {bs:List Nat} (h:ae bs M M') {b o:Nat} (hlt:b<M.next) (hb:b ∉ bs) : M'.cell b o=M.cell b o:=by
 simp only[RM.cell,h.cells hlt hb]
theorem ae.loads {bs:List Nat} (h:ae bs M M') {b o k:Nat} (hlt:b<M.next) (hb:b ∉ bs) : M'.loads b o k=M.loads b o k:=by
 simp only[RM.loads,h.cells hlt hb]
@[go_sem] theorem RM.aap (x:RB) : (M.push x).next=M.next + 1:=rfl
@[go_sem] theorem RM.abm (b:Nat) (x:RB) : (M.put b x).next=M.next:=rfl
@[go_sem] theorem RM.abg (b:Nat) : (M.del b).next=M.next:=rfl
@[go_sem] theorem RM.aS (x:RB) : (M.push x).heap M.next=some x:=by simp[RM.push]
theorem RM.Vd {x:RB} {c:Nat} (h:c≠M.next) : (M.push x).heap c=M.heap c:=by simp[RM.push,h]
@[go_sem] theorem RM.kI (b:Nat) (x:RB) : (M.put b x).heap b=some x:=by simp[RM.put]
end
abbrev aB:AV:=.sc (.slice none 0 0)
inductive dQ (M:RM) (size:Nat) : AV→List AV→Nat→Prop
 | nil:dQ M size aB [] 0
 | emp (b:Nat) : dQ M size (.emp b) [] 0
 | slc (b o n:Nat) (cap:Cap) (cs:List AV) : b<M.next→M.loads b o (n * size)=some cs→dQ M size (.slc b o n cap) cs n
section
variable {M M' : RM} {size:Nat} {v:AV} {cs:List AV} {n:Nat}
theorem JM {b o k:Nat} {cs:List AV} (h:M.loads b o k=some cs) : cs.length=k:=by
 unfold RM.loads at h
 split at h <;> first | (cases h; done) | skip
 split at h <;> first | (cases h; done) | skip
 rename_i hle
 have:=Option.some.inj h
 rw[← this,List.length_take,List.length_drop]; omega
theorem Ti {b o k:Nat} {cs:List AV} (h:M.loads b o k=some cs) (i:Nat) (hi:i<k) : M.cell b (o + i)=cs[i]?:=by
 unfold RM.loads at h
 unfold RM.cell
 split at h <;> first | (cases h; done) | skip
 rename_i l hl
 split at h <;> first | (cases h; done) | skip
 cases h
 simp only[hl,Option.bind_some]
 rw[List.getElem?_take,if_pos hi,List.getElem?_drop]
theorem wO {b o k:Nat} {cs:List AV} (h:M.loads b o k=some cs) (i j:Nat) (hij:i + j≤k) : M.loads b (o + i) j=some ((cs.drop i).take j):=by
 unfold RM.loads at h ⊢
 cases hl:M.cells b with
 | none=>rw[hl] at h; cases h
 | some l =>
   rw[hl] at h
   simp only at h ⊢
   split at h
   ·rename_i hle
    have h:=Option.some.inj h
    subst h
    rw[if_pos (by omega),List.drop_take,List.drop_drop,List.take_take]
    congr 2
    omega
   ·cases h
theorem FT {b o:Nat} {l:List AV} (h:M.cells b=some l) (ho:o≤l.length) : M.loads b o 0=some []:=by
 simp[RM.loads,h,ho]
theorem dQ.length (h:dQ M size v cs n) : cs.length=n * size:=by
 cases h with
 | nil=>exact(Nat.zero_mul _).symm
 | emp=>exact(Nat.zero_mul _).symm
 | slc b o n cap cs hb0 hl=>exact JM hl
theorem dQ.len (h:dQ M size v cs n) {K:AV→Prop} : bZ v K=K (N .i64 n):=by
 cases h with
 | nil=>exact UN
 | emp b=>exact VF b
 | slc b o n cap cs hb0 hl=>exact vU b o n cap
theorem dQ.nR (h:dQ M size v cs n) (zs:List AV) : nR M size zs false v=some (n,cs):=by
 cases h with
 | nil=>rfl
 | emp b=>rfl
 | slc b o n cap cs hb0 hl=>simp only[Go.Ab.nR,hl]
theorem dQ.pos (h:dQ M size v cs n) (hn:0<n) : ∃ b o cap,v=.slc b o n cap∧b<M.next∧M.loads b o (n * size)=some cs:=by
 cases h with
 | nil=>omega
 | emp b=>omega
 | slc b o n cap cs hb0 hl=>exact⟨b,o,cap,rfl,hb0,hl⟩
theorem dQ.zR (h:dQ M 1 v cs n) {l:List UInt8} (hb:di byteOf cs=some l) : zR M v=some l:=by
 cases h with
 | nil=>simp[di] at hb; subst hb; rfl
 | emp b=>simp[di] at hb; subst hb; rfl
 | slc b o n cap cs hb0 hl =>
   rw[Nat.mul_one] at hl
   simp only[Go.Ab.zR,hl]; exact hb
def aC:AV→List Nat
 | .slc b _ _ _=>[b]
 | _=>[]
theorem dQ.keep {bs:List Nat} (h:dQ M size v cs n) (hk:ae bs M M') (hb:∀ b∈aC v,b ∉ bs) : dQ M' size v cs n:=by
 cases h with
 | nil=>exact .nil
 | emp b=>exact .emp b
 | slc b o n cap cs hb0 hl =>
   exact .slc b o n cap cs (Nat.lt_of_lt_of_le hb0 hk.next) (by rw[hk.loads hb0 (hb b (by simp[aC]))]; exact hl)
inductive Own (M:RM) (base el size:Nat) : AV→List AV→Nat→Prop
 | nil:Own M base el size aB [] 0
 | ex0 (b o:Nat) : base≤b→b<M.next→(∃ l,M.cells b=some l∧o≤l.length)→Own M base el size (.slc b o 0 (.ex 0)) [] 0
 | op (b n:Nat) (cs:List AV) : base≤b→b<M.next→M.heap b=some (.row cs true el 0)→cs.length=n * size→Own M base el size (.slc b 0 n (.op size)) cs n
theorem Own.uK {base el:Nat} (h:Own M base el size v cs n) : dQ M size v cs n:=by
 cases h with
 | nil=>exact .nil
 | ex0 b o hb hlt hc =>
   obtain⟨l,hl,ho⟩:=hc
   exact .slc b o 0 _ [] hlt (by rw[Nat.zero_mul]; exact FT hl ho)
 | op b n cs hb hlt hh hl =>
   refine .slc b 0 n _ cs hlt ?_
   rw[RM.lH hh (by omega)]
   simp[← hl]
theorem Own.blk {base el:Nat} (h:Own M base el size v cs n) : ∀ b∈aC v,base≤b∧b<M.next:=by
 cases h with
 | nil=>intro b hb; simp[aC] at hb
 | ex0 b o hb hlt hc=>intro c hc; simp[aC] at hc; subst hc; exact⟨hb,hlt⟩
 | op b n cs hb hlt hh hl=>intro c hc; simp[aC] at hc; subst hc; exact⟨hb,hlt⟩
theorem Own.keep {base el:Nat} {bs:List Nat} (h:Own M base el size v cs n) (hk:ae bs M M') (hb:∀ b∈aC v,b ∉ bs) : Own M' base el size v cs n:=by
 cases h with
 | nil=>exact .nil
 | ex0 b o h1 hlt hc=>exact .ex0 b o h1 (Nat.lt_of_lt_of_le hlt hk.next) (by rw[hk.cells hlt (hb b (by simp[aC]))]; exact hc)
 | op b n cs h1 hlt hh hl=>exact .op b n cs h1 (Nat.lt_of_lt_of_le hlt hk.next) (by rw[hk.heap b hlt (hb b (by simp[aC]))]; exact hh) hl
theorem Own.mono {base base' el:Nat} (h:Own M base el size v cs n) (hb:base'≤base) : Own M base' el size v cs n:=by
 cases h with
 | nil=>exact .nil
 | ex0 b o h1 hlt hc=>exact .ex0 b o (Nat.le_trans hb h1) hlt hc
 | op b n cs h1 hlt hh hl=>exact .op b n cs (Nat.le_trans hb h1) hlt hh hl
theorem DN {base el bytes:Nat} {zs:List AV} {zeros:Bool} {x:AV} {m:Nat} {ds:List AV} {K:ai} (h:Own M base el size v cs n) (hbase:base≤M.next) (hs:1≤size) (hx:nR M size zs zeros x=some (m,ds)) (hd:ds.length=m * size)
  (h1:ds.all oneCell=true) (hb:(n + m) * bytes≤140737488355328) (hb2:n + m≤140737488355328)
  (hK:∀ v' M',Own M' base el size v' (cs++ds) (n + m)→ae (aC v) M M'→M.next≤M'.next→(v'=v∨∀ b∈aC v',M.next≤b)→K v' M') : appW el size bytes zs zeros v x M K:=by
 have hmb:m * bytes≤140737488355328:=Nat.le_trans (Nat.mul_le_mul_right _ (by omega)) hb
 refine⟨m,ds,hx,hmb,by omega, ?_⟩
 cases h with
 | nil =>
   by_cases hm:m=0
   ·subst hm
    have:ds=[]:=List.eq_nil_of_length_eq_zero (by simpa using hd)
    subst this
    exact⟨aB,M,by simp[tq],hK _ _ .nil (ae.refl _ _) (Nat.le_refl _) (.inl rfl)⟩
   ·refine⟨.slc M.next 0 m (.op size),M.push (.row ds true el 0),by simp only[tq,if_neg hm,h1,if_true],hK _ _ ?_ ((ae.refl _ _).push _) (by simp[RM.push]) (.inr fun b hb=>by simp[aC] at hb; omega)⟩
    simp only[List.nil_append,Nat.zero_add]
    exact .op _ _ _ hbase (by simp[RM.push]) (RM.aS _) hd
 | ex0 b o hb0 hlt hc =>
   obtain⟨l,hl,ho⟩:=hc
   by_cases hm:m=0
   ·subst hm
    have:ds=[]:=List.eq_nil_of_length_eq_zero (by simpa using hd)
    subst this
    exact⟨_,M,by simp[tq],hK _ _ (.ex0 b o hb0 hlt ⟨l,hl,ho⟩) (ae.refl _ _) (Nat.le_refl _) (.inl rfl)⟩
   ·refine⟨.slc M.next 0 m (.op size),M.push (.row ds true el 0), ?_,hK _ _ ?_ ((ae.refl _ _).push _) (by simp[RM.push]) (.inr fun b hb=>by simp[aC] at hb; omega)⟩
    ·have hl0:M.loads b o (0 * size)=some []:=by rw[Nat.zero_mul]; exact FT hl ho
     simp only[tq,if_neg hm]
     rw[if_neg (by omega),hl0]
     simp only[Nat.zero_add,List.nil_append]
     rw[if_pos ⟨hmb,by omega,h1⟩]
    ·simp only[List.nil_append,Nat.zero_add]
     exact .op _ _ _ hbase (by simp[RM.push]) (RM.aS _) hd
 | op b n cs hb0 hlt hh hl =>
   by_cases hm:m=0
   ·subst hm
    have:ds=[]:=List.eq_nil_of_length_eq_zero (by simpa using hd)
    subst this
    exact⟨_,M,by simp[tq],hK _ _ (by simpa using .op b n cs hb0 hlt hh hl) (ae.refl _ _) (Nat.le_refl _) (.inl rfl)⟩
   ·have hpos:1≤m * size:=Nat.mul_pos (by omega) hs
    have hsum:(n + m) * size=n * size + m * size:=Nat.add_mul _ _ _
    refine⟨.slc M.next 0 (n + m) (.op size),(M.del b).push (.row (cs++ds) true el 0), ?_,hK _ _ ?_ (((ae.refl _ _).del (.inr (by simp[aC]))).push _) (by simp[RM.push,RM.del]) (.inr fun b hb=>by simp[aC] at hb; omega)⟩
    ·simp only[tq,if_neg hm,hh,and_self,if_true]
     rw[if_neg (by omega),if_pos ⟨trivial,hb,hb2,trivial,hl,Nat.zero_le _,h1⟩]
    ·exact .op _ _ _ (show base≤M.next from hbase) (by simp[RM.push,RM.del]) (by simp[RM.push,RM.del]) (by rw[List.length_append,hl,hd,hsum])
theorem dQ.AJ (h:dQ M size v cs n) (neg:Bool) : (v=aB∧∀ K:AV→Prop,iA neg 2 v aB K=K (Bo (!neg)))∨(v≠aB∧∀ K:AV→Prop,iA neg 2 v aB K=K (Bo neg)):=by
 cases h with
 | nil=>exact .inl ⟨rfl,fun _=>H8 neg⟩
 | emp b=>exact .inr ⟨by(intro h; cases h),fun _=>IV neg b⟩
 | slc b o n cap cs hb0 hl=>exact .inr ⟨by(intro h; cases h),fun _=>Ja neg b o n cap⟩
theorem Own.lit {base el T:Nat} (M:RM) (h:base≤M.next) : Own (M.push (.row [] false T 0)) base el size (.slc M.next 0 0 (.ex 0)) [] 0 :=
 .ex0 _ _ h (by simp[RM.push]) ⟨[],by simp[RM.cells,RM.push],Nat.le_refl _⟩
end
end Go.Ab
set_option maxRecDepth 4000
namespace Go.Ab
open Go
theorem wrap_u8 (n:Nat) : IntKind.wrap .u8 (n:Int)=((n % 256:Nat) : Int):=by
 simp only[IntKind.wrap,IntKind.bits,IntKind.signed,IntKind.max,IntKind.min]
 simp
theorem wrap_u64 (n:Nat) : IntKind.wrap .u64 (n:Int)=((n % 18446744073709551616:Nat) : Int):=by
 simp only[IntKind.wrap,IntKind.bits,IntKind.signed,IntKind.max,IntKind.min]
 simp
theorem tJ {n:Int} (h0:0≤n) (h:n<256) : IntKind.wrap .u8 n=n:=by
 obtain⟨m,rfl⟩:=Int.eq_ofNat_of_zero_le h0
 rw[wrap_u8,Nat.mod_eq_of_lt (by omega)]
theorem Eu {n:Int} (h0:0≤n) (h:n<18446744073709551616) : IntKind.wrap .u64 n=n:=by
 obtain⟨m,rfl⟩:=Int.eq_ofNat_of_zero_le h0
 rw[wrap_u64,Nat.mod_eq_of_lt (by omega)]
theorem fw {n:Int} (h0 : -9223372036854775808≤n) (h:n<9223372036854775808) : IntKind.wrap .i64 n=n:=by
 rw[IntKind.wrap_i64]; omega
theorem Uk (n:Nat) : (UInt8.ofNat n).toNat=n % 256:=by simp
end Go.Ab
namespace Go.Ab
open Go Go.RowKit
section
variable {P:Program}
theorem bS.opened {ρ:Ren} {M:RM} {w:World} {b n:Nat} {l:List AV} {el:Nat} {u:Value} (hw:bS P ρ M w) (hh:M.heap b=some (.row l true el 0)) (hl:l.length=n) (hv:ah ρ (.slc b 0 n (.op 1)) u) :
  ∃ c,n≤c∧ah ρ (.slc b 0 n (.ex c)) u∧bS P ρ (M.put b (.row (l++List.replicate (c - n) .top) true el 0)) w:=by
 obtain⟨A,hA⟩:=hw
 obtain⟨k,i,hb,hp,he,hk,rfl⟩:=EJ hv
 rcases hA.blk b _ hh with⟨y,hy,hle⟩ | ⟨_,e0,_⟩
 ·cases y <;> first | exact hle.elim | skip
  rename_i nn tree zs opn elem fz
  obtain⟨r1,rfl,rfl,rfl,r5⟩:=hle
  obtain⟨ob,hob,cs,fr,rfl,hrow⟩:=hA.rel.blk b i _ hb hy
  obtain⟨h0,hcs,hels⟩:=hrow.opn rfl
  have hk0:k=0:=by
   rcases Nat.eq_zero_or_pos k with e | e
   ·exact e
   ·have:0<k * i.esz:=Nat.mul_pos e h0
    omega
  subst hk0
  have hsh:=hrow.sh0
  rw[← he,Nat.mul_one,hsh,Nat.zero_add] at hcs
  refine⟨i.gI,by omega, ?_,⟨{ A with heap:=A.heap.set b (.row i.gI (Tree.ofList (l++List.replicate (i.gI - n) .top) 0 .leaf) [] true elem 0) },hA.next,⟨hA.rel.dom,fun b' i' x hb' hx=>?_,fun b1 b2 i1 i2 x1 x2 p1 p2 g1 g2 e=>?_,fun b' x hx=>?_,fun b' i' x hb' hx=>?_,hA.rel.inv⟩,hA.size,fun c x hx=>?_,hA.old⟩⟩
  ·have:=ah.iK (ρ:=ρ) b 0 n i.gI i hb
   rw[Nat.zero_mul] at *
   simpa using this
  ·simp only[Tree.bz] at hx
   by_cases e:b'=b
   ·subst e
    rw[if_pos rfl] at hx
    cases hx
    rw[hb] at hb'; cases hb'
    refine⟨_,hob,cs,fr,rfl,⟨by rw[hsh]; omega,fun j x hj=>?_,fun j h1 h2=>hrow.free j h1 h2,hrow.mark,fun _=>⟨h0,by rw[hsh,← he]; omega,hels⟩,hsh⟩⟩
    obtain⟨hjlt,hj2⟩:=lh hj
    rw[Tree.nD] at hj2
    split at hj2
    ·rename_i hlt
     rw[Nat.sub_zero] at hj2
     by_cases hjl:j<l.length
     ·rw[List.getElem?_append_left hjl] at hj2
      exact hrow.val j x (r5 j x hj2)
     ·rw[List.getElem?_append_right (by omega),List.getElem?_replicate] at hj2
      split at hj2
      ·cases hj2
       exact⟨cs[j]'(by omega),by rw[hsh,Nat.zero_add]; simp,.top _⟩
      ·cases hj2
    ·simp[Tree.get] at hj2
   ·rw[if_neg e] at hx
    exact hA.rel.blk b' i' x hb' hx
  ·have q:∀ {b1 x1},(A.heap.set b (iX.row i.gI (Tree.ofList (l++List.replicate (i.gI - n) .top) 0 .leaf) [] true elem 0)).get b1=some x1→∃ y,A.heap.get b1=some y:=by
    intro b1 x1 h
    rw[Tree.bz] at h
    by_cases e:b1=b
    ·subst e; exact⟨_,hy⟩
    ·rw[if_neg e] at h; exact⟨_,h⟩
   obtain⟨y1,e1⟩:=q g1
   obtain⟨y2,e2⟩:=q g2
   exact hA.rel.sep _ _ _ _ _ _ p1 p2 e1 e2 e
  ·simp only[Tree.bz] at hx
   by_cases e:b'=b
   ·subst e; exact hA.rel.top _ _ hy
   ·rw[if_neg e] at hx; exact hA.rel.top _ _ hx
  ·simp only[Tree.bz] at hx
   by_cases e:b'=b
   ·subst e; exact hA.rel.lo _ _ _ hb' hy
   ·rw[if_neg e] at hx; exact hA.rel.lo _ _ _ hb' hx
  ·simp only[RM.put] at hx
   simp only[Tree.bz]
   by_cases e:c=b
   ·subst e
    rw[if_pos rfl] at hx ⊢
    cases hx
    refine .inl ⟨_,rfl,by simp; omega,rfl,rfl,rfl,fun j v hj=>?_⟩
    have hjl:=(List.getElem?_eq_some_iff.1 hj).1
    exact ru (by simp at hjl; omega) (by rw[Tree.nD,if_pos (by omega)]; simpa using hj)
   ·rw[if_neg e] at hx ⊢
    exact hA.blk c x hx
 ·cases e0
end
def RM.old (base:Base) (w:World) : RM where
 next:=base.n
 heap:=fun b=>if b<base.n then(match w.heap[b]? with | some (.cells c _ _)=>some (.ro c) | _=>none) else none
 base:=base
def NB (n:Nat) : Ren:=fun b=>if b<n then some ⟨b,0,0,0⟩ else none
theorem UF {P:Program} {base:Base} {w:World} (hn:base.n=w.heap.size) (hi:base.inv w) : bS P (NB base.n) (RM.old base w) w:=by
 refine⟨{ next:=base.n,heap:=.leaf },rfl,⟨fun b i h=>?_,fun b i x _ h=>by simp[Tree.get] at h,fun b _ i _ x _ _ _ h=>by simp[Tree.get] at h,fun b x h=>by simp[Tree.get] at h,fun b i x _ h=>by simp[Tree.get] at h,hi⟩,by simp[RM.old,RM.lo,hn],fun b x h=>.inr ?_,fun c hc=>by have hc' : c<base.n:=hc; simp only[NB]; rw[if_pos hc']⟩
 ·simp only[NB] at h
  split at h <;> first | (cases h; done) | skip
  cases h
  exact⟨by assumption,by rw[← hn]; assumption⟩
 ·simp only[RM.old] at h
  split at h <;> first | (cases h; done) | skip
  rename_i hlt
  split at h <;> first | (cases h; done) | skip
  rename_i c el fr hh
  cases h
  exact⟨c,rfl,hlt,el,fr,hh⟩
theorem RM.TV {base:Base} {w:World} {b:Nat} {c:Array Value} {el:TypeId} {fr:_} (hb:b<base.n) (h:w.heap[b]?=some (.cells c el fr)) : (RM.old base w).cells b=some (c.toList.map (oz base.n)):=by
 simp only[RM.cells,RM.old,if_pos hb,h]
def Be (lo:Nat) : Value→AV
 | .agg cs=>.agg (cs.toList.map (oz lo))
 | v=>oz lo v
theorem Mq {ρ:Ren} {lo:Nat} (h:∀ c,c<lo→ρ c=some ⟨c,0,0,0⟩) : ∀ (vs:List Value),aR ρ (vs.map (oz lo)) vs
 | []=>.nil
 | v :: vs=>.cons _ _ _ _ (EZ h v) (Mq h vs)
theorem U7 {ρ:Ren} {lo:Nat} (h:∀ c,c<lo→ρ c=some ⟨c,0,0,0⟩) (v:Value) : ah ρ (Be lo v) v:=by
 unfold Be
 split
 ·exact .agg _ _ (Mq h _)
 ·exact EZ h v
theorem JO {ρ:Ren} {lo:Nat} (h:∀ c,c<lo→ρ c=some ⟨c,0,0,0⟩) : ∀ (vs:List Value),aR ρ (vs.map (Be lo)) vs
 | []=>.nil
 | v :: vs=>.cons _ _ _ _ (U7 h v) (JO h vs)
theorem eD.close {P:Program} {f:FuncId} {base:Base} {w:World} {us:Array Value} (hn:base.n=w.heap.size) (hi:base.inv w)
  (h:eD P f (us.toList.map (Be base.n)) (RM.old base w) fun v _=>v=Bo true) :
  Calls P f us w fun e w'=>e=.returned (.bool true)∧Below w.heap.size w w':=by
 have hr:=UF (P:=P) hn hi
 refine((h.2 (NB base.n) w us.toList (JO (fun c hc=>by simp only[NB]; rw[if_pos hc]) _) hr)).mono fun e w' hR=>?_
 obtain⟨v',v,M',ρ',rfl,k1,k2,rfl⟩:=hR
 obtain⟨rfl,_⟩:=aM k2
 refine⟨rfl,k1.step.os,k1.step.tape,k1.step.output,k1.step.size,fun k hk=>k1.step.low k ?_⟩
 show k<base.n
 rw[hn]; exact hk
def Mt:Option TypeDesc→Bool
 | some .bool | some (.int _) | some .string | some (.slice _) | some (.struct _) | some (.array _ _)=>false
 | _=>true
inductive Fits (P:Program) (M:RM) : TypeId→List AV→Prop
 | bool (t:TypeId) (b:Bool) : P.underlying t=some .bool→Fits P M t [Bo b]
 | int (t:TypeId) (k:IntKind) (n:Int) : P.underlying t=some (.int k)→k.min≤n→n≤k.max→Fits P M t [N k n]
 | str (t:TypeId) (s:List UInt8) : P.underlying t=some .string→s.length≤reachBytes→Fits P M t [St s]
 | Y5 (t e:TypeId) : P.underlying t=some (.slice e)→Fits P M t [aB]
 | emp (t e:TypeId) (b:Nat) : P.underlying t=some (.slice e)→Fits P M t [.emp b]
 | slc (t e:TypeId) (b o n c:Nat) (cs:List AV) : P.underlying t=some (.slice e)→b<M.next→n≤c→c * P.bytesOf e≤reachBytes→M.loads b o (n * P.cellsOf e)=some cs →
   (∀ i,i<n→Fits P M e ((cs.drop (i * P.cellsOf e)).take (P.cellsOf e)))→Fits P M t [.slc b o n (.ex c)]
 | struct (t:TypeId) (fs:Array Field) (cs:List AV) : P.underlying t=some (.struct fs)→cs.length=P.cellsOf t →
   (∀ (i:Nat) (f:Field),fs[i]?=some f→Fits P M f.type ((cs.drop f.offset).take (P.cellsOf f.type)))→Fits P M t cs
 | array (t e:TypeId) (n:Nat) (cs:List AV) : P.underlying t=some (.array n e)→cs.length=P.cellsOf t →
   (∀ i,i<n→Fits P M e ((cs.drop (i * P.cellsOf e)).take (P.cellsOf e)))→Fits P M t cs
 | other (t:TypeId) (cs:List AV) : Mt (P.underlying t)=true→Fits P M t cs
 | zero (t e:TypeId) (cs:List AV) : P.underlying t=some (.slice e)→P.cellsOf e=0→Fits P M t cs
theorem Br (a:Addr) : a.add 0=a:=by simp[Addr.add]
theorem tH {w:World} {base:Nat} {a:Addr} {n:Nat} {cs:List Value} (h:w.cells? base a n=some cs) : cs.length=n∧∀ i,i<n→w.cell? (a.add i)=cs[i]?:=by
 unfold World.cells? at h
 split at h
 ·exact⟨by simpa using mapM_some_length h,fun i hi=>mapM_some_get h i i (by simp[hi])⟩
 ·cases h
theorem cell?_at {w:World} {a:Addr} {v:Value} (h:w.cell? a=some v) : ∃ c el fr,w.heap[a.block]?=some (.cells c el fr)∧a.spot=none∧a.off<c.size∧c[a.off]?=some v:=by
 unfold World.cell? at h
 split at h
 ·rename_i c el fr hh
  split at h
  ·cases h
  ·rename_i hs
   exact⟨c,el,fr,hh,by simpa using hs,(Array.getElem?_eq_some_iff.1 h).1,h⟩
 ·cases h
section
variable {H:Type} {enc:TypeId × Value→H} {P:Program} {base:Base} {w:World}
theorem qH {e:TypeId} {ds:List (DataW H)} {d:DataW H} (hd:d∈ds) {x:Nat} (hx:x∈d.weights P e) : x∈DataW.weightsAll P e ds:=by
 induction ds with
 | nil=>cases hd
 | cons y ys ih =>
   simp only[DataW.weightsAll,List.mem_append]
   rcases List.mem_cons.1 hd with rfl | hd
   ·exact .inl hx
   ·exact .inr (ih hd)
theorem wI {x:Nat} : ∀ (ts:List TypeId) (ds:List (DataW H)) (i:Nat) (t:TypeId) (d:DataW H),ts[i]?=some t→ds[i]?=some d→x∈d.weights P t→x∈DataW.weightsEach P ts ds
 | [],_,_,_,_,h,_,_=>by simp at h
 | _ :: _,[],_,_,_,_,h,_=>by simp at h
 | t :: ts,d :: ds,0,t',d',h,h',hx=>by
   simp at h h'; subst h h'
   simp only[DataW.weightsEach,List.mem_append]; exact .inl hx
 | t :: ts,d :: ds,i + 1,t',d',h,h',hx=>by
   simp only[DataW.weightsEach,List.mem_append]
   exact .inr (wI ts ds i t' d' (by simpa using h) (by simpa using h') hx)
theorem MC (hn:base.n=w.heap.size) {held:Bool} : ∀ (fuel:Nat) (t:TypeId) (cs:List Value) (x:DataW H × List MemPlace),DataW.trod enc P w 0 (fun _=>true) held fuel t cs=some x →
  (∀ y∈x.1.weights P t,y≤reachBytes)→Fits P (RM.old base w) t (cs.map (oz base.n)):=by
 intro fuel
 induction fuel with
 | zero=>intro t cs x h; simp[DataW.trod] at h
 | succ m ih =>
   intro t cs x h hw
   cases hu:P.underlying t with
   | none=>exact .other _ _ (by rw[hu]; rfl)
   | some d =>
     cases d with
     | bool =>
       obtain⟨b,rfl,rfl⟩:=DataW.trod_bool hu h
       exact .bool t b hu
     | int k =>
       obtain⟨n,rfl,rfl,hwf⟩:=DataW.trod_int hu h
       simp only[Lit.wf,Bool.and_eq_true,decide_eq_true_eq] at hwf
       exact .int t k n hu hwf.1 hwf.2
     | string =>
       obtain⟨s,rfl,rfl,_⟩:=DataW.trod_string hu h
       exact .str t s.data.toList hu (hw _ (by simp[DataW.weights]))
     | slice e =>
       rcases DataW.trod_slice hu h with⟨rfl,rfl⟩ | ⟨a,len,cap,elems,rest,n,hm,rfl,rfl,_,hlc,_,hel,hget,hrest,_⟩
       ·exact .Y5 t e hu
       ·cases hm
        rcases Nat.eq_zero_or_pos (P.cellsOf e) with hz | hz
        ·exact .zero t e _ hu hz
        rcases Nat.eq_zero_or_pos cap with hc | hc
        ·have hl0:len=0:=by omega
         subst hc hl0
         exact .emp t e 0 hu
        ·obtain⟨hr1,hr2⟩:=hrest rfl
         have every:∀ i,i<cap→∃ es y,w.cells? 0 (a.add (i * P.cellsOf e)) (P.cellsOf e)=some es∧DataW.trod enc P w 0 (fun _=>true) held m e es=some y∧(y∈elems∨y∈rest):=by
          intro i hi
          by_cases hil:i<len
          ·have h1:=hget i hil
           have h2:elems[i]?=some (elems[i]'(by omega)):=by simp[hel,hil]
           rw[h2] at h1
           obtain⟨es,e1,e2⟩:=Option.bind_eq_some_iff.1 h1
           exact⟨es,_,e1,e2,.inl (List.getElem_mem _)⟩
          ·have h1:=hr2 (i - len) (by omega)
           rw[show len + (i - len)=i by omega] at h1
           have h2:rest[i - len]?=some (rest[i - len]'(by omega)):=by
            rw[List.getElem?_eq_getElem]
           rw[h2] at h1
           obtain⟨es,e1,e2⟩:=Option.bind_eq_some_iff.1 h1
           exact⟨es,_,e1,e2,.inr (List.getElem_mem _)⟩
         obtain⟨es0,_,k0,_,_⟩:=every 0 hc
         obtain⟨kl0,kg0⟩:=tH k0
         have hc0:=kg0 0 hz
         rw[List.getElem?_eq_getElem (by omega)] at hc0
         obtain⟨c,el,fr,hh,hsp,_,_⟩:=cell?_at hc0
         obtain⟨b,o,sp⟩:=a
         rw[Nat.zero_mul,Br,Br] at hh hsp
         simp only at hh hsp
         subst hsp
         have hblt:b<base.n:=by rw[hn]; exact(Array.getElem?_eq_some_iff.1 hh).1
         have hlast:o + cap * P.cellsOf e≤c.size:=by
          obtain⟨es1,_,k1,_,_⟩:=every (cap - 1) (by omega)
          obtain⟨kl1,kg1⟩:=tH k1
          have hc1:=kg1 (P.cellsOf e - 1) (by omega)
          rw[List.getElem?_eq_getElem (by omega)] at hc1
          obtain⟨c',el',fr',hh',_,hlt,_⟩:=cell?_at hc1
          rw[ed,ed] at hh' hlt
          simp only at hh' hlt
          rw[hh] at hh'
          cases hh'
          have:cap * P.cellsOf e=(cap - 1) * P.cellsOf e + P.cellsOf e:=by
           rw[← Nat.succ_mul]; congr 1; omega
          omega
         have abx:oz base.n (.slice (some ⟨b,o,none⟩) len cap)=.slc b o len (.ex cap):=by
          obtain⟨cap,rfl⟩ : ∃ k,cap=k + 1:=⟨cap - 1,by omega⟩
          simp only[oz,if_pos hblt]
         have hcells:=RM.TV hblt hh
         have hle:len * P.cellsOf e≤cap * P.cellsOf e:=Nat.mul_le_mul_right _ hlc
         have hload:(RM.old base w).loads b o (len * P.cellsOf e)=some (((c.toList.map (oz base.n)).drop o).take (len * P.cellsOf e)):=by
          simp only[RM.loads,hcells]
          rw[if_pos (by simp; omega)]
         simp only[List.map_cons,List.map_nil,abx]
         refine .slc t e b o len cap _ hu hblt hlc ?_ hload fun i hi=>?_
         ·have:=hw ((elems.length + rest.length) * P.bytesOf e) (by simp[DataW.weights,hu])
          rwa [hel,hr1,show len + (cap - len)=cap by omega] at this
         ·obtain⟨es,y,k1,k2,k3⟩:=every i (by omega)
          have hlen:=(tH k1).1
          have hes:((((c.toList.map (oz base.n)).drop o).take (len * P.cellsOf e)).drop (i * P.cellsOf e)).take (P.cellsOf e)=es.map (oz base.n):=by
           have hii:i * P.cellsOf e + P.cellsOf e≤len * P.cellsOf e:=by rw[← Nat.succ_mul]; exact Nat.mul_le_mul_right _ hi
           apply List.ext_getElem?
           intro j
           by_cases hj:j<P.cellsOf e
           ·have hg:=(tH k1).2 j hj
            rw[List.getElem?_take,if_pos hj,List.getElem?_drop,List.getElem?_take,if_pos (by omega),List.getElem?_drop,List.getElem?_map,List.getElem?_map,← hg]
            rw[ed,ed]
            simp only[World.cell?,hh]
            rw[Array.getElem?_toList]
            simp[Nat.add_assoc]
           ·rw[List.getElem?_eq_none (by simp; omega),List.getElem?_eq_none (by simp; omega)]
          rw[hes]
          refine ih e es y k2 fun z hz=>hw z ?_
          simp only[DataW.weights,hu,List.mem_cons,List.mem_append]
          rcases k3 with k3 | k3
          ·exact .inr (.inl (qH (List.mem_map_of_mem k3) hz))
          ·exact .inr (.inr (qH (List.mem_map_of_mem k3) hz))
     | struct fs =>
       obtain⟨xs,n,hm,rfl,hl,hxl,hget⟩:=DataW.trod_struct hu h
       cases hm
       refine .struct t fs _ hu (by simpa using hl) fun i f hf=>?_
       have h1:=hget i f hf
       have hi:i<fs.size:=(Array.getElem?_eq_some_iff.1 hf).1
       rw[List.getElem?_eq_getElem (by omega)] at h1
       rw[← List.map_drop,← List.map_take]
       refine ih _ _ _ h1 fun z hz=>hw z ?_
       simp only[DataW.weights,hu]
       refine wI _ _ i f.type _ (by simp[hf]) (by rw[List.getElem?_map,List.getElem?_eq_getElem (by omega)]; rfl) hz
     | array n e =>
       obtain⟨xs,m',hm,rfl,hl,hxl,hget⟩:=DataW.trod_array hu h
       cases hm
       refine .array t e n _ hu (by simpa using hl) fun i hi=>?_
       have h1:=hget i hi
       rw[List.getElem?_eq_getElem (by omega)] at h1
       rw[← List.map_drop,← List.map_take]
       refine ih _ _ _ h1 fun z hz=>hw z ?_
       simp only[DataW.weights,hu]
       exact qH (List.mem_map_of_mem (List.getElem_mem _)) hz
     | _=>exact .other _ _ (by rw[hu]; rfl)
end
section
variable {P:Program} {M:RM} {t:TypeId} {cs:List AV}
theorem Fits.X3 (h:Fits P M t cs) (hu:P.underlying t=some .string) : ∃ s,cs=[St s]∧s.length≤reachBytes:=by
 cases h with
 | str _ s h1 h2=>exact⟨s,rfl,h2⟩
 | _=>simp_all [Mt]
end
def BN (P:Program) (t:TypeId) : Bool :=
 match P.underlying t with
 | some (.struct _) | some (.array _ _)=>true
 | _=>false
def qZ (P:Program) (M:RM) (t:TypeId) (v:AV) : Prop :=
 match BN P t with
 | true=>∃ cs,v=.agg cs∧Fits P M t cs
 | false=>Fits P M t [v]
theorem qZ.agg {P:Program} {M:RM} {t:TypeId} {v:AV} (h:qZ P M t v) (ha:BN P t=true) : ∃ cs,v=.agg cs∧Fits P M t cs:=by
 unfold qZ at h; rw[ha] at h; exact h
theorem qZ.one {P:Program} {M:RM} {t:TypeId} {v:AV} (h:qZ P M t v) (ha:BN P t=false) : Fits P M t [v]:=by
 unfold qZ at h; rw[ha] at h; exact h
section
variable {H:Type} {enc:TypeId × Value→H} {P:Program} {base:Base} {w:World}
theorem LY {r:Reach} {b:Nat} {t:TypeId} {cs:Array Value} (h:Cell.okWide P w r b t (.agg cs)) : False:=by
 unfold Cell.okWide at h
 split at h <;> first | (rename_i e _; cases e; done) | skip
 all_goals first | (rename_i e; cases e; done) | skip
 unfold Cell.ok at h
 split at h <;> first | exact h | simp_all
theorem UY (hn:base.n=w.heap.size) {r:Reach} {b:Nat} {held:Bool} {t:TypeId} {v:Value} {d:DataW H} {ps:List MemPlace} (hv:Value.okWide P w r b t v) (h:DataW.Trod enc P w 0 (fun _=>true) held t v d ps)
  (hw:∀ y∈d.weights P t,y≤reachBytes) : qZ P (RM.old base w) t (Be base.n v):=by
 obtain⟨fuel,hf⟩:=h
 have hfit:=MC hn fuel t _ _ hf hw
 unfold qZ
 cases ha:BN P t with
 | true =>
   have:∃ cs,v=.agg cs:=by
    unfold Value.okWide at hv
    unfold BN at ha
    split at hv
    ·obtain⟨cs,h,_⟩:=hv; exact⟨cs,h⟩
    ·obtain⟨cs,h,_⟩:=hv; exact⟨cs,h⟩
    ·split at ha <;> simp_all
   obtain⟨cs,rfl⟩:=this
   exact⟨_,rfl,hfit⟩
 | false =>
   have hc:Cell.okWide P w r b t v:=by
    unfold Value.okWide at hv
    unfold BN at ha
    split at hv
    ·simp_all
    ·simp_all
    ·exact hv
   have:v.cells.toList=[v]∧Be base.n v=oz base.n v:=by
    cases v with
    | agg cs=>exact(LY hc).elim
    | _=>exact⟨rfl,rfl⟩
   rw[this.1] at hfit
   rw[this.2]
   exact hfit
theorem LW (hn:base.n=w.heap.size) {r:Reach} {b:Nat} {held:Bool} : ∀ {ts:List TypeId} {vs:List Value} {ds:List (DataW H)} {ps:List MemPlace},DataW.TrodAll enc P w 0 (fun _=>true) held ts vs ds ps →
  (∀ (j:Nat) t v,ts[j]?=some t→vs[j]?=some v→Value.okWide P w r b t v)→(∀ y∈DataW.weightsEach P ts ds,y≤reachBytes) →
  ∀ (j:Nat) t v,ts[j]?=some t→vs[j]?=some v→qZ P (RM.old base w) t (Be base.n v)
 | [],_,_,_,_,_,_,j,t,v,h,_=>by simp at h
 | t0 :: ts,vs,ds,ps,h,hv,hw,j,t,v,hj,hvj=>by
   cases vs with
   | nil=>simp at hvj
   | cons v0 vs =>
   cases ds with
   | nil=>exact h.elim
   | cons d ds =>
   obtain⟨p,q,h1,h2,_⟩:=h
   cases j with
   | zero =>
     simp at hj hvj; subst hj hvj
     exact UY hn (hv 0 _ _ rfl rfl) h1 fun y hy=>hw y (by simp[DataW.weightsEach,hy])
   | succ j =>
     exact LW hn h2 (fun j t v a b=>hv (j + 1) t v (by simpa using a) (by simpa using b)) (fun y hy=>hw y (by simp[DataW.weightsEach,hy])) j t v (by simpa using hj) (by simpa using hvj)
theorem Bp (hl:laidOutB P=true) {W W' : World} {sp:Nat→Bool} (hb:Below W.heap.size W W') : ∀ {ts:List TypeId} {vs:List Value} {ds:List (DataW H)} {ps:List MemPlace},
  (∀ t∈ts,P.readableRec t=true∧t<P.types.size)→DataW.TrodAll enc P W 0 (fun _=>true) true ts vs ds ps→(∀ p∈ps,p.block<W.heap.size)→(∀ p∈ps,sp p.block=true)→DataW.TrodAll enc P W' 0 sp true ts vs ds ps
 | [],vs,ds,ps,_,h,_,_=>by
   cases vs <;> cases ds <;> first | exact h | exact h.elim
 | t :: ts,vs,ds,ps,hr,h,hlt,hsp=>by
   cases vs with
   | nil=>cases ds <;> exact h.elim
   | cons v vs =>
   cases ds with
   | nil=>exact h.elim
   | cons d ds =>
   obtain⟨p,q,h1,h2,rfl⟩:=h
   have hrt:=hr t (List.mem_cons_self ..)
   exact⟨p,q,WideElems.Trod_stays hl hrt.1 hrt.2 h1 (fun x hx=>hb.same (hlt x (List.mem_append_left _ hx))) (fun x hx=>hsp x (List.mem_append_left _ hx)),
    Bp hl hb (fun t ht=>hr t (List.mem_cons_of_mem _ ht)) h2 (fun x hx=>hlt x (List.mem_append_right _ hx)) (fun x hx=>hsp x (List.mem_append_right _ hx)),rfl⟩
end
def RB.cells (lo:Nat) : RB→Option (List AV)
 | .row l _ _ _=>some l
 | .ro c=>some (c.toList.map (oz lo))
 | _=>none
@[go_sem] theorem RB.wK (lo:Nat) (l:List AV) (p:Bool) (e f:Nat) : RB.cells lo (.row l p e f)=some l:=rfl
theorem RM.Fg (M:RM) (b:Nat) : M.cells b=(M.heap b).bind (RB.cells M.lo):=by
 unfold RM.cells RB.cells
 cases M.heap b with
 | none=>rfl
 | some x=>cases x <;> rfl
def vH (l:Option (List AV)) (o k:Nat) : Option (List AV) :=
 match l with
 | some l=>if o + k≤l.length then some ((l.drop o).take k) else none
 | none=>none
@[go_sem] theorem Zl (l:List AV) (o k:Nat) : vH (some l) o k=if o + k≤l.length then some ((l.drop o).take k) else none:=rfl
theorem RM.EL (M:RM) (b o k:Nat) : M.loads b o k=vH (M.cells b) o k:=rfl
section
variable {M M' : RM}
@[go_sem] theorem RM.RO (x:RB) (c:Nat) : (M.push x).heap c=if c=M.next then some x else M.heap c:=rfl
@[go_sem] theorem RM.heap_put (b:Nat) (x:RB) (c:Nat) : (M.put b x).heap c=if c=b then some x else M.heap c:=rfl
@[go_sem] theorem RM.abA (b:Nat) (c:Nat) : (M.del b).heap c=if c=b then none else M.heap c:=rfl
@[go_sem] theorem RM.Tv (x:RB) : (M.push x).base=M.base:=rfl
@[go_sem] theorem RM.Vi (b:Nat) (x:RB) : (M.put b x).base=M.base:=rfl
@[go_sem] theorem RM.abE (b:Nat) : (M.del b).base=M.base:=rfl
theorem RM.Gy (x:RB) (c:Nat) : (M.push x).cells c=if c=M.next then x.cells M.lo else M.cells c:=by
 simp only[RM.Fg,RM.RO]
 split <;> rfl
theorem RM.Jo (b:Nat) (x:RB) (c:Nat) : (M.put b x).cells c=if c=b then x.cells M.lo else M.cells c:=by
 simp only[RM.Fg,RM.heap_put]
 split <;> rfl
@[go_sem] theorem RM.aau (x:RB) (c o:Nat) : (M.push x).cell c o=if c=M.next then(x.cells M.lo).bind (·[o]?) else M.cell c o:=by
 simp only[RM.cell,RM.Gy]
 split <;> rfl
@[go_sem] theorem RM.aba (b:Nat) (x:RB) (c o:Nat) : (M.put b x).cell c o=if c=b then(x.cells M.lo).bind (·[o]?) else M.cell c o:=by
 simp only[RM.cell,RM.Jo]
 split <;> rfl
@[go_sem] theorem RM.ZB (x:RB) (c o k:Nat) : (M.push x).loads c o k=if c=M.next then vH (x.cells M.lo) o k else M.loads c o k:=by
 simp only[RM.EL,RM.Gy]
 split <;> rfl
@[go_sem] theorem RM.aay (b:Nat) (x:RB) (c o k:Nat) : (M.put b x).loads c o k=if c=b then vH (x.cells M.lo) o k else M.loads c o k:=by
 simp only[RM.EL,RM.Jo]
 split <;> rfl
def nK (l:List AV) (fz o:Nat) (vs:List AV) : Option (List AV) :=
 if o + vs.length≤l.length∧fz≤o∧vs.all oneCell=true then some (l.take o++vs++l.drop (o + vs.length)) else none
theorem gM {l vs:List AV} {fz o:Nat} (h1:o + vs.length≤l.length) (h2:fz≤o) (h3:vs.all oneCell=true) : nK l fz o vs=some (l.take o++vs++l.drop (o + vs.length)):=if_pos ⟨h1,h2,h3⟩
@[go_sem] theorem Kl {l vs:List AV} (h:vs.length=l.length) (h3:vs.all oneCell=true) : nK l 0 0 vs=some vs:=by
 rw[gM (by omega) (Nat.le_refl _) h3]
 simp[h]
theorem RM.wX {b o:Nat} {vs l:List AV} {p:Bool} {e f:Nat} (h:M.heap b=some (.row l p e f)) : M.stores b o vs=(nK l f o vs).map fun l'=>M.put b (.row l' p e f):=by
 simp only[RM.stores,h,nK]
 split <;> rfl
theorem RM.Vm {x y:RB} : (M.push x).put M.next y=M.push y:=by
 simp only[RM.put,RM.push]
 congr 1
 funext c
 split <;> rfl
theorem RM.NK {x y:RB} {b:Nat} (hb:b≠M.next) : (M.push x).put b y=(M.put b y).push x:=by
 simp only[RM.put,RM.push]
 congr 1
 funext c
 by_cases h1:c=b
 ·subst h1; simp[hb]
 ·simp[h1]
theorem RM.F3 {l vs:List AV} {p:Bool} {e f o:Nat} : (M.push (.row l p e f)).stores M.next o vs=(nK l f o vs).map fun l'=>M.push (.row l' p e f):=by
 rw[RM.wX (RM.aS _)]
 congr 1
 funext l'
 exact RM.Vm
theorem RM.Gx {M:RM} {b o:Nat} {vs:List AV} : M.stores b o vs=match M.heap b with
  | some (.row l p e f)=>(nK l f o vs).map fun l'=>M.put b (.row l' p e f)
  | _=>none:=by
 cases h:M.heap b with
 | none=>simp[RM.stores,h]
 | some x =>
   cases x with
   | row l p e f=>rw[RM.wX h]
   | _=>simp[RM.stores,h]
@[go_sem] theorem RM.FQ {x:RB} {vs:List AV} {c o:Nat} (hc:c≠M.next) : (M.push x).stores c o vs=(M.stores c o vs).map (·.push x):=by
 rw[RM.Gx,RM.Gx,RM.Vd hc]
 split
 ·simp only[Option.map_map]
  congr 1
  funext l'
  exact RM.NK hc
 ·rfl
@[go_sem] theorem RM.Zi {l vs:List AV} {p:Bool} {e f c o:Nat} : (M.push (.row l p e f)).stores c o vs =
  if c=M.next then(nK l f o vs).map fun l'=>M.push (.row l' p e f) else(M.stores c o vs).map (·.push (.row l p e f)):=by
 split
 ·rename_i h; subst h; exact RM.F3
 ·rename_i h; exact RM.FQ h
@[go_sem] theorem RM.WM {b o:Nat} {l vs:List AV} {p:Bool} {e f:Nat} : (M.put b (.row l p e f)).stores b o vs=(nK l f o vs).map fun l'=>M.put b (.row l' p e f):=by
 rw[RM.wX (RM.kI _ _)]
 congr 1
 funext l'
 simp only[RM.put]
 congr 1
 funext c
 split <;> rfl
@[go_sem] theorem abU {α:Type} (a:α) (K:α→Prop) : (∃ x,some a=some x∧K x)=K a:=by simp
@[go_sem] theorem Zj {α β:Type} (f:α→β) (x:α) : (some x).map f=some (f x):=rfl
theorem RM.nX (b:Nat) (x:RB) : (M.put b x).next=M.next:=rfl
attribute [go_sem] Int.natCast_nonneg Int.toNat_natCast Nat.mul_one true_implies false_implies Bool.false_eq_true Bool.true_eq_false Bool.not_true Bool.not_false Bool.and_self Bool.and_true Bool.true_and Nat.le_refl List.append_nil List.nil_append if_true if_false Nat.lt_irrefl Nat.add_one_ne_zero true_and and_true Nat.zero_add Nat.add_zero List.drop_zero List.getElem?_cons_zero List.getElem?_cons_succ Option.bind_some List.take_succ_cons List.take_zero List.drop_succ_cons List.drop_nil List.take_nil
attribute [go_sem] nO List.all_cons List.all_nil List.length_cons List.length_nil
@[go_sem] theorem aaq (cs:List AV) : (AV.agg cs).cells=cs:=rfl
@[go_sem] theorem aa8 (v:Value) : (AV.sc v).cells=[.sc v]:=rfl
@[go_sem] theorem aai (b o:Nat) : (AV.ptr b o).cells=[.ptr b o]:=rfl
@[go_sem] theorem aat (b o n:Nat) (c:Cap) : (AV.slc b o n c).cells=[.slc b o n c]:=rfl
@[go_sem] theorem aao (b:Nat) : (AV.emp b).cells=[.emp b]:=rfl
@[go_sem] theorem aaA (b:Nat) : (AV.map b).cells=[.map b]:=rfl
@[go_sem] theorem abN (f:Fn) (xs ys:List AV) : (AV.fn f xs ys).cells=[.fn f xs ys]:=rfl
@[go_sem] theorem fF (v:Value) : oneCell (.sc v)=true:=rfl
@[go_sem] theorem abZ (b o:Nat) : oneCell (.ptr b o)=true:=rfl
@[go_sem] theorem abW (b o n:Nat) (c:Cap) : oneCell (.slc b o n c)=true:=rfl
@[go_sem] theorem abY (b:Nat) : oneCell (.emp b)=true:=rfl
@[go_sem] theorem abX (b:Nat) : oneCell (.map b)=true:=rfl
@[go_sem] theorem ab2 (f:Fn) (xs ys:List AV) : oneCell (.fn f xs ys)=true:=rfl
end
theorem RM.VM {M:RM} {b:Nat} {l:List AV} {p:Bool} {e f:Nat} (h:M.heap b=some (.row l p e f)) (o k:Nat) : M.loads b o k=vH (some l) o k:=by rw[RM.EL,RM.wK h]
theorem RM.cell_of {M:RM} {b:Nat} {l:List AV} {p:Bool} {e f:Nat} (h:M.heap b=some (.row l p e f)) (o:Nat) : M.cell b o=l[o]?:=RM.UL h
theorem RM.jW {M:RM} {b:Nat} {l:List AV} {p:Bool} {e f:Nat} (h:M.heap b=some (.row l p e f)) (o:Nat) (vs:List AV) : M.stores b o vs=(nK l f o vs).map fun l'=>M.put b (.row l' p e f):=RM.wX h
theorem ae.ax {bs:List Nat} {M M' : RM} (h:ae bs M M') {b:Nat} {x:RB} (hh:M.heap b=some x) (hlt:b<M.next) (hb:b ∉ bs) : M'.heap b=some x:=by rw[h.heap b hlt hb,hh]
inductive Ans where
 | val (v:AV)
 | rows (n:Nat) (v:AV) (bs:List (Nat × iX)) (n' : Nat)
structure X8 where
 args:List AV
 fp:List (Nat × iX):=[]
 dead:List Nat:=[]
 nx:Nat:=0
 ans:Ans
def TE:Tree iX→List (Nat × iX)→Tree iX
 | t,[]=>t
 | t,(b,x) :: r=>TE (t.set b x) r
def RX:Tree iX→List Nat→Tree iX
 | t,[]=>t
 | t,b :: r=>RX (t.del b) r
def PD (A:AW) : List (Nat × iX)→Bool
 | []=>true
 | (b,x) :: r=>match A.heap.get b with
   | some y=>Z4 x y && PD A r
   | none=>false
def abw (A:AW) (e:X8) : Option (AV × AW) :=
 match PD A e.fp with
 | false=>none
 | true=>match e.ans with
   | .val v=>some (v,A)
   | .rows n v bs n'=>match Nat.beq n A.next with
     | true=>some (v,{ next:=n',heap:=TE (RX A.heap e.dead) bs })
     | false=>none
abbrev Table:=List (Nat × List X8)
def inK:List Nat→Nat→Bool
 | [],_=>false
 | k :: ks,b=>match Nat.beq k b with
   | true=>true
   | false=>inK ks b
mutual
def within (ks:List Nat) : AV→Bool
 | .sc _ | .top | .atl _=>true
 | .ptr b _ | .slc b _ _ _ | .emp b | .map b=>inK ks b
 | .fn _ xs ys=>DX ks xs && DX ks ys
 | .ifc _ x=>within ks x
 | .agg xs | .tup xs=>DX ks xs
def DX (ks:List Nat) : List AV→Bool
 | []=>true
 | x :: xs=>within ks x && DX ks xs
end
section
variable {P:Program} {X:Ext}
def aac (P:Program) (I:World→Prop) (f:Nat) (e:X8) : Prop :=
 ∀ (base:Base),(∀ w,base.inv w→I w)→∀ A v A',abw A e=some (v,A')→∀ (ρ:Ren) (w:World) (us:List Value),aR ρ e.args us→cK P base ρ A w→base≤w.heap.size →
   Calls P f ⟨us⟩ w fun r w'=>∃ ρ' v',r=.returned v'∧Step base A.next ρ w ρ' w'∧cK P base ρ' A' w'∧A.next≤A'.next∧ah ρ' v v'
def Ws (P:Program) (I:World→Prop) (T:Table) : Prop:=∀ g∈T,∀ e∈g.2,aac P I g.1 e
theorem cK.none {P:Program} {base:Base} {n:Nat} {w:World} (hi:base.inv w) : cK P base (fun _=>none) { next:=n,heap:=.leaf } w :=
 ⟨fun _ _ h=>(by cases h),fun _ _ _ h=>(by cases h),fun _ _ _ _ _ _ h=>(by cases h),fun _ _ h=>(by simp[Tree.get] at h),fun _ _ _ h=>(by cases h),hi⟩
def only(ρ:Ren) (ks:List Nat) : Ren:=fun b=>if b∈ks then ρ b else none
theorem Ws.nil {I:World→Prop} : Ws P I []:=fun g hg=>by cases hg
open Go.WideShapes Go.ChangeShapes in
open Go.WideShapes Go.ChangeShapes in
end
structure Enc (α:Type) where
 size:Nat
 cells:α→List AV
 len:∀ a,(cells a).length=size
 one:∀ a,(cells a).all oneCell=true
section
variable {α:Type} (E:Enc α)
def Enc.row (xs:List α) : List AV:=xs.flatMap E.cells
theorem Enc.kS (x:α) (xs:List α) : E.row (x :: xs)=E.cells x++E.row xs:=rfl
theorem Enc.tK (xs ys:List α) : E.row (xs++ys)=E.row xs++E.row ys:=by simp[Enc.row]
theorem Enc.row_one (x:α) : E.row [x]=E.cells x:=by simp[Enc.row]
theorem Enc.fQ:∀ (xs:List α),(E.row xs).length=xs.length * E.size
 | []=>by simp[Enc.row]
 | x :: xs=>by rw[Enc.kS,List.length_append,E.len,Enc.fQ xs,List.length_cons,Nat.succ_mul,Nat.add_comm]
theorem Enc.lD:∀ (xs:List α),(E.row xs).all oneCell=true
 | []=>by simp[Enc.row]
 | x :: xs=>by rw[Enc.kS,List.all_append,E.one,Enc.lD xs]; rfl
theorem Enc.Ae:∀ (xs:List α) (i:Nat),(E.row xs).drop (i * E.size)=E.row (xs.drop i)
 | [],i=>by simp[Enc.row]
 | x :: xs,0=>by simp
 | x :: xs,i + 1=>by
   rw[Enc.kS,Nat.succ_mul,Nat.add_comm,← List.drop_drop,List.drop_left' (E.len x),Enc.Ae xs i]
   rfl
theorem Enc.Fu:∀ (xs:List α) (i:Nat),(E.row xs).take (i * E.size)=E.row (xs.take i)
 | [],i=>by simp[Enc.row]
 | x :: xs,0=>by simp[Enc.row]
 | x :: xs,i + 1=>by
   rw[Enc.kS,Nat.succ_mul,Nat.add_comm,List.take_append,List.take_of_length_le (by rw[E.len]; omega),E.len,Nat.add_sub_cancel_left,Enc.Fu xs i]
   rfl
theorem Enc.yV {xs:List α} {i:Nat} (hi:i<xs.length) : ((E.row xs).drop (i * E.size)).take E.size=E.cells xs[i]:=by
 rw[Enc.Ae,List.drop_eq_getElem_cons hi,Enc.kS]
 rw[List.take_append_of_le_length (by rw[E.len]; exact Nat.le_refl _),List.take_of_length_le (by rw[E.len]; exact Nat.le_refl _)]
abbrev Sl (M:RM) (v:AV) (xs:List α) : Prop:=dQ M E.size v (E.row xs) xs.length
abbrev Ow (M:RM) (base el:Nat) (v:AV) (xs:List α) : Prop:=Own M base el E.size v (E.row xs) xs.length
variable {E} {M M' : RM} {v:AV} {xs:List α}
theorem Sl.elem (h:Sl E M v xs) {i:Nat} (hi:i<xs.length) : ∃ b o,b<M.next∧b∈aC v∧(∀ (kd:IntKind) (K:AV→Prop),aX v (N kd (i:Int)) E.size K=K (.ptr b o))∧M.loads b o E.size=some (E.cells xs[i]):=by
 obtain⟨b,o,cap,rfl,hb,hl⟩:=h.pos (by omega)
 have hsum:i * E.size + E.size≤xs.length * E.size:=by rw[← Nat.succ_mul]; exact Nat.mul_le_mul_right _ hi
 refine⟨b,o + i * E.size,hb,by simp[aC],fun kd K=>?_, ?_⟩
 ·rw[EY]
  simp only[Int.toNat_natCast]
  exact propext ⟨fun h=>h.2.2,fun h=>⟨by omega,by omega,h⟩⟩
 ·rw[wO hl (i * E.size) E.size hsum,E.yV hi]
theorem Sl.at (h:Sl E M v xs) {i:Nat} (sz:Nat) (j:Int) (hi:i<xs.length) (hsz:E.size=sz:=by rfl) (hj:j=(i:Int):=by rfl) : ∃ b o,b<M.next∧b∈aC v∧(∀ (kd:IntKind) (K:AV→Prop),aX v (N kd j) sz K=K (.ptr b o))∧M.loads b o sz=some (E.cells xs[i]):=by
 subst hsz hj; exact h.elem hi
theorem gW {b o k:Nat} {cs:List AV} (h:M.loads b o k=some cs) {j:Nat} {x:AV} (hj:cs[j]?=some x) : M.cell b (o + j)=some x:=by
 have hlt:j<k:=by rw[← JM h]; exact(List.getElem?_eq_some_iff.1 hj).1
 rw[Ti h j hlt,hj]
theorem qx {b o k:Nat} {cs:List AV} (h:M.loads b o k=some cs) {x:AV} (hj:cs[0]?=some x) : M.cell b o=some x:=gW h hj
theorem Gb {b o k:Nat} {cs:List AV} (h:M.loads b o k=some cs) (j m:Nat) (hm:j + m≤k) : M.loads b (o + j) m=some ((cs.drop j).take m):=wO h j m hm
theorem IE {base T bytes:Nat} {zs:List AV} {u:AV} {ys:List α} {K:ai} (ho:Ow E M base T v xs) (hb:base≤M.next) (hs:1≤E.size) (hu:Sl E M u ys)
  (hn:(xs.length + ys.length) * bytes≤140737488355328) (hn2:xs.length + ys.length≤140737488355328)
  (hK:∀ v' M',Ow E M' base T v' (xs++ys)→ae (aC v) M M'→M.next≤M'.next→(v'=v∨∀ b∈aC v',M.next≤b)→K v' M') :
  appW T E.size bytes zs false v u M K:=by
 refine DN ho hb hs (dQ.nR hu _) (E.fQ ys) (E.lD ys) hn hn2 ?_
 intro v' M' h1 h2 h3 h4
 refine hK v' M' ?_ h2 h3 h4
 rw[← E.tK] at h1
 simpa [Ow] using h1
theorem Sl.new {T c:Nat} {p:Bool} (ys:List α) : Sl E (M.push (.row (E.row ys) p T 0)) (.slc M.next 0 ys.length (.ex c)) ys :=
 .slc _ _ _ _ _ (by simp[RM.push]) (by rw[RM.lH (RM.aS _) (by rw[E.fQ]; omega),List.drop_zero,← E.fQ,List.take_length])
theorem oW {base T bytes:Nat} {zs:List AV} {a:α} {K:ai} (ho:Ow E M base T v xs) (hb:base≤M.next) (hs:1≤E.size)
  (hn:(xs.length + 1) * bytes≤140737488355328) (hn2:xs.length + 1≤140737488355328)
  (hK:∀ v' M',Ow E M' base T v' (xs++[a])→ae (aC v) M M'→M.next≤M'.next→(v'=v∨∀ b∈aC v',M.next≤b)→K v' M') :
  appW T E.size bytes zs false v (.slc M.next 0 1 (.ex 1)) (M.push (.row (E.cells a) false T 0)) K:=by
 have hk:ae [] M (M.push (.row (E.cells a) false T 0)):=(ae.refl _ _).push _
 refine IE (ys:=[a]) (Own.keep ho hk (by simp)) (Nat.le_trans hb hk.next) hs (by rw[← E.row_one]; exact Sl.new [a]) hn hn2 ?_
 intro v' M' h1 h2 h3 h4
 exact hK v' M' h1 ((hk.mono (by simp)).trans h2) (Nat.le_trans hk.next h3) (h4.imp id fun h b hb=>Nat.le_trans hk.next (h b hb))
@[go_sem] theorem ZL {T:Nat} {zs:List AV} {K:RB→(Nat→AV)→Prop} : eO T 0 zs [] K=K (.row [] false T 0) (fun b=>.slc b 0 0 (.ex 0)):=by
 apply propext; unfold eO
 constructor
 ·rintro⟨l,h,hk⟩; cases h; exact hk
 ·intro hk; exact⟨_,rfl,hk⟩
theorem kE {T size:Nat} {zs:List AV} {x:AV} {K:RB→(Nat→AV)→Prop} (h:x.cells.length=size) (h1:x.cells.all oneCell=true) (hz:zs.length=size) :
  eO T 1 zs [(0,size,x)] K=K (.row x.cells false T 0) (fun b=>.slc b 0 1 (.ex 1)):=by
 have:uk (nM zs 1) [(0,size,x)]=some x.cells:=by
  simp only[uk,nM,List.append_nil,h1,h,Nat.zero_add,hz,Nat.le_refl,and_self,if_true,List.take_zero,List.nil_append]
  rw[List.drop_of_length_le (by omega),List.append_nil]
 apply propext; unfold eO
 constructor
 ·rintro⟨l,h,hk⟩; rw[this] at h; cases h; exact hk
 ·intro hk; exact⟨_,this,hk⟩
theorem Ow.lit (E:Enc α) {T:Nat} (M:RM) : Ow E (M.push (.row [] false T 0)) M.next T (.slc M.next 0 0 (.ex 0)) []:=Own.lit M (Nat.le_refl _)
theorem nz {i:Nat} (h:i<9223372036854775807) : IntKind.wrap .i64 ((i:Int) + 1)=((i + 1:Nat) : Int):=by
 rw[fw (by omega) (by omega)]; rfl
end
@[go_sem] theorem Hl:cB [] [] []=some true:=rfl
@[go_sem] theorem Zt (ks:List Nat) (k:IntKind) (a b:Int) (xs ys:List AV) : cB (1 :: ks) (N k a :: xs) (N k b :: ys)=if a=b then cB ks xs ys else some false:=by
 simp only[cB,pM,if_true]
 by_cases h:a=b
 ·simp[h]
 ·have:(a == b)=false:=by simp[h]
  simp[this,h]
@[go_sem] theorem Bb (ks:List Nat) (a b:List UInt8) (xs ys:List AV) : cB (2 :: ks) (St a :: xs) (St b :: ys)=if a=b then cB ks xs ys else some false:=by
 simp only[cB,pM]
 by_cases h:a=b
 ·simp[h]
 ·have:(a == b)=false:=by simp[h]
  simp[this,h]
@[go_sem] theorem Zk (ks:List Nat) (a b:Bool) (xs ys:List AV) : cB (3 :: ks) (Bo a :: xs) (Bo b :: ys)=if a=b then cB ks xs ys else some false:=by
 simp only[cB,pM]
 by_cases h:a=b
 ·simp[h]
 ·have:(a == b)=false:=by simp[h]
  simp[this,h]
theorem rF {neg:Bool} {ks:List Nat} {cs ds:List AV} {r:Bool} {K:AV→Prop} (h1:cs.length=ks.length) (h2:ds.length=ks.length) (h:cB ks cs ds=some r) : mh neg ks (.agg cs) (.agg ds) K=K (Bo (r != neg)):=by
 rw[Qq]
 apply propext
 constructor
 ·rintro⟨_,_,r',h',hk⟩; rw[h] at h'; cases h'; exact hk
 ·intro hk; exact⟨h1,h2,r,h,hk⟩
theorem dS (x:AV) (w:Bool) (f g:ai→Prop) (F G:AV→RM→ai→Prop) (k:ai) :
  aa x w f g (fun v M=>aa x w (F v M) (G v M) k)=aa x w (fun k'=>f fun v M=>F v M k') (fun k'=>g fun v M=>G v M k') k:=by
 unfold aa mi
 split
 ·split <;> simp_all
 ·rfl
 ·rfl
theorem Ro (x:AV) (w:Bool) (f g:KR→Prop) (F G:AV→RM→Option Nat→KR→Prop) (k:KR) :
  aI x w f g (fun v M b=>aI x w (F v M b) (G v M b) k)=aI x w (fun k'=>f fun v M b=>F v M b k') (fun k'=>g fun v M b=>G v M b k') k:=by
 unfold aI mi
 split
 ·split <;> simp_all
 ·rfl
 ·rfl
theorem aP {body:(List AV→RM→Prop)→List AV→RM→Prop} {xs:List AV} {M:RM} (I:Nat→List AV→RM→Prop) (n:Nat) (h0:I n xs M)
  (hb:∀ (next:List AV→RM→Prop) m ys M',(∀ m' zs M'',m'<m→I m' zs M''→next zs M'')→I m ys M'→body next ys M') : bA body xs M :=
 ⟨I,n,h0,fun m ys M' hI=>hb _ m ys M' (fun m' zs M'' hlt h=>⟨m',hlt,h⟩) hI⟩
abbrev By (b:UInt8) : AV:=N .u8 (b.toNat:Int)
def BY:Enc UInt8:=⟨1,fun b=>[By b],fun _=>rfl,fun _=>rfl⟩
theorem rQ (s:List UInt8) : BY.row s=s.map By:=by
 induction s with
 | nil=>rfl
 | cons b s ih=>rw[Enc.kS,ih]; rfl
def jO:Enc (List UInt8):=⟨1,fun s=>[St s],fun _=>rfl,fun _=>rfl⟩
def INT:Enc Int:=⟨1,fun n=>[N .i64 n],fun _=>rfl,fun _=>rfl⟩
theorem Ag:∀ (s:List UInt8),di byteOf (s.map By)=some s
 | []=>rfl
 | b :: s=>by
   simp only[List.map_cons,di,byteOf,Ag s]
   simp
section
variable {α:Type} {E:Enc α} {M M' : RM} {v:AV} {xs:List α}
theorem Sl.str {s:List UInt8} (h:Sl BY M v s) {K:AV→Prop} : vS M v K=K (St s) :=
 OH (dQ.zR h (by rw[rQ]; exact Ag s))
theorem Sl.Wu (h:Sl E M v xs) {i:Nat} (j:Int) (hi:i<xs.length) (hsz:E.size=1:=by rfl) (hj:j=(i:Int):=by rfl) :
  ∃ b o,b<M.next∧b∈aC v∧(∀ (kd:IntKind) (K:AV→Prop),aX v (N kd j) 1 K=K (.ptr b o))∧∀ x,E.cells xs[i]=[x]→M.cell b o=some x:=by
 obtain⟨b,o,h1,h2,h3,h4⟩:=Sl.at h 1 j hi hsz hj
 exact⟨b,o,h1,h2,h3,fun x hx=>qx h4 (by rw[hx]; rfl)⟩
structure Rw (E:Enc α) (M:RM) (b:Nat) (opn:Bool) (el:Nat) (xs:List α) : Prop where
 heap:M.heap b=some (.row (E.row xs) opn el 0)
 lt:b<M.next
theorem Rw.sl {b el:Nat} {p:Bool} {cap:Cap} (h:Rw E M b p el xs) : Sl E M (.slc b 0 xs.length cap) xs:=by
 refine .slc _ _ _ _ _ h.lt ?_
 rw[RM.lH h.heap (by rw[E.fQ]; omega),List.drop_zero,← E.fQ,List.take_length]
theorem Rw.keep {b el:Nat} {p:Bool} {bs:List Nat} (h:Rw E M b p el xs) (hk:ae bs M M') (hb:b ∉ bs) : Rw E M' b p el xs :=
 ⟨hk.ax h.heap h.lt hb,Nat.lt_of_lt_of_le h.lt hk.next⟩
theorem Rw.new {el:Nat} {p:Bool} (M:RM) (xs:List α) : Rw E (M.push (.row (E.row xs) p el 0)) M.next p el xs :=
 ⟨RM.aS _,by simp[RM.push]⟩
theorem Rw.load {b el:Nat} {p:Bool} (h:Rw E M b p el xs) {i:Nat} (hi:i<xs.length) : M.loads b (i * E.size) E.size=some (E.cells xs[i]):=by
 have hsum:i * E.size + E.size≤xs.length * E.size:=by rw[← Nat.succ_mul]; exact Nat.mul_le_mul_right _ hi
 rw[RM.lH h.heap (by rw[E.fQ]; exact hsum),E.yV hi]
theorem Enc.WY (E:Enc α) {xs:List α} {i:Nat} (hi:i<xs.length) (x:α) : E.row (xs.set i x)=(E.row xs).take (i * E.size)++E.cells x++(E.row xs).drop (i * E.size + E.size):=by
 rw[E.Fu,← Nat.succ_mul,E.Ae,List.set_eq_take_append_cons_drop,if_pos hi,E.tK,E.kS,List.append_assoc]
theorem Rw.store {b el:Nat} {p:Bool} (h:Rw E M b p el xs) {i:Nat} (hi:i<xs.length) (x:α) :
  M.stores b (i * E.size) (E.cells x)=some (M.put b (.row (E.row (xs.set i x)) p el 0))∧Rw E (M.put b (.row (E.row (xs.set i x)) p el 0)) b p el (xs.set i x):=by
 have hsum:i * E.size + E.size≤xs.length * E.size:=by rw[← Nat.succ_mul]; exact Nat.mul_le_mul_right _ hi
 refine⟨?_,RM.kI _ _,h.lt⟩
 rw[RM.RA h.heap (by rw[E.len,E.fQ]; exact hsum) (Nat.zero_le _) (E.one x),E.WY hi,E.len]
theorem Rw.ak {b el:Nat} {p:Bool} (h:Rw E M b p el xs) {i:Nat} (hi:i<xs.length) (hsz:E.size=1:=by rfl) {x:AV} (hx:E.cells xs[i]=[x]:=by rfl) : M.cell b i=some x:=by
 have:=h.load hi
 rw[hsz,Nat.mul_one] at this
 exact qx this (by rw[hx]; rfl)
theorem Rw.Uy {b el:Nat} {p:Bool} (h:Rw E M b p el xs) {i:Nat} (hi:i<xs.length) (x:α) (hsz:E.size=1:=by rfl) {u:AV} (hx:E.cells x=[u]:=by rfl) :
  M.stores b i [u]=some (M.put b (.row (E.row (xs.set i x)) p el 0))∧Rw E (M.put b (.row (E.row (xs.set i x)) p el 0)) b p el (xs.set i x):=by
 have:=h.store hi x
 rw[hsz,Nat.mul_one,hx] at this
 exact this
end
@[go_sem] theorem sw (el:Nat) (s:List UInt8) (K:RB→(Nat→AV)→Prop) : rZ el (St s) K=K (.row (BY.row s) true el 0) (fun b=>.slc b 0 s.length (.op 1)):=by
 rw[rQ]
 apply propext; unfold rZ
 constructor
 ·rintro⟨s',h,hk⟩; cases h; exact hk
 ·intro hk; exact⟨s,rfl,hk⟩
def bV (b:UInt8) : UInt8:=if 65≤b.toNat∧b.toNat≤90 then b + 32 else b
def low (s:List UInt8) : List UInt8:=s.map bV
theorem Kz (b:UInt8) : b.toNat<256:=b.toNat_lt
structure fG (n:Nat) (bs:List Nat) (M M' : RM) : Prop where
 base:M'.base=M.base
 next:M.next≤M'.next
 heap:∀ c,c<n→c ∉ bs→M'.heap c=M.heap c
theorem fG.refl (n:Nat) (bs:List Nat) (M:RM) : fG n bs M M:=⟨rfl,Nat.le_refl _,fun _ _ _=>rfl⟩
theorem fG.trans {n:Nat} {bs:List Nat} {M M1 M2:RM} (h:fG n bs M M1) (k:fG n bs M1 M2) : fG n bs M M2 :=
 ⟨k.base.trans h.base,Nat.le_trans h.next k.next,fun c h1 h2=>(k.heap c h1 h2).trans (h.heap c h1 h2)⟩
theorem ae.Iy {bs cs:List Nat} {n:Nat} {M0 M M' : RM} (h:ae bs M0 M) (k:fG n cs M M') (hn:M0.next≤n) (hc:∀ c∈cs,M0.next≤c∨c∈bs) : ae bs M0 M' :=
 ⟨k.base.trans h.base,Nat.le_trans h.next k.next,fun c h1 h2=>by
  rw[k.heap c (Nat.lt_of_lt_of_le h1 hn) (fun hm=>by rcases hc c hm with h3 | h3; omega; exact h2 h3),h.heap c h1 h2]⟩
theorem fG.ax {n:Nat} {bs:List Nat} {M M' : RM} (h:fG n bs M M') {b:Nat} {x:RB} (hh:M.heap b=some x) (hlt:b<n) (hb:b ∉ bs) : M'.heap b=some x:=by rw[h.heap b hlt hb,hh]
theorem Own.same {M M' : RM} {n el size n0:Nat} {v:AV} {cs:List AV} (h:Own M n0 el size v cs n) (hn:M'.next=M.next) (hb:∀ c∈aC v,M'.heap c=M.heap c) (hbase:M'.base=M.base) : Own M' n0 el size v cs n:=by
 cases h with
 | nil=>exact .nil
 | ex0 b o h1 h2 h3=>exact .ex0 b o h1 (by omega) (by simpa [RM.Fg,hb b (by simp[aC]),RM.lo,hbase] using h3)
 | op b n cs h1 h2 h3 h4=>exact .op b n cs h1 (by omega) (by rw[hb b (by simp[aC]),h3]) h4
theorem Own.one {M:RM} {n el size n0:Nat} {v:AV} {cs:List AV} (h:Own M n0 el size v cs n) : oneCell v=true:=by
 cases h <;> rfl
theorem Own.cells {M:RM} {n el size n0:Nat} {v:AV} {cs:List AV} (h:Own M n0 el size v cs n) : v.cells=[v]:=by
 cases h <;> rfl
section
variable {P:Program} {ρ:Ren} {M:RM} {w w' : World}
theorem cK.below {base:Base} {A:AW} (h:cK P base ρ A w) (hb:Below w.heap.size w w') (hn:base.n≤w.heap.size) : cK P base ρ A w' where
 dom b i hbi:=⟨(h.dom b i hbi).1,Nat.lt_of_lt_of_le (h.dom b i hbi).2 hb.size⟩
 blk b i x hbi hx:=let ⟨o,ho,hr⟩:=h.blk b i x hbi hx; ⟨o,by rw[hb.block _ (h.dom b i hbi).2]; exact ho,hr⟩
 sep:=h.sep
 top:=h.top
 lo:=h.lo
 inv:=base.low w w' (fun c hc=>hb.block c (Nat.lt_of_lt_of_le hc hn)) h.inv
theorem Step.of_below {base n:Nat} (hb:Below w.heap.size w w') (hn:base≤w.heap.size) : Step base n ρ w ρ w' where
 os:=hb.os
 tape:=hb.tape
 output:=hb.output
 size:=hb.size
 frame c hc _:=hb.block c hc
 ext _ _:=rfl
 fresh b i h:=.inl ⟨b,i,h,rfl⟩
 low c hc:=hb.block c (Nat.lt_of_lt_of_le hc hn)
theorem After.below (h:bS P ρ M w) (hb:Below w.heap.size w w') : After P M ρ w M ρ w':=by
 obtain⟨A,hA⟩:=h
 refine jA hA (Step.of_below hb hA.size) (hA.rel.below hb hA.size) rfl hA.next (Nat.le_refl _) fun b x hx=>?_
 rcases hA.blk b x hx with h | ⟨c,rfl,_⟩
 ·exact .inl h
 ·exact .inr ⟨c,rfl,hx⟩
theorem bS.inv (h:bS P ρ M w) : M.base.inv w:=by
 obtain⟨A,hA⟩:=h
 exact hA.rel.inv
theorem eD.lZ {f:FuncId} {args:List AV} {v:AV} {Q:ai} (hP:Pv P f)
  (h:∀ (ρ:Ren) (w:World) (us:List Value),aR ρ args us→bS P ρ M w→Calls P f ⟨us⟩ w fun e w'=>∃ v',e=.returned v'∧Below w.heap.size w w'∧ah ρ v v') (hQ:Q v M) : eD P f args M Q:=by
 refine⟨hP,fun ρ w us hargs hw=>(h ρ w us hargs hw).mono fun e w' hR=>?_⟩
 obtain⟨v',rfl,hb,hv⟩:=hR
 exact⟨v',v,M,ρ,rfl,After.below hw hb,hv,hQ⟩
end
structure kg (α:Type) where
 size:Nat
 rel:RM→List AV→α→(Nat→Prop)→Prop
 len:∀ {M cs a S},rel M cs a S→cs.length=size
 one:∀ {M cs a S},rel M cs a S→cs.all oneCell=true
 mono:∀ {M cs a S S'},rel M cs a S→(∀ b,S b→S' b)→rel M cs a S'
 lt:∀ {M cs a S},rel M cs a S→rel M cs a (fun b=>S b∧b<M.next)
 keep:∀ {M M' cs a S bs},rel M cs a S→ae bs M M'→(∀ b∈bs,¬ S b)→rel M' cs a S
def Enc.ko {α:Type} (E:Enc α) : kg α where
 size:=E.size
 rel _ cs a _:=cs=E.cells a
 len h:=by subst h; exact E.len _
 one h:=by subst h; exact E.one _
 mono h _:=h
 lt h:=h
 keep h _ _:=h
inductive dL {α:Type} (R:kg α) (M:RM) (S:Nat→Prop) : List AV→List α→Prop
 | nil:dL R M S [] []
 | cons {cs ds:List AV} {a:α} {xs:List α} : R.rel M cs a S→dL R M S ds xs→dL R M S (cs++ds) (a :: xs)
section
variable {α:Type} {R:kg α} {M M' : RM} {S S' : Nat→Prop} {cs ds:List AV} {xs ys:List α} {a:α}
theorem dL.len (h:dL R M S cs xs) : cs.length=xs.length * R.size:=by
 induction h with
 | nil=>simp
 | cons h1 _ ih=>rw[List.length_append,R.len h1,ih,List.length_cons,Nat.succ_mul,Nat.add_comm]
theorem dL.one (h:dL R M S cs xs) : cs.all oneCell=true:=by
 induction h with
 | nil=>rfl
 | cons h1 _ ih=>rw[List.all_append,R.one h1,ih]; rfl
theorem dL.mono (h:dL R M S cs xs) (hs:∀ b,S b→S' b) : dL R M S' cs xs:=by
 induction h with
 | nil=>exact .nil
 | cons h1 _ ih=>exact .cons (R.mono h1 hs) ih
theorem dL.lt (h:dL R M S cs xs) : dL R M (fun b=>S b∧b<M.next) cs xs:=by
 induction h with
 | nil=>exact .nil
 | cons h1 _ ih=>exact .cons (R.lt h1) ih
theorem dL.keep {bs:List Nat} (h:dL R M S cs xs) (hk:ae bs M M') (hb:∀ b∈bs,¬ S b) : dL R M' S cs xs:=by
 induction h with
 | nil=>exact .nil
 | cons h1 _ ih=>exact .cons (R.keep h1 hk hb) ih
theorem dL.append (h:dL R M S cs xs) (k:dL R M S ds ys) : dL R M S (cs++ds) (xs++ys):=by
 induction h with
 | nil=>exact k
 | cons h1 _ ih=>rw[List.append_assoc]; exact .cons h1 ih
theorem dL.single (h:R.rel M cs a S) : dL R M S cs [a]:=by
 have:=dL.cons h .nil
 simpa using this
theorem dL.get (h:dL R M S cs xs) : ∀ {i:Nat} (hi:i<xs.length),R.rel M ((cs.drop (i * R.size)).take R.size) xs[i] S:=by
 induction h with
 | nil=>intro i hi; simp at hi
 | cons h1 h2 ih =>
   rename_i c1 d1 a1 x1
   intro i hi
   cases i with
   | zero =>
     rw[Nat.zero_mul,List.drop_zero,List.take_append_of_le_length (by rw[R.len h1]; exact Nat.le_refl _),List.take_of_length_le (by rw[R.len h1]; exact Nat.le_refl _)]
     exact h1
   | succ i =>
     rw[Nat.succ_mul,Nat.add_comm,← List.drop_drop,List.drop_left' (R.len h1)]
     exact ih (by simpa using hi)
theorem dL.take (h:dL R M S cs xs) : ∀ (k:Nat),dL R M S (cs.take (k * R.size)) (xs.take k):=by
 induction h with
 | nil=>intro k; simp; exact .nil
 | cons h1 h2 ih =>
   intro k
   cases k with
   | zero=>simp; exact .nil
   | succ k =>
     rw[Nat.succ_mul,Nat.add_comm,List.take_append,List.take_of_length_le (by rw[R.len h1]; omega),R.len h1,Nat.add_sub_cancel_left]
     exact .cons h1 (ih k)
theorem dL.drop (h:dL R M S cs xs) : ∀ (k:Nat),dL R M S (cs.drop (k * R.size)) (xs.drop k):=by
 induction h with
 | nil=>intro k; simp; exact .nil
 | cons h1 h2 ih =>
   intro k
   cases k with
   | zero=>simp; exact .cons h1 h2
   | succ k =>
     rw[Nat.succ_mul,Nat.add_comm,← List.drop_drop,List.drop_left' (R.len h1)]
     exact ih k
theorem dL.cells {E:Enc α} : ∀ {cs:List AV} {xs:List α},dL E.ko M S cs xs→cs=E.row xs
 | _,_,.nil=>rfl
 | _,_,.cons h1 h2=>by rw[Enc.kS,dL.cells h2]; rw[show _=_ from h1]
theorem dL.of_cells {E:Enc α} : ∀ (xs:List α),dL E.ko M S (E.row xs) xs
 | []=>.nil
 | x :: xs=>by rw[Enc.kS]; exact .cons rfl (dL.of_cells xs)
def bE (R:kg α) (M:RM) (v:AV) (xs:List α) (S:Nat→Prop) : Prop :=
 ∃ cs,dQ M R.size v cs xs.length∧(∀ b∈aC v,S b)∧dL R M S cs xs
theorem dQ.lt {size n:Nat} {v:AV} (h:dQ M size v cs n) : ∀ b∈aC v,b<M.next:=by
 cases h with
 | nil=>intro b hb; simp[aC] at hb
 | emp=>intro b hb; simp[aC] at hb
 | slc b o n cap cs hb _=>intro c hc; simp[aC] at hc; omega
theorem dQ.one {size n:Nat} {v:AV} (h:dQ M size v cs n) : oneCell v=true:=by
 cases h <;> rfl
theorem dQ.cells {size n:Nat} {v:AV} (h:dQ M size v cs n) : v.cells=[v]:=by
 cases h <;> rfl
variable {v:AV}
theorem bE.mono (h:bE R M v xs S) (hs:∀ b,S b→S' b) : bE R M v xs S':=let ⟨cs,h1,h2,h3⟩:=h; ⟨cs,h1,fun b hb=>hs b (h2 b hb),h3.mono hs⟩
theorem bE.lt (h:bE R M v xs S) : bE R M v xs (fun b=>S b∧b<M.next):=let ⟨cs,h1,h2,h3⟩:=h; ⟨cs,h1,fun b hb=>⟨h2 b hb,h1.lt b hb⟩,h3.lt⟩
theorem bE.keep {bs:List Nat} (h:bE R M v xs S) (hk:ae bs M M') (hb:∀ b∈bs,¬ S b) : bE R M' v xs S :=
 let ⟨cs,h1,h2,h3⟩:=h; ⟨cs,h1.keep hk (fun b hv hbs=>hb b hbs (h2 b hv)),h2,h3.keep hk hb⟩
theorem bE.len (h:bE R M v xs S) {K:AV→Prop} : bZ v K=K (N .i64 xs.length):=let ⟨cs,h1,_,_⟩:=h; h1.len
theorem bE.one (h:bE R M v xs S) : oneCell v=true:=let ⟨cs,h1,_,_⟩:=h; h1.one
theorem bE.cells (h:bE R M v xs S) : v.cells=[v]:=let ⟨cs,h1,_,_⟩:=h; h1.cells
theorem bE.nil:bE R M aB [] S:=⟨[],.nil,by simp[aC],.nil⟩
theorem bE.sl {E:Enc α} (h:bE E.ko M v xs S) : Sl E M v xs:=by
 obtain⟨cs,h1,h2,h3⟩:=h
 rw[h3.cells] at h1
 exact h1
theorem bE.ZR {E:Enc α} (h:Sl E M v xs) (hs:∀ b∈aC v,S b) : bE E.ko M v xs S:=⟨_,h,hs,dL.of_cells xs⟩
theorem bE.at (h:bE R M v xs S) {i:Nat} (sz:Nat) (j:Int) (hi:i<xs.length) (hsz:R.size=sz:=by rfl) (hj:j=(i:Int):=by rfl) :
  ∃ b o cs,b<M.next∧b∈aC v∧(∀ (kd:IntKind) (K:AV→Prop),aX v (N kd j) sz K=K (.ptr b o))∧M.loads b o sz=some cs∧R.rel M cs xs[i] S:=by
 subst hsz hj
 obtain⟨cs,h1,h2,h3⟩:=h
 obtain⟨b,o,cap,rfl,hb,hl⟩:=h1.pos (by omega)
 have hsum:i * R.size + R.size≤xs.length * R.size:=by rw[← Nat.succ_mul]; exact Nat.mul_le_mul_right _ hi
 refine⟨b,o + i * R.size,(cs.drop (i * R.size)).take R.size,hb,by simp[aC],fun kd K=>?_, ?_,h3.get hi⟩
 ·rw[EY]
  simp only[Int.toNat_natCast]
  exact propext ⟨fun h=>h.2.2,fun h=>⟨by omega,by omega,h⟩⟩
 ·rw[wO hl (i * R.size) R.size hsum]
def kg.slice (R:kg α) : kg (List α) where
 size:=1
 rel M cs xs S:=∃ v,cs=[v]∧bE R M v xs S
 len h:=by obtain⟨v,rfl,_⟩:=h; rfl
 one h:=by obtain⟨v,rfl,h⟩:=h; simp[h.one]
 mono h hs:=by obtain⟨v,rfl,h⟩:=h; exact⟨v,rfl,h.mono hs⟩
 lt h:=by obtain⟨v,rfl,h⟩:=h; exact⟨v,rfl,h.lt⟩
 keep h hk hb:=by obtain⟨v,rfl,h⟩:=h; exact⟨v,rfl,h.keep hk hb⟩
def fe (R:kg α) (M:RM) (base el:Nat) (v:AV) (xs:List α) (S:Nat→Prop) : Prop :=
 ∃ cs,Own M base el R.size v cs xs.length∧dL R M S cs xs
theorem fe.nil {base el:Nat} : fe R M base el aB [] S:=⟨[],.nil,.nil⟩
theorem fe.mono {base el:Nat} (h:fe R M base el v xs S) (hs:∀ b,S b→S' b) : fe R M base el v xs S':=let ⟨cs,h1,h2⟩:=h; ⟨cs,h1,h2.mono hs⟩
theorem fe.lt {base el:Nat} (h:fe R M base el v xs S) : fe R M base el v xs (fun b=>S b∧b<M.next):=let ⟨cs,h1,h2⟩:=h; ⟨cs,h1,h2.lt⟩
theorem fe.keep {base el:Nat} {bs:List Nat} (h:fe R M base el v xs S) (hk:ae bs M M') (hb:∀ b∈bs,¬ S b) (hv:∀ b∈aC v,b ∉ bs) : fe R M' base el v xs S :=
 let ⟨cs,h1,h2⟩:=h; ⟨cs,h1.keep hk hv,h2.keep hk hb⟩
theorem fe.len {base el:Nat} (h:fe R M base el v xs S) {K:AV→Prop} : bZ v K=K (N .i64 xs.length):=let ⟨cs,h1,_⟩:=h; h1.uK.len
theorem fe.blk {base el:Nat} (h:fe R M base el v xs S) : ∀ b∈aC v,base≤b∧b<M.next:=let ⟨cs,h1,_⟩:=h; h1.blk
theorem fe.Ev {base el:Nat} (h:fe R M base el v xs S) (hs:∀ b,base≤b→b<M.next→S b) : bE R M v xs S :=
 let ⟨cs,h1,h2⟩:=h; ⟨cs,h1.uK,fun b hb=>hs b (h1.blk b hb).1 (h1.blk b hb).2,h2⟩
theorem fe.cells {base el:Nat} (h:fe R M base el v xs S) : v.cells=[v]:=let ⟨cs,h1,_⟩:=h; h1.cells
theorem fe.one {base el:Nat} (h:fe R M base el v xs S) : oneCell v=true:=let ⟨cs,h1,_⟩:=h; h1.one
theorem fe.app {base T bytes:Nat} {zs:List AV} {K:ai} (ho:fe R M base T v xs S) (ha:R.rel M cs a S) (hb:base≤M.next) (hs:1≤R.size)
  (hd:∀ b∈aC v,¬ S b) (hS:∀ b,S b→b<M.next)
  (hn:(xs.length + 1) * bytes≤140737488355328) (hn2:xs.length + 1≤140737488355328)
  (hK:∀ v' M',fe R M' base T v' (xs++[a]) S→ae (aC v) M M'→M.next≤M'.next→(v'=v∨∀ b∈aC v',M.next≤b)→(∀ b∈aC v',¬ S b)→K v' M') :
  appW T R.size bytes zs false v (.slc M.next 0 1 (.ex 1)) (M.push (.row cs false T 0)) K:=by
 obtain⟨ds,h1,h2⟩:=ho
 have hk:ae [] M (M.push (.row cs false T 0)):=(ae.refl _ _).push _
 have hl:=R.len ha
 have hnl:nR (M.push (.row cs false T 0)) R.size zs false (.slc M.next 0 1 (.ex 1))=some (1,cs):=by
  simp only[nR,Nat.one_mul]
  rw[RM.lH (RM.aS _) (by omega),List.drop_zero,← hl,List.take_length]
 refine DN (h1.keep hk (by simp)) (Nat.le_trans hb hk.next) hs hnl (by rw[hl,Nat.one_mul]) (R.one ha) hn hn2 ?_
 intro v' M' q1 q2 q3 q4
 have kk:ae (aC v) M M':=(hk.mono (by simp)).trans q2
 refine hK v' M' ⟨_,by simpa using q1, ?_⟩ kk (Nat.le_trans hk.next q3) (q4.imp id fun h b hb=>Nat.le_trans hk.next (h b hb)) ?_
 ·exact(h2.keep kk hd).append (dL.single (R.keep ha kk hd))
 ·rcases q4 with rfl | q4
  ·exact hd
  ·intro b hb hSb
   have:=q4 b hb
   have:=hS b hSb
   simp only[RM.push] at *
   omega
end
section
variable {M M' : RM} {b i n e f:Nat} {l:List AV} {p:Bool} {x:AV}
theorem az {K:AV→Prop} (h:M.heap b=some (.row l p e f)) (hx:l[i]?=some x) : ak M (.ptr b i) K=K x:=by
 rw[eZ,RM.cell_of h,hx]; simp
theorem aO {K:AV→Prop} (h:M.heap b=some (.row l p e f)) (hn:l.length=n) : aH M (.ptr b 0) n K=K (.agg l):=by
 rw[rO,RM.VM h]
 have:vH (some l) 0 n=some l:=by simp[vH,← hn]
 rw[this]; simp
theorem Co {K:RM→Prop} (h:M.heap b=some (.row l p e 0)) (hi:i<l.length) (hc:x.cells=[x]) (h1:oneCell x=true) : aA M (.ptr b i) x 1 K=K (M.put b (.row (l.set i x) p e 0)):=by
 rw[Hq,hc,RM.jW h,gM (by simp only[List.length_cons,List.length_nil]; omega) (Nat.zero_le _) (by simp[h1])]
 have:l.take i++[x]++l.drop (i + 1)=l.set i x:=by
  rw[List.set_eq_take_append_cons_drop,if_pos hi]; simp
 simp[this]
theorem bN {K:RM→Prop} (l' : List AV) (h:M.heap b=some (.row l p e 0)) (hi:i<l.length) (hc:x.cells=[x]) (h1:oneCell x=true) (hl:l.set i x=l') : aA M (.ptr b i) x 1 K=K (M.put b (.row l' p e 0)):=by
 rw[Co h hi hc h1,hl]
theorem bi {K:AV→Prop} : aF (.ptr b 0) n K=K (.ptr b n):=by rw[ja,Nat.zero_add]
theorem bK {K:RM→Prop} (h:M.heap b=some (.row l p e 0)) (hn:x.cells.length=n) (hl:l.length=n) (h1:x.cells.all oneCell=true) : aA M (.ptr b 0) x n K=K (M.put b (.row x.cells p e 0)):=by
 rw[Hq,RM.jW h,Kl (by rw[hn,hl]) h1]
 simp[hn]
theorem dC {c:Nat} {y z:RB} (h:M.heap b=some y) (hb:b≠c) : (M.put c z).heap b=some y:=by
 simp only[RM.put]; rw[if_neg hb]; exact h
theorem ay (y:RB) : (M.put b y).heap b=some y:=RM.kI _ _
theorem uS {y z:RB} (h:M.heap b=some y) (hb:b<M.next) : (M.push z).heap b=some y:=by
 simp only[RM.push]; rw[if_neg (by omega)]; exact h
theorem bH (y:RB) : (M.push y).next=M.next + 1:=rfl
theorem kH (c:Nat) (y:RB) : (M.put c y).next=M.next:=rfl
theorem ae.new {bs:List Nat} (h:ae bs M M') {b:Nat} (y:RB) (hb:M.next≤b) : ae bs M (M'.put b y):=h.put y (.inl hb)
end
variable {M:RM}
theorem bI {a:AV} {l:List AV} {K:AV→Prop} : aK (.tup (a :: l)) 0 K=K a:=by rw[E9]; simp
theorem bJ {a b:AV} {l:List AV} {K:AV→Prop} : aK (.tup (a :: b :: l)) 1 K=K b:=by rw[E9]; simp
theorem jf {a b c:AV} {l:List AV} {K:AV→Prop} : aK (.tup (a :: b :: c :: l)) 2 K=K c:=by rw[E9]; simp
theorem eU {p q:Prop} : au (Bo true) p q=p:=by simp[LJ]
theorem dI {p q:Prop} : au (Bo false) p q=q:=by simp[LJ]
theorem bg {b:Bool} {p q:Prop} (h1:b=true→p) (h2:b=false→q) : au (Bo b) p q:=⟨h1,h2⟩
theorem oQ {f g:ai→Prop} {k:ai} : aa (Bo true) true f g k=f k:=rfl
theorem lG {f g:ai→Prop} {k:ai} : aa (Bo false) false f g k=f k:=rfl
theorem iM {f g:ai→Prop} {k:ai} : aa (Bo true) false f g k=g k:=rfl
theorem wY {f g:ai→Prop} {k:ai} : aa (Bo false) true f g k=g k:=rfl
theorem nu {f g:KR→Prop} {k:KR} : aI (Bo true) true f g k=f k:=rfl
theorem TJ {f g:KR→Prop} {k:KR} : aI (Bo false) false f g k=f k:=rfl
theorem Ud {f g:KR→Prop} {k:KR} : aI (Bo true) false f g k=g k:=rfl
theorem oK {f g:KR→Prop} {k:KR} : aI (Bo false) true f g k=g k:=rfl
theorem gU {a b:AV} {K:AV→Prop} : aD (Bo true) a b K=K a:=by rw[Mf]; rfl
theorem jd {a b:AV} {K:AV→Prop} : aD (Bo false) a b K=K b:=by rw[Mf]; rfl
theorem dQ.known {size:Nat} {v:AV} {cs:List AV} {n:Nat} (h:dQ M size v cs n) : known v=true:=by
 cases h <;> rfl
theorem bE.known {α:Type} {R:kg α} {v:AV} {xs:List α} {S:Nat→Prop} (h:bE R M v xs S) : known v=true:=let ⟨_,h1,_,_⟩:=h; h1.known
theorem iZ {t:TypeId} {cs:List AV} {K:RB→(Nat→AV)→Prop} (h1:cs.all oneCell=true) (h2:1≤cs.length) : nO t (.agg cs) K=K (.row cs false t 0) (fun b=>.ptr b 0):=by
 unfold nO
 exact propext ⟨fun h=>h.2.2,fun h=>⟨h1,h2,h⟩⟩
def kg.pre {α β:Type} (E:Enc α) (R:kg β) : kg (α × β) where
 size:=E.size + R.size
 rel M cs a S:=∃ ds,cs=E.cells a.1++ds∧R.rel M ds a.2 S
 len h:=by obtain⟨ds,rfl,h⟩:=h; rw[List.length_append,E.len,R.len h]
 one h:=by obtain⟨ds,rfl,h⟩:=h; rw[List.all_append,E.one,R.one h]; rfl
 mono h hs:=by obtain⟨ds,rfl,h⟩:=h; exact⟨ds,rfl,R.mono h hs⟩
 lt h:=by obtain⟨ds,rfl,h⟩:=h; exact⟨ds,rfl,R.lt h⟩
 keep h hk hb:=by obtain⟨ds,rfl,h⟩:=h; exact⟨ds,rfl,R.keep h hk hb⟩
def kg.post {α β:Type} (R:kg α) (E:Enc β) : kg (α × β) where
 size:=R.size + E.size
 rel M cs a S:=∃ ds,cs=ds++E.cells a.2∧R.rel M ds a.1 S
 len h:=by obtain⟨ds,rfl,h⟩:=h; rw[List.length_append,E.len,R.len h]
 one h:=by obtain⟨ds,rfl,h⟩:=h; rw[List.all_append,E.one,R.one h]; rfl
 mono h hs:=by obtain⟨ds,rfl,h⟩:=h; exact⟨ds,rfl,R.mono h hs⟩
 lt h:=by obtain⟨ds,rfl,h⟩:=h; exact⟨ds,rfl,R.lt h⟩
 keep h hk hb:=by obtain⟨ds,rfl,h⟩:=h; exact⟨ds,rfl,R.keep h hk hb⟩
def kg.map {α β:Type} (R:kg α) (g:β→α) : kg β where
 size:=R.size
 rel M cs a S:=R.rel M cs (g a) S
 len h:=R.len h
 one h:=R.one h
 mono h hs:=R.mono h hs
 lt h:=R.lt h
 keep h hk hb:=R.keep h hk hb
end Go.Ab
namespace Go.Ab
open Go Go.RowKit Go.ChangeShapes
section
variable {H:Type} {enc:TypeId × Value→H} {P:Program} {w:World} {base:Nat} {spare:Nat→Bool} {held:Bool}
end
end Go.Ab
set_option maxRecDepth 10000
namespace Go.Ab
open Go Go.ChangeShapes
end Go.Ab
namespace Go.Ab
open Go Go.RowKit
section
variable {P:Program} {f:FuncId} {fn:Func} {w w' : World} {M:RM}
end
end Go.Ab
namespace Go.Ab.Sm
open Go Go.Ab
section
variable {i j:Nat} {K:AV→Prop}
theorem addN (h:i + j<4611686018427387904) : af .add (N .i64 (i:Int)) (N .i64 (j:Int)) K=K (N .i64 ((i + j:Nat) : Int)):=by
 rw[fq,fw (by omega) (by omega),Int.natCast_add]
theorem add1 (h:i<4611686018427387904) : af .add (N .i64 (i:Int)) (N .i64 1) K=K (N .i64 ((i + 1:Nat) : Int)):=by
 rw[fq,nz (by omega)]
theorem YH (h:j≤i) (hb:i<4611686018427387904) : af .sub (N .i64 (i:Int)) (N .i64 (j:Int)) K=K (N .i64 ((i - j:Nat) : Int)):=by
 rw[mM,fw (by omega) (by omega),show(i:Int) - (j:Int)=((i - j:Nat) : Int) by omega]
theorem jQ:af .lss (N .i64 (i:Int)) (N .i64 (j:Int)) K=K (Bo (decide (i<j))):=by rw[mP,show decide ((i:Int)<(j:Int))=decide (i<j) by simp]
theorem Fz:af .gtr (N .i64 (i:Int)) (N .i64 (j:Int)) K=K (Bo (decide (i > j))):=by rw[uL,show decide ((i:Int) > (j:Int))=decide (i > j) by simp]
theorem QO:af .leq (N .i64 (i:Int)) (N .i64 (j:Int)) K=K (Bo (decide (i≤j))):=by rw[oJ,show decide ((i:Int)≤(j:Int))=decide (i≤j) by simp]
theorem abu:af .eql (N .i64 (i:Int)) (N .i64 (j:Int)) K=K (Bo (decide (i=j))):=by
 rw[dV,show((i:Int) == (j:Int))=decide (i=j) by by_cases h:i=j <;> simp[h]; omega]
end
section
variable {M:RM} {c p:Bool} {f:ai→Prop} {P:RM→Prop} {G:AV→RM→Prop}
theorem wN (hf:c=true→∀ k:ai,k (Bo p) M→f k) (hG:G (Bo (c && p)) M) :
  aa (Bo c) true f (fun k=>k .undef M) (fun t M'=>aD (Bo c) t (Bo false) fun u=>G u M'):=by
 cases c with
 | false=>rw[wY]; dsimp only; rw[jd]; exact hG
 | true=>rw[oQ]; exact hf rfl _ (by rw[gU]; exact hG)
theorem qo (hf:c=false→∀ k:ai,k (Bo p) M→f k) (hG:G (Bo (c || p)) M) :
  aa (Bo c) false f (fun k=>k .undef M) (fun t M'=>aD (Bo c) (Bo true) t fun u=>G u M'):=by
 cases c with
 | true=>rw[iM]; dsimp only; rw[gU]; exact hG
 | false=>rw[lG]; exact hf rfl _ (by rw[jd]; exact hG)
theorem P8 (h0:P M) (hf:c=true→∀ k:ai,(∀ M',P M'→k (Bo p) M')→f k) (hG:∀ M',P M'→G (Bo (c && p)) M') :
  aa (Bo c) true f (fun k=>k .undef M) (fun t M'=>aD (Bo c) t (Bo false) fun u=>G u M'):=by
 cases c with
 | false=>rw[wY]; dsimp only; rw[jd]; exact hG M h0
 | true=>rw[oQ]; exact hf rfl _ fun M' h=>by rw[gU]; exact hG M' h
theorem Rq (h0:P M) (hf:c=false→∀ k:ai,(∀ M',P M'→k (Bo p) M')→f k) (hG:∀ M',P M'→G (Bo (c || p)) M') :
  aa (Bo c) false f (fun k=>k .undef M) (fun t M'=>aD (Bo c) (Bo true) t fun u=>G u M'):=by
 cases c with
 | true=>rw[iM]; dsimp only; rw[gU]; exact hG M h0
 | false=>rw[lG]; exact hf rfl _ fun M' h=>by rw[jd]; exact hG M' h
end
section
variable {M:RM} {c p:Bool} {f:KR→Prop} {G:AV→RM→Prop}
theorem aaS (hf:c=false→∀ k:KR,k (Bo p) M none→f k) (hG:G (Bo (c || p)) M) :
  aI (Bo c) false f (fun k=>k .undef M none) (fun t M' b=>aD (Bo c) (Bo true) t fun u=>G u M'):=by
 cases c with
 | true=>rw[Ud]; dsimp only; rw[gU]; exact hG
 | false=>rw[TJ]; exact hf rfl _ (by rw[Go.Ab.jd]; exact hG)
end
theorem aaQ {a:Int} {K:AV→Prop} : af .neq (N .i64 a) (N .i64 a) K=K (Bo false):=by rw[dM,bne_self_eq_false]
theorem TY {α:Type} {E:Enc α} {M:RM} {T:Nat} {v:AV} {xs:List α} (h:Ow E M 0 T v xs) (hi:0<xs.length) : ∃ b,v=.slc b 0 xs.length (.op E.size)∧b<M.next∧M.heap b=some (.row (E.row xs) true T 0):=by
 unfold Ow at h
 generalize xs.length=n at *
 generalize E.row xs=cs at *
 cases h with
 | nil=>omega
 | ex0 b o h1 h2 h3=>omega
 | op b n cs h1 h2 h3 h4=>exact⟨b,rfl,h2,h3⟩
theorem U1 {α:Type} {E:Enc α} (hs:E.size=1) {M:RM} {T:Nat} {v:AV} {xs:List α} (h:Ow E M 0 T v xs) {i:Nat} (hi:i<xs.length) : ∃ b,aC v=[b]∧b<M.next ∧
  (∀ (K:AV→Prop),aX v (N .i64 (i:Int)) 1 K=K (.ptr b i))∧(∀ x,E.cells xs[i]=[x]→∀ K:AV→Prop,ak M (.ptr b i) K=K x) ∧
  ∀ (a:α) (x:AV),E.cells a=[x]→x.cells=[x]→∃ M',Ow E M' 0 T v (xs.set i a)∧M'=M.put b (.row (E.row (xs.set i a)) true T 0)∧∀ K:RM→Prop,aA M (.ptr b i) x 1 K=K M':=by
 obtain⟨b,rfl,h2,h3⟩:=TY h (by omega)
 rw[hs]
 have hlen:(E.row xs).length=xs.length:=by rw[E.fQ,hs,Nat.mul_one]
 have hget:∀ x,E.cells xs[i]=[x]→(E.row xs)[i]?=some x:=by
  intro x hx
  have:=E.yV hi
  rw[hs,Nat.mul_one,hx] at this
  have h2:=congrArg (fun l:List AV=>l[0]?) this
  simpa using h2
 have hset:∀ (a:α) (x:AV),E.cells a=[x]→(E.row xs).set i x=E.row (xs.set i a):=by
  intro a x hx
  apply List.ext_getElem?
  intro j
  have hl2:(E.row (xs.set i a)).length=xs.length:=by rw[E.fQ,hs,Nat.mul_one,List.length_set]
  by_cases hj:j<xs.length
  ·have hj2:j<(xs.set i a).length:=by rw[List.length_set]; exact hj
   have e1:=E.yV (xs:=xs.set i a) hj2
   rw[hs,Nat.mul_one] at e1
   have e2:=E.yV (xs:=xs) hj
   rw[hs,Nat.mul_one] at e2
   have e1:=congrArg (fun l:List AV=>l[0]?) e1
   have e2:=congrArg (fun l:List AV=>l[0]?) e2
   simp only[List.getElem?_take,List.getElem?_drop,Nat.zero_lt_one,if_true,Nat.add_zero] at e1 e2
   rw[e1]
   by_cases hji:j=i
   ·subst hji
    rw[List.getElem?_set_self (by omega)]
    simp[hx]
   ·rw[List.getElem?_set_ne (fun e=>hji e.symm),e2]
    rw[List.getElem_set_ne (fun e=>hji e.symm)]
  ·rw[List.getElem?_eq_none (by rw[List.length_set]; omega),List.getElem?_eq_none (by omega)]
 refine⟨b,rfl,h2,fun K=>?_,fun x hx K=>az h3 (hget x hx),fun a x hx hc=>?_⟩
 ·rw[EY]
  simp only[Int.toNat_natCast,Nat.mul_one,Nat.zero_add]
  exact propext ⟨fun h=>h.2.2,fun h=>⟨by omega,by omega,h⟩⟩
 ·have h1x:oneCell x=true:=by
   have:=E.one a
   rw[hx] at this
   simpa using this
  refine⟨_, ?_,rfl,fun K=>bN (l':=E.row (xs.set i a)) h3 (by omega) hc h1x (hset a x hx)⟩
  have hl3:(xs.set i a).length=xs.length:=List.length_set
  show Own _ 0 T E.size (.slc b 0 xs.length (.op 1)) _ _
  rw[hs,hl3]
  exact .op b xs.length _ (Nat.zero_le _) h2 (ay _) (by rw[E.fQ,hs,hl3])
end Go.Ab.Sm
namespace Go.Ab
open Go Go.RowKit
inductive kV (B:Nat) (P:Program) (M:RM) : TypeId→List AV→Prop
 | bool (t:TypeId) (b:Bool) : P.underlying t=some .bool→kV B P M t [Bo b]
 | int (t:TypeId) (k:IntKind) (n:Int) : P.underlying t=some (.int k)→k.min≤n→n≤k.max→kV B P M t [N k n]
 | str (t:TypeId) (s:List UInt8) : P.underlying t=some .string→s.length≤B→kV B P M t [St s]
 | Y5 (t e:TypeId) : P.underlying t=some (.slice e)→kV B P M t [aB]
 | emp (t e:TypeId) (b:Nat) : P.underlying t=some (.slice e)→kV B P M t [.emp b]
 | slc (t e:TypeId) (b o n c:Nat) (cs:List AV) : P.underlying t=some (.slice e)→b<M.next→n≤c→n≤B→M.loads b o (n * P.cellsOf e)=some cs →
   (∀ i,i<n→kV B P M e ((cs.drop (i * P.cellsOf e)).take (P.cellsOf e)))→kV B P M t [.slc b o n (.ex c)]
 | struct (t:TypeId) (fs:Array Field) (cs:List AV) : P.underlying t=some (.struct fs)→cs.length=P.cellsOf t →
   (∀ (i:Nat) (f:Field),fs[i]?=some f→kV B P M f.type ((cs.drop f.offset).take (P.cellsOf f.type)))→kV B P M t cs
 | array (t e:TypeId) (n:Nat) (cs:List AV) : P.underlying t=some (.array n e)→cs.length=P.cellsOf t →
   (∀ i,i<n→kV B P M e ((cs.drop (i * P.cellsOf e)).take (P.cellsOf e)))→kV B P M t cs
 | other (t:TypeId) (cs:List AV) : Mt (P.underlying t)=true→kV B P M t cs
 | zero (t e:TypeId) (cs:List AV) : P.underlying t=some (.slice e)→P.cellsOf e=0→kV B P M t cs
section
variable {H:Type} {enc:TypeId × Value→H} {P:Program} {base:Base} {w:World}
variable {bulk:DataW H→Nat} {B:Nat}
structure ab4 (bulk:DataW H→Nat) : Prop where
 str:∀ bs:List UInt8,bs.length≤bulk (.lit (.string bs))
 len:∀ es sp:List (DataW H),es.length≤bulk (.slice es sp)
 elem:∀ (es sp:List (DataW H)) d,d∈es→bulk d≤bulk (.slice es sp)
 spare:∀ (es sp:List (DataW H)) d,d∈sp→bulk d≤bulk (.slice es sp)
 agg:∀ (ps:List (DataW H)) d,d∈ps→bulk d≤bulk (.agg ps)
end
section
variable {P:Program} {M:RM} {t:TypeId} {cs:List AV} {B:Nat}
def U5:AV→Prop
 | .slc _ _ n (.ex c)=>n≤c
 | .slc _ _ _ (.op e)=>e=1
 | _=>True
end
def NC (B:Nat) (P:Program) (M:RM) (t:TypeId) (v:AV) : Prop :=
 match BN P t with
 | true=>∃ cs,v=.agg cs∧kV B P M t cs
 | false=>kV B P M t [v]
theorem NC.one {B:Nat} {P:Program} {M:RM} {t:TypeId} {v:AV} (h:NC B P M t v) (ha:BN P t=false) : kV B P M t [v]:=by
 unfold NC at h; rw[ha] at h; exact h
section
variable {H:Type} {enc:TypeId × Value→H} {P:Program} {base:Base} {w:World} {bulk:DataW H→Nat} {B:Nat}
end
section
variable {P:Program} {ρ:Ren} {M:RM} {w w' : World}
end
end Go.Ab
namespace Go.Ab.Sha
open Go Go.Ab
abbrev Str:=List UInt8
structure Bs (M:RM) (v:AV) (b:Str) : Prop where
 sl:Sl BY M v b
 cap:U5 v
theorem Bs.keep {M M' : RM} {v:AV} {b:Str} {bs:List Nat} (h:Bs M v b) (k:ae bs M M') (hb:∀ x∈aC v,x ∉ bs) : Bs M' v b:=⟨dQ.keep h.sl k hb,h.cap⟩
theorem Bs.len {M:RM} {v:AV} {b:Str} (h:Bs M v b) {K:AV→Prop} : bZ v K=K (N .i64 (b.length:Int)):=dQ.len h.sl
theorem Xi {M:RM} {base T n:Nat} {v:AV} {cs:List AV} (h:Own M base T 1 v cs n) : U5 v:=by
 cases h with
 | nil=>trivial
 | ex0 b o _ _ _=>exact Nat.le_refl _
 | op b n cs _ _ _ _=>rfl
theorem Bs.own {M:RM} {base T:Nat} {v:AV} {b:Str} (h:Ow BY M base T v b) : Bs M v b:=⟨Own.uK h,Xi h⟩
theorem Gp {M:RM} {b o n:Nat} {x:Str} (h:M.loads b o (n * 1)=some (BY.row x)) {l u:Nat} (h1:l≤u) (h2:u≤n) : M.loads b (o + l * 1) ((u - l) * 1)=some (BY.row ((x.drop l).take (u - l))):=by
 have:=wO h (l * 1) ((u - l) * 1) (by omega)
 rw[this]
 congr 1
 have e1:=BY.Ae x l
 have e2:=BY.Fu (x.drop l) (u - l)
 rw[show l * 1=l * BY.size from rfl,e1,show(u - l) * 1=(u - l) * BY.size from rfl,e2]
theorem Bs.sub {M:RM} {v:AV} {b:Str} (h:Bs M v b) {lo hi:Option AV} {l u:Nat} (e1:bnd 0 lo=some l) (e2:bnd b.length hi=some u) (h1:l≤u) (h2:u≤b.length) {K:AV→Prop}
  (hK:∀ v',Bs M v' ((b.drop l).take (u - l))→(∀ x∈aC v',x∈aC v)→K v') : bO (kT 1 v lo hi none) K:=by
 obtain⟨hs,hc⟩:=h
 have hlen:((b.drop l).take (u - l)).length=u - l:=by simp; omega
 have zero:u=l→∀ {w:AV},dQ M 1 w [] 0→Sl BY M w ((b.drop l).take (u - l)):=by
  intro e w hw
  subst e
  rw[Nat.sub_self,List.take_zero]
  exact hw
 unfold Sl at hs
 generalize hn:b.length=n at *
 generalize hcs:BY.row b=cs at *
 cases hs with
 | nil =>
   have l0:l=0:=by omega
   have u0:u=0:=by omega
   subst l0 u0
   exact⟨aB,by simp only[kT,aB,e1,e2],hK _ ⟨zero rfl .nil,trivial⟩ (fun x hx=>hx)⟩
 | emp b0 =>
   have l0:l=0:=by omega
   have u0:u=0:=by omega
   subst l0 u0
   exact⟨.emp b0,by simp only[kT,e1,e2],hK _ ⟨zero rfl (.emp _),trivial⟩ (fun x hx=>hx)⟩
 | slc b0 o _ cap cs hb hl =>
   subst hcs
   have hl':=Gp hl h1 h2
   have whole:∀ cap',U5 (.slc b0 (o + l * 1) (u - l) cap')→(Bs M (.slc b0 (o + l * 1) (u - l) cap') ((b.drop l).take (u - l))):=fun cap' hcap=>⟨by
    unfold Sl; rw[hlen]; exact .slc _ _ _ _ _ hb hl',hcap⟩
   cases cap with
   | ex c =>
     have hcn:n≤c:=hc
     by_cases e:c=l
     ·subst e
      have hu:u=c:=by omega
      subst hu
      refine⟨.slc b0 o 0 (.ex 0),by simp only[kT,e1,e2]; rw[if_pos ⟨Nat.le_refl _,Nat.le_refl _⟩]; simp,hK _ ⟨zero rfl (.slc _ _ _ _ _ hb ?_),Nat.le_refl _⟩ (fun x hx=>hx)⟩
      have:=Gp hl (Nat.le_refl 0) (Nat.zero_le n)
      simpa [BY,Enc.row] using this
     ·exact⟨_,by simp only[kT,e1,e2]; rw[if_pos ⟨h1,by omega⟩,if_neg e],hK _ (whole _ (by show u - l≤c - l; omega)) (fun x hx=>hx)⟩
   | op esz =>
     have he:esz=1:=hc
     subst he
     by_cases e:n≤l
     ·have hu:u=l:=by omega
      exact⟨.emp b0,by simp only[kT,e1,e2]; simp[h1,h2,e],hK _ ⟨zero hu (.emp _),trivial⟩ (fun x hx=>by simp[aC] at hx)⟩
     ·exact⟨_,by simp only[kT,e1,e2]; simp only[and_true]; rw[if_pos ⟨h1,h2⟩,if_neg e],hK _ (whole (.op 1) rfl) (fun x hx=>hx)⟩
theorem Na (d n:Nat) (k:IntKind) : bnd d (some (N k (n:Int)))=some n:=by simp[bnd]
theorem abr (d:Nat) : bnd d none=some d:=rfl
theorem ae.own {bs:List Nat} {M M1 M2:RM} {v:AV} (k1:ae bs M M1) (k2:ae (aC v) M1 M2) (hv:∀ b∈aC v,M.next≤b) : ae bs M M2 :=
 ⟨k2.base.trans k1.base,Nat.le_trans k1.next k2.next,fun x hx hb=>by
  rw[k2.heap x (Nat.lt_of_lt_of_le hx k1.next) (fun h=>by have:=hv x h; omega),k1.heap x hx hb]⟩
theorem CU {M:RM} {b n:Nat} {l cs:List AV} {p:Bool} {e:Nat} {K:RM→Prop} (h:M.heap b=some (.row l p e 0)) (hn:cs.length=n) (hl:l.length=n) (h1:cs.all oneCell=true) :
  aA M (.ptr b 0) (.agg cs) n K=K (M.put b (.row cs p e 0)):=bK (x:=.agg cs) h hn hl h1
theorem Bs.lt {M:RM} {v:AV} {b:Str} (h:Bs M v b) : ∀ x∈aC v,x<M.next:=dQ.lt h.sl
theorem uQ (s:Str) : (BY.row s).length=s.length:=by rw[Enc.fQ]; simp[BY]
theorem Bs.read {M:RM} {v:AV} {b:Str} (h:Bs M v b) {i:Nat} (hi:i<b.length) {K:AV→Prop} : (aX v (N .i64 (i:Int)) 1 fun t=>ak M t K)=K (By b[i]):=by
 obtain⟨c,o,_,_,hix,hld⟩:=h.sl.Wu (i:Int) hi
 rw[hix,eZ,hld _ rfl]
 exact propext ⟨fun⟨v,e,k⟩=>by cases e; exact k,fun k=>⟨_,rfl,k⟩⟩
theorem WX {T:Nat} {M:RM} {z cs:List AV} {K:AV→RM→Prop} (n:Nat) (hz:z.length=n) (hc:cs.length=n) (h1:cs.all oneCell=true)
  (hK:∀ M',ae [] M M'→M'.heap M.next=some (.row cs false T 0)→M.next<M'.next→K (.ptr M.next 0) M') :
  aZ (.row z false T 0) (fun b=>.ptr b 0) M fun t M1=>aA M1 t (.agg cs) n fun M2=>K t M2:=by
 simp only[aG]
 have n1:(M.push (.row z false T 0)).heap M.next=some (.row z false T 0):=by simp[RM.push]
 rw[CU n1 hc hz h1]
 exact hK _ (((ae.refl _ _).push _).new _ (Nat.le_refl _)) (ay _) (by simp[RM.push,RM.put])
def Dt (f:(List AV→RM→Prop)→Prop) (g:List AV→RM→Prop) : Prop:=f g
theorem dK (f:(List AV→RM→Prop)→Prop) (g:List AV→RM→Prop) : cZ f g=Dt f g:=rfl
theorem bQ {H:(List AV→RM→Prop)→Prop} {G:List AV→RM→Prop} (P:List AV→RM→Prop) (hT:∀ xs M,P xs M→G xs M)
  (hH:∀ J:List AV→RM→Prop,(∀ xs M,P xs M→J xs M)→H J) : Dt H G:=hH G hT
theorem DJ {s:List UInt8} {i:Nat} (hi:i<s.length) (kd:IntKind) (K:AV→Prop) : dG (St s) (N kd (i:Int)) K=K (By s[i]):=by
 rw[Pb]
 apply propext
 constructor
 ·rintro⟨_,b,hb,hk⟩
  rw[Int.toNat_natCast,List.getElem?_eq_getElem hi] at hb
  cases hb; exact hk
 ·intro hk; exact⟨by omega,s[i],by rw[Int.toNat_natCast,List.getElem?_eq_getElem hi],hk⟩
theorem oD {k:IntKind} {a:Int} {K:AV→Prop} : GN (N k a) K=K (N k (Cz k (if k.signed then -1 else k.max) a)):=by
 apply propext; unfold GN
 constructor
 ·rintro⟨k',a',h1,hk⟩; cases h1; exact hk
 ·intro hk; exact⟨k,a,rfl,hk⟩
end Go.Ab.Sha
set_option maxRecDepth 100000
namespace Go.Ab.Vl
open Go Go.Ab
def oI (p1:Nat) (p2 p3 p4:aj) (a0:AV) (M0:RM) (Q:ai) : Prop:=aZ (.row [(.sc (.pointer none)),(.sc (.slice none 0 0))] false p1 0) (fun L=>.ptr L 0) M0 fun l C=>bA (fun ve i j=>aQ a0 fun wb=>af .lss (ag i 0) wb fun wc=>au wc ( cZ (fun m=>dG a0 (ag i 0) fun vg=>af .neq vg (N .u8 92) fun vh=>au vh ( dG a0 (ag i 0) fun vi=>p2 [l,vi] j fun we D=>m [(ag i 0)] D) ( af .add (ag i 0) (N .i64 1) fun d=>aQ a0 fun vj=>af .lss d vj fun e=>aa e true (fun c=>c a0 j) (fun c=>c .undef j) fun vk t=>aa e true (fun Y=>Y d t) (fun c=>c .undef t) fun vl z=>aa e true (fun vc=>dG vk vl fun vm=>vc vm z) (fun c=>c .undef z) fun vn B=>aa e true (fun vd=>af .eql vn (N .u8 110) fun vo=>vd vo B) (fun c=>c .undef B) fun vp o=>aa e true (fun O=>O vp o) (fun c=>c .undef o) fun h p=>aa h false (fun P=>P a0 p) (fun c=>c .undef p) fun vq q=>aa h false (fun R=>R d q) (fun c=>c .undef q) fun vr r=>aa h false (fun S=>dG vq vr fun vs=>S vs r) (fun c=>c .undef r) fun vt s=>aa h false (fun U=>af .eql vt (N .u8 78) fun vu=>U vu s) (fun c=>c .undef s) fun vv u=>aa e true (fun V=>aD h (Bo true) vv fun vw=>V vw u) (fun c=>c .undef u) fun vx n=>aD e vx (Bo false) fun vy=>au vy ( p2 [l,(N .u8 10)] n fun wf E=>m [d] E) ( aQ a0 fun vz=>af .lss d vz fun g=>aa g true (fun W=>W a0 n) (fun c=>c .undef n) fun v0 v=>aa g true (fun X=>X d v) (fun c=>c .undef v) fun v1 w=>aa g true (fun Z=>dG v0 v1 fun v2=>Z v2 w) (fun c=>c .undef w) fun v3 x=>aa g true (fun va=>p3 [(St [92,44,59,58]),v3] x fun v4 F=>va v4 F) (fun c=>c .undef x) fun v5 y=>aa g true (fun vb=>af .geq v5 (N .i64 0) fun v6=>vb v6 y) (fun c=>c .undef y) fun v7 A=>aD g v7 (Bo false) fun v8=>au v8 ( dG a0 d fun v9=>p2 [l,v9] A fun wg G=>m [d] G) ( Q (.tup [(St []),(N .i64 14)]) A)))) (fun wd H=>af .add (ag wd 0) (N .i64 1) fun vf=>ve [vf] H)) ( p4 [l] j fun wa I=>Q (.tup [wa,(N .i64 0)]) I)) [(N .i64 0)] C
def sU (p1:Nat) (p2 p3 p4:aj) (a0:AV) (M0:RM) (Q:ai) : Prop:=nO p1 a0 fun l j=>aZ l j M0 fun g d=>aH d g 5 fun q=>p2 [q] d fun r c=>eY r fun s=>au s ( Q (.tup [(St []),(N .i64 1)]) c) ( aH c g 5 fun t=>p3 [t] c fun h e=>aQ h fun m=>af .gtr m (N .i64 912) fun n=>au n ( Q (.tup [(St []),(N .i64 2)]) e) ( p4 [h] e fun o i=>bn .add o (St [13,10]) fun p=>Q (.tup [p,(N .i64 0)]) i))
def vM (p1 p2:aj) (p3:Nat) (a0:AV) (M0:RM) (Q:ai) : Prop:=p1 [a0] M0 fun m p=>aK m 0 fun n=>aK m 1 fun h=>bZ n fun z=>bA (fun x c d=>af .lss (ag c 1) z fun A=>au A ( cZ (fun j=>aX n (ag c 1) 1 fun B=>ak d B fun i=>bn .eql i (St []) fun C=>au C ( j [(ag c 0)] d) ( aQ i fun D=>af .gtr D (N .i64 912) fun E=>au E ( aX h (ag c 1) 1 fun F=>ak d F fun G=>Q (.tup [(.sc (.slice none 0 0)),G,(N .i64 2)]) d) ( p2 [i] d fun o q=>aK o 0 fun H=>aK o 1 fun I=>aZ (.row [(St []),(St []),(.sc (.slice none 0 0)),(St []),(N .i64 0)] false p3 0) (fun v=>.ptr v 0) q fun g r=>aA r g H 5 fun e=>eY I fun L=>au L ( aX h (ag c 1) 1 fun O=>ak e O fun P=>Q (.tup [(.sc (.slice none 0 0)),P,(N .i64 3)]) e) ( aX h (ag c 1) 1 fun R=>ak e R fun S=>aF g 4 fun U=>aA e U S 1 fun l=>aH l g 5 fun V=>eO p3 1 [(St []),(St []),(.sc (.slice none 0 0)),(St []),(N .i64 0)] [(0,5,V)] fun y w=>aZ y w l fun W s=>appW p3 5 80 [(St []),(St []),(.sc (.slice none 0 0)),(St []),(N .i64 0)] false (ag c 0) W s fun X t=>j [X] t)))) (fun Z u=>af .add (ag c 1) (N .i64 1) fun Y=>x [(ag Z 0),Y] u)) ( Q (.tup [(ag c 0),(N .i64 0),(N .i64 0)]) d)) [(.sc (.slice none 0 0)),(N .i64 0)] p
def qm (p1 p2:aj) (p3 p4:Nat) (a0:AV) (M0:RM) (Q:ai) : Prop:=bA (fun vc d p=>bn .neq (ag d 0) (St []) fun vf=>au vf ( cZ (fun n=>p1 [(ag d 0),(St [10])] p fun j q=>aK j 0 fun B=>aK j 1 fun C=>aK j 2 fun vh=>cZ (fun o=>au vh ( p2 [B,(St [13])] q fun vi E=>o [vi] E) ( o [B] q)) (fun g y=>bZ (ag d 1) fun vj=>af .gtr vj (N .i64 0) fun l=>aa l true (fun c=>c (ag g 0) y) (fun c=>c .undef y) fun vk z=>aa l true (fun va=>bn .neq vk (St []) fun vl=>va vl z) (fun c=>c .undef z) fun vm A=>aD l vm (Bo false) fun e=>aa e true (fun vb=>vb (ag g 0) A) (fun c=>c .undef A) fun vn r=>aa e true (fun S=>dG vn (N .i64 0) fun vo=>S vo r) (fun c=>c .undef r) fun vp s=>aa e true (fun U=>af .eql vp (N .u8 32) fun vq=>U vq s) (fun c=>c .undef s) fun vr t=>aa e true (fun V=>V vr t) (fun c=>c .undef t) fun h u=>aa h false (fun W=>W (ag g 0) u) (fun c=>c .undef u) fun vs v=>aa h false (fun X=>dG vs (N .i64 0) fun vt=>X vt v) (fun c=>c .undef v) fun vu w=>aa h false (fun Y=>af .eql vu (N .u8 9) fun vv=>Y vv w) (fun c=>c .undef w) fun vw x=>aa e true (fun Z=>aD h (Bo true) vw fun vx=>Z vx x) (fun c=>c .undef x) fun vy i=>aD e vy (Bo false) fun vz=>au vz ( bZ (ag d 1) fun v0=>af .sub v0 (N .i64 1) fun D=>aX (ag d 1) D 1 fun v1=>ak i v1 fun v2=>bO (aU (ag g 0) (some (N .i64 1)) none) fun v3=>bn .add v2 v3 fun v4=>aX (ag d 1) D 1 fun v5=>aA i v5 v4 1 fun F=>n [C,(ag d 1),(ag d 2)] F) ( eO p3 1 [(St [])] [(0,1,(ag g 0))] fun vd P=>aZ vd P i fun v6 G=>appW p3 1 16 [(St [])] false (ag d 1) v6 G fun v7 H=>eO p4 1 [(N .i64 0)] [(0,1,(ag d 3))] fun ve R=>aZ ve R H fun v8 I=>appW p4 1 8 [(N .i64 0)] false (ag d 2) v8 I fun v9 L=>n [C,v7,v9] L))) (fun m O=>af .add (ag d 3) (N .i64 1) fun vg=>vc [(ag m 0),(ag m 1),(ag m 2),vg] O)) ( Q (.tup [(ag d 1),(ag d 2)]) p)) [a0,(.sc (.slice none 0 0)),(.sc (.slice none 0 0)),(N .i64 1)] M0
def uD (p1:Nat) (p2 p3 p4:aj) (a0:AV) (M0:RM) (Q:ai) : Prop:=aZ (.row [(.sc (.pointer none)),(.sc (.slice none 0 0))] false p1 0) (fun q=>.ptr q 0) M0 fun d l=>bA (fun r c g=>bn .neq (ag c 0) (St []) fun v=>au v ( p2 [(ag c 0),(ag c 1)] g fun i m=>bO (aU (ag c 0) none (some i)) fun s=>p3 [d,s] m fun w h=>bO (aU (ag c 0) (some i) none) fun j=>cZ (fun e=>bn .neq j (St []) fun t=>au t ( p3 [d,(St [13,10,32])] h fun x n=>e [] n) ( e [] h)) (fun y o=>r [j,(N .i64 74)] o)) ( p4 [d] g fun u p=>Q u p)) [a0,(N .i64 75)] l
def qN (p1 p2:Nat) (p3 p4 p5:aj) (a0:AV) (M0:RM) (Q:ai) : Prop:=aZ (.row [(.sc (.pointer none)),(.sc (.slice none 0 0))] false p1 0) (fun w=>.ptr w 0) M0 fun e o=>rZ p2 a0 fun z x=>aZ z x o fun n p=>bZ n fun G=>bA (fun y j d=>af .lss (ag j 0) G fun A=>au A ( cZ (fun g=>aX n (ag j 0) 1 fun B=>ak d B fun c=>cZ (fun h=>af .eql c (N .u8 92) fun l=>au l ( h [l] d) ( af .eql c (N .u8 44) fun m=>au m ( h [m] d) ( af .eql c (N .u8 59) fun C=>h [C] d))) (fun H i=>au (ag H 0) ( p3 [e,(N .u8 92)] i fun L s=>p3 [e,c] s fun O t=>g [] t) ( af .eql c (N .u8 10) fun D=>au D ( p4 [e,(St [92,110])] i fun P u=>g [] u) ( p3 [e,c] i fun I v=>g [] v)))) (fun R q=>af .add (ag j 0) (N .i64 1) fun E=>y [E] q)) ( p5 [e] d fun F r=>Q F r)) [(N .i64 0)] p
def dY (p1:aj) (p2:Nat) (a0 a1:AV) (M0:RM) (Q:ai) : Prop:=p1 [a0] M0 fun r c=>nQ a0 fun q=>aF q 1 fun j=>ak c j fun l=>eO p2 1 [(N .u8 0)] [(0,1,a1)] fun i h=>aZ i h c fun m d=>appW p2 1 1 [(N .u8 0)] false l m d fun n e=>nQ a0 fun o=>aF o 1 fun p=>aA e p n 1 fun g=>Q (.sc .nilIface) g
def qh (p1:aj) (a0 a1:AV) (M0:RM) (Q:ai) : Prop:=p1 [a0,a1] M0 fun d c=>Q d c
def jC (p1:Nat) (a0:AV) (M0:RM) (Q:ai) : Prop:=nQ a0 fun i=>aF i 1 fun j=>ak M0 j fun l=>CE l fun m=>nQ a0 fun n=>aF n 1 fun d=>ak M0 d fun e=>bZ e fun g=>WE p1 m g M0 fun h c=>Q h c
def uO (p1:Nat) (p2 p3:aj) (p4:Nat) (p5:aj) (p6:Nat) (a0:AV) (M0:RM) (Q:ai) : Prop:=nO p1 a0 fun vr X=>aZ vr X M0 fun d m=>aF d 0 fun w3=>ak m w3 fun w4=>bn .neq w4 (St []) fun i=>aa i true (fun c=>aF d 0 fun w5=>c w5 m) (fun c=>c .undef m) fun w6 n=>aa i true (fun vb=>ak n w6 fun vs=>vb vs n) (fun c=>c .undef n) fun vt B=>aa i true (fun vk=>p2 [vt] B fun vu U=>vk vu U) (fun c=>c .undef B) fun vv L=>aa i true (fun vp=>eY vv fun vw=>vp vw L) (fun c=>c .undef L) fun vx v=>aD i vx (Bo false) fun e=>aa e false (fun Y=>aF d 1 fun vy=>Y vy v) (fun c=>c .undef v) fun vz o=>aa e false (fun Z=>ak o vz fun v0=>Z v0 o) (fun c=>c .undef o) fun v1 w=>aa e false (fun va=>p2 [v1] w fun v2 P=>va v2 P) (fun c=>c .undef w) fun v3 x=>aa e false (fun vc=>eY v3 fun v4=>vc v4 x) (fun c=>c .undef x) fun v5 y=>aD e (Bo true) v5 fun g=>aa g false (fun vd=>aF d 3 fun v6=>vd v6 y) (fun c=>c .undef y) fun v7 p=>aa g false (fun ve=>ak p v7 fun v8=>ve v8 p) (fun c=>c .undef p) fun v9 z=>aa g false (fun vf=>p3 [v9,(St [])] z fun wa R=>vf wa R) (fun c=>c .undef z) fun wb A=>aa g false (fun vg=>eY wb fun wc=>vg wc A) (fun c=>c .undef A) fun wd q=>aD g (Bo true) wd fun we=>au we ( Q (Bo false) q) ( aF d 2 fun wf=>ak q wf fun O=>bZ O fun wg=>bA (fun vq u r=>af .lss (ag u 0) wg fun wh=>au wh ( aX O (ag u 0) 2 fun wi=>aH r wi 2 fun wj=>aZ (.row [(St []),(.sc (.slice none 0 0))] false p4 0) (fun W=>.ptr W 0) r fun j S=>aA S j wj 2 fun C=>aF j 0 fun wk=>ak C wk fun wl=>p2 [wl] C fun wm D=>eY wm fun h=>aa h false (fun vh=>aF j 1 fun wn=>vh wn D) (fun c=>c .undef D) fun wo s=>aa h false (fun vi=>ak s wo fun wp=>vi wp s) (fun c=>c .undef s) fun wq E=>aa h false (fun vj=>bZ wq fun wr=>vj wr E) (fun c=>c .undef E) fun ws F=>aa h false (fun vl=>af .eql ws (N .i64 0) fun wt=>vl wt F) (fun c=>c .undef F) fun wu G=>aD h (Bo true) wu fun l=>aa l false (fun vm=>aF j 1 fun wv=>vm wv G) (fun c=>c .undef G) fun ww t=>aa l false (fun vn=>ak t ww fun wx=>vn wx t) (fun c=>c .undef t) fun wy H=>aa l false (fun vo=>p5 [wy,(.fn (.func p6) [] [])] H fun wz V=>vo wz V) (fun c=>c .undef H) fun w0 I=>aD l (Bo true) w0 fun w1=>au w1 ( Q (Bo false) I) ( af .add (ag u 0) (N .i64 1) fun w2=>vq [w2] I)) ( Q (Bo true) r)) [(N .i64 0)] q)
def uU (p1 p2:Nat) (p3 p4:aj) (p5:Nat) (p6 p7 p8:aj) (a0:AV) (M0:RM) (Q:ai) : Prop:=nO p1 a0 fun V R=>aZ V R M0 fun d C=>aZ (.row [(.sc (.pointer none)),(.sc (.slice none 0 0))] false p2 0) (fun j=>.ptr j 0) C fun c e=>cZ (fun o=>aF d 0 fun v1=>ak e v1 fun v2=>bn .neq v2 (St []) fun W=>au W ( aF d 0 fun X=>ak e X fun Y=>bn .add Y (St [46]) fun Z=>p3 [c,Z] e fun v4 D=>o [] D) ( o [] e)) (fun v9 s=>aF d 1 fun va=>ak s va fun vb=>p4 [vb] s fun vc L=>p3 [c,vc] L fun v5 v=>aF d 2 fun vd=>ak v vd fun x=>bZ x fun ve=>bA (fun S n h=>af .lss (ag n 0) ve fun vf=>au vf ( aX x (ag n 0) 2 fun vg=>aH h vg 2 fun vh=>aZ (.row [(St []),(.sc (.slice none 0 0))] false p5 0) (fun j=>.ptr j 0) h fun m O=>aA O m vh 2 fun w=>aF m 0 fun vi=>ak w vi fun vj=>p4 [vj] w fun vk P=>bn .add (St [59]) vk fun vl=>bn .add vl (St [61]) fun vm=>p3 [c,vm] P fun v6 r=>aF m 1 fun vn=>ak r vn fun y=>bZ y fun vo=>bA (fun U i g=>af .lss (ag i 0) vo fun vp=>au vp ( cZ (fun B=>aX y (ag i 0) 1 fun vq=>ak g vq fun l=>cZ (fun p=>af .gtr (ag i 0) (N .i64 0) fun vr=>au vr ( p6 [c,(N .u8 44)] g fun v7 E=>p [] E) ( p [] g)) (fun wa F=>cZ (fun q=>p7 [l,(St [44,59,58])] F fun vs t=>au vs ( bn .add (St [34]) l fun vt=>bn .add vt (St [34]) fun vu=>q [vu] t) ( q [l] t)) (fun v3 G=>p3 [c,(ag v3 0)] G fun v8 H=>B [] H))) (fun wb I=>af .add (ag i 0) (N .i64 1) fun vv=>U [vv] I)) ( af .add (ag n 0) (N .i64 1) fun vw=>S [vw] g)) [(N .i64 0)] r) ( aF d 3 fun z=>ak h z fun A=>p8 [c] h fun vx u=>ak u z fun vz=>(vz=A∧bn .add vx (St [58]) fun vy=>bn .add vy A fun v0=>Q v0 u))) [(N .i64 0)] v)
def vT (p1:Nat) (p2 p3 p4 p5 p6 p7:aj) (a0:AV) (M0:RM) (Q:ai) : Prop:=aZ (.row [(St []),(St []),(.sc (.slice none 0 0)),(St []),(N .i64 0)] false p1 0) (fun n=>.ptr n 0) M0 fun e S=>p2 [a0] S fun w0 r=>eY w0 fun w1=>au w1 ( eQ [(St []),(St []),(.sc (.slice none 0 0)),(St []),(N .i64 0)] [] fun vs=>aA r e vs 5 fun s=>aH s e 5 fun vo=>Q (.tup [vo,(Bo false)]) s) ( aZ (.row [(St []),(St []),(.sc (.slice none 0 0)),(St []),(N .i64 0)] false p1 0) (fun n=>.ptr n 0) r fun d X=>p3 [a0] X fun O va=>aK O 0 fun vt=>aK O 1 fun o=>aF d 1 fun vu=>aA va vu vt 1 fun vb=>cZ (fun q=>p4 [o,(St [46])] vb fun vv m=>au vv ( aF d 1 fun vw=>ak m vw fun vx=>aF d 0 fun vy=>aA m vy vx 1 fun H=>aF d 0 fun vz=>ak H vz fun v0=>p5 [v0] H fun v1 I=>eY v1 fun v2=>au v2 ( eQ [(St []),(St []),(.sc (.slice none 0 0)),(St []),(N .i64 0)] [] fun v3=>aA I e v3 5 fun L=>aH L e 5 fun vr=>Q (.tup [vr,(Bo false)]) L) ( bO (aU o (some (N .i64 1)) none) fun v4=>p3 [v4] I fun P U=>aK P 0 fun v5=>aK P 1 fun v6=>aF d 1 fun v7=>aA U v7 v5 1 fun V=>q [v6] V)) ( q [o] m)) (fun w2 W=>p6 [(ag w2 0)] W fun p t=>aK p 0 fun v8=>aK p 1 fun i=>aK p 2 fun v9=>eY v9 fun g=>aa g false (fun c=>aF d 1 fun wa=>c wa t) (fun c=>c .undef t) fun wb l=>aa g false (fun ve=>ak l wb fun wc=>ve wc l) (fun c=>c .undef l) fun wd u=>aa g false (fun vf=>p5 [wd] u fun we Y=>vf we Y) (fun c=>c .undef u) fun wf v=>aa g false (fun vg=>eY wf fun wg=>vg wg v) (fun c=>c .undef v) fun wh w=>aD g (Bo true) wh fun j=>aa j false (fun vh=>vh i w) (fun c=>c .undef w) fun wi x=>aa j false (fun vi=>p4 [wi,(St [58])] x fun wj Z=>vi wj Z) (fun c=>c .undef x) fun wk y=>aa j false (fun vj=>eY wk fun wl=>vj wl y) (fun c=>c .undef y) fun wm z=>aD j (Bo true) wm fun h=>aa h false (fun vk=>vk i z) (fun c=>c .undef z) fun wn A=>aa h false (fun vl=>bO (aU wn (some (N .i64 1)) none) fun wo=>vl wo A) (fun c=>c .undef A) fun wp B=>aa h false (fun vm=>p7 [wp,(St [])] B fun wq vc=>vm wq vc) (fun c=>c .undef B) fun wr C=>aa h false (fun vn=>eY wr fun ws=>vn ws C) (fun c=>c .undef C) fun wt D=>aD h (Bo true) wt fun wu=>au wu ( eQ [(St []),(St []),(.sc (.slice none 0 0)),(St []),(N .i64 0)] [] fun wv=>aA D e wv 5 fun E=>aH E e 5 fun vp=>Q (.tup [vp,(Bo false)]) E) ( bO (aU i (some (N .i64 1)) none) fun R=>aF d 2 fun wx=>aA D wx v8 1 fun vd=>bO (aU i (some (N .i64 1)) none) fun ww=>(ww=R∧aF d 3 fun wy=>aA vd wy R 1 fun F=>aH F d 5 fun wz=>aA F e wz 5 fun G=>aH G e 5 fun vq=>Q (.tup [vq,(Bo true)]) G))))
def mf (p1:aj) (a0 a1:AV) (M0:RM) (Q:ai) : Prop:=p1 [a0,a1] M0 fun c d=>aK c 0 fun e=>aK c 1 fun g=>aK c 2 fun h=>Q (.tup [e,g,h]) d
def lT (p1:aj) (a0 a1:AV) (M0:RM) (Q:ai) : Prop:=p1 [a0,a1] M0 fun d c=>Q d c
def sW (p1:aj) (a0 a1:AV) (M0:RM) (Q:ai) : Prop:=cZ (fun d=>bA (fun l c e=>aQ a0 fun m=>af .lss (ag c 0) m fun n=>au n ( bO (aU a0 (some (ag c 0)) none) fun o=>p1 [o] e fun h g=>aK h 0 fun t=>aK h 1 fun i=>af .add (ag c 0) i fun p=>af .gtr p a1 fun q=>au q ( d [(ag c 0)] g) ( af .add (ag c 0) i fun r=>l [r] g)) ( d [(ag c 0)] e)) [(N .i64 0)] M0) (fun s j=>Q (ag s 0) j)
def dP (p1:aj) (p2:Nat) (a0 a1:AV) (M0:RM) (Q:ai) : Prop:=p1 [a0] M0 fun o c=>nQ a0 fun g=>aF g 1 fun h=>ak c h fun i=>appW p2 1 1 [(N .u8 0)] false i a1 c fun j d=>nQ a0 fun l=>aF l 1 fun m=>aA d m j 1 fun e=>aQ a1 fun n=>Q (.tup [n,(.sc .nilIface)]) e
def iJ (p1:aj) (p2:Nat) (a0:AV) (M0:RM) (Q:ai) : Prop:=nQ a0 fun o=>aF o 0 fun p=>ak M0 p fun q=>iA false 1 q (.sc (.pointer none)) fun r=>au r ( Wt M0 a0 fun s=>p1 [s] M0 fun e c=>WN p2 2 c e fun g=>nQ a0 fun h=>aF h 0 fun i=>aA c i g 1 fun d=>Q (.tup []) d) ( nQ a0 fun j=>aF j 0 fun l=>ak M0 l fun m=>iA true 1 m a0 fun n=>au n ( False) ( Q (.tup []) M0))
def jH (p1:aj) (a0 a1:AV) (M0:RM) (Q:ai) : Prop:=p1 [a0,a1] M0 fun d c=>Q d c
def ow (p1:aj) (a0:AV) (M0:RM) (Q:ai) : Prop:=aQ a0 fun z=>af .geq z (N .i64 1) fun e=>aa e true (fun c=>c a0 M0) (fun c=>c .undef M0) fun A g=>aa e true (fun o=>aQ A fun B=>o B g) (fun c=>c .undef g) fun C i=>aa e true (fun q=>af .leq C (N .i64 20) fun D=>q D i) (fun c=>c .undef i) fun E j=>aD e E (Bo false) fun d=>aa d true (fun r=>r a0 j) (fun c=>c .undef j) fun t l=>aa d true (fun s=>p1 [t,(St [97,98,99,100,101,102,103,104,105,106,107,108,109,110,111,112,113,114,115,116,117,118,119,120,121,122,48,49,50,51,52,53,54,55,56,57,45])] l fun u n=>s u n) (fun c=>c .undef l) fun v h=>aa d true (fun p=>bn .eql v (St []) fun w=>p w h) (fun c=>c .undef h) fun x m=>aD d x (Bo false) fun y=>Q y m
def nS (p1:Nat) (p2 p3 p4:aj) (a0 a1:AV) (M0:RM) (Q:ai) : Prop:=rZ p1 a0 fun x s=>aZ x s M0 fun o p=>bZ o fun O=>bA (fun w g e=>af .lss (ag g 0) O fun y=>au y ( aX o (ag g 0) 1 fun z=>ak e z fun n=>p2 [n] e fun A h=>eY A fun d=>aa d false (fun c=>c a1 h) (fun c=>c .undef h) fun B j=>aa d false (fun t=>t n j) (fun c=>c .undef j) fun C l=>aa d false (fun u=>p3 [B,C] l fun D r=>u D r) (fun c=>c .undef l) fun E m=>aa d false (fun v=>af .geq E (N .i64 0) fun F=>v F m) (fun c=>c .undef m) fun G i=>aD d (Bo true) G fun H=>au H ( Q (Bo false) i) ( af .add (ag g 0) (N .i64 1) fun I=>w [I] i)) ( p4 [a0] e fun L q=>Q L q)) [(N .i64 0)] p
def lq (p1:aj) (a0 a1:AV) (M0:RM) (Q:ai) : Prop:=p1 [a0,a1] M0 fun d c=>af .geq d (N .i64 0) fun e=>Q e c
def qX (p1:aj) (a0:AV) (M0:RM) (Q:ai) : Prop:=p1 [a0,(St [34])] M0 fun d c=>eY d fun e=>Q e c
def sV (p1:Nat) (a0:AV) (M0:RM) (Q:ai) : Prop:=rZ p1 a0 fun t q=>aZ t q M0 fun e n=>bZ e fun F=>bA (fun s g c=>af .lss (ag g 0) F fun u=>au u ( cZ (fun j=>aX e (ag g 0) 1 fun v=>ak c v fun h=>af .geq h (N .u8 97) fun i=>aa i true (fun d=>d h c) (fun d=>d .undef c) fun w l=>aa i true (fun r=>af .leq w (N .u8 122) fun x=>r x l) (fun d=>d .undef l) fun y m=>aD i y (Bo false) fun z=>au z ( af .add h (N .u8 65) fun A=>af .sub A (N .u8 97) fun B=>aX e (ag g 0) 1 fun C=>aA m C B 1 fun o=>j [] o) ( j [] m)) (fun G p=>af .add (ag g 0) (N .i64 1) fun D=>s [D] p)) ( vS c e fun E=>Q E c)) [(N .i64 0)] n
def gz (p1:aj) (a0 a1:AV) (M0:RM) (Q:ai) : Prop:=p1 [a0,a1] M0 fun d c=>af .geq d (N .i64 0) fun e=>Q e c
def vE (p1 p2:aj) (a0:AV) (M0:RM) (Q:ai) : Prop:=aQ a0 fun n=>p1 [a0] M0 fun o e=>p2 [o,(St [97,98,99,100,101,102,103,104,105,106,107,108,109,110,111,112,113,114,115,116,117,118,119,120,121,122,48,49,50,51,52,53,54,55,56,57,45])] e fun p g=>aQ p fun i=>af .sub n i fun c=>bO (aU a0 none (some c)) fun j=>bO (aU a0 (some c) none) fun d=>p1 [j] g fun l h=>bO (aU a0 (some c) none) fun m=>(m=d∧Q (.tup [l,d]) h)
def mF (p1:aj) (a0 a1:AV) (M0:RM) (Q:ai) : Prop:=p1 [a0,a1] M0 fun d c=>Q d c
def qV (p1:aj) (p2:Nat) (p3 p4 p5:aj) (p6:Nat) (a0:AV) (M0:RM) (Q:ai) : Prop:=bA (fun O e v=>p1 [(ag e 0),(St [59])] v fun U m=>au U ( aZ (.row [(St []),(.sc (.slice none 0 0))] false p2 0) (fun F=>.ptr F 0) m fun d w=>bO (aU (ag e 0) (some (N .i64 1)) none) fun V=>p3 [V] w fun s A=>aK s 0 fun W=>aK s 1 fun t=>aF d 0 fun X=>aA A X W 1 fun o=>aF d 0 fun Y=>ak o Y fun Z=>p4 [Z] o fun va p=>eY va fun h=>aa h false (fun c=>c t p) (fun c=>c .undef p) fun vb q=>aa h false (fun L=>p1 [vb,(St [61])] q fun vc E=>L vc E) (fun c=>c .undef q) fun vd r=>aa h false (fun I=>eY vd fun ve=>I ve r) (fun c=>c .undef r) fun vf n=>aD h (Bo true) vf fun vg=>au vg ( Q (.tup [(.sc (.slice none 0 0)),(St []),(Bo false)]) n) ( bA (fun P g i=>au (ag g 2) ( bO (aU (ag g 0) (some (N .i64 1)) none) fun vi=>p5 [vi] i fun l j=>aK l 0 fun vj=>aK l 1 fun u=>aK l 2 fun vk=>eY vk fun vl=>au vl ( Q (.tup [(.sc (.slice none 0 0)),(St []),(Bo false)]) j) ( aF d 1 fun vm=>ak j vm fun vn=>eO p6 1 [(St [])] [(0,1,vj)] fun R G=>aZ R G j fun vo x=>appW p6 1 16 [(St [])] false vn vo x fun vp y=>aF d 1 fun vq=>aA y vq vp 1 fun z=>p1 [u,(St [44])] z fun vh B=>P [u,(ag g 1),vh] B)) ( aH i d 2 fun vr=>eO p2 1 [(St []),(.sc (.slice none 0 0))] [(0,2,vr)] fun S H=>aZ S H i fun vs C=>appW p2 2 40 [(St []),(.sc (.slice none 0 0))] false (ag g 1) vs C fun vt D=>O [(ag g 0),vt] D)) [t,(ag e 1),(Bo true)] n)) ( Q (.tup [(ag e 1),(ag e 0),(Bo true)]) m)) [a0,(.sc (.slice none 0 0))] M0
def eG (p1:aj) (a0 a1:AV) (M0:RM) (Q:ai) : Prop:=p1 [a0,a1] M0 fun c d=>af .geq c (N .i64 0) fun e=>au e ( bO (aU a0 none (some c)) fun g=>aQ a1 fun h=>af .add c h fun i=>bO (aU a0 (some i) none) fun j=>Q (.tup [g,j,(Bo true)]) d) ( Q (.tup [a0,(St []),(Bo false)]) d)
def fV (p1:aj) (a0 a1:AV) (M0:RM) (Q:ai) : Prop:=p1 [a0,a1] M0 fun i c=>au i ( aQ a0 fun d=>aQ a1 fun e=>af .sub d e fun g=>bO (aU a0 none (some g)) fun h=>Q h c) ( Q a0 c)
def yP (p1 p2 p3:aj) (p4:Nat) (p5 p6 p7 p8:aj) (a0 a1:AV) (M0:RM) (Q:ai) : Prop:=bn .eql a0 (St []) fun h=>aa h false (fun c=>c a1 M0) (fun c=>c .undef M0) fun C i=>aa h false (fun y=>bn .eql C (St []) fun D=>y D i) (fun c=>c .undef i) fun E e=>aD h (Bo true) E fun F=>au F ( Q a0 e) ( aQ a1 fun G=>af .eql G (N .i64 1) fun d=>aa d true (fun z=>z a1 e) (fun c=>c .undef e) fun H m=>aa d true (fun A=>dG H (N .i64 0) fun I=>A I m) (fun c=>c .undef m) fun L n=>aa d true (fun B=>af .lss L (N .u8 128) fun O=>B O n) (fun c=>c .undef n) fun P j=>aD d P (Bo false) fun R=>au R ( dG a1 (N .i64 0) fun S=>dG a1 (N .i64 0) fun V=>p1 [a0,S] j fun U p=>p2 [U,V] p fun W q=>Q W q) ( p3 [a1] j fun o r=>aK o 0 fun X=>aK o 1 fun Y=>aZ (.row [(Bo false),(Bo false),(Bo false),(Bo false),(Bo false),(Bo false),(Bo false),(Bo false),(Bo false),(Bo false),(Bo false),(Bo false),(Bo false),(Bo false),(Bo false),(Bo false),(Bo false),(Bo false),(Bo false),(Bo false),(Bo false),(Bo false),(Bo false),(Bo false),(Bo false),(Bo false),(Bo false),(Bo false),(Bo false),(Bo false),(Bo false),(Bo false),(Bo false),(Bo false),(Bo false),(Bo false),(Bo false),(Bo false),(Bo false),(Bo false),(Bo false),(Bo false),(Bo false),(Bo false),(Bo false),(Bo false),(Bo false),(Bo false),(Bo false),(Bo false),(Bo false),(Bo false),(Bo false),(Bo false),(Bo false),(Bo false),(Bo false),(Bo false),(Bo false),(Bo false),(Bo false),(Bo false),(Bo false),(Bo false),(Bo false),(Bo false),(Bo false),(Bo false),(Bo false),(Bo false),(Bo false),(Bo false),(Bo false),(Bo false),(Bo false),(Bo false),(Bo false),(Bo false),(Bo false),(Bo false),(Bo false),(Bo false),(Bo false),(Bo false),(Bo false),(Bo false),(Bo false),(Bo false),(Bo false),(Bo false),(Bo false),(Bo false),(Bo false),(Bo false),(Bo false),(Bo false),(Bo false),(Bo false),(Bo false),(Bo false),(Bo false),(Bo false),(Bo false),(Bo false),(Bo false),(Bo false),(Bo false),(Bo false),(Bo false),(Bo false),(Bo false),(Bo false),(Bo false),(Bo false),(Bo false),(Bo false),(Bo false),(Bo false),(Bo false),(Bo false),(Bo false),(Bo false),(Bo false),(Bo false),(Bo false),(Bo false),(Bo false),(Bo false),(Bo false),(Bo false),(Bo false),(Bo false),(Bo false),(Bo false),(Bo false),(Bo false),(Bo false),(Bo false),(Bo false),(Bo false),(Bo false),(Bo false),(Bo false),(Bo false),(Bo false),(Bo false),(Bo false),(Bo false),(Bo false),(Bo false),(Bo false),(Bo false),(Bo false),(Bo false),(Bo false),(Bo false),(Bo false),(Bo false),(Bo false),(Bo false),(Bo false),(Bo false),(Bo false),(Bo false),(Bo false),(Bo false),(Bo false),(Bo false),(Bo false),(Bo false),(Bo false),(Bo false),(Bo false),(Bo false),(Bo false),(Bo false),(Bo false),(Bo false),(Bo false),(Bo false),(Bo false),(Bo false),(Bo false),(Bo false),(Bo false),(Bo false),(Bo false),(Bo false),(Bo false),(Bo false),(Bo false),(Bo false),(Bo false),(Bo false),(Bo false),(Bo false),(Bo false),(Bo false),(Bo false),(Bo false),(Bo false),(Bo false),(Bo false),(Bo false),(Bo false),(Bo false),(Bo false),(Bo false),(Bo false),(Bo false),(Bo false),(Bo false),(Bo false),(Bo false),(Bo false),(Bo false),(Bo false),(Bo false),(Bo false),(Bo false),(Bo false),(Bo false),(Bo false),(Bo false),(Bo false),(Bo false),(Bo false),(Bo false),(Bo false),(Bo false),(Bo false),(Bo false),(Bo false),(Bo false),(Bo false),(Bo false),(Bo false),(Bo false),(Bo false),(Bo false),(Bo false),(Bo false),(Bo false),(Bo false),(Bo false),(Bo false),(Bo false),(Bo false),(Bo false),(Bo false),(Bo false),(Bo false),(Bo false),(Bo false),(Bo false),(Bo false)] false p4 0) (fun x=>.ptr x 0) r fun g s=>aA s g X 256 fun l=>au Y ( p5 [a0,g] l fun Z t=>p6 [Z,g] t fun va u=>Q va u) ( p7 [a0,a1] l fun vb v=>p8 [vb,a1] v fun vc w=>Q vc w)))
def sK (a0:AV) (M0:RM) (Q:ai) : Prop:=af .geq a0 (N .u8 32) fun d=>aa d true (fun c=>c a0 M0) (fun c=>c .undef M0) fun s g=>aa d true (fun l=>af .neq s (N .u8 127) fun t=>l t g) (fun c=>c .undef g) fun u h=>aD d u (Bo false) fun e=>aa e false (fun m=>m a0 h) (fun c=>c .undef h) fun o i=>aa e false (fun n=>af .eql o (N .u8 9) fun p=>n p i) (fun c=>c .undef i) fun q j=>aD e (Bo true) q fun r=>Q r j
def mX (cv:(FuncId→aj)) (a0 a1:AV) (M0:RM) (Q:ai) : Prop:=bZ a0 fun m=>bA (fun g c d=>af .lss (ag c 0) m fun n=>au n ( aX a0 (ag c 0) 1 fun h=>ak d h fun i=>KD cv a1 [i] d fun j e=>au j ( Q (ag c 0) e) ( af .add (ag c 0) (N .i64 1) fun l=>g [l] e)) ( Q (N .i64 (-1)) d)) [(N .i64 0)] M0
def nk (p1 p2 p3:aj) (p4:Nat) (p5:aj) (a0 a1:AV) (M0:RM) (Q:ai) : Prop:=bn .eql a1 (St []) fun D=>au D ( Q (N .i64 (-1)) M0) ( aQ a1 fun E=>af .eql E (N .i64 1) fun F=>au F ( dG a1 (N .i64 0) fun G=>pR .i32 G fun o=>cZ (fun e=>af .geq o (N .i32 128) fun H=>au H ( e [(N .i32 65533)] M0) ( e [o] M0)) (fun ve r=>p1 [a0,(ag ve 0)] r fun I s=>Q I s)) ( cZ (fun g=>aQ a0 fun L=>p2 [L] M0 fun O j=>au O ( p3 [a1] j fun p w=>aK p 0 fun P=>aK p 1 fun R=>aZ (.row [(Bo false),(Bo false),(Bo false),(Bo false),(Bo false),(Bo false),(Bo false),(Bo false),(Bo false),(Bo false),(Bo false),(Bo false),(Bo false),(Bo false),(Bo false),(Bo false),(Bo false),(Bo false),(Bo false),(Bo false),(Bo false),(Bo false),(Bo false),(Bo false),(Bo false),(Bo false),(Bo false),(Bo false),(Bo false),(Bo false),(Bo false),(Bo false),(Bo false),(Bo false),(Bo false),(Bo false),(Bo false),(Bo false),(Bo false),(Bo false),(Bo false),(Bo false),(Bo false),(Bo false),(Bo false),(Bo false),(Bo false),(Bo false),(Bo false),(Bo false),(Bo false),(Bo false),(Bo false),(Bo false),(Bo false),(Bo false),(Bo false),(Bo false),(Bo false),(Bo false),(Bo false),(Bo false),(Bo false),(Bo false),(Bo false),(Bo false),(Bo false),(Bo false),(Bo false),(Bo false),(Bo false),(Bo false),(Bo false),(Bo false),(Bo false),(Bo false),(Bo false),(Bo false),(Bo false),(Bo false),(Bo false),(Bo false),(Bo false),(Bo false),(Bo false),(Bo false),(Bo false),(Bo false),(Bo false),(Bo false),(Bo false),(Bo false),(Bo false),(Bo false),(Bo false),(Bo false),(Bo false),(Bo false),(Bo false),(Bo false),(Bo false),(Bo false),(Bo false),(Bo false),(Bo false),(Bo false),(Bo false),(Bo false),(Bo false),(Bo false),(Bo false),(Bo false),(Bo false),(Bo false),(Bo false),(Bo false),(Bo false),(Bo false),(Bo false),(Bo false),(Bo false),(Bo false),(Bo false),(Bo false),(Bo false),(Bo false),(Bo false),(Bo false),(Bo false),(Bo false),(Bo false),(Bo false),(Bo false),(Bo false),(Bo false),(Bo false),(Bo false),(Bo false),(Bo false),(Bo false),(Bo false),(Bo false),(Bo false),(Bo false),(Bo false),(Bo false),(Bo false),(Bo false),(Bo false),(Bo false),(Bo false),(Bo false),(Bo false),(Bo false),(Bo false),(Bo false),(Bo false),(Bo false),(Bo false),(Bo false),(Bo false),(Bo false),(Bo false),(Bo false),(Bo false),(Bo false),(Bo false),(Bo false),(Bo false),(Bo false),(Bo false),(Bo false),(Bo false),(Bo false),(Bo false),(Bo false),(Bo false),(Bo false),(Bo false),(Bo false),(Bo false),(Bo false),(Bo false),(Bo false),(Bo false),(Bo false),(Bo false),(Bo false),(Bo false),(Bo false),(Bo false),(Bo false),(Bo false),(Bo false),(Bo false),(Bo false),(Bo false),(Bo false),(Bo false),(Bo false),(Bo false),(Bo false),(Bo false),(Bo false),(Bo false),(Bo false),(Bo false),(Bo false),(Bo false),(Bo false),(Bo false),(Bo false),(Bo false),(Bo false),(Bo false),(Bo false),(Bo false),(Bo false),(Bo false),(Bo false),(Bo false),(Bo false),(Bo false),(Bo false),(Bo false),(Bo false),(Bo false),(Bo false),(Bo false),(Bo false),(Bo false),(Bo false),(Bo false),(Bo false),(Bo false),(Bo false),(Bo false),(Bo false),(Bo false),(Bo false),(Bo false),(Bo false),(Bo false),(Bo false),(Bo false),(Bo false),(Bo false),(Bo false),(Bo false),(Bo false),(Bo false),(Bo false),(Bo false),(Bo false),(Bo false),(Bo false)] false p4 0) (fun y=>.ptr y 0) w fun q x=>aA x q P 256 fun l=>au R ( bA (fun A c m=>aQ a0 fun S=>af .lss (ag c 0) S fun U=>au U ( dG a0 (ag c 0) fun W=>p5 [q,W] m fun X n=>au X ( Q (ag c 0) n) ( af .add (ag c 0) (N .i64 1) fun V=>A [V] n)) ( Q (N .i64 (-1)) m)) [(N .i64 0)] l) ( g [] l)) ( g [] j)) (fun vg t=>BZ a0 fun C z=>aZ C z t fun Y u=>bA (fun B vf v=>CQ Y v fun d h=>aK d 0 fun Z=>au Z ( aK d 1 fun va=>aK d 2 fun vb=>p1 [a1,vb] h fun vc i=>af .geq vc (N .i64 0) fun vd=>au vd ( Q va i) ( B [] i)) ( Q (N .i64 (-1)) h)) [] u)))
def rG (p1 p2:aj) (p3:Nat) (p4 p5:aj) (a0 a1:AV) (M0:RM) (Q:ai) : Prop:=bn .eql a0 (St []) fun g=>aa g false (fun c=>c a1 M0) (fun c=>c .undef M0) fun z h=>aa g false (fun v=>bn .eql z (St []) fun A=>v A h) (fun c=>c .undef h) fun B e=>aD g (Bo true) B fun C=>au C ( Q a0 e) ( aQ a1 fun D=>af .eql D (N .i64 1) fun d=>aa d true (fun w=>w a1 e) (fun c=>c .undef e) fun E l=>aa d true (fun x=>dG E (N .i64 0) fun F=>x F l) (fun c=>c .undef l) fun G m=>aa d true (fun y=>af .lss G (N .u8 128) fun H=>y H m) (fun c=>c .undef m) fun I i=>aD d I (Bo false) fun L=>au L ( dG a1 (N .i64 0) fun O=>p1 [a0,O] i fun P p=>Q P p) ( p2 [a1] i fun n q=>aK n 0 fun R=>aK n 1 fun S=>aZ (.row [(Bo false),(Bo false),(Bo false),(Bo false),(Bo false),(Bo false),(Bo false),(Bo false),(Bo false),(Bo false),(Bo false),(Bo false),(Bo false),(Bo false),(Bo false),(Bo false),(Bo false),(Bo false),(Bo false),(Bo false),(Bo false),(Bo false),(Bo false),(Bo false),(Bo false),(Bo false),(Bo false),(Bo false),(Bo false),(Bo false),(Bo false),(Bo false),(Bo false),(Bo false),(Bo false),(Bo false),(Bo false),(Bo false),(Bo false),(Bo false),(Bo false),(Bo false),(Bo false),(Bo false),(Bo false),(Bo false),(Bo false),(Bo false),(Bo false),(Bo false),(Bo false),(Bo false),(Bo false),(Bo false),(Bo false),(Bo false),(Bo false),(Bo false),(Bo false),(Bo false),(Bo false),(Bo false),(Bo false),(Bo false),(Bo false),(Bo false),(Bo false),(Bo false),(Bo false),(Bo false),(Bo false),(Bo false),(Bo false),(Bo false),(Bo false),(Bo false),(Bo false),(Bo false),(Bo false),(Bo false),(Bo false),(Bo false),(Bo false),(Bo false),(Bo false),(Bo false),(Bo false),(Bo false),(Bo false),(Bo false),(Bo false),(Bo false),(Bo false),(Bo false),(Bo false),(Bo false),(Bo false),(Bo false),(Bo false),(Bo false),(Bo false),(Bo false),(Bo false),(Bo false),(Bo false),(Bo false),(Bo false),(Bo false),(Bo false),(Bo false),(Bo false),(Bo false),(Bo false),(Bo false),(Bo false),(Bo false),(Bo false),(Bo false),(Bo false),(Bo false),(Bo false),(Bo false),(Bo false),(Bo false),(Bo false),(Bo false),(Bo false),(Bo false),(Bo false),(Bo false),(Bo false),(Bo false),(Bo false),(Bo false),(Bo false),(Bo false),(Bo false),(Bo false),(Bo false),(Bo false),(Bo false),(Bo false),(Bo false),(Bo false),(Bo false),(Bo false),(Bo false),(Bo false),(Bo false),(Bo false),(Bo false),(Bo false),(Bo false),(Bo false),(Bo false),(Bo false),(Bo false),(Bo false),(Bo false),(Bo false),(Bo false),(Bo false),(Bo false),(Bo false),(Bo false),(Bo false),(Bo false),(Bo false),(Bo false),(Bo false),(Bo false),(Bo false),(Bo false),(Bo false),(Bo false),(Bo false),(Bo false),(Bo false),(Bo false),(Bo false),(Bo false),(Bo false),(Bo false),(Bo false),(Bo false),(Bo false),(Bo false),(Bo false),(Bo false),(Bo false),(Bo false),(Bo false),(Bo false),(Bo false),(Bo false),(Bo false),(Bo false),(Bo false),(Bo false),(Bo false),(Bo false),(Bo false),(Bo false),(Bo false),(Bo false),(Bo false),(Bo false),(Bo false),(Bo false),(Bo false),(Bo false),(Bo false),(Bo false),(Bo false),(Bo false),(Bo false),(Bo false),(Bo false),(Bo false),(Bo false),(Bo false),(Bo false),(Bo false),(Bo false),(Bo false),(Bo false),(Bo false),(Bo false),(Bo false),(Bo false),(Bo false),(Bo false),(Bo false),(Bo false),(Bo false),(Bo false),(Bo false),(Bo false),(Bo false),(Bo false),(Bo false),(Bo false),(Bo false),(Bo false),(Bo false),(Bo false),(Bo false),(Bo false),(Bo false),(Bo false),(Bo false),(Bo false),(Bo false),(Bo false),(Bo false),(Bo false)] false p3 0) (fun u=>.ptr u 0) q fun o r=>aA r o R 256 fun j=>au S ( p4 [a0,o] j fun U s=>Q U s) ( p5 [a0,a1] j fun V t=>Q V t)))
def sZ (p1:Nat) (a0:AV) (M0:RM) (Q:ai) : Prop:=rZ p1 a0 fun t q=>aZ t q M0 fun e n=>bZ e fun F=>bA (fun s g c=>af .lss (ag g 0) F fun u=>au u ( cZ (fun j=>aX e (ag g 0) 1 fun v=>ak c v fun h=>af .geq h (N .u8 65) fun i=>aa i true (fun d=>d h c) (fun d=>d .undef c) fun w l=>aa i true (fun r=>af .leq w (N .u8 90) fun x=>r x l) (fun d=>d .undef l) fun y m=>aD i y (Bo false) fun z=>au z ( af .add h (N .u8 97) fun A=>af .sub A (N .u8 65) fun B=>aX e (ag g 0) 1 fun C=>aA m C B 1 fun o=>j [] o) ( j [] m)) (fun G p=>af .add (ag g 0) (N .i64 1) fun D=>s [D] p)) ( vS c e fun E=>Q E c)) [(N .i64 0)] n
def dx (a0 a1:AV) (M0:RM) (Q:ai) : Prop:=aQ a0 fun B=>aQ a1 fun C=>af .geq B C fun d=>aa d true (fun c=>c a0 M0) (fun c=>c .undef M0) fun r e=>aa d true (fun m=>m a1 e) (fun c=>c .undef e) fun s g=>aa d true (fun o=>aQ s fun t=>o t g) (fun c=>c .undef g) fun u h=>aa d true (fun p=>bO (aU r none (some u)) fun v=>p v h) (fun c=>c .undef h) fun w i=>aa d true (fun q=>q a1 i) (fun c=>c .undef i) fun x j=>aa d true (fun n=>bn .eql w x fun y=>n y j) (fun c=>c .undef j) fun z l=>aD d z (Bo false) fun A=>Q A l
def sP (p1 p2 p3 p4:aj) (a0:AV) (M0:RM) (Q:ai) : Prop:=p1 [a0,(St [34])] M0 fun m h=>aK m 0 fun u=>aK m 1 fun v=>au v ( p2 [u,(St [34])] h fun e i=>aK e 0 fun n=>aK e 1 fun w=>aK e 2 fun g=>aa g true (fun d=>d n i) (fun d=>d .undef i) fun x j=>aa g true (fun t=>p3 [x,(St [])] j fun y q=>t y q) (fun d=>d .undef j) fun z r=>aD g z (Bo false) fun A=>Q (.tup [n,w,A]) r) ( p4 [a0,(St [44,59,58])] h fun c l=>af .lss c (N .i64 0) fun B=>au B ( Q (.tup [(St []),(St []),(Bo false)]) l) ( bO (aU a0 none (some c)) fun o=>bO (aU a0 (some c) none) fun p=>bO (aU a0 none (some c)) fun E=>p3 [E,(St [34])] l fun F s=>bO (aU a0 none (some c)) fun C=>(C=o∧bO (aU a0 (some c) none) fun D=>(D=p∧Q (.tup [o,p,F]) s))))
def fD (p1 p2 p3 p4:aj) (a0 a1:AV) (M0:RM) (Q:ai) : Prop:=aQ a1 fun e=>af .eql e (N .i64 0) fun q=>aa q false (fun c=>c a1 M0) (fun c=>c .undef M0) fun w2 w=>aa q false (fun vk=>vk a0 w) (fun c=>c .undef w) fun w3 x=>aa q false (fun vn=>bn .eql w2 w3 fun w4=>vn w4 x) (fun c=>c .undef x) fun w5 h=>aD q (Bo true) w5 fun w6=>au w6 ( Q (N .i64 0) h) ( af .eql e (N .i64 1) fun w7=>au w7 ( dG a1 (N .i64 0) fun w8=>p1 [a0,w8] h fun w9 vj=>Q w9 vj) ( aQ a0 fun xa=>af .geq e xa fun xb=>au xb ( Q (N .i64 (-1)) h) ( ak h .top fun xc=>af .leq e xc fun r=>aa r true (fun v3=>v3 a0 h) (fun c=>c .undef h) fun xd vb=>aa r true (fun v8=>aQ xd fun xe=>v8 xe vb) (fun c=>c .undef vb) fun xf y=>aa r true (fun vl=>af .leq xf (N .i64 64) fun xg=>vl xg y) (fun c=>c .undef y) fun xh z=>aD r xh (Bo false) fun xi=>au xi ( p2 [a0,a1] z fun xj vh=>Q xj vh) ( dG a1 (N .i64 0) fun vf=>dG a1 (N .i64 1) fun xk=>aQ a0 fun xl=>af .sub xl e fun xm=>af .add xm (N .i64 1) fun t=>bA (fun v9 j s=>af .lss (ag j 0) t fun xn=>au xn ( cZ (fun v=>dG a0 (ag j 0) fun xo=>af .neq xo vf fun xp=>au xp ( af .add (ag j 0) (N .i64 1) fun xq=>bO (aU a0 (some xq) (some t)) fun xr=>p1 [xr,vf] s fun vg A=>af .lss vg (N .i64 0) fun xs=>au xs ( Q (N .i64 (-1)) A) ( af .add vg (N .i64 1) fun xt=>af .add (ag j 0) xt fun xu=>v [xu] A)) ( v [(ag j 0)] s)) (fun m B=>af .add (ag m 0) (N .i64 1) fun xv=>dG a0 xv fun xw=>af .eql xw xk fun d=>aa d true (fun vm=>vm a0 B) (fun c=>c .undef B) fun xx C=>aa d true (fun vo=>vo (ag m 0) C) (fun c=>c .undef C) fun xy D=>aa d true (fun vp=>vp (ag m 0) D) (fun c=>c .undef D) fun xz E=>aa d true (fun vq=>vq e E) (fun c=>c .undef E) fun x0 F=>aa d true (fun vr=>af .add xz x0 fun x1=>vr x1 F) (fun c=>c .undef F) fun x2 G=>aa d true (fun vs=>bO (aU xx (some xy) (some x2)) fun x3=>vs x3 G) (fun c=>c .undef G) fun x4 H=>aa d true (fun vt=>vt a1 H) (fun c=>c .undef H) fun x5 I=>aa d true (fun vu=>bn .eql x4 x5 fun x6=>vu x6 I) (fun c=>c .undef I) fun x7 n=>aD d x7 (Bo false) fun x8=>au x8 ( Q (ag m 0) n) ( af .add (ag m 0) (N .i64 1) fun g=>af .add (ag j 1) (N .i64 1) fun u=>ak n .top fun wa=>af .leq e wa fun l=>aa l true (fun vv=>vv u n) (fun c=>c .undef n) fun wb L=>aa l true (fun vw=>vw g L) (fun c=>c .undef L) fun wc O=>aa l true (fun vx=>p3 [wc] O fun wd vi=>vx wd vi) (fun c=>c .undef O) fun we P=>aa l true (fun vy=>af .gtr wb we fun wf=>vy wf P) (fun c=>c .undef P) fun wg o=>aD l wg (Bo false) fun wh=>au wh ( bO (aU a0 (some g) none) fun wi=>p2 [wi,a1] o fun vd R=>af .geq vd (N .i64 0) fun wj=>au wj ( af .add vd g fun wk=>Q wk R) ( Q (N .i64 (-1)) R)) ( ak o .top fun wl=>af .gtr e wl fun i=>aa i true (fun vz=>vz u o) (fun c=>c .undef o) fun wm S=>aa i true (fun v0=>v0 g S) (fun c=>c .undef S) fun wn U=>aa i true (fun v1=>qi .shr wn (N .u64 4) fun wo=>v1 wo U) (fun c=>c .undef U) fun wp V=>aa i true (fun v2=>af .add (N .i64 4) wp fun wq=>v2 wq V) (fun c=>c .undef V) fun wr W=>aa i true (fun v4=>af .geq wm wr fun ws=>v4 ws W) (fun c=>c .undef W) fun wt X=>aD i wt (Bo false) fun p=>aa p true (fun v5=>v5 g X) (fun c=>c .undef X) fun wu Y=>aa p true (fun v6=>v6 t Y) (fun c=>c .undef Y) fun wv Z=>aa p true (fun v7=>af .lss wu wv fun ww=>v7 ww Z) (fun c=>c .undef Z) fun wx va=>aD p wx (Bo false) fun wy=>au wy ( bO (aU a0 (some g) none) fun wz=>p4 [wz,a1] va fun ve vc=>af .lss ve (N .i64 0) fun w0=>au w0 ( Q (N .i64 (-1)) vc) ( af .add g ve fun w1=>Q w1 vc)) ( v9 [g,u] va))))) ( Q (N .i64 (-1)) s)) [(N .i64 0),(N .i64 0)] z))))
def gp (a0 a1:AV) (M0:RM) (Q:ai) : Prop:=aQ a0 fun R=>aQ a1 fun S=>af .geq R S fun d=>aa d true (fun c=>c a0 M0) (fun c=>c .undef M0) fun x e=>aa d true (fun p=>p a0 e) (fun c=>c .undef e) fun y g=>aa d true (fun u=>aQ y fun z=>u z g) (fun c=>c .undef g) fun A l=>aa d true (fun v=>v a1 l) (fun c=>c .undef l) fun B m=>aa d true (fun w=>aQ B fun C=>w C m) (fun c=>c .undef m) fun D n=>aa d true (fun q=>af .sub A D fun E=>q E n) (fun c=>c .undef n) fun F h=>aa d true (fun r=>bO (aU x (some F) none) fun G=>r G h) (fun c=>c .undef h) fun H i=>aa d true (fun s=>s a1 i) (fun c=>c .undef i) fun I j=>aa d true (fun t=>bn .eql H I fun L=>t L j) (fun c=>c .undef j) fun O o=>aD d O (Bo false) fun P=>Q P o
def jI (p1 p2:aj) (a0 a1:AV) (M0:RM) (Q:ai) : Prop:=af .leq (N .i32 0) a1 fun m=>aa m true (fun c=>c a1 M0) (fun c=>c .undef M0) fun E p=>aa m true (fun A=>af .lss E (N .i32 128) fun F=>A F p) (fun c=>c .undef p) fun G j=>aD m G (Bo false) fun H=>au H ( pR .u8 a1 fun I=>p1 [a0,I] j fun L w=>Q L w) ( af .eql a1 (N .i32 65533) fun O=>au O ( BZ a0 fun D z=>aZ D z j fun P x=>bA (fun B vu y=>CQ P y fun n l=>aK n 0 fun R=>au R ( aK n 1 fun S=>aK n 2 fun U=>af .eql U (N .i32 65533) fun V=>au V ( Q S l) ( B [] l)) ( Q (N .i64 (-1)) l)) [] x) ( p2 [a1] j fun W s=>eY W fun X=>au X ( Q (N .i64 (-1)) s) ( F5 a1 fun d=>aQ d fun Y=>af .sub Y (N .i64 1) fun e=>bA (fun vt g i=>aQ a0 fun Z=>af .lss (ag g 0) Z fun va=>au va ( cZ (fun o=>dG a0 (ag g 0) fun vb=>dG d e fun vc=>af .neq vb vc fun vd=>au vd ( af .add (ag g 0) (N .i64 1) fun ve=>bO (aU a0 (some ve) none) fun vf=>dG d e fun vg=>p1 [vf,vg] i fun t q=>af .lss t (N .i64 0) fun vh=>au vh ( Q (N .i64 (-1)) q) ( af .add t (N .i64 1) fun vi=>af .add (ag g 0) vi fun vj=>o [vj] q)) ( o [(ag g 0)] i)) (fun u v=>bA (fun C h r=>aQ d fun vk=>af .lss (ag h 0) vk fun vl=>au vl ( af .sub (ag u 0) (ag h 0) fun vn=>dG a0 vn fun vo=>af .sub e (ag h 0) fun vp=>dG d vp fun vq=>af .neq vo vq fun vr=>au vr ( False) ( af .add (ag h 0) (N .i64 1) fun vm=>C [vm] r)) ( af .sub (ag u 0) e fun vs=>Q vs r)) [(N .i64 1)] v)) ( Q (N .i64 (-1)) i)) [e] s)))
def lK (a0:AV) (M0:RM) (Q:ai) : Prop:=af .gtr a0 (N .i64 8) fun c=>Q c M0
def iw (p1:aj) (a0 a1:AV) (M0:RM) (Q:ai) : Prop:=p1 [a0,a1] M0 fun c d=>aK c 0 fun g=>aK c 1 fun e=>Q (.tup [g,e]) d
def jB (a0:AV) (M0:RM) (Q:ai) : Prop:=af .leq (N .i32 0) a0 fun g=>aa g true (fun c=>c a0 M0) (fun c=>c .undef M0) fun s h=>aa g true (fun l=>af .lss s (N .i32 55296) fun t=>l t h) (fun c=>c .undef h) fun u d=>aD g u (Bo false) fun v=>au v ( Q (Bo true) d) ( af .lss (N .i32 57343) a0 fun e=>aa e true (fun m=>m a0 d) (fun c=>c .undef d) fun o i=>aa e true (fun n=>af .leq o (N .i32 1114111) fun p=>n p i) (fun c=>c .undef i) fun q j=>aD e q (Bo false) fun r=>au r ( Q (Bo true) j) ( Q (Bo false) j))
def dw (p1:aj) (a0 a1:AV) (M0:RM) (Q:ai) : Prop:=p1 [a0,a1] M0 fun g c=>eY g fun h=>au h ( Q (.tup [a0,(Bo false)]) c) ( aQ a1 fun d=>bO (aU a0 (some d) none) fun e=>Q (.tup [e,(Bo true)]) c)
set_option maxRecDepth 10000
structure jP (TB T8 n0:Nat) (M:RM) (b:Nat) (xs:List UInt8) : Prop where
 lt:b<n0
 hn:n0≤M.next
 row:∃ addr buf,M.heap b=some (.row [addr,buf] false TB 0)∧(addr=.sc (.pointer none)∨addr=.ptr b 0)∧Ow BY M n0 T8 buf xs∧(xs=[]→buf=aB)
def Su (x:aj) : Prop:=∀ {v:AV} {M:RM} {Q:ai},Q v M→x [v] M Q
def yS (TB:Nat) (c:aj) : Prop:=∀ {M:RM} {b:Nat} {addr buf:AV} {Q:ai},M.heap b=some (.row [addr,buf] false TB 0)→(addr=.sc (.pointer none)∨addr=.ptr b 0)→oneCell buf=true →
 (∀ M',M'.heap b=some (.row [.ptr b 0,buf] false TB 0)→M'.next=M.next→M'.base=M.base→(∀ c,c≠b→M'.heap c=M.heap c)→Q (.tup []) M')→c [.ptr b 0] M Q
theorem QE {TB:Nat} {x:aj} (hx:Su x) : yS TB fun args M Q=>∃ a0,args=[a0]∧iJ x TB a0 M Q:=by
 intro M b addr buf Q hh ha hb hQ
 refine⟨_,rfl, ?_⟩
 unfold iJ
 rcases ha with rfl | rfl
 ·simp only[go_sem,RM.cell_of hh]
  refine⟨_,0,_,_,_,_,rfl,hh,by simp,hx ⟨_,_,_,_,rfl,hh,rfl, ?_⟩⟩
  simp only[go_sem,RM.jW hh]
  rw[gM (by simp) (by simp) (by simp[oneCell])]
  simp only[go_sem]
  refine hQ _ (by simp[go_sem]) rfl rfl fun c hc=>by simp[go_sem,hc]
 ·simp only[go_sem,RM.cell_of hh]
  have:∀ K:AV→Prop,iA true 1 (.ptr b 0) (.ptr b 0) K=K (Bo false):=fun K=>(jq (r:=true) rfl (by simp[AJ])).trans rfl
  rw[this]
  simp only[go_sem]
  exact hQ _ hh rfl rfl fun _ _=>rfl
def ul (TB T8:Nat) (c:aj) : Prop:=∀ {n0:Nat} {M:RM} {b:Nat} {xs:List UInt8} {x:UInt8} {Q:ai},jP TB T8 n0 M b xs→xs.length + 1≤140737488355328 →
 (∀ M',jP TB T8 n0 M' b (xs++[x])→fG n0 [b] M M'→Q (.sc .nilIface) M')→c [.ptr b 0,By x] M Q
theorem Je {TB T8:Nat} {c:aj} (hc:yS TB c) : ul TB T8 fun args M Q=>∃ a0 a1,args=[a0,a1]∧dY c T8 a0 a1 M Q:=by
 intro n0 M b xs x Q hB hl hQ
 obtain⟨addr,buf,hh,ha,ho,he⟩:=hB.row
 refine⟨_,_,rfl, ?_⟩
 unfold dY
 refine hc hh ha ho.one fun M1 h1 hnx hbs hot=>?_
 have hlt:=hB.lt
 have hn:=hB.hn
 have ho1:Ow BY M1 n0 T8 buf xs:=Own.same ho hnx (fun c hc=>hot c (by have:=ho.blk c hc; omega)) hbs
 simp only[go_sem,RM.cell_of h1]
 rw[kE (x:=By x) (size:=1) rfl rfl rfl]
 simp only[aG]
 refine oW (E:=BY) (a:=x) ho1 (by omega) (Nat.le_refl _) (by omega) hl fun v' M2 h2 k2 hnx2 hv=>?_
 have hb2:b ∉ aC buf:=fun hm=>by have:=ho.blk b hm; omega
 have hh2:=k2.ax h1 (by omega) hb2
 simp only[go_sem,RM.jW hh2]
 rw[Own.cells h2,gM (by simp) (by simp) (by simp[Own.one h2])]
 simp only[go_sem]
 have hne:∀ c∈aC v',c≠b:=fun c hm=>by have:=h2.blk c hm; omega
 refine hQ _ ⟨hlt,by show n0≤M2.next; omega,.ptr b 0,v',RM.kI _ _,.inr rfl,Own.same h2 rfl (fun c hm=>by simp[go_sem,hne c hm]) rfl,by simp⟩ ⟨?_, ?_,fun c h3 h4=>?_⟩
 ·exact k2.base.trans hbs
 ·show M.next≤M2.next
  omega
 ·have h4:c≠b:=by simpa using h4
  simp only[go_sem,if_neg h4]
  rw[k2.heap c (by omega) (fun hm=>by have:=ho.blk c hm; omega),hot c h4]
def pU (TB T8:Nat) (c:aj) : Prop:=∀ {n0:Nat} {M:RM} {b:Nat} {xs s:List UInt8} {Q:ai},jP TB T8 n0 M b xs→xs.length + s.length≤140737488355328 →
 (∀ M',jP TB T8 n0 M' b (xs++s)→fG n0 [b] M M'→Q (.tup [N .i64 s.length,.sc .nilIface]) M')→c [.ptr b 0,St s] M Q
theorem E8 {TB T8:Nat} {c:aj} (hc:yS TB c) : pU TB T8 fun args M Q=>∃ a0 a1,args=[a0,a1]∧dP c T8 a0 a1 M Q:=by
 intro n0 M b xs s Q hB hl hQ
 obtain⟨addr,buf,hh,ha,ho,he⟩:=hB.row
 refine⟨_,_,rfl, ?_⟩
 unfold dP
 refine hc hh ha ho.one fun M1 h1 hnx hbs hot=>?_
 have hlt:=hB.lt
 have hn:=hB.hn
 have ho1:Ow BY M1 n0 T8 buf xs:=Own.same ho hnx (fun c hc=>hot c (by have:=ho.blk c hc; omega)) hbs
 simp only[go_sem,RM.cell_of h1]
 have hnew:nR M1 1 [N .u8 0] false (St s)=some (s.length,BY.row s):=by
  simp only[nR,rQ,if_true]
 by_cases hne0:xs++s=[]
 ·obtain⟨rfl,rfl⟩:=List.append_eq_nil_iff.1 hne0
  have hb0:=he rfl
  subst hb0
  refine⟨0,[],hnew,by omega,by omega,aB,M1,by simp[tq], ?_⟩
  simp only[go_sem,RM.jW h1]
  rw[gM (by simp) (by simp) (by simp[oneCell])]
  simp only[go_sem]
  refine hQ _ ⟨hlt,by show n0≤M1.next; omega,.ptr b 0,aB,by simp[go_sem],.inr rfl,.nil,fun _=>rfl⟩ ⟨hbs,by show M.next≤M1.next; omega,fun c h3 h4=>?_⟩
  have h4:c≠b:=by simpa using h4
  simp only[go_sem,if_neg h4]
  exact hot c h4
 refine DN ho1 (by omega) (Nat.le_refl _) hnew (by rw[BY.fQ]; rfl) (BY.lD s) (by omega) (by omega) fun v' M2 h2 k2 hnx2 hv=>?_
 rw[← BY.tK] at h2
 have h2:Ow BY M2 n0 T8 v' (xs++s):=by
  show Own M2 n0 T8 1 v' (BY.row (xs++s)) (xs++s).length
  rw[List.length_append]; exact h2
 have hb2:b ∉ aC buf:=fun hm=>by have:=ho.blk b hm; omega
 have hh2:=k2.ax h1 (by omega) hb2
 simp only[go_sem,RM.jW hh2]
 rw[Own.cells h2,gM (by simp) (by simp) (by simp[Own.one h2])]
 simp only[go_sem]
 have hne:∀ c∈aC v',c≠b:=fun c hm=>by have:=h2.blk c hm; omega
 refine hQ _ ⟨hlt,by show n0≤M2.next; omega,.ptr b 0,v',RM.kI _ _,.inr rfl,Own.same h2 rfl (fun c hm=>by simp[go_sem,hne c hm]) rfl,fun e=>absurd e hne0⟩ ⟨?_, ?_,fun c h3 h4=>?_⟩
 ·exact k2.base.trans hbs
 ·show M.next≤M2.next
  omega
 ·have h4:c≠b:=by simpa using h4
  simp only[go_sem,if_neg h4]
  rw[k2.heap c (by omega) (fun hm=>by have:=ho.blk c hm; omega),hot c h4]
def uy (TB T8:Nat) (c:aj) : Prop:=∀ {n0:Nat} {M:RM} {b:Nat} {xs:List UInt8} {Q:ai},jP TB T8 n0 M b xs→xs.length≤4611686018427387904 →
 (∀ M',fG n0 [] M M'→Q (St xs) M')→c [.ptr b 0] M Q
theorem NZ {TB T8:Nat} : uy TB T8 fun args M Q=>∃ a0,args=[a0]∧jC T8 a0 M Q:=by
 intro n0 M b xs Q hB hl hQ
 obtain⟨addr,buf,hh,ha,ho,he⟩:=hB.row
 refine⟨_,rfl, ?_⟩
 unfold jC
 simp only[go_sem,RM.cell_of hh]
 by_cases hx:xs=[]
 ·subst hx
  have hb0:=he rfl
  subst hb0
  simp only[CE,go_sem]
  exact .inr ⟨rfl,rfl,hQ _ (fG.refl _ _ _)⟩
 ·obtain⟨nn,hnn⟩ : ∃ nn,xs.length=nn + 1:=⟨xs.length - 1,by have:=List.length_pos_iff.2 hx; omega⟩
  have hcs:di byteOf (BY.row xs)=some xs:=by rw[rQ]; exact Ag xs
  have hl8:(BY.row xs).length=nn + 1:=by rw[BY.fQ,hnn]; exact Nat.mul_one _
  have ho' : Own M n0 T8 1 buf (BY.row xs) (nn + 1):=by rw[← hnn]; exact ho
  generalize BY.row xs=cs at hcs hl8 ho'
  cases ho' with
  | op c n cs h1 h2 h3 h4 =>
    simp only[CE,go_sem]
    refine .inl ⟨c,nn,cs,true,0,xs,rfl,rfl,by omega,h3,by omega,by rw[List.take_of_length_le (by omega)]; exact hcs,hQ _ ⟨rfl,Nat.le_refl _,fun d hd _=>?_⟩⟩
    simp only[go_sem]
    rw[if_neg (by omega)]
theorem jP.new {TB T8 n0 b:Nat} {M:RM} (hh:M.heap b=some (.row [.sc (.pointer none),aB] false TB 0)) (hb:b<n0) (hn:n0≤M.next) : jP TB T8 n0 M b [] :=
 ⟨hb,hn,_,_,hh,.inl rfl,.nil,fun _=>rfl⟩
theorem DJ {s:List UInt8} {i:Nat} (hi:i<s.length) (kd:IntKind) (K:AV→Prop) : dG (St s) (N kd (i:Int)) K=K (By s[i]):=by
 rw[Pb]
 apply propext
 constructor
 ·rintro⟨_,b,hb,hk⟩
  rw[Int.toNat_natCast,List.getElem?_eq_getElem hi] at hb
  cases hb; exact hk
 ·intro hk; exact⟨by omega,s[i],by rw[Int.toNat_natCast,List.getElem?_eq_getElem hi],hk⟩
def xK (c:UInt8) : List UInt8:=if c.toNat=92∨c.toNat=44∨c.toNat=59 then[92,c] else if c.toNat=10 then[92,110] else[c]
def esc (s:List UInt8) : List UInt8:=s.flatMap xK
theorem O6 (s:List UInt8) : (esc s).length≤2 * s.length:=by
 induction s with
 | nil=>simp[esc]
 | cons c s ih =>
   have:(xK c).length≤2:=by unfold xK; split <;> (try split) <;> simp
   simp only[esc,List.flatMap_cons,List.length_append,List.length_cons] at ih ⊢
   omega
theorem Vx (s:List UInt8) {i:Nat} (hi:i<s.length) : esc (s.take (i + 1))=esc (s.take i)++xK s[i]:=by
 rw[List.take_succ_eq_append_getElem hi,esc,List.flatMap_append]; simp[esc]
theorem Ny (s:List UInt8) (i:Nat) : (esc (s.take i)).length≤2 * s.length:=by
 have:=O6 (s.take i); simp at this; omega
def QC (c:aj) : Prop:=∀ {M:RM} {s:List UInt8} {Q:ai},s.length≤100000000→(∀ M',ae [] M M'→Q (St (esc s)) M')→c [St s] M Q
theorem OC {TB T8:Nat} {cw cs ct:aj} (hw:ul TB T8 cw) (hs:pU TB T8 cs) (ht:uy TB T8 ct) : QC fun args M Q=>∃ a0,args=[a0]∧qN TB T8 cw cs ct a0 M Q:=by
 intro M s Q hl hQ
 refine⟨_,rfl, ?_⟩
 unfold qN
 simp only[aG,sw,vU]
 generalize hM1:M.push (.row [.sc (.pointer none),.sc (.slice none 0 0)] false TB 0)=M1
 have hn1:M1.next=M.next + 1:=by rw[← hM1]; rfl
 generalize hM2:M1.push (.row (BY.row s) true T8 0)=M2
 have hn2:M2.next=M1.next + 1:=by rw[← hM2]; rfl
 have hk2:ae [] M M2:=by rw[← hM2,← hM1]; exact((ae.refl _ _).push _).push _
 have hb0:jP TB T8 M2.next M2 M.next []:=jP.new (by rw[← hM2,← hM1]; simp[go_sem]) (by omega) (Nat.le_refl _)
 have hr0:Rw BY M2 M1.next true T8 s:=by rw[← hM2]; exact Rw.new M1 s
 refine aP (fun m ys M3=>∃ i:Nat,m=s.length - i∧ys=[N .i64 i]∧i≤s.length∧jP TB T8 M2.next M3 M.next (esc (s.take i))∧fG M2.next [M.next] M2 M3) _
  ⟨0,rfl,rfl,Nat.zero_le _,by simpa [esc] using hb0,fG.refl _ _ _⟩ ?_
 rintro next m ys M3 hnext ⟨i,rfl,rfl,hi,hB,hK⟩
 have hr3:Rw BY M3 M1.next true T8 s:=⟨hK.ax hr0.heap (by omega) (by simp; omega),by have:=hK.next; omega⟩
 have hel:=Ny s i
 simp only[go_sem]
 refine⟨fun hlt=>?_,fun hge=>?_⟩
 ·have hlt:i<s.length:=by simpa using hlt
  have hc:=hr3.ak hlt
  have hstep:=Vx s hlt
  generalize s[i]=c at *
  have fin:∀ M4,jP TB T8 M2.next M4 M.next (esc (s.take (i + 1)))→fG M2.next [M.next] M3 M4→next [N .i64 (IntKind.i64.wrap ((i:Int) + 1))] M4:=fun M4 h1 h2=>by
   rw[nz (by omega)]
   exact hnext _ _ _ (by omega) ⟨i + 1,rfl,rfl,by omega,h1,hK.trans h2⟩
  refine⟨by omega,By c,hc, ?_⟩
  have two:xK c=[92,c]→cw [.ptr M.next 0,N .u8 92] M3 fun t20 M_5=>cw [.ptr M.next 0,By c] M_5 fun t22 M_6=>next [N .i64 (IntKind.i64.wrap ((i:Int) + 1))] M_6:=fun he=>by
   refine hw (x:=92) hB (by omega) fun M4 h4 k4=>?_
   refine hw (x:=c) h4 (by simp; omega) fun M5 h5 k5=>fin M5 ?_ (k4.trans k5)
   rw[hstep,he]; simpa using h5
  by_cases h1:c.toNat=92
  ·have e1:((c.toNat:Int) == 92)=true:=by rw[h1]; rfl
   simp only[e1,go_sem]
   exact two (by simp[xK,h1])
  have e1:((c.toNat:Int) == 92)=false:=by simp; omega
  by_cases h2:c.toNat=44
  ·have e2:((c.toNat:Int) == 44)=true:=by rw[h2]; rfl
   simp only[e1,e2,go_sem]
   exact two (by simp[xK,h2])
  have e2:((c.toNat:Int) == 44)=false:=by simp; omega
  by_cases h3:c.toNat=59
  ·have e3:((c.toNat:Int) == 59)=true:=by rw[h3]; rfl
   simp only[e1,e2,e3,go_sem]
   exact two (by simp[xK,h3])
  have e3:((c.toNat:Int) == 59)=false:=by simp; omega
  by_cases h4:c.toNat=10
  ·have e4:((c.toNat:Int) == 10)=true:=by rw[h4]; rfl
   simp only[e1,e2,e3,e4,go_sem]
   refine hs (s:=[92,110]) hB (by simp; omega) fun M4 h5 k4=>fin M4 ?_ k4
   rw[hstep]; simpa [xK,h1,h2,h3,h4] using h5
  have e4:((c.toNat:Int) == 10)=false:=by simp; omega
  simp only[e1,e2,e3,e4,go_sem]
  refine hw (x:=c) hB (by omega) fun M4 h5 k4=>fin M4 ?_ k4
  rw[hstep]; simpa [xK,h1,h2,h3,h4] using h5
 ·have:i=s.length:=by simp at hge; omega
  subst this
  rw[List.take_length] at hB hel
  refine ht hB (by omega) fun M4 k4=>hQ M4 ?_
  refine hk2.Iy (hK.trans ⟨k4.base,k4.next,fun c h1 h2=>k4.heap c h1 (by simp)⟩) (by omega) fun c hc=>.inl (by simp at hc; omega)
def pJ (d:UInt8) : Prop:=d.toNat=92∨d.toNat=44∨d.toNat=59∨d.toNat=58
instance (d:UInt8) : Decidable (pJ d):=inferInstanceAs (Decidable (_∨_))
def Kb (d:UInt8) : Prop:=d.toNat=110∨d.toNat=78
instance (d:UInt8) : Decidable (Kb d):=inferInstanceAs (Decidable (_∨_))
def fA:List UInt8→Option (List UInt8)
 | []=>some []
 | c :: s=>if c.toNat≠92 then(fA s).map (c :: ·) else match s with
   | []=>none
   | d :: s=>if Kb d then(fA s).map (10 :: ·) else if pJ d then(fA s).map (d :: ·) else none
theorem Ef {c:UInt8} {s:List UInt8} (h:c.toNat≠92) : fA (c :: s)=(fA s).map (c :: ·):=by
 cases s <;> simp[fA,h]
theorem Kg {c:UInt8} (h:c.toNat=92) : fA [c]=none:=by simp[fA,h]
theorem IB {c d:UInt8} {s:List UInt8} (h:c.toNat=92) (hd:Kb d) : fA (c :: d :: s)=(fA s).map (10 :: ·):=by rw[fA]; simp[h,hd]
theorem GJ {c d:UInt8} {s:List UInt8} (h:c.toNat=92) (hn:¬ Kb d) (hd:pJ d) : fA (c :: d :: s)=(fA s).map (d :: ·):=by rw[fA]; simp[h,hn,hd]
theorem JP {c d:UInt8} {s:List UInt8} (h:c.toNat=92) (hn:¬ Kb d) (hd:¬ pJ d) : fA (c :: d :: s)=none:=by rw[fA]; simp[h,hn,hd]
def qy (c:aj) : Prop:=∀ {M:RM} {s:List UInt8} {x:UInt8} {Q:ai},Q (N .i64 (Lib.indexByte s x)) M→c [St s,By x] M Q
theorem qO (l:List UInt8) (x:UInt8) : (Lib.indexByte l x ≥ 0)↔x∈l:=by
 induction l with
 | nil=>simp[Lib.indexByte]
 | cons y ys ih =>
   simp only[Lib.indexByte]
   have:=Lib.indexByte_ge ys x
   by_cases h:y=x
   ·subst h; simp
   ·have hb:(y == x)=false:=by simpa using h
    have h' : ¬ x=y:=fun e=>h e.symm
    simp only[hb,List.mem_cons,h',false_or]
    rw[← ih]
    simp
    split <;> omega
theorem MH (d:UInt8) : d∈([92,44,59,58] : List UInt8)↔pJ d:=by
 unfold pJ
 simp only[List.mem_cons,List.not_mem_nil,or_false,← UInt8.toNat_inj]
 exact Iff.rfl
def uB (bad good:AV) (s:List UInt8) : AV:=match fA s with
 | some x=>.tup [St x,good]
 | none=>.tup [St [],bad]
def Nc (bad good:AV) (c:aj) : Prop:=∀ {M:RM} {s:List UInt8} {Q:ai},s.length≤1000000→(∀ M',ae [] M M'→Q (uB bad good s) M')→c [St s] M Q
theorem rX:∀ (n:Nat) (s x:List UInt8),s.length≤n→fA s=some x→x.length≤s.length
 | _,[],x,_,h=>by simp[fA] at h; subst h; simp
 | n + 1,c :: s,x,hl,h=>by
   simp at hl
   by_cases h1:c.toNat=92
   ·cases s with
    | nil=>rw[Kg h1] at h; cases h
    | cons d s =>
      simp at hl
      by_cases h2:Kb d
      ·rw[IB h1 h2] at h
       obtain⟨y,hy,rfl⟩:=Option.map_eq_some_iff.1 h
       have:=rX n s y (by omega) hy
       simp; omega
      ·by_cases h3:pJ d
       ·rw[GJ h1 h2 h3] at h
        obtain⟨y,hy,rfl⟩:=Option.map_eq_some_iff.1 h
        have:=rX n s y (by omega) hy
        simp; omega
       ·rw[JP h1 h2 h3] at h; cases h
   ·rw[Ef h1] at h
    obtain⟨y,hy,rfl⟩:=Option.map_eq_some_iff.1 h
    have:=rX n s y (by omega) hy
    simp; omega
theorem Ki {TB T8:Nat} {cw ci ct:aj} (hw:ul TB T8 cw) (hi:qy ci) (ht:uy TB T8 ct) :
  Nc (N .i64 14) (N .i64 0) fun args M Q=>∃ a0,args=[a0]∧oI TB cw ci ct a0 M Q:=by
 intro M s Q hl hQ
 refine⟨_,rfl, ?_⟩
 unfold oI
 simp only[dS,aG]
 generalize hM1:M.push (.row [.sc (.pointer none),.sc (.slice none 0 0)] false TB 0)=M1
 have hn1:M1.next=M.next + 1:=by rw[← hM1]; rfl
 have hk1:ae [] M M1:=by rw[← hM1]; exact(ae.refl _ _).push _
 have hb0:jP TB T8 M1.next M1 M.next []:=jP.new (by rw[← hM1]; simp[go_sem]) (by omega) (Nat.le_refl _)
 have fin:∀ {M' : RM},fG M1.next [M.next] M1 M'→ae [] M M':=fun h=>hk1.Iy h (by omega) fun c hc=>.inl (by simp at hc; omega)
 refine aP (fun m ys M3=>∃ (i:Nat) (out:List UInt8),m=s.length - i∧ys=[N .i64 i]∧i≤s.length∧jP TB T8 M1.next M3 M.next out∧fG M1.next [M.next] M1 M3∧out.length≤i ∧
  fA s=(fA (s.drop i)).map (out ++ ·)) _
  ⟨0,[],rfl,rfl,Nat.zero_le _,hb0,fG.refl _ _ _,by simp,by simp⟩ ?_
 rintro next m ys M3 hnext ⟨i,out,rfl,rfl,hile,hB,hK,hol,hu⟩
 simp only[go_sem]
 refine⟨fun hlt=>?_,fun hge=>?_⟩
 ·have hlt:i<s.length:=by simpa using hlt
  have hg:s[i]?=some s[i]:=List.getElem?_eq_getElem hlt
  have hd:=List.drop_eq_getElem_cons hlt
  generalize s[i]=c at *
  simp only[hg,go_sem,nz (show i<9223372036854775807 by omega)]
  by_cases h1:c.toNat=92
  ·have e1:((c.toNat:Int) != 92)=false:=by rw[h1]; rfl
   simp only[e1,go_sem]
   by_cases hlt2:i + 1<s.length
   ·have e2:decide (((i + 1:Nat) : Int)<(s.length:Int))=true:=by simp; omega
    have hg2:s[i + 1]?=some s[i + 1]:=List.getElem?_eq_getElem hlt2
    have hd2:=List.drop_eq_getElem_cons hlt2
    generalize s[i + 1]=d at *
    have go:∀ (x:UInt8),fA (c :: d :: s.drop (i + 2))=(fA (s.drop (i + 2))).map (x :: ·)→∀ M4,jP TB T8 M1.next M4 M.next (out++[x])→fG M1.next [M.next] M3 M4→next [N .i64 ((i + 1 + 1:Nat) : Int)] M4:=fun x hx M4 h4 k4=>by
     refine hnext _ _ _ (by omega) ⟨i + 2,out++[x],rfl,rfl,by omega,h4,hK.trans k4,by simp; omega, ?_⟩
     rw[hu,hd,hd2,hx,Option.map_map]
     congr 1
     funext y; simp
    simp only[e2,hg2,go_sem,nz (show i + 1<9223372036854775807 by omega)]
    have bad:fA (c :: d :: s.drop (i + 2))=none→uB (N .i64 14) (N .i64 0) s=.tup [St [],N .i64 14]:=fun h=>by
     simp[uB,hu,hd,hd2,h]
    by_cases h2:d.toNat=110
    ·have e3:((d.toNat:Int) == 110)=true:=by rw[h2]; rfl
     simp only[e3,go_sem]
     exact hw (x:=10) hB (by omega) fun M4 h4 k4=>go 10 (IB h1 (.inl h2)) M4 h4 k4
    have e3:((d.toNat:Int) == 110)=false:=by simp; omega
    by_cases h3:d.toNat=78
    ·have e4:((d.toNat:Int) == 78)=true:=by rw[h3]; rfl
     simp only[e3,e4,go_sem]
     exact hw (x:=10) hB (by omega) fun M4 h4 k4=>go 10 (IB h1 (.inr h3)) M4 h4 k4
    have e4:((d.toNat:Int) == 78)=false:=by simp; omega
    have hn:¬ Kb d:=by unfold Kb; omega
    simp only[e3,e4,go_sem]
    refine hi (s:=[92,44,59,58]) (x:=d) ?_
    simp only[go_sem]
    refine⟨fun h=>?_,fun h=>?_⟩
    ·have hm:pJ d:=(MH d).1 ((qO _ _).1 (of_decide_eq_true h))
     exact hw (x:=d) hB (by omega) fun M4 h4 k4=>go d (GJ h1 hn hm) M4 h4 k4
    ·have hm:¬ pJ d:=fun hm=>(of_decide_eq_false h) ((qO _ _).2 ((MH d).2 hm))
     rw[← bad (JP h1 hn hm)]
     exact hQ _ (fin hK)
   ·have e2:decide (((i + 1:Nat) : Int)<(s.length:Int))=false:=by simp; omega
    simp only[e2,go_sem]
    have:s.drop (i + 1)=[]:=List.drop_of_length_le (by omega)
    have hb:uB (N .i64 14) (N .i64 0) s=.tup [St [],N .i64 14]:=by simp[uB,hu,hd,this,Kg h1]
    rw[← hb]
    exact hQ _ (fin hK)
  ·have e1:((c.toNat:Int) != 92)=true:=by simp; omega
   simp only[e1,go_sem]
   refine hw (x:=c) hB (by omega) fun M4 h4 k4=>?_
   refine hnext _ _ _ (by omega) ⟨i + 1,out++[c],rfl,rfl,by omega,h4,hK.trans k4,by simp; omega, ?_⟩
   rw[hu,hd,Ef h1,Option.map_map]
   congr 1
   funext y; simp
 ·have:i=s.length:=by simp at hge; omega
  subst this
  refine ht hB (by omega) fun M4 k4=>?_
  have:=hQ M4 (fin (hK.trans ⟨k4.base,k4.next,fun c h1 h2=>k4.heap c h1 (by simp)⟩))
  simpa [uB,hu,fA] using this
def Nl (x:UInt8) : List UInt8→List UInt8→Bool→List (List UInt8)
 | [],cur,_=>[cur]
 | c :: s,cur,odd=>if c=x∧odd=false then cur :: Nl x s [] (decide (c.toNat=92) && !odd) else Nl x s (cur++[c]) (decide (c.toNat=92) && !odd)
def parts (x:UInt8) (s:List UInt8) : List (List UInt8):=Nl x s [] false
theorem Oy {s:List UInt8} {l h:Nat} (h1:l≤h) (h2:h≤s.length) (k1 k2:IntKind) : aU (St s) (some (N k1 (l:Int))) (some (N k2 (h:Int)))=some (St ((s.drop l).take (h - l))):=by
 simp only[aU,bnd]
 simp[h1,h2]
theorem bD {s:List UInt8} {l:Nat} (h1:l≤s.length) (k1:IntKind) : aU (St s) (some (N k1 (l:Int))) none=some (St (s.drop l)):=by
 simp only[aU,bnd]
 simp[h1]
 rw[List.take_of_length_le (by simp)]
set_option maxRecDepth 100000
def mo (n b0 b1 b2 b3:Nat) : Nat:=if Lib.decodeN n b0 b1 b2 b3=(65533,1) then 0 else(Lib.decodeN n b0 b1 b2 b3).2
section
variable {n b0 b1 b2 b3:Nat}
theorem CP (h:b0<128) : mo n b0 b1 b2 b3=1:=by
 have:Lib.decodeN n b0 b1 b2 b3=(b0,1):=by simp[Lib.decodeN,h]
 rw[mo,this,if_neg (by intro e; cases e; omega)]
theorem nL (h:Lib.decodeN n b0 b1 b2 b3=(65533,1)) : mo n b0 b1 b2 b3=0:=by rw[mo,if_pos h]
theorem Mr (h:128≤b0∧b0<194∨245≤b0) : mo n b0 b1 b2 b3=0:=by
 refine nL ?_
 unfold Lib.decodeN
 repeat' split
 all_goals first | rfl | (exfalso; omega)
theorem LV (h:194≤b0∧b0<224) (hb:n<2∨b1<128∨191<b1) : mo n b0 b1 b2 b3=0:=by
 refine nL ?_
 unfold Lib.decodeN
 repeat' split
 all_goals first | rfl | (exfalso; omega)
theorem VV (h:194≤b0∧b0<224) (hn:2≤n) (h1:128≤b1∧b1≤191) : mo n b0 b1 b2 b3=2:=by
 have:Lib.decodeN n b0 b1 b2 b3=(b0 % 32 * 64 + b1 % 64,2):=by
  unfold Lib.decodeN
  repeat' split
  all_goals first | rfl | (exfalso; omega)
 rw[mo,this,if_neg (fun e=>absurd (congrArg Prod.snd e) (by simp))]
theorem Lp (h:224≤b0∧b0<240) (hb:n<3∨b1<128∨191<b1∨b2<128∨191<b2) : mo n b0 b1 b2 b3=0:=by
 refine nL ?_
 unfold Lib.decodeN
 repeat' split
 all_goals first | rfl | (exfalso; omega)
theorem Vs (h:224≤b0∧b0<240) (hn:3≤n) (h1:128≤b1∧b1≤191) (h2:128≤b2∧b2≤191) {v:Nat} (hv:v=64 * (64 * (b0 - 224) + b1 - 128) + b2 - 128) :
  mo n b0 b1 b2 b3=if v<2048∨55296≤v∧v<57344 then 0 else 3:=by
 have hv' : v=b0 % 16 * 4096 + b1 % 64 * 64 + b2 % 64:=by omega
 split
 ·rename_i hc
  refine nL ?_
  unfold Lib.decodeN
  repeat' split
  all_goals first | rfl | (exfalso; omega)
 ·rename_i hc
  have:Lib.decodeN n b0 b1 b2 b3=(b0 % 16 * 4096 + b1 % 64 * 64 + b2 % 64,3):=by
   unfold Lib.decodeN
   repeat' split
   all_goals first | rfl | (exfalso; omega)
  rw[mo,this,if_neg (fun e=>absurd (congrArg Prod.snd e) (by simp))]
theorem LP (h:240≤b0∧b0<245) (hb:n<4∨b1<128∨191<b1∨b2<128∨191<b2∨b3<128∨191<b3) : mo n b0 b1 b2 b3=0:=by
 refine nL ?_
 unfold Lib.decodeN
 repeat' split
 all_goals first | rfl | (exfalso; omega)
theorem Yj (h:240≤b0∧b0<245) (hn:4≤n) (h1:128≤b1∧b1≤191) (h2:128≤b2∧b2≤191) (h3:128≤b3∧b3≤191) {v:Nat} (hv:v=64 * (64 * (64 * (b0 - 240) + b1 - 128) + b2 - 128) + b3 - 128) :
  mo n b0 b1 b2 b3=if v<65536∨1114111<v then 0 else 4:=by
 have hv' : v=b0 % 8 * 262144 + b1 % 64 * 4096 + b2 % 64 * 64 + b3 % 64:=by omega
 split
 ·rename_i hc
  refine nL ?_
  unfold Lib.decodeN
  repeat' split
  all_goals first | rfl | (exfalso; omega)
 ·rename_i hc
  have:Lib.decodeN n b0 b1 b2 b3=(b0 % 8 * 262144 + b1 % 64 * 4096 + b2 % 64 * 64 + b3 % 64,4):=by
   unfold Lib.decodeN
   repeat' split
   all_goals first | rfl | (exfalso; omega)
  rw[mo,this,if_neg (fun e=>absurd (congrArg Prod.snd e) (by simp))]
end
def bt (s:List UInt8) (i:Nat) : Nat:=(s.getD i 0).toNat
theorem KP {s:List UInt8} {i:Nat} (hi:i<s.length) : s[i].toNat=bt s i:=by simp[bt,List.getD_eq_getElem?_getD,hi]
def dec (s:List UInt8) : Nat × Nat:=Lib.decodeN s.length (bt s 0) (bt s 1) (bt s 2) (bt s 3)
def rk (s:List UInt8) : Nat:=if s=[] then 0 else mo s.length (bt s 0) (bt s 1) (bt s 2) (bt s 3)
def rs (s:List UInt8) : Nat:=if s=[] then 0 else(dec s).2
theorem uI (s:List UInt8) : 1≤(dec s).2:=Lib.decodeN_ge1 _ _ _ _ _
theorem Zp {s:List UInt8} (h:s≠[]) : rs s=if rk s=0 then 1 else rk s:=by
 have:=uI s
 simp only[rs,rk,if_neg h,mo]
 unfold dec at *
 split
 ·rename_i h1
  rw[h1]; rfl
 ·rename_i h1
  rw[if_neg (by omega)]
theorem P5 (n b0 b1 b2 b3:Nat) (hn:1≤n) : (Lib.decodeN n b0 b1 b2 b3).2≤n∧(Lib.decodeN n b0 b1 b2 b3).2≤4:=by
 unfold Lib.decodeN
 repeat' split
 all_goals (simp; try omega)
theorem oZ {s:List UInt8} (h:s≠[]) : 1≤rs s:=by simp only[rs,if_neg h]; exact uI s
theorem wW {s:List UInt8} (h:s≠[]) : rs s≤s.length∧rs s≤4:=by
 simp only[rs,if_neg h]
 exact P5 _ _ _ _ _ (List.length_pos_iff.2 h)
def acc (v0:Nat) (s:List UInt8) : Nat→Nat
 | 0=>v0
 | k + 1=>64 * acc v0 s k + bt s (k + 1) - 128
def Dt (f:(List AV→RM→Prop)→Prop) (g:List AV→RM→Prop) : Prop:=f g
theorem dK (f:(List AV→RM→Prop)→Prop) (g:List AV→RM→Prop) : cZ f g=Dt f g:=rfl
theorem zQ {f:(List AV→RM→Prop)→Prop} {g:List AV→RM→Prop} (h:f g) : Dt f g:=h
theorem bQ {H:(List AV→RM→Prop)→Prop} {G:List AV→RM→Prop} (P:List AV→RM→Prop) (hT:∀ xs M,P xs M→G xs M)
  (hH:∀ J:List AV→RM→Prop,(∀ xs M,P xs M→J xs M)→H J) : Dt H G:=hH G hT
theorem zL {x:Int} (h : -9223372036854775808≤x) (k:x<9223372036854775808) : IntKind.wrap .i64 x=x:=fw (by omega) (by omega)
set_option maxRecDepth 10000
theorem RJ {s:List UInt8} : rk s≤s.length∧rk s≤4:=by
 by_cases h:s=[]
 ·subst h; simp[rk]
 ·have h1:=Zp h
  have h2:=wW h
  by_cases h0:rk s=0
  ·omega
  ·rw[if_neg h0] at h1; omega
theorem zB {s:List UInt8} (h:s≠[]) {k:Nat} (hk:1≤k) : (s.drop k).length<s.length:=by
 have:=List.length_pos_iff.2 h
 simp; omega
theorem XI {n m b0 b1 b2 b3 c1 c2 c3 k:Nat} (h:mo n b0 b1 b2 b3=k) (h0:k≠0) (hm:k≤m) (e1:2≤k→c1=b1) (e2:3≤k→c2=b2) (e3:4≤k→c3=b3) : mo m b0 c1 c2 c3=k:=by
 by_cases r1:b0<128
 ·rw[CP r1] at h ⊢; exact h
 by_cases r2:b0<194∨245≤b0
 ·rw[Mr (by omega)] at h; exact absurd h.symm h0
 by_cases r3:b0<224
 ·by_cases g:n<2∨b1<128∨191<b1
  ·rw[LV (by omega) g] at h; exact absurd h.symm h0
  ·rw[VV (by omega) (by omega) (by omega)] at h
   subst h
   have:=e1 (by omega)
   exact VV (by omega) (by omega) (by omega)
 by_cases r4:b0<240
 ·by_cases g:n<3∨b1<128∨191<b1∨b2<128∨191<b2
  ·rw[Lp (by omega) g] at h; exact absurd h.symm h0
  ·rw[Vs (by omega) (by omega) (by omega) (by omega) rfl] at h
   have hk:k=3:=by split at h <;> omega
   subst hk
   obtain rfl:=e1 (by omega)
   obtain rfl:=e2 (by omega)
   rw[Vs (by omega) (by omega) (by omega) (by omega) rfl]; exact h
 ·by_cases g:n<4∨b1<128∨191<b1∨b2<128∨191<b2∨b3<128∨191<b3
  ·rw[LP (by omega) g] at h; exact absurd h.symm h0
  ·rw[Yj (by omega) (by omega) (by omega) (by omega) (by omega) rfl] at h
   have hk:k=4:=by split at h <;> omega
   subst hk
   obtain rfl:=e1 (by omega)
   obtain rfl:=e2 (by omega)
   obtain rfl:=e3 (by omega)
   rw[Yj (by omega) (by omega) (by omega) (by omega) (by omega) rfl]; exact h
theorem GL {s:List UInt8} {k i:Nat} (t:List UInt8) (hk:k≤s.length) (hi:i<k) : bt (s.take k++t) i=bt s i:=by
 simp only[bt,List.getD_eq_getElem?_getD]
 rw[List.getElem?_append_left (by simp; omega),List.getElem?_take_of_lt hi]
theorem SQ {s t:List UInt8} (h0:rk s≠0) : rk (s.take (rk s)++t)=rk s:=by
 have hl:=RJ (s:=s)
 have hne:s≠[]:=by intro e; subst e; simp[rk] at h0
 have hne' : s.take (rk s)++t≠[]:=by
  intro e
  have:=congrArg List.length e
  rw[List.length_append,List.length_take,Nat.min_eq_left hl.1] at this
  simp only[List.length_nil] at this; omega
 have hk:mo s.length (bt s 0) (bt s 1) (bt s 2) (bt s 3)=rk s:=by rw[rk,if_neg hne]
 rw[show rk (s.take (rk s)++t)=mo (s.take (rk s)++t).length (bt (s.take (rk s)++t) 0) (bt (s.take (rk s)++t) 1) (bt (s.take (rk s)++t) 2) (bt (s.take (rk s)++t) 3) by rw[rk,if_neg hne']]
 rw[GL t hl.1 (show 0<rk s by omega)]
 exact XI hk h0 (by simp; omega) (fun h=>GL t hl.1 (by omega)) (fun h=>GL t hl.1 (by omega)) (fun h=>GL t hl.1 (by omega))
def dX (s:List UInt8) : Bool:=if s=[] then true else if h:rk s=0 then false else dX (s.drop (rk s)) termination_by s.length decreasing_by exact zB (by assumption) (by omega)
theorem qD:dX []=true:=by rw[dX]; simp
theorem Pt {s:List UInt8} (hne:s≠[]) (h:rk s=0) : dX s=false:=by rw[dX]; simp[hne,h]
theorem qU {s:List UInt8} (h:rk s≠0) : dX s=dX (s.drop (rk s)):=by
 have hne:s≠[]:=by intro e; subst e; simp[rk] at h
 rw[dX]; simp[hne,h]
theorem WT {s:List UInt8} (hne:s≠[]) (h:dX s=true) : rk s≠0:=fun h0=>by rw[Pt hne h0] at h; cases h
theorem FX:∀ (n:Nat) {a b:List UInt8},a.length≤n→dX a=true→dX b=true→dX (a++b)=true
 | 0,a,b,hn,ha,hb=>by
   have:a=[]:=List.eq_nil_of_length_eq_zero (by omega)
   subst this; exact hb
 | n + 1,a,b,hn,ha,hb=>by
   by_cases hne:a=[]
   ·subst hne; exact hb
   have h0:=WT hne ha
   have hl:=RJ (s:=a)
   have e:rk (a++b)=rk a:=by
    have:=SQ (s:=a) (t:=a.drop (rk a)++b) h0
    rwa [← List.append_assoc,List.take_append_drop] at this
   rw[qU (by omega),e,List.drop_append_of_le_length hl.1]
   refine FX n ?_ (by rw[← qU h0,ha]) hb
   simp; omega
def fo (u:Nat) (s:List UInt8) : List UInt8 :=
 if s=[] then[] else if u + rs s > 75 then[13,10,32]++s.take (rs s)++fo (1 + rs s) (s.drop (rs s)) else s.take (rs s)++fo (u + rs s) (s.drop (rs s)) termination_by s.length decreasing_by all_goals exact zB (by assumption) (oZ (by assumption))
theorem Cs (u:Nat) : fo u []=[]:=by rw[fo]; simp
theorem Fx {u:Nat} {s:List UInt8} (hne:s≠[]) (h:75<u + rs s) : fo u s=[13,10,32]++s.take (rs s)++fo (1 + rs s) (s.drop (rs s)):=by
 rw[fo,if_neg hne,if_pos (by omega)]
theorem DR {u:Nat} {s:List UInt8} (hne:s≠[]) (h:u + rs s≤75) : fo u s=s.take (rs s)++fo (u + rs s) (s.drop (rs s)):=by
 rw[fo,if_neg hne,if_neg (by omega)]
def pc (lim:Nat) (s:List UInt8) : Nat:=if s=[] then 0 else if rs s > lim then 0 else rs s + pc (lim - rs s) (s.drop (rs s)) termination_by s.length decreasing_by exact zB (by assumption) (oZ (by assumption))
theorem SL (l:Nat) : pc l []=0:=by rw[pc]; simp
theorem L9 {l:Nat} {s:List UInt8} (h:l<rs s) : pc l s=0:=by rw[pc]; simp; intro _ _; omega
theorem Dz {l:Nat} {s:List UInt8} (hne:s≠[]) (h:rs s≤l) : pc l s=rs s + pc (l - rs s) (s.drop (rs s)):=by
 rw[pc,if_neg hne,if_neg (by omega)]
theorem WL:∀ (n:Nat) {l:Nat} {s:List UInt8},s.length≤n→pc l s≤s.length
 | n,l,s,hn=>by
   by_cases hne:s=[]
   ·subst hne; simp[SL]
   by_cases h:l<rs s
   ·simp[L9 h]
   rw[Dz hne (by omega)]
   have h1:=oZ hne
   have h2:=wW hne
   cases n with
   | zero=>exact absurd (List.eq_nil_of_length_eq_zero (by omega)) hne
   | succ n =>
     have:=WL n (l:=l - rs s) (s:=s.drop (rs s)) (by simp; omega)
     simp at this; omega
theorem Yu {l:Nat} {s:List UInt8} (hne:s≠[]) (h:4≤l) : 1≤pc l s:=by
 have h1:=oZ hne
 have h2:=wW hne
 rw[Dz hne (by omega)]; omega
theorem WS:∀ (n:Nat) {u:Nat} {s:List UInt8},s.length≤n→u≤75→fo u s=s.take (pc (75 - u) s)++(if s.drop (pc (75 - u) s)=[] then[] else[13,10,32]++fo 1 (s.drop (pc (75 - u) s)))
 | n,u,s,hn,hu=>by
   by_cases hne:s=[]
   ·subst hne; simp[Cs]
   have h1:=oZ hne
   have h2:=wW hne
   by_cases h:75<u + rs s
   ·rw[L9 (by omega),Fx hne h]
    simp only[List.take_zero,List.drop_zero,List.nil_append,if_neg hne]
    rw[DR (u:=1) hne (by omega)]; simp
   ·rw[Dz hne (by omega),DR hne (by omega)]
    cases n with
    | zero=>exact absurd (List.eq_nil_of_length_eq_zero (by omega)) hne
    | succ n =>
      rw[WS n (u:=u + rs s) (by simp; omega) (by omega),List.take_add,← List.drop_drop,show 75 - (u + rs s)=75 - u - rs s by omega,List.append_assoc]
theorem G6:∀ (n:Nat) {u:Nat} {s:List UInt8},s.length≤n→(fo u s).length≤4 * s.length
 | n,u,s,hn=>by
   by_cases hne:s=[]
   ·subst hne; simp[Cs]
   have h1:=oZ hne
   have h2:=wW hne
   cases n with
   | zero=>exact absurd (List.eq_nil_of_length_eq_zero (by omega)) hne
   | succ n =>
     by_cases h:75<u + rs s
     ·rw[Fx hne h]
      have:=G6 n (u:=1 + rs s) (s:=s.drop (rs s)) (by simp; omega)
      simp at this ⊢; omega
     ·rw[DR hne (by omega)]
      have:=G6 n (u:=u + rs s) (s:=s.drop (rs s)) (by simp; omega)
      simp at this ⊢; omega
theorem gZ {s:List UInt8} {h:Nat} (h2:h≤s.length) (k2:IntKind) : aU (St s) none (some (N k2 (h:Int)))=some (St (s.take h)):=by
 have:=Oy (s:=s) (l:=0) (h:=h) (by omega) h2 .i64 k2
 rw[List.drop_zero,Nat.sub_zero] at this; exact this
theorem XW {α:Type} {l t s:List α} (h:l++t=s) : l.length≤s.length:=by rw[← h]; simp
def Yy (B:Base) (c:aj) : Prop:=∀ {M:RM} {s:List UInt8} {Q:ai},M.base=B→s≠[]→s.length≤1000000→(∀ r:AV,Q (.tup [r,N .i64 (rs s)]) M)→c [St s] M Q
def MJ (B:Base) (c:aj) : Prop:=∀ {M:RM} {s:List UInt8} {l:Nat} {Q:ai},M.base=B→s.length≤1000000→l≤1000→Q (N .i64 (pc l s)) M→c [St s,N .i64 l] M Q
theorem QL {B:Base} {cd:aj} (hd:Yy B cd) : MJ B fun args M Q=>∃ a0 a1,args=[a0,a1]∧sW cd a0 a1 M Q:=by
 intro M s l Q hM hl hll hQ
 refine⟨_,_,rfl, ?_⟩
 unfold sW
 simp only[go_sem]
 refine aP (fun m ys M'=>M'=M∧∃ i:Nat,m=s.length - i∧ys=[N .i64 i]∧i≤s.length∧i≤l∧i + pc (l - i) (s.drop i)=pc l s) _ ⟨rfl,0,rfl,rfl,Nat.zero_le _,Nat.zero_le _,by simp⟩ ?_
 rintro next m ys M' hnext ⟨rfl,i,rfl,rfl,hi,hil,hp⟩
 simp only[go_sem]
 refine⟨fun hlt=>?_,fun hge=>?_⟩
 ·have hlt:i<s.length:=by have:=of_decide_eq_true hlt; omega
  have hne:s.drop i≠[]:=by intro e; have:=congrArg List.length e; simp at this; omega
  have h1:=oZ hne
  have h2:=wW hne
  rw[List.length_drop] at h2
  rw[bD hi]
  simp only[go_sem]
  refine hd hM hne (by simp; omega) fun r=>?_
  have e1:IntKind.wrap .i64 ((i:Int) + (rs (s.drop i) : Int))=((i + rs (s.drop i) : Nat) : Int):=by rw[zL (by omega) (by omega)]; omega
  simp only[go_sem,e1]
  refine⟨fun h=>?_,fun h=>?_⟩
  ·have h:l<i + rs (s.drop i):=by have:=of_decide_eq_true h; omega
   rw[L9 (by omega),Nat.add_zero] at hp
   rw[hp]; exact hQ
  ·have h:i + rs (s.drop i)≤l:=by have:=of_decide_eq_false h; omega
   rw[Dz hne (by omega),List.drop_drop] at hp
   exact hnext _ _ _ (by omega) ⟨rfl,_,rfl,rfl,by omega,h,by rw[← hp,show l - (i + rs (s.drop i))=l - i - rs (s.drop i) by omega]; omega⟩
 ·have hge:s.length≤i:=by have:=of_decide_eq_false hge; omega
  rw[List.drop_eq_nil_of_le hge,SL,Nat.add_zero] at hp
  rw[hp]; exact hQ
theorem Sc {B:Base} {TB T8:Nat} {cp cs ct:aj} (hp:MJ B cp) (hs:pU TB T8 cs) (ht:uy TB T8 ct) {M:RM} {s:List UInt8} {Q:ai} (hM:M.base=B) (hl:s.length≤1000000) (hQ:∀ M',ae [] M M'→Q (St (fo 0 s)) M') :
  uD TB cp cs ct (St s) M Q:=by
 unfold uD
 simp only[aG]
 generalize hM2:M.push (.row [.sc (.pointer none),.sc (.slice none 0 0)] false TB 0)=M2
 have hn2:M2.next=M.next + 1:=by rw[← hM2]; rfl
 have hk2:ae [] M M2:=by rw[← hM2]; exact(ae.refl _ _).push _
 have hb0:jP TB T8 M2.next M2 M.next []:=jP.new (by rw[← hM2]; simp[go_sem]) (by omega) (Nat.le_refl _)
 have hfl:=G6 s.length (u:=0) (s:=s) (Nat.le_refl _)
 refine aP (fun m ys M3=>∃ (t w:List UInt8) (u:Nat),m=t.length∧ys=[St t,N .i64 ((75 - u:Nat) : Int)]∧u≤1∧t.length≤s.length∧jP TB T8 M2.next M3 M.next w∧w++fo u t=fo 0 s∧fG M2.next [M.next] M2 M3) _
  ⟨s,[],0,rfl,rfl,by omega,Nat.le_refl _,hb0,rfl,fG.refl _ _ _⟩ ?_
 rintro next m ys M3 hnext ⟨t,w,u,rfl,rfl,hu,ht',hB,hw,hK⟩
 have hwl:=XW hw
 by_cases hne:t=[]
 ·subst hne
  simp only[go_sem,bne_self_eq_false]
  rw[Cs,List.append_nil] at hw
  subst hw
  refine ht hB (by omega) fun M4 k4=>hQ M4 ?_
  refine hk2.Iy (hK.trans ⟨k4.base,k4.next,fun c h1 h2=>k4.heap c h1 (by simp)⟩) (by omega) fun c hc=>.inl (by simp at hc; omega)
 ·have hne' : (t != [])=true:=by simp[hne]
  simp only[go_sem,hne']
  have hb3:M3.base=B:=by rw[hK.base,hk2.base,hM]
  refine hp hb3 (by omega) (by omega) ?_
  have hpl:=WL t.length (l:=75 - u) (s:=t) (Nat.le_refl _)
  have hpp:=Yu hne (show 4≤75 - u by omega)
  rw[WS t.length (Nat.le_refl _) (by omega)] at hw
  generalize pc (75 - u) t=n at *
  rw[gZ hpl,bD hpl]
  simp only[go_sem]
  have hx:=congrArg List.length hw
  simp only[List.length_append] at hx
  refine hs hB (by omega) fun M4 hB4 k4=>?_
  by_cases hz:t.drop n=[]
  ·rw[hz]
   simp only[go_sem,bne_self_eq_false]
   refine hnext _ _ _ (by simp; exact List.length_pos_iff.2 hne) ⟨[],_,1,rfl,rfl,by omega,Nat.zero_le _,hB4, ?_,hK.trans k4⟩
   rw[if_pos hz] at hw
   rw[Cs,← hw]; simp
  ·have hz' : (t.drop n != [])=true:=by simp[hz]
   rw[if_neg hz] at hw hx
   simp only[go_sem,hz']
   simp only[List.length_append,List.length_cons,List.length_nil] at hx
   refine hs (s:=[13,10,32]) hB4 (by simp; omega) fun M5 hB5 k5=>?_
   refine hnext _ _ _ (zB hne hpp) ⟨_,_,1,rfl,rfl,by omega,by simp; omega,hB5, ?_,(hK.trans k4).trans k5⟩
   rw[← hw]; simp
def nl:List UInt8→Option (List UInt8 × List UInt8)
 | []=>none
 | c :: t=>if c.toNat=10 then some ([],t) else(nl t).map fun p=>(c :: p.1,p.2)
theorem Mk:∀ s:List UInt8,(nl s=none∧Lib.indexByte s 10=-1)∨∃ a b,nl s=some (a,b)∧Lib.indexByte s 10=(a.length:Int)∧s=a++10 :: b
 | []=>.inl ⟨rfl,rfl⟩
 | c :: t=>by
   by_cases h:c.toNat=10
   ·obtain rfl:c=10:=UInt8.toNat_inj.1 h
    exact .inr ⟨[],t,by simp[nl],by simp[Lib.indexByte],rfl⟩
   ·have hc:(c == (10:UInt8))=false:=by
     simp only[beq_eq_false_iff_ne,ne_eq]
     intro e; subst e; exact h rfl
    rcases Mk t with⟨h1,h2⟩ | ⟨a,b,h1,h2,h3⟩
    ·exact .inl ⟨by simp[nl,h,h1],by simp[Lib.indexByte,hc,h2]⟩
    ·refine .inr ⟨c :: a,b,by simp[nl,h,h1], ?_,by rw[h3]; rfl⟩
     have:((a.length:Int) == -1)=false:=by simp
     simp[Lib.indexByte,hc,h2,this]
def strip (s:List UInt8) : List UInt8:=if s.drop (s.length - 1)=[13] then s.take (s.length - 1) else s
theorem UM (a:List UInt8) : strip (a++[13])=a:=by simp[strip]
theorem Tq (a:List UInt8) : (strip a).length≤a.length:=by
 unfold strip; split
 ·simp
 ·exact Nat.le_refl _
def bU:List UInt8→List UInt8→List (List UInt8)
 | cur,[]=>if cur=[] then[] else[cur]
 | cur,c :: t=>if c.toNat=10 then strip cur :: bU [] t else bU (cur++[c]) t
theorem Ii:∀ (s cur:List UInt8),bU cur s=match nl s with | some (a,b)=>strip (cur++a) :: bU [] b | none=>if cur++s=[] then[] else[cur++s]
 | [],cur=>by simp[bU,nl]
 | c :: t,cur=>by
   by_cases h:c.toNat=10
   ·simp[bU,nl,h]
   ·simp only[bU,nl,if_neg h]
    rw[Ii t (cur++[c])]
    cases nl t with
    | none=>simp
    | some p=>simp
theorem vN:∀ (s cur:List UInt8),(bU cur s).length≤s.length + 1
 | [],cur=>by simp only[bU]; split <;> simp
 | c :: t,cur=>by
   simp only[bU]
   split
   ·have:=vN t []
    simp; omega
   ·have:=vN t (cur++[c])
    simp; omega
theorem JK {a:List UInt8} (ha:∀ b∈a,b.toNat≠10) : ∀ (cur t:List UInt8),bU cur (a++13 :: 10 :: t)=(cur++a) :: bU [] t:=by
 induction a with
 | nil=>intro cur t; simp[bU,UM]
 | cons c a ih =>
   intro cur t
   have hc:=ha c (by simp)
   simp only[List.cons_append,bU,if_neg hc]
   rw[ih (fun b hb=>ha b (by simp[hb]))]
   simp
theorem PP {a:List UInt8} (ha:∀ b∈a,b.toNat≠10) : ∀ (cur t:List UInt8),bU cur (a++t)=bU (cur++a) t:=by
 induction a with
 | nil=>intro cur t; simp
 | cons c a ih =>
   intro cur t
   have hc:=ha c (by simp)
   simp only[List.cons_append,bU,if_neg hc]
   rw[ih (fun b hb=>ha b (by simp[hb]))]
   simp
def Sb (c:aj) : Prop:=∀ {M:RM} {s:List UInt8} {Q:ai},Q (N .i64 (Lib.indexByte s 10)) M→c [St s,St [10]] M Q
def IR (s:List UInt8) : AV:=match nl s with
 | some (a,b)=>.tup [St a,St b,Bo true]
 | none=>.tup [St s,St [],Bo false]
def yC (c:aj) : Prop:=∀ {M:RM} {s:List UInt8} {Q:ai},s.length≤1000000000→Q (IR s) M→c [St s,St [10]] M Q
theorem Kt {ci:aj} (hi:Sb ci) : yC fun args M Q=>∃ a0 a1,args=[a0,a1]∧eG ci a0 a1 M Q:=by
 intro M s Q hl hQ
 refine⟨_,_,rfl, ?_⟩
 unfold eG
 refine hi ?_
 unfold IR at hQ
 rcases Mk s with⟨h1,h2⟩ | ⟨a,b,h1,h2,h3⟩
 ·rw[h1] at hQ
  simp only[go_sem,h2]
  exact⟨fun h=>absurd h (by decide),fun _=>hQ⟩
 ·rw[h1] at hQ
  have hsl:=congrArg List.length h3
  simp at hsl
  rw[h2,fK,show decide ((a.length:Int) ≥ 0)=true by simp]
  refine⟨fun _=>?_,fun h=>by cases h⟩
  rw[gZ (by omega)]
  simp only[go_sem]
  rw[show IntKind.wrap .i64 ((a.length:Int) + ((1:Nat) : Int))=((a.length + 1:Nat) : Int) by rw[zL (by omega) (by omega)]; omega]
  rw[bD (by omega)]
  simp only[go_sem]
  rw[h3]
  rw[show(a++10 :: b).take a.length=a by simp,show(a++10 :: b).drop (a.length + 1)=b by rw[← List.drop_drop]; simp]
  exact hQ
theorem EX {ci:aj} (hi:yC ci) : yC fun args M Q=>∃ a0 a1,args=[a0,a1]∧mf ci a0 a1 M Q:=by
 intro M s Q hl hQ
 refine⟨_,_,rfl, ?_⟩
 unfold mf
 refine hi hl ?_
 unfold IR at hQ ⊢
 cases h:nl s with
 | none=>rw[h] at hQ; simpa only[go_sem] using hQ
 | some p=>rw[h] at hQ; simpa only[go_sem] using hQ
def Aq (c:aj) : Prop:=∀ {M:RM} {s:List UInt8} {Q:ai},s.length≤1000000000→Q (Bo (decide (s.drop (s.length - 1)=[13]))) M→c [St s,St [13]] M Q
theorem I8:Aq fun args M Q=>∃ a0 a1,args=[a0,a1]∧gp a0 a1 M Q:=by
 intro M s Q hl hQ
 refine⟨_,_,rfl, ?_⟩
 unfold gp
 simp only[dS]
 rw[bC,bC,fK]
 by_cases h:s=[]
 ·subst h
  simp only[go_sem,show decide ((([] : List UInt8).length:Int) ≥ (([13] : List UInt8).length:Int))=false from rfl]
  exact hQ
 ·have hpos:=List.length_pos_iff.2 h
  rw[show decide ((s.length:Int) ≥ (([13] : List UInt8).length:Int))=true by simp; omega]
  simp only[go_sem]
  rw[show IntKind.wrap .i64 ((s.length:Int) - ((1:Nat) : Int))=((s.length - 1:Nat) : Int) by rw[zL (by omega) (by omega)]; omega]
  rw[bD (by omega)]
  simp only[go_sem]
  have:(s.drop (s.length - 1) == [13])=decide (s.drop (s.length - 1)=[13]):=by
   by_cases e:s.drop (s.length - 1)=[13] <;> simp[e]
  rw[this]; exact hQ
def Dm (c:aj) : Prop:=∀ {M:RM} {s:List UInt8} {Q:ai},s.length≤1000000000→Q (St (strip s)) M→c [St s,St [13]] M Q
theorem Ie {ch:aj} (hh:Aq ch) : Dm fun args M Q=>∃ a0 a1,args=[a0,a1]∧fV ch a0 a1 M Q:=by
 intro M s Q hl hQ
 refine⟨_,_,rfl, ?_⟩
 unfold fV
 refine hh hl ?_
 unfold strip at hQ
 by_cases e:s.drop (s.length - 1)=[13]
 ·rw[if_pos e] at hQ
  have hne:s≠[]:=by intro h; subst h; simp at e
  have hpos:=List.length_pos_iff.2 hne
  rw[decide_eq_true e]
  refine⟨fun _=>?_,fun h=>by cases h⟩
  simp only[go_sem]
  rw[show IntKind.wrap .i64 ((s.length:Int) - ((1:Nat) : Int))=((s.length - 1:Nat) : Int) by rw[zL (by omega) (by omega)]; omega]
  rw[gZ (by omega)]
  simp only[go_sem]
  exact hQ
 ·rw[if_neg e] at hQ
  rw[decide_eq_false e]
  exact⟨fun h=>(by cases h),fun _=>hQ⟩
theorem TM {ch:aj} (hh:Dm ch) : Dm fun args M Q=>∃ a0 a1,args=[a0,a1]∧lT ch a0 a1 M Q:=by
 intro M s Q hl hQ
 refine⟨_,_,rfl, ?_⟩
 unfold lT
 exact hh hl hQ
theorem ZV {n0 T:Nat} {M:RM} {v:AV} {xs:List (List UInt8)} {x:List UInt8} {K:AV→RM→Prop} (ho:Ow jO M n0 T v xs) (hn:n0≤M.next) (hl:xs.length≤2000000000)
  (hK:∀ v' M',Ow jO M' n0 T v' (xs++[x])→ae (aC v) M M'→(v'=v∨∀ b∈aC v',M.next≤b)→K v' M') :
  eO T 1 [St []] [(0,1,St x)] fun r f=>appW T 1 16 [St []] false v (f M.next) (M.push r) K:=by
 rw[kE (x:=St x) (size:=1) rfl rfl rfl]
 exact oW (E:=jO) (a:=x) ho hn (Nat.le_refl _) (by omega) (by omega) fun v' M' h1 h2 _ h4=>hK v' M' h1 h2 h4
theorem Zx {n0 T:Nat} {M:RM} {v:AV} {xs:List Int} {x:Int} {K:AV→RM→Prop} (ho:Ow INT M n0 T v xs) (hn:n0≤M.next) (hl:xs.length≤2000000000)
  (hK:∀ v' M',Ow INT M' n0 T v' (xs++[x])→ae (aC v) M M'→(v'=v∨∀ b∈aC v',M.next≤b)→K v' M') :
  eO T 1 [N .i64 0] [(0,1,N .i64 x)] fun r f=>appW T 1 8 [N .i64 0] false v (f M.next) (M.push r) K:=by
 rw[kE (x:=N .i64 x) (size:=1) rfl rfl rfl]
 exact oW (E:=INT) (a:=x) ho hn (Nat.le_refl _) (by omega) (by omega) fun v' M' h1 h2 _ h4=>hK v' M' h1 h2 h4
theorem Zw {M:RM} {n0 T:Nat} {v:AV} {xs:List (List UInt8)} (ho:Ow jO M n0 T v xs) (hne:xs≠[]) : ∃ b,v=.slc b 0 xs.length (.op 1)∧Rw jO M b true T xs∧n0≤b:=by
 have ho' : Own M n0 T 1 v (jO.row xs) xs.length:=ho
 have hp:=List.length_pos_iff.2 hne
 generalize hcs:jO.row xs=cs at ho'
 generalize hn:xs.length=n at ho'
 cases ho' with
 | nil=>omega
 | ex0=>omega
 | op b n cs h1 h2 h3 h4=>exact⟨b,rfl,⟨by rw[h3,hcs],h2⟩,h1⟩
theorem ZG {M:RM} {n0 T b:Nat} {xs:List (List UInt8)} (h:Rw jO M b true T xs) (hb:n0≤b) : Ow jO M n0 T (.slc b 0 xs.length (.op 1)) xs :=
 Own.op b _ _ hb h.lt h.heap (by rw[jO.fQ])
def isSp:List UInt8→Bool
 | []=>false
 | c :: _=>decide (c.toNat=32) || decide (c.toNat=9)
def glue (acc:List (List UInt8)) (x:List UInt8) : List (List UInt8):=if acc≠[]∧isSp x=true then acc.set (acc.length - 1) (acc.getD (acc.length - 1) []++x.drop 1) else acc++[x]
theorem V8 (acc:List (List UInt8)) (x:List UInt8) : (glue acc x).length≤acc.length + 1:=by
 unfold glue; split <;> simp
theorem V3 {t:List UInt8} (hne:t≠[]) : ∃ om rest found,IR t=.tup [St om,St rest,Bo found]∧rest.length<t.length∧om.length + rest.length≤t.length∧bU [] t=(if found then strip om else om) :: bU [] rest:=by
 have hp:=List.length_pos_iff.2 hne
 rcases Mk t with⟨h1,_⟩ | ⟨a,b,h1,_,h3⟩
 ·exact⟨t,[],false,by simp[IR,h1],by simpa using hp,by simp,by rw[Ii,h1]; simp[hne,bU]⟩
 ·have:=congrArg List.length h3
  simp at this
  exact⟨a,b,true,by simp[IR,h1],by omega,by omega,by rw[Ii,h1]; simp⟩
def qc (s:List UInt8) : Prop:=∀ b∈s,b.toNat≠10
theorem qc.take {s:List UInt8} (h:qc s) (n:Nat) : qc (s.take n):=fun b hb=>h b (List.mem_of_mem_take hb)
theorem qc.drop {s:List UInt8} (h:qc s) (n:Nat) : qc (s.drop n):=fun b hb=>h b (List.mem_of_mem_drop hb)
theorem qc.sp {s:List UInt8} (h:qc s) : qc (32 :: s):=fun b hb=>by
 rcases List.mem_cons.1 hb with rfl | hb
 ·decide
 ·exact h b hb
theorem PT (cur:List UInt8) (u:Nat) : bU cur (fo u []++[13,10])=[cur]:=by
 have:=JK (a:=[]) (by simp) cur []
 simpa [Cs,bU] using this
theorem Jh {u:Nat} {s:List UInt8} (hne:s≠[]) (h:75<u + rs s) (hs:qc s) (cur:List UInt8) :
  bU cur (fo u s++[13,10])=cur :: bU (32 :: s.take (rs s)) (fo (1 + rs s) (s.drop (rs s))++[13,10]):=by
 rw[Fx hne h]
 have h1:=JK (a:=[]) (by simp) cur (32 :: s.take (rs s)++(fo (1 + rs s) (s.drop (rs s))++[13,10]))
 have h2:=PP (hs.take (rs s)).sp [] (fo (1 + rs s) (s.drop (rs s))++[13,10])
 rw[List.nil_append] at h2
 rw[← h2]
 simpa using h1
theorem Lf {u:Nat} {s:List UInt8} (hne:s≠[]) (h:u + rs s≤75) (hs:qc s) (cur:List UInt8) :
  bU cur (fo u s++[13,10])=bU (cur++s.take (rs s)) (fo (u + rs s) (s.drop (rs s))++[13,10]):=by
 rw[DR hne h,List.append_assoc,PP (hs.take (rs s))]
theorem LC (p c:List UInt8) : glue [p] (32 :: c)=[p++c]:=by simp[glue,isSp]
theorem Cc:∀ (n:Nat) {u:Nat} {s p c:List UInt8},s.length≤n→qc s→(bU (32 :: c) (fo u s++[13,10])).foldl glue [p]=[p++c++s]
 | n,u,s,p,c,hn,hs=>by
   by_cases hne:s=[]
   ·subst hne
    rw[PT]
    simp[LC]
   have h1:=oZ hne
   have h2:=wW hne
   cases n with
   | zero=>exact absurd (List.eq_nil_of_length_eq_zero (by omega)) hne
   | succ n =>
     by_cases h:75<u + rs s
     ·rw[Jh hne h hs,List.foldl_cons,LC,Cc n (by simp; omega) (hs.drop _),List.append_assoc,List.take_append_drop]
     ·rw[Lf hne (by omega) hs,List.cons_append,Cc n (by simp; omega) (hs.drop _)]
      simp
theorem MW:∀ (n:Nat) {u:Nat} {s c:List UInt8},s.length≤n→qc s→(bU c (fo u s++[13,10])).foldl glue []=[c++s]
 | n,u,s,c,hn,hs=>by
   by_cases hne:s=[]
   ·subst hne
    rw[PT]
    simp[glue]
   have h1:=oZ hne
   have h2:=wW hne
   cases n with
   | zero=>exact absurd (List.eq_nil_of_length_eq_zero (by omega)) hne
   | succ n =>
     by_cases h:75<u + rs s
     ·rw[Jh hne h hs,List.foldl_cons,show glue [] c=[c] by simp[glue],Cc n (by simp; omega) (hs.drop _),List.append_assoc,List.take_append_drop]
     ·rw[Lf hne (by omega) hs,MW n (by simp; omega) (hs.drop _)]
      simp
def S9 (B:Base) (c:aj) : Prop:=∀ {M:RM} {s:List UInt8} {Q:ai},M.base=B→s.length≤1000000→(∀ M',ae [] M M'→Q (St (fo 0 s)) M')→c [St s] M Q
def kR (acc:List (List UInt8)) (ns:List Int) (k:Int) : List (List UInt8)→List (List UInt8) × List Int
 | []=>(acc,ns)
 | x :: xs=>kR (glue acc x) (if acc≠[]∧isSp x=true then ns else ns++[k]) (IntKind.i64.wrap (k + 1)) xs
theorem LF:∀ (xs:List (List UInt8)) (acc:List (List UInt8)) (ns:List Int) (k:Int),(kR acc ns k xs).1=xs.foldl glue acc
 | [],_,_,_=>rfl
 | x :: xs,acc,ns,k=>by rw[kR,LF xs,List.foldl_cons]
def EG (T TI:Nat) (c:aj) : Prop:=∀ {M:RM} {s:List UInt8} {Q:ai},s.length≤100000000 →
 (∀ v u M',Ow jO M' M.next T v (kR [] [] 1 (bU [] s)).1→Ow INT M' M.next TI u (kR [] [] 1 (bU [] s)).2→(∀ b∈aC v,b ∉ aC u)→ae [] M M'→Q (.tup [v,u]) M')→c [St s] M Q
theorem Lu {T TI:Nat} {cc ct:aj} (hc:yC cc) (ht:Dm ct) : EG T TI fun args M Q=>∃ a0,args=[a0]∧qm cc ct T TI a0 M Q:=by
 intro M s Q hl hQ
 refine⟨_,rfl, ?_⟩
 unfold qm
 simp only[dS,dK]
 refine aP (fun m ys M3=>∃ (t:List UInt8) (v u:AV) (acc:List (List UInt8)) (ns:List Int) (k:Int),m=t.length∧ys=[St t,v,u,N .i64 k]∧acc.length + t.length≤s.length∧(∀ x∈acc,x.length + t.length≤s.length)∧ns.length + t.length≤s.length ∧
   Ow jO M3 M.next T v acc∧Ow INT M3 M.next TI u ns∧(∀ b∈aC v,b ∉ aC u)∧ae [] M M3∧kR acc ns k (bU [] t)=kR [] [] 1 (bU [] s)) _
  ⟨s,aB,aB,[],[],1,rfl,rfl,by simp,by simp,by simp,.nil,.nil,by simp[aC],ae.refl _ _,rfl⟩ ?_
 rintro next m ys M3 hnext ⟨t,v,u,acc,ns,k,rfl,rfl,hal,hxl,hnl,hv,hu,hd,hK,hf⟩
 by_cases hne:t=[]
 ·subst hne
  simp only[go_sem,bne_self_eq_false]
  simp only[bU,if_true,kR] at hf
  exact hQ v u M3 (by rw[← hf]; exact hv) (by rw[← hf]; exact hu) hd hK
 have hne' : (t != [])=true:=by simp[hne]
 have hpos:=List.length_pos_iff.2 hne
 obtain⟨om,rest,found,hcut,hrl,hll,hraw⟩:=V3 hne
 simp only[go_sem,hne']
 refine zQ ?_
 refine hc (by omega) ?_
 rw[hcut]
 simp only[go_sem]
 refine bQ (fun xs M'=>M'=M3∧xs=[St (if found then strip om else om)]) ?_ ?_
 ·rintro _ M0 ⟨hM0,rfl⟩
  subst hM0
  have hlen:(if found then strip om else om).length + rest.length≤t.length:=by
   split
   ·have:=Tq om; omega
   ·exact hll
  generalize (if found then strip om else om)=line at *
  rw[hraw,kR] at hf
  have app:glue acc line=acc++[line]∧¬ (acc≠[]∧isSp line=true)→eO T 1 [St []] [(0,1,St line)] fun r f=>appW T 1 16 [St []] false v (f M0.next) (M0.push r) fun t54 Zf =>
    eO TI 1 [N IntKind.i64 0] [(0,1,N IntKind.i64 k)] fun abP aaY=>appW TI 1 8 [N IntKind.i64 0] false u (aaY Zf.next) (Zf.push abP) fun t58 abC =>
     next [St rest,t54,t58,N IntKind.i64 (IntKind.i64.wrap (k + 1))] abC:=fun hg=>by
   refine ZV hv hK.next (by omega) fun v' M4 h4 k4 hv'=>?_
   have hu4:Ow INT M4 M.next TI u ns:=Own.keep hu k4 (fun b hb hb'=>hd b hb' hb)
   have hK4:ae [] M M4:=hK.fI k4 fun c hc=>.inl (hv.blk c hc).1
   have hd4:∀ b∈aC v',b ∉ aC u:=fun b hb hb'=>by
    rcases hv' with rfl | hv'
    ·exact hd b hb hb'
    ·have h1:=hv' b hb
     have h2:=(hu.blk b hb').2
     omega
   refine Zx hu4 hK4.next (by omega) fun u' M5 h5 k5 hu'=>?_
   have hv5:Ow jO M5 M.next T v' (acc++[line]):=Own.keep h4 k5 hd4
   have hd5:∀ b∈aC v',b ∉ aC u':=fun b hb hb'=>by
    rcases hu' with rfl | hu'
    ·exact hd4 b hb hb'
    ·have h1:=hu' b hb'
     have h2:=(h4.blk b hb).2
     omega
   refine hnext _ _ _ hrl ⟨rest,v',u',_,_,_,rfl,rfl,by simp; omega, ?_,by simp; omega,hv5,h5,hd5,hK4.fI k5 fun c hc=>.inl (hu4.blk c hc).1,by rw[hg.1,if_neg hg.2] at hf; exact hf⟩
   intro x hx
   rcases List.mem_append.1 hx with hx | hx
   ·have:=hxl x hx; omega
   ·have:x=line:=by simpa using hx
    subst this; omega
  by_cases ha:acc=[]
  ·rw[dQ.len hv.uK]
   subst ha
   rw[show((([] : List (List UInt8)).length:Nat) : Int)=0 from rfl,uL,show decide ((0:Int) > 0)=false from rfl]
   simp only[go_sem]
   exact app (by simp[glue])
  have hap:=List.length_pos_iff.2 ha
  rw[dQ.len hv.uK]
  have e0:decide (((acc.length:Nat) : Int) > 0)=true:=by simp; omega
  obtain⟨b,rfl,hrw,hb⟩:=Zw hv ha
  cases line with
  | nil =>
    simp only[go_sem,e0,bne_self_eq_false]
    exact app (by simp[glue,isSp])
  | cons c r =>
    have e1:(c :: r != [])=true:=by simp
    have w1:IntKind.wrap .i64 ((acc.length:Int) - 1)=((acc.length - 1:Nat) : Int):=by rw[zL (by omega) (by omega)]; omega
    have hld:=hrw.ak (i:=acc.length - 1) (by omega)
    have Zc:acc.getD (acc.length - 1) []=acc[acc.length - 1]'(by omega):=by
     rw[List.getD_eq_getElem?_getD,List.getElem?_eq_getElem (by omega)]; rfl
    have set:isSp (c :: r)=true→(0≤IntKind.i64.wrap (↑acc.length - 1)∧IntKind.i64.wrap (↑acc.length - 1) < ↑acc.length ∧
      ∃ v,M0.cell b (IntKind.i64.wrap (↑acc.length - 1)).toNat=some v∧bO (aU (St (c :: r)) (some (N IntKind.i64 1)) none) fun t48=>bn BinOp.add v t48 fun t49 =>
        0≤IntKind.i64.wrap (↑acc.length - 1)∧IntKind.i64.wrap (↑acc.length - 1) < ↑acc.length∧t49.cells.length=1∧∃ M',M0.stores b (IntKind.i64.wrap (↑acc.length - 1)).toNat t49.cells=some M' ∧
          next [St rest,AV.slc b 0 acc.length (Cap.op 1),u,N IntKind.i64 (IntKind.i64.wrap (k + 1))] M'):=fun hs=>by
     obtain⟨hst,Za⟩:=hrw.Uy (i:=acc.length - 1) (by omega) (acc.getD (acc.length - 1) []++r)
     rw[w1,Int.toNat_natCast]
     refine⟨by omega,by omega,_,hld, ?_⟩
     rw[show aU (St (c :: r)) (some (N .i64 1)) none=some (St r) from bD (l:=1) (by simp) .i64]
     rw[Zc] at hst Za
     simp only[go_sem]
     have hxa:=hxl _ (List.getElem_mem (l:=acc) (n:=acc.length - 1) (by omega))
     have hlr:r.length + 1 + rest.length≤t.length:=by simpa using hlen
     refine⟨by omega,by omega,_,hst, ?_⟩
     have hv4:=ZG Za hb
     rw[List.length_set] at hv4
     have hkp:ae [b] M0 (M0.put b (.row (jO.row (acc.set (acc.length - 1) (acc[acc.length - 1]'(by omega)++r))) true T 0)):=(ae.refl _ _).put _ (.inr (by simp))
     refine hnext _ _ _ hrl ⟨rest,_,u,_,ns,_,rfl,rfl,by simp; omega, ?_,by omega,hv4,Own.keep hu hkp ?_,hd,hK.put _ (.inl hb), ?_⟩
     ·intro x hx
      rcases List.mem_or_eq_of_mem_set hx with hx | rfl
      ·have:=hxl x hx; omega
      ·simp; omega
     ·intro b' hb' hm
      have:b'=b:=by simpa using hm
      subst this
      exact hd b' (by simp[aC]) hb'
     ·rw[if_pos ⟨ha,hs⟩,glue,if_pos ⟨ha,hs⟩,Zc] at hf; exact hf
    simp only[go_sem,e0,e1]
    refine⟨by omega,c,rfl, ?_⟩
    by_cases h32:c.toNat=32
    ·have e32:((c.toNat:Int) == 32)=true:=by simp[h32]
     simp only[e32,go_sem]
     exact set (by simp[isSp,h32])
    ·have e32:((c.toNat:Int) == 32)=false:=by simp; omega
     simp only[e32,go_sem]
     refine⟨by omega,c,rfl, ?_⟩
     by_cases h9:c.toNat=9
     ·have e9:((c.toNat:Int) == 9)=true:=by simp[h9]
      simp only[e9,go_sem]
      exact set (by simp[isSp,h9])
     ·have e9:((c.toNat:Int) == 9)=false:=by simp; omega
      simp only[e9,go_sem]
      exact app (by simp[glue,isSp,h32,h9])
 ·intro J hJ
  cases found with
  | true =>
    refine⟨fun _=>ht (by omega) (hJ _ _ ⟨rfl,rfl⟩),fun h=>by cases h⟩
  | false=>exact⟨fun h=>(by cases h),fun _=>hJ _ _ ⟨rfl,rfl⟩⟩
def aN (x:UInt8) : List UInt8→Bool
 | []=>false
 | c :: _=>c == x
def nG (c:aj) : Prop:=∀ {M:RM} {s:List UInt8} {x:UInt8} {Q:ai},s.length≤1000000000→Q (Bo (aN x s)) M→c [St s,St [x]] M Q
theorem FC:nG fun args M Q=>∃ a0 a1,args=[a0,a1]∧dx a0 a1 M Q:=by
 intro M s x Q hl hQ
 refine⟨_,_,rfl, ?_⟩
 unfold dx
 simp only[dS]
 rw[bC,bC,fK]
 cases s with
 | nil =>
   rw[show decide ((([] : List UInt8).length:Int) ≥ (([x] : List UInt8).length:Int))=false from rfl]
   simp only[go_sem]
   exact hQ
 | cons c r =>
   rw[show decide (((c :: r).length:Int) ≥ (([x] : List UInt8).length:Int))=true by simp; omega]
   simp only[go_sem]
   rw[show aU (St (c :: r)) none (some (N .i64 ((1:Nat) : Int)))=some (St [c]) from gZ (h:=1) (by simp) .i64]
   simp only[go_sem]
   rw[show(([c] : List UInt8) == [x])=(c == x) by simp]
   exact hQ
theorem Oq {ch:aj} (hh:nG ch) : nG fun args M Q=>∃ a0 a1,args=[a0,a1]∧mF ch a0 a1 M Q:=by
 intro M s x Q hl hQ
 refine⟨_,_,rfl, ?_⟩
 unfold mF
 exact hh hl hQ
def dz (c:UInt8) : Bool:=(decide (32≤c.toNat) && decide (c.toNat≠127)) || decide (c.toNat=9)
def Nw (c:aj) : Prop:=∀ {M:RM} {x:UInt8} {Q:ai},Q (Bo (dz x)) M→c [By x] M Q
theorem QM:Nw fun args M Q=>∃ a0,args=[a0]∧sK a0 M Q:=by
 intro M x Q hQ
 refine⟨_,rfl, ?_⟩
 unfold sK
 simp only[dS]
 unfold dz at hQ
 by_cases h1:32≤x.toNat
 ·have e1:decide ((x.toNat:Int) ≥ 32)=true:=by simp; omega
  rw[fK,e1]
  by_cases h2:x.toNat=127
  ·have e2:((x.toNat:Int) != 127)=false:=by simp[h2]
   have e9:((x.toNat:Int) == 9)=false:=by simp; omega
   simp only[go_sem,e2,e9]
   simpa [h2] using hQ
  ·have e2:((x.toNat:Int) != 127)=true:=by simp; omega
   simp only[go_sem,e2]
   simpa [h1,h2] using hQ
 ·have e1:decide ((x.toNat:Int) ≥ 32)=false:=by simp; omega
  rw[fK,e1]
  by_cases h9:x.toNat=9
  ·have e9:((x.toNat:Int) == 9)=true:=by simp[h9]
   simp only[go_sem,e9]
   simpa [h1,h9] using hQ
  ·have e9:((x.toNat:Int) == 9)=false:=by simp; omega
   simp only[go_sem,e9]
   simpa [h1,h9] using hQ
end Go.Ab.Vl
