/- Part 3 of the ground of the proofs of this seat (texts R9 to K6). By an AI agent. -/
import Derived.Test.YtckpmlcaaagnkaaDoorDkl2
import Derived.Scope
import Derived.ChangeShapes
import Derived.OpenShut
import Derived.WideKeyArgs
import GoSem.ClaimJoined
import Derived.Carry
import Derived.JoinedCond
import Derived.SizedLaws
import GoSem.Extern.Atomic
import GoSem.Extern.MapsClone
set_option linter.unusedVariables false
set_option linter.unusedSimpArgs false
namespace Go.Ab
open Go Go.RowKit
def El:Option Tmp→Nat
 | some d=>2 ^ d
 | none=>0
def Io:Operand→Nat
 | .tmp t=>2 ^ t
 | _=>0
def IP:List Operand→Nat
 | []=>0
 | x :: xs=>Io x ||| IP xs
def Kh (L m:Nat) : Nat:=L ^^^ (L &&& m)
def Ad:List Oper→Nat
 | []=>0
 | o :: os=>El o.dst ||| Ad os
def dV:Nat→Code→Nat
 | 0,_=>0
 | f + 1,c=>match c with
   | .region _ ops _=>Ad ops.toList
   | .seq a b=>dV f a ||| dV f b
   | .cond _ a b=>dV f a ||| dV f b
   | .block _ c=>dV f c
   | .loop c=>dV f c
   | .scope c=>dV f c
   | _=>0
def FY:List Oper→Nat→Nat
 | [],L=>L
 | o :: os,L=>Kh (FY os L) (El o.dst) ||| IP o.op.operands.toList
def IR:List (Nat × Nat)→Nat→Nat
 | [],_=>0
 | (i,L) :: r,id=>match Nat.beq i id with
   | true=>L
   | false=>IR r id
def eB (ret:Nat) : Nat→List (Nat × Nat)→Code→Nat→Nat
 | 0,_,_,_=>0
 | f + 1,env,c,L=>match c with
   | .skip=>L
   | .region _ ops _=>FY ops.toList L
   | .seq a b=>eB ret f env a (eB ret f env b L)
   | .cond c a b=>Io c ||| eB ret f env a L ||| eB ret f env b L
   | .block id c=>eB ret f ((id,L) :: env) c L
   | .loop c=>eB ret f env c (eB ret f env c 0)
   | .exit id=>IR env id
   | .ret=>ret
   | .scope c=>eB ret f env c L
   | .label _=>L
   | _=>0
def cap2 (n:Nat) : Nat:=match n with | 0=>0 | 1=>1 | _=>2
def lL (id:Nat) : Nat→Code→Nat
 | 0,_=>2
 | f + 1,c=>match c with
   | .seq a b=>cap2 (lL id f a + lL id f b)
   | .cond _ a b=>cap2 (lL id f a + lL id f b)
   | .block _ c=>lL id f c
   | .loop c=>lL id f c
   | .exit i=>match Nat.beq i id with | true=>1 | false=>0
   | _=>0
def pz:Nat→Code→Nat
 | 0,_=>2
 | f + 1,c=>match c with
   | .skip=>1
   | .region _ _ _=>1
   | .seq a b=>cap2 (pz f a * pz f b)
   | .cond _ a b=>cap2 (pz f a + pz f b)
   | .block id c=>cap2 (pz f c + lL id f c)
   | .scope c=>pz f c
   | .label _=>1
   | _=>0
def qU (m:Nat) : Nat→Nat→List Nat
 | _,0=>[]
 | i,n + 1=>match Nat.testBit m i with
   | true=>i :: qU m (i + 1) n
   | false=>qU m (i + 1) n
def bitsOf (m nt:Nat) : List Nat:=qU m 0 nt
def qD (T:Tree AV) : List Nat→List AV
 | []=>[]
 | t :: ts=>(T.get t).getD .top :: qD T ts
def aG:List AV→Nat→AV
 | [],_=>.top
 | x :: _,0=>x
 | _ :: xs,n + 1=>aG xs n
def rA (T:Tree AV) : List Nat→Tree AV
 | []=>T
 | t :: ts=>rA (T.set t .top) ts
def EI (T:Tree AV) (xs:List AV) : Nat→List Nat→Tree AV
 | _,[]=>T
 | i,t :: ts=>EI (T.set t (aG xs i)) xs (i + 1) ts
def sH (T:Tree AV) (asg vs:List Nat) (xs:List AV) : Tree AV:=EI (rA T asg) xs 0 vs
def aM (x:AV) (p q:Prop) : Prop :=
 match x with
 | .sc (.bool b)=>(b=true→p)∧(b=false→q)
 | _=>False
def lu (f:(List AV→RM→Prop)→Prop) (g:List AV→RM→Prop) : Prop:=f g
def gW (body:(List AV→RM→Prop)→List AV→RM→Prop) (xs:List AV) (M:RM) : Prop :=
 ∃ (I:Nat→List AV→RM→Prop) (n:Nat),I n xs M∧∀ m ys M',I m ys M'→body (fun zs M''=>∃ m',m'<m∧I m' zs M'') ys M'
abbrev K3:=Ex→Tree AV→RM→Prop
def wpC (P:Program) (nt ret:Nat) : Nat→Code→List (Nat × Nat)→Nat→Tree AV→RM→K3→Prop
 | 0,_,_,_,_,_,_=>False
 | f + 1,c,env,L,T,M,K=>match c with
   | .skip=>K .normal T M
   | .region _ ops false=>Bw P nt ops ops.toList T M (fun T' M'=>K .normal T' M')
   | .region _ ops true=>Gm P nt ops T M (fun T' M'=>K .normal T' M')
   | .seq a b=>match Nat.ble (pz f a) 1 with
     | true=>wpC P nt ret f a env (eB ret f env b L) T M (fun e T' M'=>match e with
       | .normal=>wpC P nt ret f b env L T' M' K
       | e=>K e T' M')
     | false=>lu (fun J=>wpC P nt ret f a env (eB ret f env b L) T M (fun e T' M'=>match e with
       | .normal=>J (qD T' (bitsOf (dV f a &&& eB ret f env b L) nt)) M'
       | e=>K e T' M'))
       (fun xs M'=>wpC P nt ret f b env L (sH T (bitsOf (dV f a) nt) (bitsOf (dV f a &&& eB ret f env b L) nt) xs) M' K)
   | .cond c a b=>aM (nZ T c) (wpC P nt ret f a env L T M K) (wpC P nt ret f b env L T M K)
   | .block id c=>wpC P nt ret f c ((id,L) :: env) L T M (fun e T' M'=>match e with
     | .exit i=>match Nat.beq i id with
       | true=>K .normal T' M'
       | false=>K (.exit i) T' M'
     | e=>K e T' M')
   | .loop c=>gW (fun next xs M'=>wpC P nt ret f c env (eB ret f env c (eB ret f env c 0)) (sH T (bitsOf (dV f c) nt) (bitsOf (dV f c &&& eB ret f env c (eB ret f env c 0)) nt) xs) M'
     (fun e T' M'=>match e with
      | .normal=>next (qD T' (bitsOf (dV f c &&& eB ret f env c (eB ret f env c 0)) nt)) M'
      | e=>K e T' M'))
     (qD T (bitsOf (dV f c &&& eB ret f env c (eB ret f env c 0)) nt)) M
   | .exit id=>K (.exit id) T M
   | .ret=>K .ret T M
   | .scope c=>wpC P nt ret f c env L T M K
   | .label _=>K .normal T M
   | _=>False
def J8 (P:Program) (T:Tree AV) (M:RM) (r:ResultVar) (K:AV→Prop) : Prop :=
 match r with
 | .tmp t=>K ((T.get t).getD .top)
 | .cell a t=>match bQ P t with
   | some false=>ai M ((T.get a).getD .top) K
   | some true=>match aN P t with
     | some n=>fP M ((T.get a).getD .top) n K
     | none=>False
   | none=>False
def Ki (P:Program) (T:Tree AV) (M:RM) : List ResultVar→(List AV→Prop)→Prop
 | [],K=>K []
 | r :: rs,K=>J8 P T M r (fun v=>Ki P T M rs (fun vs=>K (v :: vs)))
def Mm (Q:aj) (M:RM) : List AV→Prop
 | [v]=>Q v M
 | vs=>Q (.tup vs) M
def Bl:List ResultVar→Nat
 | []=>0
 | .tmp t :: rs=>2 ^ t ||| Bl rs
 | .cell a _ :: rs=>2 ^ a ||| Bl rs
def I8 (P:Program) (fn:Func) (c:Code) (args:List AV) (M:RM) (Q:aj) : Prop :=
 wpC P (args.length + (fn.ntmps - args.length)) (Bl fn.results.toList) 1000 c [] 0 (Tree.ofList args 0 .leaf) M
  (fun e T M'=>match e with
   | .exit _=>False
   | _=>Ki P T M' fn.results.toList (Mm Q M'))
section
variable {P:Program} {nt ret:Nat}
def Gl (P:Program) (nt:Nat) (M0:RM) (ρ0:Ren) (w0:World) (T:Tree AV) (asg:Nat) (K:K3) (e:Exit) (a:Act) (w:World) : Prop :=
 ∃ x T' M' ρ',e=J6 x∧After P M0 ρ0 w0 M' ρ' w∧fV ρ' nt T' a∧(∀ t,Nat.testBit asg t=false→T'.get t=T.get t)∧K x T' M'
theorem EK {T:Tree AV} : ∀ (vs:List Nat) (i:Nat),aG (qD T vs) i=match vs[i]? with | some t=>(T.get t).getD .top | none=>.top
 | [],i=>by simp[qD,aG]
 | t :: vs,0=>by simp[qD,aG]
 | t :: vs,i + 1=>by simp[qD,aG,EK vs i]
theorem uB:∀ (asg:List Nat) (T:Tree AV) (t:Nat),(rA T asg).get t=if t∈asg then some .top else T.get t
 | [],T,t=>by simp[rA]
 | d :: asg,T,t=>by
   simp only[rA,uB asg,Tree.aX,List.mem_cons]
   by_cases h1:t∈asg
   ·simp[h1]
   ·by_cases h2:t=d <;> simp[h1,h2]
theorem xN:∀ (vs:List Nat) (T:Tree AV) (xs:List AV) (i t:Nat),(t ∉ vs∧(EI T xs i vs).get t=T.get t)∨∃ j,vs[j]?=some t∧(EI T xs i vs).get t=some (aG xs (i + j))
 | [],T,xs,i,t=>.inl ⟨by simp,rfl⟩
 | d :: vs,T,xs,i,t=>by
   simp only[EI]
   rcases xN vs (T.set d (aG xs i)) xs (i + 1) t with⟨h1,h2⟩ | ⟨j,h1,h2⟩
   ·rw[Tree.aX] at h2
    by_cases e:t=d
    ·rw[if_pos e] at h2
     exact .inr ⟨0,by simp[e],h2⟩
    ·rw[if_neg e] at h2
     exact .inl ⟨by simp[e,h1],h2⟩
   ·exact .inr ⟨j + 1,by simpa using h1,by rw[h2]; congr 2; omega⟩
theorem sK {m:Nat} : ∀ (n i t:Nat),t∈qU m i n↔i≤t∧t<i + n∧Nat.testBit m t=true
 | 0,i,t=>by simp[qU]; omega
 | n + 1,i,t=>by
   simp only[qU]
   split
   ·rename_i h
    rw[List.mem_cons,sK n (i + 1) t]
    constructor
    ·rintro(rfl | ⟨a,b,c⟩)
     ·exact⟨Nat.le_refl _,by omega,h⟩
     ·exact⟨by omega,by omega,c⟩
    ·rintro⟨a,b,c⟩
     by_cases e:t=i
     ·exact .inl e
     ·exact .inr ⟨by omega,by omega,c⟩
   ·rename_i h
    rw[sK n (i + 1) t]
    constructor
    ·rintro⟨a,b,c⟩; exact⟨by omega,by omega,c⟩
    ·rintro⟨a,b,c⟩
     have:t≠i:=fun e=>by subst e; rw[h] at c; cases c
     exact⟨by omega,by omega,c⟩
theorem nI {m n t:Nat} : t∈bitsOf m n↔t<n∧Nat.testBit m t=true:=by
 unfold bitsOf; rw[sK]; simp
theorem uw {ρ:Ren} {T T' : Tree AV} {a:Act} {asg:Nat} {vs:List Nat} (h:fV ρ nt T' a) (hge:∀ t,nt≤t→aa ρ ((T.get t).getD .top) undef) (hk:∀ t,Nat.testBit asg t=false→T'.get t=T.get t) : fV ρ nt (sH T (bitsOf asg nt) vs (qD T' vs)) a:=by
 refine⟨h.size,fun t=>?_,h.defers⟩
 unfold sH
 rcases xN vs (rA T (bitsOf asg nt)) (qD T' vs) 0 t with⟨_,h2⟩ | ⟨j,h1,h2⟩
 ·rw[h2,uB]
  split
  ·exact .top _
  ·rename_i hm
   by_cases hb:Nat.testBit asg t=true
   ·have hge' : nt≤t:=by
     rcases Nat.lt_or_ge t nt with hlt | hge
     ·exact absurd (nI.2 ⟨hlt,hb⟩) hm
     ·exact hge
    have hv:a.tmps.getD t undef=undef:=by
     rw[Array.getD_eq_getD_getElem?,Array.getElem?_eq_none (by rw[h.size]; exact hge')]; rfl
    rw[hv]; exact hge t hge'
   ·rw[← hk t (by simpa using hb)]
    exact h.val t
 ·rw[h2,Nat.zero_add,EK,h1]
  exact h.val t
theorem zQ {T:Tree AV} {asg:Nat} {vs:List Nat} {xs:List AV} (hvs:∀ t∈vs,Nat.testBit asg t=true) (t:Nat) (h:Nat.testBit asg t=false) : (sH T (bitsOf asg nt) vs xs).get t=T.get t:=by
 unfold sH
 rcases xN vs (rA T (bitsOf asg nt)) xs 0 t with⟨_,h2⟩ | ⟨j,h1,h2⟩
 ·rw[h2,uB,if_neg]
  intro hm
  rw[(nI.1 hm).2] at h; cases h
 ·have:=hvs t (List.mem_of_getElem? h1)
  rw[h] at this; cases this
theorem fV.ge {ρ:Ren} {T:Tree AV} {a:Act} (h:fV ρ nt T a) : ∀ t,nt≤t→aa ρ ((T.get t).getD .top) undef:=by
 intro t ht
 have:=h.val t
 rw[Array.getD_eq_getD_getElem?,Array.getElem?_eq_none (by rw[h.size]; exact ht)] at this
 exact this
theorem xC {c:Code} {Q:Exit→Act→World→Prop} : ∀ {n m:Nat} {a:Act} {w:World},n≤m→Code.rounds P c Q n a w→Code.rounds P c Q m a w
 | 0,_,_,_,_,h=>h.elim
 | n + 1,m + 1,a,w,hle,h=>by
   rw[rounds_succ] at h ⊢
   refine wp_mono h fun e a' w' hp=>?_
   cases e with
   | normal=>exact xC (Nat.le_of_succ_le_succ hle) hp
   | exit id=>exact hp
   | ret=>exact hp
   | goto l=>exact hp
   | panic c=>exact hp
   | outgrown=>exact hp
theorem tL {t:Nat} : ∀ (l:List Oper),Nat.testBit (Ad l) t=false→∀ o∈l,o.dst≠some t
 | [],_,o,ho=>by cases ho
 | x :: l,h,o,ho=>by
   simp only[Ad,Nat.testBit_or,Bool.or_eq_false_iff] at h
   rcases List.mem_cons.1 ho with rfl | ho
   ·intro e
    rw[e] at h
    simp[El,Nat.testBit_two_pow] at h
   ·exact tL l h.2 o ho
theorem Jn {ρ:Ren} {x:AV} {u:Value} {p q:Prop} (h:aM x p q) (hx:aa ρ x u) : ∃ b,u=.bool b∧(b=true→p)∧(b=false→q):=by
 unfold aM at h
 split at h <;> first | (cases h; done) | skip
 rename_i b
 exact⟨b,(aF hx).1,h.1,h.2⟩
theorem IW (hP:Aa P) : ∀ (f:Nat) (c:Code) (env:List (Nat × Nat)) (L:Nat) (T:Tree AV) (M:RM) (K:K3),wpC P nt ret f c env L T M K →
  ∀ (M0:RM) (ρ0:Ren) (w0:World) (ρ:Ren) (a:Act) (w:World),After P M0 ρ0 w0 M ρ w→fV ρ nt T a→c.wp P (Gl P nt M0 ρ0 w0 T (dV f c) K) a w:=by
 intro f
 induction f with
 | zero=>intro c env L T M K h; exact h.elim
 | succ f ih =>
   intro c env L T M K h M0 ρ0 w0 ρ a w hM hA
   cases c with
   | skip=>exact wp_skip ⟨.normal,T,M,ρ,rfl,hM,hA,fun _ _=>rfl,h⟩
   | region id ops d =>
     cases d with
     | false =>
       refine wp_region ?_
       have:=rq (nt:=nt) hP (ops:=ops) (Q:=Gl P nt M0 ρ0 w0 T (dV (f + 1) (.region id ops false)) K) (K:=fun T' M'=>K .normal T' M') (M0:=M0) (ρ0:=ρ0) (w0:=w0) (T0:=T)
        (fun T' M' ρ' a' w' k1 k2 k3 k4=>⟨.normal,T',M',ρ',rfl,k1,k2,fun t ht=>k4 t (tL _ ht),k3⟩) ops.toList 0 (by simp) hA hM (fun _ _=>rfl) h
       rw[Array.length_toList,← List.range_eq_range'] at this
       exact this
     | true =>
       exact Ff (nt:=nt) (T:=T) hP hM hA (fun T' M' ρ' a' w' k1 k2 k3 k4=>⟨.normal,T',M',ρ',rfl,k1,k2,fun t ht=>k4 t (tL _ ht),k3⟩) h
   | seq c1 c2 =>
     simp only[wpC] at h
     refine wp_seq ?_
     split at h
     ·refine wp_mono (ih c1 _ _ _ _ _ h M0 ρ0 w0 ρ a w hM hA) fun e a' w' hp=>?_
      obtain⟨x,T1,M1,ρ1,rfl,k1,k2,k3,k4⟩:=hp
      cases x with
      | normal =>
        refine wp_mono (ih c2 _ _ _ _ _ k4 M0 ρ0 w0 ρ1 a' w' k1 k2) fun e a2 w2 hp=>?_
        obtain⟨x,T2,M2,ρ2,he,q1,q2,q3,q4⟩:=hp
        exact⟨x,T2,M2,ρ2,he,q1,q2,fun t ht=>by
         simp only[dV,Nat.testBit_or,Bool.or_eq_false_iff] at ht
         rw[q3 t ht.2,k3 t ht.1],q4⟩
      | exit i=>exact⟨.exit i,T1,M1,ρ1,rfl,k1,k2,fun t ht=>by
        simp only[dV,Nat.testBit_or,Bool.or_eq_false_iff] at ht
        exact k3 t ht.1,k4⟩
      | ret=>exact⟨.ret,T1,M1,ρ1,rfl,k1,k2,fun t ht=>by
        simp only[dV,Nat.testBit_or,Bool.or_eq_false_iff] at ht
        exact k3 t ht.1,k4⟩
     ·unfold lu at h
      refine wp_mono (ih c1 _ _ _ _ _ h M0 ρ0 w0 ρ a w hM hA) fun e a' w' hp=>?_
      obtain⟨x,T1,M1,ρ1,rfl,k1,k2,k3,k4⟩:=hp
      have hge:∀ t,nt≤t→aa ρ1 ((T.get t).getD .top) undef:=fun t ht=>by
       have h1:=k2.ge t ht
       by_cases hb:Nat.testBit (dV f c1) t=false
       ·rw[k3 t hb] at h1; exact h1
       ·have h0:=hA.ge t ht
        have hu:∀ (ρ ρ' : Ren) (x:AV),aa ρ x undef→aa ρ' x undef:=by
         intro ρ ρ' x hx
         unfold undef at hx ⊢
         cases hx with
         | top=>exact .top _
         | sc v p=>exact .sc _ p
         | tup xs vs a=>cases a; exact .tup _ _ .nil
        exact hu _ _ _ h0
      cases x with
      | normal =>
        refine wp_mono (ih c2 _ _ _ _ _ k4 M0 ρ0 w0 ρ1 a' w' k1 (uw k2 hge k3)) fun e a2 w2 hp=>?_
        obtain⟨x,T2,M2,ρ2,he,q1,q2,q3,q4⟩:=hp
        refine⟨x,T2,M2,ρ2,he,q1,q2,fun t ht=>?_,q4⟩
        simp only[dV,Nat.testBit_or,Bool.or_eq_false_iff] at ht
        rw[q3 t ht.2]
        refine zQ (fun t' ht'=>?_) t ht.1
        have:=(nI.1 ht').2
        rw[Nat.testBit_and,Bool.and_eq_true] at this
        exact this.1
      | exit i=>exact⟨.exit i,T1,M1,ρ1,rfl,k1,k2,fun t ht=>by
        simp only[dV,Nat.testBit_or,Bool.or_eq_false_iff] at ht
        exact k3 t ht.1,k4⟩
      | ret=>exact⟨.ret,T1,M1,ρ1,rfl,k1,k2,fun t ht=>by
        simp only[dV,Nat.testBit_or,Bool.or_eq_false_iff] at ht
        exact k3 t ht.1,k4⟩
   | cond cnd c1 c2 =>
     simp only[wpC] at h
     obtain⟨b,hb,h1,h2⟩:=Jn h (Cz hA cnd)
     cases b with
     | true =>
       refine wp_cond_true hb (wp_mono (ih c1 _ _ _ _ _ (h1 rfl) M0 ρ0 w0 ρ a w hM hA) fun e a' w' hp=>?_)
       obtain⟨x,T1,M1,ρ1,he,k1,k2,k3,k4⟩:=hp
       exact⟨x,T1,M1,ρ1,he,k1,k2,fun t ht=>by
         simp only[dV,Nat.testBit_or,Bool.or_eq_false_iff] at ht
         exact k3 t ht.1,k4⟩
     | false =>
       refine wp_cond_false hb (wp_mono (ih c2 _ _ _ _ _ (h2 rfl) M0 ρ0 w0 ρ a w hM hA) fun e a' w' hp=>?_)
       obtain⟨x,T1,M1,ρ1,he,k1,k2,k3,k4⟩:=hp
       exact⟨x,T1,M1,ρ1,he,k1,k2,fun t ht=>by
         simp only[dV,Nat.testBit_or,Bool.or_eq_false_iff] at ht
         exact k3 t ht.2,k4⟩
   | block id c1 =>
     simp only[wpC] at h
     refine wp_block (wp_mono (ih c1 _ _ _ _ _ h M0 ρ0 w0 ρ a w hM hA) fun e a' w' hp=>?_)
     obtain⟨x,T1,M1,ρ1,rfl,k1,k2,k3,k4⟩:=hp
     cases x with
     | normal=>exact⟨.normal,T1,M1,ρ1,rfl,k1,k2,k3,k4⟩
     | ret=>exact⟨.ret,T1,M1,ρ1,rfl,k1,k2,k3,k4⟩
     | exit i =>
       simp only at k4
       split at k4
       ·rename_i he
        have he:=bP he
        subst he
        simp only[J6,Exit.inBlock,if_true]
        exact⟨.normal,T1,M1,ρ1,rfl,k1,k2,k3,k4⟩
       ·rename_i he
        have he:=Ao he
        simp only[J6,Exit.inBlock,if_neg he]
        exact⟨.exit i,T1,M1,ρ1,rfl,k1,k2,k3,k4⟩
   | loop c1 =>
     simp only[wpC] at h
     obtain⟨I,n,hI,hbody⟩:=h
     have hvs:∀ t∈bitsOf (dV f c1 &&& eB ret f env c1 (eB ret f env c1 0)) nt,Nat.testBit (dV f c1) t=true:=fun t' ht'=>by
      have:=(nI.1 ht').2
      rw[Nat.testBit_and,Bool.and_eq_true] at this
      exact this.1
     generalize hv:bitsOf (dV f c1 &&& eB ret f env c1 (eB ret f env c1 0)) nt=vs at hI hbody hvs
     have hu:∀ (ρ ρ' : Ren) (x:AV),aa ρ x undef→aa ρ' x undef:=by
      intro ρ ρ' x hx
      unfold undef at hx ⊢
      cases hx with
      | top=>exact .top _
      | sc v p=>exact .sc _ p
      | tup xs vs a=>cases a; exact .tup _ _ .nil
     have hge:∀ (ρ1:Ren) t,nt≤t→aa ρ1 ((T.get t).getD .top) undef:=fun ρ1 t ht=>hu _ _ _ (hA.ge t ht)
     have key:∀ (m:Nat) (ys:List AV) (M1:RM) (ρ1:Ren) (a1:Act) (w1:World),I m ys M1→After P M0 ρ0 w0 M1 ρ1 w1→fV ρ1 nt (sH T (bitsOf (dV f c1) nt) vs ys) a1 →
       Code.rounds P c1 (Gl P nt M0 ρ0 w0 T (dV (f + 1) (.loop c1)) K) (m + 1) a1 w1:=by
      intro m
      induction m using Nat.strongRecOn with
      | _ m ihm =>
        intro ys M1 ρ1 a1 w1 hIm hM1 hA1
        rw[rounds_succ]
        refine wp_mono (ih c1 _ _ _ _ _ (hbody m ys M1 hIm) M0 ρ0 w0 ρ1 a1 w1 hM1 hA1) fun e a' w' hp=>?_
        obtain⟨x,T2,M2,ρ2,rfl,k1,k2,k3,k4⟩:=hp
        have k3' : ∀ t,Nat.testBit (dV f c1) t=false→T2.get t=T.get t:=fun t ht=>by rw[k3 t ht]; exact zQ hvs t ht
        cases x with
        | normal =>
          obtain⟨m',hlt,hI'⟩:=k4
          exact xC (by omega) (ihm m' hlt _ M2 ρ2 a' w' hI' k1 (uw k2 (hge ρ2) k3'))
        | exit i=>exact⟨.exit i,T2,M2,ρ2,rfl,k1,k2,k3',k4⟩
        | ret=>exact⟨.ret,T2,M2,ρ2,rfl,k1,k2,k3',k4⟩
     exact wp_loop_rounds _ (key n _ M ρ a w hI hM (uw hA (hge ρ) fun _ _=>rfl))
   | exit id=>exact wp_exit ⟨.exit id,T,M,ρ,rfl,hM,hA,fun _ _=>rfl,h⟩
   | ret=>exact wp_ret ⟨.ret,T,M,ρ,rfl,hM,hA,fun _ _=>rfl,h⟩
   | rangeFunc=>simp[wpC] at h
   | scope c1 =>
     simp only[wpC] at h
     refine wp_scope_straight (wp_mono (ih c1 _ _ _ _ _ h M0 ρ0 w0 ρ a w hM hA) fun e a' w' hp=>?_)
     obtain⟨x,T1,M1,ρ1,rfl,k1,k2,k3,k4⟩:=hp
     cases x with
     | normal=>exact⟨.normal,T1,M1,ρ1,rfl,k1,k2,k3,k4⟩
     | exit i=>exact⟨.exit i,T1,M1,ρ1,rfl,k1,k2,k3,k4⟩
     | ret=>exact⟨.ret,T1,M1,ρ1,rfl,k1,k2,k3,k4⟩
   | label l=>exact wp_label ⟨.normal,T,M,ρ,rfl,hM,hA,fun _ _=>rfl,h⟩
   | goto=>simp[wpC] at h
   | refuse=>simp[wpC] at h
theorem He {ρ:Ren} {T:Tree AV} {M:RM} {a:Act} {w:World} (hA:fV ρ nt T a) (hw:bO P ρ M w) {r:ResultVar} {K:AV→Prop} (h:J8 P T M r K) :
  ∃ v v',(vQ a.tmps r).run P w=.ok v' w∧aa ρ v v'∧K v:=by
 cases r with
 | tmp t=>exact⟨_,_,rfl,hA.val t,h⟩
 | cell x t =>
   simp only[J8] at h
   have hv:=hA.val x
   split at h <;> first | (cases h; done) | skip
   ·rename_i ha
    obtain⟨b,p,v,hx,hl,hk⟩:=h
    rw[hx] at hv
    obtain⟨i,hb,hc⟩:=bL hv
    obtain⟨u,hu,hcell⟩:=mD hw hb hl
    refine⟨v,u, ?_,hu,hk⟩
    simp only[vQ,hc,asAddr,Sem.run_bind,Sem.run_pure,Result.andThen_ok,loadVar,fu ha,Bool.false_eq_true,if_false,load,Sem.run,hcell]
   ·rename_i ha
    split at h <;> first | (cases h; done) | skip
    rename_i n hs
    obtain⟨b,p,xs,hx,hl,hk⟩:=h
    rw[hx] at hv
    obtain⟨i,hb,hc⟩:=bL hv
    obtain⟨vs,hr,hlen,_,hrun⟩:=RM.iU (P:=P) hw hb hl
    exact⟨.agg xs,.agg ⟨vs⟩,by simp only[vQ,hc,asAddr,Sem.run_bind,Sem.run_pure,Result.andThen_ok,loadVar,fu ha,if_true,bI hs,hrun],.agg _ _ hr,hk⟩
theorem rZ {ρ:Ren} {T:Tree AV} {M:RM} {a:Act} {w:World} (hA:fV ρ nt T a) (hw:bO P ρ M w) : ∀ (rs:List ResultVar) (K:List AV→Prop),Ki P T M rs K →
  ∃ vs us,(rs.mapM (vQ a.tmps)).run P w=.ok us w∧aK ρ vs us∧K vs
 | [],K,h=>⟨[],[],by simp,.nil,h⟩
 | r :: rs,K,h=>by
   obtain⟨v,v',h1,h2,h3⟩:=He hA hw h
   obtain⟨vs,us,h4,h5,h6⟩:=rZ hA hw rs _ h3
   refine⟨v :: vs,v' :: us, ?_,.cons _ _ _ _ h2 h5,h6⟩
   simp only[List.mapM_cons,Sem.run_bind,h1,Result.andThen_ok,h4,Sem.run_pure]
theorem BI (hP:Aa P) {f:FuncId} {fn:Func} {c:Code} {args:List AV} {M:RM} {Q:aj} (hfn:P.funcs[f]?=some fn) (hbody:fn.body=some c) (h:I8 P fn c args M Q) : dW P f args M Q:=by
 refine⟨⟨fn,c,hfn,hbody⟩,fun ρ w us hargs hw=>?_⟩
 have hlen:=hargs.length
 have hA:fV ρ (args.length + (fn.ntmps - args.length)) (Tree.ofList args 0 .leaf) { tmps:=⟨us⟩++Array.replicate (fn.ntmps - (⟨us⟩ : Array Value).size) undef,defers:=[] } := by
  refine⟨by simp[hlen],fun t=>?_,rfl⟩
  rw[Tree.nD]
  by_cases ht:t<args.length
  ·rw[if_pos (by omega),Nat.sub_zero]
   obtain⟨u,hu,hv⟩:=hargs.get (n:=t) (x:=args[t]) (by simp[ht])
   rw[List.getElem?_eq_getElem ht]
   simp only[Option.getD_some]
   have:((⟨us⟩ : Array Value)++Array.replicate (fn.ntmps - (⟨us⟩ : Array Value).size) undef).getD t undef=u:=by
    rw[Array.getD_eq_getD_getElem?,Array.getElem?_append_left (by simp; omega)]
    simp[hu]
   rw[this]; exact hv
  ·rw[if_neg (by omega)]
   exact .top _
 refine calls_of_wp hfn hbody (wp_mono (IW hP 1000 c [] 0 _ M _ h M ρ w ρ _ w (After.refl hw) hA) fun e a w' hp=>?_)
 obtain⟨x,T',M',ρ',rfl,k1,k2,k3,k4⟩:=hp
 have key:(∃ vs us,(fn.results.toList.mapM (vQ a.tmps)).run P w'=.ok us w'∧aK ρ' vs us∧Mm Q M' vs) →
   a.defers=[]∧∃ v,(results fn a.tmps).run P w'=.ok v w'∧∃ v' v_1 MH MG,Ending.returned v=.returned v'∧After P M ρ w MH MG w'∧aa MG v_1 v'∧Q v_1 MH:=by
  rintro⟨vs,us,h1,h2,h3⟩
  have hres:(results fn a.tmps).run P w'=.ok (if h:(⟨us⟩ : Array Value).size=1 then(⟨us⟩ : Array Value)[0] else .tuple ⟨us⟩) w':=by
   have e:results fn a.tmps=(fn.results.mapM (vQ a.tmps) >>= fun vs=>pure (if h:vs.size=1 then vs[0] else .tuple vs)):=rfl
   rw[e,Array.mapM_eq_mapM_toList]
   simp only[Sem.run_bind,Sem.run_map,h1,Result.andThen_ok,Sem.run_pure]
  refine⟨k2.defers,_,hres, ?_⟩
  cases h2 with
  | nil=>exact⟨_,_,M',ρ',rfl,k1,.tup _ _ .nil,h3⟩
  | cons x v xs vs2 hv htl =>
    cases htl with
    | nil=>exact⟨_,x,M',ρ',rfl,k1,hv,h3⟩
    | cons y u ys us2 hu OQ=>exact⟨_,_,M',ρ',rfl,k1,.tup _ _ (.cons _ _ _ _ hv (.cons _ _ _ _ hu OQ)),h3⟩
 cases x with
 | normal=>exact key (rZ k2 k1.rel _ _ k4)
 | ret=>exact key (rZ k2 k1.rel _ _ k4)
 | exit id=>exact k4.elim
abbrev ay:=List AV→RM→aj→Prop
def BC (P:Program) (fn:Func) (args:List AV) (M:RM) (Q:aj) : Prop :=
 match fn.body with
 | some c=>I8 P fn c args M Q
 | none=>False
theorem Jz (hP:Aa P) {f:FuncId} {fn:Func} {args:List AV} {M:RM} {Q:aj} (hfn:P.funcs[f]?=some fn) (h:BC P fn args M Q) : dW P f args M Q:=by
 unfold BC at h
 split at h
 ·rename_i c hc; exact BI hP hfn hc h
 ·cases h
end
def RM.cell (M:RM) (b o:Nat) : Option AV:=(M.cells b).bind (·[o]?)
section
variable {M M' : RM} {K:AV→Prop} {KQ:aj}
theorem AQ {b o:Nat} {v:AV} : M.loads b o 1=some [v]↔M.cell b o=some v:=by
 unfold RM.loads RM.cell
 cases hc:M.cells b with
 | none=>simp
 | some l =>
   simp only[Option.bind_some]
   constructor
   ·intro h
    split at h
    ·rename_i hlt
     have h1:=Option.some.inj h
     have:((l.drop o).take 1)[0]?=some v:=by rw[h1]; rfl
     rw[List.getElem?_take,if_pos (by omega),List.getElem?_drop] at this
     simpa using this
    ·cases h
   ·intro h
    have hlt:=(List.getElem?_eq_some_iff.1 h).1
    rw[if_pos (by omega)]
    congr 1
    rw[List.drop_eq_getElem_cons hlt]
    simp only[List.take_succ_cons,List.take_zero]
    congr 1
    exact(List.getElem?_eq_some_iff.1 h).2
@[go_sem] theorem iT (b o:Nat) : ai M (.ptr b o) K=∃ v,M.cell b o=some v∧K v:=by
 apply propext; unfold ai
 constructor
 ·rintro⟨b',o',v,h,hl,hk⟩; cases h; exact⟨v,AQ.1 hl,hk⟩
 ·rintro⟨v,hl,hk⟩; exact⟨b,o,v,rfl,AQ.2 hl,hk⟩
@[go_sem] theorem mF (b o n:Nat) : fP M (.ptr b o) n K=∃ vs,M.loads b o n=some vs∧K (.agg vs):=by
 apply propext; unfold fP
 constructor
 ·rintro⟨b',o',v,h,hl,hk⟩; cases h; exact⟨v,hl,hk⟩
 ·rintro⟨v,hl,hk⟩; exact⟨b,o,v,rfl,hl,hk⟩
@[go_sem] theorem Aw (b p:Nat) (x:AV) (n:Nat) (K:RM→Prop) : aW M (.ptr b p) x n K=(x.cells.length=n∧∃ M',M.stores b p x.cells=some M'∧K M'):=by
 apply propext; unfold aW
 constructor
 ·rintro⟨b',o',M',h,h1,h2,hk⟩; cases h; exact⟨h1,M',h2,hk⟩
 ·rintro⟨h1,M',h2,hk⟩; exact⟨b,p,M',rfl,h1,h2,hk⟩
def Dv (k:IntKind) (a b:Int) : Int:=k.wrap (BitVec.ofInt k.bits a &&& BitVec.ofInt k.bits b).toNat
def PV (k:IntKind) (a b:Int) : Int:=k.wrap (BitVec.ofInt k.bits a ||| BitVec.ofInt k.bits b).toNat
def PG (k:IntKind) (a b:Int) : Int:=k.wrap (BitVec.ofInt k.bits a ^^^ BitVec.ofInt k.bits b).toNat
def Ll (k:IntKind) (a b:Int) : Int:=k.wrap (BitVec.ofInt k.bits a &&& ~~~BitVec.ofInt k.bits b).toNat
def Oy (k:IntKind) (a b:Int) : Int:=k.wrap (a * 2 ^ (min b.toNat k.bits))
def Pb (k:IntKind) (a b:Int) : Int:=a.fdiv (2 ^ (min b.toNat k.bits))
section
variable (k:IntKind) (a b:Int)
theorem ek {op:BinOp} {v:Value} (h:oC op k a b=some v) : ax op (N k a) (N k b) K=K (.sc v):=by
 apply propext; unfold ax
 constructor
 ·rintro⟨k',a',b',u,h1,h2,h3,hk⟩; cases h1; cases h2; rw[h] at h3; cases h3; exact hk
 ·intro hk; exact⟨k,a,b,v,rfl,rfl,h,hk⟩
@[go_sem] theorem oQ:ax .add (N k a) (N k b) K=K (N k (k.wrap (a + b))):=ek k a b rfl
@[go_sem] theorem yX:ax .sub (N k a) (N k b) K=K (N k (k.wrap (a - b))):=ek k a b rfl
@[go_sem] theorem OI:ax .mul (N k a) (N k b) K=K (N k (k.wrap (a * b))):=ek k a b rfl
@[go_sem] theorem Ko:ax .and (N k a) (N k b) K=K (N k (Dv k a b)):=ek k a b rfl
@[go_sem] theorem PQ:ax .or (N k a) (N k b) K=K (N k (PV k a b)):=ek k a b rfl
@[go_sem] theorem Ph:ax .xor (N k a) (N k b) K=K (N k (PG k a b)):=ek k a b rfl
@[go_sem] theorem Na:ax .andNot (N k a) (N k b) K=K (N k (Ll k a b)):=ek k a b rfl
@[go_sem] theorem bz:ax .eql (N k a) (N k b) K=K (Bo (a == b)):=ek k a b rfl
@[go_sem] theorem ED:ax .neq (N k a) (N k b) K=K (Bo (a != b)):=ek k a b rfl
@[go_sem] theorem dN:ax .lss (N k a) (N k b) K=K (Bo (decide (a<b))):=ek k a b rfl
@[go_sem] theorem yU:ax .leq (N k a) (N k b) K=K (Bo (decide (a≤b))):=ek k a b rfl
@[go_sem] theorem yS:ax .gtr (N k a) (N k b) K=K (Bo (decide (a > b))):=ek k a b rfl
@[go_sem] theorem pI:ax .geq (N k a) (N k b) K=K (Bo (decide (a ≥ b))):=ek k a b rfl
@[go_sem] theorem OO:ax .quo (N k a) (N k b) K=(b≠0∧K (N k (k.wrap (a.tdiv b)))):=by
 apply propext; unfold ax oC
 constructor
 ·rintro⟨k',a',b',u,h1,h2,h3,hk⟩; cases h1; cases h2
  simp only at h3
  split at h3
  ·cases h3
  ·cases h3; exact⟨‹_›,hk⟩
 ·rintro⟨h0,hk⟩; exact⟨k,a,b,_,rfl,rfl,by simp only[if_neg h0],hk⟩
@[go_sem] theorem Ey:ax .rem (N k a) (N k b) K=(b≠0∧K (N k (a.tmod b))):=by
 apply propext; unfold ax oC
 constructor
 ·rintro⟨k',a',b',u,h1,h2,h3,hk⟩; cases h1; cases h2
  simp only at h3
  split at h3
  ·cases h3
  ·cases h3; exact⟨‹_›,hk⟩
 ·rintro⟨h0,hk⟩; exact⟨k,a,b,_,rfl,rfl,by simp only[if_neg h0],hk⟩
variable (l:IntKind)
@[go_sem] theorem PM:Js .shl (N k a) (N l b) K=(0≤b∧K (N k (Oy k a b))):=by
 apply propext; unfold Js Al
 constructor
 ·rintro⟨k',a',l',b',u,h1,h2,h3,hk⟩; cases h1; cases h2
  split at h3
  ·cases h3
  ·cases h3; exact⟨by omega,hk⟩
 ·rintro⟨h0,hk⟩; exact⟨k,a,l,b,_,rfl,rfl,by rw[if_neg (by omega)]; rfl,hk⟩
@[go_sem] theorem PS:Js .shr (N k a) (N l b) K=(0≤b∧K (N k (Pb k a b))):=by
 apply propext; unfold Js Al
 constructor
 ·rintro⟨k',a',l',b',u,h1,h2,h3,hk⟩; cases h1; cases h2
  split at h3
  ·cases h3
  ·cases h3; exact⟨by omega,hk⟩
 ·rintro⟨h0,hk⟩; exact⟨k,a,l,b,_,rfl,rfl,by rw[if_neg (by omega)]; rfl,hk⟩
@[go_sem] theorem PT {l:IntKind} {a:Int} {K:AV→Prop} : Ha (N l a) K=K (St (Utf8.encode a).data.toList):=by
 apply propext; unfold Ha
 constructor
 ·rintro⟨l',n,h,hk⟩; cases h; exact hk
 ·intro h; exact⟨_,_,rfl,h⟩
@[go_sem] theorem P5:Kq k (N l a) K=K (N k (k.wrap a)):=by
 apply propext; unfold Kq
 constructor
 ·rintro⟨l',n,h,hk⟩; cases h; exact hk
 ·intro hk; exact⟨l,a,rfl,hk⟩
@[go_sem] theorem LQ (mx:Bool) : Dl mx (N k a) (N k b) K=K (N k (if mx then(if b > a then b else a) else(if b<a then b else a))):=by
 apply propext; unfold Dl
 constructor
 ·rintro⟨k',a',b',h1,h2,hk⟩; cases h1; cases h2; exact hk
 ·intro hk; exact⟨k,a,b,rfl,rfl,hk⟩
@[go_sem] theorem P9:J4 (N k a) K=K (N k (k.wrap (0 - a))):=by
 apply propext; unfold J4
 constructor
 ·rintro⟨k',a',h1,hk⟩; cases h1; exact hk
 ·intro hk; exact⟨k,a,rfl,hk⟩
end
@[go_sem] theorem jW (b:Bool) : nA (Bo b) K=K (Bo (!b)):=by
 apply propext; unfold nA
 constructor
 ·rintro⟨b',h,hk⟩; cases h; exact hk
 ·intro hk; exact⟨b,rfl,hk⟩
@[go_sem] theorem NT (neg a b:Bool) : vZ neg (Bo a) (Bo b) K=K (Bo ((a == b) != neg)):=by
 apply propext; unfold vZ
 constructor
 ·rintro⟨a',b',h,h',hk⟩; cases h; cases h'; exact hk
 ·intro hk; exact⟨a,b,rfl,rfl,hk⟩
@[go_sem] theorem Er (t:Bool) (a b:AV) : bg (Bo t) a b K=K (if t then a else b):=by
 apply propext; unfold bg
 constructor
 ·rintro⟨t',h,hk⟩; cases h; exact hk
 ·intro hk; exact⟨t,rfl,hk⟩
@[go_sem] theorem Dt (b:Bool) (p q:Prop) : aM (Bo b) p q=((b=true→p)∧(b=false→q)):=rfl
@[go_sem] theorem NY {α:Type} (b want:Bool) (f g:α→Prop) (k:α) : gL (Bo b) want f g k=if b=want then f k else g k:=rfl
@[go_sem] theorem LP {α:Type} (want:Bool) (f g:α→Prop) (k:α) : gL .undef want f g k=g k:=rfl
@[go_sem] theorem ah (b o:Nat) : aI (.ptr b o) K=K (.ptr b o):=by
 apply propext; unfold aI
 constructor
 ·rintro⟨b',o',h,hk⟩; cases h; exact hk
 ·intro hk; exact⟨b,o,rfl,hk⟩
@[go_sem] theorem ae (b o n:Nat) : au (.ptr b o) n K=K (.ptr b (o + n)):=by
 apply propext; unfold au
 constructor
 ·rintro⟨b',o',h,hk⟩; cases h; exact hk
 ·intro hk; exact⟨b,o,rfl,hk⟩
@[go_sem] theorem zC (b p len:Nat) (cap:Cap) (k:IntKind) (n:Int) (size:Nat) : bD (.slc b p len cap) (N k n) size K=(0≤n∧n<len∧K (.ptr b (p + n.toNat * size))):=by
 apply propext; unfold bD
 constructor
 ·rintro⟨b',p',l',c',k',n',h,h',h0,h1,hk⟩; cases h; cases h'; exact⟨h0,h1,hk⟩
 ·rintro⟨h0,h1,hk⟩; exact⟨b,p,len,cap,k,n,rfl,rfl,h0,h1,hk⟩
@[go_sem] theorem OL (b p:Nat) (k:IntKind) (n:Int) (len size:Nat) : JR (.ptr b p) (N k n) len size K=(0≤n∧n<len∧K (.ptr b (p + n.toNat * size))):=by
 apply propext; unfold JR
 constructor
 ·rintro⟨b',p',k',n',h,h',h0,h1,hk⟩; cases h; cases h'; exact⟨h0,h1,hk⟩
 ·rintro⟨h0,h1,hk⟩; exact⟨b,p,k,n,rfl,rfl,h0,h1,hk⟩
@[go_sem] theorem Od (cs:List AV) (off:Nat) : Hm (.agg cs) off K=∃ v,cs[off]?=some v∧K v:=by
 apply propext; unfold Hm
 constructor
 ·rintro⟨cs',v,h,h1,hk⟩; cases h; exact⟨v,h1,hk⟩
 ·rintro⟨v,h1,hk⟩; exact⟨cs,v,rfl,h1,hk⟩
@[go_sem] theorem Oc (cs:List AV) (off n:Nat) : Ii (.agg cs) off n K=(off + n≤cs.length∧K (.agg ((cs.drop off).take n))):=by
 apply propext; unfold Ii
 constructor
 ·rintro⟨cs',h,h1,hk⟩; cases h; exact⟨h1,hk⟩
 ·rintro⟨h1,hk⟩; exact⟨cs,rfl,h1,hk⟩
@[go_sem] theorem Oa (cs:List AV) (k:IntKind) (n:Int) (len:Nat) : Gq (.agg cs) (N k n) len K=(0≤n∧n<len∧∃ v,cs[n.toNat]?=some v∧K v):=by
 apply propext; unfold Gq
 constructor
 ·rintro⟨cs',k',n',v,h,h',h0,h1,h2,hk⟩; cases h; cases h'; exact⟨h0,h1,v,h2,hk⟩
 ·rintro⟨h0,h1,v,h2,hk⟩; exact⟨cs,k,n,v,rfl,rfl,h0,h1,h2,hk⟩
@[go_sem] theorem N8 (cs:List AV) (k:IntKind) (n:Int) (len size:Nat) : Ib (.agg cs) (N k n) len size K=(0≤n∧n<len∧n.toNat * size + size≤cs.length∧K (.agg ((cs.drop (n.toNat * size)).take size))):=by
 apply propext; unfold Ib
 constructor
 ·rintro⟨cs',k',n',h,h',h0,h1,h2,hk⟩; cases h; cases h'; exact⟨h0,h1,h2,hk⟩
 ·rintro⟨h0,h1,h2,hk⟩; exact⟨cs,k,n,rfl,rfl,h0,h1,h2,hk⟩
@[go_sem] theorem PO (s:List UInt8) (k:IntKind) (n:Int) : GD (St s) (N k n) K=(0≤n∧∃ b,s[n.toNat]?=some b∧K (N .u8 b.toNat)):=by
 apply propext; unfold GD
 constructor
 ·rintro⟨s',k',n',b,h,h',h0,h1,hk⟩; cases h; cases h'; exact⟨h0,b,h1,hk⟩
 ·rintro⟨h0,b,h1,hk⟩; exact⟨s,k,n,b,rfl,rfl,h0,h1,hk⟩
@[go_sem] theorem Ej (vs:List AV) (i:Nat) : gZ (.tup vs) i K=∃ v,vs[i]?=some v∧K v:=by
 apply propext; unfold gZ
 constructor
 ·rintro⟨cs',v,h,h1,hk⟩; cases h; exact⟨v,h1,hk⟩
 ·rintro⟨v,h1,hk⟩; exact⟨vs,v,rfl,h1,hk⟩
@[go_sem] theorem Cc (v:AV) : mZ (some v) K=K v:=by
 apply propext; unfold mZ
 constructor
 ·rintro⟨v',h,hk⟩; cases h; exact hk
 ·intro hk; exact⟨v,rfl,hk⟩
@[go_sem] theorem JZ (b o n:Nat) (c:Cap) : cz (.slc b o n c) K=K (N .i64 n):=by
 apply propext; unfold cz
 constructor
 ·rintro⟨n',h,hk⟩; cases h; exact hk
 ·intro hk; exact⟨n,rfl,hk⟩
@[go_sem] theorem J9 (b:Nat) : cz (.emp b) K=K (N .i64 0):=by
 apply propext; unfold cz
 constructor
 ·rintro⟨n',h,hk⟩; cases h; exact hk
 ·intro hk; exact⟨0,rfl,hk⟩
@[go_sem] theorem JI:cz (.sc (.slice none 0 0)) K=K (N .i64 0):=by
 apply propext; unfold cz
 constructor
 ·rintro⟨n',h,hk⟩; cases h; exact hk
 ·intro hk; exact⟨0,rfl,hk⟩
@[go_sem] theorem kN (s:List UInt8) : lG (St s) K=K (N .i64 s.length):=by
 apply propext; unfold lG
 constructor
 ·rintro⟨s',h,hk⟩; cases h; exact hk
 ·intro hk; exact⟨s,rfl,hk⟩
@[go_sem] theorem PR (b o n c:Nat) : Ez (.slc b o n (.ex c)) K=K (N .i64 c):=by
 apply propext; unfold Ez
 constructor
 ·rintro⟨n',h,hk⟩; cases h; exact hk
 ·intro hk; exact⟨c,rfl,hk⟩
@[go_sem] theorem O5:Ez (.sc (.slice none 0 0)) K=K (N .i64 0):=by
 apply propext; unfold Ez
 constructor
 ·rintro⟨n',h,hk⟩; cases h; exact hk
 ·intro hk; exact⟨0,rfl,hk⟩
@[go_sem] theorem Py (s:List UInt8) : isStr (St s) K=K (St s):=by
 apply propext; unfold isStr
 constructor
 ·rintro⟨s',h,hk⟩; cases h; exact hk
 ·intro hk; exact⟨s,rfl,hk⟩
@[go_sem] theorem EZ {x:AV} {s:List UInt8} (h:sZ M x=some s) : oq M x K=K (St s):=by
 apply propext; unfold oq
 constructor
 ·rintro⟨s',h',hk⟩; rw[h] at h'; cases h'; exact hk
 ·intro hk; exact⟨s,h,hk⟩
theorem kJ {op:BinOp} {a b:List UInt8} {v:AV} (h:rX op a b=some v) : iB op (St a) (St b) K=K v:=by
 apply propext; unfold iB
 constructor
 ·rintro⟨a',b',u,h1,h2,h3,hk⟩; cases h1; cases h2; rw[h] at h3; cases h3; exact hk
 ·intro hk; exact⟨a,b,v,rfl,rfl,h,hk⟩
@[go_sem] theorem xZ (a b:List UInt8) : iB .eql (St a) (St b) K=K (Bo (a == b)):=by rw[← fw]; exact kJ rfl
@[go_sem] theorem EJ (a b:List UInt8) : iB .neq (St a) (St b) K=K (Bo (a != b)):=by rw[bne,← fw]; exact kJ rfl
@[go_sem] theorem Po (a b:List UInt8) : iB .lss (St a) (St b) K=K (Bo (Op.bytesLess a b)):=kJ rfl
@[go_sem] theorem OH (a b:List UInt8) : iB .leq (St a) (St b) K=K (Bo (Op.bytesLess a b || a == b)):=by rw[← fw]; exact kJ rfl
@[go_sem] theorem Ke (a b:List UInt8) : iB .gtr (St a) (St b) K=K (Bo (!(Op.bytesLess a b || a == b))):=by rw[← fw]; exact kJ rfl
@[go_sem] theorem Oo (a b:List UInt8) : iB .geq (St a) (St b) K=K (Bo (!Op.bytesLess a b)):=kJ rfl
@[go_sem] theorem OV (a b:List UInt8) : iB .add (St a) (St b) K=(a.length + b.length≤9223372036854775807∧K (St (a++b))):=by
 apply propext; unfold iB
 constructor
 ·rintro⟨a',b',u,h1,h2,h3,hk⟩; cases h1; cases h2
  simp only[rX] at h3
  split at h3
  ·rename_i hb; cases h3; exact⟨aO hb,hk⟩
  ·cases h3
 ·rintro⟨h0,hk⟩; exact⟨a,b,_,rfl,rfl,by simp only[rX,aL.2 h0],hk⟩
theorem gY {neg:Bool} {tag:Nat} {x y:AV} {r:Bool} (ht:CR x=tag) (h:vM x y=some r) : cO neg tag x y K=K (Bo (r != neg)):=by
 apply propext; unfold cO
 constructor
 ·rintro⟨_,r',h',hk⟩; rw[h] at h'; cases h'; exact hk
 ·intro hk; exact⟨ht,r,h,hk⟩
@[go_sem] theorem Bd (neg:Bool) : cO neg 2 (.sc (.slice none 0 0)) (.sc (.slice none 0 0)) K=K (Bo (!neg)):=(gY (tag:=2) (r:=true) rfl rfl).trans (by cases neg <;> rfl)
@[go_sem] theorem BD (neg:Bool) (b:Nat) : cO neg 2 (.emp b) (.sc (.slice none 0 0)) K=K (Bo neg):=(gY (tag:=2) (r:=false) rfl rfl).trans (by cases neg <;> rfl)
@[go_sem] theorem Bp (neg:Bool) (b o n:Nat) (c:Cap) : cO neg 2 (.slc b o n c) (.sc (.slice none 0 0)) K=K (Bo neg):=(gY (tag:=2) (r:=false) rfl rfl).trans (by cases neg <;> rfl)
@[go_sem] theorem dJ (neg:Bool) (b o:Nat) : cO neg 1 (.ptr b o) (.sc (.pointer none)) K=K (Bo neg):=(gY (tag:=1) (r:=false) rfl rfl).trans (by cases neg <;> rfl)
@[go_sem] theorem dQ (neg:Bool) : cO neg 1 (.sc (.pointer none)) (.sc (.pointer none)) K=K (Bo (!neg)):=(gY (tag:=1) (r:=true) rfl rfl).trans (by cases neg <;> rfl)
@[go_sem] theorem BN (neg:Bool) (b:Nat) : cO neg 3 (.map b) (.sc (.map none)) K=K (Bo neg):=(gY (tag:=3) (r:=false) rfl rfl).trans (by cases neg <;> rfl)
@[go_sem] theorem LF (neg:Bool) (f:Fn) (xs ys:List AV) : cO neg 4 (.fn f xs ys) (.sc .nilFunc) K=K (Bo neg):=(gY (tag:=4) (r:=false) rfl rfl).trans (by cases neg <;> rfl)
@[go_sem] theorem NL (neg:Bool) (ks:List Nat) (cs ds:List AV) : uy neg ks (.agg cs) (.agg ds) K=(cs.length=ks.length∧ds.length=ks.length∧∃ r,bR ks cs ds=some r∧K (Bo (r != neg))):=by
 apply propext; unfold uy
 constructor
 ·rintro⟨a',b',r,h1,h2,h3,h4,h5,hk⟩; cases h1; cases h2; exact⟨h3,h4,r,h5,hk⟩
 ·rintro⟨h3,h4,r,h5,hk⟩; exact⟨cs,ds,r,rfl,rfl,h3,h4,h5,hk⟩
@[go_sem] theorem OJ (C:FuncId→ay) (g:FuncId) (first cap args:List AV) : GR C (.fn (.func g) first cap) args M KQ=C g (first++args++cap) M KQ:=by
 apply propext; unfold GR
 constructor
 ·rintro⟨g',f',c',h,hk⟩; cases h; exact hk
 ·intro hk; exact⟨g,first,cap,rfl,hk⟩
@[go_sem] theorem gU (cs:List AV) (parts:List (Nat × Nat × AV)) : fA cs parts K=∃ cs',AB cs parts=some cs'∧K (.agg cs'):=rfl
@[go_sem] theorem aY (x:RB) (mk:Nat→AV) : cK x mk M KQ=KQ (mk M.next) (M.push x):=rfl
@[go_sem] theorem qQ (x:RB) (mk:Nat→AV) (k:KR) : yD x mk M k=k (mk M.next) (M.push x) (some M.next):=rfl
@[go_sem] theorem Pn (f:(List AV→RM→Prop)→Prop) (g:List AV→RM→Prop) : lu f g=f g:=rfl
@[go_sem] theorem Oj (x:AV) (xs:List AV) : aG (x :: xs) 0=x:=rfl
@[go_sem] theorem N7 (x:AV) (xs:List AV) (n:Nat) : aG (x :: xs) (n + 1)=aG xs n:=rfl
@[go_sem] theorem Ng (b:Nat) (x:RB) (mk:Nat→AV) (v:AV) : Hz (some b) M x mk v=(M.heap b=some x∧mk b=v):=rfl
end
section
variable {M M' : RM}
theorem RM.qg {b:Nat} {l:List AV} {opn:Bool} {el fz:Nat} (h:M.heap b=some (.row l opn el fz)) : M.cells b=some l:=by simp[RM.cells,h]
theorem RM.JS {b o:Nat} {l:List AV} {opn:Bool} {el fz:Nat} (h:M.heap b=some (.row l opn el fz)) : M.cell b o=l[o]?:=by simp[RM.cell,RM.qg h]
theorem RM.iV {b o k:Nat} {l:List AV} {opn:Bool} {el fz:Nat} (h:M.heap b=some (.row l opn el fz)) (hk:o + k≤l.length) : M.loads b o k=some ((l.drop o).take k):=by
 simp[RM.loads,RM.qg h,hk]
structure af (bs:List Nat) (M M' : RM) : Prop where
 base:M'.base=M.base
 next:M.next≤M'.next
 heap:∀ c,c<M.next→c ∉ bs→M'.heap c=M.heap c
theorem af.refl (bs:List Nat) (M:RM) : af bs M M:=⟨rfl,Nat.le_refl _,fun _ _ _=>rfl⟩
theorem af.trans {bs:List Nat} {M1 M2:RM} (h:af bs M M1) (k:af bs M1 M2) : af bs M M2 :=
 ⟨k.base.trans h.base,Nat.le_trans h.next k.next,fun c hc hb=>(k.heap c (Nat.lt_of_lt_of_le hc h.next) hb).trans (h.heap c hc hb)⟩
theorem af.push {bs:List Nat} (h:af bs M M') (x:RB) : af bs M (M'.push x) :=
 ⟨h.base,Nat.le_succ_of_le h.next,fun c hc hb=>by
  have:=h.next
  simp only[RM.push]; rw[if_neg (by omega)]; exact h.heap c hc hb⟩
theorem af.put {bs:List Nat} (h:af bs M M') {b:Nat} (x:RB) (hb:M.next≤b∨b∈bs) : af bs M (M'.put b x) :=
 ⟨h.base,h.next,fun c hc hcb=>by
  simp only[RM.put]; rw[if_neg]
  ·exact h.heap c hc hcb
  ·rintro rfl; rcases hb with hb | hb
   ·omega
   ·exact hcb hb⟩
theorem af.del {bs:List Nat} (h:af bs M M') {b:Nat} (hb:M.next≤b∨b∈bs) : af bs M (M'.del b) :=
 ⟨h.base,h.next,fun c hc hcb=>by
  simp only[RM.del]; rw[if_neg]
  ·exact h.heap c hc hcb
  ·rintro rfl; rcases hb with hb | hb
   ·omega
   ·exact hcb hb⟩
theorem af.mono {bs cs:List Nat} (h:af bs M M') (hs:∀ b∈bs,b∈cs) : af cs M M':=⟨h.base,h.next,fun c hc hb=>h.heap c hc fun h=>hb (hs c h)⟩
theorem af.dG {bs:List Nat} {M1 M2:RM} {cs:List Nat} (h:af bs M M1) (k:af cs M1 M2) (hn:∀ c∈cs,M.next≤c∨c∈bs) : af bs M M2 :=
 ⟨k.base.trans h.base,Nat.le_trans h.next k.next,fun c hc hb=>by
  rw[k.heap c (Nat.lt_of_lt_of_le hc h.next) (fun hm=>by rcases hn c hm with h1 | h1; omega; exact hb h1),h.heap c hc hb]⟩
theorem af.cells {bs:List Nat} (h:af bs M M') {b:Nat} (hlt:b<M.next) (hb:b ∉ bs) : M'.cells b=M.cells b:=by
 simp only[RM.cells,h.heap b hlt hb,RM.lo,h.base]
theorem af.cell {bs:List Nat} (h:af bs M M') {b o:Nat} (hlt:b<M.next) (hb:b ∉ bs) : M'.cell b o=M.cell b o:=by
 simp only[RM.cell,h.cells hlt hb]
theorem af.loads {bs:List Nat} (h:af bs M M') {b o k:Nat} (hlt:b<M.next) (hb:b ∉ bs) : M'.loads b o k=M.loads b o k:=by
 simp only[RM.loads,h.cells hlt hb]
@[go_sem] theorem RM.Ob (x:RB) : (M.push x).next=M.next + 1:=rfl
@[go_sem] theorem RM.Px (b:Nat) (x:RB) : (M.put b x).next=M.next:=rfl
@[go_sem] theorem RM.Pv (b:Nat) : (M.del b).next=M.next:=rfl
@[go_sem] theorem RM.bi (x:RB) : (M.push x).heap M.next=some x:=by simp[RM.push]
theorem RM.Kj {x:RB} {c:Nat} (h:c≠M.next) : (M.push x).heap c=M.heap c:=by simp[RM.push,h]
@[go_sem] theorem RM.Ew (b:Nat) (x:RB) : (M.put b x).heap b=some x:=by simp[RM.put]
end
abbrev aR:AV:=.sc (.slice none 0 0)
inductive aP (M:RM) (size:Nat) : AV→List AV→Nat→Prop
 | nil:aP M size aR [] 0
 | emp (b:Nat) : aP M size (.emp b) [] 0
 | slc (b o n:Nat) (cap:Cap) (cs:List AV) : b<M.next→M.loads b o (n * size)=some cs→aP M size (.slc b o n cap) cs n
section
variable {M M' : RM} {size:Nat} {v:AV} {cs:List AV} {n:Nat}
theorem BS {b o k:Nat} {cs:List AV} (h:M.loads b o k=some cs) : cs.length=k:=by
 unfold RM.loads at h
 split at h <;> first | (cases h; done) | skip
 split at h <;> first | (cases h; done) | skip
 rename_i hle
 have:=Option.some.inj h
 rw[← this,List.length_take,List.length_drop]; omega
theorem Jl {b o k:Nat} {cs:List AV} (h:M.loads b o k=some cs) (i:Nat) (hi:i<k) : M.cell b (o + i)=cs[i]?:=by
 unfold RM.loads at h
 unfold RM.cell
 split at h <;> first | (cases h; done) | skip
 rename_i l hl
 split at h <;> first | (cases h; done) | skip
 cases h
 simp only[hl,Option.bind_some]
 rw[List.getElem?_take,if_pos hi,List.getElem?_drop]
theorem pV {b o k:Nat} {cs:List AV} (h:M.loads b o k=some cs) (i j:Nat) (hij:i + j≤k) : M.loads b (o + i) j=some ((cs.drop i).take j):=by
 unfold RM.loads at h ⊢
 cases hl:M.cells b with
 | none=>rw[hl] at h; cases h
 | some l =>
   rw[hl] at h
   simp only at h ⊢
   split at h
   ·rename_i hle
    have h:=Option.some.inj h
    subst h
    rw[if_pos (by omega),List.drop_take,List.drop_drop,List.take_take]
    congr 2
    omega
   ·cases h
theorem kY {b o:Nat} {l:List AV} (h:M.cells b=some l) (ho:o≤l.length) : M.loads b o 0=some []:=by
 simp[RM.loads,h,ho]
theorem aP.length (h:aP M size v cs n) : cs.length=n * size:=by
 cases h with
 | nil=>exact(Nat.zero_mul _).symm
 | emp=>exact(Nat.zero_mul _).symm
 | slc b o n cap cs hb0 hl=>exact BS hl
theorem aP.len (h:aP M size v cs n) {K:AV→Prop} : cz v K=K (N .i64 n):=by
 cases h with
 | nil=>exact JI
 | emp b=>exact J9 b
 | slc b o n cap cs hb0 hl=>exact JZ b o n cap
theorem aP.mV (h:aP M size v cs n) (zs:List AV) : mV M size zs false v=some (n,cs):=by
 cases h with
 | nil=>rfl
 | emp b=>rfl
 | slc b o n cap cs hb0 hl=>simp only[Go.Ab.mV,hl]
theorem aP.pos (h:aP M size v cs n) (hn:0<n) : ∃ b o cap,v=.slc b o n cap∧b<M.next∧M.loads b o (n * size)=some cs:=by
 cases h with
 | nil=>omega
 | emp b=>omega
 | slc b o n cap cs hb0 hl=>exact⟨b,o,cap,rfl,hb0,hl⟩
theorem aP.sZ (h:aP M 1 v cs n) {l:List UInt8} (hb:bS byteOf cs=some l) : sZ M v=some l:=by
 cases h with
 | nil=>simp[bS] at hb; subst hb; rfl
 | emp b=>simp[bS] at hb; subst hb; rfl
 | slc b o n cap cs hb0 hl =>
   rw[Nat.mul_one] at hl
   simp only[Go.Ab.sZ,hl]; exact hb
def az:AV→List Nat
 | .slc b _ _ _=>[b]
 | _=>[]
theorem aP.keep {bs:List Nat} (h:aP M size v cs n) (hk:af bs M M') (hb:∀ b∈az v,b ∉ bs) : aP M' size v cs n:=by
 cases h with
 | nil=>exact .nil
 | emp b=>exact .emp b
 | slc b o n cap cs hb0 hl =>
   exact .slc b o n cap cs (Nat.lt_of_lt_of_le hb0 hk.next) (by rw[hk.loads hb0 (hb b (by simp[az]))]; exact hl)
inductive Own (M:RM) (base el size:Nat) : AV→List AV→Nat→Prop
 | nil:Own M base el size aR [] 0
 | ex0 (b o:Nat) : base≤b→b<M.next→(∃ l,M.cells b=some l∧o≤l.length)→Own M base el size (.slc b o 0 (.ex 0)) [] 0
 | op (b n:Nat) (cs:List AV) : base≤b→b<M.next→M.heap b=some (.row cs true el 0)→cs.length=n * size→Own M base el size (.slc b 0 n (.op size)) cs n
theorem Own.jk {base el:Nat} (h:Own M base el size v cs n) : aP M size v cs n:=by
 cases h with
 | nil=>exact .nil
 | ex0 b o hb hlt hc =>
   obtain⟨l,hl,ho⟩:=hc
   exact .slc b o 0 _ [] hlt (by rw[Nat.zero_mul]; exact kY hl ho)
 | op b n cs hb hlt hh hl =>
   refine .slc b 0 n _ cs hlt ?_
   rw[RM.iV hh (by omega)]
   simp[← hl]
theorem Own.blk {base el:Nat} (h:Own M base el size v cs n) : ∀ b∈az v,base≤b∧b<M.next:=by
 cases h with
 | nil=>intro b hb; simp[az] at hb
 | ex0 b o hb hlt hc=>intro c hc; simp[az] at hc; subst hc; exact⟨hb,hlt⟩
 | op b n cs hb hlt hh hl=>intro c hc; simp[az] at hc; subst hc; exact⟨hb,hlt⟩
theorem Own.keep {base el:Nat} {bs:List Nat} (h:Own M base el size v cs n) (hk:af bs M M') (hb:∀ b∈az v,b ∉ bs) : Own M' base el size v cs n:=by
 cases h with
 | nil=>exact .nil
 | ex0 b o h1 hlt hc=>exact .ex0 b o h1 (Nat.lt_of_lt_of_le hlt hk.next) (by rw[hk.cells hlt (hb b (by simp[az]))]; exact hc)
 | op b n cs h1 hlt hh hl=>exact .op b n cs h1 (Nat.lt_of_lt_of_le hlt hk.next) (by rw[hk.heap b hlt (hb b (by simp[az]))]; exact hh) hl
theorem Own.mono {base base' el:Nat} (h:Own M base el size v cs n) (hb:base'≤base) : Own M base' el size v cs n:=by
 cases h with
 | nil=>exact .nil
 | ex0 b o h1 hlt hc=>exact .ex0 b o (Nat.le_trans hb h1) hlt hc
 | op b n cs h1 hlt hh hl=>exact .op b n cs (Nat.le_trans hb h1) hlt hh hl
theorem BO {base el bytes:Nat} {zs:List AV} {zeros:Bool} {x:AV} {m:Nat} {ds:List AV} {K:aj} (h:Own M base el size v cs n) (hbase:base≤M.next) (hs:1≤size) (hx:mV M size zs zeros x=some (m,ds)) (hd:ds.length=m * size)
  (h1:ds.all oneCell=true) (hb:(n + m) * bytes≤140737488355328) (hb2:n + m≤140737488355328)
  (hK:∀ v' M',Own M' base el size v' (cs++ds) (n + m)→af (az v) M M'→M.next≤M'.next→(v'=v∨∀ b∈az v',M.next≤b)→K v' M') : appW el size bytes zs zeros v x M K:=by
 have hmb:m * bytes≤140737488355328:=Nat.le_trans (Nat.mul_le_mul_right _ (by omega)) hb
 refine⟨m,ds,hx,hmb,by omega, ?_⟩
 cases h with
 | nil =>
   by_cases hm:m=0
   ·subst hm
    have:ds=[]:=List.eq_nil_of_length_eq_zero (by simpa using hd)
    subst this
    exact⟨aR,M,by simp[qp],hK _ _ .nil (af.refl _ _) (Nat.le_refl _) (.inl rfl)⟩
   ·refine⟨.slc M.next 0 m (.op size),M.push (.row ds true el 0),by simp only[qp,if_neg hm,h1,if_true],hK _ _ ?_ ((af.refl _ _).push _) (by simp[RM.push]) (.inr fun b hb=>by simp[az] at hb; omega)⟩
    simp only[List.nil_append,Nat.zero_add]
    exact .op _ _ _ hbase (by simp[RM.push]) (RM.bi _) hd
 | ex0 b o hb0 hlt hc =>
   obtain⟨l,hl,ho⟩:=hc
   by_cases hm:m=0
   ·subst hm
    have:ds=[]:=List.eq_nil_of_length_eq_zero (by simpa using hd)
    subst this
    exact⟨_,M,by simp[qp],hK _ _ (.ex0 b o hb0 hlt ⟨l,hl,ho⟩) (af.refl _ _) (Nat.le_refl _) (.inl rfl)⟩
   ·refine⟨.slc M.next 0 m (.op size),M.push (.row ds true el 0), ?_,hK _ _ ?_ ((af.refl _ _).push _) (by simp[RM.push]) (.inr fun b hb=>by simp[az] at hb; omega)⟩
    ·have hl0:M.loads b o (0 * size)=some []:=by rw[Nat.zero_mul]; exact kY hl ho
     simp only[qp,if_neg hm]
     rw[if_neg (by omega),hl0]
     simp only[Nat.zero_add,List.nil_append]
     rw[if_pos ⟨hmb,by omega,h1⟩]
    ·simp only[List.nil_append,Nat.zero_add]
     exact .op _ _ _ hbase (by simp[RM.push]) (RM.bi _) hd
 | op b n cs hb0 hlt hh hl =>
   by_cases hm:m=0
   ·subst hm
    have:ds=[]:=List.eq_nil_of_length_eq_zero (by simpa using hd)
    subst this
    exact⟨_,M,by simp[qp],hK _ _ (by simpa using .op b n cs hb0 hlt hh hl) (af.refl _ _) (Nat.le_refl _) (.inl rfl)⟩
   ·have hpos:1≤m * size:=Nat.mul_pos (by omega) hs
    have hsum:(n + m) * size=n * size + m * size:=Nat.add_mul _ _ _
    refine⟨.slc M.next 0 (n + m) (.op size),(M.del b).push (.row (cs++ds) true el 0), ?_,hK _ _ ?_ (((af.refl _ _).del (.inr (by simp[az]))).push _) (by simp[RM.push,RM.del]) (.inr fun b hb=>by simp[az] at hb; omega)⟩
    ·simp only[qp,if_neg hm,hh,and_self,if_true]
     rw[if_neg (by omega),if_pos ⟨trivial,hb,hb2,trivial,hl,Nat.zero_le _,h1⟩]
    ·exact .op _ _ _ (show base≤M.next from hbase) (by simp[RM.push,RM.del]) (by simp[RM.push,RM.del]) (by rw[List.length_append,hl,hd,hsum])
theorem aP.vM (h:aP M size v cs n) (neg:Bool) : (v=aR∧∀ K:AV→Prop,cO neg 2 v aR K=K (Bo (!neg)))∨(v≠aR∧∀ K:AV→Prop,cO neg 2 v aR K=K (Bo neg)):=by
 cases h with
 | nil=>exact .inl ⟨rfl,fun _=>Bd neg⟩
 | emp b=>exact .inr ⟨by(intro h; cases h),fun _=>BD neg b⟩
 | slc b o n cap cs hb0 hl=>exact .inr ⟨by(intro h; cases h),fun _=>Bp neg b o n cap⟩
theorem Own.lit {base el T:Nat} (M:RM) (h:base≤M.next) : Own (M.push (.row [] false T 0)) base el size (.slc M.next 0 0 (.ex 0)) [] 0 :=
 .ex0 _ _ h (by simp[RM.push]) ⟨[],by simp[RM.cells,RM.push],Nat.le_refl _⟩
end
end Go.Ab
set_option maxRecDepth 4000
namespace Go.Ab
open Go
theorem jv {n:Int} (h0 : -9223372036854775808≤n) (h:n<9223372036854775808) : IntKind.wrap .i64 n=n:=by
 rw[IntKind.wrap_i64]; omega
end Go.Ab
namespace Go.Ab
open Go Go.RowKit
section
variable {P:Program}
end
def RM.old (base:Base) (w:World) : RM where
 next:=base.n
 heap:=fun b=>if b<base.n then(match w.heap[b]? with | some (.cells c _ _)=>some (.ro c) | _=>none) else none
 base:=base
def D8 (n:Nat) : Ren:=fun b=>if b<n then some ⟨b,0,0,0⟩ else none
theorem JL {P:Program} {base:Base} {w:World} (hn:base.n=w.heap.size) (hi:base.inv w) : bO P (D8 base.n) (RM.old base w) w:=by
 refine⟨{ next:=base.n,heap:=.leaf },rfl,⟨fun b i h=>?_,fun b i x _ h=>by simp[Tree.get] at h,fun b _ i _ x _ _ _ h=>by simp[Tree.get] at h,fun b x h=>by simp[Tree.get] at h,fun b i x _ h=>by simp[Tree.get] at h,hi⟩,by simp[RM.old,RM.lo,hn],fun b x h=>.inr ?_,fun c hc=>by have hc' : c<base.n:=hc; simp only[D8]; rw[if_pos hc']⟩
 ·simp only[D8] at h
  split at h <;> first | (cases h; done) | skip
  cases h
  exact⟨by assumption,by rw[← hn]; assumption⟩
 ·simp only[RM.old] at h
  split at h <;> first | (cases h; done) | skip
  rename_i hlt
  split at h <;> first | (cases h; done) | skip
  rename_i c el fr hh
  cases h
  exact⟨c,rfl,hlt,el,fr,hh⟩
theorem RM.IK {base:Base} {w:World} {b:Nat} {c:Array Value} {el:TypeId} {fr:_} (hb:b<base.n) (h:w.heap[b]?=some (.cells c el fr)) : (RM.old base w).cells b=some (c.toList.map (kI base.n)):=by
 simp only[RM.cells,RM.old,if_pos hb,h]
def qK (lo:Nat) : Value→AV
 | .agg cs=>.agg (cs.toList.map (kI lo))
 | v=>kI lo v
theorem Et {ρ:Ren} {lo:Nat} (h:∀ c,c<lo→ρ c=some ⟨c,0,0,0⟩) : ∀ (vs:List Value),aK ρ (vs.map (kI lo)) vs
 | []=>.nil
 | v :: vs=>.cons _ _ _ _ (yO h v) (Et h vs)
theorem Kc {ρ:Ren} {lo:Nat} (h:∀ c,c<lo→ρ c=some ⟨c,0,0,0⟩) (v:Value) : aa ρ (qK lo v) v:=by
 unfold qK
 split
 ·exact .agg _ _ (Et h _)
 ·exact yO h v
theorem Ch {ρ:Ren} {lo:Nat} (h:∀ c,c<lo→ρ c=some ⟨c,0,0,0⟩) : ∀ (vs:List Value),aK ρ (vs.map (qK lo)) vs
 | []=>.nil
 | v :: vs=>.cons _ _ _ _ (Kc h v) (Ch h vs)
theorem dW.close {P:Program} {f:FuncId} {base:Base} {w:World} {us:Array Value} (hn:base.n=w.heap.size) (hi:base.inv w)
  (h:dW P f (us.toList.map (qK base.n)) (RM.old base w) fun v _=>v=Bo true) :
  Calls P f us w fun e w'=>e=.returned (.bool true)∧Below w.heap.size w w':=by
 have hr:=JL (P:=P) hn hi
 refine((h.2 (D8 base.n) w us.toList (Ch (fun c hc=>by simp only[D8]; rw[if_pos hc]) _) hr)).mono fun e w' hR=>?_
 obtain⟨v',v,M',ρ',rfl,k1,k2,rfl⟩:=hR
 obtain⟨rfl,_⟩:=aF k2
 refine⟨rfl,k1.step.os,k1.step.tape,k1.step.output,k1.step.size,fun k hk=>k1.step.low k ?_⟩
 show k<base.n
 rw[hn]; exact hk
def qR:Option TypeDesc→Bool
 | some .bool | some (.int _) | some .string | some (.slice _) | some (.struct _) | some (.array _ _)=>false
 | _=>true
inductive Fits (P:Program) (M:RM) : TypeId→List AV→Prop
 | bool (t:TypeId) (b:Bool) : P.underlying t=some .bool→Fits P M t [Bo b]
 | int (t:TypeId) (k:IntKind) (n:Int) : P.underlying t=some (.int k)→k.min≤n→n≤k.max→Fits P M t [N k n]
 | str (t:TypeId) (s:List UInt8) : P.underlying t=some .string→s.length≤reachBytes→Fits P M t [St s]
 | JK (t e:TypeId) : P.underlying t=some (.slice e)→Fits P M t [aR]
 | emp (t e:TypeId) (b:Nat) : P.underlying t=some (.slice e)→Fits P M t [.emp b]
 | slc (t e:TypeId) (b o n c:Nat) (cs:List AV) : P.underlying t=some (.slice e)→b<M.next→n≤c→c * P.bytesOf e≤reachBytes→M.loads b o (n * P.cellsOf e)=some cs →
   (∀ i,i<n→Fits P M e ((cs.drop (i * P.cellsOf e)).take (P.cellsOf e)))→Fits P M t [.slc b o n (.ex c)]
 | struct (t:TypeId) (fs:Array Field) (cs:List AV) : P.underlying t=some (.struct fs)→cs.length=P.cellsOf t →
   (∀ (i:Nat) (f:Field),fs[i]?=some f→Fits P M f.type ((cs.drop f.offset).take (P.cellsOf f.type)))→Fits P M t cs
 | array (t e:TypeId) (n:Nat) (cs:List AV) : P.underlying t=some (.array n e)→cs.length=P.cellsOf t →
   (∀ i,i<n→Fits P M e ((cs.drop (i * P.cellsOf e)).take (P.cellsOf e)))→Fits P M t cs
 | other (t:TypeId) (cs:List AV) : qR (P.underlying t)=true→Fits P M t cs
 | zero (t e:TypeId) (cs:List AV) : P.underlying t=some (.slice e)→P.cellsOf e=0→Fits P M t cs
theorem tO (a:Addr) : a.add 0=a:=by simp[Addr.add]
theorem nH {w:World} {base:Nat} {a:Addr} {n:Nat} {cs:List Value} (h:w.cells? base a n=some cs) : cs.length=n∧∀ i,i<n→w.cell? (a.add i)=cs[i]?:=by
 unfold World.cells? at h
 split at h
 ·exact⟨by simpa using mapM_some_length h,fun i hi=>mapM_some_get h i i (by simp[hi])⟩
 ·cases h
theorem cell?_at {w:World} {a:Addr} {v:Value} (h:w.cell? a=some v) : ∃ c el fr,w.heap[a.block]?=some (.cells c el fr)∧a.spot=none∧a.off<c.size∧c[a.off]?=some v:=by
 unfold World.cell? at h
 split at h
 ·rename_i c el fr hh
  split at h
  ·cases h
  ·rename_i hs
   exact⟨c,el,fr,hh,by simpa using hs,(Array.getElem?_eq_some_iff.1 h).1,h⟩
 ·cases h
section
variable {H:Type} {enc:TypeId × Value→H} {P:Program} {base:Base} {w:World}
end
section
variable {P:Program} {M:RM} {t:TypeId} {cs:List AV}
theorem uN {α:Type} {size:Nat} (enc:α→List AV) (p:α→Prop) (hs:∀ a,(enc a).length=size) : ∀ (n:Nat) (ds:List AV),ds.length=n * size→(∀ i,i<n→∃ a,p a∧(ds.drop (i * size)).take size=enc a) →
  ∃ xs:List α,xs.length=n∧ds=xs.flatMap enc∧∀ x∈xs,p x
 | 0,ds,hl,_=>⟨[],rfl,by simpa using hl,by simp⟩
 | n + 1,ds,hl,h=>by
   obtain⟨a,pa,ha⟩:=h 0 (by omega)
   simp only[Nat.zero_mul,List.drop_zero] at ha
   have hl' : (ds.drop size).length=n * size:=by rw[List.length_drop,hl,Nat.succ_mul]; omega
   obtain⟨xs,h1,h2,h3⟩:=uN enc p hs n (ds.drop size) hl' fun i hi=>by
    obtain⟨b,pb,hb⟩:=h (i + 1) (by omega)
    refine⟨b,pb, ?_⟩
    rw[List.drop_drop,← hb,Nat.succ_mul,Nat.add_comm]
   refine⟨a :: xs,by simp[h1], ?_,fun x hx=>?_⟩
   ·rw[List.flatMap_cons,← h2,← ha,List.take_append_drop]
   ·rcases List.mem_cons.1 hx with rfl | hx
    ·exact pa
    ·exact h3 x hx
end
def xY (P:Program) (t:TypeId) : Bool :=
 match P.underlying t with
 | some (.struct _) | some (.array _ _)=>true
 | _=>false
def Gs (P:Program) (M:RM) (t:TypeId) (v:AV) : Prop :=
 match xY P t with
 | true=>∃ cs,v=.agg cs∧Fits P M t cs
 | false=>Fits P M t [v]
theorem Gs.one {P:Program} {M:RM} {t:TypeId} {v:AV} (h:Gs P M t v) (ha:xY P t=false) : Fits P M t [v]:=by
 unfold Gs at h; rw[ha] at h; exact h
section
variable {H:Type} {enc:TypeId × Value→H} {P:Program} {base:Base} {w:World}
theorem Ev {r:Reach} {b:Nat} {t:TypeId} {cs:Array Value} (h:Cell.okWide P w r b t (.agg cs)) : False:=by
 unfold Cell.okWide at h
 split at h <;> first | (rename_i e _; cases e; done) | skip
 all_goals first | (rename_i e; cases e; done) | skip
 unfold Cell.ok at h
 split at h <;> first | exact h | simp_all
theorem uf (hl:laidOutB P=true) {W W' : World} {sp:Nat→Bool} (hb:Below W.heap.size W W') : ∀ {ts:List TypeId} {vs:List Value} {ds:List (DataW H)} {ps:List MemPlace},
  (∀ t∈ts,P.readableRec t=true∧t<P.types.size)→DataW.TrodAll enc P W 0 (fun _=>true) true ts vs ds ps→(∀ p∈ps,p.block<W.heap.size)→(∀ p∈ps,sp p.block=true)→DataW.TrodAll enc P W' 0 sp true ts vs ds ps
 | [],vs,ds,ps,_,h,_,_=>by
   cases vs <;> cases ds <;> first | exact h | exact h.elim
 | t :: ts,vs,ds,ps,hr,h,hlt,hsp=>by
   cases vs with
   | nil=>cases ds <;> exact h.elim
   | cons v vs =>
   cases ds with
   | nil=>exact h.elim
   | cons d ds =>
   obtain⟨p,q,h1,h2,rfl⟩:=h
   have hrt:=hr t (List.mem_cons_self ..)
   exact⟨p,q,WideElems.Trod_stays hl hrt.1 hrt.2 h1 (fun x hx=>hb.same (hlt x (List.mem_append_left _ hx))) (fun x hx=>hsp x (List.mem_append_left _ hx)),
    uf hl hb (fun t ht=>hr t (List.mem_cons_of_mem _ ht)) h2 (fun x hx=>hlt x (List.mem_append_right _ hx)) (fun x hx=>hsp x (List.mem_append_right _ hx)),rfl⟩
end
def RB.cells (lo:Nat) : RB→Option (List AV)
 | .row l _ _ _=>some l
 | .ro c=>some (c.toList.map (kI lo))
 | _=>none
@[go_sem] theorem RB.qg (lo:Nat) (l:List AV) (p:Bool) (e f:Nat) : RB.cells lo (.row l p e f)=some l:=rfl
theorem RM.Dn (M:RM) (b:Nat) : M.cells b=(M.heap b).bind (RB.cells M.lo):=by
 unfold RM.cells RB.cells
 cases M.heap b with
 | none=>rfl
 | some x=>cases x <;> rfl
def kW (l:Option (List AV)) (o k:Nat) : Option (List AV) :=
 match l with
 | some l=>if o + k≤l.length then some ((l.drop o).take k) else none
 | none=>none
@[go_sem] theorem Nc (l:List AV) (o k:Nat) : kW (some l) o k=if o + k≤l.length then some ((l.drop o).take k) else none:=rfl
theorem RM.yJ (M:RM) (b o k:Nat) : M.loads b o k=kW (M.cells b) o k:=rfl
section
variable {M M' : RM}
@[go_sem] theorem RM.Jy (x:RB) (c:Nat) : (M.push x).heap c=if c=M.next then some x else M.heap c:=rfl
@[go_sem] theorem RM.heap_put (b:Nat) (x:RB) (c:Nat) : (M.put b x).heap c=if c=b then some x else M.heap c:=rfl
@[go_sem] theorem RM.Oq (b:Nat) (c:Nat) : (M.del b).heap c=if c=b then none else M.heap c:=rfl
@[go_sem] theorem RM.Oh (x:RB) : (M.push x).base=M.base:=rfl
@[go_sem] theorem RM.Ps (b:Nat) (x:RB) : (M.put b x).base=M.base:=rfl
@[go_sem] theorem RM.OA (b:Nat) : (M.del b).base=M.base:=rfl
theorem RM.zW (x:RB) (c:Nat) : (M.push x).cells c=if c=M.next then x.cells M.lo else M.cells c:=by
 simp only[RM.Dn,RM.Jy]
 split <;> rfl
theorem RM.Cr (b:Nat) (x:RB) (c:Nat) : (M.put b x).cells c=if c=b then x.cells M.lo else M.cells c:=by
 simp only[RM.Dn,RM.heap_put]
 split <;> rfl
@[go_sem] theorem RM.NV (x:RB) (c o:Nat) : (M.push x).cell c o=if c=M.next then(x.cells M.lo).bind (·[o]?) else M.cell c o:=by
 simp only[RM.cell,RM.zW]
 split <;> rfl
@[go_sem] theorem RM.Ox (b:Nat) (x:RB) (c o:Nat) : (M.put b x).cell c o=if c=b then(x.cells M.lo).bind (·[o]?) else M.cell c o:=by
 simp only[RM.cell,RM.Cr]
 split <;> rfl
@[go_sem] theorem RM.NE (x:RB) (c o k:Nat) : (M.push x).loads c o k=if c=M.next then kW (x.cells M.lo) o k else M.loads c o k:=by
 simp only[RM.yJ,RM.zW]
 split <;> rfl
@[go_sem] theorem RM.Oi (b:Nat) (x:RB) (c o k:Nat) : (M.put b x).loads c o k=if c=b then kW (x.cells M.lo) o k else M.loads c o k:=by
 simp only[RM.yJ,RM.Cr]
 split <;> rfl
def jV (l:List AV) (fz o:Nat) (vs:List AV) : Option (List AV) :=
 if o + vs.length≤l.length∧fz≤o∧vs.all oneCell=true then some (l.take o++vs++l.drop (o + vs.length)) else none
theorem oK {l vs:List AV} {fz o:Nat} (h1:o + vs.length≤l.length) (h2:fz≤o) (h3:vs.all oneCell=true) : jV l fz o vs=some (l.take o++vs++l.drop (o + vs.length)):=if_pos ⟨h1,h2,h3⟩
@[go_sem] theorem CO {l vs:List AV} (h:vs.length=l.length) (h3:vs.all oneCell=true) : jV l 0 0 vs=some vs:=by
 rw[oK (by omega) (Nat.le_refl _) h3]
 simp[h]
theorem RM.qc {b o:Nat} {vs l:List AV} {p:Bool} {e f:Nat} (h:M.heap b=some (.row l p e f)) : M.stores b o vs=(jV l f o vs).map fun l'=>M.put b (.row l' p e f):=by
 simp only[RM.stores,h,jV]
 split <;> rfl
theorem RM.JP {x y:RB} : (M.push x).put M.next y=M.push y:=by
 simp only[RM.put,RM.push]
 congr 1
 funext c
 split <;> rfl
theorem RM.Du {x y:RB} {b:Nat} (hb:b≠M.next) : (M.push x).put b y=(M.put b y).push x:=by
 simp only[RM.put,RM.push]
 congr 1
 funext c
 by_cases h1:c=b
 ·subst h1; simp[hb]
 ·simp[h1]
theorem RM.Ak {l vs:List AV} {p:Bool} {e f o:Nat} : (M.push (.row l p e f)).stores M.next o vs=(jV l f o vs).map fun l'=>M.push (.row l' p e f):=by
 rw[RM.qc (RM.bi _)]
 congr 1
 funext l'
 exact RM.JP
theorem RM.Am {M:RM} {b o:Nat} {vs:List AV} : M.stores b o vs=match M.heap b with
  | some (.row l p e f)=>(jV l f o vs).map fun l'=>M.put b (.row l' p e f)
  | _=>none:=by
 cases h:M.heap b with
 | none=>simp[RM.stores,h]
 | some x =>
   cases x with
   | row l p e f=>rw[RM.qc h]
   | _=>simp[RM.stores,h]
@[go_sem] theorem RM.Ag {x:RB} {vs:List AV} {c o:Nat} (hc:c≠M.next) : (M.push x).stores c o vs=(M.stores c o vs).map (·.push x):=by
 rw[RM.Am,RM.Am,RM.Kj hc]
 split
 ·simp only[Option.map_map]
  congr 1
  funext l'
  exact RM.Du hc
 ·rfl
@[go_sem] theorem RM.Nb {l vs:List AV} {p:Bool} {e f c o:Nat} : (M.push (.row l p e f)).stores c o vs =
  if c=M.next then(jV l f o vs).map fun l'=>M.push (.row l' p e f) else(M.stores c o vs).map (·.push (.row l p e f)):=by
 split
 ·rename_i h; subst h; exact RM.Ak
 ·rename_i h; exact RM.Ag h
@[go_sem] theorem RM.KC {b o:Nat} {l vs:List AV} {p:Bool} {e f:Nat} : (M.put b (.row l p e f)).stores b o vs=(jV l f o vs).map fun l'=>M.put b (.row l' p e f):=by
 rw[RM.qc (RM.Ew _ _)]
 congr 1
 funext l'
 simp only[RM.put]
 congr 1
 funext c
 split <;> rfl
@[go_sem] theorem PL {α:Type} (a:α) (K:α→Prop) : (∃ x,some a=some x∧K x)=K a:=by simp
@[go_sem] theorem Nf {α β:Type} (f:α→β) (x:α) : (some x).map f=some (f x):=rfl
attribute [go_sem] Int.natCast_nonneg Int.toNat_natCast Nat.mul_one true_implies false_implies Bool.false_eq_true Bool.true_eq_false Bool.not_true Bool.not_false Bool.and_self Bool.and_true Bool.true_and Nat.le_refl List.append_nil List.nil_append if_true if_false Nat.lt_irrefl Nat.add_one_ne_zero true_and and_true Nat.zero_add Nat.add_zero List.drop_zero List.getElem?_cons_zero List.getElem?_cons_succ Option.bind_some List.take_succ_cons List.take_zero List.drop_succ_cons List.drop_nil List.take_nil
attribute [go_sem] ny List.all_cons List.all_nil List.length_cons List.length_nil
@[go_sem] theorem vL (cs:List AV) : (AV.agg cs).cells=cs:=rfl
@[go_sem] theorem Pf (v:Value) : (AV.sc v).cells=[.sc v]:=rfl
@[go_sem] theorem NU (b o:Nat) : (AV.ptr b o).cells=[.ptr b o]:=rfl
@[go_sem] theorem NZ (b o n:Nat) (c:Cap) : (AV.slc b o n c).cells=[.slc b o n c]:=rfl
@[go_sem] theorem Ol (b:Nat) : (AV.emp b).cells=[.emp b]:=rfl
@[go_sem] theorem Oe (b:Nat) : (AV.map b).cells=[.map b]:=rfl
@[go_sem] theorem PI (f:Fn) (xs ys:List AV) : (AV.fn f xs ys).cells=[.fn f xs ys]:=rfl
@[go_sem] theorem PY (v:Value) : oneCell (.sc v)=true:=rfl
@[go_sem] theorem PN (b o:Nat) : oneCell (.ptr b o)=true:=rfl
@[go_sem] theorem PP (b o n:Nat) (c:Cap) : oneCell (.slc b o n c)=true:=rfl
@[go_sem] theorem PK (b:Nat) : oneCell (.emp b)=true:=rfl
@[go_sem] theorem PU (b:Nat) : oneCell (.map b)=true:=rfl
@[go_sem] theorem P6 (f:Fn) (xs ys:List AV) : oneCell (.fn f xs ys)=true:=rfl
end
theorem RM.rC {M:RM} {b:Nat} {l:List AV} {p:Bool} {e f:Nat} (h:M.heap b=some (.row l p e f)) (o k:Nat) : M.loads b o k=kW (some l) o k:=by rw[RM.yJ,RM.qg h]
theorem RM.cell_of {M:RM} {b:Nat} {l:List AV} {p:Bool} {e f:Nat} (h:M.heap b=some (.row l p e f)) (o:Nat) : M.cell b o=l[o]?:=RM.JS h
theorem RM.uz {M:RM} {b:Nat} {l:List AV} {p:Bool} {e f:Nat} (h:M.heap b=some (.row l p e f)) (o:Nat) (vs:List AV) : M.stores b o vs=(jV l f o vs).map fun l'=>M.put b (.row l' p e f):=RM.qc h
theorem af.bC {bs:List Nat} {M M' : RM} (h:af bs M M') {b:Nat} {x:RB} (hh:M.heap b=some x) (hlt:b<M.next) (hb:b ∉ bs) : M'.heap b=some x:=by rw[h.heap b hlt hb,hh]
inductive PX where
 | val (v:AV)
 | rows (n:Nat) (v:AV) (bs:List (Nat × fG)) (n' : Nat)
structure LV where
 args:List AV
 fp:List (Nat × fG):=[]
 dead:List Nat:=[]
 nx:Nat:=0
 ans:PX
def Jq:Tree fG→List (Nat × fG)→Tree fG
 | t,[]=>t
 | t,(b,x) :: r=>Jq (t.set b x) r
def Jp:Tree fG→List Nat→Tree fG
 | t,[]=>t
 | t,b :: r=>Jp (t.del b) r
def FR (A:AW) : List (Nat × fG)→Bool
 | []=>true
 | (b,x) :: r=>match A.heap.get b with
   | some y=>NB x y && FR A r
   | none=>false
def Pj (A:AW) (e:LV) : Option (AV × AW) :=
 match FR A e.fp with
 | false=>none
 | true=>match e.ans with
   | .val v=>some (v,A)
   | .rows n v bs n'=>match Nat.beq n A.next with
     | true=>some (v,{ next:=n',heap:=Jq (Jp A.heap e.dead) bs })
     | false=>none
abbrev Table:=List (Nat × List LV)
section
variable {P:Program} {X:Ext}
def Nt (P:Program) (I:World→Prop) (f:Nat) (e:LV) : Prop :=
 ∀ (base:Base),(∀ w,base.inv w→I w)→∀ A v A',Pj A e=some (v,A')→∀ (ρ:Ren) (w:World) (us:List Value),aK ρ e.args us→bK P base ρ A w→base≤w.heap.size →
   Calls P f ⟨us⟩ w fun r w'=>∃ ρ' v',r=.returned v'∧Step base A.next ρ w ρ' w'∧bK P base ρ' A' w'∧A.next≤A'.next∧aa ρ' v v'
def KO (P:Program) (I:World→Prop) (T:Table) : Prop:=∀ g∈T,∀ e∈g.2,Nt P I g.1 e
theorem bK.none {P:Program} {base:Base} {n:Nat} {w:World} (hi:base.inv w) : bK P base (fun _=>none) { next:=n,heap:=.leaf } w :=
 ⟨fun _ _ h=>(by cases h),fun _ _ _ h=>(by cases h),fun _ _ _ _ _ _ h=>(by cases h),fun _ _ h=>(by simp[Tree.get] at h),fun _ _ _ h=>(by cases h),hi⟩
def only(ρ:Ren) (ks:List Nat) : Ren:=fun b=>if b∈ks then ρ b else none
theorem KO.nil {I:World→Prop} : KO P I []:=fun g hg=>by cases hg
open Go.WideShapes Go.ChangeShapes in
open Go.WideShapes Go.ChangeShapes in
end
structure Enc (α:Type) where
 size:Nat
 cells:α→List AV
 len:∀ a,(cells a).length=size
 one:∀ a,(cells a).all oneCell=true
section
variable {α:Type} (E:Enc α)
def Enc.row (xs:List α) : List AV:=xs.flatMap E.cells
theorem Enc.jM (x:α) (xs:List α) : E.row (x :: xs)=E.cells x++E.row xs:=rfl
theorem Enc.Ar (xs ys:List α) : E.row (xs++ys)=E.row xs++E.row ys:=by simp[Enc.row]
theorem Enc.row_one (x:α) : E.row [x]=E.cells x:=by simp[Enc.row]
theorem Enc.dY:∀ (xs:List α),(E.row xs).length=xs.length * E.size
 | []=>by simp[Enc.row]
 | x :: xs=>by rw[Enc.jM,List.length_append,E.len,Enc.dY xs,List.length_cons,Nat.succ_mul,Nat.add_comm]
theorem Enc.q9:∀ (xs:List α),(E.row xs).all oneCell=true
 | []=>by simp[Enc.row]
 | x :: xs=>by rw[Enc.jM,List.all_append,E.one,Enc.q9 xs]; rfl
theorem Enc.xP:∀ (xs:List α) (i:Nat),(E.row xs).drop (i * E.size)=E.row (xs.drop i)
 | [],i=>by simp[Enc.row]
 | x :: xs,0=>by simp
 | x :: xs,i + 1=>by
   rw[Enc.jM,Nat.succ_mul,Nat.add_comm,← List.drop_drop,List.drop_left' (E.len x),Enc.xP xs i]
   rfl
theorem Enc.lJ:∀ (xs:List α) (i:Nat),(E.row xs).take (i * E.size)=E.row (xs.take i)
 | [],i=>by simp[Enc.row]
 | x :: xs,0=>by simp[Enc.row]
 | x :: xs,i + 1=>by
   rw[Enc.jM,Nat.succ_mul,Nat.add_comm,List.take_append,List.take_of_length_le (by rw[E.len]; omega),E.len,Nat.add_sub_cancel_left,Enc.lJ xs i]
   rfl
theorem Enc.wH {xs:List α} {i:Nat} (hi:i<xs.length) : ((E.row xs).drop (i * E.size)).take E.size=E.cells xs[i]:=by
 rw[Enc.xP,List.drop_eq_getElem_cons hi,Enc.jM]
 rw[List.take_append_of_le_length (by rw[E.len]; exact Nat.le_refl _),List.take_of_length_le (by rw[E.len]; exact Nat.le_refl _)]
abbrev Sl (M:RM) (v:AV) (xs:List α) : Prop:=aP M E.size v (E.row xs) xs.length
abbrev Ow (M:RM) (base el:Nat) (v:AV) (xs:List α) : Prop:=Own M base el E.size v (E.row xs) xs.length
variable {E} {M M' : RM} {v:AV} {xs:List α}
theorem Sl.elem (h:Sl E M v xs) {i:Nat} (hi:i<xs.length) : ∃ b o,b<M.next∧b∈az v∧(∀ (kd:IntKind) (K:AV→Prop),bD v (N kd (i:Int)) E.size K=K (.ptr b o))∧M.loads b o E.size=some (E.cells xs[i]):=by
 obtain⟨b,o,cap,rfl,hb,hl⟩:=h.pos (by omega)
 have hsum:i * E.size + E.size≤xs.length * E.size:=by rw[← Nat.succ_mul]; exact Nat.mul_le_mul_right _ hi
 refine⟨b,o + i * E.size,hb,by simp[az],fun kd K=>?_, ?_⟩
 ·rw[zC]
  simp only[Int.toNat_natCast]
  exact propext ⟨fun h=>h.2.2,fun h=>⟨by omega,by omega,h⟩⟩
 ·rw[pV hl (i * E.size) E.size hsum,E.wH hi]
theorem Sl.at (h:Sl E M v xs) {i:Nat} (sz:Nat) (j:Int) (hi:i<xs.length) (hsz:E.size=sz:=by rfl) (hj:j=(i:Int):=by rfl) : ∃ b o,b<M.next∧b∈az v∧(∀ (kd:IntKind) (K:AV→Prop),bD v (N kd j) sz K=K (.ptr b o))∧M.loads b o sz=some (E.cells xs[i]):=by
 subst hsz hj; exact h.elem hi
theorem tZ {b o k:Nat} {cs:List AV} (h:M.loads b o k=some cs) {j:Nat} {x:AV} (hj:cs[j]?=some x) : M.cell b (o + j)=some x:=by
 have hlt:j<k:=by rw[← BS h]; exact(List.getElem?_eq_some_iff.1 hj).1
 rw[Jl h j hlt,hj]
theorem Be {b o k:Nat} {cs:List AV} (h:M.loads b o k=some cs) {x:AV} (hj:cs[0]?=some x) : M.cell b o=some x:=tZ h hj
theorem G8 {b o k:Nat} {cs:List AV} (h:M.loads b o k=some cs) (j m:Nat) (hm:j + m≤k) : M.loads b (o + j) m=some ((cs.drop j).take m):=pV h j m hm
theorem jq {base T bytes:Nat} {zs:List AV} {u:AV} {ys:List α} {K:aj} (ho:Ow E M base T v xs) (hb:base≤M.next) (hs:1≤E.size) (hu:Sl E M u ys)
  (hn:(xs.length + ys.length) * bytes≤140737488355328) (hn2:xs.length + ys.length≤140737488355328)
  (hK:∀ v' M',Ow E M' base T v' (xs++ys)→af (az v) M M'→M.next≤M'.next→(v'=v∨∀ b∈az v',M.next≤b)→K v' M') :
  appW T E.size bytes zs false v u M K:=by
 refine BO ho hb hs (aP.mV hu _) (E.dY ys) (E.q9 ys) hn hn2 ?_
 intro v' M' h1 h2 h3 h4
 refine hK v' M' ?_ h2 h3 h4
 rw[← E.Ar] at h1
 simpa [Ow] using h1
theorem rH {b o k:Nat} {cs:List AV} (h:M.loads b o k=some cs) (m:Nat) (hm:m≤k) : M.loads b o m=some (cs.take m):=pV h 0 m (by omega)
theorem Sl.new {T c:Nat} {p:Bool} (ys:List α) : Sl E (M.push (.row (E.row ys) p T 0)) (.slc M.next 0 ys.length (.ex c)) ys :=
 .slc _ _ _ _ _ (by simp[RM.push]) (by rw[RM.iV (RM.bi _) (by rw[E.dY]; omega),List.drop_zero,← E.dY,List.take_length])
theorem jY {base T bytes:Nat} {zs:List AV} {a:α} {K:aj} (ho:Ow E M base T v xs) (hb:base≤M.next) (hs:1≤E.size)
  (hn:(xs.length + 1) * bytes≤140737488355328) (hn2:xs.length + 1≤140737488355328)
  (hK:∀ v' M',Ow E M' base T v' (xs++[a])→af (az v) M M'→M.next≤M'.next→(v'=v∨∀ b∈az v',M.next≤b)→K v' M') :
  appW T E.size bytes zs false v (.slc M.next 0 1 (.ex 1)) (M.push (.row (E.cells a) false T 0)) K:=by
 have hk:af [] M (M.push (.row (E.cells a) false T 0)):=(af.refl _ _).push _
 refine jq (ys:=[a]) (Own.keep ho hk (by simp)) (Nat.le_trans hb hk.next) hs (by rw[← E.row_one]; exact Sl.new [a]) hn hn2 ?_
 intro v' M' h1 h2 h3 h4
 exact hK v' M' h1 ((hk.mono (by simp)).trans h2) (Nat.le_trans hk.next h3) (h4.imp id fun h b hb=>Nat.le_trans hk.next (h b hb))
@[go_sem] theorem tH {T:Nat} {zs:List AV} {K:RB→(Nat→AV)→Prop} : dL T 0 zs [] K=K (.row [] false T 0) (fun b=>.slc b 0 0 (.ex 0)):=by
 apply propext; unfold dL
 constructor
 ·rintro⟨l,h,hk⟩; cases h; exact hk
 ·intro hk; exact⟨_,rfl,hk⟩
theorem nP {T size:Nat} {zs:List AV} {x:AV} {K:RB→(Nat→AV)→Prop} (h:x.cells.length=size) (h1:x.cells.all oneCell=true) (hz:zs.length=size) :
  dL T 1 zs [(0,size,x)] K=K (.row x.cells false T 0) (fun b=>.slc b 0 1 (.ex 1)):=by
 have:rT (j4 zs 1) [(0,size,x)]=some x.cells:=by
  simp only[rT,j4,List.append_nil,h1,h,Nat.zero_add,hz,Nat.le_refl,and_self,if_true,List.take_zero,List.nil_append]
  rw[List.drop_of_length_le (by omega),List.append_nil]
 apply propext; unfold dL
 constructor
 ·rintro⟨l,h,hk⟩; rw[this] at h; cases h; exact hk
 ·intro hk; exact⟨_,this,hk⟩
theorem Ow.lit (E:Enc α) {T:Nat} (M:RM) : Ow E (M.push (.row [] false T 0)) M.next T (.slc M.next 0 0 (.ex 0)) []:=Own.lit M (Nat.le_refl _)
theorem JU {i:Nat} (h:i<9223372036854775807) : IntKind.wrap .i64 ((i:Int) + 1)=((i + 1:Nat) : Int):=by
 rw[jv (by omega) (by omega)]; rfl
end
@[go_sem] theorem Hr:bR [] [] []=some true:=rfl
@[go_sem] theorem ND (ks:List Nat) (k:IntKind) (a b:Int) (xs ys:List AV) : bR (1 :: ks) (N k a :: xs) (N k b :: ys)=if a=b then bR ks xs ys else some false:=by
 simp only[bR,kU,if_true]
 by_cases h:a=b
 ·simp[h]
 ·have:(a == b)=false:=by simp[h]
  simp[this,h]
@[go_sem] theorem Ht (ks:List Nat) (a b:List UInt8) (xs ys:List AV) : bR (2 :: ks) (St a :: xs) (St b :: ys)=if a=b then bR ks xs ys else some false:=by
 simp only[bR,kU]
 by_cases h:a=b
 ·simp[h]
 ·have:(a == b)=false:=by simp[h]
  simp[this,h]
@[go_sem] theorem MZ (ks:List Nat) (a b:Bool) (xs ys:List AV) : bR (3 :: ks) (Bo a :: xs) (Bo b :: ys)=if a=b then bR ks xs ys else some false:=by
 simp only[bR,kU]
 by_cases h:a=b
 ·simp[h]
 ·have:(a == b)=false:=by simp[h]
  simp[this,h]
theorem rJ (x:AV) (w:Bool) (f g:aj→Prop) (F G:AV→RM→aj→Prop) (k:aj) :
  ak x w f g (fun v M=>ak x w (F v M) (G v M) k)=ak x w (fun k'=>f fun v M=>F v M k') (fun k'=>g fun v M=>G v M k') k:=by
 unfold ak gL
 split
 ·split <;> simp_all
 ·rfl
 ·rfl
theorem NH (x:AV) (w:Bool) (f g:KR→Prop) (F G:AV→RM→Option Nat→KR→Prop) (k:KR) :
  aQ x w f g (fun v M b=>aQ x w (F v M b) (G v M b) k)=aQ x w (fun k'=>f fun v M b=>F v M b k') (fun k'=>g fun v M b=>G v M b k') k:=by
 unfold aQ gL
 split
 ·split <;> simp_all
 ·rfl
 ·rfl
theorem MC (x:AV) (w:Bool) (f g:KR→Prop) (F G:AV→RM→Option Nat→aj→Prop) (k:aj) :
  aQ x w f g (fun v M b=>ak x w (F v M b) (G v M b) k)=ak x w (fun k'=>f fun v M b=>F v M b k') (fun k'=>g fun v M b=>G v M b k') k:=by
 unfold aQ ak gL
 split
 ·split <;> simp_all
 ·rfl
 ·rfl
theorem Ms (x:AV) (w:Bool) (f g:aj→Prop) (F G:AV→RM→KR→Prop) (k:KR) :
  ak x w f g (fun v M=>aQ x w (F v M) (G v M) k)=aQ x w (fun k'=>f fun v M=>F v M k') (fun k'=>g fun v M=>G v M k') k:=by
 unfold aQ ak gL
 split
 ·split <;> simp_all
 ·rfl
 ·rfl
theorem dX {body:(List AV→RM→Prop)→List AV→RM→Prop} {xs:List AV} {M:RM} (I:Nat→List AV→RM→Prop) (n:Nat) (h0:I n xs M)
  (hb:∀ (next:List AV→RM→Prop) m ys M',(∀ m' zs M'',m'<m→I m' zs M''→next zs M'')→I m ys M'→body next ys M') : gW body xs M :=
 ⟨I,n,h0,fun m ys M' hI=>hb _ m ys M' (fun m' zs M'' hlt h=>⟨m',hlt,h⟩) hI⟩
abbrev By (b:UInt8) : AV:=N .u8 (b.toNat:Int)
def BY:Enc UInt8:=⟨1,fun b=>[By b],fun _=>rfl,fun _=>rfl⟩
theorem IE (s:List UInt8) : BY.row s=s.map By:=by
 induction s with
 | nil=>rfl
 | cons b s ih=>rw[Enc.jM,ih]; rfl
def nC:Enc (List UInt8):=⟨1,fun s=>[St s],fun _=>rfl,fun _=>rfl⟩
theorem Lr (s:List (List UInt8)) : nC.row s=s.map (fun s=>St s):=by
 induction s with
 | nil=>rfl
 | cons b s ih=>rw[Enc.jM,ih]; rfl
def INT:Enc Int:=⟨1,fun n=>[N .i64 n],fun _=>rfl,fun _=>rfl⟩
theorem Ai:∀ (s:List UInt8),bS byteOf (s.map By)=some s
 | []=>rfl
 | b :: s=>by
   simp only[List.map_cons,bS,byteOf,Ai s]
   simp
section
variable {α:Type} {E:Enc α} {M M' : RM} {v:AV} {xs:List α}
theorem Sl.str {s:List UInt8} (h:Sl BY M v s) {K:AV→Prop} : oq M v K=K (St s) :=
 EZ (aP.sZ h (by rw[IE]; exact Ai s))
theorem Sl.Jd (h:Sl E M v xs) {i:Nat} (j:Int) (hi:i<xs.length) (hsz:E.size=1:=by rfl) (hj:j=(i:Int):=by rfl) :
  ∃ b o,b<M.next∧b∈az v∧(∀ (kd:IntKind) (K:AV→Prop),bD v (N kd j) 1 K=K (.ptr b o))∧∀ x,E.cells xs[i]=[x]→M.cell b o=some x:=by
 obtain⟨b,o,h1,h2,h3,h4⟩:=Sl.at h 1 j hi hsz hj
 exact⟨b,o,h1,h2,h3,fun x hx=>Be h4 (by rw[hx]; rfl)⟩
structure Rw (E:Enc α) (M:RM) (b:Nat) (opn:Bool) (el:Nat) (xs:List α) : Prop where
 heap:M.heap b=some (.row (E.row xs) opn el 0)
 lt:b<M.next
theorem Rw.sl {b el:Nat} {p:Bool} {cap:Cap} (h:Rw E M b p el xs) : Sl E M (.slc b 0 xs.length cap) xs:=by
 refine .slc _ _ _ _ _ h.lt ?_
 rw[RM.iV h.heap (by rw[E.dY]; omega),List.drop_zero,← E.dY,List.take_length]
theorem Rw.keep {b el:Nat} {p:Bool} {bs:List Nat} (h:Rw E M b p el xs) (hk:af bs M M') (hb:b ∉ bs) : Rw E M' b p el xs :=
 ⟨hk.bC h.heap h.lt hb,Nat.lt_of_lt_of_le h.lt hk.next⟩
theorem Rw.new {el:Nat} {p:Bool} (M:RM) (xs:List α) : Rw E (M.push (.row (E.row xs) p el 0)) M.next p el xs :=
 ⟨RM.bi _,by simp[RM.push]⟩
end
@[go_sem] theorem uq (el:Nat) (s:List UInt8) (K:RB→(Nat→AV)→Prop) : qW el (St s) K=K (.row (BY.row s) true el 0) (fun b=>.slc b 0 s.length (.op 1)):=by
 rw[IE]
 apply propext; unfold qW
 constructor
 ·rintro⟨s',h,hk⟩; cases h; exact hk
 ·intro hk; exact⟨s,rfl,hk⟩
def Ou (b:UInt8) : UInt8:=if 65≤b.toNat∧b.toNat≤90 then b + 32 else b
def low (s:List UInt8) : List UInt8:=s.map Ou
structure oM (n:Nat) (bs:List Nat) (M M' : RM) : Prop where
 base:M'.base=M.base
 next:M.next≤M'.next
 heap:∀ c,c<n→c ∉ bs→M'.heap c=M.heap c
theorem oM.refl (n:Nat) (bs:List Nat) (M:RM) : oM n bs M M:=⟨rfl,Nat.le_refl _,fun _ _ _=>rfl⟩
theorem oM.trans {n:Nat} {bs:List Nat} {M M1 M2:RM} (h:oM n bs M M1) (k:oM n bs M1 M2) : oM n bs M M2 :=
 ⟨k.base.trans h.base,Nat.le_trans h.next k.next,fun c h1 h2=>(k.heap c h1 h2).trans (h.heap c h1 h2)⟩
theorem af.to {bs cs:List Nat} {n:Nat} {M M' : RM} (h:af bs M M') (hn:n≤M.next) (hb:∀ b∈bs,n≤b∨b∈cs) : oM n cs M M' :=
 ⟨h.base,h.next,fun c h1 h2=>h.heap c (Nat.lt_of_lt_of_le h1 hn) (fun hm=>by rcases hb c hm with h3 | h3; omega; exact h2 h3)⟩
theorem Own.one {M:RM} {n el size n0:Nat} {v:AV} {cs:List AV} (h:Own M n0 el size v cs n) : oneCell v=true:=by
 cases h <;> rfl
def AR (B:Base) (c:ay) : Prop:=∀ {M:RM} {Q:aj},M.base=B→Q (Bo true) M→c [] M Q
theorem Own.cells {M:RM} {n el size n0:Nat} {v:AV} {cs:List AV} (h:Own M n0 el size v cs n) : v.cells=[v]:=by
 cases h <;> rfl
section
variable {P:Program} {ρ:Ren} {M:RM} {w w' : World}
theorem bK.below {base:Base} {A:AW} (h:bK P base ρ A w) (hb:Below w.heap.size w w') (hn:base.n≤w.heap.size) : bK P base ρ A w' where
 dom b i hbi:=⟨(h.dom b i hbi).1,Nat.lt_of_lt_of_le (h.dom b i hbi).2 hb.size⟩
 blk b i x hbi hx:=let ⟨o,ho,hr⟩:=h.blk b i x hbi hx; ⟨o,by rw[hb.block _ (h.dom b i hbi).2]; exact ho,hr⟩
 sep:=h.sep
 top:=h.top
 lo:=h.lo
 inv:=base.low w w' (fun c hc=>hb.block c (Nat.lt_of_lt_of_le hc hn)) h.inv
theorem Step.of_below {base n:Nat} (hb:Below w.heap.size w w') (hn:base≤w.heap.size) : Step base n ρ w ρ w' where
 os:=hb.os
 tape:=hb.tape
 output:=hb.output
 size:=hb.size
 frame c hc _:=hb.block c hc
 ext _ _:=rfl
 fresh b i h:=.inl ⟨b,i,h,rfl⟩
 low c hc:=hb.block c (Nat.lt_of_lt_of_le hc hn)
theorem After.below (h:bO P ρ M w) (hb:Below w.heap.size w w') : After P M ρ w M ρ w':=by
 obtain⟨A,hA⟩:=h
 refine fe hA (Step.of_below hb hA.size) (hA.rel.below hb hA.size) rfl hA.next (Nat.le_refl _) fun b x hx=>?_
 rcases hA.blk b x hx with h | ⟨c,rfl,_⟩
 ·exact .inl h
 ·exact .inr ⟨c,rfl,hx⟩
theorem dW.Ky {f:FuncId} {args:List AV} {v:AV} {Q:aj} (hP:BA P f)
  (h:∀ (ρ:Ren) (w:World) (us:List Value),aK ρ args us→bO P ρ M w→Calls P f ⟨us⟩ w fun e w'=>∃ v',e=.returned v'∧Below w.heap.size w w'∧aa ρ v v') (hQ:Q v M) : dW P f args M Q:=by
 refine⟨hP,fun ρ w us hargs hw=>(h ρ w us hargs hw).mono fun e w' hR=>?_⟩
 obtain⟨v',rfl,hb,hv⟩:=hR
 exact⟨v',v,M,ρ,rfl,After.below hw hb,hv,hQ⟩
end
structure pX (α:Type) where
 size:Nat
 rel:RM→List AV→α→(Nat→Prop)→Prop
 len:∀ {M cs a S},rel M cs a S→cs.length=size
 one:∀ {M cs a S},rel M cs a S→cs.all oneCell=true
 mono:∀ {M cs a S S'},rel M cs a S→(∀ b,S b→S' b)→rel M cs a S'
 lt:∀ {M cs a S},rel M cs a S→rel M cs a (fun b=>S b∧b<M.next)
 keep:∀ {M M' cs a S bs},rel M cs a S→af bs M M'→(∀ b∈bs,¬ S b)→rel M' cs a S
def Enc.zP {α:Type} (E:Enc α) : pX α where
 size:=E.size
 rel _ cs a _:=cs=E.cells a
 len h:=by subst h; exact E.len _
 one h:=by subst h; exact E.one _
 mono h _:=h
 lt h:=h
 keep h _ _:=h
inductive dx {α:Type} (R:pX α) (M:RM) (S:Nat→Prop) : List AV→List α→Prop
 | nil:dx R M S [] []
 | cons {cs ds:List AV} {a:α} {xs:List α} : R.rel M cs a S→dx R M S ds xs→dx R M S (cs++ds) (a :: xs)
section
variable {α:Type} {R:pX α} {M M' : RM} {S S' : Nat→Prop} {cs ds:List AV} {xs ys:List α} {a:α}
theorem dx.len (h:dx R M S cs xs) : cs.length=xs.length * R.size:=by
 induction h with
 | nil=>simp
 | cons h1 _ ih=>rw[List.length_append,R.len h1,ih,List.length_cons,Nat.succ_mul,Nat.add_comm]
theorem dx.one (h:dx R M S cs xs) : cs.all oneCell=true:=by
 induction h with
 | nil=>rfl
 | cons h1 _ ih=>rw[List.all_append,R.one h1,ih]; rfl
theorem dx.mono (h:dx R M S cs xs) (hs:∀ b,S b→S' b) : dx R M S' cs xs:=by
 induction h with
 | nil=>exact .nil
 | cons h1 _ ih=>exact .cons (R.mono h1 hs) ih
theorem dx.lt (h:dx R M S cs xs) : dx R M (fun b=>S b∧b<M.next) cs xs:=by
 induction h with
 | nil=>exact .nil
 | cons h1 _ ih=>exact .cons (R.lt h1) ih
theorem dx.keep {bs:List Nat} (h:dx R M S cs xs) (hk:af bs M M') (hb:∀ b∈bs,¬ S b) : dx R M' S cs xs:=by
 induction h with
 | nil=>exact .nil
 | cons h1 _ ih=>exact .cons (R.keep h1 hk hb) ih
theorem dx.append (h:dx R M S cs xs) (k:dx R M S ds ys) : dx R M S (cs++ds) (xs++ys):=by
 induction h with
 | nil=>exact k
 | cons h1 _ ih=>rw[List.append_assoc]; exact .cons h1 ih
theorem dx.single (h:R.rel M cs a S) : dx R M S cs [a]:=by
 have:=dx.cons h .nil
 simpa using this
theorem dx.get (h:dx R M S cs xs) : ∀ {i:Nat} (hi:i<xs.length),R.rel M ((cs.drop (i * R.size)).take R.size) xs[i] S:=by
 induction h with
 | nil=>intro i hi; simp at hi
 | cons h1 h2 ih =>
   rename_i c1 d1 a1 x1
   intro i hi
   cases i with
   | zero =>
     rw[Nat.zero_mul,List.drop_zero,List.take_append_of_le_length (by rw[R.len h1]; exact Nat.le_refl _),List.take_of_length_le (by rw[R.len h1]; exact Nat.le_refl _)]
     exact h1
   | succ i =>
     rw[Nat.succ_mul,Nat.add_comm,← List.drop_drop,List.drop_left' (R.len h1)]
     exact ih (by simpa using hi)
theorem dx.take (h:dx R M S cs xs) : ∀ (k:Nat),dx R M S (cs.take (k * R.size)) (xs.take k):=by
 induction h with
 | nil=>intro k; simp; exact .nil
 | cons h1 h2 ih =>
   intro k
   cases k with
   | zero=>simp; exact .nil
   | succ k =>
     rw[Nat.succ_mul,Nat.add_comm,List.take_append,List.take_of_length_le (by rw[R.len h1]; omega),R.len h1,Nat.add_sub_cancel_left]
     exact .cons h1 (ih k)
theorem dx.drop (h:dx R M S cs xs) : ∀ (k:Nat),dx R M S (cs.drop (k * R.size)) (xs.drop k):=by
 induction h with
 | nil=>intro k; simp; exact .nil
 | cons h1 h2 ih =>
   intro k
   cases k with
   | zero=>simp; exact .cons h1 h2
   | succ k =>
     rw[Nat.succ_mul,Nat.add_comm,← List.drop_drop,List.drop_left' (R.len h1)]
     exact ih k
theorem dx.cells {E:Enc α} : ∀ {cs:List AV} {xs:List α},dx E.zP M S cs xs→cs=E.row xs
 | _,_,.nil=>rfl
 | _,_,.cons h1 h2=>by rw[Enc.jM,dx.cells h2]; rw[show _=_ from h1]
def lI (R:pX α) (M:RM) (v:AV) (xs:List α) (S:Nat→Prop) : Prop :=
 ∃ cs,aP M R.size v cs xs.length∧(∀ b∈az v,S b)∧dx R M S cs xs
theorem aP.lt {size n:Nat} {v:AV} (h:aP M size v cs n) : ∀ b∈az v,b<M.next:=by
 cases h with
 | nil=>intro b hb; simp[az] at hb
 | emp=>intro b hb; simp[az] at hb
 | slc b o n cap cs hb _=>intro c hc; simp[az] at hc; omega
theorem aP.one {size n:Nat} {v:AV} (h:aP M size v cs n) : oneCell v=true:=by
 cases h <;> rfl
theorem aP.cells {size n:Nat} {v:AV} (h:aP M size v cs n) : v.cells=[v]:=by
 cases h <;> rfl
variable {v:AV}
theorem lI.mono (h:lI R M v xs S) (hs:∀ b,S b→S' b) : lI R M v xs S':=let ⟨cs,h1,h2,h3⟩:=h; ⟨cs,h1,fun b hb=>hs b (h2 b hb),h3.mono hs⟩
theorem lI.lt (h:lI R M v xs S) : lI R M v xs (fun b=>S b∧b<M.next):=let ⟨cs,h1,h2,h3⟩:=h; ⟨cs,h1,fun b hb=>⟨h2 b hb,h1.lt b hb⟩,h3.lt⟩
theorem lI.keep {bs:List Nat} (h:lI R M v xs S) (hk:af bs M M') (hb:∀ b∈bs,¬ S b) : lI R M' v xs S :=
 let ⟨cs,h1,h2,h3⟩:=h; ⟨cs,h1.keep hk (fun b hv hbs=>hb b hbs (h2 b hv)),h2,h3.keep hk hb⟩
theorem lI.len (h:lI R M v xs S) {K:AV→Prop} : cz v K=K (N .i64 xs.length):=let ⟨cs,h1,_,_⟩:=h; h1.len
theorem lI.one (h:lI R M v xs S) : oneCell v=true:=let ⟨cs,h1,_,_⟩:=h; h1.one
theorem lI.cells (h:lI R M v xs S) : v.cells=[v]:=let ⟨cs,h1,_,_⟩:=h; h1.cells
theorem lI.at (h:lI R M v xs S) {i:Nat} (sz:Nat) (j:Int) (hi:i<xs.length) (hsz:R.size=sz:=by rfl) (hj:j=(i:Int):=by rfl) :
  ∃ b o cs,b<M.next∧b∈az v∧(∀ (kd:IntKind) (K:AV→Prop),bD v (N kd j) sz K=K (.ptr b o))∧M.loads b o sz=some cs∧R.rel M cs xs[i] S:=by
 subst hsz hj
 obtain⟨cs,h1,h2,h3⟩:=h
 obtain⟨b,o,cap,rfl,hb,hl⟩:=h1.pos (by omega)
 have hsum:i * R.size + R.size≤xs.length * R.size:=by rw[← Nat.succ_mul]; exact Nat.mul_le_mul_right _ hi
 refine⟨b,o + i * R.size,(cs.drop (i * R.size)).take R.size,hb,by simp[az],fun kd K=>?_, ?_,h3.get hi⟩
 ·rw[zC]
  simp only[Int.toNat_natCast]
  exact propext ⟨fun h=>h.2.2,fun h=>⟨by omega,by omega,h⟩⟩
 ·rw[pV hl (i * R.size) R.size hsum]
def pX.slice (R:pX α) : pX (List α) where
 size:=1
 rel M cs xs S:=∃ v,cs=[v]∧lI R M v xs S
 len h:=by obtain⟨v,rfl,_⟩:=h; rfl
 one h:=by obtain⟨v,rfl,h⟩:=h; simp[h.one]
 mono h hs:=by obtain⟨v,rfl,h⟩:=h; exact⟨v,rfl,h.mono hs⟩
 lt h:=by obtain⟨v,rfl,h⟩:=h; exact⟨v,rfl,h.lt⟩
 keep h hk hb:=by obtain⟨v,rfl,h⟩:=h; exact⟨v,rfl,h.keep hk hb⟩
def kK (R:pX α) (M:RM) (base el:Nat) (v:AV) (xs:List α) (S:Nat→Prop) : Prop :=
 ∃ cs,Own M base el R.size v cs xs.length∧dx R M S cs xs
theorem kK.mono {base el:Nat} (h:kK R M base el v xs S) (hs:∀ b,S b→S' b) : kK R M base el v xs S':=let ⟨cs,h1,h2⟩:=h; ⟨cs,h1,h2.mono hs⟩
theorem kK.lt {base el:Nat} (h:kK R M base el v xs S) : kK R M base el v xs (fun b=>S b∧b<M.next):=let ⟨cs,h1,h2⟩:=h; ⟨cs,h1,h2.lt⟩
theorem kK.keep {base el:Nat} {bs:List Nat} (h:kK R M base el v xs S) (hk:af bs M M') (hb:∀ b∈bs,¬ S b) (hv:∀ b∈az v,b ∉ bs) : kK R M' base el v xs S :=
 let ⟨cs,h1,h2⟩:=h; ⟨cs,h1.keep hk hv,h2.keep hk hb⟩
theorem kK.len {base el:Nat} (h:kK R M base el v xs S) {K:AV→Prop} : cz v K=K (N .i64 xs.length):=let ⟨cs,h1,_⟩:=h; h1.jk.len
theorem kK.blk {base el:Nat} (h:kK R M base el v xs S) : ∀ b∈az v,base≤b∧b<M.next:=let ⟨cs,h1,_⟩:=h; h1.blk
theorem kK.cells {base el:Nat} (h:kK R M base el v xs S) : v.cells=[v]:=let ⟨cs,h1,_⟩:=h; h1.cells
theorem kK.one {base el:Nat} (h:kK R M base el v xs S) : oneCell v=true:=let ⟨cs,h1,_⟩:=h; h1.one
theorem kK.app {base T bytes:Nat} {zs:List AV} {K:aj} (ho:kK R M base T v xs S) (ha:R.rel M cs a S) (hb:base≤M.next) (hs:1≤R.size)
  (hd:∀ b∈az v,¬ S b) (hS:∀ b,S b→b<M.next)
  (hn:(xs.length + 1) * bytes≤140737488355328) (hn2:xs.length + 1≤140737488355328)
  (hK:∀ v' M',kK R M' base T v' (xs++[a]) S→af (az v) M M'→M.next≤M'.next→(v'=v∨∀ b∈az v',M.next≤b)→(∀ b∈az v',¬ S b)→K v' M') :
  appW T R.size bytes zs false v (.slc M.next 0 1 (.ex 1)) (M.push (.row cs false T 0)) K:=by
 obtain⟨ds,h1,h2⟩:=ho
 have hk:af [] M (M.push (.row cs false T 0)):=(af.refl _ _).push _
 have hl:=R.len ha
 have hnl:mV (M.push (.row cs false T 0)) R.size zs false (.slc M.next 0 1 (.ex 1))=some (1,cs):=by
  simp only[mV,Nat.one_mul]
  rw[RM.iV (RM.bi _) (by omega),List.drop_zero,← hl,List.take_length]
 refine BO (h1.keep hk (by simp)) (Nat.le_trans hb hk.next) hs hnl (by rw[hl,Nat.one_mul]) (R.one ha) hn hn2 ?_
 intro v' M' q1 q2 q3 q4
 have kk:af (az v) M M':=(hk.mono (by simp)).trans q2
 refine hK v' M' ⟨_,by simpa using q1, ?_⟩ kk (Nat.le_trans hk.next q3) (q4.imp id fun h b hb=>Nat.le_trans hk.next (h b hb)) ?_
 ·exact(h2.keep kk hd).append (dx.single (R.keep ha kk hd))
 ·rcases q4 with rfl | q4
  ·exact hd
  ·intro b hb hSb
   have:=q4 b hb
   have:=hS b hSb
   simp only[RM.push] at *
   omega
end
section
variable {M M' : RM} {b i n e f:Nat} {l:List AV} {p:Bool} {x:AV}
theorem ag {K:AV→Prop} (h:M.heap b=some (.row l p e f)) (hx:l[i]?=some x) : ai M (.ptr b i) K=K x:=by
 rw[iT,RM.cell_of h,hx]; simp
theorem lS {K:AV→Prop} (h:M.heap b=some (.row l p e f)) (hn:l.length=n) : fP M (.ptr b 0) n K=K (.agg l):=by
 rw[mF,RM.rC h]
 have:kW (some l) 0 n=some l:=by simp[kW,← hn]
 rw[this]; simp
theorem Ce {K:RM→Prop} (h:M.heap b=some (.row l p e 0)) (hi:i<l.length) (hc:x.cells=[x]) (h1:oneCell x=true) : aW M (.ptr b i) x 1 K=K (M.put b (.row (l.set i x) p e 0)):=by
 rw[Aw,hc,RM.uz h,oK (by simp only[List.length_cons,List.length_nil]; omega) (Nat.zero_le _) (by simp[h1])]
 have:l.take i++[x]++l.drop (i + 1)=l.set i x:=by
  rw[List.set_eq_take_append_cons_drop,if_pos hi]; simp
 simp[this]
theorem bA {K:RM→Prop} (l' : List AV) (h:M.heap b=some (.row l p e 0)) (hi:i<l.length) (hc:x.cells=[x]) (h1:oneCell x=true) (hl:l.set i x=l') : aW M (.ptr b i) x 1 K=K (M.put b (.row l' p e 0)):=by
 rw[Ce h hi hc h1,hl]
theorem kZ {K:RM→Prop} (h:M.heap b=some (.row l p e 0)) (hn:x.cells.length=n) (hl:l.length=n) (h1:x.cells.all oneCell=true) : aW M (.ptr b 0) x n K=K (M.put b (.row x.cells p e 0)):=by
 rw[Aw,RM.uz h,CO (by rw[hn,hl]) h1]
 simp[hn]
theorem wV {c:Nat} {y z:RB} (h:M.heap b=some y) (hb:b≠c) : (M.put c z).heap b=some y:=by
 simp only[RM.put]; rw[if_neg hb]; exact h
theorem aZ (y:RB) : (M.put b y).heap b=some y:=RM.Ew _ _
theorem oU {y z:RB} (h:M.heap b=some y) (hb:b<M.next) : (M.push z).heap b=some y:=by
 simp only[RM.push]; rw[if_neg (by omega)]; exact h
theorem aU (y:RB) : (M.push y).next=M.next + 1:=rfl
theorem EF (c:Nat) (y:RB) : (M.put c y).next=M.next:=rfl
theorem af.new {bs:List Nat} (h:af bs M M') {b:Nat} (y:RB) (hb:M.next≤b) : af bs M (M'.put b y):=h.put y (.inl hb)
end
variable {M:RM}
theorem mq {a:AV} {l:List AV} {K:AV→Prop} : gZ (.tup (a :: l)) 0 K=K a:=by rw[Ej]; simp
theorem nO {a b:AV} {l:List AV} {K:AV→Prop} : gZ (.tup (a :: b :: l)) 1 K=K b:=by rw[Ej]; simp
theorem jd {p q:Prop} : aM (Bo true) p q=p:=by simp[Dt]
theorem fE {p q:Prop} : aM (Bo false) p q=q:=by simp[Dt]
theorem bN {b:Bool} {p q:Prop} (h1:b=true→p) (h2:b=false→q) : aM (Bo b) p q:=⟨h1,h2⟩
theorem uV {f g:aj→Prop} {k:aj} : ak (Bo true) true f g k=f k:=rfl
theorem kP {f g:aj→Prop} {k:aj} : ak (Bo false) false f g k=f k:=rfl
theorem uI {f g:aj→Prop} {k:aj} : ak (Bo true) false f g k=g k:=rfl
theorem u7 {f g:aj→Prop} {k:aj} : ak (Bo false) true f g k=g k:=rfl
theorem kQ {f g:KR→Prop} {k:KR} : aQ (Bo false) false f g k=f k:=rfl
theorem JO {w:Bool} {f g:aj→Prop} {k:aj} : ak .undef w f g k=g k:=rfl
theorem Ah {a b:AV} {K:AV→Prop} : bg (Bo true) a b K=K a:=by rw[Er]; rfl
theorem bF {a b:AV} {K:AV→Prop} : bg (Bo false) a b K=K b:=by rw[Er]; rfl
theorem aP.known {size:Nat} {v:AV} {cs:List AV} {n:Nat} (h:aP M size v cs n) : known v=true:=by
 cases h <;> rfl
theorem kF {t:TypeId} {cs:List AV} {K:RB→(Nat→AV)→Prop} (h1:cs.all oneCell=true) (h2:1≤cs.length) : ny t (.agg cs) K=K (.row cs false t 0) (fun b=>.ptr b 0):=by
 unfold ny
 exact propext ⟨fun h=>h.2.2,fun h=>⟨h1,h2,h⟩⟩
def pX.post {α β:Type} (R:pX α) (E:Enc β) : pX (α × β) where
 size:=R.size + E.size
 rel M cs a S:=∃ ds,cs=ds++E.cells a.2∧R.rel M ds a.1 S
 len h:=by obtain⟨ds,rfl,h⟩:=h; rw[List.length_append,E.len,R.len h]
 one h:=by obtain⟨ds,rfl,h⟩:=h; rw[List.all_append,E.one,R.one h]; rfl
 mono h hs:=by obtain⟨ds,rfl,h⟩:=h; exact⟨ds,rfl,R.mono h hs⟩
 lt h:=by obtain⟨ds,rfl,h⟩:=h; exact⟨ds,rfl,R.lt h⟩
 keep h hk hb:=by obtain⟨ds,rfl,h⟩:=h; exact⟨ds,rfl,R.keep h hk hb⟩
def pX.map {α β:Type} (R:pX α) (g:β→α) : pX β where
 size:=R.size
 rel M cs a S:=R.rel M cs (g a) S
 len h:=R.len h
 one h:=R.one h
 mono h hs:=R.mono h hs
 lt h:=R.lt h
 keep h hk hb:=R.keep h hk hb
end Go.Ab
namespace Go.Ab
open Go Go.RowKit Go.ChangeShapes
section
variable {H:Type} {enc:TypeId × Value→H} {P:Program} {w:World} {base:Nat} {spare:Nat→Bool} {held:Bool}
end
end Go.Ab
set_option maxRecDepth 10000
namespace Go.Ab
open Go Go.ChangeShapes
end Go.Ab
namespace Go.Ab
open Go Go.RowKit
section
variable {P:Program} {f:FuncId} {fn:Func} {w w' : World} {M:RM}
theorem vC {args:Array Value} {s:Array Value→Sem Value} {v:Value} (hf:P.funcs[f]?=some fn) (hng:fn.name ≠ "runtime.NumGoroutine") (hb:fn.body=none)
  (h1:Extern.findNext fn=none) (h2:Extern.find fn=some s) (h3:(s args).run P w=.ok v w') : (callFunc f args).run P w=.ok (.value v) w':=by
 have zD:(fn.name == "runtime.NumGoroutine")=false:=by simpa using hng
 simp only[callFunc,Sem.run_bind,run_program,Result.andThen_ok,hf,zD,Bool.false_eq_true,if_false,hb,Option.isNone_none,if_true,mark,Sem.run,h1,h2,h3,Sem.run_pure]
theorem xK {a:Addr} {n:Int} (h:w.cell? a=some (.int .i64 n)) : (Extern.Atomic.read (.int .i64) a).run P w=.ok (.int .i64 n) w:=by
 have:(load a .atomic).run P w=.ok (.int .i64 n) w:=by simp[load,Sem.run,h]
 unfold Extern.Atomic.read
 simp only[Sem.run_bind,this,Result.andThen_ok,if_true,Sem.run_pure]
theorem Eh {a:Addr} {v u:Value} (hc:w.cell? a=some u) (h:(storeCells a [v]).run P w=.ok () w') : (store a v .atomic).run P w=.ok () w':=by
 have he:(store a v .atomic).run P w=(store a v).run P w:=by
  cases v <;> simp only[store,Sem.run,hc]
 rw[he]
 have h0:a.add 0=a:=by simp[Addr.add]
 unfold storeCells at h
 rw[h0,Sem.run_bind] at h
 revert h
 cases(store a v).run P w with
 | ok x w1=>intro h; exact h
 | halt _ _=>intro h; cases h
theorem zA (hf:P.funcs[f]?=some fn) (hng:fn.name ≠ "runtime.NumGoroutine") (hb:fn.body=none) (h1:Extern.findNext fn=none) (h2:Extern.find fn=some (Extern.Atomic.update (Op.intArith .add) .i64 true))
  {b o el:Nat} {l:List AV} {opn:Bool} {x y:Int} (hh:M.heap b=some (.row l opn el 0)) (hl:l[o]?=some (N .i64 x)) :
  Bj P f [.ptr b o,N .i64 y] M (N .i64 (IntKind.wrap .i64 (x + y))) (M.put b (.row (l.set o (N .i64 (IntKind.wrap .i64 (x + y)))) opn el 0)):=by
 intro ρ w us hus hw
 cases hus with
 | cons _ u1 _ us r1 hus =>
 cases hus with
 | cons _ u2 _ us r2 hus =>
 cases hus
 obtain⟨rfl,_⟩:=aF r2
 obtain⟨i,hb',hc⟩:=bL r1
 have hlt:=(List.getElem?_eq_some_iff.1 hl).1
 have hld:M.loads b o 1=some [N .i64 x]:=by
  rw[RM.rC hh]
  have:=(List.getElem?_eq_some_iff.1 hl).2
  simp only[kW]
  rw[if_pos (by omega),List.drop_eq_getElem_cons hlt,this]; rfl
 obtain⟨u,hu,hcell⟩:=mD hw hb' hld
 obtain⟨rfl,_⟩:=aF hu
 have hst:M.stores b o [N .i64 (IntKind.wrap .i64 (x + y))]=some (M.put b (.row (l.set o (N .i64 (IntKind.wrap .i64 (x + y)))) opn el 0)):=by
  rw[RM.uz hh,oK (by simp; omega) (Nat.zero_le _) rfl]
  have:l.take o++[N .i64 (IntKind.wrap .i64 (x + y))]++l.drop (o + 1)=l.set o (N .i64 (IntKind.wrap .i64 (x + y))):=by
   rw[List.set_eq_take_append_cons_drop,if_pos hlt]; simp
  simp[this]
 obtain⟨w1,hrun,haf⟩:=wB hw hb' (vs:=[.int .i64 (IntKind.wrap .i64 (x + y))]) (.cons _ _ _ _ (.sc _ rfl) .nil) hst
 refine⟨ρ,w1,.int .i64 (IntKind.wrap .i64 (x + y)),vC hf hng hb h1 h2 ?_,haf,.sc _ rfl⟩
 have hs:=Eh hcell (hrun _ rfl)
 rw[hc]
 show((asAddr (.pointer (some ⟨i.cb,i.sh + o,none⟩)) >>= fun a=>Extern.Atomic.read (.int .i64) a >>= fun old=>asInt old >>= fun p=>asInt (.int .i64 y) >>= fun q=>Op.intArith .add .i64 p q >>= fun new=>store a new .atomic >>= fun _=>pure new) : Sem Value).run P w=_
 simp only[asAddr,Sem.run_bind,Sem.run_pure,Result.andThen_ok,xK hcell,asInt,asIntOf,Op.intArith,hs]
theorem wO (hf:P.funcs[f]?=some fn) (hng:fn.name ≠ "runtime.NumGoroutine") (hb:fn.body=none) (h1:Extern.findNext fn=none) (h2:Extern.find fn=some (Extern.Atomic.loadT (.int .i64)))
  {b o el fz:Nat} {l:List AV} {opn:Bool} {x:Int} (hh:M.heap b=some (.row l opn el fz)) (hl:l[o]?=some (N .i64 x)) :
  FP P f [.ptr b o] M (N .i64 x):=by
 intro ρ w us hus hw
 cases hus with
 | cons _ u1 _ us r1 hus =>
 cases hus
 obtain⟨i,hb',hc⟩:=bL r1
 have hlt:=(List.getElem?_eq_some_iff.1 hl).1
 have hld:M.loads b o 1=some [N .i64 x]:=by
  rw[RM.rC hh]
  have:=(List.getElem?_eq_some_iff.1 hl).2
  simp only[kW]
  rw[if_pos (by omega),List.drop_eq_getElem_cons hlt,this]; rfl
 obtain⟨u,hu,hcell⟩:=mD hw hb' hld
 obtain⟨rfl,_⟩:=aF hu
 refine⟨.int .i64 x,vC hf hng hb h1 h2 ?_,.sc _ rfl⟩
 rw[hc]
 show((asAddr (.pointer (some ⟨i.cb,i.sh + o,none⟩)) >>= fun a=>Extern.Atomic.read (.int .i64) a) : Sem Value).run P w=_
 simp only[asAddr,Sem.run_bind,Sem.run_pure,Result.andThen_ok,xK hcell]
theorem yB (hf:P.funcs[f]?=some fn) (hng:fn.name ≠ "runtime.NumGoroutine") (hb:fn.body=none) (h1:Extern.findNext fn=none) (h2:Extern.find fn=some Extern.MapsClone.clone)
  {t b cl:Nat} {es:List (AV × AV × Nat)} (hh:M.heap b=some (.map es cl)) :
  Bj P f [.ifc t (.map b)] M (.ifc t (.map M.next)) (M.push (.map es cl)):=by
 intro ρ w us hus hw
 cases hus with
 | cons _ u1 _ us r1 hus =>
 cases hus
 cases r1 with
 | ifc _ _ v' hv =>
 obtain⟨A,hA⟩:=hw
 cases hv with
 | map _ i hbi =>
 obtain⟨fs,hob,hfs⟩:=qY hA hbi hh
 have hnew:ρ A.next=none:=hA.rel.fresh (Nat.le_refl _)
 have hle:ρ.le (ρ.add A.next ⟨w.heap.size,0,0,0⟩):=Ren.mE hnew
 obtain⟨q1,q2⟩:=pU hA.rel (Nat.le_trans (show M.base.n≤M.lo from Nat.le_refl _) hA.size) (x:=.map es cl) (ob:=.map fs cl) (i:=⟨w.heap.size,0,0,0⟩) rfl
  ⟨fs,rfl,hfs.mono hle⟩
 obtain⟨k1,k2,k3⟩:=RM.oL hA (x:=.map es cl) (y:=.map es cl) ⟨rfl,rfl⟩
 have hget:(getObj i.cb).run P w=.ok (.map fs cl) w:=by simp[getObj,Sem.run,hob]
 refine⟨_,w.alloc (.map fs cl),.iface t (.map (some w.heap.size)),vC hf hng hb h1 h2 ?_,fe hA q2 q1 k1 k2 (by simp[AW.push]) k3,.ifc _ _ _ ?_⟩
 ·show((getObj i.cb >>= fun o=>_) : Sem Value).run P w=_
  simp only[Sem.run_bind,hget,Result.andThen_ok]
  rfl
 ·exact .map _ ⟨w.heap.size,0,0,0⟩ (by rw[← hA.next]; simp[Ren.add])
end
end Go.Ab
set_option maxRecDepth 100000
namespace Go.Ab.Dot
open Go Go.Ab
def EB (p1:Nat) (a0:AV) (M0:RM) (Q:aj) : Prop :=
 cO false 2 a0 (.sc (.slice none 0 0)) fun h =>
 aM h (
 Q (.sc (.slice none 0 0)) M0) (
 dL p1 0 [(N .u8 0)] [] fun g e =>
 cK g e M0 fun i c =>
 appW p1 1 1 [(N .u8 0)] false i a0 c fun j d =>
 Q j d)
theorem Jg {T size bytes:Nat} {zs:List AV} {M0:RM} {a0:AV} {cs:List AV} {n:Nat} (h:aP M0 size a0 cs n) (h1:cs.all oneCell=true) (hs:1≤size) (hn:n * bytes≤140737488355328) (hn2:n≤140737488355328) {Q:aj}
  (hQ:∀ v M',Own M' M0.next T size v cs n→af [] M0 M'→Q v M') :
  cO false 2 a0 aR fun t4=>aM t4 (Q aR M0) (dL T 0 zs [] fun r f=>cK r f M0 fun t5 M=>appW T size bytes zs false t5 a0 M fun t7 M_0=>Q t7 M_0):=by
 rcases h.vM false with⟨rfl,e⟩ | ⟨hne,e⟩
 ·rw[e]
  cases h
  exact⟨fun _=>hQ _ _ .nil (af.refl _ _),fun h=>by simp at h⟩
 ·rw[e]
  refine⟨fun h=>by simp at h,fun _=>⟨[],rfl, ?_⟩⟩
  have hk:af [] M0 (M0.push (.row [] false T 0)):=(af.refl _ _).push _
  refine BO (base:=M0.next) (Own.lit M0 (Nat.le_refl _)) (by simp[RM.push]) hs ((h.keep hk (by simp)).mV _) h.length h1 (by rw[Nat.zero_add]; exact hn) (by omega) ?_
  intro v' M' ho hk' hnx hv
  exact hQ v' M' (by simpa using ho) (hk.dG hk' (by simp[az]))
def Mj (T size bytes:Nat) (c:ay) : Prop:=∀ {M0:RM} {a0:AV} {cs:List AV} {n:Nat},aP M0 size a0 cs n→cs.all oneCell=true→n * bytes≤140737488355328→n≤140737488355328→∀ {Q:aj},
 (∀ v M',Own M' M0.next T size v cs n→af [] M0 M'→Q v M')→c [a0] M0 Q
end Go.Ab.Dot
set_option maxRecDepth 10000
namespace Go.Ab.Dk
open Go Go.Ab
def KN (f:(List AV→RM→Prop)→Prop) (g:List AV→RM→Prop) : Prop:=f g
theorem nU (f:(List AV→RM→Prop)→Prop) (g:List AV→RM→Prop) : lu f g=KN f g:=rfl
theorem iY {H:(List AV→RM→Prop)→Prop} {G:List AV→RM→Prop} (P:List AV→RM→Prop) (hT:∀ xs M,P xs M→G xs M)
  (hH:∀ J:List AV→RM→Prop,(∀ xs M,P xs M→J xs M)→H J) : KN H G:=hH G hT
section
variable {i j:Nat} {K:AV→Prop}
theorem addN (h:i + j<4611686018427387904) : ax .add (N .i64 (i:Int)) (N .i64 (j:Int)) K=K (N .i64 ((i + j:Nat) : Int)):=by
 rw[oQ,jv (by omega) (by omega),Int.natCast_add]
theorem add1 (h:i<4611686018427387904) : ax .add (N .i64 (i:Int)) (N .i64 1) K=K (N .i64 ((i + 1:Nat) : Int)):=by
 rw[oQ,JU (by omega)]
theorem JM (h:j≤i) (hb:i<4611686018427387904) : ax .sub (N .i64 (i:Int)) (N .i64 (j:Int)) K=K (N .i64 ((i - j:Nat) : Int)):=by
 rw[yX,jv (by omega) (by omega),show(i:Int) - (j:Int)=((i - j:Nat) : Int) by omega]
theorem l9:ax .lss (N .i64 (i:Int)) (N .i64 (j:Int)) K=K (Bo (decide (i<j))):=by rw[dN,show decide ((i:Int)<(j:Int))=decide (i<j) by simp]
theorem Pm:ax .gtr (N .i64 (i:Int)) (N .i64 (j:Int)) K=K (Bo (decide (i > j))):=by rw[yS,show decide ((i:Int) > (j:Int))=decide (i > j) by simp]
theorem Mi:ax .leq (N .i64 (i:Int)) (N .i64 (j:Int)) K=K (Bo (decide (i≤j))):=by rw[yU,show decide ((i:Int)≤(j:Int))=decide (i≤j) by simp]
theorem J3:ax .geq (N .i64 (i:Int)) (N .i64 (j:Int)) K=K (Bo (decide (i ≥ j))):=by rw[pI,show decide ((i:Int) ≥ (j:Int))=decide (i ≥ j) by simp]
theorem Kn:ax .eql (N .i64 (i:Int)) (N .i64 (j:Int)) K=K (Bo (decide (i=j))):=by
 rw[bz,show((i:Int) == (j:Int))=decide (i=j) by by_cases h:i=j <;> simp[h]; omega]
end
section
variable {M:RM} {c p:Bool} {f:aj→Prop} {P:RM→Prop} {G:AV→RM→Prop}
theorem fo (hf:c=true→∀ k:aj,k (Bo p) M→f k) (hG:G (Bo (c && p)) M) :
  ak (Bo c) true f (fun k=>k .undef M) (fun t M'=>bg (Bo c) t (Bo false) fun u=>G u M'):=by
 cases c with
 | false=>rw[u7]; dsimp only; rw[bF]; exact hG
 | true=>rw[uV]; exact hf rfl _ (by rw[Ah]; exact hG)
theorem yY (hf:c=false→∀ k:aj,k (Bo p) M→f k) (hG:G (Bo (c || p)) M) :
  ak (Bo c) false f (fun k=>k .undef M) (fun t M'=>bg (Bo c) (Bo true) t fun u=>G u M'):=by
 cases c with
 | true=>rw[uI]; dsimp only; rw[Ah]; exact hG
 | false=>rw[kP]; exact hf rfl _ (by rw[bF]; exact hG)
theorem NK (h0:P M) (hf:c=true→∀ k:aj,(∀ M',P M'→k (Bo p) M')→f k) (hG:∀ M',P M'→G (Bo (c && p)) M') :
  ak (Bo c) true f (fun k=>k .undef M) (fun t M'=>bg (Bo c) t (Bo false) fun u=>G u M'):=by
 cases c with
 | false=>rw[u7]; dsimp only; rw[bF]; exact hG M h0
 | true=>rw[uV]; exact hf rfl _ fun M' h=>by rw[Ah]; exact hG M' h
end
abbrev Nm:=List UInt8
abbrev Dir:=List (Nm × Nat)
def dB:Dir→Nm→Option Nat
 | [],_=>none
 | e :: l,n=>if n=e.1 then some e.2 else dB l n
def fO:Dir→Nm→Dir
 | [],_=>[]
 | e :: l,n=>if n=e.1 then l else e :: fO l n
def jD:Dir→Nm→Nat→Dir
 | [],n,f=>[(n,f)]
 | e :: l,n,f=>if n=e.1 then(n,f) :: l else e :: jD l n f
abbrev iC:=Nm × Option Nat × Nm
def fB (l:Dir) (c:iC) : Dir :=
 let l1:=if c.2.2≠[] then fO l c.2.2 else l
 match c.2.1 with
 | some f=>jD l1 c.1 f
 | none=>l1
abbrev fT:=List UInt8 × Nat
structure aT where
 files:List fT
 dir:Dir
 aS:Dir
 chg:List iC
 aJ:Int
 app:Int
 syn:Int
 deriving DecidableEq
inductive Tag where
 | disk | names | safe | chg | file (i:Nat) | bytes (i:Nat)
 deriving DecidableEq
abbrev aH:=Nat→Option Tag
def upd (own:aH) (b:Nat) (t:Tag) : aH:=fun c=>if c=b then some t else own c
theorem mP {own:aH} {b:Nat} {t:Tag} : upd own b t b=some t:=by simp[upd]
theorem upd_ne {own:aH} {b c:Nat} {t:Tag} (h:c≠b) : upd own b t c=own c:=by simp[upd,h]
def dS (fbs:List Nat) (cl:Nat) : Nat→List (AV × AV × Nat)→Dir→Prop
 | _,[],[]=>True
 | lo,e :: es,d :: ds=>e.1=St d.1∧(∃ b,fbs[d.2]?=some b∧e.2.1=.ptr b 0)∧lo≤e.2.2∧e.2.2<cl∧dS fbs cl (e.2.2 + 1) es ds
 | _,_,_=>False
variable {fbs gbs:List Nat} {cl lo:Nat} {es:List (AV × AV × Nat)} {d:Dir}
theorem dS.len:∀ {es:List (AV × AV × Nat)} {d:Dir} {lo:Nat},dS fbs cl lo es d→es.length=d.length
 | [],[],_,_=>rfl
 | _ :: es,_ :: d,_,h=>by simp only[List.length_cons]; rw[h.2.2.2.2.len]
theorem dS.grow (hg:∀ i b:Nat,fbs[i]?=some b→gbs[i]?=some b) {cl' : Nat} (hc:cl≤cl') : ∀ {es:List (AV × AV × Nat)} {d:Dir} {lo lo' : Nat},lo'≤lo→dS fbs cl lo es d→dS gbs cl' lo' es d
 | [],[],_,_,_,_=>trivial
 | _ :: es,_ :: d,_,_,hl,⟨h1,⟨b,h2,h3⟩,h4,h5,h6⟩=>⟨h1,⟨b,hg _ _ h2,h3⟩,Nat.le_trans hl h4,Nat.lt_of_lt_of_le h5 hc,h6.grow hg hc (Nat.le_refl _)⟩
theorem dS.snoc {s:Nm} {f b:Nat} (hf:fbs[f]?=some b) : ∀ {es:List (AV × AV × Nat)} {d:Dir} {lo:Nat},lo≤cl→dS fbs cl lo es d→dS fbs (cl + 1) lo (es++[(St s,.ptr b 0,cl)]) (d++[(s,f)])
 | [],[],_,hl,_=>⟨rfl,⟨b,hf,rfl⟩,hl,Nat.lt_succ_self _,trivial⟩
 | _ :: es,_ :: d,_,hl,⟨h1,h2,h4,h5,h6⟩=>⟨h1,h2,h4,Nat.lt_succ_of_lt h5,h6.snoc hf h5⟩
theorem xX {s:Nm} : ∀ {d:Dir},dB d s=none→fO d s=d∧∀ f,jD d s f=d++[(s,f)]
 | [],_=>⟨rfl,fun _=>rfl⟩
 | e :: d,h=>by
   unfold dB at h
   by_cases hs:s=e.1
   ·rw[if_pos hs] at h; cases h
   ·rw[if_neg hs] at h
    obtain⟨h1,h2⟩:=xX h
    simp only[fO,jD,if_neg hs,h1,h2,List.cons_append,true_and,implies_true]
theorem qd (s:Nm) : ∀ {es:List (AV × AV × Nat)} {d:Dir} {lo:Nat} (i:Nat),dS fbs cl lo es d →
  (jG false [2] [St s] es i=some none∧dB d s=none) ∨
  ∃ j f b,jG false [2] [St s] es i=some (some (i + j,.ptr b 0))∧dB d s=some f∧fbs[f]?=some b∧dS fbs cl lo (es.eraseIdx j) (fO d s) ∧
    ∀ g c,fbs[g]?=some c→dS fbs cl lo (A9 (St s) (.ptr c 0) es j) (jD d s g)
 | [],[],_,i,_=>.inl ⟨rfl,rfl⟩
 | (k,v,n) :: es,(s',f) :: d,lo,i,⟨h1,⟨b,h2,h3⟩,h4,h5,h6⟩=>by
   simp only at h1 h2 h3 h4 h5 h6
   subst h1 h3
   simp only[jG,dM,dB,fO,jD]
   rw[if_pos (by rfl),Ht]
   by_cases hs:s=s'
   ·subst hs
    simp only[if_true,Hr]
    refine .inr ⟨0,f,b,rfl,rfl,h2, ?_, ?_⟩
    ·exact h6.grow (fun _ _ h=>h) (Nat.le_refl _) (by omega)
    ·intro g c hg
     exact⟨rfl,⟨c,hg,rfl⟩,h4,h5,h6⟩
   ·simp only[if_neg hs]
    rcases qd s (i + 1) h6 with⟨a1,a2⟩ | ⟨j,f',b',a1,a2,a3,a4,a5⟩
    ·exact .inl ⟨a1,a2⟩
    ·refine .inr ⟨j + 1,f',b', ?_,a2,a3, ?_, ?_⟩
     ·rw[a1]; congr 3; omega
     ·exact⟨rfl,⟨b,h2,rfl⟩,h4,h5,a4⟩
     ·intro g c hg
      exact⟨rfl,⟨b,h2,rfl⟩,h4,h5,a5 g c hg⟩
structure MapAt (own:aH) (M:RM) (fbs:List Nat) (m:Nat) (d:Dir) (t:Tag) : Prop where
 tg:own m=some t
 lt:m<M.next
 heap:∃ es cl,M.heap m=some (.map es cl)∧dS fbs cl 0 es d
inductive FB (M:RM) (TU:Nat) : AV→List UInt8→Prop
 | nil:FB M TU aR []
 | op (b:Nat) (xs:List UInt8) : b<M.next→M.heap b=some (.row (BY.row xs) true TU 0)→FB M TU (.slc b 0 xs.length (.op 1)) xs
 | ex (b o n:Nat) (xs:List UInt8) : b<M.next→M.loads b o n=some (BY.row xs)→xs.length=n→FB M TU (.slc b o n (.ex n)) xs
structure jO (TF TU:Nat) (own:aH) (M:RM) (fbs:List Nat) (i b:Nat) (v:AV) (f:fT) : Prop where
 at_:fbs[i]?=some b
 lt:b<M.next
 tg:own b=some (.file i)
 heap:M.heap b=some (.row [v,N .i64 (f.2:Int)] false TF 0)
 fb:FB M TU v f.1
 le:f.2≤f.1.length
 blk:∀ c∈az v,own c=some (.bytes i)
structure iM (TF TU:Nat) (own:aH) (M:RM) (fbs:List Nat) (fs:List fT) : Prop where
 len:fbs.length=fs.length
 file:∀ i f,fs[i]?=some f→∃ b v,jO TF TU own M fbs i b v f
def eO:Enc (Nm × Option Nat × Nm):=⟨3,fun c=>[St c.1,(match c.2.1 with | some b=>.ptr b 0 | none=>.sc (.pointer none)),St c.2.2],fun _=>rfl,fun c=>by obtain⟨a,_ | b,g⟩:=c <;> rfl⟩
def dZ (fbs:List Nat) (c:iC) : Nm × Option Nat × Nm:=(c.1,c.2.1.bind (fbs[·]?),c.2.2)
structure kV (TC:Nat) (own:aH) (M:RM) (fbs:List Nat) (v:AV) (cs:List iC) : Prop where
 ow:Ow eO M 0 TC v (cs.map (dZ fbs))
 blk:∀ b∈az v,own b=some .chg
 wf:∀ c∈cs,∀ f,c.2.1=some f→f<fbs.length
variable {own own' : aH} {M M' : RM} {bs:List Nat} {m:Nat} {t:Tag}
theorem MapAt.step (h:MapAt own M fbs m d t) (hk:af bs M M') (hb:∀ b∈bs,own b≠some t) (ho:∀ b,own b=some t→own' b=some t) : MapAt own' M' fbs m d t :=
 ⟨ho _ h.tg,Nat.lt_of_lt_of_le h.lt hk.next,let ⟨es,cl,h1,h2⟩:=h.heap; ⟨es,cl,hk.bC h1 h.lt (fun hm=>hb _ hm h.tg),h2⟩⟩
theorem MapAt.grow (h:MapAt own M fbs m d t) (hg:∀ i b:Nat,fbs[i]?=some b→gbs[i]?=some b) : MapAt own M gbs m d t :=
 ⟨h.tg,h.lt,let ⟨es,cl,h1,h2⟩:=h.heap; ⟨es,cl,h1,h2.grow hg (Nat.le_refl _) (Nat.le_refl _)⟩⟩
theorem FB.Mo {TU:Nat} {v:AV} {xs:List UInt8} (h:FB M TU v xs) : ∀ c∈az v,c<M.next:=by
 cases h with
 | nil=>simp[az]
 | op b xs hb hh=>simp[az,hb]
 | ex b o n xs hb hh=>simp[az,hb]
theorem FB.keep {TU:Nat} {v:AV} {xs:List UInt8} (h:FB M TU v xs) (hk:af bs M M') (hb:∀ b∈az v,b ∉ bs) : FB M' TU v xs:=by
 cases h with
 | nil=>exact .nil
 | op b xs hl hh=>exact .op b xs (Nat.lt_of_lt_of_le hl hk.next) (hk.bC hh hl (hb b (by simp[az])))
 | ex b o n xs hl hh h2=>exact .ex b o n xs (Nat.lt_of_lt_of_le hl hk.next) ((hk.loads hl (hb b (by simp[az]))).trans hh) h2
theorem FB.sl {TU:Nat} {v:AV} {xs:List UInt8} (h:FB M TU v xs) : Sl BY M v xs:=by
 cases h with
 | nil=>exact .nil
 | op b xs hl hh=>exact Rw.sl ⟨hh,hl⟩
 | ex b o n xs hl hh h2 =>
   subst h2
   refine .slc _ _ _ _ _ hl ?_
   show M.loads b o (xs.length * 1)=_
   rw[Nat.mul_one,hh]
theorem FB.one {TU:Nat} {v:AV} {xs:List UInt8} (h:FB M TU v xs) : oneCell v=true∧v.cells=[v]∧known v=true:=by
 cases h <;> exact⟨rfl,rfl,rfl⟩
section
variable {TF TU i b:Nat} {v:AV} {f:fT} {fs:List fT}
theorem jO.step (h:jO TF TU own M fbs i b v f) (hk:af bs M M') (hb:∀ b∈bs,own b≠some (.file i)∧own b≠some (.bytes i)) (ho:∀ b,own b=some (.file i)∨own b=some (.bytes i)→own' b=own b) : jO TF TU own' M' fbs i b v f :=
 ⟨h.at_,Nat.lt_of_lt_of_le h.lt hk.next,by rw[ho _ (.inl h.tg),h.tg],hk.bC h.heap h.lt (fun hm=>(hb _ hm).1 h.tg),h.fb.keep hk (fun c hc hm=>(hb _ hm).2 (h.blk c hc)),h.le,
  fun c hc=>by rw[ho _ (.inr (h.blk c hc)),h.blk c hc]⟩
theorem iM.step (h:iM TF TU own M fbs fs) (hk:af bs M M') (hb:∀ b∈bs,∀ i,own b≠some (.file i)∧own b≠some (.bytes i)) (ho:∀ b i,own b=some (.file i)∨own b=some (.bytes i)→own' b=own b) : iM TF TU own' M' fbs fs :=
 ⟨h.len,fun i f hf=>let ⟨b,v,h1⟩:=h.file i f hf; ⟨b,v,h1.step hk (fun b hm=>hb b hm i) (fun b=>ho b i)⟩⟩
theorem iM.at (h:iM TF TU own M fbs fs) {i b:Nat} (hb:fbs[i]?=some b) : ∃ f v,fs[i]?=some f∧jO TF TU own M fbs i b v f:=by
 have hi:i<fs.length:=by rw[← h.len]; exact(List.getElem?_eq_some_iff.1 hb).1
 obtain⟨b',v,h1⟩:=h.file i fs[i] (List.getElem?_eq_getElem hi)
 have:b'=b:=by have:=h1.at_; rw[hb] at this; cases this; rfl
 subst this
 exact⟨_,v,List.getElem?_eq_getElem hi,h1⟩
theorem iM.set (h:iM TF TU own M fbs fs) {f' : fT} (hi:i<fs.length) (h' : jO TF TU own' M' fbs i b v f') (hk:af bs M M') (hb:∀ b∈bs,∀ j,j≠i→own b≠some (.file j)∧own b≠some (.bytes j))
  (ho:∀ b j,j≠i→own b=some (.file j)∨own b=some (.bytes j)→own' b=own b) : iM TF TU own' M' fbs (fs.set i f'):=by
 refine⟨by rw[List.length_set]; exact h.len,fun j f hf=>?_⟩
 by_cases hj:j=i
 ·subst hj
  rw[List.getElem?_set_self hi] at hf
  cases hf
  exact⟨b,v,h'⟩
 ·rw[List.getElem?_set_ne (fun e=>hj e.symm)] at hf
  obtain⟨b1,v1,h1⟩:=h.file j f hf
  exact⟨b1,v1,h1.step hk (fun b hm=>hb b hm j hj) (fun b=>ho b j hj)⟩
end
section
variable {TC:Nat} {v:AV} {cs:List iC}
theorem Ka (hg:∀ i b:Nat,fbs[i]?=some b→gbs[i]?=some b) {c:iC} (hc:∀ f,c.2.1=some f→f<fbs.length) : dZ gbs c=dZ fbs c:=by
 obtain⟨n,o,g⟩:=c
 cases o with
 | none=>rfl
 | some f =>
   have:=hc f rfl
   simp only[dZ,Option.bind_some]
   rw[List.getElem?_eq_getElem this,hg f _ (List.getElem?_eq_getElem this)]
theorem kV.grow (h:kV TC own M fbs v cs) (hg:∀ i b:Nat,fbs[i]?=some b→gbs[i]?=some b) (hl:fbs.length≤gbs.length) : kV TC own M gbs v cs:=by
 refine⟨?_,h.blk,fun c hc f hf=>Nat.lt_of_lt_of_le (h.wf c hc f hf) hl⟩
 have:cs.map (dZ gbs)=cs.map (dZ fbs):=List.map_congr_left fun c hc=>Ka hg (h.wf c hc)
 rw[this]; exact h.ow
theorem kV.step (h:kV TC own M fbs v cs) (hk:af bs M M') (hb:∀ b∈bs,own b≠some .chg) (ho:∀ b,own b=some .chg→own' b=some .chg) : kV TC own' M' fbs v cs :=
 ⟨Own.keep h.ow hk (fun b hm hm2=>hb b hm2 (h.blk b hm)),fun b hm=>ho b (h.blk b hm),h.wf⟩
theorem kV.nil:kV TC own M fbs aR []:=⟨.nil,by simp[az],by simp⟩
end
structure dz (TD TF TU TC:Nat) (own:aH) (M:RM) (db:Nat) (s:aT) (fbs:List Nat) (nm sm:Nat) (cv:AV) : Prop where
 lt:∀ b,own b≠none→b<M.next
 od:own db=some .disk
 row:M.heap db=some (.row [N .i64 s.aJ,.map nm,.map sm,cv,N .i64 s.app,N .i64 s.syn] false TD 0)
 names:MapAt own M fbs nm s.dir .names
 safe:MapAt own M fbs sm s.aS .safe
 chg:kV TC own M fbs cv s.chg
 files:iM TF TU own M fbs s.files
def bn (TD TF TU TC:Nat) (own:aH) (M:RM) (db:Nat) (s:aT) : Prop:=∃ fbs nm sm cv,dz TD TF TU TC own M db s fbs nm sm cv
def Tr (own:aH) (M:RM) (own' : aH) (M' : RM) : Prop:=∃ bs,af bs M M'∧(∀ b∈bs,own b≠none)∧∀ b,b<M.next→own b=none→own' b=none
theorem Tr.refl (own:aH) (M:RM) : Tr own M own M:=⟨[],af.refl _ _,by simp,fun _ _ h=>h⟩
theorem Tr.trans {bH:aH} {M2:RM} (h:Tr own M own' M') (k:Tr own' M' bH M2) : Tr own M bH M2:=by
 obtain⟨bs,h1,h2,h3⟩:=h
 obtain⟨cs,k1,k2,k3⟩:=k
 refine⟨bs++cs.filter (fun b=>decide (b<M.next)),(h1.mono (fun b hb=>List.mem_append_left _ hb)).dG k1 ?_, ?_,fun b hb ho=>k3 b (Nat.lt_of_lt_of_le hb h1.next) (h3 b hb ho)⟩
 ·intro c hc
  by_cases hl:c<M.next
  ·exact .inr (by simp[hc,hl])
  ·exact .inl (by omega)
 ·intro b hb
  rcases List.mem_append.1 hb with hb | hb
  ·exact h2 b hb
  ·obtain⟨hb1,hb2⟩:=List.mem_filter.1 hb
   exact fun ho=>k2 b hb1 (h3 b (of_decide_eq_true hb2) ho)
theorem Tr.keep (hk:af [] M M') : Tr own M own M':=⟨[],hk,by simp,fun _ _ h=>h⟩
theorem Tr.next (h:Tr own M own' M') : M.next≤M'.next:=let ⟨_,h1,_⟩:=h; h1.next
section
variable {TD TF TU TC db:Nat} {s:aT} {nm sm:Nat} {cv:AV}
theorem dz.keep (h:dz TD TF TU TC own M db s fbs nm sm cv) (hk:af [] M M') : dz TD TF TU TC own M' db s fbs nm sm cv :=
 ⟨fun b hb=>Nat.lt_of_lt_of_le (h.lt b hb) hk.next,h.od,hk.bC h.row (h.lt _ (by rw[h.od]; simp)) (by simp),h.names.step hk (by simp) (fun _ h=>h),h.safe.step hk (by simp) (fun _ h=>h),
  h.chg.step hk (by simp) (fun _ h=>h),h.files.step hk (by simp) (fun _ _ _=>rfl)⟩
theorem dz.xL (h:dz TD TF TU TC own M db s fbs nm sm cv) : db<M.next:=h.lt _ (by rw[h.od]; simp)
end
end Go.Ab.Dk
set_option maxRecDepth 100000
namespace Go.Ab.Dk
open Go Go.Ab
def jy (p1 p2 p3:ay) (p4:Nat) (p5 p6 p7:ay) (p8:Nat) (p9 p10 p11 p12 p13 p14 p15 p16 p17 p18:ay) (p19:Nat) (p20 p21 p22 p23:ay) (a0 a1:AV) (M0:RM) (Q:aj) : Prop :=
 p1 [] M0 fun xt C =>
 nA xt fun x1 =>
 aM x1 (
 Q (Bo false) C) (
 p2 [a0] C fun vk m =>
 gZ vk 0 fun g =>
 gZ vk 1 fun x =>
 ax .lss a0 (N .i64 0) fun yq =>
 aM yq (
 ax .eql x (N .i64 1) fun y =>
 ak y true (fun c=>c g m) (fun c=>c .undef m) fun yr D =>
 ak y true (fun wq=>cO false 1 yr (.sc (.pointer none)) fun ys =>
 wq ys D) (fun c=>c .undef D) fun yt v0 =>
 bg y yt (Bo false) fun yu =>
 Q yu v0) (
 ax .neq x (N .i64 0) fun z =>
 ak z false (fun wr=>wr g m) (fun c=>c .undef m) fun yv S =>
 ak z false (fun ws=>cO false 1 yv (.sc (.pointer none)) fun yw =>
 ws yw S) (fun c=>c .undef S) fun yx vd =>
 bg z (Bo true) yx fun n =>
 ak n false (fun wn=>wn a1 vd) (fun c=>c .undef vd) fun yy E =>
 ak n false (fun wo=>cz yy fun yz =>
 wo yz E) (fun c=>c .undef E) fun y0 F =>
 ak n false (fun wp=>ax .gtr y0 (N .i64 60) fun y1 =>
 wp y1 F) (fun c=>c .undef F) fun y2 G =>
 bg n (Bo true) y2 fun y3 =>
 aM y3 (
 ax .eql x (N .i64 0) fun y4 =>
 Q y4 G) (
 p3 [a0] G fun h vr =>
 gW (fun wx A p =>
 cz a1 fun y5 =>
 ax .lss (aG A 0) y5 fun y6 =>
 aM y6 (
 lu (fun vq =>
 bD a1 (aG A 0) 6 fun y8 =>
 fP p y8 6 fun y9 =>
 cK (.row [(N .i64 0),(N .i64 0),(N .i64 0),(N .i64 0),(St []),(.sc (.slice none 0 0))] false p4 0) (fun v=>.ptr v 0) p fun d vs =>
 aW vs d y9 6 fun e =>
 lu (fun i =>
 au d 0 fun za =>
 ai e za fun j =>
 ax .eql j (N .i64 0) fun zm =>
 aM zm (
 au d 1 fun zn =>
 ai e zn fun zo =>
 p5 [zo] e fun zp vt =>
 p6 [g,zp] vt fun zq H =>
 au d 1 fun zr =>
 ai H zr fun zs =>
 p5 [zs] H fun zt vu =>
 p7 [h,zt] vu fun zu vv =>
 i [zq,zu] vv) (
 ax .eql j (N .i64 1) fun zv =>
 aM zv (
 au d 4 fun zw =>
 ai e zw fun zx =>
 qW p8 zx fun wz wi =>
 cK wz wi e fun zy vw =>
 dL p8 1 [(N .u8 0)] [(0,1,(N .u8 7))] fun w0 wj =>
 cK w0 wj vw fun zz vx =>
 appW p8 1 1 [(N .u8 0)] false zy zz vx fun o q =>
 au d 1 fun z0 =>
 ai q z0 fun z1 =>
 au d 4 fun vl =>
 ai q vl fun vm =>
 lG vm fun vn =>
 mZ (eH 1 o none (some vn) none) fun vo =>
 p5 [z1] q fun z2 I =>
 ai I vl fun z3 =>
 (z3=vm∧mZ (eH 1 o none (some vn) none) fun z4 =>
 (z4=vo∧p9 [g,z2,vo] I fun z5 r =>
 au d 1 fun w4 =>
 ai r w4 fun w5 =>
 au d 4 fun ve =>
 ai r ve fun w =>
 qW p8 w fun w1 wk =>
 yD w1 wk r fun vf vy v =>
 p5 [w5] vy fun w6 s =>
 ai s ve fun w7 =>
 (w7=w∧qW p8 w fun w2 wl =>
 (Hz v s w2 wl vf∧p10 [h,w6,vf] s fun w8 vz =>
 gW (fun wy B L =>
 cz o fun w9 =>
 ax .lss (aG B 0) w9 fun xa =>
 aM xa (
 bD o (aG B 0) 1 fun xc =>
 aW L xc (N .u8 1) 1 fun v1 =>
 ax .add (aG B 0) (N .i64 1) fun xb =>
 wy [xb] v1) (
 i [z5,w8] L)) [(N .i64 0)] vz))))) (
 ax .eql j (N .i64 2) fun xd =>
 aM xd (
 au d 1 fun xe =>
 ai e xe fun xf =>
 p5 [xf] e fun xg v2 =>
 p11 [g,xg] v2 fun xh O =>
 au d 1 fun xi =>
 ai O xi fun xj =>
 p5 [xj] O fun xk v3 =>
 p12 [h,xk] v3 fun xl v4 =>
 i [xh,xl] v4) (
 ax .eql j (N .i64 3) fun xm =>
 aM xm (
 au d 1 fun xn =>
 ai e xn fun xo =>
 au d 2 fun vg =>
 ai e vg fun vh =>
 p5 [xo] e fun xp P =>
 ai P vg fun xq =>
 (xq=vh∧p5 [vh] P fun xr v5 =>
 p13 [g,xp,xr] v5 fun xs t =>
 au d 1 fun xu =>
 ai t xu fun xv =>
 au d 2 fun vi =>
 ai t vi fun vj =>
 p5 [xv] t fun xw R =>
 ai R vi fun xx =>
 (xx=vj∧p5 [vj] R fun xy v6 =>
 p14 [h,xw,xy] v6 fun xz v7 =>
 i [xs,xz] v7))) (
 ax .eql j (N .i64 4) fun x0 =>
 aM x0 (
 au d 1 fun x2 =>
 ai e x2 fun x3 =>
 p5 [x3] e fun x4 v8 =>
 p15 [g,x4] v8 fun x5 U =>
 au d 1 fun x6 =>
 ai U x6 fun x7 =>
 p5 [x7] U fun x8 v9 =>
 p16 [h,x8] v9 fun x9 wa =>
 i [x5,x9] wa) (
 ax .eql j (N .i64 5) fun ya =>
 aM ya (
 p17 [g] e fun yb wb =>
 p18 [h] wb fun z6 wc =>
 i [yb,(N .i64 0)] wc) (
 ax .eql j (N .i64 6) fun yc =>
 aM yc (
 dL p19 0 [(N .i64 0)] [] fun w3 wm =>
 cK w3 wm e fun yd V =>
 au d 5 fun ye =>
 ai V ye fun yf =>
 appW p19 1 8 [(N .i64 0)] false yd yf V fun yg wd =>
 p20 [g,yg] wd fun z7 W =>
 au d 5 fun yh =>
 ai W yh fun yi =>
 p21 [h,yi] W fun z8 we =>
 i [(N .i64 0),(N .i64 0)] we) (
 au d 3 fun zb =>
 ai e zb fun zc =>
 p22 [g,zc] e fun z9 X =>
 au d 3 fun zd =>
 ai X zd fun ze =>
 aI h fun zf =>
 au zf 5 fun zg =>
 aW X zg ze 1 fun u =>
 au d 3 fun zh =>
 ai u zh fun zi =>
 ax .lss zi (N .i64 0) fun zj =>
 aM zj (
 aI h fun zk =>
 au zk 5 fun zl =>
 aW u zl (N .i64 0) 1 fun wf =>
 i [(N .i64 0),(N .i64 0)] wf) (
 i [(N .i64 0),(N .i64 0)] u))))))))) (fun vp Y =>
 ax .neq (aG vp 0) (aG vp 1) fun l =>
 ak l false (fun wt=>wt g Y) (fun c=>c .undef Y) fun yj Z =>
 ak l false (fun wu=>wu h Z) (fun c=>c .undef Z) fun yk va =>
 ak l false (fun wv=>p23 [yj,yk] va fun yl wg =>
 wv yl wg) (fun c=>c .undef va) fun ym vb =>
 ak l false (fun ww=>nA ym fun yn =>
 ww yn vb) (fun c=>c .undef vb) fun yo vc =>
 bg l (Bo true) yo fun yp =>
 aM yp (
 Q (Bo false) vc) (
 vq [] vc))) (fun c0 wh =>
 ax .add (aG A 0) (N .i64 1) fun y7 =>
 wx [y7] wh)) (
 Q (Bo true) p)) [(N .i64 0)] vr)))
def pO (p1 p2:ay) (p3:Nat) (p4 p5 p6 p7:ay) (p8:Nat) (p9 p10 p11 p12 p13 p14:ay) (p15:Nat) (M0:RM) (Q:aj) : Prop :=
 p1 [(N .i64 10)] M0 fun vr C =>
 gZ vr 0 fun d =>
 gZ vr 1 fun y1 =>
 ax .neq y1 (N .i64 0) fun v =>
 ak v false (fun c=>c d C) (fun c=>c .undef C) fun y2 D =>
 ak v false (fun wp=>cO false 1 y2 (.sc (.pointer none)) fun y3 =>
 wp y3 D) (fun c=>c .undef D) fun y4 P =>
 bg v (Bo true) y4 fun y5 =>
 aM y5 (
 Q (Bo false) P) (
 p2 [d,(St [97])] P fun y6 wd =>
 dL p3 3 [(N .u8 0)] [(0,1,(N .u8 120)),(1,1,(N .u8 121)),(2,1,(N .u8 122))] fun xq wk =>
 cK xq wk wd fun y7 we =>
 CY y7 we fun y8 wf =>
 p4 [d,(St [97]),y8] wf fun y9 wg =>
 p5 [d,(St [97])] wg fun za wh =>
 p6 [d] wh fun zb wi =>
 dL p3 2 [(N .u8 0)] [(0,1,(N .u8 49)),(1,1,(N .u8 50))] fun xr wl =>
 cK xr wl wi fun zc vu =>
 CY zc vu fun zd vv =>
 p4 [d,(St [97]),zd] vv fun ze vx =>
 p2 [d,(St [98])] vx fun zf vy =>
 p7 [d] vy fun zg vz =>
 cz zg fun zh =>
 dL p8 2 [(N .i64 0)] [(0,1,(N .i64 0)),(1,1,(N .i64 1))] fun xs wm =>
 cK xs wm vz fun zi v0 =>
 p9 [d,zi] v0 fun c1 v1 =>
 p10 [d,(St [97])] v1 fun vs v2 =>
 gZ vs 0 fun zj =>
 gZ vs 1 fun zk =>
 p10 [d,(St [98])] v2 fun vt v3 =>
 gZ vt 0 fun c2 =>
 gZ vt 1 fun zl =>
 vN p3 1 [(N .u8 0)] (N .i64 7) (N .i64 7) fun xt wn =>
 cK xt wn v3 fun zm v4 =>
 p4 [d,(St [97]),zm] v4 fun zn v5 =>
 p11 [d,(N .i64 100)] v5 fun c3 v6 =>
 vN p3 1 [(N .u8 0)] (N .i64 7) (N .i64 7) fun xu wo =>
 cK xu wo v6 fun zo v7 =>
 p4 [d,(St [97]),zo] v7 fun zp v8 =>
 p12 [d,(St [97]),(St [99])] v8 fun zq v9 =>
 p13 [d,(St [99])] v9 fun zr wa =>
 p14 [d] wa fun zs wb =>
 cK (.row [(N .i64 0),(N .i64 0),(N .i64 0),(N .i64 0)] false p15 0) (fun wj=>.ptr wj 0) wb fun j wc =>
 aW wc j zs 4 fun R =>
 ax .eql y6 (N .i64 0) fun w =>
 ak w true (fun w1=>w1 y9 R) (fun c=>c .undef R) fun zt S =>
 ak w true (fun w2=>ax .eql zt (N .i64 0) fun zu =>
 w2 zu S) (fun c=>c .undef S) fun zv U =>
 bg w zv (Bo false) fun x =>
 ak x true (fun w3=>w3 za U) (fun c=>c .undef U) fun zw V =>
 ak x true (fun w4=>ax .eql zw (N .i64 0) fun zx =>
 w4 zx V) (fun c=>c .undef V) fun zy W =>
 bg x zy (Bo false) fun y =>
 ak y true (fun w5=>w5 zb W) (fun c=>c .undef W) fun zz X =>
 ak y true (fun w6=>ax .eql zz (N .i64 0) fun z0 =>
 w6 z0 X) (fun c=>c .undef X) fun z1 Y =>
 bg y z1 (Bo false) fun z =>
 ak z true (fun w7=>w7 ze Y) (fun c=>c .undef Y) fun z2 Z =>
 ak z true (fun w8=>ax .eql z2 (N .i64 0) fun z3 =>
 w8 z3 Z) (fun c=>c .undef Z) fun z4 va =>
 bg z z4 (Bo false) fun A =>
 ak A true (fun w9=>w9 zf va) (fun c=>c .undef va) fun z5 vb =>
 ak A true (fun xa=>ax .eql z5 (N .i64 0) fun z6 =>
 xa z6 vb) (fun c=>c .undef vb) fun z7 vc =>
 bg A z7 (Bo false) fun B =>
 ak B true (fun xb=>xb zh vc) (fun c=>c .undef vc) fun z8 vd =>
 ak B true (fun xc=>ax .eql z8 (N .i64 2) fun z9 =>
 xc z9 vd) (fun c=>c .undef vd) fun c0 ve =>
 bg B c0 (Bo false) fun p =>
 ak p true (fun xd=>xd zk ve) (fun c=>c .undef ve) fun xv vf =>
 ak p true (fun xe=>ax .eql xv (N .i64 0) fun xw =>
 xe xw vf) (fun c=>c .undef vf) fun xx vg =>
 bg p xx (Bo false) fun e =>
 ak e true (fun xf=>xf zj vg) (fun c=>c .undef vg) fun xy o =>
 ak e true (fun xg=>oq o xy fun xz =>
 xg xz o) (fun c=>c .undef o) fun x0 vh =>
 ak e true (fun xh=>iB .eql x0 (St [120,121,122,49]) fun x1 =>
 xh x1 vh) (fun c=>c .undef vh) fun x2 vi =>
 bg e x2 (Bo false) fun q =>
 ak q true (fun xi=>xi zl vi) (fun c=>c .undef vi) fun x3 vj =>
 ak q true (fun xj=>ax .eql x3 (N .i64 4) fun x4 =>
 xj x4 vj) (fun c=>c .undef vj) fun x5 vk =>
 bg q x5 (Bo false) fun r =>
 ak r true (fun xk=>xk zn vk) (fun c=>c .undef vk) fun x6 vl =>
 ak r true (fun xl=>ax .eql x6 (N .i64 5) fun x7 =>
 xl x7 vl) (fun c=>c .undef vl) fun x8 vm =>
 bg r x8 (Bo false) fun s =>
 ak s true (fun xm=>xm zp vm) (fun c=>c .undef vm) fun x9 vn =>
 ak s true (fun xn=>ax .eql x9 (N .i64 0) fun ya =>
 xn ya vn) (fun c=>c .undef vn) fun yb vo =>
 bg s yb (Bo false) fun t =>
 ak t true (fun xo=>xo zq vo) (fun c=>c .undef vo) fun yc vp =>
 ak t true (fun xp=>ax .eql yc (N .i64 0) fun yd =>
 xp yd vp) (fun c=>c .undef vp) fun ye vq =>
 bg t ye (Bo false) fun u =>
 ak u true (fun wq=>wq zr vq) (fun c=>c .undef vq) fun yf E =>
 ak u true (fun wr=>ax .eql yf (N .i64 0) fun yg =>
 wr yg E) (fun c=>c .undef E) fun yh F =>
 bg u yh (Bo false) fun g =>
 ak g true (fun ws=>au j 0 fun yi =>
 ws yi F) (fun c=>c .undef F) fun yj l =>
 ak g true (fun wt=>ai l yj fun yk =>
 wt yk l) (fun c=>c .undef l) fun yl G =>
 ak g true (fun wu=>ax .eql yl (N .i64 0) fun ym =>
 wu ym G) (fun c=>c .undef G) fun yn H =>
 bg g yn (Bo false) fun h =>
 ak h true (fun wv=>au j 2 fun yo =>
 wv yo H) (fun c=>c .undef H) fun yp m =>
 ak h true (fun ww=>ai m yp fun yq =>
 ww yq m) (fun c=>c .undef m) fun yr I =>
 ak h true (fun wx=>ax .eql yr (N .i64 3) fun ys =>
 wx ys I) (fun c=>c .undef I) fun yt L =>
 bg h yt (Bo false) fun i =>
 ak i true (fun wy=>au j 3 fun yu =>
 wy yu L) (fun c=>c .undef L) fun yv n =>
 ak i true (fun wz=>ai n yv fun yw =>
 wz yw n) (fun c=>c .undef n) fun yx O =>
 ak i true (fun w0=>ax .eql yx (N .i64 2) fun yy =>
 w0 yy O) (fun c=>c .undef O) fun yz vw =>
 bg i yz (Bo false) fun y0 =>
 Q y0 vw)
def mW (p1:Nat) (a0:AV) (M0:RM) (Q:aj) : Prop :=
 ax .lss a0 (N .i64 0) fun l =>
 aM l (
 Q (.tup [(.sc (.pointer none)),(N .i64 1)]) M0) (
 cK (.map [] 0) (fun c=>.map c) M0 fun m d =>
 cK (.map [] 0) (fun c=>.map c) d fun n e =>
 fA [(N .i64 0),(.sc (.map none)),(.sc (.map none)),(.sc (.slice none 0 0)),(N .i64 0),(N .i64 0)] [(0,1,a0),(1,1,m),(2,1,n)] fun o =>
 ny p1 o fun i h =>
 cK i h e fun j g =>
 Q (.tup [j,(N .i64 0)]) g)
def iR (p1:ay) (p2:Nat) (p3:ay) (a0 a1:AV) (M0:RM) (Q:aj) : Prop :=
 p1 [a1] M0 fun r c =>
 nA r fun s =>
 aM s (
 Q (N .i64 1) c) (
 aI a0 fun t =>
 au t 1 fun i =>
 ai c i fun j =>
 jZ false [2] (.sc (.pointer none)) false c j a1 fun l =>
 cO true 1 l (.sc (.pointer none)) fun m =>
 aM m (
 Q (N .i64 12) c) (
 fA [(.sc (.slice none 0 0)),(N .i64 0)] [] fun n =>
 ny p2 n fun h g =>
 cK h g c fun o d =>
 fA [(St []),(.sc (.pointer none)),(St [])] [(0,1,a1),(1,1,o)] fun p =>
 p3 [a0,p] d fun q e =>
 Q q e))
def iG (p1:ay) (p2:Nat) (p3:ay) (a0 a1 a2:AV) (M0:RM) (Q:aj) : Prop :=
 aI a0 fun C =>
 au C 1 fun l =>
 ai M0 l fun m =>
 jZ false [2] (.sc (.pointer none)) false M0 m a1 fun d =>
 cO false 1 d (.sc (.pointer none)) fun n =>
 aM n (
 Q (N .i64 4) M0) (
 cz a2 fun o =>
 aI a0 fun p =>
 au p 0 fun e =>
 ai M0 e fun g =>
 p1 [a0] M0 fun r c =>
 ai c e fun q =>
 (q=g∧ax .sub g r fun s =>
 ax .gtr o s fun t =>
 aM t (
 Q (N .i64 5) c) (
 aI d fun u =>
 au u 0 fun v =>
 ai c v fun w =>
 appW p2 1 1 [(N .u8 0)] false w a2 c fun x h =>
 aI d fun y =>
 au y 0 fun z =>
 aW h z x 1 fun i =>
 aI a0 fun A =>
 au A 4 fun B =>
 p3 [B,(N .i64 1)] i fun D j =>
 Q (N .i64 0) j)))
def jF (p1:ay) (a0 a1:AV) (M0:RM) (Q:aj) : Prop :=
 aI a0 fun q =>
 au q 1 fun r =>
 ai M0 r fun s =>
 jZ false [2] (.sc (.pointer none)) false M0 s a1 fun c =>
 cO false 1 c (.sc (.pointer none)) fun g =>
 aM g (
 Q (N .i64 4) M0) (
 aI c fun h =>
 au h 0 fun i =>
 ai M0 i fun j =>
 cz j fun l =>
 aI c fun m =>
 au m 1 fun n =>
 aW M0 n l 1 fun d =>
 aI a0 fun o =>
 au o 5 fun p =>
 p1 [p,(N .i64 1)] d fun t e =>
 Q (N .i64 0) e)
def iP (p1 p2:ay) (a0 a1 a2:AV) (M0:RM) (Q:aj) : Prop :=
 aI a0 fun o =>
 au o 1 fun g =>
 ai M0 g fun h =>
 jZ false [2] (.sc (.pointer none)) false M0 h a1 fun d =>
 cO false 1 d (.sc (.pointer none)) fun i =>
 aM i (
 Q (N .i64 4) M0) (
 p1 [a2] M0 fun j c =>
 nA j fun l =>
 aM l (
 Q (N .i64 1) c) (
 fA [(St []),(.sc (.pointer none)),(St [])] [(0,1,a2),(1,1,d),(2,1,a1)] fun m =>
 p2 [a0,m] c fun n e =>
 Q n e))
def iO (p1:ay) (a0 a1:AV) (M0:RM) (Q:aj) : Prop :=
 aI a0 fun i =>
 au i 1 fun j =>
 ai M0 j fun l =>
 jZ false [2] (.sc (.pointer none)) false M0 l a1 fun d =>
 cO false 1 d (.sc (.pointer none)) fun e =>
 aM e (
 Q (N .i64 4) M0) (
 fA [(St []),(.sc (.pointer none)),(St [])] [(2,1,a1)] fun g =>
 p1 [a0,g] M0 fun h c =>
 Q h c)
def ru (p1:Nat) (a0:AV) (M0:RM) (Q:aj) : Prop :=
 fA [(.sc (.slice none 0 0)),(.sc (.slice none 0 0)),(.sc (.slice none 0 0)),(.sc (.slice none 0 0)),(.sc (.slice none 0 0)),(N .i64 0),(N .i64 0),(N .i64 0)] [(5,1,a0)] fun g =>
 ny p1 g fun e d =>
 cK e d M0 fun h c =>
 Q h c
def qz (p1:Nat) (a0:AV) (M0:RM) (Q:aj) : Prop :=
 dL p1 8 [(St [])] [(0,1,(St [97])),(1,1,(St [98])),(2,1,(St [99])),(3,1,(St [119,45,48,48,48,48,48,49])),(4,1,(St [120,95])),(5,1,(St [65])),(6,1,(St [])),(7,1,(St [100]))] fun e d =>
 cK e d M0 fun g c =>
 ax .and a0 (N .i64 7) fun h =>
 bD g h 1 fun i =>
 ai c i fun j =>
 Q j c
def mY (p1 p2:ay) (p3 p4 p5:Nat) (p6:ay) (a0 a1:AV) (M0:RM) (Q:aj) : Prop :=
 p1 [a1] M0 fun Z c =>
 nA Z fun va =>
 aM va (
 Q (N .i64 1) c) (
 aI a0 fun vb =>
 au vb 2 fun u =>
 ai c u fun v =>
 p2 [v,a1] c fun w d =>
 ax .geq w (N .i64 0) fun x =>
 aM x (
 Q (N .i64 12) d) (
 aI a0 fun y =>
 au y 0 fun z =>
 ai d z fun A =>
 dL p3 0 [(N .u8 0)] [] fun r o =>
 cK r o d fun B h =>
 dL p4 1 [(.sc (.slice none 0 0))] [(0,1,B)] fun s p =>
 cK s p h fun C l =>
 appW p4 1 24 [(.sc (.slice none 0 0))] false A C l fun D m =>
 aI a0 fun E =>
 au E 0 fun F =>
 aW m F D 1 fun g =>
 aI a0 fun G =>
 au G 1 fun H =>
 ai g H fun I =>
 dL p5 1 [(N .i64 0)] [(0,1,(N .i64 0))] fun t q =>
 cK t q g fun L n =>
 appW p5 1 8 [(N .i64 0)] false I L n fun O i =>
 aI a0 fun P =>
 au P 1 fun R =>
 aW i R O 1 fun e =>
 aI a0 fun S =>
 au S 0 fun U =>
 ai e U fun V =>
 cz V fun W =>
 ax .sub W (N .i64 1) fun X =>
 fA [(N .i64 0),(St []),(St []),(N .i64 0)] [(0,1,(N .i64 0)),(1,1,a1),(2,1,(St [])),(3,1,X)] fun Y =>
 p6 [a0,Y] e fun vc j =>
 Q (N .i64 0) j))
def ni (p1 p2:ay) (p3:Nat) (a0 a1 a2:AV) (M0:RM) (Q:aj) : Prop :=
 aI a0 fun t =>
 au t 2 fun u =>
 ai M0 u fun v =>
 p1 [v,a1] M0 fun m d =>
 ax .lss m (N .i64 0) fun w =>
 aM w (
 Q (N .i64 4) d) (
 cz a2 fun x =>
 aI a0 fun y =>
 au y 5 fun n =>
 ai d n fun o =>
 p2 [a0] d fun A c =>
 ai c n fun z =>
 (z=o∧ax .sub o A fun B =>
 ax .gtr x B fun C =>
 aM C (
 Q (N .i64 5) c) (
 aI a0 fun D =>
 au D 2 fun E =>
 ai c E fun F =>
 bD F m 2 fun G =>
 au G 1 fun H =>
 ai c H fun p =>
 aI a0 fun I =>
 au I 0 fun g =>
 ai c g fun h =>
 dL p3 0 [(N .u8 0)] [] fun s r =>
 yD s r c fun P e vg =>
 aI a0 fun R =>
 au R 0 fun S =>
 ai e S fun U =>
 bD U p 1 fun V =>
 ai e V fun W =>
 appW p3 1 1 [(N .u8 0)] false P W e fun X i =>
 ai i g fun O =>
 (O=h∧appW p3 1 1 [(N .u8 0)] false X a2 i fun Y j =>
 ai j g fun L =>
 (L=h∧bD h p 1 fun Z =>
 aW j Z Y 1 fun l =>
 aI a0 fun va =>
 au va 6 fun vb =>
 ai l vb fun vc =>
 ax .add vc (N .i64 1) fun vd =>
 aI a0 fun ve =>
 au ve 6 fun vf =>
 aW l vf vd 1 fun q =>
 Q (N .i64 0) q)))))
def qB (p1:ay) (a0 a1:AV) (M0:RM) (Q:aj) : Prop :=
 aI a0 fun G =>
 au G 2 fun H =>
 ai M0 H fun i =>
 p1 [i,a1] M0 fun e c =>
 ax .lss e (N .i64 0) fun j =>
 aM j (
 Q (N .i64 4) c) (
 aI a0 fun l =>
 au l 2 fun m =>
 ai c m fun n =>
 bD n e 2 fun o =>
 au o 1 fun p =>
 ai c p fun g =>
 aI a0 fun q =>
 au q 1 fun r =>
 ai c r fun s =>
 aI a0 fun t =>
 au t 0 fun u =>
 ai c u fun v =>
 bD v g 1 fun w =>
 ai c w fun x =>
 cz x fun y =>
 bD s g 1 fun z =>
 aW c z y 1 fun d =>
 aI a0 fun A =>
 au A 7 fun B =>
 ai d B fun C =>
 ax .add C (N .i64 1) fun D =>
 aI a0 fun E =>
 au E 7 fun F =>
 aW d F D 1 fun h =>
 Q (N .i64 0) h)
def nz (p1 p2 p3:ay) (a0 a1 a2:AV) (M0:RM) (Q:aj) : Prop :=
 aI a0 fun n =>
 au n 2 fun o =>
 ai M0 o fun g =>
 p1 [g,a1] M0 fun h c =>
 ax .lss h (N .i64 0) fun i =>
 aM i (
 Q (N .i64 4) c) (
 p2 [a2] c fun j d =>
 nA j fun l =>
 aM l (
 Q (N .i64 1) d) (
 fA [(N .i64 0),(St []),(St []),(N .i64 0)] [(0,1,(N .i64 1)),(1,1,a1),(2,1,a2),(3,1,(N .i64 0))] fun m =>
 p3 [a0,m] d fun p e =>
 Q (N .i64 0) e))
def mU (p1 p2:ay) (a0 a1:AV) (M0:RM) (Q:aj) : Prop :=
 aI a0 fun i =>
 au i 2 fun j =>
 ai M0 j fun l =>
 p1 [l,a1] M0 fun e c =>
 ax .lss e (N .i64 0) fun g =>
 aM g (
 Q (N .i64 4) c) (
 fA [(N .i64 0),(St []),(St []),(N .i64 0)] [(0,1,(N .i64 2)),(1,1,a1),(2,1,(St [])),(3,1,(N .i64 0))] fun h =>
 p2 [a0,h] c fun m d =>
 Q (N .i64 0) d)
def ic (p1 p2:ay) (a0:AV) (M0:RM) (Q:aj) : Prop :=
 aI a0 fun o =>
 au o 1 fun p =>
 ai M0 p fun q =>
 p1 [q] M0 fun r c =>
 aI a0 fun h =>
 au h 2 fun i =>
 aW c i r 1 fun d =>
 aI a0 fun j =>
 au j 3 fun l =>
 aW d l (.sc (.slice none 0 0)) 1 fun e =>
 aI a0 fun m =>
 au m 5 fun n =>
 p2 [n,(N .i64 1)] e fun s g =>
 Q (N .i64 0) g
def lM (p1:Nat) (a0:AV) (M0:RM) (Q:aj) : Prop :=
 dL p1 0 [(St []),(N .i64 0)] [] fun j i =>
 cK j i M0 fun u c =>
 aI a0 fun v =>
 au v 2 fun w =>
 ai c w fun x =>
 appW p1 2 24 [(St []),(N .i64 0)] false u x c fun y e =>
 aI a0 fun z =>
 au z 3 fun l =>
 aW e l y 1 fun g =>
 aI a0 fun m =>
 au m 4 fun n =>
 aW g n (.sc (.slice none 0 0)) 1 fun d =>
 aI a0 fun o =>
 au o 7 fun p =>
 ai d p fun q =>
 ax .add q (N .i64 1) fun r =>
 aI a0 fun s =>
 au s 7 fun t =>
 aW d t r 1 fun h =>
 Q (.tup []) h
def je (p1:ay) (p2:Nat) (p3 p4 p5:ay) (a0 a1:AV) (M0:RM) (Q:aj) : Prop :=
 aI a0 fun O =>
 au O 2 fun P =>
 ai M0 P fun R =>
 aI a0 fun S =>
 au S 1 fun U =>
 aW M0 U R 1 fun i =>
 aI a0 fun V =>
 au V 3 fun o =>
 ai i o fun p =>
 aI a0 fun X =>
 au X 3 fun Y =>
 ai i Y fun Z =>
 cz Z fun va =>
 ax .add va (N .i64 1) fun vb =>
 p1 [a1,(N .i64 0),vb] i fun vc m =>
 ai m o fun W =>
 (W=p∧mZ (eH 3 p none (some vc) none) fun q =>
 cz q fun vd =>
 gW (fun D l e =>
 ax .lss (aG l 0) vd fun ve =>
 aM ve (
 bD q (aG l 0) 3 fun vf =>
 fP e vf 3 fun vg =>
 cK (.row [(St []),(.sc (.pointer none)),(St [])] false p2 0) (fun C=>.ptr C 0) e fun r w =>
 aW w r vg 3 fun j =>
 fP j r 3 fun vh =>
 aI a0 fun vi =>
 au vi 1 fun vj =>
 ai j vj fun vk =>
 p3 [vh,vk] j fun wp x =>
 ax .add (aG l 0) (N .i64 1) fun vl =>
 D [vl] x) (
 aI a0 fun vm =>
 au vm 1 fun vn =>
 ai e vn fun vo =>
 p4 [vo] e fun vp y =>
 aI a0 fun vq =>
 au vq 2 fun vr =>
 aW y vr vp 1 fun z =>
 aI a0 fun vs =>
 au vs 3 fun vt =>
 aW z vt (.sc (.slice none 0 0)) 1 fun A =>
 p5 [a0] A fun s B =>
 cz s fun vu =>
 gW (fun E h c =>
 ax .lss (aG h 0) vu fun vv =>
 aM vv (
 bD s (aG h 0) 1 fun vw =>
 ai c vw fun vx =>
 aI a0 fun vy =>
 au vy 1 fun vz =>
 ai c vz fun v0 =>
 jZ false [2] (.sc (.pointer none)) false c v0 vx fun d =>
 aI d fun v1 =>
 au v1 1 fun t =>
 ai c t fun u =>
 ax .add (aG h 0) (N .i64 1) fun v3 =>
 aI d fun v4 =>
 au v4 0 fun v5 =>
 ai c v5 fun v6 =>
 cz v6 fun v7 =>
 aI d fun v8 =>
 au v8 1 fun v9 =>
 ai c v9 fun wa =>
 ax .sub v7 wa fun wb =>
 ax .add wb (N .i64 1) fun wc =>
 p1 [a1,v3,wc] c fun wd n =>
 ai n t fun v2 =>
 (v2=u∧ax .add u wd fun we =>
 aI d fun wf =>
 au wf 1 fun wg =>
 aW n wg we 1 fun g =>
 aI d fun wh =>
 au wh 0 fun wi =>
 ai g wi fun wj =>
 aI d fun wk =>
 au wk 1 fun wl =>
 ai g wl fun wm =>
 aI d fun wn =>
 au wn 1 fun wo =>
 ai g wo fun F =>
 mZ (eH 1 wj none (some wm) (some F)) fun G =>
 aI d fun H =>
 au H 0 fun I =>
 aW g I G 1 fun v =>
 ax .add (aG h 0) (N .i64 1) fun L =>
 E [L] v)) (
 Q (.tup []) c)) [(N .i64 0)] B)) [(N .i64 0)] m)
def oV (p1:ay) (p2:Nat) (p3:ay) (p4:Nat) (a0 a1:AV) (M0:RM) (Q:aj) : Prop :=
 aI a0 fun vj =>
 au vj 4 fun vk =>
 ai M0 vk fun vl =>
 cz vl fun vm =>
 ax .add vm (N .i64 1) fun vn =>
 p1 [a1,vn] M0 fun o s =>
 gZ o 0 fun vo =>
 gZ o 1 fun vp =>
 dL p2 0 [(St []),(N .i64 0)] [] fun G B =>
 cK G B s fun vq l =>
 aI a0 fun vr =>
 au vr 3 fun vs =>
 ai l vs fun vt =>
 appW p2 2 24 [(St []),(N .i64 0)] false vq vt l fun vu t =>
 gW (fun E c i =>
 ax .lss (aG c 1) vo fun vv =>
 aM vv (
 aI a0 fun vx =>
 au vx 4 fun vy =>
 ai i vy fun vz =>
 bD vz (aG c 1) 4 fun v0 =>
 fP i v0 4 fun v1 =>
 p3 [(aG c 0),v1] i fun v2 w =>
 ax .add (aG c 1) (N .i64 1) fun vw =>
 E [v2,vw] w) (
 aI a0 fun v3 =>
 au v3 2 fun v4 =>
 aW i v4 (aG c 0) 1 fun x =>
 dL p2 0 [(St []),(N .i64 0)] [] fun I D =>
 cK I D x fun v5 y =>
 appW p2 2 24 [(St []),(N .i64 0)] false v5 (aG c 0) y fun v6 z =>
 aI a0 fun v7 =>
 au v7 3 fun v8 =>
 aW z v8 v6 1 fun A =>
 aI a0 fun v9 =>
 au v9 4 fun wa =>
 aW A wa (.sc (.slice none 0 0)) 1 fun u =>
 gW (fun F j d =>
 cz (aG c 0) fun wb =>
 ax .lss (aG j 1) wb fun wc =>
 aM wc (
 bD (aG c 0) (aG j 1) 2 fun we =>
 au we 1 fun wf =>
 ai d wf fun e =>
 aI a0 fun wg =>
 au wg 0 fun wh =>
 ai d wh fun wi =>
 bD wi e 1 fun wj =>
 ai d wj fun wk =>
 cz wk fun wl =>
 aI a0 fun wm =>
 au wm 1 fun wn =>
 ai d wn fun wo =>
 bD wo e 1 fun wp =>
 ai d wp fun wq =>
 ax .sub wl wq fun wr =>
 ax .add wr (N .i64 1) fun ws =>
 p1 [(aG j 0),ws] d fun p m =>
 gZ p 0 fun wt =>
 gZ p 1 fun wu =>
 aI a0 fun wv =>
 au wv 0 fun q =>
 ai m q fun r =>
 dL p4 0 [(N .u8 0)] [] fun H C =>
 yD H C m fun wx g w2 =>
 aI a0 fun wy =>
 au wy 0 fun wz =>
 ai g wz fun w0 =>
 bD w0 e 1 fun w1 =>
 ai g w1 fun L =>
 aI a0 fun O =>
 au O 1 fun P =>
 ai g P fun R =>
 bD R e 1 fun S =>
 ai g S fun U =>
 ax .add U wt fun V =>
 mZ (eH 1 L none (some V) none) fun W =>
 appW p4 1 1 [(N .u8 0)] false wx W g fun X n =>
 ai n q fun ww =>
 (ww=r∧bD r e 1 fun Y =>
 aW n Y X 1 fun h =>
 aI a0 fun Z =>
 au Z 1 fun va =>
 ai h va fun vb =>
 aI a0 fun vc =>
 au vc 0 fun vd =>
 ai h vd fun ve =>
 bD ve e 1 fun vf =>
 ai h vf fun vg =>
 cz vg fun vh =>
 bD vb e 1 fun vi =>
 aW h vi vh 1 fun v =>
 ax .add (aG j 1) (N .i64 1) fun wd =>
 F [wu,wd] v)) (
 Q (.tup []) d)) [vp,(N .i64 0)] u)) [vu,(N .i64 0)] t
def jf (a0 a1:AV) (M0:RM) (Q:aj) : Prop :=
 Dl true a1 (N .i64 0) fun d =>
 aI a0 fun e =>
 au e 0 fun g =>
 aW M0 g d 1 fun c =>
 Q (.tup []) c
def uG (p1 p2:ay) (p3:Nat) (p4 p5:ay) (a0 a1:AV) (M0:RM) (Q:aj) : Prop :=
 p1 [a0] M0 fun m vz =>
 p2 [a0] vz fun x5 v0 =>
 cK (.row [(N .i64 0),(N .i64 0),(N .i64 0),(N .i64 0)] false p3 0) (fun vv=>.ptr vv 0) v0 fun n v1 =>
 aW v1 n x5 4 fun w =>
 cz m fun x6 =>
 aI a1 fun x7 =>
 au x7 2 fun x8 =>
 ai w x8 fun x9 =>
 cz x9 fun ya =>
 ax .neq x6 ya fun e =>
 aQ e false (fun c=>au n 0 fun yb =>
 c yb w none) (fun c=>c .undef w none) fun yc y vv =>
 aQ e false (fun w1=>ai y yc fun yd =>
 w1 yd y none) (fun c=>c .undef y none) fun ye vp i0 =>
 aQ e false (fun xc=>xc a1 vp none) (fun c=>c .undef vp none) fun yf H d3 =>
 aQ e false (fun wa=>aI yf fun yg =>
 wa yg H none) (fun c=>c .undef H none) fun yh X e5 =>
 aQ e false (fun wl=>au yh 2 fun yi =>
 wl yi X none) (fun c=>c .undef X none) fun yj v g5 =>
 aQ e false (fun ws=>ai v yj fun yk =>
 ws yk v none) (fun c=>c .undef v none) fun yl vg g6 =>
 aQ e false (fun wt=>cz yl fun ym =>
 wt ym vg none) (fun c=>c .undef vg none) fun yn vh g7 =>
 aQ e false (fun wu=>ax .neq ye yn fun yo =>
 wu yo vh none) (fun c=>c .undef vh none) fun yp vi g8 =>
 bg e (Bo true) yp fun i =>
 aQ i false (fun wv=>au n 1 fun yq =>
 wv yq vi none) (fun c=>c .undef vi none) fun vw x g9 =>
 aQ i false (fun ww=>ai x vw fun yr =>
 ww yr x none) (fun c=>c .undef x none) fun vx vj h0 =>
 aQ i false (fun wx=>wx a1 vj none) (fun c=>c .undef vj none) fun yt vk h1 =>
 ak i false (fun wy=>p4 [yt] vk fun yu v4 =>
 wy yu v4) (fun c=>c .undef vk) fun yv z =>
 IB i false (fun wz=>ai z vw fun ys =>
 (ys=vx∧wz)) (fun c=>c) (aQ i false (fun w0=>ax .neq vx yv fun yw =>
 w0 yw z none) (fun c=>c .undef z none) fun yx vl h2 =>
 bg i (Bo true) yx fun g =>
 aQ g false (fun w2=>au n 2 fun yy =>
 w2 yy vl none) (fun c=>c .undef vl none) fun yz A h3 =>
 aQ g false (fun w3=>ai A yz fun y0 =>
 w3 y0 A none) (fun c=>c .undef A none) fun y1 vm h4 =>
 aQ g false (fun w4=>w4 a1 vm none) (fun c=>c .undef vm none) fun y2 vn h5 =>
 aQ g false (fun w5=>aI y2 fun y3 =>
 w5 y3 vn none) (fun c=>c .undef vn none) fun y4 vo h6 =>
 aQ g false (fun w6=>au y4 6 fun y5 =>
 w6 y5 vo none) (fun c=>c .undef vo none) fun y6 B h7 =>
 aQ g false (fun w7=>ai B y6 fun y7 =>
 w7 y7 B none) (fun c=>c .undef B none) fun y8 vq h8 =>
 aQ g false (fun w8=>ax .neq y1 y8 fun y9 =>
 w8 y9 vq none) (fun c=>c .undef vq none) fun za vr h9 =>
 bg g (Bo true) za fun h =>
 aQ h false (fun w9=>au n 3 fun zb =>
 w9 zb vr none) (fun c=>c .undef vr none) fun zc C i1 =>
 aQ h false (fun xa=>ai C zc fun zd =>
 xa zd C none) (fun c=>c .undef C none) fun ze vs i2 =>
 aQ h false (fun xb=>xb a1 vs none) (fun c=>c .undef vs none) fun zf vt i3 =>
 aQ h false (fun xd=>aI zf fun zg =>
 xd zg vt none) (fun c=>c .undef vt none) fun zh vu i4 =>
 aQ h false (fun xe=>au zh 7 fun zi =>
 xe zi vu none) (fun c=>c .undef vu none) fun zj D i5 =>
 aQ h false (fun xf=>ai D zj fun zk =>
 xf zk D none) (fun c=>c .undef D none) fun zl I d1 =>
 aQ h false (fun v5=>ax .neq ze zl fun zm =>
 v5 zm I none) (fun c=>c .undef I none) fun zn L d2 =>
 bg h (Bo true) zn fun zo =>
 aM zo (
 Q (Bo false) L) (
 gW (fun xg j o =>
 cz m fun zp =>
 ax .lss (aG j 0) zp fun zq =>
 aM zq (
 bD m (aG j 0) 1 fun zs =>
 ai o zs fun zt =>
 p5 [a0,zt] o fun vy l =>
 gZ vy 0 fun E =>
 gZ vy 1 fun zu =>
 bD m (aG j 0) 1 fun zv =>
 ai l zv fun zw =>
 aI a1 fun zx =>
 au zx 2 fun zy =>
 ai l zy fun zz =>
 bD zz (aG j 0) 2 fun z0 =>
 au z0 0 fun z1 =>
 ai l z1 fun z2 =>
 iB .neq zw z2 fun F =>
 aQ F false (fun v6=>v6 zu l none) (fun c=>c .undef l none) fun z3 O d4 =>
 aQ F false (fun v7=>ax .neq z3 (N .i64 0) fun z4 =>
 v7 z4 O none) (fun c=>c .undef O none) fun z5 P d5 =>
 bg F (Bo true) z5 fun d =>
 aQ d false (fun v8=>v8 E P none) (fun c=>c .undef P none) fun z6 p d6 =>
 aQ d false (fun v9=>oq p z6 fun z7 =>
 v9 z7 p none) (fun c=>c .undef p none) fun z8 R d7 =>
 aQ d false (fun wb=>wb a1 R none) (fun c=>c .undef R none) fun z9 S d8 =>
 aQ d false (fun wc=>aI z9 fun c0 =>
 wc c0 S none) (fun c=>c .undef S none) fun c1 U d9 =>
 aQ d false (fun wd=>au c1 0 fun c2 =>
 wd c2 U none) (fun c=>c .undef U none) fun c3 q e0 =>
 aQ d false (fun we=>ai q c3 fun c4 =>
 we c4 q none) (fun c=>c .undef q none) fun c5 V e1 =>
 aQ d false (fun wf=>wf a1 V none) (fun c=>c .undef V none) fun c6 W e2 =>
 aQ d false (fun wg=>aI c6 fun c7 =>
 wg c7 W none) (fun c=>c .undef W none) fun c8 Y e3 =>
 aQ d false (fun wh=>au c8 2 fun c9 =>
 wh c9 Y none) (fun c=>c .undef Y none) fun d0 r e4 =>
 aQ d false (fun wi=>ai r d0 fun xi =>
 wi xi r none) (fun c=>c .undef r none) fun xj Z e6 =>
 aQ d false (fun wj=>wj (aG j 0) Z none) (fun c=>c .undef Z none) fun xk va e7 =>
 aQ d false (fun wk=>bD xj xk 2 fun xl =>
 wk xl va none) (fun c=>c .undef va none) fun xm vb e8 =>
 aQ d false (fun wm=>au xm 1 fun xn =>
 wm xn vb none) (fun c=>c .undef vb none) fun xo s e9 =>
 aQ d false (fun wn=>ai s xo fun xp =>
 wn xp s none) (fun c=>c .undef s none) fun xq vc g0 =>
 aQ d false (fun wo=>bD c5 xq 1 fun xr =>
 wo xr vc none) (fun c=>c .undef vc none) fun xs t g1 =>
 aQ d false (fun wp=>ai t xs fun xt =>
 wp xt t none) (fun c=>c .undef t none) fun xu u g2 =>
 aQ d false (fun wq=>oq u xu fun xv =>
 wq xv u none) (fun c=>c .undef u none) fun xw vd g3 =>
 aQ d false (fun wr=>iB .neq z8 xw fun xx =>
 wr xx vd none) (fun c=>c .undef vd none) fun xy ve g4 =>
 bg d (Bo true) xy fun xz =>
 aM xz (
 Q (Bo false) ve) (
 gW (fun xh G vf =>
 cz E fun x0 =>
 ax .lss (aG G 0) x0 fun x1 =>
 aM x1 (
 bD E (aG G 0) 1 fun x3 =>
 aW vf x3 (N .u8 99) 1 fun v2 =>
 ax .add (aG G 0) (N .i64 1) fun x2 =>
 xh [x2] v2) (
 bD m (aG j 0) 1 fun x4 =>
 aW vf x4 (St [115,112,111,105,108,116]) 1 fun v3 =>
 ax .add (aG j 0) (N .i64 1) fun zr =>
 xg [zr] v3)) [(N .i64 0)] ve)) (
 Q (Bo true) o)) [(N .i64 0)] L))
def jE (p1:ay) (a0 a1:AV) (M0:RM) (Q:aj) : Prop :=
 aI a0 fun m =>
 au m 1 fun n =>
 ai M0 n fun e =>
 jZ false [2] (.sc (.pointer none)) false M0 e a1 fun c =>
 cO false 1 c (.sc (.pointer none)) fun g =>
 aM g (
 Q (.tup [(.sc (.slice none 0 0)),(N .i64 4)]) M0) (
 aI c fun h =>
 au h 0 fun i =>
 ai M0 i fun j =>
 p1 [j] M0 fun l d =>
 Q (.tup [l,(N .i64 0)]) d)
def jB (p1 p2:ay) (a0:AV) (M0:RM) (Q:aj) : Prop :=
 aI a0 fun e =>
 au e 1 fun g =>
 ai M0 g fun h =>
 p1 [h] M0 fun i c =>
 p2 [i] c fun j d =>
 Q j d
def jC (p1:Nat) (p2 p3:ay) (a0:AV) (M0:RM) (Q:aj) : Prop :=
 cK (.row [(N .i64 0),(N .i64 0),(N .i64 0),(N .i64 0)] false p1 0) (fun j=>.ptr j 0) M0 fun e c =>
 aI a0 fun t =>
 au t 1 fun u =>
 ai c u fun v =>
 Bt c v fun w =>
 aI a0 fun m =>
 au m 4 fun n =>
 aI a0 fun p =>
 au p 5 fun q =>
 p2 [a0] c fun x g =>
 p3 [n] g fun o h =>
 p3 [q] h fun r i =>
 fA [(N .i64 0),(N .i64 0),(N .i64 0),(N .i64 0)] [(0,1,w),(1,1,x),(2,1,o),(3,1,r)] fun s =>
 aW i e s 4 fun d =>
 fP d e 4 fun l =>
 Q l d
def lN (p1:ay) (a0:AV) (M0:RM) (Q:aj) : Prop :=
 lG a0 fun z =>
 ax .geq z (N .i64 1) fun e =>
 ak e true (fun c=>c a0 M0) (fun c=>c .undef M0) fun A g =>
 ak e true (fun o=>lG A fun B =>
 o B g) (fun c=>c .undef g) fun C i =>
 ak e true (fun q=>ax .leq C (N .i64 64) fun D =>
 q D i) (fun c=>c .undef i) fun E j =>
 bg e E (Bo false) fun d =>
 ak d true (fun r=>r a0 j) (fun c=>c .undef j) fun t l =>
 ak d true (fun s=>p1 [t,(St [97,98,99,100,101,102,103,104,105,106,107,108,109,110,111,112,113,114,115,116,117,118,119,120,121,122,48,49,50,51,52,53,54,55,56,57,46,45,95])] l fun u n =>
 s u n) (fun c=>c .undef l) fun v h =>
 ak d true (fun p=>iB .eql v (St []) fun w =>
 p w h) (fun c=>c .undef h) fun x m =>
 bg d x (Bo false) fun y =>
 Q y m
def ik (p1:Nat) (p2:ay) (a0 a1:AV) (M0:RM) (Q:aj) : Prop :=
 ny p1 a1 fun m j =>
 cK m j M0 fun e c =>
 fP c e 3 fun w =>
 aI a0 fun x =>
 au x 1 fun y =>
 ai c y fun z =>
 p2 [w,z] c fun B d =>
 aI a0 fun o =>
 au o 3 fun p =>
 ai d p fun q =>
 fP d e 3 fun r =>
 dL p1 1 [(St []),(.sc (.pointer none)),(St [])] [(0,3,r)] fun n l =>
 yD n l d fun s g A =>
 appW p1 3 40 [(St []),(.sc (.pointer none)),(St [])] false q s g fun t h =>
 aI a0 fun u =>
 au u 3 fun v =>
 aW h v t 1 fun i =>
 Q (N .i64 0) i
def jg (a0:AV) (M0:RM) (Q:aj) : Prop :=
 aI a0 fun t =>
 au t 1 fun u =>
 ai M0 u fun v =>
 BH v M0 fun d g =>
 gW (fun i e h =>
 D5 d h fun j c =>
 gZ j 0 fun l =>
 aM l (
 Jv c d fun m =>
 gZ m 1 fun n =>
 aI n fun o =>
 au o 0 fun p =>
 ai c p fun q =>
 cz q fun r =>
 ax .add (aG e 0) r fun s =>
 i [s] c) (
 Q (aG e 0) c)) [(N .i64 0)] g
def gD (p1:ay) (a0 a1:AV) (M0:RM) (Q:aj) : Prop :=
 aI a0 fun d =>
 au d 0 fun e =>
 p1 [e,a1] M0 fun g c =>
 Q g c
def qy (a0:AV) (M0:RM) (Q:aj) : Prop :=
 gW (fun vc o g =>
 lG a0 fun v7 =>
 ax .lss (aG o 0) v7 fun v8 =>
 aM v8 (
 GD a0 (aG o 0) fun d =>
 ax .geq d (N .u8 97) fun i =>
 ak i true (fun c=>c d g) (fun c=>c .undef g) fun ve p =>
 ak i true (fun G=>ax .leq ve (N .u8 122) fun vf =>
 G vf p) (fun c=>c .undef p) fun vg y =>
 bg i vg (Bo false) fun e =>
 ak e false (fun Z=>Z d y) (fun c=>c .undef y) fun vh D =>
 ak e false (fun va=>ax .geq vh (N .u8 48) fun vi =>
 va vi D) (fun c=>c .undef D) fun vj E =>
 ak e false (fun vb=>vb vj E) (fun c=>c .undef E) fun j q =>
 ak j true (fun H=>H d q) (fun c=>c .undef q) fun vk r =>
 ak j true (fun I=>ax .leq vk (N .u8 57) fun vl =>
 I vl r) (fun c=>c .undef r) fun vm s =>
 ak e false (fun L=>bg j vm (Bo false) fun vn =>
 L vn s) (fun c=>c .undef s) fun vo t =>
 bg e (Bo true) vo fun l =>
 ak l false (fun O=>O d t) (fun c=>c .undef t) fun vp u =>
 ak l false (fun P=>ax .eql vp (N .u8 46) fun vq =>
 P vq u) (fun c=>c .undef u) fun vr v =>
 bg l (Bo true) vr fun m =>
 ak m false (fun R=>R d v) (fun c=>c .undef v) fun vs w =>
 ak m false (fun S=>ax .eql vs (N .u8 45) fun vt =>
 S vt w) (fun c=>c .undef w) fun vu x =>
 bg m (Bo true) vu fun n =>
 ak n false (fun U=>U d x) (fun c=>c .undef x) fun vv z =>
 ak n false (fun V=>ax .eql vv (N .u8 95) fun vw =>
 V vw z) (fun c=>c .undef z) fun vx A =>
 bg n (Bo true) vx fun vy =>
 nA vy fun vz =>
 aM vz (
 Q (Bo false) A) (
 ax .add (aG o 0) (N .i64 1) fun vd =>
 vc [vd] A)) (
 lG a0 fun v0 =>
 ax .geq v0 (N .i64 1) fun h =>
 ak h true (fun W=>W a0 g) (fun c=>c .undef g) fun v1 B =>
 ak h true (fun X=>lG v1 fun v2 =>
 X v2 B) (fun c=>c .undef B) fun v3 C =>
 ak h true (fun Y=>ax .leq v3 (N .i64 64) fun v4 =>
 Y v4 C) (fun c=>c .undef C) fun v5 F =>
 bg h v5 (Bo false) fun v6 =>
 Q v6 F)) [(N .i64 0)] M0
def qO (a0 a1:AV) (M0:RM) (Q:aj) : Prop :=
 gW (fun e d c =>
 cz a0 fun m =>
 ax .lss (aG d 0) m fun n =>
 aM n (
 bD a0 (aG d 0) 2 fun h =>
 au h 0 fun i =>
 ai c i fun j =>
 iB .eql j a1 fun l =>
 aM l (
 Q (aG d 0) c) (
 ax .add (aG d 0) (N .i64 1) fun g =>
 e [g] c)) (
 Q (N .i64 (-1)) c)) [(N .i64 0)] M0
def qE (p1:Nat) (p2:ay) (a0 a1:AV) (M0:RM) (Q:aj) : Prop :=
 ny p1 a1 fun n l =>
 cK n l M0 fun e c =>
 aI a0 fun A =>
 au A 2 fun B =>
 ai c B fun C =>
 fP c e 4 fun D =>
 p2 [C,D] c fun p g =>
 aI a0 fun q =>
 au q 2 fun r =>
 aW g r p 1 fun d =>
 aI a0 fun s =>
 au s 4 fun t =>
 ai d t fun u =>
 fP d e 4 fun v =>
 dL p1 1 [(N .i64 0),(St []),(St []),(N .i64 0)] [(0,4,v)] fun o m =>
 yD o m d fun w h E =>
 appW p1 4 48 [(N .i64 0),(St []),(St []),(N .i64 0)] false u w h fun x i =>
 aI a0 fun y =>
 au y 4 fun z =>
 aW i z x 1 fun j =>
 Q (.tup []) j
def oO (a0:AV) (M0:RM) (Q:aj) : Prop :=
 gW (fun e d c =>
 aI a0 fun x =>
 au x 2 fun y =>
 ai c y fun z =>
 cz z fun g =>
 ax .lss (aG d 1) g fun h =>
 aM h (
 aI a0 fun j =>
 au j 0 fun l =>
 ai c l fun m =>
 aI a0 fun n =>
 au n 2 fun o =>
 ai c o fun p =>
 bD p (aG d 1) 2 fun q =>
 au q 1 fun r =>
 ai c r fun s =>
 bD m s 1 fun t =>
 ai c t fun u =>
 cz u fun v =>
 ax .add (aG d 0) v fun w =>
 ax .add (aG d 1) (N .i64 1) fun i =>
 e [w,i] c) (
 Q (aG d 0) c)) [(N .i64 0),(N .i64 0)] M0
def bE (p1:Nat) (p2:ay) (a0:AV) (M0:RM) (Q:aj) : Prop :=
 cO false 3 a0 (.sc (.map none)) fun d =>
 aM d (
 Q (.sc (.map none)) M0) (
 p2 [(.ifc p1 a0)] M0 fun e c =>
 FL p1 false e fun g =>
 Q g c)
def lU (a0 a1 a2:AV) (M0:RM) (Q:aj) : Prop :=
 cz a0 fun B =>
 ax .geq a1 B fun d =>
 ak d false (fun c=>c a0 M0) (fun c=>c .undef M0) fun p h =>
 ak d false (fun l=>l a1 h) (fun c=>c .undef h) fun q i =>
 ak d false (fun m=>bD p q 1 fun r =>
 m r i) (fun c=>c .undef i) fun s g =>
 ak d false (fun n=>ai g s fun t =>
 n t g) (fun c=>c .undef g) fun u j =>
 ak d false (fun o=>ax .lss u (N .i64 0) fun v =>
 o v j) (fun c=>c .undef j) fun w e =>
 bg d (Bo true) w fun x =>
 aM x (
 Q (N .i64 0) e) (
 bD a0 a1 1 fun y =>
 ai e y fun z =>
 ax .rem z a2 fun A =>
 Q A e)
def jA (p1:Nat) (a0 a1:AV) (M0:RM) (Q:aj) : Prop :=
 ny p1 a0 fun l j =>
 cK l j M0 fun d e =>
 lu (fun g =>
 au d 2 fun t =>
 ai e t fun u =>
 iB .neq u (St []) fun v =>
 aM v (
 au d 2 fun w =>
 ai e w fun x =>
 vR false [2] e a1 x fun y h =>
 g [] h) (
 g [] e)) (fun z c =>
 au d 1 fun m =>
 ai c m fun n =>
 cO true 1 n (.sc (.pointer none)) fun o =>
 aM o (
 au d 0 fun p =>
 ai c p fun q =>
 au d 1 fun r =>
 ai c r fun s =>
 vY false [2] c a1 q s fun i =>
 Q (.tup []) i) (
 Q (.tup []) c))
def qm (a0 a1:AV) (M0:RM) (Q:aj) : Prop :=
 cz a0 fun m =>
 ax .eql m (N .i64 0) fun n =>
 aM n (
 Q (.tup [(N .i64 0),a0]) M0) (
 bD a0 (N .i64 0) 1 fun c =>
 ai M0 c fun d =>
 ax .lss d (N .i64 0) fun e =>
 aM e (
 mZ (eH 1 a0 (some (N .i64 1)) none none) fun g =>
 Q (.tup [(N .i64 0),g]) M0) (
 bD a0 (N .i64 0) 1 fun h =>
 ai M0 h fun i =>
 ax .rem i a1 fun j =>
 mZ (eH 1 a0 (some (N .i64 1)) none none) fun l =>
 Q (.tup [j,l]) M0))
def vD (p1:Nat) (p2 p3 p4:ay) (a0 a1:AV) (M0:RM) (Q:aj) : Prop :=
 ny p1 a1 fun q p =>
 cK q p M0 fun d c =>
 au d 0 fun R =>
 ai c R fun l =>
 ax .eql l (N .i64 0) fun r =>
 aM r (
 au d 1 fun s =>
 ai c s fun t =>
 au d 3 fun u =>
 ai c u fun v =>
 p2 [a0,t,v] c fun w m =>
 Q w m) (
 ax .eql l (N .i64 1) fun x =>
 aM x (
 au d 1 fun y =>
 ai c y fun z =>
 p3 [a0,z] c fun h e =>
 ax .lss h (N .i64 0) fun A =>
 aM A (
 Q a0 e) (
 bD a0 h 2 fun B =>
 au B 1 fun C =>
 ai e C fun D =>
 au d 1 fun E =>
 ai e E fun F =>
 au d 2 fun i =>
 ai e i fun j =>
 p4 [a0,F] e fun G g =>
 ai g i fun H =>
 (H=j∧p2 [G,j,D] g fun I n =>
 Q I n))) (
 au d 1 fun L =>
 ai c L fun O =>
 p4 [a0,O] c fun P o =>
 Q P o))
def bG (p1 p2:Nat) (a0:AV) (M0:RM) (Q:aj) : Prop :=
 ny p1 a0 fun e d =>
 cK e d M0 fun g c =>
 Q (.fn (.func p2) [] [g]) c
def gp (p1:ay) (a0:AV) (M0:RM) (Q:aj) : Prop :=
 aI a0 fun d =>
 au d 0 fun e =>
 p1 [e] M0 fun g c =>
 Q g c
def sP (p1:ay) (p2:Nat) (a0 a1 a2:AV) (M0:RM) (Q:aj) : Prop :=
 p1 [a0,a1] M0 fun i w =>
 vN p2 24 [(St []),(N .i64 0)] (N .i64 0) (N .i64 0) fun X G =>
 cK X G w fun vb x =>
 gW (fun W d g =>
 cz i fun vc =>
 ax .lss (aG d 2) vc fun vd =>
 aM vd (
 lu (fun v =>
 lu (fun j =>
 nA (aG d 1) fun e =>
 ak e true (fun c=>c i g) (fun c=>c .undef g) fun vf q =>
 ak e true (fun S=>S (aG d 2) q) (fun c=>c .undef q) fun vg r =>
 ak e true (fun U=>bD vf vg 2 fun vh =>
 U vh r) (fun c=>c .undef r) fun vi s =>
 ak e true (fun V=>au vi 0 fun vj =>
 V vj s) (fun c=>c .undef s) fun vk h =>
 ak e true (fun O=>ai h vk fun vl =>
 O vl h) (fun c=>c .undef h) fun vm m =>
 ak e true (fun P=>P a1 m) (fun c=>c .undef m) fun vn n =>
 ak e true (fun R=>iB .gtr vm vn fun vo =>
 R vo n) (fun c=>c .undef n) fun vp o =>
 bg e vp (Bo false) fun vq =>
 aM vq (
 fA [(St []),(N .i64 0)] [(0,1,a1),(1,1,a2)] fun vr =>
 dL p2 1 [(St []),(N .i64 0)] [(0,2,vr)] fun Y H =>
 cK Y H o fun vs y =>
 appW p2 2 24 [(St []),(N .i64 0)] false (aG d 0) vs y fun vt z =>
 j [vt,(Bo true)] z) (
 j [(aG d 0),(aG d 1)] o)) (fun t p =>
 bD i (aG d 2) 2 fun vu =>
 fP p vu 2 fun vv =>
 dL p2 1 [(St []),(N .i64 0)] [(0,2,vv)] fun Z I =>
 cK Z I p fun vw A =>
 appW p2 2 24 [(St []),(N .i64 0)] false (aG t 0) vw A fun vx B =>
 v [vx,(aG t 1)] B)) (fun u C =>
 ax .add (aG d 2) (N .i64 1) fun ve =>
 W [(aG u 0),(aG u 1),ve] C)) (
 lu (fun l =>
 nA (aG d 1) fun vy =>
 aM vy (
 fA [(St []),(N .i64 0)] [(0,1,a1),(1,1,a2)] fun vz =>
 dL p2 1 [(St []),(N .i64 0)] [(0,2,vz)] fun va L =>
 cK va L g fun v0 D =>
 appW p2 2 24 [(St []),(N .i64 0)] false (aG d 0) v0 D fun v1 E =>
 l [v1] E) (
 l [(aG d 0)] g)) (fun v2 F =>
 Q (aG v2 0) F))) [vb,(Bo false),(N .i64 0)] x
def sI (p1:Nat) (a0 a1:AV) (M0:RM) (Q:aj) : Prop :=
 vN p1 24 [(St []),(N .i64 0)] (N .i64 0) (N .i64 0) fun o l =>
 cK o l M0 fun B g =>
 gW (fun n c d =>
 cz a0 fun q =>
 ax .lss (aG c 1) q fun r =>
 aM r (
 lu (fun e =>
 bD a0 (aG c 1) 2 fun t =>
 au t 0 fun u =>
 ai d u fun v =>
 iB .neq v a1 fun w =>
 aM w (
 bD a0 (aG c 1) 2 fun x =>
 fP d x 2 fun y =>
 dL p1 1 [(St []),(N .i64 0)] [(0,2,y)] fun p m =>
 cK p m d fun z h =>
 appW p1 2 24 [(St []),(N .i64 0)] false (aG c 0) z h fun A i =>
 e [A] i) (
 e [(aG c 0)] d)) (fun C j =>
 ax .add (aG c 1) (N .i64 1) fun s =>
 n [(aG C 0),s] j)) (
 Q (aG c 0) d)) [B,(N .i64 0)] g
set_option maxRecDepth 10000
abbrev uR:AV:=.sc (.pointer none)
section
variable {fbs gbs:List Nat} {own own' : aH} {M M' : RM} {bs:List Nat} {m:Nat} {d:Dir} {t:Tag} {s:Nm}
theorem iZ (h:MapAt own M fbs m d t) {K:AV→Prop} (h1:dB d s=none→K uR) (h2:∀ f b,dB d s=some f→fbs[f]?=some b→K (.ptr b 0)) : jZ false [2] uR false M (.map m) (St s) K:=by
 obtain⟨es,cl,hh,he⟩:=h.heap
 rcases qd s 0 he with⟨a1,a2⟩ | ⟨j,f,b,a1,a2,a3,a4,a5⟩
 ·exact⟨m,es,cl,[St s],none,rfl,hh,rfl,rfl,a1,h1 a2⟩
 ·exact⟨m,es,cl,[St s],_,rfl,hh,rfl,rfl,a1,h2 f b a2 a3⟩
theorem GZ (h:MapAt own M fbs m d t) {K:aj} (hK:∀ M',MapAt own M' fbs m (fO d s) t→af [m] M M'→M'.next=M.next→K (.tup []) M') : vR false [2] M (.map m) (St s) K:=by
 obtain⟨es,cl,hh,he⟩:=h.heap
 rcases qd s 0 he with⟨a1,a2⟩ | ⟨j,f,b,a1,a2,a3,a4,a5⟩
 ·refine⟨m,es,cl,[St s],none,rfl,hh,rfl,rfl,a1,hK _ ⟨h.tg,h.lt,es,cl,aZ _, ?_⟩ ((af.refl _ _).put _ (.inr (by simp))) rfl⟩
  rw[(xX a2).1]; exact he
 ·refine⟨m,es,cl,[St s],_,rfl,hh,rfl,rfl,a1,hK _ ⟨h.tg,h.lt,es.eraseIdx j,cl, ?_,a4⟩ ((af.refl _ _).put _ (.inr (by simp))) rfl⟩
  rw[aZ]; simp only[LK,Nat.zero_add]
theorem GX (h:MapAt own M fbs m d t) {f b:Nat} (hf:fbs[f]?=some b) {K:RM→Prop} (hK:∀ M',MapAt own M' fbs m (jD d s f) t→af [m] M M'→M'.next=M.next→K M') : vY false [2] M (.map m) (St s) (.ptr b 0) K:=by
 obtain⟨es,cl,hh,he⟩:=h.heap
 rcases qd s 0 he with⟨a1,a2⟩ | ⟨j,f',b',a1,a2,a3,a4,a5⟩
 ·refine⟨m,es,cl,[St s],none,rfl,hh,rfl,rfl,a1,hK _ ⟨h.tg,h.lt,_,_,aZ _, ?_⟩ ((af.refl _ _).put _ (.inr (by simp))) rfl⟩
  rw[(xX a2).2]; exact he.snoc hf (Nat.zero_le _)
 ·refine⟨m,es,cl,[St s],_,rfl,hh,rfl,rfl,a1,hK _ ⟨h.tg,h.lt,_,cl, ?_,a5 f b hf⟩ ((af.refl _ _).put _ (.inr (by simp))) rfl⟩
  rw[aZ]; simp only[LX,Nat.zero_add]
theorem Gy (h:MapAt own M fbs m d t) {K:AV→Prop} : Bt M (.map m) K=K (N .i64 d.length):=by
 obtain⟨es,cl,hh,he⟩:=h.heap
 apply propext
 constructor
 ·rintro⟨b,es',c,e,h1,h2⟩
  cases e; rw[hh] at h1; cases h1
  rw[← he.len]; exact h2
 ·intro hk; exact⟨m,es,cl,rfl,hh,by rw[he.len]; exact hk⟩
end
def KJ (fbs:List Nat) (c:iC) : Prop:=∀ f,c.2.1=some f→f<fbs.length
def KU (c:ay) : Prop:=∀ {own:aH} {M:RM} {fbs:List Nat} {m:Nat} {d:Dir} {t:Tag} {ch:iC} {Q:aj},MapAt own M fbs m d t→KJ fbs ch →
 (∀ M',MapAt own M' fbs m (fB d ch) t→af [m] M M'→Q (.tup []) M')→c [.agg (eO.cells (dZ fbs ch)),.map m] M Q
theorem NS {a b:List UInt8} {K:AV→Prop} : iB .neq (St a) (St b) K=K (Bo (decide (a≠b))):=by
 simp only[go_sem]
 congr 2
 by_cases h:a=b <;> simp[h]
theorem Lb {TC:Nat} : KU fun args M Q=>∃ a0 a1,args=[a0,a1]∧jA TC a0 a1 M Q:=by
 intro own M fbs m d t ch Q hm hw hQ
 refine⟨_,_,rfl, ?_⟩
 unfold jA
 rw[kF (eO.one _) (by rw[eO.len]; decide),aY]
 have k1:af [m] M (M.push (.row (eO.cells (dZ fbs ch)) false TC 0)):=(af.refl _ _).push _
 have k1' : af [] M (M.push (.row (eO.cells (dZ fbs ch)) false TC 0)):=(af.refl _ _).push _
 have nn:(M.push (.row (eO.cells (dZ fbs ch)) false TC 0)).next=M.next + 1:=aU _
 have h1:(M.push (.row (eO.cells (dZ fbs ch)) false TC 0)).heap M.next=some (.row (eO.cells (dZ fbs ch)) false TC 0):=RM.bi _
 generalize M.push (.row (eO.cells (dZ fbs ch)) false TC 0)=M1 at *
 have hm1:=hm.step k1' (by simp) (fun _ h=>h)
 have hlt:=hm.lt
 have n1:=k1.next
 simp only[nU]
 refine iY (fun zs M'=>zs=[]∧MapAt own M' fbs m (if ch.2.2≠[] then fO d ch.2.2 else d) t∧af [m] M M'∧M'.heap M.next=some (.row (eO.cells (dZ fbs ch)) false TC 0)) ?_ ?_
 ·rintro zs M2 ⟨rfl,hm2,k2,h2⟩
  rw[ae,ag (i:=0 + 1) (x:=match (dZ fbs ch).2.1 with | some b=>.ptr b 0 | none=>.sc (.pointer none)) h2 rfl]
  obtain⟨n,o,g⟩:=ch
  cases o with
  | none =>
    simp only[dZ,Option.bind_none]
    rw[dQ,Bool.not_true,fE]
    exact hQ _ hm2 k2
  | some f =>
    have hf:=hw f rfl
    simp only[dZ,Option.bind_some]
    rw[List.getElem?_eq_getElem hf]
    dsimp only
    rw[dJ,jd,ae,ag (i:=0 + 0) (x:=St n) h2 rfl,ae,ag (i:=0 + 1) (x:=.ptr fbs[f] 0) h2 (by simp only[eO,dZ,Option.bind_some]; rw[List.getElem?_eq_getElem hf]; rfl)]
    refine GX hm2 (List.getElem?_eq_getElem hf) fun M3 hm3 k3 n3=>?_
    exact hQ _ hm3 (k2.trans k3)
 ·intro J hJ
  rw[ae,ag (i:=0 + 2) (x:=St ch.2.2) h1 rfl,NS]
  refine bN (fun hc=>?_) (fun hc=>?_)
  ·have hc:=of_decide_eq_true hc
   rw[ae,ag (i:=0 + 2) (x:=St ch.2.2) h1 rfl]
   refine GZ hm1 fun M2 hm2 k2 n2=>?_
   refine hJ _ _ ⟨rfl, ?_,k1.trans k2,k2.bC h1 (by omega) (by simp; omega)⟩
   rw[if_pos hc]; exact hm2
  ·have hc:=of_decide_eq_false hc
   refine hJ _ _ ⟨rfl, ?_,k1,h1⟩
   rw[if_neg hc]; exact hm1
theorem dz.row' {TD TF TU TC db:Nat} {s s' : aT} {own:aH} {M:RM} {fbs:List Nat} {nm sm nm' sm' : Nat} {cv cv' : AV} (h:dz TD TF TU TC own M db s fbs nm sm cv) (l:List AV)
  (hl:l=[N .i64 s'.aJ,.map nm',.map sm',cv',N .i64 s'.app,N .i64 s'.syn])
  (h1:MapAt own M fbs nm' s'.dir .names) (h2:MapAt own M fbs sm' s'.aS .safe) (h3:kV TC own M fbs cv' s'.chg) (h4:iM TF TU own M fbs s'.files) :
  dz TD TF TU TC own (M.put db (.row l false TD 0)) db s' fbs nm' sm' cv':=by
 have hk:af [db] M (M.put db (.row l false TD 0)):=(af.refl _ _).put _ (.inr (by simp))
 have hd:=h.od
 have hn:∀ t:Tag,t≠.disk→∀ b∈[db],own b≠some t:=by
  intro t ht b hb
  rw[List.mem_singleton] at hb; subst hb
  rw[hd]; simpa using fun e=>ht e.symm
 subst hl
 exact⟨h.lt,hd,aZ _,h1.step hk (hn _ (by simp)) (fun _ h=>h),h2.step hk (hn _ (by simp)) (fun _ h=>h),h3.step hk (hn _ (by simp)) (fun _ h=>h),
  h4.step hk (fun b hb i=>⟨hn _ (by simp) b hb,hn _ (by simp) b hb⟩) (fun _ _ _=>rfl)⟩
theorem jl {own:aH} {M:RM} {b:Nat} (x:RB) (h:own b≠none) : Tr own M own (M.put b x) :=
 ⟨[b],(af.refl _ _).put _ (.inr (by simp)),by simpa using h,fun _ _ h=>h⟩
def oJ (TD TF TU TC:Nat) (c:ay) : Prop:=∀ {own:aH} {M:RM} {db:Nat} {s:aT} {fbs:List Nat} {nm sm:Nat} {cv:AV} {ch:iC} {Q:aj},dz TD TF TU TC own M db s fbs nm sm cv→KJ fbs ch→s.chg.length≤1000000000 →
 (∀ own' M',bn TD TF TU TC own' M' db { s with dir:=fB s.dir ch,chg:=s.chg++[ch] } → Tr own M own' M'→Q (N .i64 0) M')→c [.ptr db 0,.agg (eO.cells (dZ fbs ch))] M Q
theorem EH {TD TF TU TC:Nat} {cdo:ay} (hdo:KU cdo) : oJ TD TF TU TC fun args M Q=>∃ a0 a1,args=[a0,a1]∧ik TC cdo a0 a1 M Q:=by
 intro own M db s fbs nm sm cv ch Q hd hw hlen hQ
 refine⟨_,_,rfl, ?_⟩
 unfold ik
 rw[kF (eO.one _) (by rw[eO.len]; decide),aY]
 have k1:af [] M (M.push (.row (eO.cells (dZ fbs ch)) false TC 0)):=(af.refl _ _).push _
 have n1:(M.push (.row (eO.cells (dZ fbs ch)) false TC 0)).next=M.next + 1:=aU _
 have h1:(M.push (.row (eO.cells (dZ fbs ch)) false TC 0)).heap M.next=some (.row (eO.cells (dZ fbs ch)) false TC 0):=RM.bi _
 generalize M.push (.row (eO.cells (dZ fbs ch)) false TC 0)=M1 at *
 have hd1:=hd.keep k1
 rw[lS (n:=3) h1 (eO.len _),ah,ae,ag (i:=0 + 1) hd1.row rfl]
 refine hdo hd1.names hw fun M2 m2 k2=>?_
 have hnm:=hd1.names.lt
 have hnd:nm≠db:=fun e=>by have:=hd1.names.tg; rw[e,hd1.od] at this; cases this
 have hnt:=hd1.names.tg
 have hno:∀ b,own b≠some .names→b≠nm:=fun b hb e=>hb (by rw[e]; exact hnt)
 have hold:M.next≠nm:=by have:=hd.names.lt; omega
 have r2:=k2.bC hd1.row hd1.xL (by simp; exact fun e=>hnd e.symm)
 have h2:=k2.bC h1 (by omega) (by simp; exact hold)
 have hn2:∀ t:Tag,t≠.names→∀ b∈[nm],own b≠some t:=by
  intro t ht b hb; rw[List.mem_singleton] at hb; subst hb; rw[hnt]; simpa using fun e=>ht e.symm
 have sm2:=hd1.safe.step k2 (hn2 _ (by simp)) (fun _ h=>h)
 have cg2:=hd1.chg.step k2 (hn2 _ (by simp)) (fun _ h=>h)
 have fl2:=hd1.files.step (own':=own) k2 (fun b hb i=>⟨hn2 _ (by simp) b hb,hn2 _ (by simp) b hb⟩) (fun _ _ _=>rfl)
 have n2:=k2.next
 rw[ah,ae,ag (i:=0 + 3) r2 rfl,lS (n:=3) h2 (eO.len _),nP (x:=.agg (eO.cells (dZ fbs ch))) (size:=3) (eO.len _) (eO.one _) rfl,qQ]
 refine jY (E:=eO) (a:=dZ fbs ch) cg2.ow (Nat.zero_le _) (by decide) (by rw[List.length_map]; omega) (by rw[List.length_map]; omega) fun v M3 o3 k3 n3 ho=>?_
 have hlt2:∀ b,own b≠none→b<M1.next:=fun b hb=>Nat.lt_of_lt_of_le (hd.lt b hb) k1.next
 let own' : aH:=fun b=>if b∈az v then some .chg else own b
 have hb' : ∀ b,own b≠none→own b≠some .chg→own' b=own b:=by
  intro b hb hb2
  show(if b∈az v then some Tag.chg else own b)=own b
  rw[if_neg]
  intro hm
  rcases ho with rfl | ho
  ·exact hb2 (cg2.blk b hm)
  ·have:=ho b hm; have:=hlt2 b hb; omega
 have hsome:∀ {t:Tag} {b},own b=some t→t≠.chg→own' b=some t:=by
  intro t b hb ht
  rw[hb' b (by rw[hb]; simp) (by rw[hb]; simpa using ht),hb]
 have hc3:∀ t:Tag,t≠.chg→∀ b∈az cv,own b≠some t:=by
  intro t ht b hb; rw[cg2.blk b hb]; simpa using fun e=>ht e.symm
 have r3:=k3.bC r2 (Nat.lt_of_lt_of_le hd1.xL n2) (fun hm=>hc3 .disk (by simp) _ hm hd.od)
 rw[ah,ae,bA (i:=0 + 3) [N .i64 s.aJ,.map nm,.map sm,v,N .i64 s.app,N .i64 s.syn] r3 (by simp) (Own.cells o3) (Own.one o3) rfl]
 have m3:=m2.step (own':=own') k3 (hc3 _ (by simp)) (fun b hb=>hsome hb (by simp))
 have s3:=sm2.step (own':=own') k3 (hc3 _ (by simp)) (fun b hb=>hsome hb (by simp))
 have f3:=fl2.step (own':=own') k3 (fun b hb i=>⟨hc3 _ (by simp) b hb,hc3 _ (by simp) b hb⟩) (fun b i h=>by rcases h with h | h <;> rw[hsome h (by simp),h])
 have g3:kV TC own' M3 fbs v (s.chg++[ch]):=by
  refine⟨by rw[List.map_append]; exact o3,fun b hb=>if_pos hb,fun c hc f hf=>?_⟩
  rcases List.mem_append.1 hc with hc | hc
  ·exact cg2.wf c hc f hf
  ·rw[List.mem_singleton] at hc; subst hc; exact hw f hf
 have hlt3:∀ b,own' b≠none→b<M3.next:=by
  intro b hb
  by_cases hm:b∈az v
  ·exact(Own.blk o3 b hm).2
  ·have:own' b=own b:=if_neg hm
   rw[this] at hb; have:=hlt2 b hb; omega
 have hfin:dz TD TF TU TC own' (M3.put db (.row [N .i64 s.aJ,.map nm,.map sm,v,N .i64 s.app,N .i64 s.syn] false TD 0)) db { s with dir:=fB s.dir ch,chg:=s.chg++[ch] } fbs nm sm v:=by
  have hk:af [db] M3 (M3.put db (.row [N .i64 s.aJ,.map nm,.map sm,v,N .i64 s.app,N .i64 s.syn] false TD 0)):=(af.refl _ _).put _ (.inr (by simp))
  have od' : own' db=some .disk:=hsome hd.od (by simp)
  have hn:∀ t:Tag,t≠.disk→∀ b∈[db],own' b≠some t:=by
   intro t ht b hb; rw[List.mem_singleton] at hb; subst hb; rw[od']; simpa using fun e=>ht e.symm
  exact⟨fun b hb=>Nat.lt_of_lt_of_le (hlt3 b hb) hk.next,od',aZ _,m3.step hk (hn _ (by simp)) (fun _ h=>h),s3.step hk (hn _ (by simp)) (fun _ h=>h),g3.step hk (hn _ (by simp)) (fun _ h=>h),
   f3.step hk (fun b hb i=>⟨hn _ (by simp) b hb,hn _ (by simp) b hb⟩) (fun _ _ _=>rfl)⟩
 refine hQ own' _ ⟨_,_,_,_,hfin⟩ ⟨nm :: db :: az cv, ?_, ?_, ?_⟩
 ·have a1:af (nm :: db :: az cv) M M2:=(k1.mono (by simp)).trans (k2.mono (by simp))
  have a2:af (nm :: db :: az cv) M M3:=a1.trans (k3.mono (fun b hb=>by simp[hb]))
  exact a2.put _ (.inr (by simp))
 ·intro b hb
  simp only[List.mem_cons] at hb
  rcases hb with rfl | rfl | hb
  ·rw[hnt]; simp
  ·rw[hd.od]; simp
  ·rw[cg2.blk b hb]; simp
 ·intro b hb ho'
  show(if b∈az v then some Tag.chg else own b)=none
  rw[if_neg,ho']
  intro hm
  rcases ho with rfl | ho
  ·rw[cg2.blk b hm] at ho'; cases ho'
  ·have:=ho b hm; omega
def iF (c:UInt8) : Bool:=(97≤c && c≤122) || (48≤c && c≤57) || c == 46 || c == 45 || c == 95
def dU (n:Nm) : Bool:=decide (1≤n.length) && (decide (n.length≤64) && n.all iF)
def tot (fs:List fT) : Dir→Nat
 | []=>0
 | e :: d=>(fs[e.2]?.getD ([],0)).1.length + tot fs d
abbrev gB (n:Int) : Int:=IntKind.wrap .i64 n
def jL (s:aT) (c:iC) : aT := { s with dir:=fB s.dir c,chg:=s.chg++[c] }
def dE (s:aT) (n:Nm) : aT × Int :=
 if dU n=false then(s,1) else if (dB s.dir n).isSome then(s,12) else(jL { s with files:=s.files++[([],0)] } (n,some s.files.length,[]),0)
def dP (s:aT) (f:Nat) : fT:=s.files[f]?.getD ([],0)
def dF (s:aT) (n:Nm) (b:List UInt8) : aT × Int :=
 match dB s.dir n with
 | none=>(s,4)
 | some f=>if s.aJ - (tot s.files s.dir:Int)<b.length then(s,5) else({ s with files:=s.files.set f ((dP s f).1++b,(dP s f).2),app:=gB (s.app + 1) },0)
def rU (s:aT) (n:Nm) : List UInt8 × Int :=
 match dB s.dir n with
 | none=>([],4)
 | some f=>((dP s f).1,0)
def kw (s:aT) (n:Nm) : aT × Int :=
 match dB s.dir n with
 | none=>(s,4)
 | some f=>({ s with files:=s.files.set f ((dP s f).1,(dP s f).1.length),syn:=gB (s.syn + 1) },0)
def jm (s:aT) (n to:Nm) : aT × Int :=
 match dB s.dir n with
 | none=>(s,4)
 | some f=>if dU to=false then(s,1) else(jL s (to,some f,n),0)
def iN (s:aT) (n:Nm) : aT × Int :=
 match dB s.dir n with
 | none=>(s,4)
 | some _=>(jL s ([],none,n),0)
def fZ (s:aT) : aT := { s with aS:=s.dir,chg:=[],syn:=gB (s.syn + 1) }
def uX (s:aT) (n:Int) : aT := { s with aJ:=if 0 > n then 0 else n }
def bF (p:List Int) (i n:Nat) : Nat:=match p[i]? with
 | none=>0
 | some x=>if x<0 then 0 else x.toNat % n
def HY (c:ay) : Prop:=∀ {M:RM} {v:AV} {p:List Int} {i n:Nat} {Q:aj},Sl INT M v p→1≤n→Q (N .i64 (bF p i n:Int)) M→c [v,N .i64 (i:Int),N .i64 (n:Int)] M Q
theorem Jt:HY fun args M Q=>∃ a0 a1 a2,args=[a0,a1,a2]∧lU a0 a1 a2 M Q:=by
 intro M v p i n Q hv hn hQ
 refine⟨_,_,_,rfl, ?_⟩
 unfold lU
 simp only[rJ]
 rw[aP.len hv,J3]
 refine yY (p:=match p[i]? with | none=>true | some x=>decide (x<0)) (fun hc k hk=>?_) ?_
 ·have hlt:i<p.length:=by have:=of_decide_eq_false hc; omega
  obtain⟨b,o,h1,h2,h3,h4⟩:=Sl.Jd hv (i:=i) (i:Int) hlt
  rw[h3,iT,h4 (N .i64 p[i]) rfl]
  simp only[Option.some.injEq,exists_eq_left']
  rw[dN]
  rw[List.getElem?_eq_getElem hlt] at hk
  exact hk
 ·refine bN (fun hc=>?_) (fun hc=>?_)
  ·have:bF p i n=0:=by
    unfold bF
    rcases hg:p[i]? with _ | x
    ·rfl
    ·have hlt:=(List.getElem?_eq_some_iff.1 hg).1
     rw[hg] at hc
     simp only[Bool.or_eq_true,decide_eq_true_eq] at hc
     rcases hc with hc | hc
     ·omega
     ·exact if_pos hc
   rw[this] at hQ; exact hQ
  ·rw[Bool.or_eq_false_iff] at hc
   have hlt:i<p.length:=by have:=of_decide_eq_false hc.1; omega
   have hg:=List.getElem?_eq_getElem hlt
   have h0:=hc.2
   rw[hg] at h0
   have h0:=of_decide_eq_false h0
   obtain⟨b,o,h1,h2,h3,h4⟩:=Sl.Jd hv (i:=i) (i:Int) hlt
   rw[h3,iT,h4 (N .i64 p[i]) rfl]
   simp only[Option.some.injEq,exists_eq_left']
   have:bF p i n=p[i].toNat % n:=by unfold bF; rw[hg]; exact if_neg h0
   rw[this] at hQ
   generalize p[i]=x at *
   obtain⟨y,rfl⟩:=Int.eq_ofNat_of_zero_le (Int.not_lt.1 h0)
   rw[Ey]
   exact⟨by omega,hQ⟩
def Dh (c:ay) : Prop:=∀ {M:RM} {s:List UInt8} {Q:aj},1≤s.length→s.length≤64→(∀ M' r,af [] M M'→(r=[]↔s.all iF=true)→Q (St r) M') →
 c [St s,St [97,98,99,100,101,102,103,104,105,106,107,108,109,110,111,112,113,114,115,116,117,118,119,120,121,122,48,49,50,51,52,53,54,55,56,57,46,45,95]] M Q
def Da (c:ay) : Prop:=∀ {M:RM} {s:Nm} {Q:aj},(∀ M',af [] M M'→Q (Bo (dU s)) M')→c [St s] M Q
theorem II {ct:ay} (ht:Dh ct) : Da fun args M Q=>∃ a0,args=[a0]∧lN ct a0 M Q:=by
 intro M s Q hQ
 refine⟨_,rfl, ?_⟩
 unfold lN
 simp only[rJ]
 rw[kN,show(N .i64 (1:Int))=N .i64 ((1:Nat) : Int) from rfl,J3]
 refine fo (p:=decide (s.length≤64)) (fun hc k hk=>?_) ?_
 ·rw[kN,show(N .i64 (64:Int))=N .i64 ((64:Nat) : Int) from rfl,Mi]; exact hk
 refine NK (p:=s.all iF) (P:=fun M'=>af [] M M') (af.refl _ _) (fun hc k hk=>?_) (fun M' k1=>?_)
 ·simp only[Bool.and_eq_true,decide_eq_true_eq] at hc
  refine ht hc.1 hc.2 fun M' r k1 hr=>?_
  rw[xZ]
  have:(r == [])=s.all iF:=by
   rw[Bool.eq_iff_iff]; simp only[beq_iff_eq]; exact hr
  rw[this]
  exact hk _ k1
 ·have:dU s=(decide (s.length ≥ 1) && decide (s.length≤64) && s.all iF):=by
   unfold dU; rw[Bool.and_assoc]
  rw[this] at hQ
  exact hQ _ k1
def yC (c:ay) : Prop:=∀ {M:RM} {b o el:Nat} {l:List AV} {p:Bool} {x y:Int} {Q:aj},M.heap b=some (.row l p el 0)→l[o]?=some (N .i64 x) →
 Q (N .i64 (gB (x + y))) (M.put b (.row (l.set o (N .i64 (gB (x + y)))) p el 0))→c [.ptr b o,N .i64 y] M Q
theorem JQ {x:ay} (hx:yC x) : yC fun args M Q=>∃ a0 a1,args=[a0,a1]∧gD x a0 a1 M Q:=by
 intro M b o el l p n y Q hh hl hQ
 refine⟨_,_,rfl, ?_⟩
 unfold gD
 rw[ah,ae,Nat.add_zero]
 exact hx hh hl hQ
def Ay (c:ay) : Prop:=∀ {M:RM} {b o el:Nat} {l:List AV} {p:Bool} {x:Int} {Q:aj},M.heap b=some (.row l p el 0)→l[o]?=some (N .i64 x)→Q (N .i64 x) M→c [.ptr b o] M Q
theorem Jf {x:ay} (hx:Ay x) : Ay fun args M Q=>∃ a0,args=[a0]∧gp x a0 M Q:=by
 intro M b o el l p n Q hh hl hQ
 refine⟨_,rfl, ?_⟩
 unfold gp
 rw[ah,ae,Nat.add_zero]
 exact hx hh hl hQ
section
variable {TD TF TU TC:Nat}
def zY (TD TF TU TC:Nat) (c:ay) : Prop:=∀ {own:aH} {M:RM} {db:Nat} {s:aT} {n:Int} {Q:aj},bn TD TF TU TC own M db s →
 (∀ own' M',bn TD TF TU TC own' M' db (uX s n)→Tr own M own' M'→Q (.tup []) M')→c [.ptr db 0,N .i64 n] M Q
theorem HV:zY TD TF TU TC fun args M Q=>∃ a0 a1,args=[a0,a1]∧jf a0 a1 M Q:=by
 intro own M db s n Q hd hQ
 obtain⟨fbs,nm,sm,cv,hd⟩:=hd
 refine⟨_,_,rfl, ?_⟩
 unfold jf
 rw[LQ,ah,ae]
 rw[Ce (i:=0 + 0) hd.row (by simp) rfl rfl]
 exact hQ own _ ⟨_,_,_,_,hd.row' (s':=uX s n) _ rfl hd.names hd.safe hd.chg hd.files⟩ (jl _ (by rw[hd.od]; simp))
theorem jO.put {own:aH} {M:RM} {fbs:List Nat} {i b:Nat} {v:AV} {f:fT} (h:jO TF TU own M fbs i b v f) (n:Nat) (hn:n≤f.1.length) :
  jO TF TU own (M.put b (.row [v,N .i64 (n:Int)] false TF 0)) fbs i b v (f.1,n):=by
 have hk:af [b] M (M.put b (.row [v,N .i64 (n:Int)] false TF 0)):=(af.refl _ _).put _ (.inr (by simp))
 refine⟨h.at_,h.lt,h.tg,aZ _,h.fb.keep hk (fun c hc hm=>?_),hn,h.blk⟩
 rw[List.mem_singleton] at hm
 have:=h.blk c hc
 rw[hm,h.tg] at this; cases this
theorem lg {own:aH} {b:Nat} {t u:Tag} (h:own b=some t) (hne:u≠t) : ∀ c∈[b],own c≠some u:=by
 intro c hc; rw[List.mem_singleton] at hc; subst hc; rw[h]; simpa using fun e=>hne e.symm
def CU (TD TF TU TC:Nat) (c:ay) : Prop:=∀ {own:aH} {M:RM} {db:Nat} {s:aT} {n:Nm} {Q:aj},bn TD TF TU TC own M db s →
 (∀ own' M',bn TD TF TU TC own' M' db (kw s n).1→Tr own M own' M'→Q (N .i64 (kw s n).2) M')→c [.ptr db 0,St n] M Q
theorem Je {ca:ay} (ha:yC ca) : CU TD TF TU TC fun args M Q=>∃ a0 a1,args=[a0,a1]∧jF ca a0 a1 M Q:=by
 intro own M db s n Q hd hQ
 have hd0:=hd
 obtain⟨fbs,nm,sm,cv,hd⟩:=hd
 refine⟨_,_,rfl, ?_⟩
 unfold jF
 rw[ah,ae,ag (i:=0 + 1) hd.row rfl]
 unfold kw at hQ
 refine iZ hd.names (fun hn=>?_) (fun f b hf hb=>?_)
 ·rw[hn] at hQ
  rw[dQ,Bool.not_false,jd]
  exact hQ own M hd0 (Tr.refl _ _)
 ·rw[hf] at hQ
  dsimp only at hQ
  rw[dJ,fE]
  obtain⟨fl,v,hfl,hat⟩:=hd.files.at hb
  have hff:dP s f=fl:=by unfold dP; rw[hfl]; rfl
  have hfi:=(List.getElem?_eq_some_iff.1 hfl).1
  rw[ah,ae,ag (i:=0 + 0) hat.heap rfl,aP.len hat.fb.sl,ah,ae,bA (i:=0 + 1) [v,N .i64 (fl.1.length:Int)] hat.heap (by simp) rfl rfl rfl]
  have h1:=hat.put fl.1.length (Nat.le_refl _)
  have hk:af [b] M (M.put b (.row [v,N .i64 (fl.1.length:Int)] false TF 0)):=(af.refl _ _).put _ (.inr (by simp))
  have ht:=hat.tg
  have hbd:b≠db:=fun e=>by rw[e,hd.od] at ht; cases ht
  have r1:=wV hd.row (c:=b) (z:=.row [v,N .i64 (fl.1.length:Int)] false TF 0) (fun e=>hbd e.symm)
  have t1:Tr own M own (M.put b (.row [v,N .i64 (fl.1.length:Int)] false TF 0)):=jl _ (by rw[ht]; simp)
  have n1:=hd.names.step hk (lg ht (by simp)) (fun _ h=>h)
  have s1:=hd.safe.step hk (lg ht (by simp)) (fun _ h=>h)
  have c1:=hd.chg.step hk (lg ht (by simp)) (fun _ h=>h)
  have f1:=hd.files.set hfi h1 hk (fun c hc j hj=>⟨lg ht (by simpa using hj) c hc,lg ht (by simp) c hc⟩) (fun _ _ _ _=>rfl)
  generalize M.put b (.row [v,N .i64 (fl.1.length:Int)] false TF 0)=M1 at *
  rw[ah,ae]
  refine ha r1 rfl ?_
  have hd1:dz TD TF TU TC own M1 db { s with files:=s.files.set f (fl.1,fl.1.length) } fbs nm sm cv:=⟨fun b hb=>Nat.lt_of_lt_of_le (hd.lt b hb) t1.next,hd.od,r1,n1,s1,c1,f1⟩
  rw[hff] at hQ
  exact hQ own _ ⟨_,_,_,_,hd1.row' (s' := { s with files:=s.files.set f (fl.1,fl.1.length),syn:=gB (s.syn + 1) }) _ rfl n1 s1 c1 f1⟩ (t1.trans (jl _ (by rw[hd.od]; simp)))
def FU (TU:Nat) (c:ay) : Prop:=Go.Ab.Dot.Mj TU 1 1 c
def CX (TD TF TU TC:Nat) (c:ay) : Prop:=∀ {own:aH} {M:RM} {db:Nat} {s:aT} {n:Nm} {Q:aj},bn TD TF TU TC own M db s→(∀ f∈s.files,f.1.length≤140737488355328) →
 (∀ v M',af [] M M'→Ow BY M' M.next TU v (rU s n).1→Q (.tup [v,N .i64 (rU s n).2]) M')→c [.ptr db 0,St n] M Q
theorem Jw {ck:ay} (hc:FU TU ck) : CX TD TF TU TC fun args M Q=>∃ a0 a1,args=[a0,a1]∧jE ck a0 a1 M Q:=by
 intro own M db s n Q hd hlen hQ
 obtain⟨fbs,nm,sm,cv,hd⟩:=hd
 refine⟨_,_,rfl, ?_⟩
 unfold jE
 rw[ah,ae,ag (i:=0 + 1) hd.row rfl]
 unfold rU at hQ
 refine iZ hd.names (fun hn=>?_) (fun f b hf hb=>?_)
 ·rw[hn] at hQ
  rw[dQ,Bool.not_false,jd]
  exact hQ _ M (af.refl _ _) .nil
 ·rw[hf] at hQ
  dsimp only at hQ
  rw[dJ,fE]
  obtain⟨fl,v,hfl,hat⟩:=hd.files.at hb
  have hff:dP s f=fl:=by unfold dP; rw[hfl]; rfl
  rw[hff] at hQ
  have:=hlen fl (List.mem_of_getElem? hfl)
  rw[ah,ae,ag (i:=0 + 0) hat.heap rfl]
  refine hc hat.fb.sl (BY.q9 _) (by omega) this fun v' M' o k=>?_
  exact hQ v' M' k o
def BQ (TD TF TU TC:Nat) (F:aT→Nm→aT × Int) (c:ay) : Prop:=∀ {own:aH} {M:RM} {db:Nat} {s:aT} {n:Nm} {Q:aj},bn TD TF TU TC own M db s→s.chg.length≤1000000000 →
 (∀ own' M',bn TD TF TU TC own' M' db (F s n).1→Tr own M own' M'→Q (N .i64 (F s n).2) M')→c [.ptr db 0,St n] M Q
theorem Fj {cc:ay} (hc:oJ TD TF TU TC cc) : BQ TD TF TU TC iN fun args M Q=>∃ a0 a1,args=[a0,a1]∧iO cc a0 a1 M Q:=by
 intro own M db s n Q hd hlen hQ
 have hd0:=hd
 obtain⟨fbs,nm,sm,cv,hd⟩:=hd
 refine⟨_,_,rfl, ?_⟩
 unfold iO
 rw[ah,ae,ag (i:=0 + 1) hd.row rfl]
 unfold iN at hQ
 refine iZ hd.names (fun hn=>?_) (fun f b hf hb=>?_)
 ·rw[hn] at hQ
  rw[dQ,Bool.not_false,jd]
  exact hQ own M hd0 (Tr.refl _ _)
 ·rw[hf] at hQ
  dsimp only at hQ
  rw[dJ,fE,gU]
  refine⟨_,rfl, ?_⟩
  exact hc (ch:=([],none,n)) hd (fun f hf=>by cases hf) hlen fun own' M' h1 h2=>hQ own' M' h1 h2
def vO (TD TF TU TC:Nat) (c:ay) : Prop:=∀ {own:aH} {M:RM} {db:Nat} {s:aT} {n to:Nm} {Q:aj},bn TD TF TU TC own M db s→s.chg.length≤1000000000 →
 (∀ own' M',bn TD TF TU TC own' M' db (jm s n to).1→Tr own M own' M'→Q (N .i64 (jm s n to).2) M')→c [.ptr db 0,St n,St to] M Q
theorem EN {cg cc:ay} (hg:Da cg) (hc:oJ TD TF TU TC cc) : vO TD TF TU TC fun args M Q=>∃ a0 a1 a2,args=[a0,a1,a2]∧iP cg cc a0 a1 a2 M Q:=by
 intro own M db s n to Q hd hlen hQ
 have hd0:=hd
 obtain⟨fbs,nm,sm,cv,hd⟩:=hd
 refine⟨_,_,_,rfl, ?_⟩
 unfold iP
 rw[ah,ae,ag (i:=0 + 1) hd.row rfl]
 unfold jm at hQ
 refine iZ hd.names (fun hn=>?_) (fun f b hf hb=>?_)
 ·rw[hn] at hQ
  rw[dQ,Bool.not_false,jd]
  exact hQ own M hd0 (Tr.refl _ _)
 ·rw[hf] at hQ
  dsimp only at hQ
  rw[dJ,fE]
  refine hg fun M1 k1=>?_
  rw[jW]
  have hd1:=hd.keep k1
  refine bN (fun hgd=>?_) (fun hgd=>?_)
  ·have hgd:dU to=false:=by simpa using hgd
   rw[if_pos hgd] at hQ
   exact hQ own M1 ⟨_,_,_,_,hd1⟩ (Tr.keep k1)
  ·have hgd:dU to=true:=by simpa using hgd
   rw[if_neg (by rw[hgd]; simp)] at hQ
   rw[gU]
   refine⟨_,rfl, ?_⟩
   have e:(.agg [St to,.ptr b 0,St n] : AV)=.agg (eO.cells (dZ fbs (to,some f,n))):=by simp only[dZ,Option.bind_some,hb]; rfl
   show cc [.ptr db 0,.agg [St to,.ptr b 0,St n]] M1 _
   rw[e]
   exact hc (ch:=(to,some f,n)) hd1 (fun g hg=>by cases hg; exact(List.getElem?_eq_some_iff.1 hb).1) hlen fun own' M' h1 h2=>hQ own' M' h1 ((Tr.keep k1).trans h2)
theorem CL {l:List Nat} {x:Nat} : ∀ i b:Nat,l[i]?=some b→(l++[x])[i]?=some b:=by
 intro i b h
 rw[List.getElem?_append_left (List.getElem?_eq_some_iff.1 h).1]; exact h
theorem dz.La {own:aH} {M:RM} {db:Nat} {s:aT} {fbs:List Nat} {nm sm:Nat} {cv:AV} (h:dz TD TF TU TC own M db s fbs nm sm cv) :
  dz TD TF TU TC (upd own M.next (.file s.files.length)) (M.push (.row [aR,N .i64 0] false TF 0)) db { s with files:=s.files++[([],0)] } (fbs++[M.next]) nm sm cv ∧
  Tr own M (upd own M.next (.file s.files.length)) (M.push (.row [aR,N .i64 0] false TF 0)):=by
 have hk:af [] M (M.push (.row [aR,N .i64 0] false TF 0)):=(af.refl _ _).push _
 have hn:own M.next=none:=by
  rcases ho:own M.next with _ | t
  ·rfl
  ·exact absurd (h.lt M.next (by rw[ho]; simp)) (Nat.lt_irrefl _)
 have hs:∀ {b:Nat} {t:Tag},own b=some t→upd own M.next (.file s.files.length) b=some t:=by
  intro b t hb
  rw[upd_ne (fun e=>by rw[e,hn] at hb; cases hb),hb]
 have hg:=CL (l:=fbs) (x:=M.next)
 have hd:=h.keep hk
 refine⟨⟨fun b hb=>?_,hs h.od,hd.row,((hd.names.step (af.refl [] _) (by simp) (fun _ h=>hs h)).grow hg),((hd.safe.step (af.refl [] _) (by simp) (fun _ h=>hs h)).grow hg),
  ((hd.chg.step (af.refl [] _) (by simp) (fun _ h=>hs h)).grow hg (by simp)), ?_⟩,[],hk,by simp,fun b hb ho=>by rw[upd_ne (by omega)]; exact ho⟩
 ·by_cases e:b=M.next
  ·rw[e,aU]; omega
  ·rw[upd_ne e] at hb
   exact Nat.lt_of_lt_of_le (h.lt b hb) hk.next
 ·have hf:=hd.files.step (own':=upd own M.next (.file s.files.length)) (af.refl [] _) (by simp) (fun b i h=>by rcases h with h | h <;> rw[hs h,h])
  refine⟨by simp[hf.len],fun i f hi=>?_⟩
  rcases Nat.lt_or_ge i s.files.length with hlt | hge
  ·rw[List.getElem?_append_left hlt] at hi
   obtain⟨b,v,h1⟩:=hf.file i f hi
   exact⟨b,v,hg _ _ h1.at_,h1.lt,h1.tg,h1.heap,h1.fb,h1.le,h1.blk⟩
  ·rw[List.getElem?_append_right hge] at hi
   have hi0:i - s.files.length=0:=by
    have:=(List.getElem?_eq_some_iff.1 hi).1
    simp at this; omega
   rw[hi0] at hi
   cases hi
   have hi:i=s.files.length:=by omega
   subst hi
   refine⟨M.next,aR, ?_,by rw[aU]; omega,mP,RM.bi _,.nil,Nat.le_refl _,by simp[az]⟩
   rw[← h.files.len]; simp
theorem Fp {cg cc:ay} (hg:Da cg) (hc:oJ TD TF TU TC cc) : BQ TD TF TU TC dE fun args M Q=>∃ a0 a1,args=[a0,a1]∧iR cg TF cc a0 a1 M Q:=by
 intro own M db s n Q hd hlen hQ
 obtain⟨fbs,nm,sm,cv,hd⟩:=hd
 refine⟨_,_,rfl, ?_⟩
 unfold iR
 unfold dE at hQ
 refine hg fun M1 k1=>?_
 rw[jW]
 have hd1:=hd.keep k1
 refine bN (fun hgd=>?_) (fun hgd=>?_)
 ·have hgd:dU n=false:=by simpa using hgd
  rw[if_pos hgd] at hQ
  exact hQ own M1 ⟨_,_,_,_,hd1⟩ (Tr.keep k1)
 ·have hgd:dU n=true:=by simpa using hgd
  rw[if_neg (by rw[hgd]; simp)] at hQ
  rw[ah,ae,ag (i:=0 + 1) hd1.row rfl]
  refine iZ hd1.names (fun hn=>?_) (fun f b hf hb=>?_)
  ·rw[hn] at hQ
   rw[if_neg (by simp)] at hQ
   rw[dQ,Bool.not_true,fE,gU]
   refine⟨_,rfl, ?_⟩
   rw[kF rfl (by simp),aY,gU]
   refine⟨_,rfl, ?_⟩
   obtain⟨hd2,t2⟩:=hd1.La
   have hl:(fbs++[M1.next])[s.files.length]?=some M1.next:=by rw[← hd1.files.len]; simp
   have e:(.agg [St n,.ptr M1.next 0,St []] : AV)=.agg (eO.cells (dZ (fbs++[M1.next]) (n,some s.files.length,[]))):=by
    simp only[dZ,Option.bind_some,hl]; rfl
   show cc [.ptr db 0,.agg [St n,.ptr M1.next 0,St []]] _ _
   rw[e]
   exact hc (ch:=(n,some s.files.length,[])) hd2 (fun g hg=>by cases hg; exact(List.getElem?_eq_some_iff.1 hl).1) hlen fun own' M' h1 h2=>hQ own' M' h1 ((Tr.keep k1).trans (t2.trans h2))
  ·rw[hf] at hQ
   rw[if_pos (by simp)] at hQ
   rw[dJ,jd]
   exact hQ own M1 ⟨_,_,_,_,hd1⟩ (Tr.keep k1)
end
section
variable {TD TF TU TC:Nat}
def kG (n:Int) : aT:=⟨[],[],[],[],n,0,0⟩
def Gd (TD TF TU TC:Nat) (c:ay) : Prop:=∀ {M:RM} {n:Int} {Q:aj},(n<0→Q (.tup [uR,N .i64 1]) M) →
 (¬ n<0→∀ own M' db,bn TD TF TU TC own M' db (kG n)→(∀ b,b<M.next→own b=none)→af [] M M'→Q (.tup [.ptr db 0,N .i64 0]) M')→c [N .i64 n] M Q
theorem J5:Gd TD TF TU TC fun args M Q=>∃ a0,args=[a0]∧mW TD a0 M Q:=by
 intro M n Q h1 h2
 refine⟨_,rfl, ?_⟩
 unfold mW
 rw[dN]
 refine bN (fun hc=>h1 (of_decide_eq_true hc)) (fun hc=>?_)
 rw[aY,aY,gU]
 refine⟨_,rfl, ?_⟩
 rw[kF rfl (by show 1≤6; decide),aY]
 have k1:af [] M (((M.push (.map [] 0)).push (.map [] 0)).push (.row [N .i64 n,.map M.next,.map (M.next + 1),aR,N .i64 0,N .i64 0] false TD 0)):=(((af.refl _ _).push _).push _).push _
 refine h2 (of_decide_eq_false hc) (upd (upd (upd (fun _=>none) M.next .names) (M.next + 1) .safe) (M.next + 2) .disk) _ _ ?_ ?_ k1
 ·have e1:(((M.push (.map [] 0)).push (.map [] 0)).push (.row [N .i64 n,.map M.next,.map (M.next + 1),aR,N .i64 0,N .i64 0] false TD 0)).heap M.next=some (.map [] 0) :=
   oU (oU (RM.bi _) (by rw[aU]; omega)) (by rw[aU,aU]; omega)
  have e2:(((M.push (.map [] 0)).push (.map [] 0)).push (.row [N .i64 n,.map M.next,.map (M.next + 1),aR,N .i64 0,N .i64 0] false TD 0)).heap (M.next + 1)=some (.map [] 0) :=
   oU (RM.bi _) (by rw[aU,aU]; omega)
  have o1:(upd (upd (upd (fun _=>none) M.next .names) (M.next + 1) .safe) (M.next + 2) .disk) M.next=some .names:=by
   rw[upd_ne (by omega),upd_ne (by omega),mP]
  have o2:(upd (upd (upd (fun _=>none) M.next .names) (M.next + 1) .safe) (M.next + 2) .disk) (M.next + 1)=some .safe:=by
   rw[upd_ne (by omega),mP]
  refine⟨[],M.next,M.next + 1,aR,fun b hb=>?_,mP,RM.bi _,⟨o1,by rw[aU,aU,aU]; omega,[],0,e1,trivial⟩,⟨o2,by rw[aU,aU,aU]; omega,[],0,e2,trivial⟩,.nil,⟨rfl,fun i f h=>by simp[kG] at h⟩⟩
  simp only[upd] at hb
  rw[aU,aU,aU]
  split at hb
  ·omega
  ·split at hb
   ·omega
   ·split at hb
    ·omega
    ·simp at hb
 ·intro b hb
  rw[upd_ne (by omega),upd_ne (by omega),upd_ne (by omega)]
def vW (c:ay) : Prop:=∀ {M:RM} {m cl:Nat} {es:List (AV × AV × Nat)} {Q:aj},M.heap m=some (.map es cl)→Q (.map M.next) (M.push (.map es cl))→c [.map m] M Q
def F7 (T:Nat) (c:ay) : Prop:=∀ {M:RM} {m cl:Nat} {es:List (AV × AV × Nat)} {Q:aj},M.heap m=some (.map es cl)→Q (.ifc T (.map M.next)) (M.push (.map es cl))→c [.ifc T (.map m)] M Q
theorem Fg {T:Nat} {x:ay} (hx:F7 T x) : vW fun args M Q=>∃ a0,args=[a0]∧bE T x a0 M Q:=by
 intro M m cl es Q hh hQ
 refine⟨_,rfl, ?_⟩
 unfold bE
 rw[BN,fE]
 exact hx hh ⟨_,rfl,hQ⟩
theorem fresh {own:aH} {M:RM} (h:∀ b,own b≠none→b<M.next) : own M.next=none:=by
 rcases ho:own M.next with _ | t
 ·rfl
 ·exact absurd (h M.next (by rw[ho]; simp)) (Nat.lt_irrefl _)
def sS (TD TF TU TC:Nat) (c:ay) : Prop:=∀ {own:aH} {M:RM} {db:Nat} {s:aT} {Q:aj},bn TD TF TU TC own M db s →
 (∀ own' M',bn TD TF TU TC own' M' db (fZ s)→Tr own M own' M'→Q (N .i64 0) M')→c [.ptr db 0] M Q
theorem dz.copy {own:aH} {M:RM} {db:Nat} {s:aT} {fbs:List Nat} {nm sm m:Nat} {cv:AV} {es:List (AV × AV × Nat)} {cl:Nat} (h:dz TD TF TU TC own M db s fbs nm sm cv) (he:dS fbs cl 0 es s.dir) :
  dz TD TF TU TC (upd own M.next .safe) ((M.push (.map es cl)).put db (.row [N .i64 s.aJ,.map nm,.map M.next,cv,N .i64 s.app,N .i64 s.syn] false TD 0)) db { s with aS:=s.dir } fbs nm M.next cv ∧
  Tr own M (upd own M.next .safe) ((M.push (.map es cl)).put db (.row [N .i64 s.aJ,.map nm,.map M.next,cv,N .i64 s.app,N .i64 s.syn] false TD 0)):=by
 have k1:af [] M (M.push (.map es cl)):=(af.refl _ _).push _
 have hn:=fresh h.lt
 have hs:∀ {b:Nat} {t:Tag},own b=some t→upd own M.next .safe b=some t:=by
  intro b t hb
  rw[upd_ne (fun e=>by rw[e,hn] at hb; cases hb),hb]
 have hm:MapAt (upd own M.next .safe) (M.push (.map es cl)) fbs M.next s.dir .safe:=⟨mP,by rw[aU]; omega,es,cl,RM.bi _,he⟩
 have hd:=h.keep k1
 have hd1:dz TD TF TU TC (upd own M.next .safe) (M.push (.map es cl)) db s fbs nm sm cv:=by
  refine⟨fun b hb=>?_,hs h.od,hd.row,hd.names.step (af.refl [] _) (by simp) (fun _ h=>hs h),hd.safe.step (af.refl [] _) (by simp) (fun _ h=>hs h),hd.chg.step (af.refl [] _) (by simp) (fun _ h=>hs h),
   hd.files.step (af.refl [] _) (by simp) (fun b i h=>by rcases h with h | h <;> rw[hs h,h])⟩
  by_cases e:b=M.next
  ·rw[e,aU]; omega
  ·rw[upd_ne e] at hb
   exact Nat.lt_of_lt_of_le (h.lt b hb) k1.next
 have t1:Tr own M (upd own M.next .safe) (M.push (.map es cl)):=⟨[],k1,by simp,fun b hb ho=>by rw[upd_ne (by omega)]; exact ho⟩
 exact⟨hd1.row' (s' := { s with aS:=s.dir }) _ rfl hd1.names hm hd1.chg hd1.files,t1.trans (jl _ (by rw[hd1.od]; simp))⟩
theorem dz.calm {own:aH} {M:RM} {db:Nat} {s:aT} {fbs:List Nat} {nm sm:Nat} {cv:AV} (h:dz TD TF TU TC own M db s fbs nm sm cv) :
  dz TD TF TU TC own (M.put db (.row [N .i64 s.aJ,.map nm,.map sm,aR,N .i64 s.app,N .i64 s.syn] false TD 0)) db { s with chg:=[] } fbs nm sm aR :=
 h.row' (s' := { s with chg:=[] }) _ rfl h.names h.safe .nil h.files
theorem DU {cm ca:ay} (hm:vW cm) (ha:yC ca) : sS TD TF TU TC fun args M Q=>∃ a0,args=[a0]∧ic cm ca a0 M Q:=by
 intro own M db s Q hd hQ
 obtain⟨fbs,nm,sm,cv,hd⟩:=hd
 refine⟨_,rfl, ?_⟩
 unfold ic
 rw[ah,ae,ag (i:=0 + 1) hd.row rfl]
 obtain⟨es,cl,hh,he⟩:=hd.names.heap
 refine hm hh ?_
 have k1:af [] M (M.push (.map es cl)):=(af.refl _ _).push _
 obtain⟨hd2,t2⟩:=hd.copy (m:=nm) he
 rw[ah,ae,bA (i:=0 + 2) [N .i64 s.aJ,.map nm,.map M.next,cv,N .i64 s.app,N .i64 s.syn] (k1.bC hd.row hd.xL (by simp)) (by simp) rfl rfl rfl]
 generalize (M.push (.map es cl)).put db (.row [N .i64 s.aJ,.map nm,.map M.next,cv,N .i64 s.app,N .i64 s.syn] false TD 0)=M2 at *
 have hd3:=hd2.calm
 rw[ah,ae,bA (i:=0 + 3) [N .i64 s.aJ,.map nm,.map M.next,aR,N .i64 s.app,N .i64 s.syn] hd2.row (by simp) rfl rfl rfl]
 have t3:Tr (upd own M.next .safe) M2 (upd own M.next .safe) (M2.put db (.row [N .i64 s.aJ,.map nm,.map M.next,aR,N .i64 s.app,N .i64 s.syn] false TD 0)):=jl _ (by rw[hd2.od]; simp)
 dsimp only at hd3
 generalize M2.put db (.row [N .i64 s.aJ,.map nm,.map M.next,aR,N .i64 s.app,N .i64 s.syn] false TD 0)=M3 at *
 rw[ah,ae]
 refine ha (o:=0 + 5) hd3.row rfl ?_
 exact hQ _ _ ⟨_,_,_,_,hd3.row' (s':=fZ s) _ rfl hd3.names hd3.safe hd3.chg hd3.files⟩ ((t2.trans t3).trans (jl _ (by rw[hd3.od]; simp)))
def kD (fs:List fT) (seen:List Nat) : List (AV × AV × Nat)→Dir→Nat
 | e :: es,d :: ds=>(if e.2.2∈seen then(fs[d.2]?.getD ([],0)).1.length else 0) + kD fs seen es ds
 | _,_=>0
def qj (seen:List Nat) : List (AV × AV × Nat)→Nat
 | []=>0
 | e :: es=>(if e.2.2∈seen then 0 else 1) + qj seen es
section
variable {fbs:List Nat} {cl:Nat} {fs:List fT}
theorem FK (seen:List Nat) : ∀ {es:List (AV × AV × Nat)} {d:Dir} {lo:Nat},dS fbs cl lo es d→kD fs seen es d≤tot fs d
 | [],[],_,_=>Nat.le_refl _
 | e :: es,_ :: d,_,⟨_,_,_,_,h⟩=>by
   have:=FK seen h
   simp only[kD,tot]; split <;> omega
theorem Eb (seen:List Nat) : ∀ {es:List (AV × AV × Nat)} {d:Dir} {lo:Nat},dS fbs cl lo es d→(∀ e∈es,e.2.2∈seen)→kD fs seen es d=tot fs d
 | [],[],_,_,_=>rfl
 | e :: es,_ :: d,_,⟨_,_,_,_,h⟩,ha=>by
   have:=Eb seen h (fun e he=>ha e (List.mem_cons_of_mem _ he))
   simp only[kD,tot,if_pos (ha e (List.mem_cons_self ..)),this]
theorem DT:∀ {es:List (AV × AV × Nat)} {d:Dir},kD fs [] es d=0
 | [],_=>by cases ‹Dir› <;> rfl
 | e :: es,[]=>rfl
 | e :: es,d :: ds=>by simp[kD,DT (es:=es)]
theorem Fz (seen:List Nat) (k:Nat) : ∀ {es:List (AV × AV × Nat)} {d:Dir} {lo:Nat},dS fbs cl lo es d→k<lo→kD fs (seen++[k]) es d=kD fs seen es d∧qj (seen++[k]) es=qj seen es
 | [],[],_,_,_=>⟨rfl,rfl⟩
 | e :: es,_ :: d,lo,⟨_,_,h1,_,h⟩,hk=>by
   obtain⟨a1,a2⟩:=Fz seen k h (by omega)
   have:(e.2.2∈seen++[k])=(e.2.2∈seen):=by
    simp only[List.mem_append,List.mem_singleton,eq_iff_iff]
    exact⟨fun h=>h.resolve_right (by omega),.inl⟩
   simp only[kD,qj,a1,a2,this,and_self]
theorem yT (seen:List Nat) : ∀ {es:List (AV × AV × Nat)} {d:Dir} {lo:Nat},dS fbs cl lo es d→∀ n∈es,n.2.2 ∉ seen →
  ∃ (f b:Nat),fbs[f]?=some b∧n.2.1=.ptr b 0∧es.find? (fun e=>e.2.2 == n.2.2)=some n∧lo≤n.2.2∧n.2.2<cl∧kD fs (seen++[n.2.2]) es d=kD fs seen es d + (fs[f]?.getD ([],0)).1.length∧qj (seen++[n.2.2]) es<qj seen es
 | [],[],_,_,n,hn,_=>by cases hn
 | e :: es,x :: d,lo,⟨h0,⟨b,h1,h2⟩,h3,h4,h⟩,n,hn,hs=>by
   rcases List.mem_cons.1 hn with rfl | hn
   ·obtain⟨a1,a2⟩:=Fz (fs:=fs) seen n.2.2 h (by omega)
    refine⟨x.2,b,h1,h2,by simp,h3,h4, ?_, ?_⟩
    ·simp only[kD,a1,List.mem_append,List.mem_singleton,or_true,if_true,if_neg hs]; omega
    ·simp only[qj,a2,List.mem_append,List.mem_singleton,or_true,if_true,if_neg hs]; omega
   ·obtain⟨f,b',q1,q2,q3,q4,q5,q6,q7⟩:=yT seen h n hn hs
    have hne:e.2.2≠n.2.2:=by omega
    have:(e.2.2∈seen++[n.2.2])=(e.2.2∈seen):=by
     simp only[List.mem_append,List.mem_singleton,eq_iff_iff]
     exact⟨fun h=>h.resolve_right hne,.inl⟩
    refine⟨f,b',q1,q2, ?_,by omega,q5, ?_, ?_⟩
    ·rw[List.find?_cons_of_neg (by simpa using hne)]; exact q3
    ·simp only[kD,q6,this]; omega
    ·simp only[qj,this]; omega
end
def Au (TD TF TU TC:Nat) (c:ay) : Prop:=∀ {own:aH} {M:RM} {db:Nat} {s:aT} {Q:aj},bn TD TF TU TC own M db s→tot s.files s.dir<4611686018427387904 →
 (∀ M',af [] M M'→Q (N .i64 (tot s.files s.dir:Int)) M')→c [.ptr db 0] M Q
theorem Ia:Au TD TF TU TC fun args M Q=>∃ a0,args=[a0]∧jg a0 M Q:=by
 intro own M db s Q hd hlen hQ
 obtain⟨fbs,nm,sm,cv,hd⟩:=hd
 refine⟨_,rfl, ?_⟩
 unfold jg
 rw[ah,ae,ag (i:=0 + 1) hd.row rfl]
 obtain⟨es,cl,hh,he⟩:=hd.names.heap
 refine⟨nm,es,cl,rfl,hh, ?_⟩
 have hnl:=hd.names.lt
 have k1:af [] M (M.push (.iter (some nm) cl [] cl)):=(af.refl _ _).push _
 refine dX (fun z ys M'=>∃ seen,z=qj seen es∧ys=[N .i64 (kD s.files seen es s.dir:Int)]∧af [] M M'∧M.next<M'.next∧M'.heap M.next=some (.iter (some nm) cl seen cl)) (qj [] es)
  ⟨[],rfl,by rw[DT]; rfl,k1,by rw[aU]; omega,RM.bi _⟩ ?_
 rintro next z ys M' hnext ⟨seen,rfl,rfl,k2,n2,h2⟩
 dsimp only[aG]
 have hm:=k2.bC hh hnl (by simp)
 refine⟨M.next,nm,cl,seen,cl,es,cl,rfl,h2,hm, ?_,fun n hn hs=>?_,fun ha=>?_⟩
 ·cases es with
  | nil=>exact .inr (.inl rfl)
  | cons e es =>
    refine .inr (.inr ⟨e,List.mem_cons_self .., ?_⟩)
    cases hdd:s.dir with
    | nil=>rw[hdd] at he; exact he.elim
    | cons x d=>rw[hdd] at he; exact he.2.2.2.1
 ·obtain⟨f,b,q1,q2,q3,q4,q5,q6,q7⟩:=yT (fs:=s.files) seen he n hn hs
  rw[mq,jd]
  have k3:af [] M (M'.put M.next (.iter (some nm) cl (seen++[n.2.2]) cl)):=k2.put _ (.inl (Nat.le_refl _))
  have h3:(M'.put M.next (.iter (some nm) cl (seen++[n.2.2]) cl)).heap M.next=some (.iter (some nm) cl (seen++[n.2.2]) cl):=aZ _
  have hm3:=k3.bC hh hnl (by simp)
  refine⟨M.next,nm,cl,seen,es,cl,n.2.2,n,rfl,h3,hm3,q3, ?_⟩
  dsimp only
  rw[nO,q2,ah,ae]
  obtain⟨fl,v,hfl,hat⟩:=(hd.keep k3).files.at q1
  rw[hfl] at q6
  have hle:=FK (fs:=s.files) (seen++[n.2.2]) he
  simp only[Option.getD_some] at q6
  rw[ag (i:=0 + 0) hat.heap rfl,aP.len hat.fb.sl,addN (by omega),← q6]
  exact hnext _ _ _ q7 ⟨_,rfl,rfl,k3,n2,h3⟩
 ·dsimp only
  rw[mq,fE]
  rw[Eb (fs:=s.files) seen he (fun e hm2=>?_)]
  ·exact hQ M' k2
  ·rcases Classical.em (e.2.2∈seen) with h | h
   ·exact h
   ·have:=ha e hm2 h
    obtain⟨f,b,q1,q2,q3,q4,q5,q6,q7⟩:=yT (fs:=s.files) seen he e hm2 h
    omega
theorem Me {M:RM} {TU:Nat} {v u:AV} {xs ys:List UInt8} {K:aj} (h:FB M TU v xs) (hu:Sl BY M u ys) (hn:xs.length + ys.length≤140737488355328)
  (hK:∀ v' M',FB M' TU v' (xs++ys)→af (az v) M M'→(v'=v∨∀ b∈az v',M.next≤b)→K v' M') : appW TU 1 1 [(N .u8 0)] false v u M K:=by
 have own:∀ {w:AV} {M' : RM},Ow BY M' 0 TU w (xs++ys)→FB M' TU w (xs++ys):=by
  intro w M' ho
  generalize hz:xs++ys=zs at *
  unfold Ow at ho
  generalize hl:zs.length=n at ho
  generalize hr:BY.row zs=cs at ho
  cases ho with
  | nil =>
    have:zs=[]:=List.length_eq_zero_iff.1 hl
    rw[this]; exact .nil
  | ex0 b o h1 h2 h3 =>
    obtain⟨l,h4,h5⟩:=h3
    exact .ex b o 0 zs h2 (by rw[hr]; exact kY h4 h5) hl
  | op b n cs h1 h2 h3 h4 =>
    subst hl
    exact .op b zs h2 (by rw[hr]; exact h3)
 cases h with
 | nil=>exact jq (E:=BY) (base:=0) (xs:=[]) .nil (Nat.zero_le _) (by decide) hu (by omega) hn fun v' M' h1 h2 h3 h4=>hK v' M' (own h1) h2 h4
 | op b xs hl hh =>
   exact jq (E:=BY) (base:=0) (xs:=xs) (.op b xs.length _ (Nat.zero_le _) hl hh (by rw[BY.dY])) (Nat.zero_le _) (by decide) hu (by omega) hn fun v' M' h1 h2 h3 h4=>hK v' M' (own h1) h2 h4
 | ex b o n xs hl hh h2 =>
   subst h2
   refine⟨ys.length,BY.row ys,aP.mV hu _,by omega,by omega, ?_⟩
   simp only[qp]
   by_cases h0:ys.length=0
   ·rw[if_pos h0,if_pos (Nat.le_refl _)]
    refine⟨_,_,rfl,hK _ _ ?_ (af.refl _ _) (.inl rfl)⟩
    rw[List.length_eq_zero_iff.1 h0,List.append_nil]
    exact .ex b o xs.length xs hl hh rfl
   ·rw[if_neg h0,if_neg (by omega),Nat.mul_one,hh]
    have h1:((BY.row xs++BY.row ys).all oneCell)=true:=by rw[List.all_append,BY.q9,BY.q9]; rfl
    dsimp only
    rw[if_pos ⟨by omega,hn,h1⟩]
    refine⟨_,_,rfl,hK _ _ ?_ ((af.refl _ _).push _) (.inr (by simp[az]))⟩
    have e:xs.length + ys.length=(xs++ys).length:=by simp
    rw[e,← BY.Ar]
    exact .op M.next (xs++ys) (by rw[aU]; omega) (RM.bi _)
def wD (TD TF TU TC:Nat) (c:ay) : Prop:=∀ {own:aH} {M:RM} {db:Nat} {s:aT} {n:Nm} {v:AV} {b:List UInt8} {Q:aj},bn TD TF TU TC own M db s→Sl BY M v b→tot s.files s.dir<4611686018427387904→0≤s.aJ→s.aJ<9223372036854775808 →
 (∀ f∈s.files,f.1.length + b.length≤140737488355328) →
 (∀ own' M',bn TD TF TU TC own' M' db (dF s n b).1→Tr own M own' M'→Q (N .i64 (dF s n b).2) M')→c [.ptr db 0,St n,v] M Q
theorem Fs {ct ca:ay} (ht:Au TD TF TU TC ct) (ha:yC ca) : wD TD TF TU TC fun args M Q=>∃ a0 a1 a2,args=[a0,a1,a2]∧iG ct TU ca a0 a1 a2 M Q:=by
 intro own M db s n u ys Q hd hu htot hq0 hq1 hlen hQ
 have hd0:=hd
 obtain⟨fbs,nm,sm,cv,hd⟩:=hd
 refine⟨_,_,_,rfl, ?_⟩
 unfold iG
 rw[ah,ae,ag (i:=0 + 1) hd.row rfl]
 unfold dF at hQ
 refine iZ hd.names (fun hn=>?_) (fun f b hf hb=>?_)
 ·rw[hn] at hQ
  rw[dQ,Bool.not_false,jd]
  exact hQ own M hd0 (Tr.refl _ _)
 ·rw[hf] at hQ
  dsimp only at hQ
  rw[dJ,fE,aP.len hu,ah,ae,ag (i:=0 + 0) hd.row rfl]
  refine ht hd0 htot fun M1 k1=>?_
  have hd1:=hd.keep k1
  have hu1:Sl BY M1 u ys:=aP.keep hu k1 (by simp)
  rw[ag (i:=0 + 0) hd1.row rfl]
  refine⟨rfl, ?_⟩
  rw[yX,jv (by omega) (by omega),yS]
  refine bN (fun hc=>?_) (fun hc=>?_)
  ·have hc:=of_decide_eq_true hc
   rw[if_pos hc] at hQ
   exact hQ own M1 ⟨_,_,_,_,hd1⟩ (Tr.keep k1)
  ·have hc:=of_decide_eq_false hc
   rw[if_neg hc] at hQ
   obtain⟨fl,v,hfl,hat⟩:=hd1.files.at hb
   have hff:dP s f=fl:=by unfold dP; rw[hfl]; rfl
   have hfi:=(List.getElem?_eq_some_iff.1 hfl).1
   rw[hff] at hQ
   rw[ah,ae,ag (i:=0 + 0) hat.heap rfl]
   refine Me hat.fb hu1 (hlen fl (List.mem_of_getElem? hfl)) fun v' M2 fb2 k2 hv=>?_
   let own' : aH:=fun b=>if b∈az v' then some (.bytes f) else own b
   have hlt1:∀ b,own b≠none→b<M1.next:=hd1.lt
   have hsame:∀ b,own b≠none→own b≠some (.bytes f)→own' b=own b:=by
    intro b hb hb2
    show(if b∈az v' then some (Tag.bytes f) else own b)=own b
    rw[if_neg]
    intro hm
    rcases hv with rfl | hv
    ·exact hb2 (hat.blk b hm)
    ·have:=hv b hm; have:=hlt1 b hb; omega
   have hsome:∀ {t:Tag} {b:Nat},own b=some t→t≠.bytes f→own' b=some t:=by
    intro t b hb ht
    rw[hsame b (by rw[hb]; simp) (by rw[hb]; simpa using ht),hb]
   have hbt:∀ t:Tag,t≠.bytes f→∀ c∈az v,own c≠some t:=by
    intro t ht c hc; rw[hat.blk c hc]; simpa using fun e=>ht e.symm
   have hlt2:∀ b,own' b≠none→b<M2.next:=by
    intro b hb
    by_cases hm:b∈az v'
    ·exact fb2.Mo b hm
    ·have:own' b=own b:=if_neg hm
     rw[this] at hb; have:=hlt1 b hb; have:=k2.next; omega
   have hbs:=hat.tg
   have hb2:=k2.bC hat.heap hat.lt (fun hm=>hbt _ (by simp) b hm hbs)
   rw[ah,ae,bA (i:=0 + 0) [v',N .i64 (fl.2:Int)] hb2 (by simp) fb2.one.2.1 fb2.one.1 rfl]
   have k3:af [b] M2 (M2.put b (.row [v',N .i64 (fl.2:Int)] false TF 0)):=(af.refl _ _).put _ (.inr (by simp))
   have k23:af (b :: az v) M1 (M2.put b (.row [v',N .i64 (fl.2:Int)] false TF 0)):=(k2.mono (fun c hc=>List.mem_cons_of_mem _ hc)).put _ (.inr (by simp))
   have hin:∀ t:Tag,t≠.bytes f→t≠.file f→∀ c∈b :: az v,own c≠some t:=by
    intro t h1 h2 c hc
    rcases List.mem_cons.1 hc with rfl | hc
    ·rw[hbs]; simpa using fun e=>h2 e.symm
    ·exact hbt t h1 c hc
   have O9:jO TF TU own' (M2.put b (.row [v',N .i64 (fl.2:Int)] false TF 0)) fbs f b v' (fl.1++ys,fl.2):=by
    refine⟨hat.at_,Nat.lt_of_lt_of_le hat.lt k23.next,hsome hbs (by simp),aZ _,fb2.keep k3 (fun c hc hm=>?_),by have:=hat.le; simp only[List.length_append]; omega,fun c hc=>if_pos hc⟩
    rw[List.mem_singleton] at hm
    have:own' c=some (.bytes f):=if_pos hc
    rw[hm,hsome hbs (by simp)] at this; cases this
   have f3:=hd1.files.set (own':=own') hfi O9 k23 (fun c hc j hj=>⟨hin _ (by simp) (by simpa using hj) c hc,hin _ (by simpa using hj) (by simp) c hc⟩)
    (fun c j hj h=>by rcases h with h | h <;> rw[hsome h (by first | (simp; done) | simpa using hj),h])
   have r3:=k23.bC hd1.row hd1.xL (fun hm=>hin .disk (by simp) (by simp) _ hm hd.od)
   have n3:=hd1.names.step (own':=own') k23 (hin _ (by simp) (by simp)) (fun c h=>hsome h (by simp))
   have s3:=hd1.safe.step (own':=own') k23 (hin _ (by simp) (by simp)) (fun c h=>hsome h (by simp))
   have c3:=hd1.chg.step (own':=own') k23 (hin _ (by simp) (by simp)) (fun c h=>hsome h (by simp))
   have hlt3:∀ c,own' c≠none→c<(M2.put b (.row [v',N .i64 (fl.2:Int)] false TF 0)).next:=hlt2
   have t3:Tr own M1 own' (M2.put b (.row [v',N .i64 (fl.2:Int)] false TF 0)):=by
    refine⟨_,k23,fun c hc=>?_,fun c hc ho=>?_⟩
    ·rcases List.mem_cons.1 hc with rfl | hc
     ·rw[hbs]; simp
     ·rw[hat.blk c hc]; simp
    ·show(if c∈az v' then some (Tag.bytes f) else own c)=none
     rw[if_neg,ho]
     intro hm
     rcases hv with rfl | hv
     ·rw[hat.blk c hm] at ho; cases ho
     ·have:=hv c hm; omega
   generalize M2.put b (.row [v',N .i64 (fl.2:Int)] false TF 0)=M3 at *
   rw[ah,ae]
   refine ha (o:=0 + 4) r3 rfl ?_
   have hd3:dz TD TF TU TC own' M3 db { s with files:=s.files.set f (fl.1++ys,fl.2) } fbs nm sm cv:=⟨hlt3,hsome hd.od (by simp),r3,n3,s3,c3,f3⟩
   exact hQ own' _ ⟨_,_,_,_,hd3.row' (s' := { s with files:=s.files.set f (fl.1++ys,fl.2),app:=gB (s.app + 1) }) _ rfl n3 s3 c3 f3⟩ (((Tr.keep k1).trans t3).trans (jl _ (by rw[hd3.od]; simp)))
def CS (TD TF TU TC:Nat) (c:ay) : Prop:=∀ {own:aH} {M:RM} {db:Nat} {s:aT} {Q:aj},bn TD TF TU TC own M db s→tot s.files s.dir<4611686018427387904 →
 (∀ M',af [] M M'→Q (.agg [N .i64 (s.dir.length:Int),N .i64 (tot s.files s.dir:Int),N .i64 s.app,N .i64 s.syn]) M')→c [.ptr db 0] M Q
theorem Jr {TS:Nat} {ct cl:ay} (ht:Au TD TF TU TC ct) (hl:Ay cl) : CS TD TF TU TC fun args M Q=>∃ a0,args=[a0]∧jC TS ct cl a0 M Q:=by
 intro own M db s Q hd htot hQ
 obtain⟨fbs,nm,sm,cv,hd⟩:=hd
 refine⟨_,rfl, ?_⟩
 unfold jC
 rw[aY]
 have k1:af [] M (M.push (.row [(N .i64 0),(N .i64 0),(N .i64 0),(N .i64 0)] false TS 0)):=(af.refl _ _).push _
 have n1:(M.push (.row [(N .i64 0),(N .i64 0),(N .i64 0),(N .i64 0)] false TS 0)).next=M.next + 1:=aU _
 have h1:(M.push (.row [(N .i64 0),(N .i64 0),(N .i64 0),(N .i64 0)] false TS 0)).heap M.next=some (.row [(N .i64 0),(N .i64 0),(N .i64 0),(N .i64 0)] false TS 0):=RM.bi _
 generalize M.push (.row [(N .i64 0),(N .i64 0),(N .i64 0),(N .i64 0)] false TS 0)=M1 at *
 have hd1:=hd.keep k1
 rw[ah,ae,ag (i:=0 + 1) hd1.row rfl,Gy hd1.names,ah,ae,ah,ae]
 refine ht ⟨_,_,_,_,hd1⟩ htot fun M2 k2=>?_
 have hd2:=hd1.keep k2
 refine hl (o:=0 + 4) hd2.row rfl ?_
 refine hl (o:=0 + 5) hd2.row rfl ?_
 rw[gU]
 refine⟨_,rfl, ?_⟩
 have h2:=k2.bC h1 (by omega) (by simp)
 rw[kZ (n:=4) h2 rfl rfl rfl,lS (n:=4) (aZ _) rfl]
 exact hQ _ ((k1.trans k2).put _ (.inl (Nat.le_refl _)))
end
def iD:Nm→Nm→Bool
 | [],_=>true
 | _ :: _,[]=>false
 | a :: x,b :: y=>decide (a.toNat<b.toNat) || (decide (a.toNat=b.toNat) && iD x y)
def yK (x:Nm) : List Nm→List Nm
 | []=>[x]
 | y :: l=>if iD x y then x :: y :: l else y :: yK x l
def gy:List Nm→List Nm
 | []=>[]
 | x :: l=>yK x (gy l)
theorem uD (x:Nm) : ∀ l,(yK x l).Perm (x :: l)
 | []=>.refl _
 | y :: l=>by
   unfold yK
   split
   ·exact .refl _
   ·exact((uD x l).cons y).trans (.swap _ _ _)
theorem jc:∀ l,(gy l).Perm l
 | []=>.refl _
 | x :: l=>(uD x _).trans ((jc l).cons x)
def aA (d:Dir) : List Nm:=d.map (·.1)
theorem FW {n:Nm} : ∀ {d:Dir},n∈aA d→∃ f,dB d n=some f
 | [],h=>by cases h
 | e :: d,h=>by
   unfold dB
   by_cases hn:n=e.1
   ·exact⟨_,if_pos hn⟩
   ·rw[if_neg hn]
    exact FW ((List.mem_cons.1 h).resolve_left hn)
def yV (fs:List fT) (f:Nat) (p:List Int) (i:Nat) : List fT :=
 let fl:=fs[f]?.getD ([],0)
 let k:=fl.2 + bF p i (fl.1.length - fl.2 + 1)
 fs.set f (fl.1.take k,k)
def gm (d:Dir) (p:List Int) : List Nm→Nat→List fT→List fT
 | [],_,fs=>fs
 | n :: ns,i,fs=>gm d p ns (i + 1) (match dB d n with | some f=>yV fs f p i | none=>fs)
def bJ (s:aT) (p:List Int) : Dir:=(s.chg.take (bF p 0 (s.chg.length + 1))).foldl fB s.aS
def mO (s:aT) (p:List Int) : aT :=
 { s with files:=gm (bJ s p) p (gy (aA (bJ s p))) 1 s.files,dir:=bJ s p,aS:=bJ s p,chg:=[] }
theorem si {p:List Int} {i n:Nat} (hn:1≤n) : bF p i n<n:=by
 unfold bF
 split
 ·omega
 ·split
  ·omega
  ·exact Nat.mod_lt _ hn
section
variable {M:RM} {TU:Nat}
theorem MW {v:AV} {xs:List UInt8} (h:FB M TU v xs) {k:Nat} (hk:k≤xs.length) :
  ∃ v',eH 1 v none (some (N .i64 (k:Int))) (some (N .i64 (k:Int)))=some v'∧FB M TU v' (xs.take k)∧∀ c∈az v',c∈az v:=by
 have hb:∀ d,bnd d (some (N .i64 (k:Int)))=some k:=fun d=>by simp[bnd]
 have hb0:bnd 0 none=some 0:=rfl
 have ex:∀ {b o:Nat},b<M.next→M.loads b o k=some (BY.row (xs.take k)) →
   ∃ v',(if k=0 then some (AV.slc b o 0 (.ex 0)) else some (.slc b (o + 0 * 1) (k - 0) (.ex (k - 0))))=some v'∧FB M TU v' (xs.take k)∧∀ c∈az v',c∈[b]:=by
  intro b o hl hh
  by_cases h0:k=0
  ·subst h0
   rw[if_pos rfl]
   exact⟨_,rfl,.ex b o 0 _ hl hh (by simp),by simp[az]⟩
  ·rw[if_neg h0,Nat.zero_mul,Nat.add_zero,Nat.sub_zero]
   exact⟨_,rfl,.ex b o k _ hl hh (by rw[List.length_take]; omega),by simp[az]⟩
 cases h with
 | nil =>
   have:k=0:=by simpa using hk
   subst this
   exact⟨aR,rfl,.nil,fun c hc=>hc⟩
 | op b xs hl hh =>
   have hld:M.loads b 0 k=some (BY.row (xs.take k)):=by
    have e:=BY.dY xs
    have:BY.size=1:=rfl
    rw[RM.iV hh (by rw[e,this]; omega),List.drop_zero]
    have:=BY.lJ xs k
    rw[show k * BY.size=k from Nat.mul_one k] at this
    rw[this]
   obtain⟨v',h1,h2,h3⟩:=ex hl hld
   refine⟨v', ?_,h2,fun c hc=>by simpa [az] using h3 c hc⟩
   simp only[eH,hb,hb0,Nat.zero_le,Nat.le_refl,true_and]
   rw[if_pos hk]; exact h1
 | ex b o n xs hl hh h2 =>
   subst h2
   have hld:M.loads b o k=some (BY.row (xs.take k)):=by
    have:=rH hh k hk
    have e:=BY.lJ xs k
    rw[show k * BY.size=k from Nat.mul_one k] at e
    rw[this,e]
   obtain⟨v',h1,h2,h3⟩:=ex hl hld
   refine⟨v', ?_,h2,fun c hc=>by simpa [az] using h3 c hc⟩
   simp only[eH,hb,hb0,Nat.zero_le,Nat.le_refl,true_and]
   rw[if_pos hk]; exact h1
end
theorem KP {α:Type} {E:Enc α} {M:RM} {base T:Nat} {v:AV} {xs:List α} (h:Ow E M base T v xs) {k:Nat} (hk:k≤xs.length) :
  ∃ v',eH E.size v none (some (N .i64 (k:Int))) none=some v'∧Sl E M v' (xs.take k)∧∀ c∈az v',c∈az v:=by
 have hb:∀ d,bnd d (some (N .i64 (k:Int)))=some k:=fun d=>by simp[bnd]
 have hb0:bnd 0 none=some 0:=rfl
 have hs:Sl E M v xs:=Own.jk h
 unfold Ow at h
 generalize hl:xs.length=n at h hk
 generalize hr:E.row xs=cs at h
 cases h with
 | nil =>
   have:k=0:=by omega
   subst this
   exact⟨aR,rfl,by rw[List.take_zero]; exact .nil,fun c hc=>hc⟩
 | ex0 b o h1 h2 h3 =>
   have:k=0:=by omega
   subst this
   refine⟨.slc b o 0 (.ex 0),by simp[eH,hb0,hb,bnd], ?_,fun c hc=>hc⟩
   obtain⟨l,h4,h5⟩:=h3
   rw[List.take_zero]
   exact .slc b o 0 _ [] h2 (by rw[Nat.zero_mul]; exact kY h4 h5)
 | op b n cs h1 h2 h3 h4 =>
   subst hl hr
   have e:eH E.size (.slc b 0 xs.length (.op E.size)) none (some (N .i64 (k:Int))) none=if xs.length=0 then some (.emp b) else some (.slc b 0 k (.op E.size)):=by
    simp only[eH,hb,hb0,Nat.zero_le,true_and,and_true,Nat.zero_mul,Nat.add_zero,Nat.sub_zero,if_pos hk,Nat.le_zero]
   rw[e]
   by_cases h0:xs.length=0
   ·rw[if_pos h0]
    refine⟨_,rfl, ?_,fun c hc=>?_⟩
    ·have:xs=[]:=List.length_eq_zero_iff.1 h0
     rw[this,List.take_nil]
     exact .emp b
    ·simp[az] at hc
   ·rw[if_neg h0]
    refine⟨_,rfl, ?_,fun c hc=>hc⟩
    have hln:(xs.take k).length=k:=by rw[List.length_take]; omega
    show aP M E.size (.slc b 0 k (.op E.size)) (E.row (xs.take k)) (xs.take k).length
    rw[hln]
    refine .slc _ _ _ _ _ h2 ?_
    have:=Nat.mul_le_mul_right E.size hk
    rw[RM.iV h3 (by rw[h4]; omega),List.drop_zero,E.lJ]
theorem Eg (n:Nm) : ∀ d:Dir,(fO d n).length≤d.length
 | []=>Nat.le_refl _
 | e :: d=>by
   have:=Eg n d
   unfold fO
   split <;> simp <;> omega
theorem EA (n:Nm) (f:Nat) : ∀ d:Dir,(jD d n f).length≤d.length + 1
 | []=>Nat.le_refl _
 | e :: d=>by
   have:=EA n f d
   unfold jD
   split <;> simp <;> omega
theorem Lu (d:Dir) (c:iC) : (fB d c).length≤d.length + 1:=by
 have h1:(if c.2.2≠[] then fO d c.2.2 else d).length≤d.length:=by
  split
  ·exact Eg _ _
  ·exact Nat.le_refl _
 unfold fB
 dsimp only
 cases c.2.1 with
 | none=>exact Nat.le_succ_of_le h1
 | some f=>exact Nat.le_trans (EA _ _ _) (Nat.succ_le_succ h1)
theorem su:∀ (cs:List iC) (d:Dir),(cs.foldl fB d).length≤d.length + cs.length
 | [],d=>Nat.le_refl _
 | c :: cs,d=>by
   have:=su cs (fB d c)
   have:=Lu d c
   simp only[List.foldl_cons,List.length_cons]; omega
theorem pg (n:Nm) : ∀ d:Dir,(aA (fO d n)).Sublist (aA d)
 | []=>.slnil
 | e :: d=>by
   unfold fO
   split
   ·exact .cons _ (List.Sublist.refl _)
   ·exact(pg n d).cons_cons _
theorem sW (n:Nm) (f:Nat) : ∀ d:Dir,n∈aA d∧aA (jD d n f)=aA d∨n ∉ aA d∧aA (jD d n f)=aA d++[n]
 | []=>.inr ⟨by simp[aA],rfl⟩
 | e :: d=>by
   unfold jD
   by_cases h:n=e.1
   ·rw[if_pos h]
    exact .inl ⟨by simp[aA,h],by simp[aA,h]⟩
   ·rw[if_neg h]
    rcases sW n f d with⟨h1,h2⟩ | ⟨h1,h2⟩
    ·refine .inl ⟨List.mem_cons_of_mem _ h1, ?_⟩
     simp only[aA,List.map_cons] at h2 ⊢; rw[h2]
    ·refine .inr ⟨?_, ?_⟩
     ·simp only[aA,List.map_cons,List.mem_cons,not_or] at h1 ⊢; exact⟨h,h1⟩
     ·simp only[aA,List.map_cons,List.cons_append] at h2 ⊢; rw[h2]
theorem Hd {d:Dir} (h:(aA d).Nodup) (n:Nm) (f:Nat) : (aA (jD d n f)).Nodup:=by
 rcases sW n f d with⟨h1,h2⟩ | ⟨h1,h2⟩
 ·rw[h2]; exact h
 ·rw[h2,List.nodup_append]
  refine⟨h,by simp,fun a ha b hb=>?_⟩
  rw[List.mem_singleton] at hb; subst hb
  exact fun e=>h1 (e▸ha)
theorem qa {d:Dir} (h:(aA d).Nodup) (c:iC) : (aA (fB d c)).Nodup:=by
 have h1:(aA (if c.2.2≠[] then fO d c.2.2 else d)).Nodup:=by
  split
  ·exact h.sublist (pg _ _)
  ·exact h
 unfold fB
 dsimp only
 cases c.2.1 with
 | none=>exact h1
 | some f=>exact Hd h1 _ _
theorem zX:∀ (cs:List iC) {d:Dir},(aA d).Nodup→(aA (cs.foldl fB d)).Nodup
 | [],_,h=>h
 | c :: cs,_,h=>zX cs (qa h c)
def iE (d:Dir) : Prop:=(aA d).Nodup∧∀ n∈aA d,n.length≤64
theorem Dw {n:Nm} {f:Nat} {d:Dir} : ∀ x∈aA (jD d n f),x∈aA d∨x=n:=by
 intro x hx
 rcases sW n f d with⟨_,h⟩ | ⟨_,h⟩
 ·rw[h] at hx; exact .inl hx
 ·rw[h] at hx; simpa using hx
theorem Eo {d:Dir} (h:iE d) {c:iC} (hc:c.1.length≤64) : iE (fB d c):=by
 refine⟨qa h.1 c, ?_⟩
 have h1:∀ n∈aA (if c.2.2≠[] then fO d c.2.2 else d),n.length≤64:=by
  split
  ·exact fun n hn=>h.2 n ((pg _ _).subset hn)
  ·exact h.2
 unfold fB
 dsimp only
 cases c.2.1 with
 | none=>exact h1
 | some f =>
   intro n hn
   rcases Dw n hn with hn | rfl
   ·exact h1 n hn
   ·exact hc
theorem Bn:∀ (cs:List iC) {d:Dir},iE d→(∀ c∈cs,c.1.length≤64)→iE (cs.foldl fB d)
 | [],_,h,_=>h
 | c :: cs,_,h,hc=>Bn cs (Eo h (hc c (List.mem_cons_self ..))) fun x hx=>hc x (List.mem_cons_of_mem _ hx)
section
variable {TD TF TU TC:Nat}
def zT (TD TF TU TC TS:Nat) (c:ay) : Prop:=∀ {own:aH} {M:RM} {db:Nat} {s:aT} {Q:aj},bn TD TF TU TC own M db s→s.dir.length≤4000000000→iE s.dir →
 (∀ v M',Ow nC M' M.next TS v (gy (aA s.dir))→af [] M M'→Q v M')→c [.ptr db 0] M Q
def zS (TD TF TU TC:Nat) (c:ay) : Prop:=∀ {own:aH} {M:RM} {db:Nat} {s:aT} {v:AV} {p:List Int} {Q:aj},bn TD TF TU TC own M db s→Sl INT M v p→(∀ b∈az v,own b=none) →
 s.chg.length≤1000000000→s.aS.length≤1000000000→iE s.aS→(∀ c∈s.chg,c.1.length≤64)→(∀ f∈s.files,f.1.length≤140737488355328) →
 (∀ own' M',bn TD TF TU TC own' M' db (mO s p)→Tr own M own' M'→Q (.tup []) M')→c [.ptr db 0,v] M Q
theorem GY {TS:Nat} {cp cdo cm cl:ay} (hp:HY cp) (hdo:KU cdo) (hm:vW cm) (hl:zT TD TF TU TC TS cl) : zS TD TF TU TC fun args M Q=>∃ a0 a1,args=[a0,a1]∧je cp TC cdo cm cl a0 a1 M Q:=by
 intro own M db s v p Q hd hv hvo hc1 hc2 hnd hcw hfl hQ
 obtain⟨fbs,nm,sm,cv,hd⟩:=hd
 refine⟨_,_,rfl, ?_⟩
 unfold je
 have hvl:∀ b∈az v,b<M.next:=aP.lt hv
 have ho:∀ {b c:Nat} {t u:Tag},own b=some t→own c=some u→t≠u→b≠c:=fun h1 h2 h3 e=>by rw[e,h2] at h1; cases h1; exact h3 rfl
 rw[ah,ae,ag (i:=0 + 2) hd.row rfl,ah,ae,bA (i:=0 + 1) [N .i64 s.aJ,.map sm,.map sm,cv,N .i64 s.app,N .i64 s.syn] hd.row (by simp) rfl rfl rfl]
 have k1:af [db] M (M.put db (.row [N .i64 s.aJ,.map sm,.map sm,cv,N .i64 s.app,N .i64 s.syn] false TD 0)):=(af.refl _ _).put _ (.inr (by simp))
 have r1:(M.put db (.row [N .i64 s.aJ,.map sm,.map sm,cv,N .i64 s.app,N .i64 s.syn] false TD 0)).heap db=some (.row [N .i64 s.aJ,.map sm,.map sm,cv,N .i64 s.app,N .i64 s.syn] false TD 0):=aZ _
 have s1:=hd.safe.step k1 (lg hd.od (by simp)) (fun _ h=>h)
 have c1:=hd.chg.step k1 (lg hd.od (by simp)) (fun _ h=>h)
 have f1:=hd.files.step (own':=own) k1 (fun b hb i=>⟨lg hd.od (by simp) b hb,lg hd.od (by simp) b hb⟩) (fun _ _ _=>rfl)
 have hdl:=hd.xL
 have n1:(M.put db (.row [N .i64 s.aJ,.map sm,.map sm,cv,N .i64 s.app,N .i64 s.syn] false TD 0)).next=M.next:=rfl
 have v1:Sl INT (M.put db (.row [N .i64 s.aJ,.map sm,.map sm,cv,N .i64 s.app,N .i64 s.syn] false TD 0)) v p:=aP.keep hv k1 (fun b hb hm=>by rw[List.mem_singleton] at hm; have:=hvo b hb; rw[hm,hd.od] at this; cases this)
 have hlt:∀ b,own b≠none→b<M.next:=hd.lt
 generalize M.put db (.row [N .i64 s.aJ,.map sm,.map sm,cv,N .i64 s.app,N .i64 s.syn] false TD 0)=M1 at *
 have hlen:(s.chg.map (dZ fbs)).length=s.chg.length:=List.length_map _
 rw[ah,ae,ag (i:=0 + 3) r1 rfl,ah,ae,ag (i:=0 + 3) r1 rfl,aP.len (Own.jk c1.ow),hlen,add1 (by omega),show(N .i64 (0:Int))=N .i64 ((0:Nat) : Int) from rfl]
 refine hp v1 (by omega) ?_
 have hk:bF p 0 (s.chg.length + 1)<s.chg.length + 1:=si (by omega)
 have hD:bJ s p=(s.chg.take (bF p 0 (s.chg.length + 1))).foldl fB s.aS:=rfl
 generalize hkk:bF p 0 (s.chg.length + 1)=k at *
 rw[ag (i:=0 + 3) r1 rfl]
 refine⟨rfl, ?_⟩
 obtain⟨w,e1,sw,hw⟩:=KP c1.ow (k:=k) (by rw[hlen]; omega)
 rw[show eH 3 cv none (some (N .i64 (k:Int))) none=some w from e1,Cc]
 have hwl:((s.chg.map (dZ fbs)).take k).length=k:=by rw[List.length_take,hlen]; omega
 rw[aP.len sw,hwl]
 have hwo:∀ b∈az w,own b=some .chg:=fun b hb=>c1.blk b (hw b hb)
 refine dX (fun z ys M'=>∃ i:Nat,z=k - i∧ys=[N .i64 (i:Int)]∧i≤k∧af [sm] M1 M'∧MapAt own M' fbs sm ((s.chg.take i).foldl fB s.aS) .safe) k ⟨0,rfl,rfl,Nat.zero_le _,af.refl _ _,s1⟩ ?_
 rintro next z ys M2 hnext ⟨i,rfl,rfl,hik,k2,m2⟩
 dsimp only[aG]
 rw[l9]
 have n2:=k2.next
 have hst:=hd.safe.tg
 have r2:=k2.bC r1 (by omega) (by simp; exact ho hd.od hst (by simp))
 refine bN (fun hlt2=>?_) (fun hge=>?_)
 ·have hlt2:i<k:=of_decide_eq_true hlt2
  have sw2:Sl eO M2 w ((s.chg.map (dZ fbs)).take k):=aP.keep sw k2 (fun b hb hm=>by rw[List.mem_singleton] at hm; have:=hwo b hb; rw[hm,hst] at this; cases this)
  obtain⟨b,o,_,_,hidx,hld⟩:=Sl.at sw2 (i:=i) 3 (i:Int) (by omega)
  have hi:i<s.chg.length:=by omega
  have hget:((s.chg.map (dZ fbs)).take k)[i]=dZ fbs s.chg[i]:=by
   rw[List.getElem_take,List.getElem_map]
  rw[hget] at hld
  rw[hidx,mF,hld]
  simp only[Option.some.injEq,exists_eq_left']
  rw[aY,kZ (n:=3) (x:=.agg (eO.cells (dZ fbs s.chg[i]))) (l:=[(St []),uR,(St [])]) (RM.bi _) (eO.len _) rfl (eO.one _)]
  have k3:af [sm] M2 ((M2.push (.row [(St []),uR,(St [])] false TC 0)).put M2.next (.row (AV.agg (eO.cells (dZ fbs s.chg[i]))).cells false TC 0)):=((af.refl _ _).push _).new _ (Nat.le_refl _)
  have k3' : af [] M2 ((M2.push (.row [(St []),uR,(St [])] false TC 0)).put M2.next (.row (AV.agg (eO.cells (dZ fbs s.chg[i]))).cells false TC 0)):=((af.refl _ _).push _).new _ (Nat.le_refl _)
  have h3:((M2.push (.row [(St []),uR,(St [])] false TC 0)).put M2.next (.row (AV.agg (eO.cells (dZ fbs s.chg[i]))).cells false TC 0)).heap M2.next=some (.row (eO.cells (dZ fbs s.chg[i])) false TC 0):=aZ _
  generalize (M2.push (.row [(St []),uR,(St [])] false TC 0)).put M2.next (.row (AV.agg (eO.cells (dZ fbs s.chg[i]))).cells false TC 0)=M3 at *
  rw[lS (n:=3) h3 (eO.len _),ah,ae,ag (i:=0 + 1) (k3'.bC r2 (by omega) (by simp)) rfl]
  refine hdo (m2.step k3' (by simp) (fun _ h=>h)) (c1.wf _ (List.getElem_mem hi)) fun M4 m4 k4=>?_
  rw[add1 (by omega)]
  refine hnext _ _ _ (by omega) ⟨i + 1,rfl,rfl,by omega,(k2.trans k3).trans k4, ?_⟩
  rw[List.take_succ_eq_append_getElem hi,List.foldl_append]
  exact m4
 ·have he:i=k:=by
   have:¬ i<k:=of_decide_eq_false hge
   omega
  subst he
  rw[← hD] at m2
  have cds:=su (s.chg.take i) s.aS
  rw[← hD,List.length_take] at cds
  have cdn:=Bn (s.chg.take i) hnd (fun c hc=>hcw c (List.mem_of_mem_take hc))
  rw[← hD] at cdn
  rw[ah,ae,ag (i:=0 + 1) r2 rfl]
  obtain⟨es,cl',hh2,he2⟩:=m2.heap
  refine hm hh2 ?_
  have hn2:own M2.next=none:=by
   rcases hq:own M2.next with _ | t
   ·rfl
   ·have:=hlt M2.next (by rw[hq]; simp); omega
  have k3:af [] M2 (M2.push (.map es cl')):=(af.refl _ _).push _
  have h3:(M2.push (.map es cl')).heap M2.next=some (.map es cl'):=RM.bi _
  have n3:(M2.push (.map es cl')).next=M2.next + 1:=aU _
  have r3:=k3.bC r2 (by omega) (by simp)
  generalize M2.push (.map es cl')=M3 at *
  rw[ah,ae,bA (i:=0 + 2) [N .i64 s.aJ,.map sm,.map M2.next,cv,N .i64 s.app,N .i64 s.syn] r3 (by simp) rfl rfl rfl,
   ah,ae,bA (i:=0 + 3) [N .i64 s.aJ,.map sm,.map M2.next,aR,N .i64 s.app,N .i64 s.syn] (aZ _) (by simp) rfl rfl rfl]
  have k5:af [db] M3 ((M3.put db (.row [N .i64 s.aJ,.map sm,.map M2.next,cv,N .i64 s.app,N .i64 s.syn] false TD 0)).put db (.row [N .i64 s.aJ,.map sm,.map M2.next,aR,N .i64 s.app,N .i64 s.syn] false TD 0)):=((af.refl _ _).put _ (.inr (by simp))).put _ (.inr (by simp))
  have r5:((M3.put db (.row [N .i64 s.aJ,.map sm,.map M2.next,cv,N .i64 s.app,N .i64 s.syn] false TD 0)).put db (.row [N .i64 s.aJ,.map sm,.map M2.next,aR,N .i64 s.app,N .i64 s.syn] false TD 0)).heap db=some (.row [N .i64 s.aJ,.map sm,.map M2.next,aR,N .i64 s.app,N .i64 s.syn] false TD 0):=aZ _
  generalize (M3.put db (.row [N .i64 s.aJ,.map sm,.map M2.next,cv,N .i64 s.app,N .i64 s.syn] false TD 0)).put db (.row [N .i64 s.aJ,.map sm,.map M2.next,aR,N .i64 s.app,N .i64 s.syn] false TD 0)=M5 at *
  have n5:=k5.next
  have k25:af [db] M2 M5:=(k3.mono (by simp)).trans k5
  have k15:af [db,sm] M1 M5:=(k2.mono (by simp)).trans (k25.mono (by simp))
  let own' : aH:=upd (upd own sm .names) M2.next .safe
  have hsm:sm<M.next:=hlt sm (by rw[hst]; simp)
  have osm:own' sm=some .names:=by
   show upd (upd own sm .names) M2.next .safe sm=_
   rw[upd_ne (by omega),mP]
  have onw:own' M2.next=some .safe:=mP
  have hsame:∀ {b:Nat} {t:Tag},own b=some t→t≠.safe→own' b=some t:=by
   intro b t hb ht
   show upd (upd own sm .names) M2.next .safe b=_
   rw[upd_ne (fun e=>by rw[e,hn2] at hb; cases hb),upd_ne (fun e=>by rw[e,hst] at hb; cases hb; exact ht rfl),hb]
  have hnone:∀ b,b<M.next→own b=none→own' b=none:=by
   intro b hb ho'
   show upd (upd own sm .names) M2.next .safe b=_
   rw[upd_ne (by omega),upd_ne (fun e=>by rw[e,hst] at ho'; cases ho'),ho']
  have od':=hsame hd.od (by simp)
  have hin:∀ t:Tag,t≠.disk→t≠.safe→∀ b∈[db,sm],own b≠some t:=by
   intro t h1 h2 b hb
   simp only[List.mem_cons,List.not_mem_nil,or_false] at hb
   rcases hb with rfl | rfl
   ·rw[hd.od]; simpa using fun e=>h1 e.symm
   ·rw[hst]; simpa using fun e=>h2 e.symm
  have f5:=f1.step (own':=own') k15 (fun b hb i=>⟨hin _ (by simp) (by simp) b hb,hin _ (by simp) (by simp) b hb⟩) (fun b i h=>by rcases h with h | h <;> rw[hsame h (by simp),h])
  have m5:MapAt own' M5 fbs sm (bJ s p) .names:=⟨osm,by omega,es,cl',k25.bC hh2 (by omega) (by simp; exact fun e=>ho hd.od hst (by simp) e.symm),he2⟩
  have s5:MapAt own' M5 fbs M2.next (bJ s p) .safe:=⟨onw,by omega,es,cl',k5.bC h3 (by omega) (by simp; omega),he2⟩
  have Mk:∀ b,own' b≠none→b<M5.next:=by
   intro b hb
   rcases Nat.lt_or_ge b M5.next with h | h
   ·exact h
   ·exfalso
    apply hb
    show upd (upd own sm .names) M2.next .safe b=_
    rw[upd_ne (by omega),upd_ne (by omega)]
    rcases hq:own b with _ | t
    ·rfl
    ·have:=hlt b (by rw[hq]; simp); omega
  have hd5:dz TD TF TU TC own' M5 db { s with dir:=bJ s p,aS:=bJ s p,chg:=[] } fbs sm M2.next aR:=⟨Mk,od',r5,m5,s5,.nil,f5⟩
  have t5:Tr own M own' M5:=by
   refine⟨[db,sm],(k1.mono (by simp)).trans k15, ?_,hnone⟩
   intro b hb
   simp only[List.mem_cons,List.not_mem_nil,or_false] at hb
   rcases hb with rfl | rfl
   ·rw[hd.od]; simp
   ·rw[hst]; simp
  have v5:Sl INT M5 v p:=aP.keep v1 k15 (fun b hb hm=>by
   have:=hvo b hb
   simp only[List.mem_cons,List.not_mem_nil,or_false] at hm
   rcases hm with rfl | rfl
   ·rw[hd.od] at this; cases this
   ·rw[hst] at this; cases this)
  have O1:∀ b∈az v,own' b=none:=fun b hb=>hnone b (hvl b hb) (hvo b hb)
  refine hl (s := { s with dir:=bJ s p,aS:=bJ s p,chg:=[] }) ⟨_,_,_,_,hd5⟩ (by show(bJ s p).length≤_; omega) cdn fun lv M6 lo k6=>?_
  dsimp only at lo
  have hd6:=hd5.keep k6
  have v6:Sl INT M6 v p:=aP.keep v5 k6 (by simp)
  have hmem:∀ n∈gy (aA (bJ s p)),∃ f,dB (bJ s p) n=some f:=fun n hn=>FW ((jc _).mem_iff.1 hn)
  have hCF:mO s p = { s with files:=gm (bJ s p) p (gy (aA (bJ s p))) 1 s.files,dir:=bJ s p,aS:=bJ s p,chg:=[] } := rfl
  have hllen:(gy (aA (bJ s p))).length=(bJ s p).length:=by rw[(jc _).length_eq,aA,List.length_map]
  generalize hCL:gm (bJ s p) p (gy (aA (bJ s p))) 1 s.files=fin at *
  generalize hll:gy (aA (bJ s p))=l at *
  generalize bJ s p=d1 at *
  rw[aP.len (Own.jk lo)]
  have hfo:∀ b∈fbs,∃ i,own' b=some (.file i):=by
   intro b hb
   obtain⟨i,hi⟩:=List.getElem?_of_mem hb
   obtain⟨f,w,_,hat⟩:=f5.at hi
   exact⟨i,hat.tg⟩
  have hft:∀ t:Tag,(∀ i,t≠.file i)→∀ b∈fbs,own' b≠some t:=by
   intro t ht b hb
   obtain⟨i,hi⟩:=hfo b hb
   rw[hi]; simpa using fun e=>ht i e.symm
  have hlb:=Own.blk lo
  refine dX (fun z ys M'=>∃ (i:Nat) (fs:List fT),z=l.length - i∧ys=[N .i64 (i:Int)]∧i≤l.length∧af fbs M6 M'∧iM TF TU own' M' fbs fs∧(∀ f∈fs,f.1.length≤140737488355328)∧gm d1 p (l.drop i) (i + 1) fs=fin) l.length
   ⟨0,s.files,rfl,rfl,Nat.zero_le _,af.refl _ _,hd6.files,hfl,hCL⟩ ?_
  rintro next z ys M7 hnext ⟨i,fs,rfl,rfl,hil,k7,f7,Mt,hcl⟩
  dsimp only[aG]
  rw[l9]
  have r7:=k7.bC hd6.row hd6.xL (fun hm=>hft .disk (by simp) _ hm hd6.od)
  have m7:=hd6.names.step k7 (hft _ (by simp)) (fun _ h=>h)
  refine bN (fun hlt3=>?_) (fun hge=>?_)
  ·have hlt3:i<l.length:=of_decide_eq_true hlt3
   have lo7:Sl nC M7 lv l:=aP.keep (Own.jk lo) k7 (fun b hb hm=>by
    obtain⟨j,hj⟩:=hfo b hm
    have:=(hlb b hb).1
    have:=Mk b (by rw[hj]; simp)
    omega)
   obtain⟨lb,lof,_,_,hidx,hcell⟩:=Sl.Jd lo7 (i:=i) (i:Int) hlt3
   rw[hidx,iT,hcell (St l[i]) rfl]
   simp only[Option.some.injEq,exists_eq_left']
   obtain⟨f,hf⟩:=hmem l[i] (List.getElem_mem hlt3)
   rw[List.drop_eq_getElem_cons hlt3] at hcl
   unfold gm at hcl
   rw[hf] at hcl
   dsimp only at hcl
   rw[ah,ae,ag (i:=0 + 1) r7 rfl]
   refine iZ m7 (fun hn=>by rw[hf] at hn; cases hn) (fun f' b hf' hb=>?_)
   rw[hf] at hf'
   cases hf'
   obtain⟨fl,w7,A8,hat⟩:=f7.at hb
   have hfi:=(List.getElem?_eq_some_iff.1 A8).1
   have hfln:=Mt fl (List.mem_of_getElem? A8)
   have hle:=hat.le
   have hpk:bF p (i + 1) (fl.1.length - fl.2 + 1)<fl.1.length - fl.2 + 1:=si (by omega)
   have hcf:yV fs f p (i + 1)=fs.set f (fl.1.take (fl.2 + bF p (i + 1) (fl.1.length - fl.2 + 1)),fl.2 + bF p (i + 1) (fl.1.length - fl.2 + 1)):=by
    unfold yV; rw[A8]; rfl
   rw[hcf] at hcl
   rw[ah,ae,ag (i:=0 + 1) hat.heap rfl,add1 (by omega),ah,ae,ag (i:=0 + 0) hat.heap rfl,aP.len hat.fb.sl,ah,ae,ag (i:=0 + 1) hat.heap rfl,JM hle (by omega),add1 (by omega)]
   have v7:Sl INT M7 v p:=aP.keep v6 k7 (fun b hb hm=>by
    obtain⟨j,hj⟩:=hfo b hm
    rw[O1 b hb] at hj; cases hj)
   refine hp v7 (by omega) ?_
   generalize bF p (i + 1) (fl.1.length - fl.2 + 1)=pk at *
   rw[ag (i:=0 + 1) hat.heap rfl]
   refine⟨rfl, ?_⟩
   have htb:=hat.tg
   rw[addN (by omega),ah,ae,bA (i:=0 + 1) [w7,N .i64 ((fl.2 + pk:Nat) : Int)] hat.heap (by simp) rfl rfl rfl]
   have k8:af [b] M7 (M7.put b (.row [w7,N .i64 ((fl.2 + pk:Nat) : Int)] false TF 0)):=(af.refl _ _).put _ (.inr (by simp))
   have h8:(M7.put b (.row [w7,N .i64 ((fl.2 + pk:Nat) : Int)] false TF 0)).heap b=some (.row [w7,N .i64 ((fl.2 + pk:Nat) : Int)] false TF 0):=aZ _
   have fb8:=hat.fb.keep k8 (fun c hc hm=>by rw[List.mem_singleton] at hm; have:=hat.blk c hc; rw[hm,htb] at this; cases this)
   generalize M7.put b (.row [w7,N .i64 ((fl.2 + pk:Nat) : Int)] false TF 0)=M8 at *
   rw[ah,ae,ag (i:=0 + 0) h8 rfl,ah,ae,ag (i:=0 + 1) h8 rfl,ah,ae,ag (i:=0 + 1) h8 rfl]
   obtain⟨w9,e9,fb9,hw9⟩:=MW fb8 (k:=fl.2 + pk) (by omega)
   rw[e9,Cc,ah,ae,bA (i:=0 + 0) [w9,N .i64 ((fl.2 + pk:Nat) : Int)] h8 (by simp) fb9.one.2.1 fb9.one.1 rfl,add1 (by omega)]
   have k9:af [b] M8 (M8.put b (.row [w9,N .i64 ((fl.2 + pk:Nat) : Int)] false TF 0)):=(af.refl _ _).put _ (.inr (by simp))
   have k79:=k8.trans k9
   have O3:jO TF TU own' (M8.put b (.row [w9,N .i64 ((fl.2 + pk:Nat) : Int)] false TF 0)) fbs f b w9 (fl.1.take (fl.2 + pk),fl.2 + pk):=by
    refine⟨hat.at_,Nat.lt_of_lt_of_le hat.lt k79.next,htb,aZ _,fb9.keep k9 (fun c hc hm=>?_),by show _≤(fl.1.take (fl.2 + pk)).length; rw[List.length_take]; omega,fun c hc=>hat.blk c (hw9 c hc)⟩
    rw[List.mem_singleton] at hm
    have:=hat.blk c (hw9 c hc)
    rw[hm,htb] at this; cases this
   have f9:=f7.set (own':=own') hfi O3 k79 (fun c hc j hj=>⟨lg htb (by simpa using hj) c hc,lg htb (by simp) c hc⟩) (fun _ _ _ _=>rfl)
   refine hnext _ _ _ (by omega) ⟨i + 1,_,rfl,rfl,by omega,k7.trans (k79.mono (fun c hc=>by rw[List.mem_singleton] at hc; rw[hc]; exact List.mem_of_getElem? hb)),f9,fun g hg=>?_,hcl⟩
   rcases List.mem_or_eq_of_mem_set hg with hg | rfl
   ·exact Mt g hg
   ·show(fl.1.take (fl.2 + pk)).length≤_
    rw[List.length_take]; omega
  ·have he:i=l.length:=by
    have:¬ i<l.length:=of_decide_eq_false hge
    omega
   subst he
   rw[List.drop_length] at hcl
   have hcl:fs=fin:=hcl
   subst hcl
   rw[hCF] at hQ
   have s7:=hd6.safe.step k7 (hft _ (by simp)) (fun _ h=>h)
   refine hQ own' M7 ⟨fbs,sm,M2.next,aR,fun b hb=>Nat.lt_of_lt_of_le (hd6.lt b hb) k7.next,od',r7,m7,s7,.nil,f7⟩ ((t5.trans (Tr.keep k6)).trans ⟨fbs,k7,fun b hb=>?_,fun _ _ h=>h⟩)
   obtain⟨j,hj⟩:=hfo b hb
   rw[hj]; simp
end
theorem qZ:∀ x y:Nm,iD x y=decide (x≤y)
 | [],y=>by simp[iD]
 | a :: x,[]=>by simp[iD]
 | a :: x,b :: y=>by
   rw[iD,qZ x y,Bool.eq_iff_iff]
   simp only[Bool.or_eq_true,Bool.and_eq_true,decide_eq_true_eq,List.cons_le_cons_iff]
   rw[UInt8.lt_iff_toNat_lt,← UInt8.toNat_inj]
theorem uP (x y:Nm) : (iD x y || iD y x)=true:=by
 rw[qZ,qZ,Bool.or_eq_true,decide_eq_true_eq,decide_eq_true_eq]
 exact Std.Total.total x y
theorem uT (x y z:Nm) (h1:iD x y=true) (h2:iD y z=true) : iD x z=true:=by
 rw[qZ,decide_eq_true_eq] at *
 exact List.le_trans h1 h2
theorem Ee (x y:Nm) (h1:iD x y=true) (h2:iD y x=true) : x=y:=by
 rw[qZ,decide_eq_true_eq] at *
 exact List.le_antisymm h1 h2
theorem xB (x:Nm) : ∀ {l:List Nm},l.Pairwise (fun a b=>iD a b=true)→(yK x l).Pairwise (fun a b=>iD a b=true)
 | [],_=>by simp[yK]
 | y :: l,h=>by
   unfold yK
   split
   ·rename_i hxy
    refine List.pairwise_cons.2 ⟨fun z hz=>?_,h⟩
    rcases List.mem_cons.1 hz with rfl | hz
    ·exact hxy
    ·exact uT _ _ _ hxy ((List.pairwise_cons.1 h).1 z hz)
   ·rename_i hxy
    have hyx:iD y x=true:=by have:=uP x y; simp only[Bool.not_eq_true] at hxy; rw[hxy] at this; simpa using this
    refine List.pairwise_cons.2 ⟨fun z hz=>?_,xB x (List.pairwise_cons.1 h).2⟩
    rcases List.mem_cons.1 ((uD x l).mem_iff.1 hz) with rfl | hz
    ·exact hyx
    ·exact(List.pairwise_cons.1 h).1 z hz
theorem pJ:∀ l:List Nm,(gy l).Pairwise (fun a b=>iD a b=true)
 | []=>.nil
 | x :: l=>xB x (pJ l)
theorem EQ {ss l:List Nm} (h:ss.Perm l) : ss.mergeSort (fun x y=>decide (x≤y))=gy l:=by
 have e:(fun x y:Nm=>decide (x≤y))=iD:=by funext x y; rw[qZ]
 rw[e]
 refine List.Perm.eq_of_pairwise (le:=fun a b=>iD a b=true) (fun a b _ _ h1 h2=>Ee a b h1 h2) ?_ (pJ l) ((List.mergeSort_perm _ _).trans (h.trans (jc l).symm))
 exact List.pairwise_mergeSort uT uP ss
def F5 (TS TM g:Nat) (c:ay) : Prop:=∀ {own:aH} {M:RM} {fbs:List Nat} {m b:Nat} {d:Dir} {t:Tag} {Q:aj},MapAt own M fbs m d t→M.heap b=some (.row [.map m] false TM 0)→b<M.next→d.length≤4000000000→iE d →
 (∀ v M',Ow nC M' M.next TS v (gy (aA d))→af [] M M'→Q v M')→c [.fn (.func g) [] [.ptr b 0]] M Q
def Gj (TM g:Nat) (c:ay) : Prop:=∀ {M:RM} {m:Nat} {Q:aj},Q (.fn (.func g) [] [.ptr M.next 0]) (M.push (.row [.map m] false TM 0))→c [.map m] M Q
theorem IA {TM g:Nat} : Gj TM g fun args M Q=>∃ a0,args=[a0]∧bG TM g a0 M Q:=by
 intro M m Q hQ
 refine⟨_,rfl, ?_⟩
 unfold bG
 refine⟨rfl,by show 1≤1; decide, ?_⟩
 dsimp only
 rw[aY]
 exact hQ
section
variable {TD TF TU TC:Nat}
theorem Iy {TS TM g:Nat} {ck cs:ay} (hk:Gj TM g ck) (hs:F5 TS TM g cs) : zT TD TF TU TC TS fun args M Q=>∃ a0,args=[a0]∧jB ck cs a0 M Q:=by
 intro own M db s Q hd hlen hw hQ
 obtain⟨fbs,nm,sm,cv,hd⟩:=hd
 refine⟨_,rfl, ?_⟩
 unfold jB
 rw[ah,ae,ag (i:=0 + 1) hd.row rfl]
 refine hk ?_
 have k1:af [] M (M.push (.row [.map nm] false TM 0)):=(af.refl _ _).push _
 refine hs ((hd.keep k1).names) (RM.bi _) (by rw[aU]; omega) hlen hw fun v M' o k=>?_
 exact hQ v M' (Own.mono o (by rw[aU]; omega)) (k1.trans k)
end
end Go.Ab.Dk
