/- Part 3 of the ground of the proofs of this seat (texts R9 to WDot). By an AI agent. -/
import Derived.Test.YtcoihknokhdbkaaGreatDoorTev2
import Derived.Scope
import Derived.ChangeShapes
import Derived.OpenShut
import Derived.WideKeyArgs
import GoSem.ClaimJoined
import Derived.Lib.Bytealg
import Derived.Lib.DecodeN
import Derived.Lib.ValidU
import Derived.Lib.ValidLaws
import Derived.Carry
import Derived.JoinedCond
import Derived.SizedLaws
import GoSem.Extern.Atomic
import GoSem.Extern.MapsClone
import Derived.Lib.SlTrimSet
import Derived.Lib.IndexMore
set_option linter.unusedVariables false
set_option linter.unusedSimpArgs false
namespace Go.Ab
open Go Go.RowKit
def Yy:Option Tmp→Nat
 |some d=>2^d
 |none=>0
def afF:Operand→Nat
 |.tmp t=>2^t
 |_=>0
def af0:List Operand→Nat
 |[]=>0
 |x::xs=>afF x ||| af0 xs
def agK(L m:Nat):Nat:=L ^^^ (L &&& m)
def Po:List Oper→Nat
 |[]=>0
 |o::os=>Yy o.dst ||| Po os
def gt:Nat:=1000000
def yS:Code→List Nat
 |.seq a b=>yS a++yS b
 |.label l=>[l]
 |_=>[]
def EF(c:Code)(l:Nat):Code:=match findLabel c l with
 |some r=>r
 |none=>.skip
def eO:Nat→Code→Nat
 |0,_=>0
 |f+1,c=>match c with
  |.region _ ops _=>Po ops.toList
  |.seq a b=>eO f a ||| eO f b
  |.cond _ a b=>eO f a ||| eO f b
  |.block _ c=>eO f c
  |.loop c=>eO f c
  |.scope c=>eO f c ||| (yS c).foldr (fun l s=>eO f (EF c l) ||| s) 0
  |_=>0
def Zv:List Oper→Nat→Nat
 |[],L=>L
 |o::os,L=>agK (Zv os L) (Yy o.dst) ||| af0 o.op.operands.toList
def V3:List (Nat×Nat)→Nat→Nat
 |[],_=>0
 |(i,L)::r,id=>match Nat.beq i id with
  |true=>L
  |false=>V3 r id
def gD(ret:Nat):Nat→List (Nat×Nat)→Code→Nat→Nat
 |0,_,_,_=>0
 |f+1,env,c,L=>match c with
  |.skip=>L
  |.region _ ops _=>Zv ops.toList L
  |.seq a b=>gD ret f env a (gD ret f env b L)
  |.cond c a b=>afF c ||| gD ret f env a L ||| gD ret f env b L
  |.block id c=>gD ret f ((id,L)::env) c L
  |.loop c=>gD ret f env c (gD ret f env c 0)
  |.exit id=>V3 env id
  |.ret=>ret
  |.scope c=>gD ret f ((yS c).map (fun l=>(gt+l,gD ret f env (EF c l) L))++env) c L
  |.label _=>L
  |.goto l=>V3 env (gt+l)
  |_=>0
def cap2(n:Nat):Nat:=match n with|0=>0|1=>1|_=>2
def vP(id:Nat):Nat→Code→Nat
 |0,_=>2
 |f+1,c=>match c with
  |.seq a b=>cap2 (vP id f a+vP id f b)
  |.cond _ a b=>cap2 (vP id f a+vP id f b)
  |.block _ c=>vP id f c
  |.loop c=>vP id f c
  |.exit i=>match Nat.beq i id with|true=>1|false=>0
  |_=>0
def Ca:Nat→Code→Nat
 |0,_=>2
 |f+1,c=>match c with
  |.skip=>1
  |.region _ _ _=>1
  |.seq a b=>cap2 (Ca f a*Ca f b)
  |.cond _ a b=>cap2 (Ca f a+Ca f b)
  |.block id c=>cap2 (Ca f c+vP id f c)
  |.scope c=>Ca f c
  |.label _=>1
  |_=>0
def E8(m:Nat):Nat→Nat→List Nat
 |_,0=>[]
 |i,n+1=>match Nat.testBit m i with
  |true=>i::E8 m (i+1) n
  |false=>E8 m (i+1) n
def bitsOf(m nt:Nat):List Nat:=E8 m 0 nt
def Ea(T:Tree AV):List Nat→List AV
 |[]=>[]
 |t::ts=>(T.get t).getD .top::Ea T ts
def aD:List AV→Nat→AV
 |[],_=>.top
 |x::_,0=>x
 |_::xs,n+1=>aD xs n
def IC(T:Tree AV):List Nat→Tree AV
 |[]=>T
 |t::ts=>IC (T.set t .top) ts
def Yg(T:Tree AV)(xs:List AV):Nat→List Nat→Tree AV
 |_,[]=>T
 |i,t::ts=>Yg (T.set t (aD xs i)) xs (i+1) ts
def Ij(T:Tree AV)(asg vs:List Nat)(xs:List AV):Tree AV:=Yg (IC T asg) xs 0 vs
def aF(x:AV)(p q:Prop):Prop :=
 match x with
 |.sc (.bool b)=>(b=true→p)∧(b=false→q)
 |_=>False
def iK(f:(List AV→RM→Prop)→Prop)(g:List AV→RM→Prop):Prop:=f g
def eY(body:(List AV→RM→Prop)→List AV→RM→Prop)(xs:List AV)(M:RM):Prop :=
 ∃ (I:Nat→List AV→RM→Prop)(n:Nat),I n xs M∧∀ m ys M',I m ys M'→body (fun zs M''=>∃ m',m'<m∧I m' zs M'') ys M'
abbrev K3:=Ex→Tree AV→RM→Prop
def wpC(P:Program)(nt ret:Nat):Nat→Code→List (Nat×Nat)→Nat→Tree AV→RM→K3→Prop
 |0,_,_,_,_,_,_=>False
 |f+1,c,env,L,T,M,K=>match c with
  |.skip=>K .normal T M
  |.region _ ops false=>Rs P nt ops ops.toList T M (fun T' M'=>K .normal T' M')
  |.region _ ops true=>adB P nt ops T M (fun T' M'=>K .normal T' M')
  |.seq a b=>match Nat.ble (Ca f a) 1 with
   |true=>wpC P nt ret f a env (gD ret f env b L) T M (fun e T' M'=>match e with
    |.normal=>wpC P nt ret f b env L T' M' K
    |e=>K e T' M')
   |false=>iK (fun J=>wpC P nt ret f a env (gD ret f env b L) T M (fun e T' M'=>match e with
     |.normal=>J (Ea T' (bitsOf (eO f a &&& gD ret f env b L) nt)) M'
     |e=>K e T' M'))
    (fun xs M'=>wpC P nt ret f b env L (Ij T (bitsOf (eO f a) nt) (bitsOf (eO f a &&& gD ret f env b L) nt) xs) M' K)
  |.cond c a b=>aF (lG T c) (wpC P nt ret f a env L T M K) (wpC P nt ret f b env L T M K)
  |.block id c=>match Nat.ble gt id with
   |true=>False
   |false=>wpC P nt ret f c ((id,L)::env) L T M (fun e T' M'=>match e with
    |.exit i=>match Nat.beq i id with
     |true=>K .normal T' M'
     |false=>K (.exit i) T' M'
    |e=>K e T' M')
  |.loop c=>eY (fun next xs M'=>wpC P nt ret f c env (gD ret f env c (gD ret f env c 0)) (Ij T (bitsOf (eO f c) nt) (bitsOf (eO f c &&& gD ret f env c (gD ret f env c 0)) nt) xs) M'
    (fun e T' M'=>match e with
     |.normal=>next (Ea T' (bitsOf (eO f c &&& gD ret f env c (gD ret f env c 0)) nt)) M'
     |e=>K e T' M'))
   (Ea T (bitsOf (eO f c &&& gD ret f env c (gD ret f env c 0)) nt)) M
  |.exit id=>match Nat.ble gt id with
   |true=>False
   |false=>K (.exit id) T M
  |.ret=>K .ret T M
  |.scope c=>wpC P nt ret f c ((yS c).map (fun l=>(gt+l,gD ret f env (EF c l) L))++env) L T M (fun e T' M'=>match e with
   |.exit i=>match Nat.ble gt i with
    |true=>match findLabel c (i-gt)with
     |some r=>wpC P nt ret f r env L T' M' (fun e T2 M2=>match e with
      |.exit j=>match Nat.ble gt j with
       |true=>False
       |false=>K (.exit j) T2 M2
      |e=>K e T2 M2)
     |none=>K (.exit i) T' M'
    |false=>K (.exit i) T' M'
   |e=>K e T' M')
  |.label _=>K .normal T M
  |.goto l=>K (.exit (gt+l)) T M
  |_=>False
def Xa(P:Program)(T:Tree AV)(M:RM)(r:ResultVar)(K:AV→Prop):Prop :=
 match r with
 |.tmp t=>K ((T.get t).getD .top)
 |.cell a t=>match bK P t with
  |some false=>au M ((T.get a).getD .top) K
  |some true=>match aL P t with
   |some n=>bT M ((T.get a).getD .top) n K
   |none=>False
  |none=>False
def YA(P:Program)(T:Tree AV)(M:RM):List ResultVar→(List AV→Prop)→Prop
 |[],K=>K []
 |r::rs,K=>Xa P T M r (fun v=>YA P T M rs (fun vs=>K (v::vs)))
def Ew(Q:aj)(M:RM):List AV→Prop
 |[v]=>Q v M
 |vs=>Q (.tup vs) M
def QE:List ResultVar→Nat
 |[]=>0
 |.tmp t::rs=>2^t ||| QE rs
 |.cell a _::rs=>2^a ||| QE rs
def af3(P:Program)(fn:Func)(c:Code)(args:List AV)(M:RM)(Q:aj):Prop :=
 wpC P (args.length+(fn.ntmps-args.length)) (QE fn.results.toList) 1000 c [] 0 (Tree.ofList args 0 .leaf) M
  (fun e T M'=>match e with
   |.exit _=>False
   |_=>YA P T M' fn.results.toList (Ew Q M'))
section
variable {P:Program} {nt ret:Nat}
def UJ:Ex→Exit
 |.normal=>.normal
 |.exit i=>match Nat.ble gt i with
  |true=>.goto (i-gt)
  |false=>.exit i
 |.ret=>.ret
theorem tu{i:Nat}(h:Nat.ble gt i=false):UJ (.exit i)=.exit i:=by simp only[UJ,h]
theorem FM{i:Nat}(h:Nat.ble gt i=true):UJ (.exit i)=.goto (i-gt):=by simp only[UJ,h]
theorem MK(i:Nat):UJ (.exit i)=.goto (i-gt)∨UJ (.exit i)=.exit i:=by
 cases h:Nat.ble gt i with
 |true=>exact .inl (FM h)
 |false=>exact .inr (tu h)
theorem TA{c:Code}{Q:Exit→Act→World→Prop}{a:Act}{w:World} (h:c.wp P (fun e a w=>match e with
  |.goto l=>match findLabel c l with
   |some r=>r.wp P (Exit.noGoto Q) a w
   |none=>Q (.goto l) a w
  |e=>Q e a w) a w):(Code.scope c).wp P Q a w:=by
 intro b k cs
 obtain⟨e,a₁,w₁,hq,harr⟩:=h b (.inScope c::k) cs
 have aBQ:∀ {c' : Code}{a w},c'.wp P (Exit.noGoto Q) a w→∃ e a' w',Q e a' w'∧Arrives P (lone (b.at a (.code c' :: .inScope c::k)) cs w) b k cs e a' w':=by
  intro c' a w h
  obtain⟨e,a₁,w₁,hq,harr⟩:=h b (.inScope c::k) cs
  cases e with
  |normal=>exact⟨.normal,a₁,w₁,hq,Steps.trans harr (.one step_inScope)⟩
  |exit id=>exact⟨.exit id,a₁,w₁,hq,fun k' hk=>harr k' (by simp[exitTo,hk])⟩
  |goto l=>exact hq.elim
  |ret=>exact⟨_,a₁,w₁,hq,harr⟩
  |panic ch=>exact⟨_,a₁,w₁,hq,harr⟩
  |outgrown=>exact⟨_,a₁,w₁,hq,harr⟩
 cases e with
 |normal=>exact⟨.normal,a₁,w₁,hq,.head step_scope (Steps.trans harr (.one step_inScope))⟩
 |exit id=>exact⟨.exit id,a₁,w₁,hq,fun k' hk=>.head step_scope (harr k' (by simp[exitTo,hk]))⟩
 |goto l =>
  simp only at hq
  cases hf:findLabel c l with
  |none =>
   rw[hf]at hq
   exact⟨.goto l,a₁,w₁,hq,fun k' hk=>.head step_scope (harr k' (by simp[gotoIn,hf,hk]))⟩
  |some r =>
   rw[hf]at hq
   obtain⟨e2,a2,w2,q2,r2⟩:=aBQ hq
   exact⟨e2,a2,w2,q2,.of_steps (Steps.trans (.one step_scope) (harr _ (by simp[gotoIn,hf]))) r2⟩
 |ret=>exact⟨_,a₁,w₁,hq,.of_steps (.one step_scope) harr⟩
 |panic ch=>exact⟨_,a₁,w₁,hq,.of_steps (.one step_scope) harr⟩
 |outgrown=>exact⟨_,a₁,w₁,hq,.of_steps (.one step_scope) harr⟩
theorem NF:∀ {c:Code}{l:Nat}{r:Code},findLabel c l=some r→l∈yS c
 |.seq a b,l,r,h=>by
  rw[findLabel]at h
  rw[yS,List.mem_append]
  split at h
  ·rename_i rest hr
   exact .inl (NF hr)
  ·exact .inr (NF h)
 |.label l',l,r,h=>by
  rw[findLabel]at h
  split at h
  ·rename_i he
   have:l'=l:=by simpa using he
   simp[yS,this]
  ·cases h
 |.skip,_,_,h=>by simp[findLabel]at h
 |.region ..,_,_,h=>by simp[findLabel]at h
 |.cond ..,_,_,h=>by simp[findLabel]at h
 |.block ..,_,_,h=>by simp[findLabel]at h
 |.loop ..,_,_,h=>by simp[findLabel]at h
 |.exit ..,_,_,h=>by simp[findLabel]at h
 |.ret,_,_,h=>by simp[findLabel]at h
 |.scope ..,_,_,h=>by simp[findLabel]at h
 |.goto ..,_,_,h=>by simp[findLabel]at h
 |.rangeFunc ..,_,_,h=>by simp[findLabel]at h
 |.refuse ..,_,_,h=>by simp[findLabel]at h
theorem Wu{t f:Nat}{c:Code}:∀ (ls:List Nat),Nat.testBit (ls.foldr (fun l s=>eO f (EF c l) ||| s) 0) t=false→∀ l∈ls,Nat.testBit (eO f (EF c l)) t=false
 |[],_,_,hl=>by cases hl
 |x::ls,h,l,hl=>by
  simp only[List.foldr_cons,Nat.testBit_or,Bool.or_eq_false_iff]at h
  rcases List.mem_cons.1 hl with rfl|hl
  ·exact h.1
  ·exact Wu ls h.2 l hl
theorem agH{t f:Nat}{c r:Code}{l:Nat}(hf:findLabel c l=some r)(h:Nat.testBit (eO (f+1) (.scope c)) t=false):Nat.testBit (eO f r) t=false:=by
 simp only[eO,Nat.testBit_or,Bool.or_eq_false_iff]at h
 have:=Wu _ h.2 l (NF hf)
 unfold EF at this
 rw[hf]at this
 exact this
def aaL(P:Program)(nt:Nat)(M0:RM)(ρ0:Ren)(w0:World)(T:Tree AV)(asg:Nat)(K:K3)(e:Exit)(a:Act)(w:World):Prop :=
 ∃ x T' M' ρ',e=UJ x∧After P M0 ρ0 w0 M' ρ' w∧fo ρ' nt T' a∧(∀ t,Nat.testBit asg t=false→T'.get t=T.get t)∧K x T' M'
theorem Xr{T:Tree AV}:∀ (vs:List Nat)(i:Nat),aD (Ea T vs) i=match vs[i]? with|some t=>(T.get t).getD .top|none=>.top
 |[],i=>by simp[Ea,aD]
 |t::vs,0=>by simp[Ea,aD]
 |t::vs,i+1=>by simp[Ea,aD,Xr vs i]
theorem KE:∀ (asg:List Nat)(T:Tree AV)(t:Nat),(IC T asg).get t=if t∈asg then some .top else T.get t
 |[],T,t=>by simp[IC]
 |d::asg,T,t=>by
  simp only[IC,KE asg,Tree.bn,List.mem_cons]
  by_cases h1:t∈asg
  ·simp[h1]
  ·by_cases h2:t=d<;>simp[h1,h2]
theorem MH:∀ (vs:List Nat)(T:Tree AV)(xs:List AV)(i t:Nat),(t∉vs∧(Yg T xs i vs).get t=T.get t)∨∃ j,vs[j]?=some t∧(Yg T xs i vs).get t=some (aD xs (i+j))
 |[],T,xs,i,t=>.inl ⟨by simp,rfl⟩
 |d::vs,T,xs,i,t=>by
  simp only[Yg]
  rcases MH vs (T.set d (aD xs i)) xs (i+1) t with⟨h1,h2⟩|⟨j,h1,h2⟩
  ·rw[Tree.bn]at h2
   by_cases e:t=d
   ·rw[if_pos e]at h2
    exact .inr ⟨0,by simp[e],h2⟩
   ·rw[if_neg e]at h2
    exact .inl ⟨by simp[e,h1],h2⟩
  ·exact .inr ⟨j+1,by simpa using h1,by rw[h2];congr 2;omega⟩
theorem F8{m:Nat}:∀ (n i t:Nat),t∈E8 m i n↔i≤t∧t<i+n∧Nat.testBit m t=true
 |0,i,t=>by simp[E8];omega
 |n+1,i,t=>by
  simp only[E8]
  split
  ·rename_i h
   rw[List.mem_cons,F8 n (i+1) t]
   constructor
   ·rintro(rfl|⟨a,b,c⟩)
    ·exact⟨Nat.le_refl _,by omega,h⟩
    ·exact⟨by omega,by omega,c⟩
   ·rintro⟨a,b,c⟩
    by_cases e:t=i
    ·exact .inl e
    ·exact .inr ⟨by omega,by omega,c⟩
  ·rename_i h
   rw[F8 n (i+1) t]
   constructor
   ·rintro⟨a,b,c⟩;exact⟨by omega,by omega,c⟩
   ·rintro⟨a,b,c⟩
    have:t≠i:=fun e=>by subst e;rw[h]at c;cases c
    exact⟨by omega,by omega,c⟩
theorem Af{m n t:Nat}:t∈bitsOf m n↔t<n∧Nat.testBit m t=true:=by
 unfold bitsOf;rw[F8];simp
theorem Kc{ρ:Ren}{T T' : Tree AV}{a:Act}{asg:Nat}{vs:List Nat}(h:fo ρ nt T' a)(hge:∀ t,nt≤t→ai ρ ((T.get t).getD .top) undef)(hk:∀ t,Nat.testBit asg t=false→T'.get t=T.get t):fo ρ nt (Ij T (bitsOf asg nt) vs (Ea T' vs)) a:=by
 refine⟨h.size,fun t=>?_,h.defers⟩
 unfold Ij
 rcases MH vs (IC T (bitsOf asg nt)) (Ea T' vs) 0 t with⟨_,h2⟩|⟨j,h1,h2⟩
 ·rw[h2,KE]
  split
  ·exact .top _
  ·rename_i hm
   by_cases hb:Nat.testBit asg t=true
   ·have hge' : nt≤t:=by
     rcases Nat.lt_or_ge t nt with hlt|hge
     ·exact absurd (Af.2 ⟨hlt,hb⟩) hm
     ·exact hge
    have hv:a.tmps.getD t undef=undef:=by
     rw[Array.getD_eq_getD_getElem?,Array.getElem?_eq_none (by rw[h.size];exact hge')];rfl
    rw[hv];exact hge t hge'
   ·rw[← hk t (by simpa using hb)]
    exact h.val t
 ·rw[h2,Nat.zero_add,Xr,h1]
  exact h.val t
theorem Oo{T:Tree AV}{asg:Nat}{vs:List Nat}{xs:List AV}(hvs:∀ t∈vs,Nat.testBit asg t=true)(t:Nat)(h:Nat.testBit asg t=false):(Ij T (bitsOf asg nt) vs xs).get t=T.get t:=by
 unfold Ij
 rcases MH vs (IC T (bitsOf asg nt)) xs 0 t with⟨_,h2⟩|⟨j,h1,h2⟩
 ·rw[h2,KE,if_neg]
  intro hm
  rw[(Af.1 hm).2]at h;cases h
 ·have:=hvs t (List.mem_of_getElem? h1)
  rw[h]at this;cases this
theorem fo.ge{ρ:Ren}{T:Tree AV}{a:Act}(h:fo ρ nt T a):∀ t,nt≤t→ai ρ ((T.get t).getD .top) undef:=by
 intro t ht
 have:=h.val t
 rw[Array.getD_eq_getD_getElem?,Array.getElem?_eq_none (by rw[h.size];exact ht)]at this
 exact this
theorem Mh{c:Code}{Q:Exit→Act→World→Prop}:∀ {n m:Nat}{a:Act}{w:World},n≤m→Code.rounds P c Q n a w→Code.rounds P c Q m a w
 |0,_,_,_,_,h=>h.elim
 |n+1,m+1,a,w,hle,h=>by
  rw[rounds_succ]at h ⊢
  refine wp_mono h fun e a' w' hp=>?_
  cases e with
  |normal=>exact Mh (Nat.le_of_succ_le_succ hle) hp
  |exit id=>exact hp
  |ret=>exact hp
  |goto l=>exact hp
  |panic c=>exact hp
  |outgrown=>exact hp
theorem Hf{t:Nat}:∀ (l:List Oper),Nat.testBit (Po l) t=false→∀ o∈l,o.dst≠some t
 |[],_,o,ho=>by cases ho
 |x::l,h,o,ho=>by
  simp only[Po,Nat.testBit_or,Bool.or_eq_false_iff]at h
  rcases List.mem_cons.1 ho with rfl|ho
  ·intro e
   rw[e]at h
   simp[Yy,Nat.testBit_two_pow]at h
  ·exact Hf l h.2 o ho
theorem aec{ρ:Ren}{x:AV}{u:Value}{p q:Prop}(h:aF x p q)(hx:ai ρ x u):∃ b,u=.bool b∧(b=true→p)∧(b=false→q):=by
 unfold aF at h
 split at h <;>try(cases h;done)
 rename_i b
 exact⟨b,(aH hx).1,h.1,h.2⟩
theorem SN(hP:POk P):∀ (f:Nat)(c:Code)(env:List (Nat×Nat))(L:Nat)(T:Tree AV)(M:RM)(K:K3),wpC P nt ret f c env L T M K →
  ∀ (M0:RM)(ρ0:Ren)(w0:World)(ρ:Ren)(a:Act)(w:World),After P M0 ρ0 w0 M ρ w→fo ρ nt T a→c.wp P (aaL P nt M0 ρ0 w0 T (eO f c) K) a w:=by
 intro f
 induction f with
 |zero=>intro c env L T M K h;exact h.elim
 |succ f ih =>
  intro c env L T M K h M0 ρ0 w0 ρ a w hM hA
  cases c with
  |skip=>exact wp_skip ⟨.normal,T,M,ρ,rfl,hM,hA,fun _ _=>rfl,h⟩
  |region id ops d =>
   cases d with
   |false =>
    refine wp_region ?_
    have:=GN (nt:=nt) hP (ops:=ops) (Q:=aaL P nt M0 ρ0 w0 T (eO (f+1) (.region id ops false)) K) (K:=fun T' M'=>K .normal T' M') (M0:=M0) (ρ0:=ρ0) (w0:=w0) (T0:=T)
     (fun T' M' ρ' a' w' k1 k2 k3 k4=>⟨.normal,T',M',ρ',rfl,k1,k2,fun t ht=>k4 t (Hf _ ht),k3⟩) ops.toList 0 (by simp) hA hM (fun _ _=>rfl) h
    rw[Array.length_toList,← List.range_eq_range']at this
    exact this
   |true =>
    exact Zi (nt:=nt) (T:=T) hP hM hA (fun T' M' ρ' a' w' k1 k2 k3 k4=>⟨.normal,T',M',ρ',rfl,k1,k2,fun t ht=>k4 t (Hf _ ht),k3⟩) h
  |seq c1 c2 =>
   simp only[wpC]at h
   refine wp_seq ?_
   split at h
   ·refine wp_mono (ih c1 _ _ _ _ _ h M0 ρ0 w0 ρ a w hM hA) fun e a' w' hp=>?_
    obtain⟨x,T1,M1,ρ1,rfl,k1,k2,k3,k4⟩:=hp
    cases x with
    |normal =>
     refine wp_mono (ih c2 _ _ _ _ _ k4 M0 ρ0 w0 ρ1 a' w' k1 k2) fun e a2 w2 hp=>?_
     obtain⟨x,T2,M2,ρ2,he,q1,q2,q3,q4⟩:=hp
     exact⟨x,T2,M2,ρ2,he,q1,q2,fun t ht=>by
      simp only[eO,Nat.testBit_or,Bool.or_eq_false_iff]at ht
      rw[q3 t ht.2,k3 t ht.1],q4⟩
    |exit i =>
     have kk:∀ t,Nat.testBit (eO (f+1) (.seq c1 c2)) t=false→T1.get t=T.get t:=fun t ht=>by
      simp only[eO,Nat.testBit_or,Bool.or_eq_false_iff]at ht
      exact k3 t ht.1
     rcases MK i with he|he<;>rw[he]<;>exact⟨.exit i,T1,M1,ρ1,he.symm,k1,k2,kk,k4⟩
    |ret=>exact⟨.ret,T1,M1,ρ1,rfl,k1,k2,fun t ht=>by
      simp only[eO,Nat.testBit_or,Bool.or_eq_false_iff]at ht
      exact k3 t ht.1,k4⟩
   ·unfold iK at h
    refine wp_mono (ih c1 _ _ _ _ _ h M0 ρ0 w0 ρ a w hM hA) fun e a' w' hp=>?_
    obtain⟨x,T1,M1,ρ1,rfl,k1,k2,k3,k4⟩:=hp
    have hge:∀ t,nt≤t→ai ρ1 ((T.get t).getD .top) undef:=fun t ht=>by
     have h1:=k2.ge t ht
     by_cases hb:Nat.testBit (eO f c1) t=false
     ·rw[k3 t hb]at h1;exact h1
     ·have h0:=hA.ge t ht
      have hu:∀ (ρ ρ' : Ren)(x:AV),ai ρ x undef→ai ρ' x undef:=by
       intro ρ ρ' x hx
       unfold undef at hx ⊢
       cases hx with
       |top=>exact .top _
       |sc v p=>exact .sc _ p
       |tup xs vs a=>cases a;exact .tup _ _ .nil
      exact hu _ _ _ h0
    cases x with
    |normal =>
     refine wp_mono (ih c2 _ _ _ _ _ k4 M0 ρ0 w0 ρ1 a' w' k1 (Kc k2 hge k3)) fun e a2 w2 hp=>?_
     obtain⟨x,T2,M2,ρ2,he,q1,q2,q3,q4⟩:=hp
     refine⟨x,T2,M2,ρ2,he,q1,q2,fun t ht=>?_,q4⟩
     simp only[eO,Nat.testBit_or,Bool.or_eq_false_iff]at ht
     rw[q3 t ht.2]
     refine Oo (fun t' ht'=>?_) t ht.1
     have:=(Af.1 ht').2
     rw[Nat.testBit_and,Bool.and_eq_true]at this
     exact this.1
    |exit i =>
     have kk:∀ t,Nat.testBit (eO (f+1) (.seq c1 c2)) t=false→T1.get t=T.get t:=fun t ht=>by
      simp only[eO,Nat.testBit_or,Bool.or_eq_false_iff]at ht
      exact k3 t ht.1
     rcases MK i with he|he<;>rw[he]<;>exact⟨.exit i,T1,M1,ρ1,he.symm,k1,k2,kk,k4⟩
    |ret=>exact⟨.ret,T1,M1,ρ1,rfl,k1,k2,fun t ht=>by
      simp only[eO,Nat.testBit_or,Bool.or_eq_false_iff]at ht
      exact k3 t ht.1,k4⟩
  |cond cnd c1 c2 =>
   simp only[wpC]at h
   obtain⟨b,hb,h1,h2⟩:=aec h (oJ hA cnd)
   cases b with
   |true =>
    refine wp_cond_true hb (wp_mono (ih c1 _ _ _ _ _ (h1 rfl) M0 ρ0 w0 ρ a w hM hA) fun e a' w' hp=>?_)
    obtain⟨x,T1,M1,ρ1,he,k1,k2,k3,k4⟩:=hp
    exact⟨x,T1,M1,ρ1,he,k1,k2,fun t ht=>by
      simp only[eO,Nat.testBit_or,Bool.or_eq_false_iff]at ht
      exact k3 t ht.1,k4⟩
   |false =>
    refine wp_cond_false hb (wp_mono (ih c2 _ _ _ _ _ (h2 rfl) M0 ρ0 w0 ρ a w hM hA) fun e a' w' hp=>?_)
    obtain⟨x,T1,M1,ρ1,he,k1,k2,k3,k4⟩:=hp
    exact⟨x,T1,M1,ρ1,he,k1,k2,fun t ht=>by
      simp only[eO,Nat.testBit_or,Bool.or_eq_false_iff]at ht
      exact k3 t ht.2,k4⟩
  |block id c1 =>
   simp only[wpC]at h
   split at h <;>try(cases h;done)
   rename_i hid
   refine wp_block (wp_mono (ih c1 _ _ _ _ _ h M0 ρ0 w0 ρ a w hM hA) fun e a' w' hp=>?_)
   obtain⟨x,T1,M1,ρ1,rfl,k1,k2,k3,k4⟩:=hp
   cases x with
   |normal=>exact⟨.normal,T1,M1,ρ1,rfl,k1,k2,k3,k4⟩
   |ret=>exact⟨.ret,T1,M1,ρ1,rfl,k1,k2,k3,k4⟩
   |exit i =>
    simp only at k4
    split at k4
    ·rename_i he
     have he:=dG he
     subst he
     rw[tu hid]
     simp only[Exit.inBlock,if_true]
     exact⟨.normal,T1,M1,ρ1,rfl,k1,k2,k3,k4⟩
    ·rename_i he
     have he:=OT he
     cases hg:Nat.ble gt i with
     |false=>rw[tu hg];simp only[Exit.inBlock,if_neg he];exact⟨.exit i,T1,M1,ρ1,(tu hg).symm,k1,k2,k3,k4⟩
     |true=>rw[FM hg];exact⟨.exit i,T1,M1,ρ1,(FM hg).symm,k1,k2,k3,k4⟩
  |loop c1 =>
   simp only[wpC]at h
   obtain⟨I,n,hI,hbody⟩:=h
   have hvs:∀ t∈bitsOf (eO f c1 &&& gD ret f env c1 (gD ret f env c1 0)) nt,Nat.testBit (eO f c1) t=true:=fun t' ht'=>by
    have:=(Af.1 ht').2
    rw[Nat.testBit_and,Bool.and_eq_true]at this
    exact this.1
   generalize hv:bitsOf (eO f c1 &&& gD ret f env c1 (gD ret f env c1 0)) nt=vs at hI hbody hvs
   have hu:∀ (ρ ρ' : Ren)(x:AV),ai ρ x undef→ai ρ' x undef:=by
    intro ρ ρ' x hx
    unfold undef at hx ⊢
    cases hx with
    |top=>exact .top _
    |sc v p=>exact .sc _ p
    |tup xs vs a=>cases a;exact .tup _ _ .nil
   have hge:∀ (ρ1:Ren) t,nt≤t→ai ρ1 ((T.get t).getD .top) undef:=fun ρ1 t ht=>hu _ _ _ (hA.ge t ht)
   have key:∀ (m:Nat)(ys:List AV)(M1:RM)(ρ1:Ren)(a1:Act)(w1:World),I m ys M1→After P M0 ρ0 w0 M1 ρ1 w1→fo ρ1 nt (Ij T (bitsOf (eO f c1) nt) vs ys) a1 →
     Code.rounds P c1 (aaL P nt M0 ρ0 w0 T (eO (f+1) (.loop c1)) K) (m+1) a1 w1:=by
    intro m
    induction m using Nat.strongRecOn with
    |_ m ihm =>
     intro ys M1 ρ1 a1 w1 hIm hM1 hA1
     rw[rounds_succ]
     refine wp_mono (ih c1 _ _ _ _ _ (hbody m ys M1 hIm) M0 ρ0 w0 ρ1 a1 w1 hM1 hA1) fun e a' w' hp=>?_
     obtain⟨x,T2,M2,ρ2,rfl,k1,k2,k3,k4⟩:=hp
     have k3' : ∀ t,Nat.testBit (eO f c1) t=false→T2.get t=T.get t:=fun t ht=>by rw[k3 t ht];exact Oo hvs t ht
     cases x with
     |normal =>
      obtain⟨m',hlt,hI'⟩:=k4
      exact Mh (by omega) (ihm m' hlt _ M2 ρ2 a' w' hI' k1 (Kc k2 (hge ρ2) k3'))
     |exit i=>rcases MK i with he|he<;>rw[he]<;>exact⟨.exit i,T2,M2,ρ2,he.symm,k1,k2,k3',k4⟩
     |ret=>exact⟨.ret,T2,M2,ρ2,rfl,k1,k2,k3',k4⟩
   exact wp_loop_rounds _ (key n _ M ρ a w hI hM (Kc hA (hge ρ) fun _ _=>rfl))
  |exit id =>
   simp only[wpC]at h
   split at h <;>try(cases h;done)
   rename_i hid
   exact wp_exit ⟨.exit id,T,M,ρ,(tu hid).symm,hM,hA,fun _ _=>rfl,h⟩
  |ret=>exact wp_ret ⟨.ret,T,M,ρ,rfl,hM,hA,fun _ _=>rfl,h⟩
  |rangeFunc=>simp[wpC]at h
  |scope c1 =>
   simp only[wpC]at h
   have hs:∀ t,Nat.testBit (eO (f+1) (.scope c1)) t=false→Nat.testBit (eO f c1) t=false:=fun t ht=>by
    simp only[eO,Nat.testBit_or,Bool.or_eq_false_iff]at ht
    exact ht.1
   refine TA (wp_mono (ih c1 _ _ _ _ _ h M0 ρ0 w0 ρ a w hM hA) fun e a' w' hp=>?_)
   obtain⟨x,T1,M1,ρ1,rfl,k1,k2,k3,k4⟩:=hp
   cases x with
   |normal=>exact⟨.normal,T1,M1,ρ1,rfl,k1,k2,fun t ht=>k3 t (hs t ht),k4⟩
   |ret=>exact⟨.ret,T1,M1,ρ1,rfl,k1,k2,fun t ht=>k3 t (hs t ht),k4⟩
   |exit i =>
    cases hg:Nat.ble gt i with
    |false =>
     simp only[hg]at k4
     rw[tu hg]
     exact⟨.exit i,T1,M1,ρ1,(tu hg).symm,k1,k2,fun t ht=>k3 t (hs t ht),k4⟩
    |true =>
     simp only[hg]at k4
     rw[FM hg]
     simp only
     cases hf:findLabel c1 (i-gt)with
     |none =>
      simp only[hf]at k4
      exact⟨.exit i,T1,M1,ρ1,(FM hg).symm,k1,k2,fun t ht=>k3 t (hs t ht),k4⟩
     |some r =>
      simp only[hf]at k4
      refine wp_mono (ih r _ _ _ _ _ k4 M0 ρ0 w0 ρ1 a' w' k1 k2) fun e a2 w2 hp=>?_
      obtain⟨x,T2,M2,ρ2,rfl,q1,q2,q3,q4⟩:=hp
      have q3' : ∀ t,Nat.testBit (eO (f+1) (.scope c1)) t=false→T2.get t=T.get t:=fun t ht=>by rw[q3 t (agH hf ht),k3 t (hs t ht)]
      cases x with
      |normal=>exact⟨.normal,T2,M2,ρ2,rfl,q1,q2,q3',q4⟩
      |ret=>exact⟨.ret,T2,M2,ρ2,rfl,q1,q2,q3',q4⟩
      |exit j =>
       cases hj:Nat.ble gt j with
       |true=>simp only[hj]at q4
       |false =>
        simp only[hj]at q4
        rw[tu hj]
        exact⟨.exit j,T2,M2,ρ2,(tu hj).symm,q1,q2,q3',q4⟩
  |label l=>exact wp_label ⟨.normal,T,M,ρ,rfl,hM,hA,fun _ _=>rfl,h⟩
  |goto l =>
   simp only[wpC]at h
   refine wp_goto ⟨.exit (gt+l),T,M,ρ, ?_,hM,hA,fun _ _=>rfl,h⟩
   rw[FM (by simp),Nat.add_sub_cancel_left]
  |refuse=>simp[wpC]at h
theorem ac3{ρ:Ren}{T:Tree AV}{M:RM}{a:Act}{w:World}(hA:fo ρ nt T a)(hw:bu P ρ M w){r:ResultVar}{K:AV→Prop}(h:Xa P T M r K) :
  ∃ v v',(qP a.tmps r).run P w=.ok v' w∧ai ρ v v'∧K v:=by
 cases r with
 |tmp t=>exact⟨_,_,rfl,hA.val t,h⟩
 |cell x t =>
  simp only[Xa]at h
  have hv:=hA.val x
  split at h <;>try(cases h;done)
  ·rename_i ha
   obtain⟨b,p,v,hx,hl,hk⟩:=h
   rw[hx]at hv
   obtain⟨i,hb,hc⟩:=bX hv
   obtain⟨u,hu,hcell⟩:=sG hw hb hl
   refine⟨v,u, ?_,hu,hk⟩
   simp only[qP,hc,asAddr,Sem.run_bind,Sem.run_pure,Result.andThen_ok,loadVar,jk ha,Bool.false_eq_true,if_false,load,Sem.run,hcell]
  ·rename_i ha
   split at h <;>try(cases h;done)
   rename_i n hs
   obtain⟨b,p,xs,hx,hl,hk⟩:=h
   rw[hx]at hv
   obtain⟨i,hb,hc⟩:=bX hv
   obtain⟨vs,hr,hlen,_,hrun⟩:=RM.mW (P:=P) hw hb hl
   exact⟨.agg xs,.agg ⟨vs⟩,by simp only[qP,hc,asAddr,Sem.run_bind,Sem.run_pure,Result.andThen_ok,loadVar,jk ha,if_true,cZ hs,hrun],.agg _ _ hr,hk⟩
theorem qb{ρ:Ren}{T:Tree AV}{M:RM}{a:Act}{w:World}(hA:fo ρ nt T a)(hw:bu P ρ M w):∀ (rs:List ResultVar)(K:List AV→Prop),YA P T M rs K →
  ∃ vs us,(rs.mapM (qP a.tmps)).run P w=.ok us w∧aQ ρ vs us∧K vs
 |[],K,h=>⟨[],[],by simp,.nil,h⟩
 |r::rs,K,h=>by
  obtain⟨v,v',h1,h2,h3⟩:=ac3 hA hw h
  obtain⟨vs,us,h4,h5,h6⟩:=qb hA hw rs _ h3
  refine⟨v::vs,v'::us, ?_,.cons _ _ _ _ h2 h5,h6⟩
  simp only[List.mapM_cons,Sem.run_bind,h1,Result.andThen_ok,h4,Sem.run_pure]
theorem QR(hP:POk P){f:FuncId}{fn:Func}{c:Code}{args:List AV}{M:RM}{Q:aj}(hfn:P.funcs[f]?=some fn)(hbody:fn.body=some c)(h:af3 P fn c args M Q):dL P f args M Q:=by
 refine⟨⟨fn,c,hfn,hbody⟩,fun ρ w us hargs hw=>?_⟩
 have hlen:=hargs.length
 have hA:fo ρ (args.length+(fn.ntmps-args.length)) (Tree.ofList args 0 .leaf) { tmps:=⟨us⟩++Array.replicate (fn.ntmps-(⟨us⟩ : Array Value).size) undef,defers:=[] } := by
  refine⟨by simp[hlen],fun t=>?_,rfl⟩
  rw[Tree.mZ]
  by_cases ht:t<args.length
  ·rw[if_pos (by omega),Nat.sub_zero]
   obtain⟨u,hu,hv⟩:=hargs.get (n:=t) (x:=args[t]) (by simp[ht])
   rw[List.getElem?_eq_getElem ht]
   simp only[Option.getD_some]
   have:((⟨us⟩ : Array Value)++Array.replicate (fn.ntmps-(⟨us⟩ : Array Value).size) undef).getD t undef=u:=by
    rw[Array.getD_eq_getD_getElem?,Array.getElem?_append_left (by simp;omega)]
    simp[hu]
   rw[this];exact hv
  ·rw[if_neg (by omega)]
   exact .top _
 refine calls_of_wp hfn hbody (wp_mono (SN hP 1000 c [] 0 _ M _ h M ρ w ρ _ w (After.refl hw) hA) fun e a w' hp=>?_)
 obtain⟨x,T',M',ρ',rfl,k1,k2,k3,k4⟩:=hp
 have key:(∃ vs us,(fn.results.toList.mapM (qP a.tmps)).run P w'=.ok us w'∧aQ ρ' vs us∧Ew Q M' vs) →
   a.defers=[]∧∃ v,(results fn a.tmps).run P w'=.ok v w'∧∃ v' v_1 VH WO,Ending.returned v=.returned v'∧After P M ρ w VH WO w'∧ai WO v_1 v'∧Q v_1 VH:=by
  rintro⟨vs,us,h1,h2,h3⟩
  have hres:(results fn a.tmps).run P w'=.ok (if h:(⟨us⟩ : Array Value).size=1 then(⟨us⟩ : Array Value)[0]else .tuple ⟨us⟩) w':=by
   have e:results fn a.tmps=(fn.results.mapM (qP a.tmps) >>= fun vs=>pure (if h:vs.size=1 then vs[0]else .tuple vs)):=rfl
   rw[e,Array.mapM_eq_mapM_toList]
   simp only[Sem.run_bind,Sem.run_map,h1,Result.andThen_ok,Sem.run_pure]
  refine⟨k2.defers,_,hres, ?_⟩
  cases h2 with
  |nil=>exact⟨_,_,M',ρ',rfl,k1,.tup _ _ .nil,h3⟩
  |cons x v xs vs2 hv htl =>
   cases htl with
   |nil=>exact⟨_,x,M',ρ',rfl,k1,hv,h3⟩
   |cons y u ys us2 hu Vj=>exact⟨_,_,M',ρ',rfl,k1,.tup _ _ (.cons _ _ _ _ hv (.cons _ _ _ _ hu Vj)),h3⟩
 cases x with
 |normal=>exact key (qb k2 k1.rel _ _ k4)
 |ret=>exact key (qb k2 k1.rel _ _ k4)
 |exit id=>exact k4.elim
abbrev aB:=List AV→RM→aj→Prop
def qf(P:Program)(fn:Func)(args:List AV)(M:RM)(Q:aj):Prop :=
 match fn.body with
 |some c=>af3 P fn c args M Q
 |none=>False
theorem adN(hP:POk P){f:FuncId}{fn:Func}{args:List AV}{M:RM}{Q:aj}(hfn:P.funcs[f]?=some fn)(h:qf P fn args M Q):dL P f args M Q:=by
 unfold qf at h
 split at h
 ·rename_i c hc;exact QR hP hfn hc h
 ·cases h
end
end Go.Ab
set_option maxRecDepth 100000
namespace Go.Ab.Hw
open Go Go.Ab
def mf(p1 p2:Nat)(p3 p4:aB)(a0:AV)(M0:RM)(Q:aj):Prop:=cz (.row [(St []),(St []),(.sc (.slice none 0 0)),(.sc (.slice none 0 0))] false p1 0) (fun g=>.ptr g 0) M0 fun c r=>cz (.row [(St []),(St []),(.sc (.slice none 0 0)),(.sc (.slice none 0 0))] false p1 0) (fun g=>.ptr g 0) r fun d s=>p3 [a0,(.fn (.func p2) [] [d])] s fun h j=>bz h 0 fun o=>bz h 1 fun y=>bz h 2 fun p=>ag .neq p (N .i64 0) fun z=>aF z ( iV [(St []),(St []),(.sc (.slice none 0 0)),(.sc (.slice none 0 0))] [] fun A=>aR j c A 4 fun l=>bT l c 4 fun v=>Q (.tup [v,(N .i64 0),p]) l) ( aZ d 2 fun B=>aR j B o 1 fun t=>p4 [a0,y,o] t fun i u=>bz i 0 fun C=>bz i 1 fun D=>bz i 2 fun q=>aZ d 3 fun E=>aR u E C 1 fun e=>ag .neq q (N .i64 0) fun F=>aF F ( iV [(St []),(St []),(.sc (.slice none 0 0)),(.sc (.slice none 0 0))] [] fun G=>aR e c G 4 fun m=>bT m c 4 fun w=>Q (.tup [w,(N .i64 0),q]) m) ( bT e d 4 fun H=>aR e c H 4 fun n=>bT n c 4 fun x=>Q (.tup [x,D,(N .i64 0)]) n))
def kR(p1:Nat)(p2 p3 p4:aB)(a0:AV)(M0:RM)(Q:aj):Prop:=Bj p1 a0 fun v u=>cz v u M0 fun d g=>bT g d 4 fun O=>p2 [O] g fun P c=>iF P fun R=>aF R ( Q (.tup [(.sc (.slice none 0 0)),(N .i64 1)]) c) ( aZ d 0 fun r=>au c r fun s=>dI .add s (St [32]) fun U=>aZ d 1 fun h=>au c h fun i=>dI .add U i fun x=>dI .add x (St [32]) fun y=>dI .add y (St [72,84,84,80,47,49,46,49]) fun z=>aZ d 2 fun j=>au c j fun l=>aZ d 3 fun B=>au c B fun C=>bS C fun D=>aZ d 3 fun m=>au c m fun n=>bS n fun G=>aZ d 3 fun o=>au c o fun p=>p3 [D] c fun E e=>au e r fun S=>(S=s∧au e h fun w=>(w=i∧au e j fun A=>(A=l∧au e m fun F=>(F=n∧au e o fun H=>(H=p∧p4 [z,l,E,G,p] e fun q t=>bz q 0 fun I=>bz q 1 fun L=>Q (.tup [I,L]) t))))))
def kw(p1:Nat)(p2 p3 p4:aB)(a0:AV)(M0:RM)(Q:aj):Prop:=Bj p1 a0 fun C z=>cz C z M0 fun c l=>aZ c 0 fun vk=>au l vk fun vl=>ag .lss vl (N .i64 100) fun j=>af j false (fun d=>aZ c 0 fun vm=>d vm l) (fun d=>d .undef l) fun vn m=>af j false (fun A=>au m vn fun D=>A D m) (fun d=>d .undef m) fun E u=>af j false (fun B=>ag .gtr E (N .i64 599) fun F=>B F u) (fun d=>d .undef u) fun G i=>aM j (Bo true) G fun H=>aF H ( Q (.tup [(.sc (.slice none 0 0)),(N .i64 1)]) i) ( iK (fun t=>aZ c 0 fun I=>au i I fun L=>ag .quo L (N .i64 100) fun O=>ag .eql O (N .i64 2) fun P=>aF P ( t [(St [79,75])] i) ( t [(St [78,111])] i)) (fun vo e=>aZ c 0 fun R=>au e R fun S=>aZ c 1 fun n=>au e n fun o=>aZ c 2 fun v=>au e v fun w=>bS w fun vb=>aZ c 2 fun p=>au e p fun q=>bS q fun vf=>aZ c 2 fun r=>au e r fun s=>p2 [S] e fun U g=>au g n fun Z=>(Z=o∧au g v fun va=>(va=w∧au g p fun ve=>(ve=q∧au g r fun vh=>(vh=s∧dI .add (St [72,84,84,80,47,49,46,49,32]) U fun V=>dI .add V (St [32]) fun W=>dI .add W (aD vo 0) fun X=>p3 [vb] g fun vc h=>au h n fun Y=>(Y=o∧au h p fun vd=>(vd=q∧au h r fun vg=>(vg=s∧p4 [X,o,vc,vf,s] h fun x y=>bz x 0 fun vi=>bz x 1 fun vj=>Q (.tup [vi,vj]) y)))))))))
def kT(p1 p2:Nat)(p3 p4:aB)(a0:AV)(M0:RM)(Q:aj):Prop:=cz (.row [(N .i64 0),(.sc (.slice none 0 0)),(.sc (.slice none 0 0))] false p1 0) (fun g=>.ptr g 0) M0 fun c r=>cz (.row [(N .i64 0),(.sc (.slice none 0 0)),(.sc (.slice none 0 0))] false p1 0) (fun g=>.ptr g 0) r fun d s=>p3 [a0,(.fn (.func p2) [] [d])] s fun h j=>bz h 0 fun o=>bz h 1 fun y=>bz h 2 fun p=>ag .neq p (N .i64 0) fun z=>aF z ( iV [(N .i64 0),(.sc (.slice none 0 0)),(.sc (.slice none 0 0))] [] fun A=>aR j c A 3 fun l=>bT l c 3 fun v=>Q (.tup [v,(N .i64 0),p]) l) ( aZ d 1 fun B=>aR j B o 1 fun t=>p4 [a0,y,o] t fun i u=>bz i 0 fun C=>bz i 1 fun D=>bz i 2 fun q=>aZ d 2 fun E=>aR u E C 1 fun e=>ag .neq q (N .i64 0) fun F=>aF F ( iV [(N .i64 0),(.sc (.slice none 0 0)),(.sc (.slice none 0 0))] [] fun G=>aR e c G 3 fun m=>bT m c 3 fun w=>Q (.tup [w,(N .i64 0),q]) m) ( bT e d 3 fun H=>aR e c H 3 fun n=>bT n c 3 fun x=>Q (.tup [x,D,(N .i64 0)]) n))
def lK(p1:Nat)(p2:aB)(a0 a1:AV)(M0:RM)(Q:aj):Prop:=Bj p1 a0 fun h g=>cz h g M0 fun l c=>aZ l 2 fun m=>au c m fun n=>p2 [n,a1] c fun d e=>bz d 0 fun i=>bz d 1 fun j=>Q (.tup [i,j]) e
def kQ(p1:Nat)(p2:aB)(a0 a1:AV)(M0:RM)(Q:aj):Prop:=Bj p1 a0 fun h g=>cz h g M0 fun l c=>aZ l 1 fun m=>au c m fun n=>p2 [n,a1] c fun d e=>bz d 0 fun i=>bz d 1 fun j=>Q (.tup [i,j]) e
def tV(p1:aB)(cv:(FuncId→aB))(p2:aB)(p3:Nat)(a0 a1:AV)(M0:RM)(Q:aj):Prop:=p1 [a0,(N .i64 0)] M0 fun g i=>bz g 0 fun A=>bz g 1 fun B=>bz g 2 fun l=>ag .neq l (N .i64 0) fun C=>aF C ( Q (.tup [(.sc (.slice none 0 0)),(N .i64 0),l]) i) ( GX cv a1 [A] i fun D j=>iF D fun E=>aF E ( Q (.tup [(.sc (.slice none 0 0)),(N .i64 0),(N .i64 14)]) j) ( eY (fun y d r=>p1 [a0,(aD d 1)] r fun h c=>bz h 0 fun m=>bz h 1 fun n=>bz h 2 fun o=>ag .neq o (N .i64 0) fun F=>aF F ( Q (.tup [(.sc (.slice none 0 0)),(N .i64 0),o]) c) ( dI .eql m (St []) fun G=>aF G ( Q (.tup [(aD d 0),n,(N .i64 0)]) c) ( bS (aD d 0) fun H=>ag .eql H (N .i64 32) fun I=>aF I ( Q (.tup [(.sc (.slice none 0 0)),(N .i64 0),(N .i64 2)]) c) ( p2 [m] c fun p s=>bz p 0 fun L=>bz p 1 fun O=>cz (.row [(St []),(St [])] false p3 0) (fun w=>.ptr w 0) s fun q t=>aR t q L 2 fun e=>iF O fun P=>aF P ( Q (.tup [(.sc (.slice none 0 0)),(N .i64 0),(N .i64 14)]) e) ( bT e q 2 fun R=>jN p3 1 [(St []),(St [])] [(0,2,R)] fun z x=>cz z x e fun S u=>appW p3 2 32 [(St []),(St [])] false (aD d 0) S u fun U v=>y [U,n] v))))) [(.sc (.slice none 0 0)),B] j))
def kF(p1 p2 p3:aB)(a0 a1:AV)(M0:RM)(Q:aj):Prop:=p1 [a0,(St [32])] M0 fun e n=>bS e fun v2=>ag .neq v2 (N .i64 3) fun g=>af g false (fun c=>c e n) (fun c=>c .undef n) fun X o=>af g false (fun E=>ed X (N .i64 0) 1 fun Y=>E Y o) (fun c=>c .undef o) fun Z l=>af g false (fun V=>au l Z fun va=>V va l) (fun c=>c .undef l) fun vb y=>af g false (fun W=>p2 [vb] y fun vc D=>W vc D) (fun c=>c .undef y) fun vd p=>af g false (fun F=>iF vd fun ve=>F ve p) (fun c=>c .undef p) fun vf q=>aM g (Bo true) vf fun d=>af d false (fun G=>G e q) (fun c=>c .undef q) fun vg r=>af d false (fun H=>ed vg (N .i64 1) 1 fun vh=>H vh r) (fun c=>c .undef r) fun vi j=>af d false (fun I=>au j vi fun vj=>I vj j) (fun c=>c .undef j) fun vk s=>af d false (fun L=>p3 [vk] s fun vl B=>L vl B) (fun c=>c .undef s) fun vm t=>af d false (fun O=>iF vm fun vn=>O vn t) (fun c=>c .undef t) fun vo u=>aM d (Bo true) vo fun h=>af h false (fun P=>P e u) (fun c=>c .undef u) fun vp v=>af h false (fun R=>ed vp (N .i64 2) 1 fun vq=>R vq v) (fun c=>c .undef v) fun vr m=>af h false (fun S=>au m vr fun vs=>S vs m) (fun c=>c .undef m) fun vt w=>af h false (fun U=>dI .neq vt (St [72,84,84,80,47,49,46,49]) fun vu=>U vu w) (fun c=>c .undef w) fun vv i=>aM h (Bo true) vv fun vw=>aF vw ( Q (Bo false) i) ( ed e (N .i64 0) 1 fun vx=>au i vx fun vy=>ed e (N .i64 1) 1 fun z=>au i z fun A=>aZ a1 0 fun v0=>aR i v0 vy 1 fun x=>au x z fun vz=>(vz=A∧aZ a1 1 fun v1=>aR x v1 A 1 fun C=>Q (Bo true) C))
def mI(p1 p2:aB)(p3:Nat)(a0:AV)(M0:RM)(Q:aj):Prop:=p1 [a0,(N .i64 1),(N .i64 8)] M0 fun d e=>af d true (fun c=>c a0 e) (fun c=>c .undef e) fun l g=>af d true (fun j=>p2 [l,(.fn (.func p3) [] [])] g fun m h=>j m h) (fun c=>c .undef g) fun n i=>aM d n (Bo false) fun o=>Q o i
def nV(p1 p2:aB)(p3:Nat)(a0:AV)(M0:RM)(Q:aj):Prop:=p1 [a0,(St [47])] M0 fun d g=>af d true (fun c=>c a0 g) (fun c=>c .undef g) fun w h=>af d true (fun o=>eB w fun x=>o x h) (fun c=>c .undef h) fun y i=>af d true (fun p=>ag .leq y (N .i64 201) fun z=>p z i) (fun c=>c .undef i) fun A j=>aM d A (Bo false) fun e=>af e true (fun q=>q a0 j) (fun c=>c .undef j) fun s l=>af e true (fun r=>p2 [s,(.fn (.func p3) [] [])] l fun t m=>r t m) (fun c=>c .undef l) fun u n=>aM e u (Bo false) fun v=>Q v n
def uq(p1 p2 p3 p4 p5:aB)(p6:Nat)(p7 p8:aB)(a0 a1 a2:AV)(M0:RM)(Q:aj):Prop:=p1 [a2,(St [116,114,97,110,115,102,101,114,45,101,110,99,111,100,105,110,103])] M0 fun r I=>p1 [a2,(St [99,111,110,116,101,110,116,45,108,101,110,103,116,104])] I fun d i=>bS r fun vl=>ag .gtr vl (N .i64 0) fun vm=>aF vm ( bS r fun vn=>ag .gtr vn (N .i64 1) fun e=>af e false (fun c=>c r i) (fun c=>c .undef i) fun vo t=>af e false (fun X=>ed vo (N .i64 0) 1 fun vp=>X vp t) (fun c=>c .undef t) fun vq n=>af e false (fun vi=>au n vq fun vr=>vi vr n) (fun c=>c .undef n) fun vs G=>af e false (fun vk=>p2 [vs] G fun vt S=>vk vt S) (fun c=>c .undef G) fun vu u=>af e false (fun U=>dI .neq vu (St [99,104,117,110,107,101,100]) fun vv=>U vv u) (fun c=>c .undef u) fun vw v=>aM e (Bo true) vw fun j=>af j false (fun V=>V d v) (fun c=>c .undef v) fun vx w=>af j false (fun W=>bS vx fun vy=>W vy w) (fun c=>c .undef w) fun vz x=>af j false (fun Y=>ag .gtr vz (N .i64 0) fun v0=>Y v0 x) (fun c=>c .undef x) fun v1 y=>aM j (Bo true) v1 fun v2=>aF v2 ( Q (.tup [(.sc (.slice none 0 0)),(N .i64 0),(N .i64 14)]) y) ( p3 [a0,a1] y fun s L=>bz s 0 fun v3=>bz s 1 fun v4=>bz s 2 fun v5=>Q (.tup [v3,v4,v5]) L)) ( bS d fun v6=>ag .eql v6 (N .i64 0) fun v7=>aF v7 ( Q (.tup [(.sc (.slice none 0 0)),a1,(N .i64 0)]) i) ( bS d fun v8=>ag .gtr v8 (N .i64 1) fun g=>af g false (fun Z=>Z d i) (fun c=>c .undef i) fun v9 z=>af g false (fun va=>ed v9 (N .i64 0) 1 fun wa=>va wa z) (fun c=>c .undef z) fun wb m=>af g false (fun vb=>au m wb fun wc=>vb wc m) (fun c=>c .undef m) fun wd A=>af g false (fun vc=>p4 [wd,(N .i64 1),(N .i64 9)] A fun we O=>vc we O) (fun c=>c .undef A) fun wf B=>af g false (fun vd=>iF wf fun wg=>vd wg B) (fun c=>c .undef B) fun wh C=>aM g (Bo true) wh fun h=>af h false (fun ve=>ve d C) (fun c=>c .undef C) fun wi D=>af h false (fun vf=>ed wi (N .i64 0) 1 fun wj=>vf wj D) (fun c=>c .undef D) fun wk o=>af h false (fun vg=>au o wk fun wl=>vg wl o) (fun c=>c .undef o) fun wm E=>af h false (fun vh=>p5 [wm,(.fn (.func p6) [] [])] E fun wn P=>vh wn P) (fun c=>c .undef E) fun wo F=>af h false (fun vj=>iF wo fun wp=>vj wp F) (fun c=>c .undef F) fun wq p=>aM h (Bo true) wq fun wr=>aF wr ( Q (.tup [(.sc (.slice none 0 0)),(N .i64 0),(N .i64 14)]) p) ( ed d (N .i64 0) 1 fun ws=>au p ws fun wt=>p7 [wt] p fun H q=>bz H 0 fun l=>bz H 1 fun w2=>ag .gtr l (N .i64 16384) fun wu=>aF wu ( Q (.tup [(.sc (.slice none 0 0)),(N .i64 0),(N .i64 2)]) q) ( bS a0 fun wv=>ag .sub wv a1 fun ww=>ag .gtr l ww fun wx=>aF wx ( Q (.tup [(.sc (.slice none 0 0)),(N .i64 0),(N .i64 15)]) q) ( ag .add a1 l fun wy=>dz (bI 1 a0 (some a1) (some wy) none) fun wz=>p8 [wz] q fun w0 R=>ag .add a1 l fun w1=>Q (.tup [w0,w1,(N .i64 0)]) R)))))
def lW(p1:Nat)(p2 p3:aB)(a0:AV)(M0:RM)(Q:aj):Prop:=Bj p1 a0 fun q n=>cz q n M0 fun j g=>aZ j 0 fun s=>au g s fun t=>p2 [t] g fun d h=>af d true (fun c=>aZ j 1 fun u=>c u h) (fun c=>c .undef h) fun v e=>af d true (fun o=>au e v fun w=>o w e) (fun c=>c .undef e) fun x i=>af d true (fun p=>p3 [x] i fun y l=>p y l) (fun c=>c .undef i) fun z m=>aM d z (Bo false) fun r=>Q r m
def oM(p1:Nat)(p2 p3 p4:aB)(p5:Nat)(a0 a1 a2 a3 a4:AV)(M0:RM)(Q:aj):Prop:=Bj p1 a2 fun vp W=>cz vp W M0 fun H I=>dI .add a0 (St [13,10]) fun vr=>bS a1 fun vs=>eY (fun vo j e=>ag .lss (aD j 1) vs fun vt=>aF vt ( ed a1 (aD j 1) 2 fun vu=>bT e vu 2 fun vv=>cz (.row [(St []),(St [])] false p1 0) (fun V=>.ptr V 0) e fun d L=>aR L d vv 2 fun t=>aZ d 0 fun vw=>au t vw fun vx=>p2 [vx] t fun vy x=>iF vy fun g=>af g false (fun c=>aZ d 1 fun vz=>c vz x) (fun c=>c .undef x) fun v0 p=>af g false (fun vm=>au p v0 fun v1=>vm v1 p) (fun c=>c .undef p) fun v2 F=>af g false (fun vn=>p3 [v2] F fun v3 O=>vn v3 O) (fun c=>c .undef F) fun v4 r=>af g false (fun Y=>iF v4 fun v5=>Y v5 r) (fun c=>c .undef r) fun v6 s=>aM g (Bo true) v6 fun h=>af h false (fun Z=>aZ d 0 fun v7=>Z v7 s) (fun c=>c .undef s) fun v8 n=>af h false (fun va=>au n v8 fun v9=>va v9 n) (fun c=>c .undef n) fun wa u=>af h false (fun vb=>p4 [wa] u fun wb P=>vb wb P) (fun c=>c .undef u) fun wc v=>af h false (fun vc=>dI .eql wc (St [116,114,97,110,115,102,101,114,45,101,110,99,111,100,105,110,103]) fun wd=>vc wd v) (fun c=>c .undef v) fun we w=>aM h (Bo true) we fun i=>af i false (fun vd=>aZ d 0 fun wf=>vd wf w) (fun c=>c .undef w) fun wg o=>af i false (fun ve=>au o wg fun wh=>ve wh o) (fun c=>c .undef o) fun wi y=>af i false (fun vf=>p4 [wi] y fun wj R=>vf wj R) (fun c=>c .undef y) fun wk z=>af i false (fun vg=>dI .eql wk (St [99,111,110,116,101,110,116,45,108,101,110,103,116,104]) fun wl=>vg wl z) (fun c=>c .undef z) fun wm l=>aM i (Bo true) wm fun wn=>aF wn ( Q (.tup [(.sc (.slice none 0 0)),(N .i64 1)]) l) ( aZ d 0 fun wo=>au l wo fun wp=>dI .add wp (St [58,32]) fun wq=>aZ d 1 fun wr=>au l wr fun ws=>dI .add wq ws fun wt=>dI .add wt (St [13,10]) fun wu=>dI .add (aD j 0) wu fun wv=>ag .add (aD j 1) (N .i64 1) fun ww=>vo [wv,ww] l)) ( aZ H 0 fun wx=>au e wx fun wy=>dI .add wy (St [58,32]) fun wz=>aZ H 1 fun w0=>au e w0 fun w1=>dI .add wz w1 fun w2=>dI .add w2 (St [13,10]) fun w3=>dI .add w3 (St [13,10]) fun w4=>dI .add (aD j 0) w4 fun G=>bS a1 fun w5=>ag .add w5 (N .i64 1) fun w6=>ag .gtr w6 (N .i64 32) fun m=>af m false (fun vh=>vh G e) (fun c=>c .undef e) fun w7 A=>af m false (fun vi=>eB w7 fun w8=>vi w8 A) (fun c=>c .undef A) fun w9 B=>af m false (fun vj=>ag .gtr w9 (N .i64 2048) fun xa=>vj xa B) (fun c=>c .undef B) fun xb C=>aM m (Bo true) xb fun q=>af q false (fun vk=>vk a3 C) (fun c=>c .undef C) fun xc D=>af q false (fun vl=>ag .gtr xc (N .i64 16384) fun xd=>vl xd D) (fun c=>c .undef D) fun xe E=>aM q (Bo true) xe fun xf=>aF xf ( Q (.tup [(.sc (.slice none 0 0)),(N .i64 2)]) E) ( tX p5 G fun vq X=>cz vq X E fun xg S=>appW p5 1 1 [(N .u8 0)] false xg a4 S fun xh U=>Q (.tup [xh,(N .i64 0)]) U))) [vr,(N .i64 0)] I
def pF(p1:Nat)(p2:aB)(a0:AV)(M0:RM)(Q:aj):Prop:=cz (.row [(St []),(St [])] false p1 0) (fun h=>.ptr h 0) M0 fun d e=>p2 [a0] e fun j g=>iV [(St []),(St [])] [(0,1,(St [67,111,110,116,101,110,116,45,76,101,110,103,116,104])),(1,1,j)] fun l=>aR g d l 2 fun c=>bT c d 2 fun i=>Q i c
def jO(p1 p2:aB)(p3 p4:Nat)(p5:aB)(a0 a1:AV)(M0:RM)(Q:aj):Prop:=p1 [a0,(St [72,84,84,80,47,49,46,49,32])] M0 fun E n=>bz E 0 fun g=>bz E 1 fun vf=>iF vf fun h=>af h false (fun c=>c g n) (fun c=>c .undef n) fun vg o=>af h false (fun L=>eB vg fun vh=>L vh o) (fun c=>c .undef o) fun vi w=>af h false (fun Z=>ag .lss vi (N .i64 4) fun vj=>Z vj w) (fun c=>c .undef w) fun vk B=>aM h (Bo true) vk fun d=>af d false (fun vd=>vd g B) (fun c=>c .undef B) fun vl C=>af d false (fun ve=>dz (dF vl none (some (N .i64 3))) fun vm=>ve vm C) (fun c=>c .undef C) fun vn p=>af d false (fun O=>p2 [vn,(.fn (.func p3) [] [])] p fun vo F=>O vo F) (fun c=>c .undef p) fun vp q=>af d false (fun P=>iF vp fun vq=>P vq q) (fun c=>c .undef q) fun vr r=>aM d (Bo true) vr fun i=>af i false (fun R=>R g r) (fun c=>c .undef r) fun vs s=>af i false (fun S=>gP vs (N .i64 3) fun vt=>S vt s) (fun c=>c .undef s) fun vu t=>af i false (fun U=>ag .neq vu (N .u8 32) fun vv=>U vv t) (fun c=>c .undef t) fun vw u=>aM i (Bo true) vw fun e=>af e false (fun V=>V g u) (fun c=>c .undef u) fun vx v=>af e false (fun W=>dz (dF vx (some (N .i64 3)) none) fun vy=>W vy v) (fun c=>c .undef v) fun vz x=>af e false (fun X=>p2 [vz,(.fn (.func p4) [] [])] x fun v0 G=>X v0 G) (fun c=>c .undef x) fun v1 y=>af e false (fun Y=>iF v1 fun v2=>Y v2 y) (fun c=>c .undef y) fun v3 z=>aM e (Bo true) v3 fun v4=>aF v4 ( Q (Bo false) z) ( dz (dF g none (some (N .i64 3))) fun v5=>p5 [v5] z fun D H=>bz D 0 fun v6=>bz D 1 fun wh=>aZ a1 0 fun v7=>aR H v7 v6 1 fun l=>aZ a1 0 fun v8=>au l v8 fun v9=>ag .geq v9 (N .i64 100) fun j=>af j true (fun va=>aZ a1 0 fun wa=>va wa l) (fun c=>c .undef l) fun wb m=>af j true (fun vb=>au m wb fun wc=>vb wc m) (fun c=>c .undef m) fun wd A=>af j true (fun vc=>ag .leq wd (N .i64 599) fun we=>vc we A) (fun c=>c .undef A) fun wf I=>aM j wf (Bo false) fun wg=>Q wg I)
def uR(p1:Nat)(cv:(FuncId→aB))(a0 a1:AV)(M0:RM)(Q:aj):Prop:=tX p1 a0 fun l i=>cz l i M0 fun g h=>bS g fun s=>eY (fun j d c=>ag .lss (aD d 0) s fun m=>aF m ( ed g (aD d 0) 1 fun n=>au c n fun o=>GX cv a1 [o] c fun p e=>iF p fun q=>aF q ( Q (Bo false) e) ( ag .add (aD d 0) (N .i64 1) fun r=>j [r] e)) ( Q (Bo true) c)) [(N .i64 0)] h
def r9(a0:AV)(M0:RM)(Q:aj):Prop:=ag .geq a0 (N .u8 48) fun d=>af d true (fun c=>c a0 M0) (fun c=>c .undef M0) fun i e=>af d true (fun h=>ag .leq i (N .u8 57) fun j=>h j e) (fun c=>c .undef e) fun l g=>aM d l (Bo false) fun m=>Q m g
def jm(a0:AV)(M0:RM)(Q:aj):Prop:=ag .geq a0 (N .u8 32) fun d=>af d true (fun c=>c a0 M0) (fun c=>c .undef M0) fun i e=>af d true (fun h=>ag .leq i (N .u8 126) fun j=>h j e) (fun c=>c .undef e) fun l g=>aM d l (Bo false) fun m=>Q m g
def zo(p1:Nat)(p2:aB)(p3:Nat)(a0:AV)(M0:RM)(Q:aj):Prop:=bS a0 fun p=>eY (fun n c e=>ag .lss (aD c 1) p fun q=>aF q ( iK (fun i=>ed a0 (aD c 1) 1 fun r=>au e r fun s=>bS s fun t=>ag .add (aD c 0) t fun h=>ag .lss h (N .i64 0) fun u=>aF u ( False) ( i [h] e)) (fun D j=>ag .add (aD c 1) (N .i64 1) fun v=>n [(aD D 0),v] j)) ( p2 [(.sc (.slice none 0 0)),(aD c 0)] e fun w l=>bS a0 fun x=>eY (fun o d g=>ag .lss (aD d 1) x fun y=>aF y ( ed a0 (aD d 1) 1 fun z=>au g z fun A=>appW p3 1 1 [(N .u8 0)] false (aD d 0) A g fun B m=>ag .add (aD d 1) (N .i64 1) fun C=>o [B,C] m) ( Q (aD d 0) g)) [w,(N .i64 0)] l)) [(N .i64 0),(N .i64 0)] M0
def rR(p1:aB)(a0 a1:AV)(M0:RM)(Q:aj):Prop:=p1 [a0,a1] M0 fun d c=>bS d fun e=>ag .gtr e (N .i64 0) fun g=>aF g ( ed d (N .i64 0) 1 fun h=>au c h fun i=>Q (.tup [i,(Bo true)]) c) ( Q (.tup [(St []),(Bo false)]) c)
def tH(p1:Nat)(p2:aB)(a0 a1:AV)(M0:RM)(Q:aj):Prop:=bS a0 fun j=>Na false j (N .i64 2048) fun l=>dz (bI 1 a0 (some a1) (some l) none) fun m=>jN p1 2 [(N .u8 0)] [(0,1,(N .u8 13)),(1,1,(N .u8 10))] fun i h=>cz i h M0 fun n e=>PE n e fun o g=>p2 [m,o] g fun d c=>ag .geq d (N .i64 0) fun p=>aF p ( ag .add a1 d fun q=>dz (bI 1 a0 (some a1) (some q) none) fun r=>kD c r fun s=>ag .add a1 d fun t=>ag .add t (N .i64 2) fun u=>Q (.tup [s,u,(N .i64 0)]) c) ( bS a0 fun v=>ag .lss v (N .i64 2048) fun w=>aF w ( Q (.tup [(St []),(N .i64 0),(N .i64 15)]) c) ( Q (.tup [(St []),(N .i64 0),(N .i64 2)]) c))
def qo(p1:Nat)(p2 p3 p4 p5:aB)(a0:AV)(M0:RM)(Q:aj):Prop:=cz (.row [(St []),(St [])] false p1 0) (fun e=>.ptr e 0) M0 fun t u=>p2 [a0,(St [58])] u fun n v=>bz n 0 fun G=>bz n 1 fun H=>bz n 2 fun g=>p3 [H,(St [32,9])] v fun I w=>iV [(St []),(St [])] [(0,1,G),(1,1,I)] fun L=>cz (.row [(St []),(St [])] false p1 0) (fun e=>.ptr e 0) w fun d y=>aR y d L 2 fun l=>bT l d 2 fun o=>iH g true (fun c=>aZ d 0 fun R=>c R l none) (fun c=>c .undef l none) fun S m e=>iH g true (fun E=>au m S fun U=>E U m none) (fun c=>c .undef m none) fun V s vh=>af g true (fun A=>p4 [V] s fun W x=>A W x) (fun c=>c .undef s) fun X i=>bT i d 2 fun P=>(P=o∧aM g X (Bo false) fun h=>iH h true (fun B=>aZ d 1 fun Y=>B Y i none) (fun c=>c .undef i none) fun Z j vf=>iH h true (fun C=>au j Z fun va=>C va j none) (fun c=>c .undef j none) fun vb p vg=>af h true (fun D=>p5 [vb] p fun vc z=>D vc z) (fun c=>c .undef p) fun vd q=>bT q d 2 fun O=>(O=o∧aM h vd (Bo false) fun ve=>aR q t o 2 fun r=>bT r t 2 fun F=>Q (.tup [F,ve]) r))
def qp(a0 a1 a2:AV)(M0:RM)(Q:aj):Prop:=eB a0 fun u=>ag .geq u a1 fun d=>af d true (fun c=>c a0 M0) (fun c=>c .undef M0) fun n e=>af d true (fun j=>eB n fun o=>j o e) (fun c=>c .undef e) fun p g=>af d true (fun l=>l a2 g) (fun c=>c .undef g) fun q h=>af d true (fun m=>ag .leq p q fun r=>m r h) (fun c=>c .undef h) fun s i=>aM d s (Bo false) fun t=>Q t i
def rM(a0:AV)(M0:RM)(Q:aj):Prop:=ag .geq a0 (N .u8 65) fun d=>af d true (fun c=>c a0 M0) (fun c=>c .undef M0) fun i e=>af d true (fun h=>ag .leq i (N .u8 90) fun j=>h j e) (fun c=>c .undef e) fun l g=>aM d l (Bo false) fun m=>Q m g
def pJ(a0:AV)(M0:RM)(Q:aj):Prop:=ag .geq a0 (N .u8 33) fun d=>af d true (fun c=>c a0 M0) (fun c=>c .undef M0) fun i e=>af d true (fun h=>ag .leq i (N .u8 126) fun j=>h j e) (fun c=>c .undef e) fun l g=>aM d l (Bo false) fun m=>Q m g
def rW(p1:Nat)(p2:aB)(p3:Nat)(a0 a1:AV)(M0:RM)(Q:aj):Prop:=bS a0 fun G=>eY (fun r c d=>ag .lss (aD c 1) G fun t=>aF t ( iK (fun h=>ed a0 (aD c 1) 2 fun u=>bT d u 2 fun v=>cz (.row [(St []),(St [])] false p1 0) (fun p=>.ptr p 0) d fun g j=>aR j g v 2 fun i=>aZ g 0 fun w=>au i w fun x=>p2 [x] i fun y l=>p2 [a1] l fun z e=>dI .eql y z fun A=>aF A ( aZ g 1 fun B=>au e B fun C=>jN p3 1 [(St [])] [(0,1,C)] fun s q=>cz s q e fun D m=>appW p3 1 16 [(St [])] false (aD c 0) D m fun E n=>h [E] n) ( h [(aD c 0)] e)) (fun H o=>ag .add (aD c 1) (N .i64 1) fun F=>r [(aD H 0),F] o)) ( Q (aD c 0) d)) [(.sc (.slice none 0 0)),(N .i64 0)] M0
def rT(p1:Nat)(a0:AV)(M0:RM)(Q:aj):Prop:=tX p1 a0 fun t q=>cz t q M0 fun e n=>bS e fun F=>eY (fun s g c=>ag .lss (aD g 0) F fun u=>aF u ( iK (fun j=>ed e (aD g 0) 1 fun v=>au c v fun h=>ag .geq h (N .u8 65) fun i=>af i true (fun d=>d h c) (fun d=>d .undef c) fun w l=>af i true (fun r=>ag .leq w (N .u8 90) fun x=>r x l) (fun d=>d .undef l) fun y m=>aM i y (Bo false) fun z=>aF z ( ag .add h (N .u8 97) fun A=>ag .sub A (N .u8 65) fun B=>ed e (aD g 0) 1 fun C=>aR m C B 1 fun o=>j [] o) ( j [] m)) (fun G p=>ag .add (aD g 0) (N .i64 1) fun D=>s [D] p)) ( kD c e fun E=>Q E c)) [(N .i64 0)] n
def oP(p1:aB)(p2:Nat)(a0 a1:AV)(M0:RM)(Q:aj):Prop:=eY (fun n g l=>p1 [a0,(aD g 0)] l fun h c=>bz h 0 fun d=>bz h 1 fun e=>bz h 2 fun i=>ag .neq i (N .i64 0) fun o=>aF o ( Q (.tup [(.sc (.slice none 0 0)),(N .i64 0),i]) c) ( bS (aD g 1) fun p=>ag .sub (N .i64 16384) p fun q=>ag .gtr d q fun r=>aF r ( Q (.tup [(.sc (.slice none 0 0)),(N .i64 0),(N .i64 2)]) c) ( ag .add d (N .i64 2) fun s=>bS a0 fun t=>ag .sub t e fun u=>ag .gtr s u fun v=>aF v ( Q (.tup [(.sc (.slice none 0 0)),(N .i64 0),(N .i64 15)]) c) ( ag .add e d fun w=>ag .add e d fun x=>ag .add x (N .i64 2) fun y=>dz (bI 1 a0 (some w) (some y) none) fun z=>kD c z fun A=>dI .neq A (St [13,10]) fun B=>aF B ( Q (.tup [(.sc (.slice none 0 0)),(N .i64 0),(N .i64 14)]) c) ( ag .add e d fun C=>ag .add C (N .i64 2) fun j=>ag .eql d (N .i64 0) fun D=>aF D ( Q (.tup [(aD g 1),j,(N .i64 0)]) c) ( ag .add e d fun E=>dz (bI 1 a0 (some e) (some E) none) fun F=>appW p2 1 1 [(N .u8 0)] false (aD g 1) F c fun G m=>n [j,G] m)))))) [a1,(.sc (.slice none 0 0))] M0
def om(p1 p2 p3:aB)(p4:Nat)(a0:AV)(M0:RM)(Q:aj):Prop:=p1 [a0,(N .i64 1),(N .i64 40)] M0 fun d e=>af d true (fun c=>c a0 e) (fun c=>c .undef e) fun o g=>af d true (fun m=>p2 [o] g fun p i=>m p i) (fun c=>c .undef g) fun q h=>af d true (fun n=>p3 [q,(.fn (.func p4) [] [])] h fun r j=>n r j) (fun c=>c .undef h) fun s l=>aM d s (Bo false) fun t=>Q t l
def ni(p1 p2:aB)(p3:Nat)(a0:AV)(M0:RM)(Q:aj):Prop:=p1 [a0,(St [32,9])] M0 fun m e=>dI .eql a0 m fun d=>af d true (fun c=>c a0 e) (fun c=>c .undef e) fun n g=>af d true (fun j=>p2 [n,(.fn (.func p3) [] [])] g fun o h=>j o h) (fun c=>c .undef g) fun p i=>aM d p (Bo false) fun l=>Q l i
def DK(p1 p2:Nat)(a0 a1:AV)(M0:RM)(Q:aj):Prop:=iK (fun g=>ag .lss a1 (N .i64 0) fun t=>aF t ( False) ( g [] M0)) (fun v d=>iK (fun c=>Et a0 fun j=>bS a0 fun l=>ag .sub j l fun m=>ag .sub a1 m fun e=>ag .gtr e (N .i64 0) fun n=>aF n ( Et a0 fun o=>dz (bI 1 a0 none (some o) none) fun p=>appW p2 1 1 [(N .u8 0)] true p e d fun q h=>bS a0 fun r=>dz (bI 1 q none (some r) none) fun s=>c [s] h) ( c [a0] d)) (fun u i=>Q (aD u 0) i))
def tK(p1:Nat)(p2 p3 p4 p5:aB)(p6:Nat)(p7:aB)(a0 a1:AV)(M0:RM)(Q:aj):Prop:=dz (bI 1 a0 (some a1) none none) fun L=>jN p1 2 [(N .u8 0)] [(0,1,(N .u8 13)),(1,1,(N .u8 10))] fun I A=>cz I A M0 fun O v=>PE O v fun P w=>p2 [L,P] w fun l m=>bz l 0 fun e=>bz l 1 fun vr=>bz l 2 fun t=>iF t fun h=>af h true (fun c=>c e m) (fun c=>c .undef m) fun R p=>af h true (fun G=>bS R fun S=>G S p) (fun c=>c .undef p) fun U r=>af h true (fun H=>ag .gtr U (N .i64 10) fun V=>H V r) (fun c=>c .undef r) fun W g=>aM h W (Bo false) fun X=>aF X ( Q (.tup [(N .i64 0),(N .i64 0),(N .i64 14)]) g) ( iF t fun Y=>aF Y ( Q (.tup [(N .i64 0),(N .i64 0),(N .i64 15)]) g) ( kD g e fun Z=>p3 [Z,(N .i64 1),(N .i64 8)] g fun va s=>iF va fun d=>af d false (fun B=>B e s) (fun c=>c .undef s) fun vb i=>af d false (fun C=>kD i vb fun vc=>C vc i) (fun c=>c .undef i) fun vd n=>af d false (fun D=>p4 [vd] n fun ve x=>D ve x) (fun c=>c .undef n) fun vf o=>af d false (fun E=>p5 [vf,(.fn (.func p6) [] [])] o fun vg y=>E vg y) (fun c=>c .undef o) fun vh q=>af d false (fun F=>iF vh fun vi=>F vi q) (fun c=>c .undef q) fun vj j=>aM d (Bo true) vj fun vk=>aF vk ( Q (.tup [(N .i64 0),(N .i64 0),(N .i64 14)]) j) ( kD j e fun vl=>p7 [vl,(N .i64 16),(N .i64 64)] j fun u z=>bz u 0 fun vm=>bz u 1 fun vs=>iR .i64 vm fun vn=>bS e fun vo=>ag .add a1 vo fun vp=>ag .add vp (N .i64 2) fun vq=>Q (.tup [vn,vq,(N .i64 0)]) z)))
def mG(p1:aB)(a0:AV)(M0:RM)(Q:aj):Prop:=ag .geq a0 (N .u8 97) fun e=>af e true (fun c=>c a0 M0) (fun c=>c .undef M0) fun B h=>af e true (fun p=>ag .leq B (N .u8 122) fun C=>p C h) (fun c=>c .undef h) fun D j=>aM e D (Bo false) fun g=>af g false (fun r=>r a0 j) (fun c=>c .undef j) fun u l=>af g false (fun s=>p1 [u] l fun v o=>s v o) (fun c=>c .undef l) fun w m=>aM g (Bo true) w fun d=>af d false (fun t=>t a0 m) (fun c=>c .undef m) fun x i=>af d false (fun q=>ag .eql x (N .u8 45) fun y=>q y i) (fun c=>c .undef i) fun z n=>aM d (Bo true) z fun A=>Q A n
def lV(a0:AV)(M0:RM)(Q:aj):Prop:=ag .geq a0 (N .u8 32) fun d=>af d true (fun c=>c a0 M0) (fun c=>c .undef M0) fun s g=>af d true (fun l=>ag .leq s (N .u8 126) fun t=>l t g) (fun c=>c .undef g) fun u h=>aM d u (Bo false) fun e=>af e false (fun m=>m a0 h) (fun c=>c .undef h) fun o i=>af e false (fun n=>ag .eql o (N .u8 9) fun p=>n p i) (fun c=>c .undef i) fun q j=>aM e (Bo true) q fun r=>Q r j
def dM(p1:aB)(p2:Nat)(p3 p4 p5:aB)(a0 a1:AV)(M0:RM)(Q:aj):Prop:=eB a1 fun e=>ag .eql e (N .i64 0) fun q=>af q false (fun c=>c a1 M0) (fun c=>c .undef M0) fun w2 w=>af q false (fun vk=>vk a0 w) (fun c=>c .undef w) fun w3 x=>af q false (fun vn=>dI .eql w2 w3 fun w4=>vn w4 x) (fun c=>c .undef x) fun w5 h=>aM q (Bo true) w5 fun w6=>aF w6 ( Q (N .i64 0) h) ( ag .eql e (N .i64 1) fun w7=>aF w7 ( gP a1 (N .i64 0) fun w8=>p1 [a0,w8] h fun w9 vj=>Q w9 vj) ( eB a0 fun xa=>ag .geq e xa fun xb=>aF xb ( Q (N .i64 (-1)) h) ( au h (QA h p2) fun xc=>ag .leq e xc fun r=>af r true (fun v3=>v3 a0 h) (fun c=>c .undef h) fun xd vb=>af r true (fun v8=>eB xd fun xe=>v8 xe vb) (fun c=>c .undef vb) fun xf y=>af r true (fun vl=>ag .leq xf (N .i64 64) fun xg=>vl xg y) (fun c=>c .undef y) fun xh z=>aM r xh (Bo false) fun xi=>aF xi ( p3 [a0,a1] z fun xj vh=>Q xj vh) ( gP a1 (N .i64 0) fun vf=>gP a1 (N .i64 1) fun xk=>eB a0 fun xl=>ag .sub xl e fun xm=>ag .add xm (N .i64 1) fun t=>eY (fun v9 j s=>ag .lss (aD j 0) t fun xn=>aF xn ( iK (fun v=>gP a0 (aD j 0) fun xo=>ag .neq xo vf fun xp=>aF xp ( ag .add (aD j 0) (N .i64 1) fun xq=>dz (dF a0 (some xq) (some t)) fun xr=>p1 [xr,vf] s fun vg A=>ag .lss vg (N .i64 0) fun xs=>aF xs ( Q (N .i64 (-1)) A) ( ag .add vg (N .i64 1) fun xt=>ag .add (aD j 0) xt fun xu=>v [xu] A)) ( v [(aD j 0)] s)) (fun o B=>ag .add (aD o 0) (N .i64 1) fun xv=>gP a0 xv fun xw=>ag .eql xw xk fun d=>af d true (fun vm=>vm a0 B) (fun c=>c .undef B) fun xx C=>af d true (fun vo=>vo (aD o 0) C) (fun c=>c .undef C) fun xy D=>af d true (fun vp=>vp (aD o 0) D) (fun c=>c .undef D) fun xz E=>af d true (fun vq=>vq e E) (fun c=>c .undef E) fun x0 F=>af d true (fun vr=>ag .add xz x0 fun x1=>vr x1 F) (fun c=>c .undef F) fun x2 G=>af d true (fun vs=>dz (dF xx (some xy) (some x2)) fun x3=>vs x3 G) (fun c=>c .undef G) fun x4 H=>af d true (fun vt=>vt a1 H) (fun c=>c .undef H) fun x5 I=>af d true (fun vu=>dI .eql x4 x5 fun x6=>vu x6 I) (fun c=>c .undef I) fun x7 l=>aM d x7 (Bo false) fun x8=>aF x8 ( Q (aD o 0) l) ( ag .add (aD o 0) (N .i64 1) fun g=>ag .add (aD j 1) (N .i64 1) fun u=>au l (QA l p2) fun wa=>ag .leq e wa fun n=>af n true (fun vv=>vv u l) (fun c=>c .undef l) fun wb L=>af n true (fun vw=>vw g L) (fun c=>c .undef L) fun wc O=>af n true (fun vx=>p4 [wc] O fun wd vi=>vx wd vi) (fun c=>c .undef O) fun we P=>af n true (fun vy=>ag .gtr wb we fun wf=>vy wf P) (fun c=>c .undef P) fun wg m=>aM n wg (Bo false) fun wh=>aF wh ( dz (dF a0 (some g) none) fun wi=>p3 [wi,a1] m fun vd R=>ag .geq vd (N .i64 0) fun wj=>aF wj ( ag .add vd g fun wk=>Q wk R) ( Q (N .i64 (-1)) R)) ( au m (QA m p2) fun wl=>ag .gtr e wl fun i=>af i true (fun vz=>vz u m) (fun c=>c .undef m) fun wm S=>af i true (fun v0=>v0 g S) (fun c=>c .undef S) fun wn U=>af i true (fun v1=>qj .shr wn (N .u64 4) fun wo=>v1 wo U) (fun c=>c .undef U) fun wp V=>af i true (fun v2=>ag .add (N .i64 4) wp fun wq=>v2 wq V) (fun c=>c .undef V) fun wr W=>af i true (fun v4=>ag .geq wm wr fun ws=>v4 ws W) (fun c=>c .undef W) fun wt X=>aM i wt (Bo false) fun p=>af p true (fun v5=>v5 g X) (fun c=>c .undef X) fun wu Y=>af p true (fun v6=>v6 t Y) (fun c=>c .undef Y) fun wv Z=>af p true (fun v7=>ag .lss wu wv fun ww=>v7 ww Z) (fun c=>c .undef Z) fun wx va=>aM p wx (Bo false) fun wy=>aF wy ( dz (dF a0 (some g) none) fun wz=>p5 [wz,a1] va fun ve vc=>ag .lss ve (N .i64 0) fun w0=>aF w0 ( Q (N .i64 (-1)) vc) ( ag .add g ve fun w1=>Q w1 vc)) ( v9 [g,u] va))))) ( Q (N .i64 (-1)) s)) [(N .i64 0),(N .i64 0)] z))))
def DU(p1:aB)(a0 a1:AV)(M0:RM)(Q:aj):Prop:=p1 [a0,a1] M0 fun c d=>ag .geq c (N .i64 0) fun e=>aF e ( dz (bI 1 a0 none (some c) none) fun g=>bS a1 fun h=>ag .add c h fun i=>dz (bI 1 a0 (some i) none none) fun j=>Q (.tup [g,j,(Bo true)]) d) ( Q (.tup [a0,(.sc (.slice none 0 0)),(Bo false)]) d)
def qy(p1:aB)(a0:AV)(M0:RM)(Q:aj):Prop:=p1 [a0] M0 fun d g=>af d false (fun c=>c a0 g) (fun c=>c .undef g) fun y h=>af d false (fun o=>ag .geq y (N .u8 97) fun z=>o z h) (fun c=>c .undef h) fun A j=>af d false (fun q=>q A j) (fun c=>c .undef j) fun e l=>af e true (fun r=>r a0 l) (fun c=>c .undef l) fun B m=>af e true (fun s=>ag .leq B (N .u8 102) fun t=>s t m) (fun c=>c .undef m) fun u i=>af d false (fun p=>aM e u (Bo false) fun v=>p v i) (fun c=>c .undef i) fun w n=>aM d (Bo true) w fun x=>Q x n
def nZ(p1 p2:aB)(a0 a1 a2:AV)(M0:RM)(Q:aj):Prop:=p1 [a0,a1,a2] M0 fun d c=>bz d 0 fun e=>bz d 1 fun g=>afB true g (.sc .nilIface) fun i=>aF i ( p2 [(St [80,97,114,115,101,85,105,110,116]),a0,a1,a2,g] c fun j h=>Q (.tup [e,j]) h) ( Q (.tup [e,(.sc .nilIface)]) c)
def jc(p1:Nat)(p2:aB)(p3:Nat)(p4:aB)(a0 a1 a2:AV)(M0:RM)(Q:aj):Prop:=dI .eql a0 (St []) fun xt=>aF xt ( Q (.tup [(N .u64 0),(.ifc p1 (N .i64 2))]) M0) ( ag .eql a1 (N .i64 0) fun xu=>iK (fun g=>ag .leq (N .i64 2) a1 fun z=>af z true (fun c=>c a1 M0) (fun c=>c .undef M0) fun xv G=>af z true (fun vz=>ag .leq xv (N .i64 36) fun xw=>vz xw G) (fun c=>c .undef G) fun xx i=>aM z xx (Bo false) fun xy=>aF xy ( g [a0,a1] i) ( ag .eql a1 (N .i64 0) fun xz=>aF xz ( gP a0 (N .i64 0) fun x0=>ag .eql x0 (N .u8 48) fun x1=>aF x1 ( eB a0 fun x3=>ag .geq x3 (N .i64 3) fun l=>af l true (fun v7=>v7 a0 i) (fun c=>c .undef i) fun x4 V=>af l true (fun wc=>gP x4 (N .i64 1) fun x5=>wc x5 V) (fun c=>c .undef V) fun x6 vd=>af l true (fun wl=>p2 [x6] vd fun x7 vx=>wl x7 vx) (fun c=>c .undef vd) fun x8 H=>af l true (fun v0=>ag .eql x8 (N .u8 98) fun x9=>v0 x9 H) (fun c=>c .undef H) fun ya s=>aM l ya (Bo false) fun yb=>aF yb ( dz (dF a0 (some (N .i64 2)) none) fun yc=>g [yc,(N .i64 2)] s) ( eB a0 fun yd=>ag .geq yd (N .i64 3) fun m=>af m true (fun v1=>v1 a0 s) (fun c=>c .undef s) fun ye I=>af m true (fun v2=>gP ye (N .i64 1) fun yf=>v2 yf I) (fun c=>c .undef I) fun yg L=>af m true (fun v3=>p2 [yg] L fun yh vp=>v3 yh vp) (fun c=>c .undef L) fun yi O=>af m true (fun v4=>ag .eql yi (N .u8 111) fun yj=>v4 yj O) (fun c=>c .undef O) fun yk t=>aM m yk (Bo false) fun yl=>aF yl ( dz (dF a0 (some (N .i64 2)) none) fun ym=>g [ym,(N .i64 8)] t) ( eB a0 fun yn=>ag .geq yn (N .i64 3) fun n=>af n true (fun v5=>v5 a0 t) (fun c=>c .undef t) fun yo P=>af n true (fun v6=>gP yo (N .i64 1) fun yp=>v6 yp P) (fun c=>c .undef P) fun yq R=>af n true (fun v8=>p2 [yq] R fun yr vq=>v8 yr vq) (fun c=>c .undef R) fun ys S=>af n true (fun v9=>ag .eql ys (N .u8 120) fun yt=>v9 yt S) (fun c=>c .undef S) fun yu U=>aM n yu (Bo false) fun yv=>aF yv ( dz (dF a0 (some (N .i64 2)) none) fun yw=>g [yw,(N .i64 16)] U) ( dz (dF a0 (some (N .i64 1)) none) fun x2=>g [x2,(N .i64 8)] U)))) ( g [a0,(N .i64 10)] i)) ( Q (.tup [(N .u64 0),(.ifc p1 (N .i64 3))]) i))) (fun h u=>iK (fun D=>ag .eql a2 (N .i64 0) fun yx=>aF yx ( D [(N .i64 64)] u) ( ag .lss a2 (N .i64 0) fun A=>af A false (fun wa=>wa a2 u) (fun c=>c .undef u) fun yy W=>af A false (fun wb=>ag .gtr yy (N .i64 64) fun yz=>wb yz W) (fun c=>c .undef W) fun y0 X=>aM A (Bo true) y0 fun y1=>aF y1 ( Q (.tup [(N .u64 0),(.ifc p1 (N .i64 4))]) X) ( D [a2] X))) (fun y9 v=>iK (fun r=>ag .eql (aD h 1) (N .i64 10) fun y5=>aF y5 ( r [(N .u64 1844674407370955162)] v) ( ag .eql (aD h 1) (N .i64 16) fun y6=>aF y6 ( r [(N .u64 1152921504606846976)] v) ( iR .u64 (aD h 1) fun y2=>ag .quo (N .u64 18446744073709551615) y2 fun y3=>ag .add y3 (N .u64 1) fun y4=>r [y4] v))) (fun za vr=>iR .u64 (aD y9 0) fun y7=>qj .shl (N .u64 1) y7 fun y8=>ag .sub y8 (N .u64 1) fun B=>tX p3 (aD h 0) fun wr vy=>cz wr vy vr fun vn vs=>bS vn fun ws=>eY (fun wq d j=>ag .lss (aD d 2) ws fun wt=>aF wt ( iK (fun E=>ed vn (aD d 2) 1 fun wu=>au j wu fun e=>iK (fun F=>ag .eql e (N .u8 95) fun vl=>af vl true (fun wd=>wd xu j) (fun c=>c .undef j) fun wv w=>aM vl wv (Bo false) fun ww=>aF ww ( E [(Bo true),(aD d 1)] w) ( ag .leq (N .u8 48) e fun x=>af x true (fun we=>we e w) (fun c=>c .undef w) fun wx Y=>af x true (fun wf=>ag .leq wx (N .u8 57) fun wy=>wf wy Y) (fun c=>c .undef Y) fun wz Z=>aM x wz (Bo false) fun w0=>aF w0 ( ag .sub e (N .u8 48) fun w1=>F [(aD d 0),w1] Z) ( p2 [e] Z fun w2 va=>ag .leq (N .u8 97) w2 fun p=>af p true (fun wg=>wg e va) (fun c=>c .undef va) fun w3 vb=>af p true (fun wh=>p2 [w3] vb fun w4 vt=>wh w4 vt) (fun c=>c .undef vb) fun w5 vc=>af p true (fun wi=>ag .leq w5 (N .u8 122) fun w6=>wi w6 vc) (fun c=>c .undef vc) fun w7 ve=>aM p w7 (Bo false) fun w8=>aF w8 ( p2 [e] ve fun w9 vu=>ag .sub w9 (N .u8 97) fun xa=>ag .add xa (N .u8 10) fun xb=>F [(aD d 0),xb] vu) ( Q (.tup [(N .u64 0),(.ifc p1 (N .i64 2))]) ve)))) (fun C o=>iR .u8 (aD h 1) fun xc=>ag .geq (aD C 1) xc fun xd=>aF xd ( Q (.tup [(N .u64 0),(.ifc p1 (N .i64 2))]) o) ( ag .geq (aD d 1) (aD za 0) fun xe=>aF xe ( Q (.tup [B,(.ifc p1 (N .i64 1))]) o) ( iR .u64 (aD h 1) fun xf=>ag .mul (aD d 1) xf fun vm=>iR .u64 (aD C 1) fun xg=>ag .add vm xg fun y=>ag .lss y vm fun q=>af q false (fun wj=>wj y o) (fun c=>c .undef o) fun xh vf=>af q false (fun wk=>wk B vf) (fun c=>c .undef vf) fun xi vg=>af q false (fun wm=>ag .gtr xh xi fun xj=>wm xj vg) (fun c=>c .undef vg) fun xk vh=>aM q (Bo true) xk fun xl=>aF xl ( Q (.tup [B,(.ifc p1 (N .i64 1))]) vh) ( E [(aD C 0),y] vh))))) (fun vo vv=>ag .add (aD d 2) (N .i64 1) fun xm=>wq [(aD vo 0),(aD vo 1),xm] vv)) ( af (aD d 0) true (fun wn=>wn a0 j) (fun c=>c .undef j) fun xn vi=>af (aD d 0) true (fun wo=>p4 [xn] vi fun xo vw=>wo xo vw) (fun c=>c .undef vi) fun xp vj=>af (aD d 0) true (fun wp=>iF xp fun xq=>wp xq vj) (fun c=>c .undef vj) fun xr vk=>aM (aD d 0) xr (Bo false) fun xs=>aF xs ( Q (.tup [(N .u64 0),(.ifc p1 (N .i64 2))]) vk) ( Q (.tup [(aD d 1),(.sc .nilIface)]) vk))) [(Bo false),(N .u64 0),(N .i64 0)] vs))))
def kg(a0:AV)(M0:RM)(Q:aj):Prop:=ag .or a0 (N .u8 32) fun c=>Q c M0
end Go.Ab.Hw
namespace Go.Ab.Vl
open Go Go.Ab
def zw(p1:aB)(a0 a1:AV)(M0:RM)(Q:aj):Prop:=p1 [a0,a1] M0 fun c d=>bz c 0 fun e=>bz c 1 fun g=>bz c 2 fun h=>Q (.tup [e,g,h]) d
def jZ(p1:aB)(a0 a1:AV)(M0:RM)(Q:aj):Prop:=p1 [a0,a1] M0 fun d c=>Q d c
def Bf(p1:aB)(a0:AV)(M0:RM)(Q:aj):Prop:=eB a0 fun z=>ag .geq z (N .i64 1) fun e=>af e true (fun c=>c a0 M0) (fun c=>c .undef M0) fun A g=>af e true (fun o=>eB A fun B=>o B g) (fun c=>c .undef g) fun C i=>af e true (fun q=>ag .leq C (N .i64 20) fun D=>q D i) (fun c=>c .undef i) fun E j=>aM e E (Bo false) fun d=>af d true (fun r=>r a0 j) (fun c=>c .undef j) fun t l=>af d true (fun s=>p1 [t,(St [97,98,99,100,101,102,103,104,105,106,107,108,109,110,111,112,113,114,115,116,117,118,119,120,121,122,48,49,50,51,52,53,54,55,56,57,45])] l fun u n=>s u n) (fun c=>c .undef l) fun v h=>af d true (fun p=>dI .eql v (St []) fun w=>p w h) (fun c=>c .undef h) fun x m=>aM d x (Bo false) fun y=>Q y m
def zF(p1:Nat)(p2 p3 p4:aB)(a0 a1:AV)(M0:RM)(Q:aj):Prop:=tX p1 a0 fun x s=>cz x s M0 fun o p=>bS o fun O=>eY (fun w g e=>ag .lss (aD g 0) O fun y=>aF y ( ed o (aD g 0) 1 fun z=>au e z fun n=>p2 [n] e fun A h=>iF A fun d=>af d false (fun c=>c a1 h) (fun c=>c .undef h) fun B j=>af d false (fun t=>t n j) (fun c=>c .undef j) fun C l=>af d false (fun u=>p3 [B,C] l fun D r=>u D r) (fun c=>c .undef l) fun E m=>af d false (fun v=>ag .geq E (N .i64 0) fun F=>v F m) (fun c=>c .undef m) fun G i=>aM d (Bo true) G fun H=>aF H ( Q (Bo false) i) ( ag .add (aD g 0) (N .i64 1) fun I=>w [I] i)) ( p4 [a0] e fun L q=>Q L q)) [(N .i64 0)] p
def uO(p1:aB)(a0 a1:AV)(M0:RM)(Q:aj):Prop:=p1 [a0,a1] M0 fun d c=>Q d c
def jK(p1:aB)(a0 a1:AV)(M0:RM)(Q:aj):Prop:=p1 [a0,a1] M0 fun c d=>ag .geq c (N .i64 0) fun e=>aF e ( dz (dF a0 none (some c)) fun g=>eB a1 fun h=>ag .add c h fun i=>dz (dF a0 (some i) none) fun j=>Q (.tup [g,j,(Bo true)]) d) ( Q (.tup [a0,(St []),(Bo false)]) d)
def EJ(p1 p2 p3:aB)(p4:Nat)(p5 p6 p7 p8:aB)(a0 a1:AV)(M0:RM)(Q:aj):Prop:=dI .eql a0 (St []) fun h=>af h false (fun c=>c a1 M0) (fun c=>c .undef M0) fun C i=>af h false (fun y=>dI .eql C (St []) fun D=>y D i) (fun c=>c .undef i) fun E e=>aM h (Bo true) E fun F=>aF F ( Q a0 e) ( eB a1 fun G=>ag .eql G (N .i64 1) fun d=>af d true (fun z=>z a1 e) (fun c=>c .undef e) fun H m=>af d true (fun A=>gP H (N .i64 0) fun I=>A I m) (fun c=>c .undef m) fun L n=>af d true (fun B=>ag .lss L (N .u8 128) fun O=>B O n) (fun c=>c .undef n) fun P j=>aM d P (Bo false) fun R=>aF R ( gP a1 (N .i64 0) fun S=>gP a1 (N .i64 0) fun V=>p1 [a0,S] j fun U p=>p2 [U,V] p fun W q=>Q W q) ( p3 [a1] j fun o r=>bz o 0 fun X=>bz o 1 fun Y=>cz (.row [(Bo false),(Bo false),(Bo false),(Bo false),(Bo false),(Bo false),(Bo false),(Bo false),(Bo false),(Bo false),(Bo false),(Bo false),(Bo false),(Bo false),(Bo false),(Bo false),(Bo false),(Bo false),(Bo false),(Bo false),(Bo false),(Bo false),(Bo false),(Bo false),(Bo false),(Bo false),(Bo false),(Bo false),(Bo false),(Bo false),(Bo false),(Bo false),(Bo false),(Bo false),(Bo false),(Bo false),(Bo false),(Bo false),(Bo false),(Bo false),(Bo false),(Bo false),(Bo false),(Bo false),(Bo false),(Bo false),(Bo false),(Bo false),(Bo false),(Bo false),(Bo false),(Bo false),(Bo false),(Bo false),(Bo false),(Bo false),(Bo false),(Bo false),(Bo false),(Bo false),(Bo false),(Bo false),(Bo false),(Bo false),(Bo false),(Bo false),(Bo false),(Bo false),(Bo false),(Bo false),(Bo false),(Bo false),(Bo false),(Bo false),(Bo false),(Bo false),(Bo false),(Bo false),(Bo false),(Bo false),(Bo false),(Bo false),(Bo false),(Bo false),(Bo false),(Bo false),(Bo false),(Bo false),(Bo false),(Bo false),(Bo false),(Bo false),(Bo false),(Bo false),(Bo false),(Bo false),(Bo false),(Bo false),(Bo false),(Bo false),(Bo false),(Bo false),(Bo false),(Bo false),(Bo false),(Bo false),(Bo false),(Bo false),(Bo false),(Bo false),(Bo false),(Bo false),(Bo false),(Bo false),(Bo false),(Bo false),(Bo false),(Bo false),(Bo false),(Bo false),(Bo false),(Bo false),(Bo false),(Bo false),(Bo false),(Bo false),(Bo false),(Bo false),(Bo false),(Bo false),(Bo false),(Bo false),(Bo false),(Bo false),(Bo false),(Bo false),(Bo false),(Bo false),(Bo false),(Bo false),(Bo false),(Bo false),(Bo false),(Bo false),(Bo false),(Bo false),(Bo false),(Bo false),(Bo false),(Bo false),(Bo false),(Bo false),(Bo false),(Bo false),(Bo false),(Bo false),(Bo false),(Bo false),(Bo false),(Bo false),(Bo false),(Bo false),(Bo false),(Bo false),(Bo false),(Bo false),(Bo false),(Bo false),(Bo false),(Bo false),(Bo false),(Bo false),(Bo false),(Bo false),(Bo false),(Bo false),(Bo false),(Bo false),(Bo false),(Bo false),(Bo false),(Bo false),(Bo false),(Bo false),(Bo false),(Bo false),(Bo false),(Bo false),(Bo false),(Bo false),(Bo false),(Bo false),(Bo false),(Bo false),(Bo false),(Bo false),(Bo false),(Bo false),(Bo false),(Bo false),(Bo false),(Bo false),(Bo false),(Bo false),(Bo false),(Bo false),(Bo false),(Bo false),(Bo false),(Bo false),(Bo false),(Bo false),(Bo false),(Bo false),(Bo false),(Bo false),(Bo false),(Bo false),(Bo false),(Bo false),(Bo false),(Bo false),(Bo false),(Bo false),(Bo false),(Bo false),(Bo false),(Bo false),(Bo false),(Bo false),(Bo false),(Bo false),(Bo false),(Bo false),(Bo false),(Bo false),(Bo false),(Bo false),(Bo false),(Bo false),(Bo false),(Bo false),(Bo false),(Bo false),(Bo false),(Bo false),(Bo false),(Bo false),(Bo false),(Bo false),(Bo false),(Bo false),(Bo false),(Bo false),(Bo false),(Bo false)] false p4 0) (fun x=>.ptr x 0) r fun g s=>aR s g X 256 fun l=>aF Y ( p5 [a0,g] l fun Z t=>p6 [Z,g] t fun va u=>Q va u) ( p7 [a0,a1] l fun vb v=>p8 [vb,a1] v fun vc w=>Q vc w)))
def IX(p1:Nat)(a0:AV)(M0:RM)(Q:aj):Prop:=tX p1 a0 fun t q=>cz t q M0 fun e n=>bS e fun F=>eY (fun s g c=>ag .lss (aD g 0) F fun u=>aF u ( iK (fun j=>ed e (aD g 0) 1 fun v=>au c v fun h=>ag .geq h (N .u8 65) fun i=>af i true (fun d=>d h c) (fun d=>d .undef c) fun w l=>af i true (fun r=>ag .leq w (N .u8 90) fun x=>r x l) (fun d=>d .undef l) fun y m=>aM i y (Bo false) fun z=>aF z ( ag .add h (N .u8 97) fun A=>ag .sub A (N .u8 65) fun B=>ed e (aD g 0) 1 fun C=>aR m C B 1 fun o=>j [] o) ( j [] m)) (fun G p=>ag .add (aD g 0) (N .i64 1) fun D=>s [D] p)) ( kD c e fun E=>Q E c)) [(N .i64 0)] n
def gQ(a0 a1:AV)(M0:RM)(Q:aj):Prop:=eB a0 fun B=>eB a1 fun C=>ag .geq B C fun d=>af d true (fun c=>c a0 M0) (fun c=>c .undef M0) fun r e=>af d true (fun m=>m a1 e) (fun c=>c .undef e) fun s g=>af d true (fun o=>eB s fun t=>o t g) (fun c=>c .undef g) fun u h=>af d true (fun p=>dz (dF r none (some u)) fun v=>p v h) (fun c=>c .undef h) fun w i=>af d true (fun q=>q a1 i) (fun c=>c .undef i) fun x j=>af d true (fun n=>dI .eql w x fun y=>n y j) (fun c=>c .undef j) fun z l=>aM d z (Bo false) fun A=>Q A l
def dM(p1 p2 p3 p4:aB)(a0 a1:AV)(M0:RM)(Q:aj):Prop:=eB a1 fun e=>ag .eql e (N .i64 0) fun q=>af q false (fun c=>c a1 M0) (fun c=>c .undef M0) fun w2 w=>af q false (fun vk=>vk a0 w) (fun c=>c .undef w) fun w3 x=>af q false (fun vn=>dI .eql w2 w3 fun w4=>vn w4 x) (fun c=>c .undef x) fun w5 h=>aM q (Bo true) w5 fun w6=>aF w6 ( Q (N .i64 0) h) ( ag .eql e (N .i64 1) fun w7=>aF w7 ( gP a1 (N .i64 0) fun w8=>p1 [a0,w8] h fun w9 vj=>Q w9 vj) ( eB a0 fun xa=>ag .geq e xa fun xb=>aF xb ( Q (N .i64 (-1)) h) ( au h .top fun xc=>ag .leq e xc fun r=>af r true (fun v3=>v3 a0 h) (fun c=>c .undef h) fun xd vb=>af r true (fun v8=>eB xd fun xe=>v8 xe vb) (fun c=>c .undef vb) fun xf y=>af r true (fun vl=>ag .leq xf (N .i64 64) fun xg=>vl xg y) (fun c=>c .undef y) fun xh z=>aM r xh (Bo false) fun xi=>aF xi ( p2 [a0,a1] z fun xj vh=>Q xj vh) ( gP a1 (N .i64 0) fun vf=>gP a1 (N .i64 1) fun xk=>eB a0 fun xl=>ag .sub xl e fun xm=>ag .add xm (N .i64 1) fun t=>eY (fun v9 j s=>ag .lss (aD j 0) t fun xn=>aF xn ( iK (fun v=>gP a0 (aD j 0) fun xo=>ag .neq xo vf fun xp=>aF xp ( ag .add (aD j 0) (N .i64 1) fun xq=>dz (dF a0 (some xq) (some t)) fun xr=>p1 [xr,vf] s fun vg A=>ag .lss vg (N .i64 0) fun xs=>aF xs ( Q (N .i64 (-1)) A) ( ag .add vg (N .i64 1) fun xt=>ag .add (aD j 0) xt fun xu=>v [xu] A)) ( v [(aD j 0)] s)) (fun m B=>ag .add (aD m 0) (N .i64 1) fun xv=>gP a0 xv fun xw=>ag .eql xw xk fun d=>af d true (fun vm=>vm a0 B) (fun c=>c .undef B) fun xx C=>af d true (fun vo=>vo (aD m 0) C) (fun c=>c .undef C) fun xy D=>af d true (fun vp=>vp (aD m 0) D) (fun c=>c .undef D) fun xz E=>af d true (fun vq=>vq e E) (fun c=>c .undef E) fun x0 F=>af d true (fun vr=>ag .add xz x0 fun x1=>vr x1 F) (fun c=>c .undef F) fun x2 G=>af d true (fun vs=>dz (dF xx (some xy) (some x2)) fun x3=>vs x3 G) (fun c=>c .undef G) fun x4 H=>af d true (fun vt=>vt a1 H) (fun c=>c .undef H) fun x5 I=>af d true (fun vu=>dI .eql x4 x5 fun x6=>vu x6 I) (fun c=>c .undef I) fun x7 n=>aM d x7 (Bo false) fun x8=>aF x8 ( Q (aD m 0) n) ( ag .add (aD m 0) (N .i64 1) fun g=>ag .add (aD j 1) (N .i64 1) fun u=>au n .top fun wa=>ag .leq e wa fun l=>af l true (fun vv=>vv u n) (fun c=>c .undef n) fun wb L=>af l true (fun vw=>vw g L) (fun c=>c .undef L) fun wc O=>af l true (fun vx=>p3 [wc] O fun wd vi=>vx wd vi) (fun c=>c .undef O) fun we P=>af l true (fun vy=>ag .gtr wb we fun wf=>vy wf P) (fun c=>c .undef P) fun wg o=>aM l wg (Bo false) fun wh=>aF wh ( dz (dF a0 (some g) none) fun wi=>p2 [wi,a1] o fun vd R=>ag .geq vd (N .i64 0) fun wj=>aF wj ( ag .add vd g fun wk=>Q wk R) ( Q (N .i64 (-1)) R)) ( au o .top fun wl=>ag .gtr e wl fun i=>af i true (fun vz=>vz u o) (fun c=>c .undef o) fun wm S=>af i true (fun v0=>v0 g S) (fun c=>c .undef S) fun wn U=>af i true (fun v1=>qj .shr wn (N .u64 4) fun wo=>v1 wo U) (fun c=>c .undef U) fun wp V=>af i true (fun v2=>ag .add (N .i64 4) wp fun wq=>v2 wq V) (fun c=>c .undef V) fun wr W=>af i true (fun v4=>ag .geq wm wr fun ws=>v4 ws W) (fun c=>c .undef W) fun wt X=>aM i wt (Bo false) fun p=>af p true (fun v5=>v5 g X) (fun c=>c .undef X) fun wu Y=>af p true (fun v6=>v6 t Y) (fun c=>c .undef Y) fun wv Z=>af p true (fun v7=>ag .lss wu wv fun ww=>v7 ww Z) (fun c=>c .undef Z) fun wx va=>aM p wx (Bo false) fun wy=>aF wy ( dz (dF a0 (some g) none) fun wz=>p4 [wz,a1] va fun ve vc=>ag .lss ve (N .i64 0) fun w0=>aF w0 ( Q (N .i64 (-1)) vc) ( ag .add g ve fun w1=>Q w1 vc)) ( v9 [g,u] va))))) ( Q (N .i64 (-1)) s)) [(N .i64 0),(N .i64 0)] z))))
def nY(p1:aB)(a0 a1:AV)(M0:RM)(Q:aj):Prop:=p1 [a0,a1] M0 fun c d=>bz c 0 fun g=>bz c 1 fun e=>Q (.tup [g,e]) d
def gN(p1:aB)(a0 a1:AV)(M0:RM)(Q:aj):Prop:=p1 [a0,a1] M0 fun g c=>iF g fun h=>aF h ( Q (.tup [a0,(Bo false)]) c) ( eB a1 fun d=>dz (dF a0 (some d) none) fun e=>Q (.tup [e,(Bo true)]) c)
end Go.Ab.Vl
namespace Go.Ab
open Go Go.RowKit
def RM.cell(M:RM)(b o:Nat):Option AV:=(M.cells b).bind (·[o]?)
section
variable {M M' : RM} {K:AV→Prop} {KQ:aj}
theorem iI{b o:Nat}{v:AV}:M.loads b o 1=some [v]↔M.cell b o=some v:=by
 unfold RM.loads RM.cell
 cases hc:M.cells b with
 |none=>simp
 |some l =>
  simp only[Option.bind_some]
  constructor
  ·intro h
   split at h
   ·rename_i hlt
    have h1:=Option.some.inj h
    have:((l.drop o).take 1)[0]?=some v:=by rw[h1];rfl
    rw[List.getElem?_take,if_pos (by omega),List.getElem?_drop]at this
    simpa using this
   ·cases h
  ·intro h
   have hlt:=(List.getElem?_eq_some_iff.1 h).1
   rw[if_pos (by omega)]
   congr 1
   rw[List.drop_eq_getElem_cons hlt]
   simp only[List.take_succ_cons,List.take_zero]
   congr 1
   exact(List.getElem?_eq_some_iff.1 h).2
@[go_sem] theorem fu(b o:Nat):au M (.ptr b o) K=∃ v,M.cell b o=some v∧K v:=by
 apply propext;unfold au
 constructor
 ·rintro⟨b',o',v,h,hl,hk⟩;cases h;exact⟨v,iI.1 hl,hk⟩
 ·rintro⟨v,hl,hk⟩;exact⟨b,o,v,rfl,iI.2 hl,hk⟩
@[go_sem] theorem JV(b o n:Nat):bT M (.ptr b o) n K=∃ vs,M.loads b o n=some vs∧K (.agg vs):=by
 apply propext;unfold bT
 constructor
 ·rintro⟨b',o',v,h,hl,hk⟩;cases h;exact⟨v,hl,hk⟩
 ·rintro⟨v,hl,hk⟩;exact⟨b,o,v,rfl,hl,hk⟩
@[go_sem] theorem PP(b p:Nat)(x:AV)(n:Nat)(K:RM→Prop):aR M (.ptr b p) x n K=(x.cells.length=n∧∃ M',M.stores b p x.cells=some M'∧K M'):=by
 apply propext;unfold aR
 constructor
 ·rintro⟨b',o',M',h,h1,h2,hk⟩;cases h;exact⟨h1,M',h2,hk⟩
 ·rintro⟨h1,M',h2,hk⟩;exact⟨b,p,M',rfl,h1,h2,hk⟩
def Ei(k:IntKind)(a b:Int):Int:=k.wrap (BitVec.ofInt k.bits a &&& BitVec.ofInt k.bits b).toNat
def IV(k:IntKind)(a b:Int):Int:=k.wrap (BitVec.ofInt k.bits a ||| BitVec.ofInt k.bits b).toNat
def Ec(k:IntKind)(a b:Int):Int:=k.wrap (BitVec.ofInt k.bits a ^^^ BitVec.ofInt k.bits b).toNat
def akH(k:IntKind)(a b:Int):Int:=k.wrap (BitVec.ofInt k.bits a &&& ~~~BitVec.ofInt k.bits b).toNat
def JN(k:IntKind)(a b:Int):Int:=k.wrap (a*2^(min b.toNat k.bits))
def rG(k:IntKind)(a b:Int):Int:=a.fdiv (2^(min b.toNat k.bits))
section
variable (k:IntKind) (a b:Int)
theorem gV{op:BinOp}{v:Value}(h:uF op k a b=some v):ag op (N k a) (N k b) K=K (.sc v):=by
 apply propext;unfold ag
 constructor
 ·rintro⟨k',a',b',u,h1,h2,h3,hk⟩;cases h1;cases h2;rw[h]at h3;cases h3;exact hk
 ·intro hk;exact⟨k,a,b,v,rfl,rfl,h,hk⟩
@[go_sem] theorem fC:ag .add (N k a) (N k b) K=K (N k (k.wrap (a+b))):=gV k a b rfl
@[go_sem] theorem kI:ag .sub (N k a) (N k b) K=K (N k (k.wrap (a-b))):=gV k a b rfl
@[go_sem] theorem oW:ag .mul (N k a) (N k b) K=K (N k (k.wrap (a*b))):=gV k a b rfl
@[go_sem] theorem lL:ag .and (N k a) (N k b) K=K (N k (Ei k a b)):=gV k a b rfl
@[go_sem] theorem jD:ag .or (N k a) (N k b) K=K (N k (IV k a b)):=gV k a b rfl
@[go_sem] theorem iY:ag .xor (N k a) (N k b) K=K (N k (Ec k a b)):=gV k a b rfl
@[go_sem] theorem arQ:ag .andNot (N k a) (N k b) K=K (N k (akH k a b)):=gV k a b rfl
@[go_sem] theorem fZ:ag .eql (N k a) (N k b) K=K (Bo (a==b)):=gV k a b rfl
@[go_sem] theorem iJ:ag .neq (N k a) (N k b) K=K (Bo (a != b)):=gV k a b rfl
@[go_sem] theorem j5:ag .lss (N k a) (N k b) K=K (Bo (decide (a<b))):=gV k a b rfl
@[go_sem] theorem rC:ag .leq (N k a) (N k b) K=K (Bo (decide (a≤b))):=gV k a b rfl
@[go_sem] theorem fJ:ag .gtr (N k a) (N k b) K=K (Bo (decide (a>b))):=gV k a b rfl
@[go_sem] theorem fe:ag .geq (N k a) (N k b) K=K (Bo (decide (a≥b))):=gV k a b rfl
@[go_sem] theorem NL:ag .quo (N k a) (N k b) K=(b≠0∧K (N k (k.wrap (a.tdiv b)))):=by
 apply propext;unfold ag uF
 constructor
 ·rintro⟨k',a',b',u,h1,h2,h3,hk⟩;cases h1;cases h2
  simp only at h3
  split at h3
  ·cases h3
  ·cases h3;exact⟨‹_›,hk⟩
 ·rintro⟨h0,hk⟩;exact⟨k,a,b,_,rfl,rfl,by simp only[if_neg h0],hk⟩
@[go_sem] theorem Wm:ag .rem (N k a) (N k b) K=(b≠0∧K (N k (a.tmod b))):=by
 apply propext;unfold ag uF
 constructor
 ·rintro⟨k',a',b',u,h1,h2,h3,hk⟩;cases h1;cases h2
  simp only at h3
  split at h3
  ·cases h3
  ·cases h3;exact⟨‹_›,hk⟩
 ·rintro⟨h0,hk⟩;exact⟨k,a,b,_,rfl,rfl,by simp only[if_neg h0],hk⟩
variable (l:IntKind)
@[go_sem] theorem uU:qj .shl (N k a) (N l b) K=(0≤b∧K (N k (JN k a b))):=by
 apply propext;unfold qj wV
 constructor
 ·rintro⟨k',a',l',b',u,h1,h2,h3,hk⟩;cases h1;cases h2
  split at h3
  ·cases h3
  ·cases h3;exact⟨by omega,hk⟩
 ·rintro⟨h0,hk⟩;exact⟨k,a,l,b,_,rfl,rfl,by rw[if_neg (by omega)];rfl,hk⟩
@[go_sem] theorem Ai:qj .shr (N k a) (N l b) K=(0≤b∧K (N k (rG k a b))):=by
 apply propext;unfold qj wV
 constructor
 ·rintro⟨k',a',l',b',u,h1,h2,h3,hk⟩;cases h1;cases h2
  split at h3
  ·cases h3
  ·cases h3;exact⟨by omega,hk⟩
 ·rintro⟨h0,hk⟩;exact⟨k,a,l,b,_,rfl,rfl,by rw[if_neg (by omega)];rfl,hk⟩
@[go_sem] theorem aEj{l:IntKind}{a:Int}{K:AV→Prop}:abw (N l a) K=K (St (Utf8.encode a).data.toList):=by
 apply propext;unfold abw
 constructor
 ·rintro⟨l',n,h,hk⟩;cases h;exact hk
 ·intro h;exact⟨_,_,rfl,h⟩
@[go_sem] theorem iW:iR k (N l a) K=K (N k (k.wrap a)):=by
 apply propext;unfold iR
 constructor
 ·rintro⟨l',n,h,hk⟩;cases h;exact hk
 ·intro hk;exact⟨l,a,rfl,hk⟩
@[go_sem] theorem afH(mx:Bool):Na mx (N k a) (N k b) K=K (N k (if mx then(if b>a then b else a)else(if b<a then b else a))):=by
 apply propext;unfold Na
 constructor
 ·rintro⟨k',a',b',h1,h2,hk⟩;cases h1;cases h2;exact hk
 ·intro hk;exact⟨k,a,b,rfl,rfl,hk⟩
@[go_sem] theorem aoP:Vf (N k a) K=K (N k (k.wrap (0-a))):=by
 apply propext;unfold Vf
 constructor
 ·rintro⟨k',a',h1,hk⟩;cases h1;exact hk
 ·intro hk;exact⟨k,a,rfl,hk⟩
end
@[go_sem] theorem fA(b:Bool):iF (Bo b) K=K (Bo (!b)):=by
 apply propext;unfold iF
 constructor
 ·rintro⟨b',h,hk⟩;cases h;exact hk
 ·intro hk;exact⟨b,rfl,hk⟩
@[go_sem] theorem ar1(neg a b:Bool):FC neg (Bo a) (Bo b) K=K (Bo ((a==b) != neg)):=by
 apply propext;unfold FC
 constructor
 ·rintro⟨a',b',h,h',hk⟩;cases h;cases h';exact hk
 ·intro hk;exact⟨a,b,rfl,rfl,hk⟩
@[go_sem] theorem WT(t:Bool)(a b:AV):aM (Bo t) a b K=K (if t then a else b):=by
 apply propext;unfold aM
 constructor
 ·rintro⟨t',h,hk⟩;cases h;exact hk
 ·intro hk;exact⟨t,rfl,hk⟩
@[go_sem] theorem Xq(b:Bool)(p q:Prop):aF (Bo b) p q=((b=true→p)∧(b=false→q)):=rfl
@[go_sem] theorem atm{α:Type}(b want:Bool)(f g:α→Prop)(k:α):kC (Bo b) want f g k=if b=want then f k else g k:=rfl
@[go_sem] theorem ao7{α:Type}(want:Bool)(f g:α→Prop)(k:α):kC .undef want f g k=g k:=rfl
@[go_sem] theorem bg(b o:Nat):dU (.ptr b o) K=K (.ptr b o):=by
 apply propext;unfold dU
 constructor
 ·rintro⟨b',o',h,hk⟩;cases h;exact hk
 ·intro hk;exact⟨b,o,rfl,hk⟩
@[go_sem] theorem jJ(b o n:Nat):aZ (.ptr b o) n K=K (.ptr b (o+n)):=by
 apply propext;unfold aZ
 constructor
 ·rintro⟨b',o',h,hk⟩;cases h;exact hk
 ·intro hk;exact⟨b,o,rfl,hk⟩
@[go_sem] theorem Gl(b p len:Nat)(cap:Cap)(k:IntKind)(n:Int)(size:Nat):ed (.slc b p len cap) (N k n) size K=(0≤n∧n<len∧K (.ptr b (p+n.toNat*size))):=by
 apply propext;unfold ed
 constructor
 ·rintro⟨b',p',l',c',k',n',h,h',h0,h1,hk⟩;cases h;cases h';exact⟨h0,h1,hk⟩
 ·rintro⟨h0,h1,hk⟩;exact⟨b,p,len,cap,k,n,rfl,rfl,h0,h1,hk⟩
@[go_sem] theorem ai1(b p:Nat)(k:IntKind)(n:Int)(len size:Nat):eF (.ptr b p) (N k n) len size K=(0≤n∧n<len∧K (.ptr b (p+n.toNat*size))):=by
 apply propext;unfold eF
 constructor
 ·rintro⟨b',p',k',n',h,h',h0,h1,hk⟩;cases h;cases h';exact⟨h0,h1,hk⟩
 ·rintro⟨h0,h1,hk⟩;exact⟨b,p,k,n,rfl,rfl,h0,h1,hk⟩
@[go_sem] theorem as9(cs:List AV)(off:Nat):LC (.agg cs) off K=∃ v,cs[off]?=some v∧K v:=by
 apply propext;unfold LC
 constructor
 ·rintro⟨cs',v,h,h1,hk⟩;cases h;exact⟨v,h1,hk⟩
 ·rintro⟨v,h1,hk⟩;exact⟨cs,v,rfl,h1,hk⟩
@[go_sem] theorem atV(cs:List AV)(off n:Nat):K9 (.agg cs) off n K=(off+n≤cs.length∧K (.agg ((cs.drop off).take n))):=by
 apply propext;unfold K9
 constructor
 ·rintro⟨cs',h,h1,hk⟩;cases h;exact⟨h1,hk⟩
 ·rintro⟨h1,hk⟩;exact⟨cs,rfl,h1,hk⟩
@[go_sem] theorem ae2(cs:List AV)(k:IntKind)(n:Int)(len:Nat):Iz (.agg cs) (N k n) len K=(0≤n∧n<len∧∃ v,cs[n.toNat]?=some v∧K v):=by
 apply propext;unfold Iz
 constructor
 ·rintro⟨cs',k',n',v,h,h',h0,h1,h2,hk⟩;cases h;cases h';exact⟨h0,h1,v,h2,hk⟩
 ·rintro⟨h0,h1,v,h2,hk⟩;exact⟨cs,k,n,v,rfl,rfl,h0,h1,h2,hk⟩
@[go_sem] theorem atz(cs:List AV)(k:IntKind)(n:Int)(len size:Nat):K5 (.agg cs) (N k n) len size K=(0≤n∧n<len∧n.toNat*size+size≤cs.length∧K (.agg ((cs.drop (n.toNat*size)).take size))):=by
 apply propext;unfold K5
 constructor
 ·rintro⟨cs',k',n',h,h',h0,h1,h2,hk⟩;cases h;cases h';exact⟨h0,h1,h2,hk⟩
 ·rintro⟨h0,h1,h2,hk⟩;exact⟨cs,k,n,rfl,rfl,h0,h1,h2,hk⟩
@[go_sem] theorem aam(s:List UInt8)(k:IntKind)(n:Int):gP (St s) (N k n) K=(0≤n∧∃ b,s[n.toNat]?=some b∧K (N .u8 b.toNat)):=by
 apply propext;unfold gP
 constructor
 ·rintro⟨s',k',n',b,h,h',h0,h1,hk⟩;cases h;cases h';exact⟨h0,b,h1,hk⟩
 ·rintro⟨h0,b,h1,hk⟩;exact⟨s,k,n,b,rfl,rfl,h0,h1,hk⟩
@[go_sem] theorem Nr(vs:List AV)(i:Nat):bz (.tup vs) i K=∃ v,vs[i]?=some v∧K v:=by
 apply propext;unfold bz
 constructor
 ·rintro⟨cs',v,h,h1,hk⟩;cases h;exact⟨v,h1,hk⟩
 ·rintro⟨v,h1,hk⟩;exact⟨vs,v,rfl,h1,hk⟩
@[go_sem] theorem jV(v:AV):dz (some v) K=K v:=by
 apply propext;unfold dz
 constructor
 ·rintro⟨v',h,hk⟩;cases h;exact hk
 ·intro hk;exact⟨v,rfl,hk⟩
@[go_sem] theorem oK(b o n:Nat)(c:Cap):bS (.slc b o n c) K=K (N .i64 n):=by
 apply propext;unfold bS
 constructor
 ·rintro⟨n',h,hk⟩;cases h;exact hk
 ·intro hk;exact⟨n,rfl,hk⟩
@[go_sem] theorem ahs(b:Nat):bS (.emp b) K=K (N .i64 0):=by
 apply propext;unfold bS
 constructor
 ·rintro⟨n',h,hk⟩;cases h;exact hk
 ·intro hk;exact⟨0,rfl,hk⟩
@[go_sem] theorem NT:bS (.sc (.slice none 0 0)) K=K (N .i64 0):=by
 apply propext;unfold bS
 constructor
 ·rintro⟨n',h,hk⟩;cases h;exact hk
 ·intro hk;exact⟨0,rfl,hk⟩
@[go_sem] theorem mX(s:List UInt8):eB (St s) K=K (N .i64 s.length):=by
 apply propext;unfold eB
 constructor
 ·rintro⟨s',h,hk⟩;cases h;exact hk
 ·intro hk;exact⟨s,rfl,hk⟩
@[go_sem] theorem aEl(b o n c:Nat):Et (.slc b o n (.ex c)) K=K (N .i64 c):=by
 apply propext;unfold Et
 constructor
 ·rintro⟨n',h,hk⟩;cases h;exact hk
 ·intro hk;exact⟨c,rfl,hk⟩
@[go_sem] theorem ayv:Et (.sc (.slice none 0 0)) K=K (N .i64 0):=by
 apply propext;unfold Et
 constructor
 ·rintro⟨n',h,hk⟩;cases h;exact hk
 ·intro hk;exact⟨0,rfl,hk⟩
@[go_sem] theorem avb(s:List UInt8):isStr (St s) K=K (St s):=by
 apply propext;unfold isStr
 constructor
 ·rintro⟨s',h,hk⟩;cases h;exact hk
 ·intro hk;exact⟨s,rfl,hk⟩
@[go_sem] theorem YX{x:AV}{s:List UInt8}(h:qU M x=some s):kD M x K=K (St s):=by
 apply propext;unfold kD
 constructor
 ·rintro⟨s',h',hk⟩;rw[h]at h';cases h';exact hk
 ·intro hk;exact⟨s,h,hk⟩
theorem sU{op:BinOp}{a b:List UInt8}{v:AV}(h:Dl op a b=some v):dI op (St a) (St b) K=K v:=by
 apply propext;unfold dI
 constructor
 ·rintro⟨a',b',u,h1,h2,h3,hk⟩;cases h1;cases h2;rw[h]at h3;cases h3;exact hk
 ·intro hk;exact⟨a,b,v,rfl,rfl,h,hk⟩
@[go_sem] theorem q9(a b:List UInt8):dI .eql (St a) (St b) K=K (Bo (a==b)):=by rw[← gJ];exact sU rfl
@[go_sem] theorem NQ(a b:List UInt8):dI .neq (St a) (St b) K=K (Bo (a != b)):=by rw[bne,← gJ];exact sU rfl
@[go_sem] theorem aBw(a b:List UInt8):dI .lss (St a) (St b) K=K (Bo (Op.bytesLess a b)):=sU rfl
@[go_sem] theorem awF(a b:List UInt8):dI .leq (St a) (St b) K=K (Bo (Op.bytesLess a b||a==b)):=by rw[← gJ];exact sU rfl
@[go_sem] theorem aC5(a b:List UInt8):dI .gtr (St a) (St b) K=K (Bo (!(Op.bytesLess a b||a==b))):=by rw[← gJ];exact sU rfl
@[go_sem] theorem aut(a b:List UInt8):dI .geq (St a) (St b) K=K (Bo (!Op.bytesLess a b)):=sU rfl
@[go_sem] theorem fV(a b:List UInt8):dI .add (St a) (St b) K=(a.length+b.length≤9223372036854775807∧K (St (a++b))):=by
 apply propext;unfold dI
 constructor
 ·rintro⟨a',b',u,h1,h2,h3,hk⟩;cases h1;cases h2
  simp only[Dl]at h3
  split at h3
  ·rename_i hb;cases h3;exact⟨bf hb,hk⟩
  ·cases h3
 ·rintro⟨h0,hk⟩;exact⟨a,b,_,rfl,rfl,by simp only[Dl,aU.2 h0],hk⟩
theorem lI{neg:Bool}{tag:Nat}{x y:AV}{r:Bool}(ht:TR x=tag)(h:Ad x y=some r):jr neg tag x y K=K (Bo (r != neg)):=by
 apply propext;unfold jr
 constructor
 ·rintro⟨_,r',h',hk⟩;rw[h]at h';cases h';exact hk
 ·intro hk;exact⟨ht,r,h,hk⟩
@[go_sem] theorem QI(neg:Bool):jr neg 2 (.sc (.slice none 0 0)) (.sc (.slice none 0 0)) K=K (Bo (!neg)):=(lI (tag:=2) (r:=true) rfl rfl).trans (by cases neg<;>rfl)
@[go_sem] theorem Qw(neg:Bool)(b:Nat):jr neg 2 (.emp b) (.sc (.slice none 0 0)) K=K (Bo neg):=(lI (tag:=2) (r:=false) rfl rfl).trans (by cases neg<;>rfl)
@[go_sem] theorem Qf(neg:Bool)(b o n:Nat)(c:Cap):jr neg 2 (.slc b o n c) (.sc (.slice none 0 0)) K=K (Bo neg):=(lI (tag:=2) (r:=false) rfl rfl).trans (by cases neg<;>rfl)
@[go_sem] theorem akL(neg:Bool)(b o:Nat):jr neg 1 (.ptr b o) (.sc (.pointer none)) K=K (Bo neg):=(lI (tag:=1) (r:=false) rfl rfl).trans (by cases neg<;>rfl)
@[go_sem] theorem ajE(neg:Bool):jr neg 1 (.sc (.pointer none)) (.sc (.pointer none)) K=K (Bo (!neg)):=(lI (tag:=1) (r:=true) rfl rfl).trans (by cases neg<;>rfl)
@[go_sem] theorem alf(neg:Bool)(b:Nat):jr neg 3 (.map b) (.sc (.map none)) K=K (Bo neg):=(lI (tag:=3) (r:=false) rfl rfl).trans (by cases neg<;>rfl)
@[go_sem] theorem al8(neg:Bool)(f:Fn)(xs ys:List AV):jr neg 4 (.fn f xs ys) (.sc .nilFunc) K=K (Bo neg):=(lI (tag:=4) (r:=false) rfl rfl).trans (by cases neg<;>rfl)
@[go_sem] theorem arX(neg:Bool)(ks:List Nat)(cs ds:List AV):FH neg ks (.agg cs) (.agg ds) K=(cs.length=ks.length∧ds.length=ks.length∧∃ r,df ks cs ds=some r∧K (Bo (r != neg))):=by
 apply propext;unfold FH
 constructor
 ·rintro⟨a',b',r,h1,h2,h3,h4,h5,hk⟩;cases h1;cases h2;exact⟨h3,h4,r,h5,hk⟩
 ·rintro⟨h3,h4,r,h5,hk⟩;exact⟨cs,ds,r,rfl,rfl,h3,h4,h5,hk⟩
@[go_sem] theorem Nn(C:FuncId→aB)(g:FuncId)(first cap args:List AV):GX C (.fn (.func g) first cap) args M KQ=C g (first++args++cap) M KQ:=by
 apply propext;unfold GX
 constructor
 ·rintro⟨g',f',c',h,hk⟩;cases h;exact hk
 ·intro hk;exact⟨g,first,cap,rfl,hk⟩
@[go_sem] theorem oF(cs:List AV)(parts:List (Nat×Nat×AV)):iV cs parts K=∃ cs',nC cs parts=some cs'∧K (.agg cs'):=rfl
@[go_sem] theorem bL(x:RB)(mk:Nat→AV):cz x mk M KQ=KQ (mk M.next) (M.push x):=rfl
@[go_sem] theorem aEk(x:RB)(mk:Nat→AV)(k:KR):ara x mk M k=k (mk M.next) (M.push x) (some M.next):=rfl
@[go_sem] theorem lS(f:(List AV→RM→Prop)→Prop)(g:List AV→RM→Prop):iK f g=f g:=rfl
@[go_sem] theorem bV(x:AV)(xs:List AV):aD (x::xs) 0=x:=rfl
@[go_sem] theorem gY(x:AV)(xs:List AV)(n:Nat):aD (x::xs) (n+1)=aD xs n:=rfl
@[go_sem] theorem asQ(b:Nat)(x:RB)(mk:Nat→AV)(v:AV):abD (some b) M x mk v=(M.heap b=some x∧mk b=v):=rfl
end
theorem afq{body:(List AV→RM→Prop)→List AV→RM→Prop}{xs:List AV}{M:RM}(I:Nat→List AV→RM→Prop)(n:Nat)(h0:I n xs M)
  (hb:∀ m ys M',I m ys M'→body (fun zs M''=>∃ m',m'<m∧I m' zs M'') ys M'):eY body xs M:=⟨I,n,h0,hb⟩
section
variable {M M' : RM}
theorem RM.Dn{b:Nat}{l:List AV}{opn:Bool}{el fz:Nat}(h:M.heap b=some (.row l opn el fz)):M.cells b=some l:=by simp[RM.cells,h]
theorem RM.ahg{b o:Nat}{l:List AV}{opn:Bool}{el fz:Nat}(h:M.heap b=some (.row l opn el fz)):M.cell b o=l[o]?:=by simp[RM.cell,RM.Dn h]
theorem RM.gW{b o k:Nat}{l:List AV}{opn:Bool}{el fz:Nat}(h:M.heap b=some (.row l opn el fz))(hk:o+k≤l.length):M.loads b o k=some ((l.drop o).take k):=by
 simp[RM.loads,RM.Dn h,hk]
theorem RM.Gg{b o:Nat}{l vs:List AV}{opn:Bool}{el fz:Nat}(h:M.heap b=some (.row l opn el fz))(h1:o+vs.length≤l.length)(h2:fz≤o)(h3:vs.all oneCell=true) :
  M.stores b o vs=some (M.put b (.row (l.take o++vs++l.drop (o+vs.length)) opn el fz)):=by
 simp only[RM.stores,h]
 rw[if_pos ⟨h1,h2,h3⟩]
structure ah(bs:List Nat)(M M' : RM):Prop where
 base:M'.base=M.base
 next:M.next≤M'.next
 heap:∀ c,c<M.next→c∉bs→M'.heap c=M.heap c
theorem ah.refl(bs:List Nat)(M:RM):ah bs M M:=⟨rfl,Nat.le_refl _,fun _ _ _=>rfl⟩
theorem ah.trans{bs:List Nat}{M1 M2:RM}(h:ah bs M M1)(k:ah bs M1 M2):ah bs M M2 :=
 ⟨k.base.trans h.base,Nat.le_trans h.next k.next,fun c hc hb=>(k.heap c (Nat.lt_of_lt_of_le hc h.next) hb).trans (h.heap c hc hb)⟩
theorem ah.push{bs:List Nat}(h:ah bs M M')(x:RB):ah bs M (M'.push x) :=
 ⟨h.base,Nat.le_succ_of_le h.next,fun c hc hb=>by
  have:=h.next
  simp only[RM.push];rw[if_neg (by omega)];exact h.heap c hc hb⟩
theorem ah.put{bs:List Nat}(h:ah bs M M'){b:Nat}(x:RB)(hb:M.next≤b∨b∈bs):ah bs M (M'.put b x) :=
 ⟨h.base,h.next,fun c hc hcb=>by
  simp only[RM.put];rw[if_neg]
  ·exact h.heap c hc hcb
  ·rintro rfl;rcases hb with hb|hb
   ·omega
   ·exact hcb hb⟩
theorem ah.del{bs:List Nat}(h:ah bs M M'){b:Nat}(hb:M.next≤b∨b∈bs):ah bs M (M'.del b) :=
 ⟨h.base,h.next,fun c hc hcb=>by
  simp only[RM.del];rw[if_neg]
  ·exact h.heap c hc hcb
  ·rintro rfl;rcases hb with hb|hb
   ·omega
   ·exact hcb hb⟩
theorem ah.mono{bs cs:List Nat}(h:ah bs M M')(hs:∀ b∈bs,b∈cs):ah cs M M':=⟨h.base,h.next,fun c hc hb=>h.heap c hc fun h=>hb (hs c h)⟩
theorem ah.GL{bs:List Nat}{M1 M2:RM}{cs:List Nat}(h:ah bs M M1)(k:ah cs M1 M2)(hn:∀ c∈cs,M.next≤c∨c∈bs):ah bs M M2 :=
 ⟨k.base.trans h.base,Nat.le_trans h.next k.next,fun c hc hb=>by
  rw[k.heap c (Nat.lt_of_lt_of_le hc h.next) (fun hm=>by rcases hn c hm with h1|h1;omega;exact hb h1),h.heap c hc hb]⟩
theorem ah.cells{bs:List Nat}(h:ah bs M M'){b:Nat}(hlt:b<M.next)(hb:b∉bs):M'.cells b=M.cells b:=by
 simp only[RM.cells,h.heap b hlt hb,RM.lo,h.base]
theorem ah.loads{bs:List Nat}(h:ah bs M M'){b o k:Nat}(hlt:b<M.next)(hb:b∉bs):M'.loads b o k=M.loads b o k:=by
 simp only[RM.loads,h.cells hlt hb]
@[go_sem] theorem RM.aul(x:RB):(M.push x).next=M.next+1:=rfl
@[go_sem] theorem RM.aCl(b:Nat)(x:RB):(M.put b x).next=M.next:=rfl
@[go_sem] theorem RM.awn(b:Nat):(M.del b).next=M.next:=rfl
@[go_sem] theorem RM.nL(x:RB):(M.push x).heap M.next=some x:=by simp[RM.push]
theorem RM.ahF{x:RB}{c:Nat}(h:c≠M.next):(M.push x).heap c=M.heap c:=by simp[RM.push,h]
@[go_sem] theorem RM.nz(b:Nat)(x:RB):(M.put b x).heap b=some x:=by simp[RM.put]
end
abbrev bC:AV:=.sc (.slice none 0 0)
inductive aW(M:RM)(size:Nat):AV→List AV→Nat→Prop
 |nil:aW M size bC [] 0
 |emp (b:Nat):aW M size (.emp b) [] 0
 |slc (b o n:Nat) (cap:Cap) (cs:List AV):b<M.next→M.loads b o (n*size)=some cs→aW M size (.slc b o n cap) cs n
section
variable {M M' : RM} {size:Nat} {v:AV} {cs:List AV} {n:Nat}
theorem lv{b o k:Nat}{cs:List AV}(h:M.loads b o k=some cs):cs.length=k:=by
 unfold RM.loads at h
 split at h <;>try(cases h;done)
 split at h <;>try(cases h;done)
 rename_i hle
 have:=Option.some.inj h
 rw[← this,List.length_take,List.length_drop];omega
theorem afT{b o k:Nat}{cs:List AV}(h:M.loads b o k=some cs)(i:Nat)(hi:i<k):M.cell b (o+i)=cs[i]?:=by
 unfold RM.loads at h
 unfold RM.cell
 split at h <;>try(cases h;done)
 rename_i l hl
 split at h <;>try(cases h;done)
 cases h
 simp only[hl,Option.bind_some]
 rw[List.getElem?_take,if_pos hi,List.getElem?_drop]
theorem lh{b o k:Nat}{cs:List AV}(h:M.loads b o k=some cs)(i j:Nat)(hij:i+j≤k):M.loads b (o+i) j=some ((cs.drop i).take j):=by
 unfold RM.loads at h ⊢
 cases hl:M.cells b with
 |none=>rw[hl]at h;cases h
 |some l =>
  rw[hl]at h
  simp only at h ⊢
  split at h
  ·rename_i hle
   have h:=Option.some.inj h
   subst h
   rw[if_pos (by omega),List.drop_take,List.drop_drop,List.take_take]
   congr 2
   omega
  ·cases h
theorem PG{b o:Nat}{l:List AV}(h:M.cells b=some l)(ho:o≤l.length):M.loads b o 0=some []:=by
 simp[RM.loads,h,ho]
theorem aW.length(h:aW M size v cs n):cs.length=n*size:=by
 cases h with
 |nil=>exact(Nat.zero_mul _).symm
 |emp=>exact(Nat.zero_mul _).symm
 |slc b o n cap cs hb0 hl=>exact lv hl
theorem aW.len(h:aW M size v cs n){K:AV→Prop}:bS v K=K (N .i64 n):=by
 cases h with
 |nil=>exact NT
 |emp b=>exact ahs b
 |slc b o n cap cs hb0 hl=>exact oK b o n cap
theorem aW.PZ(h:aW M size v cs n):PZ v=some n:=by
 cases h<;>rfl
theorem aW.kP(h:aW M size v cs n)(zs:List AV):kP M size zs false v=some (n,cs):=by
 cases h with
 |nil=>rfl
 |emp b=>rfl
 |slc b o n cap cs hb0 hl=>simp only[Go.Ab.kP,hl]
theorem aW.pos(h:aW M size v cs n)(hn:0<n):∃ b o cap,v=.slc b o n cap∧b<M.next∧M.loads b o (n*size)=some cs:=by
 cases h with
 |nil=>omega
 |emp b=>omega
 |slc b o n cap cs hb0 hl=>exact⟨b,o,cap,rfl,hb0,hl⟩
theorem aW.qU(h:aW M 1 v cs n){l:List UInt8}(hb:bW byteOf cs=some l):qU M v=some l:=by
 cases h with
 |nil=>simp[bW]at hb;subst hb;rfl
 |emp b=>simp[bW]at hb;subst hb;rfl
 |slc b o n cap cs hb0 hl =>
  rw[Nat.mul_one]at hl
  simp only[Go.Ab.qU,hl];exact hb
def aJ:AV→List Nat
 |.slc b _ _ _=>[b]
 |_=>[]
theorem aW.keep{bs:List Nat}(h:aW M size v cs n)(hk:ah bs M M')(hb:∀ b∈aJ v,b∉bs):aW M' size v cs n:=by
 cases h with
 |nil=>exact .nil
 |emp b=>exact .emp b
 |slc b o n cap cs hb0 hl =>
  exact .slc b o n cap cs (Nat.lt_of_lt_of_le hb0 hk.next) (by rw[hk.loads hb0 (hb b (by simp[aJ]))];exact hl)
inductive Own(M:RM)(base el size:Nat):AV→List AV→Nat→Prop
 |nil:Own M base el size bC [] 0
 |ex0 (b o:Nat):base≤b→b<M.next→(∃ l,M.cells b=some l∧o≤l.length)→Own M base el size (.slc b o 0 (.ex 0)) [] 0
 |op (b n:Nat) (cs:List AV):base≤b→b<M.next→M.heap b=some (.row cs true el 0)→cs.length=n*size→Own M base el size (.slc b 0 n (.op size)) cs n
theorem Own.E5{base el:Nat}(h:Own M base el size v cs n):aW M size v cs n:=by
 cases h with
 |nil=>exact .nil
 |ex0 b o hb hlt hc =>
  obtain⟨l,hl,ho⟩:=hc
  exact .slc b o 0 _ [] hlt (by rw[Nat.zero_mul];exact PG hl ho)
 |op b n cs hb hlt hh hl =>
  refine .slc b 0 n _ cs hlt ?_
  rw[RM.gW hh (by omega)]
  simp[← hl]
theorem Own.blk{base el:Nat}(h:Own M base el size v cs n):∀ b∈aJ v,base≤b∧b<M.next:=by
 cases h with
 |nil=>intro b hb;simp[aJ]at hb
 |ex0 b o hb hlt hc=>intro c hc;simp[aJ]at hc;subst hc;exact⟨hb,hlt⟩
 |op b n cs hb hlt hh hl=>intro c hc;simp[aJ]at hc;subst hc;exact⟨hb,hlt⟩
theorem Own.keep{base el:Nat}{bs:List Nat}(h:Own M base el size v cs n)(hk:ah bs M M')(hb:∀ b∈aJ v,b∉bs):Own M' base el size v cs n:=by
 cases h with
 |nil=>exact .nil
 |ex0 b o h1 hlt hc=>exact .ex0 b o h1 (Nat.lt_of_lt_of_le hlt hk.next) (by rw[hk.cells hlt (hb b (by simp[aJ]))];exact hc)
 |op b n cs h1 hlt hh hl=>exact .op b n cs h1 (Nat.lt_of_lt_of_le hlt hk.next) (by rw[hk.heap b hlt (hb b (by simp[aJ]))];exact hh) hl
theorem Own.mono{base base' el:Nat}(h:Own M base el size v cs n)(hb:base'≤base):Own M base' el size v cs n:=by
 cases h with
 |nil=>exact .nil
 |ex0 b o h1 hlt hc=>exact .ex0 b o (Nat.le_trans hb h1) hlt hc
 |op b n cs h1 hlt hh hl=>exact .op b n cs (Nat.le_trans hb h1) hlt hh hl
theorem sZ{base el bytes:Nat}{zs:List AV}{zeros:Bool}{x:AV}{m:Nat}{ds:List AV}{K:aj}(h:Own M base el size v cs n)(hbase:base≤M.next)(hs:1≤size)(hx:kP M size zs zeros x=some (m,ds))(hd:ds.length=m*size)
  (h1:ds.all oneCell=true) (hb:(n+m)*bytes≤140737488355328) (hb2:n+m≤140737488355328)
  (hK:∀ v' M',Own M' base el size v' (cs++ds) (n+m)→ah (aJ v) M M'→M.next≤M'.next→(v'=v∨∀ b∈aJ v',M.next≤b)→K v' M'):appW el size bytes zs zeros v x M K:=by
 have hmb:m*bytes≤140737488355328:=Nat.le_trans (Nat.mul_le_mul_right _ (by omega)) hb
 refine⟨m,ds,hx,hmb,by omega, ?_⟩
 cases h with
 |nil =>
  by_cases hm:m=0
  ·subst hm
   have:ds=[]:=List.eq_nil_of_length_eq_zero (by simpa using hd)
   subst this
   exact⟨bC,M,by simp[j6],hK _ _ .nil (ah.refl _ _) (Nat.le_refl _) (.inl rfl)⟩
  ·refine⟨.slc M.next 0 m (.op size),M.push (.row ds true el 0),by simp only[j6,if_neg hm,h1,if_true],hK _ _ ?_ ((ah.refl _ _).push _) (by simp[RM.push]) (.inr fun b hb=>by simp[aJ]at hb;omega)⟩
   simp only[List.nil_append,Nat.zero_add]
   exact .op _ _ _ hbase (by simp[RM.push]) (RM.nL _) hd
 |ex0 b o hb0 hlt hc =>
  obtain⟨l,hl,ho⟩:=hc
  by_cases hm:m=0
  ·subst hm
   have:ds=[]:=List.eq_nil_of_length_eq_zero (by simpa using hd)
   subst this
   exact⟨_,M,by simp[j6],hK _ _ (.ex0 b o hb0 hlt ⟨l,hl,ho⟩) (ah.refl _ _) (Nat.le_refl _) (.inl rfl)⟩
  ·refine⟨.slc M.next 0 m (.op size),M.push (.row ds true el 0), ?_,hK _ _ ?_ ((ah.refl _ _).push _) (by simp[RM.push]) (.inr fun b hb=>by simp[aJ]at hb;omega)⟩
   ·have hl0:M.loads b o (0*size)=some []:=by rw[Nat.zero_mul];exact PG hl ho
    simp only[j6,if_neg hm]
    rw[if_neg (by omega),hl0]
    simp only[Nat.zero_add,List.nil_append]
    rw[if_pos ⟨hmb,by omega,h1⟩]
   ·simp only[List.nil_append,Nat.zero_add]
    exact .op _ _ _ hbase (by simp[RM.push]) (RM.nL _) hd
 |op b n cs hb0 hlt hh hl =>
  by_cases hm:m=0
  ·subst hm
   have:ds=[]:=List.eq_nil_of_length_eq_zero (by simpa using hd)
   subst this
   exact⟨_,M,by simp[j6],hK _ _ (by simpa using .op b n cs hb0 hlt hh hl) (ah.refl _ _) (Nat.le_refl _) (.inl rfl)⟩
  ·have hpos:1≤m*size:=Nat.mul_pos (by omega) hs
   have hsum:(n+m)*size=n*size+m*size:=Nat.add_mul _ _ _
   refine⟨.slc M.next 0 (n+m) (.op size),(M.del b).push (.row (cs++ds) true el 0), ?_,hK _ _ ?_ (((ah.refl _ _).del (.inr (by simp[aJ]))).push _) (by simp[RM.push,RM.del]) (.inr fun b hb=>by simp[aJ]at hb;omega)⟩
   ·simp only[j6,if_neg hm,hh,and_self,if_true]
    rw[if_neg (by omega),if_pos ⟨trivial,hb,hb2,trivial,hl,Nat.zero_le _,h1⟩]
   ·exact .op _ _ _ (show base≤M.next from hbase) (by simp[RM.push,RM.del]) (by simp[RM.push,RM.del]) (by rw[List.length_append,hl,hd,hsum])
theorem aW.Ad(h:aW M size v cs n)(neg:Bool):(v=bC∧∀ K:AV→Prop,jr neg 2 v bC K=K (Bo (!neg)))∨(v≠bC∧∀ K:AV→Prop,jr neg 2 v bC K=K (Bo neg)):=by
 cases h with
 |nil=>exact .inl ⟨rfl,fun _=>QI neg⟩
 |emp b=>exact .inr ⟨by(intro h;cases h),fun _=>Qw neg b⟩
 |slc b o n cap cs hb0 hl=>exact .inr ⟨by(intro h;cases h),fun _=>Qf neg b o n cap⟩
theorem Own.lit{base el T:Nat}(M:RM)(h:base≤M.next):Own (M.push (.row [] false T 0)) base el size (.slc M.next 0 0 (.ex 0)) [] 0 :=
 .ex0 _ _ h (by simp[RM.push]) ⟨[],by simp[RM.cells,RM.push],Nat.le_refl _⟩
end
end Go.Ab
set_option maxRecDepth 4000
namespace Go.Ab
open Go
theorem wrap_u8(n:Nat):IntKind.wrap .u8 (n:Int)=((n%256:Nat):Int):=by
 simp only[IntKind.wrap,IntKind.bits,IntKind.signed,IntKind.max,IntKind.min]
 simp
theorem wrap_u64(n:Nat):IntKind.wrap .u64 (n:Int)=((n%18446744073709551616:Nat):Int):=by
 simp only[IntKind.wrap,IntKind.bits,IntKind.signed,IntKind.max,IntKind.min]
 simp
theorem ji{n:Int}(h0:0≤n)(h:n<256):IntKind.wrap .u8 n=n:=by
 obtain⟨m,rfl⟩:=Int.eq_ofNat_of_zero_le h0
 rw[wrap_u8,Nat.mod_eq_of_lt (by omega)]
theorem wL{n:Int}(h0:0≤n)(h:n<18446744073709551616):IntKind.wrap .u64 n=n:=by
 obtain⟨m,rfl⟩:=Int.eq_ofNat_of_zero_le h0
 rw[wrap_u64,Nat.mod_eq_of_lt (by omega)]
theorem bM{n:Int}(h0 : -9223372036854775808≤n)(h:n<9223372036854775808):IntKind.wrap .i64 n=n:=by
 rw[IntKind.wrap_i64];omega
theorem arj(k:Nat)(a b:Nat):(BitVec.ofInt k (a:Int) ||| BitVec.ofInt k (b:Int)).toNat=(a ||| b)%2^k:=by
 rw[BitVec.toNat_or,BitVec.ofInt_natCast,BitVec.ofInt_natCast,BitVec.toNat_ofNat,BitVec.toNat_ofNat,← Nat.or_mod_two_pow]
theorem al2(k:Nat)(a b:Nat):(BitVec.ofInt k (a:Int) &&& BitVec.ofInt k (b:Int)).toNat=(a &&& b)%2^k:=by
 rw[BitVec.toNat_and,BitVec.ofInt_natCast,BitVec.ofInt_natCast,BitVec.toNat_ofNat,BitVec.toNat_ofNat,← Nat.and_mod_two_pow]
theorem aiX(a b:Nat):((a:Int).fdiv (b:Int))=((a / b:Nat):Int):=by
 rw[Int.fdiv_eq_ediv_of_nonneg _ (by omega)];rfl
def Ag:IntKind→Nat
 |.u8=>8|.u16=>16|.u32=>32|_=>64
def Ga:IntKind→Bool
 |.u8|.u16|.u32|.u64=>true
 |_=>false
theorem BC{k:IntKind}(h:Ga k=true)(n:Nat):k.wrap (n:Int)=((n%2^Ag k:Nat):Int):=by
 cases k<;>simp[Ga]at h<;>(simp only[IntKind.wrap,IntKind.bits,IntKind.signed,Ag];simp)
theorem Vh(k:IntKind)(h:Ga k=true):k.bits=Ag k:=by cases k<;>simp[Ga]at h<;>rfl
theorem Zx{k:IntKind}(h:Ga k=true)(a b:Nat):IV k a b=(((a ||| b)%2^Ag k:Nat):Int):=by
 unfold IV
 rw[arj,BC h,Vh k h,Nat.mod_mod]
theorem aiY{k:IntKind}(h:Ga k=true)(a b:Nat):Ei k a b=(((a &&& b)%2^Ag k:Nat):Int):=by
 unfold Ei
 rw[al2,BC h,Vh k h,Nat.mod_mod]
theorem YH(k:IntKind)(a b:Nat)(hb:b≤k.bits):rG k a b=((a / 2^b:Nat):Int):=by
 unfold rG
 rw[Int.toNat_natCast,Nat.min_eq_left hb,← aiX,Int.natCast_pow];rfl
theorem ahe{k:IntKind}(h:Ga k=true)(a b:Nat)(hb:b≤k.bits):JN k a b=((a*2^b%2^Ag k:Nat):Int):=by
 unfold JN
 rw[Int.toNat_natCast,Nat.min_eq_left hb,← BC h,Int.natCast_mul,Int.natCast_pow]
 rfl
theorem anZ{x:Nat}(h:x<256):x ||| 128=x%128+128:=by
 have:∀ x:Fin 256,x.val ||| 128=x.val%128+128:=by decide
 exact this ⟨x,h⟩
theorem xV(n:Nat):(UInt8.ofNat n).toNat=n%256:=by simp
end Go.Ab
namespace Go.Ab
open Go Go.RowKit
section
variable {P:Program}
end
def RM.old(base:Base)(w:World):RM where
 next:=base.n
 heap:=fun b=>if b<base.n then(match w.heap[b]? with|some (.cells c _ _)=>some (.ro c)|_=>none)else none
 base:=base
def UG(n:Nat):Ren:=fun b=>if b<n then some ⟨b,0,0,0⟩else none
theorem agc{P:Program}{base:Base}{w:World}(hn:base.n=w.heap.size)(hi:base.inv w):bu P (UG base.n) (RM.old base w) w:=by
 refine⟨{ next:=base.n,heap:=.leaf },rfl,⟨fun b i h=>?_,fun b i x _ h=>by simp[Tree.get]at h,fun b _ i _ x _ _ _ h=>by simp[Tree.get]at h,fun b x h=>by simp[Tree.get]at h,fun b i x _ h=>by simp[Tree.get]at h,hi⟩,by simp[RM.old,RM.lo,hn],fun b x h=>.inr ?_,fun c hc=>by have hc' : c<base.n:=hc;simp only[UG];rw[if_pos hc']⟩
 ·simp only[UG]at h
  split at h <;>try(cases h;done)
  cases h
  exact⟨by assumption,by rw[← hn];assumption⟩
 ·simp only[RM.old]at h
  split at h <;>try(cases h;done)
  rename_i hlt
  split at h <;>try(cases h;done)
  rename_i c el fr hh
  cases h
  exact⟨c,rfl,hlt,el,fr,hh⟩
theorem RM.ael{base:Base}{w:World}{b:Nat}{c:Array Value}{el:TypeId}{fr:_}(hb:b<base.n)(h:w.heap[b]?=some (.cells c el fr)):(RM.old base w).cells b=some (c.toList.map (rU base.n)):=by
 simp only[RM.cells,RM.old,if_pos hb,h]
def u6(lo:Nat):Value→AV
 |.agg cs=>.agg (cs.toList.map (rU lo))
 |v=>rU lo v
theorem VM{ρ:Ren}{lo:Nat}(h:∀ c,c<lo→ρ c=some ⟨c,0,0,0⟩):∀ (vs:List Value),aQ ρ (vs.map (rU lo)) vs
 |[]=>.nil
 |v::vs=>.cons _ _ _ _ (NG h v) (VM h vs)
theorem aji{ρ:Ren}{lo:Nat}(h:∀ c,c<lo→ρ c=some ⟨c,0,0,0⟩)(v:Value):ai ρ (u6 lo v) v:=by
 unfold u6
 split
 ·exact .agg _ _ (VM h _)
 ·exact NG h v
theorem Sj{ρ:Ren}{lo:Nat}(h:∀ c,c<lo→ρ c=some ⟨c,0,0,0⟩):∀ (vs:List Value),aQ ρ (vs.map (u6 lo)) vs
 |[]=>.nil
 |v::vs=>.cons _ _ _ _ (aji h v) (Sj h vs)
theorem dL.close{P:Program}{f:FuncId}{base:Base}{w:World}{us:Array Value}(hn:base.n=w.heap.size)(hi:base.inv w)
  (h:dL P f (us.toList.map (u6 base.n)) (RM.old base w) fun v _=>v=Bo true) :
  Calls P f us w fun e w'=>e=.returned (.bool true)∧Below w.heap.size w w':=by
 have hr:=agc (P:=P) hn hi
 refine((h.2 (UG base.n) w us.toList (Sj (fun c hc=>by simp only[UG];rw[if_pos hc]) _) hr)).mono fun e w' hR=>?_
 obtain⟨v',v,M',ρ',rfl,k1,k2,rfl⟩:=hR
 obtain⟨rfl,_⟩:=aH k2
 refine⟨rfl,k1.step.os,k1.step.tape,k1.step.output,k1.step.size,fun k hk=>k1.step.low k ?_⟩
 show k<base.n
 rw[hn];exact hk
def Wd:Option TypeDesc→Bool
 |some .bool|some (.int _)|some .string|some (.slice _)|some (.struct _)|some (.array _ _)=>false
 |_=>true
inductive Fits(P:Program)(M:RM):TypeId→List AV→Prop
 |bool (t:TypeId) (b:Bool):P.underlying t=some .bool→Fits P M t [Bo b]
 |int (t:TypeId) (k:IntKind) (n:Int):P.underlying t=some (.int k)→k.min≤n→n≤k.max→Fits P M t [N k n]
 |str (t:TypeId) (s:List UInt8):P.underlying t=some .string→s.length≤reachBytes→Fits P M t [St s]
 |axO (t e:TypeId):P.underlying t=some (.slice e)→Fits P M t [bC]
 |emp (t e:TypeId) (b:Nat):P.underlying t=some (.slice e)→Fits P M t [.emp b]
 |slc (t e:TypeId) (b o n c:Nat) (cs:List AV):P.underlying t=some (.slice e)→b<M.next→n≤c→c*P.bytesOf e≤reachBytes→M.loads b o (n*P.cellsOf e)=some cs →
   (∀ i,i<n→Fits P M e ((cs.drop (i*P.cellsOf e)).take (P.cellsOf e)))→Fits P M t [.slc b o n (.ex c)]
 |struct (t:TypeId) (fs:Array Field) (cs:List AV):P.underlying t=some (.struct fs)→cs.length=P.cellsOf t →
   (∀ (i:Nat)(f:Field),fs[i]?=some f→Fits P M f.type ((cs.drop f.offset).take (P.cellsOf f.type)))→Fits P M t cs
 |array (t e:TypeId) (n:Nat) (cs:List AV):P.underlying t=some (.array n e)→cs.length=P.cellsOf t →
   (∀ i,i<n→Fits P M e ((cs.drop (i*P.cellsOf e)).take (P.cellsOf e)))→Fits P M t cs
 |other (t:TypeId) (cs:List AV):Wd (P.underlying t)=true→Fits P M t cs
 |zero (t e:TypeId) (cs:List AV):P.underlying t=some (.slice e)→P.cellsOf e=0→Fits P M t cs
theorem Jh(a:Addr):a.add 0=a:=by simp[Addr.add]
theorem zW{w:World}{base:Nat}{a:Addr}{n:Nat}{cs:List Value}(h:w.cells? base a n=some cs):cs.length=n∧∀ i,i<n→w.cell? (a.add i)=cs[i]?:=by
 unfold World.cells? at h
 split at h
 ·exact⟨by simpa using mapM_some_length h,fun i hi=>mapM_some_get h i i (by simp[hi])⟩
 ·cases h
theorem cell?_at{w:World}{a:Addr}{v:Value}(h:w.cell? a=some v):∃ c el fr,w.heap[a.block]?=some (.cells c el fr)∧a.spot=none∧a.off<c.size∧c[a.off]?=some v:=by
 unfold World.cell? at h
 split at h
 ·rename_i c el fr hh
  split at h
  ·cases h
  ·rename_i hs
   exact⟨c,el,fr,hh,by simpa using hs,(Array.getElem?_eq_some_iff.1 h).1,h⟩
 ·cases h
section
variable {H:Type} {enc:TypeId×Value→H} {P:Program} {base:Base} {w:World}
theorem uQ{e:TypeId}{ds:List (DataW H)}{d:DataW H}(hd:d∈ds){x:Nat}(hx:x∈d.weights P e):x∈DataW.weightsAll P e ds:=by
 induction ds with
 |nil=>cases hd
 |cons y ys ih =>
  simp only[DataW.weightsAll,List.mem_append]
  rcases List.mem_cons.1 hd with rfl|hd
  ·exact .inl hx
  ·exact .inr (ih hd)
theorem CS{x:Nat}:∀ (ts:List TypeId)(ds:List (DataW H))(i:Nat)(t:TypeId)(d:DataW H),ts[i]?=some t→ds[i]?=some d→x∈d.weights P t→x∈DataW.weightsEach P ts ds
 |[],_,_,_,_,h,_,_=>by simp at h
 |_::_,[],_,_,_,_,h,_=>by simp at h
 |t::ts,d::ds,0,t',d',h,h',hx=>by
  simp at h h';subst h h'
  simp only[DataW.weightsEach,List.mem_append];exact .inl hx
 |t::ts,d::ds,i+1,t',d',h,h',hx=>by
  simp only[DataW.weightsEach,List.mem_append]
  exact .inr (CS ts ds i t' d' (by simpa using h) (by simpa using h') hx)
theorem Wl(hn:base.n=w.heap.size){held:Bool}:∀ (fuel:Nat)(t:TypeId)(cs:List Value)(x:DataW H×List MemPlace),DataW.trod enc P w 0 (fun _=>true) held fuel t cs=some x →
  (∀ y∈x.1.weights P t,y≤reachBytes)→Fits P (RM.old base w) t (cs.map (rU base.n)):=by
 intro fuel
 induction fuel with
 |zero=>intro t cs x h;simp[DataW.trod]at h
 |succ m ih =>
  intro t cs x h hw
  cases hu:P.underlying t with
  |none=>exact .other _ _ (by rw[hu];rfl)
  |some d =>
   cases d with
   |bool =>
    obtain⟨b,rfl,rfl⟩:=DataW.trod_bool hu h
    exact .bool t b hu
   |int k =>
    obtain⟨n,rfl,rfl,hwf⟩:=DataW.trod_int hu h
    simp only[Lit.wf,Bool.and_eq_true,decide_eq_true_eq]at hwf
    exact .int t k n hu hwf.1 hwf.2
   |string =>
    obtain⟨s,rfl,rfl,_⟩:=DataW.trod_string hu h
    exact .str t s.data.toList hu (hw _ (by simp[DataW.weights]))
   |slice e =>
    rcases DataW.trod_slice hu h with⟨rfl,rfl⟩|⟨a,len,cap,elems,rest,n,hm,rfl,rfl,_,hlc,_,hel,hget,hrest,_⟩
    ·exact .axO t e hu
    ·cases hm
     rcases Nat.eq_zero_or_pos (P.cellsOf e)with hz|hz
     ·exact .zero t e _ hu hz
     rcases Nat.eq_zero_or_pos cap with hc|hc
     ·have hl0:len=0:=by omega
      subst hc hl0
      exact .emp t e 0 hu
     ·obtain⟨hr1,hr2⟩:=hrest rfl
      have every:∀ i,i<cap→∃ es y,w.cells? 0 (a.add (i*P.cellsOf e)) (P.cellsOf e)=some es∧DataW.trod enc P w 0 (fun _=>true) held m e es=some y∧(y∈elems∨y∈rest):=by
       intro i hi
       by_cases hil:i<len
       ·have h1:=hget i hil
        have h2:elems[i]?=some (elems[i]'(by omega)):=by simp[hel,hil]
        rw[h2]at h1
        obtain⟨es,e1,e2⟩:=Option.bind_eq_some_iff.1 h1
        exact⟨es,_,e1,e2,.inl (List.getElem_mem _)⟩
       ·have h1:=hr2 (i-len) (by omega)
        rw[show len+(i-len)=i by omega]at h1
        have h2:rest[i-len]?=some (rest[i-len]'(by omega)):=by
         rw[List.getElem?_eq_getElem]
        rw[h2]at h1
        obtain⟨es,e1,e2⟩:=Option.bind_eq_some_iff.1 h1
        exact⟨es,_,e1,e2,.inr (List.getElem_mem _)⟩
      obtain⟨es0,_,k0,_,_⟩:=every 0 hc
      obtain⟨kl0,kg0⟩:=zW k0
      have hc0:=kg0 0 hz
      rw[List.getElem?_eq_getElem (by omega)]at hc0
      obtain⟨c,el,fr,hh,hsp,_,_⟩:=cell?_at hc0
      obtain⟨b,o,sp⟩:=a
      rw[Nat.zero_mul,Jh,Jh]at hh hsp
      simp only at hh hsp
      subst hsp
      have hblt:b<base.n:=by rw[hn];exact(Array.getElem?_eq_some_iff.1 hh).1
      have hlast:o+cap*P.cellsOf e≤c.size:=by
       obtain⟨es1,_,k1,_,_⟩:=every (cap-1) (by omega)
       obtain⟨kl1,kg1⟩:=zW k1
       have hc1:=kg1 (P.cellsOf e-1) (by omega)
       rw[List.getElem?_eq_getElem (by omega)]at hc1
       obtain⟨c',el',fr',hh',_,hlt,_⟩:=cell?_at hc1
       rw[fw,fw]at hh' hlt
       simp only at hh' hlt
       rw[hh]at hh'
       cases hh'
       have:cap*P.cellsOf e=(cap-1)*P.cellsOf e+P.cellsOf e:=by
        rw[← Nat.succ_mul];congr 1;omega
       omega
      have aDe:rU base.n (.slice (some ⟨b,o,none⟩) len cap)=.slc b o len (.ex cap):=by
       obtain⟨cap,rfl⟩ : ∃ k,cap=k+1:=⟨cap-1,by omega⟩
       simp only[rU,if_pos hblt]
      have hcells:=RM.ael hblt hh
      have hle:len*P.cellsOf e≤cap*P.cellsOf e:=Nat.mul_le_mul_right _ hlc
      have hload:(RM.old base w).loads b o (len*P.cellsOf e)=some (((c.toList.map (rU base.n)).drop o).take (len*P.cellsOf e)):=by
       simp only[RM.loads,hcells]
       rw[if_pos (by simp;omega)]
      simp only[List.map_cons,List.map_nil,aDe]
      refine .slc t e b o len cap _ hu hblt hlc ?_ hload fun i hi=>?_
      ·have:=hw ((elems.length+rest.length)*P.bytesOf e) (by simp[DataW.weights,hu])
       rwa [hel,hr1,show len+(cap-len)=cap by omega]at this
      ·obtain⟨es,y,k1,k2,k3⟩:=every i (by omega)
       have hlen:=(zW k1).1
       have hes:((((c.toList.map (rU base.n)).drop o).take (len*P.cellsOf e)).drop (i*P.cellsOf e)).take (P.cellsOf e)=es.map (rU base.n):=by
        have hii:i*P.cellsOf e+P.cellsOf e≤len*P.cellsOf e:=by rw[← Nat.succ_mul];exact Nat.mul_le_mul_right _ hi
        apply List.ext_getElem?
        intro j
        by_cases hj:j<P.cellsOf e
        ·have hg:=(zW k1).2 j hj
         rw[List.getElem?_take,if_pos hj,List.getElem?_drop,List.getElem?_take,if_pos (by omega),List.getElem?_drop,List.getElem?_map,List.getElem?_map,← hg]
         rw[fw,fw]
         simp only[World.cell?,hh]
         rw[Array.getElem?_toList]
         simp[Nat.add_assoc]
        ·rw[List.getElem?_eq_none (by simp;omega),List.getElem?_eq_none (by simp;omega)]
       rw[hes]
       refine ih e es y k2 fun z hz=>hw z ?_
       simp only[DataW.weights,hu,List.mem_cons,List.mem_append]
       rcases k3 with k3|k3
       ·exact .inr (.inl (uQ (List.mem_map_of_mem k3) hz))
       ·exact .inr (.inr (uQ (List.mem_map_of_mem k3) hz))
   |struct fs =>
    obtain⟨xs,n,hm,rfl,hl,hxl,hget⟩:=DataW.trod_struct hu h
    cases hm
    refine .struct t fs _ hu (by simpa using hl) fun i f hf=>?_
    have h1:=hget i f hf
    have hi:i<fs.size:=(Array.getElem?_eq_some_iff.1 hf).1
    rw[List.getElem?_eq_getElem (by omega)]at h1
    rw[← List.map_drop,← List.map_take]
    refine ih _ _ _ h1 fun z hz=>hw z ?_
    simp only[DataW.weights,hu]
    refine CS _ _ i f.type _ (by simp[hf]) (by rw[List.getElem?_map,List.getElem?_eq_getElem (by omega)];rfl) hz
   |array n e =>
    obtain⟨xs,m',hm,rfl,hl,hxl,hget⟩:=DataW.trod_array hu h
    cases hm
    refine .array t e n _ hu (by simpa using hl) fun i hi=>?_
    have h1:=hget i hi
    rw[List.getElem?_eq_getElem (by omega)]at h1
    rw[← List.map_drop,← List.map_take]
    refine ih _ _ _ h1 fun z hz=>hw z ?_
    simp only[DataW.weights,hu]
    exact uQ (List.mem_map_of_mem (List.getElem_mem _)) hz
   |_=>exact .other _ _ (by rw[hu];rfl)
end
section
variable {P:Program} {M:RM} {t:TypeId} {cs:List AV}
theorem Fits.ag8(h:Fits P M t cs)(hu:P.underlying t=some .bool):∃ b,cs=[Bo b]:=by
 cases h<;>simp_all [Wd]
theorem Fits.Zm(h:Fits P M t cs)(hu:P.underlying t=some .string):∃ s,cs=[St s]∧s.length≤reachBytes:=by
 cases h with
 |str _ s h1 h2=>exact⟨s,rfl,h2⟩
 |_=>simp_all [Wd]
end
def UF(P:Program)(t:TypeId):Bool :=
 match P.underlying t with
 |some (.struct _)|some (.array _ _)=>true
 |_=>false
def zZ(P:Program)(M:RM)(t:TypeId)(v:AV):Prop :=
 match UF P t with
 |true=>∃ cs,v=.agg cs∧Fits P M t cs
 |false=>Fits P M t [v]
theorem zZ.one{P:Program}{M:RM}{t:TypeId}{v:AV}(h:zZ P M t v)(ha:UF P t=false):Fits P M t [v]:=by
 unfold zZ at h;rw[ha]at h;exact h
section
variable {H:Type} {enc:TypeId×Value→H} {P:Program} {base:Base} {w:World}
theorem Wz{r:Reach}{b:Nat}{t:TypeId}{cs:Array Value}(h:Cell.okWide P w r b t (.agg cs)):False:=by
 unfold Cell.okWide at h
 split at h <;>try(rename_i e _;cases e;done)
 all_goals first|(rename_i e;cases e;done)|skip
 unfold Cell.ok at h
 split at h<;>first|exact h|simp_all
theorem agI(hn:base.n=w.heap.size){r:Reach}{b:Nat}{held:Bool}{t:TypeId}{v:Value}{d:DataW H}{ps:List MemPlace}(hv:Value.okWide P w r b t v)(h:DataW.Trod enc P w 0 (fun _=>true) held t v d ps)
  (hw:∀ y∈d.weights P t,y≤reachBytes):zZ P (RM.old base w) t (u6 base.n v):=by
 obtain⟨fuel,hf⟩:=h
 have hfit:=Wl hn fuel t _ _ hf hw
 unfold zZ
 cases ha:UF P t with
 |true =>
  have:∃ cs,v=.agg cs:=by
   unfold Value.okWide at hv
   unfold UF at ha
   split at hv
   ·obtain⟨cs,h,_⟩:=hv;exact⟨cs,h⟩
   ·obtain⟨cs,h,_⟩:=hv;exact⟨cs,h⟩
   ·split at ha<;>simp_all
  obtain⟨cs,rfl⟩:=this
  exact⟨_,rfl,hfit⟩
 |false =>
  have hc:Cell.okWide P w r b t v:=by
   unfold Value.okWide at hv
   unfold UF at ha
   split at hv
   ·simp_all
   ·simp_all
   ·exact hv
  have:v.cells.toList=[v]∧u6 base.n v=rU base.n v:=by
   cases v with
   |agg cs=>exact(Wz hc).elim
   |_=>exact⟨rfl,rfl⟩
  rw[this.1]at hfit
  rw[this.2]
  exact hfit
theorem UW(hn:base.n=w.heap.size){r:Reach}{b:Nat}{held:Bool}:∀ {ts:List TypeId}{vs:List Value}{ds:List (DataW H)}{ps:List MemPlace},DataW.TrodAll enc P w 0 (fun _=>true) held ts vs ds ps →
  (∀ (j:Nat) t v,ts[j]?=some t→vs[j]?=some v→Value.okWide P w r b t v)→(∀ y∈DataW.weightsEach P ts ds,y≤reachBytes) →
  ∀ (j:Nat) t v,ts[j]?=some t→vs[j]?=some v→zZ P (RM.old base w) t (u6 base.n v)
 |[],_,_,_,_,_,_,j,t,v,h,_=>by simp at h
 |t0::ts,vs,ds,ps,h,hv,hw,j,t,v,hj,hvj=>by
  cases vs with
  |nil=>simp at hvj
  |cons v0 vs =>
  cases ds with
  |nil=>exact h.elim
  |cons d ds =>
  obtain⟨p,q,h1,h2,_⟩:=h
  cases j with
  |zero =>
   simp at hj hvj;subst hj hvj
   exact agI hn (hv 0 _ _ rfl rfl) h1 fun y hy=>hw y (by simp[DataW.weightsEach,hy])
  |succ j =>
   exact UW hn h2 (fun j t v a b=>hv (j+1) t v (by simpa using a) (by simpa using b)) (fun y hy=>hw y (by simp[DataW.weightsEach,hy])) j t v (by simpa using hj) (by simpa using hvj)
theorem Ji(hl:laidOutB P=true){W W' : World}{sp:Nat→Bool}(hb:Below W.heap.size W W'):∀ {ts:List TypeId}{vs:List Value}{ds:List (DataW H)}{ps:List MemPlace},
  (∀ t∈ts,P.readableRec t=true∧t<P.types.size)→DataW.TrodAll enc P W 0 (fun _=>true) true ts vs ds ps→(∀ p∈ps,p.block<W.heap.size)→(∀ p∈ps,sp p.block=true)→DataW.TrodAll enc P W' 0 sp true ts vs ds ps
 |[],vs,ds,ps,_,h,_,_=>by
  cases vs<;>cases ds<;>first|exact h|exact h.elim
 |t::ts,vs,ds,ps,hr,h,hlt,hsp=>by
  cases vs with
  |nil=>cases ds<;>exact h.elim
  |cons v vs =>
  cases ds with
  |nil=>exact h.elim
  |cons d ds =>
  obtain⟨p,q,h1,h2,rfl⟩:=h
  have hrt:=hr t (List.mem_cons_self ..)
  exact⟨p,q,WideElems.Trod_stays hl hrt.1 hrt.2 h1 (fun x hx=>hb.same (hlt x (List.mem_append_left _ hx))) (fun x hx=>hsp x (List.mem_append_left _ hx)),
   Ji hl hb (fun t ht=>hr t (List.mem_cons_of_mem _ ht)) h2 (fun x hx=>hlt x (List.mem_append_right _ hx)) (fun x hx=>hsp x (List.mem_append_right _ hx)),rfl⟩
end
def RB.cells(lo:Nat):RB→Option (List AV)
 |.row l _ _ _=>some l
 |.ro c=>some (c.toList.map (rU lo))
 |_=>none
@[go_sem] theorem RB.Dn(lo:Nat)(l:List AV)(p:Bool)(e f:Nat):RB.cells lo (.row l p e f)=some l:=rfl
theorem RM.Iu(M:RM)(b:Nat):M.cells b=(M.heap b).bind (RB.cells M.lo):=by
 unfold RM.cells RB.cells
 cases M.heap b with
 |none=>rfl
 |some x=>cases x<;>rfl
def AP(l:Option (List AV))(o k:Nat):Option (List AV) :=
 match l with
 |some l=>if o+k≤l.length then some ((l.drop o).take k)else none
 |none=>none
@[go_sem] theorem arP(l:List AV)(o k:Nat):AP (some l) o k=if o+k≤l.length then some ((l.drop o).take k)else none:=rfl
theorem RM.MM(M:RM)(b o k:Nat):M.loads b o k=AP (M.cells b) o k:=rfl
section
variable {M M' : RM}
@[go_sem] theorem RM.afV(x:RB)(c:Nat):(M.push x).heap c=if c=M.next then some x else M.heap c:=rfl
@[go_sem] theorem RM.heap_put(b:Nat)(x:RB)(c:Nat):(M.put b x).heap c=if c=b then some x else M.heap c:=rfl
@[go_sem] theorem RM.avJ(b:Nat)(c:Nat):(M.del b).heap c=if c=b then none else M.heap c:=rfl
@[go_sem] theorem RM.atg(x:RB):(M.push x).base=M.base:=rfl
@[go_sem] theorem RM.awg(b:Nat)(x:RB):(M.put b x).base=M.base:=rfl
@[go_sem] theorem RM.aAT(b:Nat):(M.del b).base=M.base:=rfl
theorem RM.Pm(x:RB)(c:Nat):(M.push x).cells c=if c=M.next then x.cells M.lo else M.cells c:=by
 simp only[RM.Iu,RM.afV]
 split<;>rfl
theorem RM.RP(b:Nat)(x:RB)(c:Nat):(M.put b x).cells c=if c=b then x.cells M.lo else M.cells c:=by
 simp only[RM.Iu,RM.heap_put]
 split<;>rfl
@[go_sem] theorem RM.atw(x:RB)(c o:Nat):(M.push x).cell c o=if c=M.next then(x.cells M.lo).bind (·[o]?)else M.cell c o:=by
 simp only[RM.cell,RM.Pm]
 split<;>rfl
@[go_sem] theorem RM.aCX(b:Nat)(x:RB)(c o:Nat):(M.put b x).cell c o=if c=b then(x.cells M.lo).bind (·[o]?)else M.cell c o:=by
 simp only[RM.cell,RM.RP]
 split<;>rfl
@[go_sem] theorem RM.ar9(x:RB)(c o k:Nat):(M.push x).loads c o k=if c=M.next then AP (x.cells M.lo) o k else M.loads c o k:=by
 simp only[RM.MM,RM.Pm]
 split<;>rfl
@[go_sem] theorem RM.aug(b:Nat)(x:RB)(c o k:Nat):(M.put b x).loads c o k=if c=b then AP (x.cells M.lo) o k else M.loads c o k:=by
 simp only[RM.MM,RM.RP]
 split<;>rfl
def qa(l:List AV)(fz o:Nat)(vs:List AV):Option (List AV) :=
 if o+vs.length≤l.length∧fz≤o∧vs.all oneCell=true then some (l.take o++vs++l.drop (o+vs.length))else none
theorem BU{l vs:List AV}{fz o:Nat}(h1:o+vs.length≤l.length)(h2:fz≤o)(h3:vs.all oneCell=true):qa l fz o vs=some (l.take o++vs++l.drop (o+vs.length)):=if_pos ⟨h1,h2,h3⟩
@[go_sem] theorem Tv{l vs:List AV}(h:vs.length=l.length)(h3:vs.all oneCell=true):qa l 0 0 vs=some vs:=by
 rw[BU (by omega) (Nat.le_refl _) h3]
 simp[h]
theorem RM.Dy{b o:Nat}{vs l:List AV}{p:Bool}{e f:Nat}(h:M.heap b=some (.row l p e f)):M.stores b o vs=(qa l f o vs).map fun l'=>M.put b (.row l' p e f):=by
 simp only[RM.stores,h,qa]
 split<;>rfl
theorem RM.aiZ{x y:RB}:(M.push x).put M.next y=M.push y:=by
 simp only[RM.put,RM.push]
 congr 1
 funext c
 split<;>rfl
theorem RM.Vy{x y:RB}{b:Nat}(hb:b≠M.next):(M.push x).put b y=(M.put b y).push x:=by
 simp only[RM.put,RM.push]
 congr 1
 funext c
 by_cases h1:c=b
 ·subst h1;simp[hb]
 ·simp[h1]
theorem RM.Pb{l vs:List AV}{p:Bool}{e f o:Nat}:(M.push (.row l p e f)).stores M.next o vs=(qa l f o vs).map fun l'=>M.push (.row l' p e f):=by
 rw[RM.Dy (RM.nL _)]
 congr 1
 funext l'
 exact RM.aiZ
theorem RM.PU{M:RM}{b o:Nat}{vs:List AV}:M.stores b o vs=match M.heap b with
  |some (.row l p e f)=>(qa l f o vs).map fun l'=>M.put b (.row l' p e f)
  |_=>none:=by
 cases h:M.heap b with
 |none=>simp[RM.stores,h]
 |some x =>
  cases x with
  |row l p e f=>rw[RM.Dy h]
  |_=>simp[RM.stores,h]
@[go_sem] theorem RM.PX{x:RB}{vs:List AV}{c o:Nat}(hc:c≠M.next):(M.push x).stores c o vs=(M.stores c o vs).map (·.push x):=by
 rw[RM.PU,RM.PU,RM.ahF hc]
 split
 ·simp only[Option.map_map]
  congr 1
  funext l'
  exact RM.Vy hc
 ·rfl
@[go_sem] theorem RM.arO{l vs:List AV}{p:Bool}{e f c o:Nat}:(M.push (.row l p e f)).stores c o vs =
  if c=M.next then(qa l f o vs).map fun l'=>M.push (.row l' p e f)else(M.stores c o vs).map (·.push (.row l p e f)):=by
 split
 ·rename_i h;subst h;exact RM.Pb
 ·rename_i h;exact RM.PX h
@[go_sem] theorem RM.aj1{b o:Nat}{l vs:List AV}{p:Bool}{e f:Nat}:(M.put b (.row l p e f)).stores b o vs=(qa l f o vs).map fun l'=>M.put b (.row l' p e f):=by
 rw[RM.Dy (RM.nz _ _)]
 congr 1
 funext l'
 simp only[RM.put]
 congr 1
 funext c
 split<;>rfl
@[go_sem] theorem QJ{α:Type}(a:α)(K:α→Prop):(∃ x,some a=some x∧K x)=K a:=by simp
@[go_sem] theorem arS{α β:Type}(f:α→β)(x:α):(some x).map f=some (f x):=rfl
attribute [go_sem] Int.natCast_nonneg Int.toNat_natCast Nat.mul_one true_implies false_implies Bool.false_eq_true Bool.true_eq_false Bool.not_true Bool.not_false Bool.and_self Bool.and_true Bool.true_and Nat.le_refl List.append_nil List.nil_append if_true if_false Nat.lt_irrefl Nat.add_one_ne_zero true_and and_true Nat.zero_add Nat.add_zero List.drop_zero List.getElem?_cons_zero List.getElem?_cons_succ Option.bind_some List.take_succ_cons List.take_zero List.drop_succ_cons List.drop_nil List.take_nil
attribute [go_sem] Bj List.all_cons List.all_nil List.length_cons List.length_nil
@[go_sem] theorem atx(cs:List AV):(AV.agg cs).cells=cs:=rfl
@[go_sem] theorem aDP(v:Value):(AV.sc v).cells=[.sc v]:=rfl
@[go_sem] theorem atD(b o:Nat):(AV.ptr b o).cells=[.ptr b o]:=rfl
@[go_sem] theorem atG(b o n:Nat)(c:Cap):(AV.slc b o n c).cells=[.slc b o n c]:=rfl
@[go_sem] theorem ate(b:Nat):(AV.emp b).cells=[.emp b]:=rfl
@[go_sem] theorem atF(b:Nat):(AV.map b).cells=[.map b]:=rfl
@[go_sem] theorem aEe(f:Fn)(xs ys:List AV):(AV.fn f xs ys).cells=[.fn f xs ys]:=rfl
@[go_sem] theorem aEx(v:Value):oneCell (.sc v)=true:=rfl
@[go_sem] theorem aEh(b o:Nat):oneCell (.ptr b o)=true:=rfl
@[go_sem] theorem aEg(b o n:Nat)(c:Cap):oneCell (.slc b o n c)=true:=rfl
@[go_sem] theorem aEi(b:Nat):oneCell (.emp b)=true:=rfl
@[go_sem] theorem aEm(b:Nat):oneCell (.map b)=true:=rfl
@[go_sem] theorem aEX(f:Fn)(xs ys:List AV):oneCell (.fn f xs ys)=true:=rfl
end
theorem RM.aiV{M:RM}{b:Nat}{l:List AV}{p:Bool}{e f:Nat}(h:M.heap b=some (.row l p e f))(o k:Nat):M.loads b o k=AP (some l) o k:=by rw[RM.MM,RM.Dn h]
theorem RM.cell_of{M:RM}{b:Nat}{l:List AV}{p:Bool}{e f:Nat}(h:M.heap b=some (.row l p e f))(o:Nat):M.cell b o=l[o]?:=RM.ahg h
theorem RM.Kg{M:RM}{b:Nat}{l:List AV}{p:Bool}{e f:Nat}(h:M.heap b=some (.row l p e f))(o:Nat)(vs:List AV):M.stores b o vs=(qa l f o vs).map fun l'=>M.put b (.row l' p e f):=RM.Dy h
theorem ah.aV{bs:List Nat}{M M' : RM}(h:ah bs M M'){b:Nat}{x:RB}(hh:M.heap b=some x)(hlt:b<M.next)(hb:b∉bs):M'.heap b=some x:=by rw[h.heap b hlt hb,hh]
inductive Ans where
 |val (v:AV)
 |rows (n:Nat) (v:AV) (bs:List (Nat×mY)) (n' : Nat)
structure Ent where
 args:List AV
 fp:List (Nat×mY):=[]
 dead:List Nat:=[]
 nx:Nat:=0
 ans:Ans
def FL:List Nat→Nat→Bool
 |[],_=>false
 |k::ks,b=>match Nat.beq k b with
  |true=>true
  |false=>FL ks b
mutual
def within(ks:List Nat):AV→Bool
 |.sc _|.top|.atl _=>true
 |.ptr b _|.slc b _ _ _|.emp b|.map b=>FL ks b
 |.fn _ xs ys=>Lh ks xs&&Lh ks ys
 |.ifc _ x=>within ks x
 |.agg xs|.tup xs=>Lh ks xs
def Lh(ks:List Nat):List AV→Bool
 |[]=>true
 |x::xs=>within ks x&&Lh ks xs
end
section
variable {P:Program} {X:Ext}
def only(ρ:Ren)(ks:List Nat):Ren:=fun b=>if b∈ks then ρ b else none
open Go.WideShapes Go.ChangeShapes in
open Go.WideShapes Go.ChangeShapes in
end
structure Enc(α:Type) where
 size:Nat
 cells:α→List AV
 len:∀ a,(cells a).length=size
 one:∀ a,(cells a).all oneCell=true
section
variable {α:Type} (E:Enc α)
def Enc.row(xs:List α):List AV:=xs.flatMap E.cells
theorem Enc.pE(x:α)(xs:List α):E.row (x::xs)=E.cells x++E.row xs:=rfl
theorem Enc.G8(xs ys:List α):E.row (xs++ys)=E.row xs++E.row ys:=by simp[Enc.row]
theorem Enc.row_one(x:α):E.row [x]=E.cells x:=by simp[Enc.row]
theorem Enc.ig:∀ (xs:List α),(E.row xs).length=xs.length*E.size
 |[]=>by simp[Enc.row]
 |x::xs=>by rw[Enc.pE,List.length_append,E.len,Enc.ig xs,List.length_cons,Nat.succ_mul,Nat.add_comm]
theorem Enc.jC:∀ (xs:List α),(E.row xs).all oneCell=true
 |[]=>by simp[Enc.row]
 |x::xs=>by rw[Enc.pE,List.all_append,E.one,Enc.jC xs];rfl
theorem Enc.vZ:∀ (xs:List α)(i:Nat),(E.row xs).drop (i*E.size)=E.row (xs.drop i)
 |[],i=>by simp[Enc.row]
 |x::xs,0=>by simp
 |x::xs,i+1=>by
  rw[Enc.pE,Nat.succ_mul,Nat.add_comm,← List.drop_drop,List.drop_left' (E.len x),Enc.vZ xs i]
  rfl
theorem Enc.A9:∀ (xs:List α)(i:Nat),(E.row xs).take (i*E.size)=E.row (xs.take i)
 |[],i=>by simp[Enc.row]
 |x::xs,0=>by simp[Enc.row]
 |x::xs,i+1=>by
  rw[Enc.pE,Nat.succ_mul,Nat.add_comm,List.take_append,List.take_of_length_le (by rw[E.len];omega),E.len,Nat.add_sub_cancel_left,Enc.A9 xs i]
  rfl
theorem Enc.QC{xs:List α}{i:Nat}(hi:i<xs.length):((E.row xs).drop (i*E.size)).take E.size=E.cells xs[i]:=by
 rw[Enc.vZ,List.drop_eq_getElem_cons hi,Enc.pE]
 rw[List.take_append_of_le_length (by rw[E.len];exact Nat.le_refl _),List.take_of_length_le (by rw[E.len];exact Nat.le_refl _)]
abbrev Sl(M:RM)(v:AV)(xs:List α):Prop:=aW M E.size v (E.row xs) xs.length
abbrev Ow(M:RM)(base el:Nat)(v:AV)(xs:List α):Prop:=Own M base el E.size v (E.row xs) xs.length
variable {E} {M M' : RM} {v:AV} {xs:List α}
theorem Sl.elem(h:Sl E M v xs){i:Nat}(hi:i<xs.length):∃ b o,b<M.next∧b∈aJ v∧(∀ (kd:IntKind)(K:AV→Prop),ed v (N kd (i:Int)) E.size K=K (.ptr b o))∧M.loads b o E.size=some (E.cells xs[i]):=by
 obtain⟨b,o,cap,rfl,hb,hl⟩:=h.pos (by omega)
 have hsum:i*E.size+E.size≤xs.length*E.size:=by rw[← Nat.succ_mul];exact Nat.mul_le_mul_right _ hi
 refine⟨b,o+i*E.size,hb,by simp[aJ],fun kd K=>?_, ?_⟩
 ·rw[Gl]
  simp only[Int.toNat_natCast]
  exact propext ⟨fun h=>h.2.2,fun h=>⟨by omega,by omega,h⟩⟩
 ·rw[lh hl (i*E.size) E.size hsum,E.QC hi]
theorem Sl.at(h:Sl E M v xs){i:Nat}(sz:Nat)(j:Int)(hi:i<xs.length)(hsz:E.size=sz:=by rfl)(hj:j=(i:Int):=by rfl):∃ b o,b<M.next∧b∈aJ v∧(∀ (kd:IntKind)(K:AV→Prop),ed v (N kd j) sz K=K (.ptr b o))∧M.loads b o sz=some (E.cells xs[i]):=by
 subst hsz hj;exact h.elem hi
theorem Tj{b o k:Nat}{cs:List AV}(h:M.loads b o k=some cs){j:Nat}{x:AV}(hj:cs[j]?=some x):M.cell b (o+j)=some x:=by
 have hlt:j<k:=by rw[← lv h];exact(List.getElem?_eq_some_iff.1 hj).1
 rw[afT h j hlt,hj]
theorem FU{b o k:Nat}{cs:List AV}(h:M.loads b o k=some cs){x:AV}(hj:cs[0]?=some x):M.cell b o=some x:=Tj h hj
theorem Fa{base T bytes:Nat}{zs:List AV}{u:AV}{ys:List α}{K:aj}(ho:Ow E M base T v xs)(hb:base≤M.next)(hs:1≤E.size)(hu:Sl E M u ys)
  (hn:(xs.length+ys.length)*bytes≤140737488355328) (hn2:xs.length+ys.length≤140737488355328)
  (hK:∀ v' M',Ow E M' base T v' (xs++ys)→ah (aJ v) M M'→M.next≤M'.next→(v'=v∨∀ b∈aJ v',M.next≤b)→K v' M') :
  appW T E.size bytes zs false v u M K:=by
 refine sZ ho hb hs (aW.kP hu _) (E.ig ys) (E.jC ys) hn hn2 ?_
 intro v' M' h1 h2 h3 h4
 refine hK v' M' ?_ h2 h3 h4
 rw[← E.G8]at h1
 simpa [Ow]using h1
theorem abb{b o k:Nat}{cs:List AV}(h:M.loads b o k=some cs)(m:Nat)(hm:m≤k):M.loads b o m=some (cs.take m):=lh h 0 m (by omega)
theorem Sl.new{T c:Nat}{p:Bool}(ys:List α):Sl E (M.push (.row (E.row ys) p T 0)) (.slc M.next 0 ys.length (.ex c)) ys :=
 .slc _ _ _ _ _ (by simp[RM.push]) (by rw[RM.gW (RM.nL _) (by rw[E.ig];omega),List.drop_zero,← E.ig,List.take_length])
theorem F7{base T bytes:Nat}{zs:List AV}{a:α}{K:aj}(ho:Ow E M base T v xs)(hb:base≤M.next)(hs:1≤E.size)
  (hn:(xs.length+1)*bytes≤140737488355328) (hn2:xs.length+1≤140737488355328)
  (hK:∀ v' M',Ow E M' base T v' (xs++[a])→ah (aJ v) M M'→M.next≤M'.next→(v'=v∨∀ b∈aJ v',M.next≤b)→K v' M') :
  appW T E.size bytes zs false v (.slc M.next 0 1 (.ex 1)) (M.push (.row (E.cells a) false T 0)) K:=by
 have hk:ah [] M (M.push (.row (E.cells a) false T 0)):=(ah.refl _ _).push _
 refine Fa (ys:=[a]) (Own.keep ho hk (by simp)) (Nat.le_trans hb hk.next) hs (by rw[← E.row_one];exact Sl.new [a]) hn hn2 ?_
 intro v' M' h1 h2 h3 h4
 exact hK v' M' h1 ((hk.mono (by simp)).trans h2) (Nat.le_trans hk.next h3) (h4.imp id fun h b hb=>Nat.le_trans hk.next (h b hb))
@[go_sem] theorem aki{T:Nat}{zs:List AV}{K:RB→(Nat→AV)→Prop}:jN T 0 zs [] K=K (.row [] false T 0) (fun b=>.slc b 0 0 (.ex 0)):=by
 apply propext;unfold jN
 constructor
 ·rintro⟨l,h,hk⟩;cases h;exact hk
 ·intro hk;exact⟨_,rfl,hk⟩
theorem Ot{T size:Nat}{zs:List AV}{x:AV}{K:RB→(Nat→AV)→Prop}(h:x.cells.length=size)(h1:x.cells.all oneCell=true)(hz:zs.length=size) :
  jN T 1 zs [(0,size,x)] K=K (.row x.cells false T 0) (fun b=>.slc b 0 1 (.ex 1)):=by
 have:wH (eu zs 1) [(0,size,x)]=some x.cells:=by
  simp only[wH,eu,List.append_nil,h1,h,Nat.zero_add,hz,Nat.le_refl,and_self,if_true,List.take_zero,List.nil_append]
  rw[List.drop_of_length_le (by omega),List.append_nil]
 apply propext;unfold jN
 constructor
 ·rintro⟨l,h,hk⟩;rw[this]at h;cases h;exact hk
 ·intro hk;exact⟨_,this,hk⟩
theorem Ow.lit(E:Enc α){T:Nat}(M:RM):Ow E (M.push (.row [] false T 0)) M.next T (.slc M.next 0 0 (.ex 0)) []:=Own.lit M (Nat.le_refl _)
theorem rQ{i:Nat}(h:i<9223372036854775807):IntKind.wrap .i64 ((i:Int)+1)=((i+1:Nat):Int):=by
 rw[bM (by omega) (by omega)];rfl
end
@[go_sem] theorem arU:df [] [] []=some true:=rfl
@[go_sem] theorem asA(ks:List Nat)(k:IntKind)(a b:Int)(xs ys:List AV):df (1::ks) (N k a::xs) (N k b::ys)=if a=b then df ks xs ys else some false:=by
 simp only[df,mo,if_true]
 by_cases h:a=b
 ·simp[h]
 ·have:(a==b)=false:=by simp[h]
  simp[this,h]
@[go_sem] theorem ar8(ks:List Nat)(a b:List UInt8)(xs ys:List AV):df (2::ks) (St a::xs) (St b::ys)=if a=b then df ks xs ys else some false:=by
 simp only[df,mo]
 by_cases h:a=b
 ·simp[h]
 ·have:(a==b)=false:=by simp[h]
  simp[this,h]
@[go_sem] theorem arR(ks:List Nat)(a b:Bool)(xs ys:List AV):df (3::ks) (Bo a::xs) (Bo b::ys)=if a=b then df ks xs ys else some false:=by
 simp only[df,mo]
 by_cases h:a=b
 ·simp[h]
 ·have:(a==b)=false:=by simp[h]
  simp[this,h]
theorem dW(x:AV)(w:Bool)(f g:aj→Prop)(F G:AV→RM→aj→Prop)(k:aj) :
  af x w f g (fun v M=>af x w (F v M) (G v M) k)=af x w (fun k'=>f fun v M=>F v M k') (fun k'=>g fun v M=>G v M k') k:=by
 unfold af kC
 split
 ·split<;>simp_all
 ·rfl
 ·rfl
theorem akv(x:AV)(w:Bool)(f g:KR→Prop)(F G:AV→RM→Option Nat→KR→Prop)(k:KR) :
  iH x w f g (fun v M b=>iH x w (F v M b) (G v M b) k)=iH x w (fun k'=>f fun v M b=>F v M b k') (fun k'=>g fun v M b=>G v M b k') k:=by
 unfold iH kC
 split
 ·split<;>simp_all
 ·rfl
 ·rfl
theorem ae3(x:AV)(w:Bool)(f g:KR→Prop)(F G:AV→RM→Option Nat→aj→Prop)(k:aj) :
  iH x w f g (fun v M b=>af x w (F v M b) (G v M b) k)=af x w (fun k'=>f fun v M b=>F v M b k') (fun k'=>g fun v M b=>G v M b k') k:=by
 unfold iH af kC
 split
 ·split<;>simp_all
 ·rfl
 ·rfl
theorem aeG(x:AV)(w:Bool)(f g:aj→Prop)(F G:AV→RM→KR→Prop)(k:KR) :
  af x w f g (fun v M=>iH x w (F v M) (G v M) k)=iH x w (fun k'=>f fun v M=>F v M k') (fun k'=>g fun v M=>G v M k') k:=by
 unfold iH af kC
 split
 ·split<;>simp_all
 ·rfl
 ·rfl
theorem bU{body:(List AV→RM→Prop)→List AV→RM→Prop}{xs:List AV}{M:RM}(I:Nat→List AV→RM→Prop)(n:Nat)(h0:I n xs M)
  (hb:∀ (next:List AV→RM→Prop) m ys M',(∀ m' zs M'',m'<m→I m' zs M''→next zs M'')→I m ys M'→body next ys M'):eY body xs M :=
 ⟨I,n,h0,fun m ys M' hI=>hb _ m ys M' (fun m' zs M'' hlt h=>⟨m',hlt,h⟩) hI⟩
abbrev By(b:UInt8):AV:=N .u8 (b.toNat:Int)
def BY:Enc UInt8:=⟨1,fun b=>[By b],fun _=>rfl,fun _=>rfl⟩
theorem fU(s:List UInt8):BY.row s=s.map By:=by
 induction s with
 |nil=>rfl
 |cons b s ih=>rw[Enc.pE,ih];rfl
def tO:Enc (List UInt8):=⟨1,fun s=>[St s],fun _=>rfl,fun _=>rfl⟩
def U64:Enc Nat:=⟨1,fun n=>[N .u64 (n:Int)],fun _=>rfl,fun _=>rfl⟩
theorem IB:∀ (s:List UInt8),bW byteOf (s.map By)=some s
 |[]=>rfl
 |b::s=>by
  simp only[List.map_cons,bW,byteOf,IB s]
  simp
section
variable {α:Type} {E:Enc α} {M M' : RM} {v:AV} {xs:List α}
theorem Sl.str{s:List UInt8}(h:Sl BY M v s){K:AV→Prop}:kD M v K=K (St s) :=
 YX (aW.qU h (by rw[fU];exact IB s))
theorem Sl.at1(h:Sl E M v xs){i:Nat}(j:Int)(hi:i<xs.length)(hsz:E.size=1:=by rfl)(hj:j=(i:Int):=by rfl) :
  ∃ b o,b<M.next∧b∈aJ v∧(∀ (kd:IntKind)(K:AV→Prop),ed v (N kd j) 1 K=K (.ptr b o))∧∀ x,E.cells xs[i]=[x]→M.cell b o=some x:=by
 obtain⟨b,o,h1,h2,h3,h4⟩:=Sl.at h 1 j hi hsz hj
 exact⟨b,o,h1,h2,h3,fun x hx=>FU h4 (by rw[hx];rfl)⟩
structure Rw(E:Enc α)(M:RM)(b:Nat)(opn:Bool)(el:Nat)(xs:List α):Prop where
 heap:M.heap b=some (.row (E.row xs) opn el 0)
 lt:b<M.next
theorem Rw.sl{b el:Nat}{p:Bool}{cap:Cap}(h:Rw E M b p el xs):Sl E M (.slc b 0 xs.length cap) xs:=by
 refine .slc _ _ _ _ _ h.lt ?_
 rw[RM.gW h.heap (by rw[E.ig];omega),List.drop_zero,← E.ig,List.take_length]
theorem Rw.new{el:Nat}{p:Bool}(M:RM)(xs:List α):Rw E (M.push (.row (E.row xs) p el 0)) M.next p el xs :=
 ⟨RM.nL _,by simp[RM.push]⟩
theorem Rw.load{b el:Nat}{p:Bool}(h:Rw E M b p el xs){i:Nat}(hi:i<xs.length):M.loads b (i*E.size) E.size=some (E.cells xs[i]):=by
 have hsum:i*E.size+E.size≤xs.length*E.size:=by rw[← Nat.succ_mul];exact Nat.mul_le_mul_right _ hi
 rw[RM.gW h.heap (by rw[E.ig];exact hsum),E.QC hi]
theorem Enc.ak7(E:Enc α){xs:List α}{i:Nat}(hi:i<xs.length)(x:α):E.row (xs.set i x)=(E.row xs).take (i*E.size)++E.cells x++(E.row xs).drop (i*E.size+E.size):=by
 rw[E.A9,← Nat.succ_mul,E.vZ,List.set_eq_take_append_cons_drop,if_pos hi,E.G8,E.pE,List.append_assoc]
theorem Rw.store{b el:Nat}{p:Bool}(h:Rw E M b p el xs){i:Nat}(hi:i<xs.length)(x:α) :
  M.stores b (i*E.size) (E.cells x)=some (M.put b (.row (E.row (xs.set i x)) p el 0))∧Rw E (M.put b (.row (E.row (xs.set i x)) p el 0)) b p el (xs.set i x):=by
 have hsum:i*E.size+E.size≤xs.length*E.size:=by rw[← Nat.succ_mul];exact Nat.mul_le_mul_right _ hi
 refine⟨?_,RM.nz _ _,h.lt⟩
 rw[RM.Gg h.heap (by rw[E.len,E.ig];exact hsum) (Nat.zero_le _) (E.one x),E.ak7 hi,E.len]
theorem Rw.au{b el:Nat}{p:Bool}(h:Rw E M b p el xs){i:Nat}(hi:i<xs.length)(hsz:E.size=1:=by rfl){x:AV}(hx:E.cells xs[i]=[x]:=by rfl):M.cell b i=some x:=by
 have:=h.load hi
 rw[hsz,Nat.mul_one]at this
 exact FU this (by rw[hx];rfl)
theorem Rw.aeA{b el:Nat}{p:Bool}(h:Rw E M b p el xs){i:Nat}(hi:i<xs.length)(x:α)(hsz:E.size=1:=by rfl){u:AV}(hx:E.cells x=[u]:=by rfl) :
  M.stores b i [u]=some (M.put b (.row (E.row (xs.set i x)) p el 0))∧Rw E (M.put b (.row (E.row (xs.set i x)) p el 0)) b p el (xs.set i x):=by
 have:=h.store hi x
 rw[hsz,Nat.mul_one,hx]at this
 exact this
end
@[go_sem] theorem sW(el:Nat)(s:List UInt8)(K:RB→(Nat→AV)→Prop):tX el (St s) K=K (.row (BY.row s) true el 0) (fun b=>.slc b 0 s.length (.op 1)):=by
 rw[fU]
 apply propext;unfold tX
 constructor
 ·rintro⟨s',h,hk⟩;cases h;exact hk
 ·intro hk;exact⟨s,rfl,hk⟩
def bO(b:UInt8):UInt8:=if 65≤b.toNat∧b.toNat≤90 then b+32 else b
def low(s:List UInt8):List UInt8:=s.map bO
def MJ(c:aB):Prop:=∀ {M:RM}{s:List UInt8}{Q:aj},s.length<9223372036854775807→(∀ M',ah [] M M'→Q (St (low s)) M')→c [St s] M Q
def upTo(f:UInt8→UInt8)(i:Nat)(s:List UInt8):List UInt8:=(s.take i).map f++s.drop i
theorem aeT(f:UInt8→UInt8)(s:List UInt8):upTo f 0 s=s:=by simp[upTo]
theorem ahz(f:UInt8→UInt8)(s:List UInt8):upTo f s.length s=s.map f:=by simp[upTo]
theorem WA(f:UInt8→UInt8)(i:Nat)(s:List UInt8):(upTo f i s).length=s.length:=by
 simp[upTo];omega
theorem VN(f:UInt8→UInt8){i:Nat}{s:List UInt8}(hi:i<s.length):(upTo f i s)[i]?=some s[i]:=by
 simp only[upTo]
 rw[List.getElem?_append_right (by simp;omega)]
 simp
 rw[Nat.min_eq_left (by omega),Nat.sub_self,Nat.add_zero,List.getElem?_eq_getElem hi]
theorem U3(f:UInt8→UInt8){i:Nat}{s:List UInt8}(hi:i<s.length):(upTo f i s).set i (f s[i])=upTo f (i+1) s:=by
 simp only[upTo]
 have hl:((s.take i).map f).length=i:=by simp;omega
 rw[List.set_append_right _ _ (by omega),hl,Nat.sub_self,List.drop_eq_getElem_cons hi,List.set_cons_zero,List.take_succ_eq_append_getElem hi,List.map_append,List.append_assoc]
 rfl
theorem adU(f:UInt8→UInt8){i:Nat}{s:List UInt8}(hi:i<s.length)(h:f s[i]=s[i]):upTo f (i+1) s=upTo f i s:=by
 rw[← U3 f hi,h]
 apply List.ext_getElem?
 intro j
 rw[List.getElem?_set]
 split
 ·rename_i e;subst e
  rw[VN f hi];simp[WA,hi]
 ·rfl
theorem qX(b:UInt8):b.toNat<256:=b.toNat_lt
theorem Own.one{M:RM}{n el size n0:Nat}{v:AV}{cs:List AV}(h:Own M n0 el size v cs n):oneCell v=true:=by
 cases h<;>rfl
theorem Own.cells{M:RM}{n el size n0:Nat}{v:AV}{cs:List AV}(h:Own M n0 el size v cs n):v.cells=[v]:=by
 cases h<;>rfl
end Go.Ab
set_option maxRecDepth 10000
namespace Go.Ab.Vl
open Go Go.Ab
theorem pV{s:List UInt8}{i:Nat}(hi:i<s.length)(kd:IntKind)(K:AV→Prop):gP (St s) (N kd (i:Int)) K=K (By s[i]):=by
 rw[aam]
 apply propext
 constructor
 ·rintro⟨_,b,hb,hk⟩
  rw[Int.toNat_natCast,List.getElem?_eq_getElem hi]at hb
  cases hb;exact hk
 ·intro hk;exact⟨by omega,s[i],by rw[Int.toNat_natCast,List.getElem?_eq_getElem hi],hk⟩
def anE(d:UInt8):Prop:=d.toNat=92∨d.toNat=44∨d.toNat=59∨d.toNat=58
instance (d:UInt8):Decidable (anE d):=inferInstanceAs (Decidable (_∨_))
def isN(d:UInt8):Prop:=d.toNat=110∨d.toNat=78
instance (d:UInt8):Decidable (isN d):=inferInstanceAs (Decidable (_∨_))
def jd(c:aB):Prop:=∀ {M:RM}{s:List UInt8}{x:UInt8}{Q:aj},Q (N .i64 (Lib.indexByte s x)) M→c [St s,By x] M Q
theorem Rn(l:List UInt8)(x:UInt8):(Lib.indexByte l x≥0)↔x∈l:=by
 induction l with
 |nil=>simp[Lib.indexByte]
 |cons y ys ih =>
  simp only[Lib.indexByte]
  have:=Lib.indexByte_ge ys x
  by_cases h:y=x
  ·subst h;simp
  ·have hb:(y==x)=false:=by simpa using h
   have h' : ¬ x=y:=fun e=>h e.symm
   simp only[hb,List.mem_cons,h',false_or]
   rw[← ih]
   simp
   split<;>omega
def Yz(x:UInt8):List UInt8→List UInt8→Bool→List (List UInt8)
 |[],cur,_=>[cur]
 |c::s,cur,odd=>if c=x∧odd=false then cur::Yz x s [] (decide (c.toNat=92) && !odd)else Yz x s (cur++[c]) (decide (c.toNat=92) && !odd)
def parts(x:UInt8)(s:List UInt8):List (List UInt8):=Yz x s [] false
def VP(T:Nat)(c:aB):Prop:=∀ {M:RM}{s:List UInt8}{x:UInt8}{Q:aj},s.length≤1000000→(∀ v M',Ow tO M' M.next T v (parts x s)→ah [] M M'→Q v M')→c [St s,By x] M Q
theorem jU{s:List UInt8}{l h:Nat}(h1:l≤h)(h2:h≤s.length)(k1 k2:IntKind):dF (St s) (some (N k1 (l:Int))) (some (N k2 (h:Int)))=some (St ((s.drop l).take (h-l))):=by
 simp only[dF,bnd]
 simp[h1,h2]
theorem iD{s:List UInt8}{l:Nat}(h1:l≤s.length)(k1:IntKind):dF (St s) (some (N k1 (l:Int))) none=some (St (s.drop l)):=by
 simp only[dF,bnd]
 simp[h1]
 rw[List.take_of_length_le (by simp)]
set_option maxRecDepth 100000
def rkN(n b0 b1 b2 b3:Nat):Nat:=if Lib.decodeN n b0 b1 b2 b3=(65533,1)then 0 else(Lib.decodeN n b0 b1 b2 b3).2
section
variable {n b0 b1 b2 b3:Nat}
end
def bt(s:List UInt8)(i:Nat):Nat:=(s.getD i 0).toNat
def dec(s:List UInt8):Nat×Nat:=Lib.decodeN s.length (bt s 0) (bt s 1) (bt s 2) (bt s 3)
def rk(s:List UInt8):Nat:=if s=[]then 0 else rkN s.length (bt s 0) (bt s 1) (bt s 2) (bt s 3)
def rs(s:List UInt8):Nat:=if s=[]then 0 else(dec s).2
def acc(v0:Nat)(s:List UInt8):Nat→Nat
 |0=>v0
 |k+1=>64*acc v0 s k+bt s (k+1)-128
theorem KL{x:Int}(h : -9223372036854775808≤x)(k:x<9223372036854775808):IntKind.wrap .i64 x=x:=bM (by omega) (by omega)
set_option maxRecDepth 10000
theorem alQ{s:List UInt8}(h:s≠[]){k:Nat}(hk:1≤k):(s.drop k).length<s.length:=by
 have:=List.length_pos_iff.2 h
 simp;omega
def fmd(s:List UInt8):Bool:=if s=[]then true else if h:rk s=0 then false else fmd (s.drop (rk s)) termination_by s.length decreasing_by exact alQ (by assumption) (by omega)
theorem jy{s:List UInt8}{h:Nat}(h2:h≤s.length)(k2:IntKind):dF (St s) none (some (N k2 (h:Int)))=some (St (s.take h)):=by
 have:=jU (s:=s) (l:=0) (h:=h) (by omega) h2 .i64 k2
 rw[List.drop_zero,Nat.sub_zero]at this;exact this
def strip(s:List UInt8):List UInt8:=if s.drop (s.length-1)=[13]then s.take (s.length-1)else s
def Pj(c:aB):Prop:=∀ {M:RM}{s:List UInt8}{Q:aj},Q (N .i64 (Lib.indexByte s 10)) M→c [St s,St [10]] M Q
def Uh(c:aB):Prop:=∀ {M:RM}{s:List UInt8}{Q:aj},s.length≤1000000000→Q (St (strip s)) M→c [St s,St [13]] M Q
def Wn(c:UInt8):Bool:=(decide (32≤c.toNat)&&decide (c.toNat≠127))||decide (c.toNat=9)
def apL(c:aB):Prop:=∀ {M:RM}{x:UInt8}{Q:aj},Q (Bo (Wn x)) M→c [By x] M Q
def bO(c:UInt8):UInt8:=if 65≤c.toNat∧c.toNat≤90 then UInt8.ofNat (c.toNat+32)else c
def aoz(c:aB):Prop:=∀ {M:RM}{s:List UInt8}{Q:aj},s.length≤1000000000→(∀ M',ah [] M M'→Q (St (s.map bO)) M')→c [St s] M Q
theorem ZO{s:List UInt8}{i:Nat}(hi:i<s.length):((s.take i).map bO).length=i:=by simp;omega
theorem aim{s:List UInt8}{i:Nat}(hi:i<s.length)(x:UInt8):((s.take i).map bO++s.drop i).set i x=(s.take i).map bO++x::s.drop (i+1):=by
 have hl:=ZO hi
 rw[List.drop_eq_getElem_cons hi,List.set_append_right _ _ (by omega),hl,Nat.sub_self,List.set_cons_zero]
theorem Xd{s:List UInt8}{i:Nat}(hi:i<s.length):(s.take (i+1)).map bO++s.drop (i+1)=(s.take i).map bO++bO s[i]::s.drop (i+1):=by
 rw[List.take_succ_eq_append_getElem hi,List.map_append,List.append_assoc]
 rfl
theorem ali{s:List UInt8}{i:Nat}(hi:i<s.length)(h:i<((s.take i).map bO++s.drop i).length):((s.take i).map bO++s.drop i)[i]=s[i]:=by
 have hl:=ZO hi
 rw[List.getElem_append_right (by omega)]
 simp only[hl,Nat.sub_self,List.getElem_drop,Nat.add_zero]
theorem PK{T8:Nat}:aoz fun args M Q=>∃ a0,args=[a0]∧IX T8 a0 M Q:=by
 intro M s Q hl hQ
 refine⟨_,rfl, ?_⟩
 unfold IX
 simp only[dW,bL,sW,oK]
 have hk1:ah [] M (M.push (.row (BY.row s) true T8 0)):=(ah.refl _ _).push _
 have hr1:Rw BY (M.push (.row (BY.row s) true T8 0)) M.next true T8 s:=Rw.new M s
 generalize M.push (.row (BY.row s) true T8 0)=M1 at *
 refine bU (fun m ys M3=>∃ i:Nat,m=s.length-i∧ys=[N .i64 i]∧i≤s.length∧Rw BY M3 M.next true T8 ((s.take i).map bO++s.drop i)∧ah [] M M3) _
  ⟨0,rfl,rfl,Nat.zero_le _,by simpa using hr1,hk1⟩ ?_
 rintro next m ys M3 hnext ⟨i,rfl,rfl,hi,hR,hK⟩
 simp only[go_sem]
 refine⟨fun hlt=>?_,fun hge=>?_⟩
 ·have hlt:i<s.length:=by simpa using hlt
  have hlen:i<((s.take i).map bO++s.drop i).length:=by simp;omega
  have hc:=hR.au hlen
  have w1:=rQ (show i<9223372036854775807 by omega)
  rw[ali hlt hlen]at hc
  refine⟨by omega,_,hc, ?_⟩
  have same:bO s[i]=s[i]→next [N .i64 ((i+1:Nat):Int)] M3:=fun h=>by
   refine hnext _ _ _ (by omega) ⟨i+1,rfl,rfl,by omega, ?_,hK⟩
   rw[Xd hlt,h,← List.drop_eq_getElem_cons hlt]
   exact hR
  have cb:=qX s[i]
  simp only[w1]
  by_cases h1:65≤s[i].toNat
  ·have e1:((s[i].toNat:Int)≥65):=by omega
   by_cases h2:s[i].toNat≤90
   ·have e2:((s[i].toNat:Int)≤90):=by omega
    have hlow:bO s[i]=UInt8.ofNat (s[i].toNat+32):=by rw[bO,if_pos ⟨h1,h2⟩]
    have wv:N IntKind.u8 (IntKind.u8.wrap (IntKind.u8.wrap ((s[i].toNat:Int)+97)-65))=By (bO s[i]):=by
     rw[hlow,By,xV,Nat.mod_eq_of_lt (by omega)]
     congr 1
     rw[show IntKind.u8.wrap ((s[i].toNat:Int)+97)=(s[i].toNat:Int)+97 from ji (by omega) (by omega)]
     rw[ji (by omega) (by omega)];omega
    obtain⟨hs,hR'⟩:=hR.aeA hlen (bO s[i])
    simp only[e1,e2,decide_true,go_sem]
    rw[aim hlt]at hs hR'
    refine⟨by omega,_,(congrArg (fun x=>M3.stores M.next i [x]) wv).trans hs, ?_⟩
    refine hnext _ _ _ (by omega) ⟨i+1,rfl,rfl,by omega, ?_,hK.put _ (.inl (Nat.le_refl _))⟩
    rw[Xd hlt]
    exact hR'
   ·have e2:¬ ((s[i].toNat:Int)≤90):=by omega
    simp only[e1,e2,decide_true,decide_false,go_sem]
    exact same (by rw[bO,if_neg (by omega)])
  ·have e1:¬ ((s[i].toNat:Int)≥65):=by omega
   simp only[e1,decide_false,go_sem]
   exact same (by rw[bO,if_neg (by omega)])
 ·have:i=s.length:=by simp at hge;omega
  subst this
  rw[List.take_length,List.drop_length,List.append_nil]at hR
  have:=hR.sl (cap:=.op 1)
  rw[List.length_map]at this
  rw[Sl.str this]
  exact hQ M3 hK
def aoH(B:Base)(c:aB):Prop:=∀ {M:RM}{s:List UInt8}{Q:aj},M.base=B→s.length≤1000000000→Q (Bo (fmd s)) M→c [St s] M Q
def okB(x:List UInt8)(c:UInt8):Bool:=Wn c && !(decide (c∈x))
def Ui(x s:List UInt8):Bool:=s.all (okB x)&&fmd s
def aba(B:Base)(c:aB):Prop:=∀ {M:RM}{s x:List UInt8}{Q:aj},M.base=B→s.length≤1000000000→(∀ M',ah [] M M'→Q (Bo (Ui x s)) M')→c [St s,St x] M Q
theorem EH{B:Base}{T8:Nat}{cp ci cv:aB}(hp:apL cp)(hi:jd ci)(hv:aoH B cv):aba B fun args M Q=>∃ a0 a1,args=[a0,a1]∧zF T8 cp ci cv a0 a1 M Q:=by
 intro M s x Q hM hl hQ
 refine⟨_,_,rfl, ?_⟩
 unfold zF
 simp only[dW,bL,sW,oK]
 have hk1:ah [] M (M.push (.row (BY.row s) true T8 0)):=(ah.refl _ _).push _
 have hr1:Rw BY (M.push (.row (BY.row s) true T8 0)) M.next true T8 s:=Rw.new M s
 generalize M.push (.row (BY.row s) true T8 0)=M1 at *
 refine bU (fun m ys M3=>M3=M1∧∃ i:Nat,m=s.length-i∧ys=[N .i64 i]∧i≤s.length∧(s.take i).all (okB x)=true) _
  ⟨rfl,0,rfl,rfl,Nat.zero_le _,by simp⟩ ?_
 rintro next m ys M3 hnext ⟨hM3,i,rfl,rfl,hile,hall⟩
 subst hM3
 simp only[go_sem]
 refine⟨fun hlt=>?_,fun hge=>?_⟩
 ·have hlt:i<s.length:=by simpa using hlt
  have hc:=hr1.au hlt
  have htk:=List.take_succ_eq_append_getElem hlt
  have hmem:=List.getElem_mem hlt
  generalize s[i]=c at *
  have w1:=rQ (show i<9223372036854775807 by omega)
  have bad:okB x c=false→Q (Bo false) M3:=fun h=>by
   have:Ui x s=false:=by
    have h2:s.all (okB x)=false:=by
     rw[List.all_eq_false]
     exact⟨c,hmem,by rw[h];simp⟩
    rw[Ui,h2];rfl
   rw[← this];exact hQ M3 hk1
  have good:okB x c=true→next [N .i64 ((i+1:Nat):Int)] M3:=fun h=>by
   refine hnext _ _ _ (by omega) ⟨rfl,i+1,rfl,rfl,by omega, ?_⟩
   rw[htk,List.all_append,hall]
   simp[h]
  refine⟨by omega,By c,hc,hp ?_⟩
  cases hpl:Wn c with
  |false =>
   simp only[go_sem]
   exact bad (by simp[okB,hpl])
  |true =>
   simp only[go_sem]
   refine hi ?_
   have hge:=Rn x c
   by_cases hcx:c∈x
   ·have e1:decide (Lib.indexByte x c≥0)=true:=decide_eq_true (hge.2 hcx)
    simp only[go_sem,e1]
    exact bad (by simp[okB,hcx])
   ·have e1:decide (Lib.indexByte x c≥0)=false:=decide_eq_false fun h=>hcx (hge.1 h)
    simp only[go_sem,e1,w1]
    exact good (by simp[okB,hcx,hpl])
 ·have:i=s.length:=by simp at hge;omega
  subst this
  rw[List.take_length]at hall
  refine hv (by rw[hk1.base,hM]) hl ?_
  have:=hQ M3 hk1
  rw[Ui,hall,Bool.true_and]at this
  exact this
def azW:List UInt8:=[97,98,99,100,101,102,103,104,105,106,107,108,109,110,111,112,113,114,115,116,117,118,119,120,121,122,48,49,50,51,52,53,54,55,56,57,45]
def ahj(B:Base)(f:List UInt8→List UInt8)(c:aB):Prop:=∀ {M:RM}{s:List UInt8}{Q:aj},M.base=B→s.length≤1000000000→(∀ M',ah [] M M'→Q (St (f s)) M')→c [St s,St azW] M Q
def aku(f:List UInt8→List UInt8)(s:List UInt8):Bool:=decide (1≤s.length)&&decide (s.length≤20)&&(f s == [])
def aeW(B:Base)(f:List UInt8→List UInt8)(c:aB):Prop:=∀ {M:RM}{s:List UInt8}{Q:aj},M.base=B→s.length≤1000000000→(∀ M',ah [] M M'→Q (Bo (aku f s)) M')→c [St s] M Q
theorem IZ{B:Base}{f:List UInt8→List UInt8}{ct:aB}(ht:ahj B f ct):aeW B f fun args M Q=>∃ a0,args=[a0]∧Bf ct a0 M Q:=by
 intro M s Q hM hl hQ
 refine⟨_,rfl, ?_⟩
 unfold Bf
 simp only[dW]
 rw[mX,fe]
 unfold aku at hQ
 by_cases h1:1≤s.length
 ·have e1:decide ((s.length:Int)≥1)=true:=by simp;omega
  rw[e1]
  by_cases h2:s.length≤20
  ·have e2:decide ((s.length:Int)≤20)=true:=by simp;omega
   simp only[go_sem,e2]
   refine ht hM hl fun M1 k1=>?_
   simp only[go_sem]
   have:=hQ M1 k1
   simpa [h1,h2]using this
  ·have e2:decide ((s.length:Int)≤20)=false:=by simp;omega
   simp only[go_sem,e2]
   simpa [h1,h2]using hQ M (ah.refl _ _)
 ·have e1:decide ((s.length:Int)≥1)=false:=by simp;omega
  rw[e1]
  simp only[go_sem]
  simpa [h1]using hQ M (ah.refl _ _)
def brk(x:UInt8):List UInt8→Option (List UInt8×List UInt8)
 |[]=>none
 |c::t=>if c=x then some ([],t)else(brk x t).map fun p=>(c::p.1,p.2)
theorem EN(x:UInt8):∀ s:List UInt8,(brk x s=none∧Lib.indexByte s x=-1∧x∉s)∨∃ a b,brk x s=some (a,b)∧Lib.indexByte s x=(a.length:Int)∧s=a++x::b∧x∉a
 |[]=>.inl ⟨rfl,rfl,by simp⟩
 |c::t=>by
  by_cases h:c=x
  ·subst h
   exact .inr ⟨[],t,by simp[brk],by simp[Lib.indexByte],rfl,by simp⟩
  ·have hc:(c==x)=false:=by simpa using h
   rcases EN x t with⟨h1,h2,h4⟩|⟨a,b,h1,h2,h3,h4⟩
   ·exact .inl ⟨by simp[brk,h,h1],by simp[Lib.indexByte,hc,h2],by simp[h4,Ne.symm h]⟩
   ·refine .inr ⟨c::a,b,by simp[brk,h,h1], ?_,by rw[h3];rfl,by simp[h4,Ne.symm h]⟩
    have:((a.length:Int) == -1)=false:=by simp
    simp[Lib.indexByte,hc,h2,this]
def Fz(x:UInt8)(c:aB):Prop:=∀ {M:RM}{s:List UInt8}{Q:aj},Q (N .i64 (Lib.indexByte s x)) M→c [St s,St [x]] M Q
theorem Mg{x:UInt8}{ci xx c1 c2:aB}(hi:jd ci):Fz x fun args M Q=>∃ a0 a1,args=[a0,a1]∧dM ci xx c1 c2 a0 a1 M Q:=by
 intro M s Q hQ
 refine⟨_,_,rfl, ?_⟩
 unfold dM
 rw[mX,fZ,show((([x]:List UInt8).length:Int)==0)=false from rfl]
 simp only[dW]
 by_cases h:[x]=s
 ·subst h
  have:Lib.indexByte [x] x=0:=by simp[Lib.indexByte]
  rw[this]at hQ
  simp only[go_sem,beq_self_eq_true]
  exact hQ
 ·have h' : (([x]:List UInt8)==s)=false:=by simp[h]
  simp only[go_sem,h']
  exact⟨fun _=>⟨by omega,x,rfl,hi hQ⟩,fun h=>absurd h (by decide)⟩
def wR(x:UInt8)(s:List UInt8):AV:=match brk x s with
 |some (a,b)=>.tup [St a,St b,Bo true]
 |none=>.tup [St s,St [],Bo false]
def ow(x:UInt8)(c:aB):Prop:=∀ {M:RM}{s:List UInt8}{Q:aj},s.length≤1000000000→Q (wR x s) M→c [St s,St [x]] M Q
theorem Qy{x:UInt8}{ci:aB}(hi:Fz x ci):ow x fun args M Q=>∃ a0 a1,args=[a0,a1]∧jK ci a0 a1 M Q:=by
 intro M s Q hl hQ
 refine⟨_,_,rfl, ?_⟩
 unfold jK
 refine hi ?_
 unfold wR at hQ
 rcases EN x s with⟨h1,h2,_⟩|⟨a,b,h1,h2,h3,_⟩
 ·rw[h1]at hQ
  simp only[go_sem,h2]
  exact⟨fun h=>absurd h (by decide),fun _=>hQ⟩
 ·rw[h1]at hQ
  have hsl:=congrArg List.length h3
  simp at hsl
  rw[h2,fe,show decide ((a.length:Int)≥0)=true by simp]
  refine⟨fun _=>?_,fun h=>by cases h⟩
  rw[jy (by omega)]
  simp only[go_sem]
  rw[show IntKind.wrap .i64 ((a.length:Int)+((1:Nat):Int))=((a.length+1:Nat):Int) by rw[KL (by omega) (by omega)];omega]
  rw[iD (by omega)]
  simp only[go_sem]
  rw[h3]
  rw[show(a++x::b).take a.length=a by simp,show(a++x::b).drop (a.length+1)=b by rw[← List.drop_drop];simp]
  exact hQ
theorem aeS{x:UInt8}{ci:aB}(hi:ow x ci):ow x fun args M Q=>∃ a0 a1,args=[a0,a1]∧zw ci a0 a1 M Q:=by
 intro M s Q hl hQ
 refine⟨_,_,rfl, ?_⟩
 unfold zw
 refine hi hl ?_
 unfold wR at hQ ⊢
 cases h:brk x s with
 |none=>rw[h]at hQ;simpa only[go_sem]using hQ
 |some p=>rw[h]at hQ;simpa only[go_sem]using hQ
end Go.Ab.Vl
namespace Go.Ab
open Go Go.RowKit
section
variable {P:Program} {ρ:Ren} {M:RM} {w w' : World}
theorem dD.below{base:Base}{A:AW}(h:dD P base ρ A w)(hb:Below w.heap.size w w')(hn:base.n≤w.heap.size):dD P base ρ A w' where
 dom b i hbi:=⟨(h.dom b i hbi).1,Nat.lt_of_lt_of_le (h.dom b i hbi).2 hb.size⟩
 blk b i x hbi hx:=let ⟨o,ho,hr⟩:=h.blk b i x hbi hx; ⟨o,by rw[hb.block _ (h.dom b i hbi).2];exact ho,hr⟩
 sep:=h.sep
 top:=h.top
 lo:=h.lo
 inv:=base.low w w' (fun c hc=>hb.block c (Nat.lt_of_lt_of_le hc hn)) h.inv
theorem Step.of_below{base n:Nat}(hb:Below w.heap.size w w')(hn:base≤w.heap.size):Step base n ρ w ρ w' where
 os:=hb.os
 tape:=hb.tape
 output:=hb.output
 size:=hb.size
 frame c hc _:=hb.block c hc
 ext _ _:=rfl
 fresh b i h:=.inl ⟨b,i,h,rfl⟩
 low c hc:=hb.block c (Nat.lt_of_lt_of_le hc hn)
theorem After.below(h:bu P ρ M w)(hb:Below w.heap.size w w'):After P M ρ w M ρ w':=by
 obtain⟨A,hA⟩:=h
 refine je hA (Step.of_below hb hA.size) (hA.rel.below hb hA.size) rfl hA.next (Nat.le_refl _) fun b x hx=>?_
 rcases hA.blk b x hx with h|⟨c,rfl,_⟩
 ·exact .inl h
 ·exact .inr ⟨c,rfl,hx⟩
theorem bu.inv(h:bu P ρ M w):M.base.inv w:=by
 obtain⟨A,hA⟩:=h
 exact hA.rel.inv
theorem dL.BL{f:FuncId}{args:List AV}{v:AV}{Q:aj}(hP:Ak P f)
  (h:∀ (ρ:Ren)(w:World)(us:List Value),aQ ρ args us→bu P ρ M w→Calls P f ⟨us⟩ w fun e w'=>∃ v',e=.returned v'∧Below w.heap.size w w'∧ai ρ v v') (hQ:Q v M):dL P f args M Q:=by
 refine⟨hP,fun ρ w us hargs hw=>(h ρ w us hargs hw).mono fun e w' hR=>?_⟩
 obtain⟨v',rfl,hb,hv⟩:=hR
 exact⟨v',v,M,ρ,rfl,After.below hw hb,hv,hQ⟩
end
structure Rep(α:Type) where
 size:Nat
 rel:RM→List AV→α→(Nat→Prop)→Prop
 len:∀ {M cs a S},rel M cs a S→cs.length=size
 one:∀ {M cs a S},rel M cs a S→cs.all oneCell=true
 mono:∀ {M cs a S S'},rel M cs a S→(∀ b,S b→S' b)→rel M cs a S'
 lt:∀ {M cs a S},rel M cs a S→rel M cs a (fun b=>S b∧b<M.next)
 keep:∀ {M M' cs a S bs},rel M cs a S→ah bs M M'→(∀ b∈bs,¬ S b)→rel M' cs a S
section
variable {α:Type} {R:Rep α} {M M' : RM} {S S' : Nat→Prop} {cs ds:List AV} {xs ys:List α} {a:α}
theorem aW.lt{size n:Nat}{v:AV}(h:aW M size v cs n):∀ b∈aJ v,b<M.next:=by
 cases h with
 |nil=>intro b hb;simp[aJ]at hb
 |emp=>intro b hb;simp[aJ]at hb
 |slc b o n cap cs hb _=>intro c hc;simp[aJ]at hc;omega
theorem aW.one{size n:Nat}{v:AV}(h:aW M size v cs n):oneCell v=true:=by
 cases h<;>rfl
theorem aW.cells{size n:Nat}{v:AV}(h:aW M size v cs n):v.cells=[v]:=by
 cases h<;>rfl
variable {v:AV}
end
section
variable {M M' : RM} {b i n e f:Nat} {l:List AV} {p:Bool} {x:AV}
theorem aT{K:AV→Prop}(h:M.heap b=some (.row l p e f))(hx:l[i]?=some x):au M (.ptr b i) K=K x:=by
 rw[fu,RM.cell_of h,hx];simp
theorem dK{K:AV→Prop}(h:M.heap b=some (.row l p e f))(hn:l.length=n):bT M (.ptr b 0) n K=K (.agg l):=by
 rw[JV,RM.aiV h]
 have:AP (some l) 0 n=some l:=by simp[AP,← hn]
 rw[this];simp
theorem aeK{K:RM→Prop}(h:M.heap b=some (.row l p e 0))(hi:i<l.length)(hc:x.cells=[x])(h1:oneCell x=true):aR M (.ptr b i) x 1 K=K (M.put b (.row (l.set i x) p e 0)):=by
 rw[PP,hc,RM.Kg h,BU (by simp only[List.length_cons,List.length_nil];omega) (Nat.zero_le _) (by simp[h1])]
 have:l.take i++[x]++l.drop (i+1)=l.set i x:=by
  rw[List.set_eq_take_append_cons_drop,if_pos hi];simp
 simp[this]
theorem eU{K:RM→Prop}(l' : List AV)(h:M.heap b=some (.row l p e 0))(hi:i<l.length)(hc:x.cells=[x])(h1:oneCell x=true)(hl:l.set i x=l'):aR M (.ptr b i) x 1 K=K (M.put b (.row l' p e 0)):=by
 rw[aeK h hi hc h1,hl]
theorem fD{K:AV→Prop}:aZ (.ptr b 0) n K=K (.ptr b n):=by rw[jJ,Nat.zero_add]
theorem PM{K:RM→Prop}(h:M.heap b=some (.row l p e 0))(hn:x.cells.length=n)(hl:l.length=n)(h1:x.cells.all oneCell=true):aR M (.ptr b 0) x n K=K (M.put b (.row x.cells p e 0)):=by
 rw[PP,RM.Kg h,Tv (by rw[hn,hl]) h1]
 simp[hn]
theorem Ms{c:Nat}{y z:RB}(h:M.heap b=some y)(hb:b≠c):(M.put c z).heap b=some y:=by
 simp only[RM.put];rw[if_neg hb];exact h
theorem aO(y:RB):(M.put b y).heap b=some y:=RM.nz _ _
theorem afk(y:RB):(M.push y).next=M.next+1:=rfl
theorem vI(c:Nat)(y:RB):(M.put c y).next=M.next:=rfl
theorem ah.new{bs:List Nat}(h:ah bs M M'){b:Nat}(y:RB)(hb:M.next≤b):ah bs M (M'.put b y):=h.put y (.inl hb)
end
variable {M:RM}
theorem dQ{a:AV}{l:List AV}{K:AV→Prop}:bz (.tup (a::l)) 0 K=K a:=by rw[Nr];simp
theorem dV{a b:AV}{l:List AV}{K:AV→Prop}:bz (.tup (a::b::l)) 1 K=K b:=by rw[Nr];simp
theorem ik{a b c:AV}{l:List AV}{K:AV→Prop}:bz (.tup (a::b::c::l)) 2 K=K c:=by rw[Nr];simp
theorem dE{p q:Prop}:aF (Bo true) p q=p:=by simp[Xq]
theorem di{p q:Prop}:aF (Bo false) p q=q:=by simp[Xq]
theorem cK{b:Bool}{p q:Prop}(h1:b=true→p)(h2:b=false→q):aF (Bo b) p q:=⟨h1,h2⟩
theorem iM{f g:aj→Prop}{k:aj}:af (Bo true) true f g k=f k:=rfl
theorem bN{f g:aj→Prop}{k:aj}:af (Bo false) false f g k=f k:=rfl
theorem dY{f g:aj→Prop}{k:aj}:af (Bo true) false f g k=g k:=rfl
theorem iN{f g:aj→Prop}{k:aj}:af (Bo false) true f g k=g k:=rfl
theorem Sv{f g:KR→Prop}{k:KR}:iH (Bo true) true f g k=f k:=rfl
theorem Ko{f g:KR→Prop}{k:KR}:iH (Bo false) true f g k=g k:=rfl
theorem YG{w:Bool}{f g:aj→Prop}{k:aj}:af .undef w f g k=g k:=rfl
theorem gq{a b:AV}{K:AV→Prop}:aM (Bo true) a b K=K a:=by rw[WT];rfl
theorem eQ{a b:AV}{K:AV→Prop}:aM (Bo false) a b K=K b:=by rw[WT];rfl
theorem vQ{t:TypeId}{cs:List AV}{K:RB→(Nat→AV)→Prop}(h1:cs.all oneCell=true)(h2:1≤cs.length):Bj t (.agg cs) K=K (.row cs false t 0) (fun b=>.ptr b 0):=by
 unfold Bj
 exact propext ⟨fun h=>h.2.2,fun h=>⟨h1,h2,h⟩⟩
theorem afe{x y a b:AV}(h1:known x=true)(h2:x.cells=[x])(h3:known y=true)(h4:y.cells=[y]):nC [a,b] [(0,1,x),(1,1,y)]=some [x,y]:=by
 simp[nC,h1,h2,h3,h4]
end Go.Ab
namespace Go.Ab
open Go Go.RowKit Go.ChangeShapes
section
variable {H:Type} {enc:TypeId×Value→H} {P:Program} {w:World} {base:Nat} {spare:Nat→Bool} {held:Bool}
end
end Go.Ab
namespace Go.Ab
open Go Go.ChangeShapes
end Go.Ab
namespace Go.Ab
open Go Go.RowKit
section
variable {P:Program} {f:FuncId} {fn:Func} {w w' : World} {M:RM}
theorem J5{args:Array Value}{s:Array Value→Sem Value}{v:Value}(hf:P.funcs[f]?=some fn) (hng:fn.name ≠ "runtime.NumGoroutine") (hb:fn.body=none)
  (h1:Extern.findNext fn=none) (h2:Extern.find fn=some s) (h3:(s args).run P w=.ok v w'):(callFunc f args).run P w=.ok (.value v) w':=by
 have MR:(fn.name == "runtime.NumGoroutine")=false:=by simpa using hng
 simp only[callFunc,Sem.run_bind,run_program,Result.andThen_ok,hf,MR,Bool.false_eq_true,if_false,hb,Option.isNone_none,if_true,mark,Sem.run,h1,h2,h3,Sem.run_pure]
theorem Wq{a:Addr}{v u:Value}(hc:w.cell? a=some u)(h:(storeCells a [v]).run P w=.ok () w'):(store a v .atomic).run P w=.ok () w':=by
 have he:(store a v .atomic).run P w=(store a v).run P w:=by
  cases v<;>simp only[store,Sem.run,hc]
 rw[he]
 have h0:a.add 0=a:=by simp[Addr.add]
 unfold storeCells at h
 rw[h0,Sem.run_bind]at h
 revert h
 cases(store a v).run P w with
 |ok x w1=>intro h;exact h
 |halt _ _=>intro h;cases h
theorem NB(hf:P.funcs[f]?=some fn) (hng:fn.name ≠ "runtime.NumGoroutine") (hb:fn.body=none) (h1:Extern.findNext fn=none) (h2:Extern.find fn=some Extern.MapsClone.clone)
  {t b cl:Nat} {es:List (AV×AV×Nat)} (hh:M.heap b=some (.map es cl)) :
  jW P f [.ifc t (.map b)] M (.ifc t (.map M.next)) (M.push (.map es cl)):=by
 intro ρ w us hus hw
 cases hus with
 |cons _ u1 _ us r1 hus =>
 cases hus
 cases r1 with
 |ifc _ _ v' hv =>
 obtain⟨A,hA⟩:=hw
 cases hv with
 |map _ i hbi =>
 obtain⟨fs,hob,hfs⟩:=KM hA hbi hh
 have hnew:ρ A.next=none:=hA.rel.fresh (Nat.le_refl _)
 have hle:ρ.le (ρ.add A.next ⟨w.heap.size,0,0,0⟩):=Ren.yR hnew
 obtain⟨q1,q2⟩:=CZ hA.rel (Nat.le_trans (show M.base.n≤M.lo from Nat.le_refl _) hA.size) (x:=.map es cl) (ob:=.map fs cl) (i:=⟨w.heap.size,0,0,0⟩) rfl
  ⟨fs,rfl,hfs.mono hle⟩
 obtain⟨k1,k2,k3⟩:=RM.BZ hA (x:=.map es cl) (y:=.map es cl) ⟨rfl,rfl⟩
 have hget:(getObj i.cb).run P w=.ok (.map fs cl) w:=by simp[getObj,Sem.run,hob]
 refine⟨_,w.alloc (.map fs cl),.iface t (.map (some w.heap.size)),J5 hf hng hb h1 h2 ?_,je hA q2 q1 k1 k2 (by simp[AW.push]) k3,.ifc _ _ _ ?_⟩
 ·show((getObj i.cb >>= fun o=>_):Sem Value).run P w=_
  simp only[Sem.run_bind,hget,Result.andThen_ok]
  rfl
 ·exact .map _ ⟨w.heap.size,0,0,0⟩ (by rw[← hA.next];simp[Ren.add])
end
end Go.Ab
namespace Go.Ab.Sm
open Go Go.Ab
section
variable {i j:Nat} {K:AV→Prop}
theorem addN(h:i+j<4611686018427387904):ag .add (N .i64 (i:Int)) (N .i64 (j:Int)) K=K (N .i64 ((i+j:Nat):Int)):=by
 rw[fC,bM (by omega) (by omega),Int.natCast_add]
theorem add1(h:i<4611686018427387904):ag .add (N .i64 (i:Int)) (N .i64 1) K=K (N .i64 ((i+1:Nat):Int)):=by
 rw[fC,rQ (by omega)]
theorem abG(h:j≤i)(hb:i<4611686018427387904):ag .sub (N .i64 (i:Int)) (N .i64 (j:Int)) K=K (N .i64 ((i-j:Nat):Int)):=by
 rw[kI,bM (by omega) (by omega),show(i:Int)-(j:Int)=((i-j:Nat):Int) by omega]
theorem Ih:ag .lss (N .i64 (i:Int)) (N .i64 (j:Int)) K=K (Bo (decide (i<j))):=by rw[j5,show decide ((i:Int)<(j:Int))=decide (i<j) by simp]
theorem acy:ag .gtr (N .i64 (i:Int)) (N .i64 (j:Int)) K=K (Bo (decide (i>j))):=by rw[fJ,show decide ((i:Int)>(j:Int))=decide (i>j) by simp]
theorem aDx:ag .eql (N .i64 (i:Int)) (N .i64 (j:Int)) K=K (Bo (decide (i=j))):=by
 rw[fZ,show((i:Int)==(j:Int))=decide (i=j) by by_cases h:i=j<;>simp[h];omega]
end
section
variable {M:RM} {c p:Bool} {f:aj→Prop} {P:RM→Prop} {G:AV→RM→Prop}
theorem qR(hf:c=true→∀ k:aj,k (Bo p) M→f k)(hG:G (Bo (c&&p)) M) :
  af (Bo c) true f (fun k=>k .undef M) (fun t M'=>aM (Bo c) t (Bo false) fun u=>G u M'):=by
 cases c with
 |false=>rw[iN];dsimp only;rw[eQ];exact hG
 |true=>rw[iM];exact hf rfl _ (by rw[gq];exact hG)
theorem Ob(hf:c=false→∀ k:aj,k (Bo p) M→f k)(hG:G (Bo (c||p)) M) :
  af (Bo c) false f (fun k=>k .undef M) (fun t M'=>aM (Bo c) (Bo true) t fun u=>G u M'):=by
 cases c with
 |true=>rw[dY];dsimp only;rw[gq];exact hG
 |false=>rw[bN];exact hf rfl _ (by rw[eQ];exact hG)
theorem Od(h0:P M)(hf:c=true→∀ k:aj,(∀ M',P M'→k (Bo p) M')→f k)(hG:∀ M',P M'→G (Bo (c&&p)) M') :
  af (Bo c) true f (fun k=>k .undef M) (fun t M'=>aM (Bo c) t (Bo false) fun u=>G u M'):=by
 cases c with
 |false=>rw[iN];dsimp only;rw[eQ];exact hG M h0
 |true=>rw[iM];exact hf rfl _ fun M' h=>by rw[gq];exact hG M' h
theorem Ny(h0:P M)(hf:c=false→∀ k:aj,(∀ M',P M'→k (Bo p) M')→f k)(hG:∀ M',P M'→G (Bo (c||p)) M') :
  af (Bo c) false f (fun k=>k .undef M) (fun t M'=>aM (Bo c) (Bo true) t fun u=>G u M'):=by
 cases c with
 |true=>rw[dY];dsimp only;rw[gq];exact hG M h0
 |false=>rw[bN];exact hf rfl _ fun M' h=>by rw[eQ];exact hG M' h
end
section
variable {M:RM} {c p:Bool} {f:KR→Prop} {G:AV→RM→Prop}
end
theorem NP{a:Int}{K:AV→Prop}:ag .neq (N .i64 a) (N .i64 a) K=K (Bo false):=by rw[iJ,bne_self_eq_false]
end Go.Ab.Sm
namespace Go.Ab
open Go Go.RowKit
section
variable {H:Type} {enc:TypeId×Value→H} {P:Program} {base:Base} {w:World}
variable {bulk:DataW H→Nat} {B:Nat}
end
section
variable {P:Program} {M:RM} {t:TypeId} {cs:List AV} {B:Nat}
def iZ:AV→Prop
 |.slc _ _ n (.ex c)=>n≤c
 |.slc _ _ _ (.op e)=>e=1
 |_=>True
end
section
variable {H:Type} {enc:TypeId×Value→H} {P:Program} {base:Base} {w:World} {bulk:DataW H→Nat} {B:Nat}
end
end Go.Ab
namespace Go.Ab.Hw
open Go Go.Ab Go.Ab.Sm
open Go.Ab.Vl (brk ow jd iD jU jy KL)
abbrev Str:=List UInt8
structure Bs(M:RM)(v:AV)(b:Str):Prop where
 sl:Sl BY M v b
 cap:iZ v
theorem Bs.keep{M M' : RM}{v:AV}{b:Str}{bs:List Nat}(h:Bs M v b)(k:ah bs M M')(hb:∀ x∈aJ v,x∉bs):Bs M' v b:=⟨aW.keep h.sl k hb,h.cap⟩
theorem Bs.len{M:RM}{v:AV}{b:Str}(h:Bs M v b){K:AV→Prop}:bS v K=K (N .i64 (b.length:Int)):=aW.len h.sl
theorem Bs.str{M:RM}{v:AV}{b:Str}(h:Bs M v b){K:AV→Prop}:kD M v K=K (St b):=Sl.str h.sl
theorem Rh{M:RM}{base T n:Nat}{v:AV}{cs:List AV}(h:Own M base T 1 v cs n):iZ v:=by
 cases h with
 |nil=>trivial
 |ex0 b o _ _ _=>exact Nat.le_refl _
 |op b n cs _ _ _ _=>rfl
theorem Bs.own{M:RM}{base T:Nat}{v:AV}{b:Str}(h:Ow BY M base T v b):Bs M v b:=⟨Own.E5 h,Rh h⟩
theorem tL{M:RM}{b o n:Nat}{x:Str}(h:M.loads b o (n*1)=some (BY.row x)){l u:Nat}(h1:l≤u)(h2:u≤n):M.loads b (o+l*1) ((u-l)*1)=some (BY.row ((x.drop l).take (u-l))):=by
 have:=lh h (l*1) ((u-l)*1) (by omega)
 rw[this]
 congr 1
 have e1:=BY.vZ x l
 have e2:=BY.A9 (x.drop l) (u-l)
 rw[show l*1=l*BY.size from rfl,e1,show(u-l)*1=(u-l)*BY.size from rfl,e2]
theorem Bs.sub{M:RM}{v:AV}{b:Str}(h:Bs M v b){lo hi:Option AV}{l u:Nat}(e1:bnd 0 lo=some l)(e2:bnd b.length hi=some u)(h1:l≤u)(h2:u≤b.length){K:AV→Prop}
  (hK:∀ v',Bs M v' ((b.drop l).take (u-l))→(∀ x∈aJ v',x∈aJ v)→K v'):dz (bI 1 v lo hi none) K:=by
 obtain⟨hs,hc⟩:=h
 have hlen:((b.drop l).take (u-l)).length=u-l:=by simp;omega
 have zero:u=l→∀ {w:AV},aW M 1 w [] 0→Sl BY M w ((b.drop l).take (u-l)):=by
  intro e w hw
  subst e
  rw[Nat.sub_self,List.take_zero]
  exact hw
 unfold Sl at hs
 generalize hn:b.length=n at *
 generalize hcs:BY.row b=cs at *
 cases hs with
 |nil =>
  have l0:l=0:=by omega
  have u0:u=0:=by omega
  subst l0 u0
  exact⟨bC,by simp only[bI,bC,e1,e2],hK _ ⟨zero rfl .nil,trivial⟩ (fun x hx=>hx)⟩
 |emp b0 =>
  have l0:l=0:=by omega
  have u0:u=0:=by omega
  subst l0 u0
  exact⟨.emp b0,by simp only[bI,e1,e2],hK _ ⟨zero rfl (.emp _),trivial⟩ (fun x hx=>hx)⟩
 |slc b0 o _ cap cs hb hl =>
  subst hcs
  have hl':=tL hl h1 h2
  have whole:∀ cap',iZ (.slc b0 (o+l*1) (u-l) cap')→(Bs M (.slc b0 (o+l*1) (u-l) cap') ((b.drop l).take (u-l))):=fun cap' hcap=>⟨by
   unfold Sl;rw[hlen];exact .slc _ _ _ _ _ hb hl',hcap⟩
  cases cap with
  |ex c =>
   have hcn:n≤c:=hc
   by_cases e:c=l
   ·subst e
    have hu:u=c:=by omega
    subst hu
    refine⟨.slc b0 o 0 (.ex 0),by simp only[bI,e1,e2];rw[if_pos ⟨Nat.le_refl _,Nat.le_refl _⟩];simp,hK _ ⟨zero rfl (.slc _ _ _ _ _ hb ?_),Nat.le_refl _⟩ (fun x hx=>hx)⟩
    have:=tL hl (Nat.le_refl 0) (Nat.zero_le n)
    simpa [BY,Enc.row]using this
   ·exact⟨_,by simp only[bI,e1,e2];rw[if_pos ⟨h1,by omega⟩,if_neg e],hK _ (whole _ (by show u-l≤c-l;omega)) (fun x hx=>hx)⟩
  |op esz =>
   have he:esz=1:=hc
   subst he
   by_cases e:n≤l
   ·have hu:u=l:=by omega
    exact⟨.emp b0,by simp only[bI,e1,e2];simp[h1,h2,e],hK _ ⟨zero hu (.emp _),trivial⟩ (fun x hx=>by simp[aJ]at hx)⟩
   ·exact⟨_,by simp only[bI,e1,e2];simp only[and_true];rw[if_pos ⟨h1,h2⟩,if_neg e],hK _ (whole (.op 1) rfl) (fun x hx=>hx)⟩
theorem nA(d n:Nat)(k:IntKind):bnd d (some (N k (n:Int)))=some n:=by simp[bnd]
theorem V6(d:Nat):bnd d none=some d:=rfl
def pre(p s:Str):Bool:=decide (p.length≤s.length)&&(s.take p.length==p)
def NA(c:aB):Prop:=∀ {M:RM}{s p:Str}{Q:aj},Q (Bo (pre p s)) M→c [St s,St p] M Q
theorem Tz:NA fun args M Q=>∃ a0 a1,args=[a0,a1]∧Vl.gQ a0 a1 M Q:=by
 intro M s p Q hQ
 refine⟨_,_,rfl, ?_⟩
 unfold Go.Ab.Vl.gQ
 simp only[dW,mX,fe]
 unfold pre at hQ
 by_cases h:p.length≤s.length
 ·have e:decide ((s.length:Int)≥(p.length:Int))=true:=by simp[h]
  rw[e]
  simp only[go_sem,if_true]
  rw[jy h]
  simpa only[go_sem,h,decide_true,Bool.true_and,if_true]using hQ
 ·have e:decide ((s.length:Int)≥(p.length:Int))=false:=by simp;omega
  rw[e]
  simpa [go_sem,h]using hQ
theorem agk{ch:aB}(hh:NA ch):NA fun args M Q=>∃ a0 a1,args=[a0,a1]∧Vl.uO ch a0 a1 M Q:=by
 intro M s p Q hQ
 exact⟨_,_,rfl,hh hQ⟩
def JW(p s:Str):AV:=if pre p s then .tup [St (s.drop p.length),Bo true]else .tup [St s,Bo false]
def Am(c:aB):Prop:=∀ {M:RM}{s p:Str}{Q:aj},Q (JW p s) M→c [St s,St p] M Q
theorem MX{ch:aB}(hh:NA ch):Am fun args M Q=>∃ a0 a1,args=[a0,a1]∧Vl.gN ch a0 a1 M Q:=by
 intro M s p Q hQ
 refine⟨_,_,rfl, ?_⟩
 unfold Go.Ab.Vl.gN
 refine hh ?_
 unfold JW at hQ
 cases h:pre p s
 ·rw[h]at hQ;simpa [go_sem]using hQ
 ·rw[h]at hQ
  have hl:p.length≤s.length:=by unfold pre at h;simp at h;exact h.1
  simp only[fA,Bool.not_true,di,mX]
  rw[iD hl]
  simpa [go_sem]using hQ
theorem Y8{ch:aB}(hh:Am ch):Am fun args M Q=>∃ a0 a1,args=[a0,a1]∧Vl.nY ch a0 a1 M Q:=by
 intro M s p Q hQ
 refine⟨_,_,rfl, ?_⟩
 unfold Go.Ab.Vl.nY
 refine hh ?_
 unfold JW at hQ ⊢
 cases h:pre p s<;>rw[h]at hQ<;>simpa [go_sem]using hQ
def Fz(x:UInt8)(c:aB):Prop:=∀ {M:RM}{s:List UInt8}{Q:aj},Q (N .i64 (Lib.indexByte s x)) M→c [St s,St [x]] M Q
theorem Mg{x:UInt8}{g:Nat}{ci xx c1 c2:aB}(hi:jd ci):Fz x fun args M Q=>∃ a0 a1,args=[a0,a1]∧dM ci g xx c1 c2 a0 a1 M Q:=by
 intro M s Q hQ
 refine⟨_,_,rfl, ?_⟩
 unfold dM
 rw[mX,fZ,show((([x]:List UInt8).length:Int)==0)=false from rfl]
 simp only[dW]
 by_cases h:[x]=s
 ·subst h
  have:Lib.indexByte [x] x=0:=by simp[Lib.indexByte]
  rw[this]at hQ
  simp only[go_sem,beq_self_eq_true]
  exact hQ
 ·have h' : (([x]:List UInt8)==s)=false:=by simp[h]
  simp only[go_sem,h']
  exact⟨fun _=>⟨by omega,x,rfl,hi hQ⟩,fun h=>absurd h (by decide)⟩
def jX(s:Str)(a b:Int):Bool:=decide ((s.length:Int)≥a)&&decide ((s.length:Int)≤b)
def Al(c:aB):Prop:=∀ {M:RM}{s:Str}{a b:Int}{Q:aj},Q (Bo (jX s a b)) M→c [St s,N .i64 a,N .i64 b] M Q
theorem Zb:Al fun args M Q=>∃ a0 a1 a2,args=[a0,a1,a2]∧qp a0 a1 a2 M Q:=by
 intro M s a b Q hQ
 refine⟨_,_,_,rfl, ?_⟩
 unfold qp
 simp only[dW,mX,fe]
 refine qR (fun _ k hk=>?_) hQ
 simpa only[go_sem]using hk
theorem PK{T8:Nat}:MJ fun args M Q=>∃ a0,args=[a0]∧rT T8 a0 M Q:=by
 intro M s Q hl hQ
 refine⟨_,rfl, ?_⟩
 unfold rT
 simp only[dW,bL,sW,oK]
 have hk1:ah [] M (M.push (.row (BY.row s) true T8 0)):=(ah.refl _ _).push _
 have hr1:Rw BY (M.push (.row (BY.row s) true T8 0)) M.next true T8 s:=Rw.new M s
 generalize M.push (.row (BY.row s) true T8 0)=M1 at *
 refine bU (fun m ys M3=>∃ i:Nat,m=s.length-i∧ys=[N .i64 i]∧i≤s.length∧Rw BY M3 M.next true T8 (upTo bO i s)∧ah [] M M3) _
  ⟨0,rfl,rfl,Nat.zero_le _,by rw[aeT];exact hr1,hk1⟩ ?_
 rintro next m ys M3 hnext ⟨i,rfl,rfl,hi,hR,hK⟩
 simp only[go_sem]
 refine⟨fun hlt=>?_,fun hge=>?_⟩
 ·have hlt:i<s.length:=by simpa using hlt
  have hlen:i<(upTo bO i s).length:=by rw[WA];exact hlt
  have hg:=VN bO hlt
  have hc:=hR.au hlen
  have w1:=rQ (show i<9223372036854775807 by omega)
  have hge:(upTo bO i s)[i]=s[i]:=Option.some.inj ((List.getElem?_eq_getElem hlen).symm.trans hg)
  rw[hge]at hc
  refine⟨by omega,_,hc, ?_⟩
  have same:bO s[i]=s[i]→next [N .i64 ((i+1:Nat):Int)] M3:=fun h=>by
   refine hnext _ _ _ (by omega) ⟨i+1,rfl,rfl,by omega, ?_,hK⟩
   rw[adU bO hlt h]
   exact hR
  have cb:=qX s[i]
  simp only[w1]
  by_cases h1:65≤s[i].toNat
  ·have e1:((s[i].toNat:Int)≥65):=by omega
   by_cases h2:s[i].toNat≤90
   ·have e2:((s[i].toNat:Int)≤90):=by omega
    have hlow:bO s[i]=s[i]+32:=by rw[bO,if_pos ⟨h1,h2⟩]
    have hn:(bO s[i]).toNat=s[i].toNat+32:=by
     rw[hlow,UInt8.toNat_add]
     show(s[i].toNat+32)%256=_
     omega
    have wv:N IntKind.u8 (IntKind.u8.wrap (IntKind.u8.wrap ((s[i].toNat:Int)+97)-65))=By (bO s[i]):=by
     rw[By,hn]
     congr 1
     rw[show IntKind.u8.wrap ((s[i].toNat:Int)+97)=(s[i].toNat:Int)+97 from ji (by omega) (by omega)]
     rw[ji (by omega) (by omega)];omega
    obtain⟨hs,hR'⟩:=hR.aeA hlen (bO s[i])
    simp only[e1,e2,decide_true,go_sem]
    rw[U3 bO hlt]at hs hR'
    refine⟨by omega,_,(congrArg (fun x=>M3.stores M.next i [x]) wv).trans hs, ?_⟩
    exact hnext _ _ _ (by omega) ⟨i+1,rfl,rfl,by omega,hR',hK.put _ (.inl (Nat.le_refl _))⟩
   ·have e2:¬ ((s[i].toNat:Int)≤90):=by omega
    simp only[e1,e2,decide_true,decide_false,go_sem]
    exact same (by rw[bO,if_neg (by omega)])
  ·have e1:¬ ((s[i].toNat:Int)≥65):=by omega
   simp only[e1,decide_false,go_sem]
   exact same (by rw[bO,if_neg (by omega)])
 ·have:i=s.length:=by simp at hge;omega
  subst this
  rw[ahz]at hR
  have:=hR.sl (cap:=.op 1)
  rw[List.length_map]at this
  rw[Sl.str this]
  exact hQ M3 hK
end Go.Ab.Hw
namespace Go.Ab.Hw
open Go Go.Ab Go.Ab.Sm
open Go.Ab.Vl (brk ow wR jd iD jU jy KL)
theorem jo{M:RM}{b n:Nat}{l cs:List AV}{p:Bool}{e:Nat}{K:RM→Prop}(h:M.heap b=some (.row l p e 0))(hn:cs.length=n)(hl:l.length=n)(h1:cs.all oneCell=true) :
  aR M (.ptr b 0) (.agg cs) n K=K (M.put b (.row cs p e 0)):=PM (x:=.agg cs) h hn hl h1
def fQ(x:UInt8):Bool:=decide ((x.toNat:Int)≥48)&&decide ((x.toNat:Int)≤57)
def xZ(x:UInt8):Bool:=decide ((x.toNat:Int)≥65)&&decide ((x.toNat:Int)≤90)
def J4(x:UInt8):Bool:=decide ((x.toNat:Int)≥33)&&decide ((x.toNat:Int)≤126)
def p32(x:UInt8):Bool:=decide ((x.toNat:Int)≥32)&&decide ((x.toNat:Int)≤126)
def BB(x:UInt8):Bool:=(decide ((x.toNat:Int)≥32)&&decide ((x.toNat:Int)≤126))||((x.toNat:Int)==9)
def Co(x:UInt8):Bool:=(decide ((x.toNat:Int)≥97)&&decide ((x.toNat:Int)≤122))||fQ x||((x.toNat:Int)==45)
def qx(x:UInt8):Bool:=fQ x||(decide ((x.toNat:Int)≥97)&&decide ((x.toNat:Int)≤102))
def yX(p:UInt8→Bool)(c:aB):Prop:=∀ {M:RM}{x:UInt8}{Q:aj},Q (Bo (p x)) M→c [By x] M Q
theorem Gb:yX fQ fun args M Q=>∃ a0,args=[a0]∧r9 a0 M Q:=by
 intro M x Q hQ
 refine⟨_,rfl, ?_⟩
 unfold r9
 simp only[dW,fe]
 exact qR (fun _ k hk=>by simpa only[go_sem]using hk) hQ
theorem acN:yX xZ fun args M Q=>∃ a0,args=[a0]∧rM a0 M Q:=by
 intro M x Q hQ
 refine⟨_,rfl, ?_⟩
 unfold rM
 simp only[dW,fe]
 exact qR (fun _ k hk=>by simpa only[go_sem]using hk) hQ
theorem VK:yX J4 fun args M Q=>∃ a0,args=[a0]∧pJ a0 M Q:=by
 intro M x Q hQ
 refine⟨_,rfl, ?_⟩
 unfold pJ
 simp only[dW,fe]
 exact qR (fun _ k hk=>by simpa only[go_sem]using hk) hQ
theorem af7:yX p32 fun args M Q=>∃ a0,args=[a0]∧jm a0 M Q:=by
 intro M x Q hQ
 refine⟨_,rfl, ?_⟩
 unfold jm
 simp only[dW,fe]
 exact qR (fun _ k hk=>by simpa only[go_sem]using hk) hQ
theorem ahG:yX BB fun args M Q=>∃ a0,args=[a0]∧lV a0 M Q:=by
 intro M x Q hQ
 refine⟨_,rfl, ?_⟩
 unfold lV
 simp only[dW,fe]
 refine qR (fun _ k hk=>by simpa only[go_sem]using hk) ?_
 exact Ob (fun _ k hk=>by simpa only[go_sem]using hk) hQ
theorem ado{cd:aB}(hd:yX fQ cd):yX Co fun args M Q=>∃ a0,args=[a0]∧mG cd a0 M Q:=by
 intro M x Q hQ
 refine⟨_,rfl, ?_⟩
 unfold mG
 simp only[dW,fe]
 refine qR (fun _ k hk=>by simpa only[go_sem]using hk) ?_
 refine Ob (p:=fQ x) (fun _ k hk=>hd hk) ?_
 exact Ob (fun _ k hk=>by simpa only[go_sem]using hk) hQ
theorem afb{cd:aB}(hd:yX fQ cd):yX qx fun args M Q=>∃ a0,args=[a0]∧qy cd a0 M Q:=by
 intro M x Q hQ
 refine⟨_,rfl, ?_⟩
 unfold qy
 refine hd ?_
 unfold qx at hQ
 cases h:fQ x<;>rw[h]at hQ
 ·by_cases h1:(x.toNat:Int)≥97
  ·simpa [go_sem,h1]using hQ
  ·simpa [go_sem,h1]using hQ
 ·simpa [go_sem]using hQ
def qB(p:UInt8→Bool)(f:AV)(c:aB):Prop:=∀ {M:RM}{s:Str}{Q:aj},s.length<4611686018427387904→(∀ M',ah [] M M'→Q (Bo (s.all p)) M')→c [St s,f] M Q
theorem rX{T8 g:Nat}{p:UInt8→Bool}{cv:FuncId→aB}(hp:yX p (cv g)):qB p (.fn (.func g) [] []) fun args M Q=>∃ a0 a1,args=[a0,a1]∧uR T8 cv a0 a1 M Q:=by
 intro M s Q hl hQ
 refine⟨_,_,rfl, ?_⟩
 unfold uR
 simp only[bL,sW,oK]
 have hk1:ah [] M (M.push (.row (BY.row s) true T8 0)):=(ah.refl _ _).push _
 have hr1:Rw BY (M.push (.row (BY.row s) true T8 0)) M.next true T8 s:=Rw.new M s
 generalize M.push (.row (BY.row s) true T8 0)=M1 at *
 have e:∀ i,i<s.length→s.all p=((s.take i).all p&&s[i]!.toNat.ble 255&&(s.drop i).all p):=fun i hi=>by
  have:s[i]!.toNat.ble 255=true:=by
   have:=qX s[i]!
   exact Nat.ble_eq_true_of_le (by omega)
  rw[this,Bool.and_true,← List.all_append,List.take_append_drop]
 refine bU (fun m ys M3=>∃ i:Nat,m=s.length-i∧ys=[N .i64 i]∧i≤s.length∧(s.take i).all p=true∧M3=M1) _ ⟨0,rfl,rfl,Nat.zero_le _,rfl,rfl⟩ ?_
 rintro next m ys M3 hnext ⟨i,rfl,rfl,hi,hA,rfl⟩
 simp only[bV,Ih]
 refine cK (fun h=>?_) fun h=>?_
 ·have hlt:i<s.length:=by simpa using h
  have hc:=hr1.au hlt
  rw[Gl]
  refine⟨by omega,by omega, ?_⟩
  rw[fu]
  refine⟨By s[i],by simpa using hc, ?_⟩
  rw[Nn]
  simp only[List.nil_append,List.append_nil]
  refine hp ?_
  simp only[fA]
  have hd:s.drop i=s[i]::s.drop (i+1):=List.drop_eq_getElem_cons hlt
  refine cK (fun h=>?_) fun h=>?_
  ·have hf:p s[i]=false:=by simpa using h
   have:s.all p=false:=by
    rw[← List.take_append_drop i s,List.all_append,hd,List.all_cons,hf];simp
   rw[← this];exact hQ _ hk1
  ·have ht:p s[i]=true:=by simpa using h
   rw[add1 (by omega)]
   refine hnext _ _ _ (by omega) ⟨i+1,rfl,rfl,by omega, ?_,rfl⟩
   rw[List.take_succ_eq_append_getElem hlt,List.all_append,hA];simp[ht]
 ·have:i=s.length:=by simp at h;omega
  subst this
  rw[List.take_length]at hA
  rw[← hA];exact hQ _ hk1
def qV(p:Str→Bool)(c:aB):Prop:=∀ {M:RM}{s:Str}{Q:aj},s.length<4611686018427387904→(∀ M',ah [] M M'→Q (Bo (p s)) M')→c [St s] M Q
def fI(s:Str):Bool:=jX s 1 40&&(low s).all Co
theorem IZ{g:Nat}{cw cs ca:aB}(hw:Al cw)(hs:MJ cs)(ha:qB Co (.fn (.func g) [] []) ca):qV fI fun args M Q=>∃ a0,args=[a0]∧om cw cs ca g a0 M Q:=by
 intro M s Q hl hQ
 refine⟨_,rfl, ?_⟩
 unfold om
 refine hw ?_
 simp only[dW]
 refine Od (P:=ah [] M) (p:=(low s).all Co) (ah.refl _ _) (fun _ k hk=>?_) hQ
 refine hs (by omega) fun M1 k1=>?_
 exact ha (by rw[low,List.length_map];exact hl) fun M2 k2=>hk M2 (k1.trans k2)
def trimB(s:Str):Str:=Lib.trimS s [32,9]
def Uh(B:Base)(c:aB):Prop:=∀ {M:RM}{s:Str}{Q:aj},M.base=B→s.length<4611686018427387904→(∀ M',ah [] M M'→Q (St (trimB s)) M')→c [St s,St [32,9]] M Q
def PD(B:Base)(p:Str→Bool)(c:aB):Prop:=∀ {M:RM}{s:Str}{Q:aj},M.base=B→s.length<4611686018427387904→(∀ M',ah [] M M'→Q (Bo (p s)) M')→c [St s] M Q
def dZ(s:Str):Bool:=(s==trimB s)&&s.all BB
theorem EH{B:Base}{g:Nat}{ct ca:aB}(ht:Uh B ct)(ha:qB BB (.fn (.func g) [] []) ca):PD B dZ fun args M Q=>∃ a0,args=[a0]∧ni ct ca g a0 M Q:=by
 intro M s Q hB hl hQ
 refine⟨_,rfl, ?_⟩
 unfold ni
 refine ht hB hl fun M1 k1=>?_
 simp only[dW,q9]
 refine Od (P:=ah [] M) (p:=s.all BB) k1 (fun _ k hk=>?_) hQ
 exact ha hl fun M2 k2=>hk M2 (k1.trans k2)
def jh(s:Str):Bool:=jX s 1 8&&s.all xZ
theorem P6{g:Nat}{cw ca:aB}(hw:Al cw)(ha:qB xZ (.fn (.func g) [] []) ca):qV jh fun args M Q=>∃ a0,args=[a0]∧mI cw ca g a0 M Q:=by
 intro M s Q hl hQ
 refine⟨_,rfl, ?_⟩
 unfold mI
 refine hw ?_
 simp only[dW]
 exact Od (P:=ah [] M) (p:=s.all xZ) (ah.refl _ _) (fun _ k hk=>ha hl hk) hQ
def j3(s:Str):Bool:=pre [47] s&&decide ((s.length:Int)≤201)&&s.all J4
theorem TG{g:Nat}{cp ca:aB}(hp:NA cp)(ha:qB J4 (.fn (.func g) [] []) ca):qV j3 fun args M Q=>∃ a0,args=[a0]∧nV cp ca g a0 M Q:=by
 intro M s Q hl hQ
 refine⟨_,rfl, ?_⟩
 unfold nV
 refine hp ?_
 simp only[dW]
 refine qR (p:=decide ((s.length:Int)≤201)) (fun _ k hk=>by simpa only[go_sem]using hk) ?_
 exact Od (P:=ah [] M) (p:=s.all J4) (ah.refl _ _) (fun _ k hk=>ha hl hk) hQ
abbrev Hd:=Str×Str
def HD:Enc Hd:=⟨2,fun h=>[St h.1,St h.2],fun _=>rfl,fun _=>rfl⟩
def gU(s:Str):Option Hd:=match brk 58 s with
 |none=>none
 |some (a,b)=>match fI a&&dZ (trimB b)with
  |true=>some (a,trimB b)
  |false=>none
def Ri(B:Base)(c:aB):Prop:=∀ {M:RM}{s:Str}{Q:aj},M.base=B→s.length≤1000000 →
 (∀ h M',gU s=some h→ah [] M M'→Q (.tup [.agg [St h.1,St h.2],Bo true]) M')→(∀ a b M',gU s=none→ah [] M M'→Q (.tup [.agg [St a,St b],Bo false]) M')→c [St s] M Q
theorem Sn(s:Str):(trimB s).length≤s.length:=by
 have h1:∀ (p:UInt8→Bool)(l:Str),(l.dropWhile p).length≤l.length:=fun p l=>List.IsSuffix.length_le (List.dropWhile_suffix p)
 unfold trimB Lib.trimS Lib.trimLeftS Lib.trimRightS
 refine Nat.le_trans (h1 _ _) ?_
 rw[List.length_reverse]
 refine Nat.le_trans (h1 _ _) ?_
 rw[List.length_reverse]
 exact Nat.le_refl _
theorem ZA{x:UInt8}{s a b:Str}(h:brk x s=some (a,b)):a.length+1+b.length=s.length:=by
 rcases Vl.EN x s with⟨h1,_⟩|⟨a',b',h1,_,h3,_⟩
 ·rw[h]at h1;cases h1
 ·rw[h]at h1;cases h1
  rw[h3];simp;omega
theorem Y9{B:Base}{T:Nat}{cc ct cn cg:aB}(hc:ow 58 cc)(ht:Uh B ct)(hn:qV fI cn)(hg:PD B dZ cg):Ri B fun args M Q=>∃ a0,args=[a0]∧qo T cc ct cn cg a0 M Q:=by
 intro M s Q hB hl hQ hQ2
 refine⟨_,rfl, ?_⟩
 unfold qo
 simp only[bL]
 have k0:ah [] M (M.push (.row [St [],St []] false T 0)):=(ah.refl _ _).push _
 have n0:(M.push (.row [St [],St []] false T 0)).heap M.next=some (.row [St [],St []] false T 0):=by simp[RM.push]
 have l0:M.next<(M.push (.row [St [],St []] false T 0)).next:=by simp[RM.push]
 generalize M.push (.row [St [],St []] false T 0)=M0 at *
 refine hc (by omega) ?_
 have main:∀ (a b:Str)(ok:Bool),a.length≤s.length→b.length≤s.length →
   (ok=true→brk 58 s=some (a,b))→(ok=false→brk 58 s=none) →
   ct [St b,St [32,9]] M0 (fun t16 M_1=>iV [(St []),(St [])] [(0,1,St a),(1,1,t16)] fun t17=>cz (.row [(St []),(St [])] false T 0) (fun b=>.ptr b 0) M_1 fun t7 M_2=>aR M_2 t7 t17 2 fun M_3=>bT M_3 t7 2 fun t18=>iH (Bo ok) true (fun k=>aZ t7 0 fun t21=>k t21 M_3 none) (fun k=>k .undef M_3 none) fun arY M_5 b=>iH (Bo ok) true (fun k_6=>au M_5 arY fun t22=>k_6 t22 M_5 none) (fun k=>k .undef M_5 none) fun asw M_8 b_9=>af (Bo ok) true (fun auz=>cn [asw] M_8 fun t23 ahb=>auz t23 ahb) (fun k=>k .undef M_8) fun apn aiR=>bT aiR t7 2 fun apz=>(apz=t18∧aM (Bo ok) apn (Bo false) fun t24=>iH t24 true (fun aw1=>aZ t7 1 fun t26=>aw1 t26 aiR none) (fun k=>k .undef aiR none) fun amL aiK b_17=>iH t24 true (fun azF=>au aiK amL fun t27=>azF t27 aiK none) (fun k=>k .undef aiK none) fun anX acZ b_21=>af t24 true (fun auq=>cg [anX] acZ fun t28 avN=>auq t28 avN) (fun k=>k .undef acZ) fun aop apa=>bT apa t7 2 fun an7=>(an7=t18∧aM t24 aop (Bo false) fun t29=>aR apa (.ptr M.next 0) t18 2 fun Nk=>bT Nk (.ptr M.next 0) 2 fun res=>Q (.tup [res,t29]) Nk))):=by
  intro a b ok ha hb e1 e2
  have htb:=Sn b
  refine ht (k0.base.trans hB) (by omega) fun M1 k1=>?_
  have n1:=k1.aV n0 l0 (by simp)
  have l1:M.next<M1.next:=Nat.lt_of_lt_of_le l0 k1.next
  rw[oF]
  refine⟨[St a,St (trimB b)],afe rfl rfl rfl rfl, ?_⟩
  simp only[bL]
  have n2:(M1.push (.row [St [],St []] false T 0)).heap M1.next=some (.row [St [],St []] false T 0):=by simp[RM.push]
  rw[jo n2 (by rfl) (by rfl) (by rfl)]
  have k3:ah [] M1 ((M1.push (.row [St [],St []] false T 0)).put M1.next (.row [St a,St (trimB b)] false T 0)):=((ah.refl _ _).push _).new _ (Nat.le_refl _)
  have n3:((M1.push (.row [St [],St []] false T 0)).put M1.next (.row [St a,St (trimB b)] false T 0)).heap M1.next=some (.row [St a,St (trimB b)] false T 0):=aO _
  have l3:M1.next<((M1.push (.row [St [],St []] false T 0)).put M1.next (.row [St a,St (trimB b)] false T 0)).next:=by simp[RM.push,RM.put]
  generalize (M1.push (.row [St [],St []] false T 0)).put M1.next (.row [St a,St (trimB b)] false T 0)=M3 at *
  rw[dK n3 (by rfl)]
  have kM:ah [] M M3:=k0.trans (k1.trans k3)
  have fin:∀ (M5:RM)(r:Bool),ah [] M3 M5→((gU s=some (a,trimB b)∧r=true)∨(gU s=none∧r=false)) →
    aR M5 (.ptr M.next 0) (.agg [St a,St (trimB b)]) 2 fun Nk=>bT Nk (.ptr M.next 0) 2 fun res=>Q (.tup [res,Bo r]) Nk:=by
   intro M5 r k5 hr
   have n5:=k5.aV (k3.aV n1 l1 (by simp)) (Nat.lt_of_lt_of_le l1 k3.next) (by simp)
   rw[jo n5 (by rfl) (by rfl) (by rfl)]
   rw[dK (aO _) (by rfl)]
   have kk:ah [] M (M5.put M.next (.row [St a,St (trimB b)] false T 0)):=(kM.trans k5).new _ (Nat.le_refl _)
   rcases hr with⟨h1,rfl⟩|⟨h1,rfl⟩
   ·exact hQ _ _ h1 kk
   ·exact hQ2 _ _ _ h1 kk
  cases ok with
  |false =>
   have e:gU s=none:=by unfold gU;rw[e2 rfl]
   have hf:=fin M3 false (ah.refl _ _) (.inr ⟨e,rfl⟩)
   simp only[Ko,iN]
   rw[dK n3 (by rfl)]
   refine⟨rfl, ?_⟩
   simp only[eQ,Ko,iN]
   rw[dK n3 (by rfl)]
   refine⟨rfl, ?_⟩
   try simp only[eQ]
   exact hf
  |true =>
   simp only[Sv,fD]
   rw[aT n3 (by rfl:([St a,St (trimB b)]:List AV)[0]?=some (St a))]
   simp only[iM]
   refine hn (by omega) fun M4 k4=>?_
   try dsimp only
   have n4:=k4.aV n3 l3 (by simp)
   have l4:M1.next<M4.next:=Nat.lt_of_lt_of_le l3 k4.next
   rw[dK n4 (by rfl)]
   refine⟨rfl, ?_⟩
   simp only[gq]
   cases hgn:fI a with
   |false =>
    have e:gU s=none:=by unfold gU;rw[e1 rfl];simp[hgn]
    simp only[Ko,iN]
    rw[dK n4 (by rfl)]
    refine⟨rfl, ?_⟩
    simp only[eQ]
    exact fin M4 false k4 (.inr ⟨e,rfl⟩)
   |true =>
    simp only[Sv]
    rw[aT n4 (by rfl:([St a,St (trimB b)]:List AV)[1]?=some (St (trimB b)))]
    simp only[iM]
    refine hg ((k0.trans (k1.trans (k3.trans k4))).base.trans hB) (by omega) fun M5 k5=>?_
    try dsimp only
    have n5:=k5.aV n4 l4 (by simp)
    rw[dK n5 (by rfl)]
    refine⟨rfl, ?_⟩
    simp only[gq]
    refine fin M5 _ (k4.trans k5) ?_
    unfold gU
    rw[e1 rfl]
    simp only[hgn,Bool.true_and]
    cases dZ (trimB b)<;>simp
 unfold wR
 cases hb:brk 58 s with
 |none =>
  simp only[dQ,dV,ik]
  exact main s [] false (Nat.le_refl _) (by simp) (fun h=>by cases h) (fun _=>hb)
 |some p =>
  obtain⟨a,b⟩:=p
  have:=ZA hb
  simp only[dQ,dV,ik]
  exact main a b true (by omega) (by omega) (fun _=>hb) (fun h=>by cases h)
def crlf:Str→Option (Str×Str)
 |[]=>none
 |[_]=>none
 |x::y::t=>match x==13&&y==10 with
  |true=>some ([],t)
  |false=>match crlf (y::t)with
   |none=>none
   |some p=>some (x::p.1,p.2)
theorem GM:∀ s:Str,(crlf s=none∧Lib.index s [13,10]=-1)∨∃ a b,crlf s=some (a,b)∧Lib.index s [13,10]=(a.length:Int)∧s=a++13::10::b
 |[]=>.inl ⟨rfl,by decide⟩
 |[x]=>.inl ⟨rfl,by
   have h:([13,10]:Str).isPrefixOf [x]=false:=by simp[List.isPrefixOf]
   simp[Lib.index,h]⟩
 |x::y::t=>by
  unfold crlf
  cases h:x==13&&y==10
  ·have hp:([13,10]:Str).isPrefixOf (x::y::t)=false:=by
    simp only[List.isPrefixOf,Bool.and_true]
    rw[show((13:UInt8)==x)=(x==13)from Bool.beq_comm ..,show((10:UInt8)==y)=(y==10)from Bool.beq_comm ..]
    exact h
   rcases GM (y::t)with⟨h1,h2⟩|⟨a,b,h1,h2,h3⟩
   ·refine .inl ⟨by simp only[h1], ?_⟩
    rw[Lib.index,hp]
    simp[h2]
   ·refine .inr ⟨x::a,b,by simp only[h1], ?_,by rw[h3];rfl⟩
    rw[Lib.index,hp]
    simp only[h2]
    have:((a.length:Int) == -1)=false:=by simp
    simp[this]
  ·simp only[Bool.and_eq_true,beq_iff_eq]at h
   obtain⟨rfl,rfl⟩:=h
   exact .inr ⟨[],t,rfl,by simp[Lib.index,List.isPrefixOf],rfl⟩
def Pj(B:Base)(c:aB):Prop:=∀ {M:RM}{v w:AV}{s:Str}{Q:aj},M.base=B→Bs M v s→Bs M w [13,10]→s.length≤1000000000→Q (N .i64 (Lib.index s [13,10])) M→c [v,w] M Q
theorem Xt{T:Nat}{M:RM}{K:aj}(hK:∀ v M',Bs M' v [13,10]→ah [] M M'→K v M') :
  jN T 2 [(N .u8 0)] [(0,1,(N .u8 13)),(1,1,(N .u8 10))] fun r f=>cz r f M fun t14 M=>PE t14 M fun t15 M_0=>K t15 M_0:=by
 refine⟨[N .u8 13,N .u8 10],rfl, ?_⟩
 simp only[bL]
 refine⟨M.next,0,2,2,[N .u8 13,N .u8 10],T,rfl,by simp[RM.push], ?_⟩
 refine hK _ _ ⟨?_,Nat.le_refl _⟩ (((ah.refl _ _).push _).new _ (Nat.le_refl _))
 refine aW.slc _ _ _ _ _ (by simp[RM.push,RM.put]) ?_
 rw[RM.gW (aO _) (by decide)]
 rfl
def qY(b:Str)(at' : Nat):Except Nat (Str×Nat):=match crlf ((b.take 2048).drop at')with
 |some p=>.ok (p.1,at'+p.1.length+2)
 |none=>match Nat.blt b.length 2048 with
  |true=>.error 15
  |false=>.error 2
def abp(B:Base)(c:aB):Prop:=∀ {M:RM}{v:AV}{b:Str}{at' : Nat}{Q:aj},M.base=B→Bs M v b→at'≤b.length→at'≤2048→b.length≤1000000000 →
 (∀ s n M',qY b at'=.ok (s,n)→n≤b.length→n≤2048→s.length≤2048→ah [] M M'→Q (.tup [St s,N .i64 (n:Int),N .i64 0]) M')→(∀ (e:Nat) M',qY b at'=.error e→(e=15∨e=2)→ah [] M M'→Q (.tup [St [],N .i64 0,N .i64 (e:Int)]) M')→c [v,N .i64 (at' : Int)] M Q
theorem aff{B:Base}{T:Nat}{ci:aB}(hi:Pj B ci):abp B fun args M Q=>∃ a0 a1,args=[a0,a1]∧tH T ci a0 a1 M Q:=by
 intro M v b at' Q hB hv h1 h2 hl hQ hE
 refine⟨_,_,rfl, ?_⟩
 unfold tH
 rw[hv.len,afH]
 have hm:(if false=true then(if (2048:Int)>(b.length:Int)then(2048:Int)else(b.length:Int))else if (2048:Int)<(b.length:Int)then 2048 else(b.length:Int))=((min b.length 2048:Nat):Int):=by
  simp only[Bool.false_eq_true,if_false]
  split<;>omega
 rw[hm]
 refine hv.sub (nA _ _ _) (nA _ _ _) (by omega) (by omega) fun v' hv' hsub=>?_
 have hw:(b.drop at').take (min b.length 2048-at')=(b.take 2048).drop at':=by
  rw[List.drop_take]
  apply List.take_eq_take_iff.2
  rw[List.length_drop];omega
 rw[hw]at hv'
 refine Xt fun w M1 hw1 k1=>?_
 have hwl:((b.take 2048).drop at').length=min 2048 b.length-at':=by simp
 refine hi (k1.base.trans hB) (hv'.keep k1 (by simp)) hw1 (by rw[hwl];omega) ?_
 have hv1:=hv.keep k1 (by simp)
 rcases GM ((b.take 2048).drop at')with⟨e1,e2⟩|⟨a,r,e1,e2,e3⟩
 ·rw[e2,fe,show decide ((-1:Int)≥0)=false from rfl,di,hv1.len,j5]
  by_cases hs:b.length<2048
  ·rw[show decide ((b.length:Int)<2048)=true by simp;omega,dE]
   exact hE 15 _ (by unfold qY;rw[e1];rw[show Nat.blt b.length 2048=true by rw[Nat.blt_eq];exact hs]) (.inl rfl) k1
  ·rw[show decide ((b.length:Int)<2048)=false by simp;omega,di]
   have:Nat.blt b.length 2048=false:=by
    cases h:Nat.blt b.length 2048
    ·rfl
    ·rw[Nat.blt_eq]at h;exact absurd h hs
   exact hE 2 _ (by unfold qY;rw[e1];simp only[this]) (.inr rfl) k1
 ·have hal:a.length+2+r.length=min 2048 b.length-at':=by
   rw[← hwl,e3];simp;omega
  rw[e2,fe,show decide ((a.length:Int)≥0)=true by simp,dE,addN (by omega)]
  refine hv1.sub (nA _ _ _) (nA _ _ _) (by omega) (by omega) fun v2 hv2 _=>?_
  have htk:(b.drop at').take (at'+a.length-at')=a:=by
   have:(b.drop at').take a.length=((b.take 2048).drop at').take a.length:=by
    rw[List.drop_take,List.take_take];congr 1;omega
   rw[Nat.add_sub_cancel_left,this,e3];simp
  rw[htk]at hv2
  rw[hv2.str,addN (by omega),show(N .i64 2)=(N .i64 ((2:Nat):Int))from rfl,addN (by omega)]
  exact hQ _ _ _ (by unfold qY;rw[e1]) (by omega) (by omega) (by omega) k1
def hloop(b:Str):Nat→Nat→List Hd→Except Nat (List Hd×Nat)
 |f,at',l=>match qY b at' with
  |.error e=>.error e
  |.ok (s,n)=>match s with
   |[]=>.ok (l,n)
   |_::_=>match f with
    |0=>.error 2
    |f+1=>match gU s with
     |none=>.error 14
     |some h=>hloop b f n (l++[h])
theorem nE(b:Str)(f at' : Nat)(l:List Hd):hloop b f at' l=(match qY b at' with
  |.error e=>.error e
  |.ok (s,n)=>match s with
   |[]=>.ok (l,n)
   |_::_=>match f with
    |0=>.error 2
    |f+1=>match gU s with
     |none=>.error 14
     |some h=>hloop b f n (l++[h])):=by rw[hloop.eq_def]
def headD(p:Str→Bool)(b:Str):Except Nat (Str×List Hd×Nat):=match qY b 0 with
 |.error e=>.error e
 |.ok (s,n)=>match p s with
  |false=>.error 14
  |true=>match hloop b 32 n []with
   |.error e=>.error e
   |.ok (l,at')=>.ok (s,l,at')
def Ph(B:Base)(cv:FuncId→aB)(a1:AV)(p:Str→Bool)(br:Nat)(X0:RB)(X:Str→RB):Prop:=∀ {M:RM}{s:Str}{K:aj},M.base=B→br<M.next→M.heap br=some X0→s.length≤2048 →
 (p s=false→∀ M',ah [br] M M'→K (Bo false) M')→(p s=true→∀ M',ah [br] M M'→M'.heap br=some (X s)→K (Bo true) M')→GX cv a1 [St s] M K
def Ul(B:Base)(a1:AV)(p:Str→Bool)(br:Nat)(X0:RB)(X:Str→RB)(T:Nat)(c:aB):Prop:=∀ {M:RM}{v:AV}{b:Str}{Q:aj},M.base=B→Bs M v b→b.length≤1000000000→br<M.next→br∉aJ v→M.heap br=some X0 →
 (∀ (e:Nat) M',headD p b=.error e→(e=15∨e=2∨e=14)→ah [br] M M'→Q (.tup [bC,N .i64 0,N .i64 (e:Int)]) M') →
 (∀ s l at' hv M',headD p b=.ok (s,l,at')→at'≤b.length→s.length≤2048→l.length≤32→ah [br] M M'→M'.heap br=some (X s)→Ow HD M' M.next T hv l→Q (.tup [hv,N .i64 (at' : Int),N .i64 0]) M')→c [v,a1] M Q
theorem adP{B:Base}{a1:AV}{p:Str→Bool}{br:Nat}{X0:RB}{X:Str→RB}{T:Nat}{cl ch:aB}{cv:FuncId→aB}(hL:abp B cl)(hH:Ri B ch)(hF:Ph B cv a1 p br X0 X) :
  Ul B a1 p br X0 X T fun args M Q=>∃ a0 a1,args=[a0,a1]∧tV cl cv ch T a0 a1 M Q:=by
 intro M v b Q hB hv hl hbr hbv hX0 hE hQ
 refine⟨_,_,rfl, ?_⟩
 unfold tV
 refine hL (at':=0) hB hv (Nat.zero_le _) (Nat.zero_le _) hl (fun s n M1 e1 n1 n2 hs k1=>?_) (fun e M1 e1 he k1=>?_)
 rotate_left
 ·simp only[dQ,dV,ik,iJ]
  rw[show(((e:Nat):Int) != 0)=true by rcases he with rfl|rfl<;>rfl,dE]
  exact hE e M1 (by unfold headD;rw[e1]) (by omega) (k1.mono (by simp))
 simp only[dQ,dV,ik,NP,di]
 have hX1:=k1.aV hX0 hbr (by simp)
 refine hF (k1.base.trans hB) (Nat.lt_of_lt_of_le hbr k1.next) hX1 hs (fun hp M2 k2=>?_) (fun hp M2 k2 hX2=>?_)
 ·simp only[fA,Bool.not_false,dE]
  exact hE 14 M2 (by unfold headD;rw[e1];simp only[hp]) (by omega) ((k1.mono (by simp)).trans k2)
 simp only[fA,Bool.not_true,di]
 have k12:ah [br] M M2:=(k1.mono (by simp)).trans k2
 have target:∀ r,hloop b 32 n []=r→headD p b=(match r with|.error e=>.error e|.ok (l,at')=>.ok (s,l,at')):=by
  rintro r rfl
  unfold headD;rw[e1];simp only[hp]
 have hbM:∀ x,M.next≤x→x≠br:=fun x hx e=>by omega
 refine bU (fun m ys M3=>∃ (at' : Nat)(hv:AV)(l:List Hd),ys=[hv,N .i64 (at' : Int)]∧l.length+m=32∧at'≤b.length∧at'≤2048∧Ow HD M3 M.next T hv l∧ah [br] M M3∧M3.heap br=some (X s)∧hloop b m at' l=hloop b 32 n []) _
  ⟨n,bC,[],rfl,rfl,n1,n2,.nil,k12,hX2,rfl⟩ ?_
 rintro next m ys M3 hnext ⟨at',hv',l,rfl,hlen,ha1,ha2,hO,k3,hX3,heq⟩
 simp only[bV,gY]
 have hv3:=hv.keep k3 (fun x hx hb=>by simp at hb;subst hb;exact hbv hx)
 refine hL (k3.base.trans hB) hv3 ha1 ha2 hl (fun t n' M4 e4 n41 n42 ht k4=>?_) (fun e M4 e4 he k4=>?_)
 rotate_left
 ·simp only[dQ,dV,ik,iJ]
  rw[show(((e:Nat):Int) != 0)=true by rcases he with rfl|rfl<;>rfl,dE]
  refine hE e M4 (target (.error e) ?_) (by omega) (k3.trans (k4.mono (by simp)))
  rw[← heq,nE,e4]
 simp only[dQ,dV,ik,NP,di,q9]
 have hO4:Ow HD M4 M.next T hv' l:=hO.keep k4 (by simp)
 have k34:ah [br] M M4:=k3.trans (k4.mono (by simp))
 have hX4:=k4.aV hX3 (Nat.lt_of_lt_of_le hbr k3.next) (by simp)
 cases t with
 |nil =>
  rw[show(([]:List UInt8) == [])=true from rfl,dE]
  refine hQ s l n' hv' M4 (target (.ok (l,n')) ?_) n41 hs (by omega) k34 hX4 hO4
  rw[← heq,nE,e4]
 |cons t0 ts =>
  rw[show((t0::ts:List UInt8) == [])=false from rfl,di,hO4.E5.len,fZ]
  cases m with
  |zero =>
   rw[show((l.length:Int)==32)=true by simp;omega,dE]
   refine hE 2 M4 (target (.error 2) ?_) (by omega) k34
   rw[← heq,nE,e4]
  |succ m =>
   rw[show((l.length:Int)==32)=false by simp;omega,di]
   have tail:∀ (a c:Str)(ok:Bool)(M5:RM),ah [] M4 M5→((ok=true∧gU (t0::ts)=some (a,c))∨(ok=false∧gU (t0::ts)=none)) →
     (bz (.tup [.agg [St a,St c],Bo ok]) 0 fun t46=>bz (.tup [.agg [St a,St c],Bo ok]) 1 fun t47 =>
      cz (.row [(St []),(St [])] false T 0) (fun b=>.ptr b 0) M5 fun t8 M_4=>aR M_4 t8 t46 2 fun M_5=>iF t47 fun t49=>aF t49 ( Q (.tup [(.sc (.slice none 0 0)),(N .i64 0),(N .i64 14)]) M_5) ( bT M_5 t8 2 fun t51=>jN T 1 [(St []),(St [])] [(0,2,t51)] fun r f=>cz r f M_5 fun t52 M_6=>appW T 2 32 [(St []),(St [])] false hv' t52 M_6 fun t53 M_7=>next [t53,N .i64 (n' : Int)] M_7)):=by
    intro a c ok M5 k5 hr
    simp only[dQ,dV,bL]
    have n5:(M5.push (.row [St [],St []] false T 0)).heap M5.next=some (.row [St [],St []] false T 0):=by simp[RM.push]
    rw[jo n5 (by rfl) (by rfl) (by rfl)]
    have k6:ah [] M5 ((M5.push (.row [St [],St []] false T 0)).put M5.next (.row [St a,St c] false T 0)):=((ah.refl _ _).push _).new _ (Nat.le_refl _)
    have n6:((M5.push (.row [St [],St []] false T 0)).put M5.next (.row [St a,St c] false T 0)).heap M5.next=some (.row [St a,St c] false T 0):=aO _
    generalize (M5.push (.row [St [],St []] false T 0)).put M5.next (.row [St a,St c] false T 0)=M6 at *
    have k46:ah [] M4 M6:=k5.trans k6
    rcases hr with⟨rfl,hh⟩|⟨rfl,hh⟩
    ·simp only[fA,Bool.not_true,di]
     rw[dK n6 (by rfl),Ot (by rfl) (by rfl) (by rfl)]
     simp only[bL]
     refine F7 (E:=HD) (a:=(a,c)) (hO4.keep k46 (by simp)) (Nat.le_trans (Nat.le_trans k34.next k46.next) (Nat.le_refl _)) (by decide) (by omega) (by omega) fun v7 M7 o7 k7 _ _=>?_
     have hb7:∀ x∈aJ hv',x≠br:=fun x hx=>hbM x (hO4.blk x hx).1
     refine hnext m _ _ (by omega) ⟨n',v7,l++[(a,c)],rfl,by simp;omega,n41,n42,o7, ?_, ?_, ?_⟩
     ·have:=(k34.trans (k46.mono (by simp)))
      refine⟨k7.base.trans this.base,Nat.le_trans this.next k7.next,fun x hx hb=>?_⟩
      have hlt:=Nat.lt_of_lt_of_le hx this.next
      rw[k7.heap x hlt (fun h=>by have:=(hO4.blk x h).1;omega),this.heap x hx hb]
     ·have h6:=k46.aV hX4 (Nat.lt_of_lt_of_le hbr k34.next) (by simp)
      exact k7.aV h6 (Nat.lt_of_lt_of_le hbr (Nat.le_trans k34.next k46.next)) (fun h=>hb7 _ h rfl)
     ·rw[← heq,nE b (m+1),e4]
      simp only[hh]
    ·simp only[fA,Bool.not_false,dE]
     refine hE 14 M6 (target (.error 14) ?_) (by omega) (k34.trans (k46.mono (by simp)))
     rw[← heq,nE,e4]
     simp only[hh]
   refine hH (k34.base.trans hB) (by omega) (fun h M5 hh k5=>?_) (fun a c M5 hh k5=>?_)
   ·exact tail h.1 h.2 true M5 k5 (.inl ⟨rfl,hh⟩)
   ·exact tail a c false M5 k5 (.inr ⟨rfl,hh⟩)
def isNamed(n:Str)(h:Hd):Bool:=low h.1==low n
def bD(l:List Hd)(n:Str):List Str:=(l.filter (isNamed n)).map (·.2)
theorem abC{l:List Hd}{n:Str}{i:Nat}(hi:i<l.length):bD (l.take (i+1)) n=bD (l.take i) n++(if isNamed n l[i]then[l[i].2]else[]):=by
 unfold bD
 rw[List.take_succ_eq_append_getElem hi,List.filter_append,List.map_append]
 congr 1
 cases h:isNamed n l[i]<;>simp[h]
def OJ(T:Nat)(c:aB):Prop:=∀ {M:RM}{v:AV}{l:List Hd}{n:Str}{Q:aj},Sl HD M v l→l.length≤1000000→(∀ h∈l,h.1.length<4611686018427387904)→n.length<4611686018427387904 →
 (∀ v' M',Ow tO M' M.next T v' (bD l n)→ah [] M M'→Q v' M')→c [v,St n] M Q
theorem abh{TH T:Nat}{cs:aB}(hs:MJ cs):OJ T fun args M Q=>∃ a0 a1,args=[a0,a1]∧rW TH cs T a0 a1 M Q:=by
 intro M v l n Q hv hl hnl hn hQ
 refine⟨_,_,rfl, ?_⟩
 unfold rW
 rw[aW.len hv]
 refine bU (fun m ys M3=>∃ (i:Nat)(o:AV),m=l.length-i∧ys=[o,N .i64 (i:Int)]∧i≤l.length∧Ow tO M3 M.next T o (bD (l.take i) n)∧ah [] M M3) _ ⟨0,bC,rfl,rfl,Nat.zero_le _,.nil,ah.refl _ _⟩ ?_
 rintro next m ys M3 hnext ⟨i,o,rfl,rfl,hi,hO,k3⟩
 simp only[bV,gY,Ih]
 refine cK (fun h=>?_) fun h=>?_
 ·have hlt:i<l.length:=by simpa using h
  have hv3:Sl HD M3 v l:=aW.keep hv k3 (by simp)
  obtain⟨b,off,hb,_,hix,hld⟩:=hv3.at 2 (i:Int) hlt
  rw[lS,hix,JV]
  refine⟨_,hld, ?_⟩
  simp only[bL]
  have n4:(M3.push (.row [St [],St []] false TH 0)).heap M3.next=some (.row [St [],St []] false TH 0):=by simp[RM.push]
  rw[jo n4 (by rfl) (by rfl) (by rfl)]
  have k4:ah [] M3 ((M3.push (.row [St [],St []] false TH 0)).put M3.next (.row (HD.cells l[i]) false TH 0)):=((ah.refl _ _).push _).new _ (Nat.le_refl _)
  have n5:((M3.push (.row [St [],St []] false TH 0)).put M3.next (.row (HD.cells l[i]) false TH 0)).heap M3.next=some (.row (HD.cells l[i]) false TH 0):=aO _
  have l5:M3.next<((M3.push (.row [St [],St []] false TH 0)).put M3.next (.row (HD.cells l[i]) false TH 0)).next:=by simp[RM.push,RM.put]
  generalize (M3.push (.row [St [],St []] false TH 0)).put M3.next (.row (HD.cells l[i]) false TH 0)=M4 at *
  rw[fD,aT n5 (by rfl:(HD.cells l[i])[0]?=some (St l[i].1))]
  refine hs (by have:=hnl l[i] (List.getElem_mem hlt);omega) fun M5 k5=>?_
  refine hs (by omega) fun M6 k6=>?_
  have k46:=k4.trans (k5.trans k6)
  have n6:=(k5.trans k6).aV n5 l5 (by simp)
  simp only[q9,add1 (show i<4611686018427387904 by omega)]
  have nt:=abC (n:=n) hlt
  refine cK (fun h=>?_) fun h=>?_
  ·have hin:isNamed n l[i]=true:=h
   rw[hin,if_pos rfl]at nt
   rw[fD,aT n6 (by rfl:(HD.cells l[i])[1]?=some (St l[i].2)),Ot (by rfl) (by rfl) (by rfl)]
   simp only[bL]
   have hO6:Ow tO M6 M.next T o (bD (l.take i) n):=hO.keep k46 (by simp)
   have hlen:(bD (l.take i) n).length≤1000000:=by
    unfold bD
    rw[List.length_map]
    refine Nat.le_trans (List.length_filter_le _ _) ?_
    simp;omega
   refine F7 (E:=tO) (a:=l[i].2) hO6 (Nat.le_trans k3.next k46.next) (by decide) (by omega) (by omega) fun v7 M7 o7 k7 _ _=>?_
   refine hnext _ _ _ (by omega) ⟨i+1,v7,rfl,rfl,by omega,by rw[nt];exact o7, ?_⟩
   have kk:=k3.trans k46
   refine⟨k7.base.trans kk.base,Nat.le_trans kk.next k7.next,fun x hx hb=>?_⟩
   rw[k7.heap x (Nat.lt_of_lt_of_le hx kk.next) (fun h=>by have:=(hO6.blk x h).1;omega),kk.heap x hx hb]
  ·have hin:isNamed n l[i]=false:=h
   rw[hin,if_neg (by decide),List.append_nil]at nt
   exact hnext _ _ _ (by omega) ⟨i+1,o,rfl,rfl,by omega,by rw[nt];exact hO.keep k46 (by simp),k3.trans k46⟩
 ·have:i=l.length:=by simp at h;omega
  subst this
  rw[List.take_length]at hO
  exact hQ o M3 hO k3
def qG:List Str→AV
 |[]=>.tup [St [],Bo false]
 |s::_=>.tup [St s,Bo true]
def abY(c:aB):Prop:=∀ {M:RM}{v:AV}{l:List Hd}{n:Str}{Q:aj},Sl HD M v l→l.length≤1000000→(∀ h∈l,h.1.length<4611686018427387904)→n.length<4611686018427387904 →
 (∀ M',ah [] M M'→Q (qG (bD l n)) M')→c [v,St n] M Q
theorem Iq{T:Nat}{cn:aB}(hn:OJ T cn):abY fun args M Q=>∃ a0 a1,args=[a0,a1]∧rR cn a0 a1 M Q:=by
 intro M v l n Q hv hl h1 h2 hQ
 refine⟨_,_,rfl, ?_⟩
 unfold rR
 refine hn hv hl h1 h2 fun v' M1 o k1=>?_
 have hs:Sl tO M1 v' (bD l n):=Own.E5 o
 rw[hs.len,fJ]
 have hQ:=hQ M1 k1
 generalize bD l n=xs at *
 cases xs with
 |nil =>
  rw[show decide ((([]:List Str).length:Int)>0)=false from rfl,di]
  exact hQ
 |cons x xs =>
  rw[show decide (((x::xs).length:Int)>0)=true by simp,dE]
  obtain⟨b,o',_,_,hix,hld⟩:=hs.at 1 0 (i:=0) (by simp)
  rw[hix,fu]
  exact⟨_,iI.1 hld,hQ⟩
theorem agE{T:Nat}{cf:aB}(hf:abY cf){M:RM}{x y v:AV}{tl:List AV}{l:List Hd}{n:Str}{Q:aj}(hv:Sl HD M v l)(hl:l.length≤1000000)(h1:∀ h∈l,h.1.length<4611686018427387904)(h2:n.length<4611686018427387904)
  (hc:(x::y::v::tl).all oneCell=true) (hQ:∀ M',ah [] M M'→Q (qG (bD l n)) M'):lK T cf (.agg (x::y::v::tl)) (St n) M Q:=by
 unfold lK
 rw[vQ hc (by simp)]
 simp only[bL]
 have k1:ah [] M (M.push (.row (x::y::v::tl) false T 0)):=(ah.refl _ _).push _
 have n1:(M.push (.row (x::y::v::tl) false T 0)).heap M.next=some (.row (x::y::v::tl) false T 0):=by simp[RM.push]
 rw[fD,aT n1 (by rfl:(x::y::v::tl)[2]?=some v)]
 refine hf (aW.keep hv k1 (by simp)) hl h1 h2 fun M2 k2=>?_
 have:=hQ M2 (k1.trans k2)
 generalize bD l n=xs at *
 cases xs<;>simpa only[qG,dQ,dV]using this
theorem adF{T:Nat}{cf:aB}(hf:abY cf){M:RM}{x v:AV}{tl:List AV}{l:List Hd}{n:Str}{Q:aj}(hv:Sl HD M v l)(hl:l.length≤1000000)(h1:∀ h∈l,h.1.length<4611686018427387904)(h2:n.length<4611686018427387904)
  (hc:(x::v::tl).all oneCell=true) (hQ:∀ M',ah [] M M'→Q (qG (bD l n)) M'):kQ T cf (.agg (x::v::tl)) (St n) M Q:=by
 unfold kQ
 rw[vQ hc (by simp)]
 simp only[bL]
 have k1:ah [] M (M.push (.row (x::v::tl) false T 0)):=(ah.refl _ _).push _
 have n1:(M.push (.row (x::v::tl) false T 0)).heap M.next=some (.row (x::v::tl) false T 0):=by simp[RM.push]
 rw[fD,aT n1 (by rfl:(x::v::tl)[1]?=some v)]
 refine hf (aW.keep hv k1 (by simp)) hl h1 h2 fun M2 k2=>?_
 have:=hQ M2 (k1.trans k2)
 generalize bD l n=xs at *
 cases xs<;>simpa only[qG,dQ,dV]using this
def aaX(B:Base)(c:aB):Prop:=∀ {M:RM}{v w:AV}{s:Str}{Q:aj},M.base=B→Bs M v s→Bs M w [13,10]→s.length≤1000000000 →
 (∀ a r v1 v2,crlf s=some (a,r)→Bs M v1 a→Q (.tup [v1,v2,Bo true]) M)→(crlf s=none→Q (.tup [v,bC,Bo false]) M)→c [v,w] M Q
theorem BA{s a r:Str}(h:crlf s=some (a,r)):s=a++13::10::r∧a.length+2+r.length=s.length:=by
 rcases GM s with⟨h1,_⟩|⟨a',r',h1,_,h3⟩
 ·rw[h]at h1;cases h1
 ·rw[h]at h1;cases h1
  refine⟨h3, ?_⟩
  rw[h3];simp;omega
theorem aeZ{B:Base}{ci:aB}(hi:Pj B ci):aaX B fun args M Q=>∃ a0 a1,args=[a0,a1]∧DU ci a0 a1 M Q:=by
 intro M v w s Q hB hv hw hl hQ hN
 refine⟨_,_,rfl, ?_⟩
 unfold DU
 refine hi hB hv hw hl ?_
 rcases GM s with⟨e1,e2⟩|⟨a,r,e1,e2,e3⟩
 ·rw[e2,fe,show decide ((-1:Int)≥0)=false from rfl,di]
  exact hN e1
 ·have hal:=(BA e1).2
  rw[e2,fe,show decide ((a.length:Int)≥0)=true by simp,dE]
  refine hv.sub (V6 0) (nA _ _ _) (Nat.zero_le _) (by omega) fun v1 hv1 _=>?_
  rw[hw.len,addN (show a.length+([13,10]:Str).length<4611686018427387904 by simp;omega)]
  refine hv.sub (nA _ _ _) (V6 _) (by simp;omega) (Nat.le_refl _) fun v2 hv2 _=>?_
  refine hQ a r v1 v2 e1 ?_
  have:(s.drop 0).take (a.length-0)=a:=by rw[e3];simp
  rw[this]at hv1;exact hv1
def rY(x:UInt8):Nat:=if x.toNat≤57 then x.toNat-48 else if x.toNat≤90 then x.toNat-55 else x.toNat-87
def qw(s:Str):Nat:=s.foldl (fun n x=>n*16+rY x) 0
def jR(s:Str):Nat:=s.foldl (fun n x=>n*10+(x.toNat-48)) 0
def QT(c:aB):Prop:=∀ {M:RM}{s:Str}{Q:aj},1≤s.length→s.length≤8→(low s).all qx=true→(∀ M',ah [] M M'→Q (.tup [N .u64 (qw s:Int),.sc .nilIface]) M')→c [St s,N .i64 16,N .i64 64] M Q
def acK(c:aB):Prop:=∀ {M:RM}{s:Str}{Q:aj},1≤s.length→s.length≤9→s.all fQ=true→(∀ M',ah [] M M'→Q (.tup [N .i64 (jR s:Int),.sc .nilIface]) M')→c [St s] M Q
theorem aat{x:UInt8}(h:qx (bO x)=true):rY x<16:=by
 unfold qx fQ at h
 unfold rY
 simp only[Bool.or_eq_true,Bool.and_eq_true,decide_eq_true_eq]at h
 have hx:=qX x
 have hl:(bO x).toNat=x.toNat∨((bO x).toNat=x.toNat+32∧65≤x.toNat∧x.toNat≤90):=by
  unfold bO
  split
  ·right
   refine⟨?_,by omega,by omega⟩
   rw[UInt8.toNat_add]
   show(x.toNat+32)%256=_
   omega
  ·exact .inl rfl
 split
 ·omega
 ·split<;>omega
theorem Yj:∀ (s:Str)(n:Nat),(low s).all qx=true→s.foldl (fun n x=>n*16+rY x) n<(n+1)*16^s.length
 |[],n,_=>by simp
 |x::s,n,h=>by
  simp only[low,List.map_cons,List.all_cons,Bool.and_eq_true]at h
  have hd:=aat h.1
  have:=Yj s (n*16+rY x) h.2
  rw[List.foldl_cons]
  refine Nat.lt_of_lt_of_le this ?_
  rw[List.length_cons,Nat.pow_succ,Nat.mul_comm (16^s.length) 16,← Nat.mul_assoc]
  exact Nat.mul_le_mul_right _ (by omega)
theorem aad{s:Str}(h:(low s).all qx=true)(hl:s.length≤8):qw s<4294967296:=by
 have:=Yj s 0 h
 unfold qw
 refine Nat.lt_of_lt_of_le this ?_
 rw[Nat.zero_add,Nat.one_mul]
 exact Nat.le_trans (Nat.pow_le_pow_right (by decide) hl) (by decide)
def yK(s:Str):Bool:=jX s 1 8&&(low s).all qx
def wJ(r:Str):Except Nat (Nat×Str):=match crlf r with
 |none=>match Nat.blt 10 r.length with
  |true=>.error 14
  |false=>.error 15
 |some p=>match yK p.1 with
  |true=>.ok (qw p.1,p.2)
  |false=>.error 14
def acn(B:Base)(c:aB):Prop:=∀ {M:RM}{v:AV}{b:Str}{at' : Nat}{Q:aj},M.base=B→Bs M v b→at'≤b.length→b.length≤1000000000 →
 (∀ n r at2 M',wJ (b.drop at')=.ok (n,r)→at2≤b.length→at'+2<at2→b.drop at2=r→n<4294967296→ah [] M M'→Q (.tup [N .i64 (n:Int),N .i64 (at2:Int),N .i64 0]) M') →
 (∀ (e:Nat) M',wJ (b.drop at')=.error e→(e=14∨e=15)→ah [] M M'→Q (.tup [N .i64 0,N .i64 0,N .i64 (e:Int)]) M')→c [v,N .i64 (at' : Int)] M Q
theorem aeF{B:Base}{T g:Nat}{cc cw cs ca cp:aB}(hc:aaX B cc)(hw:Al cw)(hs:MJ cs)(ha:qB qx (.fn (.func g) [] []) ca)(hp:QT cp) :
  acn B fun args M Q=>∃ a0 a1,args=[a0,a1]∧tK T cc cw cs ca g cp a0 a1 M Q:=by
 intro M v b at' Q hB hv h1 hl hQ hE
 refine⟨_,_,rfl, ?_⟩
 unfold tK
 refine hv.sub (nA _ _ _) (V6 _) h1 (Nat.le_refl _) fun v1 hv1 _=>?_
 have hd:(b.drop at').take (b.length-at')=b.drop at':=List.take_of_length_le (by simp)
 rw[hd]at hv1
 refine Xt fun w M1 hw1 k1=>?_
 have hv2:=hv1.keep k1 (by simp)
 have hdl:(b.drop at').length=b.length-at':=by simp
 refine hc (k1.base.trans hB) hv2 hw1 (by rw[hdl];omega) (fun a r u1 u2 hcr hu1=>?_) (fun hcr=>?_)
 ·have hlen:=(BA hcr).2
  simp only[dQ,dV,ik,fA,Bool.not_true,dW,iN,eQ,di]
  rw[hu1.str]
  refine hw ?_
  simp only[fA]
  -- the two tests
  have tail:∀ M2,ah [] M M2→Bs M2 u1 a→((aF (Bo (!yK a)) (Q (.tup [(N .i64 0),(N .i64 0),(N .i64 14)]) M2) (
    kD M2 u1 fun t44=>cp [t44,(N .i64 16),(N .i64 64)] M2 fun t45 Nk=>bz t45 0 fun t46=>bz t45 1 fun t47=>iR .i64 t46 fun t49=>bS u1 fun t52=>ag .add (N .i64 (at' : Int)) t52 fun t53=>ag .add t53 (N .i64 2) fun t54=>Q (.tup [t49,t54,(N .i64 0)]) Nk))):=by
   intro M2 k2 hu2
   refine cK (fun h=>?_) fun h=>?_
   ·have hk:yK a=false:=by simpa using h
    exact hE 14 M2 (by unfold wJ;rw[hcr];simp only[hk]) (.inl rfl) k2
   ·have hk:yK a=true:=by simpa using h
    have hk':=hk
    unfold yK jX at hk'
    simp only[Bool.and_eq_true,decide_eq_true_eq]at hk'
    rw[hu2.str]
    refine hp (by omega) (by omega) hk'.2 fun M3 k3=>?_
    have hlt:=aad hk'.2 (by omega)
    simp only[dQ,dV,iW]
    rw[bM (by omega) (by omega),hu2.len,addN (by omega),show(N .i64 2)=(N .i64 ((2:Nat):Int))from rfl,addN (by omega)]
    refine hQ (qw a) r (at'+a.length+2) M3 (by unfold wJ;rw[hcr];simp only[hk]) (by omega) (by omega) ?_ hlt (k2.trans k3)
    have e3:=(BA hcr).1
    rw[show at'+a.length+2=at'+(a.length+2) by omega,← List.drop_drop,e3,← List.drop_drop]
    simp
  cases hwi:jX a 1 8 with
  |false =>
   simp only[Bool.not_false,dY,gq]
   have:=tail M1 k1 hu1
   unfold yK at this
   rw[hwi]at this
   simpa only[Bool.false_and,Bool.not_false]using this
  |true =>
   simp only[Bool.not_true,bN,eQ]
   rw[hu1.str]
   refine hs (by omega) fun M2 k2=>?_
   refine ha (by rw[low,List.length_map];omega) fun M3 k3=>?_
   have k23:=k2.trans k3
   have:=tail M3 (k1.trans k23) (hu1.keep k23 (by simp))
   unfold yK at this
   rw[hwi]at this
   simpa only[fA,Bool.true_and,eQ]using this
 ·simp only[dQ,dV,ik,fA,Bool.not_false,dW,iM,gq]
  rw[hv2.len,fJ,hdl]
  by_cases h10:10<b.length-at'
  ·rw[show decide (((b.length-at' : Nat):Int)>10)=true by simp;omega,dE]
   exact hE 14 M1 (by unfold wJ;rw[hcr];simp only[hdl];rw[show Nat.blt 10 (b.length-at')=true by rw[Nat.blt_eq];exact h10]) (.inl rfl) k1
  ·rw[show decide (((b.length-at' : Nat):Int)>10)=false by simp;omega,di,dE]
   refine hE 15 M1 ?_ (.inr rfl) k1
   unfold wJ;rw[hcr];simp only[hdl]
   have:Nat.blt 10 (b.length-at')=false:=by
    cases h:Nat.blt 10 (b.length-at')
    ·rfl
    ·rw[Nat.blt_eq]at h;exact absurd h h10
   rw[this]
end Go.Ab.Hw
namespace Go.Ab.Hw
open Go Go.Ab Go.Ab.Sm
theorem ah.own{bs:List Nat}{M M1 M2:RM}{v:AV}(k1:ah bs M M1)(k2:ah (aJ v) M1 M2)(hv:∀ b∈aJ v,M.next≤b):ah bs M M2 :=
 ⟨k2.base.trans k1.base,Nat.le_trans k1.next k2.next,fun x hx hb=>by
  rw[k2.heap x (Nat.lt_of_lt_of_le hx k1.next) (fun h=>by have:=hv x h;omega),k1.heap x hx hb]⟩
def gB:Nat→Str→Str→Except Nat (Str×Str)
 |0,_,_=>.error 99
 |f+1,r,out=>match wJ r with
  |.error e=>.error e
  |.ok (n,r1)=>match Nat.blt (16384-out.length) n with
   |true=>.error 2
   |false=>match Nat.blt r1.length (n+2)with
    |true=>.error 15
    |false=>match (r1.drop n).take 2 == [13,10]with
     |false=>.error 14
     |true=>match Nat.beq n 0 with
      |true=>.ok (out,r1.drop 2)
      |false=>gB f (r1.drop (n+2)) (out++r1.take n)
theorem Pp{a b:Nat}(h:a<b):Nat.blt a b=true:=by rw[Nat.blt_eq];exact h
theorem pW{a b:Nat}(h:¬ a<b):Nat.blt a b=false:=by
 cases e:Nat.blt a b
 ·rfl
 ·rw[Nat.blt_eq]at e;exact absurd e h
theorem amW{n:Nat}(h:n≠0):Nat.beq n 0=false:=by cases n<;>first|exact absurd rfl h|rfl
theorem adM{r r1:Str}{n:Nat}(h:wJ r=.ok (n,r1)):r1.length+2<r.length:=by
 unfold wJ at h
 split at h
 ·split at h<;>cases h
 ·rename_i p hp
  obtain⟨a,q⟩:=p
  have:=(BA hp).2
  split at h
  ·rename_i hk
   cases h
   unfold yK jX at hk
   simp only[Bool.and_eq_true,decide_eq_true_eq]at hk
   show q.length+2<r.length
   omega
  ·cases h
theorem Kk:∀ (f g:Nat)(r out:Str),r.length<f→r.length<g→gB f r out=gB g r out
 |0,_,_,_,h,_=>absurd h (by omega)
 |_,0,_,_,_,h=>absurd h (by omega)
 |f+1,g+1,r,out,h1,h2=>by
  rw[gB,gB]
  cases hs:wJ r with
  |error e=>rfl
  |ok p =>
   obtain⟨n,r1⟩:=p
   have:=adM hs
   dsimp only
   repeat' split
   all_goals first|rfl|skip
   exact Kk f g _ _ (by simp;omega) (by simp;omega)
def Oc(B:Base)(T:Nat)(c:aB):Prop:=∀ {M:RM}{v:AV}{b:Str}{at' : Nat}{Q:aj},M.base=B→Bs M v b→at'≤b.length→b.length≤1000000000 →
 (∀ out r at2 ov M',gB (b.length-at'+1) (b.drop at') []=.ok (out,r)→at2≤b.length→at'≤at2→b.drop at2=r→out.length≤16384→ah [] M M'→Ow BY M' M.next T ov out→Q (.tup [ov,N .i64 (at2:Int),N .i64 0]) M') →
 (∀ (e:Nat) M',gB (b.length-at'+1) (b.drop at') []=.error e→(e=14∨e=15∨e=2)→ah [] M M'→Q (.tup [bC,N .i64 0,N .i64 (e:Int)]) M')→c [v,N .i64 (at' : Int)] M Q
theorem Vo{B:Base}{T:Nat}{cs:aB}(hs:acn B cs):Oc B T fun args M Q=>∃ a0 a1,args=[a0,a1]∧oP cs T a0 a1 M Q:=by
 intro M v b at0 Q hB hv h0 hl hQ hE
 refine⟨_,_,rfl, ?_⟩
 unfold oP
 generalize hr0:gB (b.length-at0+1) (b.drop at0) []=target at *
 refine bU (fun m ys M3=>∃ (at' : Nat)(ov:AV)(out:Str),ys=[N .i64 (at' : Int),ov]∧at'≤b.length∧at0≤at'∧m=b.length-at'∧out.length≤16384∧Ow BY M3 M.next T ov out∧ah [] M M3∧gB (m+1) (b.drop at') out=target) _
  ⟨at0,bC,[],rfl,h0,Nat.le_refl _,rfl,by simp,.nil,ah.refl _ _,hr0⟩ ?_
 rintro next m ys M3 hnext ⟨at',ov,out,rfl,h1,h2,rfl,hol,hO,k3,heq⟩
 simp only[bV,gY]
 have hv3:=hv.keep k3 (by simp)
 refine hs (k3.base.trans hB) hv3 h1 hl (fun n r at2 M4 e4 a1 a2 hr hn k4=>?_) (fun e M4 e4 he k4=>?_)
 rotate_left
 ·simp only[dQ,dV,ik,iJ]
  rw[show(((e:Nat):Int) != 0)=true by rcases he with rfl|rfl<;>rfl,dE]
  refine hE e M4 ?_ (by omega) (k3.trans k4)
  rw[← heq,gB,e4]
 simp only[dQ,dV,ik,NP,di]
 have hO4:Ow BY M4 M.next T ov out:=hO.keep k4 (by simp)
 have k34:=k3.trans k4
 have hv4:=hv3.keep k4 (by simp)
 rw[hO4.E5.len,show(N .i64 16384)=N .i64 ((16384:Nat):Int)from rfl,abG hol (by omega),acy]
 have hrl:r.length=b.length-at2:=by rw[← hr];simp
 refine cK (fun h=>?_) fun h=>?_
 ·have h:16384-out.length<n:=by simpa using h
  refine hE 2 M4 ?_ (by omega) k34
  rw[← heq,gB,e4]
  simp only[Pp h]
 have hf1:¬ 16384-out.length<n:=by simpa using h
 rw[show(N .i64 2)=N .i64 ((2:Nat):Int)from rfl,addN (by omega),hv4.len,abG a1 (by omega),acy]
 refine cK (fun h=>?_) fun h=>?_
 ·have h:b.length-at2<n+2:=by simpa using h
  refine hE 15 M4 ?_ (by omega) k34
  rw[← heq,gB,e4]
  simp only[pW hf1,hrl,Pp h]
 have hf2:¬ b.length-at2<n+2:=by simpa using h
 simp only[addN (show at2+n<4611686018427387904 by omega),addN (show at2+n+2<4611686018427387904 by omega)]
 refine hv4.sub (nA _ _ _) (nA _ _ _) (by omega) (by omega) fun v5 hv5 _=>?_
 have hdr:(b.drop (at2+n)).take (at2+n+2-(at2+n))=(r.drop n).take 2:=by
  rw[← hr,List.drop_drop,show at2+n+2-(at2+n)=2 by omega]
 rw[hdr]at hv5
 rw[hv5.str,NQ]
 cases he2:(r.drop n).take 2 == [13,10]with
 |false =>
  rw[show((r.drop n).take 2 != [13,10])=true by unfold bne;rw[he2];rfl,dE]
  refine hE 14 M4 ?_ (by omega) k34
  rw[← heq,gB,e4]
  simp only[pW hf1,hrl,pW hf2,he2]
 |true =>
  rw[show((r.drop n).take 2 != [13,10])=false by unfold bne;rw[he2];rfl,di]
  rw[show(N .i64 0)=N .i64 ((0:Nat):Int)from rfl,aDx]
  refine cK (fun h=>?_) fun h=>?_
  ·have h0:n=0:=by simpa using h
   subst h0
   refine hQ out (r.drop 2) (at2+0+2) ov M4 ?_ (by omega) (by omega) ?_ hol k34 hO4
   ·rw[← heq,gB,e4]
    simp only[pW hf1,hrl,pW hf2,he2]
    try rfl
   ·rw[← hr,List.drop_drop,Nat.add_zero]
  ·have hn0:n≠0:=by simpa using h
   refine hv4.sub (nA _ _ _) (nA _ _ _) (by omega) (by omega) fun v6 hv6 hsub6=>?_
   have htk:(b.drop at2).take (at2+n-at2)=r.take n:=by rw[hr,Nat.add_sub_cancel_left]
   rw[htk]at hv6
   have htl:(r.take n).length=n:=by simp;omega
   refine Fa (E:=BY) hO4 k34.next (by decide) hv6.sl (by rw[htl];omega) (by rw[htl];omega) fun v7 M7 o7 k7 _ _=>?_
   refine hnext _ _ _ (show b.length-(at2+n+2)<b.length-at' by omega) ⟨at2+n+2,v7,out++r.take n,rfl,by omega,by omega,rfl,by rw[List.length_append,htl];omega,o7,ah.own k34 k7 (fun x hx=>(hO4.blk x hx).1), ?_⟩
   have hd:b.drop (at2+n+2)=r.drop (n+2):=by rw[← hr,List.drop_drop,Nat.add_assoc]
   rw[← heq,hd]
   conv=>rhs;rw[gB,e4]
   simp only[pW hf1,hrl,pW hf2,he2,amW hn0]
   exact Kk _ _ _ _ (by simp;omega) (by simp;omega)
end Go.Ab.Hw
set_option maxRecDepth 100000
namespace Go.Ab.aS
open Go Go.Ab
def BH(p1:aB)(a0 a1:AV)(M0:RM)(Q:aj):Prop:=p1 [a0] M0 fun h g=>bz h 0 fun s=>bz h 1 fun C=>bz h 2 fun D=>dU a0 fun E=>aZ E 1 fun F=>au g F fun i=>af i false (fun c=>c D g) (fun c=>c .undef g) fun G l=>af i false (fun v=>iF G fun H=>v H l) (fun c=>c .undef l) fun I p=>aM i (Bo true) I fun j=>af j false (fun z=>z a1 p) (fun c=>c .undef p) fun L q=>af j false (fun A=>ag .lss L (N .i64 0) fun O=>A O q) (fun c=>c .undef q) fun P r=>aM j (Bo true) P fun d=>af d false (fun B=>B s r) (fun c=>c .undef r) fun R m=>af d false (fun w=>w a1 m) (fun c=>c .undef m) fun S n=>af d false (fun x=>iR .u64 S fun U=>x U n) (fun c=>c .undef n) fun V o=>af d false (fun y=>ag .gtr R V fun W=>y W o) (fun c=>c .undef o) fun X t=>aM d (Bo true) X fun Y=>dU a0 fun Z=>aZ Z 1 fun va=>aR t va Y 1 fun e=>dU a0 fun vb=>aZ vb 1 fun vc=>au e vc fun vd=>aF vd ( Q (N .i64 0) e) ( dU a0 fun ve=>aZ ve 0 fun vf=>au e vf fun vg=>dz (bI 1 vg (some C) none none) fun vh=>dU a0 fun vi=>aZ vi 0 fun vj=>aR e vj vh 1 fun u=>iR .i64 s fun vk=>Q vk u)
def zq(p1:aB)(a0:AV)(M0:RM)(Q:aj):Prop:=p1 [a0] M0 fun h e=>bz h 0 fun G=>bz h 1 fun n=>bz h 2 fun o=>dU a0 fun p=>aZ p 1 fun q=>au e q fun g=>af g false (fun c=>c o e) (fun c=>c .undef e) fun r i=>af g false (fun m=>iF r fun s=>m s i) (fun c=>c .undef i) fun t j=>aM g (Bo true) t fun u=>dU a0 fun v=>aZ v 1 fun w=>aR j w u 1 fun d=>dU a0 fun x=>aZ x 1 fun y=>au d y fun z=>aF z ( Q (N .u64 0) d) ( dU a0 fun A=>aZ A 0 fun B=>au d B fun C=>dz (bI 1 C (some n) none none) fun D=>dU a0 fun E=>aZ E 0 fun F=>aR d F D 1 fun l=>Q G l)
def YK(p1:aB)(p2:Nat)(a0 a1:AV)(M0:RM)(Q:aj):Prop:=p1 [a0] M0 fun y e=>eY (fun n c d=>ag .geq (aD c 1) (N .u64 128) fun z=>aF z ( iR .u8 (aD c 1) fun r=>ag .or r (N .u8 128) fun s=>jN p2 1 [(N .u8 0)] [(0,1,s)] fun o l=>cz o l d fun t g=>appW p2 1 1 [(N .u8 0)] false (aD c 0) t g fun u h=>qj .shr (aD c 1) (N .u64 7) fun q=>n [u,q] h) ( iR .u8 (aD c 1) fun v=>jN p2 1 [(N .u8 0)] [(0,1,v)] fun p m=>cz p m d fun w i=>appW p2 1 1 [(N .u8 0)] false (aD c 0) w i fun x j=>Q x j)) [y,a1] e
def oG(p1:Nat)(a0:AV)(M0:RM)(Q:aj):Prop:=jr false 2 a0 (.sc (.slice none 0 0)) fun h=>aF h ( Q (.sc (.slice none 0 0)) M0) ( jN p1 0 [(N .u8 0)] [] fun g e=>cz g e M0 fun i c=>appW p1 1 1 [(N .u8 0)] false i a0 c fun j d=>Q j d)
def tY(a0:AV)(M0:RM)(Q:aj):Prop:=iK (fun l=>dU a0 fun vn=>aZ vn 0 fun vo=>au M0 vo fun F=>dU a0 fun G=>aZ G 0 fun H=>au M0 H fun I=>bS I fun L=>Na false L (N .i64 10) fun O=>dz (bI 1 F none (some O) none) fun u=>bS u fun P=>eY (fun E d e=>ag .lss (aD d 1) P fun R=>aF R ( ed u (aD d 1) 1 fun S=>au e S fun h=>ag .and h (N .u8 127) fun U=>iR .u64 U fun V=>ag .mul (N .i64 7) (aD d 1) fun W=>qj .shl V W fun X=>ag .or (aD d 0) X fun v=>ag .geq h (N .u8 128) fun Y=>aF Y ( ag .add (aD d 1) (N .i64 1) fun vm=>E [v,vm] e) ( ag .eql h (N .u8 0) fun i=>af i true (fun c=>c (aD d 1) e) (fun c=>c .undef e) fun Z m=>af i true (fun x=>ag .gtr Z (N .i64 0) fun va=>x va m) (fun c=>c .undef m) fun vb r=>aM i vb (Bo false) fun g=>af g false (fun B=>B (aD d 1) r) (fun c=>c .undef r) fun vc s=>af g false (fun C=>ag .eql vc (N .i64 9) fun vd=>C vd s) (fun c=>c .undef s) fun ve t=>af g false (fun D=>D ve t) (fun c=>c .undef t) fun j n=>af j true (fun y=>y h n) (fun c=>c .undef n) fun vf o=>af j true (fun z=>ag .gtr vf (N .u8 1) fun vg=>z vg o) (fun c=>c .undef o) fun vh p=>af g false (fun A=>aM j vh (Bo false) fun vi=>A vi p) (fun c=>c .undef p) fun vj q=>aM g (Bo true) vj fun vk=>aF vk ( l [] q) ( ag .add (aD d 1) (N .i64 1) fun vl=>Q (.tup [v,vl,(Bo true)]) q))) ( l [] e)) [(N .u64 0),(N .i64 0)] M0) (fun vp w=>Q (.tup [(N .u64 0),(N .i64 0),(Bo false)]) w)
end Go.Ab.aS
