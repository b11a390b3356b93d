/- Part 6 of the ground of the proofs of this seat (texts C1 to C12). By an AI agent. -/
import Derived.Test.YtlhlnchhaminjaaGreatApa5
set_option maxRecDepth 10000
set_option linter.unusedVariables false
set_option linter.unusedSimpArgs false
namespace Go.Ab.Crw
open Go Go.Ab Go.Ab.ak
theorem wu:∀ (x y:List UInt8),Op.bytesLess x y=decide (x<y)
 | [],[]=>by simp [Op.bytesLess]
 | _ :: _,[]=>by simp [Op.bytesLess]
 | [],_ :: _=>by simp [Op.bytesLess]
 | a :: x,b :: y=>by
   rw [Op.bytesLess,wu x y]
   simp only [List.cons_lt_cons_iff]
   by_cases h1:a<b <;> by_cases h2:a=b <;> by_cases h3:x<y <;> simp [h1,h2,h3]
structure LO {β:Type} (lt:β→β→Bool) : Prop where
 irrefl:∀ x,lt x x=false
 trans:∀ x y z,lt x y=true→lt y z=true→lt x z=true
 tri:∀ x y,lt x y=false→lt y x=false→x=y
def lex {α β:Type} [DecidableEq β] (k:α→β) (lt1:β→β→Bool) (lt2:α→α→Bool) (x y:α) : Bool:=lt1 (k x) (k y) || (decide (k x=k y) && lt2 x y)
theorem vB {α β:Type} [DecidableEq β] {k:α→β} {lt1:β→β→Bool} {lt2:α→α→Bool} (h1:LO lt1) (h2:Sort.SWO lt2) : Sort.SWO (lex k lt1 lt2) where
 irrefl x:=by simp [lex,h1.irrefl,h2.irrefl]
 trans x y z a b:=by
  simp only [lex,Bool.or_eq_true,Bool.and_eq_true,decide_eq_true_eq] at *
  rcases a with a | ⟨a,a'⟩ <;> rcases b with b | ⟨b,b'⟩
  ·exact .inl (h1.trans _ _ _ a b)
  ·exact .inl (by rw [← b]; exact a)
  ·exact .inl (by rw [a]; exact b)
  ·exact .inr ⟨a.trans b,h2.trans _ _ _ a' b'⟩
 ntrans x y z a b:=by
  simp only [lex,Bool.or_eq_false_iff,Bool.and_eq_false_iff,decide_eq_false_iff_not] at *
  obtain ⟨a1,a2⟩:=a
  obtain ⟨b1,b2⟩:=b
  have c1:lt1 (k x) (k z)=false:=by
   cases h:lt1 (k x) (k z) with
   | false=>rfl
   | true =>
     by_cases e:k x=k y
     ·rw [e,b1] at h; cases h
     ·have:lt1 (k y) (k x)=true:=by
       cases h' : lt1 (k y) (k x) with
       | true=>rfl
       | false=>exact absurd (h1.tri _ _ a1 h') e
      have:=h1.trans _ _ _ this h
      rw [b1] at this; cases this
  refine ⟨c1, ?_⟩
  by_cases e:k x=k z
  ·right
   by_cases e2:k x=k y
   ·have e3:k y=k z:=e2.symm.trans e
    rcases a2 with a2 | a2
    ·exact absurd e2 a2
    ·rcases b2 with b2 | b2
     ·exact absurd e3 b2
     ·exact h2.ntrans _ _ _ a2 b2
   ·have h3:lt1 (k y) (k x)=false:=by rw [e]; exact b1
    exact absurd (h1.tri _ _ a1 h3) e2
  ·exact .inl e
theorem yH:LO (fun x y:Nat=>decide (x<y)):=⟨by simp,by simp; omega,by simp; omega⟩
theorem yJ:LO (fun x y:Int=>decide (x<y)):=⟨by simp,by simp; omega,by simp; omega⟩
theorem mY:LO (fun x y:List UInt8=>decide (x<y)) where
 irrefl x:=by simp [List.lt_irrefl]
 trans x y z h1 h2:=by simp only [decide_eq_true_eq] at *; exact List.lt_trans h1 h2
 tri x y h1 h2:=by
  simp only [decide_eq_false_iff_not,List.not_lt] at *
  exact List.le_antisymm h2 h1
theorem LX {α:Type} : Sort.SWO (fun _ _:α=>false):=⟨fun _=>rfl,(fun _ _ _ h _=>by cases h),(fun _ _ _ _ _=>rfl)⟩
def kW:ak→ak→Bool:=lex (fun d:ak=>d.2) (fun x y:Nat=>decide (x<y)) (lex (fun d:ak=>d.1) (fun x y:Int=>decide (x<y)) fun _ _=>false)
def gT:aL→aL→Bool:=lex (fun x:aL=>x.2.1) (fun x y=>decide (x<y)) (lex (fun x:aL=>x.2.2.1) (fun x y=>decide (x<y)) (lex (fun x:aL=>x.1.2) (fun x y:Nat=>decide (x<y)) (lex (fun x:aL=>x.1.1) (fun x y:Int=>decide (x<y)) fun _ _=>false)))
theorem tK:Sort.SWO kW:=vB yH (vB yJ LX)
theorem fG:Sort.SWO gT:=vB mY (vB mY (vB yH (vB yJ LX)))
def c3 {β:Type} (lt:β→β→Bool) (x y:β) : Int:=if lt x y then -1 else if lt y x then 1 else 0
theorem Lj {β:Type} {lt:β→β→Bool} (h:LO lt) (x y:β) : (c3 lt x y=-1∧lt x y=true∧x≠y)∨(c3 lt x y=1∧lt x y=false∧x≠y)∨(c3 lt x y=0∧lt x y=false∧x=y):=by
 unfold c3
 cases h1:lt x y with
 | true=>exact .inl ⟨rfl,rfl,fun e=>by rw [e,h.irrefl] at h1; cases h1⟩
 | false =>
   cases h2:lt y x with
   | true=>exact .inr (.inl ⟨rfl,rfl,fun e=>by rw [e,h.irrefl] at h2; cases h2⟩)
   | false=>exact .inr (.inr ⟨rfl,rfl,h.tri _ _ h1 h2⟩)
def A9 (a b:Int) : Int:=if a≠0 then a else b
def Ta {α:Type} (lt:α→α→Bool) (f:α→α→Int) : Prop:=∀ x y,decide (f x y<0)=lt x y
theorem vE {α β:Type} [DecidableEq β] {k:α→β} {lt1:β→β→Bool} {lt2:α→α→Bool} {f:α→α→Int} (h1:LO lt1) (h2:Ta lt2 f) : Ta (lex k lt1 lt2) (fun x y=>A9 (c3 lt1 (k x) (k y)) (f x y)):=by
 intro x y
 unfold lex
 show decide (A9 (c3 lt1 (k x) (k y)) (f x y)<0)=_
 unfold A9
 rcases Lj h1 (k x) (k y) with ⟨a,b,c⟩ | ⟨a,b,c⟩ | ⟨a,b,c⟩
 ·rw [a,b]; rfl
 ·rw [a,b,decide_eq_false c]; rfl
 ·rw [a,b,decide_eq_true c,if_neg (by simp),h2 x y]; rfl
theorem Lh {α:Type} : Ta (fun _ _:α=>false) (fun _ _=>0):=fun _ _=>rfl
def uP {α:Type} (mk:α→AV) (lt:α→α→Bool) (c:aj) : Prop:=∀ {M:RM} {x y:α} {Q:ah},Q (N .i64 (c3 lt x y)) M→c [mk x,mk y] M Q
def Ap {α:Type} (mk:α→AV) (c:aj) : Prop:=∀ {M:RM} {x:α} {Q:ah},Q (Bo false) M→c [mk x] M Q
theorem Sr:Ap (α:=List UInt8) (fun s=>St s) fun args M Q=>∃ a0,args=[a0]∧sK a0 M Q:=by
 intro M x Q hQ
 refine ⟨_,rfl, ?_⟩
 unfold sK
 rw [vR,show (x != x)=false by simp]
 exact hQ
theorem Rj:Ap (α:=Nat) (fun n=>N .u64 (n:Int)) fun args M Q=>∃ a0,args=[a0]∧ak.nT a0 M Q:=by
 intro M x Q hQ
 exact ⟨_,rfl,Gu hQ⟩
theorem RD:Ap (α:=Int) (fun n=>N .i64 n) fun args M Q=>∃ a0,args=[a0]∧xX a0 M Q:=by
 intro M x Q hQ
 refine ⟨_,rfl, ?_⟩
 unfold xX
 rw [iJ,show (x != x)=false by simp]
 exact hQ
theorem Si {cn:aj} (hn:Ap (α:=List UInt8) (fun s=>St s) cn) : uP (α:=List UInt8) (fun s=>St s) (fun x y=>decide (x<y)) fun args M Q=>∃ a0 a1,args=[a0,a1]∧pG cn a0 a1 M Q:=by
 intro M x y Q hQ
 refine ⟨_,_,rfl, ?_⟩
 unfold pG
 refine hn (hn ?_)
 rw [bF,bF,UN,wu]
 unfold c3 at hQ
 by_cases h1:x<y
 ·rw [decide_eq_true h1,dC]
  rw [if_pos (by simpa using h1)] at hQ; exact hQ
 ·rw [decide_eq_false h1,bF,Uz,wu,decide_eq_false h1,Bool.false_or]
  rw [if_neg (by simpa using h1)] at hQ
  by_cases h2:y<x
  ·have hne:x≠y:=fun e=>by subst e; exact List.lt_irrefl _ h2
   rw [show (x == y)=false by simpa using hne,Bool.not_false,dC]
   rw [if_pos (by simpa using h2)] at hQ; exact hQ
  ·have he:x=y:=mY.tri x y (by simpa using h1) (by simpa using h2)
   rw [show (x == y)=true by simpa using he,Bool.not_true,bF]
   rw [if_neg (by simpa using h2)] at hQ; exact hQ
theorem RF {cn:aj} (hn:Ap (α:=Nat) (fun n=>N .u64 (n:Int)) cn) : uP (α:=Nat) (fun n=>N .u64 (n:Int)) (fun x y=>decide (x<y)) fun args M Q=>∃ a0 a1,args=[a0,a1]∧pX cn a0 a1 M Q:=by
 intro M x y Q hQ
 refine ⟨_,_,rfl, ?_⟩
 unfold pX
 refine hn (hn ?_)
 rw [bF,bF,dF]
 unfold c3 at hQ
 by_cases h1:x<y
 ·rw [show decide ((x:Int)<(y:Int))=true by simpa using h1,dC]
  rw [if_pos (by simpa using h1)] at hQ; exact hQ
 ·rw [show decide ((x:Int)<(y:Int))=false by simpa using h1,bF,gH]
  rw [if_neg (by simpa using h1)] at hQ
  by_cases h2:y<x
  ·rw [show decide ((x:Int) > (y:Int))=true by simpa using h2,dC]
   rw [if_pos (by simpa using h2)] at hQ; exact hQ
  ·rw [show decide ((x:Int) > (y:Int))=false by simpa using h2,bF]
   rw [if_neg (by simpa using h2)] at hQ; exact hQ
theorem Re {cn:aj} (hn:Ap (α:=Int) (fun n=>N .i64 n) cn) : uP (α:=Int) (fun n=>N .i64 n) (fun x y=>decide (x<y)) fun args M Q=>∃ a0 a1,args=[a0,a1]∧uH cn a0 a1 M Q:=by
 intro M x y Q hQ
 refine ⟨_,_,rfl, ?_⟩
 unfold uH
 refine hn (hn ?_)
 rw [bF,bF,dF]
 unfold c3 at hQ
 by_cases h1:x<y
 ·rw [show decide (x<y)=true by simpa using h1,dC]
  rw [if_pos (by simpa using h1)] at hQ; exact hQ
 ·rw [show decide (x<y)=false by simpa using h1,bF,gH]
  rw [if_neg (by simpa using h1)] at hQ
  by_cases h2:y<x
  ·rw [show decide (x > y)=true by simpa using h2,dC]
   rw [if_pos (by simpa using h2)] at hQ; exact hQ
  ·rw [show decide (x > y)=false by simpa using h2,bF]
   rw [if_neg (by simpa using h2)] at hQ; exact hQ
def INT:Enc Int:=⟨1,fun n=>[N .i64 n],fun _=>rfl,fun _=>rfl⟩
def Eo:List Int→Int
 | []=>0
 | x :: xs=>A9 x (Eo xs)
def Vz (c:aj) : Prop:=∀ {M:RM} {v:AV} {xs:List Int} {Q:ah},Sl INT M v xs→xs.length≤100→Q (N .i64 (Eo xs)) M→c [v] M Q
theorem Wd:Vz fun args M Q=>∃ a0,args=[a0]∧Eu a0 M Q:=by
 intro M v xs Q hs hl hQ
 refine ⟨_,rfl, ?_⟩
 unfold Eu
 rw [aN.len hs]
 refine aG (fun m ys M3=>∃ i:Nat,m=xs.length - i∧ys=[N .i64 (i:Int)]∧i≤xs.length∧M3=M∧Eo xs=Eo (xs.drop i)) _ ⟨0,rfl,rfl,Nat.zero_le _,rfl,rfl⟩ ?_
 rintro next m ys M3 hnext ⟨i,rfl,rfl,hi,rfl,hm⟩
 dsimp only [aa]
 rw [dF]
 refine aF (fun hlt=>?_) (fun hge=>?_)
 ·have hlt:i<xs.length:=by simpa using hlt
  obtain ⟨b1,o1,_,_,hidx1,hc1⟩:=Sl.FU (E:=INT) hs (i:Int) hlt
  rw [hidx1,OT (hc1 _ rfl),iJ]
  rw [List.drop_eq_getElem_cons hlt,Eo,A9] at hm
  by_cases h0:xs[i]=0
  ·rw [show (xs[i] != 0)=false by simp [h0],bF,dm,ik (by omega)]
   rw [if_neg (by simp [h0])] at hm
   exact hnext _ _ _ (by omega) ⟨i + 1,rfl,rfl,hlt,rfl,hm⟩
  ·rw [show (xs[i] != 0)=true by simp [h0],dC]
   rw [if_pos (by simp [h0])] at hm
   rw [hm] at hQ
   exact hQ
 ·have he:i=xs.length:=by simp at hge; omega
  subst he
  rw [List.drop_length] at hm
  rw [hm] at hQ
  exact hQ
theorem X7 {T:Nat} {M:RM} {x y:Int} {K:RB→(Nat→AV)→Prop} : fO T 2 [(N .i64 0)] [(0,1,N .i64 x),(1,1,N .i64 y)] K=K (.row [N .i64 x,N .i64 y] false T 0) (fun b=>.slc b 0 2 (.ex 2)):=by
 apply propext; unfold fO
 constructor
 ·rintro ⟨l,h,hk⟩; cases h; exact hk
 ·intro hk; exact ⟨_,rfl,hk⟩
theorem XY {T:Nat} {M:RM} {x y z:Int} {K:RB→(Nat→AV)→Prop} : fO T 3 [(N .i64 0)] [(0,1,N .i64 x),(1,1,N .i64 y),(2,1,N .i64 z)] K=K (.row [N .i64 x,N .i64 y,N .i64 z] false T 0) (fun b=>.slc b 0 3 (.ex 3)):=by
 apply propext; unfold fO
 constructor
 ·rintro ⟨l,h,hk⟩; cases h; exact hk
 ·intro hk; exact ⟨_,rfl,hk⟩
def QO (x y:ak) : Int:=A9 (c3 (fun x y:Nat=>decide (x<y)) x.2 y.2) (A9 (c3 (fun x y:Int=>decide (x<y)) x.1 y.1) 0)
def Oe (x y:aL) : Int:=A9 (c3 (fun x y:List UInt8=>decide (x<y)) x.2.1 y.2.1) (A9 (c3 (fun x y:List UInt8=>decide (x<y)) x.2.2.1 y.2.2.1) (QO x.1 y.1))
theorem Zo:Ta kW QO:=vE (k:=fun d:ak=>d.2) yH (vE (k:=fun d:ak=>d.1) yJ Lh)
theorem Xt:Ta gT Oe:=vE (k:=fun x:aL=>x.2.1) mY (vE (k:=fun x:aL=>x.2.2.1) mY (vE (k:=fun x:aL=>x.1.2) yH (vE (k:=fun x:aL=>x.1.1) yJ Lh)))
def FP (c:aj) : Prop:=∀ {M:RM} {x y:ak} {Q:ah},(∀ M',ag [] M M'→Q (N .i64 (QO x y)) M')→c [.agg (aO x),.agg (aO y)] M Q
theorem Po {TD TI:Nat} {cu ci co:aj} (hu:uP (α:=Nat) (fun n=>N .u64 (n:Int)) (fun x y=>decide (x<y)) cu) (hi:uP (α:=Int) (fun n=>N .i64 n) (fun x y=>decide (x<y)) ci) (ho:Vz co) :
  FP fun args M Q=>∃ a0 a1,args=[a0,a1]∧Hw TD cu ci TI co a0 a1 M Q:=by
 intro M x y Q hQ
 refine ⟨_,_,rfl, ?_⟩
 unfold Hw
 rw [dH rfl (by simp),bi,dH rfl (by simp),bi]
 have k1:ag [] M (M.push (.row (aO x) false TD 0)):=(ag.refl _ _).push _
 have k2:ag [] M ((M.push (.row (aO x) false TD 0)).push (.row (aO y) false TD 0)):=k1.push _
 have h2:((M.push (.row (aO x) false TD 0)).push (.row (aO y) false TD 0)).heap (M.push (.row (aO x) false TD 0)).next=some (.row (aO y) false TD 0):=RM.aQ _
 have h1:((M.push (.row (aO x) false TD 0)).push (.row (aO y) false TD 0)).heap M.next=some (.row (aO x) false TD 0):=jV (RM.aQ _) (by simp [RM.push])
 generalize (M.push (.row (aO x) false TD 0)).push (.row (aO y) false TD 0)=M2 at *
 generalize (M.push (.row (aO x) false TD 0)).next=s at *
 rw [bz,az h1 rfl,bz,az h2 rfl,bz,az h1 rfl,bz,az h2 rfl]
 refine hu ?_
 rw [az h1 rfl]
 refine ⟨rfl, ?_⟩
 rw [az h2 rfl]
 refine ⟨rfl, ?_⟩
 refine hi ?_
 rw [X7 (M:=M2),qb]
 refine ho (xs:=[_,_]) ?_ (by simp) (hQ _ (k2.push _))
 exact Sl.new (E:=INT) [_,_]
def AB (c:aj) : Prop:=∀ {M:RM} {x y:aL} {Q:ah},(∀ M',ag [] M M'→Q (N .i64 (Oe x y)) M')→c [.agg (aC.cells x),.agg (aC.cells y)] M Q
theorem Mc {TE TI:Nat} {cs cd co:aj} (hs:uP (α:=List UInt8) (fun s=>St s) (fun x y=>decide (x<y)) cs) (hd:FP cd) (ho:Vz co) :
  AB fun args M Q=>∃ a0 a1,args=[a0,a1]∧Cs TE cs cd TI co a0 a1 M Q:=by
 intro M x y Q hQ
 refine ⟨_,_,rfl, ?_⟩
 unfold Cs
 rw [dH rfl (by rw [aC.len]; decide),bi,dH rfl (by rw [aC.len]; decide),bi]
 have k1:ag [] M (M.push (.row (aC.cells x) false TE 0)):=(ag.refl _ _).push _
 have k2:ag [] M ((M.push (.row (aC.cells x) false TE 0)).push (.row (aC.cells y) false TE 0)):=k1.push _
 have h2:((M.push (.row (aC.cells x) false TE 0)).push (.row (aC.cells y) false TE 0)).heap (M.push (.row (aC.cells x) false TE 0)).next=some (.row (aC.cells y) false TE 0):=RM.aQ _
 have h1:((M.push (.row (aC.cells x) false TE 0)).push (.row (aC.cells y) false TE 0)).heap M.next=some (.row (aC.cells x) false TE 0):=jV (RM.aQ _) (by simp [RM.push])
 have n1:M.next<((M.push (.row (aC.cells x) false TE 0)).push (.row (aC.cells y) false TE 0)).next:=by simp [RM.push]; omega
 have n2:(M.push (.row (aC.cells x) false TE 0)).next<((M.push (.row (aC.cells x) false TE 0)).push (.row (aC.cells y) false TE 0)).next:=by simp [RM.push]
 generalize (M.push (.row (aC.cells x) false TE 0)).push (.row (aC.cells y) false TE 0)=M2 at *
 generalize (M.push (.row (aC.cells x) false TE 0)).next=s at *
 have ld:∀ {M' : RM} {b:Nat} {z:aL},M'.heap b=some (.row (aC.cells z) false TE 0)→∀ K:AV→Prop,aB M' (.ptr b 0) 2 K=K (.agg (aO z.1)):=fun {M' b z} h K=>by
  rw [gK,RM.dG h (by show 0 + 2≤5; decide)]
  simp [aC]
 rw [bz,az h1 rfl,bz,az h2 rfl,bz,az h1 rfl,bz,az h2 rfl,bz,ld h1,bz,ld h2]
 refine hs ?_
 rw [az h1 rfl]
 refine ⟨rfl, ?_⟩
 rw [az h2 rfl]
 refine ⟨rfl, ?_⟩
 rw [ld h1]
 refine ⟨rfl, ?_⟩
 rw [ld h2]
 refine ⟨rfl, ?_⟩
 refine hs ?_
 rw [ld h1]
 refine ⟨rfl, ?_⟩
 rw [ld h2]
 refine ⟨rfl, ?_⟩
 refine hd fun M3 k3=>?_
 rw [XY (M:=M3),qb]
 refine ho (xs:=[_,_,_]) (Sl.new (E:=INT) [_,_,_]) (by simp) ?_
 have e:Eo [c3 (fun x y:List UInt8=>decide (x<y)) x.2.1 y.2.1,c3 (fun x y:List UInt8=>decide (x<y)) x.2.2.1 y.2.2.1,QO x.1 y.1]=Oe x y:=by
  simp only [Eo,Oe]
  congr 2
  unfold A9; split <;> simp_all
 rw [e]
 exact hQ _ ((k2.trans k3).push _)
theorem VN {cv:FuncId→aj} {n:Nat} (h:AB (cv n)) : lM aC gT (bN cv (.fn (.func n) [] [])):=by
 intro M x y Q hQ
 exact ⟨n,[],[],rfl,h fun M' k=>hQ _ _ (Xt x y) k⟩
theorem VX {cv:FuncId→aj} {n:Nat} (h:FP (cv n)) : lM aR kW (bN cv (.fn (.func n) [] [])):=by
 intro M x y Q hQ
 exact ⟨n,[],[],rfl,h fun M' k=>hQ _ _ (Zo x y) k⟩
end Go.Ab.Crw
set_option maxRecDepth 10000
set_option linter.unusedVariables false
set_option linter.unusedSimpArgs false
namespace Go.Ab.Crw
open Go Go.Ab Go.Ab.ak
abbrev je:=ak × (Int × (List UInt8 × (List UInt8 × List UInt8)))
def VB:Enc je:=⟨6,fun e=>aO e.1++[N .i64 e.2.1,St e.2.2.1,St e.2.2.2.1,St e.2.2.2.2],fun _=>rfl,fun _=>rfl⟩
abbrev aV (e:je) (kv:AV) : List AV:=VB.cells e++[kv]
theorem Vl {M:RM} {c p:Bool} {f:KR→Prop} {P:RM→Prop} {G:AV→RM→Prop} (h0:P M) (hf:c=false→∀ k:KR,(∀ M',P M'→k (Bo p) M' none)→f k) (hG:∀ M',P M'→G (Bo (c || p)) M') :
  ae (Bo c) false f (fun k=>k .undef M none) (fun t M' b=>aM (Bo c) (Bo true) t fun u=>G u M'):=by
 cases c with
 | true=>rw [BM]; dsimp only; rw [dO]; exact hG M h0
 | false=>rw [xq]; exact hf rfl _ fun M' h=>by rw [dz]; exact hG M' h
theorem yw {M:RM} {c p:Bool} {f:ah→Prop} {G:AV→RM→Prop} (hf:c=false→∀ k:ah,k (Bo p) M→f k) (hG:G (Bo (c || p)) M) :
  ai (Bo c) false f (fun k=>k .undef M) (fun t M'=>aM (Bo c) (Bo true) t fun u=>G u M'):=by
 cases c with
 | true=>rw [kR]; dsimp only; rw [dO]; exact hG
 | false=>rw [fM]; exact hf rfl _ (by rw [dz]; exact hG)
theorem Vx {M:RM} {c q r:Bool} {f0:KR→Prop} {f:RM→KR→Prop} {P:RM→Prop} {G:AV→RM→Prop} (h0:P M) (hf0:c=false→∀ k:KR,k (Bo q) M none→f0 k) (hf:c=false→q=true→∀ k:KR,(∀ M',P M'→k (Bo r) M' none)→f M k) (hG:∀ M',P M'→G (Bo (c || (q && r))) M') :
  ae (Bo c) false f0 (fun k=>k .undef M none) fun t45 M1 b1=>ae t45 true (f M1) (fun k=>k .undef M1 none) fun t54 M2 b2=>ae (Bo c) false (fun k3=>aM t45 t54 (Bo false) fun t55=>k3 t55 M2 none) (fun k=>k .undef M2 none) fun t55 M3 b3=>aM (Bo c) (Bo true) t55 fun t56=>G t56 M3:=by
 cases c with
 | true=>rw [BM]; dsimp only; rw [UJ]; dsimp only; rw [BM]; dsimp only; rw [dO]; exact hG M h0
 | false =>
   rw [xq]
   refine hf0 rfl _ ?_
   cases q with
   | false=>rw [ny]; dsimp only; rw [xq]; dsimp only; rw [dz,dz]; exact hG M h0
   | true =>
     rw [jN]
     refine hf rfl rfl _ fun M' h=>?_
     rw [xq]; dsimp only; rw [dO,dz]; exact hG M' h
theorem Kg {M:RM} {c q r:Bool} {f0:ah→Prop} {f:RM→ah→Prop} {G:AV→RM→Prop} (hf0:c=false→∀ k:ah,k (Bo q) M→f0 k) (hf:c=false→q=true→∀ k:ah,k (Bo r) M→f M k) (hG:G (Bo (c || (q && r))) M) :
  ai (Bo c) false f0 (fun k=>k .undef M) fun t45 M1=>ai t45 true (f M1) (fun k=>k .undef M1) fun t54 M2=>ai (Bo c) false (fun k3=>aM t45 t54 (Bo false) fun t55=>k3 t55 M2) (fun k=>k .undef M2) fun t55 M3=>aM (Bo c) (Bo true) t55 fun t56=>G t56 M3:=by
 cases c with
 | true=>rw [kR]; dsimp only; rw [wG]; dsimp only; rw [kR]; dsimp only; rw [dO]; exact hG
 | false =>
   rw [fM]
   refine hf0 rfl _ ?_
   cases q with
   | false=>rw [bL]; dsimp only; rw [fM]; dsimp only; rw [dz,dz]; exact hG
   | true =>
     rw [cz]
     refine hf rfl rfl _ ?_
     rw [fM]; dsimp only; rw [dO,dz]; exact hG
def xx (a b:ak) : Bool:=decide (a.2<b.2) || (decide (a.2=b.2) && decide (a.1<b.1))
def zk (c:aj) : Prop:=∀ {M:RM} {a b:ak} {Q:ah},(∀ M',ag [] M M'→Q (Bo (xx a b)) M')→c [.agg (aO a),.agg (aO b)] M Q
theorem JH {M1:RM} {T m1 m2:Nat} {a b:ak} {K:AV→RM→Prop} (h1:M1.heap m1=some (.row (aO a) false T 0)) (h2:M1.heap m2=some (.row (aO b) false T 0)) (hK:K (Bo (xx a b)) M1) :
  aI (.ptr m1 0) 1 fun t5=>ax M1 t5 fun t6=>aI (.ptr m2 0) 1 fun t7=>ax M1 t7 fun t8=>af .lss t6 t8 fun t9 =>
  ai t9 false (fun k'=>aI (.ptr m1 0) 1 fun bW=>ax M1 bW fun t12=>aI (.ptr m2 0) 1 fun bO=>ax M1 bO fun t14=>af .eql t12 t14 fun t15=>k' t15 M1) (fun k=>k .undef M1) fun t16 M_18 =>
  ai t16 true (fun k'=>aI (.ptr m1 0) 0 fun t17=>ax M_18 t17 fun t18=>aI (.ptr m2 0) 0 fun t19=>ax M_18 t19 fun t20=>af .lss t18 t20 fun t21=>k' t21 M_18) (fun k=>k .undef M_18) fun t21_32 M_33 =>
  ai t9 false (fun k_34=>aM t16 t21_32 (Bo false) fun t22=>k_34 t22 M_33) (fun k=>k .undef M_33) fun t22_35 M_36 =>
  aM t9 (Bo true) t22_35 fun t23=>K t23 M_36:=by
 rw [bz,az h1 rfl,bz,az h2 rfl,dF,show decide ((a.2:Int)<(b.2:Int))=decide (a.2<b.2) by simp]
 refine Kg (q:=decide (a.2=b.2)) (r:=decide (a.1<b.1)) (fun _ k hk=>?_) (fun _ _ k hk=>?_) hK
 ·rw [bz,az h1 rfl,bz,az h2 rfl,df,show ((a.2:Int) == (b.2:Int))=decide (a.2=b.2) by by_cases h:a.2=b.2 <;> simp [h]; omega]
  exact hk
 ·rw [bz,az h1 rfl,bz,az h2 rfl,dF]
  exact hk
theorem O6 {T:Nat} : zk fun args M Q=>∃ a0 a1,args=[a0,a1]∧KA T a0 a1 M Q:=by
 intro M a b Q hQ
 refine ⟨_,_,rfl, ?_⟩
 unfold KA
 simp only [iA]
 rw [dH rfl (by simp),bi,dH rfl (by simp),bi]
 exact JH (jV (RM.aQ _) (by simp [RM.push])) (RM.aQ _) (hQ _ (((ag.refl _ _).push _).push _))
theorem MJ {T:Nat} : zk fun args M Q=>∃ a0 a1,args=[a0,a1]∧EB T a0 a1 M Q:=by
 intro M a b Q hQ
 refine ⟨_,_,rfl, ?_⟩
 unfold EB
 simp only [iA]
 rw [dH rfl (by simp),bi,dH rfl (by simp),bi]
 exact JH (jV (RM.aQ _) (by simp [RM.push])) (RM.aQ _) (hQ _ (((ag.refl _ _).push _).push _))
def names (c f v:List UInt8) : Bool:=decide (1≤c.length) && decide (c.length≤64) && decide (f.length≤64) && decide (v.length≤512)
def W9:Option ak→ak→Bool
 | none,_=>true
 | some q,k=>xx q k
def fQ (d:ak) (p:Option ak) : List ak→Bool
 | []=>true
 | k :: ks=>good k && !decide (k=d) && W9 p k && fQ d (some k) ks
def yC (e:je) : Bool:=(decide (e.2.1=1) && decide (e.2.2.2.1≠[])) || (decide (e.2.1=2) && decide (e.2.2.2.2=[]))
def bY (e:je) (ks:List ak) : Bool:=good e.1 && names e.2.2.1 e.2.2.2.1 e.2.2.2.2 && decide (ks.length≤64) && fQ e.1 none ks && yC e
def KO (c:aj) : Prop:=∀ {M:RM} {x y z:List UInt8} {Q:ah},Q (Bo (names x y z)) M→c [St x,St y,St z] M Q
theorem Pw:KO fun args M Q=>∃ a0 a1 a2,args=[a0,a1,a2]∧yx a0 a1 a2 M Q:=by
 intro M x y z Q hQ
 refine ⟨_,_,_,rfl, ?_⟩
 unfold yx
 simp only [iA]
 rw [kI,fw]
 refine andM (p:=decide (x.length≤64)) (fun _ k hk=>?_) ?_
 ·rw [kI,jT,show decide ((x.length:Int)≤64)=decide (x.length≤64) by simp; omega]; exact hk
 refine andM (p:=decide (y.length≤64)) (fun _ k hk=>?_) ?_
 ·rw [kI,jT,show decide ((y.length:Int)≤64)=decide (y.length≤64) by simp; omega]; exact hk
 refine andM (p:=decide (z.length≤512)) (fun _ k hk=>?_) ?_
 ·rw [kI,jT,show decide ((z.length:Int)≤512)=decide (z.length≤512) by simp; omega]; exact hk
 rw [show decide ((x.length:Int) ≥ 1)=decide (1≤x.length) by simp; omega]
 exact hQ
def sQ (c:aj) : Prop:=∀ {M:RM} {e:je} {kv:AV} {ks:List ak} {Q:ah},Sl aR M kv ks→(∀ M',ag [] M M'→Q (Bo (bY e ks)) M')→c [.agg (aV e kv)] M Q
theorem ve {M:RM} {b T:Nat} {e:je} {kv:AV} (h:M.heap b=some (.row (aV e kv) false T 0)) {K:AV→Prop} : aB M (.ptr b 0) 2 K=K (.agg (aO e.1)):=by
 have e2:((aV e kv).drop 0).take 2=aO e.1:=rfl
 rw [gK,RM.dG h (by show 0 + 2≤7; decide),e2]
 simp
theorem tZ {M:RM} {e:je} {kv:AV} {ks:List ak} (h:Sl aR M kv ks) : (aV e kv).all oneCell=true:=by
 rw [List.all_append,VB.one,List.all_cons,aN.one h]; rfl
theorem qg {M:RM} {kv:AV} {ks:List ak} (h:Sl aR M kv ks) {i:Nat} (hi:i<ks.length) {kd:IntKind} {K:AV→Prop} : (au kv (N kd (i:Int)) 2 fun p=>aB M p 2 K)=K (.agg (aO ks[i])):=by
 obtain ⟨b,o,_,_,hidx,hld⟩:=Sl.at (E:=aR) (i:=i) h 2 (i:Int) hi rfl rfl
 rw [hidx,gK,hld]
 simp [aR]
def xG (ks:List ak) (i:Nat) : Option ak:=if i=0 then none else ks[i - 1]?
theorem BL {d:ak} {ks:List ak} {i:Nat} (hi:i<ks.length) : fQ d (xG ks i) (ks.drop i) =
  (good ks[i] && !decide (ks[i]=d) && (if h:0<i then xx (ks[i - 1]'(by omega)) ks[i] else true) && fQ d (xG ks (i + 1)) (ks.drop (i + 1))):=by
 rw [List.drop_eq_getElem_cons hi,fQ]
 have e2:xG ks (i + 1)=some ks[i]:=by rw [xG,if_neg (by omega),Nat.add_sub_cancel,List.getElem?_eq_getElem hi]
 rw [e2]
 by_cases h0:i=0
 ·subst h0; rfl
 ·have e1:xG ks i=some (ks[i - 1]'(by omega)):=by rw [xG,if_neg h0,List.getElem?_eq_getElem (by omega)]
  rw [e1,dif_pos (by omega)]; rfl
theorem MU {TE TD:Nat} {cg cn cl:aj} (hg:wW cg) (hn:KO cn) (hl:zk cl) : sQ fun args M Q=>∃ a0,args=[a0]∧LJ TE cg cn TD cl a0 M Q:=by
 intro M0 e kv ks Q hs0 hQ
 refine ⟨_,rfl, ?_⟩
 unfold LJ
 simp only [iA,eD,dN,dQ]
 rw [dH (tZ hs0) (by simp),bi]
 have k0:ag [] M0 (M0.push (.row (aV e kv) false TE 0)):=(ag.refl _ _).push _
 have h0:(M0.push (.row (aV e kv) false TE 0)).heap M0.next=some (.row (aV e kv) false TE 0):=RM.aQ _
 have hlt:M0.next<(M0.push (.row (aV e kv) false TE 0)).next:=by simp [RM.push]
 have hs:=aN.keep hs0 k0 (by simp)
 generalize M0.push (.row (aV e kv) false TE 0)=M at *
 generalize M0.next=b at *
 have hs:Sl aR M kv ks:=hs
 rw [bz,ve h0]
 refine hg fun M1 k1=>?_
 have h1:=k1.aK h0 hlt (by simp)
 have s1:Sl aR M1 kv ks:=aN.keep hs k1 (by simp)
 rw [bB]
 refine yw (p:=!names e.2.2.1 e.2.2.2.1 e.2.2.2.2) (fun _ k hk=>?_) ?_
 ·rw [bz,az h1 rfl,bz,az h1 rfl,bz,az h1 rfl]
  refine hn ?_
  rw [bB]
  exact hk
 refine yw (p:=decide (ks.length > 64)) (fun _ k hk=>?_) ?_
 ·rw [bz,az h1 rfl,aN.len s1,gH,show decide ((ks.length:Int) > 64)=decide (ks.length > 64) by simp; omega]
  exact hk
 refine aF (fun hc=>?_) (fun hc=>?_)
 ·have:bY e ks=false:=by
   unfold bY
   simp only [Bool.or_eq_true,Bool.not_eq_true',decide_eq_true_eq] at hc
   rcases hc with (hc | hc) | hc
   ·rw [hc]; rfl
   ·rw [hc,Bool.and_false]; rfl
   ·rw [decide_eq_false (show ¬ (ks.length≤64) by omega),Bool.and_false]; rfl
  rw [this] at hQ
  exact hQ M1 (k0.trans k1)
 simp only [Bool.or_eq_false_iff,Bool.not_eq_false',decide_eq_false_iff_not] at hc
 obtain ⟨⟨hc1,hc2⟩,hc3⟩:=hc
 have hgoal:bY e ks=(fQ e.1 none ks && yC e):=by
  unfold bY
  rw [hc1,hc2,decide_eq_true (show (ks.length≤64) by omega)]; simp
 rw [bz,az h1 rfl,aN.len s1]
 refine aG (fun m ys M3=>∃ i:Nat,m=ks.length - i∧ys=[N .i64 (i:Int)]∧i≤ks.length∧ag [] M1 M3∧fQ e.1 none ks=fQ e.1 (xG ks i) (ks.drop i)) _ ⟨0,rfl,rfl,Nat.zero_le _,ag.refl _ _,rfl⟩ ?_
 rintro next m ys M3 hnext ⟨i,rfl,rfl,hi,k3,hm⟩
 dsimp only [aa]
 have n1:=k1.next
 have h3:=k3.aK h1 (by omega) (by simp)
 have s3:Sl aR M3 kv ks:=aN.keep s1 k3 (by simp)
 have kk3:=(k0.trans k1).trans k3
 rw [dS]
 refine aF (fun hlt2=>?_) (fun hge=>?_)
 ·have hlt2:i<ks.length:=of_decide_eq_true hlt2
  rw [BL hlt2] at hm
  rw [qg s3 hlt2,bi,dI (n:=2) (x:=.agg (aO ks[i])) (l:=[N .i64 0,N .u64 0]) (RM.aQ _) rfl rfl rfl]
  have k4:ag [] M3 ((M3.push (.row [N .i64 0,N .u64 0] false TD 0)).put M3.next (.row (AV.agg (aO ks[i])).cells false TD 0)):=((ag.refl _ _).push _).new _ (Nat.le_refl _)
  have hk4:((M3.push (.row [N .i64 0,N .u64 0] false TD 0)).put M3.next (.row (AV.agg (aO ks[i])).cells false TD 0)).heap M3.next=some (.row (aO ks[i]) false TD 0):=aP _
  have hn4:M3.next<((M3.push (.row [N .i64 0,N .u64 0] false TD 0)).put M3.next (.row (AV.agg (aO ks[i])).cells false TD 0)).next:=by simp [RM.push,RM.put]
  generalize (M3.push (.row [N .i64 0,N .u64 0] false TD 0)).put M3.next (.row (AV.agg (aO ks[i])).cells false TD 0)=M4 at *
  generalize M3.next=s at *
  rw [bP (n:=2) hk4 rfl]
  refine hg fun M5 k5=>?_
  have hk5:=k5.aK hk4 hn4 (by simp)
  have h5:=(k4.trans k5).aK h3 (by have:=k3.next; omega) (by simp)
  have s5:Sl aR M5 kv ks:=aN.keep s3 (k4.trans k5) (by simp)
  have kk5:=(k3.trans k4).trans k5
  rw [bB]
  refine Vl (P:=fun M'=>M'=M5) (p:=decide (ks[i]=e.1)) rfl (fun _ k hk=>?_) fun M' hM'=>?_
  ·rw [bP (n:=2) hk5 rfl,bz,ve h5,qC rfl rfl (Ci _ _),Bool.bne_false]
   exact hk M5 rfl
  subst hM'
  refine Vx (P:=fun M6=>ag [] M1 M6) (q:=decide (i > 0)) (r:=!(if h:0<i then xx (ks[i - 1]'(by omega)) ks[i] else true)) kk5 (fun _ k hk=>?_) (fun _ hq k hk=>?_) fun M6 k6=>?_
  ·rw [show (0:Int)=((0:Nat) : Int) from rfl,nz]
   exact hk
  ·have hq:0<i:=of_decide_eq_true hq
   rw [bz,az h5 rfl,bD (by omega) (by omega),qg s5 (by omega),bP (n:=2) hk5 rfl]
   refine hl fun M7 k7=>?_
   rw [bB,← dif_pos (c:=0<i) (t:=fun h=>xx (ks[i - 1]'(by omega)) ks[i]) (e:=fun _=>true) hq]
   exact hk M7 (kk5.trans k7)
  refine aF (fun hb=>?_) (fun hb=>?_)
  ·have:fQ e.1 none ks=false:=by
    rw [hm]
    simp only [Bool.or_eq_true,Bool.and_eq_true,Bool.not_eq_true',decide_eq_true_eq] at hb
    rcases hb with (hb | hb) | ⟨_,hb⟩
    ·rw [hb]; rfl
    ·rw [show decide (ks[i]=e.1)=true by simpa using hb]; simp
    ·rw [hb]; simp
   rw [hgoal,this] at hQ
   exact hQ M6 ((k0.trans k1).trans k6)
  ·rw [add1 (by omega)]
   refine hnext _ _ _ (by omega) ⟨i + 1,rfl,rfl,by omega,k6, ?_⟩
   simp only [Bool.or_eq_false_iff,Bool.and_eq_false_iff,Bool.not_eq_false',decide_eq_false_iff_not] at hb
   obtain ⟨⟨hb1,hb2⟩,hb3⟩:=hb
   rw [hm,hb1,show decide (ks[i]=e.1)=false by simpa using hb2]
   rcases hb3 with hb3 | hb3
   ·rw [dif_neg hb3]; simp
   ·rw [hb3]; simp
 ·have he:i=ks.length:=by
   have:¬ i<ks.length:=of_decide_eq_false hge
   omega
  subst he
  rw [List.drop_length,fQ] at hm
  rw [hgoal,hm,Bool.true_and] at hQ
  have op1:∀ n:Int,((e.2.1:Int) == n)=decide (e.2.1=n):=fun n=>by by_cases h:e.2.1=n <;> simp [h]
  rw [bz,az h3 rfl,df,op1]
  refine andM (p:=decide (e.2.2.2.1≠[])) (fun _ k hk=>?_) ?_
  ·rw [bz,az h3 rfl,vR,show (e.2.2.2.1 != [])=decide (e.2.2.2.1≠[]) by by_cases h:e.2.2.2.1=[] <;> simp [h]]
   exact hk
  refine Kg (q:=decide (e.2.1=2)) (r:=decide (e.2.2.2.2=[])) (fun _ k hk=>?_) (fun _ _ k hk=>?_) (hQ M3 kk3)
  ·rw [bz,az h3 rfl,df,op1]
   exact hk
  ·rw [bz,az h3 rfl,mZ,show (e.2.2.2.2 == [])=decide (e.2.2.2.2=[]) by by_cases h:e.2.2.2.2=[] <;> simp [h]]
   exact hk
theorem Ip {TE:Nat} {cg cl:aj} (hg:wW cg) (hl:zk cl) : sQ fun args M Q=>∃ a0,args=[a0]∧xV TE cg cl a0 M Q:=by
 intro M0 e kv ks Q hs0 hQ
 refine ⟨_,rfl, ?_⟩
 unfold xV
 simp only [iA,eD,dN,dQ]
 rw [dH (tZ hs0) (by simp),bi]
 have k0:ag [] M0 (M0.push (.row (aV e kv) false TE 0)):=(ag.refl _ _).push _
 have h0:(M0.push (.row (aV e kv) false TE 0)).heap M0.next=some (.row (aV e kv) false TE 0):=RM.aQ _
 have hlt:M0.next<(M0.push (.row (aV e kv) false TE 0)).next:=by simp [RM.push]
 have hs:=aN.keep hs0 k0 (by simp)
 generalize M0.push (.row (aV e kv) false TE 0)=M at *
 generalize M0.next=b at *
 have hs:Sl aR M kv ks:=hs
 rw [bz,ve h0]
 refine hg fun M1 k1=>?_
 have h1:=k1.aK h0 hlt (by simp)
 have s1:Sl aR M1 kv ks:=aN.keep hs k1 (by simp)
 have op1:∀ n:Int,((e.2.1:Int) == n)=decide (e.2.1=n):=fun n=>by by_cases h:e.2.1=n <;> simp [h]
 have op2:∀ n:Int,((e.2.1:Int) != n)=decide (e.2.1≠n):=fun n=>by by_cases h:e.2.1=n <;> simp [h]
 rw [bB]
 refine Kg (q:=decide (e.2.1≠1)) (r:=decide (e.2.1≠2)) (fun _ k hk=>?_) (fun _ _ k hk=>?_) ?_
 ·rw [bz,az h1 rfl,iJ,op2]; exact hk
 ·rw [bz,az h1 rfl,iJ,op2]; exact hk
 refine yw (p:=decide (e.2.2.1.length<1)) (fun _ k hk=>?_) ?_
 ·rw [bz,az h1 rfl,kI,dF,show decide ((e.2.2.1.length:Int)<1)=decide (e.2.2.1.length<1) from decide_eq_decide.2 (by omega)]; exact hk
 refine yw (p:=decide (e.2.2.1.length > 64)) (fun _ k hk=>?_) ?_
 ·rw [bz,az h1 rfl,kI,gH,show decide ((e.2.2.1.length:Int) > 64)=decide (e.2.2.1.length > 64) by simp; omega]; exact hk
 refine yw (p:=decide (e.2.2.2.1.length > 64)) (fun _ k hk=>?_) ?_
 ·rw [bz,az h1 rfl,kI,gH,show decide ((e.2.2.2.1.length:Int) > 64)=decide (e.2.2.2.1.length > 64) by simp; omega]; exact hk
 refine yw (p:=decide (e.2.2.2.2.length > 512)) (fun _ k hk=>?_) ?_
 ·rw [bz,az h1 rfl,kI,gH,show decide ((e.2.2.2.2.length:Int) > 512)=decide (e.2.2.2.2.length > 512) by simp; omega]; exact hk
 refine yw (p:=decide (ks.length > 64)) (fun _ k hk=>?_) ?_
 ·rw [bz,az h1 rfl,aN.len s1,gH,show decide ((ks.length:Int) > 64)=decide (ks.length > 64) by simp; omega]; exact hk
 have kk1:=k0.trans k1
 refine aF (fun hc=>?_) (fun hc=>?_)
 ·have:bY e ks=false:=by
   simp only [Bool.or_eq_true,Bool.and_eq_true,Bool.not_eq_true',decide_eq_true_eq] at hc
   simp only [bY,names,yC]
   rcases hc with (((((hc | ⟨hc1,hc2⟩) | hc) | hc) | hc) | hc) | hc
   ·rw [hc]; rfl
   ·simp [hc1,hc2]
   ·rw [decide_eq_false (show ¬ (1≤e.2.2.1.length) by omega)]; simp
   ·rw [decide_eq_false (show ¬ (e.2.2.1.length≤64) by omega)]; simp
   ·rw [decide_eq_false (show ¬ (e.2.2.2.1.length≤64) by omega)]; simp
   ·rw [decide_eq_false (show ¬ (e.2.2.2.2.length≤512) by omega)]; simp
   ·rw [decide_eq_false (show ¬ (ks.length≤64) by omega)]; simp
  rw [this] at hQ
  exact hQ M1 kk1
 simp only [Bool.or_eq_false_iff,Bool.and_eq_false_iff,Bool.not_eq_false',decide_eq_false_iff_not,Decidable.not_not] at hc
 obtain ⟨⟨⟨⟨⟨⟨hc1,hop⟩,hc2⟩,hc3⟩,hc4⟩,hc5⟩,hc6⟩:=hc
 have hgoal:bY e ks=(fQ e.1 none ks && yC e):=by
  simp only [bY,names]
  rw [hc1,decide_eq_true (show (1≤e.2.2.1.length) by omega),decide_eq_true (show (e.2.2.1.length≤64) by omega),decide_eq_true (show (e.2.2.2.1.length≤64) by omega),decide_eq_true (show (e.2.2.2.2.length≤512) by omega),decide_eq_true (show (ks.length≤64) by omega)]
  simp
 rw [hgoal] at hQ
 rw [bz,az h1 rfl,df,op1]
 refine andM (p:=decide (e.2.2.2.1=[])) (fun _ k hk=>?_) ?_
 ·rw [bz,az h1 rfl,mZ,show (e.2.2.2.1 == [])=decide (e.2.2.2.1=[]) by by_cases h:e.2.2.2.1=[] <;> simp [h]]
  exact hk
 refine Kg (q:=decide (e.2.1=2)) (r:=decide (e.2.2.2.2≠[])) (fun _ k hk=>?_) (fun _ _ k hk=>?_) ?_
 ·rw [bz,az h1 rfl,df,op1]
  exact hk
 ·rw [bz,az h1 rfl,vR,show (e.2.2.2.2 != [])=decide (e.2.2.2.2≠[]) by by_cases h:e.2.2.2.2=[] <;> simp [h]]
  exact hk
 have hopv:((decide (e.2.1=1) && decide (e.2.2.2.1=[])) || (decide (e.2.1=2) && decide (e.2.2.2.2≠[])))=!yC e:=by
  unfold yC
  rcases hop with hop | hop
  ·simp [hop]
  ·simp [hop]
 rw [hopv]
 refine aF (fun hb=>?_) (fun hb=>?_)
 ·rw [show yC e=false by simpa using hb,Bool.and_false] at hQ
  exact hQ M1 kk1
 rw [show yC e=true by simpa using hb,Bool.and_true] at hQ
 refine aG (fun m ys M3=>∃ i:Nat,m=ks.length - i∧ys=[N .i64 (i:Int)]∧i≤ks.length∧ag [] M1 M3∧fQ e.1 none ks=fQ e.1 (xG ks i) (ks.drop i)) _ ⟨0,rfl,rfl,Nat.zero_le _,ag.refl _ _,rfl⟩ ?_
 rintro next m ys M3 hnext ⟨i,rfl,rfl,hi,k3,hm⟩
 dsimp only [aa]
 have n1:=k1.next
 have h3:=k3.aK h1 (by omega) (by simp)
 have s3:Sl aR M3 kv ks:=aN.keep s1 k3 (by simp)
 rw [bz,az h3 rfl,aN.len s3,dS]
 refine aF (fun hlt2=>?_) (fun hge=>?_)
 ·have hlt2:i<ks.length:=of_decide_eq_true hlt2
  rw [BL hlt2] at hm
  rw [bz,az h3 rfl,qg s3 hlt2]
  refine hg fun M5 k5=>?_
  have h5:=k5.aK h3 (by have:=k3.next; omega) (by simp)
  have s5:Sl aR M5 kv ks:=aN.keep s3 k5 (by simp)
  have kk5:=k3.trans k5
  rw [bB]
  refine Vl (P:=fun M'=>M'=M5) (p:=decide (ks[i]=e.1)) rfl (fun _ k hk=>?_) fun M' hM'=>?_
  ·rw [bz,az h5 rfl,qg s5 hlt2,bz,ve h5,qC rfl rfl (Ci _ _),Bool.bne_false]
   exact hk M5 rfl
  subst hM'
  refine Vx (P:=fun M6=>ag [] M1 M6) (q:=decide (i > 0)) (r:=!(if h:0<i then xx (ks[i - 1]'(by omega)) ks[i] else true)) kk5 (fun _ k hk=>?_) (fun _ hq k hk=>?_) fun M6 k6=>?_
  ·rw [show (0:Int)=((0:Nat) : Int) from rfl,nz]
   exact hk
  ·have hq:0<i:=of_decide_eq_true hq
   rw [bz,az h5 rfl,bD (by omega) (by omega),qg s5 (by omega),bz,az h5 rfl,qg s5 hlt2]
   refine hl fun M7 k7=>?_
   rw [bB,← dif_pos (c:=0<i) (t:=fun h=>xx (ks[i - 1]'(by omega)) ks[i]) (e:=fun _=>true) hq]
   exact hk M7 (kk5.trans k7)
  refine aF (fun hb=>?_) (fun hb=>?_)
  ·have:fQ e.1 none ks=false:=by
    rw [hm]
    simp only [Bool.or_eq_true,Bool.and_eq_true,Bool.not_eq_true',decide_eq_true_eq] at hb
    rcases hb with (hb | hb) | ⟨_,hb⟩
    ·rw [hb]; rfl
    ·rw [show decide (ks[i]=e.1)=true by simpa using hb]; simp
    ·rw [hb]; simp
   rw [this] at hQ
   exact hQ M6 (kk1.trans k6)
  ·rw [add1 (by omega)]
   refine hnext _ _ _ (by omega) ⟨i + 1,rfl,rfl,by omega,k6, ?_⟩
   simp only [Bool.or_eq_false_iff,Bool.and_eq_false_iff,Bool.not_eq_false',decide_eq_false_iff_not] at hb
   obtain ⟨⟨hb1,hb2⟩,hb3⟩:=hb
   rw [hm,hb1,show decide (ks[i]=e.1)=false by simpa using hb2]
   rcases hb3 with hb3 | hb3
   ·rw [dif_neg hb3]; simp
   ·rw [hb3]; simp
 ·have he:i=ks.length:=by
   have:¬ i<ks.length:=of_decide_eq_false hge
   omega
  subst he
  rw [List.drop_length,fQ] at hm
  rw [hm] at hQ
  exact hQ M3 (kk1.trans k3)
end Go.Ab.Crw
set_option maxRecDepth 10000
set_option linter.unusedVariables false
set_option linter.unusedSimpArgs false
namespace Go.Ab.Crw
open Go Go.Ab Go.Ab.ak
def yX (T:Nat) (c:aj) : Prop:=∀ {M:RM} {v:AV} {xs:List aL} {Q:ah},Sl aC M v xs→xs.length≤1000000→(∀ v' M',Ow aC M' M.next T v' xs→ag [] M M'→Q v' M')→c [v] M Q
theorem NA {T:Nat} : yX T fun args M Q=>∃ a0,args=[a0]∧uJ T a0 M Q:=by
 intro M v xs Q hs hl hQ
 refine ⟨_,rfl, ?_⟩
 unfold uJ
 have h5:aN M 5 v (aC.row xs) xs.length:=hs
 exact JN (size:=5) (bytes:=64) h5 (Enc.qF _ _) (by decide) (by omega) (by omega) fun v' M' ho k=>hQ v' M' ho k
def Ij (c:aj) : Prop:=∀ {M:RM} {v:AV} {l:List ak} {d:ak} {Q:ah},Sl aR M v l→l.length≤1000000→(∀ (n:Int) M',(decide (n ≥ 0)=decide (d∈l))→ag [] M M'→Q (N .i64 n) M')→c [v,.agg (aO d)] M Q
theorem Nl {T:Nat} : Ij fun args M Q=>∃ a0 a1,args=[a0,a1]∧xL T a0 a1 M Q:=by
 intro M0 v l d Q hs0 hl hQ
 refine ⟨_,_,rfl, ?_⟩
 unfold xL
 rw [dH rfl (by simp),bi]
 have k0:ag [] M0 (M0.push (.row (aO d) false T 0)):=(ag.refl _ _).push _
 have h0:(M0.push (.row (aO d) false T 0)).heap M0.next=some (.row (aO d) false T 0):=RM.aQ _
 have hs:Sl aR (M0.push (.row (aO d) false T 0)) v l:=aN.keep hs0 k0 (by simp)
 generalize M0.push (.row (aO d) false T 0)=M at *
 generalize M0.next=b at *
 rw [aN.len hs]
 refine aG (fun m ys M3=>∃ i:Nat,m=l.length - i∧ys=[N .i64 (i:Int)]∧i≤l.length∧M3=M∧(d∈l↔d∈l.drop i)) _ ⟨0,rfl,rfl,Nat.zero_le _,rfl,Iff.rfl⟩ ?_
 rintro next m ys M3 hnext ⟨i,rfl,rfl,hi,rfl,hm⟩
 dsimp only [aa]
 rw [dS]
 refine aF (fun hlt=>?_) (fun hge=>?_)
 ·have hlt:i<l.length:=of_decide_eq_true hlt
  rw [List.drop_eq_getElem_cons hlt,List.mem_cons] at hm
  rw [bP (n:=2) h0 rfl,qg hs hlt,qC rfl rfl (Ci _ _),Bool.bne_false]
  refine aF (fun he=>?_) (fun he=>?_)
  ·have he:d=l[i]:=of_decide_eq_true he
   refine hQ _ _ ?_ k0
   rw [decide_eq_true (show (i:Int) ≥ 0 by omega),decide_eq_true (hm.2 (.inl he))]
  ·have he:¬ d=l[i]:=of_decide_eq_false he
   rw [add1 (by omega)]
   exact hnext _ _ _ (by omega) ⟨i + 1,rfl,rfl,by omega,rfl,hm.trans ⟨fun h=>h.resolve_left he,.inr⟩⟩
 ·have he:i=l.length:=by
   have:¬ i<l.length:=of_decide_eq_false hge
   omega
  subst he
  rw [List.drop_length] at hm
  refine hQ _ _ ?_ k0
  rw [decide_eq_false (show ¬ (-1:Int) ≥ 0 by decide),decide_eq_false (fun h=>by simpa using hm.1 h)]
def u7 (c:aj) : Prop:=∀ {M:RM} {v:AV} {l:List ak} {d:ak} {Q:ah},Sl aR M v l→l.length≤1000000→(∀ M',ag [] M M'→Q (Bo (decide (d∈l))) M')→c [v,.agg (aO d)] M Q
theorem G9 {T:Nat} {ci:aj} (hi:Ij ci) : u7 fun args M Q=>∃ a0 a1,args=[a0,a1]∧tC T ci a0 a1 M Q:=by
 intro M0 v l d Q hs0 hl hQ
 refine ⟨_,_,rfl, ?_⟩
 unfold tC
 rw [dH rfl (by simp),bi]
 have k0:ag [] M0 (M0.push (.row (aO d) false T 0)):=(ag.refl _ _).push _
 rw [bP (n:=2) (RM.aQ _) rfl]
 refine hi (aN.keep hs0 k0 (by simp)) hl fun n M' hn k=>?_
 rw [fw,hn]
 exact hQ M' (k0.trans k)
def F9 (P:RM→Prop) (p:aL→Bool) (c:List AV→RM→ah→Prop) : Prop:=∀ {M:RM} {x:aL} {Q:ah},P M→(∀ M',ag [] M M'→Q (Bo (p x)) M')→c [.agg (aC.cells x)] M Q
theorem oQ {M:RM} {v:AV} {xs:List aL} (h:Sl aC M v xs) {i:Nat} (hi:i<xs.length) {kd:IntKind} {K:AV→Prop} : (au v (N kd (i:Int)) 5 fun p=>aB M p 5 K)=K (.agg (aC.cells xs[i])):=by
 obtain ⟨b,o,_,_,hidx,hld⟩:=Sl.at (E:=aC) (i:=i) h 5 (i:Int) hi rfl rfl
 rw [hidx,gK,hld]
 simp
def H6 (P:RM→Prop) (p:aL→Bool) (fv:AV) (c:aj) : Prop:=∀ {M:RM} {v:AV} {xs:List aL} {Q:ah},P M→(∀ M M',P M→ag [] M M'→P M')→Sl aC M v xs→xs.length≤1000000 →
 (xs.any p=false→∀ M',ag [] M M'→Q (N .i64 (-1)) M')→(∀ (i:Nat) (hi:i<xs.length),p xs[i]=true→(∀ x∈xs.take i,p x=false)→∀ M',ag [] M M'→Q (N .i64 (i:Int)) M')→c [v,fv] M Q
theorem MP {P:RM→Prop} {p:aL→Bool} {fv:AV} {cv:FuncId→aj} (hp:F9 P p (bN cv fv)) : H6 P p fv fun args M Q=>∃ a0 a1,args=[a0,a1]∧ou cv a0 a1 M Q:=by
 intro M v xs Q hP hPk hs hl h0 h1
 refine ⟨_,_,rfl, ?_⟩
 unfold ou
 rw [aN.len hs]
 refine aG (fun m ys M3=>∃ i:Nat,m=xs.length - i∧ys=[N .i64 (i:Int)]∧i≤xs.length∧ag [] M M3∧∀ x∈xs.take i,p x=false) _ ⟨0,rfl,rfl,Nat.zero_le _,ag.refl _ _,by simp⟩ ?_
 rintro next m ys M3 hnext ⟨i,rfl,rfl,hi,k3,hm⟩
 dsimp only [aa]
 rw [dS]
 refine aF (fun hlt=>?_) (fun hge=>?_)
 ·have hlt:i<xs.length:=of_decide_eq_true hlt
  rw [oQ (aN.keep hs k3 (by simp)) hlt]
  refine hp (hPk _ _ hP k3) fun M4 k4=>?_
  refine aF (fun he=>h1 i hlt he hm M4 (k3.trans k4)) (fun he=>?_)
  rw [add1 (by omega)]
  refine hnext _ _ _ (by omega) ⟨i + 1,rfl,rfl,by omega,k3.trans k4,fun x hx=>?_⟩
  rw [List.take_succ_eq_append_getElem hlt,List.mem_append] at hx
  rcases hx with hx | hx
  ·exact hm x hx
  ·simp at hx; subst hx; exact he
 ·have he:i=xs.length:=by
   have:¬ i<xs.length:=of_decide_eq_false hge
   omega
  subst he
  rw [List.take_length] at hm
  exact h0 (by simpa using hm) M3 k3
theorem Sq {b o n k z:Nat} (h:k≤n) (h0:0<n) : dh z (.slc b o n (.op z)) none (some (N .i64 (k:Int))) none=some (.slc b o k (.op z)):=by
 simp only [dh,bnd]
 simp [h]
 omega
theorem Kv (zs:List AV) : ∀ k,(bK zs k).length=k * zs.length
 | 0=>by simp [bK]
 | k + 1=>by rw [bK,List.length_append,Kv zs k,Nat.succ_mul,Nat.add_comm]
theorem Lu {zs:List AV} (h:zs.all oneCell=true) : ∀ k,(bK zs k).all oneCell=true
 | 0=>by simp [bK]
 | k + 1=>by rw [bK,List.all_append,h,Lu h k]; rfl
def wH (T:Nat) (P:RM→Prop) (p:aL→Bool) (fv:AV) (c:aj) : Prop:=∀ {M:RM} {base:Nat} {v:AV} {xs:List aL} {Q:ah},P M→(∀ M M' ks,P M→ag ks M M'→(∀ d∈ks,d∈aH v)→P M')→Ow aC M base T v xs→xs.length≤60000 →
 (∀ v' M',Sl aC M' v' (xs.filter fun x=>!p x)→(∀ d∈aH v',d∈aH v)→ag (aH v) M M'→Q v' M')→c [v,fv] M Q
theorem BZ {T TE:Nat} {P:RM→Prop} {p:aL→Bool} {fv:AV} {cv:FuncId→aj} {ci:aj} (hi:H6 P p fv ci) (hp:F9 P p (bN cv fv)) : wH T P p fv fun args M Q=>∃ a0 a1,args=[a0,a1]∧nE ci TE cv a0 a1 M Q:=by
 intro M base v xs Q hP hPk ho hl hQ
 refine ⟨_,_,rfl, ?_⟩
 unfold nE
 simp only [bT]
 have hs:Sl aC M v xs:=ho.lG
 refine hi hP (fun M M' h k=>hPk M M' [] h k (by simp)) hs (by omega) (fun hn M1 k1=>?_) (fun i hlt hpi hm M1 k1=>?_)
 ·rw [df,show ((-1:Int) == -1)=true from rfl,dC]
  have e:(xs.filter fun x=>!p x)=xs:=List.filter_eq_self.2 fun x hx=>by
   have:=List.any_eq_false.1 hn x hx
   simpa using this
  exact hQ v M1 (by rw [e]; exact aN.keep hs k1 (by simp)) (fun d hd=>hd) (k1.mono (by simp))
 rw [df,show ((i:Int) == -1)=false by rw [beq_eq_false_iff_ne]; omega,bF,add1 (by omega)]
 obtain ⟨b,rfl,h1,h2,h3,h4⟩:=Own.vO ho (by omega)
 have hsz:xs.toArray.size=xs.length:=by simp
 have hat:At aC T b xs.toArray M:=⟨by rw [h3],h2⟩
 have hel:∀ j (h:j<xs.length),xs.toArray[j]! = xs[j]:=fun j h=>by rw [Cj (by simpa using h)]; simp
 have hpre0:xs.toArray.toList.take i=(xs.take (i + 1)).filter fun x=>!p x:=by
  rw [List.take_succ_eq_append_getElem hlt,List.filter_append,List.filter_eq_self.2 fun x hx=>by simpa using hm x hx]
  simp [hpi]
 refine aG (fun m ys M3=>∃ (k j:Nat) (d:Array aL),m=xs.length - j∧ys=[N .i64 (k:Int),N .i64 (j:Int)]∧j≤xs.length∧k<j∧At aC T b d M3∧ag [b] M M3∧d.size=xs.length∧d.toList.take k=(xs.take j).filter (fun x=>!p x)∧∀ q (h:q<xs.length),j≤q→d[q]! = xs[q]) _
  ⟨i,i + 1,xs.toArray,rfl,rfl,by omega,by omega,hat.keep k1,k1.mono (by simp),hsz,hpre0,fun q h _=>hel q h⟩ ?_
 rintro next m ys M3 hnext ⟨k,j,d,rfl,rfl,hj,hkj,h3',k3,hds,hpre,hold⟩
 dsimp only [aa]
 have lenV:∀ K:AV→Prop,cK (AV.slc b 0 xs.length (.op aC.size)) K=K (N .i64 (xs.length:Int)):=fun K=>by simp [lm]
 rw [lenV,dS]
 have e5:aC.size=5:=rfl
 rw [e5] at *
 refine aF (fun hlt2=>?_) (fun hge2=>?_)
 ·have hlt2:j<xs.length:=of_decide_eq_true hlt2
  refine aZ (fun zs M'=>∃ (k' : Nat) (d' : Array aL),zs=[N .i64 (k' : Int)]∧k'<j + 1∧At aC T b d' M'∧ag [b] M M'∧d'.size=xs.length∧d'.toList.take k'=(xs.take (j + 1)).filter (fun x=>!p x)∧∀ q (h:q<xs.length),j + 1≤q→d'[q]! = xs[q]) ?_ ?_
  ·rintro zs M' ⟨k',d',rfl,c1,c2,c3,c4,c5,c6⟩
   dsimp only [aa]
   rw [add1 (by omega)]
   exact hnext _ _ _ (by omega) ⟨k',j + 1,d',rfl,rfl,by omega,c1,c2,c3,c4,c5,c6⟩
  intro J hJ
  rw [h3'.rd (z:=5) rfl hds.symm (by omega),hold j hlt2 (Nat.le_refl _),bi,dI (n:=5) (x:=.agg (aC.cells xs[j])) (l:=[(N .i64 0),(N .u64 0),(St []),(St []),(St [])]) (RM.aQ _) rfl rfl rfl]
  have k4:ag [] M3 ((M3.push (.row [(N .i64 0),(N .u64 0),(St []),(St []),(St [])] false TE 0)).put M3.next (.row (AV.agg (aC.cells xs[j])).cells false TE 0)):=((ag.refl _ _).push _).new _ (Nat.le_refl _)
  have hk4:((M3.push (.row [(N .i64 0),(N .u64 0),(St []),(St []),(St [])] false TE 0)).put M3.next (.row (AV.agg (aC.cells xs[j])).cells false TE 0)).heap M3.next=some (.row (aC.cells xs[j]) false TE 0):=aP _
  have hn4:M3.next<((M3.push (.row [(N .i64 0),(N .u64 0),(St []),(St []),(St [])] false TE 0)).put M3.next (.row (AV.agg (aC.cells xs[j])).cells false TE 0)).next:=by simp [RM.push,RM.put]
  generalize (M3.push (.row [(N .i64 0),(N .u64 0),(St []),(St []),(St [])] false TE 0)).put M3.next (.row (AV.agg (aC.cells xs[j])).cells false TE 0)=M4 at *
  generalize M3.next=s at *
  rw [bP (n:=5) hk4 rfl]
  have kk4:ag [b] M M4:=k3.trans (k4.mono (cs:=[b]) (by simp))
  have hP4:P M4:=hPk M M4 [b] hP kk4 (by simp [aH])
  refine hp hP4 fun M5 k5=>?_
  have kk5:ag [b] M M5:=kk4.trans (k5.mono (cs:=[b]) (by simp))
  have hat5:=h3'.keep (k4.trans k5)
  have hflt:(xs.take (j + 1)).filter (fun x=>!p x)=if p xs[j] then (xs.take j).filter (fun x=>!p x) else (xs.take j).filter (fun x=>!p x)++[xs[j]]:=by
   rw [List.take_succ_eq_append_getElem hlt2,List.filter_append]
   by_cases hpj:p xs[j]=true <;> simp [hpj]
  rw [bB]
  refine aF (fun hn=>?_) (fun hn=>?_)
  ·have hpj:p xs[j]=false:=by simpa using hn
   rw [bP (n:=5) (k5.aK hk4 hn4 (by simp)) rfl,At.idx (by omega)]
   refine hat5.st (z:=5) rfl (by omega) fun M6 h6 k6 _=>?_
   rw [add1 (by omega)]
   refine hJ _ _ ⟨k + 1,_,rfl,by omega,h6,kk5.trans k6,by simpa using hds, ?_,fun q h hq=>?_⟩
   ·have hkl:k<d.toList.length:=by rw [Array.length_toList]; omega
    rw [hflt,hpj,← hpre,Array.toList_setIfInBounds,List.take_succ_eq_append_getElem (by rw [List.length_set]; exact hkl),List.getElem_set_self,List.take_set_of_le (Nat.le_refl _)]
    rfl
   ·rw [← hold q h (by omega),Cj (by rw [Array.size_setIfInBounds]; omega),Cj (by omega),Array.getElem_setIfInBounds_ne (by omega) (by omega)]
  ·have hpj:p xs[j]=true:=by simpa using hn
   exact hJ _ _ ⟨k,d,rfl,by omega,hat5,kk5,hds,by rw [hflt,hpj]; exact hpre,fun q h hq=>hold q h (by omega)⟩
 ·have hj2:j=xs.length:=by
   have:¬ j<xs.length:=of_decide_eq_false hge2
   omega
  subst hj2
  rw [List.take_length] at hpre
  have hrl:(aC.row d.toList).length=xs.length * 5:=by rw [Enc.eG,Array.length_toList,hds]; rfl
  have hst:M3.stores b (0 + k * 5) (bK [(N .i64 0),(N .u64 0),(St []),(St []),(St [])] (xs.length - k))=some (M3.put b (.row ((aC.row d.toList).take (0 + k * 5)++bK [(N .i64 0),(N .u64 0),(St []),(St []),(St [])] (xs.length - k)++(aC.row d.toList).drop (0 + k * 5 + (bK [(N .i64 0),(N .u64 0),(St []),(St []),(St [])] (xs.length - k)).length)) true T 0)):=by
   refine RM.Ah h3'.heap ?_ (Nat.zero_le _) (Lu rfl _)
   rw [Kv,hrl]
   show 0 + k * 5 + (xs.length - k) * 5≤xs.length * 5
   omega
  rw [nA (by omega),dY]
  refine .inl ⟨_,_,_,_,_,rfl,hst, ?_⟩
  dsimp only
  rw [Sq (by omega) (by omega),dY]
  have hlk:(xs.filter fun x=>!p x).length=k:=by rw [← hpre,List.length_take,Array.length_toList]; omega
  refine hQ _ _ ?_ (fun e he=>by simpa [aH] using he) ?_
  ·have hrow:((aC.row d.toList).take (0 + k * 5))=aC.row (xs.filter fun x=>!p x):=by
    rw [← hpre,show 0 + k * 5=k * aC.size by show 0 + k * 5=k * 5; omega,Enc.sj]
   show aN _ 5 (.slc b 0 k (.op 5)) (aC.row (xs.filter fun x=>!p x)) (xs.filter fun x=>!p x).length
   rw [hlk]
   refine .slc _ _ _ _ _ h3'.lt ?_
   have hl:(aC.row (xs.filter fun x=>!p x)).length=k * 5:=by rw [Enc.eG,hlk]; rfl
   rw [RM.dG (aP _) (by rw [hrow]; simp [hl]),List.drop_zero,hrow,List.append_assoc,List.take_left' hl]
  ·have:ag [b] M3 (M3.put b (.row ((aC.row d.toList).take (0 + k * 5)++bK [(N .i64 0),(N .u64 0),(St []),(St []),(St [])] (xs.length - k)++(aC.row d.toList).drop (0 + k * 5 + (bK [(N .i64 0),(N .u64 0),(St []),(St []),(St [])] (xs.length - k)).length)) true T 0)):=(ag.refl _ _).put _ (.inr (by simp))
   simpa [aH] using k3.trans this
def Cf (TE:Nat) (b:Nat) (e:je) (kv:AV) (ks:List ak) (M:RM) : Prop:=b<M.next∧M.heap b=some (.row (aV e kv) false TE 0)∧Sl aR M kv ks
theorem Cf.keep {TE b:Nat} {e:je} {kv:AV} {ks:List ak} {M M' : RM} {bs:List Nat} (h:Cf TE b e kv ks M) (k:ag bs M M') (hb:b ∉ bs) (hk:∀ d∈aH kv,d ∉ bs) : Cf TE b e kv ks M':=by
 obtain ⟨h1,h2,h3⟩:=h
 exact ⟨Nat.lt_of_lt_of_le h1 k.next,k.aK h2 h1 hb,aN.keep h3 k hk⟩
theorem MR {TE T b:Nat} {e:je} {kv:AV} {ks:List ak} {cc:aj} (hc:u7 cc) (hl:ks.length≤1000000) {M:RM} {x:aL} {Q:ah} (hP:Cf TE b e kv ks M) (hQ:∀ M',ag [] M M'→Q (Bo (decide (x.1∈ks))) M') :
  ∃ a0 a1,[AV.agg (aC.cells x),.ptr b 0]=[a0,a1]∧qO T cc a0 a1 M Q:=by
 obtain ⟨h1,h2,h3⟩:=hP
 refine ⟨_,_,rfl, ?_⟩
 unfold qO
 rw [dH rfl (by rw [aC.len]; decide),bi]
 have k0:ag [] M (M.push (.row (aC.cells x) false T 0)):=(ag.refl _ _).push _
 have hx:(M.push (.row (aC.cells x) false T 0)).heap M.next=some (.row (aC.cells x) false T 0):=RM.aQ _
 have h2':=k0.aK h2 h1 (by simp)
 have h3' : Sl aR (M.push (.row (aC.cells x) false T 0)) kv ks:=aN.keep h3 k0 (by simp)
 generalize M.push (.row (aC.cells x) false T 0)=M1 at *
 generalize M.next=s at *
 have e2:((aC.cells x).drop 0).take 2=aO x.1:=rfl
 have ld:∀ K:AV→Prop,aB M1 (.ptr s 0) 2 K=K (.agg (aO x.1)):=fun K=>by
  rw [gK,RM.dG hx (by rw [aC.len]; decide),e2]
  simp
 rw [bz,az h2' rfl,bz,ld]
 exact hc h3' hl fun M' k=>hQ M' (k0.trans k)
theorem Xp (a b:aL) : dW [1,1,2,2,2] (aC.cells a) (aC.cells b)=some (decide (a=b)):=by
 obtain ⟨⟨d,n⟩,x,y,z⟩:=a
 obtain ⟨⟨d',n'⟩,x',y',z'⟩:=b
 show dW [1,1,2,2,2] [N .i64 d,N .u64 (n:Int),St x,St y,St z] [N .i64 d',N .u64 (n' : Int),St x',St y',St z']=_
 simp only [FX,PQ,Fx]
 by_cases h1:d=d' <;> by_cases h2:n=n' <;> by_cases h3:x=x' <;> by_cases h4:y=y' <;> by_cases h5:z=z' <;> simp [h1,h2,h3,h4,h5]
 all_goals omega
def CJ (c:aj) : Prop:=∀ {M:RM} {v w:AV} {xs ys:List aL} {Q:ah},Sl aC M v xs→Sl aC M w ys→xs.length≤1000000→Q (Bo (decide (xs=ys))) M→c [v,w] M Q
theorem NM:CJ fun args M Q=>∃ a0 a1,args=[a0,a1]∧uI a0 a1 M Q:=by
 intro M v w xs ys Q h1 h2 hl hQ
 refine ⟨_,_,rfl, ?_⟩
 unfold uI
 rw [aN.len h1,aN.len h2,iJ,aN.len h1]
 refine aF (fun hn=>?_) (fun hn=>?_)
 ·have:¬ xs=ys:=fun e=>by subst e; simp at hn
  rw [decide_eq_false this] at hQ
  exact hQ
 have hn:xs.length=ys.length:=by
  simp only [bne_eq_false_iff_eq] at hn
  omega
 refine aG (fun m zs M3=>∃ i:Nat,m=xs.length - i∧zs=[N .i64 (i:Int)]∧i≤xs.length∧M3=M∧(xs=ys↔xs.drop i=ys.drop i)) _ ⟨0,rfl,rfl,Nat.zero_le _,rfl,Iff.rfl⟩ ?_
 rintro next m zs M3 hnext ⟨i,rfl,rfl,hi,rfl,hm⟩
 dsimp only [aa]
 rw [dS]
 refine aF (fun hlt=>?_) (fun hge=>?_)
 ·have hlt:i<xs.length:=of_decide_eq_true hlt
  rw [List.drop_eq_getElem_cons hlt,List.drop_eq_getElem_cons (show i<ys.length by omega),List.cons.injEq] at hm
  rw [oQ h1 hlt,oQ h2 (by omega),qC rfl rfl (Xp _ _)]
  refine aF (fun he=>?_) (fun he=>?_)
  ·have he:¬ xs[i]=ys[i]'(by omega):=by simpa using he
   rw [decide_eq_false (fun e=>he (hm.1 e).1)] at hQ
   exact hQ
  ·have he:xs[i]=ys[i]'(by omega):=by simpa using he
   rw [add1 (by omega)]
   exact hnext _ _ _ (by omega) ⟨i + 1,rfl,rfl,by omega,rfl,hm.trans ⟨fun h=>h.2,fun h=>⟨he,h⟩⟩⟩
 ·have he:i=xs.length:=by
   have:¬ i<xs.length:=of_decide_eq_false hge
   omega
  subst he
  rw [List.drop_length,hn,List.drop_length] at hm
  rw [decide_eq_true (hm.2 rfl)] at hQ
  exact hQ
end Go.Ab.Crw
set_option maxRecDepth 10000
set_option linter.unusedVariables false
set_option linter.unusedSimpArgs false
namespace Go.Ab.ak
open Go Go.Ab
theorem KC:∀ (a b:Nat),bK [N .u64 0] (a + b)=bK [N .u64 0] a++bK [N .u64 0] b
 | 0,b=>by simp [bK]
 | a + 1,b=>by rw [show a + 1 + b=(a + b) + 1 by omega,bK,bK,KC a b]; simp
theorem MM {M:RM} {b T k:Nat} {ps ys:List Nat} {u:AV} {zs:List AV} {K:ah} (hb:M.heap b=some (.row (aX.row ps++bK [N .u64 0] k) true T 0)) (hu:Sl aX M u ys) (hk:ys.length≤k) (hl:ys.length≤1000000)
  (hK:∀ M',M'.heap b=some (.row (aX.row (ps++ys)++bK [N .u64 0] (k - ys.length)) true T 0)→ag [b] M M'→M'.next=M.next→K (.slc b 0 (ps++ys).length (.op 1)) M') :
  appW T 1 8 zs false (.slc b 0 ps.length (.op 1)) u M K:=by
 have hn:=aN.oh hu zs
 have hrl:(aX.row ys).length=ys.length:=by rw [Enc.eG]; simp [aX]
 have hpl:(aX.row ps).length=ps.length:=by rw [Enc.eG]; simp [aX]
 refine ⟨ys.length,aX.row ys,hn,by omega,by omega, ?_⟩
 by_cases h0:ys.length=0
 ·have:ys=[]:=List.length_eq_zero_iff.1 h0
  subst this
  refine ⟨.slc b 0 ps.length (.op 1),M,by simp [pR], ?_⟩
  have:=hK M (by simpa using hb) (ag.refl _ _) rfl
  simpa using this
 ·have hfit:0 + (ps.length + ys.length) * 1≤(aX.row ps++bK [N .u64 0] k).length:=by
   rw [List.length_append,hpl,(nK k).1]; omega
  refine ⟨.slc b 0 (ps.length + ys.length) (.op 1),M.put b (.row (aX.row (ps++ys)++bK [N .u64 0] (k - ys.length)) true T 0), ?_, ?_⟩
  ·simp only [pR,if_neg h0,hb]
   rw [if_pos (by simp),if_pos hfit,RM.ul hb,nJ (by rw [hrl,List.length_append,hpl,(nK k).1]; omega) (by omega) (aX.qF ys)]
   simp only [Option.map_some]
   congr 4
   rw [Enc.qP]
   have e1:(aX.row ps++bK [N .u64 0] k).take (0 + ps.length * 1)=aX.row ps:=by rw [List.take_left' (by omega)]
   have e2:(aX.row ps++bK [N .u64 0] k).drop (0 + ps.length * 1 + (aX.row ys).length)=bK [N .u64 0] (k - ys.length):=by
    have:k=ys.length + (k - ys.length):=by omega
    rw [show bK [N .u64 0] k=bK [N .u64 0] ys.length++bK [N .u64 0] (k - ys.length) by rw [← KC]; congr 1,← List.append_assoc,List.drop_left' (by rw [List.length_append,hpl,(nK _).1,hrl]; omega)]
   rw [e1,e2]
  ·have:=hK _ (aP _) ((ag.refl _ _).put _ (.inr (by simp))) rfl
   rw [List.length_append] at this
   exact this
def Iy (T:Nat) (c:aj) : Prop:=∀ {M:RM} {bb TS:Nat} {v w:AV} {xs ys:List Nat} {Q:ah},M.heap bb=some (.row [v,w] false TS 0)→bb<M.next→Sl aX M v xs→Sl aX M w ys→xs.length≤1000000→ys.length≤1000000 →
 (∀ r M',Ow aX M' M.next T r (xs++ys)→ag [] M M'→Q r M')→c [.slc bb 0 2 (.ex 2)] M Q
theorem NH {TS T:Nat} {cg:aj} (hg:Qt T cg) : Iy T fun args M Q=>∃ a0,args=[a0]∧q9 TS cg T a0 M Q:=by
 intro M bb TB v w xs ys Q hb hbl hv hw hx hy hQ
 refine ⟨_,rfl, ?_⟩
 unfold q9
 simp only [su]
 have at0:∀ K:AV→Prop,au (.slc bb 0 2 (.ex 2)) (N .i64 ((0:Nat) : Int)) 1 K=K (.ptr bb 0):=fun K=>by
  rw [mW]; exact propext ⟨fun h=>h.2.2,fun h=>⟨by decide,by decide,h⟩⟩
 have FU:∀ K:AV→Prop,au (.slc bb 0 2 (.ex 2)) (N .i64 ((1:Nat) : Int)) 1 K=K (.ptr bb 1):=fun K=>by
  rw [mW]; exact propext ⟨fun h=>h.2.2,fun h=>⟨by decide,by decide,h⟩⟩
 rw [lm]
 have len3:∀ (p0:Nat),p0=0∨p0=xs.length∨p0=xs.length + ys.length→True:=fun _ _=>trivial
 refine aG (fun m zs M3=>∃ i:Nat,m=2 - i∧i≤2∧zs=[N .i64 ((if i=0 then 0 else if i=1 then xs.length else xs.length + ys.length:Nat) : Int),N .i64 (i:Int)]∧M3=M) _ ⟨0,rfl,by omega,rfl,rfl⟩ ?_
 rintro next m zs M3 hnext ⟨i,rfl,hi,rfl,rfl⟩
 dsimp only [aa]
 rw [dF]
 obtain rfl | rfl | rfl:i=0∨i=1∨i=2:=by omega
 ·rw [show decide (((0:Nat) : Int)<((2:Nat) : Int))=true from rfl,dC,at0,az hb rfl,aN.len hv]
  simp only [if_true]
  rw [dm,show ((0:Nat) : Int) + (xs.length:Int)=(xs.length:Int) by omega,aW (by omega) (by omega),dF,show decide ((xs.length:Int)<0)=false by simp,bF,dm,ik (by omega)]
  exact hnext _ _ _ (by omega) ⟨1,rfl,by omega,rfl,rfl⟩
 ·rw [show decide (((1:Nat) : Int)<((2:Nat) : Int))=true from rfl,dC,FU,az hb rfl,aN.len hw]
  simp only [if_true,show ¬ (1:Nat)=0 by omega,if_false]
  rw [dm,show (xs.length:Int) + (ys.length:Int)=((xs.length + ys.length:Nat) : Int) by omega,aW (by omega) (by omega),dF,show decide (((xs.length + ys.length:Nat) : Int)<0)=false by simp; omega,bF,dm,ik (by omega)]
  exact hnext _ _ _ (by omega) ⟨2,rfl,by omega,rfl,rfl⟩
 ·rw [show decide (((2:Nat) : Int)<((2:Nat) : Int))=false from rfl,bF]
  simp only [show ¬ (2:Nat)=0 by omega,show ¬ (2:Nat)=1 by omega,if_false]
  refine hg (by omega) (fun h0=>?_) (fun hpos b M4 hb0 hb1 hrow k4=>?_)
  ·
   have e1:xs=[]:=List.length_eq_zero_iff.1 (by omega)
   have e2:ys=[]:=List.length_eq_zero_iff.1 (by omega)
   subst e1 e2
   rw [lm]
   refine aG (fun m zs M5=>∃ i:Nat,m=2 - i∧i≤2∧zs=[bJ,N .i64 (i:Int)]∧M5=M3) _ ⟨0,rfl,by omega,rfl,rfl⟩ ?_
   rintro next2 m zs M5 hnext2 ⟨i,rfl,hi,rfl,rfl⟩
   dsimp only [aa]
   rw [dF]
   have app:∀ (u:AV) (K:ah),Sl aX M5 u []→K bJ M5→appW T 1 8 [N .u64 0] false bJ u M5 K:=fun u K hu hK=>by
    refine ⟨0,[], ?_,by omega,by omega,bJ,M5,by simp [pR],hK⟩
    exact aN.oh hu _
   obtain rfl | rfl | rfl:i=0∨i=1∨i=2:=by omega
   ·rw [show decide (((0:Nat) : Int)<((2:Nat) : Int))=true from rfl,dC,at0,az hb rfl]
    refine app _ _ hv ?_
    rw [dm,ik (by omega)]
    exact hnext2 _ _ _ (by omega) ⟨1,rfl,by omega,rfl,rfl⟩
   ·rw [show decide (((1:Nat) : Int)<((2:Nat) : Int))=true from rfl,dC,FU,az hb rfl]
    refine app _ _ hw ?_
    rw [dm,ik (by omega)]
    exact hnext2 _ _ _ (by omega) ⟨2,rfl,by omega,rfl,rfl⟩
   ·rw [show decide (((2:Nat) : Int)<((2:Nat) : Int))=false from rfl,bF]
    exact hQ bJ M5 .nil (ag.refl _ _)
  ·rw [lm]
   have hbb:bb≠b:=by omega
   refine aG (fun m zs M5=>∃ i:Nat,m=2 - i∧i≤2∧zs=[.slc b 0 (if i=0 then ([] : List Nat) else if i=1 then xs else xs++ys).length (.op 1),N .i64 (i:Int)]∧ag [b] M4 M5∧M5.next=M4.next ∧
     M5.heap b=some (.row (aX.row (if i=0 then [] else if i=1 then xs else xs++ys)++bK [N .u64 0] (xs.length + ys.length - (if i=0 then ([] : List Nat) else if i=1 then xs else xs++ys).length)) true T 0)) _
    ⟨0,rfl,by omega,rfl,ag.refl _ _,rfl,by simpa [Enc.row] using hrow⟩ ?_
   rintro next2 m zs M5 hnext2 ⟨i,rfl,hi,rfl,k5,n5,hrow5⟩
   dsimp only [aa]
   rw [dF]
   have hb4:=k4.aK hb hbl (by simp)
   have hb5:=k5.aK hb4 (by omega) (by simp; exact hbb)
   have hv5:Sl aX M5 v xs:=aN.keep (aN.keep hv k4 (by simp)) k5 (fun d hd hm=>by have:=aN.lt hv d hd; simp at hm; omega)
   have hw5:Sl aX M5 w ys:=aN.keep (aN.keep hw k4 (by simp)) k5 (fun d hd hm=>by have:=aN.lt hw d hd; simp at hm; omega)
   obtain rfl | rfl | rfl:i=0∨i=1∨i=2:=by omega
   ·rw [show decide (((0:Nat) : Int)<((2:Nat) : Int))=true from rfl,dC,at0,az hb5 rfl]
    simp only [if_true] at hrow5 ⊢
    refine MM hrow5 hv5 (by simp) hx fun M6 hrow6 k6 n6=>?_
    rw [dm,ik (by omega)]
    refine hnext2 _ _ _ (by omega) ⟨1,rfl,by omega,by simp,k5.trans k6,n6.trans n5, ?_⟩
    simp at hrow6 ⊢
    exact hrow6
   ·rw [show decide (((1:Nat) : Int)<((2:Nat) : Int))=true from rfl,dC,FU,az hb5 rfl]
    simp only [if_true,show ¬ (1:Nat)=0 by omega,if_false] at hrow5 ⊢
    refine MM hrow5 hw5 (by omega) hy fun M6 hrow6 k6 n6=>?_
    rw [dm,ik (by omega)]
    refine hnext2 _ _ _ (by omega) ⟨2,rfl,by omega,by simp,k5.trans k6,n6.trans n5, ?_⟩
    simp at hrow6 ⊢
    exact hrow6
   ·rw [show decide (((2:Nat) : Int)<((2:Nat) : Int))=false from rfl,bF]
    simp only [show ¬ (2:Nat)=0 by omega,show ¬ (2:Nat)=1 by omega,if_false,List.length_append,Nat.sub_self,bK,List.append_nil] at hrow5 ⊢
    refine hQ _ M5 ?_ (k4.dB k5 (by simp; omega))
    rw [Ow,List.length_append]
    exact .op b _ _ (by omega) (by omega) hrow5 (by rw [Enc.eG,List.length_append])
end Go.Ab.ak
set_option maxRecDepth 10000
set_option linter.unusedVariables false
set_option linter.unusedSimpArgs false
namespace Go.Ab.ak
open Go Go.Ab
theorem gD.put {T i u a:Nat} {S S' : Nat→Prop} {M M' : RM} {ps:List Pt} {l:List AV} {v' : AV} {xs:List Nat} {ks:List Nat} (h:gD T S M a ps) (hl:M.heap a=some (.row l false T 0)) (hi:i<16)
  (hb:M'.heap a=some (.row ((l.set (2 * i) (N .u64 (u:Int))).set (2 * i + 1) v') false T 0)) (hk:ag ks M M') (hks:∀ d∈ks,d=a∨¬ S d) (hs:Sl aX M' v' xs) (hc:ku v') (hv:∀ d∈aH v',S' d) (hS:∀ d,S d→S' d) (ha:¬ S' a) : gD T S' M' a (ps.set i (u,xs)):=by
 obtain ⟨l0,h1,h2,h3⟩:=h.row
 rw [hl] at h1
 obtain rfl:l=l0:=by simpa using h1
 refine ⟨Nat.lt_of_lt_of_le h.lt hk.next,by rw [List.length_set]; exact h.len,⟨_,hb,by simp [h2],fun j hj=>?_⟩,ha⟩
 have hj' : j<ps.length:=by rw [List.length_set] at hj; exact hj
 have hj16:j<16:=by rw [← h.len]; exact hj'
 by_cases hji:j=i
 ·subst hji
  refine ⟨v', ?_, ?_, ?_,hc,hv⟩
  ·rw [List.getElem?_set_ne (by omega),List.getElem?_set_self (by omega),List.getElem_set_self]
  ·rw [List.getElem?_set_self (by simp; omega)]
  ·rw [List.getElem_set_self]; exact hs
 ·obtain ⟨w,b1,b2,b3,b4,b5⟩:=h3 j hj'
  refine ⟨w, ?_, ?_, ?_,b4,fun d hd=>hS d (b5 d hd)⟩
  ·rw [List.getElem?_set_ne (by omega),List.getElem?_set_ne (by omega),List.getElem_set_ne (Ne.symm hji)]; exact b1
  ·rw [List.getElem?_set_ne (by omega),List.getElem?_set_ne (by omega)]; exact b2
  ·rw [List.getElem_set_ne (Ne.symm hji)]
   refine aN.keep b3 hk fun d hd hm=>?_
   rcases hks d hm with rfl | h'
   ·exact h.nb (b5 d hd)
   ·exact h' (b5 d hd)
def kN (f g:List Nat→List Nat) (p q:Pt) : Pt:=settle (max p.1 q.1) (g (f (p.2++q.2)))
def nP (f g:List Nat→List Nat) (ps qs:List Pt) : Nat→List Pt
 | 0=>ps
 | i + 1=>(nP f g ps qs i).set i (kN f g (ps.getD i (0,[])) (qs.getD i (0,[])))
theorem ED {f g:List Nat→List Nat} {ps qs:List Pt} : ∀ {i j:Nat},i≤j→(nP f g ps qs i).getD j (0,[])=ps.getD j (0,[])
 | 0,j,_=>rfl
 | i + 1,j,h=>by rw [nP,getD_set_ne (by omega),ED (by omega)]
def Qs (P:List Nat→Prop) (P2:List Nat→Prop) (f g:List Nat→List Nat) (T:Nat) (c:aj) : Prop:=∀ {M:RM} {a b:Nat} {ps qs:List Pt} {S S' : Nat→Prop} {Q:ah},gD T S M a ps→gD T S' M b qs→(a=b→ps=qs)→¬ S' a →
 (∀ i,i<16→P ((ps.getD i (0,[])).2++(qs.getD i (0,[])).2)∧P2 (f ((ps.getD i (0,[])).2++(qs.getD i (0,[])).2)))→(∀ p∈ps,p.1≤4398046511104∧p.2.length≤100000)→(∀ p∈qs,p.1≤4398046511104∧p.2.length≤100000) →
 (∀ i,i<16→(g (f ((ps.getD i (0,[])).2++(qs.getD i (0,[])).2))).length≤1000000∧∀ x∈g (f ((ps.getD i (0,[])).2++(qs.getD i (0,[])).2)),x≤4398046511104) →
 (∀ M',gD T (fun e=>S e∨M.next≤e) M' a (nP f g ps qs 16)→ag [a] M M'→Q (.tup []) M')→c [.ptr a 0,.ptr b 0] M Q
theorem sw {ps:List Pt} {R:Pt→Prop} (h:∀ p∈ps,R p) (h0:R (0,[])) (i:Nat) : R (ps.getD i (0,[])):=by
 rw [List.getD_eq_getElem?_getD]
 by_cases hj:i<ps.length
 ·rw [List.getElem?_eq_getElem hj]; exact h _ (List.getElem_mem hj)
 ·rw [List.getElem?_eq_none (by omega)]; exact h0
theorem Ra {TS TP TL TU:Nat} {P P2:List Nat→Prop} {f g:List Nat→List Nat} {cc cs ck ct:aj} (hc:Iy TU cc) (hs:PZ P f TU cs) (hk:Fv P2 g TU ck) (ht:Ak ct) :
  Qs P P2 f g TS fun args M Q=>∃ a0 a1,args=[a0,a1]∧z8 TP TL cc cs ck ct a0 a1 M Q:=by
 intro M a b ps qs S S' Q hA hB hab hSa hP hbp hbq hres hQ
 refine ⟨_,_,rfl, ?_⟩
 unfold z8
 have hal:=hA.lt
 have hbl:=hB.lt
 refine aG (fun m ys M3=>∃ (i:Nat),m=16 - i∧ys=[N .i64 (i:Int)]∧i≤16∧ag [a] M M3∧gD TS (fun e=>S e∨M.next≤e) M3 a (nP f g ps qs i)) _
  ⟨0,rfl,rfl,Nat.zero_le _,ag.refl _ _,hA.mono (fun e h=>.inl h) (fun h=>by rcases h with h | h; exact hA.nb h; omega)⟩ ?_
 rintro next m ys M3 hnext ⟨i,rfl,rfl,hi,k3,hA3⟩
 dsimp only [aa]
 rw [dF]
 refine aF (fun hlt=>?_) (fun hge=>?_)
 ·have hlt:i<16:=by
   have:(i:Int)<16:=of_decide_eq_true hlt
   omega
  have n3:=k3.next
  -- the second set's part
  have hB3:∃ l w,M3.heap b=some (.row l false TS 0)∧l.length=32∧l[2 * i]?=some (N .u64 ((qs.getD i (0,[])).1:Int))∧l[2 * i + 1]?=some w∧Sl aX M3 w (qs.getD i (0,[])).2∧a ∉ aH w:=by
   by_cases e:a=b
   ·subst e
    have e2:=hab rfl
    obtain ⟨l,h1,h2,h3⟩:=hA3.row
    have hil:i<(nP f g ps qs i).length:=by rw [hA3.len]; exact hlt
    obtain ⟨w,b1,b2,b3,b4,b5⟩:=h3 i hil
    have hD:=ED (f:=f) (g:=g) (ps:=ps) (qs:=qs) (Nat.le_refl i)
    rw [List.getD_eq_getElem?_getD,List.getElem?_eq_getElem hil,Option.getD_some] at hD
    rw [hD,e2] at b1
    rw [hD,e2] at b3
    exact ⟨l,w,h1,h2,b1,b2,b3,fun hm=>hA3.nb (b5 a hm)⟩
   ·obtain ⟨l,h1,h2,h3⟩:=hB.row
    have hil:i<qs.length:=by rw [hB.len]; exact hlt
    obtain ⟨w,b1,b2,b3,b4,b5⟩:=h3 i hil
    have hD:qs.getD i (0,[])=qs[i]:=by rw [List.getD_eq_getElem?_getD,List.getElem?_eq_getElem hil]; rfl
    rw [hD]
    exact ⟨l,w,k3.aK h1 hbl (by simp; exact fun h=>e h.symm),h2,b1,b2,aN.keep b3 k3 (fun d hd hm=>by simp at hm; subst hm; exact hSa (b5 d hd)),fun hm=>hSa (b5 a hm)⟩
  obtain ⟨lb,qw,hb3,hlb32,q1,q2,q3,q4⟩:=hB3
  obtain ⟨la,ha3,hla32,hrow⟩:=hA3.row
  have hil:i<(nP f g ps qs i).length:=by rw [hA3.len]; exact hlt
  obtain ⟨pw,p1,p2,p3,p4,p5⟩:=hrow i hil
  have hD:=ED (f:=f) (g:=g) (ps:=ps) (qs:=qs) (Nat.le_refl i)
  rw [List.getD_eq_getElem?_getD,List.getElem?_eq_getElem hil,Option.getD_some] at hD
  rw [hD] at p1 p3
  have bp:=sw hbp ⟨by decide,by decide⟩ i
  have bq:=sw hbq ⟨by decide,by decide⟩ i
  obtain ⟨hPi,hP2i⟩:=hP i hlt
  obtain ⟨hr1,hr2⟩:=hres i hlt
  have hnext' : ∀ M',ag [a] M M'→gD TS (fun e=>S e∨M.next≤e) M' a ((nP f g ps qs i).set i (kN f g (ps.getD i (0,[])) (qs.getD i (0,[]))))→next [N .i64 ((i + 1:Nat) : Int)] M':=fun M' k h=>hnext _ _ _ (by omega) ⟨i + 1,rfl,rfl,by omega,k,h⟩
  generalize ps.getD i (0,[])=p at *
  generalize qs.getD i (0,[])=q at *
  obtain ⟨pu,px⟩:=p
  obtain ⟨qu,qx⟩:=q
  simp only [kN] at *
  rw [aJ,bz,wK]
  refine ⟨by omega,by omega, ?_⟩
  rw [aJ,bz,wK]
  refine ⟨by omega,by omega, ?_⟩
  rw [Int.toNat_natCast,Nat.zero_add,Nat.mul_comm i 2,gK]
  have hcut:M3.loads b (2 * i) 2=some [N .u64 (qu:Int),qw]:=by
   rw [RM.dG hb3 (by omega)]
   obtain ⟨r1,r2⟩:=List.getElem?_eq_some_iff.1 q1
   obtain ⟨r3,r4⟩:=List.getElem?_eq_some_iff.1 q2
   rw [List.drop_eq_getElem_cons r1,List.drop_eq_getElem_cons r3,r2,r4]; rfl
  refine ⟨_,hcut, ?_⟩
  have hq1:=aN.one q3
  rw [qb,dI (n:=2) (x:=.agg [N .u64 (qu:Int),qw]) (l:=[N .u64 0,.sc (.slice none 0 0)]) (RM.aQ _) rfl rfl (by simp [AV.cells,hq1]; rfl)]
  have k4:ag [] M3 ((M3.push (.row [N .u64 0,.sc (.slice none 0 0)] false TP 0)).put M3.next (.row (AV.agg [N .u64 (qu:Int),qw]).cells false TP 0)):=((ag.refl _ _).push _).new _ (Nat.le_refl _)
  have h4:((M3.push (.row [N .u64 0,.sc (.slice none 0 0)] false TP 0)).put M3.next (.row (AV.agg [N .u64 (qu:Int),qw]).cells false TP 0)).heap M3.next=some (.row [N .u64 (qu:Int),qw] false TP 0):=aP _
  have n4:((M3.push (.row [N .u64 0,.sc (.slice none 0 0)] false TP 0)).put M3.next (.row (AV.agg [N .u64 (qu:Int),qw]).cells false TP 0)).next=M3.next + 1:=rfl
  generalize (M3.push (.row [N .u64 0,.sc (.slice none 0 0)] false TP 0)).put M3.next (.row (AV.agg [N .u64 (qu:Int),qw]).cells false TP 0)=M4 at *
  have hal3:=hA3.lt
  have ha4:=k4.aK ha3 hal3 (by simp)
  rw [aJ,aY,Nat.add_zero,az ha4 p1,bz,az h4 rfl,SX,if_pos rfl,Ll,aJ,aY,Nat.add_zero,eB ha4 (by omega) rfl rfl]
  have k5:ag [a] M4 (M4.put a (.row (la.set (2 * i) (N .u64 ((max pu qu:Nat) : Int))) false TS 0)):=(ag.refl _ _).put _ (.inr (by simp))
  have ha5:(M4.put a (.row (la.set (2 * i) (N .u64 ((max pu qu:Nat) : Int))) false TS 0)).heap a=some (.row (la.set (2 * i) (N .u64 ((max pu qu:Nat) : Int))) false TS 0):=aP _
  have n5:(M4.put a (.row (la.set (2 * i) (N .u64 ((max pu qu:Nat) : Int))) false TS 0)).next=M4.next:=rfl
  generalize M4.put a (.row (la.set (2 * i) (N .u64 ((max pu qu:Nat) : Int))) false TS 0)=M5 at *
  have h5:=k5.aK h4 (by omega) (by simp; omega)
  have p2' : (la.set (2 * i) (N .u64 ((max pu qu:Nat) : Int)))[2 * i + 1]?=some pw:=by rw [List.getElem?_set_ne (by omega)]; exact p2
  rw [aJ,aY,az ha5 p2',bz,az h5 rfl]
  have hapw:a ∉ aH pw:=fun hm=>hA3.nb (p5 a hm)
  have k35:ag [a] M3 M5:=(k4.mono (by simp)).trans k5
  have sp5:Sl aX M5 pw px:=aN.keep p3 k35 (fun d hd hm=>by simp at hm; subst hm; exact hapw hd)
  have sq5:Sl aX M5 qw qx:=aN.keep q3 k35 (fun d hd hm=>by simp at hm; subst hm; exact q4 hd)
  have hw1:=aN.one sp5
  have hwc:=aN.cells sp5
  have hqc:=aN.cells sq5
  refine ⟨[pw,qw],by simp [xk,bK,hwc,hqc,hw1,hq1], ?_⟩
  dsimp only
  rw [qb]
  have k6:ag [] M5 (M5.push (.row [pw,qw] false TL 0)):=(ag.refl _ _).push _
  have h6:(M5.push (.row [pw,qw] false TL 0)).heap M5.next=some (.row [pw,qw] false TL 0):=RM.aQ _
  have n6:(M5.push (.row [pw,qw] false TL 0)).next=M5.next + 1:=rfl
  generalize M5.push (.row [pw,qw] false TL 0)=M6 at *
  refine hc h6 (by omega) (aN.keep sp5 k6 (by simp)) (aN.keep sq5 k6 (by simp)) (by have:=bp.2; omega) (by have:=bq.2; omega) fun r M7 ho7 k7=>?_
  have n7:=k7.next
  have k57:=k6.trans k7
  have ha7:=k57.aK ha5 (by omega) (by simp)
  rw [aJ,aY,eB ha7 (by simp; omega) ho7.cells ho7.one]
  have k8:ag [a] M7 (M7.put a (.row ((la.set (2 * i) (N .u64 ((max pu qu:Nat) : Int))).set (2 * i + 1) r) false TS 0)):=(ag.refl _ _).put _ (.inr (by simp))
  have ha8:(M7.put a (.row ((la.set (2 * i) (N .u64 ((max pu qu:Nat) : Int))).set (2 * i + 1) r) false TS 0)).heap a=some (.row ((la.set (2 * i) (N .u64 ((max pu qu:Nat) : Int))).set (2 * i + 1) r) false TS 0):=aP _
  have n8:(M7.put a (.row ((la.set (2 * i) (N .u64 ((max pu qu:Nat) : Int))).set (2 * i + 1) r) false TS 0)).next=M7.next:=rfl
  generalize M7.put a (.row ((la.set (2 * i) (N .u64 ((max pu qu:Nat) : Int))).set (2 * i + 1) r) false TS 0)=M8 at *
  have har:a ∉ aH r:=fun hm=>by have:=(ho7.blk a hm).1; omega
  have ho8:=ho7.keep k8 (fun d hd hm=>by simp at hm; subst hm; exact har hd)
  have g1:((la.set (2 * i) (N .u64 ((max pu qu:Nat) : Int))).set (2 * i + 1) r)[2 * i + 1]?=some r:=by rw [List.getElem?_set_self (by simp; omega)]
  have g0:((la.set (2 * i) (N .u64 ((max pu qu:Nat) : Int))).set (2 * i + 1) r)[2 * i]?=some (N .u64 ((max pu qu:Nat) : Int)):=by rw [List.getElem?_set_ne (by omega),List.getElem?_set_self (by omega)]
  rw [aJ,aY,az ha8 g1]
  refine hs ho8 hPi fun M9 ho9 k9=>?_
  have ha9:=k9.aK ha8 (by omega) har
  have n9:=k9.next
  rw [aJ,aY,az ha9 g1]
  refine hk ho9 hP2i fun r' M10 s10 c10 b10 k10=>?_
  have n10:=k10.next
  have ha10:=k10.aK ha9 (by omega) har
  have har' : a ∉ aH r':=fun hm=>har (b10 a hm)
  rw [aJ,aY,JP ((la.set (2 * i) (N .u64 ((max pu qu:Nat) : Int))).set (2 * i + 1) r') ha10 (by simp; omega) (aN.cells s10) (aN.one s10) (by rw [List.set_set])]
  have k11:ag [a] M10 (M10.put a (.row ((la.set (2 * i) (N .u64 ((max pu qu:Nat) : Int))).set (2 * i + 1) r') false TS 0)):=(ag.refl _ _).put _ (.inr (by simp))
  have ha11:(M10.put a (.row ((la.set (2 * i) (N .u64 ((max pu qu:Nat) : Int))).set (2 * i + 1) r') false TS 0)).heap a=some (.row ((la.set (2 * i) (N .u64 ((max pu qu:Nat) : Int))).set (2 * i + 1) r') false TS 0):=aP _
  have n11:(M10.put a (.row ((la.set (2 * i) (N .u64 ((max pu qu:Nat) : Int))).set (2 * i + 1) r') false TS 0)).next=M10.next:=rfl
  generalize M10.put a (.row ((la.set (2 * i) (N .u64 ((max pu qu:Nat) : Int))).set (2 * i + 1) r') false TS 0)=M11 at *
  have s11:Sl aX M11 r' (g (f (px++qx))):=aN.keep s10 k11 (fun d hd hm=>by simp at hm; subst hm; exact har' hd)
  have g0' : ((la.set (2 * i) (N .u64 ((max pu qu:Nat) : Int))).set (2 * i + 1) r')[2 * i]?=some (N .u64 ((max pu qu:Nat) : Int)):=by rw [List.getElem?_set_ne (by omega),List.getElem?_set_self (by omega)]
  have g1' : ((la.set (2 * i) (N .u64 ((max pu qu:Nat) : Int))).set (2 * i + 1) r')[2 * i + 1]?=some r':=by rw [List.getElem?_set_self (by simp; omega)]
  refine ht ha11 g0' g1' s11 har' c10 hr1 (by have:=bp.1; have:=bq.1; omega) hr2 fun v' M12 ha12 s12 c12 b12 k12 n12=>?_
  rw [dm,ik (by omega)]
  have kr:∀ d∈aH r,M.next≤d∧M3.next≤d:=fun d hd=>by have:=(ho7.blk d hd).1; omega
  -- all that was changed: the set's block,and new ones
  have kAll:ag [a] M3 M12:=by
   have w7:ag [a] M3 M7:=k35.trans (k57.mono (by simp))
   have w8:=w7.trans k8
   have w9:=w8.dB k9 fun d hd=>.inl (kr d hd).2
   have w10:=w9.dB k10 fun d hd=>.inl (kr d hd).2
   exact (w10.trans k11).trans k12
  refine hnext' M12 (k3.trans kAll) (hA3.put ha3 hlt ?_ kAll (fun d hd=>.inl (by simpa using hd)) s12 c12 (fun d hd=>.inr (kr d (b10 d (b12 d hd))).1) (fun d h=>h) (fun h=>by rcases h with h | h; exact hA.nb h; omega))
  rw [ha12]
  rw [List.set_comm (i:=2 * i + 1) (j:=2 * i) _ _ (by omega),List.set_set,List.set_set]
  rfl
 ·have he:i=16:=by
   have:¬ (i:Int)<16:=of_decide_eq_false hge
   omega
  subst he
  exact hQ M3 hA3 k3
theorem xy {f g:List Nat→List Nat} {ps qs:List Pt} : ∀ i,(nP f g ps qs i).length=ps.length
 | 0=>rfl
 | i + 1=>by rw [nP,List.length_set,xy i]
theorem Kz {f g:List Nat→List Nat} {ps qs:List Pt} (hl:ps.length=16) : ∀ {i j:Nat},i≤16→j<i→(nP f g ps qs i).getD j (0,[])=kN f g (ps.getD j (0,[])) (qs.getD j (0,[]))
 | i + 1,j,hi,h=>by
   rw [nP]
   by_cases e:i=j
   ·subst e
    rw [Bc (by rw [xy]; omega)]
   ·rw [getD_set_ne e,Kz hl (by omega) (by omega)]
end Go.Ab.ak
set_option maxRecDepth 10000
set_option linter.unusedVariables false
set_option linter.unusedSimpArgs false
namespace Go.Ab.ak
open Go Go.Ab
theorem fK {p:Pt} {x:Nat} : gG p x=true↔(1≤x∧x≤p.1)∨x∈p.2:=by
 unfold gG
 simp only [Bool.or_eq_true,Bool.and_eq_true,decide_eq_true_eq]
theorem uS:∀ (xs:List Nat) (u x:Nat),(∀ y∈xs,1≤y)→(gG (settle u xs) x=true↔(1≤x∧x≤u)∨x∈xs)
 | [],u,x,_=>by rw [fK]; simp [settle,dL]
 | y :: xs,u,x,h=>by
   by_cases hy:y≤u + 1
   ·have e:settle u (y :: xs)=settle (max u y) xs:=by
     unfold settle
     rw [dL,if_pos hy]; rfl
    have h1:=h y (by simp)
    rw [e,uS xs (max u y) x (fun z hz=>h z (by simp [hz])),List.mem_cons]
    constructor
    ·rintro (⟨a,b⟩ | c)
     ·by_cases hx:x≤u
      ·exact .inl ⟨a,hx⟩
      ·exact .inr (.inl (by omega))
     ·exact .inr (.inr c)
    ·rintro (⟨a,b⟩ | c | c)
     ·exact .inl ⟨a,by omega⟩
     ·exact .inl ⟨by omega,by omega⟩
     ·exact .inr c
   ·have e:settle u (y :: xs)=(u,y :: xs):=by
     unfold settle
     rw [dL,if_neg hy]; rfl
    rw [e,fK]
theorem Mq {k n:Nat} {xs:List Nat} {x:Nat} : x∈fo k n xs↔x=n∨x∈xs:=by
 refine ⟨zD,fun h=>?_⟩
 unfold fo
 rcases h with h | h
 ·simp [h]
 ·rw [← List.take_append_drop k xs,List.mem_append] at h
  rw [List.mem_append,List.mem_cons]
  rcases h with h | h
  ·exact .inl h
  ·exact .inr (.inr h)
theorem Ut {p:Pt} {n x:Nat} (hp:kw p) (hn:1≤n) (hok:(fq p n).1=true) : gG (fq p n).2 x=true↔gG p x=true∨x=n:=by
 unfold fq at hok ⊢
 by_cases h:n∈p.2∨n≤p.1
 ·rw [if_pos h]
  constructor
  ·exact .inl
  ·rintro (h1 | rfl)
   ·exact h1
   ·rw [fK]
    rcases h with h | h
    ·exact .inr h
    ·exact .inl ⟨hn,h⟩
 ·rw [if_neg h] at hok ⊢
  by_cases h2:(settle p.1 (fo (below n p.2) n p.2)).2.length≤4096
  ·rw [if_pos h2]
   simp only
   rw [uS _ _ _ (fun y hy=>by rcases Mq.1 hy with rfl | hy; exact hn; have:=hp.2.1 y hy; omega),Mq,fK]
   constructor
   ·rintro (a | b | c)
    ·exact .inl (.inl a)
    ·exact .inr b
    ·exact .inl (.inr c)
   ·rintro ((a | b) | c)
    ·exact .inl a
    ·exact .inr (.inr b)
    ·exact .inr (.inl c)
  ·rw [if_neg h2] at hok; cases hok
theorem DW {p q:Pt} (hp:kw p) (hq:kw q) : mK p q=true↔∀ x,gG p x=true→gG q x=true:=by
 constructor
 ·intro h x hx
  unfold mK at h
  simp only [Bool.and_eq_true,List.all_eq_true,decide_eq_true_eq] at h
  rw [fK] at hx
  rcases hx with hx | hx
  ·rw [fK]; exact .inl ⟨hx.1,by omega⟩
  ·exact h.2 x hx
 ·intro h
  unfold mK
  simp only [Bool.and_eq_true,List.all_eq_true,decide_eq_true_eq]
  refine ⟨?_,fun x hx=>h x (fK.2 (.inr hx))⟩
  rcases Nat.lt_or_ge q.1 p.1 with hlt | hle
  ·have:=fK.1 (h (q.1 + 1) (fK.2 (.inl ⟨by omega,by omega⟩)))
   rcases this with h1 | h1
   ·omega
   ·have:=hq.2.1 _ h1; omega
  ·exact hle
theorem U1 {p:Pt} {n:Nat} : (fq p n).2.2.length≤p.2.length + 1:=by
 unfold fq
 split
 ·exact Nat.le_succ _
 ·split
  ·have h1:=uO p.1 (fo (below n p.2) n p.2)
   have h2:=zZ (x:=n) (below_le n p.2)
   simp only; omega
  ·exact Nat.le_succ _
theorem Oc {p:Pt} {n:Nat} (h:p.2.length<4096) : (fq p n).1=true:=by
 unfold fq
 split
 ·rfl
 ·have h1:=uO p.1 (fo (below n p.2) n p.2)
  have h2:=zZ (x:=n) (below_le n p.2)
  rw [if_pos (by omega)]
theorem Js {ps:List Pt} {d:ak} (hl:∀ p∈ps,p.2.length<4096) (hg:good d=true) : kE ps d=(0,ps.set d.1.toNat (fq (ps.getD d.1.toNat (0,[])) d.2).2):=by
 unfold kE
 rw [if_pos hg,Oc (sw (R:=fun p=>p.2.length<4096) hl (by decide) _),if_pos rfl]
theorem Sy {ps:List Pt} {d:ak} {k:Nat} (hl:∀ p∈ps,p.2.length≤k) : ∀ p∈(kE ps d).2,p.2.length≤k + 1:=by
 unfold kE
 split
 ·split
  ·intro p hp
   rcases List.mem_or_eq_of_mem_set hp with hp | rfl
   ·have:=hl p hp; omega
   ·have h1:=U1 (p:=ps.getD d.1.toNat (0,[])) (n:=d.2)
    have h2:=sw (R:=fun p=>p.2.length≤k) hl (Nat.zero_le _) d.1.toNat
    omega
  ·intro p hp; have:=hl p hp; omega
 ·intro p hp; have:=hl p hp; omega
section
variable {ps:List Pt} {d:ak}
theorem Md (hg:good d=true) : 1≤d.2∧d.2≤1099511627776∧d.1.toNat<16:=by
 simp only [good,Bool.and_eq_true,decide_eq_true_eq] at hg
 omega
theorem UI (h16:ps.length=16) (hw:∀ p∈ps,kw p) (hl:∀ p∈ps,p.2.length<4096) (hg:good d=true) (j x:Nat) :
  gG ((kE ps d).2.getD j (0,[])) x=true↔gG (ps.getD j (0,[])) x=true∨(j=d.1.toNat∧x=d.2):=by
 obtain ⟨h1,h2,h3⟩:=Md hg
 rw [Js hl hg]
 simp only
 by_cases e:d.1.toNat=j
 ·subst e
  rw [Bc (by omega),Ut (qf hw _) h1 (Oc (sw (R:=fun p=>p.2.length<4096) hl (by decide) _))]
  simp
 ·rw [getD_set_ne e]
  simp [Ne.symm e]
theorem NC {qs:List Pt} {e:ak} (hw:∀ p∈ps,kw p) (hw2:∀ p∈qs,kw p) (h:jf ps qs=true) (he:cZ ps e=true) : cZ qs e=true:=by
 unfold cZ at he ⊢
 simp only [Bool.and_eq_true] at he ⊢
 exact ⟨he.1,(DW (qf hw _) (qf hw2 _)).1 (tT.1 h _ (Md he.1).2.2) _ he.2⟩
end
end Go.Ab.ak
set_option maxRecDepth 10000
set_option linter.unusedVariables false
set_option linter.unusedSimpArgs false
namespace Go.Ab.ak
open Go Go.Ab
end Go.Ab.ak
set_option maxRecDepth 10000
set_option linter.unusedVariables false
set_option linter.unusedSimpArgs false
namespace Go.Ab.ak
open Go Go.Ab
def Xh (T:Nat) (M:RM) (base:Nat) (v:AV) (L:List UInt8) : Prop :=
 Own M base T 1 v (ML L) L.length∨∃ b,v=.slc b 0 L.length (.ex L.length)∧base≤b∧b<M.next∧M.heap b=some (.row (ML L) false T 0)
theorem Xh.keep {T base:Nat} {M M' : RM} {v:AV} {L:List UInt8} (h:Xh T M base v L) (hk:ag [] M M') : Xh T M' base v L:=by
 rcases h with h | ⟨b,rfl,h1,h2,h3⟩
 ·exact .inl (h.keep hk (by simp))
 ·exact .inr ⟨b,rfl,h1,Nat.lt_of_lt_of_le h2 hk.next,hk.aK h3 h2 (by simp)⟩
end Go.Ab.ak
set_option maxRecDepth 10000
set_option linter.unusedVariables false
set_option linter.unusedSimpArgs false
namespace Go.Ab.ak
open Go Go.Ab
structure PO (TP TU base:Nat) (M:RM) (v:AV) (out:List FY) (cs:List AV) (ws:Nat→AV) : Prop where
 own:Own M base TP 3 v cs out.length
 row:∀ (k:Nat) (hk:k<out.length),cs[3 * k]?=some (N .i64 (out[k].1.1:Int))∧cs[3 * k + 1]?=some (N .u64 (out[k].1.2:Int))∧cs[3 * k + 2]?=some (ws k)∧Ow aX M base TU (ws k) out[k].2
 apart:∀ i j,i<out.length→j<out.length→i≠j→∀ d∈aH (ws i),d ∉ aH (ws j)
 off:∀ i,i<out.length→∀ d∈aH (ws i),d ∉ aH v
section
variable {TP TU base:Nat} {M M' : RM} {v:AV} {out:List FY} {cs:List AV} {ws:Nat→AV}
theorem PO.empty (h:Own M base TP 3 v [] 0) : PO TP TU base M v [] [] (fun _=>bJ) :=
 ⟨h,fun k hk=>absurd hk (Nat.not_lt_zero _),fun i j hi=>absurd hi (Nat.not_lt_zero _),fun i hi=>absurd hi (Nat.not_lt_zero _)⟩
theorem PO.keep {ks:List Nat} (h:PO TP TU base M v out cs ws) (hk:ag ks M M') (hs:∀ d∈ks,d<base∨M.next≤d) : PO TP TU base M' v out cs ws:=by
 refine ⟨h.own.keep hk (fun d hd hm=>by have:=h.own.blk d hd; have:=hs d hm; omega),fun k hk'=>?_,h.apart,h.off⟩
 obtain ⟨a1,a2,a3,a4⟩:=h.row k hk'
 exact ⟨a1,a2,a3,a4.keep hk fun d hd hm=>by have:=a4.blk d hd; have:=hs d hm; omega⟩
theorem PO.at (h:PO TP TU base M v out cs ws) {i:Nat} (hi:i<out.length) :
  ∃ b,v=.slc b 0 out.length (.op 3)∧base≤b∧b<M.next∧M.heap b=some (.row cs true TP 0)∧cs.length=out.length * 3∧∀ (kd:IntKind) (K:AV→Prop),au v (N kd (i:Int)) 3 K=K (.ptr b (3 * i)):=by
 obtain ⟨b,h1,h2,h3,h4,h5⟩:=Own.vO h.own (by omega)
 refine ⟨b,h1,h2,h3,h4,h5,fun kd K=>?_⟩
 rw [h1,mW]
 simp only [Int.toNat_natCast]
 rw [show 0 + i * 3=3 * i by omega]
 exact propext ⟨fun h=>h.2.2,fun h=>⟨by omega,by omega,h⟩⟩
theorem PO.set (h:PO TP TU base M v out cs ws) {i b u:Nat} {w:AV} {xs:List Nat} {M1 M2:RM} {ks:List Nat} (hi:i<out.length) (hv:v=.slc b 0 out.length (.op 3)) (k1:ag ks M M1) (hks:∀ d∈ks,d∈aH (ws i))
  (hw:Ow aX M1 base TU w xs) (hw2:w=ws i∨∀ d∈aH w,M.next≤d) (hb:M2=M1.put b (.row ((cs.set (3 * i + 1) (N .u64 (u:Int))).set (3 * i + 2) w) true TP 0)) :
  PO TP TU base M2 v (out.set i ((out[i].1.1,u),xs)) ((cs.set (3 * i + 1) (N .u64 (u:Int))).set (3 * i + 2) w) (fun j=>if j=i then w else ws j)∧ag (b :: ks) M M2:=by
 obtain ⟨b',e,hb1,hb2,hb3,hb4,_⟩:=h.at hi
 obtain rfl:b=b':=by rw [hv] at e; injection e
 have n1:=k1.next
 have kk:ag [b] M1 M2:=by subst hb; exact (ag.refl _ _).put _ (.inr (by simp))
 have hh:M2.heap b=some (.row ((cs.set (3 * i + 1) (N .u64 (u:Int))).set (3 * i + 2) w) true TP 0):=by subst hb; exact aP _
 have hbv:∀ j,j<out.length→b ∉ aH (ws j):=fun j hj hm=>h.off j hj b hm (by rw [hv]; simp [aH])
 have hbw:b ∉ aH w:=by
  rcases hw2 with rfl | hw2
  ·exact hbv i hi
  ·exact fun hm=>by have:=hw2 b hm; omega
 refine ⟨⟨?_,fun j hj=>?_,fun j1 j2 q1 q2 hne d (hd:d∈aH (if j1=i then w else ws j1))=>show d ∉ aH (if j2=i then w else ws j2) from ?_,fun j hj d hd=>?_⟩,(k1.mono (fun d hd=>List.mem_cons_of_mem _ hd)).trans (kk.mono (by simp))⟩
 ·rw [List.length_set,hv]
  exact .op _ _ _ hb1 (Nat.lt_of_lt_of_le hb2 (Nat.le_trans n1 kk.next)) hh (by simp; omega)
 ·have hj' : j<out.length:=by rw [List.length_set] at hj; exact hj
  obtain ⟨a1,a2,a3,a4⟩:=h.row j hj'
  by_cases hji:j=i
  ·subst hji
   rw [List.getElem_set_self]
   simp only [if_true]
   refine ⟨?_, ?_, ?_,hw.keep kk fun d hd hm=>?_⟩
   ·rw [List.getElem?_set_ne (by omega),List.getElem?_set_ne (by omega)]; exact a1
   ·rw [List.getElem?_set_ne (by omega),List.getElem?_set_self (by omega)]
   ·rw [List.getElem?_set_self (by rw [List.length_set]; omega)]
   ·simp at hm; subst hm; exact hbw hd
  ·rw [List.getElem_set_ne (Ne.symm hji)]
   simp only [if_neg hji]
   refine ⟨?_, ?_, ?_,(a4.keep k1 fun d hd hm=>?_).keep kk fun d hd hm=>?_⟩
   ·rw [List.getElem?_set_ne (by omega),List.getElem?_set_ne (by omega)]; exact a1
   ·rw [List.getElem?_set_ne (by omega),List.getElem?_set_ne (by omega)]; exact a2
   ·rw [List.getElem?_set_ne (by omega),List.getElem?_set_ne (by omega)]; exact a3
   ·exact h.apart j i hj' hi hji d hd (hks d hm)
   ·simp at hm; subst hm; exact hbv j hj' hd
 ·rw [List.length_set] at q1 q2
  by_cases e1:j1=i
  ·rw [if_pos e1] at hd
   rw [if_neg (fun e=>hne (e1.trans e.symm))]
   rcases hw2 with rfl | hw2
   ·exact h.apart i j2 hi q2 (fun e=>hne (e1.trans e)) d hd
   ·intro hm
    have:=hw2 d hd
    have:=((h.row j2 q2).2.2.2.blk d hm).2
    omega
  ·rw [if_neg e1] at hd
   by_cases e2:j2=i
   ·rw [if_pos e2]
    rcases hw2 with rfl | hw2
    ·exact h.apart j1 i q1 hi e1 d hd
    ·intro hm
     have:=hw2 d hm
     have:=((h.row j1 q1).2.2.2.blk d hd).2
     omega
   ·rw [if_neg e2]
    exact h.apart j1 j2 q1 q2 hne d hd
 ·rw [List.length_set] at hj
  have hd:d∈aH (if j=i then w else ws j):=hd
  by_cases e1:j=i
  ·rw [if_pos e1] at hd
   intro hm
   rw [hv] at hm
   simp [aH] at hm
   subst hm; exact hbw hd
  ·rw [if_neg e1] at hd
   exact h.off j hj d hd
end
end Go.Ab.ak
set_option maxRecDepth 10000
set_option linter.unusedVariables false
set_option linter.unusedSimpArgs false
namespace Go.Ab.ak
open Go Go.Ab
theorem Je {α:Type} {l:List α} {i:Nat} {d:α} (h:i<l.length) : l.getD i d=l[i]:=by
 rw [List.getD_eq_getElem?_getD,List.getElem?_eq_getElem h]; rfl
theorem EY {d:ak} (h:good d=true) : 0≤d.1∧d.1<16∧d.2≤1099511627776∧1≤d.2:=by
 simp only [good,Bool.and_eq_true,decide_eq_true_eq] at h
 omega
end Go.Ab.ak
set_option maxRecDepth 10000
set_option linter.unusedVariables false
set_option linter.unusedSimpArgs false
namespace Go.Ab.ak
open Go Go.Ab
end Go.Ab.ak
set_option maxRecDepth 10000
set_option linter.unusedVariables false
set_option linter.unusedSimpArgs false
namespace Go.Ab.ak
open Go Go.Ab
section
variable {TP TU base:Nat} {M:RM} {v:AV} {out:List FY} {cs:List AV} {ws:Nat→AV}
end
end Go.Ab.ak
set_option maxRecDepth 10000
set_option linter.unusedVariables false
set_option linter.unusedSimpArgs false
namespace Go.Ab.ak
open Go Go.Ab
theorem TQ {ps:List Pt} {d:ak} : (kE ps d).2.length=ps.length:=by
 unfold kE
 split
 ·split
  ·simp only; rw [List.length_set]
  ·rfl
 ·rfl
structure Z6 (l:List ak) (i:Nat) (ps:List Pt) : Prop where
 len:ps.length=16
 wf:∀ p∈ps,kw p
 few:∀ p∈ps,p.2.length≤i
 has:∀ k (hk:k<l.length),k<i→good l[k]=true→cZ ps l[k]=true
end Go.Ab.ak
set_option maxRecDepth 10000
set_option linter.unusedVariables false
set_option linter.unusedSimpArgs false
namespace Go.Ab.ak
open Go Go.Ab
def YC (l:List ak) : Prop:=l.Pairwise fun a b=>QS a b=true
def nums (p:Pt) : List Nat:=List.range' 1 p.1++p.2
def YE (i:Nat) (p:Pt) : List ak:=(nums p).map fun n=>((i:Int),n)
def yN (ps:List Pt) : Nat→List ak
 | 0=>[]
 | i + 1=>yN ps i++YE i (ps.getD i (0,[]))
theorem Ms {p:Pt} {n:Nat} : n∈nums p↔gG p n=true:=by
 rw [fK,nums,List.mem_append,List.mem_range'_1]
 constructor
 ·rintro (h | h)
  ·exact .inl (by omega)
  ·exact .inr h
 ·rintro (h | h)
  ·exact .inl (by omega)
  ·exact .inr h
theorem AO {ps:List Pt} {d:ak} : ∀ {i:Nat},d∈yN ps i↔0≤d.1∧d.1<i∧gG (ps.getD d.1.toNat (0,[])) d.2=true
 | 0=>by simp [yN]; omega
 | i + 1=>by
   rw [yN,List.mem_append,AO,YE,List.mem_map]
   constructor
   ·rintro (⟨h1,h2,h3⟩ | ⟨n,h,rfl⟩)
    ·exact ⟨h1,by omega,h3⟩
    ·exact ⟨by simp,by simp; omega,by simpa using Ms.1 h⟩
   ·rintro ⟨h1,h2,h3⟩
    by_cases h:d.1<i
    ·exact .inl ⟨h1,h,h3⟩
    ·have e:d.1.toNat=i:=by omega
     rw [e] at h3
     exact .inr ⟨d.2,Ms.2 h3,Prod.ext (by simp; omega) rfl⟩
theorem RY {ps:List Pt} (h:∀ p∈ps,kw p) (d:ak) : d∈yN ps 16↔cZ ps d=true:=by
 rw [AO,cZ,Bool.and_eq_true]
 constructor
 ·rintro ⟨h1,h2,h3⟩
  refine ⟨?_,h3⟩
  have hw:=qf h d.1.toNat
  have:1≤d.2∧d.2≤1099511627776:=by
   rcases fK.1 h3 with h | h
   ·have:=hw.2.2.1; omega
   ·have:=hw.2.1 _ h; have:=hw.2.2.2.1 _ h; omega
  simp [good]; omega
 ·rintro ⟨h1,h3⟩
  simp [good] at h1
  exact ⟨by omega,by omega,h3⟩
structure Qo (ps:List Pt) (w:List ak) : Prop where
 len:ps.length=16
 wf:∀ p∈ps,kw p
 srt:YC w
 mem:∀ d,d∈w↔cZ ps d=true
theorem Qo.empty:Qo iU []:=by
 refine ⟨rfl,Mk,.nil,fun d=>?_⟩
 rw [cZ,zX]
 simp [gG]
 intro _ h; omega
end Go.Ab.ak
set_option maxRecDepth 10000
set_option linter.unusedVariables false
set_option linter.unusedSimpArgs false
namespace Go.Ab.ak
open Go Go.Ab
theorem SE {M:RM} {base T:Nat} {v:AV} {xs:List Nat} (h:Ow aX M base T v xs) (hn:0<xs.length) : ∃ b,v=vv b xs.length∧base≤b∧b<M.next∧M=PM M b T xs.toArray:=by
 obtain ⟨b,h1,h2,h3,h4,h5⟩:=Own.vO h hn
 refine ⟨b,h1,h2,h3, ?_⟩
 unfold PM RM.put
 obtain ⟨n,hp,lo⟩:=M
 simp only at h4 ⊢
 congr 1
 funext c
 by_cases hc:c=b
 ·subst hc; rw [if_pos rfl,h4]
 ·rw [if_neg hc]
theorem WH {M:RM} {b T base:Nat} {d:Array Nat} (h1:base≤b) (h2:b<M.next) : Ow aX (PM M b T d) base T (vv b d.size) d.toList:=by
 have:Own (PM M b T d) base T 1 (.slc b 0 d.size (.op 1)) (aX.row d.toList) d.size:=.op _ _ _ h1 h2 PM.heap (by rw [PM.EE]; omega)
 show Own (PM M b T d) base T 1 (.slc b 0 d.size (.op 1)) (aX.row d.toList) d.toList.length
 rw [Array.length_toList]; exact this
theorem NQ {M M' : RM} {b T:Nat} {d:Array Nat} (k:ag [] M M') : ag [b] M (PM M' b T d):=(k.mono (by simp)).put _ (.inr (by simp))
def gp (xs:List Nat) : List Nat:=(Sort.sort lN xs.toArray).toList
theorem RX:gp []=[]:=by
 unfold gp Sort.sort
 rw [pdq_eq,if_pos (by simp),Sort.insertionSort,Sort.insOuter,if_neg (by simp)]
theorem FE (xs:List Nat) : (gp xs).Perm xs:=by
 have h:=(Sort.sort_sorts lN Kt xs.toArray).1
 have h2:=h.2.2
 rw [Array.extract_eq_self_of_le (by rw [h.1]; exact Nat.le_refl _),Array.extract_eq_self_of_le (Nat.le_refl _)] at h2
 exact h2
theorem Cg (xs:List Nat) : (gp xs).length=xs.length:=(FE xs).length_eq
theorem UK (xs:List Nat) : Up (gp xs):=by
 intro i j hi hj hij
 have h:=(Sort.sort_sorts lN Kt xs.toArray)
 have hs:(Sort.sort lN xs.toArray).size=xs.toArray.size:=h.1.1
 unfold gp at hi hj ⊢
 rw [Array.length_toList] at hi hj
 rcases Nat.lt_or_ge i j with h1 | h1
 ·have:=h.2 i j (Nat.zero_le _) h1 (by omega)
  rw [sZ hj,sZ hi] at this
  rw [Array.getElem_toList,Array.getElem_toList]
  have:=of_decide_eq_false this
  omega
 ·have:i=j:=by omega
  subst this; exact Nat.le_refl _
def Ls (c:aj) : Prop:=∀ {M:RM} {v:AV} {Q:ah},Q (.tup []) M→c [v,N .i64 0,N .i64 ((0:Nat) : Int),N .i64 ((0:Nat) : Int)] M Q
def KP (c:aj) : Prop:=∀ {M:RM} {v:AV} {Q:ah},Q (.tup []) M→c [v,N .i64 0,N .i64 ((0:Nat) : Int)] M Q
theorem MQ {cl:aj} : KP fun args M Q=>∃ a0 a1 a2,args=[a0,a1,a2]∧eu cl a0 a1 a2 M Q:=by
 intro M v Q hQ
 refine ⟨_,_,_,rfl, ?_⟩
 unfold eu
 rw [dm,show IntKind.i64.wrap ((0:Int) + 1)=1 from rfl]
 refine aG (fun m ys M3=>m=0∧ys=[N .i64 1]∧M3=M) 0 ⟨rfl,rfl,rfl⟩ ?_
 rintro next m ys M3 hnext ⟨rfl,rfl,rfl⟩
 dsimp only [aa]
 rw [dF,show decide ((1:Int)<((0:Nat) : Int))=false from rfl,bF]
 exact hQ
theorem Np {ci c2 c3 cc c4 cp c5 c6 c7 c8:aj} (hi:KP ci) : Ls fun args M Q=>∃ a0 a1 a2 a3,args=[a0,a1,a2,a3]∧fI ci c2 c3 cc c4 cp c5 c6 c7 c8 a0 a1 a2 a3 M Q:=by
 intro M v Q hQ
 refine ⟨_,_,_,_,rfl, ?_⟩
 unfold fI
 refine aG (fun m ys M3=>m=0∧ys=[N .i64 0,N .i64 ((0:Nat) : Int),N .i64 ((0:Nat) : Int),Bo true,Bo true]∧M3=M) 0 ⟨rfl,rfl,rfl⟩ ?_
 rintro next m ys M3 hnext ⟨rfl,rfl,rfl⟩
 dsimp only [aa]
 rw [fJ,show IntKind.i64.wrap (((0:Nat) : Int) - 0)=0 from rfl,jT,show decide ((0:Int)≤12)=true from rfl,dC]
 exact hi hQ
theorem PE {T:Nat} {cl cp:aj} (hl:Aw cl) (hp:∀ m,O5 T m cp) (h0:Ls cp) : PZ (fun xs=>xs.length≤60000) gp T fun args M Q=>∃ a0,args=[a0]∧uE cl cp a0 M Q:=by
 intro M base v xs Q ho hx hQ
 have hs:Sl aX M v xs:=ho.lG
 refine ⟨_,rfl, ?_⟩
 unfold uE
 have hx:xs.length≤60000:=hx
 rw [aN.len hs,jB,gV (by omega) (by omega)]
 refine hl (by omega) ?_
 rcases Nat.eq_zero_or_pos xs.length with hn | hn
 ·rw [hn,show Sort.bitsLen 0=0 from rfl]
  refine h0 ?_
  have:=List.length_eq_zero_iff.1 hn
  subst this
  exact hQ M (by rw [RX]; exact ho) (ag.refl _ _)
 ·obtain ⟨b,rfl,h1,h2,h3⟩:=SE ho hn
  have hb:=sG hn (by omega)
  have hsz:xs.toArray.size=xs.length:=by simp
  have:=hp (xs.length + 1) (M:=M) (b:=b) (a:=0) (e:=xs.toArray.size) (limit:=Sort.bitsLen xs.length) (d:=xs.toArray) (Q:=fun bV M_0=>Q (.tup []) M_0) h2 (by omega) (by omega) (Nat.le_refl _) (by omega) (by omega) fun M' k=>?_
  ·rw [← h3] at this
   simpa using this
  ·have e:(Sort.pdq lN xs.toArray 0 xs.toArray.size (Sort.bitsLen xs.length) true true)=Sort.sort lN xs.toArray:=by rw [Sort.sort]; simp
   rw [e]
   refine hQ _ ?_ (NQ k)
   have hsz2:(Sort.sort lN xs.toArray).size=xs.length:=by
    have:=Cg xs
    unfold gp at this
    rw [Array.length_toList] at this; exact this
   have:=WH (M:=M') (T:=T) (d:=Sort.sort lN xs.toArray) h1 (Nat.lt_of_lt_of_le h2 k.next)
   rw [hsz2] at this
   exact this
def uN:Nat→List Nat→List Nat
 | _,[]=>[]
 | p,x :: xs=>if x=p then uN x xs else x :: uN x xs
def dd:List Nat→List Nat
 | []=>[]
 | x :: xs=>x :: uN x xs
theorem Mm:∀ (ys:List Nat) (p x:Nat),uN p (ys++[x])=if x=ys.getLastD p then uN p ys else uN p ys++[x]
 | [],p,x=>rfl
 | y :: ys,p,x=>by
   rw [List.cons_append,uN,uN,Mm ys y x,List.getLastD_cons]
   by_cases hy:y=p
   ·rw [if_pos hy,if_pos hy]
   ·rw [if_neg hy,if_neg hy]
    split
    ·rfl
    ·rfl
theorem Jt:∀ (k:Nat) (ys:List Nat) (y:Nat) (h:k<(y :: ys).length),(ys.take k).getLastD y=(y :: ys)[k]
 | 0,ys,y,h=>rfl
 | k + 1,[],y,h=>by simp at h
 | k + 1,z :: zs,y,h=>by
   rw [List.take_succ_cons,List.getLastD_cons,Jt k zs z (by simpa using h)]
   rfl
theorem NU {xs:List Nat} {m:Nat} (h1:1≤m) (h:m<xs.length) : dd (xs.take (m + 1))=if xs[m]=xs[m - 1] then dd (xs.take m) else dd (xs.take m)++[xs[m]]:=by
 rw [List.take_succ_eq_append_getElem h]
 cases xs with
 | nil=>simp at h
 | cons y ys =>
   obtain ⟨k,rfl⟩ : ∃ k,m=k + 1:=⟨m - 1,by omega⟩
   have hk:k<(y :: ys).length:=by omega
   rw [List.take_succ_cons,List.cons_append,dd,dd,Mm,Jt k ys y hk]
   simp only [Nat.add_sub_cancel]
   split <;> simp
theorem Xr:∀ (xs:List Nat),(dd xs).length≤xs.length
 | []=>Nat.le_refl _
 | x :: xs=>by
   have:∀ (p:Nat) (l:List Nat),(uN p l).length≤l.length:=by
    intro p l
    induction l generalizing p with
    | nil=>exact Nat.le_refl _
    | cons y l ih=>rw [uN]; split <;> simp <;> have:=ih y <;> omega
   rw [dd]; simp; exact this x xs
theorem OY {b o n k:Nat} (h:k≤n) (h0:0<n) : dh 1 (.slc b o n (.op 1)) none (some (N .i64 (k:Int))) none=some (.slc b o k (.op 1)):=by
 simp only [dh,bnd]
 simp [h]
 omega
theorem J9 {T:Nat} : Fv (fun xs=>xs.length≤60000) dd T fun args M Q=>∃ a0,args=[a0]∧pV a0 M Q:=by
 intro M base v xs Q ho hx hQ
 have hx:xs.length≤60000:=hx
 have hs:Sl aX M v xs:=ho.lG
 refine ⟨_,rfl, ?_⟩
 unfold pV
 have hself:dd xs=xs→Q v M:=fun e=>hQ v M (by rw [e]; exact hs) (Own.ku ho) (fun d hd=>hd) (ag.refl _ _)
 rw [aN.len hs,dF]
 refine aF (fun hg=>?_) (fun hg=>?_)
 ·have hg:xs.length<2:=by
   have:(xs.length:Int)<2:=of_decide_eq_true hg
   omega
  refine hself ?_
  match xs,hg with
  | [],_=>rfl
  | [x],_=>rfl
 have hg:2≤xs.length:=by
  have:¬ (xs.length:Int)<2:=of_decide_eq_false hg
  omega
 obtain ⟨b,rfl,h1,h2,h3⟩:=SE ho (by omega)
 have hsz:xs.toArray.size=xs.length:=by simp
 have hat:∀ i (h:i<xs.length),xs.toArray[i]! = xs[i]:=fun i h=>by rw [sZ (by simpa using h)]; simp
 clear hs
 have hself:=hself
 simp only [bT]
 refine aG (fun m ys M3=>∃ i:Nat,m=xs.length - i∧ys=[N .i64 (i:Int)]∧1≤i∧i≤xs.length∧M3=PM M b T xs.toArray∧dd (xs.take i)=xs.take i) _ ⟨1,rfl,rfl,Nat.le_refl _,by omega,h3,by
  match xs,hg with
  | x :: y :: l,_=>rfl⟩ ?_
 rintro next m ys M3 hnext ⟨i,rfl,rfl,hi1,hi,rfl,hdd⟩
 dsimp only [aa]
 have lenV:∀ K:AV→Prop,cK (vv b xs.length) K=K (N .i64 (xs.length:Int)):=fun K=>by simp [lm]
 rw [lenV,dS]
 refine aF (fun hlt=>?_) (fun hge=>?_)
 rotate_left
 ·have he:i=xs.length:=by
   have:¬ i<xs.length:=of_decide_eq_false hge
   omega
  subst he
  rw [List.take_length] at hdd
  rw [← h3]
  exact hself hdd
 have hlt:i<xs.length:=of_decide_eq_true hlt
 rw [PM.rd hsz.symm (by omega),bD (by omega) (by omega),PM.rd hsz.symm (by omega),hat i hlt,hat (i - 1) (by omega),df]
 have hstep:=NU hi1 hlt
 by_cases heq:xs[i]=xs[i - 1]
 rotate_left
 ·rw [show (((xs[i] : Nat) : Int) == ((xs[i - 1]'(by omega) : Nat) : Int))=false by rw [beq_eq_false_iff_ne]; omega,bF,add1 (by omega)]
  rw [if_neg heq,hdd] at hstep
  exact hnext _ _ _ (by omega) ⟨i + 1,rfl,rfl,by omega,hlt,rfl,by rw [hstep,← List.take_succ_eq_append_getElem hlt]⟩
 rw [show (((xs[i] : Nat) : Int) == ((xs[i - 1]'(by omega) : Nat) : Int))=true by rw [beq_iff_eq]; omega,dC]
 rw [if_pos heq,hdd] at hstep
 rw [nA hlt,dY]
 have lenV2:∀ K:AV→Prop,cK (.slc b (0 + i * 1) (xs.length - i) (.op 1)) K=K (N .i64 ((xs.length - i:Nat) : Int)):=fun K=>by simp [lm]
 have idx2:∀ (j:Nat),j<xs.length - i→∀ (K:AV→Prop),au (.slc b (0 + i * 1) (xs.length - i) (.op 1)) (N .i64 (j:Int)) 1 K=K (.ptr b (i + j)):=fun j hj K=>by
  rw [mW]
  simp only [Int.toNat_natCast]
  rw [show 0 + i * 1 + j * 1=i + j by omega]
  exact propext ⟨fun h=>h.2.2,fun h=>⟨by omega,by omega,h⟩⟩
 -- the rest: moved down
 refine aG (fun m ys M5=>∃ (k j:Nat) (d:Array Nat),m=xs.length - j∧ys=[N .i64 (k:Int),N .i64 (j:Int)]∧1≤j∧i + j≤xs.length∧1≤k∧k + 1≤i + j∧M5=PM M b T d∧d.size=xs.length∧d.toList.take k=dd (xs.take (i + j))∧(∀ q (h:q<xs.length),i + j≤q + 1→d[q]! = xs[q])) _
  ⟨i,1,xs.toArray,rfl,rfl,by omega,by omega,by omega,by omega,rfl,hsz,by rw [hstep],fun q h _=>hat q h⟩ ?_
 rintro next2 m ys M5 hnext2 ⟨k,j,d,rfl,rfl,hj1,hij,hk1,hk,rfl,hds,hpre,hold⟩
 dsimp only [aa]
 rw [lenV2,dS]
 refine aF (fun hlt2=>?_) (fun hge2=>?_)
 ·have hlt2:j<xs.length - i:=of_decide_eq_true hlt2
  have hij' : i + j<xs.length:=by omega
  refine aZ (fun zs M'=>∃ (k' : Nat) (d' : Array Nat),zs=[N .i64 (k' : Int)]∧1≤k'∧k'≤i + j∧M'=PM M b T d'∧d'.size=xs.length∧d'.toList.take k'=dd (xs.take (i + j + 1))∧(∀ q (h:q<xs.length),i + j≤q→d'[q]! = xs[q])) ?_ ?_
  ·rintro zs M' ⟨k',d',rfl,c1,c2,rfl,c3,c4,c5⟩
   dsimp only [aa]
   rw [add1 (by omega)]
   exact hnext2 _ _ _ (by omega) ⟨k',j + 1,d',rfl,rfl,by omega,by omega,c1,by omega,rfl,c3,c4,fun q h hq=>c5 q h (by omega)⟩
  intro J hJ
  have hst2:=NU (xs:=xs) (m:=i + j) (by omega) hij'
  have ld:∀ q (h:q<xs.length) (K:AV→Prop),ax (PM M b T d) (.ptr b q) K=K (N .u64 ((d[q]! : Nat) : Int)):=fun q h K=>az PM.heap (PM.cellAt (by omega))
  rw [idx2 j hlt2,ld _ hij',bD (by omega) (by omega),idx2 (j - 1) (by omega),ld _ (by omega),hold (i + j) hij' (by omega),hold (i + (j - 1)) (by omega) (by omega),iJ]
  have hpe:xs[i + (j - 1)]'(by omega)=xs[i + j - 1]'(by omega):=by congr 1; omega
  rw [hpe]
  by_cases hne:xs[i + j]=xs[i + j - 1]'(by omega)
  ·rw [show (((xs[i + j] : Nat) : Int) != ((xs[i + j - 1]'(by omega) : Nat) : Int))=false by rw [hne]; simp,bF]
   rw [if_pos hne] at hst2
   exact hJ _ _ ⟨k,d,rfl,hk1,by omega,rfl,hds,by rw [hst2]; exact hpre,fun q h hq=>hold q h (by omega)⟩
  ·rw [show (((xs[i + j] : Nat) : Int) != ((xs[i + j - 1]'(by omega) : Nat) : Int))=true by simp only [bne_iff_ne,ne_eq]; omega,dC]
   rw [if_neg hne] at hst2
   rw [idx2 j hlt2,ld _ hij',hold (i + j) hij' (by omega),PM.idx (by omega),PM.put (by omega),add1 (by omega)]
   refine hJ _ _ ⟨k + 1,_,rfl,by omega,by omega,rfl,by simpa using hds, ?_,fun q h hq=>?_⟩
   ·have hkl:k<d.toList.length:=by rw [Array.length_toList]; omega
    rw [hst2,← hpre,Array.toList_setIfInBounds,List.take_succ_eq_append_getElem (by rw [List.length_set]; exact hkl),List.getElem_set_self,List.take_set_of_le (Nat.le_refl _)]
   ·rw [← hold q h (by omega)]
    rw [sZ (by rw [Array.size_setIfInBounds]; omega),sZ (by omega),Array.getElem_setIfInBounds_ne (by omega) (by omega)]
 ·have hij' : i + j=xs.length:=by
   have:¬ j<xs.length - i:=of_decide_eq_false hge2
   omega
  rw [hij',List.take_length] at hpre
  have hst:(PM M b T d).stores b (0 + k * 1) (bK [N .u64 0] (xs.length - k))=some ((PM M b T d).put b (.row ((aX.row d.toList).take (0 + k * 1)++bK [N .u64 0] (xs.length - k)++(aX.row d.toList).drop (0 + k * 1 + (bK [N .u64 0] (xs.length - k)).length)) true T 0)):=by
   refine RM.Ah PM.heap ?_ (Nat.zero_le _) (nK _).2
   rw [(nK _).1,PM.EE]; omega
  rw [nA (by omega),dY]
  refine .inl ⟨_,_,_,_,_,rfl,hst, ?_⟩
  dsimp only
  rw [OY (by omega) (by omega),dY]
  have hlk:(dd xs).length=k:=by rw [← hpre,List.length_take,Array.length_toList]; omega
  refine hQ _ _ ?_ (show (1:Nat)=1 from rfl) (fun e he=>by simpa [aH] using he) ?_
  ·have hrow:((aX.row d.toList).take (0 + k * 1))=aX.row (dd xs):=by
    rw [← hpre,show 0 + k * 1=k * aX.size by simp [aX],Enc.sj]
   show aN _ 1 (.slc b 0 k (.op 1)) (aX.row (dd xs)) (dd xs).length
   rw [hlk]
   refine .slc _ _ _ _ _ h2 ?_
   have hl:(aX.row (dd xs)).length=k:=by rw [Enc.eG,hlk]; simp [aX]
   rw [RM.dG (aP _) (by rw [hrow]; simp [hl]),List.drop_zero,hrow,Nat.mul_one,List.append_assoc,List.take_left' hl]
  ·refine ag.put ?_ _ (.inr (by simp [aH]))
   exact NQ (ag.refl _ _)
end Go.Ab.ak
set_option maxRecDepth 10000
set_option linter.unusedVariables false
set_option linter.unusedSimpArgs false
namespace Go.Ab.ak
open Go Go.Ab
theorem XX {xs:List Nat} (h:Up xs) : xs.Pairwise (· ≤ ·):=List.pairwise_iff_getElem.2 fun i j hi hj hij=>h i j hi hj (Nat.le_of_lt hij)
theorem Jn:∀ (ys:List Nat) (p:Nat),(p :: ys).Pairwise (· ≤ ·)→Asc (uN p ys)∧(∀ x∈uN p ys,p<x)∧∀ x,x∈uN p ys↔x∈ys∧x≠p
 | [],p,_=>⟨.nil,by simp [uN],by simp [uN]⟩
 | y :: ys,p,h=>by
   have a1:=List.pairwise_cons.1 h
   have a2:=List.pairwise_cons.1 a1.2
   obtain ⟨i1,i2,i3⟩:=Jn ys y a1.2
   have hpy:p≤y:=a1.1 y (by simp)
   rw [uN]
   by_cases hy:y=p
   ·rw [if_pos hy]
    subst hy
    refine ⟨i1,i2,fun x=>?_⟩
    rw [i3,List.mem_cons]
    constructor
    ·rintro ⟨h1,h2⟩; exact ⟨.inr h1,h2⟩
    ·rintro ⟨h1 | h1,h2⟩
     ·exact absurd h1 h2
     ·exact ⟨h1,h2⟩
   ·rw [if_neg hy]
    refine ⟨List.pairwise_cons.2 ⟨i2,i1⟩,fun x hx=>?_,fun x=>?_⟩
    ·rcases List.mem_cons.1 hx with rfl | hx
     ·omega
     ·have:=i2 x hx; omega
    ·rw [List.mem_cons,i3,List.mem_cons]
     constructor
     ·rintro (rfl | ⟨h1,h2⟩)
      ·exact ⟨.inl rfl,hy⟩
      ·have:=a2.1 x h1
       exact ⟨.inr h1,by omega⟩
     ·rintro ⟨h1 | h1,h2⟩
      ·exact .inl h1
      ·by_cases hxy:x=y
       ·exact .inl hxy
       ·exact .inr ⟨h1,hxy⟩
theorem TK {ys:List Nat} (h:Up ys) : Asc (dd ys)∧∀ x,x∈dd ys↔x∈ys:=by
 have hp:=XX h
 cases ys with
 | nil=>exact ⟨.nil,fun x=>Iff.rfl⟩
 | cons y ys =>
   obtain ⟨i1,i2,i3⟩:=Jn ys y hp
   refine ⟨List.pairwise_cons.2 ⟨i2,i1⟩,fun x=>?_⟩
   rw [dd,List.mem_cons,i3,List.mem_cons]
   constructor
   ·rintro (h | ⟨h,_⟩)
    ·exact .inl h
    ·exact .inr h
   ·rintro (h | h)
    ·exact .inl h
    ·by_cases hxy:x=y
     ·exact .inl hxy
     ·exact .inr ⟨h,hxy⟩
def jl (p q:Pt) : List Nat:=dd (gp (p.2++q.2))
theorem rX (p q:Pt) : Asc (jl p q)∧(∀ x,x∈jl p q↔x∈p.2∨x∈q.2)∧(jl p q).length≤p.2.length + q.2.length:=by
 obtain ⟨h1,h2⟩:=TK (UK (p.2++q.2))
 refine ⟨h1,fun x=>?_, ?_⟩
 ·unfold jl
  rw [h2,(FE _).mem_iff,List.mem_append]
 ·have:=Xr (gp (p.2++q.2))
  rw [Cg,List.length_append] at this
  exact this
theorem MK {p q:Pt} (hp:kw p) (hq:kw q) (hl:p.2.length + q.2.length≤4096) :
  kw (kN gp dd p q)∧(∀ x,gG (kN gp dd p q) x=true↔gG p x=true∨gG q x=true)∧(kN gp dd p q).2.length≤p.2.length + q.2.length:=by
 obtain ⟨h1,h2,h3⟩:=rX p q
 have he:kN gp dd p q=settle (max p.1 q.1) (jl p q):=rfl
 rw [he]
 have hpos:∀ y∈jl p q,1≤y:=fun y hy=>by
  rcases (h2 y).1 hy with h | h
  ·have:=hp.2.1 y h; omega
  ·have:=hq.2.1 y h; omega
 have hle:∀ y∈jl p q,y≤1099511627776:=fun y hy=>by
  rcases (h2 y).1 hy with h | h
  ·exact hp.2.2.2.1 y h
  ·exact hq.2.2.2.1 y h
 have hm:max p.1 q.1≤1099511627776:=by have:=hp.2.2.1; have:=hq.2.2.1; omega
 obtain ⟨s1,s2,s3,s4⟩:=rA (jl p q) (max p.1 q.1) 1099511627776 h1 hm hle
 have hsl:=uO (max p.1 q.1) (jl p q)
 refine ⟨⟨s1,s2,s3,fun x hx=>hle x (Ae hx),by omega⟩,fun x=>?_,by omega⟩
 rw [uS _ _ _ hpos,h2,fK,fK]
 constructor
 ·rintro (h | h | h)
  ·by_cases hx:x≤p.1
   ·exact .inl (.inl ⟨h.1,hx⟩)
   ·exact .inr (.inl ⟨h.1,by omega⟩)
  ·exact .inl (.inr h)
  ·exact .inr (.inr h)
 ·rintro ((h | h) | (h | h))
  ·exact .inl ⟨h.1,by omega⟩
  ·exact .inr (.inl h)
  ·exact .inl ⟨h.1,by omega⟩
  ·exact .inr (.inr h)
def lI (ps qs:List Pt) : List Pt:=nP gp dd ps qs 16
structure SI (k:Nat) (ps:List Pt) : Prop where
 len:ps.length=16
 wf:∀ p∈ps,kw p
 few:∀ p∈ps,p.2.length≤k
theorem SI.at {k:Nat} {ps:List Pt} (h:SI k ps) (i:Nat) : kw (ps.getD i (0,[]))∧(ps.getD i (0,[])).2.length≤k :=
 ⟨qf h.wf i,sw (R:=fun p=>p.2.length≤k) h.few (Nat.zero_le _) i⟩
theorem Av {ps qs:List Pt} {a c:Nat} (h1:SI a ps) (h2:SI c qs) {j:Nat} (hj:j<16) : (lI ps qs).getD j (0,[])=kN gp dd (ps.getD j (0,[])) (qs.getD j (0,[])):=Kz h1.len (Nat.le_refl _) hj
theorem Us {ps qs:List Pt} {a c:Nat} (h1:SI a ps) (h2:SI c qs) (hk:a + c≤4096) : SI (a + c) (lI ps qs):=by
 have hlen:(lI ps qs).length=16:=by rw [lI,xy,h1.len]
 have all:∀ p∈lI ps qs,kw p∧p.2.length≤a + c:=fun p hp=>by
  obtain ⟨i,hi,rfl⟩:=List.getElem_of_mem hp
  rw [hlen] at hi
  have e:=Av h1 h2 hi
  rw [Je (by omega)] at e
  rw [e]
  obtain ⟨w1,l1⟩:=h1.at i
  obtain ⟨w2,l2⟩:=h2.at i
  obtain ⟨r1,_,r3⟩:=MK w1 w2 (by omega)
  exact ⟨r1,by omega⟩
 exact ⟨hlen,fun p hp=>(all p hp).1,fun p hp=>(all p hp).2⟩
theorem Qo.of {k:Nat} {ps:List Pt} {w:List ak} (h:SI k ps) (hs:YC w) (hm:∀ d,d∈w↔cZ ps d=true) : Qo ps w:=⟨h.len,h.wf,hs,hm⟩
theorem Ej {ps qs:List Pt} (h1:∀ p∈ps,kw p) (h2:∀ p∈qs,kw p) : jf ps qs=true↔∀ d,cZ ps d=true→cZ qs d=true:=by
 constructor
 ·intro h d hd
  exact NC h1 h2 h hd
 ·intro h
  rw [tT]
  intro i hi
  rw [DW (qf h1 i) (qf h2 i)]
  intro x hx
  have hm:((i:Int),x)∈yN ps 16:=AO.2 ⟨by simp,by simp; omega,by simpa using hx⟩
  have:=h _ ((RY h1 _).1 hm)
  rw [cZ,Bool.and_eq_true] at this
  simpa using this.2
end Go.Ab.ak
set_option maxRecDepth 10000
set_option linter.unusedVariables false
set_option linter.unusedSimpArgs false
namespace Go.Ab.ak
open Go Go.Ab
end Go.Ab.ak
set_option maxRecDepth 10000
set_option linter.unusedVariables false
set_option linter.unusedSimpArgs false
namespace Go.Ab.ak
open Go Go.Ab
def FJ (T:Nat) (c:aj) : Prop:=Qs (fun xs=>xs.length≤60000) (fun xs=>xs.length≤60000) gp dd T c
theorem FJ.use {T:Nat} {c:aj} (h:FJ T c) {M:RM} {a b:Nat} {ps qs:List Pt} {S S' : Nat→Prop} {k l:Nat} {Q:ah} (h1:gD T S M a ps) (h2:gD T S' M b qs) (he:a=b→ps=qs) (hn:¬ S' a) (i1:SI k ps) (i2:SI l qs) (hkl:k + l≤60000)
  (hQ:∀ M',gD T (fun e=>S e∨M.next≤e) M' a (lI ps qs)→ag [a] M M'→Q (.tup []) M') : c [.ptr a 0,.ptr b 0] M Q:=by
 refine h h1 h2 he hn (fun i hi=>?_) (fun p hp=>?_) (fun p hp=>?_) (fun i hi=>?_) hQ
 ·have a1:=(i1.at i).2
  have a2:=(i2.at i).2
  show ((ps.getD i (0,[])).2++(qs.getD i (0,[])).2).length≤60000∧(gp ((ps.getD i (0,[])).2++(qs.getD i (0,[])).2)).length≤60000
  rw [Cg,List.length_append]
  omega
 ·have:=(i1.wf p hp).2.2.1
  have:=i1.few p hp
  omega
 ·have:=(i2.wf p hp).2.2.1
  have:=i2.few p hp
  omega
 ·have a1:=i1.at i
  have a2:=i2.at i
  obtain ⟨_,j2,j3⟩:=rX (ps.getD i (0,[])) (qs.getD i (0,[]))
  refine ⟨by have:=j3; unfold jl at this; omega,fun x hx=>?_⟩
  rcases (j2 x).1 hx with h | h
  ·have:=a1.1.2.2.2.1 x h; omega
  ·have:=a2.1.2.2.2.1 x h; omega
end Go.Ab.ak
set_option maxRecDepth 10000
set_option linter.unusedVariables false
set_option linter.unusedSimpArgs false
namespace Go.Ab.Crw
open Go Go.Ab Go.Ab.ak
def Gr (T:Nat) (c:aj) : Prop:=∀ {M:RM} {b:Nat} {qs:List Pt} {S' : Nat→Prop} {k:Nat} {Q:ah},gD T S' M b qs→SI k qs→k≤4096 →
 (∀ a M',M.next≤a→gD T (fun e=>a<e) M' a qs→ag [] M M'→Q (.ptr a 0) M')→c [.ptr b 0] M Q
theorem NI {q:Pt} (h:kw q) : kN gp dd (0,[]) q=q:=by
 have e:jl (0,[]) q=q.2:=Oz (rX _ _).1 h.1 fun x=>by rw [(rX _ _).2.1]; simp
 show Go.Ab.ak.settle (max 0 q.1) (jl (0,[]) q)=q
 rw [e,Nat.zero_max]
 exact MX h.2.1
theorem vQ:SI 0 iU:=⟨rfl,Mk,fun p hp=>by
 rw [iU,List.mem_replicate] at hp
 rw [hp.2]; exact Nat.le_refl _⟩
theorem PW {T:Nat} {cn cj:aj} (hn:OL T cn) (hj:FJ T cj) : Gr T fun args M Q=>∃ a0,args=[a0]∧ak.zq cn cj a0 M Q:=by
 intro M b qs S' k Q hB hi hk hQ
 refine ⟨_,rfl, ?_⟩
 unfold ak.zq
 have hB0:=hB.below
 refine hn fun M1 hA1 k1 n1=>?_
 have hB1:=hB0.keep k1 (by simp) (by simp)
 have hbl:=hB.lt
 refine hj.use hA1 hB1 (fun e=>by omega) (fun h=>by omega) vQ hi (by omega) fun M2 hA2 k2=>?_
 have e:lI iU qs=qs:=XZ (Us vQ hi (by omega)).len hB.len fun j hj=>by
  rw [Av vQ hi hj,zX,NI (hi.at j).1]
 rw [e] at hA2
 refine hQ M.next M2 (Nat.le_refl _) (hA2.mono (fun e h=>?_) (by omega)) (k1.dB k2 (by simp))
 rcases h with h | h
 ·exact h.elim
 ·omega
section
variable {α:Type} {E:Enc α}
theorem Ud {M:RM} {b T bytes:Nat} {zs:List AV} {u:AV} {xs ys:List α} {K:ah} (hb:b<M.next) (hh:M.heap b=some (.row (E.row xs) false T 0)) (hu:Sl E M u ys) (hx:1≤xs.length) (hs:1≤E.size)
  (hn:(xs.length + ys.length) * bytes≤140737488355328) (hn2:xs.length + ys.length≤140737488355328)
  (hK:∀ v' M',Sl E M' v' (xs++ys)→(∀ d∈aH v',d=b∨M.next≤d)→ag [] M M'→K v' M') : appW T E.size bytes zs false (.slc b 0 xs.length (.ex xs.length)) u M K:=by
 refine ⟨ys.length,E.row ys,aN.oh hu _, ?_,by omega, ?_⟩
 ·exact Nat.le_trans (Nat.mul_le_mul_right _ (Nat.le_add_left _ _)) hn
 have hlen:(E.row xs).length=xs.length * E.size:=E.eG xs
 have hld:M.loads b 0 (xs.length * E.size)=some (E.row xs):=by
  rw [RM.dG hh (by omega),List.drop_zero,← hlen,List.take_length]
 by_cases h0:ys.length=0
 ·have:ys=[]:=List.length_eq_zero_iff.1 h0
  subst this
  refine ⟨.slc b 0 xs.length (.ex xs.length),M,by simp [pR],hK _ _ ?_ (by simp [aH]) (ag.refl _ _)⟩
  rw [List.append_nil]
  exact .slc _ _ _ _ _ hb hld
 ·refine ⟨.slc M.next 0 (xs.length + ys.length) (.op E.size),M.push (.row (E.row xs++E.row ys) true T 0), ?_,hK _ _ ?_ (by simp [aH]) ((ag.refl _ _).push _)⟩
  ·have hone:(E.row xs++E.row ys).all oneCell=true:=by rw [List.all_append,E.qF,E.qF]; rfl
   simp only [pR,if_neg h0,if_neg (show ¬ xs.length + ys.length≤xs.length by omega),hld]
   rw [if_pos ⟨hn,by omega,hone⟩]
  ·have hl2:(E.row (xs++ys)).length=(xs.length + ys.length) * E.size:=by rw [E.eG,List.length_append]
   show aN _ E.size _ (E.row (xs++ys)) (xs++ys).length
   rw [List.length_append]
   refine .slc _ _ _ _ _ (by simp [RM.push]) ?_
   rw [← E.qP,RM.dG (RM.aQ _) (by omega),List.drop_zero,← hl2,List.take_length]
end
structure kH (TS T:Nat) (B:Nat→Prop) (M:RM) (t:Nat) (ps:List Pt) (es:List aL) : Prop where
 lt:t<M.next
 row:∃ s v,M.heap t=some (.row [.ptr s 0,v] false TS 0)∧(∃ S:Nat→Prop,gD T S M s ps∧∀ d,S d→B d)∧Sl aC M v es∧B s∧∀ d∈aH v,B d
 nb:¬ B t
theorem kH.keep {TS T t:Nat} {B:Nat→Prop} {M M' : RM} {ps:List Pt} {es:List aL} {bs:List Nat} (h:kH TS T B M t ps es) (k:ag bs M M') (ht:t ∉ bs) (hb:∀ d∈bs,¬ B d) : kH TS T B M' t ps es:=by
 obtain ⟨s,v,h1,⟨S,h2,h2'⟩,h3,h4,h5⟩:=h.row
 exact ⟨Nat.lt_of_lt_of_le h.lt k.next,⟨s,v,k.aK h1 h.lt ht,⟨S,h2.keep k (fun hs=>hb s hs h4) (fun d hd hS=>hb d hd (h2' d hS)),h2'⟩,aN.keep h3 k (fun d hd hm=>hb d hm (h5 d hd)),h4,h5⟩,h.nb⟩
theorem kH.mono {TS T t:Nat} {B B' : Nat→Prop} {M:RM} {ps:List Pt} {es:List aL} (h:kH TS T B M t ps es) (hB:∀ d,B d→B' d) (hn:¬ B' t) : kH TS T B' M t ps es:=by
 obtain ⟨s,v,h1,⟨S,h2,h2'⟩,h3,h4,h5⟩:=h.row
 exact ⟨h.lt,⟨s,v,h1,⟨S,h2,fun d hd=>hB d (h2' d hd)⟩,h3,hB s h4,fun d hd=>hB d (h5 d hd)⟩,hn⟩
theorem kH.below {TS T t:Nat} {B:Nat→Prop} {M:RM} {ps:List Pt} {es:List aL} (h:kH TS T B M t ps es) : kH TS T (fun d=>B d∧d<M.next) M t ps es:=by
 obtain ⟨s,v,h1,⟨S,h2,h2'⟩,h3,h4,h5⟩:=h.row
 exact ⟨h.lt,⟨s,v,h1,⟨_,h2.below,fun d hd=>⟨h2' d hd.1,hd.2⟩⟩,h3,⟨h4,h2.lt⟩,fun d hd=>⟨h5 d hd,aN.lt h3 d hd⟩⟩,fun hh=>h.nb hh.1⟩
def Kq (TS T:Nat) (c:aj) : Prop:=∀ {M:RM} {Q:ah},(∀ t M',M.next≤t→kH TS T (fun d=>M.next≤d∧d<t) M' t iU []→ag [] M M'→Q (.ptr t 0) M')→c [] M Q
theorem OE {TS T:Nat} {cn:aj} (hn:OL T cn) : Kq TS T fun args M Q=>args=[]∧PI cn TS M Q:=by
 intro M Q hQ
 refine ⟨rfl, ?_⟩
 unfold PI
 refine hn fun M1 h1 k1 n1=>?_
 rw [ja]
 refine ⟨[.ptr M.next 0,bJ],rfl, ?_⟩
 rw [dH rfl (by simp),bi]
 have k2:ag [] M1 (M1.push (.row [.ptr M.next 0,bJ] false TS 0)):=(ag.refl _ _).push _
 refine hQ _ _ (by omega) ⟨by simp [RM.push],⟨M.next,bJ,RM.aQ _,⟨fun _=>False,h1.keep k2 (by simp) (by simp),fun d hd=>hd.elim⟩,.nil,⟨Nat.le_refl _,by omega⟩,by simp [aH]⟩,fun h=>by omega⟩ (k1.trans k2)
def kX (ps:List Pt) (ds:List ak) : List Pt:=ds.foldl (fun u d=>(kE u d).2) ps
theorem NB {ps:List Pt} {ds:List ak} {i:Nat} (h:i<ds.length) : kX ps (ds.take (i + 1))=(kE (kX ps (ds.take i)) ds[i]).2:=by
 rw [List.take_succ_eq_append_getElem h,kX,List.foldl_append]; rfl
theorem NV {k:Nat} {ps:List Pt} {d:ak} (h:SI k ps) : SI (k + 1) (kE ps d).2:=⟨by rw [TQ,h.len],VR h.wf,Sy h.few⟩
theorem _root_.Go.Ab.ak.SI.mono {k l:Nat} {ps:List Pt} (h:SI k ps) (hl:k≤l) : SI l ps:=⟨h.len,h.wf,fun p hp=>Nat.le_trans (h.few p hp) hl⟩
theorem wU {k:Nat} : ∀ {ds:List ak} {ps:List Pt},SI k ps→SI (k + ds.length) (kX ps ds)
 | [],ps,h=>h
 | d :: ds,ps,h=>by
   have:=wU (ds:=ds) (NV (d:=d) h)
   exact this.mono (by simp; omega)
def dx (e:je) : aL:=(e.1,(e.2.2.1,(e.2.2.2.1,e.2.2.2.2)))
def iY (ps:List Pt) (es:List aL) (e:je) (ks:List ak) : List aL :=
 (if decide (e.2.1=1) && !cZ ps e.1 then mD gT (es++[dx e]) else es).filter fun x=>!decide (x.1∈ks)
def uz (ps:List Pt) (e:je) (ks:List ak) : List Pt:=kX ps (e.1 :: ks)
theorem FM:∀ {ks:List ak} {d:ak} {p:Option ak},fQ d p ks=true→∀ k∈ks,good k=true
 | [],_,_,_,k,hk=>by simp at hk
 | x :: ks,d,p,h,k,hk=>by
   simp only [fQ,Bool.and_eq_true] at h
   rcases List.mem_cons.1 hk with rfl | hk
   ·exact h.1.1.1
   ·exact FM h.2 k hk
theorem nu {e:je} {ks:List ak} (h:bY e ks=true) : good e.1=true∧ks.length≤64∧(∀ k∈ks,good k=true)∧fQ e.1 none ks=true∧yC e=true:=by
 simp only [bY,Bool.and_eq_true,decide_eq_true_eq] at h
 exact ⟨h.1.1.1.1,h.1.1.2,FM h.1.2,h.1.2,h.2⟩
theorem SF (e:je) : wX [(N .i64 0),(N .u64 0),(St []),(St []),(St [])] [(0,2,.agg (aO e.1)),(2,1,St e.2.2.1),(3,1,St e.2.2.2.1),(4,1,St e.2.2.2.2)]=some (aC.cells (dx e)):=rfl
def Ck (TS T:Nat) (c:aj) : Prop:=∀ {M:RM} {t k:Nat} {B:Nat→Prop} {ps:List Pt} {es:List aL} {e:je} {kv:AV} {ks:List ak} {Q:ah},kH TS T B M t ps es→SI k ps→k + 65≤4000→es.length≤50000→Sl aR M kv ks→t ∉ aH kv →
 (bY e ks=false→∀ M',ag [] M M'→Q (.tup [Bo false,N .i64 1]) M') →
 (bY e ks=true→∀ M',kH TS T (fun d=>B d∨M.next≤d) M' t (uz ps e ks) (iY ps es e ks)→ag [t] M M'→Q (.tup [Bo (!jf (uz ps e ks) ps || !decide (iY ps es e ks=es)),N .i64 0]) M')→c [.ptr t 0,.agg (aV e kv)] M Q
theorem PL {TS T TE TD TN nc nd:Nat} {cG cC cA cH cL cS cD cW cQ:aj} {cv:FuncId→aj} (hG:sQ cG) (hC:Gr T cC) (hA:OJ T cA) (hH:Ko T cH) (hL:yX TN cL) (hS:Du (.fn (.func nc) [] []) gT TN cS)
  (hD:∀ b e kv ks,ks.length≤1000000→wH TN (Cf TE b e kv ks) (fun x=>decide (x.1∈ks)) (.fn (.func nd) [] [.ptr b 0]) cD) (hW:Dr T cW) (hQ' : CJ cQ) :
  Ck TS T fun args M Q=>∃ a0 a1,args=[a0,a1]∧uG TE cG cC TD cA cH TN cL cS nc nd cD cW cQ a0 a1 M Q:=by
 intro M0 t k B ps es e kv ks Q hst hsi hk hes hkv0 htk hbad hok
 refine ⟨_,_,rfl, ?_⟩
 unfold uG
 simp only [iA,eD,dN,dQ,bT]
 rw [dH (tZ hkv0) (by simp),bi]
 have k0:ag [] M0 (M0.push (.row (aV e kv) false TE 0)):=(ag.refl _ _).push _
 have h0:(M0.push (.row (aV e kv) false TE 0)).heap M0.next=some (.row (aV e kv) false TE 0):=RM.aQ _
 have hlt:M0.next<(M0.push (.row (aV e kv) false TE 0)).next:=by simp [RM.push]
 have hs:Sl aR (M0.push (.row (aV e kv) false TE 0)) kv ks:=aN.keep hkv0 k0 (by simp)
 have hkl:∀ d∈aH kv,d<M0.next:=aN.lt hkv0
 have n0:=k0.next
 generalize M0.push (.row (aV e kv) false TE 0)=M at *
 generalize hb0:M0.next=b at *
 rw [bP (n:=7) h0 (by simp [VB.len]; rfl)]
 refine hG hs fun M1 k1=>?_
 have k01:=k0.trans k1
 rw [bB]
 refine aF (fun hg=>?_) (fun hg=>?_)
 ·exact hbad (by simpa using hg) M1 k01
 have hge:bY e ks=true:=by simpa using hg
 obtain ⟨hgd,hkl64,hkg,_,_⟩:=nu hge
 have hok:=hok hge
 have n1:=k1.next
 obtain ⟨s,v,r1,⟨S,r2,r2'⟩,r3,r4,r5⟩:=hst.row
 have htl:=hst.lt
 have e1:=k1.aK h0 hlt (by simp)
 have t1:=k01.aK r1 htl (by simp)
 have set1:=(r2.below).keep k01 (by simp) (by simp)
 have slt:=r2.lt
 rw [aJ,bz,az t1 rfl]
 -- the set is copied
 refine hC set1 hsi (by omega) fun s' M2 hs' set2 k2=>?_
 have n2:=k2.next
 have hs'lt:=set2.lt
 have e2:=k2.aK e1 (by omega) (by simp)
 have k02:=k01.trans k2
 rw [bz,ve e2,qN (x:=.agg (aO e.1)) (size:=2) rfl rfl rfl,bi]
 have k3:ag [] M2 (M2.push (.row (AV.agg (aO e.1)).cells false TD 0)):=(ag.refl _ _).push _
 have l3:(M2.push (.row (AV.agg (aO e.1)).cells false TD 0)).heap M2.next=some (.row (aR.row [e.1]) false TD 0):=by
  rw [RM.aQ]; rfl
 have n3:M2.next<(M2.push (.row (AV.agg (aO e.1)).cells false TD 0)).next:=by simp [RM.push]
 have e3:=k3.aK e2 (by omega) (by simp)
 have set3:=set2.keep k3 (by simp) (by simp)
 have kv3:Sl aR (M2.push (.row (AV.agg (aO e.1)).cells false TD 0)) kv ks:=aN.keep hkv0 (k02.trans k3) (by simp)
 have k03:=k02.trans k3
 generalize M2.push (.row (AV.agg (aO e.1)).cells false TD 0)=M3 at *
 generalize hb2:M2.next=b2 at *
 rw [bz,az e3 rfl]
 refine Ud (E:=aR) (xs:=[e.1]) (by omega) l3 kv3 (by simp) (by decide) (by simp; omega) (by simp; omega) fun dv M4 hdv hdb k4=>?_
 have hds:(e.1 :: ks).length≤65:=by simp; omega
 have k34:ag [] M3 M4:=k4
 have n4:=k4.next
 have e4:=k4.aK e3 (by omega) (by simp)
 have set4:=set3.keep k4 (by simp) (by simp)
 have k04:=k03.trans k4
 have hdv:Sl aR M4 dv (e.1 :: ks):=hdv
 have hdl:=aN.lt hdv
 have hdg:∀ d∈e.1 :: ks,good d=true:=fun d hd=>by
  rcases List.mem_cons.1 hd with rfl | hd
  ·exact hgd
  ·exact hkg d hd
 have hdne:s' ∉ aH dv:=fun hm=>by
  rcases hdb s' hm with h | h <;> omega
 generalize hds' : e.1 :: ks=ds at *
 rw [aN.len hdv]
 refine aG (fun m ys M6=>∃ i:Nat,m=ds.length - i∧ys=[N .i64 (i:Int)]∧i≤ds.length∧ag [s'] M4 M6∧gD T (fun e=>s'<e) M6 s' (kX ps (ds.take i))) _ ⟨0,rfl,rfl,Nat.zero_le _,ag.refl _ _,set4⟩ ?_
 rintro next m ys M6 hnext ⟨i,rfl,rfl,hi,k6,set6⟩
 dsimp only [aa]
 have hdv6:Sl aR M6 dv ds:=aN.keep hdv k6 (fun b hb hm=>by simp at hm; subst hm; exact hdne hb)
 have si6:SI (k + (ds.take i).length) (kX ps (ds.take i)):=wU hsi
 have hti:(ds.take i).length≤65:=by rw [List.length_take]; omega
 rw [dS]
 refine aF (fun hlti=>?_) (fun hge2=>?_)
 ·have hlti:i<ds.length:=of_decide_eq_true hlti
  rw [qg hdv6 hlti,bi,dI (n:=2) (x:=.agg (aO ds[i])) (l:=[N .i64 0,N .u64 0]) (RM.aQ _) rfl rfl rfl]
  have k7:ag [] M6 ((M6.push (.row [N .i64 0,N .u64 0] false TD 0)).put M6.next (.row (AV.agg (aO ds[i])).cells false TD 0)):=((ag.refl _ _).push _).new _ (Nat.le_refl _)
  have hk7:((M6.push (.row [N .i64 0,N .u64 0] false TD 0)).put M6.next (.row (AV.agg (aO ds[i])).cells false TD 0)).heap M6.next=some (.row (aO ds[i]) false TD 0):=aP _
  generalize (M6.push (.row [N .i64 0,N .u64 0] false TD 0)).put M6.next (.row (AV.agg (aO ds[i])).cells false TD 0)=M7 at *
  rw [bP (n:=2) hk7 rfl]
  have set7:=set6.keep k7 (by simp) (by simp)
  have n7:=k7.next
  have s6:=set6.lt
  refine hA set7 si6.wf fun M8 set8 k8=>?_
  have hgood:=Js (ps:=kX ps (ds.take i)) (d:=ds[i]) (fun p hp=>by have:=si6.few p hp; omega) (hdg _ (List.getElem_mem hlti))
  have h10:(kE (kX ps (ds.take i)) ds[i]).1=0:=by rw [hgood]
  rw [h10,iJ,show ((0:Int) != 0)=false from rfl,bF,add1 (by omega)]
  refine hnext _ _ _ (by omega) ⟨i + 1,rfl,rfl,by omega,(k6.trans (k7.mono (cs:=[s']) (by simp))).trans k8, ?_⟩
  rw [NB hlti]
  exact set8.mono (fun d hd=>by rcases hd with hd | hd <;> omega) (by omega)
 have hie:i=ds.length:=by
  have:¬ i<ds.length:=of_decide_eq_false hge2
  omega
 subst hie
 rw [List.take_length] at set6 si6
 clear hnext hge2
 have hps' : kX ps ds=uz ps e ks:=by rw [← hds']; rfl
 rw [hps'] at set6 si6
 have si6:=si6.mono (l:=k + 65) (by omega)
 have n6:=k6.next
 have k06:ag [] M0 M6:=k04.dB k6 (fun d hd=>by simp at hd; omega)
 have e6:=k6.aK e4 (by omega) (by simp; omega)
 have t6:=k06.aK r1 htl (by simp)
 have v6:Sl aC M6 v es:=aN.keep r3 k06 (by simp)
 have old6:=(r2.below).keep k06 (by simp) (by simp)
 have kv6:Sl aR M6 kv ks:=aN.keep hkv0 k06 (by simp)
 rw [aJ,aY,az (i:=0 + 1) t6 rfl]
 have set6b:=set6.below
 refine aZ (fun zs M'=>∃ (w:AV) (es1:List aL),zs=[w]∧Sl aC M' w es1∧es1.length≤50001∧es1=(if decide (e.2.1=1) && !cZ ps e.1 then mD gT (es++[dx e]) else es)∧ag [] M6 M') ?_ ?_
 ·rintro zs M9 ⟨w,es1,rfl,hw,hwl,hes1,k9⟩
  dsimp only [aa]
  have n9:=k9.next
  refine hL hw (by omega) fun c M10 oc k10=>?_
  have n10:=k10.next
  have k610:=k9.trans k10
  have k010:=k06.trans k610
  have ev10:Cf TE b e kv ks M10:=⟨by omega,k610.aK e6 (by omega) (by simp),aN.keep kv6 k610 (by simp)⟩
  refine hD b e kv ks (by omega) ev10 (fun Ma Mb ks' hP kk hsub=>hP.keep kk (fun hm=>by have:=(oc.blk b (hsub b hm)).1; omega) (fun d hd hm=>by have:=hkl d hd; have:=(oc.blk d (hsub d hm)).1; omega)) oc (by omega) fun x M11 hx hxb k11=>?_
  have k611:ag [] M6 M11:=k610.dB k11 (fun d hd=>.inl (by have:=(oc.blk d hd).1; omega))
  have k011:=k06.trans k611
  have bW:=k611.aK t6 (by omega) (by simp)
  have new11:=set6b.keep k611 (by simp) (by simp)
  have old11:=old6.keep k611 (by simp) (by simp)
  have v11:Sl aC M11 v es:=aN.keep v6 k611 (by simp)
  rw [aJ,bz,az bW rfl]
  refine hW new11 old11 (fun p hp=>by have:=si6.few p hp; omega) (fun q hq=>⟨(hsi.wf q hq).1,by have:=hsi.few q hq; omega⟩) fun M12 k12=>?_
  have hxl:(es1.filter fun x=>!decide (x.1∈ks)).length≤es1.length:=List.length_filter_le _ _
  have t12:=k12.aK bW (by have:=k611.next; omega) (by simp)
  have hfin:es1.filter (fun x=>!decide (x.1∈ks))=iY ps es e ks:=by rw [hes1]; rfl
  rw [hfin] at hx hxl
  rw [bB]
  refine yw (p:=!decide (iY ps es e ks=es)) (fun _ k hk=>?_) ?_
  ·rw [aJ,aY,az (i:=0 + 1) t12 rfl]
   refine hQ' (aN.keep hx k12 (by simp)) (aN.keep v11 k12 (by simp)) (by omega) ?_
   rw [bB]
   exact hk
  have x12:Sl aC M12 x (iY ps es e ks):=aN.keep hx k12 (by simp)
  rw [aJ,bz,eB t12 (by simp) rfl rfl,aJ,aY]
  rw [eB (aP _) (by simp) (aN.cells x12) (aN.one x12)]
  have kk:ag [t] M12 ((M12.put t (.row ([AV.ptr s 0,v].set 0 (.ptr s' 0)) false TS 0)).put t (.row (([AV.ptr s 0,v].set 0 (.ptr s' 0)).set (0 + 1) x) false TS 0)):=((ag.refl _ _).put _ (.inr (by simp))).put _ (.inr (by simp))
  have hh:((M12.put t (.row ([AV.ptr s 0,v].set 0 (.ptr s' 0)) false TS 0)).put t (.row (([AV.ptr s 0,v].set 0 (.ptr s' 0)).set (0 + 1) x) false TS 0)).heap t=some (.row [.ptr s' 0,x] false TS 0):=aP _
  have hnx:((M12.put t (.row ([AV.ptr s 0,v].set 0 (.ptr s' 0)) false TS 0)).put t (.row (([AV.ptr s 0,v].set 0 (.ptr s' 0)).set (0 + 1) x) false TS 0)).next=M12.next:=rfl
  generalize (M12.put t (.row ([AV.ptr s 0,v].set 0 (.ptr s' 0)) false TS 0)).put t (.row (([AV.ptr s 0,v].set 0 (.ptr s' 0)).set (0 + 1) x) false TS 0)=M13 at *
  have n12:=k12.next
  have n611:=k611.next
  refine hok M13 ⟨by omega,⟨s',x,hh,⟨fun d=>s'<d∧d<M6.next,(new11.keep k12 (by simp) (by simp)).keep kk (by simp; omega) (fun d hd h=>by simp at hd; omega),fun d hd=>.inr (by omega)⟩,aN.keep x12 kk (fun d hd hm=>?_),.inr (by omega),fun d hd=>.inr (by have:=(oc.blk d (hxb d hd)).1; omega)⟩,fun hB=>?_⟩ ((k011.trans k12).mono (by simp) |>.trans kk)
  ·simp at hm
   subst hm
   have:=(oc.blk d (hxb d hd)).1
   omega
  ·rcases hB with hB | hB
   ·exact hst.nb hB
   ·omega
 intro J hJ
 have e2v:∀ {M' : RM},ag [] M6 M'→M'.heap b=some (.row (aV e kv) false TE 0):=fun k=>k.aK e6 (by omega) (by simp)
 have op1:((e.2.1:Int) == 1)=decide (e.2.1=1):=by by_cases h:e.2.1=1 <;> simp [h]
 rw [bz,az e6 rfl,df,op1]
 refine lu (P:=fun M'=>ag [] M6 M') (p:=!cZ ps e.1) (ag.refl _ _) (fun _ k hk=>?_) fun M7 k7=>?_
 ·rw [aJ,bz,az t6 rfl,bz,ve e6]
  refine hH old6 (fun q hq=>⟨(hsi.wf q hq).1,by have:=hsi.few q hq; omega⟩) fun M7 k7=>?_
  rw [bB]
  exact hk M7 k7
 refine aF (fun hc=>?_) (fun hc=>?_)
 ·have e7:=e2v k7
  rw [bz,ve e7,bz,az e7 rfl,bz,az e7 rfl,bz,az e7 rfl,ja]
  refine ⟨_,SF e, ?_⟩
  rw [qN (x:=.agg (aC.cells (dx e))) (size:=5) rfl rfl rfl,qb]
  have k8:ag [] M7 (M7.push (.row (AV.agg (aC.cells (dx e))).cells false TN 0)):=(ag.refl _ _).push _
  have h8:(M7.push (.row (AV.agg (aC.cells (dx e))).cells false TN 0)).heap M7.next=some (.row (aC.cells (dx e)) false TN 0):=RM.aQ _
  have n8:M7.next<(M7.push (.row (AV.agg (aC.cells (dx e))).cells false TN 0)).next:=by simp [RM.push]
  generalize M7.push (.row (AV.agg (aC.cells (dx e))).cells false TN 0)=M8 at *
  generalize hb7:M7.next=b7 at *
  have k68:=k7.trans k8
  refine hL (aN.keep v6 k68 (by simp)) (by omega) fun c M9 oc k9=>?_
  have k69:=k68.trans k9
  have e9:=e2v k69
  have n9:=k9.next
  rw [ve e9]
  refine ⟨rfl, ?_⟩
  rw [az e9 rfl]
  refine ⟨rfl, ?_⟩
  rw [az e9 rfl]
  refine ⟨rfl, ?_⟩
  rw [az e9 rfl]
  refine ⟨rfl, ?_⟩
  rw [qN (x:=.agg (aC.cells (dx e))) (size:=5) rfl rfl rfl,Pg]
  have h9:=k9.aK h8 n8 (by simp)
  refine ⟨⟨h9,rfl⟩, ?_⟩
  have slx:Sl aC M9 (.slc b7 0 1 (.ex 1)) [dx e]:=by
   refine .slc _ _ _ _ _ (by omega) ?_
   rw [RM.dG h9 (by rw [aC.len]; decide),List.drop_zero,Enc.row_one]
   have:(aC.cells (dx e)).length=1 * aC.size:=by rw [aC.len,Nat.one_mul]
   rw [← this,List.take_length]
  refine Iu (E:=aC) oc n9 (by decide) slx (by simp; omega) (by simp; omega) fun c2 M10 oc2 k10 n10 _=>?_
  have k610:ag [] M6 M10:=k69.dB k10 (fun d hd=>.inl (by have:=(oc.blk d hd).1; have:=k68.next; omega))
  refine hS oc2 (by simp; omega) fun M11 oc3 k11=>?_
  have k611:ag [] M6 M11:=k610.dB k11 (fun d hd=>.inl (by have:=(oc2.blk d hd).1; have:=k68.next; omega))
  have hsl:(mD gT (es++[dx e])).length=(es++[dx e]).length:=(kZ fG _).length_eq
  exact hJ _ _ ⟨c2,_,rfl,oc3.lG,by rw [hsl]; simp; omega,by rw [if_pos hc],k611⟩
 ·exact hJ _ _ ⟨v,es,rfl,aN.keep v6 k7 (by simp),by omega,by rw [if_neg (by rw [hc]; decide)],k7⟩
end Go.Ab.Crw
set_option maxRecDepth 10000
set_option linter.unusedVariables false
set_option linter.unusedSimpArgs false
namespace Go.Ab.Crw
open Go Go.Ab Go.Ab.ak
abbrev Ev:=je × List ak
def rQ:qj Ev:=qj.pre VB (aR.yF.slice)
theorem Kn {M:RM} {v:AV} {l:List Ev} {S:Nat→Prop} (h:gX rQ M v l S) {i:Nat} (hi:i<l.length) :
  ∃ b o kv,(∀ (kd:IntKind) (K:AV→Prop),au v (N kd (i:Int)) 7 K=K (.ptr b o))∧(∀ K:AV→Prop,aB M (.ptr b o) 7 K=K (.agg (aV l[i].1 kv)))∧(∀ K:AV→Prop,aB M (.ptr b o) 2 K=K (.agg (aO l[i].1.1)))∧Sl aR M kv l[i].2∧∀ d∈aH kv,S d:=by
 obtain ⟨b,o,cs,_,_,hidx,hld,ds,hcs,kv,hds,hkv⟩:=h.at (i:=i) 7 (i:Int) hi rfl rfl
 subst hds
 subst hcs
 refine ⟨b,o,kv,hidx,fun K=>?_,fun K=>?_,gX.sl hkv, ?_⟩
 ·rw [gK,hld]
  simp
 ·have e2:(aV l[i].1 kv).take 2=aO l[i].1.1:=rfl
  rw [gK,Pn hld 2 (by decide),e2]
  simp
 ·obtain ⟨_,_,h2,_⟩:=hkv
  exact h2
theorem SC {M:RM} {e:je} {kv:AV} {ks:List ak} {S:Nat→Prop} (h:Sl aR M kv ks) (hS:∀ d∈aH kv,S d) : rQ.rel M (aV e kv) (e,ks) S:=⟨[kv],rfl,kv,rfl,gX.Yc h hS⟩
def EH (TS T TN:Nat) (c:aj) : Prop:=∀ {M:RM} {t:Nat} {B:Nat→Prop} {ps:List Pt} {es:List aL} {Q:ah},kH TS T B M t ps es→es.length≤1000000→(∀ v M',Ow aC M' M.next TN v es→ag [] M M'→Q v M')→c [.ptr t 0] M Q
theorem Lp {TS T TN:Nat} {cL:aj} (hL:yX TN cL) : EH TS T TN fun args M Q=>∃ a0,args=[a0]∧qK cL a0 M Q:=by
 intro M t B ps es Q h hl hQ
 refine ⟨_,rfl, ?_⟩
 unfold qK
 obtain ⟨s,v,r1,_,r3,_,_⟩:=h.row
 rw [aJ,aY,az (i:=0 + 1) r1 rfl]
 exact hL r3 hl hQ
def lY (out:List Ev) (x:Ev) : List Ev:=if !(!bY x.1 x.2 || out.any fun y=>decide (y.1.1=x.1.1)) then out++[x] else out
def rG (l:List Ev) : List Ev:=l.foldl lY []
theorem JE {l:List Ev} {i:Nat} (h:i<l.length) : rG (l.take (i + 1))=lY (rG (l.take i)) l[i]:=by
 rw [List.take_succ_eq_append_getElem h,rG,List.foldl_append]; rfl
theorem MO (out:List Ev) (x:Ev) : (lY out x).length≤out.length + 1:=by
 unfold lY; split <;> simp
theorem AL (l:List Ev) : ∀ i,(rG (l.take i)).length≤i
 | 0=>Nat.le_refl _
 | i + 1=>by
   by_cases h:i<l.length
   ·rw [JE h]
    have:=AL l i
    have:=MO (rG (l.take i)) l[i]
    omega
   ·rw [List.take_of_length_le (by omega)]
    have:=AL l i
    rw [List.take_of_length_le (by omega)] at this
    omega
theorem JM:∀ (l:List Ev) (out:List Ev),(∀ x∈out,bY x.1 x.2=true)→∀ x∈l.foldl lY out,bY x.1 x.2=true
 | [],out,h=>h
 | y :: l,out,h=>JM l (lY out y) fun x hx=>by
   unfold lY at hx
   split at hx
   ·rename_i hc
    rcases List.mem_append.1 hx with hx | hx
    ·exact h x hx
    ·simp only [List.mem_singleton] at hx
     subst hx
     simp only [Bool.not_eq_true',Bool.or_eq_false_iff,Bool.not_eq_false'] at hc
     exact hc.1
   ·exact h x hx
def UM (TE:Nat) (c:aj) : Prop:=∀ {M:RM} {v:AV} {l:List Ev} {Q:ah},gX rQ M v l (fun d=>d<M.next)→l.length≤10000 →
 (∀ v' M',gX rQ M' v' (rG l) (fun d=>d<M'.next)→ag [] M M'→Q v' M')→c [v] M Q
theorem U8 {TE:Nat} {cG:aj} (hG:sQ cG) : UM TE fun args M Q=>∃ a0,args=[a0]∧O7 TE cG a0 M Q:=by
 intro M v l Q hv hl hQ
 refine ⟨_,rfl, ?_⟩
 unfold O7
 simp only [iA,eD,dN,bT]
 refine ⟨_,_,_,_,rfl,rfl,by decide,by decide,by decide,by decide, ?_⟩
 dsimp only
 rw [bi]
 have kM:ag [] M (M.push (.row (bK [(N .i64 0),(N .u64 0),(N .i64 0),(St []),(St []),(St []),(.sc (.slice none 0 0))] 0) false TE 0)):=(ag.refl _ _).push _
 have oM:lH rQ (M.push (.row (bK [(N .i64 0),(N .u64 0),(N .i64 0),(St []),(St []),(St []),(.sc (.slice none 0 0))] 0) false TE 0)) M.next TE (.slc M.next 0 0 (.ex 0)) [] (fun d=>d<M.next):=⟨[],Own.lit M (Nat.le_refl _),.nil⟩
 refine aG (fun m ys M3=>∃ (i:Nat) (w:AV),m=l.length - i∧ys=[w,N .i64 (i:Int)]∧i≤l.length∧ag [] M M3∧lH rQ M3 M.next TE w (rG (l.take i)) (fun d=>d<M.next)) _ ⟨0,_,rfl,rfl,Nat.zero_le _,kM,oM⟩ ?_
 rintro next m ys M3 hnext ⟨i,w,rfl,rfl,hi,k3,ow⟩
 dsimp only [aa]
 have hv3:gX rQ M3 v l (fun d=>d<M.next):=hv.keep k3 (by simp)
 have n3:=k3.next
 rw [hv3.len,dS]
 refine aF (fun hlt=>?_) (fun hge=>?_)
 ·have hlt:i<l.length:=of_decide_eq_true hlt
  refine aZ (fun zs M'=>∃ w',zs=[w']∧ag [] M M'∧lH rQ M' M.next TE w' (rG (l.take (i + 1))) (fun d=>d<M.next)) ?_ ?_
  ·rintro zs M' ⟨w',rfl,k',o'⟩
   dsimp only [aa]
   rw [add1 (by omega)]
   exact hnext _ _ _ (by omega) ⟨i + 1,w',rfl,rfl,by omega,k',o'⟩
  intro J hJ
  rw [JE hlt] at hJ
  have hol:=AL l i
  obtain ⟨b,o,kv,hidx,hl7,hl2,hkv,hkb⟩:=Kn hv3 hlt
  rw [hidx,hl7]
  refine hG hkv fun M4 k4=>?_
  rw [bB]
  have ow4:=ow.keep k4 (by simp) (by simp)
  generalize rG (l.take i)=out at *
  have k34:=k3.trans k4
  have n4:=k34.next
  have hv4:gX rQ M4 v l (fun d=>d<M.next):=hv.keep k34 (by simp)
  have owS:gX rQ M4 w out (fun d=>d<M4.next):=(ow4.mono (fun d hd=>by omega)).Yw (fun d _ h=>h)
  obtain ⟨b4,o4,kv4,hidx4,hl74,hl24,hkv4,hkb4⟩:=Kn hv4 hlt
  refine aG (fun m ys M5=>∃ j:Nat,m=out.length - j∧ys=[Bo (!bY l[i].1 l[i].2 || (out.take j).any fun y=>decide (y.1.1=l[i].1.1)),N .i64 (j:Int)]∧j≤out.length∧M5=M4) _ ⟨0,rfl,by simp,Nat.zero_le _,rfl⟩ ?_
  rintro next2 m ys M5 hnext2 ⟨j,rfl,rfl,hj,rfl⟩
  dsimp only [aa]
  rw [owS.len,dS]
  refine aF (fun hlt2=>?_) (fun hge2=>?_)
  ·have hlt2:j<out.length:=of_decide_eq_true hlt2
   obtain ⟨b5,o5,kv5,hidx5,hl75,hl25,_,_⟩:=Kn owS hlt2
   refine Vl (P:=fun M'=>M'=M5) (p:=decide (out[j].1.1=l[i].1.1)) rfl (fun _ k hk=>?_) fun M' hM'=>?_
   ·rw [hidx5,aY,Nat.add_zero,hl25,hidx4,aY,Nat.add_zero,hl24,qC rfl rfl (Ci _ _),Bool.bne_false]
    exact hk M5 rfl
   subst hM'
   rw [add1 (by omega)]
   refine hnext2 _ _ _ (by omega) ⟨j + 1,rfl, ?_,by omega,rfl⟩
   rw [List.take_succ_eq_append_getElem hlt2,List.any_append,List.any_cons,List.any_nil,Bool.or_false,Bool.or_assoc]
  ·have hje:j=out.length:=by
    have:¬ j<out.length:=of_decide_eq_false hge2
    omega
   subst hje
   rw [List.take_length,bB]
   refine aF (fun hc=>?_) (fun hc=>?_)
   ·rw [hidx4,hl74,qN (x:=.agg (aV l[i].1 kv4)) (size:=7) rfl (tZ hkv4) rfl,bi]
    have hd:=ow4.blk
    refine lH.app (R:=rQ) ow4 (SC hkv4 hkb4) (by omega) (by decide) (fun d hd' h=>by have:=(hd d hd').1; omega) (fun d h=>by omega) (by omega) (by omega) ?_
    intro w' M6 o6 k6 n6 _ _
    refine hJ _ _ ⟨w',rfl,k34.dB k6 (fun d hd'=>.inl (hd d hd').1), ?_⟩
    rw [lY,if_pos hc]
    exact o6
   ·refine hJ _ _ ⟨w,rfl,k34, ?_⟩
    rw [lY,if_neg (by rw [hc]; decide)]
    exact ow4
 ·have he:i=l.length:=by
   have:¬ i<l.length:=of_decide_eq_false hge
   omega
  subst he
  rw [List.take_length] at ow
  exact hQ w M3 ((ow.mono (fun d hd=>by omega)).Yw (fun d _ h=>h)) k3
theorem Rs {k:Nat} {ps:List Pt} {d e:ak} (h:SI k ps) (hk:k<4096) (hg:good d=true) : cZ (kE ps d).2 e=true↔cZ ps e=true∨e=d:=by
 have hl:∀ p∈ps,p.2.length<4096:=fun p hp=>by have:=h.few p hp; omega
 rw [cZ,cZ,Bool.and_eq_true,Bool.and_eq_true,UI h.len h.wf hl hg]
 constructor
 ·rintro ⟨h1,h2 | ⟨h2,h3⟩⟩
  ·exact .inl ⟨h1,h2⟩
  ·refine .inr (Prod.ext ?_ h3)
   have:=(EY h1).1
   have:=(EY hg).1
   omega
 ·rintro (⟨h1,h2⟩ | rfl)
  ·exact ⟨h1,.inl h2⟩
  ·exact ⟨hg,.inr ⟨rfl,rfl⟩⟩
theorem Ec {e:ak} : ∀ {ds:List ak} {ps:List Pt} {k:Nat},SI k ps→k + ds.length<4096→(∀ d∈ds,good d=true)→(cZ (kX ps ds) e=true↔cZ ps e=true∨e∈ds)
 | [],ps,k,h,hk,hg=>by simp [kX]
 | d :: ds,ps,k,h,hk,hg=>by
   have:kX ps (d :: ds)=kX (kE ps d).2 ds:=rfl
   rw [this,Ec (NV h) (by simp at hk; omega) (fun x hx=>hg x (by simp [hx])),Rs h (by simp at hk; omega) (hg d (by simp)),List.mem_cons]
   constructor
   ·rintro ((h | h) | h)
    ·exact .inl h
    ·exact .inr (.inl h)
    ·exact .inr (.inr h)
   ·rintro (h | h | h)
    ·exact .inl (.inl h)
    ·exact .inl (.inr h)
    ·exact .inr h
theorem OH (ps:List Pt) (es:List aL) (e:je) (ks:List ak) : (iY ps es e ks).length≤es.length + 1:=by
 unfold iY
 refine Nat.le_trans (List.length_filter_le _ _) ?_
 split
 ·rw [(kZ fG _).length_eq]; simp
 ·omega
structure aaa (i:Nat) (ps:List Pt) (es:List aL) (dead:List ak) : Prop where
 si:SI (65 * i) ps
 few:es.length≤i
 dl:dead.length≤64 * i
 seen:∀ d∈dead,cZ ps d=true
 gone:∀ x∈es,x.1 ∉ dead
end Go.Ab.Crw
set_option maxRecDepth 10000
set_option linter.unusedVariables false
set_option linter.unusedSimpArgs false
namespace Go.Ab.Crw
open Go Go.Ab Go.Ab.ak
def Bw (x y:aL) : Bool:=decide (x.2.1=y.2.1∧x.2.2.1=y.2.2.1∧x.1=y.1)
theorem Am {a b:Int} : A9 a b=0↔a=0∧b=0:=by
 unfold A9; split <;> omega
theorem Dm {β:Type} {lt:β→β→Bool} (h:LO lt) (x y:β) : c3 lt x y=0↔x=y:=by
 rcases Lj h x y with ⟨a,_,c⟩ | ⟨a,_,c⟩ | ⟨a,_,c⟩
 ·rw [a]; exact ⟨(fun h=>absurd h (by decide)),(fun h=>absurd h c)⟩
 ·rw [a]; exact ⟨(fun h=>absurd h (by decide)),(fun h=>absurd h c)⟩
 ·exact ⟨fun _=>c,fun _=>a⟩
theorem UH (x y:aL) : decide (Oe x y=0)=Bw x y:=by
 unfold Oe QO Bw
 rw [decide_eq_decide,Am,Am,Am,Am,Dm mY,Dm mY,Dm yH,Dm yJ]
 constructor
 ·rintro ⟨h1,h2,h3,h4,_⟩; exact ⟨h1,h2,Prod.ext h4 h3⟩
 ·rintro ⟨h1,h2,h3⟩; exact ⟨h1,h2,by rw [h3],by rw [h3],rfl⟩
theorem NP {x y:aL} (h:Bw x y=true) (z:aL) : gT x z=gT y z∧gT z x=gT z y:=by
 obtain ⟨h1,h2,h3⟩:=of_decide_eq_true h
 simp only [gT,lex,h1,h2,h3,and_self]
theorem Dh {α β:Type} [DecidableEq β] {k:α→β} {lt1:β→β→Bool} {lt2:α→α→Bool} (h:LO lt1) {x y:α} (h1:lex k lt1 lt2 x y=false) (h2:lex k lt1 lt2 y x=false) : k x=k y∧lt2 x y=false∧lt2 y x=false:=by
 unfold lex at h1 h2
 rw [Bool.or_eq_false_iff] at h1 h2
 have e:=h.tri _ _ h1.1 h2.1
 have a:=h1.2
 have b:=h2.2
 rw [e,decide_eq_true rfl,Bool.true_and] at a b
 exact ⟨e,a,b⟩
theorem Oy {x y:aL} (h1:gT x y=false) (h2:gT y x=false) : Bw x y=true:=by
 obtain ⟨e1,a1,b1⟩:=Dh mY h1 h2
 obtain ⟨e2,a2,b2⟩:=Dh mY a1 b1
 obtain ⟨e3,a3,b3⟩:=Dh yH a2 b2
 obtain ⟨e4,_,_⟩:=Dh yJ a3 b3
 exact decide_eq_true ⟨e1,e2,Prod.ext e4 e3⟩
def uM (xs:List aL) : Prop:=xs.Pairwise fun x y=>gT y x=false
theorem uM.at {xs:List aL} (h:uM xs) {i j:Nat} (hij:i≤j) (hj:j<xs.length) : gT xs[j] (xs[i]'(by omega))=false:=by
 rcases Nat.lt_or_ge i j with h1 | h1
 ·exact (List.pairwise_iff_getElem.1 h) i j (by omega) hj h1
 ·have:i=j:=by omega
  subst this
  exact fG.irrefl _
def Ug (fv:AV) (c:aj) : Prop:=∀ {M:RM} {x y:aL} {Q:ah},(∀ (n:Int) M',decide (n<0)=gT x y→decide (n=0)=Bw x y→ag [] M M'→Q (N .i64 n) M')→c [.agg (aC.cells x),.agg (aC.cells y)] M Q
theorem VC {cv:FuncId→aj} {n:Nat} (h:AB (cv n)) : Ug (.fn (.func n) [] []) (bN cv (.fn (.func n) [] [])):=by
 intro M x y Q hQ
 exact ⟨n,[],[],rfl,h fun M' k=>hQ _ _ (Xt x y) (UH x y) k⟩
def Er (fv:AV) (c:aj) : Prop:=∀ {M:RM} {v:AV} {xs:List aL} {x:aL} {Q:ah},Sl aC M v xs→xs.length≤1000000→uM xs→(∀ (n:Int) M',ag [] M M'→Q (.tup [N .i64 n,Bo (xs.any fun y=>Bw y x)]) M')→c [v,.agg (aC.cells x),fv] M Q
theorem KT {TN:Nat} {fv:AV} {cv:FuncId→aj} (hc:Ug fv (bN cv fv)) : Er fv fun args M Q=>∃ a0 a1 a2,args=[a0,a1,a2]∧jS TN cv a0 a1 a2 M Q:=by
 intro M v xs x Q hv hl hu hQ
 refine ⟨_,_,_,rfl, ?_⟩
 unfold jS
 simp only [iA,eD,dN,dQ,bT]
 rw [dH rfl (by rw [aC.len]; decide),bi]
 have k0:ag [] M (M.push (.row (aC.cells x) false TN 0)):=(ag.refl _ _).push _
 have h0:(M.push (.row (aC.cells x) false TN 0)).heap M.next=some (.row (aC.cells x) false TN 0):=RM.aQ _
 have n0:M.next<(M.push (.row (aC.cells x) false TN 0)).next:=by simp [RM.push]
 generalize M.push (.row (aC.cells x) false TN 0)=M1 at *
 generalize M.next=s at *
 rw [aN.len hv]
 refine aG (fun m ys M3=>∃ i j:Nat,m=j - i∧ys=[N .i64 (i:Int),N .i64 (j:Int)]∧i≤j∧j≤xs.length∧ag [] M1 M3∧(∀ k (hk:k<xs.length),k<i→gT xs[k] x=true)∧(∀ k (hk:k<xs.length),j≤k→gT xs[k] x=false)) _
  ⟨0,xs.length,rfl,rfl,Nat.zero_le _,Nat.le_refl _,ag.refl _ _,by omega,by omega⟩ ?_
 rintro next m ys M3 hnext ⟨i,j,rfl,rfl,hij,hj,k3,h1,h2⟩
 dsimp only [aa]
 have h3:=k3.aK h0 n0 (by simp)
 have hv3:Sl aC M3 v xs:=aN.keep hv (k0.trans k3) (by simp)
 rw [dS]
 refine aF (fun hlt=>?_) (fun hge=>?_)
 ·have hlt:i<j:=of_decide_eq_true hlt
  rw [dm,jB,ze]
  refine ⟨by omega, ?_⟩
  rw [jB,half i j (by omega)]
  have hm:(i + j) / 2<xs.length:=by omega
  rw [oQ hv3 hm,bP (n:=5) h3 (by rw [aC.len]; rfl)]
  refine hc fun n M4 hn _ k4=>?_
  rw [dF,hn]
  refine aF (fun h=>?_) (fun h=>?_)
  ·rw [add1 (by omega)]
   refine hnext _ _ _ (by omega) ⟨(i + j) / 2 + 1,j,rfl,rfl,by omega,hj,k3.trans k4,fun k hk hki=>?_,h2⟩
   cases h5:gT xs[k] x with
   | true=>rfl
   | false =>
     have h6:=hu.at (i:=k) (j:=(i + j) / 2) (by omega) hm
     rw [fG.ntrans _ _ _ h6 h5] at h
     cases h
  ·refine hnext _ _ _ (by omega) ⟨i,(i + j) / 2,rfl,rfl,by omega,by omega,k3.trans k4,h1,fun k hk hki=>?_⟩
   have h6:=hu.at (i:=(i + j) / 2) (j:=k) hki hk
   exact fG.ntrans _ _ _ h6 h
 ·have hij:i=j:=by
   have:¬ i<j:=of_decide_eq_false hge
   omega
  subst hij
  rw [dS]
  refine lu (P:=fun M'=>ag [] M3 M') (p:=if h:i<xs.length then Bw xs[i] x else false) (ag.refl _ _) (fun hc' k hk=>?_) fun M' k'=>?_
  ·have hi:i<xs.length:=of_decide_eq_true hc'
   rw [oQ hv3 hi,bP (n:=5) h3 (by rw [aC.len]; rfl)]
   refine hc fun n M4 _ hn k4=>?_
   rw [df,show (n == (0:Int))=decide (n=0) from rfl,hn]
   rw [dif_pos hi] at hk
   exact hk _ k4
  ·have e:(decide (i<xs.length) && if h:i<xs.length then Bw xs[i] x else false)=xs.any fun y=>Bw y x:=by
    rw [Bool.eq_iff_iff,Bool.and_eq_true,List.any_eq_true,decide_eq_true_eq]
    constructor
    ·rintro ⟨hi,h⟩
     rw [dif_pos hi] at h
     exact ⟨_,List.getElem_mem hi,h⟩
    ·rintro ⟨y,hy,hk⟩
     obtain ⟨k,hkl,rfl⟩:=List.getElem_of_mem hy
     have hlt:gT xs[k] x=false:=by rw [(NP hk x).1]; exact fG.irrefl _
     have hik:i≤k:=by
      rcases Nat.lt_or_ge k i with h | h
      ·rw [h1 k hkl h] at hlt; cases hlt
      ·exact h
     have hi:i<xs.length:=by omega
     refine ⟨hi, ?_⟩
     rw [dif_pos hi]
     refine Oy (h2 i hi (Nat.le_refl _)) ?_
     rw [← (NP hk _).1]
     exact hu.at hik hkl
   rw [e]
   exact hQ _ _ ((k0.trans k3).trans k')
end Go.Ab.Crw
set_option maxRecDepth 10000
set_option linter.unusedVariables false
set_option linter.unusedSimpArgs false
namespace Go.Ab.Crw
open Go Go.Ab Go.Ab.ak
theorem zf {k:Nat} {ps:List Pt} (h:SI k ps) (hk:k≤4096) : ∀ q∈ps,Asc q.2∧q.2.length≤1000000:=fun q hq=>⟨(h.wf q hq).1,by have:=h.few q hq; omega⟩
theorem Rn {M:RM} {size n:Nat} {v:AV} {cs:List AV} (h:aN M size v cs n) : known v=true:=by
 cases h <;> rfl
theorem Pp {M:RM} {c p:Bool} {f:ah→Prop} {P:RM→Prop} {G:AV→RM→Prop} (h0:P M) (hf:c=true→∀ k:ah,(∀ M',P M'→k (Bo p) M')→f k) (hG:∀ M',P M'→G (Bo (c && p)) M') :
  ai (Bo c) true f (fun k=>k .undef M) (fun t M'=>aM (Bo c) t (Bo false) fun u=>G u M'):=by
 cases c with
 | false=>rw [bL]; dsimp only; rw [dz]; exact hG M h0
 | true=>rw [cz]; exact hf rfl _ fun M' h=>by rw [dO]; exact hG M' h
def IK (es:List aL) (x:aL) : Bool:=es.any fun y=>Bw y x
def Qh (TS T:Nat) (c:aj) : Prop:=∀ {M:RM} {t:Nat} {B:Nat→Prop} {ps:List Pt} {es:List aL} {x:aL} {Q:ah},kH TS T B M t ps es→es.length≤1000000→uM es→(∀ M',ag [] M M'→Q (Bo (IK es x)) M')→c [.ptr t 0,.agg (aC.cells x)] M Q
theorem QT {TS T TN n:Nat} {cb:aj} (hb:Er (.fn (.func n) [] []) cb) : Qh TS T fun args M Q=>∃ a0 a1,args=[a0,a1]∧xZ TN cb n a0 a1 M Q:=by
 intro M t B ps es x Q h hl hu hQ
 refine ⟨_,_,rfl, ?_⟩
 unfold xZ
 rw [dH rfl (by rw [aC.len]; decide),bi]
 have k0:ag [] M (M.push (.row (aC.cells x) false TN 0)):=(ag.refl _ _).push _
 have h0:(M.push (.row (aC.cells x) false TN 0)).heap M.next=some (.row (aC.cells x) false TN 0):=RM.aQ _
 obtain ⟨s,v,r1,_,r3,_,_⟩:=h.row
 have r1':=k0.aK r1 h.lt (by simp)
 have r3' : Sl aC (M.push (.row (aC.cells x) false TN 0)) v es:=aN.keep r3 k0 (by simp)
 generalize M.push (.row (aC.cells x) false TN 0)=M1 at *
 generalize M.next=b at *
 rw [aJ,aY,az (i:=0 + 1) r1' rfl,bP (n:=5) h0 (by rw [aC.len]; rfl)]
 refine hb r3' hl hu fun n M2 k2=>?_
 rw [ic,il]
 exact hQ M2 (k0.trans k2)
def IJ (TS T:Nat) (c:aj) : Prop:=∀ {M:RM} {t k:Nat} {B:Nat→Prop} {ps:List Pt} {es:List aL} {Q:ah},kH TS T B M t ps es→SI k ps→k≤4096→es.length≤1000000 →
 (∀ a M',M.next≤a→kH TS T (fun d=>M.next≤d∧d<a) M' a ps es→ag [] M M'→Q (.ptr a 0) M')→c [.ptr t 0] M Q
theorem Ny {TS T TN:Nat} {cc cl:aj} (hc:Gr T cc) (hL:yX TN cl) : IJ TS T fun args M Q=>∃ a0,args=[a0]∧wz cc cl TS a0 M Q:=by
 intro M t k B ps es Q h hi hk hl hQ
 refine ⟨_,rfl, ?_⟩
 unfold wz
 obtain ⟨s,v,r1,⟨S,r2,_⟩,r3,_,_⟩:=h.row
 rw [aJ,bz,az r1 rfl,aJ,aY,az (i:=0 + 1) r1 rfl]
 refine hc r2 hi hk fun a M1 ha h1 k1=>?_
 rw [az (i:=0 + 1) (k1.aK r1 h.lt (by simp)) rfl]
 refine ⟨rfl, ?_⟩
 have hb1:=h1.below
 have alt:=h1.lt
 refine hL (aN.keep r3 k1 (by simp)) hl fun v' M2 h2 k2=>?_
 have n1:=k1.next
 have n2:=k2.next
 rw [ja]
 refine ⟨[.ptr a 0,v'],QX rfl rfl (Rn h2.lG) (aN.cells h2.lG), ?_⟩
 rw [dH (by show (oneCell (.ptr a 0) && (oneCell v' && true))=true; rw [aN.one h2.lG]; rfl) (by simp),qb]
 have k3:ag [] M2 (M2.push (.row [.ptr a 0,v'] false TS 0)):=(ag.refl _ _).push _
 refine hQ _ _ (by omega) ⟨by simp [RM.push],⟨a,v',RM.aQ _,⟨_,(hb1.keep k2 (by simp) (by simp)).keep k3 (by simp) (by simp),fun d hd=>⟨by omega,by omega⟩⟩,aN.keep h2.lG k3 (by simp),⟨by omega,by omega⟩,fun d hd=>?_⟩,fun hh=>by omega⟩ ((k1.trans k2).trans k3)
 have:=h2.blk d hd
 exact ⟨by omega,by omega⟩
def IZ (TS T:Nat) (c:aj) : Prop:=∀ {M:RM} {t u k l:Nat} {B C:Nat→Prop} {ps qs:List Pt} {es fs:List aL} {Q:ah},kH TS T B M t ps es→kH TS T C M u qs fs→SI k ps→SI l qs→k≤4096→l≤4096→es.length≤1000000 →
 (∀ M',ag [] M M'→Q (Bo ((decide (es=fs) && jf ps qs) && jf qs ps)) M')→c [.ptr t 0,.ptr u 0] M Q
theorem Nw {TS T:Nat} {ce cw:aj} (he:CJ ce) (hW:Dr T cw) : IZ TS T fun args M Q=>∃ a0 a1,args=[a0,a1]∧wN ce cw a0 a1 M Q:=by
 intro M t u k l B C ps qs es fs Q h g hi gi hk gk hl hQ
 refine ⟨_,_,rfl, ?_⟩
 unfold wN
 simp only [iA,eD,dN,dQ,bT]
 obtain ⟨s,v,r1,⟨S,r2,_⟩,r3,_,_⟩:=h.row
 obtain ⟨s',v',q1,⟨S',q2,_⟩,q3,_,_⟩:=g.row
 rw [aJ,aY,az (i:=0 + 1) r1 rfl,aJ,aY,az (i:=0 + 1) q1 rfl]
 refine he r3 q3 hl ?_
 refine Pp (P:=fun M'=>ag [] M M') (p:=jf ps qs) (ag.refl _ _) (fun _ k hk'=>?_) fun M1 k1=>?_
 ·rw [aJ,bz,az r1 rfl,aJ,bz,az q1 rfl]
  exact hW r2 q2 (fun p hp=>(zf hi hk p hp).2) (zf gi gk) fun M' k'=>hk' M' k'
 refine Pp (P:=fun M'=>ag [] M1 M') (p:=jf qs ps) (ag.refl _ _) (fun _ k hk'=>?_) fun M2 k2=>?_
 ·rw [aJ,bz,az (k1.aK q1 g.lt (by simp)) rfl,aJ,bz,az (k1.aK r1 h.lt (by simp)) rfl]
  exact hW (q2.keep k1 (by simp) (by simp)) (r2.keep k1 (by simp) (by simp)) (fun p hp=>(zf gi gk p hp).2) (zf hi hk) fun M' k'=>hk' M' k'
 exact hQ M2 (k1.trans k2)
end Go.Ab.Crw
set_option maxRecDepth 10000
set_option linter.unusedVariables false
set_option linter.unusedSimpArgs false
namespace Go.Ab.Crw
open Go Go.Ab Go.Ab.ak
abbrev jv:=List Pt × List aL
def jh (s:jv) (x:Ev) : jv:=if bY x.1 x.2 then (uz s.1 x.1 x.2,iY s.1 s.2 x.1 x.2) else s
def mP (l:List Ev) : jv:=l.foldl jh (iU,[])
theorem JQ (l:List Ev) (x:Ev) : mP (l++[x])=jh (mP l) x:=by rw [mP,List.foldl_append]; rfl
structure Ei (i:Nat) (s:jv) : Prop where
 si:SI (65 * i) s.1
 few:s.2.length≤i
 up:uM s.2
theorem Jy {ps:List Pt} {es:List aL} {e:je} {ks:List ak} (h:uM es) : uM (iY ps es e ks):=by
 unfold iY
 refine List.Pairwise.filter _ ?_
 split
 ·exact LM fG _
 ·exact h
theorem Ei.step {i:Nat} {s:jv} (h:Ei i s) (x:Ev) : Ei (i + 1) (jh s x):=by
 unfold jh
 split
 ·rename_i hg
  obtain ⟨_,g2,_,_,_⟩:=nu hg
  refine ⟨(wU h.si).mono (by simp; omega), ?_,Jy h.up⟩
  have:=OH s.1 s.2 x.1 x.2
  have:=h.few
  show (iY s.1 s.2 x.1 x.2).length≤i + 1
  omega
 ·exact ⟨h.si.mono (by omega),by have:=h.few; omega,h.up⟩
theorem Ei.empty:Ei 0 (iU,[]):=⟨vQ,Nat.le_refl _,.nil⟩
theorem Kw:∀ (l:List Ev),Ei l.length (mP l):=fun l=>by
 suffices h:∀ (l:List Ev) (i:Nat) (s:jv),Ei i s→Ei (i + l.length) (l.foldl jh s) by
  have:=h l 0 _ Ei.empty
  rwa [Nat.zero_add] at this
 intro l
 induction l with
 | nil=>intro i s h; exact h
 | cons x l ih =>
   intro i s h
   have:=ih (i + 1) (jh s x) (h.step x)
   rwa [show i + 1 + l.length=i + (x :: l).length by simp; omega] at this
def zN (n m:Nat) (back:Bool) (i:Nat) : Nat:=if back then n - 1 - (i + m) % n else (i + m) % n
theorem CL {n m i:Nat} {back:Bool} (h:i<n) : zN n m back i<n:=by
 have:=Nat.mod_lt (i + m) (show 0<n by omega)
 unfold zN; split <;> omega
def oo (l:List Ev) (m:Nat) (back:Bool) : List Ev:=(List.range l.length).map fun i=>l.getD (zN l.length m back i) (((0,0),(0,([],([],[])))),[])
theorem wE (l:List Ev) (m:Nat) (back:Bool) : (oo l m back).length=l.length:=by simp [oo]
theorem NZ {l:List Ev} {m:Nat} {back:Bool} {i:Nat} (h:i<l.length) : (oo l m back)[i]'(by rw [wE]; exact h)=l[zN l.length m back i]'(CL h):=by
 simp only [oo,List.getElem_map,List.getElem_range]
 rw [List.getD_eq_getElem?_getD,List.getElem?_eq_getElem (CL h)]; rfl
theorem Tk {l:List Ev} {m:Nat} {back:Bool} {i:Nat} (h:i<l.length) : mP ((oo l m back).take (i + 1))=jh (mP ((oo l m back).take i)) (l[zN l.length m back i]'(CL h)):=by
 rw [List.take_succ_eq_append_getElem (by rw [wE]; exact h),JQ,NZ h]
def LG (TS T:Nat) (c:aj) : Prop:=∀ {M:RM} {v:AV} {l:List Ev} {n:Int} {m:Nat} {back:Bool} {Q:ah},gX rQ M v l (fun d=>d<M.next)→l.length≤60→OG .i64 n 1023=(m:Int)→m≤1023 →
 (∀ t M',M.next≤t→kH TS T (fun d=>M.next≤d∧d<M'.next∧d≠t) M' t (mP (oo l m back)).1 (mP (oo l m back)).2→ag [] M M'→Q (.ptr t 0) M')→c [v,N .i64 n,Bo back] M Q
theorem Qj {TS T:Nat} {cn cA:aj} (hn:Kq TS T cn) (hA:Ck TS T cA) : LG TS T fun args M Q=>∃ a0 a1 a2,args=[a0,a1,a2]∧IQ cn cA a0 a1 a2 M Q:=by
 intro M v l n m back Q hv hl hm hm2 hQ
 refine ⟨_,_,_,rfl, ?_⟩
 unfold IQ
 simp only [iA,eD,dN,dQ,bT]
 refine hn fun t M1 ht st1 k1=>?_
 refine aG (fun z ys M3=>∃ i:Nat,z=l.length - i∧ys=[N .i64 (i:Int)]∧i≤l.length∧ag [] M M3∧kH TS T (fun d=>M.next≤d∧d<M3.next∧d≠t) M3 t (mP ((oo l m back).take i)).1 (mP ((oo l m back).take i)).2) _
  ⟨0,rfl,rfl,Nat.zero_le _,k1,(st1.mono (B':=fun d=>M.next≤d∧d≠t) (fun d hd=>⟨hd.1,by omega⟩) (fun h=>h.2 rfl)).below.mono (fun d hd=>⟨hd.1.1,hd.2,hd.1.2⟩) (fun h=>h.2.2 rfl)⟩ ?_
 rintro next z ys M3 hnext ⟨i,rfl,rfl,hi,k3,st3⟩
 dsimp only [aa]
 have hv3:gX rQ M3 v l (fun d=>d<M.next):=hv.keep k3 (by simp)
 rw [hv3.len,dS]
 refine aF (fun hlt=>?_) (fun hge=>?_)
 ·have hlt:i<l.length:=of_decide_eq_true hlt
  have n3:=k3.next
  refine aZ (fun zs M'=>zs=[]∧ag [] M M'∧kH TS T (fun d=>M.next≤d∧d<M'.next∧d≠t) M' t (mP ((oo l m back).take (i + 1))).1 (mP ((oo l m back).take (i + 1))).2) ?_ ?_
  ·rintro zs M' ⟨rfl,k',st'⟩
   rw [add1 (by omega)]
   exact hnext _ _ _ (by omega) ⟨i + 1,rfl,rfl,by omega,k',st'⟩
  intro J hJ
  rw [Aj,hm,addN (by omega),hv3.len,TH]
  refine ⟨by omega, ?_⟩
  rw [show (((i + m:Nat) : Int)).tmod (l.length:Int)=(((i + m) % l.length:Nat) : Int) by rw [Int.tmod_eq_emod_of_nonneg (by omega)]; rfl]
  have hj:(i + m) % l.length<l.length:=Nat.mod_lt _ (by omega)
  have hI:Ei i (mP ((oo l m back).take i)):=by
   have:=Kw ((oo l m back).take i)
   rwa [List.length_take,wE,Nat.min_eq_left hi] at this
  have htk:=Tk (m:=m) (back:=back) hlt
  have hil:=CL (n:=l.length) (m:=m) (i:=i) (back:=back) hlt
  refine aZ (fun zs M'=>zs=[N .i64 ((zN l.length m back i:Nat) : Int)]∧M'=M3) ?_ ?_
  ·rintro zs M' ⟨rfl,rfl⟩
   dsimp only [aa]
   rw [htk] at hJ
   clear htk
   generalize mP ((oo l m back).take i)=s at *
   obtain ⟨b,o,kv,hidx,hl7,_,hkv,hkb⟩:=Kn hv3 hil
   rw [hidx,hl7]
   generalize l[zN l.length m back i]'hil=x at *
   have hne:t ∉ aH kv:=fun h=>by have:=hkb t h; omega
   refine hA st3 hI.si (by omega) (by have:=hI.few; omega) hkv hne (fun hb M4 k4=>?_) (fun hg M4 st4 k4=>?_)
   ·refine hJ [] M4 ⟨rfl,k3.trans k4, ?_⟩
    unfold jh
    rw [if_neg (by rw [hb]; decide)]
    have n4:=k4.next
    exact (st3.keep k4 (by simp) (by simp)).mono (fun d hd=>⟨hd.1,by omega,hd.2.2⟩) (fun h=>h.2.2 rfl)
   ·refine hJ [] M4 ⟨rfl,k3.dB k4 (fun d hd=>by simp at hd; omega), ?_⟩
    unfold jh
    rw [if_pos hg]
    have lt3:=st3.lt
    have n4:=k4.next
    refine (st4.below.mono (B':=fun d=>M.next≤d∧d<M4.next∧d≠t) (fun d hd=>?_) (fun h=>h.2.2 rfl))
    obtain ⟨h | h,h'⟩:=hd
    ·exact ⟨h.1,h',h.2.2⟩
    ·exact ⟨by omega,h',by omega⟩
  ·intro J2 hJ2
   cases back with
   | true =>
     rw [dC,hv3.len,bD (by omega) (by omega),dK (by omega) (by omega)]
     exact hJ2 _ _ ⟨rfl,rfl⟩
   | false =>
     rw [bF]
     exact hJ2 _ _ ⟨rfl,rfl⟩
 ·have he:i=l.length:=by
   have:¬ i<l.length:=of_decide_eq_false hge
   omega
  subst he
  rw [List.take_of_length_le (by rw [wE]; exact Nat.le_refl _)] at st3
  exact hQ t M3 ht st3 k3
end Go.Ab.Crw
set_option maxRecDepth 10000
set_option linter.unusedVariables false
set_option linter.unusedSimpArgs false
namespace Go.Ab.Crw
open Go Go.Ab Go.Ab.ak
def mU (qs:List Pt) (fs:List aL) (x:aL) : Bool:=IK fs x || !cZ qs x.1
def mf (ps:List Pt) (es:List aL) (x:aL) : Bool:=!IK es x && !cZ ps x.1
def AA (ps qs:List Pt) (es fs:List aL) : List aL:=mD gT (es.filter (mU qs fs)++fs.filter (mf ps es))
theorem tY {α:Type} {p:α→Bool} {l:List α} {i:Nat} (h:i<l.length) : (l.take (i + 1)).filter p=(l.take i).filter p++(if p l[i] then [l[i]] else []):=by
 rw [List.take_succ_eq_append_getElem h,List.filter_append,List.filter_cons,List.filter_nil]
theorem vo {α:Type} (p:α→Bool) (l:List α) (i:Nat) : ((l.take i).filter p).length≤i:=Nat.le_trans (List.length_filter_le _ _) (by rw [List.length_take]; omega)
theorem qp (x:aL) : (aC.cells x).all oneCell=true:=rfl
theorem KE {M:RM} {b T:Nat} {x:aL} {p:Bool} (h:M.heap b=some (.row (aC.cells x) p T 0)) {K:AV→Prop} : aB M (.ptr b 0) 2 K=K (.agg (aO x.1)):=by
 have e2:((aC.cells x).drop 0).take 2=aO x.1:=rfl
 rw [gK,RM.dG h (by rw [aC.len]; decide),e2]
 simp
def Dj (TS T:Nat) (c:aj) : Prop:=∀ {M:RM} {t u k l:Nat} {B C:Nat→Prop} {ps qs:List Pt} {es fs:List aL} {Q:ah},kH TS T B M t ps es→kH TS T C M u qs fs→(t=u→ps=qs∧es=fs)→(t≠u→∀ d,B d→¬ C d)→¬ C t→¬ B u →
 SI k ps→SI l qs→k≤4096→l≤4096→es.length + fs.length≤50000→uM es→uM fs →
 (∀ s M',B s→kH TS T (fun d=>B d∨M.next≤d) M' t (lI ps qs) (AA ps qs es fs)→ag [t,s] M M'→Q (.tup []) M')→c [.ptr t 0,.ptr u 0] M Q
theorem MV {TS T TN nc:Nat} {ch cH cS cj:aj} (hh:Qh TS T ch) (hH:Ko T cH) (hS:Du (.fn (.func nc) [] []) gT TN cS) (hj:FJ T cj) :
  Dj TS T fun args M Q=>∃ a0 a1,args=[a0,a1]∧vI TN ch cH cS nc cj a0 a1 M Q:=by
 intro M t u k l B C ps qs es fs Q hst hsu htu hsep hCt hBu hi gi hk4 hl4 hlen hup gup hQ
 refine ⟨_,_,rfl, ?_⟩
 unfold vI
 simp only [iA,eD,dN,dQ,bT]
 obtain ⟨s,v,r1,⟨S,r2,r2'⟩,r3,r4,r5⟩:=hst.row
 obtain ⟨s',v',q1,⟨S',q2,q2'⟩,q3,q4,q5⟩:=hsu.row
 have tlt:=hst.lt
 have ult:=hsu.lt
 rw [aJ,aY,az (i:=0 + 1) r1 rfl,aN.len r3]
 refine aG (fun z ys M3=>∃ (i:Nat) (dv:AV),z=es.length - i∧ys=[dv,N .i64 (i:Int)]∧i≤es.length∧ag [] M M3∧Ow aC M3 M.next TN dv ((es.take i).filter (mU qs fs))) _
  ⟨0,bJ,rfl,rfl,Nat.zero_le _,ag.refl _ _,.nil⟩ ?_
 rintro next z ys M3 hnext ⟨i,dv,rfl,rfl,hil,k3,o3⟩
 dsimp only [aa]
 rw [dS]
 refine aF (fun hlt=>?_) (fun hge=>?_)
 ·have hlt:i<es.length:=of_decide_eq_true hlt
  have n3:=k3.next
  have hfl:=vo (mU qs fs) es i
  refine aZ (fun zs M'=>∃ dv',zs=[dv']∧ag [] M M'∧Ow aC M' M.next TN dv' ((es.take (i + 1)).filter (mU qs fs))) ?_ ?_
  ·rintro zs M' ⟨dv',rfl,k',o'⟩
   dsimp only [aa]
   rw [add1 (by omega)]
   exact hnext _ _ _ (by omega) ⟨i + 1,dv',rfl,rfl,by omega,k',o'⟩
  intro J hJ
  rw [tY hlt] at hJ
  rw [oQ (aN.keep r3 k3 (by simp)) hlt]
  generalize (es.take i).filter (mU qs fs)=acc at *
  generalize es[i]=x at *
  rw [bi,dI (n:=5) (x:=.agg (aC.cells x)) (l:=[(N .i64 0),(N .u64 0),(St []),(St []),(St [])]) (RM.aQ _) rfl rfl (qp x)]
  have k4:ag [] M3 ((M3.push (.row [(N .i64 0),(N .u64 0),(St []),(St []),(St [])] false TN 0)).put M3.next (.row (AV.agg (aC.cells x)).cells false TN 0)):=((ag.refl _ _).push _).new _ (Nat.le_refl _)
  have h4:((M3.push (.row [(N .i64 0),(N .u64 0),(St []),(St []),(St [])] false TN 0)).put M3.next (.row (AV.agg (aC.cells x)).cells false TN 0)).heap M3.next=some (.row (aC.cells x) false TN 0):=aP _
  have n4:M3.next<((M3.push (.row [(N .i64 0),(N .u64 0),(St []),(St []),(St [])] false TN 0)).put M3.next (.row (AV.agg (aC.cells x)).cells false TN 0)).next:=by rw [iF]; simp [RM.push]
  generalize (M3.push (.row [(N .i64 0),(N .u64 0),(St []),(St []),(St [])] false TN 0)).put M3.next (.row (AV.agg (aC.cells x)).cells false TN 0)=M4 at *
  generalize M3.next=b at *
  rw [bP (n:=5) h4 rfl]
  have su4:=hsu.keep (k3.trans k4) (by simp) (by simp)
  refine hh su4 (by omega) gup fun M5 k5=>?_
  have h5:=k5.aK h4 n4 (by simp)
  have k35:=k4.trans k5
  have k05:=k3.trans k35
  refine Vl (P:=fun M'=>ag [] M5 M') (p:=!cZ qs x.1) (ag.refl _ _) (fun _ k' hk'=>?_) fun M6 k6=>?_
  ·rw [aJ,bz,az (k05.aK q1 ult (by simp)) rfl,bz,KE h5]
   refine hH (q2.keep k05 (by simp) (by simp)) (zf gi (by omega)) fun M6 k6=>?_
   rw [bB]
   exact hk' M6 k6
  have k36:=k35.trans k6
  have k06:=k3.trans k36
  have n5:=k5.next
  have h6:=k6.aK h5 (by omega) (by simp)
  have o6:=o3.keep k36 (by simp)
  refine aF (fun hc=>?_) (fun hc=>?_)
  ·rw [bP (n:=5) h6 rfl,qN (x:=.agg (aC.cells x)) (size:=5) rfl (qp x) rfl,bi]
   refine yK (E:=aC) (a:=x) o6 (by have:=k06.next; omega) (by decide) (by omega) (by omega) fun v2 M7 o7 k7 n7 _=>?_
   refine hJ _ _ ⟨v2,rfl,k06.dB k7 (fun d hd=>.inl (o6.blk d hd).1), ?_⟩
   rw [show mU qs fs x=true from hc,if_pos rfl]
   exact o7
  ·refine hJ _ _ ⟨dv,rfl,k06, ?_⟩
   rw [show mU qs fs x=false from hc,if_neg (by decide),List.append_nil]
   exact o6
 have he:i=es.length:=by
  have:¬ i<es.length:=of_decide_eq_false hge
  omega
 subst he
 rw [List.take_length] at o3
 clear hnext hge
 have hel:(es.filter (mU qs fs)).length≤es.length:=List.length_filter_le _ _
 have q1':=k3.aK q1 ult (by simp)
 have q3' : Sl aC M3 v' fs:=aN.keep q3 k3 (by simp)
 rw [aJ,aY,az (i:=0 + 1) q1' rfl,aN.len q3']
 have hE:AA ps qs es fs=mD gT (es.filter (mU qs fs)++fs.filter (mf ps es)):=rfl
 generalize es.filter (mU qs fs)=eA at *
 refine aG (fun z ys M4=>∃ (i:Nat) (dw:AV),z=fs.length - i∧ys=[dw,N .i64 (i:Int)]∧i≤fs.length∧ag [] M M4∧Ow aC M4 M.next TN dw (eA++(fs.take i).filter (mf ps es))) _
  ⟨0,dv,rfl,rfl,Nat.zero_le _,k3,by simpa using o3⟩ ?_
 clear o3 k3 q1' q3'
 rintro next z ys M4 hnext ⟨i,dw,rfl,rfl,hil,k4,o4⟩
 dsimp only [aa]
 rw [dS]
 refine aF (fun hlt=>?_) (fun hge=>?_)
 ·have hlt:i<fs.length:=of_decide_eq_true hlt
  have n4:=k4.next
  have hfl:=vo (mf ps es) fs i
  refine aZ (fun zs M'=>∃ dv',zs=[dv']∧ag [] M M'∧Ow aC M' M.next TN dv' (eA++(fs.take (i + 1)).filter (mf ps es))) ?_ ?_
  ·rintro zs M' ⟨dv',rfl,k',o'⟩
   dsimp only [aa]
   rw [add1 (by omega)]
   exact hnext _ _ _ (by omega) ⟨i + 1,dv',rfl,rfl,by omega,k',o'⟩
  intro J hJ
  rw [tY hlt,← List.append_assoc] at hJ
  rw [oQ (aN.keep q3 k4 (by simp)) hlt]
  have hal:(eA++(fs.take i).filter (mf ps es)).length≤es.length + i:=by rw [List.length_append]; omega
  generalize eA++(fs.take i).filter (mf ps es)=acc at *
  generalize fs[i]=x at *
  rw [bi,dI (n:=5) (x:=.agg (aC.cells x)) (l:=[(N .i64 0),(N .u64 0),(St []),(St []),(St [])]) (RM.aQ _) rfl rfl (qp x)]
  have k5:ag [] M4 ((M4.push (.row [(N .i64 0),(N .u64 0),(St []),(St []),(St [])] false TN 0)).put M4.next (.row (AV.agg (aC.cells x)).cells false TN 0)):=((ag.refl _ _).push _).new _ (Nat.le_refl _)
  have h5:((M4.push (.row [(N .i64 0),(N .u64 0),(St []),(St []),(St [])] false TN 0)).put M4.next (.row (AV.agg (aC.cells x)).cells false TN 0)).heap M4.next=some (.row (aC.cells x) false TN 0):=aP _
  have n5:M4.next<((M4.push (.row [(N .i64 0),(N .u64 0),(St []),(St []),(St [])] false TN 0)).put M4.next (.row (AV.agg (aC.cells x)).cells false TN 0)).next:=by rw [iF]; simp [RM.push]
  generalize (M4.push (.row [(N .i64 0),(N .u64 0),(St []),(St []),(St [])] false TN 0)).put M4.next (.row (AV.agg (aC.cells x)).cells false TN 0)=M5 at *
  generalize M4.next=b at *
  rw [bP (n:=5) h5 rfl]
  have st5:=hst.keep (k4.trans k5) (by simp) (by simp)
  refine hh st5 (by omega) hup fun M6 k6=>?_
  have h6:=k6.aK h5 n5 (by simp)
  have k46:=k5.trans k6
  have k06:=k4.trans k46
  rw [bB]
  refine lu (P:=fun M'=>ag [] M6 M') (p:=!cZ ps x.1) (ag.refl _ _) (fun _ k' hk'=>?_) fun M7 k7=>?_
  ·rw [aJ,bz,az (k06.aK r1 tlt (by simp)) rfl,bz,KE h6]
   refine hH (r2.keep k06 (by simp) (by simp)) (zf hi (by omega)) fun M7 k7=>?_
   rw [bB]
   exact hk' M7 k7
  have k47:=k46.trans k7
  have k07:=k4.trans k47
  have n6:=k6.next
  have h7:=k7.aK h6 (by omega) (by simp)
  have o7:=o4.keep k47 (by simp)
  refine aF (fun hc=>?_) (fun hc=>?_)
  ·rw [bP (n:=5) h7 rfl,qN (x:=.agg (aC.cells x)) (size:=5) rfl (qp x) rfl,bi]
   refine yK (E:=aC) (a:=x) o7 (by have:=k07.next; omega) (by decide) (by omega) (by omega) fun v2 M8 o8 k8 n8 _=>?_
   refine hJ _ _ ⟨v2,rfl,k07.dB k8 (fun d hd=>.inl (o7.blk d hd).1), ?_⟩
   rw [show mf ps es x=true from hc,if_pos rfl]
   exact o8
  ·refine hJ _ _ ⟨dw,rfl,k07, ?_⟩
   rw [show mf ps es x=false from hc,if_neg (by decide),List.append_nil]
   exact o7
 have he:i=fs.length:=by
  have:¬ i<fs.length:=of_decide_eq_false hge
  omega
 subst he
 rw [List.take_length] at o4
 clear hnext hge
 have hel2:(eA++fs.filter (mf ps es)).length≤es.length + fs.length:=by
  have:=List.length_filter_le (mf ps es) fs
  rw [List.length_append]; omega
 refine hS o4 (by omega) fun M5 o5 k5=>?_
 rw [← hE] at o5
 have k05:=k4.dB k5 (fun d hd=>.inl (o4.blk d hd).1)
 have n5:=k05.next
 have r15:=k05.aK r1 tlt (by simp)
 have q15:=k05.aK q1 ult (by simp)
 rw [aJ,aY,eB (i:=0 + 1) r15 (by simp) (aN.cells o5.lG) (aN.one o5.lG)]
 have k6:ag [t] M5 (M5.put t (.row ([AV.ptr s 0,v].set (0 + 1) dw) false TS 0)):=(ag.refl _ _).put _ (.inr (by simp))
 have h6:(M5.put t (.row ([AV.ptr s 0,v].set (0 + 1) dw) false TS 0)).heap t=some (.row [.ptr s 0,dw] false TS 0):=aP _
 have g6:∃ w,(M5.put t (.row ([AV.ptr s 0,v].set (0 + 1) dw) false TS 0)).heap u=some (.row [.ptr s' 0,w] false TS 0):=by
  by_cases e:t=u
  ·subst e
   rw [r1] at q1
   cases q1
   exact ⟨_,h6⟩
  ·exact ⟨v',oJ q15 (fun h=>e h.symm)⟩
 have st:t≠s:=fun e=>hst.nb (e▸r4)
 have o6:=o5.keep k6 (fun d hd hm=>by
  simp at hm; subst hm
  have:=(o5.blk _ hd).1
  omega)
 have n6:=k6.next
 have s6:=(r2.keep k05 (by simp) (by simp)).keep k6 (by simp; exact fun e=>st e.symm) (fun d hd hS=>by
  simp at hd; subst hd
  exact hst.nb (r2' _ hS))
 have t6:=(q2.keep k05 (by simp) (by simp)).keep k6 (by
  simp
  intro e
  exact hCt (e▸q4)) (fun d hd hS=>by
  simp at hd; subst hd
  exact hCt (q2' _ hS))
 have k06:ag [t] M (M5.put t (.row ([AV.ptr s 0,v].set (0 + 1) dw) false TS 0)):=(k05.mono (by simp)).trans k6
 generalize M5.put t (.row ([AV.ptr s 0,v].set (0 + 1) dw) false TS 0)=M6 at *
 obtain ⟨w,g6⟩:=g6
 rw [aJ,bz,az h6 rfl,aJ,bz,az g6 rfl]
 have hne:¬ S' s:=fun h=>by
  by_cases e:t=u
  ·subst e
   rw [r1] at q1
   cases q1
   exact q2.nb h
  ·exact hsep e s r4 (q2' s h)
 have hss:s=s'→ps=qs:=fun e=>by
  by_cases e' : t=u
  ·exact (htu e').1
  ·exact absurd (e▸q4) (hsep e' s r4)
 refine hj.use s6 t6 hss hne hi gi (by omega) fun M7 s7 k7=>?_
 have n7:=k7.next
 have nb' : ¬ (B t∨M.next≤t):=fun h=>by
  rcases h with h | h
  ·exact hst.nb h
  ·omega
 refine hQ s M7 r4 ⟨by omega,⟨s,dw,k7.aK h6 (by omega) (by simp; exact st),⟨_,s7,fun d hd=>?_⟩,aN.keep o6.lG k7 (fun d hd hm=>?_),.inl r4,fun d hd=>.inr (o5.blk d hd).1⟩,nb'⟩ ((k06.mono (by simp)).trans (k7.mono (by simp)))
 ·rcases hd with hd | hd
  ·exact .inl (r2' d hd)
  ·exact .inr (by omega)
 ·simp at hm; subst hm
  have:=(o6.blk _ hd).1
  have:=r2.lt
  omega
end Go.Ab.Crw
set_option maxRecDepth 10000
set_option linter.unusedVariables false
set_option linter.unusedSimpArgs false
namespace Go.Ab.Crw
open Go Go.Ab Go.Ab.ak
theorem oW {α:Type} [DecidableEq α] : ∀ {xs ys:List α},xs.Nodup→(∀ x∈xs,x∈ys)→xs.length≤ys.length
 | [],_,_,_=>Nat.zero_le _
 | x :: xs,ys,hn,hs=>by
   have hx:x∈ys:=hs x (by simp)
   rw [List.nodup_cons] at hn
   have:=oW (xs:=xs) (ys:=ys.erase x) hn.2 fun y hy=>(List.mem_erase_of_ne (by rintro rfl; exact hn.1 hy)).2 (hs y (by simp [hy]))
   rw [List.length_erase_of_mem hx] at this
   have h0:0<ys.length:=List.length_pos_of_mem hx
   simp
   omega
theorem EF {k:Nat} {ps:List Pt} (h:SI k ps) {j x:Nat} (hj:j<16) (hx:x∈(ps.getD j (0,[])).2) : cZ ps ((j:Int),x)=true:=by
 have w:=(h.at j).1
 have h1:=w.2.1 x hx
 have h2:=w.2.2.2.1 x hx
 rw [cZ,Bool.and_eq_true]
 refine ⟨?_, ?_⟩
 ·simp only [good,Bool.and_eq_true,decide_eq_true_eq]
  omega
 ·rw [fK]
  exact .inr (by simpa using hx)
theorem Rk {k l:Nat} {ps qs:List Pt} (h1:SI k ps) (h2:SI l qs) {D:List ak} (d1:∀ d,cZ ps d=true→d∈D) (d2:∀ d,cZ qs d=true→d∈D) {j:Nat} (hj:j<16) : (jl (ps.getD j (0,[])) (qs.getD j (0,[]))).length≤D.length:=by
 obtain ⟨a1,a2,_⟩:=rX (ps.getD j (0,[])) (qs.getD j (0,[]))
 have hn:((jl (ps.getD j (0,[])) (qs.getD j (0,[]))).map fun x=>(((j:Int),x) : ak)).Nodup:=by
  rw [List.Nodup,List.pairwise_map]
  exact List.Pairwise.imp (fun {a b} (h:a<b) e=>by cases e; omega) a1
 have:=oW hn (ys:=D) fun d hd=>by
  obtain ⟨x,hx,rfl⟩:=List.mem_map.1 hd
  rcases (a2 x).1 hx with h | h
  ·exact d1 _ (EF h1 hj h)
  ·exact d2 _ (EF h2 hj h)
 rwa [List.length_map] at this
theorem Pm {p q:Pt} (hp:kw p) (hq:kw q) (hl:(jl p q).length≤4096) :
  kw (kN gp dd p q)∧(∀ x,gG (kN gp dd p q) x=true↔gG p x=true∨gG q x=true)∧(kN gp dd p q).2.length≤(jl p q).length:=by
 obtain ⟨h1,h2,h3⟩:=rX p q
 have he:kN gp dd p q=Go.Ab.ak.settle (max p.1 q.1) (jl p q):=rfl
 rw [he]
 have hpos:∀ y∈jl p q,1≤y:=fun y hy=>by
  rcases (h2 y).1 hy with h | h
  ·have:=hp.2.1 y h; omega
  ·have:=hq.2.1 y h; omega
 have hle:∀ y∈jl p q,y≤1099511627776:=fun y hy=>by
  rcases (h2 y).1 hy with h | h
  ·exact hp.2.2.2.1 y h
  ·exact hq.2.2.2.1 y h
 have hm:max p.1 q.1≤1099511627776:=by have:=hp.2.2.1; have:=hq.2.2.1; omega
 obtain ⟨s1,s2,s3,s4⟩:=rA (jl p q) (max p.1 q.1) 1099511627776 h1 hm hle
 have hsl:=uO (max p.1 q.1) (jl p q)
 refine ⟨⟨s1,s2,s3,fun x hx=>hle x (Ae hx),by omega⟩,fun x=>?_,by omega⟩
 rw [uS _ _ _ hpos,h2,fK,fK]
 constructor
 ·rintro (h | h | h)
  ·by_cases hx:x≤p.1
   ·exact .inl (.inl ⟨h.1,hx⟩)
   ·exact .inr (.inl ⟨h.1,by omega⟩)
  ·exact .inl (.inr h)
  ·exact .inr (.inr h)
 ·rintro ((h | h) | (h | h))
  ·exact .inl ⟨h.1,by omega⟩
  ·exact .inr (.inl h)
  ·exact .inl ⟨h.1,by omega⟩
  ·exact .inr (.inr h)
theorem SA {k l:Nat} {ps qs:List Pt} (h1:SI k ps) (h2:SI l qs) {D:List ak} (hD:D.length≤4096) (d1:∀ d,cZ ps d=true→d∈D) (d2:∀ d,cZ qs d=true→d∈D) :
  SI D.length (lI ps qs)∧∀ d,cZ (lI ps qs) d=true↔cZ ps d=true∨cZ qs d=true:=by
 have hlen:(lI ps qs).length=16:=by rw [lI,xy,h1.len]
 have at_:∀ {j:Nat},j<16→_:=fun {j} hj=>Pm (h1.at j).1 (h2.at j).1 (Nat.le_trans (Rk h1 h2 d1 d2 hj) hD)
 have all:∀ p∈lI ps qs,kw p∧p.2.length≤D.length:=fun p hp=>by
  obtain ⟨i,hi,rfl⟩:=List.getElem_of_mem hp
  rw [hlen] at hi
  have e:=Av h1 h2 hi
  rw [Je (by omega)] at e
  rw [e]
  obtain ⟨r1,_,r3⟩:=at_ hi
  exact ⟨r1,Nat.le_trans r3 (Rk h1 h2 d1 d2 hi)⟩
 refine ⟨⟨hlen,fun p hp=>(all p hp).1,fun p hp=>(all p hp).2⟩,fun d=>?_⟩
 simp only [cZ,Bool.and_eq_true]
 by_cases hg:good d=true
 ·have hd:=EY hg
  have e:=(at_ (j:=d.1.toNat) (by omega)).2.1 d.2
  rw [← Av h1 h2 (by omega)] at e
  rw [e]
  constructor
  ·rintro ⟨h,h' | h'⟩
   ·exact .inl ⟨h,h'⟩
   ·exact .inr ⟨h,h'⟩
  ·rintro (⟨h,h'⟩ | ⟨h,h'⟩)
   ·exact ⟨h,.inl h'⟩
   ·exact ⟨h,.inr h'⟩
 ·constructor
  ·rintro ⟨h,_⟩; exact absurd h hg
  ·rintro (⟨h,_⟩ | ⟨h,_⟩) <;> exact absurd h hg
def fB (l:List Ev) : List ak:=l.flatMap fun x=>x.1.1 :: x.2
theorem PP {k:Nat} {ps:List Pt} {e:je} {ks:List ak} (h:SI k ps) (hk:k + 65<4096) (hg:bY e ks=true) (d:ak) : cZ (uz ps e ks) d=true↔cZ ps d=true∨d∈e.1 :: ks:=by
 obtain ⟨g1,g2,g3,_,_⟩:=nu hg
 refine Ec h (by simp; omega) fun d hd=>?_
 rcases List.mem_cons.1 hd with rfl | hd
 ·exact g1
 ·exact g3 d hd
structure Xe (s:jv) : Prop where
 seen:∀ x∈s.2,cZ s.1 x.1=true
 one:s.2.Pairwise fun x y=>x.1≠y.1
structure StB (a t:jv) : Prop where
 ents:∀ x∈t.2,cZ a.1 x.1=true→x∈a.2
 sets:∀ d,cZ a.1 d=true→cZ t.1 d=true
theorem Xe.empty:Xe (iU,[]):=⟨by simp,.nil⟩
theorem SL (d:ak) : cZ iU d=false:=by
 rw [cZ,zX]
 cases good d with
 | false=>rfl
 | true =>
   simp only [Bool.true_and]
   unfold gG
   simp
   omega
theorem Uc (x:aL) : Bw x x=true:=decide_eq_true ⟨rfl,rfl,rfl⟩
theorem U3 {es:List aL} {x:aL} (h:x∈es) : IK es x=true:=List.any_eq_true.2 ⟨x,h,Uc x⟩
theorem Nf (l:List Ev) : (rG l).length≤l.length:=by
 have:=AL l l.length
 rwa [List.take_length] at this
end Go.Ab.Crw
set_option maxRecDepth 10000
set_option linter.unusedVariables false
set_option linter.unusedSimpArgs false
namespace Go.Ab.Crw
open Go Go.Ab Go.Ab.ak
theorem LA:∀ {l:List Ev},(∀ x∈l,bY x.1 x.2=true)→(fB l).length≤65 * l.length
 | [],_=>by simp [fB]
 | x :: l,h=>by
   have e:fB (x :: l)=(x.1.1 :: x.2)++fB l:=by simp [fB]
   have:=LA (l:=l) fun y hy=>h y (by simp [hy])
   obtain ⟨_,g2,_,_,_⟩:=nu (h x (by simp))
   rw [e,List.length_append,List.length_cons,List.length_cons]
   omega
theorem VM (l:List Ev) : oo l 0 false=l:=by
 refine List.ext_getElem (wE _ _ _) fun i h1 h2=>?_
 rw [NZ h2]
 have:zN l.length 0 false i=i:=by
  unfold zN
  rw [if_neg (by decide),Nat.add_zero,Nat.mod_eq_of_lt h2]
 simp only [this]
end Go.Ab.Crw
set_option maxRecDepth 10000
set_option linter.unusedVariables false
set_option linter.unusedSimpArgs false
namespace Go.Ab.Crw
open Go Go.Ab Go.Ab.ak
def Live (l:List Ev) (x:aL) : Prop:=∃ e∈l,e.1.2.1=1∧dx e.1=x∧∀ f∈l,e.1.1 ∉ f.2
def Dk (l:List Ev) : Prop:=∀ x∈l,∀ y∈l,x.1.1=y.1.1→x=y
structure Ch (l:List Ev) (s:jv) : Prop where
 ents:∀ x,x∈s.2↔Live l x
 sets:∀ d,cZ s.1 d=true↔d∈fB l
 up:uM s.2
 one:s.2.Pairwise fun x y=>x.1≠y.1
 si:∃ k,SI k s.1
theorem jU {l:List Ev} {d:ak} : d∈fB l↔∃ e∈l,d=e.1.1∨d∈e.2:=by
 unfold fB
 rw [List.mem_flatMap]
 constructor
 ·rintro ⟨e,he,h⟩
  exact ⟨e,he,List.mem_cons.1 h⟩
 ·rintro ⟨e,he,h⟩
  exact ⟨e,he,List.mem_cons.2 h⟩
theorem Live.mem {l m:List Ev} {x:aL} (h:Live l x) (hm:∀ e,e∈l↔e∈m) : Live m x:=by
 obtain ⟨e,he,h1,h2,h3⟩:=h
 exact ⟨e,(hm e).1 he,h1,h2,fun f hf=>h3 f ((hm f).2 hf)⟩
theorem Ch.mem {l m:List Ev} {s:jv} (h:Ch l s) (hm:∀ e,e∈l↔e∈m) : Ch m s where
 ents x:=(h.ents x).trans ⟨fun h=>h.mem hm,fun h=>h.mem fun e=>(hm e).symm⟩
 sets d:=by
  rw [h.sets,jU,jU]
  exact ⟨fun ⟨e,he,h⟩=>⟨e,(hm e).1 he,h⟩,fun ⟨e,he,h⟩=>⟨e,(hm e).2 he,h⟩⟩
 up:=h.up
 one:=h.one
 si:=h.si
theorem Ch.Xb {l:List Ev} {s:jv} (h:Ch l s) : Xe s:=⟨fun x hx=>by
 obtain ⟨e,he,_,rfl,_⟩:=(h.ents x).1 hx
 exact (h.sets _).2 (jU.2 ⟨e,he,.inl rfl⟩),h.one⟩
theorem _root_.Go.Ab.ak.SI.tight {k:Nat} {ps:List Pt} {D:List ak} (h:SI k ps) (hd:∀ d,cZ ps d=true→d∈D) : SI D.length ps:=by
 refine ⟨h.len,h.wf,fun p hp=>?_⟩
 obtain ⟨i,hi,rfl⟩:=List.getElem_of_mem hp
 have hi16:i<16:=by rw [← h.len]; exact hi
 have hw:=(h.wf _ hp).1
 have hn:((ps[i].2).map fun x=>(((i:Int),x) : ak)).Nodup:=by
  rw [List.Nodup,List.pairwise_map]
  exact List.Pairwise.imp (fun {a b} (h:a<b) e=>by cases e; omega) hw
 have:=oW hn (ys:=D) fun d hd'=>by
  obtain ⟨x,hx,rfl⟩:=List.mem_map.1 hd'
  refine hd _ (EF h hi16 ?_)
  rw [Je hi]
  exact hx
 rwa [List.length_map] at this
theorem Ch.FL {l:List Ev} {s:jv} {D:List ak} (h:Ch l s) (hD:∀ d∈fB l,d∈D) : SI D.length s.1:=by
 obtain ⟨k,hk⟩:=h.si
 exact hk.tight fun d hd=>hD d ((h.sets d).1 hd)
theorem Ch.len {l m:List Ev} {s:jv} (h:Ch l s) (hm:∀ e∈l,e∈m) : s.2.length≤m.length:=by
 have hn:(s.2.map fun x=>x.1).Nodup:=by
  rw [List.Nodup,List.pairwise_map]
  exact h.one
 have:=oW hn (ys:=m.map fun e=>e.1.1) fun d hd=>by
  obtain ⟨x,hx,rfl⟩:=List.mem_map.1 hd
  obtain ⟨e,he,_,rfl,_⟩:=(h.ents x).1 hx
  exact List.mem_map.2 ⟨e,hm e he,rfl⟩
 rwa [List.length_map,List.length_map] at this
theorem Qn {ps:List Pt} {es:List aL} {e:je} {ks:List ak} {x:aL} : x∈iY ps es e ks↔x.1 ∉ ks∧(x∈es∨(e.2.1=1∧cZ ps e.1=false∧x=dx e)):=by
 unfold iY
 rw [List.mem_filter]
 constructor
 ·rintro ⟨h1,h2⟩
  refine ⟨by simpa using h2, ?_⟩
  split at h1
  ·rename_i hc
   simp only [Bool.and_eq_true,Bool.not_eq_true',decide_eq_true_eq] at hc
   rw [(kZ fG _).mem_iff,List.mem_append,List.mem_singleton] at h1
   rcases h1 with h1 | h1
   ·exact .inl h1
   ·exact .inr ⟨hc.1,hc.2,h1⟩
  ·exact .inl h1
 ·rintro ⟨h1,h2⟩
  refine ⟨?_,by simpa using h1⟩
  split
  ·rw [(kZ fG _).mem_iff,List.mem_append,List.mem_singleton]
   rcases h2 with h2 | ⟨_,_,h2⟩
   ·exact .inl h2
   ·exact .inr h2
  ·rename_i hc
   rcases h2 with h2 | ⟨h3,h4,_⟩
   ·exact h2
   ·exact absurd (by rw [h3,h4]; rfl) hc
theorem Ch.step {l:List Ev} {s:jv} {x:Ev} {k:Nat} (h:Ch l s) (hk:SI k s.1) (hk2:k + 65<4096) (hg:bY x.1 x.2=true) (hf:∀ e∈l,e.1.1≠x.1.1) : Ch (l++[x]) (jh s x):=by
 have hU:=h.Xb
 have e1:jh s x=(uz s.1 x.1 x.2,iY s.1 s.2 x.1 x.2):=by unfold jh; rw [if_pos hg]
 have hm:=PP hk hk2 hg
 rw [e1]
 refine ⟨fun y=>?_,fun d=>?_,Jy h.up, ?_,⟨_,wU hk⟩⟩
 ·rw [Qn,h.ents]
  constructor
  ·rintro ⟨hy,⟨e,he,h1,rfl,h3⟩ | ⟨h1,h2,rfl⟩⟩
   ·refine ⟨e,by simp [he],h1,rfl,fun f hf'=>?_⟩
    rcases List.mem_append.1 hf' with hf' | hf'
    ·exact h3 f hf'
    ·rw [List.mem_singleton] at hf'
     subst hf'
     exact hy
   ·refine ⟨x,by simp,h1,rfl,fun f hf'=>?_⟩
    rcases List.mem_append.1 hf' with hf' | hf'
    ·intro hk'
     rw [(h.sets x.1.1).2 (jU.2 ⟨f,hf',.inr hk'⟩)] at h2
     cases h2
    ·rw [List.mem_singleton] at hf'
     subst hf'
     exact hy
  ·rintro ⟨e,he,h1,rfl,h3⟩
   refine ⟨h3 x (by simp), ?_⟩
   rcases List.mem_append.1 he with he | he
   ·exact .inl ⟨e,he,h1,rfl,fun f hf'=>h3 f (by simp [hf'])⟩
   ·rw [List.mem_singleton] at he
    subst he
    refine .inr ⟨h1, ?_,rfl⟩
    cases hs:cZ s.1 e.1.1 with
    | false=>rfl
    | true =>
      obtain ⟨f,hf',hd⟩:=jU.1 ((h.sets _).1 hs)
      rcases hd with hd | hd
      ·exact absurd hd.symm (hf f hf')
      ·exact absurd hd (h3 f (by simp [hf']))
 ·show cZ (uz s.1 x.1 x.2) d=true↔_
  rw [hm,h.sets]
  have:fB (l++[x])=fB l++(x.1.1 :: x.2):=by simp [fB]
  rw [this,List.mem_append]
 ·show (iY s.1 s.2 x.1 x.2).Pairwise _
  unfold iY
  refine List.Pairwise.filter _ ?_
  split
  ·rename_i hc
   simp only [Bool.and_eq_true,Bool.not_eq_true',decide_eq_true_eq] at hc
   refine (kZ fG _).symm.pairwise ?_ (fun {a b} hab e=>hab e.symm)
   rw [List.pairwise_append]
   refine ⟨h.one,by simp,fun a ha b hb e=>?_⟩
   simp only [List.mem_singleton] at hb
   subst hb
   have:=hU.seen a ha
   rw [e,show (dx x.1).1=x.1.1 from rfl,hc.2] at this
   cases this
  ·exact h.one
theorem Ch.empty:Ch [] (iU,[]):=⟨fun x=>by simp [Live],fun d=>by rw [SL]; simp [fB],.nil,.nil,⟨0,vQ⟩⟩
theorem Ch.run {l:List Ev} (hg:∀ x∈l,bY x.1 x.2=true) (hd:l.Pairwise fun x y=>x.1.1≠y.1.1) (hl:l.length≤60) : Ch l (mP l):=by
 suffices h:∀ n,n≤l.length→Ch (l.take n) (mP (l.take n)) by
  have:=h l.length (Nat.le_refl _)
  rwa [List.take_length] at this
 intro n
 induction n with
 | zero=>intro _; exact Ch.empty
 | succ n ih =>
   intro hn
   have h0:=ih (by omega)
   have e:l.take (n + 1)=l.take n++[l[n]]:=List.take_succ_eq_append_getElem (by omega)
   rw [e,JQ]
   have hI:=Kw (l.take n)
   rw [List.length_take,Nat.min_eq_left (by omega)] at hI
   refine h0.step hI.si (by omega) (hg _ (List.getElem_mem _)) fun y hy=>?_
   obtain ⟨i,hi,rfl⟩:=List.getElem_of_mem hy
   rw [List.length_take] at hi
   rw [List.getElem_take]
   exact (List.pairwise_iff_getElem.1 hd) i n (by omega) (by omega) (by omega)
theorem zC:∀ {a b:List aL},uM a→uM b→(a.Pairwise fun x y=>x.1≠y.1)→(b.Pairwise fun x y=>x.1≠y.1)→(∀ x,x∈a↔x∈b)→a=b:=by
 intro a b ha hb oa ob hm
 have strict:∀ {c:List aL},uM c→(c.Pairwise fun x y=>x.1≠y.1)→c.Pairwise fun x y=>gT x y=true:=fun {c} hu ho=>by
  refine List.Pairwise.imp (fun {x y} h=>?_) (List.Pairwise.and hu ho)
  cases hxy:gT x y with
  | true=>rfl
  | false=>exact absurd (of_decide_eq_true (Oy hxy h.1)).2.2 h.2
 have sa:=strict ha oa
 have sb:=strict hb ob
 clear ha hb oa ob
 induction a generalizing b with
 | nil =>
   cases b with
   | nil=>rfl
   | cons y b=>exact absurd ((hm y).2 (by simp)) (by simp)
 | cons x a ih =>
   cases b with
   | nil=>exact absurd ((hm x).1 (by simp)) (by simp)
   | cons y b =>
     rw [List.pairwise_cons] at sa sb
     have hxy:x=y:=by
      rcases List.mem_cons.1 ((hm x).1 (by simp)) with h | h
      ·exact h
      ·rcases List.mem_cons.1 ((hm y).2 (by simp)) with h' | h'
       ·exact h'.symm
       ·have h1:=sb.1 x h
        have h2:=sa.1 y h'
        have:=fG.trans _ _ _ h1 h2
        rw [fG.irrefl] at this
        cases this
     subst hxy
     rw [ih (fun z=>?_) sa.2 sb.2]
     constructor
     ·intro hz
      rcases List.mem_cons.1 ((hm z).1 (by simp [hz])) with h | h
      ·subst h
       have:=sa.1 z hz
       rw [fG.irrefl] at this
       cases this
      ·exact h
     ·intro hz
      rcases List.mem_cons.1 ((hm z).2 (by simp [hz])) with h | h
      ·subst h
       have:=sb.1 z hz
       rw [fG.irrefl] at this
       cases this
      ·exact h
theorem Ch.eq {l:List Ev} {s t:jv} (h:Ch l s) (g:Ch l t) : s.2=t.2∧jf s.1 t.1=true∧jf t.1 s.1=true:=by
 obtain ⟨k,hk⟩:=h.si
 obtain ⟨m,hm⟩:=g.si
 refine ⟨zC h.up g.up h.one g.one fun x=>by rw [h.ents,g.ents], ?_, ?_⟩
 ·exact (Ej hk.wf hm.wf).2 fun d hd=>(g.sets d).2 ((h.sets d).1 hd)
 ·exact (Ej hm.wf hk.wf).2 fun d hd=>(h.sets d).2 ((g.sets d).1 hd)
theorem RA {ps qs:List Pt} {es fs:List aL} {x:aL} : x∈AA ps qs es fs↔(x∈es∧mU qs fs x=true)∨(x∈fs∧mf ps es x=true):=by
 unfold AA
 rw [(kZ fG _).mem_iff,List.mem_append,List.mem_filter,List.mem_filter]
theorem LF {es:List aL} {x:aL} : IK es x=true→∃ y∈es,y.1=x.1:=fun h=>by
 obtain ⟨y,hy,hk⟩:=List.any_eq_true.1 h
 exact ⟨y,hy,(of_decide_eq_true hk).2.2⟩
theorem Ch.join {l m:List Ev} {s t:jv} {D:List ak} (h:Ch l s) (g:Ch m t) (hc:Dk (l++m)) (hD:D.length≤4096) (d1:∀ d∈fB l,d∈D) (d2:∀ d∈fB m,d∈D) : Ch (l++m) (lI s.1 t.1,AA s.1 t.1 s.2 t.2):=by
 obtain ⟨k,hk⟩:=h.si
 obtain ⟨k',hk'⟩:=g.si
 obtain ⟨jI,jH⟩:=SA hk hk' hD (fun d hd=>d1 d ((h.sets d).1 hd)) (fun d hd=>d2 d ((g.sets d).1 hd))
 have hdl:fB (l++m)=fB l++fB m:=by simp [fB]
 have same:∀ {e:Ev},e∈l→∀ {f:Ev},f∈m→e.1.1=f.1.1→e=f:=fun he _ hf hd=>hc _ (by simp [he]) _ (by simp [hf]) hd
 refine ⟨fun x=>?_,fun d=>?_,LM fG _, ?_,⟨_,jI⟩⟩
 ·rw [RA,h.ents,g.ents]
  constructor
  ·rintro (⟨⟨e,he,h1,rfl,h3⟩,hA⟩ | ⟨⟨e,he,h1,rfl,h3⟩,hB⟩)
   ·refine ⟨e,by simp [he],h1,rfl,fun f hf=>?_⟩
    rcases List.mem_append.1 hf with hf | hf
    ·exact h3 f hf
    ·intro hkill
     unfold mU at hA
     rw [Bool.or_eq_true] at hA
     rcases hA with hA | hA
     ·obtain ⟨y,hy,hyd⟩:=LF hA
      obtain ⟨e',he',_,rfl,h3'⟩:=(g.ents y).1 hy
      exact h3' f hf (by rw [show e'.1.1=e.1.1 from hyd]; exact hkill)
     ·rw [show cZ t.1 (dx e.1).1=true from (g.sets _).2 (jU.2 ⟨f,hf,.inr hkill⟩)] at hA
      cases hA
   ·refine ⟨e,by simp [he],h1,rfl,fun f hf=>?_⟩
    rcases List.mem_append.1 hf with hf | hf
    ·intro hkill
     unfold mf at hB
     rw [Bool.and_eq_true] at hB
     rw [show cZ s.1 (dx e.1).1=true from (h.sets _).2 (jU.2 ⟨f,hf,.inr hkill⟩)] at hB
     cases hB.2
    ·exact h3 f hf
  ·rintro ⟨e,he,h1,rfl,h3⟩
   have lv:e∈l→(dx e.1∈s.2∧mU t.1 t.2 (dx e.1)=true):=fun he'=>by
    refine ⟨(h.ents _).2 ⟨e,he',h1,rfl,fun f hf=>h3 f (by simp [hf])⟩, ?_⟩
    unfold mU
    cases hs:cZ t.1 (dx e.1).1 with
    | false=>simp
    | true =>
      obtain ⟨f,hf,hd⟩:=jU.1 ((g.sets _).1 hs)
      rcases hd with hd | hd
      ·have:=same he' hf hd
       subst this
       rw [U3 ((g.ents _).2 ⟨e,hf,h1,rfl,fun f hf=>h3 f (by simp [hf])⟩)]
       rfl
      ·exact absurd hd (h3 f (by simp [hf]))
   by_cases hel:e∈l
   ·exact .inl ⟨(h.ents _).1 (lv hel).1,(lv hel).2⟩
   ·have hem:e∈m:=by
     rcases List.mem_append.1 he with h | h
     ·exact absurd h hel
     ·exact h
    refine .inr ⟨⟨e,hem,h1,rfl,fun f hf=>h3 f (by simp [hf])⟩, ?_⟩
    have hs:cZ s.1 (dx e.1).1=false:=by
     cases hs:cZ s.1 (dx e.1).1 with
     | false=>rfl
     | true =>
       obtain ⟨f,hf,hd⟩:=jU.1 ((h.sets _).1 hs)
       rcases hd with hd | hd
       ·exact absurd (same hf hem hd.symm▸hf) hel
       ·exact absurd hd (h3 f (by simp [hf]))
    unfold mf
    rw [hs]
    cases hk2:IK s.2 (dx e.1) with
    | false=>rfl
    | true =>
      obtain ⟨y,hy,hyd⟩:=LF hk2
      have:=h.Xb.seen y hy
      rw [hyd,hs] at this
      cases this
 ·rw [jH,h.sets,g.sets,hdl,List.mem_append]
 ·refine (kZ fG _).symm.pairwise ?_ (fun {a b} hab e=>hab e.symm)
  rw [List.pairwise_append]
  refine ⟨h.one.filter _,g.one.filter _,fun a ha b hb e=>?_⟩
  obtain ⟨hb1,hb2⟩:=List.mem_filter.1 hb
  unfold mf at hb2
  rw [Bool.and_eq_true] at hb2
  have:=h.Xb.seen a (List.mem_filter.1 ha).1
  rw [e] at this
  rw [this] at hb2
  cases hb2.2
theorem TJ (l:List Ev) : (rG l).Pairwise fun x y=>x.1.1≠y.1.1:=by
 suffices h:∀ (l out:List Ev),(out.Pairwise fun x y=>x.1.1≠y.1.1)→(l.foldl lY out).Pairwise fun x y=>x.1.1≠y.1.1 from h l [] .nil
 intro l
 induction l with
 | nil=>intro out h; exact h
 | cons x l ih =>
   intro out h
   refine ih _ ?_
   unfold lY
   split
   ·rename_i hc
    simp only [Bool.not_eq_true',Bool.or_eq_false_iff,Bool.not_eq_false'] at hc
    rw [List.pairwise_append]
    refine ⟨h,by simp,fun a ha b hb e=>?_⟩
    simp only [List.mem_singleton] at hb
    subst hb
    have:=List.any_eq_false.1 hc.2 a ha
    exact this (decide_eq_true e)
   ·exact h
theorem Nq {l:List Ev} (h:l.Pairwise fun x y=>x.1.1≠y.1.1) : Dk l:=fun x hx y hy e=>by
 obtain ⟨i,hi,rfl⟩:=List.getElem_of_mem hx
 obtain ⟨j,hj,rfl⟩:=List.getElem_of_mem hy
 have hp:=List.pairwise_iff_getElem.1 h
 rcases Nat.lt_trichotomy i j with h | h | h
 ·exact absurd e (hp i j hi hj h)
 ·subst h; rfl
 ·exact absurd e.symm (hp j i hj hi h)
theorem Dk.sub {l m:List Ev} (h:Dk m) (hs:∀ e∈l,e∈m) : Dk l:=fun x hx y hy e=>h x (hs x hx) y (hs y hy) e
end Go.Ab.Crw
set_option maxRecDepth 10000
set_option linter.unusedVariables false
set_option linter.unusedSimpArgs false
namespace Go.Ab.Crw
open Go Go.Ab Go.Ab.ak
theorem Xk {M:RM} {c q r:Bool} {f0:ah→Prop} {f:RM→ah→Prop} {G:AV→RM→Prop} (hf0:c=true→∀ k:ah,k (Bo q) M→f0 k) (hf:c=true→q=false→∀ k:ah,k (Bo r) M→f M k) (hG:G (Bo (c && (q || r))) M) :
  ai (Bo c) true f0 (fun k=>k .undef M) fun t45 M1=>ai t45 false (f M1) (fun k=>k .undef M1) fun t54 M2=>ai (Bo c) true (fun k3=>aM t45 (Bo true) t54 fun t55=>k3 t55 M2) (fun k=>k .undef M2) fun t55 M3=>aM (Bo c) t55 (Bo false) fun t56=>G t56 M3:=by
 cases c with
 | false=>rw [bL]; dsimp only; rw [wG]; dsimp only; rw [bL]; dsimp only; rw [dz]; exact hG
 | true =>
   rw [cz]
   refine hf0 rfl _ ?_
   cases q with
   | true=>rw [kR]; dsimp only; rw [cz]; dsimp only; rw [dO,dO]; exact hG
   | false =>
     rw [fM]
     refine hf rfl rfl _ ?_
     rw [cz]; dsimp only; rw [dz,dO]; exact hG
theorem OB {M:RM} {v:AV} {xs:List aL} (h:Sl aC M v xs) {i:Nat} (hi:i<xs.length) {kd:IntKind} {j:Nat} {x:AV} (hx:(aC.cells xs[i])[j]?=some x) {K:AV→Prop} : (au v (N kd (i:Int)) 5 fun p=>aI p j fun q=>ax M q K)=K x:=by
 obtain ⟨b,o,_,_,hidx,hld⟩:=Sl.at (E:=aC) (i:=i) h 5 (i:Int) hi rfl rfl
 rw [hidx,aY,jL]
 rw [uK hld hx]
 simp
def Em (TS T TN:Nat) (c:aj) : Prop:=∀ {M:RM} {t:Nat} {B:Nat→Prop} {ps:List Pt} {es:List aL} {s:List UInt8} {Q:ah},kH TS T B M t ps es→es.length≤50000→(∀ v M',Ow aC M' M.next TN v (es.filter fun x=>x.2.1 == s)→ag [] M M'→Q v M')→c [.ptr t 0,St s] M Q
theorem L9 {TS T TN:Nat} : Em TS T TN fun args M Q=>∃ a0 a1,args=[a0,a1]∧rH TN a0 a1 M Q:=by
 intro M t B ps es s Q hst hlen hQ
 refine ⟨_,_,rfl, ?_⟩
 unfold rH
 simp only [iA,eD,dN,dQ,bT]
 obtain ⟨s0,v,r1,_,r3,_,_⟩:=hst.row
 rw [aJ,aY,az (i:=0 + 1) r1 rfl,aN.len r3]
 refine aG (fun z ys M3=>∃ (i:Nat) (dv:AV),z=es.length - i∧ys=[dv,N .i64 (i:Int)]∧i≤es.length∧ag [] M M3∧Ow aC M3 M.next TN dv ((es.take i).filter fun x=>x.2.1 == s)) _
  ⟨0,bJ,rfl,rfl,Nat.zero_le _,ag.refl _ _,.nil⟩ ?_
 rintro next z ys M3 hnext ⟨i,dv,rfl,rfl,hil,k3,o3⟩
 dsimp only [aa]
 rw [dS]
 refine aF (fun hlt=>?_) (fun hge=>?_)
 ·have hlt:i<es.length:=of_decide_eq_true hlt
  have n3:=k3.next
  have hfl:=vo (fun x:aL=>x.2.1 == s) es i
  refine aZ (fun zs M'=>∃ dv',zs=[dv']∧ag [] M M'∧Ow aC M' M.next TN dv' ((es.take (i + 1)).filter fun x=>x.2.1 == s)) ?_ ?_
  ·rintro zs M' ⟨dv',rfl,k',o'⟩
   dsimp only [aa]
   rw [add1 (by omega)]
   exact hnext _ _ _ (by omega) ⟨i + 1,dv',rfl,rfl,by omega,k',o'⟩
  intro J hJ
  rw [tY hlt] at hJ
  rw [oQ (aN.keep r3 k3 (by simp)) hlt]
  generalize ((es.take i).filter fun x=>x.2.1 == s)=acc at *
  generalize es[i]=x at *
  rw [bi,dI (n:=5) (x:=.agg (aC.cells x)) (l:=[(N .i64 0),(N .u64 0),(St []),(St []),(St [])]) (RM.aQ _) rfl rfl (qp x)]
  have k4:ag [] M3 ((M3.push (.row [(N .i64 0),(N .u64 0),(St []),(St []),(St [])] false TN 0)).put M3.next (.row (AV.agg (aC.cells x)).cells false TN 0)):=((ag.refl _ _).push _).new _ (Nat.le_refl _)
  have h4:((M3.push (.row [(N .i64 0),(N .u64 0),(St []),(St []),(St [])] false TN 0)).put M3.next (.row (AV.agg (aC.cells x)).cells false TN 0)).heap M3.next=some (.row (aC.cells x) false TN 0):=aP _
  generalize (M3.push (.row [(N .i64 0),(N .u64 0),(St []),(St []),(St [])] false TN 0)).put M3.next (.row (AV.agg (aC.cells x)).cells false TN 0)=M4 at *
  generalize M3.next=b at *
  rw [aY,az (i:=0 + 2) (x:=St x.2.1) h4 rfl,mZ]
  have k04:=k3.trans k4
  have o4:=o3.keep k4 (by simp)
  refine aF (fun hc=>?_) (fun hc=>?_)
  ·rw [bP (n:=5) h4 rfl,qN (x:=.agg (aC.cells x)) (size:=5) rfl (qp x) rfl,bi]
   refine yK (E:=aC) (a:=x) o4 (by have:=k04.next; omega) (by decide) (by omega) (by omega) fun v2 M7 o7 k7 n7 _=>?_
   refine hJ _ _ ⟨v2,rfl,k04.dB k7 (fun d hd=>.inl (o4.blk d hd).1), ?_⟩
   rw [hc,if_pos rfl]
   exact o7
  ·refine hJ _ _ ⟨dv,rfl,k04, ?_⟩
   rw [hc,if_neg (by decide),List.append_nil]
   exact o4
 ·have he:i=es.length:=by
   have:¬ i<es.length:=of_decide_eq_false hge
   omega
  subst he
  rw [List.take_length] at o3
  exact hQ dv M3 o3 k3
def Kh (T b:Nat) (s:List UInt8) (M:RM) : Prop:=b<M.next∧M.heap b=some (.row [St s] false T 0)
def JU (s:List UInt8) (x:aL) : Bool:=(s != []) && (x.2.2.1 != s)
theorem Uf {TN TB b:Nat} {s:List UInt8} {M:RM} {x:aL} {Q:ah} (hP:Kh TB b s M) (hQ:∀ M',ag [] M M'→Q (Bo (JU s x)) M') :
  ∃ a0 a1,[AV.agg (aC.cells x),.ptr b 0]=[a0,a1]∧wJ TN a0 a1 M Q:=by
 obtain ⟨h1,h2⟩:=hP
 refine ⟨_,_,rfl, ?_⟩
 unfold wJ
 simp only [iA,eD,dN,dQ,bT]
 rw [dH rfl (by rw [aC.len]; decide),bi]
 have k0:ag [] M (M.push (.row (aC.cells x) false TN 0)):=(ag.refl _ _).push _
 have hx:(M.push (.row (aC.cells x) false TN 0)).heap M.next=some (.row (aC.cells x) false TN 0):=RM.aQ _
 have h2':=k0.aK h2 h1 (by simp)
 generalize M.push (.row (aC.cells x) false TN 0)=M1 at *
 generalize M.next=c at *
 rw [az (i:=0) (x:=St s) h2' rfl,vR]
 refine andM (p:=x.2.2.1 != s) (fun _ k hk=>?_) (hQ M1 k0)
 rw [aY,az (i:=0 + 3) (x:=St x.2.2.1) hx rfl,az (i:=0) (x:=St s) h2' rfl,vR]
 exact hk
def Qa (TS T:Nat) (c:aj) : Prop:=∀ {M:RM} {t:Nat} {B:Nat→Prop} {ps:List Pt} {es:List aL} {s f:List UInt8} {Q:ah},kH TS T B M t ps es→es.length≤50000→(∀ v M',Sl aC M' v ((es.filter fun x=>x.2.1 == s).filter fun x=>!JU f x)→ag [] M M'→Q v M')→c [.ptr t 0,St s,St f] M Q
theorem Rl {TS T TN TB nd:Nat} {cC cD:aj} (hC:Em TS T TN cC) (hD:∀ b f,wH TN (Kh TB b f) (JU f) (.fn (.func nd) [] [.ptr b 0]) cD) :
  Qa TS T fun args M Q=>∃ a0 a1 a2,args=[a0,a1,a2]∧zS TB cC nd cD a0 a1 a2 M Q:=by
 intro M t B ps es s f Q hst hlen hQ
 refine ⟨_,_,_,rfl, ?_⟩
 unfold zS
 refine ⟨rfl,Nat.le_refl _, ?_⟩
 dsimp only
 rw [bi]
 have k0:ag [] M (M.push (.row (St f).cells false TB 0)):=(ag.refl _ _).push _
 have h0:(M.push (.row (St f).cells false TB 0)).heap M.next=some (.row [St f] false TB 0):=RM.aQ _
 have n0:M.next<(M.push (.row (St f).cells false TB 0)).next:=by simp [RM.push]
 have st1:=hst.keep k0 (by simp) (by simp)
 generalize M.push (.row (St f).cells false TB 0)=M1 at *
 generalize hb:M.next=b at *
 refine hC st1 hlen fun v M2 o2 k2=>?_
 have n2:=k2.next
 have hlf:((es.filter fun x=>x.2.1 == s)).length≤50000:=Nat.le_trans (List.length_filter_le _ _) hlen
 refine hD b f ⟨by omega,k2.aK h0 n0 (by simp)⟩ (fun Ma Mb ks hP k hk=>⟨Nat.lt_of_lt_of_le hP.1 k.next,k.aK hP.2 hP.1 (fun hm=>?_)⟩) o2 (by omega) fun v' M3 h3 hb3 k3=>?_
 ·have:=(o2.blk b (hk b hm)).1
  omega
 ·refine hQ v' M3 h3 ((k0.trans k2).dB k3 (fun d hd=>?_))
  have:=(o2.blk d hd).1
  exact .inl (by omega)
abbrev iR:je:=((0,0),(0,([],([],[]))))
theorem Og (e:je) (kv w:AV) : (aV e kv).set (0 + 6) w=aV e w:=rfl
theorem LZ (e:je) (kv:AV) : (aV e kv).length=7:=rfl
def Pq (c:aj) : Prop:=∀ {M:RM} {v:AV} {e:je} {xs:List aL} {Q:ah},Sl aC M v xs→xs.length≤50000 →
 (∀ kv M',bY e (j6 kW (xs.map fun x=>x.1))=true→Sl aR M' kv (j6 kW (xs.map fun x=>x.1))→(∀ d∈aH kv,M.next≤d)→ag [] M M'→Q (.tup [.agg (aV e kv),N .i64 0]) M') →
 (∀ n M',bY e (j6 kW (xs.map fun x=>x.1))=false→n≠(0:Int)→ag [] M M'→Q (.tup [.agg (aV iR bJ),N .i64 n]) M')→c [.agg (aV e bJ),v] M Q
theorem QV {TE TN TD nc:Nat} {cS cG cC:aj} (hS:Io (.fn (.func nc) [] []) kW TD cS) (hG:sQ cG) (hC:u7 cC) :
  Pq fun args M Q=>∃ a0 a1,args=[a0,a1]∧LK TE TN TD cS nc cG cC a0 a1 M Q:=by
 intro M v e xs Q hv hl hok hbad
 refine ⟨_,_,rfl, ?_⟩
 unfold LK
 simp only [iA,eD,dN,dQ,bT]
 rw [dH rfl (by rw [LZ]; decide),bi,bi]
 have k1:ag [] M ((M.push (.row (aV e bJ) false TE 0)).push (.row [(N .i64 0),(N .u64 0),(N .i64 0),(St []),(St []),(St []),(.sc (.slice none 0 0))] false TE 0)):=((ag.refl _ _).push _).push _
 have h2:((M.push (.row (aV e bJ) false TE 0)).push (.row [(N .i64 0),(N .u64 0),(N .i64 0),(St []),(St []),(St []),(.sc (.slice none 0 0))] false TE 0)).heap M.next=some (.row (aV e bJ) false TE 0):=jV (RM.aQ _) (by simp [RM.push])
 have h4:((M.push (.row (aV e bJ) false TE 0)).push (.row [(N .i64 0),(N .u64 0),(N .i64 0),(St []),(St []),(St []),(.sc (.slice none 0 0))] false TE 0)).heap (M.next + 1)=some (.row (aV iR bJ) false TE 0):=RM.aQ _
 have n1:((M.push (.row (aV e bJ) false TE 0)).push (.row [(N .i64 0),(N .u64 0),(N .i64 0),(St []),(St []),(St []),(.sc (.slice none 0 0))] false TE 0)).next=M.next + 2:=rfl
 rw [show (M.push (.row (aV e bJ) false TE 0)).next=M.next + 1 from rfl,aN.len hv]
 generalize (M.push (.row (aV e bJ) false TE 0)).push (.row [(N .i64 0),(N .u64 0),(N .i64 0),(St []),(St []),(St []),(.sc (.slice none 0 0))] false TE 0)=M1 at *
 have nM:M.next≤M1.next:=k1.next
 generalize hb2:M.next=b2 at *
 refine aG (fun m ys M3=>∃ (i:Nat) (dv:AV),m=xs.length - i∧ys=[N .i64 (i:Int)]∧i≤xs.length∧ag [] M M3∧M1.next≤M3.next∧M3.heap b2=some (.row (aV e dv) false TE 0)∧M3.heap (b2 + 1)=some (.row (aV iR bJ) false TE 0)∧Ow aR M3 (b2 + 2) TD dv ((xs.take i).map fun x=>x.1)) _
  ⟨0,bJ,rfl,rfl,Nat.zero_le _,k1,Nat.le_refl _,h2,h4,.nil⟩ ?_
 rintro next m ys M3 hnext ⟨i,dv,rfl,rfl,hi,k3,n3,g2,g4,o3⟩
 dsimp only [aa]
 rw [dS]
 refine aF (fun hlt=>?_) (fun hge=>?_)
 ·have hlt:i<xs.length:=of_decide_eq_true hlt
  have htk:(xs.take (i + 1)).map (fun x:aL=>x.1)=(xs.take i).map (fun x:aL=>x.1)++[xs[i].1]:=by
   rw [List.take_succ_eq_append_getElem hlt,List.map_append]; rfl
  have hml:((xs.take i).map fun x:aL=>x.1).length≤i:=by rw [List.length_map,List.length_take]; omega
  rw [oQ (aN.keep hv k3 (by simp)) hlt]
  generalize ((xs.take i).map fun x:aL=>x.1)=acc at *
  generalize xs[i]=x at *
  rw [bi,dI (n:=5) (x:=.agg (aC.cells x)) (l:=[(N .i64 0),(N .u64 0),(St []),(St []),(St [])]) (RM.aQ _) rfl rfl (qp x)]
  have k4:ag [] M3 ((M3.push (.row [(N .i64 0),(N .u64 0),(St []),(St []),(St [])] false TN 0)).put M3.next (.row (AV.agg (aC.cells x)).cells false TN 0)):=((ag.refl _ _).push _).new _ (Nat.le_refl _)
  have f4:((M3.push (.row [(N .i64 0),(N .u64 0),(St []),(St []),(St [])] false TN 0)).put M3.next (.row (AV.agg (aC.cells x)).cells false TN 0)).heap M3.next=some (.row (aC.cells x) false TN 0):=aP _
  generalize (M3.push (.row [(N .i64 0),(N .u64 0),(St []),(St []),(St [])] false TN 0)).put M3.next (.row (AV.agg (aC.cells x)).cells false TN 0)=M4 at *
  generalize hb3:M3.next=b at *
  have n4:=k4.next
  have q2:=k4.aK g2 (by omega) (by simp)
  have q4:=k4.aK g4 (by omega) (by simp)
  have o4:=o3.keep k4 (by simp)
  rw [aY,az (i:=0 + 6) (x:=dv) q2 rfl,bz,KE f4,qN (x:=.agg (aO x.1)) (size:=2) rfl rfl rfl,bi]
  refine yK (E:=aR) (a:=x.1) o4 (by omega) (by decide) (by omega) (by omega) fun v2 M5 o5 k5 n5 _=>?_
  have hnb:∀ d,d<b2 + 2→d ∉ aH dv:=fun d hd hm=>by have:=(o4.blk d hm).1; omega
  have p2:=k5.aK q2 (by omega) (hnb b2 (by omega))
  have p4:=k5.aK q4 (by omega) (hnb (b2 + 1) (by omega))
  rw [aY,eB (i:=0 + 6) p2 (by rw [LZ]; decide) (aN.cells o5.lG) (aN.one o5.lG),Og,add1 (by omega)]
  have k6:ag [b2] M5 (M5.put b2 (.row (aV e v2) false TE 0)):=(ag.refl _ _).put _ (.inr (by simp))
  have k35:ag [] M M5:=(k3.trans k4).dB k5 (fun d hd=>.inl (by have:=(o4.blk d hd).1; omega))
  refine hnext _ _ _ (by omega) ⟨i + 1,v2,rfl,rfl,by omega,k35.dB k6 (fun d hd=>by simp at hd; omega),by rw [iF]; omega,aP _,oJ p4 (by omega), ?_⟩
  rw [htk]
  exact o5.keep k6 (fun d hd hm=>by simp at hm; have:=(o5.blk d hd).1; omega)
 ·have he:i=xs.length:=by
   have:¬ i<xs.length:=of_decide_eq_false hge
   omega
  subst he
  rw [List.take_length] at o3
  clear hnext hge
  have hml:(xs.map fun x:aL=>x.1).length≤50000:=by rw [List.length_map]; exact hl
  generalize (xs.map fun x:aL=>x.1)=ds at *
  have hnb:∀ d,d<b2 + 2→d ∉ aH dv:=fun d hd hm=>by have:=(o3.blk d hm).1; omega
  rw [aY,az (i:=0 + 6) (x:=dv) g2 rfl]
  refine hS o3 (by omega) fun M5 o5 k5=>?_
  have n5:=k5.next
  have p2:=k5.aK g2 (by omega) (hnb b2 (by omega))
  have p4:=k5.aK g4 (by omega) (hnb (b2 + 1) (by omega))
  have k05:ag [] M M5:=k3.dB k5 (fun d hd=>.inl (by have:=(o3.blk d hd).1; omega))
  have hks:Sl aR M5 dv (j6 kW ds):=o5.lG
  have hkb:∀ d∈aH dv,b2 + 2≤d∧d<M5.next:=fun d hd=>o5.blk d hd
  have hkl:(j6 kW ds).length≤50000:=by rw [(qM tK ds).length_eq]; exact hml
  generalize j6 kW ds=ks at *
  rw [bP (n:=7) p2 rfl]
  refine hG hks fun M6 k6=>?_
  have n6:=k6.next
  have r2:=k6.aK p2 (by omega) (by simp)
  have r4:=k6.aK p4 (by omega) (by simp)
  have k06:=k05.trans k6
  have hks6:Sl aR M6 dv ks:=aN.keep hks k6 (by simp)
  refine aF (fun hg=>?_) (fun hg=>?_)
  ·rw [bP (n:=7) r2 rfl,dI (n:=7) (x:=.agg (aV e dv)) (l:=aV iR bJ) r4 rfl rfl (tZ hks6),bP (n:=7) (aP _) rfl]
   have k7:ag [b2 + 1] M6 (M6.put (b2 + 1) (.row (AV.agg (aV e dv)).cells false TE 0)):=(ag.refl _ _).put _ (.inr (by simp))
   exact hok dv _ hg (aN.keep hks6 k7 (fun d hd hm=>by simp at hm; have:=hkb d hd; omega)) (fun d hd=>by have:=hkb d hd; omega) (k06.dB k7 (fun d hd=>by simp at hd; omega))
  ·have fin:∀ M' (n:Int),n≠0→ag [] M M'→M'.heap (b2 + 1)=some (.row (aV iR bJ) false TE 0) →
     jA [(N .i64 0),(N .u64 0),(N .i64 0),(St []),(St []),(St []),(.sc (.slice none 0 0))] [] (fun t46=>aD M' (.ptr (b2 + 1) 0) t46 7 fun M_38=>aB M_38 (.ptr (b2 + 1) 0) 7 fun res_39=>Q (.tup [res_39,(N .i64 n)]) M_38):=by
    intro M' n hn k' h'
    rw [ja]
    refine ⟨aV iR bJ,rfl, ?_⟩
    rw [dI (n:=7) (x:=.agg (aV iR bJ)) (l:=aV iR bJ) h' rfl rfl rfl,bP (n:=7) (aP _) rfl]
    exact hbad n _ hg hn (k'.new _ (by omega))
   refine aZ (fun zs M'=>zs=[]∧ag [] M M'∧M'.heap (b2 + 1)=some (.row (aV iR bJ) false TE 0)) ?_ ?_
   ·rintro zs M' ⟨rfl,k',h'⟩
    exact fin M' 1 (by decide) k' h'
   ·intro J hJ
    rw [aY,az (i:=0 + 6) (x:=dv) r2 rfl,aN.len hks6,gH]
    refine aF (fun _=>?_) (fun _=>hJ [] M6 ⟨rfl,k06,r4⟩)
    rw [bP (n:=7) r2 rfl,bi,dI (n:=7) (x:=.agg (aV e dv)) (l:=[(N .i64 0),(N .u64 0),(N .i64 0),(St []),(St []),(St []),(.sc (.slice none 0 0))]) (RM.aQ _) rfl rfl (tZ hks6)]
    have k7:ag [] M6 ((M6.push (.row [(N .i64 0),(N .u64 0),(N .i64 0),(St []),(St []),(St []),(.sc (.slice none 0 0))] false TE 0)).put M6.next (.row (AV.agg (aV e dv)).cells false TE 0)):=((ag.refl _ _).push _).new _ (Nat.le_refl _)
    have f7:((M6.push (.row [(N .i64 0),(N .u64 0),(N .i64 0),(St []),(St []),(St []),(.sc (.slice none 0 0))] false TE 0)).put M6.next (.row (AV.agg (aV e dv)).cells false TE 0)).heap M6.next=some (.row (aV e dv) false TE 0):=aP _
    have n7:M6.next<((M6.push (.row [(N .i64 0),(N .u64 0),(N .i64 0),(St []),(St []),(St []),(.sc (.slice none 0 0))] false TE 0)).put M6.next (.row (AV.agg (aV e dv)).cells false TE 0)).next:=by rw [iF]; simp [RM.push]
    generalize (M6.push (.row [(N .i64 0),(N .u64 0),(N .i64 0),(St []),(St []),(St []),(.sc (.slice none 0 0))] false TE 0)).put M6.next (.row (AV.agg (aV e dv)).cells false TE 0)=M7 at *
    generalize hb8:M6.next=b8 at *
    rw [aY,eB (i:=0 + 6) f7 (by rw [LZ]; decide) rfl rfl,Og]
    have k8:ag [] M6 (M7.put b8 (.row (aV e bJ) false TE 0)):=k7.put _ (.inl (by omega))
    have f8:(M7.put b8 (.row (aV e bJ) false TE 0)).heap b8=some (.row (aV e bJ) false TE 0):=aP _
    have n8:(M7.put b8 (.row (aV e bJ) false TE 0)).next=M7.next:=rfl
    generalize M7.put b8 (.row (aV e bJ) false TE 0)=M8 at *
    rw [bP (n:=7) f8 rfl]
    refine hG (kv:=bJ) (ks:=[]) .nil fun M9 k9=>?_
    have k69:=k8.trans k9
    have s2:=k69.aK r2 (by omega) (by simp)
    have s4:=k69.aK r4 (by omega) (by simp)
    have hks9:Sl aR M9 dv ks:=aN.keep hks6 k69 (by simp)
    refine Pp (P:=fun M'=>ag [] M9 M') (p:=!decide (e.1∈ks)) (ag.refl _ _) (fun _ k' hk'=>?_) fun M10 k10=>?_
    ·rw [aY,az (i:=0 + 6) (x:=dv) s2 rfl,bz,ve s2]
     refine hC hks9 (by omega) fun M10 k10=>?_
     rw [bB]
     exact hk' M10 k10
    have n9:=k69.next
    have u4:=k10.aK s4 (by omega) (by simp)
    have k010:=(k06.trans k69).trans k10
    refine aF (fun _=>fin M10 2 (by decide) k010 u4) (fun _=>hJ [] M10 ⟨rfl,k010,u4⟩)
def setOf (d:ak) (c f a:List UInt8) : je:=(d,(1,(c,(f,a))))
def vC (es:List aL) (c f:List UInt8) : List aL:=(es.filter fun x=>x.2.1 == c).filter fun x=>!JU f x
def gL (es:List aL) (c f:List UInt8) : List ak:=j6 kW ((vC es c f).map fun x=>x.1)
def AP (TS T:Nat) (c:aj) : Prop:=∀ {M:RM} {t:Nat} {B:Nat→Prop} {ps:List Pt} {es:List aL} {d:ak} {s f a:List UInt8} {Q:ah},kH TS T B M t ps es→es.length≤50000 →
 (∀ kv M',f≠[]→bY (setOf d s f a) (gL es s f)=true→Sl aR M' kv (gL es s f)→(∀ d∈aH kv,M.next≤d)→ag [] M M'→Q (.tup [.agg (aV (setOf d s f a) kv),N .i64 0]) M') →
 (∀ n M',(f=[]∨bY (setOf d s f a) (gL es s f)=false)→n≠(0:Int)→ag [] M M'→Q (.tup [.agg (aV iR bJ),N .i64 n]) M')→c [.ptr t 0,.agg (aO d),St s,St f,St a] M Q
theorem MB {TS T TD TE:Nat} {co cm:aj} (hO:Qa TS T co) (hM:Pq cm) : AP TS T fun args M Q=>∃ a0 a1 a2 a3 a4,args=[a0,a1,a2,a3,a4]∧rF TD TE co cm a0 a1 a2 a3 a4 M Q:=by
 intro M t B ps es d s f a Q hst hl hok hbad
 refine ⟨_,_,_,_,_,rfl, ?_⟩
 unfold rF
 rw [dH rfl (by show 1≤2; decide),bi,bi]
 have k1:ag [] M ((M.push (.row (aO d) false TD 0)).push (.row [(N .i64 0),(N .u64 0),(N .i64 0),(St []),(St []),(St []),(.sc (.slice none 0 0))] false TE 0)):=((ag.refl _ _).push _).push _
 have h1:((M.push (.row (aO d) false TD 0)).push (.row [(N .i64 0),(N .u64 0),(N .i64 0),(St []),(St []),(St []),(.sc (.slice none 0 0))] false TE 0)).heap M.next=some (.row (aO d) false TD 0):=jV (RM.aQ _) (by simp [RM.push])
 have h2:((M.push (.row (aO d) false TD 0)).push (.row [(N .i64 0),(N .u64 0),(N .i64 0),(St []),(St []),(St []),(.sc (.slice none 0 0))] false TE 0)).heap (M.next + 1)=some (.row (aV iR bJ) false TE 0):=RM.aQ _
 have n1:((M.push (.row (aO d) false TD 0)).push (.row [(N .i64 0),(N .u64 0),(N .i64 0),(St []),(St []),(St []),(.sc (.slice none 0 0))] false TE 0)).next=M.next + 2:=rfl
 rw [show (M.push (.row (aO d) false TD 0)).next=M.next + 1 from rfl]
 generalize (M.push (.row (aO d) false TD 0)).push (.row [(N .i64 0),(N .u64 0),(N .i64 0),(St []),(St []),(St []),(.sc (.slice none 0 0))] false TE 0)=M1 at *
 have nM:M.next≤M1.next:=k1.next
 have st1:=hst.keep k1 (by simp) (by simp)
 generalize hb:M.next=b at *
 rw [bP (n:=2) h1 rfl,ja]
 refine ⟨aV (setOf d s f a) bJ,rfl, ?_⟩
 rw [bi,dI (n:=7) (x:=.agg (aV (setOf d s f a) bJ)) (l:=[(N .i64 0),(N .u64 0),(N .i64 0),(St []),(St []),(St []),(.sc (.slice none 0 0))]) (RM.aQ _) rfl rfl rfl]
 have k2:ag [] M1 ((M1.push (.row [(N .i64 0),(N .u64 0),(N .i64 0),(St []),(St []),(St []),(.sc (.slice none 0 0))] false TE 0)).put M1.next (.row (AV.agg (aV (setOf d s f a) bJ)).cells false TE 0)):=((ag.refl _ _).push _).new _ (Nat.le_refl _)
 have h3:((M1.push (.row [(N .i64 0),(N .u64 0),(N .i64 0),(St []),(St []),(St []),(.sc (.slice none 0 0))] false TE 0)).put M1.next (.row (AV.agg (aV (setOf d s f a) bJ)).cells false TE 0)).heap M1.next=some (.row (aV (setOf d s f a) bJ) false TE 0):=aP _
 have n2:M1.next<((M1.push (.row [(N .i64 0),(N .u64 0),(N .i64 0),(St []),(St []),(St []),(.sc (.slice none 0 0))] false TE 0)).put M1.next (.row (AV.agg (aV (setOf d s f a) bJ)).cells false TE 0)).next:=by rw [iF]; simp [RM.push]
 generalize (M1.push (.row [(N .i64 0),(N .u64 0),(N .i64 0),(St []),(St []),(St []),(.sc (.slice none 0 0))] false TE 0)).put M1.next (.row (AV.agg (aV (setOf d s f a) bJ)).cells false TE 0)=M2 at *
 have g2:=k2.aK h2 (by omega) (by simp)
 have k02:=k1.trans k2
 rw [mZ]
 refine aF (fun hc=>?_) (fun hc=>?_)
 ·rw [ja]
  refine ⟨aV iR bJ,rfl, ?_⟩
  rw [dI (n:=7) (x:=.agg (aV iR bJ)) (l:=aV iR bJ) g2 rfl rfl rfl,bP (n:=7) (aP _) rfl]
  exact hbad 1 _ (.inl (by simpa using hc)) (by decide) (k02.new _ (by omega))
 ·have hf:f≠[]:=by simpa using hc
  rw [bP (n:=7) h3 rfl]
  refine hO (st1.keep k2 (by simp) (by simp)) hl fun v M3 hv k3=>?_
  have n3:=k3.next
  have h3':=k3.aK h3 n2 (by simp)
  have g3:=k3.aK g2 (by omega) (by simp)
  have hfl:(vC es s f).length≤50000:=Nat.le_trans (List.length_filter_le _ _) (Nat.le_trans (List.length_filter_le _ _) hl)
  rw [bP (n:=7) h3' rfl]
  refine ⟨rfl,hM (xs:=vC es s f) hv hfl (fun kv M4 hg hkv hkb k4=>?_) (fun n M4 hg hn k4=>?_)⟩
  ·rw [ic,il]
   have n4:=k4.next
   have g4:=k4.aK g3 (by omega) (by simp)
   rw [dI (n:=7) (x:=.agg (aV (setOf d s f a) kv)) (l:=aV iR bJ) g4 rfl rfl (tZ hkv),bP (n:=7) (aP _) rfl]
   have k04:=(k02.trans k3).trans k4
   have k5:ag [b + 1] M4 (M4.put (b + 1) (.row (AV.agg (aV (setOf d s f a) kv)).cells false TE 0)):=(ag.refl _ _).put _ (.inr (by simp))
   exact hok kv _ hf hg (aN.keep hkv k5 (fun d' hd hm=>by simp at hm; have:=hkb d' hd; omega)) (fun d' hd=>by have:=hkb d' hd; omega) (k04.dB k5 (fun d' hd=>by simp at hd; omega))
  ·rw [ic,il]
   have n4:=k4.next
   have g4:=k4.aK g3 (by omega) (by simp)
   rw [dI (n:=7) (x:=.agg (aV iR bJ)) (l:=aV iR bJ) g4 rfl rfl rfl,bP (n:=7) (aP _) rfl]
   exact hbad n _ (.inr hg) hn (((k02.trans k3).trans k4).new _ (by omega))
def oH (c f:List UInt8) (x:aL) : Bool:=(x.2.1 == c) && ((f == []) || (x.2.2.1 == f))
def K4 (TN:Nat) (c:aj) : Prop:=∀ {M:RM} {v:AV} {es:List aL} {s f:List UInt8} {Q:ah},Sl aC M v es→es.length≤50000→(∀ v' M',Ow aC M' M.next TN v' (es.filter (oH s f))→ag [] M M'→Q v' M')→c [v,St s,St f] M Q
theorem O9 {TN:Nat} : K4 TN fun args M Q=>∃ a0 a1 a2,args=[a0,a1,a2]∧TV TN a0 a1 a2 M Q:=by
 intro M v es s f Q hv hlen hQ
 refine ⟨_,_,_,rfl, ?_⟩
 unfold TV
 simp only [iA,eD,dN,dQ,bT]
 refine ⟨_,_,_,_,rfl,rfl,by decide,by decide,by decide,by decide, ?_⟩
 dsimp only
 rw [bi]
 have k0:ag [] M (M.push (.row (bK [(N .i64 0),(N .u64 0),(St []),(St []),(St [])] 0) false TN 0)):=(ag.refl _ _).push _
 refine aG (fun z ys M3=>∃ (i:Nat) (dv:AV),z=es.length - i∧ys=[dv,N .i64 (i:Int)]∧i≤es.length∧ag [] M M3∧Ow aC M3 M.next TN dv ((es.take i).filter (oH s f))) _
  ⟨0,_,rfl,rfl,Nat.zero_le _,k0,Own.lit M (Nat.le_refl _)⟩ ?_
 rintro next z ys M3 hnext ⟨i,dv,rfl,rfl,hil,k3,o3⟩
 dsimp only [aa]
 have hv3:Sl aC M3 v es:=aN.keep hv k3 (by simp)
 rw [aN.len hv3,dS]
 refine aF (fun hlt=>?_) (fun hge=>?_)
 ·have hlt:i<es.length:=of_decide_eq_true hlt
  have n3:=k3.next
  have hfl:=vo (oH s f) es i
  refine aZ (fun zs M'=>∃ dv',zs=[dv']∧ag [] M M'∧Ow aC M' M.next TN dv' ((es.take (i + 1)).filter (oH s f))) ?_ ?_
  ·rintro zs M' ⟨dv',rfl,k',o'⟩
   dsimp only [aa]
   rw [add1 (by omega)]
   exact hnext _ _ _ (by omega) ⟨i + 1,dv',rfl,rfl,by omega,k',o'⟩
  intro J hJ
  rw [tY hlt] at hJ
  rw [OB hv3 hlt (j:=2) (x:=St es[i].2.1) rfl,mZ]
  refine Xk (q:=f == []) (r:=es[i].2.2.1 == f) (fun _ k hk=>?_) (fun _ _ k hk=>?_) ?_
  ·rw [mZ]; exact hk
  ·rw [OB hv3 hlt (j:=3) (x:=St es[i].2.2.1) rfl,mZ]; exact hk
  refine aF (fun hc=>?_) (fun hc=>?_)
  ·rw [oQ hv3 hlt,qN (x:=.agg (aC.cells es[i])) (size:=5) rfl (qp _) rfl,bi]
   refine yK (E:=aC) (a:=es[i]) o3 (by have:=k3.next; omega) (by decide) (by omega) (by omega) fun v2 M7 o7 k7 n7 _=>?_
   refine hJ _ _ ⟨v2,rfl,k3.dB k7 (fun d hd=>.inl (o3.blk d hd).1), ?_⟩
   rw [show oH s f es[i]=true from hc,if_pos rfl]
   exact o7
  ·refine hJ _ _ ⟨dv,rfl,k3, ?_⟩
   rw [show oH s f es[i]=false from hc,if_neg (by decide),List.append_nil]
   exact o3
 ·have he:i=es.length:=by
   have:¬ i<es.length:=of_decide_eq_false hge
   omega
  subst he
  rw [List.take_length] at o3
  exact hQ dv M3 o3 k3
end Go.Ab.Crw
set_option maxRecDepth 10000
set_option linter.unusedVariables false
set_option linter.unusedSimpArgs false
namespace Go.Ab.Crw
open Go Go.Ab Go.Ab.ak
theorem xW {es:List aL} {c f:List UInt8} (hf:f≠[]) {x:aL} : x∈vC es c f↔x∈es∧x.2.1=c∧x.2.2.1=f:=by
 unfold vC JU
 rw [List.mem_filter,List.mem_filter]
 have h1:(f != [])=true:=by simpa using hf
 rw [h1,Bool.true_and]
 constructor
 ·rintro ⟨⟨h,h2⟩,h3⟩
  exact ⟨h,by simpa using h2,by simpa using h3⟩
 ·rintro ⟨h,h2,h3⟩
  exact ⟨⟨h,by simpa using h2⟩,by simpa using h3⟩
theorem Jm {es:List aL} {c f:List UInt8} (hf:f≠[]) {x:aL} : x∈es.filter (oH c f)↔x∈es∧x.2.1=c∧x.2.2.1=f:=by
 unfold oH
 rw [List.mem_filter]
 have h1:(f == [])=false:=by simpa using hf
 rw [h1,Bool.false_or,Bool.and_eq_true]
 constructor
 ·rintro ⟨h,h2,h3⟩
  exact ⟨h,by simpa using h2,by simpa using h3⟩
 ·rintro ⟨h,h2,h3⟩
  exact ⟨h,by simpa using h2,by simpa using h3⟩
theorem x8 {es:List aL} {c f:List UInt8} (hf:f≠[]) {d:ak} : d∈gL es c f↔∃ x∈es,x.2.1=c∧x.2.2.1=f∧x.1=d:=by
 unfold gL
 rw [(qM tK _).mem_iff,List.mem_map]
 constructor
 ·rintro ⟨x,hx,rfl⟩
  obtain ⟨h1,h2,h3⟩:=(xW hf).1 hx
  exact ⟨x,h1,h2,h3,rfl⟩
 ·rintro ⟨x,h1,h2,h3,rfl⟩
  exact ⟨x,(xW hf).2 ⟨h1,h2,h3⟩,rfl⟩
theorem VW {w:List Ev} {s:jv} (h:Ch w s) {x:aL} (hx:x∈s.2) : ∃ e∈w,e.1.1=x.1:=by
 obtain ⟨e,he,_,rfl,_⟩:=(h.ents x).1 hx
 exact ⟨e,he,rfl⟩
structure Apart (w:List Ev) (s:jv) (c f a b cc:List UInt8) : Prop where
 ch:Ch w s
 good:∀ e∈w,bY e.1 e.2=true
 one:w.Pairwise fun x y=>x.1.1≠y.1.1
 len:w.length≤30
 dev:∀ e∈w,e.1.1.1<12∧∀ k∈e.2,k.1<12
 hf:f≠[]
 gx:bY (setOf (12,1) c f a) (gL s.2 c f)=true
 gy:bY (setOf (13,1) c f b) (gL s.2 c f)=true
 hc:cc.length≤512
section
variable {w:List Ev} {s:jv} {c f a b cc:List UInt8}
def kT (s:jv) (c f a:List UInt8) : Ev:=(setOf (12,1) c f a,gL s.2 c f)
def kL (s:jv) (c f b:List UInt8) : Ev:=(setOf (13,1) c f b,gL s.2 c f)
def og (c f cc:List UInt8) : Ev:=(setOf (14,1) c f cc,[(12,1),(13,1)])
def fe (w:List Ev) (s:jv) (c f a b cc:List UInt8) : List Ev:=w++[kT s c f a,kL s c f b,og c f cc]
theorem Apart.Vu (h:Apart w s c f a b cc) : bY (og c f cc).1 (og c f cc).2=true:=by
 have hx:=h.gx
 have hc:=h.hc
 have hf:=h.hf
 simp only [bY,Bool.and_eq_true,names,setOf,decide_eq_true_eq] at hx
 obtain ⟨⟨⟨⟨_,⟨⟨h1,h2⟩,h3⟩,_⟩,_⟩,_⟩,_⟩:=hx
 simp only [bY,og,setOf,Bool.and_eq_true,names,decide_eq_true_eq]
 refine ⟨⟨⟨⟨rfl,⟨⟨h1,h2⟩,h3⟩,decide_eq_true hc⟩,rfl⟩,rfl⟩, ?_⟩
 simp only [yC,Bool.or_eq_true,Bool.and_eq_true,decide_eq_true_eq]
 exact .inl ⟨trivial,hf⟩
theorem Apart.Ot (h:Apart w s c f a b cc) : ∀ e∈fe w s c f a b cc,bY e.1 e.2=true:=fun e he=>by
 rcases List.mem_append.1 he with he | he
 ·exact h.good e he
 ·simp only [List.mem_cons,List.not_mem_nil,or_false] at he
  rcases he with rfl | rfl | rfl
  ·exact h.gx
  ·exact h.gy
  ·exact h.Vu
theorem Apart.ne (h:Apart w s c f a b cc) : ∀ e∈w,e.1.1≠((12,1) : ak)∧e.1.1≠((13,1) : ak)∧e.1.1≠((14,1) : ak):=fun e he=>by
 have:=(h.dev e he).1
 refine ⟨fun h=>?_,fun h=>?_,fun h=>?_⟩ <;> rw [h] at this <;> simp at this
theorem Apart.WT (h:Apart w s c f a b cc) : (fe w s c f a b cc).Pairwise fun x y=>x.1.1≠y.1.1:=by
 unfold fe
 rw [List.pairwise_append]
 refine ⟨h.one, ?_,fun e he y hy=>?_⟩
 ·simp [kT,kL,og,setOf]
 ·have:=h.ne e he
  simp only [List.mem_cons,List.not_mem_nil,or_false] at hy
  rcases hy with rfl | rfl | rfl
  ·exact this.1
  ·exact this.2.1
  ·exact this.2.2
theorem Apart.cons (h:Apart w s c f a b cc) {l:List Ev} (hs:∀ e∈l,e∈fe w s c f a b cc) : Dk l:=(Nq h.WT).sub hs
theorem Apart.Uy (h:Apart w s c f a b cc) : (fB (fe w s c f a b cc)).length≤2145:=by
 have:=LA h.Ot
 have hl:=h.len
 have:(fe w s c f a b cc).length=w.length + 3:=by simp [fe]
 omega
theorem jY {l m:List Ev} (h:∀ e∈l,e∈m) : ∀ d∈fB l,d∈fB m:=fun d hd=>by
 obtain ⟨e,he,h'⟩:=jU.1 hd
 exact jU.2 ⟨e,h e he,h'⟩
theorem Apart.step (h:Apart w s c f a b cc) {l:List Ev} {t:jv} {x:Ev} (hl:Ch l t) (hs:∀ e∈l,e∈fe w s c f a b cc) (hx:x∈fe w s c f a b cc) (hn:∀ e∈l,e.1.1≠x.1.1) : Ch (l++[x]) (jh t x) :=
 hl.step (hl.FL (jY hs)) (by have:=h.Uy; omega) (h.Ot x hx) hn
theorem Apart.join (h:Apart w s c f a b cc) {l m:List Ev} {t u:jv} (hl:Ch l t) (hm:Ch m u) (hs:∀ e∈l,e∈fe w s c f a b cc) (hs' : ∀ e∈m,e∈fe w s c f a b cc) : Ch (l++m) (lI t.1 u.1,AA t.1 u.1 t.2 u.2) :=
 hl.join hm (h.cons fun e he=>by
  rcases List.mem_append.1 he with he | he
  ·exact hs e he
  ·exact hs' e he) (D:=fB (fe w s c f a b cc)) (by have:=h.Uy; omega) (jY hs) (jY hs')
theorem Apart.WL (h:Apart w s c f a b cc) : ∀ d∈gL s.2 c f,d.1<12:=fun d hd=>by
 obtain ⟨x,hx,_,_,rfl⟩:=(x8 h.hf).1 hd
 obtain ⟨e,he,hd⟩:=VW h.ch hx
 rw [← hd]
 exact (h.dev e he).1
theorem Apart.two (h:Apart w s c f a b cc) {l:List Ev} (hm:∀ e,e∈l↔e∈w∨e=kT s c f a∨e=kL s c f b) (t:aL) : (Live l t∧t.2.1=c∧t.2.2.1=f)↔t=dx (kT s c f a).1∨t=dx (kL s c f b).1:=by
 have hk:=h.WL
 have nk:∀ e,e∈l→∀ n:Int,12≤n→((n,1) : ak) ∉ e.2:=fun e he n hn hd=>by
  rcases (hm e).1 he with he | rfl | rfl
  ·have:=(h.dev e he).2 _ hd
   simp at this; omega
  ·have:=hk _ hd
   simp at this; omega
  ·have:=hk _ hd
   simp at this; omega
 constructor
 ·rintro ⟨⟨e,he,h1,rfl,h3⟩,h4,h5⟩
  rcases (hm e).1 he with he' | rfl | rfl
  ·have hmem:dx e.1∈s.2:=(h.ch.ents _).2 ⟨e,he',h1,rfl,fun g hg=>h3 g ((hm g).2 (.inl hg))⟩
   exact absurd ((x8 h.hf).2 ⟨_,hmem,h4,h5,rfl⟩) (h3 (kT s c f a) ((hm _).2 (.inr (.inl rfl))))
  ·exact .inl rfl
  ·exact .inr rfl
 ·rintro (rfl | rfl)
  ·exact ⟨⟨kT s c f a,(hm _).2 (.inr (.inl rfl)),rfl,rfl,fun g hg=>nk g hg 12 (by decide)⟩,rfl,rfl⟩
  ·exact ⟨⟨kL s c f b,(hm _).2 (.inr (.inr rfl)),rfl,rfl,fun g hg=>nk g hg 13 (by decide)⟩,rfl,rfl⟩
theorem Apart.three (h:Apart w s c f a b cc) {l:List Ev} (hm:∀ e,e∈l↔e∈w∨e=kT s c f a∨e=kL s c f b∨e=og c f cc) (t:aL) : (Live l t∧t.2.1=c∧t.2.2.1=f)↔t=dx (og c f cc).1:=by
 have hk:=h.WL
 constructor
 ·rintro ⟨⟨e,he,h1,rfl,h3⟩,h4,h5⟩
  have hz:=h3 (og c f cc) ((hm _).2 (.inr (.inr (.inr rfl))))
  rcases (hm e).1 he with he' | rfl | rfl | rfl
  ·have hmem:dx e.1∈s.2:=(h.ch.ents _).2 ⟨e,he',h1,rfl,fun g hg=>h3 g ((hm g).2 (.inl hg))⟩
   exact absurd ((x8 h.hf).2 ⟨_,hmem,h4,h5,rfl⟩) (h3 (kT s c f a) ((hm _).2 (.inr (.inl rfl))))
  ·exact absurd (show ((12,1) : ak)∈[((12,1) : ak),(13,1)] by simp) hz
  ·exact absurd (show ((13,1) : ak)∈[((12,1) : ak),(13,1)] by simp) hz
  ·rfl
 ·rintro rfl
  refine ⟨⟨og c f cc,(hm _).2 (.inr (.inr (.inr rfl))),rfl,rfl,fun g hg=>?_⟩,rfl,rfl⟩
  show ((14,1) : ak) ∉ g.2
  intro hd
  rcases (hm g).1 hg with hg | rfl | rfl | rfl
  ·have:=(h.dev g hg).2 _ hd
   simp at this
  ·have:=hk _ hd
   simp at this
  ·have:=hk _ hd
   simp at this
  ·simp [og] at hd
theorem Q0:uM [dx (kT s c f a).1,dx (kL s c f b).1]:=by
 refine List.pairwise_cons.2 ⟨fun y hy=>?_,List.pairwise_singleton _ _⟩
 rw [List.mem_singleton] at hy
 subst hy
 simp [gT,lex,dx,kT,kL,setOf]
 exact ⟨mY.irrefl c,mY.irrefl f⟩
theorem Ob:[dx (kT s c f a).1,dx (kL s c f b).1].Pairwise fun x y=>x.1≠y.1:=by
 simp [dx,kT,kL,setOf]
theorem Apart.Vj (h:Apart w s c f a b cc) {l:List Ev} {t:jv} (hl:Ch l t) (hm:∀ e,e∈l↔e∈w∨e=kT s c f a∨e=kL s c f b) : t.2.filter (oH c f)=[dx (kT s c f a).1,dx (kL s c f b).1]∧gL t.2 c f=[(12,1),(13,1)]:=by
 have key:∀ x,(x∈t.2∧x.2.1=c∧x.2.2.1=f)↔x∈[dx (kT s c f a).1,dx (kL s c f b).1]:=fun x=>by
  rw [hl.ents,h.two hm]; simp
 have e1:vC t.2 c f=[dx (kT s c f a).1,dx (kL s c f b).1]:=zC ((hl.up.filter _).filter _) Q0 ((hl.one.filter _).filter _) Ob fun x=>by
  rw [xW h.hf,key]
 refine ⟨zC (hl.up.filter _) Q0 (hl.one.filter _) Ob fun x=>by rw [Jm h.hf,key], ?_⟩
 unfold gL
 rw [e1]
 show j6 kW [((12,1) : ak),(13,1)]=_
 refine (qM tK _).eq_of_pairwise (le:=fun x y=>kW y x=false) (fun x y hx hy hxy hyx=>?_) (U2 tK _) ?_
 ·have hx:=(qM tK _).mem_iff.1 hx
  simp only [List.mem_cons,List.not_mem_nil,or_false] at hx hy
  rcases hx with rfl | rfl <;> rcases hy with rfl | rfl
  ·rfl
  ·simp [kW,lex] at hyx
  ·simp [kW,lex] at hxy
  ·rfl
 ·simp [kW,lex]
theorem Apart.UW (h:Apart w s c f a b cc) {l:List Ev} {t:jv} (hl:Ch l t) (hm:∀ e,e∈l↔e∈w∨e=kT s c f a∨e=kL s c f b∨e=og c f cc) : t.2.filter (oH c f)=[dx (og c f cc).1] :=
 zC (hl.up.filter _) (List.pairwise_singleton _ _) (hl.one.filter _) (List.pairwise_singleton _ _) fun x=>by
  rw [Jm h.hf,hl.ents,h.three hm]; simp
end
end Go.Ab.Crw
set_option maxRecDepth 10000
set_option linter.unusedVariables false
set_option linter.unusedSimpArgs false
namespace Go.Ab.Crw
open Go Go.Ab Go.Ab.ak
structure SH (TS T:Nat) (M:RM) (t:Nat) (B:Nat→Prop) (s:jv) : Prop where
 st:kH TS T B M t s.1 s.2
 lo:∀ d,B d→d<M.next
def Off (t:Nat) (B:Nat→Prop) (x:Nat) : Prop:=x≠t∧¬ B x
def Sep (t:Nat) (B:Nat→Prop) (u:Nat) (C:Nat→Prop) : Prop:=Off t B u∧Off u C t∧∀ d,B d→¬ C d
theorem Sep.symm {t u:Nat} {B C:Nat→Prop} (h:Sep t B u C) : Sep u C t B:=⟨h.2.1,h.1,fun d hd hb=>h.2.2 d hb hd⟩
theorem SH.of {TS T t:Nat} {M:RM} {B:Nat→Prop} {ps:List Pt} {es:List aL} (h:kH TS T B M t ps es) : SH TS T M t (fun d=>B d∧d<M.next) (ps,es):=⟨h.below,fun d hd=>hd.2⟩
theorem Off.grow {t x n:Nat} {B B' : Nat→Prop} (h:Off t B x) (hx:x<n) (hB:∀ d,B' d→B d∨n≤d) : Off t B' x:=⟨h.1,fun hb=>by
 rcases hB x hb with h' | h'
 ·exact h.2 h'
 ·omega⟩
theorem Sep.grow {t u n:Nat} {B B' C:Nat→Prop} (h:Sep t B u C) (hu:u<n) (hC:∀ d,C d→d<n) (hB:∀ d,B' d→B d∨n≤d) : Sep t B' u C :=
 ⟨h.1.grow hu hB,h.2.1,fun d hd hc=>by
  rcases hB d hd with h' | h'
  ·exact h.2.2 d h' hc
  ·have:=hC d hc; omega⟩
theorem SH.keep {TS T t u r:Nat} {M M' : RM} {B C:Nat→Prop} {s:jv} (h:SH TS T M u C s) (k:ag [t,r] M M') (hs:Sep t B u C) (hr:r=t∨B r) : SH TS T M' u C s:=by
 refine ⟨h.st.keep k ?_ ?_,fun d hd=>Nat.lt_of_lt_of_le (h.lo d hd) k.next⟩
 ·intro hm
  simp only [List.mem_cons,List.not_mem_nil,or_false] at hm
  rcases hm with e | e
  ·exact hs.1.1 e
  ·rcases hr with hr | hr
   ·exact hs.1.1 (e.trans hr)
   ·exact hs.1.2 (e▸hr)
 ·intro d hd hc
  simp only [List.mem_cons,List.not_mem_nil,or_false] at hd
  rcases hd with rfl | rfl
  ·exact hs.2.1.2 hc
  ·rcases hr with hr | hr
   ·exact hs.2.1.2 (hr▸hc)
   ·exact hs.2.2 _ hr hc
theorem SH.ek {TS T u:Nat} {M M' : RM} {C:Nat→Prop} {s:jv} (h:SH TS T M u C s) (k:ag [] M M') : SH TS T M' u C s:=⟨h.st.keep k (by simp) (by simp),fun d hd=>Nat.lt_of_lt_of_le (h.lo d hd) k.next⟩
structure vN (TE:Nat) (M:RM) (b:Nat) (e:je) (kv:AV) (ks:List ak) : Prop where
 lt:b<M.next
 row:M.heap b=some (.row (aV e kv) false TE 0)
 kills:Sl aR M kv ks
def BP (t:Nat) (B:Nat→Prop) (b:Nat) (kv:AV) : Prop:=Off t B b∧∀ d∈aH kv,Off t B d
theorem BP.grow {TE t b:Nat} {M:RM} {B B' : Nat→Prop} {e:je} {kv:AV} {ks:List ak} (h:BP t B b kv) (hE:vN TE M b e kv ks) (hB:∀ d,B' d→B d∨M.next≤d) : BP t B' b kv :=
 ⟨h.1.grow hE.lt hB,fun d hd=>(h.2 d hd).grow (aN.lt hE.kills d hd) hB⟩
theorem vN.keep {TE t b r:Nat} {M M' : RM} {B:Nat→Prop} {e:je} {kv:AV} {ks:List ak} (h:vN TE M b e kv ks) (k:ag [t,r] M M') (ho:BP t B b kv) (hr:r=t∨B r) : vN TE M' b e kv ks:=by
 have key:∀ x,Off t B x→x ∉ [t,r]:=fun x hx hm=>by
  simp only [List.mem_cons,List.not_mem_nil,or_false] at hm
  rcases hm with e | e
  ·exact hx.1 e
  ·rcases hr with hr | hr
   ·exact hx.1 (e.trans hr)
   ·exact hx.2 (e▸hr)
 exact ⟨Nat.lt_of_lt_of_le h.lt k.next,k.aK h.row h.lt (key b ho.1),aN.keep h.kills k fun d hd=>key d (ho.2 d hd)⟩
theorem vN.ek {TE b:Nat} {M M' : RM} {e:je} {kv:AV} {ks:List ak} (h:vN TE M b e kv ks) (k:ag [] M M') : vN TE M' b e kv ks:=⟨Nat.lt_of_lt_of_le h.lt k.next,k.aK h.row h.lt (by simp),aN.keep h.kills k (by simp)⟩
section
variable {TS T:Nat}
theorem GG {c:aj} (hA:Ck TS T c) {M:RM} {t k:Nat} {B:Nat→Prop} {s:jv} {e:je} {kv:AV} {ks:List ak} {Q:ah} (h:SH TS T M t B s) (hk:SI k s.1) (hk2:k + 65≤4000) (hl:s.2.length≤50000) (hkv:Sl aR M kv ks) (ho:t ∉ aH kv) (hg:bY e ks=true)
  (hQ:∀ v M' B',SH TS T M' t B' (jh s (e,ks))→(∀ d,B' d→B d∨M.next≤d)→ag [t,t] M M'→Q v M') : c [.ptr t 0,.agg (aV e kv)] M Q:=by
 refine hA h.st hk hk2 hl hkv ho (fun hb=>by rw [hg] at hb; cases hb) fun _ M' st' k'=>?_
 have e1:jh s (e,ks)=(uz s.1 e ks,iY s.1 s.2 e ks):=by unfold jh; rw [if_pos hg]
 refine hQ _ M' (fun d=>(B d∨M.next≤d)∧d<M'.next) ?_ (fun d hd=>hd.1) (k'.mono (by simp))
 rw [e1]
 exact SH.of st'
theorem Mr {c:aj} (hj:Dj TS T c) {M:RM} {t u k l:Nat} {B C:Nat→Prop} {s r:jv} {Q:ah} (h:SH TS T M t B s) (g:SH TS T M u C r) (hs:Sep t B u C) (hk:SI k s.1) (hl:SI l r.1) (hk4:k≤4096) (hl4:l≤4096) (hlen:s.2.length + r.2.length≤50000) (hu:uM s.2) (gu:uM r.2)
  (hQ:∀ v M' B' x,B x→SH TS T M' t B' (lI s.1 r.1,AA s.1 r.1 s.2 r.2)→(∀ d,B' d→B d∨M.next≤d)→ag [t,x] M M'→Q v M') : c [.ptr t 0,.ptr u 0] M Q :=
 hj h.st g.st (fun e=>absurd e.symm hs.1.1) (fun _=>hs.2.2) hs.2.1.2 hs.1.2 hk hl hk4 hl4 hlen hu gu fun x M' hx st' k' =>
  hQ _ M' (fun d=>(B d∨M.next≤d)∧d<M'.next) x hx (SH.of st') (fun d hd=>hd.1) k'
theorem x9 {c:aj} (hM:AP TS T c) {M:RM} {t:Nat} {B:Nat→Prop} {s:jv} {d:ak} {cn f a:List UInt8} {Q:ah} (h:SH TS T M t B s) (hl:s.2.length≤50000)
  (hQ:∀ X (n:Int) M',X.length=7→X.all oneCell=true→(n=0→∃ kv,X=aV (setOf d cn f a) kv∧f≠[]∧bY (setOf d cn f a) (gL s.2 cn f)=true∧Sl aR M' kv (gL s.2 cn f)∧∀ d∈aH kv,M.next≤d)→(n≠0→f=[]∨bY (setOf d cn f a) (gL s.2 cn f)=false)→ag [] M M'→Q (.tup [.agg X,N .i64 n]) M') :
  c [.ptr t 0,.agg (aO d),St cn,St f,St a] M Q :=
 hM h.st hl (fun kv M' hf hg hkv hkb k=>hQ _ 0 M' rfl (tZ hkv) (fun _=>⟨kv,rfl,hf,hg,hkv,hkb⟩) (fun h=>absurd rfl h) k)
  fun n M' hb hn k=>hQ _ n M' rfl rfl (fun h=>absurd h hn) (fun _=>hb) k
end
theorem Nt {M:RM} {v:AV} {l:List Ev} {S:Nat→Prop} (h:gX rQ M v l S) {i:Nat} (hi:i<l.length) :
  ∃ b o kv,(∀ (kd:IntKind) (K:AV→Prop),au v (N kd (i:Int)) 7 K=K (.ptr b o))∧M.loads b o 7=some (aV l[i].1 kv)∧Sl aR M kv l[i].2:=by
 obtain ⟨b,o,cs,_,_,hidx,hld,ds,hcs,kv,hds,hkv⟩:=h.at (i:=i) 7 (i:Int) hi rfl rfl
 subst hds
 subst hcs
 exact ⟨b,o,kv,hidx,hld,gX.sl hkv⟩
theorem yS {M:RM} {b o k j:Nat} {cs:List AV} {x:AV} (h:M.loads b o k=some cs) (hj:cs[j]?=some x) {K:AV→Prop} (hK:K x) : ax M (.ptr b (o + j)) K:=by
 rw [jL]
 exact ⟨x,uK h hj,hK⟩
end Go.Ab.Crw
