/- Part 2 of the ground of the proofs of this seat (texts R2 to R8b). By an AI agent. -/
import Derived.Test.YtcoihknokhdbkaaGreatDoorTev1
import Derived.Laws.StructEq
import Derived.Lib.UnsafeStr
set_option linter.unusedVariables false
set_option linter.unusedSimpArgs false
namespace Go.Ab
open Go Go.RowKit
abbrev N(k:IntKind)(n:Int):AV:=.sc (.int k n)
abbrev Bo(b:Bool):AV:=.sc (.bool b)
abbrev St(l:List UInt8):AV:=.sc (.string ⟨⟨l⟩⟩)
def uF(op:BinOp)(k:IntKind)(a b:Int):Option Value :=
 match op with
 |.add=>some (.int k (k.wrap (a+b)))
 |.sub=>some (.int k (k.wrap (a-b)))
 |.mul=>some (.int k (k.wrap (a*b)))
 |.quo=>if b=0 then none else some (.int k (k.wrap (a.tdiv b)))
 |.rem=>if b=0 then none else some (.int k (a.tmod b))
 |.and=>some (.int k (k.wrap (BitVec.ofInt k.bits a &&& BitVec.ofInt k.bits b).toNat))
 |.or=>some (.int k (k.wrap (BitVec.ofInt k.bits a ||| BitVec.ofInt k.bits b).toNat))
 |.xor=>some (.int k (k.wrap (BitVec.ofInt k.bits a ^^^ BitVec.ofInt k.bits b).toNat))
 |.andNot=>some (.int k (k.wrap (BitVec.ofInt k.bits a &&& ~~~BitVec.ofInt k.bits b).toNat))
 |.eql=>some (.bool (a==b))
 |.neq=>some (.bool (a != b))
 |.lss=>some (.bool (decide (a<b)))
 |.leq=>some (.bool (decide (a≤b)))
 |.gtr=>some (.bool (decide (a>b)))
 |.geq=>some (.bool (decide (a≥b)))
 |_=>none
def wV(op:BinOp)(k:IntKind)(a b:Int):Option Value :=
 if b<0 then none else
 match op with
 |.shl=>some (.int k (k.wrap (a*2^(min b.toNat k.bits))))
 |.shr=>some (.int k (a.fdiv (2^(min b.toNat k.bits))))
 |_=>none
def ag(op:BinOp)(x y:AV)(K:AV→Prop):Prop:=∃ k a b v,x=N k a∧y=N k b∧uF op k a b=some v∧K (.sc v)
def qj(op:BinOp)(x y:AV)(K:AV→Prop):Prop:=∃ k a l b v,x=N k a∧y=N l b∧wV op k a b=some v∧K (.sc v)
def dI(op:BinOp)(x y:AV)(K:AV→Prop):Prop:=∃ a b v,x=St a∧y=St b∧Dl op a b=some v∧K v
def FC(neg:Bool)(x y:AV)(K:AV→Prop):Prop:=∃ a b,x=Bo a∧y=Bo b∧K (Bo ((a==b) != neg))
def Ad:AV→AV→Option Bool
 |.ptr b o,.ptr c p=>if b=c then some (decide (o=p))else none
 |.ptr _ _,.sc (.pointer none)=>some false
 |.sc (.pointer none),.ptr _ _=>some false
 |.sc (.pointer none),.sc (.pointer none)=>some true
 |.slc _ _ _ _,.sc (.slice none 0 0)=>some false
 |.emp _,.sc (.slice none 0 0)=>some false
 |.sc (.slice none 0 0),.sc (.slice none 0 0)=>some true
 |.map _,.sc (.map none)=>some false
 |.sc (.map none),.sc (.map none)=>some true
 |.fn _ _ _,.sc .nilFunc=>some false
 |.sc .nilFunc,.sc .nilFunc=>some true
 |.ifc _ _,.sc .nilIface=>some false
 |_,_=>none
def xL(P:Program)(t:TypeId):Nat :=
 match P.underlying t with
 |some (.pointer el)=>match aL P el with|some (_+1)=>1|_=>0
 |some (.slice _)=>2
 |some (.map _ _)=>3
 |some (.func _ _ _)=>4
 |some (.interface _)=>5
 |_=>0
def TR:AV→Nat
 |.ptr _ _|.sc (.pointer none)=>1
 |.slc _ _ _ _|.emp _|.sc (.slice none 0 0)=>2
 |.map _|.sc (.map none)=>3
 |.fn _ _ _|.sc .nilFunc=>4
 |.ifc _ _=>5
 |_=>6
def jr(neg:Bool)(tag:Nat)(x y:AV)(K:AV→Prop):Prop:=TR x=tag∧∃ r,Ad x y=some r∧K (Bo (r != neg))
def afB(neg:Bool)(x y:AV)(K:AV→Prop):Prop:=jr neg 5 x y K∨(x=.sc .nilIface∧y=.sc .nilIface∧K (Bo (!neg)))
def isC:Operand→Bool
 |.const _=>true
 |_=>false
def yC(neg:Bool)(tag:Nat)(y:Operand)(x u:AV)(K:AV→Prop):Prop:=match Nat.beq tag 5&&isC y with
 |true=>afB neg x u K
 |false=>jr neg tag x u K
def Cb(P:Program)(g:TypeId→Option (List Nat)):List Field→Nat→Option (List Nat)
 |[],_=>some []
 |f::fs,off=>match f.name == "_",Nat.beq f.offset off,g f.type,aL P f.type with
  |false,true,some ks,some n=>match Nat.beq n ks.length,Cb P g fs (off+n)with
   |true,some r=>some (ks++r)
   |_,_=>none
  |_,_,_,_=>none
def il(P:Program):Nat→TypeId→Option (List Nat)
 |0,_=>none
 |d+1,t=>match P.underlying t with
  |some (.int _)=>some [1]
  |some .string=>some [2]
  |some .bool=>some [3]
  |some (.struct fs)=>match P.stoodInHeld t with
   |true=>none
   |false=>Cb P (il P d) fs.toList 0
  |_=>none
def PI(P:Program)(t:TypeId):Option (List Nat) :=
 match P.eqGuardType P.depth t with
 |true=>none
 |false=>il P 10 t
def mo:Nat→AV→AV→Option Bool
 |1,.sc (.int k a),.sc (.int l b)=>if k=l then some (a==b)else none
 |2,.sc (.string a),.sc (.string b)=>some (a.data.toList==b.data.toList)
 |3,.sc (.bool a),.sc (.bool b)=>some (a==b)
 |_,_,_=>none
def df:List Nat→List AV→List AV→Option Bool
 |[],[],[]=>some true
 |k::ks,x::xs,y::ys=>match mo k x y with
  |some true=>df ks xs ys
  |some false=>some false
  |none=>none
 |_,_,_=>none
def FH(neg:Bool)(ks:List Nat)(x y:AV)(K:AV→Prop):Prop:=∃ cs ds r,x=.agg cs∧y=.agg ds∧cs.length=ks.length∧ds.length=ks.length∧df ks cs ds=some r∧K (Bo (r != neg))
def aM(c a b:AV)(K:AV→Prop):Prop:=∃ t,c=Bo t∧K (if t then a else b)
def dU(x:AV)(K:AV→Prop):Prop:=∃ b o,x=.ptr b o∧K (.ptr b o)
def aZ(x:AV)(n:Nat)(K:AV→Prop):Prop:=∃ b o,x=.ptr b o∧K (.ptr b (o+n))
def ed(x i:AV)(size:Nat)(K:AV→Prop):Prop:=∃ b p len cap k n,x=.slc b p len cap∧i=N k n∧0≤n∧n<len∧K (.ptr b (p+n.toNat*size))
def eF(x i:AV)(len size:Nat)(K:AV→Prop):Prop:=∃ b p k n,x=.ptr b p∧i=N k n∧0≤n∧n<len∧K (.ptr b (p+n.toNat*size))
def LC(x:AV)(off:Nat)(K:AV→Prop):Prop:=∃ cs v,x=.agg cs∧cs[off]?=some v∧K v
def K9(x:AV)(off n:Nat)(K:AV→Prop):Prop:=∃ cs,x=.agg cs∧off+n≤cs.length∧K (.agg ((cs.drop off).take n))
def Iz(x i:AV)(len:Nat)(K:AV→Prop):Prop:=∃ cs k n v,x=.agg cs∧i=N k n∧0≤n∧n<len∧cs[n.toNat]?=some v∧K v
def K5(x i:AV)(len size:Nat)(K:AV→Prop):Prop:=∃ cs k n,x=.agg cs∧i=N k n∧0≤n∧n<len∧n.toNat*size+size≤cs.length∧K (.agg ((cs.drop (n.toNat*size)).take size))
def gP(x i:AV)(K:AV→Prop):Prop:=∃ s k n b,x=St s∧i=N k n∧0≤n∧s[n.toNat]?=some b∧K (N .u8 b.toNat)
def bz(x:AV)(i:Nat)(K:AV→Prop):Prop:=∃ vs v,x=.tup vs∧vs[i]?=some v∧K v
def bnd(d:Nat):Option AV→Option Nat
 |none=>some d
 |some (.sc (.int _ n))=>if 0≤n then some n.toNat else none
 |_=>none
def bI(size:Nat)(x:AV)(lo hi mx:Option AV):Option AV :=
 match x with
 |.slc b o len cap =>
  match bnd 0 lo,bnd len hi with
  |some l,some h =>
   match mx with
   |none=>match cap with
    |.ex c=>if l≤h∧h≤c then(if c=l then some (.slc b o 0 (.ex 0))else some (.slc b (o+l*size) (h-l) (.ex (c-l))))else none
    |.op esz=>if l≤h∧h≤len∧size=esz then(if len≤l then some (.emp b)else some (.slc b (o+l*size) (h-l) (.op esz)))else none
   |some y=>match hi,bnd 0 (some y)with
    |some _,some m=>if l≤h∧h≤m∧m≤(match cap with|.ex c=>c|.op _=>len)then(if m=l then some (.slc b o 0 (.ex 0))else some (.slc b (o+l*size) (h-l) (.ex (m-l))))else none
    |_,_=>none
  |_,_=>none
 |.emp b=>match bnd 0 lo,bnd 0 hi,mx with
  |some 0,some 0,none=>some (.emp b)
  |_,_,_=>none
 |.sc (.slice none 0 0)=>match bnd 0 lo,bnd 0 hi,mx with
  |some 0,some 0,none=>some x
  |some 0,some 0,some y=>match hi,bnd 0 (some y)with
   |some _,some 0=>some x
   |_,_=>none
  |_,_,_=>none
 |_=>none
def Jy(n size:Nat)(x:AV)(lo hi:Option AV):Option AV :=
 match x with
 |.ptr b o=>match bnd 0 lo,bnd n hi with
  |some l,some h=>if l≤h∧h≤n then(if n=l then some (.slc b o 0 (.ex 0))else some (.slc b (o+l*size) (h-l) (.ex (n-l))))else none
  |_,_=>none
 |_=>none
def dF(x:AV)(lo hi:Option AV):Option AV :=
 match x with
 |.sc (.string s)=>match bnd 0 lo,bnd s.data.toList.length hi with
  |some l,some h=>if l≤h∧h≤s.data.toList.length then some (St ((s.data.toList.drop l).take (h-l)))else none
  |_,_=>none
 |_=>none
def dz(r:Option AV)(K:AV→Prop):Prop:=∃ v,r=some v∧K v
def nC:List AV→List (Nat×Nat×AV)→Option (List AV)
 |cs,[]=>some cs
 |cs,(off,size,v)::rest=>if known v=true∧v.cells.length=size∧off+size≤cs.length then nC (cs.take off++v.cells++cs.drop (off+size)) rest else none
def iV(cs:List AV)(parts:List (Nat×Nat×AV))(K:AV→Prop):Prop:=∃ cs',nC cs parts=some cs'∧K (.agg cs')
def iR(k:IntKind)(x:AV)(K:AV→Prop):Prop:=∃ l n,x=N l n∧K (N k (k.wrap n))
def isStr(x:AV)(K:AV→Prop):Prop:=∃ s,x=St s∧K (St s)
def abw(x:AV)(K:AV→Prop):Prop:=∃ l n,x=N l n∧K (St (Utf8.encode n).data.toList)
def Uq(M:RM)(x:AV)(K:AV→Prop):Prop:=∃ b p l opn el fz,x=.ptr b p∧M.heap b=some (.row l opn el fz)∧p+1≤l.length∧K (.ptr b p)
def ajr(el cells:Nat)(M:RM)(x:AV)(K:AV→Prop):Prop:=∃ b l opn fz,x=.ptr b 0∧M.heap b=some (.row l opn el fz)∧l.length=cells∧K (.ptr b 0)
def UN(x:AV)(K:AV→Prop):Prop :=
 match x with
 |.sc (.slice none 0 0)=>K (.sc (.pointer none))
 |.slc b p _ (.ex (_+1))=>K (.ptr b p)
 |.slc b p (_+1) (.op _)=>K (.ptr b p)
 |_=>False
def PZ:AV→Option Nat
 |.slc _ _ n _=>some n
 |.emp _=>some 0
 |.sc (.slice none 0 0)=>some 0
 |_=>none
def bS(x:AV)(K:AV→Prop):Prop:=∃ n:Nat,PZ x=some n∧K (N .i64 n)
def eB(x:AV)(K:AV→Prop):Prop:=∃ s,x=St s∧K (N .i64 s.length)
def Et(x:AV)(K:AV→Prop):Prop:=∃ n,(match x with|.slc _ _ _ (.ex c)=>some c|.sc (.slice none 0 0)=>some 0|_=>none)=some n∧K (N .i64 (n:Nat))
def Na(mx:Bool)(x y:AV)(K:AV→Prop):Prop:=∃ k a b,x=N k a∧y=N k b∧K (N k (if mx then(if b>a then b else a)else(if b<a then b else a)))
def iF(x:AV)(K:AV→Prop):Prop:=∃ b,x=Bo b∧K (Bo (!b))
def uj(x:AV)(K:AV→Prop):Prop:=∃ k n,x=N k n∧K (N k (k.wrap (BitVec.ofInt k.bits (if k.signed then -1 else k.max) ^^^ BitVec.ofInt k.bits n).toNat))
def Vf(x:AV)(K:AV→Prop):Prop:=∃ k n,x=N k n∧K (N k (k.wrap (0-n)))
def ad8(n:Nat)(x:AV)(K:AV→Prop):Prop:=∃ b p len cap,x=.slc b p len cap∧n≤len∧K (.ptr b p)
def au(M:RM)(x:AV)(K:AV→Prop):Prop:=∃ b o v,x=.ptr b o∧M.loads b o 1=some [v]∧K v
def bT(M:RM)(x:AV)(n:Nat)(K:AV→Prop):Prop:=∃ b o vs,x=.ptr b o∧M.loads b o n=some vs∧K (.agg vs)
def qU(M:RM)(x:AV):Option (List UInt8) :=
 match x with
 |.slc b p len _=>match M.loads b p len with
  |some vs=>bW byteOf vs
  |none=>none
 |.emp _=>some []
 |.sc (.slice none 0 0)=>some []
 |_=>none
def kD(M:RM)(x:AV)(K:AV→Prop):Prop:=∃ s,qU M x=some s∧K (St s)
def Xh(M:RM)(x:AV)(K:AV→Prop):Prop:=∃ b m since seen es cl n e,x=.ptr b 0∧M.heap b=some (.iter (some m) since (seen++[n]) cl)∧M.heap m=some (.map es cl)∧es.find? (fun e=>e.2.2==n)=some e∧K (.tup [e.1,e.2.1])
def aax(t:TypeId)(ok:Bool)(x:AV)(K:AV→Prop):Prop:=∃ v,x=.ifc t v∧K (if ok then .tup [v,Bo true]else v)
def Zw(M:RM)(x:AV)(K:AV→Prop):Prop:=∃ b es c,x=.map b∧M.heap b=some (.map es c)∧K (N .i64 es.length)
def gz:Bool→AV→Option (List AV)
 |true,.agg cs=>some cs
 |true,_=>none
 |false,v=>some [v]
def oC(a:Bool)(ks:List Nat)(k:List AV):List (AV×AV×Nat)→Nat→Option (Option (Nat×AV))
 |[],_=>some none
 |(ka,va,_)::es,i=>match gz a ka with
  |some cs=>if cs.length=ks.length then match df ks k cs with
    |some true=>some (some (i,va))
    |some false=>oC a ks k es (i+1)
    |none=>none
   else none
  |none=>none
def aaf(a:Bool)(ks:List Nat)(z:AV)(ok:Bool)(M:RM)(x k:AV)(K:AV→Prop):Prop :=
 ∃ b es c kc r,x=.map b∧M.heap b=some (.map es c)∧gz a k=some kc∧kc.length=ks.length∧oC a ks kc es 0=some r∧K (match r with|some (_,va)=>yJ va true ok|none=>yJ z false ok)
def Ug(P:Program)(t:TypeId):Option AV :=
 match bA P (zeroValue t)with
 |some z=>gy z
 |none=>none
def ab6(P:Program)(o:Oper)(e:Operand→AV)(K:AV→Prop):Prop:=∃ v,aK P o e=some v∧K v
def bi(P:Program)(o:Oper)(e:Operand→AV)(M:RM)(K:AV→Prop):Prop :=
 match o.op with
 |.move x|.assign x=>K (e x)
 |.pick c a b=>aM (e c) (e a) (e b) K
 |.nilCheck x=>dU (e x) K
 |.fieldAddr s x f=>match P.underlying s with
  |some (.struct fields)=>match fields[f]? with
   |some fd=>match aL P fd.type with
    |some (_+1)=>aZ (e x) fd.offset K
    |_=>False
   |none=>False
  |_=>False
 |.indexAddr t x ix=>match P.underlying t with
  |some (.slice elem)=>match aL P elem with
   |some size=>ed (e x) (e ix) size K
   |none=>False
  |some (.array len elem)=>match aL P elem with
   |some size=>eF (e x) (e ix) len size K
   |none=>False
  |_=>False
 |.field t x f=>match P.underlying t with
  |some (.struct fields)=>match fields[f]? with
   |some fd=>match bK P fd.type with
    |some false=>LC (e x) fd.offset K
    |some true=>match aL P fd.type with
     |some n=>K9 (e x) fd.offset n K
     |none=>False
    |none=>False
   |none=>False
  |_=>False
 |.index t x ix=>match P.underlying t with
  |some .string=>gP (e x) (e ix) K
  |some (.array len elem)=>match bK P elem with
   |some false=>match aL P elem with
    |some 1=>Iz (e x) (e ix) len K
    |_=>False
   |some true=>match aL P elem with
    |some n=>K5 (e x) (e ix) len n K
    |none=>False
   |none=>False
  |_=>False
 |.slice t x lo hi mx=>match P.underlying t with
  |some .string=>match mx with
   |none=>dz (dF (e x) (lo.map e) (hi.map e)) K
   |some _=>False
  |some (.slice elem)=>match aL P elem with
   |some size=>dz (bI size (e x) (lo.map e) (hi.map e) (mx.map e)) K
   |none=>False
  |some (.array n elem)=>match aL P elem,mx with
   |some size,none=>dz (Jy n size (e x) (lo.map e) (hi.map e)) K
   |_,_=>False
  |_=>False
 |.sliceToArrayPointer arr x=>match P.underlying arr with
  |some (.array n _)=>ad8 n (e x) K
  |_=>False
 |.extract x i=>bz (e x) i K
 |.makeInterface t x=>match P.underlying t with
  |some (.interface _)=>False
  |some _=>K (.ifc t (e x))
  |none=>False
 |.makeFunc f first captured=>match f with
  |.yield _=>False
  |_=>K (.fn f (first.toList.map e) (captured.toList.map e))
 |.build t parts=>match P.info? t,P.underlying t with
  |some it,some (.array _ el)=>match it.zero,P.info? el with
   |some z,some ie=>match gy z with
    |some (.agg cs)=>iV cs (parts.toList.map fun p=>(p.1*ie.size,ie.size,e p.2)) K
    |_=>False
   |_,_=>False
  |some it,some (.struct fields)=>match it.zero,fields.toList.mapM (fun f=>(P.info? f.type).map fun i=>(f.offset,i.size))with
   |some z,some places=>match gy z,bW (fun(p:Nat×Operand)=>match nth places p.1 with|some pl=>some (pl.1,pl.2,e p.2)|none=>none) parts.toList with
    |some (.agg cs),some ps=>iV cs ps K
    |_,_=>False
   |_,_=>False
  |_,_=>False
 |.binOp op t x y _=>match P.underlying t with
  |some (.int _)=>match op with
   |.shl|.shr=>qj op (e x) (e y) K
   |_=>ag op (e x) (e y) K
  |some .string=>dI op (e x) (e y) K
  |some .bool=>match op with
   |.eql=>FC false (e x) (e y) K
   |.neq=>FC true (e x) (e y) K
   |_=>False
  |some (.struct _)=>match PI P t,op with
   |some ks,.eql=>FH false ks (e x) (e y) K
   |some ks,.neq=>FH true ks (e x) (e y) K
   |_,_=>False
  |some (.array _ _)=>ab6 P o e K
  |_=>match op,xL P t with
   |_,0=>ab6 P o e K
   |.eql,tag=>yC false tag y (e x) (e y) K
   |.neq,tag=>yC true tag y (e x) (e y) K
   |_,_=>False
 |.convert src dst x=>match P.underlying src,P.underlying dst with
  |some (.int _),some (.int k)=>iR k (e x) K
  |some .string,some .string=>isStr (e x) K
  |some (.int _),some .string=>abw (e x) K
  |some (.slice el),some .string=>match P.underlying el with
   |some (.int .u8)=>kD M (e x) K
   |_=>False
  |some (.pointer t),some .unsafePointer=>match aL P t with
   |some (_+1)=>Uq M (e x) K
   |_=>False
  |some .unsafePointer,some (.pointer u)=>match aL P u,Nat.ble 1 (P.cellsOf u),liesAt P P.depth u 1 0 u 1 with
   |some (_+1),true,true=>ajr u (P.cellsOf u) M (e x) K
   |_,_,_=>False
  |_,_=>ab6 P o e K
 |.call { callee:=.builtin .len,args,argTypes } => match argTypes[0]?,args[0]? with
  |some t,some x=>match P.underlying t with
   |some (.slice _)=>bS (e x) K
   |some .string=>eB (e x) K
   |some (.map _ _)=>Zw M (e x) K
   |_=>False
  |_,_=>False
 |.call { callee:=.builtin .cap,args,argTypes } => match argTypes[0]?,args[0]? with
  |some t,some x=>match P.underlying t with
   |some (.slice _)=>Et (e x) K
   |_=>False
  |_,_=>False
 |.call { callee:=.builtin .unsafeSliceData,args,.. } => match args with
  |⟨[x]⟩=>UN (e x) K
  |_=>False
 |.call { callee:=.builtin .min,args,.. } => match args with
  |⟨[x,y]⟩=>Na false (e x) (e y) K
  |_=>False
 |.call { callee:=.builtin .max,args,.. } => match args with
  |⟨[x,y]⟩=>Na true (e x) (e y) K
  |_=>False
 |.unOp op _ x=>match op with
  |.not=>iF (e x) K
  |.neg=>Vf (e x) K
  |.xor=>uj (e x) K
  |_=>ab6 P o e K
 |.lookup t x k ok=>match P.underlying t with
  |some (.map kt et)=>match il P 10 kt,bK P kt,Ug P et with
   |some ks,some a,some z=>aaf a ks z ok M (e x) (e k) K
   |_,_,_=>False
  |_=>False
 |.entry it=>Xh M (e it) K
 |.typeAssert x _ t ok=>match P.underlying t with
  |some (.interface _)=>False
  |some _=>aax t ok (e x) K
  |none=>False
 |.load t x=>match bK P t with
  |some false=>au M (e x) K
  |some true=>match aL P t with
   |some n=>bT M (e x) n K
   |none=>False
  |none=>False
 |_=>False
section
variable {P:Program} {ρ:Ren} {o:Oper} {e:Operand→AV} {c:Operand→Value} {M:RM} {K:AV→Prop}
def RM.Sub(M M' : RM):Prop:=M'.base=M.base∧∀ b x,M.heap b=some x→M'.heap b=some x
theorem RM.Sub.refl(M:RM):M.Sub M:=⟨rfl,fun _ _ h=>h⟩
theorem RM.Sub.trans{M M1 M2:RM}(h:M.Sub M1)(k:M1.Sub M2):M.Sub M2:=⟨k.1.trans h.1,fun b x hx=>k.2 b x (h.2 b x hx)⟩
theorem RM.Sub.loads{M M' : RM}(h:M.Sub M'){b o k:Nat}{xs:List AV}(hl:M.loads b o k=some xs):M'.loads b o k=some xs:=by
 unfold RM.loads RM.cells at hl ⊢
 cases hh:M.heap b with
 |none=>simp[hh]at hl
 |some x =>
  rw[hh]at hl
  have hlo:M'.lo=M.lo:=congrArg Base.n h.1
  rw[h.2 b x hh,hlo]
  exact hl
def gH(P:Program)(o:Oper)(e:Operand→AV)(M:RM)(v:AV):Prop :=
 ∀ ρ w c M',M.Sub M'→bu P ρ M' w→(∀ x∈o.op.operands,ai ρ (e x) (c x))→QY P ρ w o c v
theorem aN{v:AV}(h:aK P o e=some v):(∀ M',gH P o e M' v)∨(kindOf P o=.read∧gH P o e M v):=.inl fun _ _ w _ _ _ _ he=>(pq he h).at
theorem bH{α β:Type}:∀ (s:Sem α)(f:α→Sem β)(a:α),bA P s=some a→bA P (s >>= f)=bA P (f a)
 |.pure b,f,a,h=>by simp[bA]at h;subst h;rfl
 |.program k,f,a,h=>by
  simp only[bA]at h
  exact bH (k P) f a h
 |.mark m k,f,a,h=>by
  simp only[bA]at h
  exact bH k f a h
 |.load ..,_,a,h|.store ..,_,a,h|.new ..,_,a,h|.shape ..,_,a,h|.freeze ..,_,a,h|.frozen ..,_,a,h|.getObj ..,_,a,h
 |.setObj ..,_,a,h|.choose ..,_,a,h|.sys ..,_,a,h|.halt ..,_,a,h=>by simp[bA]at h
theorem ko{u:Value}{v:AV}{l:List Value}(hl:bW (fun x=>bZ (e x)) o.op.operands.toList=some l)
  (h:bA P (execOp (fun x=>(bZ (e x)).getD default) o)=some (.value u)) (hv:gy u=some v):jS P o e=some v:=by
 unfold jS;rw[hl];simp only[h,hv]
theorem mV{op:BinOp}{t yt:TypeId}{x y:Operand}{a b u:Value}(hop:o.op=.binOp op t x y yt)(hx:bZ (e x)=some a)(hy:bZ (e y)=some b)
  (hg:bA P (eqGuard op t x y a b)=some ()) (hb:bA P (binOp op t a b)=some u) {v:AV} (hv:gy u=some v):jS P o e=some v:=by
 refine ko (l:=[a,b]) (by rw[hop];simp[Op.operands,bW,hx,hy]) (u:=u) ?_ hv
 simp only[execOp,hop,hx,hy,Option.getD_some]
 have h1:bA P (do eqGuard op t x y a b;binOp op t a b)=some u:=by rw[bH _ _ () hg];exact hb
 exact(bH _ _ _ h1)
theorem Mk{op:BinOp}{t:TypeId}{x y:Operand}{k l:IntKind}{a b:Int}:bA P (eqGuard op t x y (.int k a) (.int l b))=some ():=by
 cases op<;>rfl
theorem JB{op:BinOp}{t:TypeId}{x y:Operand}{a b:Bool}:bA P (eqGuard op t x y (.bool a) (.bool b))=some ():=by
 cases op<;>rfl
theorem alb{op:BinOp}{t yt:TypeId}{x y:Operand}{k:IntKind}{a b:Int}{u:Value}(hop:o.op=.binOp op t x y yt)(hx:e x=N k a)(hy:e y=N k b)(h:uF op k a b=some u) :
  aK P o e=some (.sc u):=by
 have hb:bA P (binOp op t (.int k a) (.int k b))=some u:=by
  cases op<;>simp only[uF]at h <;>try(cases h;done)
  case quo=>split at h <;>try(cases h;done)
            rename_i h0;cases h;simp[binOp,Op.intDiv,h0];rfl
  case rem=>split at h <;>try(cases h;done)
            rename_i h0;cases h;simp[binOp,Op.intDiv,h0];rfl
  all_goals (cases h;simp[binOp,Op.intArith,Op.intBits,Op.intCmp];rfl)
 have hv:gy u=some (.sc u):=by
  cases op<;>simp only[uF]at h<;>first|(cases h;done)|(cases h;rfl)|(split at h<;>first|(cases h;done)|(cases h;rfl))
 unfold aK
 simp only[hop,hx,hy]
 exact mV hop (a:=.int k a) (b:=.int k b) (by rw[hx];rfl) (by rw[hy];rfl) Mk hb hv
theorem afX{op:BinOp}{t yt:TypeId}{x y:Operand}{k l:IntKind}{a b:Int}{u:Value}(hop:o.op=.binOp op t x y yt)(hx:e x=N k a)(hy:e y=N l b)(h:wV op k a b=some u) :
  aK P o e=some (.sc u):=by
 unfold wV at h
 split at h <;>try(cases h;done)
 rename_i h0
 have hb:bA P (binOp op t (.int k a) (.int l b))=some u:=by
  split at h <;>try(cases h;done)
  all_goals (cases h;simp[binOp,Op.shift,h0];rfl)
 have hv:gy u=some (.sc u):=by
  split at h<;>first|(cases h;done)|(cases h;rfl)
 unfold aK
 simp only[hop,hx,hy]
 exact mV hop (a:=.int k a) (b:=.int l b) (by rw[hx];rfl) (by rw[hy];rfl) Mk hb hv
theorem eG{t:TypeId}{d:TypeDesc}(h:P.underlying t=some d):bA P (underlying t)=some d:=by
 have e:underlying t=.program (fun p=>match p.underlying t with|some d=>Sem.pure d|none=>stuck "no such type"):=rfl
 rw[e]
 simp only[bA,h]
theorem Om{op:BinOp}{t yt:TypeId}{x y:Operand}{a b neg:Bool}(hop:o.op=.binOp op t x y yt)(hx:e x=Bo a)(hy:e y=Bo b)(ht:P.underlying t=some .bool)(h:(op=.eql∧neg=false)∨(op=.neq∧neg=true)) :
  aK P o e=some (Bo ((a==b) != neg)):=by
 have h1:bA P (Op.equal t (.bool a) (.bool b))=some (a==b):=by
  have h0:bA P (underlying t)=some .bool:=eG ht
  show bA P (Op.equalIn (9999+1) t (.bool a) (.bool b))=_
  rw[Op.equalIn,bH _ _ _ h0]
  rfl
 rcases h with⟨rfl,rfl⟩|⟨rfl,rfl⟩
 ·have hb:bA P (binOp .eql t (.bool a) (.bool b))=some (.bool (a==b)):=bH _ _ _ h1
  have:=mV (P:=P) (e:=e) hop (a:=.bool a) (b:=.bool b) (by rw[hx];rfl) (by rw[hy];rfl) JB hb (v:=Bo (a==b)) rfl
  unfold aK
  simp only[hop,hx,hy]
  simp only[oz]
  simpa using this
 ·have hb:bA P (binOp .neq t (.bool a) (.bool b))=some (.bool (!(a==b))):=bH _ _ _ h1
  have:=mV (P:=P) (e:=e) hop (a:=.bool a) (b:=.bool b) (by rw[hx];rfl) (by rw[hy];rfl) JB hb (v:=Bo (!(a==b))) rfl
  unfold aK
  simp only[hop,hx,hy]
  simp only[oz]
  simpa using this
theorem uW{k:IntKind}{n:Int}(h:0≤n):gm (N k n)=some n.toNat:=by
 cases n with
 |ofNat m=>rfl
 |negSucc m=>omega
theorem akO{op:BinOp}{t yt:TypeId}{x y:Operand}{neg r:Bool}{tag:Nat}(hop:o.op=.binOp op t x y yt)(Ed:(op=.eql∧neg=false)∨(op=.neq∧neg=true))(htag:xL P t=tag)(h0:tag≠0)(ht:TR (e x)=tag)
  (h:Ad (e x) (e y)=some r):aK P o e=some (Bo (r != neg)):=by
 have key:(oz P t (e x) (e y)=some r∨(oz P t (e x) (e y)=none∧jS P o e=some (Bo (r != neg))))→(∀ k a,e x≠N k a)→(∀ s,e x≠.sc (.string s))→aK P o e=some (Bo (r != neg)):=by
  intro hk hn hs
  unfold aK
  simp only[hop]
  split
  ·rename_i k _ _ _ he _;exact absurd he (hn _ _)
  ·rename_i he _;exact absurd he (hs _)
  ·rename_i he _;exact absurd he (hn _ _)
  ·rcases Ed with⟨rfl,rfl⟩|⟨rfl,rfl⟩
   ·rcases hk with hk|⟨hk,hg⟩
    ·simp only[hk];cases r<;>rfl
    ·simp only[hk];exact hg
   ·rcases hk with hk|⟨hk,hg⟩
    ·simp only[hk];cases r<;>rfl
    ·simp only[hk];exact hg
 have gen:∀ (a b:Value),e x=.sc a→e y=.sc b→bZ (.sc a)=some a→bZ (.sc b)=some b→(∀ op',bA P (eqGuard op' t x y a b)=some ())→bA P (Op.equal t a b)=some r →
   (binOp .eql t a b=(do pure (.bool (← Op.equal t a b))))→(binOp .neq t a b=(do pure (.bool (!(← Op.equal t a b)))))→jS P o e=some (Bo (r != neg)):=by
  intro a b hx hy ha hb hg heq h1 h2
  rcases Ed with⟨rfl,rfl⟩|⟨rfl,rfl⟩
  ·exact mV (P:=P) (e:=e) hop (a:=a) (b:=b) (by rw[hx];exact ha) (by rw[hy];exact hb) (hg _) (u:=.bool r) (by rw[h1];exact bH _ _ _ heq) (by cases r<;>rfl)
  ·exact mV (P:=P) (e:=e) hop (a:=a) (b:=b) (by rw[hx];exact ha) (by rw[hy];exact hb) (hg _) (u:=.bool (!r)) (by rw[h2];exact bH _ _ _ heq) (by cases r<;>rfl)
 have azX:∀ d,P.underlying t=some d→bA P (underlying t)=some d:=fun d hd=>eG hd
 unfold xL at htag
 generalize hex:e x=ex at h ht key gen
 generalize hey:e y=ey at h key gen
 unfold Ad at h
 split at h <;>try(cases h;done)
 all_goals first|(split at h<;>first|(cases h;done)|skip)|skip
 all_goals
  cases h
  simp only[TR]at ht
  subst ht
  split at htag<;>first|(cases htag;done)|(split at htag<;>cases htag;done)|skip
 all_goals
  first
   |(rename_i hu
     refine key (.inl ?_) (by intro k a h;cases h) (by intro s h;cases h)
     simp only[oz,hu]
     done)
   |(rename_i hu
     refine key (.inr ⟨rfl, ?_⟩) (by intro k a h;cases h) (by intro s h;cases h)
     refine gen _ _ rfl rfl rfl rfl (fun op'=>by cases op'<;>rfl) ?_ rfl rfl
     show bA P (Op.equalIn (9999+1) t _ _)=_
     rw[Op.equalIn,bH _ _ _ (azX _ hu)]
     rfl
     done)
   |skip
 ·rename_i heq _ el hu
  split at htag <;>try(cases htag;done)
  rename_i n hs
  refine key (.inl ?_) (by intro k a h;cases h) (by intro s h;cases h)
  subst heq
  simp only[oz,hu,hs,LX,decide_true]
theorem alF{op:BinOp}{t yt:TypeId}{x y:Operand}{neg:Bool}(hop:o.op=.binOp op t x y yt)(Ed:(op=.eql∧neg=false)∨(op=.neq∧neg=true))(htag:xL P t=5)(hc:isC y=true)(hx:e x=.sc .nilIface)
  (hy:e y=.sc .nilIface):aK P o e=some (Bo (!neg)):=by
 obtain⟨v,rfl⟩ : ∃ v,y=.const v:=by cases y<;>first|exact⟨_,rfl⟩|cases hc
 have hg:∀ op',bA P (eqGuard op' t x (.const v) .nilIface .nilIface)=some ():=by intro op';cases op'<;>cases x<;>rfl
 have hu:∃ ms,P.underlying t=some (.interface ms):=by
  unfold xL at htag
  split at htag<;>first|(split at htag<;>cases htag;done)|(cases htag;done)|skip
  rename_i ms hu
  exact⟨ms,hu⟩
 obtain⟨ms,hu⟩:=hu
 have heq:bA P (Op.equal t .nilIface .nilIface)=some true:=by
  show bA P (Op.equalIn (9999+1) t _ _)=_
  rw[Op.equalIn,bH _ _ _ (eG hu)]
  rfl
 have gen:jS P o e=some (Bo (!neg)):=by
  rcases Ed with⟨rfl,rfl⟩|⟨rfl,rfl⟩
  ·exact mV (P:=P) (e:=e) hop (a:=.nilIface) (b:=.nilIface) (by rw[hx];rfl) (by rw[hy];rfl) (hg _) (u:=.bool true) (by
    have e1:binOp .eql t .nilIface .nilIface=(do pure (Value.bool (← Op.equal t .nilIface .nilIface))):=rfl
    rw[e1]
    exact bH _ _ _ heq) rfl
  ·exact mV (P:=P) (e:=e) hop (a:=.nilIface) (b:=.nilIface) (by rw[hx];rfl) (by rw[hy];rfl) (hg _) (u:=.bool false) (by
    have e1:binOp .neq t .nilIface .nilIface=(do pure (Value.bool (!(← Op.equal t .nilIface .nilIface)))):=rfl
    rw[e1]
    exact bH _ _ _ heq) rfl
 unfold aK
 simp only[hop,hx,hy]
 rcases Ed with⟨rfl,rfl⟩|⟨rfl,rfl⟩
 ·simp only[oz];exact gen
 ·simp only[oz];exact gen
theorem SK{op:BinOp}{t yt:TypeId}{x y:Operand}{neg:Bool}{tag:Nat}{K:AV→Prop}(hop:o.op=.binOp op t x y yt)(Ed:(op=.eql∧neg=false)∨(op=.neq∧neg=true))(htag:xL P t=tag)(h0:tag≠0)
  (h:yC neg tag y (e x) (e y) K):∃ r,aK P o e=some r∧K r:=by
 have old:jr neg tag (e x) (e y) K→∃ r,aK P o e=some r∧K r:=fun⟨ht,r,hr,hk⟩=>⟨_,akO hop Ed htag h0 ht hr,hk⟩
 unfold yC at h
 split at h
 ·rename_i hc
  rw[Bool.and_eq_true]at hc
  have h5:tag=5:=Nat.eq_of_beq_eq_true hc.1
  subst h5
  rcases h with h|⟨hx,hy,hk⟩
  ·exact old h
  ·exact⟨_,alF hop Ed htag hc.2 hx hy,hk⟩
 ·exact old h
end
section
variable {P:Program} {ρ:Ren} {o:Oper} {e:Operand→AV} {c:Operand→Value} {M:RM} {K:AV→Prop}
theorem sP(d:Nat)(x:Option Operand):gM e d x=bnd d (x.map e):=by
 cases x with
 |none=>rfl
 |some x =>
  simp only[gM,Option.map_some]
  generalize e x=y
  cases y<;>try rfl
  rename_i v
  cases v<;>try rfl
  rename_i k n
  cases n with
  |ofNat n=>simp[gm,bnd]
  |negSucc n=>simp only[gm,bnd];rw[if_neg (by omega)]
theorem aeu{a b:Nat}(h:¬ a≤b):Nat.ble a b=false:=by
 rcases hb:Nat.ble a b
 ·rfl
 ·exact absurd (bf hb) h
theorem qH{a b:Nat}(h:a=b):Nat.beq a b=true:=by subst h;simp
theorem Js{a b:Nat}(h:¬ a=b):Nat.beq a b=false:=by rw[LX];simp[h]
theorem afQ(d:Nat)(x:Operand):gm (e x)=bnd d (some (e x)):=sP d (some x)
theorem aci{t elem:TypeId}{x:Operand}{lo hi mx:Option Operand}{size:Nat}{v:AV}(hu:P.underlying t=some (.slice elem))(hs:aL P elem=some size)
  (h:bI size (e x) (lo.map e) (hi.map e) (mx.map e)=some v):vE P e t x lo hi mx=some v:=by
 unfold vE
 unfold bI at h
 split at h <;>try(cases h;done)
 ·rename_i b o' len cap hex
  rw[hex]
  simp only[hu,hs,sP]
  split at h <;>try(cases h;done)
  rename_i l hh hl hhh
  simp only[hl,hhh]
  split at h
  ·rename_i hmx
   have hmx:mx=none:=by cases mx<;>simp at hmx;rfl
   subst hmx
   simp only
   split at h
   ·rename_i cc
    split at h <;>try(cases h;done)
    rename_i hc
    have e1:=aU.2 hc.1
    have e2:=aU.2 hc.2
    split at h
    ·rename_i hcl
     have e3:=qH hcl
     simp only[e1,e2,e3]
     exact h
    ·rename_i hcl
     have e3:=Js hcl
     simp only[e1,e2,e3]
     exact h
   ·rename_i esz
    split at h <;>try(cases h;done)
    rename_i hc
    have e1:=aU.2 hc.1
    have e2:=aU.2 hc.2.1
    have e4:=qH hc.2.2
    split at h
    ·rename_i hcl
     have e3:=aU.2 hcl
     simp only[e1,e2,e3,e4]
     exact h
    ·rename_i hcl
     have e3:=aeu hcl
     simp only[e1,e2,e3,e4]
     exact h
  ·rename_i y hmx
   cases mx with
   |none=>cases hmx
   |some z =>
   cases hmx
   split at h <;>try(cases h;done)
   rename_i hy m hhi hm
   cases hi with
   |none=>cases hhi
   |some y2 =>
   simp only
   rw[afQ 0,hm]
   simp only
   cases cap with
   |ex cc =>
    simp only at h
    split at h <;>try(cases h;done)
    rename_i hc
    have e1:=aU.2 hc.1
    have e2:=aU.2 hc.2.1
    have e4:=aU.2 hc.2.2
    split at h
    ·rename_i hcl
     have e3:=qH hcl
     simp only[e1,e2,e3,e4]
     exact h
    ·rename_i hcl
     have e3:=Js hcl
     simp only[e1,e2,e3,e4]
     exact h
   |op esz =>
    simp only at h
    split at h <;>try(cases h;done)
    rename_i hc
    have e1:=aU.2 hc.1
    have e2:=aU.2 hc.2.1
    have e4:=aU.2 hc.2.2
    split at h
    ·rename_i hcl
     have e3:=qH hcl
     simp only[e1,e2,e3,e4]
     exact h
    ·rename_i hcl
     have e3:=Js hcl
     simp only[e1,e2,e3,e4]
     exact h
 ·rename_i b hex
  rw[hex]
  simp only[hu,hs,sP]
  split at h <;>try(cases h;done)
  rename_i hl hhh hmx
  have hmx:mx=none:=by cases mx<;>simp at hmx;rfl
  subst hmx
  simp only[hl,hhh];exact h
 ·rename_i hex
  rw[hex]
  simp only[hu,hs,sP]
  split at h <;>try(cases h;done)
  ·rename_i hl hhh hmx
   have hmx:mx=none:=by cases mx<;>simp at hmx;rfl
   subst hmx
   have e3:bnd 0 (Option.map e none)=some 0:=rfl
   simp only[hl,hhh,e3]
   rw[hex]at h;exact h
  ·rename_i y hl hhh hmx
   cases mx with
   |none=>cases hmx
   |some z =>
   cases hmx
   split at h <;>try(cases h;done)
   rename_i hy hhi hm
   cases hi with
   |none=>cases hhi
   |some y2 =>
   have e3:bnd 0 (Option.map e (some z))=some 0:=hm
   simp only[hl,hhh,e3]
   rw[hex]at h;exact h
theorem abB{t elem:TypeId}{n:Nat}{x:Operand}{lo hi:Option Operand}{size:Nat}{v:AV}(hu:P.underlying t=some (.array n elem))(hs:aL P elem=some size)
  (h:Jy n size (e x) (lo.map e) (hi.map e)=some v):vE P e t x lo hi none=some v:=by
 unfold vE
 unfold Jy at h
 split at h <;>try(cases h;done)
 rename_i b o' hex
 rw[hex]
 simp only[hu,hs,sP]
 split at h <;>try(cases h;done)
 rename_i l hh hl hhh
 simp only[hl,hhh]
 split at h <;>try(cases h;done)
 rename_i hc
 have e1:=aU.2 hc.1
 have e2:=aU.2 hc.2
 split at h
 ·rename_i hcl
  have e3:=qH hcl
  simp only[e1,e2,e3]
  exact h
 ·rename_i hcl
  have e3:=Js hcl
  simp only[e1,e2,e3]
  exact h
theorem Rl{place:Nat→Option (Nat×Nat)}:∀ (parts:List (Nat×AV))(qs:List (Nat×Nat×AV))(cs:List AV),(parts.map fun p=>(place p.1).map fun q=>(q.1,q.2,p.2))=qs.map some→Cj place cs parts=nC cs qs
 |[],qs,cs,h=>by
  cases qs with
  |nil=>rfl
  |cons q qs=>simp at h
 |(i,v)::parts,qs,cs,h=>by
  cases qs with
  |nil=>simp at h
  |cons q qs =>
   simp only[List.map_cons,List.cons.injEq]at h
   obtain⟨h1,h2⟩:=h
   cases hp:place i with
   |none=>simp[hp]at h1
   |some pl =>
    obtain⟨off,size⟩:=pl
    simp only[hp,Option.map_some,Option.some.injEq]at h1
    subst h1
    simp only[Cj,hp,nC]
    by_cases hk:known v=true∧v.cells.length=size∧off+size≤cs.length
    ·rw[if_pos hk,hk.1]
     simp only[LX,hk.2.1,decide_true,aU.2 hk.2.2]
     rw[← Rl parts qs _ h2]
    ·rw[if_neg hk]
     split
     ·rename_i a b d
      exact absurd ⟨a,dG b,bf d⟩ hk
     ·rfl
theorem sG{w:World}{b p:Nat}{i:gF}{v:AV}(hw:bu P ρ M w)(hb:ρ b=some i)(h:M.loads b p 1=some [v]):∃ u,ai ρ v u∧w.cell? ⟨i.cb,i.sh+p,none⟩=some u:=by
 obtain⟨vs,hr,hlen,hcell⟩:=RM.iO hw hb h
 cases hr with
 |cons _ u _ us hu hn =>
 cases hn
 have hcell:=hcell 0 u (by simp)
 rw[fw]at hcell
 exact⟨u,hu,by simpa using hcell⟩
theorem I8:∀ (ks rest:List Nat)(cs ds:List AV){r:Bool},df (ks++rest) cs ds=some r→(∃ r0,df ks (cs.take ks.length) (ds.take ks.length)=some r0∧(r0=false→r=false)∧(r0=true→df rest (cs.drop ks.length) (ds.drop ks.length)=some r))∨((cs.length<ks.length∨ds.length<ks.length)∧r=false)
 |[],rest,cs,ds,r,h=>.inl ⟨true,rfl,(fun h=>by cases h),fun _=>h⟩
 |k::ks,rest,[],_,r,h=>by simp[df]at h
 |k::ks,rest,_::_,[],r,h=>by simp[df]at h
 |k::ks,rest,x::cs,y::ds,r,h=>by
  simp only[List.cons_append,df]at h
  split at h
  ·rename_i hc
   rcases I8 ks rest cs ds h with⟨r0,h1,h2,h3⟩|⟨h1,h2⟩
   ·exact .inl ⟨r0,by simp only[List.length_cons,List.take_succ_cons,df,hc];exact h1,h2,fun e=>by simpa using h3 e⟩
   ·exact .inr ⟨by simp;omega,h2⟩
  ·rename_i hc
   cases h
   exact .inl ⟨false,by simp only[List.length_cons,List.take_succ_cons,df,hc],fun _=>rfl,fun h=>by cases h⟩
  ·cases h
theorem EC{t:TypeId}{us:List Value}{off:Nat}{u:Value}{w:World}(ha:bK P t=some false)(hu:us[off]?=some u):(part t ⟨us⟩ off).run P w=.ok u w:=by
 simp only[part,Sem.run_bind,jk ha,Result.andThen_ok,Bool.false_eq_true,if_false]
 simp[hu]
theorem Yf{t:TypeId}{us:List Value}{off n:Nat}{w:World}(ha:bK P t=some true)(hs:aL P t=some n):(part t ⟨us⟩ off).run P w=.ok (.agg ⟨(us.drop off).take n⟩) w:=by
 simp only[part,Sem.run_bind,jk ha,Result.andThen_ok,if_true,cZ hs,Sem.run_pure]
 simp[List.take_drop]
theorem Xc:∀ (d:Nat)(t:TypeId)(ks:List Nat)(D:Nat),il P d t=some ks→d≤D→∀ (cs ds:List AV)(us vs:List Value)(r:Bool)(w:World),aQ ρ cs us→aQ ρ ds vs→cs.length=ks.length→ds.length=ks.length→df ks cs ds=some r →
  (bK P t=some true∧(Op.equalIn D t (.agg ⟨us⟩) (.agg ⟨vs⟩)).run P w=.ok r w)∨(bK P t=some false∧∃ u v,us=[u]∧vs=[v]∧(Op.equalIn D t u v).run P w=.ok r w):=by
 intro d
 induction d with
 |zero=>intro t ks D h;simp[il]at h
 |succ d ih =>
  intro t ks D h hD cs ds us vs r w hc hd hlc hld he
  obtain⟨D,rfl⟩ : ∃ D',D=D'+1:=⟨D-1,by omega⟩
  simp only[il]at h
  have one:∀ k,ks=[k]→∃ x y u v,cs=[x]∧ds=[y]∧us=[u]∧vs=[v]∧ai ρ x u∧ai ρ y v∧mo k x y=some r:=by
   intro k hk
   subst hk
   cases hc with
   |nil=>simp at hlc
   |cons x u cs us hx hc=>cases hc with
    |cons=>simp at hlc
    |nil=>cases hd with
     |nil=>simp at hld
     |cons y v ds vs hy hd=>cases hd with
      |cons=>simp at hld
      |nil =>
       refine⟨x,y,u,v,rfl,rfl,rfl,rfl,hx,hy, ?_⟩
       simp only[df]at he
       split at he
       ·rename_i h1;cases he;exact h1
       ·rename_i h1;cases he;exact h1
       ·cases he
  split at h <;>try(cases h;done)
  ·rename_i k hu
   cases h
   obtain⟨x,y,u,v,rfl,rfl,rfl,rfl,hx,hy,hce⟩:=one 1 rfl
   refine .inr ⟨by simp[bK,hu],u,v,rfl,rfl, ?_⟩
   unfold mo at hce
   split at hce <;>try(cases hce;done)
   ·split at hce <;>try(cases hce;done)
    rename_i e0;subst e0
    cases hce
    rw[(aH hx).1,(aH hy).1]
    exact run_equalIn_int w D t _ _ _ _ hu
   all_goals (rename_i e0;cases e0)
  ·rename_i hu
   cases h
   obtain⟨x,y,u,v,rfl,rfl,rfl,rfl,hx,hy,hce⟩:=one 2 rfl
   refine .inr ⟨by simp[bK,hu],u,v,rfl,rfl, ?_⟩
   unfold mo at hce
   split at hce <;>try(cases hce;done)
   ·rename_i e0;cases e0
   ·cases hce
    rw[(aH hx).1,(aH hy).1,run_equalIn_string w D t _ _ hu,ByteArray.toList_eq,ByteArray.toList_eq]
   ·rename_i e0;cases e0
  ·rename_i hu
   cases h
   obtain⟨x,y,u,v,rfl,rfl,rfl,rfl,hx,hy,hce⟩:=one 3 rfl
   refine .inr ⟨by simp[bK,hu],u,v,rfl,rfl, ?_⟩
   unfold mo at hce
   split at hce <;>try(cases hce;done)
   ·rename_i e0;cases e0
   ·rename_i e0;cases e0
   ·cases hce
    rw[(aH hx).1,(aH hy).1]
    exact run_equalIn_bool' w D t _ _ hu
  ·rename_i fs hu
   split at h <;>try(cases h;done)
   rename_i hst
   refine .inl ⟨by simp[bK,hu], ?_⟩
   have hfs:P.underlying t=some (.struct (P.fieldsOf t)):=by simp[Program.fieldsOf,hu]
   rw[run_equalIn_struct w D t _ _ hfs hst]
   have hff:(P.fieldsOf t).toList=fs.toList:=by simp[Program.fieldsOf,hu]
   rw[hff]
   have key:∀ (l:List Field)(off:Nat)(kr:List Nat)(r:Bool),Cb P (il P d) l off=some kr→(cs.drop off).length=kr.length→(ds.drop off).length=kr.length→df kr (cs.drop off) (ds.drop off)=some r→(Op.eqFields D ⟨us⟩ ⟨vs⟩ l).run P w=.ok r w:=by
    intro l
    induction l with
    |nil =>
     intro off kr r h h1 h2 h3
     simp only[Cb]at h
     cases h
     have e1:=List.eq_nil_of_length_eq_zero h1
     have e2:=List.eq_nil_of_length_eq_zero h2
     rw[e1,e2]at h3
     simp only[df]at h3
     cases h3
     rfl
    |cons f l ihl =>
     intro off kr r h h1 h2 h3
     simp only[Cb]at h
     split at h <;>try(cases h;done)
     rename_i kf n hn hoff hkf hsz
     split at h <;>try(cases h;done)
     rename_i kr' hlen hrest
     cases h
     have hoff:=dG hoff
     have hlen:=dG hlen
     have hname:f.name ≠ "_" := by simpa using hn
     rw[List.length_append]at h1 h2
     rcases I8 kf kr' _ _ h3 with⟨r0,g1,g2,g3⟩|⟨g,_⟩
     ·have hsub:=ih f.type kf D hkf (by omega) ((cs.drop off).take n) ((ds.drop off).take n) ((us.drop off).take n) ((vs.drop off).take n) r0 w ((hc.drop off).take n) ((hd.drop off).take n) (by simp at h1 ⊢;omega) (by simp at h2 ⊢;omega) (by rw[hlen];exact g1)
      have hstep:(Op.eqFields D ⟨us⟩ ⟨vs⟩ (f::l)).run P w=(if r0=false then .ok false w else(Op.eqFields D ⟨us⟩ ⟨vs⟩ l).run P w):=by
       simp only[Op.eqFields,if_pos hname]
       rcases hsub with⟨ha,hrun⟩|⟨ha,u,v,hu1,hv1,hrun⟩
       ·simp only[Sem.run_bind,hoff,Yf ha hsz,Result.andThen_ok,hrun]
        cases r0<;>simp
       ·have hn1:n=1:=by
         have:=congrArg List.length hu1
         have hl:=hc.length
         simp at this h1;omega
        have p1:us[off]?=some u:=by
         have:((us.drop off).take n)[0]?=some u:=by rw[hu1];rfl
         rw[List.getElem?_take,if_pos (by omega),List.getElem?_drop]at this
         simpa using this
        have p2:vs[off]?=some v:=by
         have:((vs.drop off).take n)[0]?=some v:=by rw[hv1];rfl
         rw[List.getElem?_take,if_pos (by omega),List.getElem?_drop]at this
         simpa using this
        simp only[Sem.run_bind,hoff,EC ha p1,EC ha p2,Result.andThen_ok,hrun]
        cases r0<;>simp
      rw[hstep]
      cases r0 with
      |false=>rw[g2 rfl];simp
      |true =>
       simp only[Bool.true_eq_false,if_false]
       refine ihl (off+n) kr' r hrest (by simp at h1 ⊢;omega) (by simp at h2 ⊢;omega) ?_
       have:=g3 rfl
       rw[List.drop_drop,List.drop_drop,← hlen]at this
       exact this
     ·omega
   exact key fs.toList 0 ks r h (by simpa using hlc) (by simpa using hld) (by simpa using he)
theorem zO{w:World}{r clock:Nat}{fs:Array MapEntry}(h:w.heap[r]?=some (.map fs clock)):(getObj r).run P w=.ok (.map fs clock) w:=by simp[getObj,Sem.run,h]
theorem oD{a:Bool}{k:AV}{kv:Value}{cs:List AV}(h:gz a k=some cs)(hk:ai ρ k kv):∃ us,aQ ρ cs us∧(a=true→kv=.agg ⟨us⟩)∧(a=false→us=[kv]):=by
 cases a with
 |false =>
  simp only[gz]at h
  cases h
  exact⟨[kv],.cons _ _ _ _ hk .nil,(fun h=>by cases h),fun _=>rfl⟩
 |true =>
  unfold gz at h
  split at h <;>try(cases h;done)
  ·rename_i cs' _
   cases h
   cases hk with
   |agg _ us hr=>exact⟨us,hr,fun _=>rfl,fun h=>by cases h⟩
  ·rename_i e0;cases e0
theorem RX{kt:TypeId}{ks:List Nat}{a r:Bool}{x y:AV}{xv yv:Value}{cs ds:List AV}(hf:il P 10 kt=some ks)(ha:bK P kt=some a)(hx:gz a x=some cs)(hy:gz a y=some ds)(rx:ai ρ x xv)(ry:ai ρ y yv)
  (l1:cs.length=ks.length) (l2:ds.length=ks.length) (h:df ks cs ds=some r) (w:World):(Op.equal kt xv yv).run P w=.ok r w:=by
 obtain⟨us,r1,h1,h1'⟩:=oD hx rx
 obtain⟨vs,r2,h2,h2'⟩:=oD hy ry
 show(Op.equalIn 10000 kt xv yv).run P w=_
 rcases Xc 10 kt ks 10000 hf (by decide) cs ds us vs r w r1 r2 l1 l2 h with⟨hg,hr⟩|⟨hg,u,v,e1,e2,hr⟩
 ·have:a=true:=Option.some.inj (ha.symm.trans hg)
  rw[h1 this,h2 this];exact hr
 ·have:a=false:=Option.some.inj (ha.symm.trans hg)
  have e3:=h1' this
  have e4:=h2' this
  rw[e1]at e3;rw[e2]at e4
  cases e3;cases e4
  exact hr
theorem SC{kt:TypeId}{ks:List Nat}{a:Bool}{k:AV}{kv:Value}{cs:List AV}{w:World}(hf:il P 10 kt=some ks)(ha:bK P kt=some a)(hc:gz a k=some cs)(hl:cs.length=ks.length)(hk:ai ρ k kv) :
  ∀ {es:List (AV×AV×Nat)}{fs:List MapEntry}{i:Nat}{r:Option (Nat×AV)},dB ρ es fs→oC a ks cs es i=some r→∃ r',(Instr.findAsking kt kv fs i).run P w=.ok r' w∧UR ρ r r'
 |[],[],i,r,_,h=>by
  simp[oC]at h;subst h
  exact⟨none,rfl,trivial⟩
 |[],_::_,_,_,h,_=>h.elim
 |_::_,[],_,_,h,_=>h.elim
 |(ka,va,n)::es,f::fs,i,r,⟨h1,h2,h3,h4⟩,h=>by
  simp only[oC]at h
  split at h <;>try(cases h;done)
  rename_i ds hds
  split at h <;>try(cases h;done)
  rename_i hdl
  simp only[Instr.findAsking]
  split at h <;>try(cases h;done)
  ·rename_i hn
   cases h
   refine⟨some (i,f.val), ?_,rfl,h2⟩
   rw[Sem.run_bind,RX hf ha hc hds hk h1 hl hdl hn w,Result.andThen_ok]
   rfl
  ·rename_i hn
   obtain⟨r',hr,hfr⟩:=SC hf ha hc hl hk h4 h
   refine⟨r', ?_,hfr⟩
   rw[Sem.run_bind,RX hf ha hc hds hk h1 hl hdl hn w,Result.andThen_ok]
   exact hr
theorem Pf{kt:TypeId}{d:TypeDesc}{x y:Value}{s:Bool}(hd:P.underlying kt=some d)(h:Instr.sameNow d x y=some s)(w:World):(Op.equal kt x y).run P w=.ok s w:=by
 show(Op.equalIn (9999+1) kt x y).run P w=_
 unfold Instr.sameNow at h
 split at h <;>try(cases h;done)
 ·split at h <;>try(cases h;done)
  rename_i e0
  subst e0
  cases h
  exact run_equalIn_int w _ kt _ _ _ _ hd
 ·cases h
  rw[run_equalIn_string w _ kt _ _ hd,ByteArray.toList_eq,ByteArray.toList_eq,← gJ,← bytes_beq]
 ·cases h
  exact run_equalIn_bool' w _ kt _ _ hd
theorem Jd{kt:TypeId}{d:TypeDesc}{kv:Value}{w:World}(hd:P.underlying kt=some d):∀ {fs:List MapEntry}{i:Nat}{r0 r' : Option (Nat×Value)},Instr.findNow d kv fs i=some r0→(Instr.findAsking kt kv fs i).run P w=.ok r' w→r0=r'
 |[],i,r0,r',h,h'=>by
  simp[Instr.findNow]at h
  subst h
  have h' : Result.ok none w=Result.ok r' w:=h'
  cases h'
  rfl
 |f::fs,i,r0,r',h,h'=>by
  simp only[Instr.findNow]at h
  simp only[Instr.findAsking]at h'
  split at h <;>try(cases h;done)
  ·rename_i hs
   cases h
   rw[Sem.run_bind,Pf hd hs w,Result.andThen_ok]at h'
   have h' : Result.ok (some (i,f.val)) w=Result.ok r' w:=h'
   cases h'
   rfl
  ·rename_i hs
   rw[Sem.run_bind,Pf hd hs w,Result.andThen_ok]at h'
   exact Jd hd h h'
theorem ED{kt:TypeId}{ks:List Nat}{a:Bool}{k:AV}{kv:Value}{cs:List AV}{w:World}{es:List (AV×AV×Nat)}{fs:List MapEntry}{r:Option (Nat×AV)}(hf:il P 10 kt=some ks)(ha:bK P kt=some a)(hc:gz a k=some cs)(hl:cs.length=ks.length)(hk:ai ρ k kv)
  (he:dB ρ es fs) (h:oC a ks cs es 0=some r):∃ r',(Instr.findKey kt kv fs).run P w=.ok r' w∧UR ρ r r':=by
 obtain⟨r',h1,h2⟩:=SC (w:=w) hf ha hc hl hk he h
 have hu:∃ d,P.underlying kt=some d:=by
  simp only[il]at hf
  cases hu:P.underlying kt with
  |none=>rw[hu]at hf;cases hf
  |some d=>exact⟨d,rfl⟩
 obtain⟨d,hd⟩:=hu
 refine⟨r', ?_,h2⟩
 simp only[Instr.findKey,Sem.run_bind,run_underlying hd,Result.andThen_ok]
 cases hn:Instr.findNow d kv fs 0 with
 |none=>exact h1
 |some r0 =>
  have:=Jd hd hn h1
  subst this
  rfl
theorem aaU:∀ (d:Nat)(t:TypeId)(ks:List Nat)(D:Nat)(em:Bool),il P d t=some ks→d≤D→∀ (us:List Value)(w:World),us.length=ks.length →
  (bK P t=some true∧(Instr.checkKey em D t (.agg ⟨us⟩)).run P w=.ok () w)∨(bK P t=some false∧∃ u,us=[u]∧(Instr.checkKey em D t u).run P w=.ok () w):=by
 intro d
 induction d with
 |zero=>intro t ks D em h;simp[il]at h
 |succ d ih =>
  intro t ks D em h hD us w hl
  obtain⟨D,rfl⟩ : ∃ D',D=D'+1:=⟨D-1,by omega⟩
  simp only[il]at h
  have one:∀ k,ks=[k]→∃ u,us=[u]:=fun k hk=>by
   subst hk
   match us,hl with
   |[u],_=>exact⟨u,rfl⟩
  split at h <;>try(cases h;done)
  ·rename_i k hu
   cases h
   obtain⟨u,rfl⟩:=one 1 rfl
   refine .inr ⟨by simp[bK,hu],u,rfl, ?_⟩
   simp only[Instr.checkKey,Sem.run_bind,run_underlying hu,Result.andThen_ok]
   rfl
  ·rename_i hu
   cases h
   obtain⟨u,rfl⟩:=one 2 rfl
   refine .inr ⟨by simp[bK,hu],u,rfl, ?_⟩
   simp only[Instr.checkKey,Sem.run_bind,run_underlying hu,Result.andThen_ok]
   rfl
  ·rename_i hu
   cases h
   obtain⟨u,rfl⟩:=one 3 rfl
   refine .inr ⟨by simp[bK,hu],u,rfl, ?_⟩
   simp only[Instr.checkKey,Sem.run_bind,run_underlying hu,Result.andThen_ok]
   rfl
  ·rename_i fs hu
   split at h <;>try(cases h;done)
   refine .inl ⟨by simp[bK,hu], ?_⟩
   simp only[Instr.checkKey,Sem.run_bind,run_underlying hu,Result.andThen_ok]
   rw[← Array.forIn_toList]
   have key:∀ (l:List Field)(off:Nat)(kr:List Nat),Cb P (il P d) l off=some kr→(us.drop off).length=kr.length →
     ((forIn l PUnit.unit fun(f:Field) (_:PUnit)=>(do
       if f.name ≠ "_" then do
        let x ← part f.type ⟨us⟩ f.offset
        Instr.checkKey em D f.type x
        pure (ForInStep.yield PUnit.unit)
       else pure (ForInStep.yield PUnit.unit):Sem (ForInStep PUnit)):Sem PUnit).run P w=.ok PUnit.unit w):=by
    intro l
    induction l with
    |nil=>intro off kr _ _;rfl
    |cons f l ihl =>
     intro off kr h h1
     simp only[Cb]at h
     split at h <;>try(cases h;done)
     rename_i kf n hn hoff hkf hsz
     split at h <;>try(cases h;done)
     rename_i kr' hlen hrest
     cases h
     have hoff:=dG hoff
     have hlen:=dG hlen
     have hname:f.name ≠ "_" := by simpa using hn
     rw[List.length_append]at h1
     have hsub:=ih f.type kf D em hkf (by omega) ((us.drop off).take n) w (by simp at h1 ⊢;omega)
     have hrec:=ihl (off+n) kr' hrest (by simp at h1 ⊢;omega)
     simp only[List.forIn_cons,Sem.run_bind,if_pos hname]
     rcases hsub with⟨ha,hrun⟩|⟨ha,u,hu1,hrun⟩
     ·simp only[hoff,Yf ha hsz,Result.andThen_ok,hrun,Sem.run_pure]
      exact hrec
     ·have hn1:n=1:=by
       have:=congrArg List.length hu1
       simp at this h1;omega
      have p1:us[off]?=some u:=by
       have:((us.drop off).take n)[0]?=some u:=by rw[hu1];rfl
       rw[List.getElem?_take,if_pos (by omega),List.getElem?_drop]at this
       simpa using this
      simp only[hoff,EC ha p1,Result.andThen_ok,hrun,Sem.run_pure]
      exact hrec
   exact(congrArg (fun r=>Result.andThen r fun _ w'=>Sem.run P (pure ()) w') (key fs.toList 0 ks h (by simpa using hl))).trans rfl
theorem Bt{kt:TypeId}{ks:List Nat}{a em:Bool}{k:AV}{kv:Value}{cs:List AV}{w:World}(hf:il P 10 kt=some ks)(ha:bK P kt=some a)(hc:gz a k=some cs)(hl:cs.length=ks.length)(hk:ai ρ k kv) :
  (Instr.checkKey em 10000 kt kv).run P w=.ok () w:=by
 obtain⟨us,r1,h1,h1'⟩:=oD hc hk
 rcases aaU 10 kt ks 10000 em hf (by decide) us w (by rw[← r1.length];exact hl)with⟨hg,hr⟩|⟨hg,u,e1,hr⟩
 ·have:a=true:=Option.some.inj (ha.symm.trans hg)
  rw[h1 this];exact hr
 ·have:a=false:=Option.some.inj (ha.symm.trans hg)
  have e3:=h1' this
  rw[e1]at e3
  cases e3
  exact hr
theorem aar{n:Nat}{en:AV×AV×Nat}:∀ {es:List (AV×AV×Nat)}{fs:List MapEntry},dB ρ es fs→es.find? (fun e=>e.2.2==n)=some en→∃ f,fs.find? (fun g=>g.born==n)=some f∧ai ρ en.1 f.key∧ai ρ en.2.1 f.val
 |[],[],_,h=>by cases h
 |(k,v,m)::es,g::fs,⟨a,b,c,d⟩,h=>by
  rw[List.find?_cons]at h ⊢
  rw[c]
  split at h
  ·rename_i hm
   cases h
   simp only at hm
   simp only[hm]
   exact⟨g,rfl,a,b⟩
  ·rename_i hm
   simp only at hm
   simp only[hm]
   exact aar d h
 |_::_,[],h,_=>h.elim
 |[],_::_,h,_=>h.elim
theorem wN(h:bi P o e M K):∃ v,((∀ M',gH P o e M' v)∨(kindOf P o=.read∧gH P o e M v))∧K v:=by
 cases hop:o.op
 case move x=>simp only[bi,hop]at h;exact⟨_,aN (by simp only[aK,hop]),h⟩
 case assign x=>simp only[bi,hop]at h;exact⟨_,aN (by simp only[aK,hop]),h⟩
 case pick cn a b =>
  simp only[bi,hop]at h
  obtain⟨t,ht,hk⟩:=h
  exact⟨_,aN (by cases t<;>simp only[aK,hop,ht]<;>rfl),hk⟩
 case nilCheck x =>
  simp only[bi,hop]at h
  obtain⟨b,p,hx,hk⟩:=h
  exact⟨_,aN (by simp only[aK,hop,hx]),hk⟩
 case fieldAddr s x f =>
  simp only[bi,hop]at h
  split at h <;>try(cases h;done)
  rename_i fields hu
  split at h <;>try(cases h;done)
  rename_i fd hf
  split at h <;>try(cases h;done)
  rename_i n hs
  obtain⟨b,p,hx,hk⟩:=h
  exact⟨_,aN (by simp only[aK,hop,hu,hx,hf,hs]),hk⟩
 case indexAddr t x ix =>
  simp only[bi,hop]at h
  split at h <;>try(cases h;done)
  ·rename_i elem hu
   split at h <;>try(cases h;done)
   rename_i size hs
   obtain⟨b,p,len,cap,k,n,hx,hi,h0,h1,hk⟩:=h
   exact⟨_,aN (by simp only[aK,hop,hu,hx,hi,uW h0,aU.2 (show n.toNat+1≤len by omega),hs]),hk⟩
  ·rename_i len elem hu
   split at h <;>try(cases h;done)
   rename_i size hs
   obtain⟨b,p,k,n,hx,hi,h0,h1,hk⟩:=h
   exact⟨_,aN (by simp only[aK,hop,hu,hx,hi,uW h0,aU.2 (show n.toNat+1≤len by omega),hs]),hk⟩
 case field t x f =>
  simp only[bi,hop]at h
  split at h <;>try(cases h;done)
  rename_i fields hu
  split at h <;>try(cases h;done)
  rename_i fd hf
  split at h <;>try(cases h;done)
  ·rename_i ha
   obtain⟨cs,v,hx,hv,hk⟩:=h
   exact⟨_,aN (by simp only[aK,hop,hu,hx,hf,partOf,ha,cB];exact hv),hk⟩
  ·rename_i ha
   split at h <;>try(cases h;done)
   rename_i n hs
   obtain⟨cs,hx,hv,hk⟩:=h
   exact⟨_,aN (by simp only[aK,hop,hu,hx,hf,partOf,ha,hs,aU.2 hv]),hk⟩
 case index t x ix =>
  simp only[bi,hop]at h
  split at h <;>try(cases h;done)
  ·rename_i hu
   obtain⟨s,k,n,b,hx,hi,h0,hb,hk⟩:=h
   exact⟨_,aN (by simp only[aK,hop,hu,hx,hi,uW h0,cB,hb]),hk⟩
  ·rename_i len elem hu
   split at h <;>try(cases h;done)
   ·rename_i ha
    split at h <;>try(cases h;done)
    rename_i hs
    obtain⟨cs,k,n,v,hx,hi,h0,h1,hv,hk⟩:=h
    exact⟨_,aN (by simp only[aK,hop,hu,hx,hi,uW h0,aU.2 (show n.toNat+1≤len by omega),hs,partOf,ha,cB,Nat.mul_one];exact hv),hk⟩
   ·rename_i ha
    split at h <;>try(cases h;done)
    rename_i size hs
    obtain⟨cs,k,n,hx,hi,h0,h1,hv,hk⟩:=h
    exact⟨_,aN (by simp only[aK,hop,hu,hx,hi,uW h0,aU.2 (show n.toNat+1≤len by omega),hs,partOf,ha,aU.2 hv]),hk⟩
 case slice t x lo hi mx =>
  simp only[bi,hop]at h
  split at h <;>try(cases h;done)
  ·rename_i hu
   split at h <;>try(cases h;done)
   obtain⟨v,hv,hk⟩:=h
   refine⟨_,aN ?_,hk⟩
   unfold dF at hv
   split at hv <;>try(cases hv;done)
   rename_i s hex
   split at hv <;>try(cases hv;done)
   rename_i l hh hl hhh
   split at hv <;>try(cases hv;done)
   rename_i hc
   simp only[aK,hop,hex,LU,hu,sP,hl,hhh,aU.2 hc.1,aU.2 hc.2]
   exact hv
  ·rename_i elem hu
   split at h <;>try(cases h;done)
   rename_i size hs
   obtain⟨v,hv,hk⟩:=h
   have h1:=aci hu hs hv
   refine⟨_,aN ?_,hk⟩
   simp only[aK,hop]
   split
   ·rename_i s hex
    simp[bI,hex]at hv
   ·exact h1
  ·rename_i n elem hu
   split at h <;>try(cases h;done)
   rename_i size hs
   obtain⟨v,hv,hk⟩:=h
   have h1:=abB hu hs hv
   refine⟨_,aN ?_,hk⟩
   simp only[aK,hop]
   split
   ·rename_i s hex
    simp[Jy,hex]at hv
   ·exact h1
 case sliceToArrayPointer arr x =>
  simp only[bi,hop]at h
  split at h <;>try(cases h;done)
  rename_i n elem hu
  obtain⟨b,p,len,cap,hx,hn,hk⟩:=h
  refine⟨_,.inl fun _ ρ w c M' _ hw he0=>?_,hk⟩
  have hxr:ai ρ (e x) (c x):=he0 x (by rw[hop];simp[Op.operands])
  rw[hx]at hxr
  obtain⟨i,cc,hb,hc⟩:=eZ hxr
  refine⟨.pointer (some ⟨i.cb,i.sh+p,none⟩), ?_,.ptr _ _ _ hb⟩
  simp only[execOp,hop,hc,Instr.arrayAt,Sem.run_bind,run_underlying hu,Result.andThen_ok,if_neg (Nat.not_lt.2 hn),Sem.run_pure]
 case extract x i =>
  simp only[bi,hop]at h
  obtain⟨vs,v,hx,hv,hk⟩:=h
  exact⟨_,aN (by simp only[aK,hop,hx,cB];exact hv),hk⟩
 case makeInterface t x =>
  simp only[bi,hop]at h
  split at h <;>try(cases h;done)
  rename_i d hne hu
  exact⟨_,aN (by simp only[aK,hop,hu]),h⟩
 case makeFunc f first captured =>
  simp only[bi,hop]at h
  split at h <;>try(cases h;done)
  exact⟨_,aN (by simp only[aK,hop]),h⟩
 case build t parts =>
  simp only[bi,hop]at h
  split at h <;>try(cases h;done)
  ·rename_i it n el hi hu
   split at h <;>try(cases h;done)
   rename_i z ie hz hie
   split at h <;>try(cases h;done)
   rename_i cs hcs
   obtain⟨cs',hf,hk⟩:=h
   refine⟨_,aN ?_,hk⟩
   simp only[aK,hop,hi,hu,hz,hie,hcs]
   rw[Rl _ (parts.toList.map fun p=>(p.1*ie.size,ie.size,e p.2)) _ (by simp),hf]
   rfl
  ·rename_i it fields hi hu
   split at h <;>try(cases h;done)
   rename_i z places hz hpl
   split at h <;>try(cases h;done)
   rename_i cs ps hcs hps
   obtain⟨cs',hf,hk⟩:=h
   refine⟨_,aN ?_,hk⟩
   simp only[aK,hop,hi,hu,hz,hpl,hcs]
   rw[Rl _ ps _ ?_,hf]
   ·rfl
   ·rw[List.map_map]
    revert hps
    generalize parts.toList=pl
    intro hps
    induction pl generalizing ps cs cs' with
    |nil=>simp[bW]at hps;subst hps;rfl
    |cons p pl ih =>
     simp only[bW]at hps
     split at hps <;>try(cases hps;done)
     rename_i y hy
     split at hps <;>try(cases hps;done)
     rename_i ys hys
     cases hps
     simp only[List.map_cons,List.cons.injEq]
     refine⟨?_, ?_⟩
     ·split at hy <;>try(cases hy;done)
      rename_i q hq
      cases hy
      simp[hq]
     ·clear ih hf
      revert hys
      generalize ys=zs
      intro hys
      induction pl generalizing zs with
      |nil=>simp[bW]at hys;subst hys;rfl
      |cons p pl ih =>
       simp only[bW]at hys
       split at hys <;>try(cases hys;done)
       rename_i y' hy'
       split at hys <;>try(cases hys;done)
       rename_i ys' auD
       cases hys
       simp only[List.map_cons,List.cons.injEq]
       refine⟨?_,ih _ auD⟩
       split at hy' <;>try(cases hy';done)
       rename_i q hq
       cases hy'
       simp[hq]
 case binOp op t x y yt =>
  simp only[bi,hop]at h
  split at h <;>try(cases h;done)
  ·split at h
   ·obtain⟨k,a,l,b,v,hx,hy,hv,hk⟩:=h
    exact⟨_,aN (afX hop hx hy hv),hk⟩
   ·obtain⟨k,a,l,b,v,hx,hy,hv,hk⟩:=h
    exact⟨_,aN (afX hop hx hy hv),hk⟩
   ·obtain⟨k,a,b,v,hx,hy,hv,hk⟩:=h
    exact⟨_,aN (alb hop hx hy hv),hk⟩
  ·obtain⟨a,b,v,hx,hy,hv,hk⟩:=h
   exact⟨_,aN (by simp only[aK,hop,hx,hy];exact hv),hk⟩
  ·rename_i hu
   split at h <;>try(cases h;done)
   ·obtain⟨a,b,hx,hy,hk⟩:=h
    exact⟨_,aN (Om hop hx hy hu (.inl ⟨rfl,rfl⟩)),hk⟩
   ·obtain⟨a,b,hx,hy,hk⟩:=h
    exact⟨_,aN (Om hop hx hy hu (.inr ⟨rfl,rfl⟩)),hk⟩
  ·rename_i fs hu
   have key:∀ (ks:List Nat)(neg:Bool),PI P t=some ks→FH neg ks (e x) (e y) K→((op=.eql∧neg=false)∨(op=.neq∧neg=true))→∃ v,((∀ M',gH P o e M' v)∨(kindOf P o=.read∧gH P o e M v))∧K v:=by
    intro ks neg hf h Ed
    obtain⟨cs,ds,r,hx,hy,hlc,hld,he,hk⟩:=h
    refine⟨_,.inl fun _ ρ w c M' _ hw he0=>⟨.bool (r != neg), ?_,.sc _ rfl⟩,hk⟩
    have hxr:ai ρ (e x) (c x):=he0 x (by rw[hop];simp[Op.operands])
    have hyr:ai ρ (e y) (c y):=he0 y (by rw[hop];simp[Op.operands])
    rw[hx]at hxr
    rw[hy]at hyr
    obtain⟨us,hcx,hru⟩:=Aq hxr
    obtain⟨vs,hcy,hrv⟩:=Aq hyr
    unfold PI at hf
    split at hf <;>try(cases hf;done)
    rename_i hg
    have hrun:(Op.equalIn 10000 t (.agg ⟨us⟩) (.agg ⟨vs⟩)).run P w=.ok r w:=by
     rcases Xc 10 t ks 10000 hf (by omega) cs ds us vs r w hru hrv hlc hld he with⟨_,h1⟩|⟨h1,_⟩
     ·exact h1
     ·simp[bK,hu]at h1
    simp only[execOp,hop,hcx,hcy,Sem.run_bind,run_eqGuard_agg w op t x y _ _ hg,Result.andThen_ok]
    rcases Ed with⟨rfl,rfl⟩|⟨rfl,rfl⟩
    ·rw[run_eql_struct,hrun];cases r<;>rfl
    ·rw[run_neq_struct,hrun];cases r<;>rfl
   split at h <;>try(cases h;done)
   ·exact key _ _ ‹_› h (.inl ⟨rfl,rfl⟩)
   ·exact key _ _ ‹_› h (.inr ⟨rfl,rfl⟩)
  ·obtain⟨v,hv,hk⟩:=h
   exact⟨_,aN hv,hk⟩
  ·split at h <;>try(cases h;done)
   ·obtain⟨v,hv,hk⟩:=h
    exact⟨_,aN hv,hk⟩
   ·rename_i h0
    obtain⟨r,hr,hk⟩:=SK hop (.inl ⟨rfl,rfl⟩) rfl (fun e0=>h0 e0) h
    exact⟨_,aN hr,hk⟩
   ·rename_i h0
    obtain⟨r,hr,hk⟩:=SK hop (.inr ⟨rfl,rfl⟩) rfl (fun e0=>h0 e0) h
    exact⟨_,aN hr,hk⟩
 case convert src dst x =>
  simp only[bi,hop]at h
  split at h <;>try(cases h;done)
  ·rename_i k hs hd
   obtain⟨l,n,hx,hk⟩:=h
   refine⟨_,aN ?_,hk⟩
   simp only[aK,hop]
   refine ko (l:=[.int l n]) (by rw[hop];simp[Op.operands,bW,hx,bZ,toCell]) (u:=.int k (k.wrap n)) ?_ rfl
   simp only[execOp,hop,hx,bZ,toCell,Option.getD_some]
   refine bH _ _ (Value.int k (k.wrap n)) ?_
   simp only[convert]
   rw[bH _ _ _ (eG hs),bH _ _ _ (eG hd)]
   rfl
  ·rename_i hs hd
   obtain⟨s,hx,hk⟩:=h
   refine⟨_,aN ?_,hk⟩
   simp only[aK,hop]
   refine ko (l:=[.string ⟨⟨s⟩⟩]) (by rw[hop];simp[Op.operands,bW,hx,bZ,toCell]) (u:=.string ⟨⟨s⟩⟩) ?_ rfl
   simp only[execOp,hop,hx,bZ,toCell,Option.getD_some]
   refine bH _ _ (Value.string ⟨⟨s⟩⟩) ?_
   simp only[convert]
   rw[bH _ _ _ (eG hs),bH _ _ _ (eG hd)]
   rfl
  ·rename_i k0 hs hd
   obtain⟨l,n,hx,hk⟩:=h
   refine⟨_,aN ?_,hk⟩
   simp only[aK,hop]
   refine ko (l:=[.int l n]) (by rw[hop];simp[Op.operands,bW,hx,bZ,toCell]) (u:=.string (Utf8.encode n)) ?_ rfl
   simp only[execOp,hop,hx,bZ,toCell,Option.getD_some]
   refine bH _ _ (Value.string (Utf8.encode n)) ?_
   simp only[convert]
   rw[bH _ _ _ (eG hs),bH _ _ _ (eG hd)]
   rfl
  ·rename_i el hs hd
   split at h <;>try(cases h;done)
   rename_i hel
   obtain⟨s,hx,hk⟩:=h
   refine⟨_,.inr ⟨by simp only[kindOf,hop,hs,hd],fun ρ w c M' hsub hw he=>?_⟩,hk⟩
   have hxr:ai ρ (e x) (c x):=he x (by rw[hop];simp[Op.operands])
   unfold qU at hx
   split at hx <;>try(cases hx;done)
   ·rename_i b p len cap hex
    split at hx <;>try(cases hx;done)
    rename_i xs hl
    rw[hex]at hxr
    obtain⟨i,cp,hbi,hc⟩:=eZ hxr
    obtain⟨vs,hr,hlen,_,hrun⟩:=RM.mW (P:=P) hw hbi (hsub.loads hl)
    obtain⟨ns,rfl,rfl⟩:=wM hr hx
    refine⟨_, ?_,.sc _ rfl⟩
    simp only[execOp,hop,hc,Sem.run_bind]
    rw[run_convert_bytes_string w src dst el _ len cp hs hel hd,run_bytesToString w _ len cp ns (by rw[hrun]),foldl_push_bytes]
    have he0:ByteArray.empty.data = #[]:=rfl
    simp[he0]
   ·rename_i b hex
    cases hx
    rw[hex]at hxr
    generalize hcx:c x=cx at hxr
    cases hxr with
    |emp _ ad cp =>
    refine⟨_, ?_,.sc _ rfl⟩
    simp only[execOp,hop,hcx,Sem.run_bind]
    rw[run_convert_bytes_string w src dst el _ 0 cp hs hel hd,run_bytesToString w _ 0 cp [] (by rfl)]
    rfl
   ·rename_i hex
    cases hx
    rw[hex]at hxr
    refine⟨_, ?_,.sc _ rfl⟩
    simp only[execOp,hop,(aH hxr).1,Sem.run_bind]
    rw[run_convert_bytes_string w src dst el _ 0 0 hs hel hd]
    rfl
  ·rename_i t hs hd
   split at h <;>try(cases h;done)
   rename_i n hsz
   obtain⟨b,p,l,opn,el,fz,hex,hg,hle,hk⟩:=h
   refine⟨_,.inr ⟨by simp only[kindOf,hop,hs,hd],fun ρ w c M' hsub hw he=>?_⟩,hk⟩
   obtain⟨A,hA⟩:=hw
   rcases hA.blk b _ (hsub.2 b _ hg)with⟨y,hy,hr⟩|⟨_,e0,_⟩
   ·cases y <;>try exact hr.elim
    obtain⟨h1,rfl,rfl,rfl,h5⟩:=hr
    refine Be hA.rel he ?_
    simp only[j4,hop,hs,hd,hex,hy,hsz]
    rw[aU.2 (by omega)]
   ·cases e0
  ·rename_i u hs hd
   split at h <;>try(cases h;done)
   rename_i n hsz hc1 hli
   obtain⟨b,l,opn,fz,hex,hg,hle,hk⟩:=h
   have hc1:=bf hc1
   refine⟨_,.inr ⟨by simp only[kindOf,hop,hs,hd],fun ρ w c M' hsub hw he=>?_⟩,hk⟩
   obtain⟨A,hA⟩:=hw
   rcases hA.blk b _ (hsub.2 b _ hg)with⟨y,hy,hr⟩|⟨_,e0,_⟩
   ·cases y <;>try exact hr.elim
    rename_i nn tree zs Ng lD fz'
    obtain⟨h1,rfl,rfl,rfl,h5⟩:=hr
    refine Be hA.rel he ?_
    have hdiv:nn / P.cellsOf lD=1:=by rw[← h1,hle];exact Nat.div_self (by omega)
    simp only[j4,hop,hs,hd,hex,hy,hsz,hdiv,hli]
   ·cases e0
  ·obtain⟨v,hv,hk⟩:=h
   exact⟨_,aN hv,hk⟩
 case unOp op t x =>
  simp only[bi,hop]at h
  split at h
  ·obtain⟨b,hx,hk⟩:=h
   refine⟨_,aN ?_,hk⟩
   simp only[aK,hop]
   refine ko (l:=[.bool b]) (by rw[hop];simp[Op.operands,bW,hx,bZ,toCell]) (u:=.bool (!b)) ?_ rfl
   simp only[execOp,hop,hx,bZ,toCell,Option.getD_some]
   rfl
  ·obtain⟨k,n,hx,hk⟩:=h
   refine⟨_,aN ?_,hk⟩
   simp only[aK,hop]
   refine ko (l:=[.int k n]) (by rw[hop];simp[Op.operands,bW,hx,bZ,toCell]) (u:=.int k (k.wrap (0-n))) ?_ rfl
   simp only[execOp,hop,hx,bZ,toCell,Option.getD_some]
   rfl
  ·obtain⟨k,n,hx,hk⟩:=h
   refine⟨_,aN ?_,hk⟩
   simp only[aK,hop]
   refine ko (l:=[.int k n]) (by rw[hop];simp[Op.operands,bW,hx,bZ,toCell]) (u:=.int k (k.wrap (BitVec.ofInt k.bits (if k.signed then -1 else k.max) ^^^ BitVec.ofInt k.bits n).toNat)) ?_ rfl
   simp only[execOp,hop,hx,bZ,toCell,Option.getD_some]
   rfl
  ·obtain⟨v,hv,hk⟩:=h
   exact⟨_,aN hv,hk⟩
 case lookup t x k ok =>
  simp only[bi,hop]at h
  split at h <;>try(cases h;done)
  rename_i kt et hu
  split at h <;>try(cases h;done)
  rename_i ks a z hf ha hz
  obtain⟨b,es,cl,kc,r,hx,hg,hkc,hl,hr,hk⟩:=h
  refine⟨_,.inr ⟨by simp only[kindOf,hop],fun ρ w c M' hsub hw he=>?_⟩,hk⟩
  have hxr:ai ρ (e x) (c x):=he x (by rw[hop];simp[Op.operands])
  have hkr:ai ρ (e k) (c k):=he k (by rw[hop];simp[Op.operands])
  rw[hx]at hxr
  generalize hcx:c x=cx at hxr
  cases hxr with
  |map _ i hb =>
  obtain⟨A,hA⟩:=hw
  rcases hA.blk b _ (hsub.2 _ _ hg)with⟨y,hy,hle⟩|⟨_,e0,_⟩
  ·cases y <;>try exact hle.elim
   obtain⟨rfl,rfl⟩:=hle
   obtain⟨ob,hob,fs,rfl,hfs⟩:=hA.rel.blk b i _ hb hy
   have hgo:=zO (P:=P) hob
   obtain⟨r',hr1,hr2⟩:=ED (w:=w) hf ha hkc hl hkr hfs hr
   have hck:=Bt (em:=fs.isEmpty) (w:=w) hf ha hkc hl hkr
   unfold Ug at hz
   split at hz <;>try(cases hz;done)
   rename_i z0 hz0
   have zR:∀ {u:Value},(Instr.lookup t (.map (some i.cb)) (c k) ok).run P w=.ok u w→(execOp c o).run P w=.ok (.value u) w:=fun {u} hrun=>by
    simp only[execOp,hop,hcx,Sem.run_bind,hrun,Result.andThen_ok,Sem.run_pure]
   cases r with
   |some p =>
    obtain⟨j,va⟩:=p
    cases r' with
    |none=>exact hr2.elim
    |some q =>
     obtain⟨j',vv⟩:=q
     refine⟨if ok then Value.tuple #[vv,.bool true]else vv,zR ?_, ?_⟩
     ·unfold Instr.lookup
      simp only[Sem.run_bind,run_underlying hu,Result.andThen_ok,hgo,hck,hr1,Sem.run_pure]
     ·cases ok
      ·exact hr2.2
      ·exact .tup _ _ (.cons _ _ _ _ hr2.2 (.cons _ _ _ _ (.sc _ rfl) .nil))
   |none =>
    cases r' with
    |some q=>exact hr2.elim
    |none =>
     refine⟨if ok then Value.tuple #[z0,.bool false]else z0,zR ?_, ?_⟩
     ·unfold Instr.lookup
      simp only[Sem.run_bind,run_underlying hu,Result.andThen_ok,hgo,hck,hr1,fE hz0 w,Sem.run_pure]
     ·cases ok
      ·exact iP hz
      ·exact .tup _ _ (.cons _ _ _ _ (iP hz) (.cons _ _ _ _ (.sc _ rfl) .nil))
  ·cases e0
 case entry it =>
  simp only[bi,hop]at h
  obtain⟨b,m,since,seen,es,cl,n,en,hx,hgb,hgm,hfe,hk⟩:=h
  refine⟨_,.inr ⟨by simp only[kindOf,hop],fun ρ w c M' hsub hw he=>?_⟩,hk⟩
  have hxr:ai ρ (e it) (c it):=he it (by rw[hop];simp[Op.operands])
  rw[hx]at hxr
  obtain⟨i,hb,hcx⟩:=bX hxr
  obtain⟨A,hA⟩:=hw
  rcases hA.blk b _ (hsub.2 _ _ hgb)with⟨y,hy,hle⟩|⟨_,e0,_⟩
  ·cases y <;>try exact hle.elim
   rename_i ya yb yc yd
   obtain⟨e1,e2,e3,e4⟩:=hle
   rw[e1,e2,e3,e4]at hy
   obtain⟨ob,hob,hsh,m',rfl,j,hj,rfl⟩:=hA.rel.blk b i _ hb hy
   rcases hA.blk m _ (hsub.2 _ _ hgm)with⟨y2,hy2,hle2⟩|⟨_,e0,_⟩
   ·cases y2 <;>try exact hle2.elim
    rename_i za zb
    obtain⟨f1,f2⟩:=hle2
    rw[f1,f2]at hy2
    obtain⟨ob2,ayJ,fs,rfl,hfs⟩:=hA.rel.blk m j _ hj hy2
    obtain⟨f,hff,hk1,hk2⟩:=aar hfs hfe
    have GD:c it=.pointer (some ⟨i.cb,0,none⟩):=by rw[hcx,hsh]
    have hget:(getObj i.cb).run P w=.ok (.mapIter (some j.cb) since ⟨seen++[n]⟩ cl) w:=by simp[getObj,Sem.run,hob]
    have abW:(getObj j.cb).run P w=.ok (.map fs cl) w:=by simp[getObj,Sem.run,ayJ]
    refine⟨.tuple #[f.key,f.val], ?_,.tup _ _ (.cons _ _ _ _ hk1 (.cons _ _ _ _ hk2 .nil))⟩
    have hback:(⟨seen++[n]⟩ : Array Nat).back?=some n:=by simp[Array.back?]
    have hfind:fs.find? (fun g=>g.born==n)=some f:=by rw[← Array.find?_toList];exact hff
    simp only[execOp,hop,Instr.entry,GD,Sem.run_bind,hget,Result.andThen_ok,hback,abW,hfind,Sem.run_pure]
    simp[Sem.run_pure,Sem.run,Result.andThen]
   ·cases e0
  ·cases e0
 case typeAssert x xt t ok =>
  simp only[bi,hop]at h
  split at h <;>try(cases h;done)
  rename_i u hni hu
  obtain⟨v,hx,hk⟩:=h
  refine⟨_,.inl fun M' ρ w c M'' hsub hw he=>?_,hk⟩
  have hxr:ai ρ (e x) (c x):=he x (by rw[hop];simp[Op.operands])
  rw[hx]at hxr
  generalize hcx:c x=cx at hxr
  cases hxr with
  |ifc _ _ v' hv =>
  refine⟨if ok then .tuple #[v',.bool true]else v', ?_, ?_⟩
  ·have hrun:(Instr.typeAssert (.iface t v') xt t ok).run P w=.ok (if ok then .tuple #[v',.bool true]else v') w:=by
    simp only[Instr.typeAssert,Sem.run_bind,run_underlying hu,Result.andThen_ok]
    cases u<;>first|(exact absurd rfl (hni _))|simp[Sem.run_pure]
   simp only[execOp,hop,hcx,Sem.run_bind,hrun,Result.andThen_ok,Sem.run_pure]
  ·cases ok with
   |true=>exact .tup _ _ (.cons _ _ _ _ hv (.cons _ _ _ _ (.sc _ rfl) .nil))
   |false=>exact hv
 case load t x =>
  simp only[bi,hop]at h
  split at h <;>try(cases h;done)
  ·rename_i ha
   obtain⟨b,p,v,hx,hl,hk⟩:=h
   refine⟨_,.inr ⟨by simp only[kindOf,hop],fun ρ w c M' hsub hw he=>?_⟩,hk⟩
   have hxr:ai ρ (e x) (c x):=he x (by rw[hop];simp[Op.operands])
   rw[hx]at hxr
   obtain⟨i,hb,hc⟩:=bX hxr
   obtain⟨u,hu,hcell⟩:=sG hw hb (hsub.loads hl)
   refine⟨u, ?_,hu⟩
   simp only[execOp,hop,Instr.loadAt,Instr.sureAddr,loadVar,hc,Sem.run_bind,Sem.run_pure,Result.andThen_ok,jk ha,Bool.false_eq_true,if_false,load,Sem.run]
   simp[hcell,Sem.run]
  ·rename_i ha
   split at h <;>try(cases h;done)
   rename_i n hs
   obtain⟨b,p,xs,hx,hl,hk⟩:=h
   refine⟨_,.inr ⟨by simp only[kindOf,hop],fun ρ w c M' hsub hw he=>?_⟩,hk⟩
   have hxr:ai ρ (e x) (c x):=he x (by rw[hop];simp[Op.operands])
   rw[hx]at hxr
   obtain⟨i,hb,hc⟩:=bX hxr
   obtain⟨vs,hr,hlen,_,hrun⟩:=RM.mW (P:=P) hw hb (hsub.loads hl)
   refine⟨.agg ⟨vs⟩, ?_,.agg _ _ hr⟩
   simp only[execOp,hop,Instr.loadAt,Instr.sureAddr,loadVar,hc,Sem.run_bind,Sem.run_pure,Result.andThen_ok,jk ha,if_true,cZ hs,hrun]
 case call cl =>
  obtain⟨callee,args,ts⟩:=cl
  cases callee with
  |builtin b =>
   cases b
   case len =>
    simp only[bi,hop]at h
    split at h <;>try(cases h;done)
    rename_i t x ht hx
    have zR:∀ {w:World}{c:Operand→Value}{n:Nat},(Builtin.len_ ts o.type (args.map c)).run P w=.ok (.int .i64 n) w→(execOp c o).run P w=.ok (.value (.int .i64 n)) w:=by
     intro w c n hrun
     simp only[execOp,hop,resolve,invoke,builtin,Sem.run_bind,Sem.run_pure,Result.andThen_ok,hrun]
    split at h <;>try(cases h;done)
    ·rename_i el hu
     obtain⟨n,hn,hk⟩:=h
     refine⟨_,.inl fun _ ρ w c M' _ hw he=>⟨.int .i64 n,zR ?_,.sc _ rfl⟩,hk⟩
     have hr:ai ρ (e x) (c x):=he x (by rw[hop];simp only[Op.operands,Call.operands,Array.empty_append];exact Array.mem_of_getElem? hx)
     unfold PZ at hn
     split at hn <;>try(cases hn;done)
     ·rename_i b p k cap hex
      cases hn
      rw[hex]at hr
      obtain⟨i,cp,hb,hc⟩:=eZ hr
      simp only[Builtin.len_,ht,Array.getElem?_map,hx,Option.map_some,hc,Sem.run_bind,run_underlying hu,Result.andThen_ok,Sem.run_pure,goInt]
     ·rename_i b hex
      cases hn
      rw[hex]at hr
      generalize hcx:c x=cx at hr
      cases hr
      simp only[Builtin.len_,ht,Array.getElem?_map,hx,Option.map_some,hcx,Sem.run_bind,run_underlying hu,Result.andThen_ok,Sem.run_pure,goInt]
     ·rename_i hex
      cases hn
      rw[hex]at hr
      simp only[Builtin.len_,ht,Array.getElem?_map,hx,Option.map_some,(aH hr).1,Sem.run_bind,run_underlying hu,Result.andThen_ok,Sem.run_pure,goInt]
    ·rename_i hu
     obtain⟨s,hex,hk⟩:=h
     refine⟨_,.inl fun _ ρ w c M' _ hw he=>⟨.int .i64 s.length,zR ?_,.sc _ rfl⟩,hk⟩
     have hr:ai ρ (e x) (c x):=he x (by rw[hop];simp only[Op.operands,Call.operands,Array.empty_append];exact Array.mem_of_getElem? hx)
     rw[hex]at hr
     simp only[Builtin.len_,ht,Array.getElem?_map,hx,Option.map_some,(aH hr).1,Sem.run_bind,run_underlying hu,Result.andThen_ok,Sem.run_pure,goInt]
     rfl
    ·rename_i kt et hu
     obtain⟨b,es,cl,hex,hg,hk⟩:=h
     refine⟨_,.inr ⟨by simp only[kindOf,hop,ht,hu],fun ρ w c M' hsub hw he=>⟨.int .i64 es.length,zR ?_,.sc _ rfl⟩⟩,hk⟩
     have hr:ai ρ (e x) (c x):=he x (by rw[hop];simp only[Op.operands,Call.operands,Array.empty_append];exact Array.mem_of_getElem? hx)
     rw[hex]at hr
     generalize hcx:c x=cx at hr
     cases hr with
     |map _ i hb =>
     obtain⟨A,hA⟩:=hw
     rcases hA.blk b _ (hsub.2 _ _ hg)with⟨y,hy,hle⟩|⟨_,e0,_⟩
     ·cases y <;>try exact hle.elim
      obtain⟨rfl,rfl⟩:=hle
      obtain⟨ob,hob,fs,rfl,hfs⟩:=hA.rel.blk b i _ hb hy
      have hlen:∀ (es:List (AV×AV×Nat))(fs:List MapEntry),dB ρ es fs→es.length=fs.length:=by
       intro es
       induction es with
       |nil=>intro fs h;cases fs<;>simp_all [dB]
       |cons a es ih =>
        intro fs h
        cases fs with
        |nil=>exact h.elim
        |cons f fs=>simp[ih fs h.2.2.2]
      simp only[Builtin.len_,ht,Array.getElem?_map,hx,Option.map_some,hcx,Sem.run_bind,run_underlying hu,Result.andThen_ok,getObj,Sem.run,hob]
      simp[goInt,hlen _ _ hfs]
     ·cases e0
   case cap =>
    simp only[bi,hop]at h
    split at h <;>try(cases h;done)
    rename_i t x ht hx
    split at h <;>try(cases h;done)
    rename_i el hu
    obtain⟨n,hn,hk⟩:=h
    refine⟨_,aN ?_,hk⟩
    split at hn <;>try(cases hn;done)
    ·rename_i b p k cc hex
     cases hn
     simp only[aK,hop,ht,hx,hu,hex]
    ·rename_i hex
     cases hn
     simp only[aK,hop,ht,hx,hu,hex]
     rfl
   case unsafeSliceData =>
    simp only[bi,hop]at h
    split at h <;>try(cases h;done)
    rename_i x
    unfold UN at h
    split at h <;>try(cases h;done)
    ·rename_i hex;exact⟨_,aN (by simp only[aK,hop,hex]),h⟩
    ·rename_i hex;exact⟨_,aN (by simp only[aK,hop,hex]),h⟩
    ·rename_i hex;exact⟨_,aN (by simp only[aK,hop,hex]),h⟩
   case min =>
    simp only[bi,hop]at h
    split at h <;>try(cases h;done)
    rename_i x y
    obtain⟨k,a,b,hx,hy,hk⟩:=h
    refine⟨_,aN ?_,hk⟩
    simp only[aK,hop]
    refine ko (l:=[.int k a,.int k b]) (by rw[hop];simp[Op.operands,Call.operands,bW,hx,hy,bZ,toCell]) (u:=.int k (if b<a then b else a)) ?_ rfl
    simp only[execOp,hop,resolve,invoke,builtin]
    rw[show(Array.map (fun x=>(bZ (e x)).getD default) ⟨[x,y]⟩) = #[.int k a,.int k b] by simp[hx,hy,bZ,toCell]]
    rfl
   case max =>
    simp only[bi,hop]at h
    split at h <;>try(cases h;done)
    rename_i x y
    obtain⟨k,a,b,hx,hy,hk⟩:=h
    refine⟨_,aN ?_,hk⟩
    simp only[aK,hop]
    refine ko (l:=[.int k a,.int k b]) (by rw[hop];simp[Op.operands,Call.operands,bW,hx,hy,bZ,toCell]) (u:=.int k (if b>a then b else a)) ?_ rfl
    simp only[execOp,hop,resolve,invoke,builtin]
    rw[show(Array.map (fun x=>(bZ (e x)).getD default) ⟨[x,y]⟩) = #[.int k a,.int k b] by simp[hx,hy,bZ,toCell]]
    rfl
   all_goals (simp only[bi,hop]at h)
  |value f=>simp only[bi,hop]at h
  |invoke r m=>simp only[bi,hop]at h
 all_goals (simp only[bi,hop]at h)
end
def eu(zs:List AV):Nat→List AV
 |0=>[]
 |n+1=>zs++eu zs n
theorem qF(zs:List AV):∀ n,(eu zs n).length=n*zs.length
 |0=>by simp[eu]
 |n+1=>by simp[eu,qF zs n,Nat.add_mul,Nat.add_comm]
theorem Nh(zs:List AV)(h:0<zs.length):∀ (n k:Nat),k<n*zs.length→(eu zs n)[k]?=zs[k%zs.length]?
 |0,k,hk=>by simp at hk
 |n+1,k,hk=>by
  simp only[eu]
  by_cases h1:k<zs.length
  ·rw[List.getElem?_append_left h1,Nat.mod_eq_of_lt h1]
  ·rw[List.getElem?_append_right (by omega),Nh zs h n _ (by rw[Nat.add_mul]at hk;omega)]
   congr 1
   have:k=(k-zs.length)+zs.length:=by omega
   rw[this,Nat.add_mod_right];simp
theorem N8(zs:List AV):∀ n,oO.rep zs n=eu zs n
 |0=>rfl
 |n+1=>by simp only[oO.rep,eu,N8 zs n]
def wH:List AV→List (Nat×Nat×AV)→Option (List AV)
 |cs,[]=>some cs
 |cs,(off,size,v)::rest=>if v.cells.all oneCell=true∧v.cells.length=size∧off+size≤cs.length then wH (cs.take off++v.cells++cs.drop (off+size)) rest else none
def Bj(t:TypeId)(x:AV)(K:RB→(Nat→AV)→Prop):Prop:=x.cells.all oneCell=true∧1≤x.cells.length∧K (.row x.cells false t 0) (fun b=>.ptr b 0)
def jN(elem len:Nat)(zs:List AV)(parts:List (Nat×Nat×AV))(K:RB→(Nat→AV)→Prop):Prop :=
 ∃ l,wH (eu zs len) parts=some l∧K (.row l false elem 0) (fun b=>.slc b 0 len (.ex len))
def ajI(elem bytes:Nat)(zs:List AV)(x y:AV)(K:RB→(Nat→AV)→Prop):Prop :=
 ∃ kl kc l c,x=N kl l∧y=N kc c∧0≤l∧l≤c∧c.toNat*bytes≤140737488355328∧c.toNat≤140737488355328∧K (.row (eu zs c.toNat) false elem 0) (fun b=>.slc b 0 l.toNat (.ex c.toNat))
def tX(el:Nat)(x:AV)(K:RB→(Nat→AV)→Prop):Prop :=
 ∃ s,x=St s∧K (.row (s.map fun b=>N .u8 b.toNat) true el 0) (fun b=>.slc b 0 s.length (.op 1))
def anr(x:AV)(K:RB→(Nat→AV)→Prop):Prop:=∃ s,x=St s∧K (.mi s 0) (fun b=>.ptr b 0)
def kK(P:Program)(o:Oper)(e:Operand→AV)(K:RB→(Nat→AV)→Prop):Prop :=
 match o.op with
 |.alloc t=>match gZ P t with
  |some zs=>match Nat.ble 1 zs.length with
   |true=>K (.row zs false t 0) (fun b=>.ptr b 0)
   |false=>False
  |none=>False
 |.box t x=>Bj t (e x) K
 |.buildSlice t len parts=>match P.underlying t with
  |some (.slice elem)=>match aL P elem,gZ P elem with
   |some size,some zs=>match Nat.ble 1 size,Nat.beq zs.length size,Nat.ble (len*size) 10000 with
    |true,true,true=>jN elem len zs (parts.toList.map fun p=>(p.1*size,size,e p.2)) K
    |_,_,_=>False
   |_,_=>False
  |_=>False
 |.makeSlice t l c=>match P.underlying t with
  |some (.slice elem)=>match aL P elem,uD P elem,gZ P elem with
   |some size,some bytes,some zs=>match Nat.ble 1 size,Nat.beq zs.length size with
    |true,true=>ajI elem bytes zs (e l) (e c) K
    |_,_=>False
   |_,_,_=>False
  |_=>False
 |.makeMap t r=>match r with
  |none=>K (.map [] 0) (fun b=>.map b)
  |some _=>False
 |.convert src dst x=>match P.underlying src,P.underlying dst with
  |some .string,some (.slice el)=>match P.underlying el,aL P el with
   |some (.int .u8),some 1=>tX el (e x) K
   |_,_=>False
  |_,_=>False
 |.range t x=>match P.underlying t with
  |some .string=>anr (e x) K
  |_=>False
 |_=>False
section
variable {P:Program} {ρ:Ren} {o:Oper} {e:Operand→AV} {M:RM} {w:World}
def Bz(P:Program)(o:Oper)(e:Operand→AV)(x:RB)(mk:Nat→AV):Prop:=∃ y,gu P o e=some (y,mk)∧BO x y
theorem Ef{tree:Tree AV}{zs:List AV}{n k:Nat}{v:AV}(hk:k<n)(h:tree.get k=some v):cellAt tree zs n k=some v:=by
 unfold cellAt
 rw[aU.2 (by omega),h]
theorem BP{tree:Tree AV}{zs:List AV}{n k:Nat}{v:AV}(hk:k<n)(h:tree.get k=none)(hz:zs[k%zs.length]?=some v):cellAt tree zs n k=some v:=by
 unfold cellAt
 rw[aU.2 (by omega),h]
 simp only
 split
 ·simp at hz
 ·rename_i z
  simp[Nat.mod_one]at hz
  rw[hz]
 ·rw[cB];exact hz
theorem aaC{size n:Nat}{zs:List AV}:∀ (parts:List (Nat×AV))(t:Tree AV)(l:List AV){l' : List AV},l.length=n→(∀ (k:Nat)(v:AV),l[k]?=some v→cellAt t zs n k=some v) →
  wH l (parts.map fun p=>(p.1*size,size,p.2))=some l'→∃ t',IE size n t parts=some t'∧l'.length=n∧∀ (k:Nat)(v:AV),l'[k]?=some v→cellAt t' zs n k=some v
 |[],t,l,l',hl,h,hf=>by
  simp only[List.map_nil,wH]at hf
  cases hf
  exact⟨t,rfl,hl,h⟩
 |(i,v)::parts,t,l,l',hl,h,hf=>by
  simp only[List.map_cons,wH]at hf
  split at hf <;>try(cases hf;done)
  rename_i hc
  obtain⟨c1,c2,c3⟩:=hc
  obtain⟨t1,ht1⟩:=lg v.cells t (i*size) c1
  obtain⟨_,hget⟩:=fK _ _ _ ht1
  obtain⟨t',k1,k2,k3⟩:=aaC (zs:=zs) parts t1 _ (n:=n) (by simp;omega) (fun k u hk=>by
   rw[pQ hget]
   by_cases hin:i*size≤k∧k<i*size+v.cells.length
   ·rw[if_pos hin,if_pos (by omega)]
    rw[List.append_assoc,List.getElem?_append_right (by simp;omega),List.getElem?_append_left (by simp;omega)]at hk
    rw[← hk];congr 1;simp;omega
   ·rw[if_neg hin]
    refine h k u ?_
    rw[← hk]
    by_cases hlt:k<i*size
    ·rw[List.append_assoc,List.getElem?_append_left (by simp;omega),List.getElem?_take,if_pos hlt]
    ·rw[List.getElem?_append_right (by simp;omega),List.getElem?_drop]
     congr 1;simp;omega) hf
  refine⟨t', ?_,k2,k3⟩
  simp only[IE,qH c2,aU.2 (show i*size+size≤n by omega),ht1]
  exact k1
theorem X9{K:RB→(Nat→AV)→Prop}{x:RB}{mk:Nat→AV}{y:mY}(hk:K x mk)(ha:gu P o e=some (y,mk))(hl:BO x y):∃ x mk,Bz P o e x mk∧K x mk:=⟨x,mk,⟨y,ha,hl⟩,hk⟩
theorem qL{K:RB→(Nat→AV)→Prop}(h:kK P o e K):∃ x mk,Bz P o e x mk∧K x mk:=by
 cases hop:o.op
 case alloc t =>
  simp only[kK,hop]at h
  split at h <;>try(cases h;done)
  rename_i zs hz
  split at h <;>try(cases h;done)
  rename_i hb
  refine X9 h (y:=.row zs.length .leaf zs false t 0) (by simp only[gu,hop,hz,hb]) ⟨rfl,rfl,rfl,rfl,fun k v hk=>?_⟩
  have hlt:=(List.getElem?_eq_some_iff.1 hk).1
  exact BP hlt (by simp[Tree.get]) (by rw[Nat.mod_eq_of_lt hlt];exact hk)
 case box t x =>
  simp only[kK,hop]at h
  obtain⟨h1,h2,hk⟩:=h
  obtain⟨t',ht⟩:=lg (e x).cells .leaf 0 h1
  obtain⟨_,hget⟩:=fK _ _ _ ht
  refine X9 hk (y:=.row (e x).cells.length t' [] false t 0) (by simp only[gu,hop,ht,aU.2 h2]) ⟨rfl,rfl,rfl,rfl,fun k v hk=>?_⟩
  have hlt:=(List.getElem?_eq_some_iff.1 hk).1
  exact Ef hlt (by rw[hget,if_pos (by omega)];simpa using hk)
 case buildSlice t len parts =>
  simp only[kK,hop]at h
  split at h <;>try(cases h;done)
  rename_i elem hu
  split at h <;>try(cases h;done)
  rename_i size zs hs hz
  split at h <;>try(cases h;done)
  rename_i h1 h2 h3
  obtain⟨l,hf,hk⟩:=h
  have h2':=dG h2
  have h1':=bf h1
  have e0:(parts.toList.map fun p=>(p.1*size,size,e p.2))=(parts.toList.map fun p=>(p.1,e p.2)).map fun p=>(p.1*size,size,p.2):=by simp
  rw[e0]at hf
  obtain⟨t',k1,k2,k3⟩:=aaC (zs:=zs) (n:=len*size) _ .leaf _ (by rw[qF,h2']) (fun k v hk=>by
   have hlt:=(List.getElem?_eq_some_iff.1 hk).1
   rw[qF]at hlt
   rw[Nh zs (by omega) len k hlt]at hk
   exact BP (by rw[← h2'];exact hlt) (by simp[Tree.get]) hk) hf
  exact X9 hk (y:=.row (len*size) t' zs false elem 0) (by simp only[gu,hop,hu,hs,hz,h1,h2,h3,k1]) ⟨k2,rfl,rfl,rfl,k3⟩
 case makeSlice t l c =>
  simp only[kK,hop]at h
  split at h <;>try(cases h;done)
  rename_i elem hu
  split at h <;>try(cases h;done)
  rename_i size bytes zs hs hb hz
  split at h <;>try(cases h;done)
  rename_i h1 h2
  obtain⟨kl,kc,nl,nc,hl,hc,h3,h4,h5,h6,hk⟩:=h
  have h2':=dG h2
  have h1':=bf h1
  refine X9 hk (y:=.row (nc.toNat*size) .leaf zs false elem 0) ?_ ⟨by rw[qF,h2'],rfl,rfl,rfl,fun k v hk=>?_⟩
  ·simp only[gu,hop,hu,hl,hc,uW h3,uW (show 0≤nc by omega),hs,hb,hz,h1,h2,aU.2 (show nl.toNat≤nc.toNat by omega),aU.2 h5,aU.2 h6]
  ·have hlt:=(List.getElem?_eq_some_iff.1 hk).1
   rw[qF]at hlt
   rw[Nh zs (by omega) _ k hlt]at hk
   exact BP (by rw[← h2'];exact hlt) (by simp[Tree.get]) hk
 case makeMap t r =>
  simp only[kK,hop]at h
  split at h <;>try(cases h;done)
  exact X9 h (y:=.map [] 0) (by simp only[gu,hop]) ⟨rfl,rfl⟩
 case convert src dst x =>
  simp only[kK,hop]at h
  split at h <;>try(cases h;done)
  rename_i el hs hd
  split at h <;>try(cases h;done)
  rename_i h1 h2
  obtain⟨s,hx,hk⟩:=h
  refine X9 hk (y:=.row s.length (Tree.ofList (s.map fun b=>N .u8 b.toNat) 0 .leaf) [] true el 0) (by simp only[gu,hop,hs,hd,hx,h1,h2]) ⟨by simp,rfl,rfl,rfl,fun k v hk=>?_⟩
  have hlt:=(List.getElem?_eq_some_iff.1 hk).1
  exact Ef (by simpa using hlt) (by rw[Tree.mZ,if_pos (by omega)];simpa using hk)
 case range t x =>
  simp only[kK,hop]at h
  split at h <;>try(cases h;done)
  rename_i hu
  obtain⟨s,hx,hk⟩:=h
  exact X9 hk (y:=.mi ⟨⟨s⟩⟩ 0) (by simp only[gu,hop,hu,hx]) ⟨rfl,rfl⟩
 all_goals (simp only[kK,hop]at h)
theorem Mw{c:Operand→Value}{x:RB}{mk:Nat→AV}(hw:bu P ρ M w)(he:∀ x∈o.op.operands,ai ρ (e x) (c x))(h:Bz P o e x mk) :
  ∃ ρ' w' u,(execOp c o).run P w=.ok (.value u) w'∧After P M ρ w (M.push x) ρ' w'∧ai ρ' (mk M.next) u:=by
 obtain⟨A,hA⟩:=hw
 obtain⟨y,ha,hle⟩:=h
 obtain⟨ρ',w',u,h1,h2,h3,h4⟩:=aeB hA.rel hA.size (IU he ha w)
 obtain⟨k1,k2,k3⟩:=RM.BZ hA hle
 exact⟨ρ',w',u,h1,je hA h3 h2 k1 k2 (by simp[AW.push]) k3,by rw[← hA.next];exact h4⟩
end
abbrev aj:=AV→RM→Prop
def Ak(P:Program)(f:FuncId):Prop:=∃ fn c,P.funcs[f]?=some fn∧fn.body=some c
def dL(P:Program)(f:FuncId)(args:List AV)(M:RM)(Q:aj):Prop :=
 Ak P f∧∀ (ρ:Ren)(w:World)(us:List Value),aQ ρ args us→bu P ρ M w →
  Calls P f ⟨us⟩ w fun e w'=>∃ v' v M' ρ',e=.returned v'∧After P M ρ w M' ρ' w'∧ai ρ' v v'∧Q v M'
theorem dL.mono{P:Program}{f:FuncId}{args:List AV}{M:RM}{Q Q' : aj}(h:dL P f args M Q)(hq:∀ v M',Q v M'→Q' v M'):dL P f args M Q' :=
 ⟨h.1,fun ρ w us a b=>(h.2 ρ w us a b).mono fun e w' ⟨v',v,M',ρ',c,d,f,g⟩=>⟨v',v,M',ρ',c,d,f,hq _ _ g⟩⟩
def iU(P:Program)(o:Oper)(e:Operand→AV)(M:RM)(K:aj):Prop :=
 ∀ (ρ:Ren)(w:World)(c:Operand→Value),bu P ρ M w→(∀ x∈o.op.operands,ai ρ (e x) (c x))→∃ M' ρ' w',After P M ρ w M' ρ' w' ∧
   ((∃ v' v,(execOp c o).run P w=.ok (.value v') w'∧ai ρ' v v'∧K v M')∨((execOp c o).run P w=.ok .skip w'∧K .undef M') ∨
     ∃ f args us,(execOp c o).run P w=.ok (.enter f ⟨us⟩) w'∧aQ ρ' args us∧dL P f args M' K)
def aR(M:RM)(a x:AV)(n:Nat)(K:RM→Prop):Prop:=∃ b p M',a=.ptr b p∧x.cells.length=n∧M.stores b p x.cells=some M'∧K M'
def kP(M:RM)(size:Nat)(zs:List AV)(zeros:Bool)(x:AV):Option (Nat×List AV) :=
 match zeros with
 |true=>match x with
  |.sc (.int _ n)=>if 0≤n then some (n.toNat,eu zs n.toNat)else none
  |_=>none
 |false=>match x with
  |.slc b o len _=>match M.loads b o (len*size)with
   |some vs=>some (len,vs)
   |none=>none
  |.emp _=>some (0,[])
  |.sc (.slice none 0 0)=>some (0,[])
  |.sc (.string s)=>if size=1 then some (s.data.toList.length,s.data.toList.map fun b=>N .u8 b.toNat)else none
  |_=>none
def j6(elem size bytes n:Nat)(new:List AV)(s:AV)(M:RM):Option (AV×RM) :=
 match s with
 |.sc (.slice none 0 0)=>if n=0 then some (s,M)else if new.all oneCell=true then some (.slc M.next 0 n (.op size),M.push (.row new true elem 0))else none
 |.emp _=>if n=0 then some (s,M)else none
 |.slc b o len (.ex c)=>if n=0 then(if len≤c then some (s,M)else none)else if len+n≤c then(match M.stores b (o+len*size) new with
   |some M'=>some (.slc b o (len+n) (.ex c),M')
   |none=>none)
  else match M.loads b o (len*size)with
   |some old=>if (len+n)*bytes≤140737488355328∧len+n≤140737488355328∧(old++new).all oneCell=true then some (.slc M.next 0 (len+n) (.op size),M.push (.row (old++new) true elem 0))else none
   |none=>none
 |.slc b o len (.op esz)=>if n=0 then some (s,M)else match M.heap b with
  |some (.row l opn el fz)=>if opn=true∧esz=size then
    (if o+(len+n)*size≤l.length then(match M.stores b (o+len*size) new with
     |some M'=>some (.slc b o (len+n) (.op esz),M')
     |none=>none)
    else if el=elem∧(len+n)*bytes≤140737488355328∧len+n≤140737488355328∧o=0∧l.length=len*size∧fz≤len*size∧new.all oneCell=true then
     some (.slc M.next 0 (len+n) (.op size),(M.del b).push (.row (l++new) true elem fz))else none)else none
  |_=>none
 |_=>none
def appW(elem size bytes:Nat)(zs:List AV)(zeros:Bool)(s x:AV)(M:RM)(K:aj):Prop :=
 ∃ n new,kP M size zs zeros x=some (n,new)∧n*bytes≤140737488355328∧n≤140737488355328∧∃ v M',j6 elem size bytes n new s M=some (v,M')∧K v M'
def firstM(M:RM)(size k:Nat):AV→Option (List AV)
 |.slc b o _ _=>M.loads b o (k*size)
 |.sc (.string s)=>if size=1 then some ((s.data.toList.take k).map fun b=>N .u8 b.toNat)else none
 |_=>none
def Gs(size:Nat)(d x:AV)(M:RM):Option (AV×RM) :=
 match d with
 |.slc b o dn _=>match Br x with
  |some sn=>if Nat.min sn dn=0 then some (N .i64 0,M)else match firstM M size (Nat.min sn dn) x with
   |some vs=>match M.stores b o vs with
    |some M'=>some (N .i64 (Nat.min sn dn:Nat),M')
    |none=>none
   |none=>none
  |none=>none
 |.emp _|.sc (.slice none 0 0)=>match Br x with
  |some _=>some (N .i64 0,M)
  |none=>none
 |_=>none
def ajS(size:Nat)(d x:AV)(M:RM)(K:aj):Prop:=∃ v M',Gs size d x M=some (v,M')∧K v M'
def VG(zs:List AV)(x:AV)(M:RM)(K:aj):Prop :=
 (∃ b p n cap M',x=.slc b p n cap∧M.stores b p (eu zs n)=some M'∧K .undef M')∨(∃ b,x=.emp b∧K .undef M)∨(x=.sc (.slice none 0 0)∧K .undef M)
def GX(C:FuncId→List AV→RM→aj→Prop)(f:AV)(args:List AV)(M:RM)(K:aj):Prop:=∃ g first cap,f=.fn (.func g) first cap∧C g (first++args++cap) M K
def ic(P:Program)(g:FuncId)(args:List AV)(M:RM)(v:AV):Prop :=
 ∀ (ρ:Ren)(w:World)(us:List Value),aQ ρ args us→bu P ρ M w→∃ u,(callFunc g ⟨us⟩).run P w=.ok (.value u) w∧ai ρ v u
def jW(P:Program)(g:FuncId)(args:List AV)(M:RM)(v:AV)(M' : RM):Prop :=
 ∀ (ρ:Ren)(w:World)(us:List Value),aQ ρ args us→bu P ρ M w→∃ ρ' w' u,(callFunc g ⟨us⟩).run P w=.ok (.value u) w'∧After P M ρ w M' ρ' w'∧ai ρ' v u
def iT(P:Program)(g:FuncId)(args:List AV)(M:RM)(K:aj):Prop :=
 (∃ v,OA P g args=some (.value v)∧K v M) ∨
 ((∃ fn t elem size tr,P.funcs[g]?=some fn∧fn.body=none∧Extern.findNext fn=none∧Extern.find fn=some (Extern.SlicesOverlaps.overlaps #[t,t] #[tr])∧P.underlying t=some (.slice elem)∧aL P elem=some size) ∧
   (∃ ba oa na ca bb ob nb cb la ea fa lb opb eb fb,args=[.slc ba oa na ca,.slc bb ob nb cb]∧ba≠bb∧M.heap ba=some (.row la false ea fa)∧M.heap bb=some (.row lb opb eb fb)∧fa=0∧oa+1≤la.length∧1≤lb.length)∧K (Bo false) M) ∨
 ((∃ fn,P.funcs[g]?=some fn∧fn.body=none∧Extern.findNext fn=none∧Extern.find fn=some Extern.AbiNoEscape.same)∧∃ v,args=[v]∧K v M) ∨
 (∃ v,ic P g args M v∧K v M) ∨
 ∃ v M',jW P g args M v M'∧K v M'
def apF(x:AV)(M:RM)(K:aj):Prop:=∃ b s pos,x=.ptr b 0∧M.heap b=some (.mi s pos) ∧
 if pos<s.length then K (.tup [Bo true,N .i64 pos,N .i32 (Utf8.decode ⟨⟨s⟩⟩ pos).1]) (M.put b (.mi s (pos+(Utf8.decode ⟨⟨s⟩⟩ pos).2)))else K (.tup [Bo false]) M
def KP(x:AV)(M:RM)(K:aj):Prop:=∃ m es cl,x=.map m∧M.heap m=some (.map es cl)∧K (.ptr M.next 0) (M.push (.iter (some m) cl [] cl))
def PN(x:AV)(M:RM)(K:aj):Prop:=∃ b m since seen stepped es cl,x=.ptr b 0∧M.heap b=some (.iter (some m) since seen stepped)∧M.heap m=some (.map es cl) ∧
 (seen=[]∨es=[]∨∃ n∈es,n.2.2<stepped)∧(∀ n∈es,n.2.2∉seen→K (.tup [Bo true,n.1,n.2.1]) (M.put b (.iter (some m) since (seen++[n.2.2]) cl)))∧((∀ n∈es,n.2.2∉seen→since≤n.2.2)→K (.tup [Bo false]) M)
def PE(x:AV)(M:RM)(K:aj):Prop:=∃ b p n c l el,x=.slc b p n (.ex c)∧M.heap b=some (.row l false el 0)∧K x (M.put b (.row l false el (l.length+1)))
def ajF(el:Nat)(x n:AV)(M:RM)(K:aj):Prop :=
 (∃ b k l opn fz s,x=.ptr b 0∧n=N .i64 ((k+1:Nat):Int)∧k≤4611686018427387904∧M.heap b=some (.row l opn el fz)∧k+1≤l.length∧bW byteOf (l.take (k+1))=some s∧K (St s) (M.del b)) ∨
 (x=.sc (.pointer none)∧n=N .i64 0∧K (St []) M)
def MN(k v:AV):List (AV×AV×Nat)→Nat→List (AV×AV×Nat)
 |[],_=>[]
 |(_,_,n)::es,0=>(k,v,n)::es
 |x::es,i+1=>x::MN k v es i
def aA1(es:List (AV×AV×Nat))(c:Nat)(k v:AV):Option (Nat×AV)→RB
 |some (i,_)=>.map (MN k v es i) c
 |none=>.map (es++[(k,v,c)]) (c+1)
def QP(a:Bool)(ks:List Nat)(M:RM)(m k v:AV)(K:RM→Prop):Prop :=
 ∃ b es c kc r,m=.map b∧M.heap b=some (.map es c)∧gz a k=some kc∧kc.length=ks.length∧oC a ks kc es 0=some r∧K (M.put b (aA1 es c k v r))
def aqw(es:List (AV×AV×Nat))(c:Nat):Option (Nat×AV)→RB
 |some (i,_)=>.map (es.eraseIdx i) c
 |none=>.map es c
def Qr(a:Bool)(ks:List Nat)(M:RM)(m k:AV)(K:aj):Prop :=
 ∃ b es c kc r,m=.map b∧M.heap b=some (.map es c)∧gz a k=some kc∧kc.length=ks.length∧oC a ks kc es 0=some r∧K (.tup []) (M.put b (aqw es c r))
def dC(P:Program)(o:Oper)(e:Operand→AV)(M:RM)(K:aj):Prop :=
 match o.op with
 |.store t a x=>match aL P t with
  |some n=>aR M (e a) (e x) n (K .undef)
  |none=>False
 |.call { callee:=.builtin .append,args,argTypes } => match argTypes[0]?,args with
  |some t,⟨[s,x]⟩=>match P.underlying t,lJ P argTypes with
   |some (.slice elem),some zeros=>match aL P elem,uD P elem,gZ P elem with
    |some size,some bytes,some zs=>match Nat.ble 1 size,Nat.beq zs.length size with
     |true,true=>appW elem size bytes zs zeros (e s) (e x) M K
     |_,_=>False
    |_,_,_=>False
   |_,_=>False
  |_,_=>False
 |.call { callee:=.builtin .copy,args,argTypes } => match argTypes[0]?,args with
  |some t,⟨[s,x]⟩=>match P.underlying t with
   |some (.slice elem)=>match aL P elem with
    |some size=>ajS size (e s) (e x) M K
    |none=>False
   |_=>False
  |_,_=>False
 |.call { callee:=.builtin .clear,args,argTypes } => match argTypes[0]?,args with
  |some t,⟨[x]⟩=>match P.underlying t with
   |some (.slice elem)=>match aL P elem,gZ P elem with
    |some size,some zs=>match Nat.ble 1 size,Nat.beq zs.length size with
     |true,true=>VG zs (e x) M K
     |_,_=>False
    |_,_=>False
   |_=>False
  |_,_=>False
 |.call { callee:=.builtin .unsafeString,args,argTypes } => match argTypes[0]?,args with
  |some t,⟨[x,n]⟩=>match P.underlying t with
   |some (.pointer el)=>match P.underlying el,Nat.beq (P.cellsOf el) 1 with
    |some (.int .u8),true=>ajF el (e x) (e n) M K
    |_,_=>False
   |_=>False
  |_,_=>False
 |.call { callee:=.value (.func g),args,.. } => match P.funcs[g]? with
  |some fn=>match fn.body with
   |some _=>dL P g (args.toList.map e) M K
   |none=>iT P g (args.toList.map e) M K
  |none=>False
 |.call { callee:=.value f,args,.. } => GX (dL P) (e f) (args.toList.map e) M K
 |.next it true=>apF (e it) M K
 |.next it false=>PN (e it) M K
 |.range t x=>match P.underlying t with
  |some (.map _ _)=>KP (e x) M K
  |_=>False
 |.mapUpdate t m k x=>match P.underlying t with
  |some (.map kt _)=>match il P 10 kt,bK P kt with
   |some ks,some a=>QP a ks M (e m) (e k) (e x) (K .undef)
   |_,_=>False
  |_=>False
 |.call { callee:=.builtin .delete,args,argTypes } => match argTypes[0]?,args with
  |some t,⟨[m,k]⟩=>match P.underlying t with
   |some (.map kt _)=>match il P 10 kt,bK P kt with
    |some ks,some a=>Qr a ks M (e m) (e k) K
    |_,_=>False
   |_=>False
  |_,_=>False
 |.convert src dst x=>match Nat.beq src dst,P.underlying src with
  |true,some (.slice el)=>match P.underlying el with
   |some (.int .u8)=>PE (e x) M K
   |_=>False
  |_,_=>False
 |_=>False
section
variable {P:Program} {ρ:Ren} {o:Oper} {e:Operand→AV} {c:Operand→Value} {M:RM} {w:World} {K:aj}
structure POk(P:Program):Prop where
 ng:∀ (f:FuncId)(fn:Func),P.funcs[f]?=some fn→fn.name ≠ "runtime.NumGoroutine"
 mixed:P.follows .mixedOrders=true
theorem agm(hw:bu P ρ M w){elem size:Nat}{zs:List AV}{zeros:Bool}{x:AV}{u:Value}{n:Nat}{new:List AV}(hx:ai ρ x u)(hzs:gZ P elem=some zs)(h1:1≤size)(h2:zs.length=size)
  (h:kP M size zs zeros x=some (n,new)):∃ us,ND P ρ w elem size zeros u n new us:=by
 unfold kP at h
 split at h
 ·split at h <;>try(cases h;done)
  rename_i k m
  split at h <;>try(cases h;done)
  rename_i hm
  cases h
  obtain⟨it,z,hi,hz,hr⟩:=jg (ρ:=ρ) hzs
  obtain⟨rfl,_⟩:=aH hx
  have hl:=hr.length
  simp only[Array.length_toList]at hl
  refine⟨(Builtin.zeroCells z.cells m.toNat).toList,by rw[← N8];exact ET hr (by omega) _,by rw[Array.length_toList,size_zeroCells,← hl,h2],(by simp only[if_true];exact⟨k,by congr 1;omega⟩),(fun e=>by cases e),fun _=>⟨it,z,hi,hz,rfl⟩⟩
 ·split at h <;>try(cases h;done)
  ·rename_i b o len cap
   split at h <;>try(cases h;done)
   rename_i xs hl
   cases h
   obtain⟨i,cp,hb,rfl⟩:=eZ hx
   obtain⟨vs,hr,hlen,hcell⟩:=RM.iO hw hb hl
   refine⟨vs,hr,hlen,by simp[Builtin.lenOf],fun _ w' hw'=>?_,fun e=>by cases e⟩
   have:=run_loadCells_list (P:=P) w' ⟨i.cb,i.sh+o,none⟩ vs (fun j v hj=>by rw[← hcell j v hj];simp[World.cell?,hw'])
   rw[hlen]at this
   simp[Builtin.firstCells,this]
  ·cases h
   cases hx with
   |emp b ad c =>
   exact⟨[],.nil,by simp,by simp[Builtin.lenOf],fun _ _ _=>by simp[Builtin.firstCells,loadCells,loadCellsFrom],fun e=>by cases e⟩
  ·cases h
   obtain⟨rfl,_⟩:=aH hx
   exact⟨[],.nil,by simp,by simp[Builtin.lenOf],fun _ _ _=>by simp[Builtin.firstCells],fun e=>by cases e⟩
  ·rename_i s
   split at h <;>try(cases h;done)
   rename_i hsz
   cases h
   subst hsz
   obtain⟨rfl,_⟩:=aH hx
   refine⟨_,S9 s,by simp,by simp[Builtin.lenOf],fun _ _ _=>?_,fun e=>by cases e⟩
   simp only[Builtin.firstCells,Sem.run_pure]
   congr 1
   have:(s.extract 0 s.data.toList.length)=s:=by
    have h:s.data.toList.length=s.size:=by rw[Array.length_toList];rfl
    rw[h];simp
   rw[this]
   apply Array.ext'
   simp
def DoesM(P:Program)(ρ:Ren)(M:RM)(w:World)(run:World→Result Value)(v:AV)(M' : RM):Prop :=
 ∃ ρ' w' v',run w=.ok v' w'∧After P M ρ w M' ρ' w'∧ai ρ' v v'
variable {A:AW} {M' : RM} {A' : AW}
theorem Yv(h:wT P ρ M w A){run:World→Result Value}{v:AV}(hd:Gf P M.base ρ A w run v A')(hlo:M'.base=M.base)(hn:A'.next=M'.next)
  (hb:∀ b x,M'.heap b=some x→(∃ y,A'.heap.get b=some y∧BO x y)∨∃ c,x=.ro c∧M.heap b=some x):DoesM P ρ M w run v M':=by
 obtain⟨ρ',w',v',h1,h2,h3,h4,h5⟩:=hd
 exact⟨ρ',w',v',h1,je h h2 h3 hlo hn h4 hb,h5⟩
theorem lX(h:wT P ρ M w A):∀ b x,M.heap b=some x→(∃ y,A.heap.get b=some y∧BO x y)∨∃ c,x=.ro c∧M.heap b=some x:=by
 intro b x hx
 rcases h.blk b x hx with h1|⟨c,rfl,_⟩
 ·exact .inl h1
 ·exact .inr ⟨c,rfl,hx⟩
theorem El{l:List AV}{t:Tree AV}(h:lH .leaf 0 l=some t):BO (.row l true 0 0) (.row l.length t [] true 0 0)∧∀ (k:Nat)(v:AV),l[k]?=some v→cellAt t [] l.length k=some v:=by
 obtain⟨_,hget⟩:=fK _ _ _ h
 have:∀ (k:Nat)(v:AV),l[k]?=some v→cellAt t [] l.length k=some v:=fun k v hk=>by
  have hlt:=(List.getElem?_eq_some_iff.1 hk).1
  exact Ef hlt (by rw[hget,if_pos (by omega)];simpa using hk)
 exact⟨⟨rfl,rfl,rfl,rfl,this⟩,this⟩
theorem aaS(h:wT P ρ M w A){elem size bytes n:Nat}{zeros:Bool}{x:Value}{new:List AV}{us:List Value}(h1:1≤size){s v:AV}{u:Value}(hs:ai ρ s u)(hn:ND P ρ w elem size zeros x n new us)
  {t:TypeId} {ts:Array TypeId} {ty:TypeId} (ht:ts[0]?=some t) (hu:P.underlying t=some (.slice elem)) (hzs:lJ P ts=some zeros)
  {it:TypeInfo} {z:Value} (hi:P.info? elem=some it) (hz:it.zero=some z) (hsi:it.size=size) (hzc:z.cells.size=size) (hb:it.bytes=bytes) (hnb:n*bytes≤140737488355328) (hnl:n≤140737488355328)
  (ha:j6 elem size bytes n new s M=some (v,M')):DoesM P ρ M w (fun w=>(Builtin.append_ ts ty #[u,x]).run P w) v M':=by
 have key:∀ {A' : AW},mE elem size bytes n new s A=some (v,A')→M'.base=M.base→A'.next=M'.next →
   (∀ b x,M'.heap b=some x→(∃ y,A'.heap.get b=some y∧BO x y)∨∃ c,x=.ro c∧M.heap b=some x)→DoesM P ρ M w (fun w=>(Builtin.append_ ts ty #[u,x]).run P w) v M' :=
  fun hA a b c=>Yv h (IY h.rel h.size h1 hs hn ht hu hzs hi hz hsi hzc hb hnb hnl hA) a b c
 have hnw:new.length=n*size:=by rw[hn.rel.length,hn.len]
 unfold j6 at ha
 split at ha
 ·split at ha
  ·rename_i h0
   cases ha
   exact key (by simp only[mE,h0]) rfl h.next (lX h)
  ·rename_i h0
   split at ha <;>try(cases ha;done)
   rename_i hall
   cases ha
   obtain⟨tr,htr⟩:=lg new .leaf 0 hall
   obtain⟨_,hcell⟩:=El htr
   cases n with
   |zero=>exact absurd rfl h0
   |succ n =>
   obtain⟨k1,k2,k3⟩:=RM.BZ h (x:=.row new true elem 0) (y:=.row ((n+1)*size) tr [] true elem 0) ⟨hnw,rfl,rfl,rfl,fun k v hk=>by rw[← hnw];exact hcell k v hk⟩
   exact key (by simp only[mE,htr,h.next]) k1 k2 k3
 ·split at ha <;>try(cases ha;done)
  rename_i h0
  cases ha
  exact key (by simp only[mE,h0]) rfl h.next (lX h)
 ·rename_i b o len cc
  split at ha
  ·rename_i h0
   split at ha <;>try(cases ha;done)
   rename_i hle
   cases ha
   subst h0
   cases hs with
   |jv _ _ _ _ i hbi =>
   have hus:us=[]:=List.eq_nil_of_length_eq_zero (by simpa using hn.len)
   refine⟨ρ,w,_,AZ hn ht hu hzs hi hsi hb hnb hnl (by omega) (w1:=w) (by simp[hus,storeCells]),After.refl ⟨A,h⟩, ?_⟩
   exact .jv _ _ _ _ i hbi
  rename_i hn0
  split at ha
  ·rename_i hle
   split at ha <;>try(cases ha;done)
   rename_i M1 hst
   cases ha
   obtain⟨A1,a1,a2,a3,a4,a5⟩:=RM.NZ h hst
   exact key (by simp only[mE,aU.2 hle,a1]) a2 a3 a5
  ·rename_i hle
   split at ha <;>try(cases ha;done)
   rename_i old hl
   split at ha <;>try(cases ha;done)
   rename_i hcond
   obtain⟨c1,c2,c3⟩:=hcond
   cases ha
   cases hs with
   |jv _ _ _ _ i hbi =>
   obtain⟨vs,hr,hlen,hcell⟩:=RM.iO ⟨A,h⟩ hbi hl
   obtain⟨tr,htr⟩:=lg (old++new) .leaf 0 c3
   obtain⟨_,hget⟩:=fK _ _ _ htr
   obtain⟨_,hrow⟩:=El htr
   have hol:old.length=len*size:=by rw[hr.length,hlen]
   have htot:(old++new).length=(len+n)*size:=by rw[List.length_append,hol,hnw,← Nat.add_mul]
   have hr2:=Ni hn (ty:=ty) ht hu hzs hi hz hsi hb hnb hnl hle c1 c2 (ad:=some ⟨i.cb,i.sh+o,none⟩) (vs:=vs) (fun w' hw'=>by
    have:=run_loadCells_list (P:=P) w' ⟨i.cb,i.sh+o,none⟩ vs (fun j v hj=>by rw[← hcell j v hj];simp[World.cell?,hw'])
    rw[hlen]at this
    simp[Builtin.firstCells,this])
   have hge:=grownCap_ge w (len+n) cc elem
   have tT:=hn.len
   obtain⟨k1,k2,k3⟩:=RM.BZ h (x:=.row (old++new) true elem 0) (y:=.row ((len+n)*size) tr [] true elem 0) ⟨htot,rfl,rfl,rfl,fun k v hk=>by rw[← htot];exact hrow k v hk⟩
   have hsz:aL P elem=some size:=by simp[aL,hi,hsi]
   have hd:=Im h.rel h.size h1 hsz (cap:=grownCap w (len+n) cc elem) (need:=len+n) (tree:=tr) (z:=[]) (fz:=0) (cs:=⟨vs⟩++⟨us⟩++Builtin.zeroCells z.cells (grownCap w (len+n) cc elem-(len+n)))
    (run:=fun w=>(Builtin.append_ ts ty #[.slice (some ⟨i.cb,i.sh+o,none⟩) len cc,x]).run P w) (by
     simp only[Array.size_append,List.size_toArray,size_zeroCells,hzc,hlen,tT,← Nat.add_mul]
     congr 1;omega) hge (fun k y hk=>by
     obtain⟨hk1,hk2⟩:=mH hk
     rw[hget,if_pos (by omega),Nat.sub_zero]at hk2
     rw[uY]
     by_cases hlt:k<vs.length
     ·rw[if_pos hlt]
      rw[List.getElem?_append_left (by omega)]at hk2
      exact hr.get hk2
     ·rw[if_neg hlt,if_pos (by rw[hlen,tT,← Nat.add_mul];omega)]
      rw[List.getElem?_append_right (by omega),hr.length]at hk2
      exact hn.rel.get hk2) hr2
   rw[h.next]at hd
   exact Yv h hd k1 k2 k3
 ·rename_i b o len esz
  split at ha
  ·rename_i h0
   cases ha
   exact key (by simp only[mE,h0]) rfl h.next (lX h)
  ·rename_i h0
   cases n with
   |zero=>exact absurd rfl h0
   |succ n =>
   split at ha <;>try(cases ha;done)
   rename_i l opn el fz hh
   split at ha <;>try(cases ha;done)
   rename_i hc
   obtain⟨rfl,rfl⟩:=hc
   rcases h.blk b _ hh with⟨y,hy,hle⟩|⟨c,e,_⟩
   ·cases y <;>try exact hle.elim
    rename_i kn tree zs Ng lD fz'
    obtain⟨q1,rfl,rfl,rfl,q5⟩:=hle
    have hbo:(true&&Nat.beq esz esz)=true:=by simp
    split at ha
    ·rename_i hroom
     split at ha <;>try(cases ha;done)
     rename_i M1 hst
     cases ha
     obtain⟨A1,a1,a2,a3,a4,a5⟩:=RM.NZ h hst
     exact key (by simp only[mE,hy,hbo,aU.2 (show o+(len+(n+1))*esz≤kn by omega),a1]) a2 a3 a5
    ·rename_i hroom
     split at ha <;>try(cases ha;done)
     rename_i hcond
     obtain⟨rfl,c2,c3,rfl,c5,c6,c8⟩:=hcond
     cases ha
     obtain⟨tr,htr⟩:=lg new tree (len*esz) c8
     obtain⟨_,hget⟩:=fK _ _ _ htr
     have hl:A.loads b 0 (len*esz)=some ((l.drop 0).take (len*esz)):=by
      unfold AW.loads;rw[hy];exact Gq q5 _ _ (by omega)
     refine key (A' := { next:=A.next+1,heap:=(A.heap.del b).set A.next (.row ((len+(n+1))*esz) tr zs true lD fz') }) ?_ rfl (by simp[RM.push,RM.del,h.next]) ?_
     ·simp only[mE,hy,hbo,aeu (show ¬ 0+(len+(n+1))*esz≤kn by omega),hl,htr,h.next]
      rw[qH rfl,aU.2 c2,aU.2 c3,qH rfl,qH (show kn=len*esz by omega),aU.2 c6]
      rfl
     ·intro d y hd
      change (if d=M.next then some (RB.row (l++new) true lD fz')else if d=b then none else M.heap d)=some y at hd
      simp only[Tree.bn,Tree.FO,h.next]
      by_cases e1:d=M.next
      ·subst e1
       rw[if_pos rfl]at hd ⊢
       cases hd
       refine .inl ⟨_,rfl,by rw[List.length_append,c5,hnw,← Nat.add_mul],rfl,rfl,rfl,fun k v hk=>?_⟩
       rw[pQ hget]
       by_cases hin:len*esz≤k∧k<len*esz+new.length
       ·rw[if_pos hin,if_pos (by rw[Nat.add_mul];omega)]
        rw[List.getElem?_append_right (by omega),c5]at hk
        exact hk
       ·rw[if_neg hin]
        have hkl:k<l.length:=by
         have:=(List.getElem?_eq_some_iff.1 hk).1
         rw[List.length_append]at this;omega
        rw[List.getElem?_append_left hkl]at hk
        rw[← q5 k v hk]
        exact Ke (by rw[Nat.add_mul];omega) (by omega)
      ·rw[if_neg e1]at hd ⊢
       by_cases e2:d=b
       ·subst e2;rw[if_pos rfl]at hd;cases hd
       ·rw[if_neg e2]at hd ⊢
        exact lX h d y hd
   ·cases e
 ·cases ha
theorem ac0{run:World→Result Value}{v:AV}(h:DoesM P ρ M w run v M')(hr:∀ v' w',run w=.ok v' w'→(execOp c o).run P w=.ok (.value v') w')(hk:K v M') :
  ∃ M' ρ' w',After P M ρ w M' ρ' w' ∧
  ((∃ v' v,(execOp c o).run P w=.ok (.value v') w'∧ai ρ' v v'∧K v M')∨((execOp c o).run P w=.ok .skip w'∧K .undef M') ∨
    ∃ f args us,(execOp c o).run P w=.ok (.enter f ⟨us⟩) w'∧aQ ρ' args us∧dL P f args M' K):=by
 obtain⟨ρ',w',v',h1,h2,h3⟩:=h
 exact⟨M',ρ',w',h2,.inl ⟨v',v,hr _ _ h1,h3,hk⟩⟩
theorem ER(hw:bu P ρ M w){b p:Nat}{i:gF}{xs:List AV}{vs:List Value}(hb:ρ b=some i)(hv:aQ ρ xs vs)(h:M.stores b p xs=some M') :
  ∃ w',(∀ off,off=i.sh+p→(storeCells ⟨i.cb,off,none⟩ vs).run P w=.ok () w')∧After P M ρ w M' ρ w':=by
 obtain⟨A,hA⟩:=hw
 obtain⟨A1,a1,a2,a3,a4,a5⟩:=RM.NZ hA h
 obtain⟨w1,hrun,hw1,hstep,hnext⟩:=qg hA.rel hb hv a1
 exact⟨w1,hrun,je hA hstep hw1 a2 a3 (by omega) a5⟩
theorem YZ{x:AV}{M' : RM}{b p:Nat}(h:M.stores b p x.cells=some M'):∀ (_:x=.top),False:=by
 intro e0
 unfold RM.stores at h
 split at h <;>try(cases h;done)
 split at h <;>try(cases h;done)
 rename_i hc
 rw[e0]at hc
 simp[AV.cells,oneCell]at hc
theorem aaH{t:TypeId}{a x:Operand}(hop:o.op=.store t a x){n:Nat}(hs:aL P t=some n){K:RM→Prop}(h:aR M (e a) (e x) n K):iU P o e M (fun _ M'=>K M'):=by
 obtain⟨b,p,M',hea,hn,hst,hk⟩:=h
 intro ρ w c hw he
 have ha:ai ρ (e a) (c a):=he a (by rw[hop];simp[Op.operands])
 have hx:ai ρ (e x) (c x):=he x (by rw[hop];simp[Op.operands])
 rw[hea]at ha
 obtain⟨i,hb,hc⟩:=bX ha
 have hcl:=hx.cells (YZ hst)
 have hlen:=hcl.length
 simp only[Array.length_toList]at hlen
 obtain⟨w1,hrun,haft⟩:=ER hw hb hcl hst
 refine⟨M',ρ,w1,haft,.inr (.inl ⟨?_,hk⟩)⟩
 simp only[execOp,hop,Instr.storeAt,Instr.sureAddr,hc,Sem.run_bind,Sem.run_pure,Result.andThen_ok,storeVar,cZ hs]
 rw[if_neg (by omega)]
 rw[hrun _ rfl]
 rfl
theorem iU.mono(h:iU P o e M K){K' : aj}(hk:∀ v M',K v M'→K' v M'):iU P o e M K':=by
 intro ρ w c hw he
 obtain⟨M',ρ',w',h1,h2⟩:=h ρ w c hw he
 refine⟨M',ρ',w',h1, ?_⟩
 rcases h2 with⟨v',v,a,b,d⟩|⟨a,b⟩|⟨f,args,us,a,b,d⟩
 ·exact .inl ⟨v',v,a,b,hk _ _ d⟩
 ·exact .inr (.inl ⟨a,hk _ _ b⟩)
 ·exact .inr (.inr ⟨f,args,us,a,b,d.mono hk⟩)
theorem ac8(hw:bu P ρ M w){x:AV}{u:Value}{size k:Nat}{vs:List AV}(hx:ai ρ x u)(h:firstM M size k x=some vs):∃ us,aQ ρ vs us∧(Builtin.firstCells size k u).run P w=.ok ⟨us⟩ w:=by
 unfold firstM at h
 split at h <;>try(cases h;done)
 ·obtain⟨i,cp,hb,rfl⟩:=eZ hx
  obtain⟨us,hr,hlen,_,hrun⟩:=RM.mW (P:=P) hw hb h
  exact⟨us,hr,by simp only[Builtin.firstCells];exact hrun⟩
 ·rename_i s
  split at h <;>try(cases h;done)
  cases h
  obtain⟨rfl,_⟩:=aH hx
  have hr:aQ ρ ((s.data.toList.take k).map fun b=>AV.sc (.int .u8 b.toNat)) ((s.data.toList.take k).map fun b=>Value.int .u8 b.toNat):=by
   generalize s.data.toList.take k=l
   induction l with
   |nil=>exact .nil
   |cons b l ih=>exact .cons _ _ _ _ (.sc _ rfl) ih
  refine⟨_,hr, ?_⟩
  simp only[Builtin.firstCells,Sem.run_pure]
  congr 1
  apply Array.ext'
  simp[ByteArray.data_extract]
theorem ae1{t elem:TypeId}{d x:Operand}{ts:Array TypeId}(hop:o.op=.call { callee:=.builtin .copy,args:=⟨[d,x]⟩,argTypes:=ts })(ht:ts[0]?=some t)(hu:P.underlying t=some (.slice elem))
  {size:Nat} (hs:aL P elem=some size) {v:AV} (h:Gs size (e d) (e x) M=some (v,M')) (hk:K v M'):iU P o e M K:=by
 intro ρ w c hw he
 have hd:ai ρ (e d) (c d):=he d (by rw[hop];simp[Op.operands,Call.operands])
 have hx:ai ρ (e x) (c x):=he x (by rw[hop];simp[Op.operands,Call.operands])
 have key:∀ {dA:Option Addr}{dl dc sn:Nat}{us:List Value}{w1:World},c d=.slice dA dl dc→(Builtin.lenOf (c x)).run P w=.ok sn w→(Builtin.firstCells size (Nat.min sn dl) (c x)).run P w=.ok ⟨us⟩ w →
   (match dA with|some a=>(storeCells a us).run P w=.ok () w1|none=>w1=w)→(execOp c o).run P w=.ok (.value (.int .i64 (Nat.min sn dl:Nat))) w1:=by
  intro dA dl dc sn us w1 hcd hl hf hst
  have:(Builtin.copy_ ts o.type #[c d,c x]).run P w=.ok (.int .i64 (Nat.min sn dl:Nat)) w1:=by
   simp only[Builtin.copy_,ht,List.getElem?_toArray,List.getElem?_cons_zero,List.getElem?_cons_succ,Sem.run_bind,run_underlying hu,Result.andThen_ok,hcd,hl,cZ hs,hf]
   cases dA with
   |none=>simp only at hst;subst hst;rfl
   |some a=>simp only at hst;simp only[Sem.run_bind,hst,Result.andThen_ok,Sem.run_pure,goInt]
  simp only[execOp,hop,resolve,invoke,builtin,Sem.run_bind,Sem.run_pure,Result.andThen_ok]
  rw[show(Array.map c ⟨[d,x]⟩) = #[c d,c x] by simp,this]
  rfl
 unfold Gs at h
 split at h <;>try(cases h;done)
 ·rename_i b p dn cap hed
  rw[hed]at hd
  obtain⟨i,cp,hb,hcd⟩:=eZ hd
  split at h <;>try(cases h;done)
  rename_i sn hsn
  have hl:=wD (P:=P) hx hsn w
  split at h
  ·rename_i hm
   cases h
   refine⟨M,ρ,w,After.refl hw,.inl ⟨_,_,key hcd hl (by rw[hm];exact jB hx hsn w) (w1:=w) rfl, ?_,hk⟩⟩
   rw[hm];exact .sc _ rfl
  ·split at h <;>try(cases h;done)
   rename_i vs hvs
   split at h <;>try(cases h;done)
   rename_i M1 hst
   cases h
   obtain⟨us,hr,hf⟩:=ac8 hw hx hvs
   obtain⟨w1,hrun,haft⟩:=ER hw hb hr hst
   exact⟨M',ρ,w1,haft,.inl ⟨_,_,key hcd hl hf (w1:=w1) (hrun _ rfl),.sc _ rfl,hk⟩⟩
 ·rename_i b hed
  rw[hed]at hd
  generalize hcd:c d=cd at hd
  cases hd with
  |emp _ ad cp =>
  split at h <;>try(cases h;done)
  rename_i sn hsn
  cases h
  have hl:=wD (P:=P) hx hsn w
  have hm:Nat.min sn 0=0:=Nat.min_zero _
  refine⟨M,ρ,w,After.refl hw,.inl ⟨_,_,key hcd hl (by rw[hm];exact jB hx hsn w) (w1:=w) rfl, ?_,hk⟩⟩
  rw[hm];exact .sc _ rfl
 ·rename_i hed
  rw[hed]at hd
  have hcd:=(aH hd).1
  split at h <;>try(cases h;done)
  rename_i sn hsn
  cases h
  have hl:=wD (P:=P) hx hsn w
  have hm:Nat.min sn 0=0:=Nat.min_zero _
  refine⟨M,ρ,w,After.refl hw,.inl ⟨_,_,key hcd hl (by rw[hm];exact jB hx hsn w) (w1:=w) rfl, ?_,hk⟩⟩
  rw[hm];exact .sc _ rfl
theorem abz{t elem:TypeId}{x:Operand}{ts:Array TypeId}(hop:o.op=.call { callee:=.builtin .clear,args:=⟨[x]⟩,argTypes:=ts })(ht:ts[0]?=some t)(hu:P.underlying t=some (.slice elem))
  {size:Nat} {zs:List AV} (hs:aL P elem=some size) (hzs:gZ P elem=some zs) (c1:1≤size) (c2:zs.length=size) (h:VG zs (e x) M K):iU P o e M K:=by
 intro ρ w c hw he
 have hx:ai ρ (e x) (c x):=he x (by rw[hop];simp[Op.operands,Call.operands])
 rcases h with⟨b,p,n,cap,M',hex,hst,hk⟩|⟨b,hex,hk⟩|⟨hex,hk⟩
 ·obtain⟨it,z,hi,hz,hr⟩:=jg (ρ:=ρ) hzs
  have hl:=hr.length
  simp only[Array.length_toList]at hl
  rw[hex]at hx
  obtain⟨i,cp,hb,hcx⟩:=eZ hx
  have hrel:=ET hr (by omega) n
  rw[N8]at hrel
  obtain⟨w1,hrun,haft⟩:=ER hw hb hrel hst
  refine⟨M',ρ,w1,haft,.inl ⟨.tuple #[],.undef,xY (t:=t) hop ?_,.tup _ _ .nil,hk⟩⟩
  have hrun:=hrun _ rfl
  cases n with
  |zero =>
   have he:(Builtin.zeroCells z.cells 0).toList=[]:=by simp[Builtin.zeroCells]
   rw[he]at hrun
   simp only[storeCells,Sem.run_pure]at hrun
   cases hrun
   simp only[Builtin.clear_,ht,List.getElem?_toArray,List.getElem?_cons_zero,Sem.run_bind,run_underlying hu,Result.andThen_ok,hcx,Sem.run_pure]
  |succ n =>
   simp only[Builtin.clear_,ht,List.getElem?_toArray,List.getElem?_cons_zero,Sem.run_bind,run_underlying hu,Result.andThen_ok,hcx,zeroValue,typeInfo,run_program,hi,hz,Sem.run_pure,hrun]
 ·rw[hex]at hx
  generalize hcx:c x=cx at hx
  cases hx with
  |emp _ ad cp =>
  refine⟨M,ρ,w,After.refl hw,.inl ⟨.tuple #[],.undef,xY (t:=t) hop ?_,.tup _ _ .nil,hk⟩⟩
  simp only[Builtin.clear_,ht,List.getElem?_toArray,List.getElem?_cons_zero,Sem.run_bind,run_underlying hu,Result.andThen_ok,hcx,Sem.run_pure]
 ·rw[hex]at hx
  refine⟨M,ρ,w,After.refl hw,.inl ⟨.tuple #[],.undef,xY (t:=t) hop ?_,.tup _ _ .nil,hk⟩⟩
  simp only[Builtin.clear_,ht,List.getElem?_toArray,List.getElem?_cons_zero,Sem.run_bind,run_underlying hu,Result.andThen_ok,(aH hx).1,Sem.run_pure]
theorem ajs:∀ {xs:List AV}{us vs:List Value},aQ ρ xs vs→bW bZ xs=some us→vs=us
 |[],us,_,h,hu=>by simp[bW]at hu;subst hu;exact h.sH
 |x::xs,us,_,.cons _ v _ vs a b,hu=>by
  simp only[bW]at hu
  split at hu
  ·rename_i y hy
   split at hu
   ·rename_i ys hys
    cases hu
    rw[lF a hy,ajs b hys]
   ·cases hu
  ·cases hu
theorem QN{m:Nat}:∀ {ks:List Nat}{cs ds:List AV}{us vs:List Value},aQ ρ cs us→aQ ρ ds vs→cs.length=ks.length→ds.length=ks.length→df ks cs ds=some true→us.length=vs.length∧(vs.zip us).all (fun(x,y)=>Instr.sameBits m x y)=true
 |[],[],[],[],[],_,_,_,_,_=>⟨rfl,rfl⟩
 |[],_::_,_,_,_,_,_,h,_,_=>by simp at h
 |[],[],_::_,_,_,_,_,_,h,_=>by simp at h
 |_::_,[],_,_,_,_,_,h,_,_=>by simp at h
 |_::_,_::_,[],_,_,_,_,_,h,_=>by simp at h
 |k::ks,x::cs,y::ds,_,_,.cons _ u _ us hx hc,.cons _ v _ vs hy hd,h1,h2,h=>by
  simp only[df]at h
  split at h <;>try(cases h;done)
  rename_i hce
  obtain⟨i1,i2⟩:=QN (m:=m) hc hd (by simpa using h1) (by simpa using h2) h
  refine⟨by simp[i1], ?_⟩
  rw[List.zip_cons_cons,List.all_cons,i2,Bool.and_true]
  unfold mo at hce
  split at hce <;>try(cases hce;done)
  ·split at hce <;>try(cases hce;done)
   rename_i e0
   subst e0
   rw[(aH hx).1,(aH hy).1]
   simp only[Option.some.injEq]at hce
   have hce:=eq_of_beq hce
   subst hce
   simp[Instr.sameBits]
  ·rw[(aH hx).1,(aH hy).1]
   simp only[Option.some.injEq]at hce
   simp only[Instr.sameBits]
   rw[bytes_beq,gJ]
   have hce:=eq_of_beq hce
   rw[hce];simp
  ·rw[(aH hx).1,(aH hy).1]
   simp only[Option.some.injEq]at hce
   have hce:=eq_of_beq hce
   subst hce
   simp[Instr.sameBits]
theorem ait{a:Bool}{ks:List Nat}{x y:AV}{xv yv:Value}{cs ds:List AV}(hx:gz a x=some cs)(hy:gz a y=some ds)(rx:ai ρ x xv)(ry:ai ρ y yv)(l1:cs.length=ks.length)(l2:ds.length=ks.length)(h:df ks cs ds=some true):Instr.sameBits 10000 yv xv=true:=by
 obtain⟨us,r1,h1,h1'⟩:=oD hx rx
 obtain⟨vs,r2,h2,h2'⟩:=oD hy ry
 cases a with
 |true =>
  rw[h1 rfl,h2 rfl]
  obtain⟨i1,i2⟩:=QN (m:=9999) r1 r2 l1 l2 h
  show(_&&_)=true
  rw[Bool.and_eq_true]
  exact⟨by simp[i1],i2⟩
 |false =>
  have e1:=h1' rfl
  have e2:=h2' rfl
  subst e1 e2
  have:=(QN (m:=10000) r1 r2 l1 l2 h).2
  simpa using this
theorem MS{a:Bool}{ks:List Nat}{cs:List AV}:∀ {es:List (AV×AV×Nat)}{fs:List MapEntry}{i j:Nat}{va:AV},dB ρ es fs→oC a ks cs es i=some (some (j,va))→∃ n f ka ds,j=i+n∧fs[n]?=some f∧ai ρ ka f.key∧gz a ka=some ds∧ds.length=ks.length∧df ks cs ds=some true
 |[],_,_,_,_,_,h=>by simp[oC]at h
 |_::_,[],_,_,_,h,_=>h.elim
 |(ka,v,n)::es,f::fs,i,j,va,⟨h1,h2,h3,h4⟩,h=>by
  simp only[oC]at h
  split at h <;>try(cases h;done)
  rename_i ds hds
  split at h <;>try(cases h;done)
  rename_i hdl
  split at h <;>try(cases h;done)
  ·rename_i hn
   simp only[Option.some.injEq,Prod.mk.injEq]at h
   obtain⟨rfl,rfl⟩:=h
   exact⟨0,f,ka,ds,rfl,rfl,h1,hds,hdl,hn⟩
  ·obtain⟨m,g,kb,d2,e1,e2,e3⟩:=MS h4 h
   exact⟨m+1,g,kb,d2,by omega,by simpa using e2,e3⟩
theorem WU{k v:AV}{kv vv:Value}(hk:ai ρ k kv)(hv:ai ρ v vv):∀ {es:List (AV×AV×Nat)}{fs:List MapEntry}{i:Nat},dB ρ es fs→dB ρ (MN k v es i) (fs.modify i fun e => { e with key:=kv,val:=vv })
 |[],[],_,_=>by simp[MN];trivial
 |[],_::_,_,h=>h.elim
 |_::_,[],_,h=>h.elim
 |(a,b,n)::es,g::fs,0,h=>⟨hk,hv,h.2.2.1,h.2.2.2⟩
 |(a,b,n)::es,g::fs,i+1,h=>⟨h.1,h.2.1,h.2.2.1,WU hk hv h.2.2.2⟩
theorem Ti:∀ {es:List (AV×AV×Nat)}{fs:List MapEntry}{i:Nat},dB ρ es fs→dB ρ (es.eraseIdx i) (fs.eraseIdx i)
 |[],[],_,_=>trivial
 |[],_::_,_,h=>h.elim
 |_::_,[],_,h=>h.elim
 |_::_,_::_,0,h=>h.2.2.2
 |(a,b,n)::es,g::fs,i+1,h=>⟨h.1,h.2.1,h.2.2.1,Ti h.2.2.2⟩
theorem Ah{r clock:Nat}{fs:Array MapEntry}(o:Obj)(h:w.heap[r]?=some (.map fs clock)):(setObj r o).run P w=.ok () { w with heap:=w.heap.setIfInBounds r o } := by
 simp only[setObj,Sem.run,h]
theorem map_set(hA:wT P ρ M w A){b:Nat}{i:gF}{es es' : List (AV×AV×Nat)}{cl cl' : Nat}{fs fs' : Array MapEntry}(hb:ρ b=some i)(hg:M.heap b=some (.map es cl))(hob:w.heap[i.cb]?=some (.map fs cl))(he:dB ρ es' fs'.toList) :
  After P M ρ w (M.put b (.map es' cl')) ρ { w with heap:=w.heap.setIfInBounds i.cb (.map fs' cl') } := by
 rcases hA.blk b _ hg with⟨y,hy,hle⟩|⟨_,e0,_⟩
 ·obtain⟨q1,q2⟩:=nG hA.rel (x:=.map es' cl') hb hy (w' := { w with heap:=w.heap.setIfInBounds i.cb (.map fs' cl') }) rfl rfl rfl (by simp)
   (fun j hj=>by simp[Array.getElem?_setIfInBounds,Ne.symm hj]) (by
    have:=(Array.getElem?_eq_some_iff.1 hob).1
    simp[Array.getElem?_setIfInBounds,this]) ⟨fs',rfl,he⟩
  refine je hA q2 q1 rfl hA.next (Nat.le_refl _) ?_
  intro d y hd
  simp only[RM.put]at hd
  simp only[Tree.bn]
  by_cases e2:d=b
  ·subst e2;rw[if_pos rfl]at hd ⊢;cases hd;exact .inl ⟨_,rfl,rfl,rfl⟩
  ·rw[if_neg e2]at hd ⊢;exact lX hA d y hd
 ·cases e0
theorem KM(hA:wT P ρ M w A){b:Nat}{i:gF}{es:List (AV×AV×Nat)}{cl:Nat}(hb:ρ b=some i)(hg:M.heap b=some (.map es cl)):∃ fs:Array MapEntry,w.heap[i.cb]?=some (.map fs cl)∧dB ρ es fs.toList:=by
 rcases hA.blk b _ hg with⟨y,hy,hle⟩|⟨_,e0,_⟩
 ·cases y <;>try exact hle.elim
  obtain⟨rfl,rfl⟩:=hle
  obtain⟨ob,hob,fs,rfl,hfs⟩:=hA.rel.blk b i _ hb hy
  exact⟨fs,hob,hfs⟩
 ·cases e0
theorem YT{t kt et:TypeId}{x:Operand}(hop:o.op=.range t x)(hu:P.underlying t=some (.map kt et))(h:KP (e x) M K):iU P o e M K:=by
 obtain⟨m,es,cl,hx,hg,hk⟩:=h
 intro ρ w c hw he
 have hxr:ai ρ (e x) (c x):=he x (by rw[hop];simp[Op.operands])
 rw[hx]at hxr
 obtain⟨A,hA⟩:=hw
 generalize hcx:c x=cx at hxr
 cases hxr with
 |map _ i hb =>
 obtain⟨fs,hob,hfs⟩:=KM hA hb hg
 have hnew:ρ A.next=none:=hA.rel.fresh (Nat.le_refl _)
 have hne:m≠A.next:=fun e=>by rw[e,hnew]at hb;cases hb
 obtain⟨q1,q2⟩:=CZ hA.rel (Nat.le_trans (show M.base.n≤M.lo from Nat.le_refl _) hA.size) (x:=.iter (some m) cl [] cl) (ob:=.mapIter (some i.cb) cl #[] cl) (i:=⟨w.heap.size,0,0,0⟩) rfl
  ⟨rfl,some i.cb,rfl,i,by rw[Ren.add,if_neg hne];exact hb,rfl⟩
 obtain⟨k1,k2,k3⟩:=RM.BZ hA (x:=.iter (some m) cl [] cl) (y:=.iter (some m) cl [] cl) ⟨rfl,rfl,rfl,rfl⟩
 refine⟨M.push (.iter (some m) cl [] cl),ρ.add A.next ⟨w.heap.size,0,0,0⟩,_,je hA q2 q1 k1 k2 (by simp[AW.push]) k3,.inl ⟨.pointer (some ⟨w.heap.size,0,none⟩),.ptr M.next 0, ?_, ?_,hk⟩⟩
 ·have hgo:=zO (P:=P) hob
  simp only[execOp,hop,hcx,Instr.range,Sem.run_bind,run_underlying hu,Result.andThen_ok,hgo]
  rfl
 ·have:=ai.ptr (ρ:=ρ.add A.next ⟨w.heap.size,0,0,0⟩) M.next 0 ⟨w.heap.size,0,0,0⟩ (by rw[← hA.next];simp[Ren.add])
  simpa using this
theorem OD{ρ:Ren}:∀ {es:List (AV×AV×Nat)}{fs:List MapEntry},dB ρ es fs→∀ f∈fs,∃ n∈es,ai ρ n.1 f.key∧ai ρ n.2.1 f.val∧f.born=n.2.2
 |[],[],_,f,hf=>by cases hf
 |(k,v,n)::es,g::fs,⟨a,b,c,d⟩,f,hf=>by
  rcases List.mem_cons.1 hf with rfl|hf
  ·exact⟨_,List.mem_cons_self ..,a,b,c⟩
  ·obtain⟨n,h1,h2⟩:=OD d f hf
   exact⟨n,List.mem_cons_of_mem _ h1,h2⟩
 |_::_,[],h,_,_=>h.elim
 |[],_::_,h,_,_=>h.elim
theorem G5{ρ:Ren}:∀ {es:List (AV×AV×Nat)}{fs:List MapEntry},dB ρ es fs→∀ n∈es,∃ f∈fs,f.born=n.2.2
 |[],[],_,f,hf=>by cases hf
 |(k,v,m)::es,g::fs,⟨a,b,c,d⟩,n,hn=>by
  rcases List.mem_cons.1 hn with rfl|hn
  ·exact⟨_,List.mem_cons_self ..,c⟩
  ·obtain⟨f,h1,h2⟩:=G5 d n hn
   exact⟨f,List.mem_cons_of_mem _ h1,h2⟩
 |_::_,[],h,_,_=>h.elim
 |[],_::_,h,_,_=>h.elim
theorem YV(n:Nat)(hn:1≤n)(w:World):∃ k w1,k<n∧(choose (.mapNext n)).run P w=.ok k w1∧(w1=w∨w1=w.drew):=by
 by_cases h:n≤1
 ·refine⟨0,w,by omega, ?_,.inl rfl⟩
  have hf:Question.forced (.mapNext n)=true:=by simp[Question.forced,h]
  simp[choose,Sem.run,hf]
 ·have hf:Question.forced (.mapNext n)=false:=by simp only[Question.forced,decide_eq_false_iff_not];exact h
  refine⟨(Question.mapNext n).cut (w.tape w.drawn (.mapNext n)),w.drew, ?_, ?_,.inr rfl⟩
  ·simp only[Question.cut];exact Nat.mod_lt _ (by omega)
  ·simp only[choose,Sem.run,hf];rfl
theorem adq{it:Operand}(hop:o.op=.next it false)(h:PN (e it) M K):iU P o e M K:=by
 obtain⟨b,m,since,seen,stepped,es,cl,hx,hgb,hgm,hst,hall,hend⟩:=h
 intro ρ w c hw he
 have hxr:ai ρ (e it) (c it):=he it (by rw[hop];simp[Op.operands])
 rw[hx]at hxr
 obtain⟨i,hb,hcx⟩:=bX hxr
 obtain⟨A,hA⟩:=hw
 rcases hA.blk b _ hgb with⟨y,hy,hle⟩|⟨_,e0,_⟩
 rotate_left
 ·cases e0
 cases y <;>try exact hle.elim
 obtain⟨rfl,rfl,rfl,rfl⟩:=hle
 obtain⟨ob,hob,hsh,m',rfl,j,hj,rfl⟩:=hA.rel.blk b i _ hb hy
 obtain⟨fs,azR,hfs⟩:=KM hA hj hgm
 rename_i since' seen' MG
 have GD:c it=.pointer (some ⟨i.cb,0,none⟩):=by rw[hcx,hsh]
 have hget:(getObj i.cb).run P w=.ok (.mapIter (some j.cb) since' ⟨seen'⟩ MG) w:=by simp[getObj,Sem.run,hob]
 have abW:(getObj j.cb).run P w=.ok (.map fs cl) w:=by simp[getObj,Sem.run,azR]
 have hguard:(!(⟨seen'⟩ : Array Nat).isEmpty && !fs.isEmpty&&fs.all fun f=>decide (f.born≥MG))=false:=by
  rcases hst with rfl|rfl|⟨n,hn,hlt⟩
  ·rfl
  ·have:fs = #[]:=by
    cases hfl:fs.toList with
    |nil=>exact Array.toList_eq_nil_iff.1 hfl
    |cons f r=>rw[hfl]at hfs;exact hfs.elim
   subst this;simp
  ·obtain⟨f,hf,hfb⟩:=G5 hfs n hn
   rw[Bool.and_eq_false_iff]
   right
   rw[Array.all_eq_false]
   obtain⟨q,hq,rfl⟩:=List.getElem_of_mem hf
   refine⟨q,by simpa using hq, ?_⟩
   simp only[Array.getElem_toList]at hfb
   simp only[decide_eq_true_eq]
   omega
 obtain⟨left,hleft⟩ : ∃ left,left=fs.filter fun f=>!(⟨seen'⟩ : Array Nat).contains f.born:=⟨_,rfl⟩
 obtain⟨old,hold⟩ : ∃ old,old=left.filter fun f=>decide (f.born<since'):=⟨_,rfl⟩
 obtain⟨new,hnew⟩ : ∃ new,new=left.filter fun f=>decide (f.born≥since'):=⟨_,rfl⟩
 obtain⟨Bw,ads⟩ : ∃ Bw:Array (Option MapEntry),Bw=(if old.isEmpty then #[none]else #[])++(old++new).map some:=⟨_,rfl⟩
 have hsize:1≤Bw.size:=by
  rw[ads]
  by_cases h0:old.isEmpty
  ·simp[h0]
  ·have:0<old.size:=by
    rcases Nat.eq_zero_or_pos old.size with h|h
    ·rw[Array.isEmpty_iff_size_eq_zero]at h0;exact absurd h h0
    ·exact h
   simp[h0];omega
 obtain⟨k,w1,hk,hch,hw1⟩:=YV (P:=P) Bw.size hsize w
 have hA1:wT P ρ M w1 A:=by
  rcases hw1 with rfl|rfl
  ·exact hA
  ·exact⟨hA.next,hA.rel.drew,hA.size,hA.blk,hA.old⟩
 have hs1:Step M.lo M.next ρ w ρ w1:=by
  rcases hw1 with rfl|rfl
  ·exact Step.refl _ _ _
  ·exact Step.drew
 have hh1:w1.heap=w.heap:=by rcases hw1 with rfl|rfl<;>rfl
 have hrun:∀ {R:Value→Sem Value},(Instr.next (c it) false o.type).run P w=(match Bw[k]? with
   |some (some f)=>(setObj i.cb (.mapIter (some j.cb) since' ((⟨seen'⟩ : Array Nat).push f.born) cl)).run P w1 |>.andThen fun _ w2=>(.ok (.tuple #[.bool true,f.key,f.val]) w2:Result Value)
   |some none=>.ok (.tuple #[.bool false]) w1
   |none=>(stuck "Next: no such candidate" : Sem Value).run P w1):=by
  intro _
  simp only[Instr.next,GD,Sem.run_bind,hget,Result.andThen_ok,abW]
  rw[hguard]
  simp only[Bool.false_eq_true,if_false]
  rw[← hleft,← hold,← hnew,← ads]
  simp only[Sem.run_bind,hch,Result.andThen_ok]
  rcases hck:Bw[k]? with _|(_|f)
  ·rfl
  ·rfl
  ·simp only[Sem.run_bind,Sem.run_pure]
 have asV:∃ x,Bw[k]?=some x∧(x=none∧old = #[]∨∃ f,x=some f∧f∈left):=by
  refine⟨Bw[k],Array.getElem?_eq_getElem hk, ?_⟩
  have hm:Bw[k]∈Bw:=Array.getElem_mem hk
  generalize Bw[k]=x at hm
  rw[ads,Array.mem_append]at hm
  rcases hm with hm|hm
  ·by_cases h0:old.isEmpty
   ·simp only[h0,if_true]at hm
    exact .inl ⟨by simpa using hm,Array.isEmpty_iff.1 h0⟩
   ·simp[h0]at hm
  ·obtain⟨f,hf,rfl⟩:=Array.mem_map.1 hm
   refine .inr ⟨f,rfl, ?_⟩
   rcases Array.mem_append.1 hf with hf|hf
   ·rw[hold]at hf;exact(Array.mem_filter.1 hf).1
   ·rw[hnew]at hf;exact(Array.mem_filter.1 hf).1
 have aj4:∀ f∈fs.toList,f∈left↔f.born∉seen':=fun f hf=>by
  rw[hleft,Array.mem_filter]
  constructor
  ·rintro⟨_,h⟩ hm
   simp[hm]at h
  ·intro h
   exact⟨Array.mem_def.2 hf,by simpa using h⟩
 obtain⟨x,hx1,hx2⟩:=asV
 rcases hx2 with⟨rfl,asX⟩|⟨f,rfl,hfl⟩
 ·refine⟨M,ρ,w1,⟨hs1,⟨A,hA1⟩,rfl,Nat.le_refl _⟩,.inl ⟨.tuple #[.bool false],.tup [Bo false], ?_,.tup _ _ (.cons _ _ _ _ (.sc _ rfl) .nil),hend fun n hn hns=>?_⟩⟩
  ·have:=hrun (R:=fun _=>pure (.bool true))
   rw[hx1]at this
   simp only[execOp,hop,Sem.run_bind,this,Result.andThen_ok,Sem.run_pure]
  ·obtain⟨f,hf,hfb⟩:=G5 hfs n hn
   rw[← hfb]at hns
   have h1:=(aj4 f hf).2 hns
   rcases Nat.lt_or_ge f.born since' with h|h
   ·have:f∈old:=by rw[hold,Array.mem_filter];exact⟨h1,by simpa using h⟩
    rw[asX]at this;simp at this
   ·rw[← hfb];exact h
 ·have hff:f∈fs.toList:=by
   rw[hleft,Array.mem_filter]at hfl
   exact Array.mem_def.1 hfl.1
  have hns:=(aj4 f hff).1 hfl
  obtain⟨n,hn,hnk,hnv,hnb⟩:=OD hfs f hff
  rw[hnb]at hns
  have hlt:=(Array.getElem?_eq_some_iff.1 hob).1
  obtain⟨q1,q2⟩:=nG hA1.rel (x:=.iter (some m) since' (seen'++[n.2.2]) cl) (ob:=.mapIter (some j.cb) since' ⟨seen'++[n.2.2]⟩ cl) hb hy (w' := { w1 with heap:=w1.heap.setIfInBounds i.cb (.mapIter (some j.cb) since' ⟨seen'++[n.2.2]⟩ cl) }) rfl rfl rfl (by simp)
   (fun q hq=>by simp[Array.getElem?_setIfInBounds,Ne.symm hq]) (by simp[Array.getElem?_setIfInBounds,hh1,hlt]) ⟨hsh,some j.cb,rfl,j,hj,rfl⟩
  have haf:=je (M':=M.put b (.iter (some m) since' (seen'++[n.2.2]) cl)) hA1 q2 q1 rfl hA1.next (Nat.le_refl _) (by
   intro d y hd
   simp only[RM.put]at hd
   simp only[Tree.bn]
   by_cases e2:d=b
   ·subst e2;rw[if_pos rfl]at hd ⊢;cases hd;exact .inl ⟨_,rfl,rfl,rfl,rfl,rfl⟩
   ·rw[if_neg e2]at hd ⊢;exact lX hA1 d y hd)
  refine⟨M.put b (.iter (some m) since' (seen'++[n.2.2]) cl),ρ,_,⟨hs1.trans haf.step (Nat.le_refl _),haf.rel,haf.base,haf.next⟩,.inl ⟨.tuple #[.bool true,f.key,f.val],.tup [Bo true,n.1,n.2.1], ?_,.tup _ _ (.cons _ _ _ _ (.sc _ rfl) (.cons _ _ _ _ hnk (.cons _ _ _ _ hnv .nil))),hall n hn hns⟩⟩
  have:=hrun (R:=fun _=>pure (.bool true))
  rw[hx1]at this
  have aBR:w1.heap[i.cb]?=some (.mapIter (some j.cb) since' ⟨seen'⟩ MG):=by rw[hh1];exact hob
  simp only[execOp,hop,Sem.run_bind,this,setObj,Sem.run,aBR,Result.andThen_ok,Sem.run_pure]
  rw[hnb]
  simp
theorem YY{t kt et:TypeId}{m k x:Operand}(hop:o.op=.mapUpdate t m k x)(hu:P.underlying t=some (.map kt et)){ks:List Nat}{a:Bool}(hf:il P 10 kt=some ks)(ha:bK P kt=some a)(h:QP a ks M (e m) (e k) (e x) (K .undef)):iU P o e M K:=by
 obtain⟨b,es,cl,kc,r,hem,hg,hkc,hl,hr,hk⟩:=h
 intro ρ w c hw he
 have hm:ai ρ (e m) (c m):=he m (by rw[hop];simp[Op.operands])
 have hkr:ai ρ (e k) (c k):=he k (by rw[hop];simp[Op.operands])
 have hx:ai ρ (e x) (c x):=he x (by rw[hop];simp[Op.operands])
 rw[hem]at hm
 generalize hcm:c m=um at hm
 cases hm with
 |map _ i hb =>
 obtain⟨A,hA⟩:=hw
 obtain⟨fs,hob,hfs⟩:=KM hA hb hg
 obtain⟨r',hr1,hr2⟩:=ED (w:=w) hf ha hkc hl hkr hfs hr
 have hck:=Bt (em:=false) (w:=w) hf ha hkc hl hkr
 have hgo:=zO (P:=P) hob
 cases r with
 |some p =>
  obtain⟨j,va⟩:=p
  cases r' with
  |none=>exact hr2.elim
  |some q =>
   obtain⟨j',vv⟩:=q
   obtain⟨rfl,_⟩:=hr2
   obtain⟨n,f,ka,ds,hj,hfn,hka,hds,hdl,hfe⟩:=MS hfs hr
   rw[Nat.zero_add]at hj
   subst hj
   have hfj:fs[j']?=some f:=by rw[← Array.getElem?_toList];exact hfn
   have hsame:=ait hkc hds hkr hka hl hdl hfe
   refine⟨_,ρ,_,map_set hA (es':=MN (e k) (e x) es j') (cl':=cl) (fs':=fs.modify j' fun e => { e with key:=c k,val:=c x }) hb hg hob (by rw[Array.toList_modify];exact WU hkr hx hfs),.inr (.inl ⟨?_,hk⟩)⟩
   simp only[execOp,hop,hcm,Instr.mapUpdate,Sem.run_bind,run_underlying hu,Result.andThen_ok,hgo,hck,hr1,hfj,Option.map_some,Option.getD_some,Instr.keyThatStays,hsame,if_true,Sem.run_pure,Ah _ hob]
 |none =>
  cases r' with
  |some q=>exact hr2.elim
  |none =>
   refine⟨_,ρ,_,map_set hA (es':=es++[(e k,e x,cl)]) (cl':=cl+1) (fs':=fs.push { key:=c k,val:=c x,born:=cl }) hb hg hob (by rw[Array.toList_push];exact NS (f := { key:=c k,val:=c x,born:=cl }) hkr hx hfs),.inr (.inl ⟨?_,hk⟩)⟩
   simp only[execOp,hop,hcm,Instr.mapUpdate,Sem.run_bind,run_underlying hu,Result.andThen_ok,hgo,hck,hr1,Sem.run_pure,Ah _ hob]
theorem YO{t kt et:TypeId}{m k:Operand}{ts:Array TypeId}(hop:o.op=.call { callee:=.builtin .delete,args:=⟨[m,k]⟩,argTypes:=ts })(ht:ts[0]?=some t)(hu:P.underlying t=some (.map kt et)){ks:List Nat}{a:Bool}(hf:il P 10 kt=some ks)(ha:bK P kt=some a)(h:Qr a ks M (e m) (e k) K):iU P o e M K:=by
 obtain⟨b,es,cl,kc,r,hem,hg,hkc,hl,hr,hk⟩:=h
 intro ρ w c hw he
 have hm:ai ρ (e m) (c m):=he m (by rw[hop];simp[Op.operands,Call.operands])
 have hkr:ai ρ (e k) (c k):=he k (by rw[hop];simp[Op.operands,Call.operands])
 rw[hem]at hm
 generalize hcm:c m=um at hm
 cases hm with
 |map _ i hb =>
 obtain⟨A,hA⟩:=hw
 obtain⟨fs,hob,hfs⟩:=KM hA hb hg
 obtain⟨r',hr1,hr2⟩:=ED (w:=w) hf ha hkc hl hkr hfs hr
 have hck:=Bt (em:=fs.isEmpty) (w:=w) hf ha hkc hl hkr
 have hgo:=zO (P:=P) hob
 have zR:∀ {w' : World},(Builtin.delete_ ts o.type #[.map (some i.cb),c k]).run P w=.ok (.tuple #[]) w'→(execOp c o).run P w=.ok (.value (.tuple #[])) w':=fun {w'} hrun=>by
  simp only[execOp,hop,resolve,invoke,builtin,Sem.run_bind,Sem.run_pure,Result.andThen_ok,List.map_toArray,List.map_cons,List.map_nil,hcm,hrun]
 cases r with
 |some p =>
  obtain⟨j,va⟩:=p
  cases r' with
  |none=>exact hr2.elim
  |some q =>
   obtain⟨j',vv⟩:=q
   obtain⟨rfl,_⟩:=hr2
   obtain⟨n,f,ka,ds,hj,hfn,hka,hds,hdl,hfe⟩:=MS hfs hr
   rw[Nat.zero_add]at hj
   subst hj
   refine⟨_,ρ,_,map_set hA (es':=es.eraseIdx j') (cl':=cl) (fs':=fs.eraseIdxIfInBounds j') hb hg hob (by rw[show(fs.eraseIdxIfInBounds j').toList=fs.toList.eraseIdx j' by simp];exact Ti hfs),.inl ⟨_,.tup [],zR ?_,.tup _ _ .nil,hk⟩⟩
   simp only[Builtin.delete_,ht,Sem.run_bind,run_underlying hu,Result.andThen_ok,hgo,hck,hr1,Sem.run_pure,Ah _ hob,List.getElem?_toArray,List.getElem?_cons_zero,List.getElem?_cons_succ]
 |none =>
  cases r' with
  |some q=>exact hr2.elim
  |none =>
   refine⟨_,ρ,_,map_set hA (es':=es) (cl':=cl) (fs':=fs) hb hg hob hfs,.inl ⟨_,.tup [],zR ?_,.tup _ _ .nil,hk⟩⟩
   simp only[Builtin.delete_,ht,Sem.run_bind,run_underlying hu,Result.andThen_ok,hgo,hck,hr1,Sem.run_pure,Ah _ hob,List.getElem?_toArray,List.getElem?_cons_zero,List.getElem?_cons_succ]
theorem Eg(hP:POk P)(he0:∀ g,e (.func g)=.fn (.func g) [] [])(h:dC P o e M K):iU P o e M K:=by
 cases hop:o.op
 case store t a x =>
  simp only[dC,hop]at h
  split at h <;>try(cases h;done)
  rename_i n hs
  intro ρ w c hw he
  obtain⟨M',ρ',w',h1,h2⟩:=aaH hop hs h ρ w c hw he
  obtain⟨b,p,M1,hea,hn,hst,hk⟩:=h
  refine⟨M',ρ',w',h1, ?_⟩
  rcases h2 with⟨v',v,a1,b1,d1⟩|⟨a1,b1⟩|⟨f,args,us,a1,b1,d1⟩
  ·exfalso
   have hz:=a1
   simp only[execOp,hop,Sem.run_bind]at hz
   revert hz
   generalize (Instr.storeAt t (c a) (c x)).run P w=r
   cases r<;>simp[Result.andThen]
  ·exact .inr (.inl ⟨a1,b1⟩)
  ·exfalso
   have hz:=a1
   simp only[execOp,hop,Sem.run_bind]at hz
   revert hz
   generalize (Instr.storeAt t (c a) (c x)).run P w=r
   cases r<;>simp[Result.andThen]
 case mapUpdate t m k x =>
  simp only[dC,hop]at h
  split at h <;>try(cases h;done)
  rename_i kt et hu
  split at h <;>try(cases h;done)
  rename_i ks a hf ha
  exact YY hop hu hf ha h
 case range t x =>
  simp only[dC,hop]at h
  split at h <;>try(cases h;done)
  rename_i kt et hu
  exact YT hop hu h
 case next it str =>
  cases str
  ·simp only[dC,hop]at h
   exact adq hop h
  simp only[dC,hop]at h
  obtain⟨b,s,pos,hex,hg,hk⟩:=h
  intro ρ w c hw he
  have hx:ai ρ (e it) (c it):=he it (by rw[hop];simp[Op.operands])
  rw[hex]at hx
  obtain⟨i,hb,hcx⟩:=bX hx
  obtain⟨A,hA⟩:=hw
  rcases hA.blk b _ hg with⟨y,hy,hle⟩|⟨_,e0,_⟩
  ·cases y <;>try exact hle.elim
   obtain⟨rfl,rfl⟩:=hle
   rename_i pos
   obtain⟨ob,hob,hsh,rfl⟩:=hA.rel.blk b i _ hb hy
   have hget:(getObj i.cb).run P w=.ok (.stringIter ⟨⟨s⟩⟩ pos) w:=by simp[getObj,Sem.run,hob]
   have GD:c it=.pointer (some ⟨i.cb,0,none⟩):=by rw[hcx,hsh]
   by_cases hlt:pos<s.length
   ·rw[if_pos hlt]at hk
    have hlt' : pos<(⟨⟨s⟩⟩ : ByteArray).size:=hlt
    obtain⟨q1,q2⟩:=nG hA.rel (x:=.mi ⟨⟨s⟩⟩ (pos+(Utf8.decode ⟨⟨s⟩⟩ pos).2)) hb hy (w' := { w with heap:=w.heap.setIfInBounds i.cb (.stringIter ⟨⟨s⟩⟩ (pos+(Utf8.decode ⟨⟨s⟩⟩ pos).2)) }) rfl rfl rfl (by simp)
     (fun j hj=>by simp[Array.getElem?_setIfInBounds,Ne.symm hj]) (by
      have:=(Array.getElem?_eq_some_iff.1 hob).1
      simp[Array.getElem?_setIfInBounds,this]) ⟨hsh,rfl⟩
    refine⟨M.put b (.mi s (pos+(Utf8.decode ⟨⟨s⟩⟩ pos).2)),ρ,_,je hA q2 q1 rfl hA.next (Nat.le_refl _) ?_,.inl ⟨.tuple #[.bool true,.int .i64 pos,.int .i32 (Utf8.decode ⟨⟨s⟩⟩ pos).1],_, ?_,.tup _ _ (.cons _ _ _ _ (.sc _ rfl) (.cons _ _ _ _ (.sc _ rfl) (.cons _ _ _ _ (.sc _ rfl) .nil))),hk⟩⟩
    ·intro d y hd
     simp only[RM.put]at hd
     simp only[Tree.bn]
     by_cases e2:d=b
     ·subst e2;rw[if_pos rfl]at hd ⊢;cases hd;exact .inl ⟨_,rfl,rfl,rfl⟩
     ·rw[if_neg e2]at hd ⊢;exact lX hA d y hd
    ·simp only[execOp,hop,Instr.next,GD,Sem.run_bind,hget,Result.andThen_ok]
     rw[if_pos hlt']
     simp only[Sem.run_bind,setObj,Sem.run,hob,Result.andThen_ok,Sem.run_pure,goInt]
   ·rw[if_neg hlt]at hk
    have hlt' : ¬ pos<(⟨⟨s⟩⟩ : ByteArray).size:=hlt
    refine⟨M,ρ,w,After.refl ⟨A,hA⟩,.inl ⟨.tuple #[.bool false],_, ?_,.tup _ _ (.cons _ _ _ _ (.sc _ rfl) .nil),hk⟩⟩
    simp only[execOp,hop,Instr.next,GD,Sem.run_bind,hget,Result.andThen_ok]
    rw[if_neg hlt']
    rfl
  ·cases e0
 case convert src dst x =>
  simp only[dC,hop]at h
  split at h <;>try(cases h;done)
  rename_i el hsd hu
  split at h <;>try(cases h;done)
  rename_i hel
  obtain⟨b,p,n,cp,l,elem,hex,hg,hk⟩:=h
  have hsd:=dG hsd
  subst hsd
  intro ρ w c hw he
  have hx:ai ρ (e x) (c x):=he x (by rw[hop];simp[Op.operands])
  obtain⟨A,hA⟩:=hw
  rcases hA.blk b _ hg with⟨y,hy,hle⟩|⟨_,e0,_⟩
  ·cases y <;>try exact hle.elim
   rename_i nn tree zs Ng lD fz'
   obtain⟨h1,rfl,rfl,rfl,h5⟩:=hle
   have hx':=hx
   rw[hex]at hx
   obtain⟨i,cp',hb,hcx⟩:=eZ hx
   obtain⟨ob,hob,cc,fr,rfl,hrow⟩:=hA.rel.blk b i _ hb hy
   obtain⟨hf1,hf2⟩:=hrow.mark rfl rfl
   obtain⟨hq1,_⟩:=Z0 (P:=P) hob hf1 (e:=.slice (some ⟨i.cb,i.sh+p,none⟩) n cp') hu hel
   have hlt:=(Array.getElem?_eq_some_iff.1 hob).1
   obtain⟨q1,q2⟩:=nG hA.rel (x:=.row nn tree zs false lD (nn+1)) (ob:=.cells cc lD (cc.size,cc.size+1)) hb hy (w' := { w with heap:=w.heap.setIfInBounds i.cb (.cells cc lD (cc.size,cc.size+1)) }) rfl rfl rfl (by simp)
    (fun j hj=>by simp[Array.getElem?_setIfInBounds,Ne.symm hj]) (by simp[Array.getElem?_setIfInBounds,hlt])
    ⟨cc,_,rfl,⟨hrow.size,hrow.val,fun k _ hk h2=>by omega,fun _ h0=>by omega,hrow.opn,hrow.sh0⟩⟩
   refine⟨M.put b (.row l false lD (l.length+1)),ρ,_,je hA q2 q1 rfl hA.next (Nat.le_refl _) ?_,.inl ⟨_,_,by simp only[execOp,hop,Sem.run_bind,hcx,hq1,Result.andThen_ok,Sem.run_pure],hcx▸hx',hk⟩⟩
   intro d y hd
   simp only[RM.put]at hd
   simp only[Tree.bn]
   by_cases e2:d=b
   ·subst e2;rw[if_pos rfl]at hd ⊢;cases hd;exact .inl ⟨_,rfl,h1,rfl,rfl,by rw[h1],h5⟩
   ·rw[if_neg e2]at hd ⊢;exact lX hA d y hd
  ·cases e0
 case call cl =>
  obtain⟨callee,args,ts⟩:=cl
  cases callee with
  |builtin b =>
   cases b
   case unsafeString =>
    simp only[dC,hop]at h
    split at h <;>try(cases h;done)
    rename_i t x n ht
    split at h <;>try(cases h;done)
    rename_i el hu
    split at h <;>try(cases h;done)
    rename_i hel hc1
    have hc1:=dG hc1
    intro ρ w c hw he
    obtain⟨A,hA⟩:=hw
    have hX:XOk P ⟨[],[],[]⟩:=⟨hP.ng,fun f h=>(by cases h),fun f h=>(by cases h)⟩
    rcases h with⟨b,k,l,opn,fz,s,hex,hen,hk0,hg,hkl,hs,hk⟩|⟨hex,hen,hk⟩
    ·rcases hA.blk b _ hg with⟨y,hy,hle⟩|⟨_,e0,_⟩
     ·cases y <;>try exact hle.elim
      rename_i nn tree zs Ng lD fz'
      obtain⟨h1,rfl,rfl,rfl,h5⟩:=hle
      have hl:A.loads b 0 (k+1)=some (l.take (k+1)):=by
       unfold AW.loads
       rw[hy]
       simpa using Gq h5 (k+1) 0 (by omega)
      have hlies:liesAt P P.depth lD (nn / P.cellsOf lD) 0 lD (k+1)=true:=Lib.liesAt_bytes hc1 _ _ (by rw[hc1,Nat.div_one];omega)
      have heff:kN P ⟨[],[],[]⟩ o e A=some (.value (St s),{ A with heap:=A.heap.del b }):=by
       simp only[kN,hop,ht,hu,hel,hex,hen,gm,hy,hl,bytesOf,hs,hlies,aU.2 hk0]
      obtain⟨ρ',w',q1,q2,q3,v',hrun,hv⟩:=MC hX hA.rel hA.size he heff
      refine⟨M.del b,ρ',w',je hA q1 q2 rfl hA.next q3 fun d z hd=>?_,.inl ⟨v',_,hrun,hv,hk⟩⟩
      simp only[RM.del]at hd
      simp only[Tree.FO]
      by_cases e2:d=b
      ·rw[if_pos e2]at hd;cases hd
      ·rw[if_neg e2]at hd ⊢;exact lX hA d z hd
     ·cases e0
    ·have heff:kN P ⟨[],[],[]⟩ o e A=some (.value (St []),A):=by
      simp only[kN,hop,ht,hu,hel,hex,hen,gm]
     obtain⟨ρ',w',q1,q2,q3,v',hrun,hv⟩:=MC hX hA.rel hA.size he heff
     exact⟨M,ρ',w',je hA q1 q2 rfl hA.next q3 fun d z hd=>lX hA d z hd,.inl ⟨v',_,hrun,hv,hk⟩⟩
   case append =>
    simp only[dC,hop]at h
    split at h <;>try(cases h;done)
    rename_i t s x ht
    split at h <;>try(cases h;done)
    rename_i elem zeros hu hz
    split at h <;>try(cases h;done)
    rename_i size bytes zs hs1 hb1 hz1
    split at h <;>try(cases h;done)
    rename_i c1 c2
    have c1:=bf c1;have c2:=dG c2
    obtain⟨n,new,hnew,c3,c4,v,M',hM,hk⟩:=h
    intro ρ w c hw he
    have hs:ai ρ (e s) (c s):=he s (by rw[hop];simp[Op.operands,Call.operands])
    have hx:ai ρ (e x) (c x):=he x (by rw[hop];simp[Op.operands,Call.operands])
    obtain⟨us,hn⟩:=agm (P:=P) hw hx hz1 c1 c2 hnew
    obtain⟨it,z,hi,hzz,hr⟩:=jg (ρ:=ρ) hz1
    have hl:=hr.length
    simp only[Array.length_toList]at hl
    obtain⟨A,hA⟩:=hw
    refine ac0 (aaS hA c1 hs hn (ty:=o.type) ht hu hz hi hzz (by simpa [aL,hi]using hs1) (by omega) (by simpa [uD,hi]using hb1) c3 c4 hM) (fun v' w' hr=>?_) hk
    simp only[execOp,hop,resolve,invoke,builtin,Sem.run_bind,Sem.run_pure,Result.andThen_ok]
    rw[show(Array.map c ⟨[s,x]⟩) = #[c s,c x] by simp,hr]
    rfl
   case copy =>
    simp only[dC,hop]at h
    split at h <;>try(cases h;done)
    rename_i t s x ht
    split at h <;>try(cases h;done)
    rename_i elem hu
    split at h <;>try(cases h;done)
    rename_i size hsz
    obtain⟨v,M',hM,hk⟩:=h
    exact ae1 hop ht hu hsz hM hk
   case delete =>
    simp only[dC,hop]at h
    split at h <;>try(cases h;done)
    rename_i t m k ht
    split at h <;>try(cases h;done)
    rename_i kt et hu
    split at h <;>try(cases h;done)
    rename_i ks a hf ha
    exact YO hop ht hu hf ha h
   case clear =>
    simp only[dC,hop]at h
    split at h <;>try(cases h;done)
    rename_i t x ht
    split at h <;>try(cases h;done)
    rename_i elem hu
    split at h <;>try(cases h;done)
    rename_i size zs hs hzs
    split at h <;>try(cases h;done)
    rename_i c1 c2
    exact abz hop ht hu hs hzs (bf c1) (dG c2) h
   all_goals (simp only[dC,hop]at h)
  |value f =>
   have hrun:∀ {c:Operand→Value}{w:World}{g:FuncId}{us vs:List Value},c f=.func (.func g) ⟨us⟩ ⟨vs⟩→(execOp c o).run P w=(callFunc g ⟨us++args.toList.map c++vs⟩).run P w:=by
    intro c w g us vs hcf
    simp only[execOp,hop,resolve,hcf,Deferred.ofValue,invoke,Sem.run_bind,Sem.run_pure,Result.andThen_ok]
    congr 2
    apply Array.ext'
    simp
   have ha:∀ {ρ:Ren}{c:Operand→Value},(∀ x∈o.op.operands,ai ρ (e x) (c x))→∀ x∈args.toList,ai ρ (e x) (c x):=fun he x hx=>he x (by rw[hop];simp[Op.operands,Call.operands];exact .inr (by simpa using hx))
   have gen:∀ (g:FuncId)(first cap:List AV),e f=.fn (.func g) first cap→dL P g (first++args.toList.map e++cap) M K→iU P o e M K:=by
    intro g first cap hef hcall ρ w c hw he
    have hf:ai ρ (e f) (c f):=he f (by rw[hop];simp[Op.operands,Call.operands])
    rw[hef]at hf
    generalize hcf:c f=cf at hf
    cases hf with
    |fn _ _ _ us vs hp hfi hca =>
    obtain⟨⟨fn,cd,hfn,hcd⟩,hall⟩:=hcall
    refine⟨M,ρ,w,After.refl hw,.inr (.inr ⟨g,_,us++args.toList.map c++vs, ?_,(hfi.append (aQ.wF _ (ha he))).append hca,⟨⟨fn,cd,hfn,hcd⟩,hall⟩⟩)⟩
    rw[hrun hcf]
    exact IK hfn (hP.ng _ _ hfn) hcd w
   cases f with
   |func g =>
    simp only[dC,hop]at h
    split at h <;>try(cases h;done)
    rename_i fn hfn
    split at h
    ·rename_i cd hcd
     exact gen g [] [] (he0 g) (by simpa using h)
    ·rename_i hcd
     have start:∀ {ρ:Ren}{w:World}{c:Operand→Value},(∀ x∈o.op.operands,ai ρ (e x) (c x))→(execOp c o).run P w=(callFunc g ⟨args.toList.map c⟩).run P w:=by
      intro ρ w c he
      have hf:ai ρ (e (.func g)) (c (.func g)):=he _ (by rw[hop];simp[Op.operands,Call.operands])
      rw[he0]at hf
      generalize hcf:c (.func g)=cf at hf
      cases hf with
      |fn _ _ _ us vs hp hfi hca =>
      cases hfi.sH
      cases hca.sH
      rw[hrun hcf]
      simp only[List.nil_append,List.append_nil]
     rcases h with⟨v,hv,hk⟩|⟨⟨fn',t,elem,size,tr,g1,g2,g3,g4,g5,g6⟩,⟨ba,oa,na,ca,bb,ob,nb,cb,la,ea,fa,lb,opb,eb,fb,hargs,hne,hla,hlb,q1,q2,q3⟩,hk⟩|⟨⟨fn',g1,g2,g3,g4⟩,v,hargs,hk⟩|⟨v,ag6,hk⟩|⟨v,M2,ag6,hk⟩
     ·intro ρ w c hw he
      unfold OA at hv
      rw[hfn]at hv
      simp only[hcd]at hv
      split at hv <;>try(cases hv;done)
      rename_i h1
      split at hv <;>try(cases hv;done)
      rename_i s ws h2 hws
      split at hv <;>try(cases hv;done)
      rename_i u hu
      split at hv <;>try(cases hv;done)
      rename_i y hy
      cases hv
      have hval:=ajs (aQ.wF _ (ha he)) hws
      refine⟨M,ρ,w,After.refl hw,.inl ⟨u,v, ?_,iP hy,hk⟩⟩
      rw[start he,hval]
      exact zY hfn (hP.ng _ _ hfn) hcd h1 h2 (fun w=>fE hu w) w
     ·intro ρ w c hw he
      have hl:=aQ.wF _ (ha he)
      rw[hargs]at hl
      obtain⟨A,hA⟩:=hw
      rcases hA.blk ba _ hla with⟨ya,hya,apH⟩|⟨_,e0,_⟩
      ·rcases hA.blk bb _ hlb with⟨yb,hyb,aom⟩|⟨_,e0,_⟩
       ·cases ya <;>try exact apH.elim
        cases yb <;>try exact aom.elim
        obtain⟨r1,rfl,rfl,rfl,r5⟩:=apH
        obtain⟨s1,rfl,rfl,rfl,s5⟩:=aom
        have hov:yE A [.slc ba oa na ca,.slc bb ob nb cb]=some (.sc (.bool false)):=by
         simp only[yE,Js hne,hya,hyb]
         subst q1
         rw[aU.2 (by omega),aU.2 (by omega)]
         rfl
        obtain⟨_,hr⟩:=JC (tr:=tr) hA.rel hl hov g5 g6
        refine⟨M,ρ,w,After.refl ⟨A,hA⟩,.inl ⟨.bool false,Bo false, ?_,.sc _ rfl,hk⟩⟩
        rw[start he]
        exact uI g1 (hP.ng _ _ g1) g2 g3 g4 hr
       ·cases e0
      ·cases e0
     ·intro ρ w c hw he
      have hl:=aQ.wF _ (ha he)
      rw[hargs]at hl
      generalize hal:args.toList.map c=al at hl
      cases hl with
      |cons _ u _ us2 h1 hr =>
      cases hr
      refine⟨M,ρ,w,After.refl hw,.inl ⟨u,v, ?_,h1,hk⟩⟩
      rw[start he,hal]
      exact uI g1 (hP.ng _ _ g1) g2 g3 g4 rfl
     ·intro ρ w c hw he
      obtain⟨u,hrun,hv⟩:=ag6 ρ w _ (aQ.wF _ (ha he)) hw
      exact⟨M,ρ,w,After.refl hw,.inl ⟨u,v,by rw[start he];exact hrun,hv,hk⟩⟩
     ·intro ρ w c hw he
      obtain⟨ρ',w',u,hrun,haf,hv⟩:=ag6 ρ w _ (aQ.wF _ (ha he)) hw
      exact⟨M2,ρ',w',haf,.inl ⟨u,v,by rw[start he];exact hrun,hv,hk⟩⟩
   |tmp t => 
    simp only[dC,hop]at h
    obtain⟨g,first,cap,hef,hcall⟩:=h
    exact gen g first cap hef hcall
   |const v =>
    simp only[dC,hop]at h
    obtain⟨g,first,cap,hef,hcall⟩:=h
    exact gen g first cap hef hcall
   |global v =>
    simp only[dC,hop]at h
    obtain⟨g,first,cap,hef,hcall⟩:=h
    exact gen g first cap hef hcall
  |invoke r m=>simp only[dC,hop]at h
 all_goals (simp only[dC,hop]at h)
end
def XH(nt:Nat)(T:Tree AV)(d:Option Tmp)(v:AV)(K:Tree AV→Prop):Prop :=
 match d with
 |none=>K T
 |some d=>match Nat.ble (d+1) nt with
  |true=>K (T.set d v)
  |false=>False
def cz(x:RB)(mk:Nat→AV)(M:RM)(K:aj):Prop:=K (mk M.next) (M.push x)
def opW(P:Program)(o:Oper)(e:Operand→AV)(M:RM)(K:aj):Prop :=
 match kindOf P o with
 |.pure|.read=>bi P o e M (fun v=>K v M)
 |.alloc=>kK P o e (fun x mk=>cz x mk M K)
 |.nS=>dC P o e M K
def QA(M:RM)(g:Nat):AV:=if g<M.lo then .ptr g 0 else .top
def wQ(M:RM)(e:Operand→AV):Operand→AV
 |.global g=>QA M g
 |x=>e x
def kC{α:Type}(x:AV)(want:Bool)(f g:α→Prop)(k:α):Prop :=
 match x with
 |.sc (.bool b)=>if b=want then f k else g k
 |.tup []=>g k
 |_=>False
def Rs(P:Program)(nt:Nat)(ops:Array Oper):List Oper→Tree AV→RM→(Tree AV→RM→Prop)→Prop
 |[],T,M,K=>K T M
 |o::rest,T,M,K=>match o.guard with
  |none=>opW P o (wQ M (lG T)) M (fun v M'=>XH nt T o.dst v (fun T'=>Rs P nt ops rest T' M' K))
  |some (j,want)=>match (ops[j]?).bind (·.dst)with
   |none=>False
   |some d=>kC ((T.get d).getD .top) want (opW P o (wQ M (lG T)) M) (fun k=>k .undef M) (fun v M'=>XH nt T o.dst v (fun T'=>Rs P nt ops rest T' M' K))
section
variable {P:Program} {ρ:Ren} {M:RM} {w:World} {nt:Nat} {T:Tree AV} {a:Act}
theorem CX{e:Operand→AV}(hw:bu P ρ M w)(he:∀ x,ai ρ (e x) (a.eval x))(x:Operand):ai ρ (wQ M e x) (a.eval x):=by
 cases x with
 |global g =>
  show ai ρ (QA M g) (a.eval (.global g))
  unfold QA
  split
  ·rename_i h
   obtain⟨A,hA⟩:=hw
   have:=ai.ptr (ρ:=ρ) g 0 ⟨g,0,0,0⟩ (hA.old g h)
   exact this
  ·exact .top _
 |tmp t=>exact he _
 |const v=>exact he _
 |func f=>exact he _
theorem Vg(h:fo ρ nt T a){d:Option Tmp}{v:AV}{v' : Value}{K:Tree AV→Prop}(hv:ai ρ v v')(hp:XH nt T d v K):∃ T',fo ρ nt T' (a.put d v')∧K T'∧∀ t,d≠some t→T'.get t=T.get t:=by
 cases d with
 |none=>exact⟨T,LG h hv rfl,hp,fun _ _=>rfl⟩
 |some d =>
  simp only[XH]at hp
  split at hp
  ·rename_i hb
   exact⟨T.set d v,LG h hv (by simp only[QG,hb]),hp,fun t ht=>by rw[Tree.bn,if_neg (fun e=>ht (by rw[e]))]⟩
  ·cases hp
theorem V5(hP:POk P){o:Oper}{e:Operand→AV}{K:aj}(he0:∀ g,e (.func g)=.fn (.func g) [] [])(h:opW P o e M K):iU P o e M K:=by
 unfold opW at h
 have val:bi P o e M (fun v=>K v M)→iU P o e M K:=by
  intro h ρ w c hw he
  obtain⟨v,hg,hk⟩:=wN h
  have hg:gH P o e M v:=by rcases hg with hg|⟨_,hg⟩<;>first|exact hg M|exact hg
  obtain⟨v',h1,h2⟩:=hg ρ w c M (RM.Sub.refl M) hw he
  exact⟨M,ρ,w,After.refl hw,.inl ⟨v',v,h1,h2,hk⟩⟩
 split at h
 ·exact val h
 ·exact val h
 ·obtain⟨x,mk,hm,hk⟩:=qL h
  intro ρ w c hw he
  obtain⟨ρ',w',u,h1,h2,h3⟩:=Mw hw he hm
  exact⟨_,ρ',w',h2,.inl ⟨u,_,h1,h3,hk⟩⟩
 ·exact Eg hP he0 h
theorem Qi{o:Oper}{e:Operand→AV}{K:aj}(h:iU P o e M K)(hw:bu P ρ M w)(he:∀ x∈o.op.operands,ai ρ (e x) (a.eval x)){K' : Act→World→Prop}{Q:Exit→Act→World→Prop}
  (hK:∀ v v' M' ρ' w',After P M ρ w M' ρ' w'→ai ρ' v v'→K v M'→K' (a.put o.dst v') w'):o.wp P a w K' Q:=by
 obtain⟨M',ρ',w',haft,h2⟩:=h ρ w a.eval hw he
 rcases h2 with⟨v',v,h1,h3,hk⟩|⟨h1,hk⟩|⟨f,args,us,h1,h3,hb,hc⟩
 ·exact NU o h1 (hK _ _ _ _ _ haft h3 hk)
 ·exact ahH o h1 (hK _ _ _ _ _ haft (.tup _ _ .nil) hk)
 ·refine aeJ o h1 (hc ρ' w' us h3 haft.rel) fun e w'' hR=>?_
  obtain⟨v',v,M2,ρ2,rfl,k1,k2,k3⟩:=hR
  exact⟨v',rfl,hK _ _ _ _ _ (haft.trans k1) k2 k3⟩
theorem abx{α:Type}{x:AV}{u:Value}{want:Bool}{f g:α→Prop}{k:α}(h:kC x want f g k)(hx:ai ρ x u):(u=.bool want∧f k)∨((∀ b,u=.bool b→b≠want)∧g k):=by
 unfold kC at h
 split at h <;>try(cases h;done)
 ·obtain⟨rfl,_⟩:=aH hx
  split at h
  ·rename_i e;subst e;exact .inl ⟨rfl,h⟩
  ·rename_i e;exact .inr ⟨fun b hb=>by cases hb;exact e,h⟩
 ·obtain⟨vs,rfl,hr⟩:=EZ hx
  exact .inr ⟨fun b hb=>(by cases hb),h⟩
theorem GN(hP:POk P){ops:Array Oper}{Q:Exit→Act→World→Prop}{K:Tree AV→RM→Prop}{M0:RM}{ρ0:Ren}{w0:World}{T0:Tree AV}
  (hQ:∀ T' M' ρ' a' w',After P M0 ρ0 w0 M' ρ' w'→fo ρ' nt T' a'→K T' M'→(∀ t,(∀ o∈ops.toList,o.dst≠some t)→T'.get t=T0.get t)→Q .normal a' w') :
  ∀ (l:List Oper)(i:Nat){ρ:Ren}{M:RM}{w:World}{T:Tree AV}{a:Act},ops.toList.drop i=l→fo ρ nt T a→After P M0 ρ0 w0 M ρ w→(∀ t,(∀ o∈ops.toList,o.dst≠some t)→T.get t=T0.get t)→Rs P nt ops l T M K →
    wpOps P ops Q (List.range' i l.length) a w
 |[],i,ρ,M,w,T,a,_,hA,hw,hkp,h=>hQ T M ρ a w hw hA h hkp
 |o::rest,i,ρ,M,w,T,a,hl,hA,hw,hkp,h=>by
  have ho:ops[i]?=some o:=by
   have:ops.toList[i]?=some o:=by
    have h0:(ops.toList.drop i)[0]?=some o:=by rw[hl];rfl
    rw[List.getElem?_drop]at h0;exact h0
   rw[← Array.getElem?_toList];exact this
  have hom:o∈ops.toList:=by
   have h1:ops.toList[i]?=some o:=by rw[Array.getElem?_toList];exact ho
   exact List.mem_of_getElem? h1
  have hl' : ops.toList.drop (i+1)=rest:=by
   rw[← List.drop_drop (i:=1) (j:=i)]<;>rw[hl];rfl
  rw[List.length_cons,List.range'_succ,wpOps_cons]
  unfold wpOp
  simp only[ho]
  simp only[Rs]at h
  have he:∀ x∈o.op.operands,ai ρ (wQ M (lG T) x) (a.eval x):=fun x _=>CX hw.rel (oJ hA) x
  have next:opW P o (wQ M (lG T)) M (fun v M'=>XH nt T o.dst v (fun T'=>Rs P nt ops rest T' M' K))→o.wp P a w (wpOps P ops Q (List.range' (i+1) rest.length)) Q:=by
   intro h
   refine Qi (V5 hP (fun _=>rfl) h) hw.rel he fun v v' M' ρ' w' haft hv hk=>?_
   obtain⟨T',hT,hk,hkt⟩:=Vg (hA.mono (haft.le hw.rel)) hv hk
   exact GN hP hQ rest (i+1) hl' hT (hw.trans haft) (fun t ht=>by rw[hkt t (ht o hom),hkp t ht]) hk
  split at h
  ·rename_i hg
   have:Region.wanted o (yielded ops a.tmps)=true:=by simp[Region.wanted,hg]
   rw[this]
   exact .inl (next h)
  ·rename_i j want hg
   split at h <;>try(cases h;done)
   rename_i d hd
   have hyv:yielded ops a.tmps j=match a.tmps[d]? with|some (.bool b)=>some b|_=>none:=by
    unfold yielded;rw[hd];rfl
   have hget:∀ t:Bool,a.tmps.getD d undef=.bool t↔a.tmps[d]?=some (.bool t):=by
    intro t
    rw[Array.getD_eq_getD_getElem?]
    cases hx:a.tmps[d]? with
    |none=>simp[undef]
    |some y=>simp
   rcases abx h (hA.val d)with⟨hu,hf⟩|⟨hn,hk⟩
   ·have:Region.wanted o (yielded ops a.tmps)=true:=by
     simp only[Region.wanted,hg,hyv,(hget want).1 hu];simp
    rw[this]
    exact .inl (next hf)
   ·have:Region.wanted o (yielded ops a.tmps)=false:=by
     simp only[Region.wanted,hg,hyv]
     cases hx:a.tmps[d]? with
     |none=>rfl
     |some y =>
      cases y<;>try rfl
      rename_i b
      have:=hn b ((hget b).2 hx)
      simpa using this
    rw[this]
    simp only[Bool.false_eq_true,if_false]
    obtain⟨T',hT,hk,hkt⟩:=Vg (v':=undef) hA (.tup _ _ .nil) hk
    exact GN hP hQ rest (i+1) hl' hT hw (fun t ht=>by rw[hkt t (ht o hom),hkp t ht]) hk
end
structure oh where
 V:Program→Oper→(Operand→AV)→RM→(AV→Prop)→Prop
 N:Program→Oper→(Operand→AV)→(RB→(Nat→AV)→Prop)→Prop
 E:Program→Oper→(Operand→AV)→RM→aj→Prop
def EL:oh:=⟨bi,kK,dC⟩
structure qO(P:Program)(I:oh):Prop where
 V:∀ {o e M K},I.V P o e M K→∃ v,((∀ M',gH P o e M' v)∨(kindOf P o=.read∧gH P o e M v))∧K v
 N:∀ {o e K},I.N P o e K→∃ x mk,Bz P o e x mk∧K x mk
 E:∀ {o e M K},(∀ g,e (.func g)=.fn (.func g) [] [])→I.E P o e M K→iU P o e M K
theorem P5{P:Program}(hP:POk P):qO P EL:=⟨wN,qL,fun he h=>Eg hP he h⟩
structure lC where
 vals:Tree AV
 M:RM
 aX:Tree (Option Nat)
abbrev KR:=AV→RM→Option Nat→Prop
def guardOf(ops:Array Oper)(wr:Tree Nat)(vals:Tree AV)(r:Row):Option (Option (AV×Bool)) :=
 match r.o.guard with
 |none=>some none
 |some (j,want)=>match (ops[j]?).bind (·.dst)with
  |none=>none
  |some d=>match Nat.testBit r.m j,wr.get d with
   |true,some j'=>match Nat.beq j' j with
    |true=>some (some ((vals.get j).getD .top,want))
    |false=>none
   |_,_=>none
abbrev af(x:AV)(want:Bool)(f g:aj→Prop)(k:aj):Prop:=kC x want f g k
abbrev iH(x:AV)(want:Bool)(f g:KR→Prop)(k:KR):Prop:=kC x want f g k
def qJ{α:Type}(g:Option (Option (AV×Bool)))(f skip:α→Prop)(k:α):Prop :=
 match g with
 |none=>False
 |some none=>f k
 |some (some (x,want))=>kC x want f skip k
def ara(x:RB)(mk:Nat→AV)(M:RM)(k:KR):Prop:=k (mk M.next) (M.push x) (some M.next)
def abD(b:Option Nat)(M:RM)(x:RB)(mk:Nat→AV)(v:AV):Prop :=
 match b with
 |some b=>M.heap b=some x∧mk b=v
 |none=>False
def Yq(I:oh)(P:Program)(r:Row)(e:Operand→AV)(M:RM)(k:KR):Prop :=
 match r.kd with
 |.pure|.read=>I.V P r.o e M (fun v=>k v M none)
 |.alloc=>I.N P r.o e (fun x mk=>ara x mk M k)
 |.nS=>False
def tN(I:oh)(P:Program)(ops:Array Oper)(T0:Tree AV)(wr:Tree Nat)(lev:Nat):List Row→lC→(lC→Prop)→Prop
 |[],s,K=>K s
 |r::rest,s,K=>match Nat.beq r.lev lev && !mg r.kd with
  |false=>tN I P ops T0 wr lev rest s K
  |true=>qJ (guardOf ops wr s.vals r) (Yq I P r (jI T0 wr s.vals r.m) s.M) (fun k=>k .undef s.M none) (fun v M' b=>tN I P ops T0 wr lev rest { vals:=s.vals.set r.i v,M:=M',aX:=s.aX.set r.i b } K)
def Uc(I:oh)(P:Program)(ops:Array Oper)(T0:Tree AV)(wr:Tree Nat)(r:Row)(s:lC)(K:Prop):Prop :=
 match r.kd with
 |.read=>qJ (guardOf ops wr s.vals r) (fun k=>I.V P r.o (jI T0 wr s.vals r.m) s.M (fun v=>v=(s.vals.get r.i).getD .top∧k)) (fun k=>k) K
 |.alloc=>qJ (guardOf ops wr s.vals r) (fun k=>I.N P r.o (jI T0 wr s.vals r.m) (fun x mk=>abD ((s.aX.get r.i).getD none) s.M x mk ((s.vals.get r.i).getD .top)∧k)) (fun k=>k) K
 |_=>K
def J8(I:oh)(P:Program)(ops:Array Oper)(T0:Tree AV)(ri:RI)(lev:Nat):List Row→lC→Prop→Prop
 |[],_,K=>K
 |r::rest,s,K=>match Nat.ble r.lev lev && !mg r.kd&&kV ri.ms ri.es (lev+1) r with
  |false=>J8 I P ops T0 ri lev rest s K
  |true=>Uc I P ops T0 ri.wr r s (J8 I P ops T0 ri lev rest s K)
def nQ(I:oh)(P:Program)(ops:Array Oper)(T0:Tree AV)(ri:RI):Nat→List Nat→lC→(lC→Prop)→Prop
 |lev,[],s,K=>tN I P ops T0 ri.wr lev ri.rows s K
 |lev,x::rest,s,K=>tN I P ops T0 ri.wr lev ri.rows s (fun s1=>match nth ri.rows x with
  |none=>False
  |some r=>qJ (guardOf ops ri.wr s1.vals r) (I.E P r.o (jI T0 ri.wr s1.vals r.m) s1.M) (fun k=>k .undef s1.M)
    (fun v M'=>J8 I P ops T0 ri lev ri.rows { vals:=s1.vals.set x v,M:=M',aX:=s1.aX } (nQ I P ops T0 ri (lev+1) rest { vals:=s1.vals.set x v,M:=M',aX:=s1.aX } K)))
def wP(I:oh)(P:Program)(nt:Nat)(ops:Array Oper)(T:Tree AV)(M:RM)(K:Tree AV→RM→Prop):Prop :=
 match uG P nt ops with
 |none=>False
 |some ri=>match ri.rows.all (Fq ri)with
  |false=>False
  |true=>nQ I P ops T ri 0 ri.es { vals:=.leaf,M,aX:=.leaf } (fun s=>K (Ey T s.vals ri.rows) s.M)
def ZH(g:Option (AV×Bool)):Prop:=match g with|none=>True|some (x,want)=>x=Bo want
def Nl(g:Option (AV×Bool)):Prop:=match g with|none=>False|some (x,want)=>x=.undef∨∃ b,x=Bo b∧b≠want
theorem uA{α:Type}{g:Option (Option (AV×Bool))}{f skip:α→Prop}{k:α}(h:qJ g f skip k):∃ g',g=some g'∧((ZH g'∧f k)∨(Nl g'∧skip k)):=by
 unfold qJ at h
 split at h <;>try(cases h;done)
 ·exact⟨none,rfl,.inl ⟨trivial,h⟩⟩
 ·rename_i x want
  refine⟨_,rfl, ?_⟩
  unfold kC at h
  split at h <;>try(cases h;done)
  ·split at h
   ·rename_i e;subst e;exact .inl ⟨rfl,h⟩
   ·rename_i b e;exact .inr ⟨.inr ⟨b,rfl,e⟩,h⟩
  ·exact .inr ⟨.inl rfl,h⟩
section
variable {P:Program} {nt:Nat} {ops:Array Oper} {ri:RI} {T0:Tree AV}
def tC(P:Program)(ops:Array Oper)(T0:Tree AV)(wr:Tree Nat)(s:lC)(r:Row):Prop :=
 ∃ g,guardOf ops wr s.vals r=some g∧((ZH g∧∃ v,s.vals.get r.i=some v∧match r.kd with
   |.pure=>∀ M,gH P r.o (jI T0 wr s.vals r.m) M v
   |.read=>gH P r.o (jI T0 wr s.vals r.m) s.M v
   |.alloc=>∃ x mk b,Bz P r.o (jI T0 wr s.vals r.m) x mk∧s.aX.get r.i=some (some b)∧s.M.heap b=some x∧mk b=v
   |.nS=>False)∨(Nl g∧s.vals.get r.i=some .undef))
theorem gH.sub{o:Oper}{e:Operand→AV}{M M' : RM}{v:AV}(h:gH P o e M v)(hs:M.Sub M'):gH P o e M' v :=
 fun ρ w c M2 h2 hw he=>h ρ w c M2 (hs.trans h2) hw he
theorem CR{vals Oq:Tree AV}{wr:Tree Nat}{m:Nat}(h:∀ j,Nat.testBit m j=true→Oq.get j=vals.get j):jI T0 wr Oq m=jI T0 wr vals m:=by
 funext x
 cases x with
 |tmp t =>
  simp only[jI]
  cases hw:wr.get t with
  |none=>rfl
  |some j =>
   simp only
   cases hb:Nat.testBit m j with
   |false=>rfl
   |true=>simp only[h j hb]
 |const v=>rfl
 |global g=>rfl
 |func f=>rfl
theorem oU{vals Oq:Tree AV}{wr:Tree Nat}{r:Row}(h:∀ j,Nat.testBit r.m j=true→Oq.get j=vals.get j):guardOf ops wr Oq r=guardOf ops wr vals r:=by
 unfold guardOf
 split
 ·rfl
 ·rename_i j want hg
  split
  ·rfl
  ·split
   ·rename_i hb _
    simp only[h j hb]
   ·rfl
theorem tC.keep{wr:Tree Nat}{s s' : lC}{r:Row}(h:tC P ops T0 wr s r)(hv:∀ j,Nat.testBit r.m j=true∨j=r.i→s'.vals.get j=s.vals.get j)(hb:s'.aX.get r.i=s.aX.get r.i)(hs:s.M.Sub s'.M):tC P ops T0 wr s' r:=by
 obtain⟨g,hg,h⟩:=h
 have hi:=hv r.i (.inr rfl)
 have he:jI T0 wr s'.vals r.m=jI T0 wr s.vals r.m:=CR fun j hj=>hv j (.inl hj)
 refine⟨g,by rw[← hg];exact oU fun j hj=>hv j (.inl hj), ?_⟩
 rcases h with⟨hon,v,hvi,hk⟩|⟨hoff,hvi⟩
 ·refine .inl ⟨hon,v,by rw[hi];exact hvi, ?_⟩
  rw[he]
  cases hkd:r.kd with
  |pure=>rw[hkd]at hk;exact hk
  |read=>rw[hkd]at hk;exact hk.sub hs
  |alloc =>
   rw[hkd]at hk
   obtain⟨x,mk,b,h1,h2,h3,h4⟩:=hk
   exact⟨x,mk,b,h1,by rw[hb];exact h2,hs.2 _ _ h3,h4⟩
  |nS=>rw[hkd]at hk;exact hk
 ·exact .inr ⟨hoff,by rw[hi];exact hvi⟩
def Fr(M:RM):Prop:=∀ b,M.next≤b→M.heap b=none
theorem Fr.push{M:RM}(h:Fr M)(x:RB):Fr (M.push x):=by
 intro b hb
 simp only[RM.push]at hb ⊢
 rw[if_neg (by omega)]
 exact h b (by omega)
theorem Fr.sub{M:RM}(h:Fr M)(x:RB):M.Sub (M.push x):=by
 refine⟨rfl,fun b y hy=>?_⟩
 simp only[RM.push]
 split
 ·rename_i e;subst e;rw[h _ (Nat.le_refl _)]at hy;cases hy
 ·exact hy
theorem bu.fr{ρ:Ren}{M:RM}{w:World}(h:bu P ρ M w):Fr M:=by
 intro b hb
 have hlo:=h.lo_le
 obtain⟨A,hA⟩:=h
 cases hx:M.heap b with
 |none=>rfl
 |some x =>
  rcases hA.blk b x hx with⟨y,hy,_⟩|⟨c,_,hlt,_⟩
  ·have:=hA.rel.top b y hy
   rw[hA.next]at this;omega
  ·omega
theorem Rj{ρ:Ren}{M:RM}{w:World}{o:Oper}{e:Operand→AV}{x:RB}{mk:Nat→AV}(h:bu P ρ M w)(hm:Bz P o e x mk):bu P ρ (M.push x) w:=by
 obtain⟨y,_,hle⟩:=hm
 exact h.alp x y hle
structure abg(P:Program)(ops:Array Oper)(T0:Tree AV)(ri:RI)(lev:Nat)(i0:Nat)(s s' : lC):Prop where
 keep:∀ j,(∀ r,ri.rows[j]?=some r→i0≤j→¬ (r.lev=lev∧mg r.kd=false))→s'.vals.get j=s.vals.get j∧s'.aX.get j=s.aX.get j
 done:∀ j r,ri.rows[j]?=some r→i0≤j→r.lev=lev→mg r.kd=false→tC P ops T0 ri.wr s' r
 sub:s.M.Sub s'.M
 fr:Fr s'.M
 rel:∀ ρ w,bu P ρ s.M w→bu P ρ s'.M w
 next:s.M.next≤s'.M.next
 aX:∀ j b,s'.aX.get j=some (some b)→s.aX.get j=some (some b)∨(s.M.next≤b∧b<s'.M.next∧i0≤j∧∃ r,ri.rows[j]?=some r)
 zM:∀ j1 j2 b,s'.aX.get j1=some (some b)→s'.aX.get j2=some (some b)→s.M.next≤b→j1=j2
theorem Ct{I:oh}(hNi:qO P I)(ht:mD P nt ops ri){lev:Nat}{K:lC→Prop}:∀ (rows:List Row)(i0:Nat)(s:lC),ri.rows.drop i0=rows→Fr s.M→(∀ j b,s.aX.get j=some (some b)→b<s.M.next)→tN I P ops T0 ri.wr lev rows s K→∃ s',K s'∧abg P ops T0 ri lev i0 s s'
 |[],i0,s,hd,hf,hbd,h=>by
  refine⟨s,h,fun _ _=>⟨rfl,rfl⟩,fun j r hr hj=>?_,RM.Sub.refl _,hf,fun _ _ h=>h,Nat.le_refl _,fun j b hb=>.inl hb,fun j1 j2 b h1 _ hb=>absurd (hbd j1 b h1) (by omega)⟩
  have hlen:ri.rows.length≤i0:=List.drop_eq_nil_iff.1 hd
  have:=(List.getElem?_eq_some_iff.1 hr).1
  omega
 |r::rows,i0,s,hd,hf,hbd,h=>by
  have hri:ri.rows[i0]?=some r:=by
   have h0:(ri.rows.drop i0)[0]?=some r:=by rw[hd];rfl
   rw[List.getElem?_drop]at h0;exact h0
  have hd' : ri.rows.drop (i0+1)=rows:=by
   rw[← List.drop_drop (i:=1) (j:=i0)]<;>rw[hd];rfl
  obtain⟨e1,e2,e3,e4,e5⟩:=ht.row hri
  simp only[tN]at h
  split at h
  ·rename_i hk
   obtain⟨s',hK,hp⟩:=Ct hNi ht rows (i0+1) s hd' hf hbd h
   have hne:¬ (r.lev=lev∧mg r.kd=false):=by
    rintro⟨a,b⟩
    rw[qH a,b]at hk
    cases hk
   refine⟨s',hK,fun j hj=>hp.keep j fun r' hr' hj'=>hj r' hr' (by omega),fun j r' hr' hj hl he=>?_,hp.sub,hp.fr,hp.rel,hp.next,fun j b hb=>(hp.aX j b hb).imp id fun⟨a,b,c,d⟩=>⟨a,b,by omega,d⟩,hp.zM⟩
   rcases Nat.lt_or_ge i0 j with hlt|hge
   ·exact hp.done j r' hr' hlt hl he
   ·have:j=i0:=by omega
    subst this
    rw[hri]at hr';cases hr'
    exact absurd ⟨hl,he⟩ hne
  ·rename_i hk
   simp only[Bool.and_eq_true,Bool.not_eq_true']at hk
   have vJ:=dG hk.1
   obtain⟨g,hg,hcase⟩:=uA h
   -- whatever the row gives
   have fin:∀ (v:AV)(M' : RM)(b:Option Nat),s.M.Sub M'→Fr M'→s.M.next≤M'.next→(∀ ρ w,bu P ρ s.M w→bu P ρ M' w)→(∀ b',b=some b'→s.M.next≤b'∧b'<M'.next) →
     (∀ s2:lC,(∀ j,Nat.testBit r.m j=true→s2.vals.get j=s.vals.get j)→s2.vals.get r.i=some v→s2.aX.get r.i=some b→M'.Sub s2.M→tC P ops T0 ri.wr s2 r) →
     tN I P ops T0 ri.wr lev rows { vals:=s.vals.set r.i v,M:=M',aX:=s.aX.set r.i b } K→∃ s',K s'∧abg P ops T0 ri lev i0 s s':=by
    intro v M' b hsub hfr hnx hrel hb hok h
    obtain⟨s',hK,hp⟩:=Ct hNi ht rows (i0+1) _ hd' hfr (fun j b' hj=>by
     rw[Tree.bn]at hj
     split at hj
     ·cases hj;exact(hb b' rfl).2
     ·exact Nat.lt_of_lt_of_le (hbd j b' hj) hnx) h
    have Xz:=hp.keep r.i (fun r' hr' hj'=>by omega)
    simp only[Tree.bn,if_true]at Xz
    refine⟨s',hK,fun j hj=>?_,fun j r' hr' hj hl he=>?_,hsub.trans hp.sub,hp.fr,fun ρ w h=>hp.rel ρ w (hrel ρ w h),Nat.le_trans hnx hp.next,fun j b' hb'=>?_,fun j1 j2 b' h1 h2 hb'=>?_⟩
    ·have hji:j≠r.i:=fun e=>hj r (by rw[e,e1];exact hri) (by omega) ⟨vJ,hk.2⟩
     obtain⟨k1,k2⟩:=hp.keep j fun r' hr' hj'=>hj r' hr' (by omega)
     simp only[Tree.bn,if_neg hji]at k1 k2
     exact⟨k1,k2⟩
    ·rcases Nat.lt_or_ge i0 j with hlt|hge
     ·exact hp.done j r' hr' hlt hl he
     ·have:j=i0:=by omega
      subst this
      rw[hri]at hr';cases hr'
      refine hok s' (fun q hq=>?_) Xz.1 Xz.2 hp.sub
      have hqlt:q<j:=by
       have hc:Closed ops.toList (fun i=>i<j):=fun i o ho hi e he' hb'=>by have:=ht.Aa i o ho e he' hb';omega
       exact ht.ahead hc hri (fun e he' hb'=>ht.Aa j r.o e2 e he' hb') hq
      have hqi:q≠r.i:=by omega
      have:=(hp.keep q fun r' hr' hj'=>by omega).1
      rw[this]
      simp only[Tree.bn,if_neg hqi]
    ·rcases hp.aX j b' hb' with k|⟨k1,k2,k3,k4⟩
     ·simp only[Tree.bn]at k
      split at k
      ·rename_i e
       cases k
       obtain⟨q1,q2⟩:=hb b' rfl
       exact .inr ⟨q1,Nat.lt_of_lt_of_le q2 hp.next,by omega,r,by rw[e,e1];exact hri⟩
      ·exact .inl k
     ·simp only at k1
      exact .inr ⟨by omega,k2,by omega,k4⟩
    ·rcases Nat.lt_or_ge b' M'.next with hlt|hge
     ·have q:∀ j,s'.aX.get j=some (some b')→j=r.i:=by
       intro j hj
       rcases hp.aX j b' hj with k|⟨k1,_⟩
       ·simp only[Tree.bn]at k
        split at k
        ·assumption
        ·have:=hbd j b' k;omega
       ·simp only at k1;omega
      rw[q j1 h1,q j2 h2]
     ·exact hp.zM j1 j2 b' h1 h2 hge
   rcases hcase with⟨hon,hv⟩|⟨hoff,hv⟩
   ·unfold Yq at hv
    have val:(r.kd=.pure∨r.kd=.read)→I.V P r.o (jI T0 ri.wr s.vals r.m) s.M (fun v=>tN I P ops T0 ri.wr lev rows { vals:=s.vals.set r.i v,M:=s.M,aX:=s.aX.set r.i none } K)→∃ s',K s'∧abg P ops T0 ri lev i0 s s':=by
     intro hkd hv
     obtain⟨v,hgv,hk2⟩:=hNi.V hv
     refine fin v s.M none (RM.Sub.refl _) hf (Nat.le_refl _) (fun _ _ h=>h) (fun b' h=>by cases h) (fun s2 q1 q2 q3 q4=>?_) hk2
     refine⟨g,by rw[← hg];exact oU q1,.inl ⟨hon,v,q2, ?_⟩⟩
     rw[CR q1]
     rcases hkd with hkd|hkd
     ·rw[hkd]
      rcases hgv with hgv|⟨hrd,_⟩
      ·exact hgv
      ·rw[← e5,hkd]at hrd;cases hrd
     ·rw[hkd]
      rcases hgv with hgv|⟨_,hgv⟩
      ·exact hgv _
      ·exact hgv.sub q4
    split at hv
    ·exact val (.inl ‹_›) hv
    ·exact val (.inr ‹_›) hv
    ·rename_i hkd
     obtain⟨x,mk,hm,hk2⟩:=hNi.N hv
     refine fin (mk s.M.next) (s.M.push x) (some s.M.next) (hf.sub x) (hf.push x) (by simp[RM.push]) (fun ρ w h=>Rj h hm) (fun b' h=>by cases h;simp[RM.push]) (fun s2 q1 q2 q3 q4=>?_) hk2
     refine⟨g,by rw[← hg];exact oU q1,.inl ⟨hon,_,q2, ?_⟩⟩
     rw[CR q1,hkd]
     exact⟨x,mk,s.M.next,hm,q3,q4.2 _ _ (by simp[RM.push]),rfl⟩
    ·cases hv
   ·refine fin .undef s.M none (RM.Sub.refl _) hf (Nat.le_refl _) (fun _ _ h=>h) (fun b' h=>by cases h) (fun s2 q1 q2 q3 q4=>?_) hv
    exact⟨g,by rw[← hg];exact oU q1,.inr ⟨hoff,q2⟩⟩
end
section
variable {P:Program} {nt:Nat} {ops:Array Oper} {ri:RI} {T0:Tree AV}
theorem aaY{I:oh}(hNi:qO P I){wr:Tree Nat}{r:Row}{s s0:lC}{K:Prop}(h:Uc I P ops T0 wr r s K)(hold:tC P ops T0 wr s0 r)(hv:∀ j,Nat.testBit r.m j=true∨j=r.i→s.vals.get j=s0.vals.get j)(hb:s.aX.get r.i=s0.aX.get r.i) :
  K∧tC P ops T0 wr s r:=by
 obtain⟨g,hg,hold⟩:=hold
 have hi:=hv r.i (.inr rfl)
 have he:jI T0 wr s.vals r.m=jI T0 wr s0.vals r.m:=CR fun j hj=>hv j (.inl hj)
 have hg' : guardOf ops wr s.vals r=some g:=by rw[← hg];exact oU fun j hj=>hv j (.inl hj)
 have TT:Nl g→ZH g→False:=by
  intro h1 h2
  unfold Nl at h1
  unfold ZH at h2
  split at h1
  ·exact h1
  ·simp only at h2
   rcases h1 with h1|⟨b,h1,h3⟩
   ·rw[h2]at h1;cases h1
   ·rw[h2]at h1;cases h1;exact h3 rfl
 have adm:∀ {K'},K'→Nl g∧s0.vals.get r.i=some .undef→K'∧tC P ops T0 wr s r:=fun k h=>⟨k,g,hg',.inr ⟨h.1,by rw[hi];exact h.2⟩⟩
 unfold Uc at h
 cases hkd:r.kd with
 |pure =>
  rw[hkd]at h
  refine⟨h,g,hg', ?_⟩
  rcases hold with⟨hon,v,hvi,hk⟩|⟨hoff,hvi⟩
  ·refine .inl ⟨hon,v,by rw[hi];exact hvi, ?_⟩
   rw[hkd]at hk ⊢
   rw[he];exact hk
  ·exact .inr ⟨hoff,by rw[hi];exact hvi⟩
 |nS =>
  rcases hold with⟨hon,v,hvi,hk⟩|ho
  ·rw[hkd]at hk;exact hk.elim
  ·rw[hkd]at h;exact adm h ho
 |read =>
  rw[hkd]at h
  obtain⟨g2,hg2,hcase⟩:=uA h
  rw[hg']at hg2;cases hg2
  rcases hold with⟨hon,v,hvi,hk⟩|ho
  ·rcases hcase with⟨_,hn⟩|⟨hoff,_⟩
   ·obtain⟨v',hgv,hv',hK⟩:=hNi.V hn
    have hgv:gH P r.o (jI T0 wr s.vals r.m) s.M v':=by rcases hgv with hgv|⟨_,hgv⟩<;>first|exact hgv _|exact hgv
    rw[hi,hvi]at hv'
    simp only[Option.getD_some]at hv'
    subst hv'
    refine⟨hK,g,hg',.inl ⟨hon,v',by rw[hi];exact hvi, ?_⟩⟩
    rw[hkd];exact hgv
   ·exact(TT hoff hon).elim
  ·rcases hcase with⟨hon,_⟩|⟨_,hK⟩
   ·exact(TT ho.1 hon).elim
   ·exact adm hK ho
 |alloc =>
  rw[hkd]at h
  obtain⟨g2,hg2,hcase⟩:=uA h
  rw[hg']at hg2;cases hg2
  rcases hold with⟨hon,v,hvi,hk⟩|ho
  ·rcases hcase with⟨_,hn⟩|⟨hoff,_⟩
   ·obtain⟨x,mk,hm,hx,hK⟩:=hNi.N hn
    rw[hkd]at hk
    obtain⟨x0,mk0,b,_,h2,_,_⟩:=hk
    rw[hb,h2]at hx
    simp only[Option.getD_some]at hx
    rw[hi,hvi]at hx
    simp only[Option.getD_some]at hx
    refine⟨hK,g,hg',.inl ⟨hon,v,by rw[hi];exact hvi, ?_⟩⟩
    rw[hkd]
    exact⟨x,mk,b,hm,by rw[hb];exact h2,hx.1,hx.2⟩
   ·exact(TT hoff hon).elim
  ·rcases hcase with⟨hon,_⟩|⟨_,hK⟩
   ·exact(TT ho.1 hon).elim
   ·exact adm hK ho
theorem Nc{I:oh}(hNi:qO P I){lev:Nat}{s s0:lC}{K:Prop}:∀ (rows:List Row),J8 I P ops T0 ri lev rows s K →
  (∀ r∈rows,mg r.kd=false→r.lev≤lev→kV ri.ms ri.es (lev+1) r=true→tC P ops T0 ri.wr s0 r∧(∀ j,Nat.testBit r.m j=true∨j=r.i→s.vals.get j=s0.vals.get j)∧s.aX.get r.i=s0.aX.get r.i) →
  K∧∀ r∈rows,mg r.kd=false→r.lev≤lev→kV ri.ms ri.es (lev+1) r=true→tC P ops T0 ri.wr s r
 |[],h,_=>⟨h,fun r hr=>by cases hr⟩
 |r::rows,h,ho=>by
  simp only[J8]at h
  split at h
  ·rename_i hc
   obtain⟨h1,h2⟩:=Nc hNi rows h fun r' hr'=>ho r' (.tail _ hr')
   refine⟨h1,fun r' hr' e1 e2 e3=>?_⟩
   rcases List.mem_cons.1 hr' with e|hr'
   ·subst e
    rw[aU.2 e2,e1,e3]at hc
    cases hc
   ·exact h2 r' hr' e1 e2 e3
  ·rename_i hc
   simp only[Bool.and_eq_true,Bool.not_eq_true']at hc
   obtain⟨⟨c1,c2⟩,c3⟩:=hc
   obtain⟨o1,o2,o3⟩:=ho r (.head _) c2 (bf c1) c3
   obtain⟨h1,h2⟩:=aaY hNi h o1 o2 o3
   obtain⟨h3,h4⟩:=Nc hNi rows h1 fun r' hr'=>ho r' (.tail _ hr')
   refine⟨h3,fun r' hr' e1 e2 e3=>?_⟩
   rcases List.mem_cons.1 hr' with e|hr'
   ·subst e;exact h2
   ·exact h4 r' hr' e1 e2 e3
theorem alZ{ρ:Ren}{i:gF}{x:RB}{y y' : mY}{ob:Obj}(h:BO x y)(h' : BO x y')(hb:jL P ρ i y ob):jL P ρ i y' ob:=by
 cases x with
 |row l opn elem fz =>
  cases y <;>try exact h.elim
  cases y' <;>try exact h'.elim
  obtain⟨rfl,rfl,rfl,rfl,h5⟩:=h
  obtain⟨h1,rfl,rfl,rfl,h5'⟩:=h'
  subst h1
  obtain⟨c,fr,rfl,hr⟩:=hb
  refine⟨c,fr,rfl,hr.size,fun k u hk=>?_,hr.free,hr.mark,hr.opn,hr.sh0⟩
  have hlt:=SY hk
  have hv:l[k]?=some l[k]:=by simp[hlt]
  have e1:=h5' k _ hv
  rw[hk]at e1;cases e1
  exact hr.val k _ (h5 k _ hv)
 |ro c=>cases y<;>exact h.elim
 |map es c =>
  cases y <;>try exact h.elim
  cases y' <;>try exact h'.elim
  obtain⟨rfl,rfl⟩:=h
  obtain⟨rfl,rfl⟩:=h'
  exact hb
 |iter m a b c =>
  cases y <;>try exact h.elim
  cases y' <;>try exact h'.elim
  obtain⟨rfl,rfl,rfl,rfl⟩:=h
  obtain⟨rfl,rfl,rfl,rfl⟩:=h'
  exact hb
 |mi s p =>
  cases y <;>try exact h.elim
  cases y' <;>try exact h'.elim
  obtain⟨rfl,rfl⟩:=h
  obtain⟨rfl,rfl⟩:=h'
  exact hb
theorem aeI{ρ:Ren}{M:RM}{w:World}{b:Nat}{x:RB}{y:mY}{ob:Obj}{i:gF}(hw:bu P ρ M w)(hi:i.cb=w.heap.size)(hb:ρ b=none)(hlt:b<M.next)(hx:M.heap b=some x)(hle:BO x y)
  (hrel:jL P ρ i y ob):bu P (ρ.add b i) M (w.alloc ob)∧Step M.lo b ρ w (ρ.add b i) (w.alloc ob):=by
 obtain⟨A,hA⟩:=hw
 rcases hA.blk b x hx with⟨y',hy',Hq⟩|⟨c,rfl,_⟩
 ·obtain⟨h1,h2⟩:=WK hA.rel hA.size hi hb (by rw[hA.next];exact hlt) hy' ((alZ hle Hq hrel).mono (Ren.yR hb))
  have:=hA.size
  refine⟨⟨A,hA.next,h1,by simp;omega,fun c z hz=>?_,fun c hc=>?_⟩,h2⟩
  ·rcases hA.blk c z hz with k|⟨d,rfl,hlt,elem,fr,hh⟩
   ·exact .inl k
   ·exact .inr ⟨d,rfl,hlt,elem,fr,by rw[heap_alloc_old w ob c (by omega)];exact hh⟩
  ·unfold Ren.add
   rw[if_neg (fun e=>by subst e;rw[hA.old _ hc]at hb;cases hb)]
   exact hA.old c hc
 ·cases y<;>exact hle.elim
structure Ka(P:Program)(nt:Nat)(ops:Array Oper)(ri:RI)(T0:Tree AV)(M0:RM)(ρ0:Ren)(w0:World)(k:Nat)(done rest:List Nat)(s:lC)(S:Nat→Prop)(ρ:Ren)(a:Act)(w:World):Prop where
 es:ri.es=done++rest
 len:done.length=k
 closed:Closed ops.toList S
 dn:∀ x∈done,S x
 rs:∀ x∈rest,¬ S x
 lev:∀ (j:Nat)(r:Row),ri.rows[j]?=some r→mg r.kd=false→S j→r.lev≤k
 size:a.tmps.size=nt
 defers:a.defers=[]
 slot:Re ρ T0 ri.wr s.vals S a
 GH:bu P ρ s.M w
 step:Step M0.lo M0.next ρ0 w0 ρ w
 base:s.M.base=M0.base
 next:M0.next≤s.M.next
 bid:∀ j b,s.aX.get j=some (some b)→M0.next≤b∧b<s.M.next∧(¬ S j→ρ b=none)∧j<ops.size
 zM:∀ j1 j2 b,s.aX.get j1=some (some b)→s.aX.get j2=some (some b)→j1=j2
variable {M0:RM} {ρ0:Ren} {w0:World} {k:Nat} {done rest:List Nat} {s:lC} {S:Nat→Prop} {ρ:Ren} {a:Act} {w:World}
theorem aet(ht:mD P nt ops ri)(hI:Ka P nt ops ri T0 M0 ρ0 w0 k done rest s S ρ a w){i:Nat}{r:Row}(hr:ri.rows[i]?=some r)(hns:¬ S i)(hd:∀ e∈r.o.after.toList,Region.binds .any e=true→S e.on)
  (hok:Fq ri r=true):∀ x∈r.o.op.operands,ai ρ (jI T0 ri.wr s.vals r.m x) (a.eval x):=by
 intro x hx
 have hx' : Vp ri r x=true:=by
  unfold Fq at hok
  exact List.all_eq_true.1 hok x (by simpa using hx)
 cases x with
 |tmp t =>
  obtain⟨h1,h2⟩:=hI.slot t
  simp only[jI,Act.eval]
  simp only[Vp]at hx'
  cases hw:ri.wr.get t with
  |none =>
   simp only
   exact h2 fun j hj=>by rw[hw]at hj;cases hj
  |some j =>
   rw[hw]at hx'
   simp only
   cases hb:Nat.testBit r.m j with
   |true =>
    simp only
    exact h1 j hw (ht.ahead hI.closed hr hd hb)
   |false =>
    simp only
    refine h2 fun j' hj'=>?_
    rw[hw]at hj';cases hj'
    simp only[hb,Bool.false_or,Bool.or_eq_true]at hx'
    obtain⟨e1,_⟩:=ht.row hr
    rcases hx' with hx'|hx'
    ·rw[dG hx',e1];exact hns
    ·intro hS
     rw[cB,e1]at hx'
     obtain⟨o,ho,_⟩:=ht.wrs t j hw
     exact hns (ht.Qb hI.closed hS ho hx')
 |const v =>
  simp only[jI,lG,Act.eval]
  cases hv:gy v with
  |none=>exact .top _
  |some u=>exact iP hv
 |global g=>exact .top _
 |func f=>exact .fn _ _ _ _ _ rfl .nil .nil
theorem PO(ht:mD P nt ops ri)(hI:Ka P nt ops ri T0 M0 ρ0 w0 k done rest s S ρ a w){i:Nat}{r:Row}(hr:ri.rows[i]?=some r)(hd:∀ e∈r.o.after.toList,Region.binds .any e=true→S e.on){g:Option (AV×Bool)}
  (hg:guardOf ops ri.wr s.vals r=some g):(ZH g→Region.wanted r.o (yielded ops a.tmps)=true)∧(Nl g→Region.wanted r.o (yielded ops a.tmps)=false):=by
 unfold guardOf at hg
 unfold Region.wanted
 split at hg
 ·rename_i hgu;simp only[hgu];cases hg
  exact⟨fun _=>trivial,fun h=>h.elim⟩
 ·rename_i j want hgu
  simp only[hgu]
  split at hg <;>try(cases hg;done)
  rename_i d hdst
  split at hg <;>try(cases hg;done)
  rename_i j' hb hwr
  split at hg <;>try(cases hg;done)
  rename_i he
  cases hg
  have he:=dG he
  subst he
  have hv:=(hI.slot d).1 j' hwr (ht.ahead hI.closed hr hd hb)
  have hyv:yielded ops a.tmps j'=match a.tmps[d]? with|some (.bool b)=>some b|_=>none:=by
   unfold yielded;rw[hdst];rfl
  have hget:∀ t:Bool,a.tmps.getD d undef=.bool t↔a.tmps[d]?=some (.bool t):=by
   intro t
   rw[Array.getD_eq_getD_getElem?]
   cases hx:a.tmps[d]? with
   |none=>simp[undef]
   |some y=>simp
  have off:(∀ b,a.tmps.getD d undef=.bool b→b≠want)→(yielded ops a.tmps j'==some want)=false:=by
   intro hn
   rw[hyv]
   cases hx:a.tmps[d]? with
   |none=>rfl
   |some y =>
    cases y<;>try rfl
    rename_i b
    have:=hn b ((hget b).2 hx)
    simpa using this
  constructor
  ·intro hon
   simp only[ZH]at hon
   rw[hon]at hv
   have hc:=(aH hv).1
   rw[hyv,(hget want).1 hc];simp
  ·intro hoff
   simp only[Nl]at hoff
   refine off fun b hb'=>?_
   rcases hoff with hu|⟨b',hu,hne⟩
   ·rw[hu]at hv
    obtain⟨vs,hc,hrl⟩:=EZ hv
    rw[hc]at hb';cases hb'
   ·rw[hu]at hv
    rw[(aH hv).1]at hb';cases hb';exact hne
def Uf(I:oh)(P:Program)(ops:Array Oper)(T0:Tree AV)(ri:RI)(k:Nat)(s:lC)(K:lC→Prop):List Nat→Prop
 |[]=>K s
 |x::rest=>∃ r,nth ri.rows x=some r∧qJ (guardOf ops ri.wr s.vals r) (I.E P r.o (jI T0 ri.wr s.vals r.m) s.M) (fun k=>k .undef s.M)
    (fun v M'=>J8 I P ops T0 ri k ri.rows { vals:=s.vals.set x v,M:=M',aX:=s.aX } (nQ I P ops T0 ri (k+1) rest { vals:=s.vals.set x v,M:=M',aX:=s.aX } K))
theorem Ej{I:oh}(hNi:qO P I)(ht:mD P nt ops ri){K:lC→Prop}{es:List Nat}(hf:Fr s.M)(hbd:∀ j b,s.aX.get j=some (some b)→b<s.M.next)(h:nQ I P ops T0 ri k es s K) :
  ∃ s1,Uf I P ops T0 ri k s1 K es∧abg P ops T0 ri k 0 s s1:=by
 cases es with
 |nil =>
  rw[nQ]at h
  exact Ct hNi ht ri.rows 0 s rfl hf hbd h
 |cons x rest =>
  rw[nQ]at h
  obtain⟨s1,hk,hp⟩:=Ct hNi ht ri.rows 0 s rfl hf hbd h
  refine⟨s1, ?_,hp⟩
  split at hk
  ·cases hk
  ·rename_i r hr
   exact⟨r,hr,hk⟩
def Chk(P:Program)(ops:Array Oper)(T0:Tree AV)(ri:RI)(k:Nat)(s:lC):Prop:=∀ r∈ri.rows,mg r.kd=false→kV ri.ms ri.es k r=true→tC P ops T0 ri.wr s r
theorem HY{acc:List Nat}:∀ (es:List Edge)(e:Edge),e∈es→Region.binds .any e=true→Nat.testBit (mO acc es) e.on=true∧∀ j,Nat.testBit ((nth acc e.on).getD 0) j=true→Nat.testBit (mO acc es) j=true
 |[],e,h,_=>by cases h
 |x::es,e,h,hb=>by
  simp only[mO]
  rcases List.mem_cons.1 h with rfl|h
  ·rw[hb]
   simp only
   refine⟨?_,fun j hj=>?_⟩
   ·rw[Nat.testBit_or,Nat.testBit_or,Nat.testBit_two_pow];simp
   ·rw[Nat.testBit_or,Nat.testBit_or,hj];simp
  ·obtain⟨h1,h2⟩:=HY (acc:=acc) es e h hb
   split
   ·refine⟨?_,fun j hj=>?_⟩
    ·rw[Nat.testBit_or,h1];simp
    ·rw[Nat.testBit_or,h2 j hj];simp
   ·exact⟨h1,h2⟩
theorem Sg(ht:mD P nt ops ri){q:Nat}{r:Row}(hq:ri.rows[q]?=some r):∃ pre,(∀ i,i<q→nth pre i=ri.ms[i]?)∧r.m=mO pre r.o.after.toList:=by
 obtain⟨g1,g2,g3,g4,g5⟩:=ht.row hq
 obtain⟨pre,h1,h2,h3⟩:=(AX ops.toList []).2 q r.o g2
 simp only[List.length_nil,Nat.zero_add]at h1 h2 h3
 refine⟨pre,fun i hi=>by rw[cB,h2 i hi,← ht.ms], ?_⟩
 rw[← ht.ms,g3]at h3
 exact Option.some.inj h3
theorem Oz(ht:mD P nt ops ri){q:Nat}{r:Row}(hq:ri.rows[q]?=some r){e:Edge}(he:e∈r.o.after.toList)(hb:Region.binds .any e=true):Nat.testBit r.m e.on=true:=by
 obtain⟨pre,_,h2⟩:=Sg ht hq
 rw[h2];exact(HY _ e he hb).1
theorem Zk(ht:mD P nt ops ri):∀ (q:Nat){i:Nat}{r:Row}{o:Oper},ri.rows[q]?=some r→Nat.testBit r.m i=true→ops.toList[i]?=some o→∀ {e:Edge},e∈o.after.toList→Region.binds .any e=true→Nat.testBit r.m e.on=true:=by
 intro q
 induction q using Nat.strongRecOn with
 |_ q ih =>
  intro i r o hq hi ho e he hb
  obtain⟨g1,g2,g3,g4,g5⟩:=ht.row hq
  obtain⟨pre,h1,h2⟩:=Sg ht hq
  have hi':=hi
  rw[h2]at hi'
  obtain⟨e0,he0,hb0,hcase⟩:=zN _ hi'
  have hlt:=ht.Aa q r.o g2 e0 he0 hb0
  obtain⟨r0,hr0,_⟩:=ht.ex (j:=e0.on) (o:=ops.toList[e0.on]'(by have:=(List.getElem?_eq_some_iff.1 g2).1;omega)) (by simp)
  obtain⟨k1,k2,k3,k4,k5⟩:=ht.row hr0
  have hsub:∀ j,Nat.testBit r0.m j=true→Nat.testBit r.m j=true:=by
   intro j hj
   rw[h2]
   refine(HY _ e0 he0 hb0).2 j ?_
   rw[h1 e0.on hlt,k3];exact hj
  rcases hcase with rfl|⟨m,hm,hmi⟩
  ·rw[k2]at ho;cases ho
   exact hsub _ (Oz ht hr0 he hb)
  ·rw[← cB,h1 e0.on hlt,k3]at hm
   cases hm
   exact hsub _ (ih e0.on hlt hr0 hmi ho he hb)
theorem Gm{m m' : Nat}(h:∀ x,Nat.testBit m x=true→Nat.testBit m' x=true):∀ (es:List Nat)(i0 b b' : Nat),b≤b'→b'≤i0→kZ m es i0 b≤kZ m' es i0 b'
 |[],i0,b,b',hb,_=>by simpa [kZ]using hb
 |x::es,i0,b,b',hb,hi=>by
  simp only[kZ]
  cases hm:Nat.testBit m x with
  |true =>
   rw[h x hm]
   exact Gm h es (i0+1) _ _ (Nat.le_refl _) (Nat.le_refl _)
  |false =>
   cases hm' : Nat.testBit m' x with
   |true=>exact Gm h es (i0+1) b (i0+1) (by omega) (Nat.le_refl _)
   |false=>exact Gm h es (i0+1) b b' hb (by omega)
theorem ajc(ht:mD P nt ops ri){listed:Array Bool}(hsz:listed.size=ops.size)(hI:Ka P nt ops ri T0 M0 ρ0 w0 k done rest s (iB listed) ρ a w){i:Nat}{r:Row}(hi:i<ops.size)(hr:ri.rows[i]?=some r)
  (hd:∀ e∈r.o.after.toList,Region.binds .any e=true→iB listed e.on) (hk:mg r.kd=false) (vJ:r.lev≤k) {v:AV} {v' : Value} {ρ' : Ren} {w' : World} (hvi:s.vals.get i=some v) (hv:ai ρ' v v') (hle:ρ.le ρ')
  (hw:bu P ρ' s.M w') (hst:Step M0.lo M0.next ρ w ρ' w') (aAr:∀ j b,s.aX.get j=some (some b)→¬ iB (listed.setIfInBounds i true) j→ρ' b=none) :
  Ka P nt ops ri T0 M0 ρ0 w0 k done rest s (iB (listed.setIfInBounds i true)) ρ' (a.put r.o.dst v') w':=by
 have hS:∀ j,iB (listed.setIfInBounds i true) j↔iB listed j∨j=i:=LA (by omega)
 obtain⟨e1,e2,_⟩:=ht.row hr
 refine⟨hI.es,hI.len, ?_,fun x hx=>(hS x).2 (.inl (hI.dn x hx)), ?_, ?_, ?_, ?_, ?_,hw,hI.step.trans hst (Nat.le_refl _),hI.base,hI.next,fun j b hb=>⟨(hI.bid j b hb).1,(hI.bid j b hb).2.1,aAr j b hb,(hI.bid j b hb).2.2.2⟩,hI.zM⟩
 ·intro j o ho hj e he hb
  rcases(hS j).1 hj with hj|rfl
  ·exact(hS _).2 (.inl (hI.closed j o ho hj e he hb))
  ·rw[e2]at ho;cases ho
   exact(hS _).2 (.inl (hd e he hb))
 ·intro x hx hl
  rcases(hS x).1 hl with hl|rfl
  ·exact hI.rs x hx hl
  ·have:x∈ri.es:=by rw[hI.es];exact List.mem_append_right _ hx
   rw[ht.nS hr,hk]at this
   cases this
 ·intro j r' hr' hk' hj
  rcases(hS j).1 hj with hj|rfl
  ·exact hI.lev j r' hr' hk' hj
  ·rw[hr]at hr';cases hr';exact vJ
 ·cases hdst:r.o.dst<;>simp[Act.put,hI.size]
 ·cases hdst:r.o.dst<;>simp[Act.put,hI.defers]
 ·exact XB ht (fun t=>⟨fun j h1 h2=>((hI.slot t).1 j h1 h2).mono hle,fun h=>((hI.slot t).2 h).mono hle⟩) hI.size hr hv hvi hS
theorem ajg{I:oh}(hNi:qO P I)(ht:mD P nt ops ri){listed:Array Bool}(hsz:listed.size=ops.size){i:Nat}{rest' : List Nat}(hI:Ka P nt ops ri T0 M0 ρ0 w0 k done (i::rest') s (iB listed) ρ a w)(QH:Chk P ops T0 ri k s){r:Row}(hi:i<ops.size)(hr:ri.rows[i]?=some r)
  (hd:∀ e∈r.o.after.toList,Region.binds .any e=true→iB listed e.on) (hnd:i∉rest') {v:AV} {v' : Value} {ρ' : Ren} {w' : World} {M' : RM} (hv:ai ρ' v v') {K:lC→Prop}
  (haft:After P s.M ρ w M' ρ' w') (hre:J8 I P ops T0 ri k ri.rows { vals:=s.vals.set i v,M:=M',aX:=s.aX } (nQ I P ops T0 ri (k+1) rest' { vals:=s.vals.set i v,M:=M',aX:=s.aX } K)) :
  ∃ s3,Ka P nt ops ri T0 M0 ρ0 w0 (k+1) (done++[i]) rest' s3 (iB (listed.setIfInBounds i true)) ρ' (a.put r.o.dst v') w'∧Chk P ops T0 ri (k+1) s3∧Uf I P ops T0 ri (k+1) s3 K rest':=by
 have hS:∀ j,iB (listed.setIfInBounds i true) j↔iB listed j∨j=i:=LA (by omega)
 obtain⟨e1,e2,e3,e4,e5⟩:=ht.row hr
 have hmem:i∈ri.es:=by rw[hI.es];simp
 have hke:=(ht.nS hr).1 hmem
 have hle:=haft.le hI.GH
 -- an alive row that was done does not look at the effect
 have aBi:ri.es[k]?=some i:=by
  rw[hI.es,List.getElem?_append_right (by rw[hI.len];omega),hI.len];simp
 have q8:∀ r'∈ri.rows,r'.lev≤k→Nat.testBit r'.m i=true→False:=by
  intro r' hr' hl hb
  obtain⟨q,hq⟩:=List.mem_iff_getElem?.1 hr'
  obtain⟨g1,g2,g3,g4,g5⟩:=ht.row hq
  have key:∀ (es:List Nat)(i0 lY k:Nat),es[k]?=some i→i0+k+1≤kZ r'.m es i0 lY:=by
   intro es
   induction es with
   |nil=>intro i0 lY k h;simp at h
   |cons x es ih =>
    intro i0 lY k h
    simp only[kZ]
    cases k with
    |zero =>
     simp at h;subst h
     rw[hb]
     simp only
     have mono:∀ (es:List Nat)(j lY:Nat),lY≤j→lY≤kZ r'.m es j lY:=by
      intro es
      induction es with
      |nil=>intro j lY _;exact Nat.le_refl _
      |cons y es ih2 =>
       intro j lY hbj
       simp only[kZ]
       split
       ·exact Nat.le_trans (by omega) (ih2 (j+1) (j+1) (Nat.le_refl _))
       ·exact ih2 (j+1) lY (by omega)
     exact mono es (i0+1) (i0+1) (Nat.le_refl _)
    |succ k =>
     split
     ·have:=ih (i0+1) (i0+1) k (by simpa using h);omega
     ·have:=ih (i0+1) lY k (by simpa using h);omega
  have:=key ri.es 0 0 k aBi
  rw[← g4]at this
  omega
 obtain⟨am4,hrows⟩:=Nc hNi (s0:=s) ri.rows hre fun r' hr' f1 f2 f3=>by
  refine⟨QH r' hr' f1 ?_,fun j hj=>?_,rfl⟩
  ·unfold kV at f3 ⊢
   rw[Bool.and_eq_true]at f3 ⊢
   refine⟨aU.2 f2, ?_⟩
   have f4:=f3.2
   rw[List.all_eq_true]at f4 ⊢
   intro x hx
   refine f4 x ?_
   have:=List.take_subset_take_left ri.es (Nat.le_succ k)
   exact this hx
  ·simp only[Tree.bn]
   rw[if_neg]
   rintro rfl
   rcases hj with hj|hj
   ·exact q8 r' hr' f2 hj
   ·obtain⟨q,hq⟩:=List.mem_iff_getElem?.1 hr'
    obtain⟨g1,_⟩:=ht.row hq
    have:q=j:=by omega
    subst this
    rw[hr]at hq;cases hq
    rw[f1]at hke;cases hke
 obtain⟨s3,hcont,hp⟩:=Ej hNi (s := { vals:=s.vals.set i v,M:=M',aX:=s.aX }) ht (haft.rel.fr) (fun j b hb=>Nat.lt_of_lt_of_le (hI.bid j b hb).2.1 haft.next) am4
 have hkeep:∀ j,iB listed j∨j=i→s3.vals.get j=(s.vals.set i v).get j:=by
  intro j hj
  refine(hp.keep j fun r' hr' _=>?_).1
  rintro⟨hl,hk'⟩
  rcases hj with hj|rfl
  ·have:=hI.lev j r' hr' hk' hj;omega
  ·rw[hr]at hr';cases hr';rw[hke]at hk';cases hk'
 have hvi:s3.vals.get i=some v:=by rw[hkeep i (.inr rfl),Tree.bn,if_pos rfl]
 refine⟨s3,⟨by rw[hI.es];simp,by simp[hI.len], ?_, ?_, ?_, ?_, ?_, ?_, ?_,hp.rel _ _ haft.rel,hI.step.trans (haft.step.aae hI.base) hI.next, ?_, ?_, ?_, ?_⟩, ?_,hcont⟩
 ·intro j o ho hj e he hb
  rcases(hS j).1 hj with hj|rfl
  ·exact(hS _).2 (.inl (hI.closed j o ho hj e he hb))
  ·rw[e2]at ho;cases ho
   exact(hS _).2 (.inl (hd e he hb))
 ·intro x hx
  rcases List.mem_append.1 hx with hx|hx
  ·exact(hS x).2 (.inl (hI.dn x hx))
  ·simp at hx;subst hx;exact(hS x).2 (.inr rfl)
 ·intro x hx hl
  rcases(hS x).1 hl with hl|rfl
  ·exact hI.rs x (.tail _ hx) hl
  ·exact hnd hx
 ·intro j r' hr' hk' hj
  rcases(hS j).1 hj with hj|rfl
  ·have:=hI.lev j r' hr' hk' hj;omega
  ·rw[hr]at hr';cases hr';rw[hke]at hk';cases hk'
 ·cases hdst:r.o.dst<;>simp[Act.put,hI.size]
 ·cases hdst:r.o.dst<;>simp[Act.put,hI.defers]
 ·refine XB ht (v:=v) (S:=iB listed) (fun t=>⟨fun j h1 h2=>?_,fun h=>((hI.slot t).2 h).mono hle⟩) hI.size hr hv hvi hS
  rw[hkeep j (.inl h2),Tree.bn]
  split
  ·rename_i e
   subst e
   exact absurd h2 (hI.rs j (.head _))
  ·exact((hI.slot t).1 j h1 h2).mono hle
 ·rw[hp.sub.1,← hI.base];exact haft.base
 ·exact Nat.le_trans hI.next (Nat.le_trans haft.next hp.next)
 ·intro j b hb
  rcases hp.aX j b hb with h|⟨h,h',_,r',hr'⟩
  ·obtain⟨b1,b2,b3,b4⟩:=hI.bid j b h
   refine⟨b1,Nat.lt_of_lt_of_le b2 (Nat.le_trans haft.next hp.next),fun hj=>?_,b4⟩
   rw[haft.step.ext b b2]
   exact b3 fun hl=>hj ((hS j).2 (.inl hl))
  ·refine⟨Nat.le_trans hI.next (Nat.le_trans haft.next h),h',fun _=>haft.rel.fresh h, ?_⟩
   obtain⟨g1,g2,_⟩:=ht.row hr'
   have:=(List.getElem?_eq_some_iff.1 g2).1
   rw[Array.length_toList]at this
   exact this
 ·intro j1 j2 b h1 h2
  rcases Nat.lt_or_ge b M'.next with hlt|hge
  ·have q:∀ j,s3.aX.get j=some (some b)→s.aX.get j=some (some b):=by
    intro j hj
    rcases hp.aX j b hj with k|⟨k1,_⟩
    ·exact k
    ·simp only at k1;omega
   exact hI.zM j1 j2 b (q j1 h1) (q j2 h2)
  ·exact hp.zM j1 j2 b h1 h2 hge
 ·intro r' hr' f1 f3
  obtain⟨q,hq⟩:=List.mem_iff_getElem?.1 hr'
  obtain⟨g1,g2,g3,g4,g5⟩:=ht.row hq
  have f3':=f3
  unfold kV at f3'
  rw[Bool.and_eq_true]at f3'
  have hl:=bf f3'.1
  by_cases he:r'.lev=k+1
  ·exact hp.done q r' hq (Nat.zero_le _) he f1
  ·have hl' : r'.lev≤k:=by omega
   refine(hrows r' hr' f1 hl' f3).keep (fun j hj=>?_) ?_ hp.sub
   ·refine(hp.keep j fun r2 hr2 _=>?_).1
    rintro⟨h1,h2⟩
    rcases hj with hj|hj
    ·
     have hjm:r2.lev≤r'.lev:=by
      obtain⟨q1,q2,q3,q4,q5⟩:=ht.row hr2
      have sub:∀ x,Nat.testBit r2.m x=true→Nat.testBit r'.m x=true:=by
       intro x hx
       have hcl:Closed ops.toList (fun i=>Nat.testBit r'.m i=true∨i=q):=by
        intro i o ho hi e he' hb'
        rcases hi with hi|rfl
        ·exact .inl (Zk ht _ hq hi ho he' hb')
        ·rw[g2]at ho;cases ho
         exact .inl (Oz ht hq he' hb')
       rcases ht.Qb hcl (.inl hj) q2 (by rw[q3];exact hx)with h|h
       ·exact h
       ·subst h
        exfalso
        have hlt:j<x:=by
         have hc:Closed ops.toList (fun i=>i<x):=fun i o ho hi e he' hb'=>by have:=ht.Aa i o ho e he' hb';omega
         exact ht.ahead hc hq (fun e he' hb'=>ht.Aa x r'.o g2 e he' hb') hj
        have hlt2:x<j:=by
         have hc:Closed ops.toList (fun i=>i<j):=fun i o ho hi e he' hb'=>by have:=ht.Aa i o ho e he' hb';omega
         exact ht.ahead hc hr2 (fun e he' hb'=>ht.Aa j r2.o q2 e he' hb') hx
        omega
      rw[q4,g4]
      exact Gm sub ri.es 0 0 0 (Nat.le_refl _) (Nat.le_refl _)
     omega
    ·have:q=j:=by omega
     subst this
     rw[hq]at hr2;cases hr2;omega
   ·refine(hp.keep r'.i fun r2 hr2 _=>?_).2
    rw[g1,hq]at hr2;cases hr2
    rintro⟨h1,_⟩;omega
theorem RA{I:oh}(hNi:qO P I)(hP:POk P)(ht:mD P nt ops ri)(Jz:∀ r∈ri.rows,Fq ri r=true){Q:Exit→Act→World→Prop}{K:lC→Prop}
  (hQ:∀ s ρ' a' w',K s→Step M0.lo M0.next ρ0 w0 ρ' w'→fo ρ' nt (Ey T0 s.vals ri.rows) a'→bu P ρ' s.M w'→s.M.base=M0.base→M0.next≤s.M.next→Q .normal a' w') :
  ∀ (fuel:Nat)(listed:Array Bool)(k:Nat)(done rest:List Nat)(s:lC)(ρ:Ren)(a:Act)(w:World),listed.size=ops.size→listed.toList.count false≤fuel →
    Ka P nt ops ri T0 M0 ρ0 w0 k done rest s (iB listed) ρ a w→Chk P ops T0 ri k s→Uf I P ops T0 ri k s K rest→wpAny P .any ops Q fuel listed a w:=by
 have fin:∀ (listed:Array Bool)(k:Nat)(done rest:List Nat)(s:lC)(ρ:Ren)(a:Act)(w:World),listed.size=ops.size→(∀ i,i<ops.size→iB listed i) →
   Ka P nt ops ri T0 M0 ρ0 w0 k done rest s (iB listed) ρ a w→Uf I P ops T0 ri k s K rest→Q .normal a w:=by
  intro listed k done rest s ρ a w hsz hall hI hcont
  have hrest:rest=[]:=by
   cases rest with
   |nil=>rfl
   |cons x rest =>
    have hx:x∈ri.es:=by rw[hI.es];simp
    rw[ht.es,zT]at hx
    obtain⟨j,o,hj,rfl,_⟩:=hx
    have:=(List.getElem?_eq_some_iff.1 hj).1
    exact absurd (hall (0+j) (by simpa using this)) (hI.rs _ (.head _))
  subst hrest
  have hcont:K s:=hcont
  refine hQ s ρ a w hcont hI.step ⟨hI.size,fun t=>?_,hI.defers⟩ hI.GH hI.base hI.next
  obtain⟨g1,g2⟩:=hI.slot t
  refine NJ t _ ri.rows T0 (fun r hr hd=>?_) ?_
  ·obtain⟨q,hq⟩:=List.mem_iff_getElem?.1 hr
   obtain⟨e1,e2,_⟩:=ht.row hq
   have hql:=(List.getElem?_eq_some_iff.1 e2).1
   have:=g1 r.i (ht.dst q r hq t hd).1 (by rw[e1];exact hall q (by simpa using hql))
   exact this
  ·by_cases hex:∃ j,ri.wr.get t=some j
   ·obtain⟨j,hj⟩:=hex
    obtain⟨o,ho,hdo⟩:=ht.wrs t j hj
    obtain⟨r,hr,rfl⟩:=ht.ex ho
    exact .inl ⟨r,List.mem_of_getElem? hr,hdo⟩
   ·exact .inr (g2 fun j hj=>absurd ⟨j,hj⟩ hex)
 intro fuel
 induction fuel with
 |zero =>
  intro listed k done rest s ρ a w hsz hcnt hI QH hcont
  have hall:∀ i,i<ops.size→iB listed i:=fun i hi=>abd (by omega) (by omega)
  refine⟨?_,fin listed k done rest s ρ a w hsz hall hI hcont⟩
  rw[List.eq_nil_iff_forall_not_mem]
  intro i hi
  obtain⟨h1,h2,_⟩:=Rv hsz hi
  exact h2 (hall i h1)
 |succ fuel ih =>
  intro listed k done rest s ρ a w hsz hcnt hI QH hcont
  refine⟨fun hr=>fin listed k done rest s ρ a w hsz (Tt ht hsz hr) hI hcont,fun i hi=>?_⟩
  obtain⟨hilt,hnl,o,ho,hd⟩:=Rv hsz hi
  obtain⟨r,hr,rfl⟩:=ht.ex (j:=i) (o:=o) (by rw[Array.getElem?_toList];exact ho)
  obtain⟨e1,e2,e3,e4,e5⟩:=ht.row hr
  have hrm:=List.mem_of_getElem? hr
  have he:=aet ht hI hr hnl hd (Jz r hrm)
  unfold wpOp
  simp only[ho]
  cases hk:mg r.kd with
  |false =>
   have hall:kV ri.ms ri.es k r=true:=by
    unfold kV
    rw[Bool.and_eq_true,List.all_eq_true]
    constructor
    ·rw[aU,e4]
     rcases Gh (m:=r.m) ri.es 0 0 with h|⟨q,x,a1,a2,a3⟩
     ·omega
     ·have hx:=ht.ahead hI.closed hr hd a2
      rw[a3]
      rcases Nat.lt_or_ge q k with h|h
      ·omega
      ·rw[hI.es,List.getElem?_append_right (by rw[hI.len];exact h)]at a1
       exact absurd hx (hI.rs x (List.mem_of_getElem? a1))
    ·intro x hx
     rw[hI.es,List.take_left' hI.len]at hx
     rw[Bool.not_eq_true',← Bool.not_eq_true,e1,cB]
     intro hb
     have hxe:x∈ri.es:=by rw[hI.es];exact List.mem_append_left _ hx
     rw[ht.es,zT]at hxe
     obtain⟨j,o',hj,hxj,_⟩:=hxe
     rw[Nat.zero_add]at hxj;subst hxj
     exact hnl (ht.Qb hI.closed (hI.dn x hx) hj hb)
   have vJ:r.lev≤k:=by
    unfold kV at hall
    rw[Bool.and_eq_true]at hall
    exact bf hall.1
   have hok:=QH r hrm hk hall
   have hnb:∀ j b,s.aX.get j=some (some b)→¬ iB (listed.setIfInBounds i true) j→ρ b=none:=fun j b hb hj =>
    (hI.bid j b hb).2.2.1 fun hl=>hj ((LA (by omega) j).2 (.inl hl))
   have next:∀ {v:AV}{v' : Value}{ρ' : Ren}{w' : World},s.vals.get i=some v→ai ρ' v v'→ρ.le ρ'→bu P ρ' s.M w'→Step M0.lo M0.next ρ w ρ' w' →
     (∀ j b,s.aX.get j=some (some b)→¬ iB (listed.setIfInBounds i true) j→ρ' b=none)→wpAny P .any ops Q fuel (listed.setIfInBounds i true) (a.put r.o.dst v') w':=by
    intro v v' ρ' w' hvi hv hle hw hst hb
    exact ih _ k done rest s ρ' _ w' (by simpa using hsz) (count_set (by omega) hnl hcnt) (ajc ht hsz hI hilt hr hd hk vJ hvi hv hle hw hst hb) QH hcont
   have akk:ρ.le ρ:=fun _ _ h=>h
   obtain⟨g,hg,hcase⟩:=hok
   obtain⟨gon,age⟩:=PO ht hI hr hd hg
   rw[e1]at hcase
   rcases hcase with⟨hon,v,hvi,hkd⟩|⟨hoff,hvi⟩
   ·rw[gon hon]
    simp only[if_true]
    refine .inl ?_
    have val:gH P r.o (jI T0 ri.wr s.vals r.m) s.M v→r.o.wp P a w (wpAny P .any ops Q fuel (listed.setIfInBounds i true)) Q:=by
     intro hgv
     obtain⟨v',h1,h2⟩:=hgv ρ w a.eval s.M (RM.Sub.refl _) hI.GH he
     exact NU r.o h1 (next hvi h2 akk hI.GH (Step.refl _ _ _) hnb)
    cases hkk:r.kd with
    |pure=>rw[hkk]at hkd;exact val (hkd _)
    |read=>rw[hkk]at hkd;exact val hkd
    |nS=>rw[hkk]at hkd;exact hkd.elim
    |alloc =>
     rw[hkk]at hkd
     obtain⟨x,mk,b,⟨y,hx,hle⟩,hbi,hy,hmk⟩:=hkd
     obtain⟨d,ob,u,inf,hrun,hinf,hrel,av6⟩:=IU he hx w
     obtain⟨b1,b2,b3,b4⟩:=hI.bid i b hbi
     have hbn:=b3 hnl
     have hd' : bu P ρ s.M (if d=true then w.drew else w):=by cases d<;>simp[hI.GH,hI.GH.drew]
     have hsz' : (if d=true then w.drew else w).heap.size=w.heap.size:=by cases d<;>simp
     have hst' : Step M0.lo M0.next ρ w ρ (if d=true then w.drew else w):=by cases d<;>simp[Step.refl,Step.drew]
     obtain⟨h1,h2⟩:=aeI hd' (by omega) hbn b2 hy hle hrel
     replace h2:=h2.aae hI.base
     refine NU r.o hrun (next hvi (hmk▸av6 _ b (by simp[Ren.add])) (Ren.yR hbn) h1 (hst'.trans h2 b1) fun j b' hb' hj=>?_)
     have hne:b'≠b:=by
      intro e
      subst e
      have hji:j≠i:=fun e=>hj ((LA (by omega) j).2 (.inr e))
      exact hji (hI.zM j i b' hb' hbi)
     unfold Ren.add
     rw[if_neg hne]
     exact hnb j b' hb' hj
   ·rw[age hoff]
    simp only[Bool.false_eq_true,if_false]
    exact next hvi (.tup _ _ .nil) akk hI.GH (Step.refl _ _ _) hnb
  |true =>
   have hie:i∈ri.es:=(ht.nS hr).2 hk
   rw[hI.es]at hie
   have hir:i∈rest:=by
    rcases List.mem_append.1 hie with h|h
    ·exact absurd (hI.dn i h) hnl
    ·exact h
   cases rest with
   |nil=>cases hir
   |cons x rest' =>
    have hxi:x=i:=by
     rcases List.mem_cons.1 hir with e|hm
     ·exact e.symm
     ·obtain⟨l1,l2,hl⟩:=List.append_of_mem hm
      have:=ht.chain (done++x::l1) i l2 (by rw[hI.es,hl];simp) x (by simp)
      rw[e3]at this
      exact absurd (ht.ahead hI.closed hr hd this) (hI.rs x (.head _))
    subst hxi
    have hnd:x∉rest':=by
     intro hm
     obtain⟨l1,l2,hl⟩:=List.append_of_mem hm
     have:=ht.chain (done++x::l1) x l2 (by rw[hI.es,hl];simp) x (by simp)
     rw[e3]at this
     exact hnl (ht.ahead hI.closed hr hd this)
    obtain⟨r',hr',hgs⟩:=hcont
    rw[cB,hr]at hr';cases hr'
    obtain⟨g,hg,hcase⟩:=uA hgs
    obtain⟨gon,age⟩:=PO ht hI hr hd hg
    have next:∀ {v:AV}{v' : Value}{ρ' : Ren}{w' : World}{M' : RM},ai ρ' v v'→After P s.M ρ w M' ρ' w' →
      J8 I P ops T0 ri k ri.rows { vals:=s.vals.set x v,M:=M',aX:=s.aX } (nQ I P ops T0 ri (k+1) rest' { vals:=s.vals.set x v,M:=M',aX:=s.aX } K) →
      wpAny P .any ops Q fuel (listed.setIfInBounds x true) (a.put r.o.dst v') w':=by
     intro v v' ρ' w' M' hv haft hre
     obtain⟨s3,h1,h2,h3⟩:=ajg hNi ht hsz hI QH hilt hr hd hnd hv haft hre
     exact ih _ (k+1) _ rest' s3 ρ' _ w' (by simpa using hsz) (count_set (by omega) hnl hcnt) h1 h2 h3
    rcases hcase with⟨hon,hn⟩|⟨hoff,hn⟩
    ·rw[gon hon]
     simp only[if_true]
     exact .inl (Qi (hNi.E (fun _=>rfl) hn) hI.GH he fun v v' M' ρ' w' haft hv hk=>next hv haft hk)
    ·rw[age hoff]
     simp only[Bool.false_eq_true,if_false]
     exact next (.tup _ _ .nil) (After.refl hI.GH) hn
theorem IJ{vals:Tree AV}{t:Nat}:∀ (rows:List Row)(T:Tree AV),(∀ r∈rows,r.o.dst≠some t)→(Ey T vals rows).get t=T.get t
 |[],T,_=>rfl
 |r::rows,T,h=>by
  simp only[Ey]
  cases hd:r.o.dst with
  |none=>exact IJ rows T fun r' hr'=>h r' (.tail _ hr')
  |some d =>
   simp only
   rw[IJ rows _ fun r' hr'=>h r' (.tail _ hr'),Tree.bn,if_neg]
   intro e;subst e
   exact h r (.head _) hd
theorem YR{I:oh}(hNi:qO P I)(hP:POk P){id:Nat}{T:Tree AV}{M:RM}{K:Tree AV→RM→Prop}{Q:Exit→Act→World→Prop}(hM:After P M0 ρ0 w0 M ρ w)(hA:fo ρ nt T a)
  (hQ:∀ T' M' ρ' a' w',After P M0 ρ0 w0 M' ρ' w'→fo ρ' nt T' a'→K T' M'→(∀ t,(∀ o∈ops.toList,o.dst≠some t)→T'.get t=T.get t)→Q .normal a' w') (h:wP I P nt ops T M K):(Code.region id ops true).wp P Q a w:=by
 unfold wP at h
 split at h <;>try(cases h;done)
 rename_i ri hri
 split at h <;>try(cases h;done)
 rename_i Jz
 have ht:=vH hri
 obtain⟨s1,h1,hp⟩:=Ej hNi ht hM.rel.fr (fun j b hb=>by simp[Tree.get]at hb) h
 have hno:∀ i,¬ iB (Array.replicate ops.size false) i:=by
  intro i h
  unfold iB at h
  simp only[Array.getD_eq_getD_getElem?,Array.getElem?_replicate]at h
  split at h<;>simp at h
 refine wp_region_any hP.mixed (RA hNi (M0:=M0) (ρ0:=ρ0) (w0:=w0) (T0:=T) hP ht (fun r hr=>List.all_eq_true.1 Jz r hr) (fun s ρ' a' w' k0 k1 k2 k3 k4 k5=>hQ _ _ ρ' a' w' ⟨k1,k3,k4,k5⟩ k2 k0 (fun t hnt=>IJ ri.rows T fun r hr=>by
   obtain⟨q,hq⟩:=List.mem_iff_getElem?.1 hr
   exact hnt r.o (List.mem_of_getElem? (ht.row hq).2.1))) ops.size _ 0 [] ri.es s1 ρ a _ (by simp) (by simp) ?_ ?_ h1)
 ·refine⟨rfl,rfl,fun i o _ hi=>absurd hi (hno i),(fun x hx=>by cases hx),fun x _=>hno x,fun j r _ _ hj=>absurd hj (hno j),hA.size,hA.defers,fun t=>⟨fun j _ hj=>absurd hj (hno j),fun _=>hA.val t⟩,hp.rel _ _ hM.rel.drew,hM.step.trans (Step.drew (n:=M0.next)) (Nat.le_refl _),by rw[hp.sub.1];exact hM.base,Nat.le_trans hM.next hp.next,fun j b hb'=>?_,fun j1 j2 b b1 b2=>?_⟩
  ·rcases hp.aX j b hb' with h|⟨h,h',_,r,hr⟩
   ·simp[Tree.get]at h
   ·refine⟨Nat.le_trans hM.next h,h',fun _=>hM.rel.fresh h, ?_⟩
    obtain⟨g1,g2,_⟩:=ht.row hr
    have:=(List.getElem?_eq_some_iff.1 g2).1
    rw[Array.length_toList]at this
    exact this
  ·rcases hp.aX j1 b b1 with h|⟨h,_⟩
   ·simp[Tree.get]at h
   ·exact hp.zM j1 j2 b b1 b2 h
 ·intro r hr hk hal
  obtain⟨q,hq⟩:=List.mem_iff_getElem?.1 hr
  unfold kV at hal
  rw[Bool.and_eq_true]at hal
  exact hp.done q r hq (Nat.zero_le _) (by have:=bf hal.1;omega) hk
end
set_option maxRecDepth 10000
def posOf(p:List Nat)(x:Nat):Nat:=p.idxOf x
def Bn(p:List Nat)(x y k:Nat)(o:Oper):Oper :=
 { o with after:=(o.after.toList.map (fun e:Edge=>({ e with on:=posOf p e.on }:Edge))++(if k=y then[(⟨posOf p x,.data⟩ : Edge)]else[])).toArray,guard:=o.guard.map fun g=>(posOf p g.1,g.2) }
def jT(p:List Nat)(x y:Nat)(ops:Array Oper):Array Oper:=(p.map fun k=>Bn p x y k ((ops[k]?).getD default)).toArray
def O1(p:List Nat)(n:Nat):Bool :=
 Nat.beq p.length n&&((List.range n).all (fun i=>p.contains i)&&(List.range n).all (fun k=>match p[k]? with|some i=>Nat.beq (posOf p i) k&&Nat.ble (i+1) n|none=>false))
def Xp(ms:List Nat):List Nat→Option (Nat×Nat)
 |x::y::es=>match Nat.testBit ((nth ms y).getD 0) x with
  |true=>Xp ms (y::es)
  |false=>some (x,y)
 |_=>none
def front(m y n:Nat):List Nat:=((List.range n).filter fun i=>Nat.testBit m i||Nat.beq i y)++((List.range n).filter fun i=>!(Nat.testBit m i||Nat.beq i y))
def asU(P:Program)(ops:Array Oper):Option (Nat×Nat×List Nat) :=
 match Xp (ja ops.toList []) (xX P ops.toList 0)with
 |none=>none
 |some (x,y)=>some (x,y,front ((nth (ja ops.toList []) y).getD 0) y ops.size)
structure Perm(p:List Nat)(n:Nat):Prop where
 len:p.length=n
 mem:∀ i,i<n→i∈p
 back:∀ k,k<n→∃ i,p[k]?=some i∧posOf p i=k∧i<n
theorem Mj{p:List Nat}{n:Nat}(h:O1 p n=true):Perm p n:=by
 unfold O1 at h
 simp only[Bool.and_eq_true,List.all_eq_true,List.mem_range,List.contains_iff_mem]at h
 refine⟨Nat.eq_of_beq_eq_true h.1,h.2.1,fun k hk=>?_⟩
 have:=h.2.2 k hk
 split at this
 ·rename_i i hi
  rw[Bool.and_eq_true]at this
  exact⟨i,hi,Nat.eq_of_beq_eq_true this.1,by have:=bf this.2;omega⟩
 ·cases this
section
variable {p:List Nat} {n:Nat}
theorem Perm.lt(h:Perm p n){i:Nat}(hi:i<n):posOf p i<n:=by
 have:=List.idxOf_lt_length_of_mem (h.mem i hi)
 unfold posOf;rw[h.len]at this;exact this
theorem Perm.get(h:Perm p n){i:Nat}(hi:i<n):p[posOf p i]?=some i:=by
 have hl:=List.idxOf_lt_length_of_mem (h.mem i hi)
 unfold posOf
 rw[List.getElem?_eq_getElem hl,List.getElem_idxOf hl]
theorem Perm.out(h:Perm p n){i:Nat}(hi:n≤i):posOf p i=n:=by
 have:i∉p:=fun hm=>by
  obtain⟨k,hk,e⟩:=List.getElem_of_mem hm
  obtain⟨j,h1,_,h3⟩:=h.back k (by rw[← h.len];exact hk)
  rw[List.getElem?_eq_getElem hk,e]at h1
  cases h1
  omega
 unfold posOf
 rw[List.idxOf_eq_length this,h.len]
theorem Perm.inj(h:Perm p n){i j:Nat}(hi:i<n)(e:posOf p i=posOf p j):i=j:=by
 rcases Nat.lt_or_ge j n with hj|hj
 ·have h1:=h.get hi
  rw[e,h.get hj]at h1
  exact(Option.some.inj h1).symm
 ·have:=h.lt hi
  rw[e,h.out hj]at this
  omega
end
def Az(ops:Array Oper):Nat→Array Bool→List Nat→Prop
 |0,_,l=>l=[]
 |fuel+1,listed,l=>(Region.ready .any ops listed=[]∧l=[])∨∃ i l',l=i::l'∧i∈Region.ready .any ops listed∧Az ops fuel (listed.setIfInBounds i true) l'
theorem SS(ops:Array Oper):∀ (fuel t:Nat)(listed:Array Bool),Az ops fuel listed (Region.linearise.go .any ops fuel t listed [])
 |0,t,listed=>by simp[Region.linearise.go,Az]
 |fuel+1,t,listed=>by
  simp only[Region.linearise.go,Az]
  change (Region.ready .any ops listed=[]∧(match (Region.ready .any ops listed)[t%(Region.ready .any ops listed).length]? with
   |some i=>Region.linearise.go .any ops fuel (t / (Region.ready .any ops listed).length) (listed.setIfInBounds i true) [i]
   |none=>[].reverse)=[])∨∃ i l',(match (Region.ready .any ops listed)[t%(Region.ready .any ops listed).length]? with
   |some i=>Region.linearise.go .any ops fuel (t / (Region.ready .any ops listed).length) (listed.setIfInBounds i true) [i]
   |none=>[].reverse)=i::l'∧i∈Region.ready .any ops listed∧Az ops fuel (listed.setIfInBounds i true) l'
  cases hi:(Region.ready .any ops listed)[t%(Region.ready .any ops listed).length]? with
  |none =>
   refine .inl ⟨?_,rfl⟩
   cases hr:Region.ready .any ops listed with
   |nil=>rfl
   |cons x xs =>
    rw[hr]at hi
    have:=List.getElem?_eq_none_iff.1 hi
    have h2:=Nat.mod_lt t (show 0<(x::xs).length by simp)
    omega
  |some i =>
   refine .inr ⟨i,Region.linearise.go .any ops fuel (t / (Region.ready .any ops listed).length) (listed.setIfInBounds i true) [], ?_,List.mem_of_getElem? hi,SS ops fuel _ _⟩
   simp only
   rw[linearise_go_acc]
   rfl
def XZ(x y:Nat):Array Bool→List Nat→Prop
 |_,[]=>True
 |listed,i::l=>(i=y→listed.getD x false=true)∧XZ x y (listed.setIfInBounds i true) l
theorem Jw{x y:Nat}:∀ (l:List Nat)(listed:Array Bool),listed.getD x false=true→XZ x y listed l
 |[],_,_=>trivial
 |i::l,listed,h=>⟨fun _=>h,Jw l _ (getD_set_true h)⟩
theorem VL{ops:Array Oper}{listed:Array Bool}{i:Nat}(h:i∈Region.ready .any ops listed):i<ops.size:=by
 obtain⟨_,o,ho,_⟩:=Go.mem_ready.1 h
 exact(Array.getElem?_eq_some_iff.1 ho).1
theorem aaB{ops:Array Oper}{x y:Nat}(hxy:x≠y):∀ (fuel:Nat)(l:List Nat)(listed:Array Bool),listed.size=ops.size→Az ops fuel listed l→XZ x y listed l∨XZ y x listed l
 |_,[],_,_,_=>.inl trivial
 |0,i::l,_,_,h=>by cases h
 |fuel+1,i::l,listed,hs,h=>by
  rcases h with⟨_,h⟩|⟨i',l',e,hr,hv⟩
  ·cases h
  ·cases e
   have hlt:i<listed.size:=by rw[hs];exact VL hr
   have hset:(listed.setIfInBounds i true).getD i false=true:=by simp[hlt]
   by_cases h1:i=x
   ·subst h1
    exact .inl ⟨fun e=>absurd e hxy,Jw _ _ hset⟩
   ·by_cases h2:i=y
    ·subst h2
     exact .inr ⟨fun e=>absurd e h1,Jw _ _ hset⟩
    ·rcases aaB hxy fuel l (listed.setIfInBounds i true) (by simpa using hs) hv with h|h
     ·exact .inl ⟨fun e=>absurd e h2,h⟩
     ·exact .inr ⟨fun e=>absurd e h1,h⟩
section
variable {P:Program} {ops:Array Oper} {Q:Exit→Act→World→Prop} {p:List Nat} {x y:Nat}
theorem Da(h:Perm p ops.size){i:Nat}{o:Oper}(ho:ops[i]?=some o):(jT p x y ops)[posOf p i]?=some (Bn p x y i o):=by
 have hi:=(Array.getElem?_eq_some_iff.1 ho).1
 have hg:=h.get hi
 unfold jT
 rw[List.getElem?_toArray,List.getElem?_map,hg,Option.map_some,ho]
 rfl
theorem Ht(h:Perm p ops.size):(jT p x y ops).size=ops.size:=by
 unfold jT;simp[h.len]
theorem Oy(h:Perm p ops.size){k:Nat}{o' : Oper}(ho:(jT p x y ops)[k]?=some o'):∃ i o,ops[i]?=some o∧posOf p i=k∧o'=Bn p x y i o:=by
 have hk:k<ops.size:=by rw[← Ht (x:=x) (y:=y) h];exact(Array.getElem?_eq_some_iff.1 ho).1
 obtain⟨i,h1,h2,h3⟩:=h.back k hk
 refine⟨i,ops[i],Array.getElem?_eq_getElem h3,h2, ?_⟩
 have:=Da (x:=x) (y:=y) h (Array.getElem?_eq_getElem h3)
 rw[h2,ho]at this
 exact Option.some.inj this
theorem abR(h:Perm p ops.size)(tmps:Array Value)(j:Nat):yielded (jT p x y ops) tmps (posOf p j)=yielded ops tmps j:=by
 unfold yielded
 rcases Nat.lt_or_ge j ops.size with hj|hj
 ·rw[Da h (Array.getElem?_eq_getElem hj),Array.getElem?_eq_getElem hj]
  rfl
 ·rw[h.out hj,Array.getElem?_eq_none (by rw[Ht h];exact Nat.le_refl _),Array.getElem?_eq_none hj]
theorem aeE(h:Perm p ops.size)(i:Nat)(o:Oper)(tmps:Array Value):Region.wanted (Bn p x y i o) (yielded (jT p x y ops) tmps)=Region.wanted o (yielded ops tmps):=by
 unfold Region.wanted Bn
 cases hg:o.guard with
 |none=>rfl
 |some g =>
  obtain⟨j,want⟩:=g
  simp only[hg,Option.map_some]
  rw[abR h]
theorem akE(h:Perm p ops.size){i:Nat}(hi:i<ops.size){K:Act→World→Prop}{a:Act}{w:World}(hw:wpOp P (jT p x y ops) Q (posOf p i) K a w):wpOp P ops Q i K a w:=by
 have ho:=Array.getElem?_eq_getElem hi
 unfold wpOp at hw ⊢
 rw[Da h ho]at hw
 rw[ho]
 simp only at hw ⊢
 rw[aeE h]at hw
 exact hw
structure Xy(p:List Nat)(n:Nat)(listed gT:Array Bool):Prop where
 s:listed.size=n
 s1:gT.size=n
 at_:∀ z,gT.getD (posOf p z) false=listed.getD z false
theorem Xy.set{n:Nat}{listed gT:Array Bool}(h:Xy p n listed gT)(hp:Perm p n){i:Nat}(hi:i<n):Xy p n (listed.setIfInBounds i true) (gT.setIfInBounds (posOf p i) true):=by
 refine⟨by simpa using h.s,by simpa using h.s1,fun z=>?_⟩
 by_cases hz:i=z
 ·subst hz
  have h1:i<listed.size:=by rw[h.s];exact hi
  have h2:posOf p i<gT.size:=by rw[h.s1];exact hp.lt hi
  simp[h1,h2]
 ·rw[getD_set_ne false hz,getD_set_ne false (fun e=>hz (hp.inj hi e)),h.at_]
theorem KU{l:Array Bool}{i:Nat}(hi:i<l.size):l.getD i true=l.getD i false:=by
 simp[Array.getD_eq_getD_getElem?,Array.getElem?_eq_getElem hi]
theorem JP(h:Perm p ops.size):∀ (fuel:Nat)(listed gT:Array Bool)(l:List Nat)(a:Act)(w:World),Az ops fuel listed l→XZ x y listed l→Xy p ops.size listed gT →
  wpAny P .any (jT p x y ops) Q fuel gT a w→wpOps P ops Q l a w
 |0,listed,gT,l,a,w,hv,ho,hr,hw=>by
  cases hv
  simpa [wpOps]using hw.2
 |fuel+1,listed,gT,l,a,w,hv,ho,hr,hw=>by
  rcases hv with⟨hn,rfl⟩|⟨i,l',rfl,hi,hv⟩
  ·have:Region.ready .any (jT p x y ops) gT=[]:=by
    cases hq:Region.ready .any (jT p x y ops) gT with
    |nil=>rfl
    |cons k ks =>
     exfalso
     have hk:k∈Region.ready .any (jT p x y ops) gT:=by rw[hq];simp
     obtain⟨h0,o',ho',hall⟩:=Go.mem_ready.1 hk
     obtain⟨j,o,hj,hjk,rfl⟩:=Oy h ho'
     have hjn:=(Array.getElem?_eq_some_iff.1 hj).1
     have:j∈Region.ready .any ops listed:=by
      refine Go.mem_ready.2 ⟨?_,o,hj,fun e he hb=>?_⟩
      ·rw[KU (by rw[hr.s];exact hjn),← hr.at_,hjk,← KU (by rw[hr.s1,← hjk];exact h.lt hjn)];exact h0
      ·have:=hall { e with on:=posOf p e.on } (by
        unfold Bn
        simp only[List.mem_toArray,List.mem_append,List.mem_map]
        exact .inl ⟨e,by simpa using he,rfl⟩) hb
       rw[← hr.at_];exact this
     rw[hn]at this;cases this
   simpa [wpOps]using hw.1 this
  ·have hin:=VL hi
   obtain⟨h0,o,hio,hall⟩:=Go.mem_ready.1 hi
   have hk:posOf p i∈Region.ready .any (jT p x y ops) gT:=by
    refine Go.mem_ready.2 ⟨?_,_,Da h hio,fun e he hb=>?_⟩
    ·rw[KU (by rw[hr.s1];exact h.lt hin),hr.at_,← KU (by rw[hr.s];exact hin)];exact h0
    ·unfold Bn at he
     simp only[List.mem_toArray,List.mem_append,List.mem_map]at he
     rcases he with⟨e',he',rfl⟩|he
     ·have:=hall e' (by simpa using he') hb
      show gT.getD (posOf p e'.on) false=true
      rw[hr.at_];exact this
     ·split at he
      ·rename_i hy
       simp only[List.mem_singleton]at he
       subst he
       show gT.getD (posOf p x) false=true
       rw[hr.at_]
       exact ho.1 hy
      ·cases he
   have h1:=akE h hin (hw.2 _ hk)
   rw[wpOps_cons]
   exact wpOp_mono (fun a' w' h'=>JP h fuel _ _ l' a' w' hv ho.2 (hr.set h hin) h') h1
theorem aiL{id:Nat}{a:Act}{w:World}{p2:List Nat}(hm:P.follows .mixedOrders=true)(hxy:x≠y)(h1:Perm p ops.size)(h2:Perm p2 ops.size)
  (w1:wpAny P .any (jT p x y ops) Q ops.size (Array.replicate ops.size false) a { w with drawn:=w.drawn+1 }) (w2:wpAny P .any (jT p2 y x ops) Q ops.size (Array.replicate ops.size false) a { w with drawn:=w.drawn+1 }):(Code.region id ops true).wp P Q a w:=by
 refine wp_region_draw fun t=>?_
 simp only[Region.schedule,hm,Bool.true_or,if_true]
 have hv:=SS ops ops.size t (Array.replicate ops.size false)
 have rel:∀ q:List Nat,Xy q ops.size (Array.replicate ops.size false) (Array.replicate ops.size false):=fun q=>⟨by simp,by simp,fun z=>by
  simp only[Array.getD_eq_getD_getElem?,Array.getElem?_replicate]
  split<;>split<;>rfl⟩
 rcases aaB hxy ops.size _ _ (by simp) hv with ho|ho
 ·exact JP h1 ops.size _ _ _ a _ hv ho (rel p) w1
 ·exact JP h2 ops.size _ _ _ a _ hv ho (rel p2) w2
end
def adB(P:Program)(nt:Nat)(ops:Array Oper)(T:Tree AV)(M:RM)(K:Tree AV→RM→Prop):Prop :=
 match uG P nt ops with
 |some _=>wP EL P nt ops T M K
 |none=>match asU P ops with
  |none=>False
  |some (x,y,p)=>match O1 (List.range ops.size) ops.size&&O1 p ops.size && !Nat.beq x y with
   |false=>False
   |true=>wP EL P nt (jT (List.range ops.size) x y ops) T M K∧wP EL P nt (jT p y x ops) T M K
section
variable {P:Program} {nt:Nat} {ops:Array Oper} {M0:RM} {ρ0 ρ:Ren} {w0 w:World} {a:Act}
theorem Sw{I:oh}(hNi:qO P I)(hP:POk P){T:Tree AV}{M:RM}{K:Tree AV→RM→Prop}{Q:Exit→Act→World→Prop}(hM:After P M0 ρ0 w0 M ρ w)(hA:fo ρ nt T a)
  (hQ:∀ T' M' ρ' a' w',After P M0 ρ0 w0 M' ρ' w'→fo ρ' nt T' a'→K T' M'→(∀ t,(∀ o∈ops.toList,o.dst≠some t)→T'.get t=T.get t)→Q .normal a' w') (h:wP I P nt ops T M K) :
  wpAny P .any ops Q ops.size (Array.replicate ops.size false) a { w with drawn:=w.drawn+1 } := by
 unfold wP at h
 split at h <;>try(cases h;done)
 rename_i ri hri
 split at h <;>try(cases h;done)
 rename_i Jz
 have ht:=vH hri
 obtain⟨s1,h1,hp⟩:=Ej hNi ht hM.rel.fr (fun j b hb=>by simp[Tree.get]at hb) h
 have hno:∀ i,¬ iB (Array.replicate ops.size false) i:=by
  intro i h
  unfold iB at h
  simp only[Array.getD_eq_getD_getElem?,Array.getElem?_replicate]at h
  split at h<;>simp at h
 refine(RA hNi (M0:=M0) (ρ0:=ρ0) (w0:=w0) (T0:=T) hP ht (fun r hr=>List.all_eq_true.1 Jz r hr) (fun s ρ' a' w' k0 k1 k2 k3 k4 k5=>hQ _ _ ρ' a' w' ⟨k1,k3,k4,k5⟩ k2 k0 (fun t hnt=>IJ ri.rows T fun r hr=>by
   obtain⟨q,hq⟩:=List.mem_iff_getElem?.1 hr
   exact hnt r.o (List.mem_of_getElem? (ht.row hq).2.1))) ops.size _ 0 [] ri.es s1 ρ a _ (by simp) (by simp) ?_ ?_ h1)
 ·refine⟨rfl,rfl,fun i o _ hi=>absurd hi (hno i),(fun x hx=>by cases hx),fun x _=>hno x,fun j r _ _ hj=>absurd hj (hno j),hA.size,hA.defers,fun t=>⟨fun j _ hj=>absurd hj (hno j),fun _=>hA.val t⟩,hp.rel _ _ hM.rel.drew,hM.step.trans (Step.drew (n:=M0.next)) (Nat.le_refl _),by rw[hp.sub.1];exact hM.base,Nat.le_trans hM.next hp.next,fun j b hb'=>?_,fun j1 j2 b b1 b2=>?_⟩
  ·rcases hp.aX j b hb' with h|⟨h,h',_,r,hr⟩
   ·simp[Tree.get]at h
   ·refine⟨Nat.le_trans hM.next h,h',fun _=>hM.rel.fresh h, ?_⟩
    obtain⟨g1,g2,_⟩:=ht.row hr
    have:=(List.getElem?_eq_some_iff.1 g2).1
    rw[Array.length_toList]at this
    exact this
  ·rcases hp.aX j1 b b1 with h|⟨h,_⟩
   ·simp[Tree.get]at h
   ·exact hp.zM j1 j2 b b1 b2 h
 ·intro r hr hk hal
  obtain⟨q,hq⟩:=List.mem_iff_getElem?.1 hr
  unfold kV at hal
  rw[Bool.and_eq_true]at hal
  exact hp.done q r hq (Nat.zero_le _) (by have:=bf hal.1;omega) hk
theorem Zi(hP:POk P){id:Nat}{T:Tree AV}{M:RM}{K:Tree AV→RM→Prop}{Q:Exit→Act→World→Prop}(hM:After P M0 ρ0 w0 M ρ w)(hA:fo ρ nt T a)
  (hQ:∀ T' M' ρ' a' w',After P M0 ρ0 w0 M' ρ' w'→fo ρ' nt T' a'→K T' M'→(∀ t,(∀ o∈ops.toList,o.dst≠some t)→T'.get t=T.get t)→Q .normal a' w') (h:adB P nt ops T M K):(Code.region id ops true).wp P Q a w:=by
 unfold adB at h
 split at h
 ·exact YR (P5 hP) hP hM hA hQ h
 ·split at h
  ·exact h.elim
  ·rename_i x y p _
   split at h
   ·exact h.elim
   ·rename_i hc
    simp only[Bool.and_eq_true,Bool.not_eq_true']at hc
    obtain⟨⟨c1,c2⟩,c3⟩:=hc
    have p1:=Mj c1
    have p2:=Mj c2
    have hxy:x≠y:=fun e=>by subst e;rw[Nat.beq_refl]at c3;cases c3
    have go:∀ (q:List Nat)(x y:Nat),Perm q ops.size→wP EL P nt (jT q x y ops) T M K→wpAny P .any (jT q x y ops) Q ops.size (Array.replicate ops.size false) a { w with drawn:=w.drawn+1 } := by
     intro q x y hq hd
     have:=Sw (P5 hP) hP hM hA (Q:=Q) (fun T' M' ρ' a' w' k1 k2 k3 k4=>hQ T' M' ρ' a' w' k1 k2 k3 fun t ht=>k4 t fun o' ho'=>?_) hd
     ·rw[Ht hq]at this;exact this
     ·obtain⟨k,hk⟩:=List.mem_iff_getElem?.1 ho'
      rw[Array.getElem?_toList]at hk
      obtain⟨i,o,hi,_,rfl⟩:=Oy hq hk
      exact ht o (by rw[← Array.getElem?_toList]at hi;exact List.mem_of_getElem? hi)
    exact aiL hP.mixed hxy p1 p2 (go _ _ _ p1 h.1) (go _ _ _ p2 h.2)
end
end Go.Ab
