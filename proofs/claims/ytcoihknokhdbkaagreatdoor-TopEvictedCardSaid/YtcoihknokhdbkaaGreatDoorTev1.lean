/- Part 1 of the ground of the proofs of this seat (texts Ab1 to R1). By an AI agent. -/
import Derived.Orders
import Derived.Laws.AppendOwn
import Derived.Below
import Derived.Laws.Tables
import Derived.Laws.Strings
import Derived.Laws.MakeOwn
import Derived.Laws.IdiomStrings
import Derived.Laws.BytesArg
import Derived.Laws.NewFold
import Derived.Lib.Overlaps
import Derived.LoopN
import Derived.ChangeSame
set_option linter.unusedVariables false
set_option linter.unusedSimpArgs false
namespace Go.Ab
inductive Tree(α:Type) where
 |leaf:Tree α
 |node (l:Tree α) (v:Option α) (r:Tree α):Tree α
variable {α:Type}
def Tree.get:Tree α→Nat→Option α
 |.leaf,_=>none
 |.node l v r,n =>
  match Nat.beq n 0 with
  |true=>v
  |false=>match Nat.beq (n%2) 1 with
   |true=>l.get (n / 2)
   |false=>r.get (n / 2-1)
def Tree.put:Nat→Tree α→Nat→Option α→Tree α
 |0,_,_,_=>.leaf
 |f+1,.leaf,n,x =>
  match Nat.beq n 0 with
  |true=>.node .leaf x .leaf
  |false=>match Nat.beq (n%2) 1 with
   |true=>.node (Tree.put f .leaf (n / 2) x) none .leaf
   |false=>.node .leaf none (Tree.put f .leaf (n / 2-1) x)
 |f+1,.node l v r,n,x =>
  match Nat.beq n 0 with
  |true=>.node l x r
  |false=>match Nat.beq (n%2) 1 with
   |true=>.node (Tree.put f l (n / 2) x) v r
   |false=>.node l v (Tree.put f r (n / 2-1) x)
def Tree.set(t:Tree α)(n:Nat)(x:α):Tree α:=Tree.put (n+1) t n (some x)
def Tree.del(t:Tree α)(n:Nat):Tree α:=Tree.put (n+1) t n none
def Tree.ofList:List α→Nat→Tree α→Tree α
 |[],_,t=>t
 |x::xs,n,t=>Tree.ofList xs (n+1) (t.set n x)
inductive Cap where
 |ex (c:Nat)
 |op (esz:Nat)
inductive AV where
 |top
 |atl (k:Nat)                     -- an int that is at least k
 |sc (v:Value)
 |ptr (b o:Nat)
 |slc (b o len:Nat) (cap:Cap)
 |emp (b:Nat)
 |map (b:Nat)
 |fn (f:Fn) (first captured:List AV)
 |ifc (t:TypeId) (v:AV)
 |agg (cs:List AV)
 |tup (vs:List AV)
 deriving Inhabited
def AV.undef:AV:=.tup []
def plain:Value→Bool
 |.bool _|.int _ _|.float _ _|.complex _ _ _|.string _|.pointer none|.map none|.chan none|.nilFunc|.nilIface=>true
 |.slice none 0 0=>true
 |_=>false
def ui:Value→Option AV
 |.func f ⟨[]⟩ ⟨[]⟩=>match f with
  |.yield _=>none
  |_=>some (.fn f [] [])
 |.iface t v=>match plain v with
  |true=>some (.ifc t (.sc v))
  |false=>none
 |v=>match plain v with
  |true=>some (.sc v)
  |false=>none
def bW{β γ:Type}(f:β→Option γ):List β→Option (List γ)
 |[]=>some []
 |x::xs=>match f x with
  |some y=>match bW f xs with
   |some ys=>some (y::ys)
   |none=>none
  |none=>none
def gy:Value→Option AV
 |.agg ⟨cs⟩=>match bW ui cs with
  |some l=>some (.agg l)
  |none=>none
 |.tuple ⟨cs⟩=>match bW ui cs with
  |some l=>some (.tup l)
  |none=>none
 |v=>ui v
def toCell:AV→Option Value
 |.sc v=>some v
 |.fn f [] []=>some (.func f #[] #[])
 |.ifc t (.sc v)=>some (.iface t v)
 |_=>none
def bZ:AV→Option Value
 |.agg cs=>match bW toCell cs with
  |some l=>some (.agg ⟨l⟩)
  |none=>none
 |.tup cs=>match bW toCell cs with
  |some l=>some (.tuple ⟨l⟩)
  |none=>none
 |v=>toCell v
inductive mY where
 |row (n:Nat) (tree:Tree AV) (zs:List AV) (opn:Bool) (elem:TypeId) (fz:Nat)
 |map (es:List (AV×AV×Nat)) (clock:Nat)
 |iter (m:Option Nat) (since:Nat) (seen:List Nat) (stepped:Nat)
 |mi (s:ByteArray) (pos:Nat)
structure AW where
 next:Nat
 heap:Tree mY
def nth{β:Type}:List β→Nat→Option β
 |[],_=>none
 |x::xs,n=>match n with
  |0=>some x
  |n+1=>nth xs n
def cellAt(tree:Tree AV)(zs:List AV)(n i:Nat):Option AV :=
 match Nat.ble (i+1) n with
 |false=>none
 |true=>match tree.get i with
  |some v=>some v
  |none=>match zs with
   |[]=>none
   |[z]=>some z
   |zs=>nth zs (i%zs.length)
def cells(tree:Tree AV)(zs:List AV)(n:Nat):Nat→Nat→Option (List AV)
 |_,0=>some []
 |o,k+1=>match cellAt tree zs n o with
  |none=>none
  |some v=>match cells tree zs n (o+1) k with
   |some vs=>some (v::vs)
   |none=>none
def AW.loads(A:AW)(b o k:Nat):Option (List AV) :=
 match A.heap.get b with
 |some (.row n tree zs _ _ _)=>cells tree zs n o k
 |_=>none
def oneCell:AV→Bool
 |.agg _|.tup _|.top=>false
 |_=>true
def lH:Tree AV→Nat→List AV→Option (Tree AV)
 |t,_,[]=>some t
 |t,o,v::vs=>match oneCell v with
  |true=>lH (t.set o v) (o+1) vs
  |false=>none
def AW.stores(A:AW)(b o:Nat)(vs:List AV):Option AW :=
 match A.heap.get b with
 |some (.row n tree zs opn elem fz) =>
  match Nat.ble (o+vs.length) n,Nat.ble fz o with
  |true,true=>match lH tree o vs with
   |some zU=>some { A with heap:=A.heap.set b (.row n zU zs opn elem fz) }
   |none=>none
  |_,_=>none
 |_=>none
def AW.push(A:AW)(x:mY):AW := { next:=A.next+1,heap:=A.heap.set A.next x }
def AV.cells:AV→List AV
 |.agg cs=>cs
 |v=>[v]
def bA(P:Program){β:Type}:Sem β→Option β
 |.pure a=>some a
 |.program k=>bA P (k P)
 |.mark _ k=>bA P k
 |_=>none
inductive Um where
 |value (v:AV)
 |skip
 |enter (f:FuncId) (args:List AV)
def jS(P:Program)(o:Oper)(e:Operand→AV):Option AV :=
 match bW (fun x=>bZ (e x)) o.op.operands.toList with
 |none=>none
 |some _ =>
  match bA P (execOp (fun x=>(bZ (e x)).getD default) o)with
  |some (.value v)=>gy v
  |_=>none
def gm:AV→Option Nat
 |.sc (.int _ (.ofNat n))=>some n
 |_=>none
def gM(e:Operand→AV)(d:Nat):Option Operand→Option Nat
 |none=>some d
 |some x=>gm (e x)
def bK(P:Program)(t:TypeId):Option Bool :=
 match P.underlying t with
 |some (.struct _)|some (.array _ _)=>some true
 |some _=>some false
 |none=>none
def aL(P:Program)(t:TypeId):Option Nat:=(P.info? t).map (·.size)
def uD(P:Program)(t:TypeId):Option Nat:=(P.info? t).map (·.bytes)
def partOf(P:Program)(t:TypeId)(cs:List AV)(off:Nat):Option AV :=
 match bK P t,aL P t with
 |some true,some n=>match Nat.ble (off+n) cs.length with
  |true=>some (.agg ((cs.drop off).take n))
  |false=>none
 |some false,_=>nth cs off
 |_,_=>none
def byteOf:AV→Option UInt8
 |.sc (.int .u8 n)=>some (UInt8.ofNat n.toNat)
 |_=>none
def bytesOf(vs:List AV):Option ByteArray :=
 match bW byteOf vs with
 |some l=>some ⟨⟨l⟩⟩
 |none=>none
def vE(P:Program)(e:Operand→AV)(t:TypeId)(x:Operand)(lo hi mx:Option Operand):Option AV :=
 match P.underlying t,e x with
 |some (.slice elem),.slc b o len cap =>
  match aL P elem,gM e 0 lo,gM e len hi with
  |some size,some l,some h =>
   match mx with
   |none=>match cap with
    |.ex c=>match Nat.ble l h,Nat.ble h c,Nat.beq c l with
     |true,true,false=>some (.slc b (o+l*size) (h-l) (.ex (c-l)))
     |true,true,true=>some (.slc b o 0 (.ex 0))
     |_,_,_=>none
    |.op esz=>match Nat.ble l h,Nat.ble h len,Nat.beq size esz,Nat.ble len l with
     |true,true,true,false=>some (.slc b (o+l*size) (h-l) (.op esz))
     |true,true,true,true=>some (.emp b)
     |_,_,_,_=>none
   |some y=>match hi,gm (e y)with
    |none,_|_,none=>none
    |some _,some m=>match Nat.ble l h,Nat.ble h m,Nat.ble m (match cap with|.ex c=>c|.op _=>len),Nat.beq m l with
     |true,true,true,false=>some (.slc b (o+l*size) (h-l) (.ex (m-l)))
     |true,true,true,true=>some (.slc b o 0 (.ex 0))
     |_,_,_,_=>none
  |_,_,_=>none
 |some (.slice elem),.emp b =>
  match aL P elem,gM e 0 lo,gM e 0 hi,mx with
  |some _,some 0,some 0,none=>some (.emp b)
  |_,_,_,_=>none
 |some (.slice elem),.sc (.slice none 0 0) =>
  match aL P elem,gM e 0 lo,gM e 0 hi,gM e 0 mx with
  |some _,some 0,some 0,some 0=>match mx,hi with
   |some _,none=>none
   |_,_=>some (.sc (.slice none 0 0))
  |_,_,_,_=>none
 |some (.array n elem),.ptr b o =>
  match aL P elem,gM e 0 lo,gM e n hi,mx with
  |some size,some l,some h,none =>
   match Nat.ble l h,Nat.ble h n,Nat.beq n l with
   |true,true,false=>some (.slc b (o+l*size) (h-l) (.ex (n-l)))
   |true,true,true=>some (.slc b o 0 (.ex 0))
   |_,_,_=>none
  |_,_,_,_=>none
 |_,_=>none
def oz(P:Program)(t:TypeId)(x y:AV):Option Bool :=
 match x,y with
 |.ptr b o,.ptr c p=>match Nat.beq b c,P.underlying t with
  |true,some (.pointer el)=>match aL P el with
   |some (_+1)=>some (Nat.beq o p)
   |_=>none
  |_,_=>none
 |.ptr _ _,.sc (.pointer none)=>match P.underlying t with|some (.pointer _)=>some false|_=>none
 |.sc (.pointer none),.ptr _ _=>match P.underlying t with|some (.pointer _)=>some false|_=>none
 |.slc _ _ _ _,.sc (.slice none 0 0)=>match P.underlying t with|some (.slice _)=>some false|_=>none
 |.emp _,.sc (.slice none 0 0)=>match P.underlying t with|some (.slice _)=>some false|_=>none
 |.map _,.sc (.map none)=>match P.underlying t with|some (.map _ _)=>some false|_=>none
 |.fn _ _ _,.sc .nilFunc=>match P.underlying t with|some (.func _ _ _)=>some false|_=>none
 |.ifc _ _,.sc .nilIface=>match P.underlying t with|some (.interface _)=>some false|_=>none
 |_,_=>none
def known:AV→Bool
 |.top=>false
 |_=>true
def Cj(place:Nat→Option (Nat×Nat)):List AV→List (Nat×AV)→Option (List AV)
 |cs,[]=>some cs
 |cs,(i,v)::rest=>match place i with
  |some (off,size)=>match known v,Nat.beq v.cells.length size,Nat.ble (off+size) cs.length with
   |true,true,true=>Cj place (cs.take off++v.cells++cs.drop (off+size)) rest
   |_,_,_=>none
  |none=>none
def kX:List UInt8→List UInt8→Bool
 |[],[]=>true
 |a::x,b::y=>match Nat.beq a.toNat b.toNat with
  |true=>kX x y
  |false=>false
 |_,_=>false
def Dl(op:BinOp)(a b:List UInt8):Option AV :=
 match op with
 |.add=>match Nat.ble (a.length+b.length) 9223372036854775807 with
  |true=>some (.sc (.string ⟨⟨a++b⟩⟩))
  |false=>none
 |.eql=>some (.sc (.bool (kX a b)))
 |.neq=>some (.sc (.bool (!kX a b)))
 |.lss=>some (.sc (.bool (Op.bytesLess a b)))
 |.leq=>some (.sc (.bool (Op.bytesLess a b||kX a b)))
 |.gtr=>some (.sc (.bool (!(Op.bytesLess a b||kX a b))))
 |.geq=>some (.sc (.bool (!Op.bytesLess a b)))
 |_=>none
def LU(P:Program)(e:Operand→AV)(t:TypeId)(s:List UInt8)(lo hi mx:Option Operand):Option AV :=
 match P.underlying t,gM e 0 lo,gM e s.length hi,mx with
 |some .string,some l,some h,none=>match Nat.ble l h,Nat.ble h s.length with
  |true,true=>some (.sc (.string ⟨⟨(s.drop l).take (h-l)⟩⟩))
  |_,_=>none
 |_,_,_,_=>none
def aK(P:Program)(o:Oper)(e:Operand→AV):Option AV :=
 match o.op with
 |.move x|.assign x=>some (e x)
 |.pick c a b=>match e c with
  |.sc (.bool true)=>some (e a)
  |.sc (.bool false)=>some (e b)
  |_=>none
 |.nilCheck x=>match e x with
  |.ptr b o=>some (.ptr b o)
  |_=>none
 |.fieldAddr s x f=>match P.underlying s,e x with
  |some (.struct fields),.ptr b p=>match fields[f]? with
   |some fd=>match aL P fd.type with
    |some (_+1)=>some (.ptr b (p+fd.offset))
    |_=>none
   |none=>none
  |_,_=>none
 |.indexAddr t x ix=>match P.underlying t,e x,gm (e ix)with
  |some (.slice elem),.slc b p len _,some i=>match Nat.ble (i+1) len,aL P elem with
   |true,some size=>some (.ptr b (p+i*size))
   |_,_=>none
  |some (.array len elem),.ptr b p,some i=>match Nat.ble (i+1) len,aL P elem with
   |true,some size=>some (.ptr b (p+i*size))
   |_,_=>none
  |_,_,_=>none
 |.field t x f=>match P.underlying t,e x with
  |some (.struct fields),.agg cs=>match fields[f]? with
   |some fd=>partOf P fd.type cs fd.offset
   |none=>none
  |_,_=>none
 |.index t x ix=>match P.underlying t,e x,gm (e ix)with
  |some (.array len elem),.agg cs,some i=>match Nat.ble (i+1) len,aL P elem with
   |true,some size=>partOf P elem cs (i*size)
   |_,_=>none
  |some .string,.sc (.string s),some i=>match nth s.data.toList i with
   |some b=>some (.sc (.int .u8 b.toNat))
   |none=>none
  |_,_,_=>none
 |.slice t x lo hi mx=>match e x with
  |.sc (.string s)=>LU P e t s.data.toList lo hi mx
  |_=>vE P e t x lo hi mx
 |.extract x i=>match e x with
  |.tup vs=>nth vs i
  |_=>none
 |.makeInterface t x=>match P.underlying t with
  |some (.interface _)=>none
  |some _=>some (.ifc t (e x))
  |none=>none
 |.makeFunc f first captured=>match f with
  |.yield _=>none
  |_=>some (.fn f (first.toList.map e) (captured.toList.map e))
 |.build t parts=>match P.info? t,P.underlying t with
  |some it,some (.array _ el)=>match it.zero,P.info? el with
   |some z,some ie=>match gy z with
    |some (.agg cs)=>(Cj (fun i=>some (i*ie.size,ie.size)) cs (parts.toList.map fun p=>(p.1,e p.2))).map .agg
    |_=>none
   |_,_=>none
  |some it,some (.struct fields)=>match it.zero,fields.toList.mapM (fun f=>(P.info? f.type).map fun i=>(f.offset,i.size))with
   |some z,some places=>match gy z with
    |some (.agg cs)=>(Cj (fun i=>nth places i) cs (parts.toList.map fun p=>(p.1,e p.2))).map .agg
    |_=>none
   |_,_=>none
  |_,_=>none
 |.binOp op t x y _=>match e x,e y with
  |.sc (.int _ _),.sc (.int _ _)=>jS P o e
  |.sc (.string a),.sc (.string b)=>Dl op a.data.toList b.data.toList
  |.sc (.int .i64 (.ofNat n)),.atl k=>match op,Nat.ble n k with
   |.gtr,true=>some (.sc (.bool false))
   |_,_=>none
  |u,v=>match op with
   |.eql=>match oz P t u v with
    |some r=>some (.sc (.bool r))
    |none=>jS P o e
   |.neq=>match oz P t u v with
    |some r=>some (.sc (.bool (!r)))
    |none=>jS P o e
   |_=>jS P o e
 |.convert _ _ _=>jS P o e
 |.call { callee:=.builtin .len,args,argTypes } => match argTypes[0]?,args[0]? with
  |some t,some x=>match P.underlying t,e x with
   |some (.slice _),.slc _ _ n _=>some (.sc (.int .i64 n))
   |some (.slice _),.emp _=>some (.sc (.int .i64 0))
   |_,_=>jS P o e
  |_,_=>none
 |.call { callee:=.builtin .cap,args,argTypes } => match argTypes[0]?,args[0]? with
  |some t,some x=>match P.underlying t,e x with
   |some (.slice _),.slc _ _ _ (.ex c)=>some (.sc (.int .i64 c))
   |some (.slice _),.sc (.slice none 0 0)=>some (.sc (.int .i64 0))
   |_,_=>none
  |_,_=>none
 |.call { callee:=.builtin .min,.. }|.call { callee:=.builtin .max,.. } => jS P o e
 |.call { callee:=.builtin .unsafeSliceData,args,.. } => match args with
  |⟨[x]⟩=>match e x with
   |.sc (.slice none 0 0)=>some (.sc (.pointer none))
   |.slc b p _ (.ex (_+1))=>some (.ptr b p)
   |.slc b p (_+1) (.op _)=>some (.ptr b p)
   |_=>none
  |_=>none
 |.unOp ..=>jS P o e
 |_=>none
def Pw:TypeDesc→Value→Value→Option Bool
 |.string,.string a,.string b=>some (kX a.data.toList b.data.toList)
 |d,x,y=>Instr.sameNow d x y
def OQ(d:TypeDesc)(k:Value):List (AV×AV×Nat)→Nat→Option (Option (Nat×AV))
 |[],_=>some none
 |(ka,va,_)::es,i=>match bZ ka with
  |none=>none
  |some kv=>match Pw d k kv with
   |some true=>some (some (i,va))
   |some false=>OQ d k es (i+1)
   |none=>none
def qQ(P:Program)(kt:TypeId)(k:Value):List (AV×AV×Nat)→Nat→Option (Option (Nat×AV))
 |[],_=>some none
 |(ka,va,_)::es,i=>match bZ ka with
  |none=>none
  |some kv=>match bA P (Op.equal kt k kv)with
   |some true=>some (some (i,va))
   |some false=>qQ P kt k es (i+1)
   |none=>none
def AB(P:Program)(kt:TypeId)(k:Value)(es:List (AV×AV×Nat)):Option (Option (Nat×AV)) :=
 match P.underlying kt with
 |none=>none
 |some d=>match OQ d k es 0 with
  |some r=>some r
  |none=>match es with
   |[]=>none
   |(ka,_,_)::_=>match bZ ka with
    |none=>none
    |some kv=>match Pw d k kv with
     |none=>qQ P kt k es 0
     |some _=>none
def mapOf(A:AW):AV→Option (List (AV×AV×Nat))
 |.map b=>match A.heap.get b with
  |some (.map es _)=>some es
  |_=>none
 |.sc (.map none)=>some []
 |_=>none
def ai6{β:Type}:List β→Bool
 |[]=>true
 |_::_=>false
def yJ(v:AV)(ok:Bool):Bool→AV
 |true=>.tup [v,.sc (.bool ok)]
 |false=>v
def j4(P:Program)(o:Oper)(e:Operand→AV)(A:AW):Option AV :=
 match o.op with
 |.load t x=>match e x with
  |.ptr b p=>match bK P t with
   |some false=>match A.loads b p 1 with
    |some [v]=>some v
    |_=>none
   |some true=>match aL P t with
    |some n=>match A.loads b p n with
     |some vs=>some (.agg vs)
     |none=>none
    |none=>none
   |none=>none
  |_=>none
 |.convert src dst x=>match P.underlying src,P.underlying dst,e x with
  |some (.slice el),some .string,.slc b p len _=>match P.underlying el with
   |some (.int .u8)=>match A.loads b p len with
    |some vs=>match bytesOf vs with
     |some s=>some (.sc (.string s))
     |none=>none
    |none=>none
   |_=>none
  |some (.slice el),some .string,.emp _=>match P.underlying el with
   |some (.int .u8)=>some (.sc (.string ⟨⟨[]⟩⟩))
   |_=>none
  |some (.slice _),some .string,.sc (.slice none 0 0)=>jS P o e
  |some (.pointer t),some .unsafePointer,.ptr b p=>match A.heap.get b,aL P t with
   |some (.row n _ _ _ _ _),some (_+1)=>match Nat.ble (p+1) n with
    |true=>some (.ptr b p)
    |false=>none
   |_,_=>none
  |some .unsafePointer,some (.pointer u),.ptr b p=>match A.heap.get b,aL P u with
   |some (.row n _ _ _ elem _),some (_+1)=>match liesAt P P.depth elem (n / P.cellsOf elem) p u 1 with
    |true=>some (.ptr b p)
    |false=>none
   |_,_=>none
  |_,_,_=>none
 |.call { callee:=.builtin .len,args,argTypes } => match argTypes[0]?,args[0]? with
  |some t,some x=>match P.underlying t,e x with
   |some (.map _ _),.map b=>match A.heap.get b with
    |some (.map es _)=>some (.sc (.int .i64 es.length))
    |_=>none
   |_,_=>none
  |_,_=>none
 |.call { callee:=.builtin .cap,args,argTypes } => match argTypes[0]?,args[0]? with
  |some t,some x=>match P.underlying t,e x with
   |some (.slice _),.slc b 0 _ (.op esz)=>match A.heap.get b with
    |some (.row known _ _ true _ _)=>some (.atl (known / esz))
    |_=>none
   |_,_=>aK P o e
  |_,_=>none
 |.slice t x lo hi none=>match P.underlying t,e x,gM e 0 lo,hi with
  |some (.slice elem),.slc b p len (.op esz),some l,some y=>match gm (e y)with
   |some h=>match Nat.ble h len with
    |true=>aK P o e
    |false=>match A.heap.get b,aL P elem with
     |some (.row known _ _ true _ _),some size=>match Nat.ble (l+1) h&&Nat.beq size esz&&Nat.ble (p+h*size) known with
      |true=>some (.slc b (p+l*size) (h-l) (.op esz))
      |false=>none
     |_,_=>none
   |none=>none
  |_,_,_,_=>aK P o e
 |.slice _ _ _ _ (some _)=>aK P o e
 |.lookup t x k commaOk=>match P.underlying t,mapOf A (e x),bZ (e k)with
  |some (.map kt et),some es,some kv=>match bA P (Instr.checkKey (ai6 es) 10000 kt kv),AB P kt kv es with
   |some (),some (some (_,va))=>some (yJ va true commaOk)
   |some (),some none=>match bA P (zeroValue et)with
    |some z=>match gy z with
     |some zv=>some (yJ zv false commaOk)
     |none=>none
    |none=>none
   |_,_=>none
  |_,_,_=>none
 |_=>none
def gZ(P:Program)(t:TypeId):Option (List AV) :=
 match (P.info? t).bind (·.zero)with
 |some z=>match gy z with
  |some v=>some v.cells
  |none=>none
 |none=>none
def IE(size n:Nat):Tree AV→List (Nat×AV)→Option (Tree AV)
 |t,[]=>some t
 |t,(i,v)::rest=>match Nat.beq v.cells.length size,Nat.ble (i*size+size) n with
  |true,true=>match lH t (i*size) v.cells with
   |some t'=>IE size n t' rest
   |none=>none
  |_,_=>none
def gu(P:Program)(o:Oper)(e:Operand→AV):Option (mY×(Nat→AV)) :=
 match o.op with
 |.alloc t=>match gZ P t with
  |some zs=>match Nat.ble 1 zs.length with
   |true=>some (.row zs.length .leaf zs false t 0,fun b=>.ptr b 0)
   |false=>none
  |none=>none
 |.box t x=>match lH .leaf 0 (e x).cells,Nat.ble 1 (e x).cells.length with
  |some tree,true=>some (.row (e x).cells.length tree [] false t 0,fun b=>.ptr b 0)
  |_,_=>none
 |.buildSlice t len parts=>match P.underlying t with
  |some (.slice elem)=>match aL P elem,gZ P elem with
   |some size,some zs=>match Nat.ble 1 size,Nat.beq zs.length size,Nat.ble (len*size) 10000 with
    |true,true,true=>match IE size (len*size) .leaf (parts.toList.map fun p=>(p.1,e p.2))with
     |some tree=>some (.row (len*size) tree zs false elem 0,fun b=>.slc b 0 len (.ex len))
     |none=>none
    |_,_,_=>none
   |_,_=>none
  |_=>none
 |.makeSlice t l c=>match P.underlying t,gm (e l),gm (e c)with
  |some (.slice elem),some l,some c=>match aL P elem,uD P elem,gZ P elem with
   |some size,some bytes,some zs=>match Nat.ble 1 size,Nat.beq zs.length size,Nat.ble l c,Nat.ble (c*bytes) 140737488355328,Nat.ble c 140737488355328 with
    |true,true,true,true,true=>some (.row (c*size) .leaf zs false elem 0,fun b=>.slc b 0 l (.ex c))
    |_,_,_,_,_=>none
   |_,_,_=>none
  |_,_,_=>none
 |.makeMap t r=>match r with
  |none=>some (.map [] 0,fun b=>.map b)
  |some x=>match P.underlying t,gm (e x)with
   |some (.map _ _),some _=>some (.map [] 0,fun b=>.map b)
   |_,_=>none
 |.convert src dst x=>match P.underlying src,P.underlying dst,e x with
  |some .string,some (.slice el),.sc (.string s)=>match P.underlying el,aL P el with
   |some (.int .u8),some 1=>some (.row s.data.toList.length (Tree.ofList (s.data.toList.map fun b=>AV.sc (.int .u8 b.toNat)) 0 .leaf) [] true el 0,
     fun b=>.slc b 0 s.data.toList.length (.op 1))
   |_,_=>none
  |_,_,_=>none
 |.range t x=>match P.underlying t,e x with
  |some .string,.sc (.string s)=>some (.mi s 0,fun b=>.ptr b 0)
  |some (.map _ _),.sc (.map none)=>some (.iter none 0 [] 0,fun b=>.ptr b 0)
  |_,_=>none
 |_=>none
def oO(A:AW)(size:Nat)(zero:List AV)(zeros:Bool)(x:AV):Option (Nat×List AV) :=
 match zeros with
 |true=>match gm x with
  |some n=>match Nat.ble n 100000 with
   |true=>some (n,rep zero n)
   |false=>none
  |none=>none
 |false=>match x with
  |.slc b o len _=>match A.loads b o (len*size)with
   |some vs=>some (len,vs)
   |none=>none
  |.emp _=>some (0,[])
  |.sc (.slice none 0 0)=>some (0,[])
  |.sc (.string s)=>match Nat.beq size 1 with
   |true=>some (s.data.toList.length,s.data.toList.map fun b=>AV.sc (.int .u8 b.toNat))
   |false=>none
  |_=>none where
 rep (zero:List AV):Nat→List AV
  |0=>[]
  |n+1=>zero++rep zero n
def mE(elem size bytes:Nat)(n:Nat)(new:List AV)(s:AV)(A:AW):Option (AV×AW) :=
 match s with
 |.sc (.slice none 0 0)=>match n with
  |0=>some (s,A)
  |n+1=>match lH .leaf 0 new with
   |some tree=>some (.slc A.next 0 (n+1) (.op size),A.push (.row ((n+1)*size) tree [] true elem 0))
   |none=>none
 |.emp _=>match n with
  |0=>some (s,A)
  |_+1=>none
 |.slc b o len (.ex c) =>
  match Nat.ble (len+n) c with
  |true=>match A.stores b (o+len*size) new with
   |some A'=>some (.slc b o (len+n) (.ex c),A')
   |none=>none
  |false=>match A.loads b o (len*size),Nat.ble ((len+n)*bytes) 140737488355328,Nat.ble (len+n) 140737488355328 with
   |some old,true,true=>match lH .leaf 0 (old++new)with
    |some tree=>some (.slc A.next 0 (len+n) (.op size),A.push (.row ((len+n)*size) tree [] true elem 0))
    |none=>none
   |_,_,_=>none
 |.slc b o len (.op esz) =>
  match n with
  |0=>some (s,A)
  |n+1 =>
  match A.heap.get b with
  |some (.row known tree z opn el fz) =>
   match opn&&Nat.beq esz size,Nat.ble (o+(len+(n+1))*size) known with
   |true,true=>match A.stores b (o+len*size) new with
    |some A'=>some (.slc b o (len+(n+1)) (.op esz),A')
    |none=>none
   |true,false=>match A.loads b o (len*size),Nat.beq el elem&&Nat.ble ((len+(n+1))*bytes) 140737488355328&&Nat.ble (len+(n+1)) 140737488355328&&Nat.beq o 0&&Nat.beq known (len*size)&&Nat.ble fz (len*size)with
    |some _,true =>
     -- (whether in place or in a new row: the elder block is not known any more)
     match lH tree (len*size) new with
     |some zU=>some (.slc A.next 0 (len+(n+1)) (.op size),{ next:=A.next+1,heap:=(A.heap.del b).set A.next (.row ((len+(n+1))*size) zU z true elem fz) })
     |none=>none
    |_,_=>none
   |_,_=>none
  |_=>none
 |_=>none
def QB(P:Program)(elem:TypeId)(zeros:Bool)(s x:AV)(A:AW):Option (AV×AW) :=
 match aL P elem,uD P elem,gZ P elem with
 |some size,some bytes,some zs =>
  match oO A size zs zeros x with
  |some (n,new) =>
   match Nat.ble 1 size&&Nat.beq zs.length size&&Nat.ble (n*bytes) 140737488355328&&Nat.ble n 140737488355328 with
   |true=>mE elem size bytes n new s A
   |false=>none
  |none=>none
 |_,_,_=>none
end Go.Ab
namespace Go.Ab
open Go
theorem sD(a b:Nat):Nat.beq a b=decide (a=b):=by
 cases hb:Nat.beq a b
 ·simp[Nat.ne_of_beq_eq_false hb]
 ·simp[Nat.eq_of_beq_eq_true hb]
theorem Tree.get_put{α:Type}:∀ (f:Nat)(t:Tree α)(n:Nat)(x:Option α)(m:Nat),n+1<2^f →
  (Tree.put f t n x).get m=if m=n then x else t.get m:=by
 intro f
 induction f with
 |zero=>intro t n x m h;simp at h
 |succ f ih =>
  intro t n x m h
  rw[Nat.pow_succ]at h
  cases t with
  |leaf =>
   simp only[Tree.put,sD]
   by_cases h0:n=0
   ·subst h0
    by_cases hm:m=0
    ·subst hm;simp[Tree.get]
    ·simp only[decide_true,Tree.get,sD,hm,decide_false,if_false];split<;>rfl
   ·simp only[h0,decide_false]
    by_cases h1:n%2=1
    ·simp only[h1,decide_true,Tree.get,sD]
     by_cases hm:m=0
     ·subst hm;simp;omega
     ·simp only[hm,decide_false]
      by_cases h2:m%2=1
      ·simp only[h2,decide_true]
       rw[ih _ _ _ _ (by omega)]
       simp only[Tree.get]
       by_cases e:m=n
       ·subst e;simp
       ·rw[if_neg e,if_neg (by omega)]
      ·simp only[h2,decide_false];rw[if_neg (by omega)]
    ·simp only[h1,decide_false,Tree.get,sD]
     by_cases hm:m=0
     ·subst hm;simp;omega
     ·simp only[hm,decide_false]
      by_cases h2:m%2=1
      ·simp only[h2,decide_true];rw[if_neg (by omega)]
      ·simp only[h2,decide_false]
       rw[ih _ _ _ _ (by omega)]
       simp only[Tree.get]
       by_cases e:m=n
       ·subst e;simp
       ·rw[if_neg e,if_neg (by omega)]
  |node l v r =>
   simp only[Tree.put,sD]
   by_cases h0:n=0
   ·subst h0
    by_cases hm:m=0
    ·subst hm;simp[Tree.get]
    ·simp only[decide_true,Tree.get,sD,hm,decide_false,if_false]
   ·simp only[h0,decide_false]
    by_cases h1:n%2=1
    ·simp only[h1,decide_true,Tree.get,sD]
     by_cases hm:m=0
     ·subst hm;simp;omega
     ·simp only[hm,decide_false]
      by_cases h2:m%2=1
      ·simp only[h2,decide_true]
       rw[ih _ _ _ _ (by omega)]
       by_cases e:m=n
       ·subst e;simp
       ·rw[if_neg e,if_neg (by omega)]
      ·simp only[h2,decide_false];rw[if_neg (by omega)]
    ·simp only[h1,decide_false,Tree.get,sD]
     by_cases hm:m=0
     ·subst hm;simp;omega
     ·simp only[hm,decide_false]
      by_cases h2:m%2=1
      ·simp only[h2,decide_true];rw[if_neg (by omega)]
      ·simp only[h2,decide_false]
       rw[ih _ _ _ _ (by omega)]
       by_cases e:m=n
       ·subst e;simp
       ·rw[if_neg e,if_neg (by omega)]
theorem Tree.bn{α:Type}(t:Tree α)(n:Nat)(x:α)(m:Nat):(t.set n x).get m=if m=n then some x else t.get m :=
 Tree.get_put _ _ _ _ _ Nat.lt_two_pow_self
theorem Tree.FO{α:Type}(t:Tree α)(n:Nat)(m:Nat):(t.del n).get m=if m=n then none else t.get m :=
 Tree.get_put _ _ _ _ _ Nat.lt_two_pow_self
theorem Tree.mZ{α:Type}:∀ (l:List α)(o:Nat)(t:Tree α)(m:Nat),(Tree.ofList l o t).get m=if o≤m∧m<o+l.length then l[m-o]? else t.get m
 |[],o,t,m=>by rw[if_neg];rfl;simp only[List.length_nil];omega
 |x::l,o,t,m=>by
  simp only[Tree.ofList,Tree.mZ l (o+1) (t.set o x) m,Tree.bn,List.length_cons]
  by_cases e:m=o
  ·subst e;rw[if_neg (by omega),if_pos rfl,if_pos (by omega)];simp
  ·rw[if_neg e]
   by_cases h:o+1≤m∧m<o+1+l.length
   ·rw[if_pos h,if_pos (by omega),show m-o=(m-(o+1))+1 by omega];simp
   ·rw[if_neg h,if_neg (by omega)]
structure gF where
 cb:Nat
 sh:Nat
 jQ:Nat
 esz:Nat
abbrev Ren:=Nat→Option gF
def aas:Fn→Bool:=fun _=>true
mutual
inductive ai(ρ:Ren):AV→Value→Prop
 |top (v:Value):ai ρ .top v
 |atl (k:Nat) (c:Nat):k≤c→ai ρ (.atl k) (.int .i64 c)
 |sc (v:Value):plain v=true→ai ρ (.sc v) v
 |ptr (b o:Nat) (i:gF):ρ b=some i→ai ρ (.ptr b o) (.pointer (some ⟨i.cb,i.sh+o,none⟩))
 |jv (b o len c:Nat) (i:gF):ρ b=some i→ai ρ (.slc b o len (.ex c)) (.slice (some ⟨i.cb,i.sh+o,none⟩) len c)
 |lQ (b k len:Nat) (i:gF):ρ b=some i→k+len≤i.jQ→ai ρ (.slc b (k*i.esz) len (.op i.esz)) (.slice (some ⟨i.cb,i.sh+k*i.esz,none⟩) len (i.jQ-k))
 |emp (b:Nat) (a:Addr) (c:Nat):ai ρ (.emp b) (.slice (some a) 0 c)
 |map (b:Nat) (i:gF):ρ b=some i→ai ρ (.map b) (.map (some i.cb))
 |fn (f:Fn) (xs ys:List AV) (us vs:List Value):aas f=true→aQ ρ xs us→aQ ρ ys vs→ai ρ (.fn f xs ys) (.func f ⟨us⟩ ⟨vs⟩)
 |ifc (t:TypeId) (x:AV) (v:Value):ai ρ x v→ai ρ (.ifc t x) (.iface t v)
 |agg (xs:List AV) (vs:List Value):aQ ρ xs vs→ai ρ (.agg xs) (.agg ⟨vs⟩)
 |tup (xs:List AV) (vs:List Value):aQ ρ xs vs→ai ρ (.tup xs) (.tuple ⟨vs⟩)
inductive aQ(ρ:Ren):List AV→List Value→Prop
 |nil:aQ ρ [] []
 |cons (x:AV) (v:Value) (xs:List AV) (vs:List Value):ai ρ x v→aQ ρ xs vs→aQ ρ (x::xs) (v::vs)
end
def Ren.le(ρ ρ' : Ren):Prop:=∀ b i,ρ b=some i→ρ' b=some i
mutual
theorem ai.mono{ρ ρ' : Ren}(h:ρ.le ρ'):∀ {x:AV}{v:Value},ai ρ x v→ai ρ' x v
 |_,_,.top v=>.top v
 |_,_,.atl k c p=>.atl k c p
 |_,_,.sc v p=>.sc v p
 |_,_,.ptr b o i e=>.ptr b o i (h _ _ e)
 |_,_,.jv b o l c i e=>.jv b o l c i (h _ _ e)
 |_,_,.lQ b k l i e q=>.lQ b k l i (h _ _ e) q
 |_,_,.emp b a c=>.emp b a c
 |_,_,.map b i e=>.map b i (h _ _ e)
 |_,_,.fn f xs ys us vs p a b=>.fn f xs ys us vs p (aQ.mono h a) (aQ.mono h b)
 |_,_,.ifc t x v a=>.ifc t x v (ai.mono h a)
 |_,_,.agg xs vs a=>.agg xs vs (aQ.mono h a)
 |_,_,.tup xs vs a=>.tup xs vs (aQ.mono h a)
theorem aQ.mono{ρ ρ' : Ren}(h:ρ.le ρ'):∀ {xs:List AV}{vs:List Value},aQ ρ xs vs→aQ ρ' xs vs
 |_,_,.nil=>.nil
 |_,_,.cons x v xs vs a b=>.cons x v xs vs (ai.mono h a) (aQ.mono h b)
end
theorem aQ.length{ρ:Ren}:∀ {xs:List AV}{vs:List Value},aQ ρ xs vs→xs.length=vs.length
 |_,_,.nil=>rfl
 |_,_,.cons _ _ _ _ _ b=>by simp[aQ.length b]
theorem aQ.append{ρ:Ren}:∀ {xs:List AV}{vs:List Value}{ys:List AV}{us:List Value},aQ ρ xs vs→aQ ρ ys us→aQ ρ (xs++ys) (vs++us)
 |_,_,_,_,.nil,k=>k
 |_,_,_,_,.cons x v xs vs a b,k=>.cons x v _ _ a (aQ.append b k)
theorem aQ.take{ρ:Ren}:∀ (n:Nat){xs:List AV}{vs:List Value},aQ ρ xs vs→aQ ρ (xs.take n) (vs.take n)
 |0,_,_,_=>by simpa using .nil
 |_+1,_,_,.nil=>by simpa using .nil
 |n+1,_,_,.cons x v xs vs a b=>by simpa using .cons x v _ _ a (aQ.take n b)
theorem aQ.drop{ρ:Ren}:∀ (n:Nat){xs:List AV}{vs:List Value},aQ ρ xs vs→aQ ρ (xs.drop n) (vs.drop n)
 |0,_,_,h=>by simpa using h
 |_+1,_,_,.nil=>by simpa using .nil
 |n+1,_,_,.cons x v xs vs a b=>by simpa using aQ.drop n b
theorem cB{β:Type}:∀ (l:List β)(n:Nat),nth l n=l[n]?
 |[],_=>by simp[nth]
 |_::_,0=>by simp[nth]
 |_::l,n+1=>by simp[nth,cB l n]
theorem aQ.get{ρ:Ren}:∀ {xs:List AV}{vs:List Value},aQ ρ xs vs→∀ {n:Nat}{x:AV},xs[n]?=some x→∃ v,vs[n]?=some v∧ai ρ x v
 |_,_,.nil,_,_,h=>by simp at h
 |_,_,.cons x v xs vs a b,0,y,h=>⟨v,by simp,by simp at h;exact h▸a⟩
 |_,_,.cons x v xs vs a b,n+1,y,h=>by
  obtain⟨u,h1,h2⟩:=aQ.get b (n:=n) (x:=y) (by simpa using h)
  exact⟨u,by simpa using h1,h2⟩
theorem aQ.wF{ρ:Ren}{f:Operand→AV}{g:Operand→Value}:∀ (l:List Operand),(∀ x∈l,ai ρ (f x) (g x))→aQ ρ (l.map f) (l.map g)
 |[],_=>.nil
 |x::l,h=>.cons _ _ _ _ (h x (.head _)) (aQ.wF l fun y hy=>h y (.tail _ hy))
theorem OZ{ρ:Ren}{x:AV}{v:Value}(h:ai ρ x v)(h1:oneCell x=true):v.oneCell'=true:=by
 cases h with
 |sc v p=>cases v<;>simp_all [plain,Value.oneCell']
 |top v=>simp[oneCell]at h1
 |agg xs vs a=>simp[oneCell]at h1
 |tup xs vs a=>simp[oneCell]at h1
 |_=>rfl
theorem ai.cells{ρ:Ren}{x:AV}{v:Value}(h:ai ρ x v)(ht:∀ (_:x=.top),False):aQ ρ x.cells v.cells.toList:=by
 cases h with
 |top=>exact(ht rfl).elim
 |agg xs vs a=>exact a
 |sc v p =>
  have:v.cells.toList=[v]:=by cases v<;>first|rfl|simp[plain]at p
  rw[this];exact .cons _ _ _ _ (.sc v p) .nil
 |atl k c p=>exact .cons _ _ _ _ (.atl k c p) .nil
 |tup xs vs a=>exact .cons _ _ _ _ (.tup xs vs a) .nil
 |ptr b o i e=>exact .cons _ _ _ _ (.ptr b o i e) .nil
 |jv b o l c i e=>exact .cons _ _ _ _ (.jv b o l c i e) .nil
 |lQ b k l i e q=>exact .cons _ _ _ _ (.lQ b k l i e q) .nil
 |emp b a c=>exact .cons _ _ _ _ (.emp b a c) .nil
 |map b i e=>exact .cons _ _ _ _ (.map b i e) .nil
 |fn f xs ys us vs p a b=>exact .cons _ _ _ _ (.fn f xs ys us vs p a b) .nil
 |ifc t x v a=>exact .cons _ _ _ _ (.ifc t x v a) .nil
theorem GA(ρ:Ren){v:Value}{x:AV}(h:ui v=some x):ai ρ x v:=by
 unfold ui at h
 split at h
 ·rename_i f
  cases f with
  |yield=>simp at h
  |_=>simp at h;subst h;exact .fn _ _ _ _ _ rfl .nil .nil
 ·rename_i t v
  split at h
  ·rename_i hp;cases h;exact .ifc _ _ _ (.sc _ hp)
  ·cases h
 ·split at h
  ·rename_i hp;cases h;exact .sc _ hp
  ·cases h
end Go.Ab
namespace Go.Ab
open Go Go.RowKit
def dB(ρ:Ren):List (AV×AV×Nat)→List MapEntry→Prop
 |[],[]=>True
 |(k,v,n)::es,f::fs=>ai ρ k f.key∧ai ρ v f.val∧f.born=n∧dB ρ es fs
 |_,_=>False
structure OY(P:Program)(ρ:Ren)(i:gF)(n:Nat)(tree:Tree AV)(zs:List AV)(opn:Bool)(elem:TypeId)(fz:Nat)(c:Array Value)(fr:Nat×Nat):Prop where
 size:i.sh+n≤c.size
 val:∀ k x,cellAt tree zs n k=some x→∃ v,c[i.sh+k]?=some v∧ai ρ x v
 free:∀ k,fz≤k→i.sh+k<c.size→¬ (fr.1≤i.sh+k∧i.sh+k<fr.2)
 mark:opn=false→fz=0→fr.1=fr.2∧fr.2≤c.size
 opn:opn=true→0<i.esz∧c.size=i.sh+i.jQ*i.esz∧aL P elem=some i.esz
 sh0:i.sh=0
def jL(P:Program)(ρ:Ren)(i:gF):mY→Obj→Prop
 |.row n tree zs opn elem fz,o=>∃ c fr,o=.cells c elem fr∧OY P ρ i n tree zs opn elem fz c fr
 |.map es clock,o=>∃ fs,o=.map fs clock∧dB ρ es fs.toList
 |.iter m since seen stepped,o=>i.sh=0∧∃ m',o=.mapIter m' since ⟨seen⟩ stepped∧(match m with|none=>m'=none|some b=>∃ j,ρ b=some j∧m'=some j.cb)
 |.mi s pos,o=>i.sh=0∧o=.stringIter s pos
theorem dB.mono{ρ ρ' : Ren}(h:ρ.le ρ'):∀ {es:List (AV×AV×Nat)}{fs:List MapEntry},dB ρ es fs→dB ρ' es fs
 |[],[],_=>trivial
 |(_,_,_)::_,_::_,⟨a,b,c,d⟩=>⟨a.mono h,b.mono h,c,dB.mono h d⟩
 |[],_::_,k=>k.elim
 |_::_,[],k=>k.elim
theorem OY.mono{P:Program}{ρ ρ' : Ren}(h:ρ.le ρ'){i:gF}{n:Nat}{tree:Tree AV}{zs:List AV}{opn:Bool}{elem:TypeId}{fz:Nat}{c:Array Value}{fr:Nat×Nat}
  (k:OY P ρ i n tree zs opn elem fz c fr):OY P ρ' i n tree zs opn elem fz c fr :=
 ⟨k.size,fun j x hx=>let ⟨v,a,b⟩:=k.val j x hx; ⟨v,a,b.mono h⟩,k.free,k.mark,k.opn,k.sh0⟩
theorem jL.mono{P:Program}{ρ ρ' : Ren}(h:ρ.le ρ'){i:gF}:∀ {x:mY}{o:Obj},jL P ρ i x o→jL P ρ' i x o
 |.row _ _ _ _ _ _,_,⟨c,fr,e,k⟩=>⟨c,fr,e,k.mono h⟩
 |.map _ _,_,⟨fs,e,k⟩=>⟨fs,e,k.mono h⟩
 |.iter m _ _ _,_,⟨h0,m',e,k⟩=>⟨h0,m',e,by
   cases m with
   |none=>exact k
   |some b=>obtain⟨j,a,c⟩:=k;exact⟨j,h _ _ a,c⟩⟩
 |.mi _ _,_,k=>k
structure Base where
 n:Nat
 inv:World→Prop
 low:∀ w w' : World,(∀ c,c<n→w'.heap[c]?=w.heap[c]?)→inv w→inv w'
instance:CoeOut Base Nat:=⟨Base.n⟩
structure dD(P:Program)(base:Base)(ρ:Ren)(A:AW)(w:World):Prop where
 dom:∀ b i,ρ b=some i→b<A.next∧i.cb<w.heap.size
 blk:∀ b i x,ρ b=some i→A.heap.get b=some x→∃ o,w.heap[i.cb]?=some o∧jL P ρ i x o
 sep:∀ b b' i i' x x',ρ b=some i→ρ b'=some i'→A.heap.get b=some x→A.heap.get b'=some x'→i.cb=i'.cb→b=b'
 top:∀ b x,A.heap.get b=some x→b<A.next
 lo:∀ b i x,ρ b=some i→A.heap.get b=some x→base≤i.cb
 inv:base.inv w
structure Step(base n:Nat)(ρ:Ren)(w:World)(ρ' : Ren)(w' : World):Prop where
 os:w'.os=w.os
 tape:w'.tape=w.tape
 output:w'.output=w.output
 size:w.heap.size≤w'.heap.size
 frame:∀ c,c<w.heap.size→(∀ b i,ρ b=some i→i.cb≠c)→w'.heap[c]?=w.heap[c]?
 ext:∀ b,b<n→ρ' b=ρ b
 fresh:∀ b i,ρ' b=some i→(∃ b0 i0,ρ b0=some i0∧i0.cb=i.cb)∨w.heap.size≤i.cb
 low:∀ c,c<base→w'.heap[c]?=w.heap[c]?
theorem Step.refl{base:Nat}(n:Nat)(ρ:Ren)(w:World):Step base n ρ w ρ w :=
 ⟨rfl,rfl,rfl,Nat.le_refl _,fun _ _ _=>rfl,fun _ _=>rfl,fun b i h=>.inl ⟨b,i,h,rfl⟩,fun _ _=>rfl⟩
theorem Step.trans{base n n' : Nat}{ρ ρ1 ρ2:Ren}{w w1 w2:World}(h:Step base n ρ w ρ1 w1)(k:Step base n' ρ1 w1 ρ2 w2)(hn:n≤n'):Step base n ρ w ρ2 w2 where
 low c hc:=(k.low c hc).trans (h.low c hc)
 os:=k.os.trans h.os
 tape:=k.tape.trans h.tape
 output:=k.output.trans h.output
 size:=Nat.le_trans h.size k.size
 frame c hc hu:=by
  rw[k.frame c (Nat.lt_of_lt_of_le hc h.size) fun b i hb e=>?_,h.frame c hc hu]
  rcases h.fresh b i hb with⟨b0,i0,h0,e0⟩|hlt
  ·exact hu b0 i0 h0 (e0.trans e)
  ·omega
 ext b hb:=(k.ext b (Nat.lt_of_lt_of_le hb hn)).trans (h.ext b hb)
 fresh b i hb:=by
  rcases k.fresh b i hb with⟨b0,i0,h0,e0⟩|hlt
  ·rcases h.fresh b0 i0 h0 with⟨b1,i1,h1,e1⟩|hlt
   ·exact .inl ⟨b1,i1,h1,e1.trans e0⟩
   ·exact .inr (by omega)
  ·exact .inr (Nat.le_trans h.size hlt)
theorem Step.le{P:Program}{base:Base}{ρ ρ' : Ren}{A:AW}{w w' : World}(h:Step base A.next ρ w ρ' w')(hw:dD P base ρ A w):ρ.le ρ' :=
 fun b i hb=>by rw[h.ext b (hw.dom b i hb).1,hb]
theorem dD.drew{P:Program}{base:Base}{ρ:Ren}{A:AW}{w:World}(h:dD P base ρ A w):dD P base ρ A w.drew :=
 ⟨h.dom,h.blk,h.sep,h.top,h.lo,base.low w w.drew (fun _ _=>rfl) h.inv⟩
theorem Step.drew{base n:Nat}{ρ:Ren}{w:World}:Step base n ρ w ρ w.drew :=
 ⟨rfl,rfl,rfl,Nat.le_refl _,fun _ _ _=>rfl,fun _ _=>rfl,fun b i h=>.inl ⟨b,i,h,rfl⟩,fun _ _=>rfl⟩
theorem Kv{tree:Tree AV}{zs:List AV}{n:Nat}:∀ (k o:Nat){vs:List AV},cells tree zs n o k=some vs→vs.length=k∧∀ j x,vs[j]?=some x→cellAt tree zs n (o+j)=some x
 |0,o,vs,h=>by simp[cells]at h;subst h;simp
 |k+1,o,vs,h=>by
  simp only[cells]at h
  split at h
  ·cases h
  ·rename_i v hv
   split at h
   ·rename_i us hus
    cases h
    obtain⟨hl,hg⟩:=Kv k (o+1) hus
    refine⟨by simp[hl],fun j x hx=>?_⟩
    cases j with
    |zero=>simp at hx;subst hx;simpa using hv
    |succ j=>have:=hg j x (by simpa using hx);rw[← this];congr 1;omega
   ·cases h
theorem MB{ρ:Ren}:∀ (xs:List AV)(f:Nat→Value),(∀ j x,xs[j]?=some x→ai ρ x (f j))→aQ ρ xs ((List.range xs.length).map f)
 |[],_,_=>by simpa using .nil
 |x::xs,f,h=>by
  rw[List.length_cons,List.range_succ_eq_map,List.map_cons,List.map_map]
  exact .cons _ _ _ _ (h 0 x (by simp)) (MB xs (f ∘ Nat.succ) fun j y hy=>h (j+1) y (by simpa using hy))
theorem fw(cb o k:Nat):(⟨cb,o,none⟩ : Addr).add k=⟨cb,o+k,none⟩:=by unfold Addr.add;split<;>simp_all
section
variable {P:Program} {base:Base} {ρ:Ren} {A:AW} {w:World}
theorem iO(hw:dD P base ρ A w){b o k:Nat}{i:gF}{xs:List AV}(hb:ρ b=some i)(h:A.loads b o k=some xs) :
  ∃ vs,aQ ρ xs vs∧vs.length=k∧∀ j v,vs[j]?=some v→w.cell? ((⟨i.cb,i.sh+o,none⟩ : Addr).add j)=some v:=by
 unfold AW.loads at h
 split at h
 ·rename_i n tree zs opn elem fz hg
  obtain⟨ob,hob,c,fr,rfl,hr⟩:=hw.blk b i _ hb hg
  obtain⟨hl,hc⟩:=Kv k o h
  refine⟨(List.range xs.length).map fun j=>c.getD (i.sh+(o+j)) default,MB xs _ fun j x hx=>?_,by simpa using hl,fun j v hv=>?_⟩
  ·obtain⟨v,hv,hrel⟩:=hr.val _ _ (hc j x hx)
   simpa [Array.getD_eq_getD_getElem?,hv]using hrel
  ·have hj:j<xs.length:=by
    rcases Nat.lt_or_ge j xs.length with h|h
    ·exact h
    ·simp[h]at hv
   obtain⟨u,hu,_⟩:=hr.val _ _ (hc j xs[j] (by simp[hj]))
   simp[hj,hu]at hv
   subst hv
   rw[fw,World.cell?,hob]
   simp[Nat.add_assoc,hu]
 ·cases h
theorem mW(hw:dD P base ρ A w){b o k:Nat}{i:gF}{xs:List AV}(hb:ρ b=some i)(h:A.loads b o k=some xs) :
  ∃ vs,aQ ρ xs vs∧vs.length=k∧(∀ j v,vs[j]?=some v→w.cell? ((⟨i.cb,i.sh+o,none⟩ : Addr).add j)=some v)∧(loadCells ⟨i.cb,i.sh+o,none⟩ k).run P w=.ok ⟨vs⟩ w:=by
 obtain⟨vs,h1,h2,h3⟩:=iO hw hb h
 exact⟨vs,h1,h2,h3,by have:=run_loadCells_list (P:=P) w ⟨i.cb,i.sh+o,none⟩ vs h3;rw[h2]at this;exact this⟩
theorem vL(g o:Nat)(t:TypeId)(fr:Nat×Nat):∀ (vs:List Value)(i:Nat)(cur:Array Value)(w:World),w.heap[g]?=some (.cells cur t fr)→o+i+vs.length≤cur.size→(∀ v∈vs,v.oneCell'=true) →
  (∀ k,k<vs.length→¬ (fr.1≤o+i+k∧o+i+k<fr.2)) →
  ∃ cur',(storeCells ⟨g,o,none⟩ vs i).run P w=.ok () (w.setRow g cur')∧cur'.size=cur.size∧∀ k,cur'[k]?=if o+i≤k∧k<o+i+vs.length then vs[k-(o+i)]? else cur[k]?
 |[],i,cur,w,hg,_,_,_=>⟨cur,by rw[setRow_self w g cur t fr hg];rfl,rfl,fun k=>by
   rw[if_neg];simp only[List.length_nil];omega⟩
 |v::rest,i,cur,w,hg,hl,h1,hfz=>by
  have hi:o+i<cur.size:=by simp at hl;omega
  have hadd:(⟨g,o,none⟩ : Addr).add i=⟨g,o+i,none⟩:=fw g o i
  have hcell:w.cell? ⟨g,o+i,none⟩=some cur[o+i]:=by simp[World.cell?,hg,hi]
  have hfro:w.frozen? ⟨g,o+i,none⟩=false:=by
   have:=hfz 0 (by simp)
   simp only[World.frozen?,hg]
   simp only[Nat.add_zero]at this
   rw[← Bool.not_eq_true]
   simpa using this
  have hst:(store ((⟨g,o,none⟩ : Addr).add i) v).run P w=.ok () (w.setRow g (cur.setIfInBounds (o+i) v)):=by
   rw[hadd,run_store P w _ v _ (h1 v (by simp)),hcell]
   simp[hfro,setCell_eq_setRow w g (o+i) cur t fr v hg]
  obtain⟨cur',ih,hs,hk⟩:=vL g o t fr rest (i+1) (cur.setIfInBounds (o+i) v) (w.setRow g (cur.setIfInBounds (o+i) v)) (setRow_heap w g cur _ t _ hg) (by simp at hl ⊢;omega) (fun x hx=>h1 x (by simp[hx]))
   (fun k hk=>by have:=hfz (k+1) (by simpa using hk);rw[show o+(i+1)+k=o+i+(k+1) by omega];exact this)
  refine⟨cur', ?_,by simpa using hs,fun k=>?_⟩
  ·simp only[storeCells,Sem.run_bind,hst,Result.andThen_ok,ih,setRow_setRow]
  ·rw[hk k]
   by_cases e:k=o+i
   ·subst e
    rw[if_neg (by omega),if_pos (by simp only[List.length_cons];omega)]
    simp[hi]
   ·have h2:(cur.setIfInBounds (o+i) v)[k]?=cur[k]?:=Array.getElem?_setIfInBounds_ne (by omega)
    rw[h2]
    by_cases h3:o+(i+1)≤k∧k<o+(i+1)+rest.length
    ·rw[if_pos h3,if_pos (by simp only[List.length_cons];omega)]
     rw[show k-(o+i)=(k-(o+(i+1)))+1 by omega]
     simp
    ·rw[if_neg h3,if_neg (by simp only[List.length_cons];omega)]
theorem fK:∀ (vs:List AV)(t:Tree AV)(o:Nat){t' : Tree AV},lH t o vs=some t' →
  (∀ v∈vs,oneCell v=true)∧∀ m,t'.get m=if o≤m∧m<o+vs.length then vs[m-o]? else t.get m
 |[],t,o,t',h=>by
  simp[lH]at h;subst h
  exact⟨by simp,fun m=>by rw[if_neg];simp only[List.length_nil];omega⟩
 |v::vs,t,o,t',h=>by
  simp only[lH]at h
  split at h
  ·rename_i hv
   obtain⟨h1,h2⟩:=fK vs (t.set o v) (o+1) h
   refine⟨fun x hx=>?_,fun m=>?_⟩
   ·rcases List.mem_cons.1 hx with e|hx
    ·rw[e];exact hv
    ·exact h1 x hx
   rw[h2 m,Tree.bn]
   simp only[List.length_cons]
   by_cases e:m=o
   ·subst e;rw[if_neg (by omega),if_pos rfl,if_pos (by omega)];simp
   ·rw[if_neg e]
    by_cases h:o+1≤m∧m<o+1+vs.length
    ·rw[if_pos h,if_pos (by omega),show m-o=(m-(o+1))+1 by omega];simp
    ·rw[if_neg h,if_neg (by omega)]
  ·cases h
theorem aU{a b:Nat}:Nat.ble a b=true↔a≤b:=⟨Nat.le_of_ble_eq_true,Nat.ble_eq_true_of_le⟩
theorem pQ{t t' : Tree AV}{zs vs:List AV}{n o:Nat}(hp:∀ m,t'.get m=if o≤m∧m<o+vs.length then vs[m-o]? else t.get m)(k:Nat) :
  cellAt t' zs n k=if o≤k∧k<o+vs.length then(if k+1≤n then vs[k-o]? else none)else cellAt t zs n k:=by
 unfold cellAt
 rw[hp k]
 by_cases h:o≤k∧k<o+vs.length
 ·rw[if_pos h,if_pos h]
  have:k-o<vs.length:=by omega
  cases hb:Nat.ble (k+1) n
  ·have:¬ (k+1≤n):=fun e=>by rw[aU.2 e]at hb;cases hb
   rw[if_neg this]
  ·rw[if_pos (aU.1 hb)]
   simp[‹k-o<vs.length›]
 ·rw[if_neg h,if_neg h]
theorem qg(hw:dD P base ρ A w){b o:Nat}{i:gF}{xs:List AV}{vs:List Value}{A' : AW}(hb:ρ b=some i)(hv:aQ ρ xs vs)(h:A.stores b o xs=some A') :
  ∃ w',(∀ off,off=i.sh+o→(storeCells ⟨i.cb,off,none⟩ vs).run P w=.ok () w')∧dD P base ρ A' w'∧Step base A.next ρ w ρ w'∧A'.next=A.next:=by
 unfold AW.stores at h
 split at h
 ·rename_i n tree zs opn elem fz hg
  split at h
  ·rename_i hn hf
   split at h
   ·rename_i zU nK
    cases h
    obtain⟨ob,hob,c,fr,rfl,hr⟩:=hw.blk b i _ hb hg
    obtain⟨hone,hget⟩:=fK _ _ _ nK
    have hn':=aU.1 hn
    have hf':=aU.1 hf
    have hlen:=hv.length
    obtain⟨cur',hrun,hsz,ack⟩:=vL (P:=P) i.cb (i.sh+o) elem fr vs 0 c w hob (by have:=hr.size;omega)
     (by
      intro v hvm
      obtain⟨j,hj⟩:=List.mem_iff_getElem?.1 hvm
      have hjl:j<xs.length:=by
       have:=(List.getElem?_eq_some_iff.1 hj).1
       omega
      obtain⟨u,hu,hrel⟩:=hv.get (n:=j) (x:=xs[j]) (by simp[hjl])
      rw[hj]at hu;cases hu
      exact OZ hrel (hone _ (List.getElem_mem _)))
     (fun k hk=>by
      have:=hr.free (o+k) (by omega) (by have:=hr.size;omega)
      simpa [Nat.add_assoc]using this)
    refine⟨w.setRow i.cb cur',fun off e=>by rw[e];exact hrun,⟨?_, ?_, ?_, ?_, ?_,base.low w _ (fun k hk=>setRow_other w i.cb k cur' (fun e=>by have:=hw.lo b i _ hb hg;omega)) hw.inv⟩,⟨rfl,rfl,rfl,by simp, ?_,fun _ _=>rfl,fun b i h=>.inl ⟨b,i,h,rfl⟩,fun k hk=>setRow_other w i.cb k cur' (fun e=>by have:=hw.lo b i _ hb hg;omega)⟩,rfl⟩
    ·intro b' i' hb';simpa using hw.dom b' i' hb'
    ·intro b' i' x hb' hx
     simp only[Tree.bn]at hx
     by_cases e:b'=b
     ·subst e
      rw[if_pos rfl]at hx
      cases hx
      rw[hb]at hb';cases hb'
      refine⟨_,setRow_heap w i.cb c cur' elem fr hob,cur',fr,rfl,⟨by rw[hsz];exact hr.size,fun k x hk=>?_,fun k hk hs=>hr.free k hk (by rw[hsz]at hs;exact hs),fun ho hz=>by rw[hsz];exact hr.mark ho hz,fun ho=>by rw[hsz];exact hr.opn ho,hr.sh0⟩⟩
      rw[pQ hget]at hk
      have hck:=ack (i.sh+k)
      by_cases hin:o≤k∧k<o+xs.length
      ·rw[if_pos hin]at hk
       split at hk
       ·rw[if_pos (by omega)]at hck
        obtain⟨v,hv1,hv2⟩:=hv.get hk
        exact⟨v,by rw[hck,show i.sh+k-(i.sh+o+0)=k-o by omega];exact hv1,hv2⟩
       ·cases hk
      ·rw[if_neg hin]at hk
       rw[if_neg (by omega)]at hck
       rw[hck]
       exact hr.val k x hk
     ·rw[if_neg e]at hx
      obtain⟨o',ho',hrel⟩:=hw.blk b' i' x hb' hx
      refine⟨o', ?_,hrel⟩
      rw[setRow_other w i.cb i'.cb cur' (fun he=>e (hw.sep _ _ _ _ _ _ hb' hb hx hg he))]
      exact ho'
    ·intro b1 b2 i1 i2 x1 x2 h1 h2 g1 g2 he
     simp only[Tree.bn]at g1 g2
     have e1:∃ y1,A.heap.get b1=some y1:=by
      by_cases e:b1=b
      ·subst e;exact⟨_,hg⟩
      ·rw[if_neg e]at g1;exact⟨_,g1⟩
     have e2:∃ y2,A.heap.get b2=some y2:=by
      by_cases e:b2=b
      ·subst e;exact⟨_,hg⟩
      ·rw[if_neg e]at g2;exact⟨_,g2⟩
     obtain⟨y1,e1⟩:=e1
     obtain⟨y2,e2⟩:=e2
     exact hw.sep _ _ _ _ _ _ h1 h2 e1 e2 he
    ·intro b' x hx
     simp only[Tree.bn]at hx
     by_cases e:b'=b
     ·subst e;exact hw.top _ _ hg
     ·rw[if_neg e]at hx;exact hw.top _ _ hx
    ·intro b' i' x h1 g1
     simp only[Tree.bn]at g1
     by_cases e:b'=b
     ·subst e;exact hw.lo _ _ _ h1 hg
     ·rw[if_neg e]at g1;exact hw.lo _ _ _ h1 g1
    ·intro k hk hu
     exact setRow_other w i.cb k cur' (fun e=>hu b i hb e.symm)
   ·cases h
  ·cases h
 ·cases h
def Ren.add(ρ:Ren)(b:Nat)(i:gF):Ren:=fun c=>if c=b then some i else ρ c
theorem Ren.yR{ρ:Ren}{b:Nat}{i:gF}(h:ρ b=none):ρ.le (ρ.add b i):=fun c j hc=>by
 unfold Ren.add
 split
 ·rename_i e;subst e;rw[h]at hc;cases hc
 ·exact hc
theorem dD.fresh(hw:dD P base ρ A w){b:Nat}(hb:A.next≤b):ρ b=none:=by
 cases h:ρ b with
 |none=>rfl
 |some i=>have:=(hw.dom b i h).1;omega
theorem WK(hw:dD P base ρ A w)(hbase:base≤w.heap.size){b:Nat}{x:mY}{ob:Obj}{i:gF}(hi:i.cb=w.heap.size)(hb:ρ b=none)(hlt:b<A.next)(hx:A.heap.get b=some x)
  (hrel:jL P (ρ.add b i) i x ob):dD P base (ρ.add b i) A (w.alloc ob)∧Step base b ρ w (ρ.add b i) (w.alloc ob):=by
 have hle:=Ren.yR (i:=i) hb
 have hadd:∀ c j,ρ.add b i c=some j→(c=b∧j=i)∨(c≠b∧ρ c=some j):=by
  intro c j h
  unfold Ren.add at h
  split at h
  ·cases h;exact .inl ⟨‹_›,rfl⟩
  ·exact .inr ⟨‹_›,h⟩
 refine⟨⟨?_, ?_, ?_,hw.top, ?_,base.low w _ (fun c hc=>heap_alloc_old w ob c (by omega)) hw.inv⟩,⟨rfl,rfl,rfl,by simp, ?_, ?_, ?_,fun c hc=>heap_alloc_old w ob c (by omega)⟩⟩
 ·intro c j h
  rcases hadd c j h with⟨rfl,rfl⟩|⟨_,h⟩
  ·exact⟨hlt,by simp;omega⟩
  ·have:=hw.dom c j h;simp;omega
 ·intro c j y h hy
  rcases hadd c j h with⟨rfl,rfl⟩|⟨_,h⟩
  ·rw[hx]at hy;cases hy
   exact⟨ob,by rw[hi];exact heap_alloc_new w ob,hrel⟩
  ·obtain⟨o,ho,hr⟩:=hw.blk c j y h hy
   exact⟨o,by rw[heap_alloc_old w ob j.cb (hw.dom c j h).2];exact ho,hr.mono hle⟩
 ·intro b1 b2 i1 i2 x1 x2 h1 h2 g1 g2 he
  rcases hadd _ _ h1 with⟨e1,f1⟩|⟨_,k1⟩<;>rcases hadd _ _ h2 with⟨e2,f2⟩|⟨_,k2⟩
  ·rw[e1,e2]
  ·have:=(hw.dom _ _ k2).2;subst f1;omega
  ·have:=(hw.dom _ _ k1).2;subst f2;omega
  ·exact hw.sep _ _ _ _ _ _ k1 k2 g1 g2 he
 ·intro c j y h hy
  rcases hadd c j h with⟨rfl,rfl⟩|⟨_,h⟩
  ·omega
  ·exact hw.lo c j y h hy
 ·intro c hc _;exact heap_alloc_old w ob c hc
 ·intro c hc;unfold Ren.add;rw[if_neg (by omega)]
 ·intro c j h
  rcases hadd c j h with⟨rfl,rfl⟩|⟨_,h⟩
  ·exact .inr (by omega)
  ·exact .inl ⟨c,j,h,rfl⟩
theorem Eu(hw:dD P base ρ A w)(x:mY):dD P base ρ (A.push x) w:=by
 have hg:∀ b i y,ρ b=some i→(A.push x).heap.get b=some y→A.heap.get b=some y:=by
  intro b i y hb hy
  simp only[AW.push,Tree.bn]at hy
  rwa [if_neg]at hy
  have:=(hw.dom b i hb).1;omega
 refine⟨fun b i h=>?_,fun b i y h hy=>hw.blk b i y h (hg b i y h hy),fun b1 b2 i1 i2 x1 x2 h1 h2 g1 g2=>hw.sep _ _ _ _ _ _ h1 h2 (hg _ _ _ h1 g1) (hg _ _ _ h2 g2),fun b y hy=>?_,fun b i y h hy=>hw.lo b i y h (hg b i y h hy),hw.inv⟩
 ·have:=hw.dom b i h;simp only[AW.push];omega
 ·simp only[AW.push,Tree.bn]at hy ⊢
  split at hy
  ·omega
  ·have:=hw.top b y hy;omega
theorem CZ(hw:dD P base ρ A w)(hbase:base≤w.heap.size){x:mY}{ob:Obj}{i:gF}(hi:i.cb=w.heap.size)
  (hrel:jL P (ρ.add A.next i) i x ob):dD P base (ρ.add A.next i) (A.push x) (w.alloc ob)∧Step base A.next ρ w (ρ.add A.next i) (w.alloc ob) :=
 WK (Eu hw x) hbase hi (hw.fresh (Nat.le_refl _)) (by simp[AW.push]) (by simp[AW.push,Tree.bn]) hrel
end
section
variable {P:Program} {ρ:Ren}
theorem Ry{β γ:Type}{f:β→Option γ}:∀ {l:List β}{r:List γ},bW f l=some r→∀ x∈l,∃ y,f x=some y
 |[],_,_=>by simp
 |a::l,r,h=>by
  simp only[bW]at h
  split at h
  ·rename_i y hy
   split at h
   ·rename_i ys hys
    intro x hx
    rcases List.mem_cons.1 hx with e|hx
    ·exact⟨y,by rw[e];exact hy⟩
    ·exact Ry hys x hx
   ·cases h
  ·cases h
theorem Ep:∀ {l:List Value}{r:List AV},bW ui l=some r→aQ ρ r l
 |[],r,h=>by simp[bW]at h;subst h;exact .nil
 |a::l,r,h=>by
  simp only[bW]at h
  split at h
  ·rename_i y hy
   split at h
   ·rename_i ys hys
    cases h
    exact .cons _ _ _ _ (GA ρ hy) (Ep hys)
   ·cases h
  ·cases h
theorem iP{v:Value}{x:AV}(h:gy v=some x):ai ρ x v:=by
 unfold gy at h
 split at h
 ·split at h
  ·rename_i hl;cases h;exact .agg _ _ (Ep hl)
  ·cases h
 ·split at h
  ·rename_i hl;cases h;exact .tup _ _ (Ep hl)
  ·cases h
 ·exact GA ρ h
theorem aH{v u:Value}(h:ai ρ (.sc v) u):u=v∧plain v=true:=by cases h;exact⟨rfl,‹_›⟩
theorem aQ.sH{u:List Value}(h:aQ ρ [] u):u=[]:=by cases h;rfl
theorem O0{x:AV}{u v:Value}(h:ai ρ x v)(hu:toCell x=some u):v=u:=by
 unfold toCell at hu
 split at hu
 ·cases hu;exact(aH h).1
 ·cases hu
  cases h with
  |fn f xs ys us vs p a b=>rw[a.sH,b.sH]
 ·cases hu
  cases h with
  |ifc t x v a=>rw[(aH a).1]
 ·cases hu
theorem EE:∀ {xs:List AV}{us vs:List Value},aQ ρ xs vs→bW toCell xs=some us→vs=us
 |[],us,_,h,hu=>by simp[bW]at hu;subst hu;exact h.sH
 |x::xs,us,_,.cons _ v _ vs a b,hu=>by
  simp only[bW]at hu
  split at hu
  ·rename_i y hy
   split at hu
   ·rename_i ys hys
    cases hu
    rw[O0 a hy,EE b hys]
   ·cases hu
  ·cases hu
theorem lF{x:AV}{u v:Value}(h:ai ρ x v)(hu:bZ x=some u):v=u:=by
 unfold bZ at hu
 split at hu
 ·split at hu
  ·rename_i hl;cases hu
   cases h with
   |agg xs vs a=>rw[EE a hl]
  ·cases hu
 ·split at hu
  ·rename_i hl;cases hu
   cases h with
   |tup xs vs a=>rw[EE a hl]
  ·cases hu
 ·exact O0 h hu
theorem fE{β:Type}:∀ {s:Sem β}{a:β},bA P s=some a→∀ w,s.run P w=.ok a w
 |.pure b,a,h,w=>by simp[bA]at h;subst h;rfl
 |.program k,a,h,w=>by
  simp only[bA]at h
  exact fE h w
 |.mark m k,a,h,w=>by
  simp only[bA]at h
  exact fE h w
 |.load ..,a,h,_|.store ..,a,h,_|.new ..,a,h,_|.shape ..,a,h,_|.freeze ..,a,h,_|.frozen ..,a,h,_|.getObj ..,a,h,_
 |.setObj ..,a,h,_|.choose ..,a,h,_|.sys ..,a,h,_|.halt ..,a,h,_=>by simp[bA]at h
def Gives(P:Program)(ρ:Ren)(o:Oper)(c:Operand→Value)(v:AV):Prop :=
 ∃ v',(∀ w,(execOp c o).run P w=.ok (.value v') w)∧ai ρ v v'
variable {o:Oper} {e:Operand→AV} {c:Operand→Value} {v:AV}
theorem lU(hs:∀ cs b,o.op≠.select cs b)(he:∀ x∈o.op.operands,ai ρ (e x) (c x))(h:jS P o e=some v):Gives P ρ o c v:=by
 unfold jS at h
 split at h
 ·cases h
 ·rename_i l hl
  split at h
  ·rename_i u hu
   refine⟨u,fun w=>?_,iP h⟩
   rw[execOp_congr (ρ':=fun x=>(bZ (e x)).getD default) o hs fun x hx=>?_]
   ·exact fE hu w
   ·obtain⟨y,hy⟩:=Ry hl x (by simpa using hx)
    simp only[hy,Option.getD_some]
    exact lF (he x hx) hy
  ·cases h
theorem bX{b p:Nat}{u:Value}(h:ai ρ (.ptr b p) u):∃ i,ρ b=some i∧u=.pointer (some ⟨i.cb,i.sh+p,none⟩):=by
 cases h;exact⟨_,‹_›,rfl⟩
theorem Aq{cs:List AV}{u:Value}(h:ai ρ (.agg cs) u):∃ vs,u=.agg ⟨vs⟩∧aQ ρ cs vs:=by
 cases h;exact⟨_,rfl,‹_›⟩
theorem EZ{cs:List AV}{u:Value}(h:ai ρ (.tup cs) u):∃ vs,u=.tuple ⟨vs⟩∧aQ ρ cs vs:=by
 cases h;exact⟨_,rfl,‹_›⟩
theorem mF{x:AV}{n:Nat}{u:Value}(h:ai ρ x u)(hn:gm x=some n):∃ k,u=.int k n:=by
 unfold gm at hn
 split at hn
 ·cases hn;exact⟨_,(aH h).1⟩
 ·cases hn
theorem cZ{t:TypeId}{n:Nat}(h:aL P t=some n)(w:World):(sizeOf t).run P w=.ok n w:=by
 unfold aL at h
 cases hi:P.info? t with
 |none=>simp[hi]at h
 |some i=>simp[hi]at h;subst h;simp[sizeOf,typeInfo,hi]
theorem jk{t:TypeId}{b:Bool}(h:bK P t=some b)(w:World):(isAgg t).run P w=.ok b w:=by
 unfold bK at h
 cases hu:P.underlying t with
 |none=>simp[hu]at h
 |some d =>
  simp only[isAgg,Sem.run_bind,run_underlying hu,Result.andThen_ok]
  rw[hu]at h
  cases d<;>(simp only[Option.some.injEq]at h;subst h;rfl)
theorem OE{x:Operand}(hop:o.op=.move x∨o.op=.assign x)(he:ai ρ (e x) (c x)):Gives P ρ o c (e x) :=
 ⟨c x,fun w=>by rcases hop with h|h<;>simp[execOp,h],he⟩
theorem Pg{s:TypeId}{x:Operand}{f:Nat}{fields:Array Field}{b p n:Nat}{fd:Field}(hop:o.op=.fieldAddr s x f)(he:ai ρ (e x) (c x))
  (hu:P.underlying s=some (.struct fields)) (hx:e x=.ptr b p) (hf:fields[f]?=some fd) (hs:aL P fd.type=some (n+1)) :
  Gives P ρ o c (.ptr b (p+fd.offset)):=by
 rw[hx]at he
 obtain⟨i,hb,hc⟩:=bX he
 refine⟨_,fun w=>?_,.ptr b (p+fd.offset) i hb⟩
 simp only[execOp,hop,hc,Instr.fieldAt,Sem.run_bind,run_underlying hu,Result.andThen_ok,hf,Instr.sureAddr,Sem.run_pure,fieldPlace,cZ hs]
 simp[fw,Nat.add_assoc]
theorem eZ{b p len:Nat}{cap:Cap}{u:Value}(h:ai ρ (.slc b p len cap) u) :
  ∃ i c,ρ b=some i∧u=.slice (some ⟨i.cb,i.sh+p,none⟩) len c:=by
 cases h with
 |jv _ _ _ _ i hb=>exact⟨i,_,hb,rfl⟩
 |lQ _ k _ i hb hk=>exact⟨i,_,hb,rfl⟩
theorem OI{t elem:TypeId}{x ix:Operand}{b p len j size:Nat}{cap:Cap}(hop:o.op=.indexAddr t x ix)(he:ai ρ (e x) (c x))(hi:ai ρ (e ix) (c ix))
  (hu:P.underlying t=some (.slice elem)) (hx:e x=.slc b p len cap) (hj:gm (e ix)=some j) (hl:j<len) (hs:aL P elem=some size) :
  Gives P ρ o c (.ptr b (p+j*size)):=by
 rw[hx]at he
 obtain⟨i,cp,hb,hc⟩:=eZ he
 obtain⟨k,hk⟩:=mF hi hj
 refine⟨_,fun w=>?_,.ptr b (p+j*size) i hb⟩
 simp only[execOp,hop,hc,hk,Instr.indexAt,Sem.run_bind,asIntOf,Sem.run_pure,run_underlying hu,Result.andThen_ok]
 simp[hl,cZ hs,fw,Nat.add_assoc]
theorem Pv{t elem:TypeId}{x ix:Operand}{b p len j size:Nat}(hop:o.op=.indexAddr t x ix)(he:ai ρ (e x) (c x))(hi:ai ρ (e ix) (c ix))
  (hu:P.underlying t=some (.array len elem)) (hx:e x=.ptr b p) (hj:gm (e ix)=some j) (hl:j<len) (hs:aL P elem=some size) :
  Gives P ρ o c (.ptr b (p+j*size)):=by
 rw[hx]at he
 obtain⟨i,hb,hc⟩:=bX he
 obtain⟨k,hk⟩:=mF hi hj
 refine⟨_,fun w=>?_,.ptr b (p+j*size) i hb⟩
 simp only[execOp,hop,hc,hk,Instr.indexAt,Sem.run_bind,asIntOf,Sem.run_pure,run_underlying hu,Result.andThen_ok,Instr.sureAddr]
 simp[hl,cZ hs,fw,Nat.add_assoc]
theorem Py{t:TypeId}{cs:List AV}{vs:List Value}{off:Nat}(h:partOf P t cs off=some v)(hr:aQ ρ cs vs) :
  ∃ v',(∀ w,(part t ⟨vs⟩ off).run P w=.ok v' w)∧ai ρ v v':=by
 unfold partOf at h
 split at h
 ·rename_i n ha hs
  split at h
  ·rename_i hb
   cases h
   refine⟨.agg ⟨(vs.drop off).take n⟩,fun w=>?_,.agg _ _ ((hr.drop off).take n)⟩
   simp only[part,Sem.run_bind,jk ha,Result.andThen_ok,if_true,cZ hs,Sem.run_pure]
   simp[List.take_drop]
  ·cases h
 ·rename_i ha
  rw[cB]at h
  obtain⟨u,hu,hv⟩:=hr.get h
  refine⟨u,fun w=>?_,hv⟩
  simp only[part,Sem.run_bind,jk ha,Result.andThen_ok,Bool.false_eq_true,if_false]
  simp[hu]
 ·cases h
theorem YP{t:TypeId}{x:Operand}{f:Nat}{fields:Array Field}{cs:List AV}{fd:Field}(hop:o.op=.field t x f)(he:ai ρ (e x) (c x))
  (hu:P.underlying t=some (.struct fields)) (hx:e x=.agg cs) (hf:fields[f]?=some fd) (h:partOf P fd.type cs fd.offset=some v):Gives P ρ o c v:=by
 rw[hx]at he
 obtain⟨vs,hc,hr⟩:=Aq he
 obtain⟨v',h1,h2⟩:=Py h hr
 refine⟨v',fun w=>?_,h2⟩
 simp only[execOp,hop,hc,Instr.field,Sem.run_bind,run_underlying hu,Result.andThen_ok,hf,asAgg,Sem.run_pure,h1]
theorem Zh{t elem:TypeId}{x ix:Operand}{cs:List AV}{len j size:Nat}(hop:o.op=.index t x ix)(he:ai ρ (e x) (c x))(hi:ai ρ (e ix) (c ix))
  (hu:P.underlying t=some (.array len elem)) (hx:e x=.agg cs) (hj:gm (e ix)=some j) (hl:j<len) (hs:aL P elem=some size)
  (h:partOf P elem cs (j*size)=some v):Gives P ρ o c v:=by
 rw[hx]at he
 obtain⟨vs,hc,hr⟩:=Aq he
 obtain⟨k,hk⟩:=mF hi hj
 obtain⟨v',h1,h2⟩:=Py h hr
 refine⟨v',fun w=>?_,h2⟩
 simp only[execOp,hop,hc,hk,Instr.index,Sem.run_bind,asIntOf,Sem.run_pure,run_underlying hu,Result.andThen_ok]
 simp[hl,cZ hs,h1]
theorem U7{t:TypeId}{x ix:Operand}{s:ByteArray}{j:Nat}{b:UInt8}(hop:o.op=.index t x ix)(he:ai ρ (e x) (c x))(hi:ai ρ (e ix) (c ix))
  (hu:P.underlying t=some .string) (hx:e x=.sc (.string s)) (hj:gm (e ix)=some j) (hb:nth s.data.toList j=some b):Gives P ρ o c (.sc (.int .u8 b.toNat)):=by
 rw[hx]at he
 have hc:=(aH he).1
 obtain⟨k,hk⟩:=mF hi hj
 refine⟨_,fun w=>?_,.sc _ rfl⟩
 rw[cB]at hb
 have hlt:j<s.size:=by
  have h0:=(List.getElem?_eq_some_iff.1 hb).1
  rw[Array.length_toList]at h0
  exact h0
 have hg:s[j]?=some b:=by
  rw[getElem?_pos s j hlt]
  simp only[Array.getElem?_toList]at hb
  have h2:s.data[j]?=some b:=hb
  have h3:j<s.data.size:=hlt
  rw[Array.getElem?_eq_getElem h3]at h2
  exact h2
 simp only[execOp,hop,hc,hk,Instr.index,Sem.run_bind,asIntOf,Sem.run_pure,run_underlying hu,Result.andThen_ok,Int.natCast_nonneg,if_true,Int.toNat_natCast,hg]
theorem Tk{x:Operand}{i:Nat}{vs:List AV}(hop:o.op=.extract x i)(he:ai ρ (e x) (c x))(hx:e x=.tup vs)(h:nth vs i=some v):Gives P ρ o c v:=by
 rw[hx]at he
 obtain⟨us,hc,hr⟩:=EZ he
 rw[cB]at h
 obtain⟨u,hu,hv⟩:=hr.get h
 exact⟨u,fun w=>by simp only[execOp,hop,hc,Instr.extract,List.getElem?_toArray,hu,Sem.run_bind,Sem.run_pure,Result.andThen_ok],hv⟩
theorem Jq{t:TypeId}{x:Operand}{d:TypeDesc}(hop:o.op=.makeInterface t x)(he:ai ρ (e x) (c x))(hu:P.underlying t=some d)(hn:∀ ms,d≠.interface ms) :
  Gives P ρ o c (.ifc t (e x)):=by
 refine⟨_,fun w=>?_,.ifc t _ _ he⟩
 simp only[execOp,hop,Instr.makeInterface,Sem.run_bind,run_underlying hu,Result.andThen_ok]
 cases d<;>first|rfl|exact absurd rfl (hn _)
theorem Rq{f:Fn}{first captured:Array Operand}(hop:o.op=.makeFunc f first captured)(hf:aas f=true)(he:∀ x∈o.op.operands,ai ρ (e x) (c x)) :
  Gives P ρ o c (.fn f (first.toList.map e) (captured.toList.map e)):=by
 rw[hop]at he
 simp only[Op.operands,Array.mem_append]at he
 refine⟨.func f ⟨first.toList.map c⟩ ⟨captured.toList.map c⟩,fun w=>?_,.fn _ _ _ _ _ hf (aQ.wF _ fun x hx=>he x (.inl (by simpa using hx))) (aQ.wF _ fun x hx=>he x (.inr (by simpa using hx)))⟩
 simp only[execOp,hop,Instr.makeFunc,Sem.run_bind,Sem.run_pure,Result.andThen_ok]
 congr 3<;>exact(Array.toList_map ..).symm▸rfl
end
section
variable {P:Program} {ρ:Ren} {o:Oper} {e:Operand→AV} {c:Operand→Value} {v:AV}
theorem JJ{d l:Nat}{lo:Option Operand}(h:gM e d lo=some l)(hr:∀ x,lo=some x→ai ρ (e x) (c x)) :
  (lo=none∧l=d)∨∃ x k,lo=some x∧c x=.int k l:=by
 cases lo with
 |none=>simp[gM]at h;exact .inl ⟨rfl,h.symm⟩
 |some x =>
  simp only[gM]at h
  obtain⟨k,hk⟩:=mF (hr x rfl) h
  exact .inr ⟨x,k,rfl,hk⟩
theorem oI(k:IntKind){l y:Nat}(code:BoundsCode)(h:l≤y)(w:World):(Instr.sliceBound (.int k l) y code).run P w=.ok l w:=by
 simp only[Instr.sliceBound,asIntOf,Sem.run_bind,Sem.run_pure,Result.andThen_ok]
 rw[if_pos (by omega)]
 simp
theorem iC{isS:Bool}{len cap l h:Nat}{lo hi:Option Operand}(hl:gM e 0 lo=some l)(hh:gM e len hi=some h)(h1:l≤h)(h2:hi≠none→h≤cap)
  (rl:∀ x,lo=some x→ai ρ (e x) (c x)) (rh:∀ x,hi=some x→ai ρ (e x) (c x)) (w:World) :
  (Instr.sliceBounds isS len cap (lo.map c) (hi.map c) none).run P w=.ok (l,h,cap) w:=by
 simp only[Instr.sliceBounds,Sem.run_bind,Sem.run_pure,Result.andThen_ok]
 rcases JJ hl rl with⟨rfl,rfl⟩|⟨x,k,rfl,hx⟩<;>rcases JJ hh rh with⟨rfl,rfl⟩|⟨y,k',rfl,hy⟩
 ·simp
 ·simp[hy,oI k' _ (h2 (by simp))]
 ·simp[hx,oI k _ h1]
 ·simp[hx,hy,oI k' _ (h2 (by simp)),oI k _ h1]
theorem qE{isS:Bool}{len cap l h m:Nat}{lo:Option Operand}{z y:Operand}(hl:gM e 0 lo=some l)(hh:gm (e z)=some h)(hm:gm (e y)=some m)(h1:l≤h)(h2:h≤m)(h3:m≤cap)
  (rl:∀ x,lo=some x→ai ρ (e x) (c x)) (rz:ai ρ (e z) (c z)) (ry:ai ρ (e y) (c y)) (w:World) :
  (Instr.sliceBounds isS len cap (lo.map c) (some (c z)) (some (c y))).run P w=.ok (l,h,m) w:=by
 obtain⟨kz,hz⟩:=mF rz hh
 obtain⟨ky,hy⟩:=mF ry hm
 simp only[Instr.sliceBounds,Sem.run_bind,Result.andThen_ok,hz,hy,oI ky _ h3,oI kz _ h2]
 rcases JJ hl rl with⟨rfl,rfl⟩|⟨x,k,rfl,hx⟩
 ·simp
 ·simp[hx,oI k _ h1]
theorem bf{a b:Nat}(h:Nat.ble a b=true):a≤b:=aU.1 h
theorem OB{a b:Nat}(h:Nat.ble a b=false):¬ a≤b:=fun k=>by rw[aU.2 k]at h;cases h
theorem dG{a b:Nat}(h:Nat.beq a b=true):a=b:=Nat.eq_of_beq_eq_true h
theorem OT{a b:Nat}(h:Nat.beq a b=false):a≠b:=Nat.ne_of_beq_eq_false h
theorem Zg{t:TypeId}{x:Operand}{lo hi mx:Option Operand}(hop:o.op=.slice t x lo hi mx)(he:∀ x∈o.op.operands,ai ρ (e x) (c x))
  (h:vE P e t x lo hi mx=some v):Gives P ρ o c v:=by
 rw[hop]at he
 simp only[Op.operands,Array.mem_append,List.mem_toArray,Option.mem_toArray]at he
 have hx:ai ρ (e x) (c x):=he x (by simp)
 have rl:∀ y,lo=some y→ai ρ (e y) (c y):=fun y hy=>he y (by simp[hy])
 have rh:∀ y,hi=some y→ai ρ (e y) (c y):=fun y hy=>he y (by simp[hy])
 have rm:∀ y,mx=some y→ai ρ (e y) (c y):=fun y hy=>he y (by simp[hy])
 unfold vE at h
 split at h
 ·
  rename_i elem b p len cap hu hex
  rw[hex]at hx
  generalize hcx:c x=cx at hx
  split at h
  ·rename_i size l hh hs hl hhi
   have run:∀ (a:Addr)(cp l' h' m' : Nat)(w:World),cx=.slice (some a) len cp→(Instr.sliceBounds true len cp (lo.map c) (hi.map c) (mx.map c)).run P w=.ok (l',h',m') w →
     (execOp c o).run P w=.ok (.value (.slice (if m'=l' then some a else(some a).map (·.add (l'*size))) (h'-l') (m'-l'))) w:=by
    intro a cp l' h' m' w hc hb
    simp only[execOp,hop,Instr.sliceAt,Sem.run_bind,run_underlying hu,Result.andThen_ok,Instr.slice,hcx,hc,hb,cZ hs,Sem.run_pure]
   split at h
   ·split at h
    ·rename_i cc
     cases hx with
     |jv _ _ _ _ i hb =>
     split at h <;>try cases h
     ·rename_i h1 h2 h3
      have h1:=bf h1;have h2:=bf h2;have h3:=OT h3
      refine⟨_,fun w=>run _ _ _ _ _ w rfl (iC hl hhi h1 (fun _=>h2) rl rh w), ?_⟩
      rw[if_neg h3]
      have:=ai.jv (ρ:=ρ) b (p+l*size) (hh-l) (cc-l) i hb
      simpa [fw,Nat.add_assoc]using this
     ·rename_i h1 h2 h3
      have h1:=bf h1;have h2:=bf h2;have h3:=dG h3
      refine⟨_,fun w=>run _ _ _ _ _ w rfl (iC hl hhi h1 (fun _=>h2) rl rh w), ?_⟩
      rw[if_pos h3,show hh-l=0 by omega,show cc-l=0 by omega]
      exact ai.jv b p 0 0 i hb
    ·rename_i esz
     cases hx with
     |lQ _ k _ i hb hk =>
     split at h <;>try cases h
     ·rename_i h1 h2 h3 h4
      have h1:=bf h1;have h2:=bf h2;have h3:=dG h3;have h4:=OB h4
      refine⟨_,fun w=>run _ _ _ _ _ w rfl (iC hl hhi h1 (fun _=>by omega) rl rh w), ?_⟩
      rw[if_neg (by omega),h3,← Nat.add_mul]
      have:=ai.lQ (ρ:=ρ) b (k+l) (hh-l) i hb (by omega)
      simpa [fw,Nat.add_assoc,Nat.add_mul,Nat.sub_sub]using this
     ·rename_i h1 h2 h3 h4
      have h1:=bf h1;have h2:=bf h2;have h4:=bf h4
      refine⟨_,fun w=>run _ _ _ _ _ w rfl (iC hl hhi h1 (fun _=>by omega) rl rh w), ?_⟩
      rw[show hh-l=0 by omega]
      split
      ·exact ai.emp b _ _
      ·simp only[Option.map_some,fw];exact ai.emp b _ _
   ·rename_i y
    split at h <;>try cases h
    rename_i z m hm
    have rz:=rh z rfl
    have ry:=rm y rfl
    simp only[gM]at hhi
    split at h <;>try cases h
    all_goals
     rename_i h1 h2 h3 h4
     have h1:=bf h1;have h2:=bf h2;have h3:=bf h3
    ·have h4:=OT h4
     cases hx with
     |jv _ _ _ cc i hb =>
      refine⟨_,fun w=>run _ _ _ _ _ w rfl (qE hl hhi hm h1 h2 h3 rl rz ry w), ?_⟩
      rw[if_neg h4]
      have:=ai.jv (ρ:=ρ) b (p+l*size) (hh-l) (m-l) i hb
      simpa [fw,Nat.add_assoc]using this
     |lQ _ k _ i hb hk =>
      refine⟨_,fun w=>run _ _ _ _ _ w rfl (qE hl hhi hm h1 h2 (Nat.le_trans h3 (by show len≤_;omega)) rl rz ry w), ?_⟩
      rw[if_neg h4]
      have:=ai.jv (ρ:=ρ) b (k*i.esz+l*size) (hh-l) (m-l) i hb
      simpa [fw,Nat.add_assoc]using this
    ·have h4:=dG h4
     cases hx with
     |jv _ _ _ cc i hb =>
      refine⟨_,fun w=>run _ _ _ _ _ w rfl (qE hl hhi hm h1 h2 h3 rl rz ry w), ?_⟩
      rw[if_pos h4,show hh-l=0 by omega,show m-l=0 by omega]
      exact ai.jv b p 0 0 i hb
     |lQ _ k _ i hb hk =>
      refine⟨_,fun w=>run _ _ _ _ _ w rfl (qE hl hhi hm h1 h2 (Nat.le_trans h3 (by show len≤_;omega)) rl rz ry w), ?_⟩
      rw[if_pos h4,show hh-l=0 by omega,show m-l=0 by omega]
      exact ai.jv b (k*i.esz) 0 0 i hb
  ·cases h
 ·rename_i elem b hu hex
  rw[hex]at hx
  generalize hcx:c x=cx at hx
  split at h <;>try cases h
  rename_i _ size hs hl hh
  cases hx with
  |emp _ ad cp =>
  refine⟨.slice (some ad) 0 cp,fun w=>?_,.emp b _ _⟩
  simp only[execOp,hop,Instr.sliceAt,Sem.run_bind,run_underlying hu,Result.andThen_ok,Instr.slice,hcx,Option.map_none,iC hl hh (Nat.le_refl _) (fun _=>Nat.zero_le _) rl rh w,cZ hs,Sem.run_pure]
  simp[Addr.add]
 ·rename_i elem hu hex
  rw[hex]at hx
  have hcx:=(aH hx).1
  split at h <;>try cases h
  rename_i size hs hl hh hm
  have run:(Instr.sliceBounds true 0 0 (lo.map c) (hi.map c) (mx.map c)).run P=fun w=>.ok (0,0,0) w:=by
   funext w
   split at h <;>try cases h
   rename_i hne
   cases mx with
   |none=>exact iC hl hh (Nat.le_refl _) (fun _=>Nat.le_refl _) rl rh w
   |some y =>
    cases hi with
    |none=>exact absurd rfl (hne y rfl)
    |some z=>exact qE hl hh hm (Nat.le_refl _) (Nat.le_refl _) (Nat.le_refl _) rl (rh z rfl) (rm y rfl) w
  split at h <;>try cases h
  refine⟨.slice none 0 0,fun w=>?_,.sc _ rfl⟩
  simp only[execOp,hop,Instr.sliceAt,Sem.run_bind,run_underlying hu,Result.andThen_ok,Instr.slice,hcx,run,cZ hs,Sem.run_pure]
  simp
 ·rename_i n elem b p hu hex
  rw[hex]at hx
  generalize hcx:c x=cx at hx
  obtain⟨i,hb,rfl⟩:=bX hx
  split at h <;>try cases h
  rename_i _ size l hh hs hl hhi
  have run:∀ (l' h' m' : Nat)(w:World),(Instr.sliceBounds false n n (lo.map c) (hi.map c) none).run P w=.ok (l',h',m') w →
     (execOp c o).run P w=.ok (.value (.slice (some (if m'=l' then(⟨i.cb,i.sh+p,none⟩ : Addr)else(⟨i.cb,i.sh+p,none⟩ : Addr).add (l'*size))) (h'-l') (m'-l'))) w:=by
   intro l' h' m' w hb
   simp only[execOp,hop,Instr.sliceAt,Sem.run_bind,run_underlying hu,Result.andThen_ok,Instr.sureAddr,hcx,Option.map_none,hb,cZ hs,Sem.run_pure]
  split at h <;>try cases h
  ·rename_i h1 h2 h3
   have h1:=bf h1;have h2:=bf h2;have h3:=OT h3
   refine⟨_,fun w=>run _ _ _ w (iC hl hhi h1 (fun _=>h2) rl rh w), ?_⟩
   rw[if_neg h3]
   have:=ai.jv (ρ:=ρ) b (p+l*size) (hh-l) (n-l) i hb
   simpa [fw,Nat.add_assoc]using this
  ·rename_i h1 h2 h3
   have h1:=bf h1;have h2:=bf h2;have h3:=dG h3
   refine⟨_,fun w=>run _ _ _ w (iC hl hhi h1 (fun _=>h2) rl rh w), ?_⟩
   rw[if_pos h3,show hh-l=0 by omega,show n-l=0 by omega]
   exact ai.jv b p 0 0 i hb
 ·cases h
end
section
variable {P:Program} {ρ:Ren} {o:Oper} {e:Operand→AV} {c:Operand→Value} {v:AV}
theorem foldl_set(off:Nat):∀ (l:List Value)(k:Nat)(cs:Array Value),off+k+l.length≤cs.size →
  ((l.zipIdx k).foldl (fun cs x=>cs.setIfInBounds (off+x.2) x.1) cs).toList=cs.toList.take (off+k)++l++cs.toList.drop (off+k+l.length)
 |[],k,cs,_=>by simp
 |x::l,k,cs,h=>by
  simp only[List.length_cons]at h
  rw[List.zipIdx_cons,List.foldl_cons,foldl_set off l (k+1) _ (by simp;omega)]
  have e:=list_seg_step cs.toList (off+k) x l (by simp;omega)
  simpa [Nat.add_assoc,Nat.add_comm,Nat.add_left_comm]using e
theorem Nb{place:Nat→Option (Nat×Nat)}:∀ (parts:List (Nat×Operand))(cs:List AV)(cells:Array Value){cs' : List AV},aQ ρ cs cells.toList→(∀ p∈parts,ai ρ (e p.2) (c p.2)) →
  Cj place cs (parts.map fun p=>(p.1,e p.2))=some cs'→∃ cells',Instr.fill place cells (parts.map fun p=>(p.1,c p.2))=some cells'∧aQ ρ cs' cells'.toList
 |[],cs,cells,cs',hr,_,h=>by
  simp[Cj]at h;subst h
  exact⟨cells,rfl,hr⟩
 |p::parts,cs,cells,cs',hr,hp,h=>by
  obtain⟨i,x⟩:=p
  simp only[List.map_cons,Cj]at h
  split at h
  ·rename_i off size hpl
   split at h
   ·rename_i hk hb hl
    have hv:=hp (i,x) (by simp)
    have hcl:=hv.cells (fun e0=>by simp only at e0;rw[e0]at hk;cases hk)
    have hb:=dG hb
    have hl:=bf hl
    have hlen:=hcl.length
    have hrl:=hr.length
    simp only[Array.length_toList]at hlen hrl
    have TM:((c x).cells.zipIdx.foldl (fun cs y=>cs.setIfInBounds (off+y.2) y.1) cells).toList=cells.toList.take off++(c x).cells.toList++cells.toList.drop (off+size):=by
     rw[← Array.foldl_toList,Array.toList_zipIdx,foldl_set off _ 0 cells (by simp;omega)]
     simp[← hlen,hb]
    obtain⟨cells',h1,h2⟩:=Nb parts (cs.take off++(e x).cells++cs.drop (off+size)) ((c x).cells.zipIdx.foldl (fun cs y=>cs.setIfInBounds (off+y.2) y.1) cells)
     (by rw[TM];exact((hr.take off).append hcl).append (hr.drop (off+size))) (fun p hm=>hp p (.tail _ hm)) h
    refine⟨cells', ?_,h2⟩
    simp only[List.map_cons,Instr.fill,hpl]
    rw[if_neg (by simp;omega)]
    exact h1
   ·cases h
  ·cases h
theorem Za{t:TypeId}{parts:Array (Nat×Operand)}(hop:o.op=.build t parts)(he:∀ x∈o.op.operands,ai ρ (e x) (c x))(h:aK P o e=some v):Gives P ρ o c v:=by
 have hp:∀ p∈parts.toList,ai ρ (e p.2) (c p.2):=by
  intro p hm
  apply he
  rw[hop]
  simp only[Op.operands,List.mem_toArray,List.mem_map]
  exact⟨p,hm,rfl⟩
 have key:∀ cells,P.built t (parts.toList.map fun p=>(p.1,c p.2))=some cells→∀ w,(execOp c o).run P w=.ok (.value (.agg cells)) w:=by
  intro cells hb w
  simp only[execOp,hop,Sem.run_bind]
  rw[run_build w t _ cells (by simpa using hb)]
  rfl
 unfold aK at h
 rw[hop]at h
 simp only at h
 split at h
 ·rename_i it n el hi hu
  split at h
  ·rename_i z ie hz hie
   split at h
   ·rename_i cs hcs
    obtain⟨cs',hf,rfl⟩:=Option.map_eq_some_iff.1 h
    have hzr:=iP (ρ:=ρ) hcs
    obtain⟨vs,rfl,hvs⟩:=Aq hzr
    obtain⟨cells',h1,h2⟩:=Nb parts.toList cs ⟨vs⟩ hvs hp hf
    refine⟨.agg cells',key cells' ?_,.agg _ _ h2⟩
    unfold Program.built
    simp only[hi,hu,hz,hie]
    exact h1
   ·cases h
  ·cases h
 ·rename_i it fields hi hu
  split at h
  ·rename_i z places hz hpl
   split at h
   ·rename_i cs hcs
    obtain⟨cs',hf,rfl⟩:=Option.map_eq_some_iff.1 h
    have hzr:=iP (ρ:=ρ) hcs
    obtain⟨vs,rfl,hvs⟩:=Aq hzr
    obtain⟨cells',h1,h2⟩:=Nb parts.toList cs ⟨vs⟩ hvs hp hf
    refine⟨.agg cells',key cells' ?_,.agg _ _ h2⟩
    unfold Program.built
    simp only[hi,hu,hz,hpl]
    have:(fun i=>nth places i)=fun x=>places.toArray[x]?:=by funext i;simp[cB]
    rw[this]at h1
    exact h1
   ·cases h
  ·cases h
 ·cases h
theorem LX{a b:Nat}:Nat.beq a b=decide (a=b):=by
 rcases h:Nat.beq a b
 ·have:a≠b:=fun e=>by subst e;simp at h
  simp[this]
 ·have:=dG h
  simp[this]
theorem Sq(d:Nat){t:TypeId}{x y:AV}{u u' : Value}{r:Bool}(h:oz P t x y=some r)(hx:ai ρ x u)(hy:ai ρ y u')(w:World) :
  (Op.equalIn (d+1) t u u').run P w=.ok r w:=by
 unfold oz at h
 split at h
 all_goals first|cases h|skip
 all_goals
  split at h <;>try(cases h;done)
  rename_i hu
 ·rename_i heq
  split at h <;>try(cases h;done)
  rename_i s hs
  cases h
  have heq:=dG heq
  subst heq
  obtain⟨i,hb,rfl⟩:=bX hx
  obtain⟨i',hb',rfl⟩:=bX hy
  rw[hb]at hb';cases hb'
  simp only[Op.equalIn,Sem.run_bind,run_underlying hu,Result.andThen_ok,cZ hs]
  rw[if_pos (by omega)]
  simp only[sameAddr,beq_self_eq_true,if_true,Sem.run_pure,LX]
  congr 1
  rw[Bool.eq_iff_iff,beq_iff_eq,decide_eq_true_iff,Addr.mk.injEq]
  simp
 all_goals cases h
 ·obtain⟨i,hb,rfl⟩:=bX hx
  obtain⟨rfl,_⟩:=aH hy
  simp[Op.equalIn,run_underlying hu]
 ·obtain⟨i,hb,rfl⟩:=bX hy
  obtain⟨rfl,_⟩:=aH hx
  simp[Op.equalIn,run_underlying hu]
 ·obtain⟨i,cp,hb,rfl⟩:=eZ hx
  obtain⟨rfl,_⟩:=aH hy
  simp[Op.equalIn,run_underlying hu]
 ·obtain⟨rfl,_⟩:=aH hy
  cases hx
  simp[Op.equalIn,run_underlying hu]
 ·obtain⟨rfl,_⟩:=aH hy
  cases hx
  simp[Op.equalIn,run_underlying hu]
 ·obtain⟨rfl,_⟩:=aH hy
  cases hx
  simp[Op.equalIn,run_underlying hu]
 ·obtain⟨rfl,_⟩:=aH hy
  cases hx
  simp[Op.equalIn,run_underlying hu]
theorem Sz{t:TypeId}{x y:AV}{u u' : Value}{r:Bool}(h:oz P t x y=some r)(hx:ai ρ x u)(hy:ai ρ y u') :
  binOp .eql t u u'=(do pure (.bool (← Op.equal t u u')))∧binOp .neq t u u'=(do pure (.bool (!(← Op.equal t u u'))))∧(∀ op (a b:Operand),eqGuard op t a b u u'=pure ()):=by
 unfold oz at h
 split at h
 all_goals first|cases h|skip
 all_goals
  split at h <;>try(cases h;done)
 ·obtain⟨i,hb,rfl⟩:=bX hx
  obtain⟨i',hb',rfl⟩:=bX hy
  exact⟨rfl,rfl,fun op a b=>by cases op<;>rfl⟩
 all_goals cases h
 ·obtain⟨i,hb,rfl⟩:=bX hx
  obtain⟨rfl,_⟩:=aH hy
  exact⟨rfl,rfl,fun op a b=>by cases op<;>rfl⟩
 ·obtain⟨i,hb,rfl⟩:=bX hy
  obtain⟨rfl,_⟩:=aH hx
  exact⟨rfl,rfl,fun op a b=>by cases op<;>rfl⟩
 ·obtain⟨i,cp,hb,rfl⟩:=eZ hx
  obtain⟨rfl,_⟩:=aH hy
  exact⟨rfl,rfl,fun op a b=>by cases op<;>rfl⟩
 all_goals
  obtain⟨rfl,_⟩:=aH hy
  cases hx
  exact⟨rfl,rfl,fun op a b=>by cases op<;>rfl⟩
theorem gJ:∀ (a b:List UInt8),kX a b=(a==b)
 |[],[]=>rfl
 |[],_::_=>rfl
 |_::_,[]=>rfl
 |a::x,b::y=>by
  simp only[kX,List.cons_beq_cons]
  rcases h:Nat.beq a.toNat b.toNat
  ·have:a≠b:=fun e=>by subst e;simp at h
   simp[this]
  ·have:a=b:=UInt8.toNat_inj.1 (dG h)
   subst this
   simp[gJ x y]
theorem afo{op:BinOp}{a b:ByteArray}{v:AV}(h:Dl op a.data.toList b.data.toList=some v):∃ u,ai ρ v u∧∀ w,(Op.stringOp op a b).run P w=.ok u w:=by
 unfold Dl at h
 split at h
 ·split at h <;>try(cases h;done)
  rename_i hle
  cases h
  have hle:=bf hle
  simp only[Array.length_toList]at hle
  refine⟨_,.sc _ rfl,fun w=>?_⟩
  have hmax:¬ (((a.size+b.size:Nat):Int)>IntKind.i64.max):=by
   have:IntKind.i64.max=9223372036854775807:=by decide
   have h1:a.data.size=a.size:=rfl
   have h2:b.data.size=b.size:=rfl
   omega
  simp only[Op.stringOp,if_neg hmax,Sem.run_pure]
  congr 2
 all_goals first|(cases h;done)|skip
 all_goals
  cases h
  refine⟨_,.sc _ rfl,fun w=>?_⟩
  simp only[Op.stringOp,ByteArray.toList_eq,gJ,Sem.run_pure]
theorem Tu{t:TypeId}{x:Operand}{lo hi mx:Option Operand}(hop:o.op=.slice t x lo hi mx)(he:∀ x∈o.op.operands,ai ρ (e x) (c x)){s:ByteArray}(hs:e x=.sc (.string s))
  (h:LU P e t s.data.toList lo hi mx=some v):Gives P ρ o c v:=by
 rw[hop]at he
 simp only[Op.operands,Array.mem_append,List.mem_toArray,Option.mem_toArray]at he
 have hx:ai ρ (e x) (c x):=he x (by simp)
 have rl:∀ y,lo=some y→ai ρ (e y) (c y):=fun y hy=>he y (by simp[hy])
 have rh:∀ y,hi=some y→ai ρ (e y) (c y):=fun y hy=>he y (by simp[hy])
 unfold LU at h
 split at h <;>try(cases h;done)
 rename_i l hh hu hl hhh
 split at h <;>try(cases h;done)
 rename_i h1 h2
 cases h
 have h1:=bf h1;have h2:=bf h2
 simp only[Array.length_toList]at h2 hhh
 rw[hs]at hx
 refine⟨.string (s.extract l hh),fun w=>?_, ?_⟩
 ·simp only[execOp,hop,Instr.sliceAt,Sem.run_bind,run_underlying hu,Result.andThen_ok,Instr.slice,(aH hx).1]
  simp only[Option.map_none,Option.isSome_none,Bool.false_eq_true,if_false,Sem.run_bind,Sem.run_pure,Result.andThen_ok]
  have hb:=iC (P:=P) (isS:=false) (len:=s.size) (cap:=s.size) (l:=l) (h:=hh) hl hhh h1 (fun _=>h2) rl rh w
  rw[hb]
  rfl
 ·have:(⟨⟨(s.data.toList.drop l).take (hh-l)⟩⟩ : ByteArray)=s.extract l hh:=by
   apply ByteArray.ext
   apply Array.ext'
   simp[ByteArray.data_extract]
  rw[this]
  exact .sc _ rfl
theorem Zj{op:BinOp}{t yt:TypeId}{x y:Operand}(hop:o.op=.binOp op t x y yt)(he:∀ x∈o.op.operands,ai ρ (e x) (c x))(h:aK P o e=some v):Gives P ρ o c v:=by
 have hx:ai ρ (e x) (c x):=he x (by rw[hop];simp[Op.operands])
 have hy:ai ρ (e y) (c y):=he y (by rw[hop];simp[Op.operands])
 have gen:∀ {v},jS P o e=some v→Gives P ρ o c v:=lU (fun _ _ h=>by rw[hop]at h;cases h) he
 unfold aK at h
 rw[hop]at h
 simp only at h
 split at h
 ·exact gen h
 ·rename_i a b hex hey
  rw[hex]at hx
  rw[hey]at hy
  obtain⟨u,hu,hrun⟩:=afo (P:=P) (ρ:=ρ) h
  refine⟨u,fun w=>?_,hu⟩
  simp only[execOp,hop,(aH hx).1,(aH hy).1,Sem.run_bind]
  have hg:eqGuard op t x y (.string a) (.string b)=pure ():=by cases op<;>rfl
  have hb:binOp op t (.string a) (.string b)=Op.stringOp op a b:=by cases op<;>rfl
  rw[hg,hb]
  simp only[Sem.run_pure,Result.andThen_ok,hrun]
 ·rename_i n k hex hey
  split at h <;>try(cases h;done)
  rename_i hle
  cases h
  have hle:=bf hle
  rw[hex]at hx
  rw[hey]at hy
  obtain⟨hcx,_⟩:=aH hx
  generalize hcy:c y=cy at hy
  cases hy with
  |atl _ m hm =>
  refine⟨.bool false,fun w=>?_,.sc _ rfl⟩
  have hgt:¬ (Int.ofNat n>(m:Int)):=by
   show ¬ ((n:Int)>(m:Int));omega
  simp only[execOp,hop,hcx,hcy,eqGuard,Sem.run_bind,binOp,ne_eq,not_true,if_false,Op.intCmp,Sem.run_pure,Result.andThen_ok]
  simp only[hgt,decide_false]
  rfl
 ·split at h
  ·split at h
   ·rename_i r hr
    cases h
    obtain⟨h1,h2,h3⟩:=Sz hr hx hy
    refine⟨.bool r,fun w=>?_,.sc _ rfl⟩
    have he:=Sq 9999 hr hx hy w
    simp only[execOp,hop,h1,h3,Sem.run_bind,Sem.run_pure,Result.andThen_ok]
    rw[show(Op.equal t (c x) (c y)).run P w=.ok r w from he]
    rfl
   ·exact gen h
  ·split at h
   ·rename_i r hr
    cases h
    obtain⟨h1,h2,h3⟩:=Sz hr hx hy
    refine⟨.bool (!r),fun w=>?_,.sc _ rfl⟩
    have he:=Sq 9999 hr hx hy w
    simp only[execOp,hop,h2,h3,Sem.run_bind,Sem.run_pure,Result.andThen_ok]
    rw[show(Op.equal t (c x) (c y)).run P w=.ok r w from he]
    rfl
   ·exact gen h
  ·exact gen h
theorem afa{args:Array Operand}{ts:Array TypeId}(hop:o.op=.call { callee:=.builtin .len,args,argTypes:=ts })(he:∀ x∈o.op.operands,ai ρ (e x) (c x))(h:aK P o e=some v):Gives P ρ o c v:=by
 have gen:∀ {v},jS P o e=some v→Gives P ρ o c v:=lU (fun _ _ h=>by rw[hop]at h;cases h) he
 unfold aK at h
 rw[hop]at h
 simp only at h
 split at h
 ·rename_i t x ht hx
  have hr:ai ρ (e x) (c x):=he x (by rw[hop];simp only[Op.operands,Call.operands,Array.empty_append];exact Array.mem_of_getElem? hx)
  have run:∀ (n:Int) w,((P.underlying t).bind fun d=>match d,c x with|.slice _,.slice _ k _=>some (k:Int)|_,_=>none)=some n→(execOp c o).run P w=.ok (.value (.int .i64 n)) w:=by
   intro n w hn
   cases hu:P.underlying t with
   |none=>simp[hu]at hn
   |some d =>
    simp only[hu,Option.bind_some]at hn
    split at hn <;>try cases hn
    rename_i hcx
    simp only[execOp,hop,resolve,invoke,builtin,Builtin.len_,ht,Array.getElem?_map,hx,Option.map_some,hcx,Sem.run_bind,Sem.run_pure,Result.andThen_ok,run_underlying hu,goInt]
  split at h
  ·rename_i hu hex
   cases h
   rw[hex]at hr
   obtain⟨i,cp,hb,hc⟩:=eZ hr
   exact⟨_,fun w=>run _ w (by rw[hu,hc];rfl),.sc _ rfl⟩
  ·rename_i hu hex
   cases h
   rw[hex]at hr
   generalize hcx:c x=cx at hr
   cases hr
   exact⟨_,fun w=>run _ w (by rw[hu,hcx];rfl),.sc _ rfl⟩
  ·exact gen h
 ·cases h
theorem afR{args:Array Operand}{ts:Array TypeId}(hop:o.op=.call { callee:=.builtin .cap,args,argTypes:=ts })(he:∀ x∈o.op.operands,ai ρ (e x) (c x))(h:aK P o e=some v):Gives P ρ o c v:=by
 unfold aK at h
 rw[hop]at h
 simp only at h
 split at h
 ·rename_i t x ht hx
  have hr:ai ρ (e x) (c x):=he x (by rw[hop];simp only[Op.operands,Call.operands,Array.empty_append];exact Array.mem_of_getElem? hx)
  split at h
  ·rename_i cc hu hex
   cases h
   rw[hex]at hr
   generalize hcx:c x=cx at hr
   cases hr
   refine⟨_,fun w=>?_,.sc _ rfl⟩
   simp only[execOp,hop,resolve,invoke,builtin,Builtin.cap_,ht,Array.getElem?_map,hx,Option.map_some,hcx,Sem.run_bind,Sem.run_pure,Result.andThen_ok,run_underlying hu,goInt]
  ·rename_i hu hex
   cases h
   rw[hex]at hr
   obtain⟨hcx,_⟩:=aH hr
   refine⟨_,fun w=>?_,.sc _ rfl⟩
   simp only[execOp,hop,resolve,invoke,builtin,Builtin.cap_,ht,Array.getElem?_map,hx,Option.map_some,hcx,Sem.run_bind,Sem.run_pure,Result.andThen_ok,run_underlying hu,goInt]
   rfl
  ·cases h
 ·cases h
theorem pq(he:∀ x∈o.op.operands,ai ρ (e x) (c x))(h:aK P o e=some v):Gives P ρ o c v:=by
 cases hop:o.op
 case move x =>
  have hx:ai ρ (e x) (c x):=he x (by rw[hop];simp[Op.operands])
  simp only[aK,hop]at h;cases h
  exact OE (.inl hop) hx
 case assign x =>
  have hx:ai ρ (e x) (c x):=he x (by rw[hop];simp[Op.operands])
  simp only[aK,hop]at h;cases h
  exact OE (.inr hop) hx
 case pick cn a b =>
  have hc:ai ρ (e cn) (c cn):=he cn (by rw[hop];simp[Op.operands])
  have ha:ai ρ (e a) (c a):=he a (by rw[hop];simp[Op.operands])
  have hb:ai ρ (e b) (c b):=he b (by rw[hop];simp[Op.operands])
  simp only[aK,hop]at h
  split at h <;>try cases h
  ·rename_i hx;rw[hx]at hc
   exact⟨c a,fun w=>by simp[execOp,hop,(aH hc).1,asBool],ha⟩
  ·rename_i hx;rw[hx]at hc
   exact⟨c b,fun w=>by simp[execOp,hop,(aH hc).1,asBool],hb⟩
 case nilCheck x =>
  have hx:ai ρ (e x) (c x):=he x (by rw[hop];simp[Op.operands])
  simp only[aK,hop]at h
  split at h <;>try cases h
  rename_i b p hex
  rw[hex]at hx
  obtain⟨i,hb,hc⟩:=bX hx
  exact⟨_,fun w=>by simp only[execOp,hop,hc,Sem.run_pure],.ptr b p i hb⟩
 case fieldAddr s x f =>
  have hx:ai ρ (e x) (c x):=he x (by rw[hop];simp[Op.operands])
  simp only[aK,hop]at h
  split at h <;>try cases h
  rename_i fields b p hu hex
  split at h <;>try cases h
  rename_i fd hf
  split at h <;>try cases h
  rename_i n hs
  exact Pg hop hx hu hex hf hs
 case indexAddr t x ix =>
  have hx:ai ρ (e x) (c x):=he x (by rw[hop];simp[Op.operands])
  have hi:ai ρ (e ix) (c ix):=he ix (by rw[hop];simp[Op.operands])
  simp only[aK,hop]at h
  split at h <;>try cases h
  ·rename_i elem b p len cap i hu hex hj
   split at h <;>try cases h
   rename_i size hl hs
   exact OI hop hx hi hu hex hj (bf hl) hs
  ·rename_i len elem b p i hu hex hj
   split at h <;>try cases h
   rename_i size hl hs
   exact Pv hop hx hi hu hex hj (bf hl) hs
 case field t x f =>
  have hx:ai ρ (e x) (c x):=he x (by rw[hop];simp[Op.operands])
  simp only[aK,hop]at h
  split at h <;>try cases h
  rename_i fields cs hu hex
  split at h <;>try cases h
  rename_i fd hf
  exact YP hop hx hu hex hf h
 case index t x ix =>
  have hx:ai ρ (e x) (c x):=he x (by rw[hop];simp[Op.operands])
  have hi:ai ρ (e ix) (c ix):=he ix (by rw[hop];simp[Op.operands])
  simp only[aK,hop]at h
  split at h <;>try cases h
  ·rename_i len elem cs i hu hex hj
   split at h <;>try cases h
   rename_i size hl hs
   exact Zh hop hx hi hu hex hj (bf hl) hs h
  ·rename_i s i hu hex hj
   split at h <;>try cases h
   rename_i b hb
   exact U7 hop hx hi hu hex hj hb
 case slice t x lo hi mx =>
  simp only[aK,hop]at h
  split at h
  ·rename_i s hs
   exact Tu hop he hs h
  ·exact Zg hop he h
 case extract x i =>
  have hx:ai ρ (e x) (c x):=he x (by rw[hop];simp[Op.operands])
  simp only[aK,hop]at h
  split at h <;>try cases h
  rename_i vs hex
  exact Tk hop hx hex h
 case makeInterface t x =>
  have hx:ai ρ (e x) (c x):=he x (by rw[hop];simp[Op.operands])
  simp only[aK,hop]at h
  split at h <;>try cases h
  rename_i d hn hu
  exact Jq hop hx hu (fun ms hd=>hn ms hd)
 case makeFunc f first captured =>
  simp only[aK,hop]at h
  split at h <;>try cases h
  rename_i hn
  exact Rq hop (by cases f<;>first|rfl|exact absurd rfl (hn _)) he
 case build t parts=>exact Za hop he h
 case binOp op t x y yt=>exact Zj hop he h
 case unOp =>
  simp only[aK,hop]at h
  exact lU (fun _ _ h=>by rw[hop]at h;cases h) he h
 case convert =>
  simp only[aK,hop]at h
  exact lU (fun _ _ h=>by rw[hop]at h;cases h) he h
 case call cl =>
  obtain⟨callee,args,ts⟩:=cl
  cases callee with
  |builtin b =>
   cases b
   case len=>exact afa hop he h
   case cap=>exact afR hop he h
   case min =>
    simp only[aK,hop]at h
    exact lU (fun _ _ h=>by rw[hop]at h;cases h) he h
   case max =>
    simp only[aK,hop]at h
    exact lU (fun _ _ h=>by rw[hop]at h;cases h) he h
   case unsafeSliceData =>
    simp only[aK,hop]at h
    split at h <;>try(cases h;done)
    rename_i x
    have hx:ai ρ (e x) (c x):=he x (by rw[hop];simp[Op.operands,Call.operands])
    have run:∀ {u w},(Builtin.unsafeSliceData_ ts o.type #[c x]).run P w=.ok u w→(execOp c o).run P w=.ok (.value u) w:=by
     intro u w hu
     simp only[execOp,hop,resolve,invoke,builtin,Sem.run_bind,Sem.run_pure,Result.andThen_ok]
     rw[show(Array.map c ⟨[x]⟩) = #[c x] by simp,hu]
     rfl
    split at h <;>try(cases h;done)
    ·rename_i hex
     cases h
     rw[hex]at hx
     refine⟨.pointer none,fun w=>run ?_,.sc _ rfl⟩
     rw[(aH hx).1];rfl
    ·rename_i b p n k hex
     cases h
     rw[hex]at hx
     generalize hcx:c x=cx at hx
     cases hx with
     |jv _ _ _ _ i hb =>
     refine⟨_,fun w=>run ?_,.ptr b p i hb⟩
     rw[hcx];rfl
    ·rename_i b p n esz hex
     cases h
     rw[hex]at hx
     generalize hcx:c x=cx at hx
     cases hx with
     |lQ _ k _ i hb hk =>
     refine⟨_,fun w=>run ?_,.ptr b _ i hb⟩
     rw[hcx]
     show((if i.jQ-k≠0 then pure (.pointer (some ⟨i.cb,i.sh+k*i.esz,none⟩))else _:Sem Value)).run P w=_
     rw[if_pos (by omega)]
     rfl
   all_goals (simp only[aK,hop]at h;cases h)
  |value f=>simp only[aK,hop]at h;cases h
  |invoke r m=>simp only[aK,hop]at h;cases h
 all_goals (simp only[aK,hop]at h;cases h)
end
section
variable {P:Program} {ρ:Ren} {o:Oper} {e:Operand→AV} {c:Operand→Value} {v:AV}
def QY(P:Program)(ρ:Ren)(w:World)(o:Oper)(c:Operand→Value)(v:AV):Prop :=
 ∃ v',(execOp c o).run P w=.ok (.value v') w∧ai ρ v v'
theorem Gives.at{w:World}(h:Gives P ρ o c v):QY P ρ w o c v:=let ⟨v',a,b⟩:=h; ⟨v',a w,b⟩
theorem wM:∀ {xs:List AV}{us:List Value}{l:List UInt8},aQ ρ xs us→bW byteOf xs=some l→∃ ns:List Int,us=ns.map (Value.int .u8)∧l=ns.map fun n=>UInt8.ofNat n.toNat
 |[],_,l,h,hm=>by
  simp[bW]at hm;subst hm
  exact⟨[],by simp[h.sH],rfl⟩
 |x::xs,_,l,.cons _ u _ us a b,hm=>by
  simp only[bW]at hm
  split at hm
  ·rename_i y hy
   split at hm
   ·rename_i ys hys
    cases hm
    obtain⟨ns,rfl,rfl⟩:=wM b hys
    unfold byteOf at hy
    split at hy
    ·rename_i n
     cases hy
     exact⟨n::ns,by simp[(aH a).1],rfl⟩
    ·cases hy
   ·cases hm
  ·cases hm
theorem MP{b p len esz:Nat}{u:Value}(h:ai ρ (.slc b p len (.op esz)) u) :
  ∃ k i,ρ b=some i∧p=k*i.esz∧esz=i.esz∧k+len≤i.jQ∧u=.slice (some ⟨i.cb,i.sh+k*i.esz,none⟩) len (i.jQ-k):=by
 cases h with
 |lQ _ k _ i hb hk=>exact⟨k,i,hb,rfl,rfl,hk,rfl⟩
theorem acx(fits:TypeId→Bool){d e count count' off n:Nat}(hc:count≤count')(h:rowAt P fits d e count off n=true):rowAt P fits d e count' off n=true:=by
 cases d with
 |zero=>simp[rowAt]at h
 |succ d =>
  simp only[rowAt]at h ⊢
  split
  ·rename_i h0;rw[if_pos h0]at h;exact h
  ·rename_i h0
   rw[if_neg h0]at h
   rw[Bool.or_eq_true,Bool.and_eq_true,Bool.and_eq_true,Bool.and_eq_true,decide_eq_true_iff,decide_eq_true_iff]at h ⊢
   rcases h with⟨⟨h1,h2⟩,h3⟩|⟨h1,h2⟩
   ·exact .inl ⟨⟨h1,by omega⟩,h3⟩
   ·exact .inr ⟨by omega,h2⟩
theorem Mi:∀ {d e count count' off u n:Nat},count≤count'→liesAt P d e count off u n=true→liesAt P d e count' off u n=true
 |0,_,_,_,_,_,_,_,h=>by simp[liesAt]at h
 |d+1,e,count,count',off,u,n,hc,h=>by
  simp only[liesAt]at h ⊢
  rw[Bool.or_eq_true]at h ⊢
  rcases h with h|h
  ·exact .inl (acx _ hc h)
  ·refine .inr ?_
   split at h
   ·exact Mi hc h
   ·cases h
theorem JY{r:Nat}{c:Array Value}{elem:TypeId}{fr:Nat×Nat}{w:World}(h:w.heap[r]?=some (.cells c elem fr)):(shape r).run P w=.ok (some (elem,c.size)) w:=by
 simp[shape,Sem.run,World.shape?,h]
theorem OV{a:Addr}{c:Array Value}{elem:TypeId}{fr:Nat×Nat}{w:World}(h:w.heap[a.block]?=some (.cells c elem fr)):(Conv.seenAt a).run P w=.ok a w:=by
 simp[Conv.seenAt,viewAt,Sem.run_bind,JY h]
theorem De{a:Addr}{c:Array Value}{elem:TypeId}{fr:Nat×Nat}{w:World}{u n count:Nat}(h:w.heap[a.block]?=some (.cells c elem fr))(hc:count≤c.size / P.cellsOf elem)
  (hl:liesAt P P.depth elem count a.off u n=true):(variablesAt a u n).run P w=.ok true w:=by
 simp only[variablesAt,Sem.run_bind,run_program,Result.andThen_ok,JY h,Sem.run_pure,Mi hc hl]
def UR(ρ:Ren):Option (Nat×AV)→Option (Nat×Value)→Prop
 |none,none=>True
 |some (j,x),some (j',v)=>j'=j∧ai ρ x v
 |_,_=>False
theorem bytes_beq(a b:ByteArray):(a==b)=kX a.data.toList b.data.toList:=by
 rw[gJ]
 cases a with|mk a=>cases b with|mk b =>
 show(a==b)=_
 rw[Bool.eq_iff_iff];simp
theorem RG{d:TypeDesc}{x y:Value}:Pw d x y=Instr.sameNow d x y:=by
 unfold Pw
 split
 ·rename_i a b
  simp only[Instr.sameNow]
  rw[bytes_beq]
 ·rfl
theorem Mv{ρ:Ren}{d:TypeDesc}{k:Value}:∀ {es:List (AV×AV×Nat)}{fs:List MapEntry}{i:Nat}{r:Option (Nat×AV)},dB ρ es fs→OQ d k es i=some r→∃ r',Instr.findNow d k fs i=some r'∧UR ρ r r'
 |[],[],i,r,_,h=>by
  simp[OQ]at h;subst h
  exact⟨none,rfl,trivial⟩
 |[],_::_,_,_,h,_=>h.elim
 |_::_,[],_,_,h,_=>h.elim
 |(ka,va,n)::es,f::fs,i,r,⟨h1,h2,h3,h4⟩,h=>by
  simp only[OQ]at h
  split at h <;>try(cases h;done)
  rename_i kv hkv
  have hk:=lF h1 hkv
  simp only[Instr.findNow]
  rw[hk,← RG]
  split at h <;>try(cases h;done)
  ·rename_i hn
   cases h
   rw[hn]
   exact⟨_,rfl,rfl,h2⟩
  ·rename_i hn
   rw[hn]
   exact Mv h4 h
theorem Mf{P:Program}{ρ:Ren}{kt:TypeId}{k:Value}{w:World}:∀ {es:List (AV×AV×Nat)}{fs:List MapEntry}{i:Nat}{r:Option (Nat×AV)},dB ρ es fs→qQ P kt k es i=some r→∃ r',(Instr.findAsking kt k fs i).run P w=.ok r' w∧UR ρ r r'
 |[],[],i,r,_,h=>by
  simp[qQ]at h;subst h
  exact⟨none,rfl,trivial⟩
 |[],_::_,_,_,h,_=>h.elim
 |_::_,[],_,_,h,_=>h.elim
 |(ka,va,n)::es,f::fs,i,r,⟨h1,h2,h3,h4⟩,h=>by
  simp only[qQ]at h
  split at h <;>try(cases h;done)
  rename_i kv hkv
  have hk:=lF h1 hkv
  simp only[Instr.findAsking]
  split at h <;>try(cases h;done)
  ·rename_i hn
   cases h
   refine⟨some (i,f.val), ?_,rfl,h2⟩
   rw[hk,Sem.run_bind,fE hn w,Result.andThen_ok]
   rfl
  ·rename_i hn
   obtain⟨r',hr,hf⟩:=Mf (w:=w) h4 h
   refine⟨r', ?_,hf⟩
   rw[hk,Sem.run_bind,fE hn w,Result.andThen_ok]
   exact hr
theorem vX{P:Program}{ρ:Ren}{kt:TypeId}{k:Value}{w:World}{es:List (AV×AV×Nat)}{fs:List MapEntry}{r:Option (Nat×AV)}(he:dB ρ es fs)(h:AB P kt k es=some r) :
  ∃ r',(Instr.findKey kt k fs).run P w=.ok r' w∧UR ρ r r':=by
 unfold AB at h
 split at h <;>try(cases h;done)
 rename_i d hd
 split at h
 ·rename_i r0 hr
  cases h
  obtain⟨r',h1,h2⟩:=Mv he hr
  refine⟨r', ?_,h2⟩
  simp only[Instr.findKey,Sem.run_bind,run_underlying hd,Result.andThen_ok,h1]
  rfl
 ·split at h <;>try(cases h;done)
  rename_i ka va n es'
  split at h <;>try(cases h;done)
  rename_i kv hkv
  split at h <;>try(cases h;done)
  rename_i hkn
  obtain⟨r',h1,h2⟩:=Mf (w:=w) he h
  refine⟨r', ?_,h2⟩
  cases fs with
  |nil=>exact he.elim
  |cons f fs =>
   have hk:=lF he.1 hkv
   have axo:Instr.findNow d k (f::fs) 0=none:=by
    simp only[Instr.findNow]
    rw[hk,← RG,hkn]
   simp only[Instr.findKey,Sem.run_bind,run_underlying hd,Result.andThen_ok,axo]
   exact h1
theorem YU{P:Program}{ρ:Ren}{base:Base}{A:AW}{w:World}(hw:dD P base ρ A w){x:AV}{u:Value}(hx:ai ρ x u){es:List (AV×AV×Nat)}(h:mapOf A x=some es) :
  ∃ fs:Array MapEntry,dB ρ es fs.toList∧((u=.map none∧fs = #[])∨∃ r clock,u=.map (some r)∧w.heap[r]?=some (.map fs clock)):=by
 unfold mapOf at h
 split at h <;>try(cases h;done)
 ·rename_i b
  split at h <;>try(cases h;done)
  rename_i es' clock hg
  cases h
  cases hx with
  |map _ i hb =>
   obtain⟨ob,hob,fs,rfl,hrel⟩:=hw.blk b i _ hb hg
   exact⟨fs,hrel,.inr ⟨i.cb,clock,rfl,hob⟩⟩
 ·cases h
  obtain⟨rfl,_⟩:=aH hx
  exact⟨#[],trivial,.inl ⟨rfl,rfl⟩⟩
theorem dB.empty{ρ:Ren}{es:List (AV×AV×Nat)}{fs:Array MapEntry}(h:dB ρ es fs.toList):ai6 es=fs.isEmpty:=by
 obtain⟨fs⟩:=fs
 cases es<;>cases fs<;>first|exact h.elim|rfl
theorem Ps{P:Program}{ρ:Ren}{base:Base}{A:AW}{w:World}(hw:dD P base ρ A w){x:AV}{u kv:Value}(hx:ai ρ x u){t kt et:TypeId}(hu:P.underlying t=some (.map kt et)){es:List (AV×AV×Nat)}(hes:mapOf A x=some es)
  (hc:bA P (Instr.checkKey (ai6 es) 10000 kt kv)=some ()) {r:Option (Nat×AV)} (hf:AB P kt kv es=some r) (commaOk:Bool) {v:AV}
  (hv:match r with
   |some (_,va)=>v=yJ va true commaOk
   |none=>∃ z zv,bA P (zeroValue et)=some z∧gy z=some zv∧v=yJ zv false commaOk) :
  ∃ v',(Instr.lookup t u kv commaOk).run P w=.ok v' w∧ai ρ v v':=by
 obtain⟨fs,hrel,hcase⟩:=YU hw hx hes
 obtain⟨r',hr,hfr⟩:=vX (w:=w) hrel hf
 rw[hrel.empty]at hc
 have key:∃ v',(do
   Instr.checkKey fs.isEmpty 10000 kt kv
   let (v,ok) ← match ← Instr.findKey kt kv fs.toList with
    |some (_,v)=>pure (v,true)
    |none=>pure (← zeroValue et,false)
   pure (if commaOk then Value.tuple #[v,.bool ok]else v):Sem Value).run P w=.ok v' w∧ai ρ v v':=by
  cases r with
  |some p =>
   obtain⟨j,va⟩:=p
   cases r' with
   |none=>exact hfr.elim
   |some q =>
    obtain⟨j',vv⟩:=q
    obtain⟨_,hval⟩:=hfr
    dsimp only at hv
    subst hv
    refine⟨if commaOk then Value.tuple #[vv,.bool true]else vv, ?_, ?_⟩
    ·simp only[Sem.run_bind,Result.andThen_ok,fE hc w,hr]
     rfl
    ·cases commaOk
     ·exact hval
     ·exact .tup _ _ (.cons _ _ _ _ hval (.cons _ _ _ _ (.sc _ rfl) .nil))
  |none =>
   cases r' with
   |some q=>exact hfr.elim
   |none =>
    obtain⟨z,zv,hz,hzv,rfl⟩:=hv
    refine⟨if commaOk then Value.tuple #[z,.bool false]else z, ?_, ?_⟩
    ·simp only[Sem.run_bind,Result.andThen_ok,fE hc w,hr,fE hz w]
     rfl
    ·cases commaOk
     ·exact iP hzv
     ·exact .tup _ _ (.cons _ _ _ _ (iP hzv) (.cons _ _ _ _ (.sc _ rfl) .nil))
 obtain⟨v',h1,h2⟩:=key
 refine⟨v', ?_,h2⟩
 unfold Instr.lookup
 rw[Sem.run_bind,run_underlying hu,Result.andThen_ok]
 rcases hcase with⟨rfl,rfl⟩|⟨rr,clock,rfl,hob⟩
 ·exact h1
 ·have hg:(getObj rr).run P w=.ok (.map fs clock) w:=by simp[getObj,Sem.run,hob]
  dsimp only
  rw[Sem.run_bind,hg,Result.andThen_ok]
  exact h1
theorem Be{base:Base}{A:AW}{w:World}(hw:dD P base ρ A w)(he:∀ x∈o.op.operands,ai ρ (e x) (c x))(h:j4 P o e A=some v):QY P ρ w o c v:=by
 cases hop:o.op
 case load t x =>
  have hx:ai ρ (e x) (c x):=he x (by rw[hop];simp[Op.operands])
  simp only[j4,hop]at h
  split at h <;>try cases h
  rename_i b p hex
  rw[hex]at hx
  obtain⟨i,hb,hc⟩:=bX hx
  split at h <;>try cases h
  ·rename_i ha
   split at h <;>try cases h
   rename_i hl
   obtain⟨vs,hr,hlen,hcell⟩:=iO hw hb hl
   cases hr with
   |cons _ u _ us hu hn =>
   cases hn
   have hcell:=hcell 0 u (by simp)
   rw[fw]at hcell
   refine⟨u, ?_,hu⟩
   simp only[execOp,hop,Instr.loadAt,Instr.sureAddr,loadVar,hc,Sem.run_bind,Sem.run_pure,Result.andThen_ok,jk ha,Bool.false_eq_true,if_false,load,Sem.run]
   simp only[Nat.add_zero]at hcell
   simp[hcell,Sem.run]
  ·rename_i ha
   split at h <;>try cases h
   rename_i n hs
   split at h <;>try cases h
   rename_i xs hl
   obtain⟨vs,hr,hlen,_,hrun⟩:=mW (P:=P) hw hb hl
   refine⟨.agg ⟨vs⟩, ?_,.agg _ _ hr⟩
   simp only[execOp,hop,Instr.loadAt,Instr.sureAddr,loadVar,hc,Sem.run_bind,Sem.run_pure,Result.andThen_ok,jk ha,if_true,cZ hs,hrun]
 case slice t x lo hi mx =>
  cases mx with
  |some m=>simp only[j4,hop]at h;exact(pq he h).at
  |none =>
   simp only[j4,hop]at h
   split at h
   ·rename_i _ elem b p len esz l y hu hex hl
    split at h <;>try(cases h;done)
    rename_i hh hey
    split at h
    ·exact(pq he h).at
    ·rename_i aox
     have aox:=OB aox
     split at h <;>try(cases h;done)
     rename_i kn tree zs el fz size hg hs
     split at h <;>try(cases h;done)
     rename_i hcond
     cases h
     simp only[Bool.and_eq_true]at hcond
     obtain⟨⟨c1,c2⟩,c3⟩:=hcond
     have c1:=bf c1;have c2:=dG c2;have c3:=bf c3
     have he':=he
     rw[hop]at he'
     simp only[Op.operands,Array.mem_append,List.mem_toArray,Option.mem_toArray]at he'
     have hx:ai ρ (e x) (c x):=he' x (by simp)
     have rl:∀ z,lo=some z→ai ρ (e z) (c z):=fun z hz=>he' z (by simp[hz])
     have rh:∀ z,(some y:Option Operand)=some z→ai ρ (e z) (c z):=fun z hz=>he' z (by simp at hz;simp[hz])
     rw[hex]at hx
     obtain⟨k,i,hb,hp,he2,hk,hcx⟩:=MP hx
     obtain⟨ob,hob,cc,fr,rfl,hrow⟩:=hw.blk b i _ hb hg
     obtain⟨h0,hcs,_⟩:=hrow.opn rfl
     have hs1:=hrow.size
     have hfit:k+hh≤i.jQ:=by
      have:(k+hh)*i.esz≤i.jQ*i.esz:=by
       have c3':=c3
       rw[c2,he2]at c3'
       rw[Nat.add_mul];omega
      exact Nat.le_of_mul_le_mul_right this h0
     refine⟨.slice (some ⟨i.cb,i.sh+(k+l)*i.esz,none⟩) (hh-l) (i.jQ-(k+l)), ?_, ?_⟩
     ·simp only[execOp,hop,Instr.sliceAt,Sem.run_bind,run_underlying hu,Result.andThen_ok,Instr.slice,hcx]
      rw[show(Option.map c none:Option Value)=none from rfl]
      rw[iC (cap:=i.jQ-k) hl (show gM e len (some y)=some hh from hey) (by omega) (fun _=>by omega) rl rh w]
      simp only[Result.andThen_ok,cZ hs,Sem.run_pure]
      rw[if_neg (by omega)]
      simp only[Option.map_some,fw]
      rw[show i.sh+k*i.esz+l*size=i.sh+(k+l)*i.esz by rw[Nat.add_mul,c2,he2];omega,Nat.sub_sub]
     ·have:=ai.lQ (ρ:=ρ) b (k+l) (hh-l) i hb (by omega)
      rw[Nat.add_mul]at this
      rw[hp,c2,he2]
      exact(by rw[Nat.add_mul];exact this)
   ·exact(pq he h).at
 case convert src dst x =>
  have hx:ai ρ (e x) (c x):=he x (by rw[hop];simp[Op.operands])
  simp only[j4,hop]at h
  split at h <;>try cases h
  ·rename_i el b p len cap hs hd hex
   split at h <;>try cases h
   rename_i hel
   split at h <;>try cases h
   rename_i xs hl
   split at h <;>try cases h
   rename_i s hb
   rw[hex]at hx
   obtain⟨i,cp,hbi,hc⟩:=eZ hx
   obtain⟨vs,hr,hlen,_,hrun⟩:=mW (P:=P) hw hbi hl
   unfold bytesOf at hb
   split at hb <;>try cases hb
   rename_i l hl2
   obtain⟨ns,rfl,rfl⟩:=wM hr hl2
   refine⟨_, ?_,.sc _ rfl⟩
   simp only[execOp,hop,hc,Sem.run_bind]
   rw[run_convert_bytes_string w src dst el _ len cp hs hel hd,run_bytesToString w _ len cp ns (by rw[hrun]),foldl_push_bytes]
   have he0:ByteArray.empty.data = #[]:=rfl
   simp[he0]
  ·rename_i el b hs hd hex
   split at h <;>try cases h
   rename_i hel
   rw[hex]at hx
   generalize hcx:c x=cx at hx
   cases hx with
   |emp _ ad cp =>
   refine⟨_, ?_,.sc _ rfl⟩
   simp only[execOp,hop,hcx,Sem.run_bind]
   rw[run_convert_bytes_string w src dst el _ 0 cp hs hel hd,run_bytesToString w _ 0 cp [] (by rfl)]
   rfl
  ·exact(lU (fun _ _ h=>by rw[hop]at h;cases h) he h).at
  ·rename_i t b p hs hd hex
   split at h <;>try(cases h;done)
   rename_i n tree zs opn elem fz k hg hsz
   split at h <;>try(cases h;done)
   rename_i hle
   cases h
   have hle:=bf hle
   rw[hex]at hx
   obtain⟨i,hb,hc⟩:=bX hx
   obtain⟨ob,hob,cc,fr,rfl,hrow⟩:=hw.blk b i _ hb hg
   have hsize:=hrow.size
   refine⟨_, ?_,.ptr b p i hb⟩
   have h1:(Conv.unsafePointer src dst (.pointer (some ⟨i.cb,i.sh+p,none⟩))).run P w=.ok (.pointer (some ⟨i.cb,i.sh+p,none⟩)) w:=by
    have hnot:¬ (i.sh+p≥cc.size):=by omega
    simp only[Conv.unsafePointer,Sem.run_bind,run_underlying hs,run_underlying hd,Result.andThen_ok,OV (a:=⟨i.cb,i.sh+p,none⟩) hob,cellsIn,JY hob,cZ hsz,Sem.run_pure,Option.map_some]
    simp[hnot]
   have h2:convert src dst (.pointer (some ⟨i.cb,i.sh+p,none⟩))=convert src dst (.pointer (some ⟨i.cb,i.sh+p,none⟩)):=rfl
   simp only[execOp,hop,hc,Sem.run_bind]
   simp only[convert,Sem.run_bind,run_underlying hs,run_underlying hd,Result.andThen_ok,h1,Sem.run_pure]
  ·rename_i u b p hs hd hex
   split at h <;>try(cases h;done)
   rename_i n tree zs opn elem fz k hg hsz
   split at h <;>try(cases h;done)
   rename_i hl
   cases h
   rw[hex]at hx
   obtain⟨i,hb,hc⟩:=bX hx
   obtain⟨ob,hob,cc,fr,rfl,hrow⟩:=hw.blk b i _ hb hg
   have hsize:=hrow.size
   have hsh:=hrow.sh0
   refine⟨_, ?_,.ptr b p i hb⟩
   have h0:(variablesAt ⟨i.cb,i.sh+p,none⟩ u 1).run P w=.ok true w :=
    De (count:=n / P.cellsOf elem) hob (Nat.div_le_div_right (by omega)) (by show liesAt P P.depth elem _ (i.sh+p) u 1=true;rw[show i.sh+p=p by omega];exact hl)
   have h1:(Conv.unsafePointer src dst (.pointer (some ⟨i.cb,i.sh+p,none⟩))).run P w=.ok (.pointer (some ⟨i.cb,i.sh+p,none⟩)) w:=by
    simp only[Conv.unsafePointer,Sem.run_bind,run_underlying hs,run_underlying hd,Result.andThen_ok,OV (a:=⟨i.cb,i.sh+p,none⟩) hob,cZ hsz,Sem.run_pure,h0]
    simp
   simp only[execOp,hop,hc,Sem.run_bind]
   simp only[convert,Sem.run_bind,run_underlying hs,run_underlying hd,Result.andThen_ok,h1,Sem.run_pure]
 case call cl =>
  obtain⟨callee,args,ts⟩:=cl
  cases callee with
  |builtin b =>
   cases b
   case len =>
    simp only[j4,hop]at h
    split at h <;>try cases h
    rename_i t x ht hx
    have hr:ai ρ (e x) (c x):=he x (by rw[hop];simp only[Op.operands,Call.operands,Array.empty_append];exact Array.mem_of_getElem? hx)
    split at h <;>try cases h
    rename_i b hu hex
    split at h <;>try cases h
    rename_i es cl hg
    rw[hex]at hr
    generalize hcx:c x=cx at hr
    cases hr with
    |map _ i hb =>
    obtain⟨ob,hob,fs,rfl,hfs⟩:=hw.blk b i _ hb hg
    have hlen:∀ (es:List (AV×AV×Nat))(fs:List MapEntry),dB ρ es fs→es.length=fs.length:=by
     intro es
     induction es with
     |nil=>intro fs h;cases fs<;>simp_all [dB]
     |cons a es ih =>
      intro fs h
      cases fs with
      |nil=>exact h.elim
      |cons f fs=>simp[ih fs h.2.2.2]
    refine⟨.int .i64 es.length, ?_,.sc _ rfl⟩
    simp only[execOp,hop,resolve,invoke,builtin,Builtin.len_,ht,Array.getElem?_map,hx,Option.map_some,hcx,Sem.run_bind,Sem.run_pure,Result.andThen_ok,run_underlying hu,getObj,Sem.run,hob]
    simp[goInt,hlen _ _ hfs]
   case cap =>
    simp only[j4,hop]at h
    split at h <;>try(cases h;done)
    rename_i t x ht hx
    have hr:ai ρ (e x) (c x):=he x (by rw[hop];simp only[Op.operands,Call.operands,Array.empty_append];exact Array.mem_of_getElem? hx)
    split at h
    ·rename_i b len esz hu hex
     split at h <;>try(cases h;done)
     rename_i kn tree zs el fz hg
     cases h
     rw[hex]at hr
     obtain⟨k,i,hb,hp,he2,hk,hcx⟩:=MP hr
     obtain⟨ob,hob,cc,fr,rfl,hrow⟩:=hw.blk b i _ hb hg
     obtain⟨h0,hcs,_⟩:=hrow.opn rfl
     have hk0:k=0:=by
      rcases Nat.eq_zero_or_pos k with e|e
      ·exact e
      ·have:0<k*i.esz:=Nat.mul_pos e h0
       omega
     subst hk0
     have hs1:=hrow.size
     have hle:kn / esz≤i.jQ:=by
      rw[he2]
      exact Nat.div_le_of_le_mul (by rw[Nat.mul_comm];omega)
     refine⟨.int .i64 (i.jQ:Nat), ?_,.atl _ _ hle⟩
     simp only[execOp,hop,resolve,invoke,builtin,Builtin.cap_,ht,Array.getElem?_map,hx,Option.map_some,hcx,Sem.run_bind,Sem.run_pure,Result.andThen_ok,run_underlying hu,goInt]
     rfl
    ·exact(pq he h).at
   all_goals (simp only[j4,hop]at h;cases h)
  |value f=>simp only[j4,hop]at h;cases h
  |invoke r m=>simp only[j4,hop]at h;cases h
 case lookup t x k commaOk =>
  have hx:ai ρ (e x) (c x):=he x (by rw[hop];simp[Op.operands])
  have hk:ai ρ (e k) (c k):=he k (by rw[hop];simp[Op.operands])
  simp only[j4,hop]at h
  split at h <;>try(cases h;done)
  rename_i kt et es kv hu hes hkv
  have hck:=lF hk hkv
  split at h <;>try(cases h;done)
  ·rename_i j va hc hf
   cases h
   obtain⟨v',h1,h2⟩:=Ps hw hx hu hes hc hf commaOk rfl
   refine⟨v', ?_,h2⟩
   simp only[execOp,hop,hck,Sem.run_bind,h1,Result.andThen_ok]
   rfl
  ·rename_i hc hf
   split at h <;>try(cases h;done)
   rename_i z hz
   split at h <;>try(cases h;done)
   rename_i zv hzv
   cases h
   obtain⟨v',h1,h2⟩:=Ps (v:=yJ zv false commaOk) hw hx hu hes hc hf commaOk ⟨z,zv,hz,hzv,rfl⟩
   refine⟨v', ?_,h2⟩
   simp only[execOp,hop,hck,Sem.run_bind,h1,Result.andThen_ok]
   rfl
 all_goals (simp only[j4,hop]at h;cases h)
def ajN(P:Program)(ρ:Ren)(w:World)(o:Oper)(c:Operand→Value)(x:mY)(mk:Nat→AV):Prop :=
 ∃ (d:Bool)(ob:Obj)(u:Value)(i:gF),(execOp c o).run P w=.ok (.value u) ((if d then w.drew else w).alloc ob)∧i.cb=w.heap.size∧jL P ρ i x ob ∧
   ∀ (ρ' : Ren)(b:Nat),ρ' b=some i→ai ρ' (mk b) u
theorem jg{t:TypeId}{zs:List AV}(h:gZ P t=some zs):∃ it z,P.info? t=some it∧it.zero=some z∧aQ ρ zs z.cells.toList:=by
 unfold gZ at h
 split at h
 ·rename_i z hz
  split at h
  ·rename_i v hv
   cases h
   obtain⟨it,hi,hz⟩:=Option.bind_eq_some_iff.1 hz
   refine⟨it,z,hi,hz,(iP hv).cells fun e=>?_⟩
   subst e
   unfold gy at hv
   split at hv
   ·split at hv<;>cases hv
   ·split at hv<;>cases hv
   ·unfold ui at hv
    split at hv
    ·split at hv<;>cases hv
    ·split at hv<;>cases hv
    ·split at hv<;>cases hv
  ·cases h
 ·cases h
theorem Ez{zs:List AV}{n k:Nat}{x:AV}(h:cellAt .leaf zs n k=some x):k<n∧zs[k%zs.length]?=some x:=by
 unfold cellAt at h
 split at h
 ·cases h
 ·rename_i hb
  have hb:=bf hb
  simp only[Tree.get]at h
  split at h
  ·cases h
  ·rename_i z
   cases h
   exact⟨by omega,by simp[Nat.mod_one]⟩
  ·rw[cB]at h
   exact⟨by omega,h⟩
theorem mH{t:Tree AV}{n k:Nat}{x:AV}(h:cellAt t [] n k=some x):k<n∧t.get k=some x:=by
 unfold cellAt at h
 split at h
 ·cases h
 ·rename_i hb
  have hb:=bf hb
  split at h
  ·rename_i y hy
   cases h
   exact⟨by omega,hy⟩
  ·cases h
theorem Ja(z:Array Value)(n k:Nat)(hk:k<n)(hz:0<z.size):(madeCells z n)[k]?=z[k%z.size]?:=by
 have:k%z.size<z.size:=Nat.mod_lt _ hz
 simp[madeCells,hk,this]
theorem Lj(i:gF)(n:Nat)(tree:Tree AV)(zs:List AV)(elem:TypeId)(cs:Array Value)(hi:i.sh=0)(hn:n≤cs.size)
  (hv:∀ k x,cellAt tree zs n k=some x→∃ v,cs[k]?=some v∧ai ρ x v):jL P ρ i (.row n tree zs false elem 0) (.cells cs elem) :=
 ⟨cs,(0,0),rfl,⟨by omega,fun k x h=>by rw[hi,Nat.zero_add];exact hv k x h,fun k _ _ h=>by simp at h,fun _ _=>⟨rfl,Nat.zero_le _⟩,(fun h=>by cases h),hi⟩⟩
theorem Sd{size n:Nat}{zs:List AV}:∀ (parts:List (Nat×Operand))(t:Tree AV)(cells:Array Value){t' : Tree AV},cells.size=n →
  (∀ k x,cellAt t zs n k=some x→∃ v,cells[k]?=some v∧ai ρ x v)→(∀ p∈parts,ai ρ (e p.2) (c p.2)) →
  IE size n t (parts.map fun p=>(p.1,e p.2))=some t' →
  ∃ cells',Instr.fill (fun i=>some (i*size,size)) cells (parts.map fun p=>(p.1,c p.2))=some cells'∧cells'.size=n∧(∀ k x,cellAt t' zs n k=some x→∃ v,cells'[k]?=some v∧ai ρ x v)
 |[],t,cells,t',hn,hr,_,h=>by
  simp[IE]at h;subst h
  exact⟨cells,rfl,hn,hr⟩
 |p::parts,t,cells,t',hn,hr,hp,h=>by
  obtain⟨i,x⟩:=p
  simp only[List.map_cons,IE]at h
  split at h
  ·rename_i hb hl
   split at h
   ·rename_i t1 ht1
    have hb:=dG hb
    have hl:=bf hl
    obtain⟨hone,hget⟩:=fK _ _ _ ht1
    have hcl:=(hp (i,x) (by simp)).cells (fun e0=>by
     simp only at e0
     have:=hone .top (by simp only[e0];simp[AV.cells])
     simp[oneCell]at this)
    have hlen:=hcl.length
    simp only[Array.length_toList]at hlen
    have TM:((c x).cells.zipIdx.foldl (fun cs y=>cs.setIfInBounds (i*size+y.2) y.1) cells).toList=cells.toList.take (i*size)++(c x).cells.toList++cells.toList.drop (i*size+size):=by
     rw[← Array.foldl_toList,Array.toList_zipIdx,foldl_set (i*size) _ 0 cells (by simp;omega)]
     simp[← hlen,hb]
    have hsz:((c x).cells.zipIdx.foldl (fun cs y=>cs.setIfInBounds (i*size+y.2) y.1) cells).size=n:=by
     rw[← Array.length_toList,TM]
     simp only[List.length_append,List.length_take,List.length_drop,Array.length_toList]
     omega
    obtain⟨cells',h1,h2,h3⟩:=Sd parts t1 ((c x).cells.zipIdx.foldl (fun cs y=>cs.setIfInBounds (i*size+y.2) y.1) cells) hsz (by
     intro k y hk
     rw[pQ hget]at hk
     rw[← Array.getElem?_toList,TM]
     by_cases hin:i*size≤k∧k<i*size+(e x).cells.length
     ·rw[if_pos hin]at hk
      split at hk
      ·obtain⟨u,hu,hv⟩:=hcl.get hk
       refine⟨u, ?_,hv⟩
       rw[List.append_assoc,List.getElem?_append_right (by simp;omega)]
       have e1:k-(cells.toList.take (i*size)).length=k-i*size:=by
        rw[List.length_take,Array.length_toList];omega
       rw[e1,List.getElem?_append_left (by rw[Array.length_toList];omega)]
       exact hu
      ·cases hk
     ·rw[if_neg hin]at hk
      obtain⟨u,hu,hv⟩:=hr k y hk
      refine⟨u, ?_,hv⟩
      have hkn:k<n:=by
       unfold cellAt at hk
       split at hk
       ·cases hk
       ·rename_i hb;have:=bf hb;omega
      rw[← hu]
      by_cases hlt:k<i*size
      ·rw[List.append_assoc,List.getElem?_append_left (by simp;omega),List.getElem?_take_of_lt hlt,Array.getElem?_toList]
      ·rw[List.getElem?_append_right (by simp only[List.length_append,List.length_take,Array.length_toList];omega),List.getElem?_drop,← Array.getElem?_toList]
       congr 1
       simp only[List.length_append,List.length_take,Array.length_toList]
       omega) (fun p hm=>hp p (.tail _ hm)) h
    refine⟨cells', ?_,h2,h3⟩
    simp only[List.map_cons,Instr.fill]
    rw[if_neg (by simp;omega)]
    exact h1
   ·cases h
  ·cases h
theorem IU(he:∀ x∈o.op.operands,ai ρ (e x) (c x)){x:mY}{mk:Nat→AV}(h:gu P o e=some (x,mk))(w:World):ajN P ρ w o c x mk:=by
 cases hop:o.op
 case alloc t =>
  simp only[gu,hop]at h
  split at h <;>try cases h
  rename_i zs hzs
  split at h <;>try cases h
  obtain⟨it,z,hi,hz,hr⟩:=jg (ρ:=ρ) hzs
  have hlen:=hr.length
  refine⟨false,.cells z.cells t,.pointer (some ⟨w.heap.size,0,none⟩),⟨w.heap.size,0,0,0⟩, ?_,rfl,Lj _ _ _ _ _ _ rfl (by simpa using Nat.le_of_eq hlen) ?_,fun ρ' b hb=>.ptr b 0 _ hb⟩
  ·simp[execOp,hop,Instr.alloc,zeroValue,typeInfo,hi,hz,newVar,newRow]
  ·intro k y hk
   obtain⟨h1,h2⟩:=Ez hk
   rw[Nat.mod_eq_of_lt h1]at h2
   obtain⟨u,hu,hv⟩:=hr.get h2
   exact⟨u,by simpa using hu,hv⟩
 case box t y =>
  have hx:ai ρ (e y) (c y):=he y (by rw[hop];simp[Op.operands])
  simp only[gu,hop]at h
  split at h <;>try cases h
  rename_i tree nK _
  obtain⟨hone,hget⟩:=fK _ _ _ nK
  have hcl:=hx.cells (fun e0=>by
   have:=hone .top (by simp only[e0];simp[AV.cells])
   simp[oneCell]at this)
  have hlen:=hcl.length
  refine⟨false,.cells (c y).cells t,.pointer (some ⟨w.heap.size,0,none⟩),⟨w.heap.size,0,0,0⟩, ?_,rfl,Lj _ _ _ _ _ _ rfl (by simpa using Nat.le_of_eq hlen) ?_,fun ρ' b hb=>.ptr b 0 _ hb⟩
  ·simp[execOp,hop,Instr.box,newVar,newRow]
  ·intro k z hk
   obtain⟨h1,h2⟩:=mH hk
   rw[hget,if_pos (by omega)]at h2
   obtain⟨u,hu,hv⟩:=hcl.get h2
   exact⟨u,by simpa using hu,hv⟩
 case buildSlice t len parts =>
  simp only[gu,hop]at h
  split at h <;>try cases h
  rename_i elem hu
  split at h <;>try cases h
  rename_i size zs hs hzs
  split at h <;>try cases h
  rename_i h1 h2 h3
  have h1:=bf h1;have h2:=dG h2;have h3:=bf h3
  split at h <;>try cases h
  rename_i tree nK
  obtain⟨it,z,hi,hz,hr⟩:=jg (ρ:=ρ) hzs
  have hlen:=hr.length
  simp only[Array.length_toList]at hlen
  have hp:∀ p∈parts.toList,ai ρ (e p.2) (c p.2):=by
   intro p hm
   apply he
   rw[hop]
   simp only[Op.operands,List.mem_toArray,List.mem_map]
   exact⟨p,hm,rfl⟩
  have hsz:it.size=size:=by simpa [aL,hi]using hs
  obtain⟨cells',f1,f2,f3⟩:=Sd (ρ:=ρ) (e:=e) (c:=c) (zs:=zs) parts.toList .leaf (madeCells (if len*size=0 then #[]else z.cells) (len*size)) (size_madeCells _ _) (by
   intro k y hk
   obtain⟨g1,g2⟩:=Ez hk
   rw[if_neg (by omega),Ja _ _ _ g1 (by omega)]
   obtain⟨u,hu,hv⟩:=hr.get g2
   exact⟨u,by rw[← Array.getElem?_toList];rw[hlen]at hu;exact hu,hv⟩) hp nK
  refine⟨false,.cells cells' elem,.slice (some ⟨w.heap.size,0,none⟩) len len,⟨w.heap.size,0,0,0⟩, ?_,rfl,Lj _ _ _ _ _ _ rfl (by omega) f3,fun ρ' b hb=>.jv b 0 len len _ hb⟩
  simp only[execOp,hop,Instr.buildSlice,Sem.run_bind,run_underlying hu,Result.andThen_ok,cZ hs]
  have hno:¬ (len*size>2^24):=by omega
  simp only[hno,if_false]
  have f1' : Instr.fill (fun i=>some (i*size,size)) ((Array.range (len*size)).map ((if len*size=0 then #[]else z.cells)[· % (if len*size=0 then #[]else z.cells).size]!)) (parts.map fun p=>(p.1,c p.2)).toList=some cells':=by
   simpa [madeCells]using f1
  by_cases h0:len*size=0
  ·simp only[h0,if_true]at f1' ⊢
   simp only[Sem.run_bind,Sem.run_pure,Result.andThen_ok]
   rw[f1']
   simp[newRow]
  ·simp only[h0,if_false]at f1' ⊢
   simp only[Sem.run_bind,Sem.run_pure,Result.andThen_ok,zeroValue,typeInfo,run_program,hi,hz]
   rw[f1']
   simp[newRow]
 case makeSlice t l cp =>
  have hl:ai ρ (e l) (c l):=he l (by rw[hop];simp[Op.operands])
  have hc:ai ρ (e cp) (c cp):=he cp (by rw[hop];simp[Op.operands])
  simp only[gu,hop]at h
  split at h <;>try cases h
  rename_i elem n m hu hn hm
  split at h <;>try cases h
  rename_i size bytes zs hs hby hzs
  split at h <;>try cases h
  rename_i h1 h2 h3 h4 h5
  have h1:=bf h1;have h2:=dG h2;have h3:=bf h3;have h4:=bf h4;have h5:=bf h5
  obtain⟨it,z,hi,hz,hr⟩:=jg (ρ:=ρ) hzs
  have hlen:=hr.length
  simp only[Array.length_toList]at hlen
  have hsz:it.size=size:=by simpa [aL,hi]using hs
  have hbt:it.bytes=bytes:=by simpa [uD,hi]using hby
  obtain⟨kl,hl⟩:=mF hl hn
  obtain⟨kc,hc⟩:=mF hc hm
  have hb' : (it.bytes:Int)*(m:Int)≤281474976710656:=by
   have:((it.bytes*m:Nat):Int)≤281474976710656:=by rw[hbt,Nat.mul_comm];omega
   rwa [Int.natCast_mul]at this
  have hrun:=run_make (P:=P) w t elem it z hu hi hz kl kc n m (by omega) (by omega) hb' (by omega)
  refine⟨false,_,.slice (some ⟨w.heap.size,0,none⟩) n m,⟨w.heap.size,0,0,0⟩, ?_,rfl,Lj _ _ _ _ _ (madeCells z.cells (m*size)) rfl (by rw[size_madeCells];omega) ?_,fun ρ' b hb=>.jv b 0 n m _ hb⟩
  ·simp only[execOp,hop,hl,hc,Sem.run_bind,hrun,Result.andThen_ok,Int.toNat_natCast,hsz,Bool.false_eq_true,if_false,Sem.run_pure]
  ·intro k y hk
   obtain⟨g1,g2⟩:=Ez hk
   rw[Ja _ _ _ g1 (by omega)]
   obtain⟨u,hu,hv⟩:=hr.get g2
   exact⟨u,by rw[← Array.getElem?_toList];rw[hlen]at hu;exact hu,hv⟩
 case makeMap t r =>
  simp only[gu,hop]at h
  split at h
  ·cases h
   refine⟨false,.map #[] 0,.map (some w.heap.size),⟨w.heap.size,0,0,0⟩, ?_,rfl,⟨#[],rfl,trivial⟩,fun ρ' b hb=>.map b _ hb⟩
   simp[execOp,hop,Instr.makeMap]
  ·rename_i y
   have hy:ai ρ (e y) (c y):=he y (by rw[hop];simp[Op.operands])
   split at h <;>try cases h
   rename_i hu hn
   obtain⟨k,hk⟩:=mF hy hn
   refine⟨false,.map #[] 0,.map (some w.heap.size),⟨w.heap.size,0,0,0⟩, ?_,rfl,⟨#[],rfl,trivial⟩,fun ρ' b hb=>.map b _ hb⟩
   simp[execOp,hop,Instr.makeMap,run_underlying hu,hk,asInt,asIntOf]
 case convert src dst y =>
  have hy:ai ρ (e y) (c y):=he y (by rw[hop];simp[Op.operands])
  simp only[gu,hop]at h
  split at h <;>try cases h
  rename_i el s hs hd hex
  split at h <;>try cases h
  rename_i hel hsz
  rw[hex]at hy
  have hc:=(aH hy).1
  have hge:=grownCap_ge w s.size 0 el
  have hrow:(bytesRow s (grownCap w s.size 0 el)).size=grownCap w s.size 0 el:=by
   simp only[bytesRow,Array.size_append,Array.size_map,Array.size_replicate]
   have:s.data.size=s.size:=rfl
   omega
  refine⟨true,.cells (bytesRow s (grownCap w s.size 0 el)) el ((bytesRow s (grownCap w s.size 0 el)).size,(bytesRow s (grownCap w s.size 0 el)).size+1),.slice (some ⟨w.heap.size,0,none⟩) s.size (grownCap w s.size 0 el),⟨w.heap.size,0,grownCap w s.size 0 el,1⟩, ?_,rfl, ?_,fun ρ' b hb=>?_⟩
  ·simp only[execOp,hop,hc,Sem.run_bind]
   rw[run_bytes_of_string w src dst el s hs hd hel]
   rfl
  ·refine⟨_,_,rfl,⟨?_,fun k x hk=>?_,fun k _ hk=>?_,(fun h=>by cases h),fun _=>⟨Nat.one_pos, ?_,hsz⟩,rfl⟩⟩
   ·rw[hrow,Array.length_toList];show 0+s.size≤_;omega
   ·obtain⟨h1,h2⟩:=mH hk
    rw[Tree.mZ,if_pos (by simp at h1 ⊢;exact h1)]at h2
    simp only[Nat.sub_zero,List.getElem?_map,Option.map_eq_some_iff]at h2
    obtain⟨b,hb,rfl⟩:=h2
    refine⟨.int .u8 b.toNat, ?_,.sc _ rfl⟩
    rw[Array.length_toList]at h1
    simp only[bytesRow,Nat.zero_add]
    rw[Array.getElem?_append_left (by simpa using h1),Array.getElem?_map,← Array.getElem?_toList,hb]
    rfl
   ·simp only[Nat.zero_add]at hk ⊢;omega
   ·simp[hrow]
  ·have:=ai.lQ (ρ:=ρ') b 0 s.size ⟨w.heap.size,0,grownCap w s.size 0 el,1⟩ hb (by show 0+s.size≤grownCap w s.size 0 el;omega)
   simpa using this
 case range t y =>
  have hy:ai ρ (e y) (c y):=he y (by rw[hop];simp[Op.operands])
  simp only[gu,hop]at h
  split at h <;>try cases h
  ·rename_i s hu hex
   rw[hex]at hy
   have hc:=(aH hy).1
   refine⟨false,.stringIter s 0,.pointer (some ⟨w.heap.size,0,none⟩),⟨w.heap.size,0,0,0⟩, ?_,rfl,⟨rfl,rfl⟩,fun ρ' b hb=>.ptr b 0 _ hb⟩
   simp[execOp,hop,hc,Instr.range,run_underlying hu]
  ·rename_i hu hex
   rw[hex]at hy
   have hc:=(aH hy).1
   refine⟨false,.mapIter none 0 #[] 0,.pointer (some ⟨w.heap.size,0,none⟩),⟨w.heap.size,0,0,0⟩, ?_,rfl,⟨rfl,none,rfl,rfl⟩,fun ρ' b hb=>.ptr b 0 _ hb⟩
   simp[execOp,hop,hc,Instr.range,run_underlying hu]
 case call cl =>
  obtain⟨callee,args,ts⟩:=cl
  simp only[gu,hop]at h
  cases h
 all_goals (simp only[gu,hop]at h;cases h)
end
end Go.Ab
namespace Go.Ab
def Br:AV→Option Nat
 |.slc _ _ n _=>some n
 |.emp _=>some 0
 |.sc (.slice none 0 0)=>some 0
 |.sc (.string s)=>some s.data.toList.length
 |_=>none
def qG(A:AW)(size k:Nat):AV→Option (List AV)
 |.slc b o _ _=>A.loads b o (k*size)
 |.sc (.string s)=>match Nat.beq size 1 with
  |true=>some ((s.data.toList.take k).map fun b=>AV.sc (.int .u8 b.toNat))
  |false=>none
 |_=>none
def acz(size:Nat)(d x:AV)(A:AW):Option (AV×AW) :=
 match d with
 |.slc b o dn _=>match Br x with
  |some sn=>match Nat.min sn dn with
   |0=>some (.sc (.int .i64 0),A)
   |k+1=>match qG A size (k+1) x with
    |some vs=>match A.stores b o vs with
     |some A'=>some (.sc (.int .i64 (k+1:Nat)),A')
     |none=>none
    |none=>none
  |none=>none
 |.emp _=>match Br x with
  |some _=>some (.sc (.int .i64 0),A)
  |none=>none
 |.sc (.slice none 0 0)=>match Br x with
  |some _=>some (.sc (.int .i64 0),A)
  |none=>none
 |_=>none
def OA(P:Program)(f:FuncId)(args:List AV):Option Um :=
 match P.funcs[f]? with
 |none=>none
 |some fn=>match fn.body with
  |some _=>some (.enter f args)
  |none =>
   match Extern.findNext fn with
   |some _=>none
   |none=>match Extern.find fn,bW bZ args with
    |some s,some vs=>match bA P (s ⟨vs⟩)with
     |some v=>match gy v with
      |some x=>some (.value x)
      |none=>none
     |none=>none
    |_,_=>none
def lJ(P:Program)(argTypes:Array TypeId):Option Bool :=
 match argTypes[1]? with
 |none=>some false
 |some t=>match P.underlying t with
  |some (.int _)=>some true
  |some _=>some false
  |none=>none
structure Ext where
 split:List Nat
 TZ:List Nat
 Ur:List Nat
def has:List Nat→Nat→Bool
 |[],_=>false
 |x::xs,f=>match Nat.beq x f with
  |true=>true
  |false=>has xs f
def yE(A:AW):List AV→Option AV
 |[.slc ba oa _ _,.slc bb _ _ _]=>match Nat.beq ba bb,A.heap.get ba,A.heap.get bb with
  |false,some (.row na _ _ false _ fa),some (.row nb _ _ _ _ _)=>match Nat.beq fa 0&&Nat.ble (oa+1) na&&Nat.ble 1 nb with
   |true=>some (.sc (.bool false))
   |false=>none
  |_,_,_=>none
 |_=>none
def UD{β:Type}(x:β):List β→Nat→List β
 |[],_=>[]
 |y::ys,n=>match n with
  |0=>x::ys
  |n+1=>y::UD x ys n
def QD(P:Program)(kt:TypeId)(k v:AV)(kv:Value)(es:List (AV×AV×Nat))(clock:Nat):Option mY :=
 match bA P (Instr.checkKey false 10000 kt kv),AB P kt kv es with
 |some (),some (some (i,_))=>match nth es i with
  |some (ka,_,born)=>match bZ ka with
   |some aqn=>match Instr.sameBits 10000 aqn kv with
    |true=>some (.map (UD (k,v,born) es i) clock)
    |false=>none
   |none=>none
  |none=>none
 |some (),some none=>some (.map (es++[(k,v,clock)]) (clock+1))
 |_,_=>none
def kN(P:Program)(X:Ext)(o:Oper)(e:Operand→AV)(A:AW):Option (Um×AW) :=
 match o.op with
 |.store t a x=>match e a,aL P t with
  |.ptr b p,some n=>match Nat.beq (e x).cells.length n,A.stores b p (e x).cells with
   |true,some A'=>some (.skip,A')
   |_,_=>none
  |_,_=>none
 |.call { callee:=.builtin .append,args,argTypes } => match argTypes[0]?,args with
  |some t,⟨[s,x]⟩=>match P.underlying t with
   |some (.slice elem)=>match lJ P argTypes with
    |some zeros=>match QB P elem zeros (e s) (e x) A with
     |some (v,A')=>some (.value v,A')
     |none=>none
    |none=>none
   |_=>none
  |_,_=>none
 |.call { callee:=.builtin .copy,args,argTypes } => match argTypes[0]?,args with
  |some t,⟨[s,x]⟩=>match P.underlying t with
   |some (.slice elem)=>match aL P elem with
    |some size=>match acz size (e s) (e x) A with
     |some (v,A')=>some (.value v,A')
     |none=>none
    |none=>none
   |_=>none
  |_,_=>none
 |.call { callee:=.builtin .clear,args,argTypes } => match argTypes[0]?,args with
  |some t,⟨[x]⟩=>match P.underlying t,e x with
   |some (.slice elem),.slc b p n _=>match aL P elem,gZ P elem with
    |some size,some zs=>match Nat.ble 1 size&&Nat.beq zs.length size,A.stores b p (oO.rep zs n)with
     |true,some A'=>some (.value .undef,A')
     |_,_=>none
    |_,_=>none
   |some (.slice _),.emp _=>some (.value .undef,A)
   |_,_=>none
  |_,_=>none
 |.convert src dst x=>match Nat.beq src dst,P.underlying src,e x with
  |true,some (.slice el),.slc b o len (.ex c)=>match P.underlying el,A.heap.get b with
   |some (.int .u8),some (.row n tree zs false elem 0)=>some (.value (.slc b o len (.ex c)),{ A with heap:=A.heap.set b (.row n tree zs false elem (n+1)) })
   |_,_=>none
  |_,_,_=>none
 |.mapUpdate t m k x=>match P.underlying t,e m,bZ (e k)with
  |some (.map kt _),.map b,some kv=>match A.heap.get b with
   |some (.map es clock)=>match QD P kt (e k) (e x) kv es clock with
    |some y=>some (.skip,{ A with heap:=A.heap.set b y })
    |none=>none
   |_=>none
  |_,_,_=>none
 |.next it true=>match e it with
  |.ptr b 0=>match A.heap.get b with
   |some (.mi s pos)=>match Nat.ble (pos+1) s.data.toList.length with
    |true=>some (.value (.tup [.sc (.bool true),.sc (.int .i64 pos),.sc (.int .i32 (Utf8.decode s pos).1)]),{ A with heap:=A.heap.set b (.mi s (pos+(Utf8.decode s pos).2)) })
    |false=>some (.value (.tup [.sc (.bool false)]),A)
   |_=>none
  |_=>none
 |.call { callee:=.builtin .unsafeString,args,argTypes } => match argTypes[0]?,args with
  |some t,⟨[x,n]⟩=>match P.underlying t with
   |some (.pointer el)=>match P.underlying el,e x,gm (e n)with
    |some (.int .u8),.ptr b p,some (k+1)=>match A.heap.get b,A.loads b p (k+1)with
     |some (.row n _ _ _ elem _),some vs=>match bytesOf vs,liesAt P P.depth elem (n / P.cellsOf elem) p el (k+1),Nat.ble k 4611686018427387904 with
      |some s,true,true=>some (.value (.sc (.string s)),{ A with heap:=A.heap.del b })
      |_,_,_=>none
     |_,_=>none
    |some (.int .u8),.sc (.pointer none),some 0=>some (.value (.sc (.string ⟨⟨[]⟩⟩)),A)
    |_,_,_=>none
   |_=>none
  |_,_=>none
 |.call { callee:=.value f,args,.. } => match e f with
  |.fn (.func g) first captured=>match has X.TZ g,has X.Ur g with
   |true,_=>match yE A (first++args.toList.map e++captured)with
    |some v=>some (.value v,A)
    |none=>none
   |false,true=>match first++args.toList.map e++captured with
    |[v]=>some (.value v,A)
    |_=>none
   |false,false=>match OA P g (first++args.toList.map e++captured)with
    |some r=>some (r,A)
    |none=>none
  |_=>none
 |_=>none
inductive Kind where
 |pure|read|alloc|nS
def kindOf(P:Program)(o:Oper):Kind :=
 match o.op with
 |.alloc _|.box _ _|.buildSlice _ _ _|.makeSlice _ _ _|.makeMap _ _=>.alloc
 |.range t _=>match P.underlying t with
  |some (.map _ _)=>.nS
  |_=>.alloc
 |.load _ _|.slice _ _ _ _ _|.lookup _ _ _ _|.entry _=>.read
 |.convert src dst _=>match P.underlying src,P.underlying dst with
  |some .string,some (.slice _)=>.alloc
  |some (.slice _),some .string=>.read
  |some (.slice _),some (.slice _)=>.nS
  |some (.pointer _),some .unsafePointer=>.read
  |some .unsafePointer,some (.pointer _)=>.read
  |_,_=>.pure
 |.store _ _ _|.mapUpdate _ _ _ _|.insert _ _ _ _|.mapEntry _ _ _|.entryStore _ _ _ _|.next _ _=>.nS
 |.call { callee:=.builtin .len,args:=_,argTypes } => match argTypes[0]? with
  |some t=>match P.underlying t with
   |some (.map _ _)=>.read
   |_=>.pure
  |none=>.pure
 |.call { callee:=.builtin .min,.. }|.call { callee:=.builtin .max,.. } => .pure
 |.call { callee:=.builtin .cap,.. } => .read
 |.call { callee:=.builtin .unsafeSliceData,.. } => .pure
 |.call _=>.nS
 |_=>.pure
def lG(T:Tree AV):Operand→AV
 |.tmp t=>(T.get t).getD .top
 |.const v=>(gy v).getD .top
 |.global _=>.top
 |.func f=>.fn (.func f) [] []
abbrev asv:=FuncId→List AV→AW→Option (AV×AW)
def aaG:Cap→Cap→Bool
 |.ex a,.ex b=>Nat.beq a b
 |.op a,.op b=>Nat.beq a b
 |_,_=>false
def QG(nt:Nat)(T:Tree AV):Option Tmp→AV→Option (Tree AV)
 |some d,v=>match Nat.ble (d+1) nt with
  |true=>some (T.set d v)
  |false=>none
 |none,_=>some T
structure Row where
 i:Nat
 o:Oper
 m:Nat
 lev:Nat
 kd:Kind
def mg:Kind→Bool
 |.nS=>true
 |_=>false
def mO(acc:List Nat):List Edge→Nat
 |[]=>0
 |e::es=>match Region.binds .any e with
  |true=>(2^e.on ||| (nth acc e.on).getD 0) ||| mO acc es
  |false=>mO acc es
def ja:List Oper→List Nat→List Nat
 |[],acc=>acc
 |o::r,acc=>ja r (acc++[mO acc o.after.toList])
def kZ(m:Nat):List Nat→Nat→Nat→Nat
 |[],_,lY=>lY
 |x::es,r,lY=>match Nat.testBit m x with
  |true=>kZ m es (r+1) (r+1)
  |false=>kZ m es (r+1) lY
def qM(P:Program)(es:List Nat):List Oper→List Nat→Nat→List Row
 |o::os,m::ms,i => { i,o,m,lev:=kZ m es 0 0,kd:=kindOf P o } :: qM P es os ms (i+1)
 |_,_,_=>[]
def xX(P:Program):List Oper→Nat→List Nat
 |[],_=>[]
 |o::os,i=>match mg (kindOf P o)with
  |true=>i::xX P os (i+1)
  |false=>xX P os (i+1)
def Ww:List Oper→Nat→Tree Nat→Tree Nat
 |[],_,t=>t
 |o::os,i,t=>Ww os (i+1) (match o.dst with|some d=>t.set d i|none=>t)
def KX:List Oper→Nat→Bool
 |[],_=>true
 |o::os,i=>o.after.toList.all (fun e=>!Region.binds .any e||Nat.ble (e.on+1) i)&&KX os (i+1)
def KY(ms:List Nat):List Nat→List Nat→Bool
 |_,[]=>true
 |done,x::es=>done.all (fun y=>Nat.testBit ((nth ms x).getD 0) y)&&KY ms (x::done) es
structure RI where
 ms:List Nat
 es:List Nat
 wr:Tree Nat
 rows:List Row
def uG(P:Program)(nt:Nat)(ops:Array Oper):Option RI :=
 let L:=ops.toList
 let ms:=ja L []
 let es:=xX P L 0
 let wr:=Ww L 0 .leaf
 let rows:=qM P es L ms 0
 match KX L 0&&KY ms [] es&&rows.all (fun r=>match r.o.dst with
   |some d=>(match wr.get d with|some j=>Nat.beq j r.i|none=>false)&&Nat.ble (d+1) nt
   |none=>true)with
 |true=>some { ms,es,wr,rows }
 |false=>none
def jI(T0:Tree AV)(wr:Tree Nat)(vals:Tree AV)(m:Nat):Operand→AV
 |.tmp t=>match wr.get t with
  |some j=>match Nat.testBit m j with
   |true=>(vals.get j).getD .top
   |false=>(T0.get t).getD .top
  |none=>(T0.get t).getD .top
 |x=>lG T0 x
def Vp(ri:RI)(r:Row):Operand→Bool
 |.tmp t=>match ri.wr.get t with
  |some j=>Nat.testBit r.m j||Nat.beq j r.i||Nat.testBit ((nth ri.ms j).getD 0) r.i
  |none=>true
 |_=>true
def Fq(ri:RI)(r:Row):Bool:=r.o.op.operands.toList.all (Vp ri r)
structure RS where
 vals:Tree AV
 A:AW
 aX:Tree Nat
def kV(ms:List Nat)(es:List Nat)(k:Nat)(r:Row):Bool :=
 Nat.ble r.lev k&&(es.take k).all (fun x=>!Nat.testBit ((nth ms x).getD 0) r.i)
def Ey(T0:Tree AV)(vals:Tree AV):List Row→Tree AV
 |[]=>T0
 |r::rest=>match r.o.dst with
  |some d=>Ey (T0.set d ((vals.get r.i).getD .top)) vals rest
  |none=>Ey T0 vals rest
inductive Ex where
 |normal
 |exit (id:Nat)
 |ret
end Go.Ab
namespace Go.Ab
open Go Go.RowKit
section
variable {P:Program} {base:Base} {ρ:Ren} {A:AW} {w:World}
def Gf(P:Program)(base:Base)(ρ:Ren)(A:AW)(w:World)(run:World→Result Value)(v:AV)(A' : AW):Prop :=
 ∃ ρ' w' v',run w=.ok v' w'∧Step base A.next ρ w ρ' w'∧dD P base ρ' A' w'∧A.next≤A'.next∧ai ρ' v v'
theorem S9(s:ByteArray):aQ ρ (s.data.toList.map fun b=>AV.sc (.int .u8 b.toNat)) (s.data.toList.map fun b=>Value.int .u8 b.toNat):=by
 generalize s.data.toList=l
 induction l with
 |nil=>exact .nil
 |cons b l ih=>exact .cons _ _ _ _ (.sc _ rfl) ih
theorem ET{zs:List AV}{z:Array Value}(hz:aQ ρ zs z.toList)(h1:0<z.size):∀ n,aQ ρ (oO.rep zs n) (Builtin.zeroCells z n).toList
 |0=>by simp[oO.rep,Builtin.zeroCells];exact .nil
 |n+1=>by
  have ih:=ET hz h1 n
  have e:(Builtin.zeroCells z (n+1)).toList=z.toList++(Builtin.zeroCells z n).toList:=by
   apply List.ext_getElem?
   intro k
   have hs:∀ m k,(Builtin.zeroCells z m).toList[k]?=if k<m*z.size then z.toList[k%z.size]? else none:=by
    intro m k
    have:k%z.size<z.size:=Nat.mod_lt _ h1
    by_cases hk:k<m*z.size
    ·simp[Builtin.zeroCells,hk,this]
    ·simp[Builtin.zeroCells,hk]
   rw[hs]
   by_cases hk:k<z.size
   ·rw[if_pos (by rw[Nat.add_mul];omega),List.getElem?_append_left (by simpa using hk),Nat.mod_eq_of_lt hk]
   ·rw[List.getElem?_append_right (by simpa using hk),hs,Array.length_toList]
    have e2:k%z.size=(k-z.size)%z.size:=by
     have:k=(k-z.size)+z.size:=by omega
     rw[this,Nat.add_mod_right];simp
    rw[e2]
    by_cases h:k-z.size<n*z.size
    ·rw[if_pos h,if_pos (by rw[Nat.add_mul];omega)]
    ·rw[if_neg h,if_neg (by rw[Nat.add_mul];omega)]
  rw[e]
  exact hz.append ih
structure ND(P:Program)(ρ:Ren)(w:World)(elem size:Nat)(zeros:Bool)(x:Value)(n:Nat)(new:List AV)(us:List Value):Prop where
 rel:aQ ρ new us
 len:us.length=n*size
 num:(if zeros=true then ∃ k,x=.int k n else(Builtin.lenOf x).run P w=.ok n w)
 get:zeros=false→∀ w',w'.heap=w.heap→(Builtin.firstCells size n x).run P w'=.ok ⟨us⟩ w'
 zer:zeros=true→∃ it z,P.info? elem=some it∧it.zero=some z∧(Builtin.zeroCells z.cells n).toList=us
theorem WH(hw:dD P base ρ A w){elem size:Nat}{zs:List AV}{zeros:Bool}{x:AV}{u:Value}{n:Nat}{new:List AV}(hx:ai ρ x u)(hzs:gZ P elem=some zs)(h1:1≤size)(h2:zs.length=size)
  (h:oO A size zs zeros x=some (n,new)):∃ us,ND P ρ w elem size zeros u n new us:=by
 unfold oO at h
 split at h
 ·split at h <;>try cases h
  rename_i m hm
  split at h <;>try cases h
  rename_i hle
  obtain⟨it,z,hi,hz,hr⟩:=jg (ρ:=ρ) hzs
  obtain⟨k,hk⟩:=mF hx hm
  have hl:=hr.length
  simp only[Array.length_toList]at hl
  refine⟨(Builtin.zeroCells z.cells n).toList,ET hr (by omega) n,by rw[Array.length_toList,size_zeroCells,← hl,h2],(by simp;exact⟨k,hk⟩),(fun e=>by cases e),fun _=>⟨it,z,hi,hz,rfl⟩⟩
 ·split at h <;>try cases h
  ·rename_i b o len cap
   split at h <;>try cases h
   rename_i xs hl
   obtain⟨i,cp,hb,rfl⟩:=eZ hx
   obtain⟨vs,hr,hlen,hcell⟩:=iO hw hb hl
   refine⟨vs,hr,hlen,by simp[Builtin.lenOf],fun _ w' hw'=>?_,fun e=>by cases e⟩
   have:=run_loadCells_list (P:=P) w' ⟨i.cb,i.sh+o,none⟩ vs (fun j v hj=>by rw[← hcell j v hj];simp[World.cell?,hw'])
   rw[hlen]at this
   simp[Builtin.firstCells,this]
  ·cases hx with
   |emp b ad c =>
   exact⟨[],.nil,by simp,by simp[Builtin.lenOf],fun _ _ _=>by simp[Builtin.firstCells,loadCells,loadCellsFrom],fun e=>by cases e⟩
  ·obtain⟨rfl,_⟩:=aH hx
   exact⟨[],.nil,by simp,by simp[Builtin.lenOf],fun _ _ _=>by simp[Builtin.firstCells],fun e=>by cases e⟩
  ·rename_i s
   split at h <;>try cases h
   rename_i hsz
   have hsz:=dG hsz
   subst hsz
   obtain⟨rfl,_⟩:=aH hx
   refine⟨_,S9 s,by simp,by simp[Builtin.lenOf],fun _ _ _=>?_,fun e=>by cases e⟩
   simp only[Builtin.firstCells,Sem.run_pure]
   congr 1
   have:(s.extract 0 s.data.toList.length)=s:=by
    have h:s.data.toList.length=s.size:=by rw[Array.length_toList];rfl
    rw[h];simp
   rw[this]
   apply Array.ext'
   simp
variable {elem size bytes n:Nat} {zeros:Bool} {x:Value} {new:List AV} {us:List Value}
theorem aaz(h:ND P ρ w elem size zeros x n new us)(w' : World)(hw' : w'.heap=w.heap) :
  (if !zeros then Builtin.firstCells size n x else if n*size=0 then pure #[]else do pure (Builtin.zeroCells (← zeroValue elem).cells n):Sem (Array Value)).run P w'=.ok ⟨us⟩ w':=by
 cases hz:zeros with
 |false=>simpa using h.get hz w' hw'
 |true =>
  obtain⟨it,z,hi,hzz,hus⟩:=h.zer hz
  by_cases h0:n*size=0
  ·have:=h.len
   rw[h0]at this
   have:us=[]:=List.eq_nil_of_length_eq_zero this
   simp[h0,this]
  ·simp[h0,zeroValue,typeInfo,hi,hzz]
   apply Array.ext'
   rw[hus]
theorem Kw{ts:Array TypeId}(h:lJ P ts=some zeros) :
  (ts[1]?=none∧zeros=false)∨∃ u d,ts[1]?=some u∧P.underlying u=some d∧((∃ k,d=.int k∧zeros=true)∨((∀ k,d≠.int k)∧zeros=false)):=by
 unfold lJ at h
 split at h
 ·rename_i e;cases h;exact .inl ⟨e,rfl⟩
 ·rename_i u e
  split at h <;>try cases h
  ·rename_i k e2;exact .inr ⟨u,_,e,e2,.inl ⟨k,rfl,rfl⟩⟩
  ·rename_i d hd e2;exact .inr ⟨u,d,e,e2,.inr ⟨fun k hk=>hd k hk,rfl⟩⟩
theorem adT{d:TypeDesc}(h:∀ k,d≠.int k):(match d with|.int _=>true|_=>false)=false:=by
 cases d<;>first|rfl|exact absurd rfl (h _)
theorem AZ(h:ND P ρ w elem size zeros x n new us){t:TypeId}{ts:Array TypeId}{ty:TypeId}(ht:ts[0]?=some t)(hu:P.underlying t=some (.slice elem))(hzs:lJ P ts=some zeros)
  {it:TypeInfo} (hi:P.info? elem=some it) (hs:it.size=size) (hb:it.bytes=bytes) (h1:n*bytes≤140737488355328) (h2:n≤140737488355328)
  {ad:Option Addr} {sLen sCap:Nat} (hroom:sLen+n≤sCap) {w1:World} (hst:match ad with|some a=>(storeCells (a.add (sLen*size)) us).run P w=.ok () w1|none=>w1=w) :
  (Builtin.append_ ts ty #[.slice ad sLen sCap,x]).run P w=.ok (.slice ad (sLen+n) sCap) w1:=by
 have ha:=aaz h w rfl
 have hsz:(sizeOf elem).run P w=.ok size w:=by simp[sizeOf,typeInfo,hi,hs]
 have hti:(typeInfo elem).run P w=.ok it w:=by simp[typeInfo,hi]
 have key:(Builtin.append_ ts ty #[.slice ad sLen sCap,x]).run P w=(ad.elim (Result.ok (.slice ad (sLen+n) sCap) w) fun a=>((storeCells (a.add (sLen*size)) us).run P w).andThen fun _ w=>.ok (.slice ad (sLen+n) sCap) w):=by
  clear hst
  have vC:=h.num
  rcases Kw hzs with⟨e,rfl⟩|⟨u,d,e,e2,⟨k,rfl,rfl⟩|⟨hd,rfl⟩⟩
  ·simp only[Bool.false_eq_true,if_false]at vC
   simp only[Bool.not_false,if_true]at ha
   simp only[Builtin.append_,ht,e,List.getElem?_toArray,List.getElem?_cons_zero,List.getElem?_cons_succ,Sem.run_bind,run_underlying hu,Result.andThen_ok,hsz,Sem.run_pure,Bool.false_eq_true,if_false,vC,hroom,if_true,Bool.not_false,ha]
   cases ad<;>simp only[Sem.run_bind,Sem.run_pure,Option.elim]
  ·simp only[if_true]at vC
   obtain⟨kk,rfl⟩:=vC
   have hwr:IntKind.i64.wrap (n:Int)=n:=by rw[IntKind.wrap_i64];omega
   have hb2:¬ ((n:Int)*(it.bytes:Int)>2^48):=by
    rw[hb,← Int.natCast_mul];omega
   have hn:¬ ((n:Int)<0):=by omega
   simp only[Bool.not_true,Bool.false_eq_true,if_false]at ha
   simp only[Builtin.append_,ht,e,List.getElem?_toArray,List.getElem?_cons_zero,List.getElem?_cons_succ,Sem.run_bind,run_underlying hu,run_underlying e2,Result.andThen_ok,hsz,hti,Sem.run_pure,if_true,asInt,asIntOf,hwr,hn,hb2,if_false,Int.toNat_natCast,hroom,Bool.not_true,Bool.false_eq_true,ha]
   cases ad<;>simp only[Sem.run_bind,Sem.run_pure,Option.elim]
  ·simp only[Bool.false_eq_true,if_false]at vC
   simp only[Bool.not_false,if_true]at ha
   simp only[Builtin.append_,ht,e,List.getElem?_toArray,List.getElem?_cons_zero,List.getElem?_cons_succ,Sem.run_bind,run_underlying hu,run_underlying e2,Result.andThen_ok,hsz,Sem.run_pure,adT hd,Bool.false_eq_true,if_false,vC,hroom,if_true,Bool.not_false,ha]
   cases ad<;>simp only[Sem.run_bind,Sem.run_pure,Option.elim]
 rw[key]
 cases ad with
 |none=>simp only at hst;subst hst;rfl
 |some a=>simp only at hst;simp only[Option.elim,hst,Result.andThen_ok]
theorem run_askRoom(b:Nat)(w:World):(askRoom b).run P w=.ok () w:=by
 unfold askRoom;split<;>rfl
theorem Ni(h:ND P ρ w elem size zeros x n new us){t:TypeId}{ts:Array TypeId}{ty:TypeId}(ht:ts[0]?=some t)(hu:P.underlying t=some (.slice elem))(hzs:lJ P ts=some zeros)
  {it:TypeInfo} {z:Value} (hi:P.info? elem=some it) (hz:it.zero=some z) (hs:it.size=size) (hb:it.bytes=bytes) (h1:n*bytes≤140737488355328) (h2:n≤140737488355328)
  {ad:Option Addr} {sLen sCap:Nat} (hroom:¬ sLen+n≤sCap) (h3:(sLen+n)*bytes≤140737488355328) (h4:sLen+n≤140737488355328) {vs:List Value}
  (hold:∀ w',w'.heap=w.heap→(Builtin.firstCells size sLen (.slice ad sLen sCap)).run P w'=.ok ⟨vs⟩ w') :
  (Builtin.append_ ts ty #[.slice ad sLen sCap,x]).run P w=.ok (.slice (some ⟨w.heap.size,0,none⟩) (sLen+n) (grownCap w (sLen+n) sCap elem))
   (w.drew.alloc (.cells (⟨vs⟩++⟨us⟩++Builtin.zeroCells z.cells (grownCap w (sLen+n) sCap elem-(sLen+n))) elem)):=by
 have ha:=aaz h w.drew rfl
 have ho:=hold w.drew rfl
 have hfit:=growslice_fits (need:=sLen+n) (old:=sCap) (bytes:=bytes) (by omega) (by omega)
 have hmax:¬ (((sLen+n:Nat):Int)>IntKind.i64.max):=by
  have:IntKind.i64.max=9223372036854775807:=rfl
  omega
 have hbig:¬ (Builtin.nextslicecap (sLen+n) sCap*bytes>2^48):=by omega
 have hti:∀ w,(typeInfo elem).run P w=.ok it w:=fun w=>by simp[typeInfo,hi]
 have hzv:∀ w,(zeroValue elem).run P w=.ok z w:=fun w=>by simp[zeroValue,typeInfo,hi,hz]
 have hsz:(sizeOf elem).run P w=.ok size w:=by simp[sizeOf,typeInfo,hi,hs]
 have hch:(choose (.appendCap (sLen+n) sCap elem)).run P w=.ok (grownCap w (sLen+n) sCap elem) w.drew:=by rw[run_choose_drew];rfl
 have vC:=h.num
 rcases Kw hzs with⟨e,rfl⟩|⟨u,d,e,e2,⟨k,rfl,rfl⟩|⟨hd,rfl⟩⟩
 ·simp only[Bool.false_eq_true,if_false]at vC
  simp only[Bool.not_false,if_true]at ha
  simp only[Builtin.append_,ht,e,List.getElem?_toArray,List.getElem?_cons_zero,List.getElem?_cons_succ,Sem.run_bind,run_underlying hu,Result.andThen_ok,hsz,Sem.run_pure,Bool.false_eq_true,if_false,vC,hroom,hti,hmax,false_and,hb,hbig,hch,run_askRoom,ho,ha,hzv,
   Bool.not_false,if_true,newRow,run_newObj_alloc,World.size_drew]
 ·simp only[if_true]at vC
  obtain⟨kk,rfl⟩:=vC
  have hwr:IntKind.i64.wrap (n:Int)=n:=by rw[IntKind.wrap_i64];omega
  have hb2:¬ ((n:Int)*(bytes:Int)>2^48):=by
   rw[← Int.natCast_mul];omega
  have hn:¬ ((n:Int)<0):=by omega
  simp only[Bool.not_true,Bool.false_eq_true,if_false]at ha
  simp only[Builtin.append_,ht,e,List.getElem?_toArray,List.getElem?_cons_zero,List.getElem?_cons_succ,Sem.run_bind,run_underlying hu,run_underlying e2,Result.andThen_ok,hsz,Sem.run_pure,if_true,asInt,asIntOf,hwr,hn,hb2,if_false,Int.toNat_natCast,hroom,hti,hmax,false_and,hb,hbig,hch,run_askRoom,ho,ha,hzv,
   Bool.not_true,Bool.false_eq_true,newRow,run_newObj_alloc,World.size_drew]
 ·simp only[Bool.false_eq_true,if_false]at vC
  simp only[Bool.not_false,if_true]at ha
  simp only[Builtin.append_,ht,e,List.getElem?_toArray,List.getElem?_cons_zero,List.getElem?_cons_succ,Sem.run_bind,run_underlying hu,run_underlying e2,Result.andThen_ok,hsz,Sem.run_pure,adT hd,Bool.false_eq_true,if_false,vC,hroom,hti,hmax,false_and,hb,hbig,hch,run_askRoom,ho,ha,hzv,
   Bool.not_false,if_true,newRow,run_newObj_alloc,World.size_drew]
end
def AW.kill(A:AW)(b:Nat):AW := { A with heap:=A.heap.del b }
section
variable {P:Program} {base:Base} {ρ:Ren} {A:AW} {w:World}
theorem UH(hw:dD P base ρ A w)(b:Nat):dD P base ρ (A.kill b) w:=by
 have hg:∀ {c x},(A.kill b).heap.get c=some x→c≠b∧A.heap.get c=some x:=by
  intro c x h
  simp only[AW.kill,Tree.FO]at h
  split at h
  ·cases h
  ·exact⟨‹_›,h⟩
 exact⟨hw.dom,fun c i x hc hx=>hw.blk c i x hc (hg hx).2,fun c d i j x y hc hd hx hy=>hw.sep c d i j x y hc hd (hg hx).2 (hg hy).2,fun c x hx=>hw.top c x (hg hx).2,fun c i x hc hx=>hw.lo c i x hc (hg hx).2,hw.inv⟩
variable {elem size bytes n:Nat} {zeros:Bool} {x:Value} {new:List AV} {us:List Value}
theorem Im(hw:dD P base ρ A w)(hbase:base≤w.heap.size)(h1:1≤size)(hsz:aL P elem=some size){need cap:Nat}{cs:Array Value}(hcs:cs.size=cap*size)(hge:need≤cap){tree:Tree AV}{z:List AV}{fz:Nat}
  (hval:∀ k x,cellAt tree z (need*size) k=some x→∃ v,cs[k]?=some v∧ai ρ x v) {run:World→Result Value}
  (hrun:run w=.ok (.slice (some ⟨w.heap.size,0,none⟩) need cap) (w.drew.alloc (.cells cs elem))) :
  Gf P base ρ A w run (.slc A.next 0 need (.op size)) (A.push (.row (need*size) tree z true elem fz)):=by
 have hb:ρ A.next=none:=hw.fresh (Nat.le_refl _)
 have hrel:jL P (ρ.add A.next ⟨w.heap.size,0,cap,size⟩) ⟨w.heap.size,0,cap,size⟩ (.row (need*size) tree z true elem fz) (.cells cs elem):=by
  refine⟨cs,(0,0),rfl,⟨?_,fun k x h=>?_,fun k _ _ h=>by simp at h,(fun h=>by cases h),fun _=>⟨h1,by simpa using hcs,hsz⟩,rfl⟩⟩
  ·show 0+need*size≤cs.size
   rw[hcs,Nat.zero_add];exact Nat.mul_le_mul_right _ hge
  ·obtain⟨v,a,b⟩:=hval k x h
   exact⟨v,by show cs[0+k]?=_;rw[Nat.zero_add];exact a,b.mono (Ren.yR hb)⟩
 obtain⟨h2,h3⟩:=CZ hw.drew (w:=w.drew) (by simpa using hbase) (i:=⟨w.heap.size,0,cap,size⟩) rfl hrel
 refine⟨_,_,_,hrun,(Step.drew (n:=A.next)).trans h3 (Nat.le_refl _),h2,by simp[AW.push], ?_⟩
 have:=ai.lQ (ρ:=ρ.add A.next ⟨w.heap.size,0,cap,size⟩) A.next 0 need ⟨w.heap.size,0,cap,size⟩ (by simp[Ren.add]) (by show 0+need≤cap;omega)
 simpa using this
theorem SY{t:Tree AV}{z:List AV}{n k:Nat}{x:AV}(h:cellAt t z n k=some x):k<n:=by
 unfold cellAt at h
 split at h
 ·cases h
 ·rename_i hb;have:=bf hb;omega
theorem Ke{t:Tree AV}{z:List AV}{n m k:Nat}(h1:k<n)(h2:k<m):cellAt t z n k=cellAt t z m k:=by
 unfold cellAt
 rw[aU.2 (show k+1≤n by omega),aU.2 (show k+1≤m by omega)]
theorem uY(vs us:List Value)(r:Array Value)(k:Nat):(((⟨vs⟩ : Array Value)++⟨us⟩++r)[k]? : Option Value)=if k<vs.length then vs[k]? else if k<vs.length+us.length then us[k-vs.length]? else r[k-(vs.length+us.length)]?:=by
 rw[← Array.getElem?_toList,Array.toList_append,Array.toList_append]
 by_cases h1:k<vs.length
 ·rw[if_pos h1,List.append_assoc,List.getElem?_append_left h1]
 ·rw[if_neg h1]
  by_cases h2:k<vs.length+us.length
  ·rw[if_pos h2,List.append_assoc,List.getElem?_append_right (by simpa using h1)]
   rw[List.getElem?_append_left (by show k-vs.length<us.length;omega)]
  ·rw[if_neg h2,List.getElem?_append_right (by simp only[List.length_append];omega),List.length_append,Array.getElem?_toList]
theorem IY(hw:dD P base ρ A w)(hbase:base≤w.heap.size)(h1:1≤size){s v:AV}{u:Value}{A' : AW}(hs:ai ρ s u)(hn:ND P ρ w elem size zeros x n new us)
  {t:TypeId} {ts:Array TypeId} {ty:TypeId} (ht:ts[0]?=some t) (hu:P.underlying t=some (.slice elem)) (hzs:lJ P ts=some zeros)
  {it:TypeInfo} {z:Value} (hi:P.info? elem=some it) (hz:it.zero=some z) (hsi:it.size=size) (hzc:z.cells.size=size) (hb:it.bytes=bytes) (hnb:n*bytes≤140737488355328) (hnl:n≤140737488355328)
  (h:mE elem size bytes n new s A=some (v,A')):Gf P base ρ A w (fun w=>(Builtin.append_ ts ty #[u,x]).run P w) v A':=by
 have hsz:aL P elem=some size:=by simp[aL,hi,hsi]
 have same:∀ {ad:Option Addr}{l cp:Nat},n=0→u=.slice ad l cp→l≤cp→(Builtin.append_ ts ty #[u,x]).run P w=.ok u w:=by
  intro ad l cp h0 hu' hl
  subst h0 hu'
  have hus:us=[]:=List.eq_nil_of_length_eq_zero (by simpa using hn.len)
  exact AZ hn ht hu hzs hi hsi hb hnb hnl (by omega) (w1:=w) (by cases ad<;>simp[hus,storeCells])
 have grow:∀ {ad:Option Addr}{l cp:Nat}{vs:List Value}{old:List AV}{tree:Tree AV},u=.slice ad l cp→¬ l+n≤cp→aQ ρ old vs→vs.length=l*size →
   (∀ w',w'.heap=w.heap→(Builtin.firstCells size l (.slice ad l cp)).run P w'=.ok ⟨vs⟩ w')→(l+n)*bytes≤140737488355328→l+n≤140737488355328→lH .leaf 0 (old++new)=some tree →
   Gf P base ρ A w (fun w=>(Builtin.append_ ts ty #[u,x]).run P w) (.slc A.next 0 (l+n) (.op size)) (A.push (.row ((l+n)*size) tree [] true elem 0)):=by
  intro ad l cp vs old tree hu' hroom hold hlen hfc hb1 hb2 nK
  subst hu'
  have hr:=Ni hn (ty:=ty) ht hu hzs hi hz hsi hb hnb hnl hroom hb1 hb2 hfc
  have hge:=grownCap_ge w (l+n) cp elem
  have tT:=hn.len
  refine Im hw hbase h1 hsz (cap:=grownCap w (l+n) cp elem) ?_ hge (fun k y hk=>?_) hr
  ·simp only[Array.size_append,List.size_toArray,size_zeroCells,hzc,hlen,tT,← Nat.add_mul]
   congr 1;omega
  ·obtain⟨hk1,hk2⟩:=mH hk
   obtain⟨_,hget⟩:=fK _ _ _ nK
   have ho:=hold.length
   have hnw:=hn.rel.length
   rw[hget,if_pos (by simp only[List.length_append,ho,hnw,hlen,tT,← Nat.add_mul];omega),Nat.sub_zero]at hk2
   rw[uY]
   by_cases hlt:k<vs.length
   ·rw[if_pos hlt]
    rw[List.getElem?_append_left (by omega)]at hk2
    exact hold.get hk2
   ·rw[if_neg hlt,if_pos (by rw[hlen,tT,← Nat.add_mul];omega)]
    rw[List.getElem?_append_right (by omega),ho]at hk2
    exact hn.rel.get hk2
 unfold mE at h
 split at h
 ·
  obtain⟨rfl,_⟩:=aH hs
  split at h
  ·cases h
   exact⟨ρ,w,_,same rfl rfl (Nat.le_refl _),Step.refl _ _ _,hw,Nat.le_refl _,hs⟩
  ·rename_i m _ _
   split at h <;>try cases h
   rename_i tree nK
   have:=grow (ad:=none) (l:=0) (cp:=0) (vs:=[]) (old:=[]) rfl (by omega) .nil (by simp) (fun _ _=>by simp[Builtin.firstCells]) (by simpa using hnb) (by simpa using hnl) nK
   simpa using this
 ·
  rename_i b
  split at h <;>try cases h
  cases hs with
  |emp _ ad cp =>
  exact⟨ρ,w,_,same rfl rfl (Nat.zero_le _),Step.refl _ _ _,hw,Nat.le_refl _,.emp b ad cp⟩
 ·
  rename_i b o len cc
  cases hs with
  |jv _ _ _ _ i hbi =>
  split at h
  ·rename_i hle
   have hle:=bf hle
   split at h <;>try cases h
   rename_i A1 hst
   obtain⟨w1,hrun,hw1,hstep,hnext⟩:=qg hw hbi hn.rel hst
   refine⟨ρ,w1,_,AZ hn ht hu hzs hi hsi hb hnb hnl hle (w1:=w1) ?_,hstep,hw1,by omega,.jv b o (len+n) cc i hbi⟩
   simp only[fw]
   exact hrun _ (by omega)
  ·rename_i hle
   have hle:=OB hle
   split at h <;>try cases h
   rename_i old hl hb1 hb2
   split at h <;>try cases h
   rename_i tree nK
   obtain⟨vs,hr,hlen,hcell⟩:=iO hw hbi hl
   refine grow rfl hle hr hlen (fun w' hw'=>?_) (bf hb1) (bf hb2) nK
   have:=run_loadCells_list (P:=P) w' ⟨i.cb,i.sh+o,none⟩ vs (fun j v hj=>by rw[← hcell j v hj];simp[World.cell?,hw'])
   rw[hlen]at this
   simp[Builtin.firstCells,this]
 ·
  rename_i b o len esz
  split at h
  ·cases h
   cases hs with
   |lQ _ k _ i hbi hk =>
   exact⟨ρ,w,_,same rfl rfl (by omega),Step.refl _ _ _,hw,Nat.le_refl _,.lQ b k len i hbi hk⟩
  ·rename_i m
   split at h <;>try cases h
   rename_i kn tree zz opn el fz hg
   split at h <;>try cases h
   ·rename_i he hle
    have hle:=bf hle
    simp only[Bool.and_eq_true]at he
    have he2:=dG he.2
    split at h <;>try cases h
    rename_i A1 hst
    cases hs with
    |lQ _ k _ i hbi hk =>
    obtain⟨ob,hob,c,fr,rfl,hr⟩:=hw.blk b i _ hbi hg
    obtain⟨h0,hcs,_⟩:=hr.opn he.1
    have hfit:k+len+(m+1)≤i.jQ:=by
     have hs1:=hr.size
     have:(k+len+(m+1))*i.esz≤i.jQ*i.esz:=by
      have e1:(k+len+(m+1))*i.esz=k*i.esz+(len+(m+1))*i.esz:=by rw[← Nat.add_mul,Nat.add_assoc]
      rw[e1]
      rw[← he2]at hle
      omega
     exact Nat.le_of_mul_le_mul_right this h0
    obtain⟨w1,hrun,hw1,hstep,hnext⟩:=qg hw hbi hn.rel hst
    refine⟨ρ,w1,_,AZ hn ht hu hzs hi hsi hb hnb hnl (by omega) (w1:=w1) ?_,hstep,hw1,by omega,.lQ b k (len+(m+1)) i hbi (by omega)⟩
    simp only[fw]
    exact hrun _ (by omega)
   ·rename_i he hle
    have hle:=OB hle
    simp only[Bool.and_eq_true]at he
    have he2:=dG he.2
    split at h <;>try cases h
    rename_i old hl hcond
    simp only[Bool.and_eq_true]at hcond
    obtain⟨⟨⟨⟨⟨c1,c2⟩,c3⟩,c4⟩,c5⟩,c6⟩:=hcond
    have c1:=dG c1;have c2:=bf c2;have c3:=bf c3;have c4:=dG c4;have c5:=dG c5;have c6:=bf c6
    split at h <;>try cases h
    rename_i zU nK
    obtain⟨hone,hget⟩:=fK _ _ _ nK
    have tT:us.length=(m+1)*size:=hn.len
    have hnw:=hn.rel.length
    cases hs with
    |lQ _ k _ i hbi hk =>
    have hk0:k=0:=by
     rcases Nat.eq_zero_or_pos k with e|e
     ·exact e
     ·have:0<k*i.esz:=Nat.mul_pos e (by omega)
      omega
    subst hk0
    obtain⟨ob,hob,c,fr,rfl,hr⟩:=hw.blk b i _ hbi hg
    obtain⟨h0,hcs,hels⟩:=hr.opn he.1
    subst c1
    obtain⟨vs,hrl,hlen,hcell⟩:=iO hw hbi hl
    have hcl:=(Kv (len*size) 0 (by unfold AW.loads at hl;rw[hg]at hl;simpa [c4]using hl)).2
    -- what the new row holds
    have hnew:∀ k y,cellAt zU zz ((len+(m+1))*size) k=some y→(k<len*size∧cellAt tree zz kn k=some y)∨(len*size≤k∧k<(len+(m+1))*size∧new[k-len*size]?=some y):=by
     intro k y hky
     have anU:=SY hky
     rw[pQ hget]at hky
     have e1:len*size+new.length=(len+(m+1))*size:=by rw[hnw,tT,← Nat.add_mul]
     by_cases hin:len*size≤k∧k<len*size+new.length
     ·rw[if_pos hin]at hky
      split at hky
      ·exact .inr ⟨hin.1,anU,hky⟩
      ·cases hky
     ·rw[if_neg hin]at hky
      have:k<len*size:=by omega
      exact .inl ⟨this,by rw[← hky];exact Ke (by omega) anU⟩
    by_cases hroom:len+(m+1)≤i.jQ
    ·
     have hone' : ∀ v∈us,v.oneCell'=true:=by
      intro v hv
      obtain⟨j,hj⟩:=List.mem_iff_getElem?.1 hv
      have hjl:j<new.length:=by
       have:=(List.getElem?_eq_some_iff.1 hj).1
       omega
      obtain⟨u',hu',hrel⟩:=hn.rel.get (n:=j) (x:=new[j]) (by simp[hjl])
      rw[hj]at hu';cases hu'
      exact OZ hrel (hone _ (List.getElem_mem _))
     have hfit:(len+(m+1))*size≤i.jQ*i.esz:=by rw[he2];exact Nat.mul_le_mul_right _ hroom
     have hsum:len*size+(m+1)*size=(len+(m+1))*size:=by rw[← Nat.add_mul]
     obtain⟨cur',hrun,hcz,ack⟩:=vL (P:=P) i.cb (i.sh+len*size) el fr us 0 c w hob (by omega) hone' (fun k hk=>by
      have:=hr.free (len*size+k) (by omega) (by omega)
      simpa [Nat.add_assoc]using this)
     let i' : gF:=⟨i.cb,i.sh,i.jQ,i.esz⟩
     have hfresh:ρ A.next=none:=hw.fresh (Nat.le_refl _)
     have Hq:ρ.le (ρ.add A.next i'):=Ren.yR hfresh
     have hadd:∀ c' j,ρ.add A.next i' c'=some j→(c'=A.next∧j=i')∨(c'≠A.next∧ρ c'=some j):=by
      intro c' j h
      unfold Ren.add at h
      split at h
      ·cases h;exact .inl ⟨‹_›,rfl⟩
      ·exact .inr ⟨‹_›,h⟩
     have hgA:∀ {c' y},((A.heap.del b).set A.next (mY.row ((len+(m+1))*size) zU zz true el fz)).get c'=some y→(c'=A.next∧y=mY.row ((len+(m+1))*size) zU zz true el fz)∨(c'≠A.next∧c'≠b∧A.heap.get c'=some y):=by
      intro c' y h
      rw[Tree.bn]at h
      split at h
      ·cases h;exact .inl ⟨‹_›,rfl⟩
      ·rw[Tree.FO]at h
       split at h
       ·cases h
       ·exact .inr ⟨‹_›,‹_›,h⟩
     have hrunA:=AZ hn (ty:=ty) ht hu hzs hi hsi hb hnb hnl (ad:=some ⟨i.cb,i.sh+0*i.esz,none⟩) (sLen:=len) (sCap:=i.jQ-0) (by omega) (w1:=w.setRow i.cb cur') (by
      simp only[fw,Nat.zero_mul,Nat.add_zero];exact hrun)
     refine⟨ρ.add A.next i',w.setRow i.cb cur',_,hrunA,⟨rfl,rfl,rfl,by simp, ?_, ?_, ?_,fun k' hk'=>setRow_other w i.cb k' cur' (fun e=>by have:=hw.lo b i _ hbi hg;omega)⟩,⟨?_, ?_, ?_, ?_, ?_,base.low w _ (fun k' hk'=>setRow_other w i.cb k' cur' (fun e=>by have:=hw.lo b i _ hbi hg;omega)) hw.inv⟩,by simp, ?_⟩
     ·intro k' hk' hun
      exact setRow_other w i.cb k' cur' (fun e=>hun b i hbi e.symm)
     ·intro c' hc';unfold Ren.add;rw[if_neg (by omega)]
     ·intro c' j hj
      rcases hadd c' j hj with⟨_,rfl⟩|⟨_,hj⟩
      ·exact .inl ⟨b,i,hbi,rfl⟩
      ·exact .inl ⟨c',j,hj,rfl⟩
     ·intro c' j hj
      rcases hadd c' j hj with⟨rfl,rfl⟩|⟨_,hj⟩
      ·have:=hw.dom b i hbi;exact⟨by simp,by simpa using this.2⟩
      ·have:=hw.dom c' j hj;exact⟨by show c'<A.next+1;omega,by simpa using this.2⟩
     ·intro c' j y hj hy
      rcases hgA hy with⟨rfl,rfl⟩|⟨hne,hnb',hy⟩
      ·rcases hadd _ j hj with⟨_,rfl⟩|⟨h',_⟩
       ·refine⟨_,setRow_heap w i.cb c cur' el fr hob,cur',fr,rfl,⟨?_,fun k y hk=>?_,fun k hk1 hk2=>hr.free k hk1 (by rw[hcz]at hk2;exact hk2),(fun h=>by cases h),fun _=>⟨h0,by rw[hcz];exact hcs,hels⟩,hr.sh0⟩⟩
        ·rw[hcz,hcs];show i.sh+_≤_;omega
        ·show ∃ v,cur'[i.sh+k]?=some v∧_
         rcases hnew k y hk with⟨hlt,hold⟩|⟨hge,hlt,ag0⟩
         ·obtain⟨v,hv,hvr⟩:=hr.val k y hold
          refine⟨v, ?_,hvr.mono Hq⟩
          rw[ack,if_neg (by omega)];exact hv
         ·obtain⟨v,hv,hvr⟩:=hn.rel.get ag0
          refine⟨v, ?_,hvr.mono Hq⟩
          rw[ack,if_pos (by rw[tT];omega),show i.sh+k-(i.sh+len*size+0)=k-len*size by omega];exact hv
       ·exact absurd rfl h'
      ·rcases hadd c' j hj with⟨h',_⟩|⟨_,hj⟩
       ·exact absurd h' hne
       ·obtain⟨o',ho',hrel⟩:=hw.blk c' j y hj hy
        refine⟨o', ?_,hrel.mono Hq⟩
        rw[setRow_other w i.cb j.cb cur' (fun e=>hnb' (hw.sep _ _ _ _ _ _ hj hbi hy hg e))]
        exact ho'
     ·intro c1 c2 i1 i2 x1 x2 hj1 hj2 hy1 hy2 he'
      rcases hgA hy1 with⟨e1,_⟩|⟨n1,nb1,hy1⟩<;>rcases hgA hy2 with⟨e2,_⟩|⟨n2,nb2,hy2⟩
      ·rw[e1,e2]
      ·rcases hadd c1 i1 hj1 with⟨_,f1⟩|⟨g1,_⟩
       ·rcases hadd c2 i2 hj2 with⟨g2,_⟩|⟨_,hj2⟩
        ·exact absurd g2 n2
        ·exact absurd (hw.sep _ _ _ _ _ _ hj2 hbi hy2 hg (by rw[← he',f1])) nb2
       ·exact absurd e1 g1
      ·rcases hadd c2 i2 hj2 with⟨_,f2⟩|⟨g2,_⟩
       ·rcases hadd c1 i1 hj1 with⟨g1,_⟩|⟨_,hj1⟩
        ·exact absurd g1 n1
        ·exact absurd (hw.sep _ _ _ _ _ _ hj1 hbi hy1 hg (by rw[he',f2])) nb1
       ·exact absurd e2 g2
      ·rcases hadd c1 i1 hj1 with⟨g1,_⟩|⟨_,hj1⟩
       ·exact absurd g1 n1
       ·rcases hadd c2 i2 hj2 with⟨g2,_⟩|⟨_,hj2⟩
        ·exact absurd g2 n2
        ·exact hw.sep _ _ _ _ _ _ hj1 hj2 hy1 hy2 he'
     ·intro c' y hy
      rcases hgA hy with⟨rfl,_⟩|⟨_,_,hy⟩
      ·simp
      ·have:=hw.top c' y hy;show c'<A.next+1;omega
     ·intro c' j y hj hy
      rcases hgA hy with⟨rfl,_⟩|⟨hne,_,hy⟩
      ·rcases hadd _ j hj with⟨_,rfl⟩|⟨h',_⟩
       ·exact hw.lo b i _ hbi hg
       ·exact absurd rfl h'
      ·rcases hadd c' j hj with⟨h',_⟩|⟨_,hj⟩
       ·exact absurd h' hne
       ·exact hw.lo c' j y hj hy
     ·have:=ai.lQ (ρ:=ρ.add A.next i') A.next 0 (len+(m+1)) i' (by simp[Ren.add]) (by show 0+(len+(m+1))≤i.jQ;omega)
      simp only[Nat.zero_mul]at this ⊢
      rw[show size=i'.esz from he2.symm]
      exact this
    ·
     have axR:∀ w',w'.heap=w.heap→(Builtin.firstCells size len (.slice (some ⟨i.cb,i.sh+0*i.esz,none⟩) len (i.jQ-0))).run P w'=.ok ⟨vs⟩ w':=by
      intro w' hw'
      have:=run_loadCells_list (P:=P) w' ⟨i.cb,i.sh+0*i.esz,none⟩ vs (fun j v hj=>by rw[← hcell j v hj];simp[World.cell?,hw'])
      rw[hlen]at this
      simp only[Builtin.firstCells];exact this
     have hr2:=Ni hn (ty:=ty) ht hu hzs hi hz hsi hb hnb hnl (ad:=some ⟨i.cb,i.sh+0*i.esz,none⟩) (sLen:=len) (sCap:=i.jQ-0) (by omega) c2 c3 axR
     have hge:=grownCap_ge w (len+(m+1)) (i.jQ-0) el
     have hD:=Im (UH hw b) hbase h1 hsz (need:=len+(m+1)) (cap:=grownCap w (len+(m+1)) (i.jQ-0) el) (tree:=zU) (z:=zz) (fz:=fz) (run:=fun w=>(Builtin.append_ ts ty #[.slice (some ⟨i.cb,i.sh+0*i.esz,none⟩) len (i.jQ-0),x]).run P w) ?_ hge (fun k y hk=>?_) hr2
     ·obtain⟨ρ',w',v',a1,a2,a3,a4,a5⟩:=hD
      exact⟨ρ',w',v',a1,a2,a3,a4,a5⟩
     ·simp only[Array.size_append,List.size_toArray,size_zeroCells,hzc,hlen,tT,← Nat.add_mul,Nat.succ_eq_add_one]
      congr 1;omega
     ·rw[uY]
      rcases hnew k y hk with⟨hlt,hold⟩|⟨hge',hlt,ag0⟩
      ·rw[if_pos (by omega)]
       have hj:k<old.length:=by have:=hrl.length;omega
       have hck:=hcl k old[k] (by simp[hj])
       rw[Nat.zero_add,hold]at hck
       cases hck
       exact hrl.get (by simp[hj])
      ·rw[if_neg (by omega),if_pos (by rw[hlen,tT,← Nat.add_mul];omega),hlen]
       exact hn.rel.get ag0
 ·cases h
end
section
variable {P:Program} {X:Ext} {base:Base} {ρ:Ren} {A:AW} {w:World} {o:Oper} {e:Operand→AV} {c:Operand→Value}
def Does(P:Program)(base:Base)(ρ:Ren)(A:AW)(w:World)(o:Oper)(c:Operand→Value)(r:Um)(A' : AW):Prop :=
 ∃ ρ' w',Step base A.next ρ w ρ' w'∧dD P base ρ' A' w'∧A.next≤A'.next ∧
   match r with
   |.value v=>∃ v',(execOp c o).run P w=.ok (.value v') w'∧ai ρ' v v'
   |.skip=>(execOp c o).run P w=.ok .skip w'
   |.enter f args=>∃ us:List Value,(execOp c o).run P w=.ok (.enter f ⟨us⟩) w'∧aQ ρ' args us
theorem Gf.does{run:World→Result Value}{v:AV}{A' : AW}(h:Gf P base ρ A w run v A')(hr:∀ v' w',run w=.ok v' w'→(execOp c o).run P w=.ok (.value v') w'):Does P base ρ A w o c (.value v) A' :=
 let ⟨ρ',w',v',a,b,d,f,g⟩:=h; ⟨ρ',w',b,d,f,v',hr v' w' a,g⟩
theorem Ty(hw:dD P base ρ A w)(hbase:base≤w.heap.size){elem:Nat}{zeros:Bool}{s x v:AV}{u y:Value}{A' : AW}(hs:ai ρ s u)(hx:ai ρ x y)
  {t:TypeId} {ts:Array TypeId} {ty:TypeId} (ht:ts[0]?=some t) (hu:P.underlying t=some (.slice elem)) (hzs:lJ P ts=some zeros)
  (h:QB P elem zeros s x A=some (v,A')):Gf P base ρ A w (fun w=>(Builtin.append_ ts ty #[u,y]).run P w) v A':=by
 unfold QB at h
 split at h <;>try cases h
 rename_i size bytes zs hs1 hb1 hz1
 split at h <;>try cases h
 rename_i n new hnew
 split at h <;>try cases h
 rename_i hc
 simp only[Bool.and_eq_true]at hc
 obtain⟨⟨⟨c1,c2⟩,c3⟩,c4⟩:=hc
 have c1:=bf c1;have c2:=dG c2;have c3:=bf c3;have c4:=bf c4
 obtain⟨us,hn⟩:=WH (P:=P) hw hx hz1 c1 c2 hnew
 obtain⟨it,z,hi,hz,hr⟩:=jg (ρ:=ρ) hz1
 have hl:=hr.length
 simp only[Array.length_toList]at hl
 exact IY hw hbase c1 hs hn ht hu hzs hi hz (by simpa [aL,hi]using hs1) (by omega) (by simpa [uD,hi]using hb1) c3 c4 h
theorem Y7(hw:dD P base ρ A w){t:TypeId}{a x:Operand}(hop:o.op=.store t a x)(ha:ai ρ (e a) (c a))(hx:ai ρ (e x) (c x)){b p n:Nat}(hea:e a=.ptr b p)(hs:aL P t=some n)
  (hn:(e x).cells.length=n) {A' : AW} (hst:A.stores b p (e x).cells=some A'):Does P base ρ A w o c .skip A':=by
 rw[hea]at ha
 obtain⟨i,hb,hc⟩:=bX ha
 have hcl:=hx.cells (fun e0=>by
  unfold AW.stores at hst
  split at hst
  ·split at hst
   ·split at hst
    ·rename_i nK
     have:=(fK _ _ _ nK).1 .top (by simp[e0,AV.cells])
     simp[oneCell]at this
    ·cases hst
   ·cases hst
  ·cases hst)
 have hlen:=hcl.length
 simp only[Array.length_toList]at hlen
 obtain⟨w1,hrun,hw1,hstep,hnext⟩:=qg hw hb hcl hst
 refine⟨ρ,w1,hstep,hw1,by omega, ?_⟩
 simp only[execOp,hop,Instr.storeAt,Instr.sureAddr,hc,Sem.run_bind,Sem.run_pure,Result.andThen_ok,storeVar,cZ hs]
 rw[if_neg (by omega)]
 rw[hrun _ rfl]
 rfl
theorem wD{x:AV}{u:Value}{n:Nat}(hx:ai ρ x u)(h:Br x=some n)(w:World):(Builtin.lenOf u).run P w=.ok n w:=by
 unfold Br at h
 split at h <;>try cases h
 ·obtain⟨i,cp,_,rfl⟩:=eZ hx;rfl
 ·cases hx;rfl
 ·obtain⟨rfl,_⟩:=aH hx;rfl
 ·obtain⟨rfl,_⟩:=aH hx
  simp only[Builtin.lenOf,Sem.run_pure,Array.length_toList];rfl
theorem jB{x:AV}{u:Value}{n size:Nat}(hx:ai ρ x u)(h:Br x=some n)(w:World):(Builtin.firstCells size 0 u).run P w=.ok ⟨[]⟩ w:=by
 unfold Br at h
 split at h <;>try cases h
 ·obtain⟨i,cp,_,rfl⟩:=eZ hx
  simp[Builtin.firstCells,loadCells,loadCellsFrom]
 ·cases hx
  simp[Builtin.firstCells,loadCells,loadCellsFrom]
 ·obtain⟨rfl,_⟩:=aH hx
  simp[Builtin.firstCells]
 ·obtain⟨rfl,_⟩:=aH hx
  simp only[Builtin.firstCells,Sem.run_pure]
  congr 1
  apply Array.ext'
  simp
theorem abQ(hw:dD P base ρ A w){x:AV}{u:Value}{size k:Nat}{vs:List AV}(hx:ai ρ x u)(h:qG A size k x=some vs):∃ us,aQ ρ vs us∧(Builtin.firstCells size k u).run P w=.ok ⟨us⟩ w:=by
 unfold qG at h
 split at h <;>try cases h
 ·obtain⟨i,cp,hb,rfl⟩:=eZ hx
  obtain⟨us,hr,hlen,_,hrun⟩:=mW (P:=P) hw hb h
  exact⟨us,hr,by simp only[Builtin.firstCells];exact hrun⟩
 ·rename_i s
  split at h <;>try cases h
  obtain⟨rfl,_⟩:=aH hx
  have hr:aQ ρ ((s.data.toList.take k).map fun b=>AV.sc (.int .u8 b.toNat)) ((s.data.toList.take k).map fun b=>Value.int .u8 b.toNat):=by
   generalize s.data.toList.take k=l
   induction l with
   |nil=>exact .nil
   |cons b l ih=>exact .cons _ _ _ _ (.sc _ rfl) ih
  refine⟨_,hr, ?_⟩
  simp only[Builtin.firstCells,Sem.run_pure]
  congr 1
  apply Array.ext'
  simp[ByteArray.data_extract]
theorem aa5(hw:dD P base ρ A w){t elem:TypeId}{d x:Operand}{ts:Array TypeId}(hop:o.op=.call { callee:=.builtin .copy,args:=⟨[d,x]⟩,argTypes:=ts })(ht:ts[0]?=some t)(hu:P.underlying t=some (.slice elem))
  {size:Nat} (hs:aL P elem=some size) (hd:ai ρ (e d) (c d)) (hx:ai ρ (e x) (c x)) {v:AV} {A' : AW} (h:acz size (e d) (e x) A=some (v,A')):Does P base ρ A w o c (.value v) A':=by
 have key:∀ {dA:Option Addr}{dl dc sn:Nat}{us:List Value}{w1:World},c d=.slice dA dl dc→(Builtin.lenOf (c x)).run P w=.ok sn w→(Builtin.firstCells size (Nat.min sn dl) (c x)).run P w=.ok ⟨us⟩ w →
   (match dA with|some a=>(storeCells a us).run P w=.ok () w1|none=>w1=w)→(execOp c o).run P w=.ok (.value (.int .i64 (Nat.min sn dl:Nat))) w1:=by
  intro dA dl dc sn us w1 hcd hl hf hst
  have:(Builtin.copy_ ts o.type #[c d,c x]).run P w=.ok (.int .i64 (Nat.min sn dl:Nat)) w1:=by
   simp only[Builtin.copy_,ht,List.getElem?_toArray,List.getElem?_cons_zero,List.getElem?_cons_succ,Sem.run_bind,run_underlying hu,Result.andThen_ok,hcd,hl,cZ hs,hf]
   cases dA with
   |none=>simp only at hst;subst hst;rfl
   |some a=>simp only at hst;simp only[Sem.run_bind,hst,Result.andThen_ok,Sem.run_pure,goInt]
  simp only[execOp,hop,resolve,invoke,builtin,Sem.run_bind,Sem.run_pure,Result.andThen_ok]
  rw[show(Array.map c ⟨[d,x]⟩) = #[c d,c x] by simp,this]
  rfl
 unfold acz at h
 split at h <;>try cases h
 ·rename_i b p dn cap hed
  rw[hed]at hd
  obtain⟨i,cp,hb,hcd⟩:=eZ hd
  split at h <;>try cases h
  rename_i sn hsn
  have hl:=wD (P:=P) hx hsn w
  split at h <;>try cases h
  ·rename_i hm
   refine⟨ρ,w,Step.refl _ _ _,hw,Nat.le_refl _,_,key hcd hl (by rw[hm];exact jB hx hsn w) (w1:=w) rfl, ?_⟩
   rw[hm];exact .sc _ rfl
  ·rename_i k hm
   split at h <;>try cases h
   rename_i vs hvs
   split at h <;>try cases h
   rename_i A1 hst
   obtain⟨us,hr,hf⟩:=abQ hw hx hvs
   obtain⟨w1,hrun,hw1,hstep,hnext⟩:=qg hw hb hr hst
   refine⟨ρ,w1,hstep,hw1,by omega,_,key hcd hl (by rw[hm];exact hf) (w1:=w1) (hrun _ rfl), ?_⟩
   rw[hm];exact .sc _ rfl
 ·rename_i b hed
  rw[hed]at hd
  generalize hcd:c d=cd at hd
  cases hd with
  |emp _ ad cp =>
  split at h <;>try cases h
  rename_i sn hsn
  have hl:=wD (P:=P) hx hsn w
  have hm:Nat.min sn 0=0:=Nat.min_zero _
  refine⟨ρ,w,Step.refl _ _ _,hw,Nat.le_refl _,_,key hcd hl (by rw[hm];exact jB hx hsn w) (w1:=w) rfl, ?_⟩
  rw[hm];exact .sc _ rfl
 ·rename_i hed
  rw[hed]at hd
  have hcd:=(aH hd).1
  split at h <;>try cases h
  rename_i sn hsn
  have hl:=wD (P:=P) hx hsn w
  have hm:Nat.min sn 0=0:=Nat.min_zero _
  refine⟨ρ,w,Step.refl _ _ _,hw,Nat.le_refl _,_,key hcd hl (by rw[hm];exact jB hx hsn w) (w1:=w) rfl, ?_⟩
  rw[hm];exact .sc _ rfl
theorem xY{t:TypeId}{x:Operand}{ts:Array TypeId}(hop:o.op=.call { callee:=.builtin .clear,args:=⟨[x]⟩,argTypes:=ts }){w1:World}(h:(Builtin.clear_ ts o.type #[c x]).run P w=.ok (.tuple #[]) w1) :
  (execOp c o).run P w=.ok (.value (.tuple #[])) w1:=by
 simp only[execOp,hop,resolve,invoke,builtin,Sem.run_bind,Sem.run_pure,Result.andThen_ok]
 rw[show(Array.map c ⟨[x]⟩) = #[c x] by simp,h]
 rfl
theorem zY{P:Program}{f:FuncId}{fn:Func}{args:Array Value}{s:Array Value→Sem Value}{v:Value}(hf:P.funcs[f]?=some fn) (hng:fn.name ≠ "runtime.NumGoroutine") (hb:fn.body=none)
  (h1:Extern.findNext fn=none) (h2:Extern.find fn=some s) (h3:∀ w,(s args).run P w=.ok v w) (w:World):(callFunc f args).run P w=.ok (.value v) w:=by
 have MR:(fn.name == "runtime.NumGoroutine")=false:=by simpa using hng
 simp only[callFunc,Sem.run_bind,run_program,Result.andThen_ok,hf,MR,Bool.false_eq_true,if_false,hb,Option.isNone_none,if_true,mark,Sem.run,h1,h2,h3,Sem.run_pure]
theorem IK{P:Program}{f:FuncId}{fn:Func}{args:Array Value}{cd:Code}(hf:P.funcs[f]?=some fn) (hng:fn.name ≠ "runtime.NumGoroutine") (hb:fn.body=some cd) (w:World) :
  (callFunc f args).run P w=.ok (.enter f args) w:=by
 have MR:(fn.name == "runtime.NumGoroutine")=false:=by simpa using hng
 simp only[callFunc,Sem.run_bind,run_program,Result.andThen_ok,hf,MR,Bool.false_eq_true,if_false,hb,Option.isNone_some,Sem.run_pure]
structure XOk(P:Program)(X:Ext):Prop where
 ng:∀ (f:FuncId)(fn:Func),P.funcs[f]?=some fn→fn.name ≠ "runtime.NumGoroutine"
 TZ:∀ f,has X.TZ f=true→∃ fn t elem size tr,P.funcs[f]?=some fn∧fn.body=none∧Extern.findNext fn=none∧Extern.find fn=some (Extern.SlicesOverlaps.overlaps #[t,t] #[tr])∧P.underlying t=some (.slice elem)∧aL P elem=some size
 Ur:∀ f,has X.Ur f=true→∃ fn,P.funcs[f]?=some fn∧fn.body=none∧Extern.findNext fn=none∧Extern.find fn=some Extern.AbiNoEscape.same
theorem uI{f:FuncId}{fn:Func}{args:Array Value}{s:Array Value→Sem Value}{v:Value}(hf:P.funcs[f]?=some fn) (hng:fn.name ≠ "runtime.NumGoroutine") (hb:fn.body=none)
  (h1:Extern.findNext fn=none) (h2:Extern.find fn=some s) (h3:(s args).run P w=.ok v w):(callFunc f args).run P w=.ok (.value v) w:=by
 have MR:(fn.name == "runtime.NumGoroutine")=false:=by simpa using hng
 simp only[callFunc,Sem.run_bind,run_program,Result.andThen_ok,hf,MR,Bool.false_eq_true,if_false,hb,Option.isNone_none,if_true,mark,Sem.run,h1,h2,h3,Sem.run_pure]
theorem JC(hw:dD P base ρ A w){xs:List AV}{us:List Value}{v:AV}(hr:aQ ρ xs us)(h:yE A xs=some v){t elem size tr:Nat}(hu:P.underlying t=some (.slice elem))(hs:aL P elem=some size) :
  v=.sc (.bool false)∧(Extern.SlicesOverlaps.overlaps #[t,t] #[tr] ⟨us⟩).run P w=.ok (.bool false) w:=by
 unfold yE at h
 split at h <;>try(cases h;done)
 rename_i ba oa la ca bb ob lb cb
 split at h <;>try(cases h;done)
 rename_i na ta za ea fa nb tb zb opb eb fb hne hga hgb
 split at h <;>try(cases h;done)
 rename_i hc
 cases h
 refine⟨rfl, ?_⟩
 simp only[Bool.and_eq_true]at hc
 obtain⟨⟨c1,c2⟩,c3⟩:=hc
 have c1:=dG c1;have c2:=bf c2;have c3:=bf c3
 subst c1
 have hne:=OT hne
 cases hr with
 |cons _ u1 _ us1 h1 hr =>
 cases hr with
 |cons _ u2 _ us2 h2 hr =>
 cases hr
 obtain⟨ia,cpa,hba,rfl⟩:=eZ h1
 obtain⟨ib,cpb,hbb,rfl⟩:=eZ h2
 obtain⟨oba,hoa,cca,fra,rfl,hra⟩:=hw.blk ba ia _ hba hga
 obtain⟨obb,az7,ccb,frb,rfl,hrb⟩:=hw.blk bb ib _ hbb hgb
 have hcb:ia.cb≠ib.cb:=fun e=>hne (hw.sep _ _ _ _ _ _ hba hbb hga hgb e)
 have hsa:=hra.size
 have hsb:=hrb.size
 refine Lib.run_overlaps_apart w t tr elem hu size (cZ hs) _ _ _ _ _ _ hcb ea eb cca.size ccb.size (by simp[World.shape?,hoa]) (by simp[World.shape?,az7]) (by omega) ?_ ?_
 ·have:=hra.free oa (Nat.zero_le _) (by omega)
  simp only[World.frozen?,hoa]
  rw[← Bool.not_eq_true]
  simpa using this
 ·have:=(hra.mark rfl rfl).2
  simp only[World.frozen?,hoa]
  rw[← Bool.not_eq_true]
  simp
  omega
theorem Z0{w:World}{cb:Nat}{off:Nat}{cc:Array Value}{elem t el:TypeId}{fr:Nat×Nat}{len cp:Nat}{e:Value}(hob:w.heap[cb]?=some (.cells cc elem fr))(hf:fr.1=fr.2)
  (hu:P.underlying t=some (.slice el)) (hel:P.underlying el=some (.int .u8)) (hx:e=.slice (some ⟨cb,off,none⟩) len cp:=by rfl) :
  (convert t t e).run P w=.ok e { w with heap:=w.heap.setIfInBounds cb (.cells cc elem (cc.size,cc.size+1)) } ∧ True:=by
 subst hx
 have hsh:w.shape? cb=some (elem,cc.size):=by simp[World.shape?,hob]
 have hfr:w.freeze ⟨cb,cc.size,none⟩ 1 = { w with heap:=w.heap.setIfInBounds cb (.cells cc elem (cc.size,cc.size+1)) } := by
  unfold World.freeze
  rw[if_neg (by decide)]
  congr 1
  apply Array.ext_getElem?
  intro j
  rw[Array.getElem?_modify,Array.getElem?_setIfInBounds]
  by_cases hj:cb=j
  ·subst hj
   have hlt:=(Array.getElem?_eq_some_iff.1 hob).1
   obtain⟨lo,hi⟩:=fr
   simp only at hf
   subst hf
   have h2:w.heap[cb]=.cells cc elem (lo,lo):=by rw[Array.getElem?_eq_getElem hlt]at hob;exact Option.some.inj hob
   simp[hlt,h2]
  ·simp[hj]
 refine⟨?_,trivial⟩
 simp[convert,run_underlying hu,run_underlying hel,markStringish,hsh,hfr]
theorem nG(hw:dD P base ρ A w){b:Nat}{i:gF}{x0 x:mY}{ob:Obj}{w' : World}(hb:ρ b=some i)(hg:A.heap.get b=some x0)
  (h1:w'.os=w.os) (h2:w'.tape=w.tape) (h3:w'.output=w.output) (h4:w'.heap.size=w.heap.size) (h5:∀ k,k≠i.cb→w'.heap[k]?=w.heap[k]?)
  (h6:w'.heap[i.cb]?=some ob) (h7:jL P ρ i x ob):dD P base ρ { A with heap:=A.heap.set b x } w'∧Step base A.next ρ w ρ w':=by
 have hget:∀ {b' x'},(A.heap.set b x).get b'=some x'→∃ y,A.heap.get b'=some y:=by
  intro b' x' h
  rw[Tree.bn]at h
  by_cases e:b'=b
  ·subst e;exact⟨_,hg⟩
  ·rw[if_neg e]at h;exact⟨_,h⟩
 refine⟨⟨fun b' i' hb'=>by rw[h4];exact hw.dom b' i' hb', ?_, ?_, ?_,fun b' i' x' hb' hx=>let ⟨y,e⟩:=hget hx;hw.lo b' i' y hb' e,base.low w w' (fun k hk=>h5 k (fun e=>by have:=hw.lo b i _ hb hg;omega)) hw.inv⟩,⟨h1,h2,h3,by omega,fun k _ hu=>h5 k (fun e=>hu b i hb e.symm),fun _ _=>rfl,fun b i h=>.inl ⟨b,i,h,rfl⟩,fun k hk=>h5 k (fun e=>by have:=hw.lo b i _ hb hg;omega)⟩⟩
 ·intro b' i' x' hb' hx
  simp only[Tree.bn]at hx
  by_cases e:b'=b
  ·subst e
   rw[if_pos rfl]at hx
   cases hx
   rw[hb]at hb';cases hb'
   exact⟨ob,h6,h7⟩
  ·rw[if_neg e]at hx
   obtain⟨o',ho',hrel⟩:=hw.blk b' i' x' hb' hx
   exact⟨o',by rw[h5 _ fun he=>e (hw.sep _ _ _ _ _ _ hb' hb hx hg he)];exact ho',hrel⟩
 ·intro b1 b2 i1 i2 x1 x2 q1 q2 g1 g2 he
  obtain⟨y1,e1⟩:=hget g1
  obtain⟨y2,e2⟩:=hget g2
  exact hw.sep _ _ _ _ _ _ q1 q2 e1 e2 he
 ·intro b' x' hx
  obtain⟨y,e⟩:=hget hx
  exact hw.top _ _ e
theorem Ze(hw:dD P base ρ A w){b:Nat}{i:gF}{x0:mY}{w' : World}(hb:ρ b=some i)(hg:A.heap.get b=some x0)
  (h1:w'.os=w.os) (h2:w'.tape=w.tape) (h3:w'.output=w.output) (h4:w'.heap.size=w.heap.size) (h5:∀ k,k≠i.cb→w'.heap[k]?=w.heap[k]?) :
  dD P base ρ { A with heap:=A.heap.del b } w'∧Step base A.next ρ w ρ w':=by
 have hk:=UH hw b
 refine⟨⟨fun b' i' hb'=>by rw[h4];exact hw.dom b' i' hb', ?_,hk.sep,hk.top,hk.lo,base.low w w' (fun k hk=>h5 k (fun e=>by have:=hw.lo b i _ hb hg;omega)) hw.inv⟩,⟨h1,h2,h3,by omega,fun k _ hu=>h5 k (fun e=>hu b i hb e.symm),fun _ _=>rfl,fun b i h=>.inl ⟨b,i,h,rfl⟩,fun k hk=>h5 k (fun e=>by have:=hw.lo b i _ hb hg;omega)⟩⟩
 intro b' i' x' hb' hx
 obtain⟨o',ho',hrel⟩:=hk.blk b' i' x' hb' hx
 refine⟨o', ?_,hrel⟩
 have hx':=hx
 rw[Tree.FO]at hx'
 split at hx'
 ·cases hx'
 ·rename_i hne
  rw[h5 _ fun he=>hne (hw.sep _ _ _ _ _ _ hb' hb hx' hg he)];exact ho'
theorem Jg{w:World}:∀ (ns:List Int)(a:Addr)(acc:ByteArray),(∀ j v,(ns.map fun n=>Value.int .u8 n)[j]?=some v→w.cell? (a.add j)=some v) →
  (loadBytes a acc ns.length).run P w=.ok ⟨acc.data++(ns.map fun n=>UInt8.ofNat n.toNat).toArray⟩ w
 |[],a,acc,_=>by simp[loadBytes]
 |x::l,a,acc,h=>by
  have h0:w.cell? a=some (.int .u8 x):=by
   have:=h 0 (.int .u8 x) rfl
   simpa [Addr.add]using this
  have ih:=Jg l (a.add 1) (acc.push (UInt8.ofNat x.toNat)) (fun j y hy=>by
   have:=h (j+1) y (by simpa using hy)
   have e:(a.add 1).add j=a.add (j+1):=by
    unfold Addr.add
    by_cases hj:j=0
    ·subst hj;simp
    ·simp[hj];omega
   rw[e];exact this)
  have hl:(load a).run P w=.ok (.int .u8 x) w:=by simp[load,Sem.run,h0]
  simp only[List.length_cons,loadBytes,Sem.run_bind,hl,Result.andThen_ok]
  refine Eq.trans ih ?_
  congr 1
  apply ByteArray.ext
  simp[ByteArray.push]
theorem aaA{ρ:Ren}:∀ {es:List (AV×AV×Nat)}{fs:List MapEntry}{i:Nat}{x:AV×AV×Nat},dB ρ es fs→nth es i=some x→∃ f,fs[i]?=some f∧ai ρ x.1 f.key∧ai ρ x.2.1 f.val∧f.born=x.2.2
 |[],_,_,_,_,h=>by simp[nth]at h
 |_::_,[],_,_,h,_=>h.elim
 |(a,b,n)::es,f::fs,0,x,h,hx=>by
  simp[nth]at hx;subst hx
  exact⟨f,rfl,h.1,h.2.1,h.2.2.1⟩
 |(a,b,n)::es,f::fs,i+1,x,h,hx=>by
  simp only[nth]at hx
  obtain⟨g,h1,h2⟩:=aaA h.2.2.2 hx
  exact⟨g,by simpa using h1,h2⟩
theorem Zo{ρ:Ren}{k v:AV}{kv vv:Value}{born:Nat}(hk:ai ρ k kv)(hv:ai ρ v vv):∀ {es:List (AV×AV×Nat)}{fs:List MapEntry}{i:Nat}{f:MapEntry},dB ρ es fs→fs[i]?=some f→f.born=born →
  dB ρ (UD (k,v,born) es i) (fs.modify i fun e => { e with key:=kv,val:=vv })
 |[],[],_,_,_,h,_=>by simp at h
 |[],_::_,_,_,h,_,_=>h.elim
 |_::_,[],_,_,h,_,_=>h.elim
 |(a,b,n)::es,g::fs,0,f,h,hf,hb=>by
  simp at hf;subst hf
  exact⟨hk,hv,hb,h.2.2.2⟩
 |(a,b,n)::es,g::fs,i+1,f,h,hf,hb=>by
  refine⟨h.1,h.2.1,h.2.2.1, ?_⟩
  exact Zo hk hv h.2.2.2 (by simpa using hf) hb
theorem NS{ρ:Ren}{k v:AV}{f:MapEntry}(hk:ai ρ k f.key)(hv:ai ρ v f.val):∀ {es:List (AV×AV×Nat)}{fs:List MapEntry},dB ρ es fs→dB ρ (es++[(k,v,f.born)]) (fs++[f])
 |[],[],_=>⟨hk,hv,rfl,trivial⟩
 |[],_::_,h=>h.elim
 |_::_,[],h=>h.elim
 |(a,b,n)::es,g::fs,h=>⟨h.1,h.2.1,h.2.2.1,NS hk hv h.2.2.2⟩
theorem Zc{kt et t:TypeId}{k v:AV}{kv vv:Value}{es:List (AV×AV×Nat)}{clock:Nat}{y:mY}{r:Nat}{fs:Array MapEntry}(hu:P.underlying t=some (.map kt et))(hk:ai ρ k kv)(hv:ai ρ v vv)
  (hob:w.heap[r]?=some (.map fs clock)) (hrel:dB ρ es fs.toList) (h:QD P kt k v kv es clock=some y) :
  ∃ ob,(Instr.mapUpdate t (.map (some r)) kv vv).run P w=.ok () { w with heap:=w.heap.setIfInBounds r ob } ∧ ∀ i,jL P ρ i y ob:=by
 have hg:(getObj r).run P w=.ok (.map fs clock) w:=by simp[getObj,Sem.run,hob]
 have hs:∀ ob,(setObj r ob).run P w=.ok () { w with heap:=w.heap.setIfInBounds r ob } := fun ob=>by
  simp only[setObj,Sem.run,hob]
 unfold QD at h
 split at h <;>try(cases h;done)
 ·rename_i j va hc hf
  split at h <;>try(cases h;done)
  rename_i ka va' born hn
  split at h <;>try(cases h;done)
  rename_i aqn hko
  split at h <;>try(cases h;done)
  rename_i hsame
  cases h
  obtain⟨r',hr,hfr⟩:=vX (w:=w) hrel hf
  cases r' with
  |none=>exact hfr.elim
  |some q =>
   obtain⟨j',vq⟩:=q
   obtain⟨rfl,_⟩:=hfr
   obtain⟨f,hf1,hf2,hf3,hf4⟩:=aaA hrel hn
   have hkey:=lF hf2 hko
   have hfj:fs[j']?=some f:=by rw[← Array.getElem?_toList];exact hf1
   refine⟨.map (fs.modify j' fun e => { e with key:=kv,val:=vv }) clock, ?_,fun i=>⟨_,rfl, ?_⟩⟩
   ·simp only[Instr.mapUpdate,Sem.run_bind,run_underlying hu,Result.andThen_ok,hg,fE hc w,hr,hfj,Option.map_some,Option.getD_some,hkey,Instr.keyThatStays,hsame,if_true,Sem.run_pure,hs]
   ·rw[Array.toList_modify]
    exact Zo hk hv hrel hf1 hf4
 ·rename_i hc hf
  cases h
  obtain⟨r',hr,hfr⟩:=vX (w:=w) hrel hf
  cases r' with
  |some q=>exact hfr.elim
  |none =>
   refine⟨.map (fs.push { key:=kv,val:=vv,born:=clock }) (clock+1), ?_,fun i=>⟨_,rfl, ?_⟩⟩
   ·simp only[Instr.mapUpdate,Sem.run_bind,run_underlying hu,Result.andThen_ok,hg,fE hc w,hr,hs]
   ·rw[Array.toList_push]
    exact NS (f := { key:=kv,val:=vv,born:=clock }) hk hv hrel
theorem MC(hng:XOk P X)(hw:dD P base ρ A w)(hbase:base≤w.heap.size)(he:∀ x∈o.op.operands,ai ρ (e x) (c x)){r:Um}{A' : AW}
  (h:kN P X o e A=some (r,A')):Does P base ρ A w o c r A':=by
 cases hop:o.op
 case store t a x =>
  have ha:ai ρ (e a) (c a):=he a (by rw[hop];simp[Op.operands])
  have hx:ai ρ (e x) (c x):=he x (by rw[hop];simp[Op.operands])
  simp only[kN,hop]at h
  split at h <;>try cases h
  rename_i b p n hea hs
  split at h <;>try cases h
  rename_i hn hst
  exact Y7 hw hop ha hx hea hs (dG hn) hst
 case convert src dst x =>
  have hx:ai ρ (e x) (c x):=he x (by rw[hop];simp[Op.operands])
  simp only[kN,hop]at h
  split at h <;>try(cases h;done)
  rename_i el b p len cp hsd hu hex
  split at h <;>try(cases h;done)
  rename_i n tree zs elem hel hg
  cases h
  have hsd:=dG hsd
  subst hsd
  rw[hex]at hx
  obtain⟨i,cp',hb,hcx⟩:=eZ hx
  obtain⟨ob,hob,cc,fr,rfl,hrow⟩:=hw.blk b i _ hb hg
  obtain⟨hf1,hf2⟩:=hrow.mark rfl rfl
  obtain⟨hq1,hq2⟩:=Z0 (P:=P) hob hf1 (e:=.slice (some ⟨i.cb,i.sh+p,none⟩) len cp') hu hel
  have hlt:=(Array.getElem?_eq_some_iff.1 hob).1
  obtain⟨q1,q2⟩:=nG hw (x:=.row n tree zs false elem (n+1)) (ob:=.cells cc elem (cc.size,cc.size+1)) hb hg (w' := { w with heap:=w.heap.setIfInBounds i.cb (.cells cc elem (cc.size,cc.size+1)) }) rfl rfl rfl (by simp)
   (fun j hj=>by simp[Array.getElem?_setIfInBounds,Ne.symm hj]) (by simp[Array.getElem?_setIfInBounds,hlt])
   ⟨cc,_,rfl,⟨hrow.size,hrow.val,fun k _ hk h2=>by omega,fun _ h0=>by omega,hrow.opn,hrow.sh0⟩⟩
  exact⟨ρ,_,q2,q1,Nat.le_refl _,_,by simp only[execOp,hop,Sem.run_bind,hcx,hq1,Result.andThen_ok,Sem.run_pure],hcx▸hx⟩
 case call cl =>
  obtain⟨callee,args,ts⟩:=cl
  cases callee with
  |builtin b =>
   cases b
   case append =>
    simp only[kN,hop]at h
    split at h <;>try cases h
    rename_i t s x ht
    have hs:ai ρ (e s) (c s):=he s (by rw[hop];simp[Op.operands,Call.operands])
    have hx:ai ρ (e x) (c x):=he x (by rw[hop];simp[Op.operands,Call.operands])
    split at h <;>try cases h
    rename_i elem hu
    split at h <;>try cases h
    rename_i zeros hz
    split at h <;>try cases h
    rename_i v A1 hA
    refine(Ty hw hbase hs hx (ty:=o.type) ht hu hz hA).does fun v' w' hr=>?_
    simp only[execOp,hop,resolve,invoke,builtin,Sem.run_bind,Sem.run_pure,Result.andThen_ok]
    rw[show(Array.map c ⟨[s,x]⟩) = #[c s,c x] by simp,hr]
    rfl
   case copy =>
    simp only[kN,hop]at h
    split at h <;>try cases h
    rename_i t s x ht
    have hs:ai ρ (e s) (c s):=he s (by rw[hop];simp[Op.operands,Call.operands])
    have hx:ai ρ (e x) (c x):=he x (by rw[hop];simp[Op.operands,Call.operands])
    split at h <;>try cases h
    rename_i elem hu
    split at h <;>try cases h
    rename_i size hsz
    split at h <;>try cases h
    rename_i v A1 hA
    exact aa5 hw hop ht hu hsz hs hx hA
   case clear =>
    simp only[kN,hop]at h
    split at h <;>try cases h
    rename_i t x ht
    have hx:ai ρ (e x) (c x):=he x (by rw[hop];simp[Op.operands,Call.operands])
    split at h <;>try cases h
    ·rename_i elem b p n cap hu hex
     split at h <;>try cases h
     rename_i size zs hs hzs
     split at h <;>try cases h
     rename_i A1 hc hst
     simp only[Bool.and_eq_true]at hc
     have c1:=bf hc.1;have c2:=dG hc.2
     obtain⟨it,z,hi,hz,hr⟩:=jg (ρ:=ρ) hzs
     have hl:=hr.length
     simp only[Array.length_toList]at hl
     rw[hex]at hx
     obtain⟨i,cp,hb,hcx⟩:=eZ hx
     have hrel:=ET hr (by omega) n
     obtain⟨w1,hrun,hw1,hstep,hnext⟩:=qg hw hb hrel hst
     refine⟨ρ,w1,hstep,hw1,by omega,.tuple #[],xY (t:=t) hop ?_,.tup _ _ .nil⟩
     have hrun:=hrun _ rfl
     cases n with
     |zero =>
      have he:(Builtin.zeroCells z.cells 0).toList=[]:=by simp[Builtin.zeroCells]
      rw[he]at hrun
      simp only[storeCells,Sem.run_pure]at hrun
      cases hrun
      simp only[Builtin.clear_,ht,List.getElem?_toArray,List.getElem?_cons_zero,Sem.run_bind,run_underlying hu,Result.andThen_ok,hcx,Sem.run_pure]
     |succ n =>
      simp only[Builtin.clear_,ht,List.getElem?_toArray,List.getElem?_cons_zero,Sem.run_bind,run_underlying hu,Result.andThen_ok,hcx,zeroValue,typeInfo,run_program,hi,hz,Sem.run_pure,hrun]
    ·rename_i elem b hu hex
     rw[hex]at hx
     generalize hcx:c x=cx at hx
     cases hx with
     |emp _ ad cp =>
     refine⟨ρ,w,Step.refl _ _ _,hw,Nat.le_refl _,.tuple #[],xY (t:=t) hop ?_,.tup _ _ .nil⟩
     simp only[Builtin.clear_,ht,List.getElem?_toArray,List.getElem?_cons_zero,Sem.run_bind,run_underlying hu,Result.andThen_ok,hcx,Sem.run_pure]
   case unsafeString =>
    simp only[kN,hop]at h
    split at h <;>try(cases h;done)
    rename_i t x n ht
    have hx:ai ρ (e x) (c x):=he x (by rw[hop];simp[Op.operands,Call.operands])
    have hn:ai ρ (e n) (c n):=he n (by rw[hop];simp[Op.operands,Call.operands])
    have run:∀ {u w'},(Builtin.unsafeString_ ts o.type #[c x,c n]).run P w=.ok u w'→(execOp c o).run P w=.ok (.value u) w':=by
     intro u w' hu
     simp only[execOp,hop,resolve,invoke,builtin,Sem.run_bind,Sem.run_pure,Result.andThen_ok]
     rw[show(Array.map c ⟨[x,n]⟩) = #[c x,c n] by simp,hu]
     rfl
    split at h <;>try(cases h;done)
    rename_i el hu
    split at h <;>try(cases h;done)
    ·rename_i b p k hel hex hen
     split at h <;>try(cases h;done)
     rename_i kn tree zs opn elem fz xs hg hl
     split at h <;>try(cases h;done)
     rename_i s hs hlies hk
     cases h
     have hk:=bf hk
     rw[hex]at hx
     obtain⟨i,hb,hcx⟩:=bX hx
     obtain⟨ob,hob,cc,fr,rfl,hrow⟩:=hw.blk b i _ hb hg
     have hsize:=hrow.size
     have hsh:=hrow.sh0
     obtain⟨vs,hr,hlen,hcell⟩:=iO hw hb hl
     unfold bytesOf at hs
     split at hs <;>try(cases hs;done)
     rename_i l hl2
     obtain⟨ns,rfl,rfl⟩:=wM hr hl2
     cases hs
     obtain⟨kd,hcn⟩ : ∃ kd,c n=.int kd (k+1:Nat):=by
      unfold gm at hen
      split at hen
      ·rename_i kd m hm
       cases hen
       rw[hm]at hn
       exact⟨kd,(aH hn).1⟩
      ·cases hen
     obtain⟨q1,q2⟩:=Ze hw hb hg (w':=w.freeze ⟨i.cb,i.sh+p,none⟩ (k+1)) (by simp[World.freeze]) (by simp[World.freeze]) (by simp[World.freeze]) (by simp[World.freeze]) (fun j hj=>by
      simp only[World.freeze,Nat.add_eq_zero_iff,Nat.one_ne_zero,and_false,if_false,Array.getElem?_modify]
      rw[if_neg (fun e=>hj e.symm)])
     refine⟨ρ,_,q2,q1,Nat.le_refl _,.string _,run ?_,.sc _ rfl⟩
     have h0:(variablesAt ⟨i.cb,i.sh+p,none⟩ el (k+1)).run P w=.ok true w :=
      De (count:=kn / P.cellsOf elem) hob (Nat.div_le_div_right (by omega)) (by show liesAt P P.depth elem _ (i.sh+p) el (k+1)=true;rw[show i.sh+p=p by omega];exact hlies)
     have h1:(loadBytes ⟨i.cb,i.sh+p,none⟩ .empty (k+1)).run P w=.ok ⟨⟨ns.map fun n=>UInt8.ofNat n.toNat⟩⟩ w:=by
      have:=Jg (P:=P) ns ⟨i.cb,i.sh+p,none⟩ .empty hcell
      rw[List.length_map]at hlen
      rw[hlen]at this
      rw[this]
      have he0:ByteArray.empty.data = #[]:=rfl
      simp[he0]
     have hmax:¬ (((k+1:Nat):Int)>IntKind.i64.max):=by
      have:IntKind.i64.max=9223372036854775807:=by decide
      omega
     have ayy:(elemOf t).run P w=.ok el w:=by simp[elemOf,run_underlying hu]
     rw[hcx,hcn]
     obtain ⟨e1, e2, e3, e4, hdef⟩ : ∃ e1 e2 e3 e4 : String, Builtin.unsafeString_ ts o.type #[.pointer (some ⟨i.cb,i.sh+p,none⟩),.int kd (k+1:Nat)] =
       (do
        let n ← asInt (.int kd (k+1:Nat))
        let some pt:=ts[0]?|stuck e1
        if n<0 then runtimePanic (.error e2)
        if n>IntKind.i64.max then unsupported (.unsafePointer e3)
        if n=0 then pure (.string .empty)
        else if ← variablesAt ⟨i.cb,i.sh+p,none⟩ (← elemOf pt) n.toNat then do
         let s ← loadBytes ⟨i.cb,i.sh+p,none⟩ .empty n.toNat
         freeze ⟨i.cb,i.sh+p,none⟩ n.toNat
         pure (.string s)
        else unsupported (.unsafePointer e4)):= ⟨_, _, _, _, rfl⟩
     have hneg:¬ ((k+1:Nat):Int)<0:=by omega
     have hnz:¬ ((k+1:Nat):Int)=0:=by omega
     have has:asInt (.int kd (k+1:Nat))=pure ((k+1:Nat):Int):=rfl
     rw[hdef,has]
     simp only[ht,Sem.run_bind,Sem.run_pure,Result.andThen_ok,if_neg hneg,if_neg hmax,if_neg hnz,ayy,Int.toNat_natCast,h0,if_true,h1,freeze,Sem.run]
    ·rename_i hel hex hen
     cases h
     rw[hex]at hx
     have hcx:=(aH hx).1
     obtain⟨kd,hcn⟩ : ∃ kd,c n=.int kd (0:Nat):=by
      unfold gm at hen
      split at hen
      ·rename_i kd m hm
       cases hen
       rw[hm]at hn
       exact⟨kd,(aH hn).1⟩
      ·cases hen
     refine⟨ρ,w,Step.refl _ _ _,hw,Nat.le_refl _,.string ⟨⟨[]⟩⟩,run ?_,.sc _ rfl⟩
     have hmax:¬ (((0:Nat):Int)>IntKind.i64.max):=by
      have:IntKind.i64.max=9223372036854775807:=by decide
      omega
     rw[hcx,hcn]
     obtain ⟨e1, e2, e3, e4, hdef⟩ : ∃ e1 e2 e3 e4 : String, Builtin.unsafeString_ ts o.type #[.pointer none,.int kd (0:Nat)] =
       (do
        let n ← asInt (.int kd (0:Nat))
        let some pt:=ts[0]?|stuck e1
        if n<0 then runtimePanic (.error e2)
        if n>IntKind.i64.max then unsupported (.unsafePointer e3)
        if n=0 then pure (.string .empty)
        else runtimePanic (.error e4)):= ⟨_, _, _, _, rfl⟩
     have hneg:¬ ((0:Nat):Int)<0:=by omega
     have hnz:((0:Nat):Int)=0:=rfl
     have has:asInt (.int kd (0:Nat))=pure ((0:Nat):Int):=rfl
     rw[hdef,has]
     simp only[ht,Sem.run_bind,Sem.run_pure,Result.andThen_ok,if_neg hneg,if_neg hmax,if_pos hnz]
     rfl
   all_goals (simp only[kN,hop]at h;cases h)
  |value f =>
   simp only[kN,hop]at h
   have hf:ai ρ (e f) (c f):=he f (by rw[hop];simp[Op.operands,Call.operands])
   have ha:∀ x∈args.toList,ai ρ (e x) (c x):=fun x hx=>he x (by rw[hop];simp[Op.operands,Call.operands];exact .inr (by simpa using hx))
   split at h <;>try cases h
   rename_i g first captured hef
   rw[hef]at hf
   generalize hcf:c f=cf at hf
   cases hf with
   |fn _ _ _ us vs hp hfi hca =>
   have hargs:aQ ρ (first++args.toList.map e++captured) (us++args.toList.map c++vs):=(hfi.append (aQ.wF _ ha)).append hca
   have hrun:(execOp c o).run P w=(callFunc g ⟨us++args.toList.map c++vs⟩).run P w:=by
    simp only[execOp,hop,resolve,hcf,Deferred.ofValue,invoke,Sem.run_bind,Sem.run_pure,Result.andThen_ok]
    congr 2
    apply Array.ext'
    simp
   split at h
   ·rename_i hov
    split at h <;>try(cases h;done)
    rename_i v hv
    cases h
    obtain⟨fn,t,elem,size,tr,g1,g2,g3,g4,g5,g6⟩:=hng.TZ g hov
    obtain⟨rfl,asW⟩:=JC hw hargs hv g5 g6 (tr:=tr)
    exact⟨ρ,w,Step.refl _ _ _,hw,Nat.le_refl _,.bool false,by rw[hrun];exact uI g1 (hng.ng _ _ g1) g2 g3 g4 asW,.sc _ rfl⟩
   ·rename_i hno
    split at h <;>try(cases h;done)
    rename_i v hv
    cases h
    rw[hv]at hargs
    obtain⟨fn,g1,g2,g3,g4⟩:=hng.Ur g hno
    generalize us++args.toList.map c++vs=al at hargs hrun
    cases hargs with
    |cons _ u _ us2 h1 hr =>
    cases hr
    exact⟨ρ,w,Step.refl _ _ _,hw,Nat.le_refl _,u,by rw[hrun];exact uI g1 (hng.ng _ _ g1) g2 g3 g4 rfl,h1⟩
   split at h <;>try cases h
   rename_i r' hr'
   unfold OA at hr'
   split at hr' <;>try cases hr'
   rename_i fn hfn
   split at hr'
   ·rename_i cd hcd
    cases hr'
    exact⟨ρ,w,Step.refl _ _ _,hw,Nat.le_refl _,_,by rw[hrun];exact IK hfn (hng.ng _ _ hfn) hcd w,hargs⟩
   ·rename_i hcd
    split at hr' <;>try cases hr'
    rename_i h1
    split at hr' <;>try cases hr'
    rename_i s ws h2 hws
    split at hr' <;>try cases hr'
    rename_i v hv
    split at hr' <;>try cases hr'
    rename_i x hx
    have hval:=V4 hargs hws
    refine⟨ρ,w,Step.refl _ _ _,hw,Nat.le_refl _,v, ?_,iP hx⟩
    rw[hrun,hval]
    exact zY hfn (hng.ng _ _ hfn) hcd h1 h2 (fun w=>fE hv w) w
  |invoke r m=>simp only[kN,hop]at h;cases h
 case next it str =>
  have hx:ai ρ (e it) (c it):=he it (by rw[hop];simp[Op.operands])
  cases str
  ·simp only[kN,hop]at h;cases h
  simp only[kN,hop]at h
  split at h <;>try(cases h;done)
  rename_i b hex
  split at h <;>try(cases h;done)
  rename_i s pos hg
  rw[hex]at hx
  obtain⟨i,hb,hcx⟩:=bX hx
  obtain⟨ob,hob,hsh,rfl⟩:=hw.blk b i _ hb hg
  have hget:(getObj i.cb).run P w=.ok (.stringIter s pos) w:=by simp[getObj,Sem.run,hob]
  have GD:c it=.pointer (some ⟨i.cb,0,none⟩):=by rw[hcx,hsh]
  split at h
  ·rename_i hlt
   cases h
   have hlt:pos<s.size:=by
    have:=bf hlt
    rw[Array.length_toList]at this
    exact this
   obtain⟨q1,q2⟩:=nG hw (x:=.mi s (pos+(Utf8.decode s pos).2)) hb hg (w' := { w with heap:=w.heap.setIfInBounds i.cb (.stringIter s (pos+(Utf8.decode s pos).2)) }) rfl rfl rfl (by simp)
    (fun j hj=>by simp[Array.getElem?_setIfInBounds,Ne.symm hj]) (by
     have:=(Array.getElem?_eq_some_iff.1 hob).1
     simp[Array.getElem?_setIfInBounds,this]) ⟨hsh,rfl⟩
   refine⟨ρ,_,q2,q1,Nat.le_refl _,.tuple #[.bool true,.int .i64 pos,.int .i32 (Utf8.decode s pos).1], ?_,.tup _ _ (.cons _ _ _ _ (.sc _ rfl) (.cons _ _ _ _ (.sc _ rfl) (.cons _ _ _ _ (.sc _ rfl) .nil)))⟩
   simp only[execOp,hop,Instr.next,GD,Sem.run_bind,hget,Result.andThen_ok]
   rw[if_pos hlt]
   simp only[Sem.run_bind,setObj,Sem.run,hob,Result.andThen_ok,Sem.run_pure,goInt]
  ·rename_i hlt
   cases h
   have hlt:¬ pos<s.size:=by
    have:=OB hlt
    rw[Array.length_toList]at this
    intro h
    exact this h
   refine⟨ρ,w,Step.refl _ _ _,hw,Nat.le_refl _,.tuple #[.bool false], ?_,.tup _ _ (.cons _ _ _ _ (.sc _ rfl) .nil)⟩
   simp only[execOp,hop,Instr.next,GD,Sem.run_bind,hget,Result.andThen_ok]
   rw[if_neg hlt]
   rfl
 case mapUpdate t m k x =>
  have hm:ai ρ (e m) (c m):=he m (by rw[hop];simp[Op.operands])
  have hk:ai ρ (e k) (c k):=he k (by rw[hop];simp[Op.operands])
  have hx:ai ρ (e x) (c x):=he x (by rw[hop];simp[Op.operands])
  simp only[kN,hop]at h
  split at h <;>try(cases h;done)
  rename_i kt et b kv hu hem hkv
  rw[hem]at hm
  have hck:=lF hk hkv
  rw[hck]at hk
  split at h <;>try(cases h;done)
  rename_i es clock hg
  split at h <;>try(cases h;done)
  rename_i y hy
  cases h
  generalize hcm:c m=um at hm
  cases hm with
  |map _ i hb =>
   obtain⟨ob,hob,fs,rfl,hrel⟩:=hw.blk b i _ hb hg
   obtain⟨ob',hrun,hblk⟩:=Zc hu hk hx hob hrel hy
   obtain⟨q1,q2⟩:=nG hw (x:=y) hb hg (w' := { w with heap:=w.heap.setIfInBounds i.cb ob' }) rfl rfl rfl (by simp)
    (fun j hj=>by simp[Array.getElem?_setIfInBounds,Ne.symm hj]) (by
     have:=(Array.getElem?_eq_some_iff.1 hob).1
     simp[Array.getElem?_setIfInBounds,this]) (hblk i)
   refine⟨ρ,_,q2,q1,Nat.le_refl _, ?_⟩
   simp only[execOp,hop,hck,hcm,Sem.run_bind,hrun,Result.andThen_ok]
   rfl
 all_goals (simp only[kN,hop]at h;cases h) where
 V4 {ρ:Ren}:∀ {xs:List AV}{us vs:List Value},aQ ρ xs vs→bW bZ xs=some us→vs=us
 |[],us,_,h,hu=>by simp[bW]at hu;subst hu;exact h.sH
 |x::xs,us,_,.cons _ v _ vs a b,hu=>by
  simp only[bW]at hu
  split at hu
  ·rename_i y hy
   split at hu
   ·rename_i ys hys
    cases hu
    rw[lF a hy,V4 b hys]
   ·cases hu
  ·cases hu
end
structure fo(ρ:Ren)(nt:Nat)(T:Tree AV)(a:Act):Prop where
 size:a.tmps.size=nt
 val:∀ t,ai ρ ((T.get t).getD .top) (a.tmps.getD t undef)
 defers:a.defers=[]
theorem fo.mono{ρ ρ' : Ren}{nt:Nat}{T:Tree AV}{a:Act}(h:ρ.le ρ')(k:fo ρ nt T a):fo ρ' nt T a :=
 ⟨k.size,fun t=>(k.val t).mono h,k.defers⟩
section
variable {P:Program} {X:Ext} {base:Base} {ρ:Ren} {A:AW} {w:World} {nt:Nat} {T:Tree AV} {a:Act}
theorem oJ(h:fo ρ nt T a)(x:Operand):ai ρ (lG T x) (a.eval x):=by
 cases x with
 |tmp t=>exact h.val t
 |const v =>
  simp only[lG,Act.eval]
  cases hv:gy v with
  |none=>exact .top _
  |some u=>exact iP hv
 |global g=>exact .top _
 |func f=>exact .fn _ _ _ _ _ rfl .nil .nil
theorem U5(ts:Array Value)(d t:Nat)(v:Value)(hd:d<ts.size):(ts.setIfInBounds d v).getD t undef=if t=d then v else ts.getD t undef:=by
 simp only[Array.getD_eq_getD_getElem?,Array.getElem?_setIfInBounds]
 by_cases e:d=t
 ·subst e;simp[hd]
 ·rw[if_neg e,if_neg (fun h=>e h.symm)]
theorem LG(h:fo ρ nt T a){d:Option Tmp}{v:AV}{v' : Value}{T' : Tree AV}(hv:ai ρ v v')(hp:QG nt T d v=some T'):fo ρ nt T' (a.put d v'):=by
 cases d with
 |none=>simp only[QG]at hp;cases hp;exact h
 |some d =>
  simp only[QG]at hp
  split at hp <;>try cases hp
  rename_i hb
  have hb:=bf hb
  refine⟨by simp only[Act.put,Array.size_setIfInBounds];exact h.size,fun t=>?_,h.defers⟩
  simp only[Act.put]
  rw[U5 _ _ _ _ (by rw[h.size];omega),Tree.bn]
  by_cases e:t=d
  ·rw[if_pos e,if_pos e];exact hv
  ·rw[if_neg e,if_neg e];exact h.val t
def fO(P:Program)(base:Base)(call:asv):Prop :=
 ∀ f args A v A',call f args A=some (v,A')→∀ (ρ:Ren)(w:World)(us:List Value),aQ ρ args us→dD P base ρ A w→base≤w.heap.size →
   Calls P f ⟨us⟩ w fun e w'=>∃ ρ' v',e=.returned v'∧Step base A.next ρ w ρ' w'∧dD P base ρ' A' w'∧A.next≤A'.next∧ai ρ' v v'
theorem NU(o:Oper){v' : Value}{w' : World}{K:Act→World→Prop}{Q:Exit→Act→World→Prop}(hr:(execOp a.eval o).run P w=.ok (.value v') w')(h:K (a.put o.dst v') w'):o.wp P a w K Q:=by
 unfold Oper.wp;rw[hr];exact h
theorem ahH(o:Oper){w' : World}{K:Act→World→Prop}{Q:Exit→Act→World→Prop}(hr:(execOp a.eval o).run P w=.ok .skip w')(h:K (a.put o.dst undef) w'):o.wp P a w K Q:=by
 unfold Oper.wp;rw[hr];exact h
theorem aeJ(o:Oper){f:FuncId}{args:Array Value}{w' : World}{K:Act→World→Prop}{Q:Exit→Act→World→Prop}{R:Ending→World→Prop}(hr:(execOp a.eval o).run P w=.ok (.enter f args) w')
  (hc:Calls P f args w' R) (h:∀ e w'',R e w''→∃ v,e=.returned v∧K (a.put o.dst v) w''):o.wp P a w K Q:=by
 unfold Oper.wp;rw[hr]
 exact hc.mono fun e w'' hR=>by
  obtain⟨v,rfl,hk⟩:=h e w'' hR
  exact hk
theorem aeB(hw:dD P base ρ A w)(hbase:base≤w.heap.size){o:Oper}{c:Operand→Value}{x:mY}{mk:Nat→AV}(h:ajN P ρ w o c x mk) :
  ∃ ρ' w' u,(execOp c o).run P w=.ok (.value u) w'∧dD P base ρ' (A.push x) w'∧Step base A.next ρ w ρ' w'∧ai ρ' (mk A.next) u:=by
 obtain⟨d,ob,u,i,hrun,hi,hrel,hv⟩:=h
 have hb:ρ A.next=none:=hw.fresh (Nat.le_refl _)
 have hd:dD P base ρ A (if d=true then w.drew else w):=by cases d<;>simp[hw,hw.drew]
 have hsz:(if d=true then w.drew else w).heap.size=w.heap.size:=by cases d<;>simp
 have hst:Step base A.next ρ w ρ (if d=true then w.drew else w):=by cases d<;>simp[Step.refl,Step.drew]
 obtain⟨h1,h2⟩:=CZ hd (by omega) (i:=i) (by omega) (hrel.mono (Ren.yR hb))
 exact⟨_,_,u,hrun,h1,hst.trans h2 (Nat.le_refl _),hv _ _ (by simp[Ren.add])⟩
end
theorem zN{acc:List Nat}{j:Nat}:∀ (es:List Edge),Nat.testBit (mO acc es) j=true→∃ e∈es,Region.binds .any e=true∧(j=e.on∨∃ m,acc[e.on]?=some m∧Nat.testBit m j=true)
 |[],h=>by simp[mO]at h
 |e::es,h=>by
  simp only[mO]at h
  split at h
  ·rename_i hb
   rw[Nat.testBit_or,Nat.testBit_or,Bool.or_eq_true,Bool.or_eq_true]at h
   rcases h with(h|h)|h
   ·rw[Nat.testBit_two_pow]at h
    have h:=of_decide_eq_true h
    exact⟨e,.head _,hb,.inl h.symm⟩
   ·rw[cB]at h
    cases hm:acc[e.on]? with
    |none=>simp[hm]at h
    |some m=>exact⟨e,.head _,hb,.inr ⟨m,hm,by simpa [hm]using h⟩⟩
   ·obtain⟨e',h1,h2⟩:=zN es h
    exact⟨e',.tail _ h1,h2⟩
  ·obtain⟨e',h1,h2⟩:=zN es h
   exact⟨e',.tail _ h1,h2⟩
theorem AX:∀ (L:List Oper)(acc:List Nat),(∀ i,i<acc.length→(ja L acc)[i]?=acc[i]?) ∧
  ∀ j o,L[j]?=some o→∃ pre,pre.length=acc.length+j∧(∀ i,i<acc.length+j→pre[i]?=(ja L acc)[i]?)∧(ja L acc)[acc.length+j]?=some (mO pre o.after.toList)
 |[],acc=>⟨fun _ _=>rfl,fun j o h=>by simp at h⟩
 |x::L,acc=>by
  obtain⟨h1,h2⟩:=AX L (acc++[mO acc x.after.toList])
  simp only[ja]
  have hpre:∀ i,i<acc.length→(ja L (acc++[mO acc x.after.toList]))[i]?=acc[i]?:=fun i hi=>by
   rw[h1 i (by simp;omega),List.getElem?_append_left hi]
  refine⟨hpre,fun j o hj=>?_⟩
  cases j with
  |zero =>
   simp at hj;subst hj
   refine⟨acc,rfl,fun i hi=>(hpre i hi).symm, ?_⟩
   rw[Nat.add_zero,h1 acc.length (by simp)]
   simp
  |succ j =>
   obtain⟨pre,a,b,c⟩:=h2 j o (by simpa using hj)
   simp only[List.length_append,List.length_singleton]at a b c
   exact⟨pre,by omega,fun i hi=>b i (by omega),by rw[show acc.length+(j+1)=acc.length+1+j by omega];exact c⟩
section
variable {L:List Oper} {S:Nat→Prop}
def Closed(L:List Oper)(S:Nat→Prop):Prop:=∀ i o,L[i]?=some o→S i→∀ e∈o.after.toList,Region.binds .any e=true→S e.on
theorem Zd(hS:Closed L S):∀ (i:Nat)(m:Nat),(ja L [])[i]?=some m→(∀ o,L[i]?=some o→∀ e∈o.after.toList,Region.binds .any e=true→S e.on)→i<L.length→∀ j,Nat.testBit m j=true→S j:=by
 intro i
 induction i using Nat.strongRecOn with
 |_ i ih =>
  intro m hm hd hi j hj
  obtain⟨pre,h1,h2,h3⟩:=(AX L []).2 i L[i] (by simp[hi])
  simp only[List.length_nil,Nat.zero_add]at h1 h2 h3
  rw[hm]at h3
  cases h3
  obtain⟨e,he,hb,hj⟩:=zN _ hj
  have hon:=hd L[i] (by simp[hi]) e he hb
  rcases hj with rfl|⟨m',hm',hj⟩
  ·exact hon
  ·have hlt:e.on<i:=by
    rcases Nat.lt_or_ge e.on pre.length with h|h
    ·omega
    ·rw[List.getElem?_eq_none h]at hm';cases hm'
   rw[h2 e.on hlt]at hm'
   exact ih e.on hlt m' hm' (fun o ho e' he' hb'=>hS e.on o ho hon e' he' hb') (by omega) j hj
end
theorem Mx{P:Program}{es:List Nat}:∀ (os:List Oper)(ms:List Nat)(i0 j:Nat)(r:Row),(qM P es os ms i0)[j]?=some r →
  ∃ o m,os[j]?=some o∧ms[j]?=some m∧r = { i:=i0+j,o,m,lev:=kZ m es 0 0,kd:=kindOf P o }
 |[],_,_,_,_,h=>by simp[qM]at h
 |_::_,[],_,_,_,h=>by simp[qM]at h
 |o::os,m::ms,i0,0,r,h=>by
  simp only[qM,List.getElem?_cons_zero,Option.some.injEq]at h
  exact⟨o,m,rfl,rfl,by rw[← h];rfl⟩
 |o::os,m::ms,i0,j+1,r,h=>by
  simp only[qM,List.getElem?_cons_succ]at h
  obtain⟨o',m',a,b,c⟩:=Mx os ms (i0+1) j r h
  exact⟨o',m',by simpa using a,by simpa using b,by rw[c];congr 1;omega⟩
theorem Og{P:Program}{es:List Nat}:∀ (os:List Oper)(ms:List Nat)(i0 j:Nat)(o:Oper)(m:Nat),os[j]?=some o→ms[j]?=some m →
  (qM P es os ms i0)[j]?=some { i:=i0+j,o,m,lev:=kZ m es 0 0,kd:=kindOf P o }
 |[],_,_,_,_,_,h,_=>by simp at h
 |_::_,[],_,_,_,_,_,h=>by simp at h
 |o::os,m::ms,i0,0,o',m',h,h'=>by
  simp at h h';subst h;subst h';rfl
 |o::os,m::ms,i0,j+1,o',m',h,h'=>by
  simp only[qM,List.getElem?_cons_succ]
  rw[Og os ms (i0+1) j o' m' (by simpa using h) (by simpa using h')]
  congr 2;omega
theorem Fg:∀ (L:List Oper)(acc:List Nat),(ja L acc).length=acc.length+L.length
 |[],acc=>by simp[ja]
 |x::L,acc=>by simp only[ja,Fg L,List.length_append,List.length_cons,List.length_nil];omega
theorem zT{P:Program}:∀ (L:List Oper)(i0 x:Nat),x∈xX P L i0↔∃ j o,L[j]?=some o∧x=i0+j∧mg (kindOf P o)=true
 |[],i0,x=>by simp[xX]
 |o::L,i0,x=>by
  have ih:=zT (P:=P) L (i0+1) x
  simp only[xX]
  split
  ·rename_i hk
   rw[List.mem_cons,ih]
   constructor
   ·rintro(rfl|⟨j,o',a,b,c⟩)
    ·exact⟨0,o,rfl,rfl,hk⟩
    ·exact⟨j+1,o',by simpa using a,by omega,c⟩
   ·rintro⟨j,o',a,b,c⟩
    cases j with
    |zero=>exact .inl (by omega)
    |succ j=>exact .inr ⟨j,o',by simpa using a,by omega,c⟩
  ·rename_i hk
   rw[ih]
   constructor
   ·rintro⟨j,o',a,b,c⟩
    exact⟨j+1,o',by simpa using a,by omega,c⟩
   ·rintro⟨j,o',a,b,c⟩
    cases j with
    |zero=>simp at a;subst a;rw[hk]at c;cases c
    |succ j=>exact⟨j,o',by simpa using a,by omega,c⟩
theorem RJ:∀ (L:List Oper)(i0:Nat)(t0:Tree Nat)(t j:Nat),(Ww L i0 t0).get t=some j→(∃ q o,L[q]?=some o∧j=i0+q∧o.dst=some t)∨t0.get t=some j
 |[],_,_,_,_,h=>.inr h
 |o::L,i0,t0,t,j,h=>by
  simp only[Ww]at h
  rcases RJ L (i0+1) _ t j h with⟨q,o',a,b,c⟩|h
  ·exact .inl ⟨q+1,o',by simpa using a,by omega,c⟩
  ·cases hd:o.dst with
   |none=>rw[hd]at h;exact .inr h
   |some d =>
    rw[hd]at h
    simp only[Tree.bn]at h
    split at h
    ·rename_i e
     cases h
     exact .inl ⟨0,o,rfl,rfl,by rw[hd,e]⟩
    ·exact .inr h
theorem Jv:∀ (L:List Oper)(i0:Nat),KX L i0=true→∀ j o,L[j]?=some o→∀ e∈o.after.toList,Region.binds .any e=true→e.on<i0+j
 |[],_,_,_,_,h=>by simp at h
 |x::L,i0,h,j,o,ho=>by
  simp only[KX,Bool.and_eq_true,List.all_eq_true]at h
  cases j with
  |zero =>
   simp at ho;subst ho
   intro e he hb
   have:=h.1 e he
   rw[hb]at this
   simp only[Bool.not_true,Bool.false_or]at this
   have:=bf this
   omega
  |succ j =>
   intro e he hb
   have:=Jv L (i0+1) h.2 j o (by simpa using ho) e he hb
   omega
theorem KO{ms:List Nat}:∀ (es done:List Nat),KY ms done es=true→∀ l1 x l2,es=l1++x::l2→∀ y,y∈done∨y∈l1→Nat.testBit ((ms[x]?).getD 0) y=true
 |[],_,_,l1,x,l2,h=>by simp at h
 |z::es,done,hc,l1,x,l2,he=>by
  simp only[KY,Bool.and_eq_true,List.all_eq_true]at hc
  intro y hy
  cases l1 with
  |nil =>
   simp at he
   obtain⟨rfl,_⟩:=he
   rcases hy with hy|hy
   ·have:=hc.1 y hy;rwa [cB]at this
   ·simp at hy
  |cons z' l1 =>
   simp at he
   obtain⟨rfl,he⟩:=he
   refine KO es (z::done) hc.2 l1 x l2 he y ?_
   rcases hy with hy|hy
   ·exact .inl (.tail _ hy)
   ·rcases List.mem_cons.1 hy with e|hy
    ·exact .inl (by rw[e];exact .head _)
    ·exact .inr hy
theorem Gh{m:Nat}:∀ (es:List Nat)(r lY:Nat),kZ m es r lY=lY∨∃ q x,es[q]?=some x∧Nat.testBit m x=true∧kZ m es r lY=r+q+1
 |[],_,_=>.inl rfl
 |x::es,r,lY=>by
  simp only[kZ]
  split
  ·rename_i hb
   rcases Gh (m:=m) es (r+1) (r+1)with h|⟨q,y,a,b,c⟩
   ·exact .inr ⟨0,x,rfl,hb,h⟩
   ·exact .inr ⟨q+1,y,by simpa using a,b,by rw[c];omega⟩
  ·rcases Gh (m:=m) es (r+1) lY with h|⟨q,y,a,b,c⟩
   ·exact .inl h
   ·exact .inr ⟨q+1,y,by simpa using a,b,by rw[c];omega⟩
structure mD(P:Program)(nt:Nat)(ops:Array Oper)(ri:RI):Prop where
 ms:ri.ms=ja ops.toList []
 es:ri.es=xX P ops.toList 0
 rows:ri.rows=qM P ri.es ops.toList ri.ms 0
 Aa:∀ (j:Nat)(o:Oper),ops.toList[j]?=some o→∀ e∈o.after.toList,Region.binds .any e=true→e.on<j
 chain:∀ l1 x l2,ri.es=l1++x::l2→∀ y,y∈l1→Nat.testBit ((ri.ms[x]?).getD 0) y=true
 dst:∀ (j:Nat)(r:Row),ri.rows[j]?=some r→∀ d,r.o.dst=some d→ri.wr.get d=some r.i∧d<nt
 wrs:∀ t j,ri.wr.get t=some j→∃ o,ops.toList[j]?=some o∧o.dst=some t
theorem vH{P:Program}{nt:Nat}{ops:Array Oper}{ri:RI}(h:uG P nt ops=some ri):mD P nt ops ri:=by
 unfold uG at h
 simp only at h
 split at h <;>try cases h
 rename_i hc
 simp only[Bool.and_eq_true,List.all_eq_true]at hc
 obtain⟨⟨h1,h2⟩,h3⟩:=hc
 refine⟨rfl,rfl,rfl,fun j o ho e he hb=>?_,fun l1 x l2 he y hy=>?_,fun j r hr d hd=>?_,fun t j ht=>?_⟩
 ·have:=Jv _ _ h1 j o ho e he hb;omega
 ·exact KO _ _ h2 l1 x l2 he y (.inr hy)
 ·have:=h3 r (List.mem_of_getElem? hr)
  rw[hd]at this
  simp only[Bool.and_eq_true]at this
  have h5:=bf this.2
  have h4:=this.1
  split at h4
  ·rename_i j' hj';rw[hj',dG h4];exact⟨rfl,h5⟩
  ·cases h4
 ·rcases RJ _ _ _ _ _ ht with⟨q,o,a,b,c⟩|h
  ·exact⟨o,by rw[b,Nat.zero_add];exact a,c⟩
  ·simp[Tree.get]at h
section
variable {P:Program} {X:Ext} {base:Base} {nt:Nat} {ops:Array Oper} {ri:RI}
theorem mD.row(ht:mD P nt ops ri){j:Nat}{r:Row}(h:ri.rows[j]?=some r) :
  r.i=j∧ops.toList[j]?=some r.o∧ri.ms[j]?=some r.m∧r.lev=kZ r.m ri.es 0 0∧r.kd=kindOf P r.o:=by
 rw[ht.rows]at h
 obtain⟨o,m,a,b,rfl⟩:=Mx _ _ _ _ _ h
 exact⟨by simp,a,b,rfl,rfl⟩
theorem mD.ex(ht:mD P nt ops ri){j:Nat}{o:Oper}(h:ops.toList[j]?=some o):∃ r,ri.rows[j]?=some r∧r.o=o:=by
 have hl:ri.ms.length=ops.toList.length:=by rw[ht.ms,Fg];simp
 have hj:j<ri.ms.length:=by rw[hl];exact(List.getElem?_eq_some_iff.1 h).1
 exact⟨_,by rw[ht.rows];exact Og _ _ _ _ _ ri.ms[j] h (by simp[hj]),rfl⟩
theorem mD.nS(ht:mD P nt ops ri){j:Nat}{r:Row}(h:ri.rows[j]?=some r):j∈ri.es↔mg r.kd=true:=by
 obtain⟨h1,h2,h3,h4,h5⟩:=ht.row h
 rw[ht.es,zT,h5]
 constructor
 ·rintro⟨q,o,a,b,c⟩
  rw[Nat.zero_add]at b;subst b
  rw[h2]at a;cases a;exact c
 ·exact fun hk=>⟨j,r.o,h2,by simp,hk⟩
theorem mD.ahead(ht:mD P nt ops ri){S:Nat→Prop}(hS:Closed ops.toList S){j:Nat}{r:Row}(h:ri.rows[j]?=some r)(hr:∀ e∈r.o.after.toList,Region.binds .any e=true→S e.on){q:Nat}(hq:Nat.testBit r.m q=true):S q:=by
 obtain⟨h1,h2,h3,h4,h5⟩:=ht.row h
 exact Zd hS j r.m (by rw[← ht.ms];exact h3) (fun o ho=>by rw[h2]at ho;cases ho;exact hr) (List.getElem?_eq_some_iff.1 h2).1 q hq
theorem mD.Qb(ht:mD P nt ops ri){S:Nat→Prop}(hS:Closed ops.toList S){j:Nat}(hj:S j){o:Oper}(ho:ops.toList[j]?=some o){q:Nat}(hq:Nat.testBit ((ri.ms[j]?).getD 0) q=true):S q:=by
 obtain⟨r,hr,rfl⟩:=ht.ex ho
 obtain⟨h1,h2,h3,h4,h5⟩:=ht.row hr
 rw[h3]at hq
 exact ht.ahead hS hr (fun e he hb=>hS j _ h2 hj e he hb) hq
def Re(ρ:Ren)(T0:Tree AV)(wr:Tree Nat)(vals:Tree AV)(S:Nat→Prop)(a:Act):Prop :=
 ∀ t,(∀ j,wr.get t=some j→S j→ai ρ ((vals.get j).getD .top) (a.tmps.getD t undef))∧((∀ j,wr.get t=some j→¬ S j)→ai ρ ((T0.get t).getD .top) (a.tmps.getD t undef))
variable {T0:Tree AV} {n0:Nat} {ρ0:Ren} {w0:World} {k:Nat} {done rest:List Nat} {s:RS} {S:Nat→Prop} {ρ:Ren} {a:Act} {w:World}
theorem XB(ht:mD P nt ops ri){vals:Tree AV}(hs:Re ρ T0 ri.wr vals S a)(hsz:a.tmps.size=nt){i:Nat}{r:Row}(hr:ri.rows[i]?=some r){v:AV}{v' : Value}(hv:ai ρ v v')(hvi:vals.get i=some v){S' : Nat→Prop}(hS' : ∀ j,S' j↔S j∨j=i) :
  Re ρ T0 ri.wr vals S' (a.put r.o.dst v'):=by
 obtain⟨e1,e2,_⟩:=ht.row hr
 intro t
 have hput:(a.put r.o.dst v').tmps.getD t undef=if r.o.dst=some t then v' else a.tmps.getD t undef:=by
  cases hd:r.o.dst with
  |none=>simp[Act.put]
  |some d =>
   have:=(ht.dst i r hr d hd).2
   simp only[Act.put]
   rw[U5 _ _ _ _ (by rw[hsz];exact this)]
   by_cases e:t=d
   ·subst e;simp
   ·rw[if_neg e,if_neg (by simpa using fun h=>e h.symm)]
 rw[hput]
 by_cases hd:r.o.dst=some t
 ·rw[if_pos hd]
  have hw:=(ht.dst i r hr t hd).1
  rw[e1]at hw
  refine⟨fun j hj _=>?_,fun h=>absurd ((hS' i).2 (.inr rfl)) (h i hw)⟩
  rw[hw]at hj;cases hj
  rw[hvi];exact hv
 ·rw[if_neg hd]
  obtain⟨h1,h2⟩:=hs t
  have hne:∀ j,ri.wr.get t=some j→j≠i:=fun j hj e=>by
   subst e
   obtain⟨o,ho,hdo⟩:=ht.wrs t j hj
   rw[e2]at ho;cases ho
   exact hd hdo
  refine⟨fun j hj hS=>h1 j hj (((hS' j).1 hS).resolve_right (hne j hj)),fun h=>h2 fun j hj hS=>h j hj ((hS' j).2 (.inl hS))⟩
theorem NJ{vals:Tree AV}(t:Nat)(v:Value):∀ (rows:List Row)(T:Tree AV),(∀ r∈rows,r.o.dst=some t→ai ρ ((vals.get r.i).getD .top) v)→((∃ r∈rows,r.o.dst=some t)∨ai ρ ((T.get t).getD .top) v) →
  ai ρ (((Ey T vals rows).get t).getD .top) v
 |[],T,_,h=>by
  rcases h with⟨r,hr,_⟩|h
  ·cases hr
  ·exact h
 |r::rows,T,h1,h2=>by
  simp only[Ey]
  cases hd:r.o.dst with
  |none =>
   simp only
   refine NJ t v rows T (fun r' hr'=>h1 r' (.tail _ hr')) ?_
   rcases h2 with⟨r',hr',hd'⟩|h2
   ·rcases List.mem_cons.1 hr' with e|hr'
    ·subst e;rw[hd]at hd';cases hd'
    ·exact .inl ⟨r',hr',hd'⟩
   ·exact .inr h2
  |some d =>
   simp only
   refine NJ t v rows _ (fun r' hr'=>h1 r' (.tail _ hr')) ?_
   by_cases e:t=d
   ·subst e
    exact .inr (by rw[Tree.bn,if_pos rfl];exact h1 r (.head _) hd)
   ·rcases h2 with⟨r',hr',hd'⟩|h2
    ·rcases List.mem_cons.1 hr' with e'|hr'
     ·subst e';rw[hd]at hd';cases hd';exact absurd rfl e
     ·exact .inl ⟨r',hr',hd'⟩
    ·exact .inr (by rw[Tree.bn,if_neg e];exact h2)
end
section
variable {P:Program} {X:Ext} {base:Base} {nt:Nat} {ops:Array Oper} {ri:RI} {T0:Tree AV} {n0:Nat} {ρ0:Ren} {w0:World}
def iB(listed:Array Bool)(i:Nat):Prop:=listed.getD i false=true
theorem LA{listed:Array Bool}{i:Nat}(hi:i<listed.size)(j:Nat):iB (listed.setIfInBounds i true) j↔iB listed j∨j=i:=by
 unfold iB
 simp only[Array.getD_eq_getD_getElem?,Array.getElem?_setIfInBounds]
 by_cases e:i=j
 ·subst e;simp[hi]
 ·simp[e];intro h;exact absurd h.symm e
theorem count_set{listed:Array Bool}{i:Nat}(hi:i<listed.size)(h:¬ iB listed i){fuel:Nat}(hc:listed.toList.count false≤fuel+1):(listed.setIfInBounds i true).toList.count false≤fuel:=by
 have hf:listed.toList[i]?=some false:=by
  unfold iB at h
  rw[Array.getElem?_toList]
  simp only[Array.getD_eq_getD_getElem?]at h
  rw[Array.getElem?_eq_getElem hi]at h ⊢
  simpa using h
 rw[Array.toList_setIfInBounds]
 obtain⟨hl,hv⟩:=List.getElem?_eq_some_iff.1 hf
 rw[List.count_set hl,hv]
 have:0<listed.toList.count false:=List.count_pos_iff.2 (hv▸List.getElem_mem hl)
 simp only[beq_self_eq_true,if_true,show((true:Bool)==false)=false from rfl,Bool.false_eq_true,if_false]
 omega
theorem abd{listed:Array Bool}(h:listed.toList.count false=0){i:Nat}(hi:i<listed.size):iB listed i:=by
 unfold iB
 have hm:listed[i]∈listed.toList:=by simp
 have:false∉listed.toList:=List.count_eq_zero.1 h
 simp only[Array.getD_eq_getD_getElem?,Array.getElem?_eq_getElem hi]
 cases hb:listed[i]with
 |true=>rfl
 |false=>rw[hb]at hm;exact absurd hm this
theorem Rv{listed:Array Bool}(hsz:listed.size=ops.size){i:Nat}(h:i∈Region.ready .any ops listed) :
  i<ops.size∧¬ iB listed i∧∃ o,ops[i]?=some o∧∀ e∈o.after.toList,Region.binds .any e=true→iB listed e.on:=by
 unfold Region.ready at h
 obtain⟨h1,h2⟩:=List.mem_filter.1 h
 have hi:i<ops.size:=by simpa using h1
 simp only[Bool.and_eq_true,Bool.not_eq_true']at h2
 obtain⟨h3,h4⟩:=h2
 refine⟨hi, ?_,ops[i],by simp[hi], ?_⟩
 ·unfold iB
  simp only[Array.getD_eq_getD_getElem?,Array.getElem?_eq_getElem (show i<listed.size by omega)]at h3 ⊢
  simp at h3;simp[h3]
 ·intro e he hb
  simp only[hi,getElem?_pos,Option.map_some,Option.getD_some,Array.all_eq_true']at h4
  have:=h4 e (by simpa using he)
  rw[hb]at this
  unfold iB
  simpa using this
theorem mem_ready{listed:Array Bool}(hsz:listed.size=ops.size){i:Nat}(hi:i<ops.size)(hn:¬ iB listed i){o:Oper}(ho:ops[i]?=some o)(he:∀ e∈o.after.toList,Region.binds .any e=true→iB listed e.on) :
  i∈Region.ready .any ops listed:=by
 unfold Region.ready
 refine List.mem_filter.2 ⟨by simpa using hi, ?_⟩
 simp only[Bool.and_eq_true,Bool.not_eq_true',ho,Option.map_some,Option.getD_some,Array.all_eq_true']
 constructor
 ·unfold iB at hn
  simp only[Array.getD_eq_getD_getElem?,Array.getElem?_eq_getElem (show i<listed.size by omega)]at hn ⊢
  simpa using hn
 ·intro e hm
  cases hb:Region.binds .any e with
  |false=>rfl
  |true =>
   have:=he e (by simpa using hm) hb
   unfold iB at this
   simpa using this
theorem Tt(ht:mD P nt ops ri){listed:Array Bool}(hsz:listed.size=ops.size)(h:Region.ready .any ops listed=[]):∀ i,i<ops.size→iB listed i:=by
 intro i
 induction i using Nat.strongRecOn with
 |_ i ih =>
  intro hi
  by_cases hl:iB listed i
  ·exact hl
  ·have hm:=mem_ready hsz hi hl (o:=ops[i]) (by simp[hi]) fun e he hb=>ih e.on (ht.Aa i ops[i] (by simp[hi]) e he hb) (by have:=ht.Aa i ops[i] (by simp[hi]) e he hb;omega)
   rw[h]at hm;cases hm
variable {k:Nat} {done rest:List Nat} {s sF:RS} {ρ:Ren} {a:Act} {w:World}
end
section
variable {P:Program} {X:Ext} {base:Base} {nt:Nat}
variable {n0:Nat} {ρ0:Ren} {w0:World} {ρ:Ren} {A:AW} {w:World} {T:Tree AV} {a:Act}
def qP(tmps:Array Value):ResultVar→Sem Value
 |.tmp t=>pure (tmps.getD t undef)
 |.cell x t=>do loadVar t (← asAddr (tmps.getD x undef))
end
section
variable {P:Program} {X:Ext} {base:Base}
end
end Go.Ab
namespace Go.Ab
open Go Go.RowKit Go.WideShapes Go.ChangeShapes
section
variable {H:Type} {enc:TypeId×Value→H} {P:Program}
theorem Tq{f:Func}{s:ChangeSpec}{apart fresh handsOn again:Bool}{W W' : World}{args:Array Value}{v:Value}{ds gs:List (DataW H)}{before pa pv:List MemPlace}
  (hW:DataW.Whole enc P f.params.toList s.vars apart W args.toList ds gs before)
  (hres:∀ (b:Nat)(sp:Nat→Bool)(hd:Bool),DataW.TrodAll enc P W' b sp hd f.resultTypes.toList (v.resultList f.resultTypes.size) (s.fn H (ds++gs)).results [])
  (hargs:∀ sp:Nat→Bool,(∀ p∈before,sp p.block=true)→DataW.TrodAll enc P W' 0 sp true f.params.toList args.toList (s.fn H (ds++gs)).args pa)
  (hvars:∀ sp:Nat→Bool,(∀ p∈before,sp p.block=true)→DataW.TrodVars enc P W' sp s.vars (s.fn H (ds++gs)).vars pv)
  (hps:before=pa++pv) (hb:Below W.heap.size W W')
  (hok:∀ (j:Nat)(t:TypeId)(r:Value),f.resultTypes[j]?=some t→(v.resultList f.resultTypes.size)[j]?=some r→Value.okWide P W' .any 0 t r) :
  s.post enc P f apart fresh handsOn again W args v W':=by
 have hlt:∀ p∈before,p.block<W.heap.size:=fun p hp=>hW.lt p hp
 have hold:∀ p∈before,(fun b=>decide (b<W.heap.size)) p.block=true:=fun p hp=>by simpa using hlt p hp
 refine⟨ds,gs,before,[],pa,pv,hW,hres _ _ _,hargs _ hold,hvars _ hold,World.keptBut_mono (fun p hp=>⟨hp, ?_⟩) (hb.frame (· ∈ before)),fun _=>?_⟩
 ·rw[hps,List.mem_append]at hp
  exact Or.inr hp
 ·obtain⟨_,_,_,_,_,hz,hn⟩:=hW
  refine⟨hok,_,_,([]++pa)++pv,⟨[]++pa,pv,trodAll_append (hargs _ (fun _ _=>rfl)) (hres _ _ _),hvars _ (fun _ _=>rfl),rfl, ?_, ?_⟩, ?_⟩
  ·intro b off hp
   have hin:MemPlace.cell b off∈before:=by rw[hps];simpa using hp
   rw[hb.frozen (hlt _ hin)]
   exact hz b off hin
  ·intro ha
   have:=hn ha
   rw[hps]at this
   simpa using this
  ·intro p hp _
   rw[hps]
   simpa using hp
end
theorem ag2{P:Program} (h:(P.funcs.toList.all fun fn=>fn.name != "runtime.NumGoroutine")=true) (f:FuncId) (fn:Func) (hf:P.funcs[f]?=some fn):fn.name ≠ "runtime.NumGoroutine" := by
 have:=List.all_eq_true.1 h fn (by rw[← Array.getElem?_toList]at hf;exact List.mem_of_getElem? hf)
 simpa using this
end Go.Ab
namespace Go.Ab
open Go Go.RowKit
inductive RB where
 |row (l:List AV) (opn:Bool) (elem:TypeId) (fz:Nat)
 |ro (c:Array Value)
 |map (es:List (AV×AV×Nat)) (clock:Nat)
 |iter (m:Option Nat) (since:Nat) (seen:List Nat) (stepped:Nat)
 |mi (s:List UInt8) (pos:Nat)
structure RM where
 next:Nat
 heap:Nat→Option RB
 base:Base
abbrev RM.lo(M:RM):Nat:=M.base.n
def RM.push(M:RM)(x:RB):RM := { M with next:=M.next+1,heap:=fun c=>if c=M.next then some x else M.heap c }
def RM.put(M:RM)(b:Nat)(x:RB):RM := { M with heap:=fun c=>if c=b then some x else M.heap c }
def RM.del(M:RM)(b:Nat):RM := { M with heap:=fun c=>if c=b then none else M.heap c }
def rU(lo:Nat):Value→AV
 |.pointer (some ⟨b,o,none⟩)=>if b<lo then .ptr b o else .top
 |.slice (some _) 0 0=>.emp 0
 |.slice (some ⟨b,o,none⟩) len cap=>if b<lo then .slc b o len (.ex cap)else .top
 |v=>(ui v).getD .top
def RM.cells(M:RM)(b:Nat):Option (List AV) :=
 match M.heap b with
 |some (.row l _ _ _)=>some l
 |some (.ro c)=>some (c.toList.map (rU M.lo))
 |_=>none
def RM.loads(M:RM)(b o k:Nat):Option (List AV) :=
 match M.cells b with
 |some l=>if o+k≤l.length then some ((l.drop o).take k)else none
 |none=>none
def RM.stores(M:RM)(b o:Nat)(vs:List AV):Option RM :=
 match M.heap b with
 |some (.row l opn elem fz)=>if o+vs.length≤l.length∧fz≤o∧vs.all oneCell=true then some (M.put b (.row (l.take o++vs++l.drop (o+vs.length)) opn elem fz))else none
 |_=>none
def BO:RB→mY→Prop
 |.row l opn elem fz,.row n tree zs Ng lD fz'=>l.length=n∧Ng=opn∧lD=elem∧fz'=fz∧∀ (k:Nat)(v:AV),l[k]?=some v→cellAt tree zs n k=some v
 |.map es c,.map es' c'=>es'=es∧c'=c
 |.iter a b c d,.iter a' b' c' d'=>a'=a∧b'=b∧c'=c∧d'=d
 |.mi s p,.mi s' p'=>s'=⟨⟨s⟩⟩∧p'=p
 |_,_=>False
structure wT(P:Program)(ρ:Ren)(M:RM)(w:World)(A:AW):Prop where
 next:A.next=M.next
 rel:dD P M.base ρ A w
 size:M.lo≤w.heap.size
 blk:∀ b x,M.heap b=some x→(∃ y,A.heap.get b=some y∧BO x y)∨∃ c,x=.ro c∧b<M.lo∧∃ elem fr,w.heap[b]?=some (.cells c elem fr)
 old:∀ c,c<M.lo→ρ c=some ⟨c,0,0,0⟩
def bu(P:Program)(ρ:Ren)(M:RM)(w:World):Prop:=∃ A,wT P ρ M w A
structure After(P:Program)(M:RM)(ρ:Ren)(w:World)(M' : RM)(ρ' : Ren)(w' : World):Prop where
 step:Step M.lo M.next ρ w ρ' w'
 rel:bu P ρ' M' w'
 base:M'.base=M.base
 next:M.next≤M'.next
theorem After.lo{P:Program}{M M' : RM}{ρ ρ' : Ren}{w w' : World}(h:After P M ρ w M' ρ' w'):M'.lo=M.lo:=congrArg Base.n h.base
theorem Step.aae{M M0:RM}{n:Nat}{ρ ρ' : Ren}{w w' : World}(h:M.base=M0.base)(s:Step M.lo n ρ w ρ' w'):Step M0.lo n ρ w ρ' w':=by
 unfold RM.lo at *;rw[← h];exact s
section
variable {P:Program} {ρ ρ' : Ren} {M M' : RM} {w w' : World} {A A' : AW}
theorem After.refl(h:bu P ρ M w):After P M ρ w M ρ w:=⟨Step.refl _ _ _,h,rfl,Nat.le_refl _⟩
theorem After.trans{M1 M2:RM}{ρ1 ρ2:Ren}{w1 w2:World}(h:After P M ρ w M1 ρ1 w1)(k:After P M1 ρ1 w1 M2 ρ2 w2):After P M ρ w M2 ρ2 w2 :=
 ⟨h.step.trans (h.lo▸k.step) h.next,k.rel,k.base.trans h.base,Nat.le_trans h.next k.next⟩
theorem After.le(h:After P M ρ w M' ρ' w')(hr:bu P ρ M w):ρ.le ρ':=by
 obtain⟨A,hA⟩:=hr
 have:=h.step
 rw[← hA.next]at this
 exact this.le hA.rel
theorem bu.fresh(h:bu P ρ M w){b:Nat}(hb:M.next≤b):ρ b=none:=by
 obtain⟨A,hA⟩:=h
 exact hA.rel.fresh (by rw[hA.next];exact hb)
theorem bu.lt(h:bu P ρ M w){b:Nat}{i:gF}(hb:ρ b=some i):b<M.next∧i.cb<w.heap.size:=by
 obtain⟨A,hA⟩:=h
 have:=hA.rel.dom b i hb
 rw[hA.next]at this;exact this
theorem bu.lo_le(h:bu P ρ M w):M.lo≤M.next:=by
 rcases Nat.eq_zero_or_pos M.lo with e|e
 ·omega
 ·obtain⟨A,hA⟩:=h
  have:=hA.rel.dom (M.lo-1) _ (hA.old _ (by omega))
  rw[hA.next]at this;omega
theorem bu.drew(h:bu P ρ M w):bu P ρ M w.drew:=by
 obtain⟨A,hA⟩:=h
 exact⟨A,hA.next,hA.rel.drew,hA.size,hA.blk,hA.old⟩
theorem je(h:wT P ρ M w A)(hst:Step M.lo A.next ρ w ρ' w')(hw:dD P M.base ρ' A' w')(hbase:M'.base=M.base)(hn:A'.next=M'.next)(hle:A.next≤A'.next)
  (hb:∀ b x,M'.heap b=some x→(∃ y,A'.heap.get b=some y∧BO x y)∨∃ c,x=.ro c∧M.heap b=some x):After P M ρ w M' ρ' w':=by
 have hlo:M'.lo=M.lo:=congrArg Base.n hbase
 refine⟨h.next▸hst,⟨A',hn,hbase▸hw,by rw[hlo];exact Nat.le_trans h.size hst.size,fun b x hx=>?_,fun c hc=>?_⟩,hbase,by rw[← h.next,← hn];exact hle⟩
 ·rcases hb b x hx with h1|⟨c,rfl,h1⟩
  ·exact .inl h1
  ·rcases h.blk b _ h1 with⟨y,_,hy⟩|⟨c',e,hlt,elem,fr,hh⟩
   ·cases y<;>exact hy.elim
   ·cases e
    exact .inr ⟨c,rfl,by rw[hlo];exact hlt,elem,fr,by rw[hst.low b hlt];exact hh⟩
 ·rw[hlo]at hc
  have:=h.old c hc
  rw[hst.ext c (h.rel.dom c _ this).1];exact this
theorem NG{lo:Nat}(h:∀ c,c<lo→ρ c=some ⟨c,0,0,0⟩)(v:Value):ai ρ (rU lo v) v:=by
 unfold rU
 split
 ·split
  ·rename_i b o hb
   have:=ai.ptr (ρ:=ρ) b o ⟨b,0,0,0⟩ (h b hb)
   simpa using this
  ·exact .top _
 ·exact .emp _ _ _
 ·split
  ·rename_i b o len cap _ hb
   have:=ai.jv (ρ:=ρ) b o len cap ⟨b,0,0,0⟩ (h b hb)
   simpa using this
  ·exact .top _
 ·cases hv:ui v with
  |none=>exact .top _
  |some u=>exact GA ρ hv
theorem Gq{tree:Tree AV}{zs:List AV}{n:Nat}{l:List AV}(h:∀ (k:Nat)(v:AV),l[k]?=some v→cellAt tree zs n k=some v):∀ (k o:Nat),o+k≤l.length→cells tree zs n o k=some ((l.drop o).take k)
 |0,o,_=>by simp[cells]
 |k+1,o,hk=>by
  have ho:o<l.length:=by omega
  simp only[cells]
  rw[h o l[o] (by simp[ho]),Gq h k (o+1) (by omega)]
  simp only
  congr 1
  rw[List.drop_eq_getElem_cons ho,List.take_succ_cons]
theorem RM.iO(hw:bu P ρ M w){b o k:Nat}{i:gF}{xs:List AV}(hb:ρ b=some i)(h:M.loads b o k=some xs) :
  ∃ vs,aQ ρ xs vs∧vs.length=k∧∀ j v,vs[j]?=some v→w.cell? ((⟨i.cb,i.sh+o,none⟩ : Addr).add j)=some v:=by
 obtain⟨A,hA⟩:=hw
 unfold RM.loads RM.cells at h
 split at h <;>try(cases h;done)
 rename_i l hl
 split at h <;>try(cases h;done)
 rename_i hok
 cases h
 split at hl <;>try(cases hl;done)
 ·rename_i l0 opn elem fz hh
  cases hl
  rcases hA.blk b _ hh with⟨y,hy,hle⟩|⟨c,e,_⟩
  ·cases y <;>try exact hle.elim
   obtain⟨h1,rfl,rfl,rfl,h5⟩:=hle
   refine Go.Ab.iO hA.rel hb ?_
   unfold AW.loads
   rw[hy]
   exact Gq h5 k o (by omega)
  ·cases e
 ·rename_i c hh
  cases hl
  rcases hA.blk b _ hh with⟨y,hy,hle⟩|⟨c,e,hlt,elem,fr,hc⟩
  ·cases y<;>exact hle.elim
  ·cases e
   rw[hA.old b hlt]at hb
   cases hb
   simp only[List.length_map,Array.length_toList]at hok
   refine⟨(c.toList.drop o).take k, ?_,by simp;omega,fun j v hj=>?_⟩
   ·rw[← List.map_drop,← List.map_take]
    generalize (c.toList.drop o).take k=vs
    induction vs with
    |nil=>exact .nil
    |cons v vs ih=>exact .cons _ _ _ _ (NG hA.old v) ih
   ·rw[fw,World.cell?,hc]
    rw[List.getElem?_take]at hj
    split at hj
    ·rw[List.getElem?_drop]at hj
     simp only[Nat.zero_add]
     simpa using hj
    ·cases hj
theorem RM.mW(hw:bu P ρ M w){b o k:Nat}{i:gF}{xs:List AV}(hb:ρ b=some i)(h:M.loads b o k=some xs) :
  ∃ vs,aQ ρ xs vs∧vs.length=k∧(∀ j v,vs[j]?=some v→w.cell? ((⟨i.cb,i.sh+o,none⟩ : Addr).add j)=some v)∧(loadCells ⟨i.cb,i.sh+o,none⟩ k).run P w=.ok ⟨vs⟩ w:=by
 obtain⟨vs,h1,h2,h3⟩:=RM.iO hw hb h
 exact⟨vs,h1,h2,h3,by have:=run_loadCells_list (P:=P) w ⟨i.cb,i.sh+o,none⟩ vs h3;rw[h2]at this;exact this⟩
theorem lg:∀ (vs:List AV)(t:Tree AV)(o:Nat),vs.all oneCell=true→∃ t',lH t o vs=some t'
 |[],t,o,_=>⟨t,rfl⟩
 |v::vs,t,o,h=>by
  simp only[List.all_cons,Bool.and_eq_true]at h
  obtain⟨t',ht⟩:=lg vs (t.set o v) (o+1) h.2
  exact⟨t',by simp only[lH,h.1];exact ht⟩
theorem RM.NZ(h:wT P ρ M w A){b o:Nat}{vs:List AV}(hs:M.stores b o vs=some M') :
  ∃ A',A.stores b o vs=some A'∧M'.base=M.base∧A'.next=M'.next∧M'.next=M.next ∧
    ∀ c x,M'.heap c=some x→(∃ y,A'.heap.get c=some y∧BO x y)∨∃ d,x=.ro d∧M.heap c=some x:=by
 unfold RM.stores at hs
 split at hs <;>try(cases hs;done)
 rename_i l opn elem fz hh
 split at hs <;>try(cases hs;done)
 rename_i hc
 obtain⟨c1,c2,c3⟩:=hc
 cases hs
 rcases h.blk b _ hh with⟨y,hy,hle⟩|⟨c,e,_⟩
 ·cases y <;>try exact hle.elim
  rename_i n tree zs Ng lD fz'
  obtain⟨h1,rfl,rfl,rfl,h5⟩:=hle
  obtain⟨t',ht⟩:=lg vs tree o c3
  obtain⟨_,hget⟩:=fK _ _ _ ht
  refine⟨{ A with heap:=A.heap.set b (.row n t' zs Ng lD fz') }, ?_,rfl,h.next,rfl,fun c x hx=>?_⟩
  ·unfold AW.stores
   rw[hy]
   simp only
   rw[aU.2 (by omega),aU.2 c2,ht]
  ·simp only[RM.put]at hx
   simp only[Tree.bn]
   by_cases e:c=b
   ·subst e
    rw[if_pos rfl]at hx ⊢
    cases hx
    refine .inl ⟨_,rfl, ?_,rfl,rfl,rfl,fun k v hk=>?_⟩
    ·simp;omega
    ·rw[pQ hget]
     by_cases hin:o≤k∧k<o+vs.length
     ·rw[if_pos hin,if_pos (by omega)]
      rw[List.append_assoc,List.getElem?_append_right (by simp;omega),List.getElem?_append_left (by simp;omega)]at hk
      rw[← hk];congr 1;simp;omega
     ·rw[if_neg hin]
      refine h5 k v ?_
      rw[← hk]
      by_cases hlt:k<o
      ·rw[List.append_assoc,List.getElem?_append_left (by simp;omega),List.getElem?_take,if_pos hlt]
      ·rw[List.getElem?_append_right (by simp;omega),List.getElem?_drop]
       congr 1;simp;omega
   ·rw[if_neg e]at hx ⊢
    rcases h.blk c x hx with⟨y,a,b⟩|⟨d,e',_⟩
    ·exact .inl ⟨y,a,b⟩
    ·exact .inr ⟨d,e',hx⟩
 ·cases e
theorem RM.BZ(h:wT P ρ M w A){x:RB}{y:mY}(hx:BO x y) :
  (M.push x).base=M.base∧(A.push y).next=(M.push x).next ∧
   ∀ c z,(M.push x).heap c=some z→(∃ u,(A.push y).heap.get c=some u∧BO z u)∨∃ d,z=.ro d∧M.heap c=some z:=by
 refine⟨rfl,by simp[AW.push,RM.push,h.next],fun c z hz=>?_⟩
 simp only[RM.push]at hz
 simp only[AW.push,Tree.bn,h.next]
 by_cases e:c=M.next
 ·subst e
  rw[if_pos rfl]at hz ⊢
  cases hz
  exact .inl ⟨y,rfl,hx⟩
 ·rw[if_neg e]at hz ⊢
  rcases h.blk c z hz with⟨u,a,b⟩|⟨d,e',_⟩
  ·exact .inl ⟨u,a,b⟩
  ·exact .inr ⟨d,e',hz⟩
theorem bu.alp(h:bu P ρ M w)(x:RB)(y:mY)(hx:BO x y):bu P ρ (M.push x) w:=by
 obtain⟨A,hA⟩:=h
 obtain⟨h1,h2,h3⟩:=RM.BZ hA hx
 refine⟨A.push y,h2,Eu hA.rel y,hA.size,fun b z hz=>?_,hA.old⟩
 rcases h3 b z hz with k|⟨d,rfl,k⟩
 ·exact .inl k
 ·rcases hA.blk b _ k with⟨u,_,hu⟩|k2
  ·cases u<;>exact hu.elim
  ·exact .inr k2
end
end Go.Ab
