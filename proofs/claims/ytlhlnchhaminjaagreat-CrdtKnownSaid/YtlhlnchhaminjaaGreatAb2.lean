/- The interpreter: effects, regions, code, calls. By an AI agent. -/
import Derived.Test.YtlhlnchhaminjaaGreatAb1
set_option linter.unusedVariables false
set_option linter.unusedSimpArgs false
namespace Go.Ab

def lenA : AV → Option Nat
  | .slc _ _ n _ => some n
  | .emp _ => some 0
  | .sc (.slice none 0 0) => some 0
  | .sc (.string s) => some s.data.toList.length
  | _ => none

/-- The first k elements, as cells. -/
def firstA (A : AW) (size k : Nat) : AV → Option (List AV)
  | .slc b o _ _ => A.loads b o (k * size)
  | .sc (.string s) => match Nat.beq size 1 with
    | true => some ((s.data.toList.take k).map fun b => AV.sc (.int .u8 b.toNat))
    | false => none
  | _ => none

def copyA (size : Nat) (d x : AV) (A : AW) : Option (AV × AW) :=
  match d with
  | .slc b o dn _ => match lenA x with
    | some sn => match Nat.min sn dn with
      | 0 => some (.sc (.int .i64 0), A)
      | k + 1 => match firstA A size (k + 1) x with
        | some vs => match A.stores b o vs with
          | some A' => some (.sc (.int .i64 (k + 1 : Nat)), A')
          | none => none
        | none => none
    | none => none
  | .emp _ => match lenA x with
    | some _ => some (.sc (.int .i64 0), A)
    | none => none
  | .sc (.slice none 0 0) => match lenA x with
    | some _ => some (.sc (.int .i64 0), A)
    | none => none
  | _ => none

def enterA (P : Program) (f : FuncId) (args : List AV) : Option ONext :=
  match P.funcs[f]? with
  | none => none
  | some fn => match fn.body with
    | some _ => some (.enter f args)
    | none =>
      match Extern.findNext fn with
      | some _ => none
      | none => match Extern.find fn, mapO toVal args with
        | some s, some vs => match pureRun P (s ⟨vs⟩) with
          | some v => match ofVal v with
            | some x => some (.value x)
            | none => none
          | none => none
        | _, _ => none

/-- Is it zeros that are appended ('append(s, make([]T, n)...)')? -/
def zerosArg (P : Program) (argTypes : Array TypeId) : Option Bool :=
  match argTypes[1]? with
  | none => some false
  | some t => match P.underlying t with
    | some (.int _) => some true
    | some _ => some false
    | none => none

/-- Functions that are met otherwise than by their text: those whose road hangs on a capacity; slices.overlaps; abi.NoEscape. -/
structure Ext where
  split : List Nat
  overl : List Nat
  noesc : List Nat

def has : List Nat → Nat → Bool
  | [], _ => false
  | x :: xs, f => match Nat.beq x f with
    | true => true
    | false => has xs f

/-- slices.overlaps of two rows that are not one. -/
def overlapsA (A : AW) : List AV → Option AV
  | [.slc ba oa _ _, .slc bb _ _ _] => match Nat.beq ba bb, A.heap.get ba, A.heap.get bb with
    | false, some (.row na _ _ false _ fa), some (.row nb _ _ _ _ _) => match Nat.ble fa oa && Nat.ble (oa + 1) na && Nat.ble 1 nb with
      | true => some (.sc (.bool false))
      | false => none
    | _, _, _ => none
  | _ => none

def setNth {β : Type} (x : β) : List β → Nat → List β
  | [], _ => []
  | y :: ys, n => match n with
    | 0 => x :: ys
    | n + 1 => y :: setNth x ys n

/-- A map's entries with a key set. -/
def updateA (P : Program) (kt : TypeId) (k v : AV) (kv : Value) (es : List (AV × AV × Nat)) (clock : Nat) : Option Blk :=
  match pureRun P (Instr.checkKey false 10000 kt kv), findKeyA P kt kv es with
  | some (), some (some (i, _)) => match nth es i with
    | some (ka, _, born) => match toVal ka with
      | some kold => match Instr.sameBits 10000 kold kv with
        | true => some (.map (setNth (k, v, born) es i) clock)
        | false => none
      | none => none
    | none => none
  | some (), some none => some (.map (es ++ [(k, v, clock)]) (clock + 1))
  | _, _ => none

def effOp (P : Program) (X : Ext) (o : Oper) (e : Operand → AV) (A : AW) : Option (ONext × AW) :=
  match o.op with
  | .store t a x => match e a, sizeT P t with
    | .ptr b p, some n => match Nat.beq (e x).cells.length n, A.stores b p (e x).cells with
      | true, some A' => some (.skip, A')
      | _, _ => none
    | _, _ => none
  | .call { callee := .builtin .append, args, argTypes } => match argTypes[0]?, args with
    | some t, ⟨[s, x]⟩ => match P.underlying t with
      | some (.slice elem) => match zerosArg P argTypes with
        | some zeros => match appendA P elem zeros (e s) (e x) A with
          | some (v, A') => some (.value v, A')
          | none => none
        | none => none
      | _ => none
    | _, _ => none
  | .call { callee := .builtin .copy, args, argTypes } => match argTypes[0]?, args with
    | some t, ⟨[s, x]⟩ => match P.underlying t with
      | some (.slice elem) => match sizeT P elem with
        | some size => match copyA size (e s) (e x) A with
          | some (v, A') => some (.value v, A')
          | none => none
        | none => none
      | _ => none
    | _, _ => none
  | .call { callee := .builtin .clear, args, argTypes } => match argTypes[0]?, args with
    | some t, ⟨[x]⟩ => match P.underlying t, e x with
      | some (.slice elem), .slc b p n _ => match sizeT P elem, zerosOf P elem with
        | some size, some zs => match Nat.ble 1 size && Nat.beq zs.length size, A.stores b p (newCells.rep zs n) with
          | true, some A' => some (.value .undef, A')
          | _, _ => none
        | _, _ => none
      | some (.slice _), .emp _ => some (.value .undef, A)
      | _, _ => none
    | _, _ => none
  | .mapUpdate t m k x => match P.underlying t, e m, toVal (e k) with
    | some (.map kt _), .map b, some kv => match A.heap.get b with
      | some (.map es clock) => match updateA P kt (e k) (e x) kv es clock with
        | some y => some (.skip, { A with heap := A.heap.set b y })
        | none => none
      | _ => none
    | _, _, _ => none
  | .next it true => match e it with
    | .ptr b 0 => match A.heap.get b with
      | some (.siter s pos) => match Nat.ble (pos + 1) s.data.toList.length with
        | true => some (.value (.tup [.sc (.bool true), .sc (.int .i64 pos), .sc (.int .i32 (Utf8.decode s pos).1)]), { A with heap := A.heap.set b (.siter s (pos + (Utf8.decode s pos).2)) })
        | false => some (.value (.tup [.sc (.bool false)]), A)
      | _ => none
    | _ => none
  | .call { callee := .builtin .unsafeString, args, argTypes } => match argTypes[0]?, args with
    | some t, ⟨[x, n]⟩ => match P.underlying t with
      | some (.pointer el) => match P.underlying el, e x, natOf (e n) with
        | some (.int .u8), .ptr b p, some (k + 1) => match A.heap.get b, A.loads b p (k + 1) with
          | some (.row n _ _ _ elem _), some vs => match bytesOf vs, liesAt P P.depth elem (n / P.cellsOf elem) p el (k + 1), Nat.ble k 1000000 with
            | some s, true, true => some (.value (.sc (.string s)), { A with heap := A.heap.del b })
            | _, _, _ => none
          | _, _ => none
        | some (.int .u8), .sc (.pointer none), some 0 => some (.value (.sc (.string ⟨⟨[]⟩⟩)), A)
        | _, _, _ => none
      | _ => none
    | _, _ => none
  | .call { callee := .value f, args, .. } => match e f with
    | .fn (.func g) first captured => match has X.overl g, has X.noesc g with
      | true, _ => match overlapsA A (first ++ args.toList.map e ++ captured) with
        | some v => some (.value v, A)
        | none => none
      | false, true => match first ++ args.toList.map e ++ captured with
        | [v] => some (.value v, A)
        | _ => none
      | false, false => match enterA P g (first ++ args.toList.map e ++ captured) with
        | some r => some (r, A)
        | none => none
    | _ => none
  | _ => none

inductive Kind where
  | pure | read | alloc | eff

def kindOf (P : Program) (o : Oper) : Kind :=
  match o.op with
  | .alloc _ | .box _ _ | .buildSlice _ _ _ | .makeSlice _ _ _ | .makeMap _ _ | .range _ _ => .alloc
  | .load _ _ | .slice _ _ _ _ _ | .lookup _ _ _ _ => .read
  | .convert src dst _ => match P.underlying src, P.underlying dst with
    | some .string, some (.slice _) => .alloc
    | some (.slice _), some .string => .read
    | some (.pointer _), some .unsafePointer => .read
    | some .unsafePointer, some (.pointer _) => .read
    | _, _ => .pure
  | .store _ _ _ | .mapUpdate _ _ _ _ | .insert _ _ _ _ | .mapEntry _ _ _ | .entryStore _ _ _ _ | .next _ _ => .eff
  | .call { callee := .builtin .len, args := _, argTypes } => match argTypes[0]? with
    | some t => match P.underlying t with
      | some (.map _ _) => .read
      | _ => .pure
    | none => .pure
  | .call { callee := .builtin .min, .. } | .call { callee := .builtin .max, .. } => .pure
  | .call { callee := .builtin .cap, .. } => .read
  | .call { callee := .builtin .unsafeSliceData, .. } => .pure
  | .call _ => .eff
  | _ => .pure

def evalT (T : Tree AV) : Operand → AV
  | .tmp t => (T.get t).getD .top
  | .const v => (ofVal v).getD .top
  | .global _ => .top
  | .func f => .fn (.func f) [] []

abbrev CallF := FuncId → List AV → AW → Option (AV × AW)

/-! ### when are two values one? -/
def plainEq : Value → Value → Bool
  | .bool a, .bool b => a == b
  | .int k a, .int l b => decide (k = l) && decide (a = b)
  | .string a, .string b => decide (a.data.toList = b.data.toList)
  | .pointer none, .pointer none | .map none, .map none | .chan none, .chan none | .nilFunc, .nilFunc | .nilIface, .nilIface => true
  | .slice none 0 0, .slice none 0 0 => true
  | _, _ => false

def capEq : Cap → Cap → Bool
  | .ex a, .ex b => Nat.beq a b
  | .op a, .op b => Nat.beq a b
  | _, _ => false

def fnEq : Fn → Fn → Bool
  | .func f, .func g => Nat.beq f g
  | _, _ => false

mutual
def avEq : AV → AV → Bool
  | .top, .top => true
  | .atl a, .atl b => Nat.beq a b
  | .sc v, .sc u => plainEq v u
  | .ptr b o, .ptr c p => Nat.beq b c && Nat.beq o p
  | .slc b o l k, .slc c p m j => Nat.beq b c && Nat.beq o p && Nat.beq l m && capEq k j
  | .emp b, .emp c => Nat.beq b c
  | .map b, .map c => Nat.beq b c
  | .fn f xs ys, .fn g us vs => fnEq f g && avsEq xs us && avsEq ys vs
  | .ifc t v, .ifc s u => Nat.beq t s && avEq v u
  | .agg xs, .agg ys => avsEq xs ys
  | .tup xs, .tup ys => avsEq xs ys
  | _, _ => false
def avsEq : List AV → List AV → Bool
  | [], [] => true
  | x :: xs, y :: ys => avEq x y && avsEq xs ys
  | _, _ => false
end

def optEq : Option AV → Option AV → Bool
  | none, none => true
  | some x, some y => avEq x y
  | _, _ => false

def treeEq : Tree AV → Tree AV → Bool
  | .leaf, .leaf => true
  | .node l v r, .node l' v' r' => optEq v v' && treeEq l l' && treeEq r r'
  | _, _ => false

def blkEq : Blk → Blk → Bool
  | .row n t zs o el fz, .row n' t' zs' o' el' fz' => Nat.beq n n' && treeEq t t' && avsEq zs zs' && (o == o') && Nat.beq el el' && Nat.beq fz fz'
  | .map [] c, .map [] c' => Nat.beq c c'
  | _, _ => false

/-! ### one operation -/
/-- Is an operation wanted? none: it can't be seen. -/
def wantedA (ops : Array Oper) (T : Tree AV) (o : Oper) : Option Bool :=
  match o.guard with
  | none => some true
  | some (j, want) => match (ops[j]?).bind (·.dst) with
    | none => none
    | some d => match T.get d with
      | some (.sc (.bool b)) => some (b == want)
      | some (.tup []) => some false
      | _ => none

/-- The slots behind an operation ('nt': how many there are). -/
def putT (nt : Nat) (T : Tree AV) : Option Tmp → AV → Option (Tree AV)
  | some d, v => match Nat.ble (d + 1) nt with
    | true => some (T.set d v)
    | false => none
  | none, _ => some T

def andPut (nt : Nat) (T : Tree AV) (d : Option Tmp) (v : AV) (A : AW) : Option (Tree AV × AW) :=
  match putT nt T d v with
  | some T' => some (T', A)
  | none => none

def opA (P : Program) (X : Ext) (call : CallF) (nt : Nat) (o : Oper) (T : Tree AV) (A : AW) : Option (Tree AV × AW) :=
  match kindOf P o with
  | .pure => match pureOp P o (evalT T) with
    | some v => andPut nt T o.dst v A
    | none => none
  | .read => match loadOp P o (evalT T) A with
    | some v => andPut nt T o.dst v A
    | none => none
  | .alloc => match allocOp P o (evalT T) with
    | some (b, v) => andPut nt T o.dst (v A.next) (A.push b)
    | none => none
  | .eff => match effOp P X o (evalT T) A with
    | some (.value v, A') => andPut nt T o.dst v A'
    | some (.skip, A') => andPut nt T o.dst .undef A'
    | some (.enter f args, A') => match call f args A' with
      | some (v, A'') => andPut nt T o.dst v A''
      | none => none
    | none => none

def opsA (P : Program) (X : Ext) (call : CallF) (nt : Nat) (ops : Array Oper) : List Oper → Tree AV → AW → Option (Tree AV × AW)
  | [], T, A => some (T, A)
  | o :: rest, T, A => match wantedA ops T o with
    | some true => match opA P X call nt o T A with
      | some (T', A') => opsA P X call nt ops rest T' A'
      | none => none
    | some false => match putT nt T o.dst .undef with
      | some T' => opsA P X call nt ops rest T' A
      | none => none
    | none => none

/-! ### a region that draws its order -/
/-- An operation of a region: its place, itself, what stands ahead of it (bits), how many operations with effects it waits for, its kind. -/
structure Row where
  i : Nat
  o : Oper
  m : Nat
  lev : Nat
  kd : Kind

def isEff : Kind → Bool
  | .eff => true
  | _ => false

def maskOf (acc : List Nat) : List Edge → Nat
  | [] => 0
  | e :: es => match Region.binds .any e with
    | true => (2 ^ e.on ||| (nth acc e.on).getD 0) ||| maskOf acc es
    | false => maskOf acc es

def masksGo : List Oper → List Nat → List Nat
  | [], acc => acc
  | o :: r, acc => masksGo r (acc ++ [maskOf acc o.after.toList])

/-- The last of 'es' that stands ahead. -/
def levGo (m : Nat) : List Nat → Nat → Nat → Nat
  | [], _, best => best
  | x :: es, r, best => match Nat.testBit m x with
    | true => levGo m es (r + 1) (r + 1)
    | false => levGo m es (r + 1) best

def rowsGo (P : Program) (es : List Nat) : List Oper → List Nat → Nat → List Row
  | o :: os, m :: ms, i => { i, o, m, lev := levGo m es 0 0, kd := kindOf P o } :: rowsGo P es os ms (i + 1)
  | _, _, _ => []

def effsGo (P : Program) : List Oper → Nat → List Nat
  | [], _ => []
  | o :: os, i => match isEff (kindOf P o) with
    | true => i :: effsGo P os (i + 1)
    | false => effsGo P os (i + 1)

def wrGo : List Oper → Nat → Tree Nat → Tree Nat
  | [], _, t => t
  | o :: os, i, t => wrGo os (i + 1) (match o.dst with | some d => t.set d i | none => t)

def edgesOk : List Oper → Nat → Bool
  | [], _ => true
  | o :: os, i => o.after.toList.all (fun e => !Region.binds .any e || Nat.ble (e.on + 1) i) && edgesOk os (i + 1)

/-- Each operation with an effect has those ahead of it among what it waits for. -/
def chainOk (ms : List Nat) : List Nat → List Nat → Bool
  | _, [] => true
  | done, x :: es => done.all (fun y => Nat.testBit ((nth ms x).getD 0) y) && chainOk ms (x :: done) es

structure RI where
  ms : List Nat
  es : List Nat
  wr : Tree Nat
  rows : List Row

def regionInfo (P : Program) (nt : Nat) (ops : Array Oper) : Option RI :=
  let L := ops.toList
  let ms := masksGo L []
  let es := effsGo P L 0
  let wr := wrGo L 0 .leaf
  let rows := rowsGo P es L ms 0
  match edgesOk L 0 && chainOk ms [] es && rows.all (fun r => match r.o.dst with
      | some d => (match wr.get d with | some j => Nat.beq j r.i | none => false) && Nat.ble (d + 1) nt
      | none => true) with
  | true => some { ms, es, wr, rows }
  | false => none

def envR (T0 : Tree AV) (wr : Tree Nat) (vals : Tree AV) (m : Nat) : Operand → AV
  | .tmp t => match wr.get t with
    | some j => match Nat.testBit m j with
      | true => (vals.get j).getD .top
      | false => (T0.get t).getD .top
    | none => (T0.get t).getD .top
  | x => evalT T0 x

/-- Whoever writes a slot that is looked at stands ahead, or behind. -/
def slotOk (ri : RI) (r : Row) : Operand → Bool
  | .tmp t => match ri.wr.get t with
    | some j => Nat.testBit r.m j || Nat.beq j r.i || Nat.testBit ((nth ri.ms j).getD 0) r.i
    | none => true
  | _ => true

def slotsOk (ri : RI) (r : Row) : Bool := r.o.op.operands.toList.all (slotOk ri r)

def wantedR (ops : Array Oper) (wr : Tree Nat) (vals : Tree AV) (r : Row) : Option Bool :=
  match r.o.guard with
  | none => some true
  | some (j, want) => match (ops[j]?).bind (·.dst) with
    | none => none
    | some d => match Nat.testBit r.m j, wr.get d with
      | true, some j' => match Nat.beq j' j, vals.get j with
        | true, some (.sc (.bool b)) => some (b == want)
        | true, some (.tup []) => some false
        | _, _ => none
      | _, _ => none

structure RS where
  vals : Tree AV
  A : AW
  bids : Tree Nat

def nonA (P : Program) (ops : Array Oper) (T0 : Tree AV) (wr : Tree Nat) (k : Nat) : List Row → RS → Option RS
  | [], s => some s
  | r :: rest, s => match Nat.beq r.lev k && !isEff r.kd with
    | false => nonA P ops T0 wr k rest s
    | true => match wantedR ops wr s.vals r with
      | none => none
      | some false => nonA P ops T0 wr k rest { s with vals := s.vals.set r.i .undef }
      | some true => match r.kd with
        | .pure => match pureOp P r.o (envR T0 wr s.vals r.m) with
          | some v => nonA P ops T0 wr k rest { s with vals := s.vals.set r.i v }
          | none => none
        | .read => match loadOp P r.o (envR T0 wr s.vals r.m) s.A with
          | some v => nonA P ops T0 wr k rest { s with vals := s.vals.set r.i v }
          | none => none
        | .alloc => match allocOp P r.o (envR T0 wr s.vals r.m) with
          | some (b, v) => nonA P ops T0 wr k rest { vals := s.vals.set r.i (v s.A.next), A := s.A.push b, bids := s.bids.set r.i s.A.next }
          | none => none
        | .eff => none

/-- Is an operation's value what it would be at this stage? -/
def sameA (P : Program) (ops : Array Oper) (T0 : Tree AV) (ri : RI) (s : RS) (r : Row) : Bool :=
  match wantedR ops ri.wr s.vals r, s.vals.get r.i with
  | some false, some v => avEq v .undef
  | some true, some v => slotsOk ri r && match r.kd with
    | .pure => optEq (pureOp P r.o (envR T0 ri.wr s.vals r.m)) (some v)
    | .read => optEq (loadOp P r.o (envR T0 ri.wr s.vals r.m) s.A) (some v)
    | .alloc => match allocOp P r.o (envR T0 ri.wr s.vals r.m), s.bids.get r.i with
      | some (x, mk), some b => match s.A.heap.get b with
        | some y => blkEq x y && avEq (mk b) v
        | none => false
      | _, _ => false
    | .eff => false
  | _, _ => false

/-- May an operation still be to come when the first 'k' with effects are done? -/
def aliveAt (ms : List Nat) (es : List Nat) (k : Nat) (r : Row) : Bool :=
  Nat.ble r.lev k && (es.take k).all (fun x => !Nat.testBit ((nth ms x).getD 0) r.i)

def bidsOk (s : RS) : List Row → List Nat → Bool
  | [], _ => true
  | r :: rest, seen => match s.bids.get r.i with
    | none => bidsOk s rest seen
    | some b => !seen.any (Nat.beq b) && bidsOk s rest (b :: seen)

def checkA (P : Program) (ops : Array Oper) (T0 : Tree AV) (ri : RI) (k : Nat) (s : RS) : Bool :=
  ri.rows.all (fun r => isEff r.kd || !aliveAt ri.ms ri.es k r || sameA P ops T0 ri s r) && bidsOk s ri.rows []

def effA (P : Program) (X : Ext) (call : CallF) (ops : Array Oper) (T0 : Tree AV) (ri : RI) (r : Row) (s : RS) : Option RS :=
  match wantedR ops ri.wr s.vals r, slotsOk ri r with
  | some false, _ => some { s with vals := s.vals.set r.i .undef }
  | some true, true => match effOp P X r.o (envR T0 ri.wr s.vals r.m) s.A with
    | some (.value v, A') => some { s with vals := s.vals.set r.i v, A := A' }
    | some (.skip, A') => some { s with vals := s.vals.set r.i .undef, A := A' }
    | some (.enter f args, A') => match call f args A' with
      | some (v, A'') => some { s with vals := s.vals.set r.i v, A := A'' }
      | none => none
    | none => none
  | _, _ => none

def stageA (P : Program) (X : Ext) (call : CallF) (ops : Array Oper) (T0 : Tree AV) (ri : RI) : Nat → List Nat → RS → Option RS
  | k, es, s => match nonA P ops T0 ri.wr k ri.rows s with
    | none => none
    | some s1 => match checkA P ops T0 ri k s1 with
      | false => none
      | true => match es with
        | [] => some s1
        | x :: rest => match nth ri.rows x with
          | none => none
          | some r => match effA P X call ops T0 ri r s1 with
            | none => none
            | some s2 => stageA P X call ops T0 ri (k + 1) rest s2
 termination_by structural _ es => es

def finT (T0 : Tree AV) (vals : Tree AV) : List Row → Tree AV
  | [] => T0
  | r :: rest => match r.o.dst with
    | some d => finT (T0.set d ((vals.get r.i).getD .top)) vals rest
    | none => finT T0 vals rest

def drawA (P : Program) (X : Ext) (call : CallF) (nt : Nat) (ops : Array Oper) (T : Tree AV) (A : AW) : Option (Tree AV × AW) :=
  match regionInfo P nt ops with
  | none => none
  | some ri => match stageA P X call ops T ri 0 ri.es { vals := .leaf, A, bids := .leaf } with
    | none => none
    | some s => some (finT T s.vals ri.rows, s.A)

/-! ### code -/
inductive Ex where
  | normal
  | exit (id : Nat)
  | ret

def codeA (P : Program) (X : Ext) (call : CallF) (nt : Nat) : Nat → Code → Tree AV → AW → Option (Ex × Tree AV × AW)
  | 0, _, _, _ => none
  | f + 1, c, T, A => match c with
    | .skip => some (.normal, T, A)
    | .region _ ops false => match opsA P X call nt ops ops.toList T A with
      | some (T', A') => some (.normal, T', A')
      | none => none
    | .region _ ops true => match drawA P X call nt ops T A with
      | some (T', A') => some (.normal, T', A')
      | none => none
    | .seq a b => match codeA P X call nt f a T A with
      | some (.normal, T', A') => codeA P X call nt f b T' A'
      | r => r
    | .cond c a b => match evalT T c with
      | .sc (.bool true) => codeA P X call nt f a T A
      | .sc (.bool false) => codeA P X call nt f b T A
      | _ => none
    | .block id c => match codeA P X call nt f c T A with
      | some (.exit id', T', A') => match Nat.beq id' id with
        | true => some (.normal, T', A')
        | false => some (.exit id', T', A')
      | r => r
    | .loop c => match codeA P X call nt f c T A with
      | some (.normal, T', A') => codeA P X call nt f (.loop c) T' A'
      | r => r
    | .exit id => some (.exit id, T, A)
    | .ret => some (.ret, T, A)
    | _ => none

def resultA (P : Program) (T : Tree AV) (A : AW) : ResultVar → Option AV
  | .tmp t => T.get t
  | .cell a t => match T.get a with
    | some (.ptr b p) => match isAggT P t, sizeT P t with
      | some false, _ => match A.loads b p 1 with
        | some [v] => some v
        | _ => none
      | some true, some n => match A.loads b p n with
        | some vs => some (.agg vs)
        | none => none
      | _, _ => none
    | _ => none

def resultsA (P : Program) (fn : Func) (T : Tree AV) (A : AW) : Option AV :=
  match mapO (resultA P T A) fn.results.toList with
  | some [v] => some v
  | some vs => some (.tup vs)
  | none => none

def isSc : AV → Bool
  | .sc _ => true
  | _ => false

/-- What a call has handed back: so many elements at the head of an open row of the old one's kind, plain all of them; the source as it was. -/
def outcome (A0 : AW) (b bv esz el want : Nat) (vrow : Blk) : Option (AV × AW) → Option (List AV)
  | some (.slc rb 0 n (.op e), A') => match A'.heap.get rb, A'.heap.get bv, A'.loads rb 0 (n * esz) with
    | some (.row _ _ _ true el' 0), some y, some C =>
      match Nat.beq e esz && Nat.beq n want && Nat.beq el' el && (Nat.beq rb b || Nat.ble A0.next rb) && C.all isSc && blkEq vrow y with
      | true => some C
      | false => none
    | _, _, _ => none
  | _ => none

/-- Is it the same, whatever the capacity (len + j, j from 'j' down to 0)? -/
def sameAll (run : Nat → Option (List AV)) (C : List AV) : Nat → Bool
  | 0 => true
  | j + 1 => match run j with
    | some C' => avsEq C' C && sameAll run C j
    | none => false

/-- A call whose road hangs on the capacity of its first argument (slices.Insert): run for each capacity that is too small, and for one that is not. -/
def splitA (run : CallF) (f : FuncId) (args : List AV) (A : AW) : Option (AV × AW) :=
  match args with
  | [.slc b 0 len (.op esz), .sc iv, .slc bv ov m (.ex mc)] =>
    match A.heap.get b, A.heap.get bv with
    | some (.row kn _ _ true el 0), some (.row kv _ _ false ev fv) =>
      match A.loads b 0 kn, A.loads bv 0 kv with
      | some cs, some us =>
        match Nat.beq kn (len * esz) && !Nat.beq b bv && Nat.ble 1 esz && cs.all isSc && us.all isSc with
        | true =>
          let vrow := Blk.row kv (Tree.ofList us 0 .leaf) [] false ev fv
          let tb := Tree.ofList cs 0 .leaf
          let small : AW := { next := A.next, heap := (Tree.leaf.set b (.row kn tb [] true el 0)).set bv vrow }
          let big : AW := { next := A.next, heap := (Tree.leaf.set b (.row ((len + m) * esz) tb [] true el 0)).set bv vrow }
          match outcome A b bv esz el (len + m) vrow (run f [.slc b 0 len (.op esz), .sc iv, .slc bv ov m (.ex mc)] big) with
          | some C => match sameAll (fun j => outcome A b bv esz el (len + m) vrow (run f [.slc b 0 len (.ex (len + j)), .sc iv, .slc bv ov m (.ex mc)] small)) C m with
            | true => some (.slc A.next 0 (len + m) (.op esz), { next := A.next + 1, heap := (A.heap.del b).set A.next (.row ((len + m) * esz) (Tree.ofList C 0 .leaf) [] true el 0) })
            | false => none
          | none => none
        | false => none
      | _, _ => none
    | _, _ => none
  | _ => run f args A

/-- A function's body. -/
def bodyA (P : Program) (X : Ext) (L : Nat) (call : CallF) (f : FuncId) (args : List AV) (A : AW) : Option (AV × AW) :=
  match P.funcs[f]? with
  | none => none
  | some fn => match fn.body with
    | none => none
    | some c => match codeA P X call (args.length + (fn.ntmps - args.length)) L c (Tree.ofList args 0 .leaf) A with
      | some (.exit _, _, _) => none
      | some (_, T, A') => match resultsA P fn T A' with
        | some v => some (v, A')
        | none => none
      | none => none

def callA (P : Program) (X : Ext) (L : Nat) : Nat → CallF
  | 0, _, _, _ => none
  | n + 1, f, args, A => match has X.split f with
    | true => splitA (bodyA P X L (callA P X L n)) f args A
    | false => bodyA P X L (callA P X L n) f args A

def isTrue : Option (AV × AW) → Bool
  | some (.sc (.bool b), _) => b
  | _ => false

end Go.Ab
