/- An interpreter of the model's code over abstract memory: its data and its functions. By an AI agent. -/
import Derived.Orders
set_option linter.unusedVariables false
set_option linter.unusedSimpArgs false
namespace Go.Ab

/-! ### trees keyed by numbers -/
inductive Tree (α : Type) where
  | leaf : Tree α
  | node (l : Tree α) (v : Option α) (r : Tree α) : Tree α

variable {α : Type}

def Tree.get : Tree α → Nat → Option α
  | .leaf, _ => none
  | .node l v r, n =>
    match Nat.beq n 0 with
    | true => v
    | false => match Nat.beq (n % 2) 1 with
      | true => l.get (n / 2)
      | false => r.get (n / 2 - 1)

def Tree.put : Nat → Tree α → Nat → Option α → Tree α
  | 0, _, _, _ => .leaf
  | f + 1, .leaf, n, x =>
    match Nat.beq n 0 with
    | true => .node .leaf x .leaf
    | false => match Nat.beq (n % 2) 1 with
      | true => .node (Tree.put f .leaf (n / 2) x) none .leaf
      | false => .node .leaf none (Tree.put f .leaf (n / 2 - 1) x)
  | f + 1, .node l v r, n, x =>
    match Nat.beq n 0 with
    | true => .node l x r
    | false => match Nat.beq (n % 2) 1 with
      | true => .node (Tree.put f l (n / 2) x) v r
      | false => .node l v (Tree.put f r (n / 2 - 1) x)

def Tree.set (t : Tree α) (n : Nat) (x : α) : Tree α := Tree.put (n + 1) t n (some x)
def Tree.del (t : Tree α) (n : Nat) : Tree α := Tree.put (n + 1) t n none

def Tree.ofList : List α → Nat → Tree α → Tree α
  | [], _, t => t
  | x :: xs, n, t => Tree.ofList xs (n + 1) (t.set n x)

/-! ### abstract values -/
/-- A slice's capacity: known, or: up to the end of the open row whose elements have so many cells. -/
inductive Cap where
  | ex (c : Nat)
  | op (esz : Nat)

inductive AV where
  | top
  | atl (k : Nat)                     -- an int that is at least k
  | sc (v : Value)
  | ptr (b o : Nat)
  | slc (b o len : Nat) (cap : Cap)
  | emp (b : Nat)
  | map (b : Nat)
  | fn (f : Fn) (first captured : List AV)
  | ifc (t : TypeId) (v : AV)
  | agg (cs : List AV)
  | tup (vs : List AV)
  deriving Inhabited

def AV.undef : AV := .tup []

def plain : Value → Bool
  | .bool _ | .int _ _ | .float _ _ | .complex _ _ _ | .string _ | .pointer none | .map none | .chan none | .nilFunc | .nilIface => true
  | .slice none 0 0 => true
  | _ => false

def ofCell : Value → Option AV
  | .func f ⟨[]⟩ ⟨[]⟩ => match f with
    | .yield _ => none
    | _ => some (.fn f [] [])
  | .iface t v => match plain v with
    | true => some (.ifc t (.sc v))
    | false => none
  | v => match plain v with
    | true => some (.sc v)
    | false => none

def mapO {β γ : Type} (f : β → Option γ) : List β → Option (List γ)
  | [] => some []
  | x :: xs => match f x with
    | some y => match mapO f xs with
      | some ys => some (y :: ys)
      | none => none
    | none => none

def ofVal : Value → Option AV
  | .agg ⟨cs⟩ => match mapO ofCell cs with
    | some l => some (.agg l)
    | none => none
  | .tuple ⟨cs⟩ => match mapO ofCell cs with
    | some l => some (.tup l)
    | none => none
  | v => ofCell v

def toCell : AV → Option Value
  | .sc v => some v
  | .fn f [] [] => some (.func f #[] #[])
  | .ifc t (.sc v) => some (.iface t v)
  | _ => none

def toVal : AV → Option Value
  | .agg cs => match mapO toCell cs with
    | some l => some (.agg ⟨l⟩)
    | none => none
  | .tup cs => match mapO toCell cs with
    | some l => some (.tuple ⟨l⟩)
    | none => none
  | v => toCell v

/-! ### abstract memory -/
/-- 'rep': a row of cells: 'n' cells are known to be there; cell i holds 'tree's, else 'zs's (i modulo its length). 'open': there may be more behind. 'fz': cells below it may be frozen. -/
inductive Blk where
  | row (n : Nat) (tree : Tree AV) (zs : List AV) (opn : Bool) (elem : TypeId) (fz : Nat)
  | map (es : List (AV × AV × Nat)) (clock : Nat)
  | iter (m : Option Nat) (since : Nat) (seen : List Nat) (stepped : Nat)
  | siter (s : ByteArray) (pos : Nat)

structure AW where
  next : Nat
  heap : Tree Blk

def nth {β : Type} : List β → Nat → Option β
  | [], _ => none
  | x :: xs, n => match n with
    | 0 => some x
    | n + 1 => nth xs n

def cellAt (tree : Tree AV) (zs : List AV) (n i : Nat) : Option AV :=
  match Nat.ble (i + 1) n with
  | false => none
  | true => match tree.get i with
    | some v => some v
    | none => match zs with
      | [] => none
      | [z] => some z
      | zs => nth zs (i % zs.length)

def cells (tree : Tree AV) (zs : List AV) (n : Nat) : Nat → Nat → Option (List AV)
  | _, 0 => some []
  | o, k + 1 => match cellAt tree zs n o with
    | none => none
    | some v => match cells tree zs n (o + 1) k with
      | some vs => some (v :: vs)
      | none => none

/-- 'k' cells from place 'o' of block 'b' on. -/
def AW.loads (A : AW) (b o k : Nat) : Option (List AV) :=
  match A.heap.get b with
  | some (.row n tree zs _ _ _) => cells tree zs n o k
  | _ => none

def oneCell : AV → Bool
  | .agg _ | .tup _ | .top => false
  | _ => true

def putAll : Tree AV → Nat → List AV → Option (Tree AV)
  | t, _, [] => some t
  | t, o, v :: vs => match oneCell v with
    | true => putAll (t.set o v) (o + 1) vs
    | false => none

def AW.stores (A : AW) (b o : Nat) (vs : List AV) : Option AW :=
  match A.heap.get b with
  | some (.row n tree zs opn elem fz) =>
    match Nat.ble (o + vs.length) n, Nat.ble fz o with
    | true, true => match putAll tree o vs with
      | some tree' => some { A with heap := A.heap.set b (.row n tree' zs opn elem fz) }
      | none => none
    | _, _ => none
  | _ => none

def AW.push (A : AW) (x : Blk) : AW := { next := A.next + 1, heap := A.heap.set A.next x }

def AV.cells : AV → List AV
  | .agg cs => cs
  | v => [v]

/-! ### operations -/
def pureRun (P : Program) {β : Type} : Sem β → Option β
  | .pure a => some a
  | .program k => pureRun P (k P)
  | .mark _ k => pureRun P k
  | _ => none

inductive ONext where
  | value (v : AV)
  | skip
  | enter (f : FuncId) (args : List AV)

def genOp (P : Program) (o : Oper) (e : Operand → AV) : Option AV :=
  match mapO (fun x => toVal (e x)) o.op.operands.toList with
  | none => none
  | some _ =>
    match pureRun P (execOp (fun x => (toVal (e x)).getD default) o) with
    | some (.value v) => ofVal v
    | _ => none

def natOf : AV → Option Nat
  | .sc (.int _ (.ofNat n)) => some n
  | _ => none

/-- An index that may be left out. -/
def natOr (e : Operand → AV) (d : Nat) : Option Operand → Option Nat
  | none => some d
  | some x => natOf (e x)

def isAggT (P : Program) (t : TypeId) : Option Bool :=
  match P.underlying t with
  | some (.struct _) | some (.array _ _) => some true
  | some _ => some false
  | none => none

def sizeT (P : Program) (t : TypeId) : Option Nat := (P.info? t).map (·.size)
def bytesT (P : Program) (t : TypeId) : Option Nat := (P.info? t).map (·.bytes)

def partOf (P : Program) (t : TypeId) (cs : List AV) (off : Nat) : Option AV :=
  match isAggT P t, sizeT P t with
  | some true, some n => match Nat.ble (off + n) cs.length with
    | true => some (.agg ((cs.drop off).take n))
    | false => none
  | some false, _ => nth cs off
  | _, _ => none

def byteOf : AV → Option UInt8
  | .sc (.int .u8 n) => some (UInt8.ofNat n.toNat)
  | _ => none

def bytesOf (vs : List AV) : Option ByteArray :=
  match mapO byteOf vs with
  | some l => some ⟨⟨l⟩⟩
  | none => none

def sliceOf (P : Program) (e : Operand → AV) (t : TypeId) (x : Operand) (lo hi mx : Option Operand) : Option AV :=
  match P.underlying t, e x with
  | some (.slice elem), .slc b o len cap =>
    match sizeT P elem, natOr e 0 lo, natOr e len hi with
    | some size, some l, some h =>
      match mx with
      | none => match cap with
        | .ex c => match Nat.ble l h, Nat.ble h c, Nat.beq c l with
          | true, true, false => some (.slc b (o + l * size) (h - l) (.ex (c - l)))
          | true, true, true => some (.slc b o 0 (.ex 0))
          | _, _, _ => none
        | .op esz => match Nat.ble l h, Nat.ble h len, Nat.beq size esz, Nat.ble len l with
          | true, true, true, false => some (.slc b (o + l * size) (h - l) (.op esz))
          | true, true, true, true => some (.emp b)
          | _, _, _, _ => none
      | some y => match hi, natOf (e y) with
        | none, _ | _, none => none
        | some _, some m => match Nat.ble l h, Nat.ble h m, Nat.ble m (match cap with | .ex c => c | .op _ => len), Nat.beq m l with
          | true, true, true, false => some (.slc b (o + l * size) (h - l) (.ex (m - l)))
          | true, true, true, true => some (.slc b o 0 (.ex 0))
          | _, _, _, _ => none
    | _, _, _ => none
  | some (.slice elem), .emp b =>
    match sizeT P elem, natOr e 0 lo, natOr e 0 hi, mx with
    | some _, some 0, some 0, none => some (.emp b)
    | _, _, _, _ => none
  | some (.slice elem), .sc (.slice none 0 0) =>
    match sizeT P elem, natOr e 0 lo, natOr e 0 hi, natOr e 0 mx with
    | some _, some 0, some 0, some 0 => match mx, hi with
      | some _, none => none
      | _, _ => some (.sc (.slice none 0 0))
    | _, _, _, _ => none
  | some (.array n elem), .ptr b o =>
    match sizeT P elem, natOr e 0 lo, natOr e n hi, mx with
    | some size, some l, some h, none =>
      match Nat.ble l h, Nat.ble h n, Nat.beq n l with
      | true, true, false => some (.slc b (o + l * size) (h - l) (.ex (n - l)))
      | true, true, true => some (.slc b o 0 (.ex 0))
      | _, _, _ => none
    | _, _, _, _ => none
  | _, _ => none

/-- Are two values, at least one of them no plain one, surely like or unlike? -/
def eqlOf (P : Program) (t : TypeId) (x y : AV) : Option Bool :=
  match x, y with
  | .ptr b o, .ptr c p => match Nat.beq b c, P.underlying t with
    | true, some (.pointer el) => match sizeT P el with
      | some (_ + 1) => some (Nat.beq o p)
      | _ => none
    | _, _ => none
  | .ptr _ _, .sc (.pointer none) => match P.underlying t with | some (.pointer _) => some false | _ => none
  | .sc (.pointer none), .ptr _ _ => match P.underlying t with | some (.pointer _) => some false | _ => none
  | .slc _ _ _ _, .sc (.slice none 0 0) => match P.underlying t with | some (.slice _) => some false | _ => none
  | .emp _, .sc (.slice none 0 0) => match P.underlying t with | some (.slice _) => some false | _ => none
  | .map _, .sc (.map none) => match P.underlying t with | some (.map _ _) => some false | _ => none
  | .fn _ _ _, .sc .nilFunc => match P.underlying t with | some (.func _ _ _) => some false | _ => none
  | .ifc _ _, .sc .nilIface => match P.underlying t with | some (.interface _) => some false | _ => none
  | _, _ => none

def known : AV → Bool
  | .top => false
  | _ => true

def fillG (place : Nat → Option (Nat × Nat)) : List AV → List (Nat × AV) → Option (List AV)
  | cs, [] => some cs
  | cs, (i, v) :: rest => match place i with
    | some (off, size) => match known v, Nat.beq v.cells.length size, Nat.ble (off + size) cs.length with
      | true, true, true => fillG place (cs.take off ++ v.cells ++ cs.drop (off + size)) rest
      | _, _, _ => none
    | none => none

/-- Are two rows of bytes one? -/
def bytesEq : List UInt8 → List UInt8 → Bool
  | [], [] => true
  | a :: x, b :: y => match Nat.beq a.toNat b.toNat with
    | true => bytesEq x y
    | false => false
  | _, _ => false

/-- '+' and comparisons of two strings. -/
def strOp (op : BinOp) (a b : List UInt8) : Option AV :=
  match op with
  | .add => match Nat.ble (a.length + b.length) 9223372036854775807 with
    | true => some (.sc (.string ⟨⟨a ++ b⟩⟩))
    | false => none
  | .eql => some (.sc (.bool (bytesEq a b)))
  | .neq => some (.sc (.bool (!bytesEq a b)))
  | .lss => some (.sc (.bool (Op.bytesLess a b)))
  | .leq => some (.sc (.bool (Op.bytesLess a b || bytesEq a b)))
  | .gtr => some (.sc (.bool (!(Op.bytesLess a b || bytesEq a b))))
  | .geq => some (.sc (.bool (!Op.bytesLess a b)))
  | _ => none

/-- A part of a string. -/
def strPart (P : Program) (e : Operand → AV) (t : TypeId) (s : List UInt8) (lo hi mx : Option Operand) : Option AV :=
  match P.underlying t, natOr e 0 lo, natOr e s.length hi, mx with
  | some .string, some l, some h, none => match Nat.ble l h, Nat.ble h s.length with
    | true, true => some (.sc (.string ⟨⟨(s.drop l).take (h - l)⟩⟩))
    | _, _ => none
  | _, _, _, _ => none

/-- Operations that only reckon. -/
def pureOp (P : Program) (o : Oper) (e : Operand → AV) : Option AV :=
  match o.op with
  | .move x | .assign x => some (e x)
  | .pick c a b => match e c with
    | .sc (.bool true) => some (e a)
    | .sc (.bool false) => some (e b)
    | _ => none
  | .nilCheck x => match e x with
    | .ptr b o => some (.ptr b o)
    | _ => none
  | .fieldAddr s x f => match P.underlying s, e x with
    | some (.struct fields), .ptr b p => match fields[f]? with
      | some fd => match sizeT P fd.type with
        | some (_ + 1) => some (.ptr b (p + fd.offset))
        | _ => none
      | none => none
    | _, _ => none
  | .indexAddr t x ix => match P.underlying t, e x, natOf (e ix) with
    | some (.slice elem), .slc b p len _, some i => match Nat.ble (i + 1) len, sizeT P elem with
      | true, some size => some (.ptr b (p + i * size))
      | _, _ => none
    | some (.array len elem), .ptr b p, some i => match Nat.ble (i + 1) len, sizeT P elem with
      | true, some size => some (.ptr b (p + i * size))
      | _, _ => none
    | _, _, _ => none
  | .field t x f => match P.underlying t, e x with
    | some (.struct fields), .agg cs => match fields[f]? with
      | some fd => partOf P fd.type cs fd.offset
      | none => none
    | _, _ => none
  | .index t x ix => match P.underlying t, e x, natOf (e ix) with
    | some (.array len elem), .agg cs, some i => match Nat.ble (i + 1) len, sizeT P elem with
      | true, some size => partOf P elem cs (i * size)
      | _, _ => none
    | some .string, .sc (.string s), some i => match nth s.data.toList i with
      | some b => some (.sc (.int .u8 b.toNat))
      | none => none
    | _, _, _ => none
  | .slice t x lo hi mx => match e x with
    | .sc (.string s) => strPart P e t s.data.toList lo hi mx
    | _ => sliceOf P e t x lo hi mx
  | .extract x i => match e x with
    | .tup vs => nth vs i
    | _ => none
  | .makeInterface t x => match P.underlying t with
    | some (.interface _) => none
    | some _ => some (.ifc t (e x))
    | none => none
  | .makeFunc f first captured => match f with
    | .yield _ => none
    | _ => some (.fn f (first.toList.map e) (captured.toList.map e))
  | .build t parts => match P.info? t, P.underlying t with
    | some it, some (.array _ el) => match it.zero, P.info? el with
      | some z, some ie => match ofVal z with
        | some (.agg cs) => (fillG (fun i => some (i * ie.size, ie.size)) cs (parts.toList.map fun p => (p.1, e p.2))).map .agg
        | _ => none
      | _, _ => none
    | some it, some (.struct fields) => match it.zero, fields.toList.mapM (fun f => (P.info? f.type).map fun i => (f.offset, i.size)) with
      | some z, some places => match ofVal z with
        | some (.agg cs) => (fillG (fun i => nth places i) cs (parts.toList.map fun p => (p.1, e p.2))).map .agg
        | _ => none
      | _, _ => none
    | _, _ => none
  | .binOp op t x y _ => match e x, e y with
    | .sc (.int _ _), .sc (.int _ _) => genOp P o e
    | .sc (.string a), .sc (.string b) => strOp op a.data.toList b.data.toList
    | .sc (.int .i64 (.ofNat n)), .atl k => match op, Nat.ble n k with
      | .gtr, true => some (.sc (.bool false))
      | _, _ => none
    | u, v => match op with
      | .eql => match eqlOf P t u v with
        | some r => some (.sc (.bool r))
        | none => genOp P o e
      | .neq => match eqlOf P t u v with
        | some r => some (.sc (.bool (!r)))
        | none => genOp P o e
      | _ => genOp P o e
  | .convert _ _ _ => genOp P o e
  | .call { callee := .builtin .len, args, argTypes } => match argTypes[0]?, args[0]? with
    | some t, some x => match P.underlying t, e x with
      | some (.slice _), .slc _ _ n _ => some (.sc (.int .i64 n))
      | some (.slice _), .emp _ => some (.sc (.int .i64 0))
      | _, _ => genOp P o e
    | _, _ => none
  | .call { callee := .builtin .cap, args, argTypes } => match argTypes[0]?, args[0]? with
    | some t, some x => match P.underlying t, e x with
      | some (.slice _), .slc _ _ _ (.ex c) => some (.sc (.int .i64 c))
      | some (.slice _), .sc (.slice none 0 0) => some (.sc (.int .i64 0))
      | _, _ => none
    | _, _ => none
  | .call { callee := .builtin .min, .. } | .call { callee := .builtin .max, .. } => genOp P o e
  | .call { callee := .builtin .unsafeSliceData, args, .. } => match args with
    | ⟨[x]⟩ => match e x with
      | .sc (.slice none 0 0) => some (.sc (.pointer none))
      | .slc b p _ (.ex (_ + 1)) => some (.ptr b p)
      | .slc b p (_ + 1) (.op _) => some (.ptr b p)
      | _ => none
    | _ => none
  | .unOp .. => genOp P o e
  | _ => none

/-! ### maps: keys are closed values, compared as the model compares them -/
def keyNow : TypeDesc → Value → Value → Option Bool
  | .string, .string a, .string b => some (bytesEq a.data.toList b.data.toList)
  | d, x, y => Instr.sameNow d x y

def findA (d : TypeDesc) (k : Value) : List (AV × AV × Nat) → Nat → Option (Option (Nat × AV))
  | [], _ => some none
  | (ka, va, _) :: es, i => match toVal ka with
    | none => none
    | some kv => match keyNow d k kv with
      | some true => some (some (i, va))
      | some false => findA d k es (i + 1)
      | none => none

def findS (P : Program) (kt : TypeId) (k : Value) : List (AV × AV × Nat) → Nat → Option (Option (Nat × AV))
  | [], _ => some none
  | (ka, va, _) :: es, i => match toVal ka with
    | none => none
    | some kv => match pureRun P (Op.equal kt k kv) with
      | some true => some (some (i, va))
      | some false => findS P kt k es (i + 1)
      | none => none

def findKeyA (P : Program) (kt : TypeId) (k : Value) (es : List (AV × AV × Nat)) : Option (Option (Nat × AV)) :=
  match P.underlying kt with
  | none => none
  | some d => match findA d k es 0 with
    | some r => some r
    | none => match es with
      | [] => none
      | (ka, _, _) :: _ => match toVal ka with
        | none => none
        | some kv => match keyNow d k kv with
          | none => findS P kt k es 0
          | some _ => none

def mapOf (A : AW) : AV → Option (List (AV × AV × Nat))
  | .map b => match A.heap.get b with
    | some (.map es _) => some es
    | _ => none
  | .sc (.map none) => some []
  | _ => none

def nilL {β : Type} : List β → Bool
  | [] => true
  | _ :: _ => false

def foundA (v : AV) (ok : Bool) : Bool → AV
  | true => .tup [v, .sc (.bool ok)]
  | false => v

/-- Operations that read memory. -/
def loadOp (P : Program) (o : Oper) (e : Operand → AV) (A : AW) : Option AV :=
  match o.op with
  | .load t x => match e x with
    | .ptr b p => match isAggT P t with
      | some false => match A.loads b p 1 with
        | some [v] => some v
        | _ => none
      | some true => match sizeT P t with
        | some n => match A.loads b p n with
          | some vs => some (.agg vs)
          | none => none
        | none => none
      | none => none
    | _ => none
  | .convert src dst x => match P.underlying src, P.underlying dst, e x with
    | some (.slice el), some .string, .slc b p len _ => match P.underlying el with
      | some (.int .u8) => match A.loads b p len with
        | some vs => match bytesOf vs with
          | some s => some (.sc (.string s))
          | none => none
        | none => none
      | _ => none
    | some (.slice el), some .string, .emp _ => match P.underlying el with
      | some (.int .u8) => some (.sc (.string ⟨⟨[]⟩⟩))
      | _ => none
    | some (.slice _), some .string, .sc (.slice none 0 0) => genOp P o e
    | some (.pointer t), some .unsafePointer, .ptr b p => match A.heap.get b, sizeT P t with
      | some (.row n _ _ _ _ _), some (_ + 1) => match Nat.ble (p + 1) n with
        | true => some (.ptr b p)
        | false => none
      | _, _ => none
    | some .unsafePointer, some (.pointer u), .ptr b p => match A.heap.get b, sizeT P u with
      | some (.row n _ _ _ elem _), some (_ + 1) => match liesAt P P.depth elem (n / P.cellsOf elem) p u 1 with
        | true => some (.ptr b p)
        | false => none
      | _, _ => none
    | _, _, _ => none
  | .call { callee := .builtin .len, args, argTypes } => match argTypes[0]?, args[0]? with
    | some t, some x => match P.underlying t, e x with
      | some (.map _ _), .map b => match A.heap.get b with
        | some (.map es _) => some (.sc (.int .i64 es.length))
        | _ => none
      | _, _ => none
    | _, _ => none
  | .call { callee := .builtin .cap, args, argTypes } => match argTypes[0]?, args[0]? with
    | some t, some x => match P.underlying t, e x with
      | some (.slice _), .slc b 0 _ (.op esz) => match A.heap.get b with
        | some (.row known _ _ true _ _) => some (.atl (known / esz))
        | _ => none
      | _, _ => pureOp P o e
    | _, _ => none
  | .slice t x lo hi none => match P.underlying t, e x, natOr e 0 lo, hi with
    | some (.slice elem), .slc b p len (.op esz), some l, some y => match natOf (e y) with
      | some h => match Nat.ble h len with
        | true => pureOp P o e
        | false => match A.heap.get b, sizeT P elem with
          | some (.row known _ _ true _ _), some size => match Nat.ble (l + 1) h && Nat.beq size esz && Nat.ble (p + h * size) known with
            | true => some (.slc b (p + l * size) (h - l) (.op esz))
            | false => none
          | _, _ => none
      | none => none
    | _, _, _, _ => pureOp P o e
  | .slice _ _ _ _ (some _) => pureOp P o e
  | .lookup t x k commaOk => match P.underlying t, mapOf A (e x), toVal (e k) with
    | some (.map kt et), some es, some kv => match pureRun P (Instr.checkKey (nilL es) 10000 kt kv), findKeyA P kt kv es with
      | some (), some (some (_, va)) => some (foundA va true commaOk)
      | some (), some none => match pureRun P (zeroValue et) with
        | some z => match ofVal z with
          | some zv => some (foundA zv false commaOk)
          | none => none
        | none => none
      | _, _ => none
    | _, _, _ => none
  | _ => none

def zerosOf (P : Program) (t : TypeId) : Option (List AV) :=
  match (P.info? t).bind (·.zero) with
  | some z => match ofVal z with
    | some v => some v.cells
    | none => none
  | none => none

def fillT (size n : Nat) : Tree AV → List (Nat × AV) → Option (Tree AV)
  | t, [] => some t
  | t, (i, v) :: rest => match Nat.beq v.cells.length size, Nat.ble (i * size + size) n with
    | true, true => match putAll t (i * size) v.cells with
      | some t' => fillT size n t' rest
      | none => none
    | _, _ => none

/-- Operations that make one block and do nothing else: the block, and the value, at whatever number. -/
def allocOp (P : Program) (o : Oper) (e : Operand → AV) : Option (Blk × (Nat → AV)) :=
  match o.op with
  | .alloc t => match zerosOf P t with
    | some zs => match Nat.ble 1 zs.length with
      | true => some (.row zs.length .leaf zs false t 0, fun b => .ptr b 0)
      | false => none
    | none => none
  | .box t x => match putAll .leaf 0 (e x).cells, Nat.ble 1 (e x).cells.length with
    | some tree, true => some (.row (e x).cells.length tree [] false t 0, fun b => .ptr b 0)
    | _, _ => none
  | .buildSlice t len parts => match P.underlying t with
    | some (.slice elem) => match sizeT P elem, zerosOf P elem with
      | some size, some zs => match Nat.ble 1 size, Nat.beq zs.length size, Nat.ble (len * size) 10000 with
        | true, true, true => match fillT size (len * size) .leaf (parts.toList.map fun p => (p.1, e p.2)) with
          | some tree => some (.row (len * size) tree zs false elem 0, fun b => .slc b 0 len (.ex len))
          | none => none
        | _, _, _ => none
      | _, _ => none
    | _ => none
  | .makeSlice t l c => match P.underlying t, natOf (e l), natOf (e c) with
    | some (.slice elem), some l, some c => match sizeT P elem, bytesT P elem, zerosOf P elem with
      | some size, some bytes, some zs => match Nat.ble 1 size, Nat.beq zs.length size, Nat.ble l c, Nat.ble (c * bytes) 140737488355328, Nat.ble c 140737488355328 with
        | true, true, true, true, true => some (.row (c * size) .leaf zs false elem 0, fun b => .slc b 0 l (.ex c))
        | _, _, _, _, _ => none
      | _, _, _ => none
    | _, _, _ => none
  | .makeMap t r => match r with
    | none => some (.map [] 0, fun b => .map b)
    | some x => match P.underlying t, natOf (e x) with
      | some (.map _ _), some _ => some (.map [] 0, fun b => .map b)
      | _, _ => none
  | .convert src dst x => match P.underlying src, P.underlying dst, e x with
    | some .string, some (.slice el), .sc (.string s) => match P.underlying el, sizeT P el with
      | some (.int .u8), some 1 => some (.row s.data.toList.length (Tree.ofList (s.data.toList.map fun b => AV.sc (.int .u8 b.toNat)) 0 .leaf) [] true el 0,
          fun b => .slc b 0 s.data.toList.length (.op 1))
      | _, _ => none
    | _, _, _ => none
  | .range t x => match P.underlying t, e x with
    | some .string, .sc (.string s) => some (.siter s 0, fun b => .ptr b 0)
    | some (.map _ _), .sc (.map none) => some (.iter none 0 [] 0, fun b => .ptr b 0)
    | _, _ => none
  | _ => none

/-- The elements that are appended, as cells. -/
def newCells (A : AW) (size : Nat) (zero : List AV) (zeros : Bool) (x : AV) : Option (Nat × List AV) :=
  match zeros with
  | true => match natOf x with
    | some n => match Nat.ble n 100000 with
      | true => some (n, rep zero n)
      | false => none
    | none => none
  | false => match x with
    | .slc b o len _ => match A.loads b o (len * size) with
      | some vs => some (len, vs)
      | none => none
    | .emp _ => some (0, [])
    | .sc (.slice none 0 0) => some (0, [])
    | .sc (.string s) => match Nat.beq size 1 with
      | true => some (s.data.toList.length, s.data.toList.map fun b => AV.sc (.int .u8 b.toNat))
      | false => none
    | _ => none
 where
  rep (zero : List AV) : Nat → List AV
    | 0 => []
    | n + 1 => zero ++ rep zero n

def appendS (elem size bytes : Nat) (n : Nat) (new : List AV) (s : AV) (A : AW) : Option (AV × AW) :=
  match s with
  | .sc (.slice none 0 0) => match n with
    | 0 => some (s, A)
    | n + 1 => match putAll .leaf 0 new with
      | some tree => some (.slc A.next 0 (n + 1) (.op size), A.push (.row ((n + 1) * size) tree [] true elem 0))
      | none => none
  | .emp _ => match n with
    | 0 => some (s, A)
    | _ + 1 => none
  | .slc b o len (.ex c) =>
    match Nat.ble (len + n) c with
    | true => match A.stores b (o + len * size) new with
      | some A' => some (.slc b o (len + n) (.ex c), A')
      | none => none
    | false => match A.loads b o (len * size), Nat.ble ((len + n) * bytes) 140737488355328, Nat.ble (len + n) 140737488355328 with
      | some old, true, true => match putAll .leaf 0 (old ++ new) with
        | some tree => some (.slc A.next 0 (len + n) (.op size), A.push (.row ((len + n) * size) tree [] true elem 0))
        | none => none
      | _, _, _ => none
  | .slc b o len (.op esz) =>
    match n with
    | 0 => some (s, A)
    | n + 1 =>
    match A.heap.get b with
    | some (.row known tree z opn el fz) =>
      match opn && Nat.beq esz size, Nat.ble (o + (len + (n + 1)) * size) known with
      | true, true => match A.stores b (o + len * size) new with
        | some A' => some (.slc b o (len + (n + 1)) (.op esz), A')
        | none => none
      | true, false => match A.loads b o (len * size), Nat.beq el elem && Nat.ble ((len + (n + 1)) * bytes) 140737488355328 && Nat.ble (len + (n + 1)) 140737488355328 && Nat.beq o 0 && Nat.beq known (len * size) && Nat.ble fz (len * size) with
        | some _, true =>
          -- (whether in place or in a new row: the elder block is not known any more)
          match putAll tree (len * size) new with
          | some tree' => some (.slc A.next 0 (len + (n + 1)) (.op size), { next := A.next + 1, heap := (A.heap.del b).set A.next (.row ((len + (n + 1)) * size) tree' z true elem fz) })
          | none => none
        | _, _ => none
      | _, _ => none
    | _ => none
  | _ => none

def appendA (P : Program) (elem : TypeId) (zeros : Bool) (s x : AV) (A : AW) : Option (AV × AW) :=
  match sizeT P elem, bytesT P elem, zerosOf P elem with
  | some size, some bytes, some zs =>
    match newCells A size zs zeros x with
    | some (n, new) =>
      match Nat.ble 1 size && Nat.beq zs.length size && Nat.ble (n * bytes) 140737488355328 && Nat.ble n 140737488355328 with
      | true => appendS elem size bytes n new s A
      | false => none
    | none => none
  | _, _, _ => none

end Go.Ab
