/- Operations that reckon or read, over data that is not known. By an AI agent. -/
import Derived.Test.YtmilkhdicmkmbaaDoorR1
set_option linter.unusedVariables false
set_option linter.unusedSimpArgs false
namespace Go.Ab
open Go Go.RowKit

abbrev N (k : IntKind) (n : Int) : AV := .sc (.int k n)
abbrev Bo (b : Bool) : AV := .sc (.bool b)
abbrev St (l : List UInt8) : AV := .sc (.string ⟨⟨l⟩⟩)

/-! ### reckoning on integers -/
def intBin (op : BinOp) (k : IntKind) (a b : Int) : Option Value :=
  match op with
  | .add => some (.int k (k.wrap (a + b)))
  | .sub => some (.int k (k.wrap (a - b)))
  | .mul => some (.int k (k.wrap (a * b)))
  | .quo => if b = 0 then none else some (.int k (k.wrap (a.tdiv b)))
  | .rem => if b = 0 then none else some (.int k (a.tmod b))
  | .and => some (.int k (k.wrap (BitVec.ofInt k.bits a &&& BitVec.ofInt k.bits b).toNat))
  | .or => some (.int k (k.wrap (BitVec.ofInt k.bits a ||| BitVec.ofInt k.bits b).toNat))
  | .xor => some (.int k (k.wrap (BitVec.ofInt k.bits a ^^^ BitVec.ofInt k.bits b).toNat))
  | .andNot => some (.int k (k.wrap (BitVec.ofInt k.bits a &&& ~~~BitVec.ofInt k.bits b).toNat))
  | .eql => some (.bool (a == b))
  | .neq => some (.bool (a != b))
  | .lss => some (.bool (decide (a < b)))
  | .leq => some (.bool (decide (a ≤ b)))
  | .gtr => some (.bool (decide (a > b)))
  | .geq => some (.bool (decide (a ≥ b)))
  | _ => none

def intSh (op : BinOp) (k : IntKind) (a b : Int) : Option Value :=
  if b < 0 then none else
  match op with
  | .shl => some (.int k (k.wrap (a * 2 ^ (min b.toNat k.bits))))
  | .shr => some (.int k (a.fdiv (2 ^ (min b.toNat k.bits))))
  | _ => none

def intW (op : BinOp) (x y : AV) (K : AV → Prop) : Prop := ∃ k a b v, x = N k a ∧ y = N k b ∧ intBin op k a b = some v ∧ K (.sc v)
def shW (op : BinOp) (x y : AV) (K : AV → Prop) : Prop := ∃ k a l b v, x = N k a ∧ y = N l b ∧ intSh op k a b = some v ∧ K (.sc v)
def strW (op : BinOp) (x y : AV) (K : AV → Prop) : Prop := ∃ a b v, x = St a ∧ y = St b ∧ strOp op a b = some v ∧ K v
def boolEqW (neg : Bool) (x y : AV) (K : AV → Prop) : Prop := ∃ a b, x = Bo a ∧ y = Bo b ∧ K (Bo ((a == b) != neg))

/-- Pointers, slices, maps, functions against one another or nil. -/
def refEq : AV → AV → Option Bool
  | .ptr b o, .ptr c p => if b = c then some (decide (o = p)) else none
  | .ptr _ _, .sc (.pointer none) => some false
  | .sc (.pointer none), .ptr _ _ => some false
  | .sc (.pointer none), .sc (.pointer none) => some true
  | .slc _ _ _ _, .sc (.slice none 0 0) => some false
  | .emp _, .sc (.slice none 0 0) => some false
  | .sc (.slice none 0 0), .sc (.slice none 0 0) => some true
  | .map _, .sc (.map none) => some false
  | .sc (.map none), .sc (.map none) => some true
  | .fn _ _ _, .sc .nilFunc => some false
  | .sc .nilFunc, .sc .nilFunc => some true
  | .ifc _ _, .sc .nilIface => some false
  | _, _ => none

def refKind (P : Program) (t : TypeId) (x y : AV) : Bool :=
  match P.underlying t, x, y with
  | some (.pointer el), .ptr _ _, .ptr _ _ => match sizeT P el with | some (_ + 1) => true | _ => false
  | some (.pointer _), .ptr _ _, _ | some (.pointer _), _, .ptr _ _ => true
  | some (.pointer _), .sc (.pointer none), _ => true
  | some (.slice _), .slc _ _ _ _, _ | some (.slice _), .emp _, _ | some (.slice _), .sc (.slice none 0 0), _ => true
  | some (.map _ _), .map _, _ | some (.map _ _), .sc (.map none), _ => true
  | some (.func _ _ _), .fn _ _ _, _ | some (.func _ _ _), .sc .nilFunc, _ => true
  | some (.interface _), .ifc _ _, _ => true
  | _, _, _ => false

/-- The kind of a type whose values are compared so: 1 pointers to something, 2 slices, 3 maps, 4 functions, 5 interfaces. -/
def refTag (P : Program) (t : TypeId) : Nat :=
  match P.underlying t with
  | some (.pointer el) => match sizeT P el with | some (_ + 1) => 1 | _ => 0
  | some (.slice _) => 2
  | some (.map _ _) => 3
  | some (.func _ _ _) => 4
  | some (.interface _) => 5
  | _ => 0

def tagOf : AV → Nat
  | .ptr _ _ | .sc (.pointer none) => 1
  | .slc _ _ _ _ | .emp _ | .sc (.slice none 0 0) => 2
  | .map _ | .sc (.map none) => 3
  | .fn _ _ _ | .sc .nilFunc => 4
  | .ifc _ _ => 5
  | _ => 6

def refEqW (neg : Bool) (tag : Nat) (x y : AV) (K : AV → Prop) : Prop := tagOf x = tag ∧ ∃ r, refEq x y = some r ∧ K (Bo (r != neg))

/-! ### structs of plain cells, compared -/
/-- The kinds of a flat type's cells: 1 integers, 2 strings, 3 bools. -/
def flatFs (P : Program) (g : TypeId → Option (List Nat)) : List Field → Nat → Option (List Nat)
  | [], _ => some []
  | f :: fs, off => match f.name == "_", Nat.beq f.offset off, g f.type, sizeT P f.type with
    | false, true, some ks, some n => match Nat.beq n ks.length, flatFs P g fs (off + n) with
      | true, some r => some (ks ++ r)
      | _, _ => none
    | _, _, _, _ => none
def flatD (P : Program) : Nat → TypeId → Option (List Nat)
  | 0, _ => none
  | d + 1, t => match P.underlying t with
    | some (.int _) => some [1]
    | some .string => some [2]
    | some .bool => some [3]
    | some (.struct fs) => match P.stoodInHeld t with
      | true => none
      | false => flatFs P (flatD P d) fs.toList 0
    | _ => none
def flatT (P : Program) (t : TypeId) : Option (List Nat) :=
  match P.eqGuardType P.depth t with
  | true => none
  | false => flatD P 10 t

def cellEq : Nat → AV → AV → Option Bool
  | 1, .sc (.int k a), .sc (.int l b) => if k = l then some (a == b) else none
  | 2, .sc (.string a), .sc (.string b) => some (a.data.toList == b.data.toList)
  | 3, .sc (.bool a), .sc (.bool b) => some (a == b)
  | _, _, _ => none
def flatEq : List Nat → List AV → List AV → Option Bool
  | [], [], [] => some true
  | k :: ks, x :: xs, y :: ys => match cellEq k x y with
    | some true => flatEq ks xs ys
    | some false => some false
    | none => none
  | _, _, _ => none
def aggEqW (neg : Bool) (ks : List Nat) (x y : AV) (K : AV → Prop) : Prop := ∃ cs ds r, x = .agg cs ∧ y = .agg ds ∧ cs.length = ks.length ∧ ds.length = ks.length ∧ flatEq ks cs ds = some r ∧ K (Bo (r != neg))

/-! ### places and parts -/
def pickW (c a b : AV) (K : AV → Prop) : Prop := ∃ t, c = Bo t ∧ K (if t then a else b)
def ptrW (x : AV) (K : AV → Prop) : Prop := ∃ b o, x = .ptr b o ∧ K (.ptr b o)
def fldW (x : AV) (n : Nat) (K : AV → Prop) : Prop := ∃ b o, x = .ptr b o ∧ K (.ptr b (o + n))
def idxS (x i : AV) (size : Nat) (K : AV → Prop) : Prop := ∃ b p len cap k n, x = .slc b p len cap ∧ i = N k n ∧ 0 ≤ n ∧ n < len ∧ K (.ptr b (p + n.toNat * size))
def idxA (x i : AV) (len size : Nat) (K : AV → Prop) : Prop := ∃ b p k n, x = .ptr b p ∧ i = N k n ∧ 0 ≤ n ∧ n < len ∧ K (.ptr b (p + n.toNat * size))
def part1 (x : AV) (off : Nat) (K : AV → Prop) : Prop := ∃ cs v, x = .agg cs ∧ cs[off]? = some v ∧ K v
def partN (x : AV) (off n : Nat) (K : AV → Prop) : Prop := ∃ cs, x = .agg cs ∧ off + n ≤ cs.length ∧ K (.agg ((cs.drop off).take n))
def idxP1 (x i : AV) (len : Nat) (K : AV → Prop) : Prop := ∃ cs k n v, x = .agg cs ∧ i = N k n ∧ 0 ≤ n ∧ n < len ∧ cs[n.toNat]? = some v ∧ K v
def idxPN (x i : AV) (len size : Nat) (K : AV → Prop) : Prop := ∃ cs k n, x = .agg cs ∧ i = N k n ∧ 0 ≤ n ∧ n < len ∧ n.toNat * size + size ≤ cs.length ∧ K (.agg ((cs.drop (n.toNat * size)).take size))
def idxB (x i : AV) (K : AV → Prop) : Prop := ∃ s k n b, x = St s ∧ i = N k n ∧ 0 ≤ n ∧ s[n.toNat]? = some b ∧ K (N .u8 b.toNat)
def extW (x : AV) (i : Nat) (K : AV → Prop) : Prop := ∃ vs v, x = .tup vs ∧ vs[i]? = some v ∧ K v

/-- A bound that may be left out. -/
def bnd (d : Nat) : Option AV → Option Nat
  | none => some d
  | some (.sc (.int _ n)) => if 0 ≤ n then some n.toNat else none
  | _ => none

def subS (size : Nat) (x : AV) (lo hi mx : Option AV) : Option AV :=
  match x with
  | .slc b o len cap =>
    match bnd 0 lo, bnd len hi with
    | some l, some h =>
      match mx with
      | none => match cap with
        | .ex c => if l ≤ h ∧ h ≤ c then (if c = l then some (.slc b o 0 (.ex 0)) else some (.slc b (o + l * size) (h - l) (.ex (c - l)))) else none
        | .op esz => if l ≤ h ∧ h ≤ len ∧ size = esz then (if len ≤ l then some (.emp b) else some (.slc b (o + l * size) (h - l) (.op esz))) else none
      | some y => match hi, bnd 0 (some y) with
        | some _, some m => if l ≤ h ∧ h ≤ m ∧ m ≤ (match cap with | .ex c => c | .op _ => len) then (if m = l then some (.slc b o 0 (.ex 0)) else some (.slc b (o + l * size) (h - l) (.ex (m - l)))) else none
        | _, _ => none
    | _, _ => none
  | .emp b => match bnd 0 lo, bnd 0 hi, mx with
    | some 0, some 0, none => some (.emp b)
    | _, _, _ => none
  | .sc (.slice none 0 0) => match bnd 0 lo, bnd 0 hi, mx with
    | some 0, some 0, none => some x
    | some 0, some 0, some y => match hi, bnd 0 (some y) with
      | some _, some 0 => some x
      | _, _ => none
    | _, _, _ => none
  | _ => none

def subA (n size : Nat) (x : AV) (lo hi : Option AV) : Option AV :=
  match x with
  | .ptr b o => match bnd 0 lo, bnd n hi with
    | some l, some h => if l ≤ h ∧ h ≤ n then (if n = l then some (.slc b o 0 (.ex 0)) else some (.slc b (o + l * size) (h - l) (.ex (n - l)))) else none
    | _, _ => none
  | _ => none

def subStr (x : AV) (lo hi : Option AV) : Option AV :=
  match x with
  | .sc (.string s) => match bnd 0 lo, bnd s.data.toList.length hi with
    | some l, some h => if l ≤ h ∧ h ≤ s.data.toList.length then some (St ((s.data.toList.drop l).take (h - l))) else none
    | _, _ => none
  | _ => none

def getW (r : Option AV) (K : AV → Prop) : Prop := ∃ v, r = some v ∧ K v

def fillL : List AV → List (Nat × Nat × AV) → Option (List AV)
  | cs, [] => some cs
  | cs, (off, size, v) :: rest => if known v = true ∧ v.cells.length = size ∧ off + size ≤ cs.length then fillL (cs.take off ++ v.cells ++ cs.drop (off + size)) rest else none

def buildW (cs : List AV) (parts : List (Nat × Nat × AV)) (K : AV → Prop) : Prop := ∃ cs', fillL cs parts = some cs' ∧ K (.agg cs')

def cvtW (k : IntKind) (x : AV) (K : AV → Prop) : Prop := ∃ l n, x = N l n ∧ K (N k (k.wrap n))
def isStr (x : AV) (K : AV → Prop) : Prop := ∃ s, x = St s ∧ K (St s)
/-- A pointer without its type, and back. -/
def uptrW (M : RM) (x : AV) (K : AV → Prop) : Prop := ∃ b p l opn el fz, x = .ptr b p ∧ M.heap b = some (.row l opn el fz) ∧ p + 1 ≤ l.length ∧ K (.ptr b p)
def ptruW (el cells : Nat) (M : RM) (x : AV) (K : AV → Prop) : Prop := ∃ b l opn fz, x = .ptr b 0 ∧ M.heap b = some (.row l opn el fz) ∧ l.length = cells ∧ K (.ptr b 0)
/-- Where a slice's row begins. -/
def sdataW (x : AV) (K : AV → Prop) : Prop :=
  match x with
  | .sc (.slice none 0 0) => K (.sc (.pointer none))
  | .slc b p _ (.ex (_ + 1)) => K (.ptr b p)
  | .slc b p (_ + 1) (.op _) => K (.ptr b p)
  | _ => False
def lenSl : AV → Option Nat
  | .slc _ _ n _ => some n
  | .emp _ => some 0
  | .sc (.slice none 0 0) => some 0
  | _ => none
def lenW (x : AV) (K : AV → Prop) : Prop := ∃ n : Nat, lenSl x = some n ∧ K (N .i64 n)
def lenStr (x : AV) (K : AV → Prop) : Prop := ∃ s, x = St s ∧ K (N .i64 s.length)
def capW (x : AV) (K : AV → Prop) : Prop := ∃ n, (match x with | .slc _ _ _ (.ex c) => some c | .sc (.slice none 0 0) => some 0 | _ => none) = some n ∧ K (N .i64 (n : Nat))
def minW (mx : Bool) (x y : AV) (K : AV → Prop) : Prop := ∃ k a b, x = N k a ∧ y = N k b ∧ K (N k (if mx then (if b > a then b else a) else (if b < a then b else a)))
def notW (x : AV) (K : AV → Prop) : Prop := ∃ b, x = Bo b ∧ K (Bo (!b))
def negW (x : AV) (K : AV → Prop) : Prop := ∃ k n, x = N k n ∧ K (N k (k.wrap (0 - n)))

/-! ### reading -/
def load1 (M : RM) (x : AV) (K : AV → Prop) : Prop := ∃ b o v, x = .ptr b o ∧ M.loads b o 1 = some [v] ∧ K v
def loadN (M : RM) (x : AV) (n : Nat) (K : AV → Prop) : Prop := ∃ b o vs, x = .ptr b o ∧ M.loads b o n = some vs ∧ K (.agg vs)
def toStr (M : RM) (x : AV) : Option (List UInt8) :=
  match x with
  | .slc b p len _ => match M.loads b p len with
    | some vs => mapO byteOf vs
    | none => none
  | .emp _ => some []
  | .sc (.slice none 0 0) => some []
  | _ => none
def strOfW (M : RM) (x : AV) (K : AV → Prop) : Prop := ∃ s, toStr M x = some s ∧ K (St s)
def mapLenW (M : RM) (x : AV) (K : AV → Prop) : Prop := ∃ b es c, x = .map b ∧ M.heap b = some (.map es c) ∧ K (N .i64 es.length)

def rawW (P : Program) (o : Oper) (e : Operand → AV) (K : AV → Prop) : Prop := ∃ v, pureOp P o e = some v ∧ K v

/-- What operations that reckon or read give. -/
def niceV (P : Program) (o : Oper) (e : Operand → AV) (M : RM) (K : AV → Prop) : Prop :=
  match o.op with
  | .move x | .assign x => K (e x)
  | .pick c a b => pickW (e c) (e a) (e b) K
  | .nilCheck x => ptrW (e x) K
  | .fieldAddr s x f => match P.underlying s with
    | some (.struct fields) => match fields[f]? with
      | some fd => match sizeT P fd.type with
        | some (_ + 1) => fldW (e x) fd.offset K
        | _ => False
      | none => False
    | _ => False
  | .indexAddr t x ix => match P.underlying t with
    | some (.slice elem) => match sizeT P elem with
      | some size => idxS (e x) (e ix) size K
      | none => False
    | some (.array len elem) => match sizeT P elem with
      | some size => idxA (e x) (e ix) len size K
      | none => False
    | _ => False
  | .field t x f => match P.underlying t with
    | some (.struct fields) => match fields[f]? with
      | some fd => match isAggT P fd.type with
        | some false => part1 (e x) fd.offset K
        | some true => match sizeT P fd.type with
          | some n => partN (e x) fd.offset n K
          | none => False
        | none => False
      | none => False
    | _ => False
  | .index t x ix => match P.underlying t with
    | some .string => idxB (e x) (e ix) K
    | some (.array len elem) => match isAggT P elem with
      | some false => match sizeT P elem with
        | some 1 => idxP1 (e x) (e ix) len K
        | _ => False
      | some true => match sizeT P elem with
        | some n => idxPN (e x) (e ix) len n K
        | none => False
      | none => False
    | _ => False
  | .slice t x lo hi mx => match P.underlying t with
    | some .string => match mx with
      | none => getW (subStr (e x) (lo.map e) (hi.map e)) K
      | some _ => False
    | some (.slice elem) => match sizeT P elem with
      | some size => getW (subS size (e x) (lo.map e) (hi.map e) (mx.map e)) K
      | none => False
    | some (.array n elem) => match sizeT P elem, mx with
      | some size, none => getW (subA n size (e x) (lo.map e) (hi.map e)) K
      | _, _ => False
    | _ => False
  | .extract x i => extW (e x) i K
  | .makeInterface t x => match P.underlying t with
    | some (.interface _) => False
    | some _ => K (.ifc t (e x))
    | none => False
  | .makeFunc f first captured => match f with
    | .yield _ => False
    | _ => K (.fn f (first.toList.map e) (captured.toList.map e))
  | .build t parts => match P.info? t, P.underlying t with
    | some it, some (.array _ el) => match it.zero, P.info? el with
      | some z, some ie => match ofVal z with
        | some (.agg cs) => buildW cs (parts.toList.map fun p => (p.1 * ie.size, ie.size, e p.2)) K
        | _ => False
      | _, _ => False
    | some it, some (.struct fields) => match it.zero, fields.toList.mapM (fun f => (P.info? f.type).map fun i => (f.offset, i.size)) with
      | some z, some places => match ofVal z, mapO (fun (p : Nat × Operand) => match nth places p.1 with | some pl => some (pl.1, pl.2, e p.2) | none => none) parts.toList with
        | some (.agg cs), some ps => buildW cs ps K
        | _, _ => False
      | _, _ => False
    | _, _ => False
  | .binOp op t x y _ => match P.underlying t with
    | some (.int _) => match op with
      | .shl | .shr => shW op (e x) (e y) K
      | _ => intW op (e x) (e y) K
    | some .string => strW op (e x) (e y) K
    | some .bool => match op with
      | .eql => boolEqW false (e x) (e y) K
      | .neq => boolEqW true (e x) (e y) K
      | _ => False
    | some (.struct _) => match flatT P t, op with
      | some ks, .eql => aggEqW false ks (e x) (e y) K
      | some ks, .neq => aggEqW true ks (e x) (e y) K
      | _, _ => False
    | some (.array _ _) => rawW P o e K
    | _ => match op, refTag P t with
      | _, 0 => rawW P o e K
      | .eql, tag => refEqW false tag (e x) (e y) K
      | .neq, tag => refEqW true tag (e x) (e y) K
      | _, _ => False
  | .convert src dst x => match P.underlying src, P.underlying dst with
    | some (.int _), some (.int k) => cvtW k (e x) K
    | some .string, some .string => isStr (e x) K
    | some (.slice el), some .string => match P.underlying el with
      | some (.int .u8) => strOfW M (e x) K
      | _ => False
    | some (.pointer t), some .unsafePointer => match sizeT P t with
      | some (_ + 1) => uptrW M (e x) K
      | _ => False
    | some .unsafePointer, some (.pointer u) => match sizeT P u, Nat.ble 1 (P.cellsOf u), liesAt P P.depth u 1 0 u 1 with
      | some (_ + 1), true, true => ptruW u (P.cellsOf u) M (e x) K
      | _, _, _ => False
    | _, _ => rawW P o e K
  | .call { callee := .builtin .len, args, argTypes } => match argTypes[0]?, args[0]? with
    | some t, some x => match P.underlying t with
      | some (.slice _) => lenW (e x) K
      | some .string => lenStr (e x) K
      | some (.map _ _) => mapLenW M (e x) K
      | _ => False
    | _, _ => False
  | .call { callee := .builtin .cap, args, argTypes } => match argTypes[0]?, args[0]? with
    | some t, some x => match P.underlying t with
      | some (.slice _) => capW (e x) K
      | _ => False
    | _, _ => False
  | .call { callee := .builtin .unsafeSliceData, args, .. } => match args with
    | ⟨[x]⟩ => sdataW (e x) K
    | _ => False
  | .call { callee := .builtin .min, args, .. } => match args with
    | ⟨[x, y]⟩ => minW false (e x) (e y) K
    | _ => False
  | .call { callee := .builtin .max, args, .. } => match args with
    | ⟨[x, y]⟩ => minW true (e x) (e y) K
    | _ => False
  | .unOp op _ x => match op with
    | .not => notW (e x) K
    | .neg => negW (e x) K
    | _ => rawW P o e K
  | .load t x => match isAggT P t with
    | some false => load1 M (e x) K
    | some true => match sizeT P t with
      | some n => loadN M (e x) n K
      | none => False
    | none => False
  | _ => False

/-! ### it is sound -/
section
variable {P : Program} {ρ : Ren} {o : Oper} {e : Operand → AV} {c : Operand → Value} {M : RM} {K : AV → Prop}

/-- M' knows no less. -/
def RM.Sub (M M' : RM) : Prop := M'.base = M.base ∧ ∀ b x, M.heap b = some x → M'.heap b = some x

theorem RM.Sub.refl (M : RM) : M.Sub M := ⟨rfl, fun _ _ h => h⟩
theorem RM.Sub.trans {M M1 M2 : RM} (h : M.Sub M1) (k : M1.Sub M2) : M.Sub M2 := ⟨k.1.trans h.1, fun b x hx => k.2 b x (h.2 b x hx)⟩
theorem RM.Sub.loads {M M' : RM} (h : M.Sub M') {b o k : Nat} {xs : List AV} (hl : M.loads b o k = some xs) : M'.loads b o k = some xs := by
  unfold RM.loads RM.cells at hl ⊢
  cases hh : M.heap b with
  | none => simp [hh] at hl
  | some x =>
    rw [hh] at hl
    have hlo : M'.lo = M.lo := congrArg Base.n h.1
    rw [h.2 b x hh, hlo]
    exact hl

/-- The operation gives a value like 'v', in whatever world that is like M. -/
def GivesR (P : Program) (o : Oper) (e : Operand → AV) (M : RM) (v : AV) : Prop :=
  ∀ ρ w c M', M.Sub M' → MRel P ρ M' w → (∀ x ∈ o.op.operands, VRel ρ (e x) (c x)) → GivesIn P ρ w o c v

theorem givesA_pure {v : AV} (h : pureOp P o e = some v) : (∀ M', GivesR P o e M' v) ∨ (kindOf P o = .read ∧ GivesR P o e M v) := .inl fun _ _ w _ _ _ _ he => (pureOp_sound he h).at

theorem pureRun_bind {α β : Type} : ∀ (s : Sem α) (f : α → Sem β) (a : α), pureRun P s = some a → pureRun P (s >>= f) = pureRun P (f a)
  | .pure b, f, a, h => by simp [pureRun] at h; subst h; rfl
  | .program k, f, a, h => by
    simp only [pureRun] at h
    exact pureRun_bind (k P) f a h
  | .mark m k, f, a, h => by
    simp only [pureRun] at h
    exact pureRun_bind k f a h
  | .load .., _, a, h | .store .., _, a, h | .new .., _, a, h | .shape .., _, a, h | .freeze .., _, a, h | .frozen .., _, a, h | .getObj .., _, a, h
  | .setObj .., _, a, h | .choose .., _, a, h | .sys .., _, a, h | .halt .., _, a, h => by simp [pureRun] at h

theorem genOp_of {u : Value} {v : AV} {l : List Value} (hl : mapO (fun x => toVal (e x)) o.op.operands.toList = some l)
    (h : pureRun P (execOp (fun x => (toVal (e x)).getD default) o) = some (.value u)) (hv : ofVal u = some v) : genOp P o e = some v := by
  unfold genOp; rw [hl]; simp only [h, hv]

theorem run_binOp {op : BinOp} {t yt : TypeId} {x y : Operand} {a b u : Value} (hop : o.op = .binOp op t x y yt) (hx : toVal (e x) = some a) (hy : toVal (e y) = some b)
    (hg : pureRun P (eqGuard op t x y a b) = some ()) (hb : pureRun P (binOp op t a b) = some u) {v : AV} (hv : ofVal u = some v) : genOp P o e = some v := by
  refine genOp_of (l := [a, b]) (by rw [hop]; simp [Op.operands, mapO, hx, hy]) (u := u) ?_ hv
  simp only [execOp, hop, hx, hy, Option.getD_some]
  have h1 : pureRun P (do eqGuard op t x y a b; binOp op t a b) = some u := by rw [pureRun_bind _ _ () hg]; exact hb
  exact (pureRun_bind _ _ _ h1)

theorem eqGuard_int {op : BinOp} {t : TypeId} {x y : Operand} {k l : IntKind} {a b : Int} : pureRun P (eqGuard op t x y (.int k a) (.int l b)) = some () := by
  cases op <;> rfl
theorem eqGuard_bool {op : BinOp} {t : TypeId} {x y : Operand} {a b : Bool} : pureRun P (eqGuard op t x y (.bool a) (.bool b)) = some () := by
  cases op <;> rfl

theorem int_gen {op : BinOp} {t yt : TypeId} {x y : Operand} {k : IntKind} {a b : Int} {u : Value} (hop : o.op = .binOp op t x y yt) (hx : e x = N k a) (hy : e y = N k b) (h : intBin op k a b = some u) :
    pureOp P o e = some (.sc u) := by
  have hb : pureRun P (binOp op t (.int k a) (.int k b)) = some u := by
    cases op <;> simp only [intBin] at h <;> first | (cases h; done) | skip
    case quo => split at h <;> first | (cases h; done) | skip
                rename_i h0; cases h; simp [binOp, Op.intDiv, h0]; rfl
    case rem => split at h <;> first | (cases h; done) | skip
                rename_i h0; cases h; simp [binOp, Op.intDiv, h0]; rfl
    all_goals (cases h; simp [binOp, Op.intArith, Op.intBits, Op.intCmp]; rfl)
  have hv : ofVal u = some (.sc u) := by
    cases op <;> simp only [intBin] at h <;> first | (cases h; done) | (cases h; rfl) | (split at h <;> first | (cases h; done) | (cases h; rfl))
  unfold pureOp
  simp only [hop, hx, hy]
  exact run_binOp hop (a := .int k a) (b := .int k b) (by rw [hx]; rfl) (by rw [hy]; rfl) eqGuard_int hb hv

theorem sh_gen {op : BinOp} {t yt : TypeId} {x y : Operand} {k l : IntKind} {a b : Int} {u : Value} (hop : o.op = .binOp op t x y yt) (hx : e x = N k a) (hy : e y = N l b) (h : intSh op k a b = some u) :
    pureOp P o e = some (.sc u) := by
  unfold intSh at h
  split at h <;> first | (cases h; done) | skip
  rename_i h0
  have hb : pureRun P (binOp op t (.int k a) (.int l b)) = some u := by
    split at h <;> first | (cases h; done) | skip
    all_goals (cases h; simp [binOp, Op.shift, h0]; rfl)
  have hv : ofVal u = some (.sc u) := by
    split at h <;> first | (cases h; done) | (cases h; rfl)
  unfold pureOp
  simp only [hop, hx, hy]
  exact run_binOp hop (a := .int k a) (b := .int l b) (by rw [hx]; rfl) (by rw [hy]; rfl) eqGuard_int hb hv

theorem pureRun_underlying {t : TypeId} {d : TypeDesc} (h : P.underlying t = some d) : pureRun P (underlying t) = some d := by
  have e : underlying t = .program (fun p => match p.underlying t with | some d => Sem.pure d | none => stuck "no such type") := rfl
  rw [e]
  simp only [pureRun, h]

theorem boolEq_gen {op : BinOp} {t yt : TypeId} {x y : Operand} {a b neg : Bool} (hop : o.op = .binOp op t x y yt) (hx : e x = Bo a) (hy : e y = Bo b) (ht : P.underlying t = some .bool) (h : (op = .eql ∧ neg = false) ∨ (op = .neq ∧ neg = true)) :
    pureOp P o e = some (Bo ((a == b) != neg)) := by
  have h1 : pureRun P (Op.equal t (.bool a) (.bool b)) = some (a == b) := by
    have h0 : pureRun P (underlying t) = some .bool := pureRun_underlying ht
    show pureRun P (Op.equalIn (9999 + 1) t (.bool a) (.bool b)) = _
    rw [Op.equalIn, pureRun_bind _ _ _ h0]
    rfl
  rcases h with ⟨rfl, rfl⟩ | ⟨rfl, rfl⟩
  · have hb : pureRun P (binOp .eql t (.bool a) (.bool b)) = some (.bool (a == b)) := pureRun_bind _ _ _ h1
    have := run_binOp (P := P) (e := e) hop (a := .bool a) (b := .bool b) (by rw [hx]; rfl) (by rw [hy]; rfl) eqGuard_bool hb (v := Bo (a == b)) rfl
    unfold pureOp
    simp only [hop, hx, hy]
    simp only [eqlOf]
    simpa using this
  · have hb : pureRun P (binOp .neq t (.bool a) (.bool b)) = some (.bool (!(a == b))) := pureRun_bind _ _ _ h1
    have := run_binOp (P := P) (e := e) hop (a := .bool a) (b := .bool b) (by rw [hx]; rfl) (by rw [hy]; rfl) eqGuard_bool hb (v := Bo (!(a == b))) rfl
    unfold pureOp
    simp only [hop, hx, hy]
    simp only [eqlOf]
    simpa using this

theorem natOf_N {k : IntKind} {n : Int} (h : 0 ≤ n) : natOf (N k n) = some n.toNat := by
  cases n with
  | ofNat m => rfl
  | negSucc m => omega

theorem ref_gen {op : BinOp} {t yt : TypeId} {x y : Operand} {neg r : Bool} {tag : Nat} (hop : o.op = .binOp op t x y yt) (hop2 : (op = .eql ∧ neg = false) ∨ (op = .neq ∧ neg = true)) (htag : refTag P t = tag) (h0 : tag ≠ 0) (ht : tagOf (e x) = tag)
    (h : refEq (e x) (e y) = some r) : pureOp P o e = some (Bo (r != neg)) := by
  have key : (eqlOf P t (e x) (e y) = some r ∨ (eqlOf P t (e x) (e y) = none ∧ genOp P o e = some (Bo (r != neg)))) → (∀ k a, e x ≠ N k a) → (∀ s, e x ≠ .sc (.string s)) → pureOp P o e = some (Bo (r != neg)) := by
    intro hk hn hs
    unfold pureOp
    simp only [hop]
    split
    · rename_i k _ _ _ he _; exact absurd he (hn _ _)
    · rename_i he _; exact absurd he (hs _)
    · rename_i he _; exact absurd he (hn _ _)
    · rcases hop2 with ⟨rfl, rfl⟩ | ⟨rfl, rfl⟩
      · rcases hk with hk | ⟨hk, hg⟩
        · simp only [hk]; cases r <;> rfl
        · simp only [hk]; exact hg
      · rcases hk with hk | ⟨hk, hg⟩
        · simp only [hk]; cases r <;> rfl
        · simp only [hk]; exact hg
  have gen : ∀ (a b : Value), e x = .sc a → e y = .sc b → toVal (.sc a) = some a → toVal (.sc b) = some b → (∀ op', pureRun P (eqGuard op' t x y a b) = some ()) → pureRun P (Op.equal t a b) = some r →
      (binOp .eql t a b = (do pure (.bool (← Op.equal t a b)))) → (binOp .neq t a b = (do pure (.bool (!(← Op.equal t a b))))) → genOp P o e = some (Bo (r != neg)) := by
    intro a b hx hy ha hb hg heq h1 h2
    rcases hop2 with ⟨rfl, rfl⟩ | ⟨rfl, rfl⟩
    · exact run_binOp (P := P) (e := e) hop (a := a) (b := b) (by rw [hx]; exact ha) (by rw [hy]; exact hb) (hg _) (u := .bool r) (by rw [h1]; exact pureRun_bind _ _ _ heq) (by cases r <;> rfl)
    · exact run_binOp (P := P) (e := e) hop (a := a) (b := b) (by rw [hx]; exact ha) (by rw [hy]; exact hb) (hg _) (u := .bool (!r)) (by rw [h2]; exact pureRun_bind _ _ _ heq) (by cases r <;> rfl)
  have hund : ∀ d, P.underlying t = some d → pureRun P (underlying t) = some d := fun d hd => pureRun_underlying hd
  unfold refTag at htag
  generalize hex : e x = ex at h ht key gen
  generalize hey : e y = ey at h key gen
  unfold refEq at h
  split at h <;> first | (cases h; done) | skip
  all_goals first | (split at h <;> first | (cases h; done) | skip) | skip
  all_goals
    cases h
    simp only [tagOf] at ht
    subst ht
    split at htag <;> first | (cases htag; done) | (split at htag <;> cases htag; done) | skip
  all_goals
    first
      | (rename_i hu
         refine key (.inl ?_) (by intro k a h; cases h) (by intro s h; cases h)
         simp only [eqlOf, hu]
         done)
      | (rename_i hu
         refine key (.inr ⟨rfl, ?_⟩) (by intro k a h; cases h) (by intro s h; cases h)
         refine gen _ _ rfl rfl rfl rfl (fun op' => by cases op' <;> rfl) ?_ rfl rfl
         show pureRun P (Op.equalIn (9999 + 1) t _ _) = _
         rw [Op.equalIn, pureRun_bind _ _ _ (hund _ hu)]
         rfl
         done)
      | skip
  · rename_i heq _ el hu
    split at htag <;> first | (cases htag; done) | skip
    rename_i n hs
    refine key (.inl ?_) (by intro k a h; cases h) (by intro s h; cases h)
    subst heq
    simp only [eqlOf, hu, hs, nat_beq, decide_true]
end
end Go.Ab
