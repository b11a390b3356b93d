/- Plain lemmas on the predicates, for values whose form is known. By an AI agent. -/
import Derived.Test.YtmilkhdicmkmbaaDoorR9
set_option linter.unusedVariables false
set_option linter.unusedSimpArgs false
namespace Go.Ab
open Go Go.RowKit

/-- The cell at a place. -/
def RM.cell (M : RM) (b o : Nat) : Option AV := (M.cells b).bind (·[o]?)

section
variable {M M' : RM} {K : AV → Prop} {KQ : PostV}

theorem loads_cell {b o : Nat} {v : AV} : M.loads b o 1 = some [v] ↔ M.cell b o = some v := by
  unfold RM.loads RM.cell
  cases hc : M.cells b with
  | none => simp
  | some l =>
    simp only [Option.bind_some]
    constructor
    · intro h
      split at h
      · rename_i hlt
        have h1 := Option.some.inj h
        have : ((l.drop o).take 1)[0]? = some v := by rw [h1]; rfl
        rw [List.getElem?_take, if_pos (by omega), List.getElem?_drop] at this
        simpa using this
      · cases h
    · intro h
      have hlt := (List.getElem?_eq_some_iff.1 h).1
      rw [if_pos (by omega)]
      congr 1
      rw [List.drop_eq_getElem_cons hlt]
      simp only [List.take_succ_cons, List.take_zero]
      congr 1
      exact (List.getElem?_eq_some_iff.1 h).2

@[go_sem] theorem load1_ptr (b o : Nat) : load1 M (.ptr b o) K = ∃ v, M.cell b o = some v ∧ K v := by
  apply propext; unfold load1
  constructor
  · rintro ⟨b', o', v, h, hl, hk⟩; cases h; exact ⟨v, loads_cell.1 hl, hk⟩
  · rintro ⟨v, hl, hk⟩; exact ⟨b, o, v, rfl, loads_cell.2 hl, hk⟩
@[go_sem] theorem loadN_ptr (b o n : Nat) : loadN M (.ptr b o) n K = ∃ vs, M.loads b o n = some vs ∧ K (.agg vs) := by
  apply propext; unfold loadN
  constructor
  · rintro ⟨b', o', v, h, hl, hk⟩; cases h; exact ⟨v, hl, hk⟩
  · rintro ⟨v, hl, hk⟩; exact ⟨b, o, v, rfl, hl, hk⟩
@[go_sem] theorem storeW_ptr (b p : Nat) (x : AV) (n : Nat) (K : RM → Prop) : storeW M (.ptr b p) x n K = (x.cells.length = n ∧ ∃ M', M.stores b p x.cells = some M' ∧ K M') := by
  apply propext; unfold storeW
  constructor
  · rintro ⟨b', o', M', h, h1, h2, hk⟩; cases h; exact ⟨h1, M', h2, hk⟩
  · rintro ⟨h1, M', h2, hk⟩; exact ⟨b, p, M', rfl, h1, h2, hk⟩

/-! ### integers -/
def andI (k : IntKind) (a b : Int) : Int := k.wrap (BitVec.ofInt k.bits a &&& BitVec.ofInt k.bits b).toNat
def orI (k : IntKind) (a b : Int) : Int := k.wrap (BitVec.ofInt k.bits a ||| BitVec.ofInt k.bits b).toNat
def xorI (k : IntKind) (a b : Int) : Int := k.wrap (BitVec.ofInt k.bits a ^^^ BitVec.ofInt k.bits b).toNat
def andNotI (k : IntKind) (a b : Int) : Int := k.wrap (BitVec.ofInt k.bits a &&& ~~~BitVec.ofInt k.bits b).toNat
def shlI (k : IntKind) (a b : Int) : Int := k.wrap (a * 2 ^ (min b.toNat k.bits))
def shrI (k : IntKind) (a b : Int) : Int := a.fdiv (2 ^ (min b.toNat k.bits))
section
variable (k : IntKind) (a b : Int)
theorem intW_some {op : BinOp} {v : Value} (h : intBin op k a b = some v) : intW op (N k a) (N k b) K = K (.sc v) := by
  apply propext; unfold intW
  constructor
  · rintro ⟨k', a', b', u, h1, h2, h3, hk⟩; cases h1; cases h2; rw [h] at h3; cases h3; exact hk
  · intro hk; exact ⟨k, a, b, v, rfl, rfl, h, hk⟩
@[go_sem] theorem intW_add : intW .add (N k a) (N k b) K = K (N k (k.wrap (a + b))) := intW_some k a b rfl
@[go_sem] theorem intW_sub : intW .sub (N k a) (N k b) K = K (N k (k.wrap (a - b))) := intW_some k a b rfl
@[go_sem] theorem intW_mul : intW .mul (N k a) (N k b) K = K (N k (k.wrap (a * b))) := intW_some k a b rfl
@[go_sem] theorem intW_and : intW .and (N k a) (N k b) K = K (N k (andI k a b)) := intW_some k a b rfl
@[go_sem] theorem intW_or : intW .or (N k a) (N k b) K = K (N k (orI k a b)) := intW_some k a b rfl
@[go_sem] theorem intW_xor : intW .xor (N k a) (N k b) K = K (N k (xorI k a b)) := intW_some k a b rfl
@[go_sem] theorem intW_andNot : intW .andNot (N k a) (N k b) K = K (N k (andNotI k a b)) := intW_some k a b rfl
@[go_sem] theorem intW_eql : intW .eql (N k a) (N k b) K = K (Bo (a == b)) := intW_some k a b rfl
@[go_sem] theorem intW_neq : intW .neq (N k a) (N k b) K = K (Bo (a != b)) := intW_some k a b rfl
@[go_sem] theorem intW_lss : intW .lss (N k a) (N k b) K = K (Bo (decide (a < b))) := intW_some k a b rfl
@[go_sem] theorem intW_leq : intW .leq (N k a) (N k b) K = K (Bo (decide (a ≤ b))) := intW_some k a b rfl
@[go_sem] theorem intW_gtr : intW .gtr (N k a) (N k b) K = K (Bo (decide (a > b))) := intW_some k a b rfl
@[go_sem] theorem intW_geq : intW .geq (N k a) (N k b) K = K (Bo (decide (a ≥ b))) := intW_some k a b rfl
@[go_sem] theorem intW_quo : intW .quo (N k a) (N k b) K = (b ≠ 0 ∧ K (N k (k.wrap (a.tdiv b)))) := by
  apply propext; unfold intW intBin
  constructor
  · rintro ⟨k', a', b', u, h1, h2, h3, hk⟩; cases h1; cases h2
    simp only at h3
    split at h3
    · cases h3
    · cases h3; exact ⟨‹_›, hk⟩
  · rintro ⟨h0, hk⟩; exact ⟨k, a, b, _, rfl, rfl, by simp only [if_neg h0], hk⟩
@[go_sem] theorem intW_rem : intW .rem (N k a) (N k b) K = (b ≠ 0 ∧ K (N k (a.tmod b))) := by
  apply propext; unfold intW intBin
  constructor
  · rintro ⟨k', a', b', u, h1, h2, h3, hk⟩; cases h1; cases h2
    simp only at h3
    split at h3
    · cases h3
    · cases h3; exact ⟨‹_›, hk⟩
  · rintro ⟨h0, hk⟩; exact ⟨k, a, b, _, rfl, rfl, by simp only [if_neg h0], hk⟩
variable (l : IntKind)
@[go_sem] theorem shW_shl : shW .shl (N k a) (N l b) K = (0 ≤ b ∧ K (N k (shlI k a b))) := by
  apply propext; unfold shW intSh
  constructor
  · rintro ⟨k', a', l', b', u, h1, h2, h3, hk⟩; cases h1; cases h2
    split at h3
    · cases h3
    · cases h3; exact ⟨by omega, hk⟩
  · rintro ⟨h0, hk⟩; exact ⟨k, a, l, b, _, rfl, rfl, by rw [if_neg (by omega)]; rfl, hk⟩
@[go_sem] theorem shW_shr : shW .shr (N k a) (N l b) K = (0 ≤ b ∧ K (N k (shrI k a b))) := by
  apply propext; unfold shW intSh
  constructor
  · rintro ⟨k', a', l', b', u, h1, h2, h3, hk⟩; cases h1; cases h2
    split at h3
    · cases h3
    · cases h3; exact ⟨by omega, hk⟩
  · rintro ⟨h0, hk⟩; exact ⟨k, a, l, b, _, rfl, rfl, by rw [if_neg (by omega)]; rfl, hk⟩
@[go_sem] theorem cvtW_N : cvtW k (N l a) K = K (N k (k.wrap a)) := by
  apply propext; unfold cvtW
  constructor
  · rintro ⟨l', n, h, hk⟩; cases h; exact hk
  · intro hk; exact ⟨l, a, rfl, hk⟩
@[go_sem] theorem minW_N (mx : Bool) : minW mx (N k a) (N k b) K = K (N k (if mx then (if b > a then b else a) else (if b < a then b else a))) := by
  apply propext; unfold minW
  constructor
  · rintro ⟨k', a', b', h1, h2, hk⟩; cases h1; cases h2; exact hk
  · intro hk; exact ⟨k, a, b, rfl, rfl, hk⟩
@[go_sem] theorem negW_N : negW (N k a) K = K (N k (k.wrap (0 - a))) := by
  apply propext; unfold negW
  constructor
  · rintro ⟨k', a', h1, hk⟩; cases h1; exact hk
  · intro hk; exact ⟨k, a, rfl, hk⟩
end

@[go_sem] theorem notW_Bo (b : Bool) : notW (Bo b) K = K (Bo (!b)) := by
  apply propext; unfold notW
  constructor
  · rintro ⟨b', h, hk⟩; cases h; exact hk
  · intro hk; exact ⟨b, rfl, hk⟩
@[go_sem] theorem boolEqW_Bo (neg a b : Bool) : boolEqW neg (Bo a) (Bo b) K = K (Bo ((a == b) != neg)) := by
  apply propext; unfold boolEqW
  constructor
  · rintro ⟨a', b', h, h', hk⟩; cases h; cases h'; exact hk
  · intro hk; exact ⟨a, b, rfl, rfl, hk⟩
@[go_sem] theorem pickW_Bo (t : Bool) (a b : AV) : pickW (Bo t) a b K = K (if t then a else b) := by
  apply propext; unfold pickW
  constructor
  · rintro ⟨t', h, hk⟩; cases h; exact hk
  · intro hk; exact ⟨t, rfl, hk⟩
@[go_sem] theorem condW_Bo (b : Bool) (p q : Prop) : condW (Bo b) p q = ((b = true → p) ∧ (b = false → q)) := rfl
@[go_sem] theorem guardW_Bo {α : Type} (b want : Bool) (f g : α → Prop) (k : α) : guardW (Bo b) want f g k = if b = want then f k else g k := rfl
@[go_sem] theorem guardW_undef {α : Type} (want : Bool) (f g : α → Prop) (k : α) : guardW .undef want f g k = g k := rfl

/-! ### places -/
@[go_sem] theorem ptrW_ptr (b o : Nat) : ptrW (.ptr b o) K = K (.ptr b o) := by
  apply propext; unfold ptrW
  constructor
  · rintro ⟨b', o', h, hk⟩; cases h; exact hk
  · intro hk; exact ⟨b, o, rfl, hk⟩
@[go_sem] theorem fldW_ptr (b o n : Nat) : fldW (.ptr b o) n K = K (.ptr b (o + n)) := by
  apply propext; unfold fldW
  constructor
  · rintro ⟨b', o', h, hk⟩; cases h; exact hk
  · intro hk; exact ⟨b, o, rfl, hk⟩
@[go_sem] theorem idxS_slc (b p len : Nat) (cap : Cap) (k : IntKind) (n : Int) (size : Nat) : idxS (.slc b p len cap) (N k n) size K = (0 ≤ n ∧ n < len ∧ K (.ptr b (p + n.toNat * size))) := by
  apply propext; unfold idxS
  constructor
  · rintro ⟨b', p', l', c', k', n', h, h', h0, h1, hk⟩; cases h; cases h'; exact ⟨h0, h1, hk⟩
  · rintro ⟨h0, h1, hk⟩; exact ⟨b, p, len, cap, k, n, rfl, rfl, h0, h1, hk⟩
@[go_sem] theorem idxA_ptr (b p : Nat) (k : IntKind) (n : Int) (len size : Nat) : idxA (.ptr b p) (N k n) len size K = (0 ≤ n ∧ n < len ∧ K (.ptr b (p + n.toNat * size))) := by
  apply propext; unfold idxA
  constructor
  · rintro ⟨b', p', k', n', h, h', h0, h1, hk⟩; cases h; cases h'; exact ⟨h0, h1, hk⟩
  · rintro ⟨h0, h1, hk⟩; exact ⟨b, p, k, n, rfl, rfl, h0, h1, hk⟩
@[go_sem] theorem part1_agg (cs : List AV) (off : Nat) : part1 (.agg cs) off K = ∃ v, cs[off]? = some v ∧ K v := by
  apply propext; unfold part1
  constructor
  · rintro ⟨cs', v, h, h1, hk⟩; cases h; exact ⟨v, h1, hk⟩
  · rintro ⟨v, h1, hk⟩; exact ⟨cs, v, rfl, h1, hk⟩
@[go_sem] theorem partN_agg (cs : List AV) (off n : Nat) : partN (.agg cs) off n K = (off + n ≤ cs.length ∧ K (.agg ((cs.drop off).take n))) := by
  apply propext; unfold partN
  constructor
  · rintro ⟨cs', h, h1, hk⟩; cases h; exact ⟨h1, hk⟩
  · rintro ⟨h1, hk⟩; exact ⟨cs, rfl, h1, hk⟩
@[go_sem] theorem idxP1_agg (cs : List AV) (k : IntKind) (n : Int) (len : Nat) : idxP1 (.agg cs) (N k n) len K = (0 ≤ n ∧ n < len ∧ ∃ v, cs[n.toNat]? = some v ∧ K v) := by
  apply propext; unfold idxP1
  constructor
  · rintro ⟨cs', k', n', v, h, h', h0, h1, h2, hk⟩; cases h; cases h'; exact ⟨h0, h1, v, h2, hk⟩
  · rintro ⟨h0, h1, v, h2, hk⟩; exact ⟨cs, k, n, v, rfl, rfl, h0, h1, h2, hk⟩
@[go_sem] theorem idxPN_agg (cs : List AV) (k : IntKind) (n : Int) (len size : Nat) : idxPN (.agg cs) (N k n) len size K = (0 ≤ n ∧ n < len ∧ n.toNat * size + size ≤ cs.length ∧ K (.agg ((cs.drop (n.toNat * size)).take size))) := by
  apply propext; unfold idxPN
  constructor
  · rintro ⟨cs', k', n', h, h', h0, h1, h2, hk⟩; cases h; cases h'; exact ⟨h0, h1, h2, hk⟩
  · rintro ⟨h0, h1, h2, hk⟩; exact ⟨cs, k, n, rfl, rfl, h0, h1, h2, hk⟩
@[go_sem] theorem idxB_St (s : List UInt8) (k : IntKind) (n : Int) : idxB (St s) (N k n) K = (0 ≤ n ∧ ∃ b, s[n.toNat]? = some b ∧ K (N .u8 b.toNat)) := by
  apply propext; unfold idxB
  constructor
  · rintro ⟨s', k', n', b, h, h', h0, h1, hk⟩; cases h; cases h'; exact ⟨h0, b, h1, hk⟩
  · rintro ⟨h0, b, h1, hk⟩; exact ⟨s, k, n, b, rfl, rfl, h0, h1, hk⟩
@[go_sem] theorem extW_tup (vs : List AV) (i : Nat) : extW (.tup vs) i K = ∃ v, vs[i]? = some v ∧ K v := by
  apply propext; unfold extW
  constructor
  · rintro ⟨cs', v, h, h1, hk⟩; cases h; exact ⟨v, h1, hk⟩
  · rintro ⟨v, h1, hk⟩; exact ⟨vs, v, rfl, h1, hk⟩
@[go_sem] theorem getW_some (v : AV) : getW (some v) K = K v := by
  apply propext; unfold getW
  constructor
  · rintro ⟨v', h, hk⟩; cases h; exact hk
  · intro hk; exact ⟨v, rfl, hk⟩
@[go_sem] theorem lenW_slc (b o n : Nat) (c : Cap) : lenW (.slc b o n c) K = K (N .i64 n) := by
  apply propext; unfold lenW
  constructor
  · rintro ⟨n', h, hk⟩; cases h; exact hk
  · intro hk; exact ⟨n, rfl, hk⟩
@[go_sem] theorem lenW_emp (b : Nat) : lenW (.emp b) K = K (N .i64 0) := by
  apply propext; unfold lenW
  constructor
  · rintro ⟨n', h, hk⟩; cases h; exact hk
  · intro hk; exact ⟨0, rfl, hk⟩
@[go_sem] theorem lenW_nil : lenW (.sc (.slice none 0 0)) K = K (N .i64 0) := by
  apply propext; unfold lenW
  constructor
  · rintro ⟨n', h, hk⟩; cases h; exact hk
  · intro hk; exact ⟨0, rfl, hk⟩
@[go_sem] theorem lenStr_St (s : List UInt8) : lenStr (St s) K = K (N .i64 s.length) := by
  apply propext; unfold lenStr
  constructor
  · rintro ⟨s', h, hk⟩; cases h; exact hk
  · intro hk; exact ⟨s, rfl, hk⟩
@[go_sem] theorem capW_ex (b o n c : Nat) : capW (.slc b o n (.ex c)) K = K (N .i64 c) := by
  apply propext; unfold capW
  constructor
  · rintro ⟨n', h, hk⟩; cases h; exact hk
  · intro hk; exact ⟨c, rfl, hk⟩
@[go_sem] theorem capW_nil : capW (.sc (.slice none 0 0)) K = K (N .i64 0) := by
  apply propext; unfold capW
  constructor
  · rintro ⟨n', h, hk⟩; cases h; exact hk
  · intro hk; exact ⟨0, rfl, hk⟩
@[go_sem] theorem isStr_St (s : List UInt8) : isStr (St s) K = K (St s) := by
  apply propext; unfold isStr
  constructor
  · rintro ⟨s', h, hk⟩; cases h; exact hk
  · intro hk; exact ⟨s, rfl, hk⟩
@[go_sem] theorem strOfW_some {x : AV} {s : List UInt8} (h : toStr M x = some s) : strOfW M x K = K (St s) := by
  apply propext; unfold strOfW
  constructor
  · rintro ⟨s', h', hk⟩; rw [h] at h'; cases h'; exact hk
  · intro hk; exact ⟨s, h, hk⟩
theorem strW_some {op : BinOp} {a b : List UInt8} {v : AV} (h : strOp op a b = some v) : strW op (St a) (St b) K = K v := by
  apply propext; unfold strW
  constructor
  · rintro ⟨a', b', u, h1, h2, h3, hk⟩; cases h1; cases h2; rw [h] at h3; cases h3; exact hk
  · intro hk; exact ⟨a, b, v, rfl, rfl, h, hk⟩
@[go_sem] theorem strW_eql (a b : List UInt8) : strW .eql (St a) (St b) K = K (Bo (a == b)) := by rw [← bytesEq_iff]; exact strW_some rfl
@[go_sem] theorem strW_neq (a b : List UInt8) : strW .neq (St a) (St b) K = K (Bo (a != b)) := by rw [bne, ← bytesEq_iff]; exact strW_some rfl
@[go_sem] theorem strW_lss (a b : List UInt8) : strW .lss (St a) (St b) K = K (Bo (Op.bytesLess a b)) := strW_some rfl
@[go_sem] theorem strW_leq (a b : List UInt8) : strW .leq (St a) (St b) K = K (Bo (Op.bytesLess a b || a == b)) := by rw [← bytesEq_iff]; exact strW_some rfl
@[go_sem] theorem strW_gtr (a b : List UInt8) : strW .gtr (St a) (St b) K = K (Bo (!(Op.bytesLess a b || a == b))) := by rw [← bytesEq_iff]; exact strW_some rfl
@[go_sem] theorem strW_geq (a b : List UInt8) : strW .geq (St a) (St b) K = K (Bo (!Op.bytesLess a b)) := strW_some rfl
@[go_sem] theorem strW_add (a b : List UInt8) : strW .add (St a) (St b) K = (a.length + b.length ≤ 9223372036854775807 ∧ K (St (a ++ b))) := by
  apply propext; unfold strW
  constructor
  · rintro ⟨a', b', u, h1, h2, h3, hk⟩; cases h1; cases h2
    simp only [strOp] at h3
    split at h3
    · rename_i hb; cases h3; exact ⟨ble_t hb, hk⟩
    · cases h3
  · rintro ⟨h0, hk⟩; exact ⟨a, b, _, rfl, rfl, by simp only [strOp, ble_iff.2 h0], hk⟩
theorem refEqW_some {neg : Bool} {tag : Nat} {x y : AV} {r : Bool} (ht : tagOf x = tag) (h : refEq x y = some r) : refEqW neg tag x y K = K (Bo (r != neg)) := by
  apply propext; unfold refEqW
  constructor
  · rintro ⟨_, r', h', hk⟩; rw [h] at h'; cases h'; exact hk
  · intro hk; exact ⟨ht, r, h, hk⟩
@[go_sem] theorem refEqW_nil_nil (neg : Bool) : refEqW neg 2 (.sc (.slice none 0 0)) (.sc (.slice none 0 0)) K = K (Bo (!neg)) := (refEqW_some (tag := 2) (r := true) rfl rfl).trans (by cases neg <;> rfl)
@[go_sem] theorem refEqW_emp_nil (neg : Bool) (b : Nat) : refEqW neg 2 (.emp b) (.sc (.slice none 0 0)) K = K (Bo neg) := (refEqW_some (tag := 2) (r := false) rfl rfl).trans (by cases neg <;> rfl)
@[go_sem] theorem refEqW_slc_nil (neg : Bool) (b o n : Nat) (c : Cap) : refEqW neg 2 (.slc b o n c) (.sc (.slice none 0 0)) K = K (Bo neg) := (refEqW_some (tag := 2) (r := false) rfl rfl).trans (by cases neg <;> rfl)
@[go_sem] theorem refEqW_ptr_nil (neg : Bool) (b o : Nat) : refEqW neg 1 (.ptr b o) (.sc (.pointer none)) K = K (Bo neg) := (refEqW_some (tag := 1) (r := false) rfl rfl).trans (by cases neg <;> rfl)
@[go_sem] theorem refEqW_nilp_nil (neg : Bool) : refEqW neg 1 (.sc (.pointer none)) (.sc (.pointer none)) K = K (Bo (!neg)) := (refEqW_some (tag := 1) (r := true) rfl rfl).trans (by cases neg <;> rfl)
@[go_sem] theorem refEqW_map_nil (neg : Bool) (b : Nat) : refEqW neg 3 (.map b) (.sc (.map none)) K = K (Bo neg) := (refEqW_some (tag := 3) (r := false) rfl rfl).trans (by cases neg <;> rfl)
@[go_sem] theorem refEqW_fn_nil (neg : Bool) (f : Fn) (xs ys : List AV) : refEqW neg 4 (.fn f xs ys) (.sc .nilFunc) K = K (Bo neg) := (refEqW_some (tag := 4) (r := false) rfl rfl).trans (by cases neg <;> rfl)
@[go_sem] theorem aggEqW_agg (neg : Bool) (ks : List Nat) (cs ds : List AV) : aggEqW neg ks (.agg cs) (.agg ds) K = (cs.length = ks.length ∧ ds.length = ks.length ∧ ∃ r, flatEq ks cs ds = some r ∧ K (Bo (r != neg))) := by
  apply propext; unfold aggEqW
  constructor
  · rintro ⟨a', b', r, h1, h2, h3, h4, h5, hk⟩; cases h1; cases h2; exact ⟨h3, h4, r, h5, hk⟩
  · rintro ⟨h3, h4, r, h5, hk⟩; exact ⟨cs, ds, r, rfl, rfl, h3, h4, h5, hk⟩
@[go_sem] theorem callV_fn (C : FuncId → CallT) (g : FuncId) (first cap args : List AV) : callV C (.fn (.func g) first cap) args M KQ = C g (first ++ args ++ cap) M KQ := by
  apply propext; unfold callV
  constructor
  · rintro ⟨g', f', c', h, hk⟩; cases h; exact hk
  · intro hk; exact ⟨g, first, cap, rfl, hk⟩
@[go_sem] theorem buildW_eq (cs : List AV) (parts : List (Nat × Nat × AV)) : buildW cs parts K = ∃ cs', fillL cs parts = some cs' ∧ K (.agg cs') := rfl
@[go_sem] theorem newW_eq (x : RB) (mk : Nat → AV) : newW x mk M KQ = KQ (mk M.next) (M.push x) := rfl
@[go_sem] theorem newR_eq (x : RB) (mk : Nat → AV) (k : KR) : newR x mk M k = k (mk M.next) (M.push x) (some M.next) := rfl
@[go_sem] theorem joinW_eq (f : (List AV → RM → Prop) → Prop) (g : List AV → RM → Prop) : joinW f g = f g := rfl
@[go_sem] theorem nthD_zero (x : AV) (xs : List AV) : nthD (x :: xs) 0 = x := rfl
@[go_sem] theorem nthD_succ (x : AV) (xs : List AV) (n : Nat) : nthD (x :: xs) (n + 1) = nthD xs n := rfl
@[go_sem] theorem sameB_some (b : Nat) (x : RB) (mk : Nat → AV) (v : AV) : sameB (some b) M x mk v = (M.heap b = some x ∧ mk b = v) := rfl
end

/-- A loop by an invariant and a measure. -/
theorem loopW_inv {body : (List AV → RM → Prop) → List AV → RM → Prop} {xs : List AV} {M : RM} (I : Nat → List AV → RM → Prop) (n : Nat) (h0 : I n xs M)
    (hb : ∀ m ys M', I m ys M' → body (fun zs M'' => ∃ m', m' < m ∧ I m' zs M'') ys M') : loopW body xs M := ⟨I, n, h0, hb⟩

/-! ### memory -/
section
variable {M M' : RM}
theorem RM.cells_row {b : Nat} {l : List AV} {opn : Bool} {el fz : Nat} (h : M.heap b = some (.row l opn el fz)) : M.cells b = some l := by simp [RM.cells, h]
theorem RM.cell_row {b o : Nat} {l : List AV} {opn : Bool} {el fz : Nat} (h : M.heap b = some (.row l opn el fz)) : M.cell b o = l[o]? := by simp [RM.cell, RM.cells_row h]
theorem RM.loads_row {b o k : Nat} {l : List AV} {opn : Bool} {el fz : Nat} (h : M.heap b = some (.row l opn el fz)) (hk : o + k ≤ l.length) : M.loads b o k = some ((l.drop o).take k) := by
  simp [RM.loads, RM.cells_row h, hk]
theorem RM.stores_row {b o : Nat} {l vs : List AV} {opn : Bool} {el fz : Nat} (h : M.heap b = some (.row l opn el fz)) (h1 : o + vs.length ≤ l.length) (h2 : fz ≤ o) (h3 : vs.all oneCell = true) :
    M.stores b o vs = some (M.put b (.row (l.take o ++ vs ++ l.drop (o + vs.length)) opn el fz)) := by
  simp only [RM.stores, h]
  rw [if_pos ⟨h1, h2, h3⟩]

/-- All blocks but some are as they were. -/
structure Keep (bs : List Nat) (M M' : RM) : Prop where
  base : M'.base = M.base
  next : M.next ≤ M'.next
  heap : ∀ c, c < M.next → c ∉ bs → M'.heap c = M.heap c

theorem Keep.refl (bs : List Nat) (M : RM) : Keep bs M M := ⟨rfl, Nat.le_refl _, fun _ _ _ => rfl⟩
theorem Keep.trans {bs : List Nat} {M1 M2 : RM} (h : Keep bs M M1) (k : Keep bs M1 M2) : Keep bs M M2 :=
  ⟨k.base.trans h.base, Nat.le_trans h.next k.next, fun c hc hb => (k.heap c (Nat.lt_of_lt_of_le hc h.next) hb).trans (h.heap c hc hb)⟩
theorem Keep.push {bs : List Nat} (h : Keep bs M M') (x : RB) : Keep bs M (M'.push x) :=
  ⟨h.base, Nat.le_succ_of_le h.next, fun c hc hb => by
    have := h.next
    simp only [RM.push]; rw [if_neg (by omega)]; exact h.heap c hc hb⟩
theorem Keep.put {bs : List Nat} (h : Keep bs M M') {b : Nat} (x : RB) (hb : M.next ≤ b ∨ b ∈ bs) : Keep bs M (M'.put b x) :=
  ⟨h.base, h.next, fun c hc hcb => by
    simp only [RM.put]; rw [if_neg]
    · exact h.heap c hc hcb
    · rintro rfl; rcases hb with hb | hb
      · omega
      · exact hcb hb⟩
theorem Keep.del {bs : List Nat} (h : Keep bs M M') {b : Nat} (hb : M.next ≤ b ∨ b ∈ bs) : Keep bs M (M'.del b) :=
  ⟨h.base, h.next, fun c hc hcb => by
    simp only [RM.del]; rw [if_neg]
    · exact h.heap c hc hcb
    · rintro rfl; rcases hb with hb | hb
      · omega
      · exact hcb hb⟩
theorem Keep.mono {bs cs : List Nat} (h : Keep bs M M') (hs : ∀ b ∈ bs, b ∈ cs) : Keep cs M M' := ⟨h.base, h.next, fun c hc hb => h.heap c hc fun h => hb (hs c h)⟩
/-- Blocks that were made since then may change. -/
theorem Keep.then_new {bs : List Nat} {M1 M2 : RM} {cs : List Nat} (h : Keep bs M M1) (k : Keep cs M1 M2) (hn : ∀ c ∈ cs, M.next ≤ c ∨ c ∈ bs) : Keep bs M M2 :=
  ⟨k.base.trans h.base, Nat.le_trans h.next k.next, fun c hc hb => by
    rw [k.heap c (Nat.lt_of_lt_of_le hc h.next) (fun hm => by rcases hn c hm with h1 | h1; omega; exact hb h1), h.heap c hc hb]⟩
theorem Keep.cells {bs : List Nat} (h : Keep bs M M') {b : Nat} (hlt : b < M.next) (hb : b ∉ bs) : M'.cells b = M.cells b := by
  simp only [RM.cells, h.heap b hlt hb, RM.lo, h.base]
theorem Keep.cell {bs : List Nat} (h : Keep bs M M') {b o : Nat} (hlt : b < M.next) (hb : b ∉ bs) : M'.cell b o = M.cell b o := by
  simp only [RM.cell, h.cells hlt hb]
theorem Keep.loads {bs : List Nat} (h : Keep bs M M') {b o k : Nat} (hlt : b < M.next) (hb : b ∉ bs) : M'.loads b o k = M.loads b o k := by
  simp only [RM.loads, h.cells hlt hb]

@[go_sem] theorem RM.push_next (x : RB) : (M.push x).next = M.next + 1 := rfl
@[go_sem] theorem RM.put_next (b : Nat) (x : RB) : (M.put b x).next = M.next := rfl
@[go_sem] theorem RM.del_next (b : Nat) : (M.del b).next = M.next := rfl
@[go_sem] theorem RM.push_new (x : RB) : (M.push x).heap M.next = some x := by simp [RM.push]
theorem RM.push_old {x : RB} {c : Nat} (h : c ≠ M.next) : (M.push x).heap c = M.heap c := by simp [RM.push, h]
theorem RM.push_lt {x : RB} {c : Nat} (h : c < M.next) : (M.push x).heap c = M.heap c := RM.push_old (by omega)
@[go_sem] theorem RM.put_same (b : Nat) (x : RB) : (M.put b x).heap b = some x := by simp [RM.put]
theorem RM.put_other {b c : Nat} {x : RB} (h : c ≠ b) : (M.put b x).heap c = M.heap c := by simp [RM.put, h]
end
end Go.Ab
