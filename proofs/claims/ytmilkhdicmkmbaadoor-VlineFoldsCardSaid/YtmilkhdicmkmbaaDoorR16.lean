/- Bytes and texts. By an AI agent. -/
import Derived.Test.YtmilkhdicmkmbaaDoorR15
set_option linter.unusedVariables false
set_option linter.unusedSimpArgs false
namespace Go.Ab
open Go Go.RowKit

abbrev By (b : UInt8) : AV := N .u8 (b.toNat : Int)
def BY : Enc UInt8 := ⟨1, fun b => [By b], fun _ => rfl, fun _ => rfl⟩
theorem BY_row (s : List UInt8) : BY.row s = s.map By := by
  induction s with
  | nil => rfl
  | cons b s ih => rw [Enc.row_cons, ih]; rfl
def STR : Enc (List UInt8) := ⟨1, fun s => [St s], fun _ => rfl, fun _ => rfl⟩
theorem STR_row (s : List (List UInt8)) : STR.row s = s.map (fun s => St s) := by
  induction s with
  | nil => rfl
  | cons b s ih => rw [Enc.row_cons, ih]; rfl
def INT : Enc Int := ⟨1, fun n => [N .i64 n], fun _ => rfl, fun _ => rfl⟩
theorem INT_row (s : List Int) : INT.row s = s.map (fun s => N .i64 s) := by
  induction s with
  | nil => rfl
  | cons b s ih => rw [Enc.row_cons, ih]; rfl
def U64 : Enc Nat := ⟨1, fun n => [N .u64 (n : Int)], fun _ => rfl, fun _ => rfl⟩
theorem U64_row (s : List Nat) : U64.row s = s.map (fun (s : Nat) => N .u64 (s : Int)) := by
  induction s with
  | nil => rfl
  | cons b s ih => rw [Enc.row_cons, ih]; rfl

theorem mapO_bytes : ∀ (s : List UInt8), mapO byteOf (s.map By) = some s
  | [] => rfl
  | b :: s => by
    simp only [List.map_cons, mapO, byteOf, mapO_bytes s]
    simp

section
variable {α : Type} {E : Enc α} {M M' : RM} {v : AV} {xs : List α}

/-- A slice of bytes, as a text. -/
theorem Sl.str {s : List UInt8} (h : Sl BY M v s) {K : AV → Prop} : strOfW M v K = K (St s) :=
  strOfW_some (SlR.toStr h (by rw [BY_row]; exact mapO_bytes s))

/-- An element of one cell. -/
theorem Sl.at1 (h : Sl E M v xs) {i : Nat} (j : Int) (hi : i < xs.length) (hsz : E.size = 1 := by rfl) (hj : j = (i : Int) := by rfl) :
    ∃ b o, b < M.next ∧ b ∈ blkOf v ∧ (∀ (kd : IntKind) (K : AV → Prop), idxS v (N kd j) 1 K = K (.ptr b o)) ∧ ∀ x, E.cells xs[i] = [x] → M.cell b o = some x := by
  obtain ⟨b, o, h1, h2, h3, h4⟩ := Sl.at h 1 j hi hsz hj
  exact ⟨b, o, h1, h2, h3, fun x hx => cell0_of_loads h4 (by rw [hx]; rfl)⟩

/-! ### a row that is written: a whole block of data -/
/-- A slice that is a whole block, of data. -/
structure Rw (E : Enc α) (M : RM) (b : Nat) (opn : Bool) (el : Nat) (xs : List α) : Prop where
  heap : M.heap b = some (.row (E.row xs) opn el 0)
  lt : b < M.next

theorem Rw.sl {b el : Nat} {p : Bool} {cap : Cap} (h : Rw E M b p el xs) : Sl E M (.slc b 0 xs.length cap) xs := by
  refine .slc _ _ _ _ _ h.lt ?_
  rw [RM.loads_row h.heap (by rw [E.row_len]; omega), List.drop_zero, ← E.row_len, List.take_length]
theorem Rw.keep {b el : Nat} {p : Bool} {bs : List Nat} (h : Rw E M b p el xs) (hk : Keep bs M M') (hb : b ∉ bs) : Rw E M' b p el xs :=
  ⟨hk.heap_of h.heap h.lt hb, Nat.lt_of_lt_of_le h.lt hk.next⟩
theorem Rw.new {el : Nat} {p : Bool} (M : RM) (xs : List α) : Rw E (M.push (.row (E.row xs) p el 0)) M.next p el xs :=
  ⟨RM.push_new _, by simp [RM.push]⟩
theorem Rw.load {b el : Nat} {p : Bool} (h : Rw E M b p el xs) {i : Nat} (hi : i < xs.length) : M.loads b (i * E.size) E.size = some (E.cells xs[i]) := by
  have hsum : i * E.size + E.size ≤ xs.length * E.size := by rw [← Nat.succ_mul]; exact Nat.mul_le_mul_right _ hi
  rw [RM.loads_row h.heap (by rw [E.row_len]; exact hsum), E.row_get hi]
theorem Enc.row_set (E : Enc α) {xs : List α} {i : Nat} (hi : i < xs.length) (x : α) : E.row (xs.set i x) = (E.row xs).take (i * E.size) ++ E.cells x ++ (E.row xs).drop (i * E.size + E.size) := by
  rw [E.row_take, ← Nat.succ_mul, E.row_drop, List.set_eq_take_append_cons_drop, if_pos hi, E.row_append, E.row_cons, List.append_assoc]
theorem Rw.store {b el : Nat} {p : Bool} (h : Rw E M b p el xs) {i : Nat} (hi : i < xs.length) (x : α) :
    M.stores b (i * E.size) (E.cells x) = some (M.put b (.row (E.row (xs.set i x)) p el 0)) ∧ Rw E (M.put b (.row (E.row (xs.set i x)) p el 0)) b p el (xs.set i x) := by
  have hsum : i * E.size + E.size ≤ xs.length * E.size := by rw [← Nat.succ_mul]; exact Nat.mul_le_mul_right _ hi
  refine ⟨?_, RM.put_same _ _, h.lt⟩
  rw [RM.stores_row h.heap (by rw [E.len, E.row_len]; exact hsum) (Nat.zero_le _) (E.one x), E.row_set hi, E.len]
/-- The same for elements of one cell. -/
theorem Rw.load1 {b el : Nat} {p : Bool} (h : Rw E M b p el xs) {i : Nat} (hi : i < xs.length) (hsz : E.size = 1 := by rfl) {x : AV} (hx : E.cells xs[i] = [x] := by rfl) : M.cell b i = some x := by
  have := h.load hi
  rw [hsz, Nat.mul_one] at this
  exact cell0_of_loads this (by rw [hx]; rfl)
theorem Rw.store1 {b el : Nat} {p : Bool} (h : Rw E M b p el xs) {i : Nat} (hi : i < xs.length) (x : α) (hsz : E.size = 1 := by rfl) {u : AV} (hx : E.cells x = [u] := by rfl) :
    M.stores b i [u] = some (M.put b (.row (E.row (xs.set i x)) p el 0)) ∧ Rw E (M.put b (.row (E.row (xs.set i x)) p el 0)) b p el (xs.set i x) := by
  have := h.store hi x
  rw [hsz, Nat.mul_one, hx] at this
  exact this
end

@[go_sem] theorem bytesW_St (el : Nat) (s : List UInt8) (K : RB → (Nat → AV) → Prop) : bytesW el (St s) K = K (.row (BY.row s) true el 0) (fun b => .slc b 0 s.length (.op 1)) := by
  rw [BY_row]
  apply propext; unfold bytesW
  constructor
  · rintro ⟨s', h, hk⟩; cases h; exact hk
  · intro hk; exact ⟨s, rfl, hk⟩

/-! ### A to Z as a to z -/
def lowB (b : UInt8) : UInt8 := if 65 ≤ b.toNat ∧ b.toNat ≤ 90 then b + 32 else b
def low (s : List UInt8) : List UInt8 := s.map lowB
def LowC (c : CallT) : Prop := ∀ {M : RM} {s : List UInt8} {Q : PostV}, s.length < 9223372036854775807 → (∀ M', Keep [] M M' → Q (St (low s)) M') → c [St s] M Q

/-- As far as place i. -/
def upTo (f : UInt8 → UInt8) (i : Nat) (s : List UInt8) : List UInt8 := (s.take i).map f ++ s.drop i
theorem upTo_zero (f : UInt8 → UInt8) (s : List UInt8) : upTo f 0 s = s := by simp [upTo]
theorem upTo_all (f : UInt8 → UInt8) (s : List UInt8) : upTo f s.length s = s.map f := by simp [upTo]
theorem upTo_len (f : UInt8 → UInt8) (i : Nat) (s : List UInt8) : (upTo f i s).length = s.length := by
  simp [upTo]; omega
theorem upTo_get (f : UInt8 → UInt8) {i : Nat} {s : List UInt8} (hi : i < s.length) : (upTo f i s)[i]? = some s[i] := by
  simp only [upTo]
  rw [List.getElem?_append_right (by simp; omega)]
  simp
  rw [Nat.min_eq_left (by omega), Nat.sub_self, Nat.add_zero, List.getElem?_eq_getElem hi]
theorem upTo_set (f : UInt8 → UInt8) {i : Nat} {s : List UInt8} (hi : i < s.length) : (upTo f i s).set i (f s[i]) = upTo f (i + 1) s := by
  simp only [upTo]
  have hl : ((s.take i).map f).length = i := by simp; omega
  rw [List.set_append_right _ _ (by omega), hl, Nat.sub_self, List.drop_eq_getElem_cons hi, List.set_cons_zero, List.take_succ_eq_append_getElem hi, List.map_append, List.append_assoc]
  rfl
theorem upTo_same (f : UInt8 → UInt8) {i : Nat} {s : List UInt8} (hi : i < s.length) (h : f s[i] = s[i]) : upTo f (i + 1) s = upTo f i s := by
  rw [← upTo_set f hi, h]
  apply List.ext_getElem?
  intro j
  rw [List.getElem?_set]
  split
  · rename_i e; subst e
    rw [upTo_get f hi]; simp [upTo_len, hi]
  · rfl
theorem u8_lt (b : UInt8) : b.toNat < 256 := b.toNat_lt
end Go.Ab
