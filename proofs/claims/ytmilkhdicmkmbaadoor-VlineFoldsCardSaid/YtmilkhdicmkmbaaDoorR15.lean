/- Slices of data; append of one's own; entries of a table as contracts. By an AI agent. -/
import Derived.Test.YtmilkhdicmkmbaaDoorR14
import Derived.Test.YtmilkhdicmkmbaaDoorA1
import Derived.Test.YtmilkhdicmkmbaaDoorAb19
set_option linter.unusedVariables false
set_option linter.unusedSimpArgs false
namespace Go.Ab
open Go Go.RowKit

/-- A datum's cells. -/
structure Enc (α : Type) where
  size : Nat
  cells : α → List AV
  len : ∀ a, (cells a).length = size
  one : ∀ a, (cells a).all oneCell = true

section
variable {α : Type} (E : Enc α)
def Enc.row (xs : List α) : List AV := xs.flatMap E.cells
theorem Enc.row_nil : E.row [] = [] := rfl
theorem Enc.row_cons (x : α) (xs : List α) : E.row (x :: xs) = E.cells x ++ E.row xs := rfl
theorem Enc.row_append (xs ys : List α) : E.row (xs ++ ys) = E.row xs ++ E.row ys := by simp [Enc.row]
theorem Enc.row_one (x : α) : E.row [x] = E.cells x := by simp [Enc.row]
theorem Enc.row_len : ∀ (xs : List α), (E.row xs).length = xs.length * E.size
  | [] => by simp [Enc.row]
  | x :: xs => by rw [Enc.row_cons, List.length_append, E.len, Enc.row_len xs, List.length_cons, Nat.succ_mul, Nat.add_comm]
theorem Enc.row_all : ∀ (xs : List α), (E.row xs).all oneCell = true
  | [] => by simp [Enc.row]
  | x :: xs => by rw [Enc.row_cons, List.all_append, E.one, Enc.row_all xs]; rfl
theorem Enc.row_drop : ∀ (xs : List α) (i : Nat), (E.row xs).drop (i * E.size) = E.row (xs.drop i)
  | [], i => by simp [Enc.row]
  | x :: xs, 0 => by simp
  | x :: xs, i + 1 => by
    rw [Enc.row_cons, Nat.succ_mul, Nat.add_comm, ← List.drop_drop, List.drop_left' (E.len x), Enc.row_drop xs i]
    rfl
theorem Enc.row_take : ∀ (xs : List α) (i : Nat), (E.row xs).take (i * E.size) = E.row (xs.take i)
  | [], i => by simp [Enc.row]
  | x :: xs, 0 => by simp [Enc.row]
  | x :: xs, i + 1 => by
    rw [Enc.row_cons, Nat.succ_mul, Nat.add_comm, List.take_append, List.take_of_length_le (by rw [E.len]; omega), E.len, Nat.add_sub_cancel_left, Enc.row_take xs i]
    rfl
theorem Enc.row_get {xs : List α} {i : Nat} (hi : i < xs.length) : ((E.row xs).drop (i * E.size)).take E.size = E.cells xs[i] := by
  rw [Enc.row_drop, List.drop_eq_getElem_cons hi, Enc.row_cons]
  rw [List.take_append_of_le_length (by rw [E.len]; exact Nat.le_refl _), List.take_of_length_le (by rw [E.len]; exact Nat.le_refl _)]

/-- A slice that is read, of data. -/
abbrev Sl (M : RM) (v : AV) (xs : List α) : Prop := SlR M E.size v (E.row xs) xs.length
/-- A slice of one's own, of data. -/
abbrev Ow (M : RM) (base el : Nat) (v : AV) (xs : List α) : Prop := Own M base el E.size v (E.row xs) xs.length

variable {E} {M M' : RM} {v : AV} {xs : List α}
theorem Sl.elem (h : Sl E M v xs) {i : Nat} (hi : i < xs.length) : ∃ b o, b < M.next ∧ b ∈ blkOf v ∧ (∀ (kd : IntKind) (K : AV → Prop), idxS v (N kd (i : Int)) E.size K = K (.ptr b o)) ∧ M.loads b o E.size = some (E.cells xs[i]) := by
  obtain ⟨b, o, cap, rfl, hb, hl⟩ := h.pos (by omega)
  have hsum : i * E.size + E.size ≤ xs.length * E.size := by rw [← Nat.succ_mul]; exact Nat.mul_le_mul_right _ hi
  refine ⟨b, o + i * E.size, hb, by simp [blkOf], fun kd K => ?_, ?_⟩
  · rw [idxS_slc]
    simp only [Int.toNat_natCast]
    exact propext ⟨fun h => h.2.2, fun h => ⟨by omega, by omega, h⟩⟩
  · rw [loads_sub hl (i * E.size) E.size hsum, E.row_get hi]

theorem Sl.at (h : Sl E M v xs) {i : Nat} (sz : Nat) (j : Int) (hi : i < xs.length) (hsz : E.size = sz := by rfl) (hj : j = (i : Int) := by rfl) : ∃ b o, b < M.next ∧ b ∈ blkOf v ∧ (∀ (kd : IntKind) (K : AV → Prop), idxS v (N kd j) sz K = K (.ptr b o)) ∧ M.loads b o sz = some (E.cells xs[i]) := by
  subst hsz hj; exact h.elem hi

theorem cell_of_loads {b o k : Nat} {cs : List AV} (h : M.loads b o k = some cs) {j : Nat} {x : AV} (hj : cs[j]? = some x) : M.cell b (o + j) = some x := by
  have hlt : j < k := by rw [← loads_len h]; exact (List.getElem?_eq_some_iff.1 hj).1
  rw [loads_get h j hlt, hj]
theorem cell0_of_loads {b o k : Nat} {cs : List AV} (h : M.loads b o k = some cs) {x : AV} (hj : cs[0]? = some x) : M.cell b o = some x := cell_of_loads h hj
theorem loads_part {b o k : Nat} {cs : List AV} (h : M.loads b o k = some cs) (j m : Nat) (hm : j + m ≤ k) : M.loads b (o + j) m = some ((cs.drop j).take m) := loads_sub h j m hm

/-- A slice is appended to one's own. -/
theorem app_all {base T bytes : Nat} {zs : List AV} {u : AV} {ys : List α} {K : PostV} (ho : Ow E M base T v xs) (hb : base ≤ M.next) (hs : 1 ≤ E.size) (hu : Sl E M u ys)
    (hn : (xs.length + ys.length) * bytes ≤ 140737488355328) (hn2 : xs.length + ys.length ≤ 140737488355328)
    (hK : ∀ v' M', Ow E M' base T v' (xs ++ ys) → Keep (blkOf v) M M' → M.next ≤ M'.next → (v' = v ∨ ∀ b ∈ blkOf v', M.next ≤ b) → K v' M') :
    appW T E.size bytes zs false v u M K := by
  refine app_own ho hb hs (SlR.newL hu _) (E.row_len ys) (E.row_all ys) hn hn2 ?_
  intro v' M' h1 h2 h3 h4
  refine hK v' M' ?_ h2 h3 h4
  rw [← E.row_append] at h1
  simpa [Ow] using h1

theorem loads_head {b o k : Nat} {cs : List AV} (h : M.loads b o k = some cs) (m : Nat) (hm : m ≤ k) : M.loads b o m = some (cs.take m) := loads_sub h 0 m (by omega)

/-- A literal's row, read. -/
theorem Sl.new {T c : Nat} {p : Bool} (ys : List α) : Sl E (M.push (.row (E.row ys) p T 0)) (.slc M.next 0 ys.length (.ex c)) ys :=
  .slc _ _ _ _ _ (by simp [RM.push]) (by rw [RM.loads_row (RM.push_new _) (by rw [E.row_len]; omega), List.drop_zero, ← E.row_len, List.take_length])
/-- One element is appended to one's own. -/
theorem app_one {base T bytes : Nat} {zs : List AV} {a : α} {K : PostV} (ho : Ow E M base T v xs) (hb : base ≤ M.next) (hs : 1 ≤ E.size)
    (hn : (xs.length + 1) * bytes ≤ 140737488355328) (hn2 : xs.length + 1 ≤ 140737488355328)
    (hK : ∀ v' M', Ow E M' base T v' (xs ++ [a]) → Keep (blkOf v) M M' → M.next ≤ M'.next → (v' = v ∨ ∀ b ∈ blkOf v', M.next ≤ b) → K v' M') :
    appW T E.size bytes zs false v (.slc M.next 0 1 (.ex 1)) (M.push (.row (E.cells a) false T 0)) K := by
  have hk : Keep [] M (M.push (.row (E.cells a) false T 0)) := (Keep.refl _ _).push _
  refine app_all (ys := [a]) (Own.keep ho hk (by simp)) (Nat.le_trans hb hk.next) hs (by rw [← E.row_one]; exact Sl.new [a]) hn hn2 ?_
  intro v' M' h1 h2 h3 h4
  exact hK v' M' h1 ((hk.mono (by simp)).trans h2) (Nat.le_trans hk.next h3) (h4.imp id fun h b hb => Nat.le_trans hk.next (h b hb))
@[go_sem] theorem rows0 {T : Nat} {zs : List AV} {K : RB → (Nat → AV) → Prop} : rowsW T 0 zs [] K = K (.row [] false T 0) (fun b => .slc b 0 0 (.ex 0)) := by
  apply propext; unfold rowsW
  constructor
  · rintro ⟨l, h, hk⟩; cases h; exact hk
  · intro hk; exact ⟨_, rfl, hk⟩
theorem rows1 {T size : Nat} {zs : List AV} {x : AV} {K : RB → (Nat → AV) → Prop} (h : x.cells.length = size) (h1 : x.cells.all oneCell = true) (hz : zs.length = size) :
    rowsW T 1 zs [(0, size, x)] K = K (.row x.cells false T 0) (fun b => .slc b 0 1 (.ex 1)) := by
  have : fillO (repL zs 1) [(0, size, x)] = some x.cells := by
    simp only [fillO, repL, List.append_nil, h1, h, Nat.zero_add, hz, Nat.le_refl, and_self, if_true, List.take_zero, List.nil_append]
    rw [List.drop_of_length_le (by omega), List.append_nil]
  apply propext; unfold rowsW
  constructor
  · rintro ⟨l, h, hk⟩; rw [this] at h; cases h; exact hk
  · intro hk; exact ⟨_, this, hk⟩
/-- A new literal of no elements, for append. -/
theorem Ow.lit (E : Enc α) {T : Nat} (M : RM) : Ow E (M.push (.row [] false T 0)) M.next T (.slc M.next 0 0 (.ex 0)) [] := Own.lit M (Nat.le_refl _)

theorem i64_succ {i : Nat} (h : i < 9223372036854775807) : IntKind.wrap .i64 ((i : Int) + 1) = ((i + 1 : Nat) : Int) := by
  rw [wrap_i64_id (by omega) (by omega)]; rfl
end

@[go_sem] theorem flatEq_nil : flatEq [] [] [] = some true := rfl
@[go_sem] theorem flatEq_int (ks : List Nat) (k : IntKind) (a b : Int) (xs ys : List AV) : flatEq (1 :: ks) (N k a :: xs) (N k b :: ys) = if a = b then flatEq ks xs ys else some false := by
  simp only [flatEq, cellEq, if_true]
  by_cases h : a = b
  · simp [h]
  · have : (a == b) = false := by simp [h]
    simp [this, h]
@[go_sem] theorem flatEq_str (ks : List Nat) (a b : List UInt8) (xs ys : List AV) : flatEq (2 :: ks) (St a :: xs) (St b :: ys) = if a = b then flatEq ks xs ys else some false := by
  simp only [flatEq, cellEq]
  by_cases h : a = b
  · simp [h]
  · have : (a == b) = false := by simp [h]
    simp [this, h]
@[go_sem] theorem flatEq_bool (ks : List Nat) (a b : Bool) (xs ys : List AV) : flatEq (3 :: ks) (Bo a :: xs) (Bo b :: ys) = if a = b then flatEq ks xs ys else some false := by
  simp only [flatEq, cellEq]
  by_cases h : a = b
  · simp [h]
  · have : (a == b) = false := by simp [h]
    simp [this, h]
/-- Comparison of flat structs. -/
theorem aggEqW_of {neg : Bool} {ks : List Nat} {cs ds : List AV} {r : Bool} {K : AV → Prop} (h1 : cs.length = ks.length) (h2 : ds.length = ks.length) (h : flatEq ks cs ds = some r) : aggEqW neg ks (.agg cs) (.agg ds) K = K (Bo (r != neg)) := by
  rw [aggEqW_agg]
  apply propext
  constructor
  · rintro ⟨_, _, r', h', hk⟩; rw [h] at h'; cases h'; exact hk
  · intro hk; exact ⟨h1, h2, r, h, hk⟩

/-! ### operations behind one guard, joined -/
theorem fuseM (x : AV) (w : Bool) (f g : PostV → Prop) (F G : AV → RM → PostV → Prop) (k : PostV) :
    guardM x w f g (fun v M => guardM x w (F v M) (G v M) k) = guardM x w (fun k' => f fun v M => F v M k') (fun k' => g fun v M => G v M k') k := by
  unfold guardM guardW
  split
  · split <;> simp_all
  · rfl
  · rfl
theorem fuseK (x : AV) (w : Bool) (f g : KR → Prop) (F G : AV → RM → Option Nat → KR → Prop) (k : KR) :
    guardK x w f g (fun v M b => guardK x w (F v M b) (G v M b) k) = guardK x w (fun k' => f fun v M b => F v M b k') (fun k' => g fun v M b => G v M b k') k := by
  unfold guardK guardW
  split
  · split <;> simp_all
  · rfl
  · rfl

theorem fuseKM (x : AV) (w : Bool) (f g : KR → Prop) (F G : AV → RM → Option Nat → PostV → Prop) (k : PostV) :
    guardK x w f g (fun v M b => guardM x w (F v M b) (G v M b) k) = guardM x w (fun k' => f fun v M b => F v M b k') (fun k' => g fun v M b => G v M b k') k := by
  unfold guardK guardM guardW
  split
  · split <;> simp_all
  · rfl
  · rfl
theorem fuseMK (x : AV) (w : Bool) (f g : PostV → Prop) (F G : AV → RM → KR → Prop) (k : KR) :
    guardM x w f g (fun v M => guardK x w (F v M) (G v M) k) = guardK x w (fun k' => f fun v M => F v M k') (fun k' => g fun v M => G v M k') k := by
  unfold guardK guardM guardW
  split
  · split <;> simp_all
  · rfl
  · rfl

/-- A loop by an invariant and a measure; the next round is not looked into. -/
theorem loopW_ind {body : (List AV → RM → Prop) → List AV → RM → Prop} {xs : List AV} {M : RM} (I : Nat → List AV → RM → Prop) (n : Nat) (h0 : I n xs M)
    (hb : ∀ (next : List AV → RM → Prop) m ys M', (∀ m' zs M'', m' < m → I m' zs M'' → next zs M'') → I m ys M' → body next ys M') : loopW body xs M :=
  ⟨I, n, h0, fun m ys M' hI => hb _ m ys M' (fun m' zs M'' hlt h => ⟨m', hlt, h⟩) hI⟩

/-- A table's answer that is plain, as a contract. -/
theorem callsR_tab {P : Program} {I : World → Prop} {T : Table} (hT : TabOk P I T) {f : FuncId} {args : List AV} {v : AV} {M : RM} {Q : PostV} (hP : HasBody P f) (hl : ∀ A, tabOf T f args A = some (v, A))
    (hI : ∀ w, M.base.inv w → I w) (hQ : Q v M) : CallsR P f args M Q := by
  refine ⟨hP, fun ρ w us hargs hw => ?_⟩
  obtain ⟨A, hA⟩ := hw
  refine (tabOf_sound (base := M.base) hI T hT f args A v A (hl A) ρ w us hargs hA.rel hA.size).mono fun e w' hR => ?_
  obtain ⟨ρ', v', rfl, hst, hw', _, hv⟩ := hR
  refine ⟨v', v, M, ρ', rfl, after_of hA hst hw' rfl hA.next (Nat.le_refl _) (fun b x hx => ?_), hv, hQ⟩
  rcases hA.blk b x hx with h | ⟨c, rfl, _⟩
  · exact .inl h
  · exact .inr ⟨c, rfl, hx⟩
end Go.Ab
