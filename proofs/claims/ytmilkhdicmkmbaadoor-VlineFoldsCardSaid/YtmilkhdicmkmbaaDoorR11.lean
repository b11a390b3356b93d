/- Slices that are read, and slices that are one's own. By an AI agent. -/
import Derived.Test.YtmilkhdicmkmbaaDoorR10
set_option linter.unusedVariables false
set_option linter.unusedSimpArgs false
namespace Go.Ab
open Go Go.RowKit

abbrev nilS : AV := .sc (.slice none 0 0)

/-- A slice of n elements whose cells are cs. -/
inductive SlR (M : RM) (size : Nat) : AV → List AV → Nat → Prop
  | nil : SlR M size nilS [] 0
  | emp (b : Nat) : SlR M size (.emp b) [] 0
  | slc (b o n : Nat) (cap : Cap) (cs : List AV) : b < M.next → M.loads b o (n * size) = some cs → SlR M size (.slc b o n cap) cs n

section
variable {M M' : RM} {size : Nat} {v : AV} {cs : List AV} {n : Nat}

theorem loads_len {b o k : Nat} {cs : List AV} (h : M.loads b o k = some cs) : cs.length = k := by
  unfold RM.loads at h
  split at h <;> first | (cases h; done) | skip
  split at h <;> first | (cases h; done) | skip
  rename_i hle
  have := Option.some.inj h
  rw [← this, List.length_take, List.length_drop]; omega
theorem loads_get {b o k : Nat} {cs : List AV} (h : M.loads b o k = some cs) (i : Nat) (hi : i < k) : M.cell b (o + i) = cs[i]? := by
  unfold RM.loads at h
  unfold RM.cell
  split at h <;> first | (cases h; done) | skip
  rename_i l hl
  split at h <;> first | (cases h; done) | skip
  cases h
  simp only [hl, Option.bind_some]
  rw [List.getElem?_take, if_pos hi, List.getElem?_drop]
theorem loads_sub {b o k : Nat} {cs : List AV} (h : M.loads b o k = some cs) (i j : Nat) (hij : i + j ≤ k) : M.loads b (o + i) j = some ((cs.drop i).take j) := by
  unfold RM.loads at h ⊢
  cases hl : M.cells b with
  | none => rw [hl] at h; cases h
  | some l =>
    rw [hl] at h
    simp only at h ⊢
    split at h
    · rename_i hle
      have h := Option.some.inj h
      subst h
      rw [if_pos (by omega), List.drop_take, List.drop_drop, List.take_take]
      congr 2
      omega
    · cases h
theorem loads_zero {b o : Nat} {l : List AV} (h : M.cells b = some l) (ho : o ≤ l.length) : M.loads b o 0 = some [] := by
  simp [RM.loads, h, ho]

theorem SlR.length (h : SlR M size v cs n) : cs.length = n * size := by
  cases h with
  | nil => exact (Nat.zero_mul _).symm
  | emp => exact (Nat.zero_mul _).symm
  | slc b o n cap cs hb0 hl => exact loads_len hl
theorem SlR.len (h : SlR M size v cs n) {K : AV → Prop} : lenW v K = K (N .i64 n) := by
  cases h with
  | nil => exact lenW_nil
  | emp b => exact lenW_emp b
  | slc b o n cap cs hb0 hl => exact lenW_slc b o n cap
theorem SlR.lenSl (h : SlR M size v cs n) : lenSl v = some n := by
  cases h <;> rfl
theorem SlR.newL (h : SlR M size v cs n) (zs : List AV) : newL M size zs false v = some (n, cs) := by
  cases h with
  | nil => rfl
  | emp b => rfl
  | slc b o n cap cs hb0 hl => simp only [Go.Ab.newL, hl]
theorem SlR.pos (h : SlR M size v cs n) (hn : 0 < n) : ∃ b o cap, v = .slc b o n cap ∧ b < M.next ∧ M.loads b o (n * size) = some cs := by
  cases h with
  | nil => omega
  | emp b => omega
  | slc b o n cap cs hb0 hl => exact ⟨b, o, cap, rfl, hb0, hl⟩
theorem SlR.toStr (h : SlR M 1 v cs n) {l : List UInt8} (hb : mapO byteOf cs = some l) : toStr M v = some l := by
  cases h with
  | nil => simp [mapO] at hb; subst hb; rfl
  | emp b => simp [mapO] at hb; subst hb; rfl
  | slc b o n cap cs hb0 hl =>
    rw [Nat.mul_one] at hl
    simp only [Go.Ab.toStr, hl]; exact hb
/-- The block that a slice lies in. -/
def blkOf : AV → List Nat
  | .slc b _ _ _ => [b]
  | _ => []
theorem SlR.keep {bs : List Nat} (h : SlR M size v cs n) (hk : Keep bs M M') (hb : ∀ b ∈ blkOf v, b ∉ bs) : SlR M' size v cs n := by
  cases h with
  | nil => exact .nil
  | emp b => exact .emp b
  | slc b o n cap cs hb0 hl =>
    exact .slc b o n cap cs (Nat.lt_of_lt_of_le hb0 hk.next) (by rw [hk.loads hb0 (hb b (by simp [blkOf]))]; exact hl)

/-- Element i (of one cell each). -/
theorem SlR.get1 (h : SlR M 1 v cs n) {i : Nat} (hi : i < n) {k : IntKind} {K : AV → Prop} (hk : ∀ b o, (∀ K' : AV → Prop, (∀ x, cs[i]? = some x → K' x) → load1 M (.ptr b o) K') → K (.ptr b o)) : idxS v (N k i) 1 K := by
  obtain ⟨b, o, cap, rfl, _, hl⟩ := h.pos (by omega)
  rw [idxS_slc]
  refine ⟨by omega, by omega, ?_⟩
  simp only [Int.toNat_natCast, Nat.mul_one]
  refine hk b (o + i) fun K' hK' => ?_
  rw [load1_ptr]
  have hc := loads_get hl i (by omega)
  have hlt : i < cs.length := by rw [loads_len hl]; omega
  exact ⟨cs[i], by rw [hc]; simp [hlt], hK' _ (by simp [hlt])⟩

/-- A slice of one's own (made since 'base'), that may be appended to. -/
inductive Own (M : RM) (base el size : Nat) : AV → List AV → Nat → Prop
  | nil : Own M base el size nilS [] 0
  | ex0 (b o : Nat) : base ≤ b → b < M.next → (∃ l, M.cells b = some l ∧ o ≤ l.length) → Own M base el size (.slc b o 0 (.ex 0)) [] 0
  | op (b n : Nat) (cs : List AV) : base ≤ b → b < M.next → M.heap b = some (.row cs true el 0) → cs.length = n * size → Own M base el size (.slc b 0 n (.op size)) cs n

theorem Own.slR {base el : Nat} (h : Own M base el size v cs n) : SlR M size v cs n := by
  cases h with
  | nil => exact .nil
  | ex0 b o hb hlt hc =>
    obtain ⟨l, hl, ho⟩ := hc
    exact .slc b o 0 _ [] hlt (by rw [Nat.zero_mul]; exact loads_zero hl ho)
  | op b n cs hb hlt hh hl =>
    refine .slc b 0 n _ cs hlt ?_
    rw [RM.loads_row hh (by omega)]
    simp [← hl]
theorem Own.blk {base el : Nat} (h : Own M base el size v cs n) : ∀ b ∈ blkOf v, base ≤ b ∧ b < M.next := by
  cases h with
  | nil => intro b hb; simp [blkOf] at hb
  | ex0 b o hb hlt hc => intro c hc; simp [blkOf] at hc; subst hc; exact ⟨hb, hlt⟩
  | op b n cs hb hlt hh hl => intro c hc; simp [blkOf] at hc; subst hc; exact ⟨hb, hlt⟩
theorem Own.keep {base el : Nat} {bs : List Nat} (h : Own M base el size v cs n) (hk : Keep bs M M') (hb : ∀ b ∈ blkOf v, b ∉ bs) : Own M' base el size v cs n := by
  cases h with
  | nil => exact .nil
  | ex0 b o h1 hlt hc => exact .ex0 b o h1 (Nat.lt_of_lt_of_le hlt hk.next) (by rw [hk.cells hlt (hb b (by simp [blkOf]))]; exact hc)
  | op b n cs h1 hlt hh hl => exact .op b n cs h1 (Nat.lt_of_lt_of_le hlt hk.next) (by rw [hk.heap b hlt (hb b (by simp [blkOf]))]; exact hh) hl
theorem Own.mono {base base' el : Nat} (h : Own M base el size v cs n) (hb : base' ≤ base) : Own M base' el size v cs n := by
  cases h with
  | nil => exact .nil
  | ex0 b o h1 hlt hc => exact .ex0 b o (Nat.le_trans hb h1) hlt hc
  | op b n cs h1 hlt hh hl => exact .op b n cs (Nat.le_trans hb h1) hlt hh hl

/-- append to one's own. -/
theorem app_own {base el bytes : Nat} {zs : List AV} {zeros : Bool} {x : AV} {m : Nat} {ds : List AV} {K : PostV} (h : Own M base el size v cs n) (hbase : base ≤ M.next) (hs : 1 ≤ size) (hx : newL M size zs zeros x = some (m, ds)) (hd : ds.length = m * size)
    (h1 : ds.all oneCell = true) (hb : (n + m) * bytes ≤ 140737488355328) (hb2 : n + m ≤ 140737488355328)
    (hK : ∀ v' M', Own M' base el size v' (cs ++ ds) (n + m) → Keep (blkOf v) M M' → M.next ≤ M'.next → (v' = v ∨ ∀ b ∈ blkOf v', M.next ≤ b) → K v' M') : appW el size bytes zs zeros v x M K := by
  have hmb : m * bytes ≤ 140737488355328 := Nat.le_trans (Nat.mul_le_mul_right _ (by omega)) hb
  refine ⟨m, ds, hx, hmb, by omega, ?_⟩
  cases h with
  | nil =>
    by_cases hm : m = 0
    · subst hm
      have : ds = [] := List.eq_nil_of_length_eq_zero (by simpa using hd)
      subst this
      exact ⟨nilS, M, by simp [appM], hK _ _ .nil (Keep.refl _ _) (Nat.le_refl _) (.inl rfl)⟩
    · refine ⟨.slc M.next 0 m (.op size), M.push (.row ds true el 0), by simp only [appM, if_neg hm, h1, if_true], hK _ _ ?_ ((Keep.refl _ _).push _) (by simp [RM.push]) (.inr fun b hb => by simp [blkOf] at hb; omega)⟩
      simp only [List.nil_append, Nat.zero_add]
      exact .op _ _ _ hbase (by simp [RM.push]) (RM.push_new _) hd
  | ex0 b o hb0 hlt hc =>
    obtain ⟨l, hl, ho⟩ := hc
    by_cases hm : m = 0
    · subst hm
      have : ds = [] := List.eq_nil_of_length_eq_zero (by simpa using hd)
      subst this
      exact ⟨_, M, by simp [appM], hK _ _ (.ex0 b o hb0 hlt ⟨l, hl, ho⟩) (Keep.refl _ _) (Nat.le_refl _) (.inl rfl)⟩
    · refine ⟨.slc M.next 0 m (.op size), M.push (.row ds true el 0), ?_, hK _ _ ?_ ((Keep.refl _ _).push _) (by simp [RM.push]) (.inr fun b hb => by simp [blkOf] at hb; omega)⟩
      · have hl0 : M.loads b o (0 * size) = some [] := by rw [Nat.zero_mul]; exact loads_zero hl ho
        simp only [appM, if_neg hm]
        rw [if_neg (by omega), hl0]
        simp only [Nat.zero_add, List.nil_append]
        rw [if_pos ⟨hmb, by omega, h1⟩]
      · simp only [List.nil_append, Nat.zero_add]
        exact .op _ _ _ hbase (by simp [RM.push]) (RM.push_new _) hd
  | op b n cs hb0 hlt hh hl =>
    by_cases hm : m = 0
    · subst hm
      have : ds = [] := List.eq_nil_of_length_eq_zero (by simpa using hd)
      subst this
      exact ⟨_, M, by simp [appM], hK _ _ (by simpa using .op b n cs hb0 hlt hh hl) (Keep.refl _ _) (Nat.le_refl _) (.inl rfl)⟩
    · have hpos : 1 ≤ m * size := Nat.mul_pos (by omega) hs
      have hsum : (n + m) * size = n * size + m * size := Nat.add_mul _ _ _
      refine ⟨.slc M.next 0 (n + m) (.op size), (M.del b).push (.row (cs ++ ds) true el 0), ?_, hK _ _ ?_ (((Keep.refl _ _).del (.inr (by simp [blkOf]))).push _) (by simp [RM.push, RM.del]) (.inr fun b hb => by simp [blkOf] at hb; omega)⟩
      · simp only [appM, if_neg hm, hh, and_self, if_true]
        rw [if_neg (by omega), if_pos ⟨trivial, hb, hb2, trivial, hl, Nat.zero_le _, h1⟩]
      · exact .op _ _ _ (show base ≤ M.next from hbase) (by simp [RM.push, RM.del]) (by simp [RM.push, RM.del]) (by rw [List.length_append, hl, hd, hsum])

theorem SlR.refEq (h : SlR M size v cs n) (neg : Bool) : (v = nilS ∧ ∀ K : AV → Prop, refEqW neg 2 v nilS K = K (Bo (!neg))) ∨ (v ≠ nilS ∧ ∀ K : AV → Prop, refEqW neg 2 v nilS K = K (Bo neg)) := by
  cases h with
  | nil => exact .inl ⟨rfl, fun _ => refEqW_nil_nil neg⟩
  | emp b => exact .inr ⟨by (intro h; cases h), fun _ => refEqW_emp_nil neg b⟩
  | slc b o n cap cs hb0 hl => exact .inr ⟨by (intro h; cases h), fun _ => refEqW_slc_nil neg b o n cap⟩
/-- An empty literal of one's own. -/
theorem Own.lit {base el T : Nat} (M : RM) (h : base ≤ M.next) : Own (M.push (.row [] false T 0)) base el size (.slc M.next 0 0 (.ex 0)) [] 0 :=
  .ex0 _ _ h (by simp [RM.push]) ⟨[], by simp [RM.cells, RM.push], Nat.le_refl _⟩
theorem Own.ne_nil {base el : Nat} (h : Own M base el size v cs n) (hn : v ≠ nilS) : ∃ b o cap, v = .slc b o n cap := by
  cases h with
  | nil => exact absurd rfl hn
  | ex0 b o => exact ⟨_, _, _, rfl⟩
  | op b n cs => exact ⟨_, _, _, rfl⟩
end
end Go.Ab
