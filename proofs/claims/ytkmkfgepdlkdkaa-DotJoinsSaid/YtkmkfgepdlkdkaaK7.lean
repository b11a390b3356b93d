/- Part 7 of the ground of the proofs of this seat (texts Q3 to M7). By an AI agent. -/
import Derived.Test.YtkmkfgepdlkdkaaK6
import Derived.KernelRfl
/- Sorting numbers: the pivot, the short insertion sort: the walks. By an AI agent. -/
set_option maxRecDepth 10000
set_option linter.unusedVariables false
set_option linter.unusedSimpArgs false
namespace Go.Ab.Dot
open Go Go.Ab

/-- A memory in which a cell counts swaps. -/
def SM (M : RM) (s T k : Nat) : RM := M.put s (.row [N .i64 (k : Int)] false T 0)
theorem SM.put {M : RM} {s T k k' : Nat} : (SM M s T k).put s (.row [N .i64 (k' : Int)] false T 0) = SM M s T k' := by
  unfold SM RM.put
  congr 1
  funext c
  simp only
  by_cases h : c = s <;> simp [h]
theorem SM.new {M : RM} {T : Nat} : M.push (.row [N .i64 0] false T 0) = SM (M.push (.row [N .i64 0] false T 0)) M.next T 0 := by
  unfold SM RM.put RM.push
  congr 1
  funext c
  simp only
  by_cases h : c = M.next <;> simp [h]
def Order2X (T TI : Nat) (c : CallT) : Prop := ∀ {M : RM} {b s k i j : Nat} {d : Array Nat} {Q : PostV}, s ≠ b → i < d.size → j < d.size → k ≤ 1000 →
  Q (.tup [N .i64 (((Sort.order2 lN d i j k).1 : Nat) : Int), N .i64 (((Sort.order2 lN d i j k).2.1 : Nat) : Int)]) (PM (SM M s TI (Sort.order2 lN d i j k).2.2) b T d) → c [vv b d.size, N .i64 (i : Int), N .i64 (j : Int), .ptr s 0] (PM (SM M s TI k) b T d) Q
theorem order2x_spec {T TI : Nat} {cl : CallT} (hl : LessC cl) : Order2X T TI fun args M Q => ∃ a0 a1 a2 a3, args = [a0, a1, a2, a3] ∧ W_slices_order2Ordered_uint64 cl a0 a1 a2 a3 M Q := by
  intro M b s k i j d Q hsb hi hj hk hQ
  refine ⟨_, _, _, _, rfl, ?_⟩
  unfold W_slices_order2Ordered_uint64
  rw [PM.rd rfl (by omega), PM.rd rfl (by omega)]
  refine hl ?_
  unfold Sort.order2 at hQ
  refine condB (fun h => ?_) (fun h => ?_)
  · rw [if_pos (by exact h)] at hQ
    have hh : (PM (SM M s TI k) b T d).heap s = some (.row [N .i64 (k : Int)] false TI 0) := by
      rw [PM.heapNe hsb]; exact RM.put_same _ _
    rw [ptrW_ptr, load1_at hh rfl, add1 (by omega), ptrW_ptr, storeW_at hh (by simp) rfl rfl]
    rw [PM.putNe hsb]
    rw [show ([N .i64 (k : Int)] : List AV).set 0 (N .i64 ((k + 1 : Nat) : Int)) = [N .i64 ((k + 1 : Nat) : Int)] from rfl, SM.put]
    exact hQ
  · rw [if_neg (by rw [show lN d[j]! d[i]! = false from h]; decide)] at hQ
    exact hQ
theorem order2_in (d : Array Nat) (i j k : Nat) : (((Sort.order2 lN d i j k).1 = i ∧ (Sort.order2 lN d i j k).2.1 = j) ∨ ((Sort.order2 lN d i j k).1 = j ∧ (Sort.order2 lN d i j k).2.1 = i)) ∧ k ≤ (Sort.order2 lN d i j k).2.2 ∧ (Sort.order2 lN d i j k).2.2 ≤ k + 1 := by
  unfold Sort.order2
  split <;> simp
def MedianX (T TI : Nat) (c : CallT) : Prop := ∀ {M : RM} {b s k i j h : Nat} {d : Array Nat} {Q : PostV}, s ≠ b → i < d.size → j < d.size → h < d.size → k ≤ 900 →
  Q (N .i64 (((Sort.median lN d i j h k).1 : Nat) : Int)) (PM (SM M s TI (Sort.median lN d i j h k).2) b T d) → c [vv b d.size, N .i64 (i : Int), N .i64 (j : Int), N .i64 (h : Int), .ptr s 0] (PM (SM M s TI k) b T d) Q
theorem medianx_spec {T TI : Nat} {c2 : CallT} (h2 : Order2X T TI c2) : MedianX T TI fun args M Q => ∃ a0 a1 a2 a3 a4, args = [a0, a1, a2, a3, a4] ∧ W_slices_medianOrdered_uint64 c2 a0 a1 a2 a3 a4 M Q := by
  intro M b s k i j h d Q hsb hi hj hh hk hQ
  refine ⟨_, _, _, _, _, rfl, ?_⟩
  unfold W_slices_medianOrdered_uint64
  unfold Sort.median at hQ
  have o1 := order2_in d i j k
  refine h2 hsb hi hj (by omega) ?_
  rw [extW0, extW1]
  dsimp only at hQ
  generalize Sort.order2 lN d i j k = r1 at *
  have o2 := order2_in d r1.2.1 h r1.2.2
  refine h2 hsb (by omega) hh (by omega) ?_
  rw [extW0, extW1]
  generalize Sort.order2 lN d r1.2.1 h r1.2.2 = r2 at *
  refine h2 hsb (by omega) (by omega) (by omega) ?_
  rw [extW0, extW1]
  exact hQ
theorem median_in (d : Array Nat) {i j h k n : Nat} (hi : i < n) (hj : j < n) (hh : h < n) : (Sort.median lN d i j h k).1 < n ∧ (Sort.median lN d i j h k).2 ≤ k + 3 := by
  unfold Sort.median
  dsimp only
  have o1 := order2_in d i j k
  generalize Sort.order2 lN d i j k = r1 at *
  have o2 := order2_in d r1.2.1 h r1.2.2
  generalize Sort.order2 lN d r1.2.1 h r1.2.2 = r2 at *
  have o3 := order2_in d r1.1 r2.1 r2.2.2
  omega
def MedAdjX (T TI : Nat) (c : CallT) : Prop := ∀ {M : RM} {b s k i : Nat} {d : Array Nat} {Q : PostV}, s ≠ b → d.size ≤ 1000000 → 1 ≤ i → i + 1 < d.size → k ≤ 900 →
  Q (N .i64 (((Sort.medianAdjacent lN d i k).1 : Nat) : Int)) (PM (SM M s TI (Sort.medianAdjacent lN d i k).2) b T d) → c [vv b d.size, N .i64 (i : Int), .ptr s 0] (PM (SM M s TI k) b T d) Q
theorem medadjx_spec {T TI : Nat} {cm : CallT} (hm : MedianX T TI cm) : MedAdjX T TI fun args M Q => ∃ a0 a1 a2, args = [a0, a1, a2] ∧ W_slices_medianAdjacentOrdered_uint64 cm a0 a1 a2 M Q := by
  intro M b s k i d Q hsb hsz h1 h2 hk hQ
  refine ⟨_, _, _, rfl, ?_⟩
  unfold W_slices_medianAdjacentOrdered_uint64
  rw [sub1 (by omega) (by omega), add1 (by omega)]
  exact hm hsb (by omega) (by omega) (by omega) hk hQ
def hintV : Sort.Hint → Int
  | .unknown => 0
  | .increasing => 1
  | .decreasing => 2
def ChooseX (T : Nat) (c : CallT) : Prop := ∀ {M : RM} {b a e : Nat} {d : Array Nat} {Q : PostV}, b < M.next → d.size ≤ 1000000 → a < e → e ≤ d.size →
  (∀ M', Keep [] M M' → Q (.tup [N .i64 (((Sort.choosePivot lN d a e).1 : Nat) : Int), N .i64 (hintV (Sort.choosePivot lN d a e).2)]) (PM M' b T d)) → c [vv b d.size, N .i64 (a : Int), N .i64 (e : Int)] (PM M b T d) Q
theorem choosex_spec {T TI : Nat} {ca cm : CallT} (ha : MedAdjX T TI ca) (hm : MedianX T TI cm) : ChooseX T fun args M Q => ∃ a0 a1 a2, args = [a0, a1, a2] ∧ W_slices_choosePivotOrdered_uint64 TI ca cm a0 a1 a2 M Q := by
  intro M b a e d Q hb hsz hae he hQ
  refine ⟨_, _, _, rfl, ?_⟩
  unfold W_slices_choosePivotOrdered_uint64
  simp only [joinW_shut]
  rw [subN (by omega) (by omega), newW_eq, PM.push hb]
  have hnx : (PM M b T d).next = M.next := rfl
  rw [hnx]
  have kk : Keep [] M (M.push (.row [N .i64 0] false TI 0)) := (Keep.refl _ _).push _
  have kS : ∀ k, Keep [] M (SM (M.push (.row [N .i64 0] false TI 0)) M.next TI k) := fun k => kk.new _ (Nat.le_refl _)
  rw [show PM (M.push (.row [N .i64 0] false TI 0)) b T d = PM (SM (M.push (.row [N .i64 0] false TI 0)) M.next TI 0) b T d by rw [← SM.new]]
  generalize M.push (.row [N .i64 0] false TI 0) = M1 at *
  have hsb : M.next ≠ b := by omega
  generalize M.next = s at *
  have hq : ∀ (k : Nat) (c : Int), c = (k : Int) → k ≤ 3 → ∀ (K : AV → Prop), (intW .quo (N .i64 ((e - a : Nat) : Int)) (N .i64 4) fun t18 => intW .mul t18 (N .i64 c) fun t19 => intW .add (N .i64 (a : Int)) t19 K) = K (N .i64 ((a + (e - a) / 4 * k : Nat) : Int)) := fun k c hc hk K => by
    subst hc
    have hb : (e - a) / 4 * k ≤ (e - a) * 3 := Nat.mul_le_mul (Nat.div_le_self _ _) hk
    rw [intW_quo, show (4 : Int) = ((4 : Nat) : Int) from rfl, quo_nat, wrap_i64_id (by omega) (by omega), intW_mul, ← Int.natCast_mul, wrap_i64_id (by omega) (by omega), addN (by omega)]
    exact propext ⟨fun h => h.2, fun h => ⟨by decide, h⟩⟩
  rw [hq 1 1 rfl (by omega), hq 2 2 rfl (by omega), hq 3 3 rfl (by omega)]
  have hcp : Sort.choosePivot lN d a e = ((if e - a ≥ 8 then (if e - a ≥ 50 then Sort.median lN d (Sort.medianAdjacent lN d (a + (e - a) / 4 * 1) 0).1 (Sort.medianAdjacent lN d (a + (e - a) / 4 * 2) (Sort.medianAdjacent lN d (a + (e - a) / 4 * 1) 0).2).1 (Sort.medianAdjacent lN d (a + (e - a) / 4 * 3) (Sort.medianAdjacent lN d (a + (e - a) / 4 * 2) (Sort.medianAdjacent lN d (a + (e - a) / 4 * 1) 0).2).2).1 (Sort.medianAdjacent lN d (a + (e - a) / 4 * 3) (Sort.medianAdjacent lN d (a + (e - a) / 4 * 2) (Sort.medianAdjacent lN d (a + (e - a) / 4 * 1) 0).2).2).2
      else Sort.median lN d (a + (e - a) / 4 * 1) (a + (e - a) / 4 * 2) (a + (e - a) / 4 * 3) 0) else (a + (e - a) / 4 * 2, 0) : Nat × Nat).1,
      if (if e - a ≥ 8 then (if e - a ≥ 50 then Sort.median lN d (Sort.medianAdjacent lN d (a + (e - a) / 4 * 1) 0).1 (Sort.medianAdjacent lN d (a + (e - a) / 4 * 2) (Sort.medianAdjacent lN d (a + (e - a) / 4 * 1) 0).2).1 (Sort.medianAdjacent lN d (a + (e - a) / 4 * 3) (Sort.medianAdjacent lN d (a + (e - a) / 4 * 2) (Sort.medianAdjacent lN d (a + (e - a) / 4 * 1) 0).2).2).1 (Sort.medianAdjacent lN d (a + (e - a) / 4 * 3) (Sort.medianAdjacent lN d (a + (e - a) / 4 * 2) (Sort.medianAdjacent lN d (a + (e - a) / 4 * 1) 0).2).2).2
      else Sort.median lN d (a + (e - a) / 4 * 1) (a + (e - a) / 4 * 2) (a + (e - a) / 4 * 3) 0) else (a + (e - a) / 4 * 2, 0) : Nat × Nat).2 = 0 then .increasing else if (if e - a ≥ 8 then (if e - a ≥ 50 then Sort.median lN d (Sort.medianAdjacent lN d (a + (e - a) / 4 * 1) 0).1 (Sort.medianAdjacent lN d (a + (e - a) / 4 * 2) (Sort.medianAdjacent lN d (a + (e - a) / 4 * 1) 0).2).1 (Sort.medianAdjacent lN d (a + (e - a) / 4 * 3) (Sort.medianAdjacent lN d (a + (e - a) / 4 * 2) (Sort.medianAdjacent lN d (a + (e - a) / 4 * 1) 0).2).2).1 (Sort.medianAdjacent lN d (a + (e - a) / 4 * 3) (Sort.medianAdjacent lN d (a + (e - a) / 4 * 2) (Sort.medianAdjacent lN d (a + (e - a) / 4 * 1) 0).2).2).2
      else Sort.median lN d (a + (e - a) / 4 * 1) (a + (e - a) / 4 * 2) (a + (e - a) / 4 * 3) 0) else (a + (e - a) / 4 * 2, 0) : Nat × Nat).2 = 12 then .decreasing else .unknown) := rfl
  rw [hcp] at hQ
  generalize hr : (if e - a ≥ 8 then (if e - a ≥ 50 then Sort.median lN d (Sort.medianAdjacent lN d (a + (e - a) / 4 * 1) 0).1 (Sort.medianAdjacent lN d (a + (e - a) / 4 * 2) (Sort.medianAdjacent lN d (a + (e - a) / 4 * 1) 0).2).1 (Sort.medianAdjacent lN d (a + (e - a) / 4 * 3) (Sort.medianAdjacent lN d (a + (e - a) / 4 * 2) (Sort.medianAdjacent lN d (a + (e - a) / 4 * 1) 0).2).2).1 (Sort.medianAdjacent lN d (a + (e - a) / 4 * 3) (Sort.medianAdjacent lN d (a + (e - a) / 4 * 2) (Sort.medianAdjacent lN d (a + (e - a) / 4 * 1) 0).2).2).2
      else Sort.median lN d (a + (e - a) / 4 * 1) (a + (e - a) / 4 * 2) (a + (e - a) / 4 * 3) 0) else (a + (e - a) / 4 * 2, 0) : Nat × Nat) = r at hQ
  refine joinV_spec (fun zs M' => zs = [N .i64 ((r.1 : Nat) : Int)] ∧ M' = PM (SM M1 s TI r.2) b T d) ?_ ?_
  · rintro zs M' ⟨rfl, rfl⟩
    dsimp only [nthD]
    have hh : (PM (SM M1 s TI r.2) b T d).heap s = some (.row [N .i64 (r.2 : Int)] false TI 0) := by
      rw [PM.heapNe hsb]; exact RM.put_same _ _
    have := hQ _ (kS r.2)
    rw [load1_at hh rfl, intW_eql]
    by_cases h0 : r.2 = 0
    · rw [show ((r.2 : Int) == 0) = true by rw [h0]; rfl, condT]
      rw [if_pos h0] at this
      exact this
    · rw [show ((r.2 : Int) == 0) = false by rw [beq_eq_false_iff_ne]; omega, condF, intW_eql]
      rw [if_neg h0] at this
      by_cases h12 : r.2 = 12
      · rw [show ((r.2 : Int) == 12) = true by rw [h12]; rfl, condT]
        rw [if_pos h12] at this
        exact this
      · rw [show ((r.2 : Int) == 12) = false by rw [beq_eq_false_iff_ne]; omega, condF]
        rw [if_neg h12] at this
        exact this
  intro J hJ
  rw [show (8 : Int) = ((8 : Nat) : Int) from rfl, geqN]
  refine condB (fun h8 => ?_) (fun h8 => ?_)
  · have h8 : e - a ≥ 8 := of_decide_eq_true h8
    rw [if_pos h8] at hr
    refine joinV_spec (fun zs M' => ∃ x y z k : Nat, zs = [N .i64 (x : Int), N .i64 (y : Int), N .i64 (z : Int)] ∧ M' = PM (SM M1 s TI k) b T d ∧ x < d.size ∧ y < d.size ∧ z < d.size ∧ k ≤ 900 ∧ Sort.median lN d x y z k = r) ?_ ?_
    · rintro zs M' ⟨x, y, z, k, rfl, rfl, hx, hy, hz, hk, he⟩
      dsimp only [nthD]
      refine hm hsb hx hy hz hk ?_
      rw [he]
      exact hJ _ _ ⟨rfl, rfl⟩
    intro J0 hJ0
    rw [show (50 : Int) = ((50 : Nat) : Int) from rfl, geqN]
    refine condB (fun h50 => ?_) (fun h50 => ?_)
    · have h50 : e - a ≥ 50 := of_decide_eq_true h50
      rw [if_pos h50] at hr
      have m1 := median_in d (i := a + (e - a) / 4 * 1 - 1) (j := a + (e - a) / 4 * 1) (h := a + (e - a) / 4 * 1 + 1) (k := 0) (n := d.size) (by omega) (by omega) (by omega)
      have r1 : (Sort.medianAdjacent lN d (a + (e - a) / 4 * 1) 0).1 < d.size ∧ (Sort.medianAdjacent lN d (a + (e - a) / 4 * 1) 0).2 ≤ 0 + 3 := m1
      refine ha hsb hsz (by omega) (by omega) (by omega) ?_
      generalize Sort.medianAdjacent lN d (a + (e - a) / 4 * 1) 0 = q1 at *
      have m2 := median_in d (i := a + (e - a) / 4 * 2 - 1) (j := a + (e - a) / 4 * 2) (h := a + (e - a) / 4 * 2 + 1) (k := q1.2) (n := d.size) (by omega) (by omega) (by omega)
      have r2 : (Sort.medianAdjacent lN d (a + (e - a) / 4 * 2) q1.2).1 < d.size ∧ (Sort.medianAdjacent lN d (a + (e - a) / 4 * 2) q1.2).2 ≤ q1.2 + 3 := m2
      refine ha hsb hsz (by omega) (by omega) (by omega) ?_
      generalize Sort.medianAdjacent lN d (a + (e - a) / 4 * 2) q1.2 = q2 at *
      have m3 := median_in d (i := a + (e - a) / 4 * 3 - 1) (j := a + (e - a) / 4 * 3) (h := a + (e - a) / 4 * 3 + 1) (k := q2.2) (n := d.size) (by omega) (by omega) (by omega)
      have r3 : (Sort.medianAdjacent lN d (a + (e - a) / 4 * 3) q2.2).1 < d.size ∧ (Sort.medianAdjacent lN d (a + (e - a) / 4 * 3) q2.2).2 ≤ q2.2 + 3 := m3
      refine ha hsb hsz (by omega) (by omega) (by omega) ?_
      generalize Sort.medianAdjacent lN d (a + (e - a) / 4 * 3) q2.2 = q3 at *
      exact hJ0 _ _ ⟨q1.1, q2.1, q3.1, q3.2, rfl, rfl, r1.1, r2.1, r3.1, by omega, hr⟩
    · have h50 : ¬ e - a ≥ 50 := of_decide_eq_false h50
      rw [if_neg h50] at hr
      exact hJ0 _ _ ⟨_, _, _, 0, rfl, rfl, by omega, by omega, by omega, by omega, hr⟩
  · have h8 : ¬ e - a ≥ 8 := of_decide_eq_false h8
    rw [if_neg h8] at hr
    subst hr
    exact hJ _ _ ⟨rfl, rfl⟩

/-! ### the short insertion sort -/
theorem shiftDown_sz : ∀ (j : Nat) (d : Array Nat), (Sort.shiftDown lN j d).size = d.size
  | 0, d => rfl
  | j + 1, d => by
    rw [Sort.shiftDown]
    split
    · rfl
    · rw [shiftDown_sz j, swp_sz]
theorem shiftUp_sz (e : Nat) : ∀ (k j : Nat) (d : Array Nat), e - j ≤ k → (Sort.shiftUp lN e j d).size = d.size
  | 0, j, d, h => by rw [Sort.shiftUp, if_neg (by omega)]
  | k + 1, j, d, h => by
    rw [Sort.shiftUp]
    split
    · split
      · rfl
      · rw [shiftUp_sz e k _ _ (by omega), swp_sz]
    · rfl
def PartInsX (T : Nat) (c : CallT) : Prop := ∀ {M : RM} {b a e : Nat} {d : Array Nat} {Q : PostV}, b < M.next → d.size ≤ 1000000 → a < e → e ≤ d.size → Q (Bo (Sort.partialInsertionSort lN d a e).2) (PM M b T (Sort.partialInsertionSort lN d a e).1) →
  c [vv b d.size, N .i64 (a : Int), N .i64 (e : Int)] (PM M b T d) Q
theorem partialIns_eq (a b s i : Nat) (d : Array Nat) : Sort.partialIns lN a b (s + 1) i d =
    if Sort.scanSorted lN d b i = b then (d, true) else if b - a < 50 then (d, false) else
      Sort.partialIns lN a b s (Sort.scanSorted lN d b i) (if b - Sort.scanSorted lN d b i ≥ 2 then Sort.shiftUp lN b (Sort.scanSorted lN d b i + 1) (if Sort.scanSorted lN d b i - a ≥ 2 then Sort.shiftDown lN (Sort.scanSorted lN d b i - 1) (Sort.swp d (Sort.scanSorted lN d b i) (Sort.scanSorted lN d b i - 1)) else Sort.swp d (Sort.scanSorted lN d b i) (Sort.scanSorted lN d b i - 1))
        else (if Sort.scanSorted lN d b i - a ≥ 2 then Sort.shiftDown lN (Sort.scanSorted lN d b i - 1) (Sort.swp d (Sort.scanSorted lN d b i) (Sort.scanSorted lN d b i - 1)) else Sort.swp d (Sort.scanSorted lN d b i) (Sort.scanSorted lN d b i - 1))) := rfl
theorem partInsx_spec {T : Nat} {cl : CallT} (hl : LessC cl) : PartInsX T fun args M Q => ∃ a0 a1 a2, args = [a0, a1, a2] ∧ W_slices_partialInsertionSortOrdered_uint64 cl a0 a1 a2 M Q := by
  intro M b a e d Q hb hsz hae he hQ
  refine ⟨_, _, _, rfl, ?_⟩
  unfold W_slices_partialInsertionSortOrdered_uint64
  simp only [fuseK, fuseKM, fuseMK, joinW_shut]
  rw [add1 (by omega)]
  unfold Sort.partialInsertionSort at hQ
  obtain ⟨R, hR⟩ : ∃ R, R = Sort.partialIns lN a e 5 (a + 1) d := ⟨_, rfl⟩
  rw [← hR] at hQ
  refine loopW_ind (fun m ys M3 => ∃ (i s : Nat) (d3 : Array Nat), m = s ∧ s ≤ 5 ∧ ys = [N .i64 (i : Int), N .i64 ((5 - s : Nat) : Int)] ∧ a + 1 ≤ i ∧ i ≤ e ∧ M3 = PM M b T d3 ∧ d3.size = d.size ∧ R = Sort.partialIns lN a e s i d3) _ ⟨a + 1, 5, d, rfl, by omega, rfl, by omega, by omega, rfl, rfl, hR⟩ ?_
  rintro next m ys M3 hnext ⟨i, s, d3, hms, hs5, rfl, hai, hie, rfl, hs3, hm⟩
  dsimp only [nthD]
  rw [show (5 : Int) = ((5 : Nat) : Int) from rfl, lssN]
  refine condB (fun hg => ?_) (fun hg => ?_)
  · have hg : 5 - s < 5 := of_decide_eq_true hg
    obtain ⟨s', rfl⟩ : ∃ s', s = s' + 1 := ⟨s - 1, by omega⟩
    rw [partialIns_eq] at hm
    refine joinV_spec (fun zs M' => ∃ (i' : Nat) (d4 : Array Nat), zs = [N .i64 (i' : Int)] ∧ a + 1 ≤ i' ∧ i' ≤ e ∧ M' = PM M b T d4 ∧ d4.size = d.size ∧ R = Sort.partialIns lN a e s' i' d4) ?_ ?_
    · rintro zs M' ⟨i', d4, rfl, h1, h2, rfl, h3, h4⟩
      dsimp only [nthD]
      rw [add1 (by omega)]
      exact hnext _ _ _ (by omega) ⟨i', s', d4, rfl, by omega, by congr 4; omega, h1, h2, rfl, h3, h4⟩
    intro J hJ
    obtain ⟨R5, hR5⟩ : ∃ R5, R5 = Sort.scanSorted lN d3 e i := ⟨_, rfl⟩
    rw [← hR5] at hm
    refine loopW_ind (fun m ys M5 => ∃ (j : Nat), m = e - j ∧ ys = [N .i64 (j : Int)] ∧ i ≤ j ∧ j ≤ e ∧ M5 = PM M b T d3 ∧ R5 = Sort.scanSorted lN d3 e j) _ ⟨i, rfl, rfl, Nat.le_refl _, hie, rfl, hR5⟩ ?_
    rintro next2 m ys M5 hnext2 ⟨j, rfl, rfl, hij, hje, rfl, hm5⟩
    dsimp only [nthD]
    rw [Sort.scanSorted] at hm5
    rw [lssN]
    refine andK (p := !lN d3[j]! d3[j - 1]!) (fun hc k hk => ?_) ?_
    · have hc : j < e := of_decide_eq_true hc
      rw [PM.rd hs3.symm (by omega), sub1 (by omega) (by omega), PM.rd hs3.symm (by omega)]
      refine hl ?_
      rw [notW_Bo]
      exact hk
    refine condB (fun h => ?_) (fun h => ?_)
    · have hc : j < e := by
        rw [Bool.and_eq_true] at h
        exact of_decide_eq_true h.1
      rw [if_pos h] at hm5
      rw [add1 (by omega)]
      exact hnext2 _ _ _ (by omega) ⟨j + 1, rfl, rfl, by omega, by omega, rfl, hm5⟩
    rw [if_neg (by rw [h]; decide)] at hm5
    subst hm5
    rw [eqlN]
    refine condB (fun hje2 => ?_) (fun hje2 => ?_)
    · rw [if_pos (of_decide_eq_true hje2)] at hm
      rw [hm] at hQ
      exact hQ
    have hje2 : ¬ R5 = e := of_decide_eq_false hje2
    rw [if_neg hje2] at hm
    rw [subN (by omega) (by omega), show (50 : Int) = ((50 : Nat) : Int) from rfl, lssN]
    refine condB (fun h50 => ?_) (fun h50 => ?_)
    · rw [if_pos (of_decide_eq_true h50)] at hm
      rw [hm] at hQ
      exact hQ
    rw [if_neg (of_decide_eq_false h50)] at hm
    rw [sub1 (by omega) (by omega), sub1 (by omega) (by omega), PM.rd hs3.symm (by omega), PM.rd hs3.symm (by omega), PM.swap hs3.symm (by omega) (by omega)]
    have hs6 := swp_szE (i := R5) (j := R5 - 1) hs3
    generalize Sort.swp d3 R5 (R5 - 1) = d6 at *
    refine joinV_spec (fun zs M' => zs = [] ∧ M' = PM M b T (if R5 - a ≥ 2 then Sort.shiftDown lN (R5 - 1) d6 else d6)) ?_ ?_
    · rintro zs M' ⟨rfl, rfl⟩
      have hs7 : (if R5 - a ≥ 2 then Sort.shiftDown lN (R5 - 1) d6 else d6).size = d.size := by
        split
        · rw [shiftDown_sz, hs6]
        · exact hs6
      generalize (if R5 - a ≥ 2 then Sort.shiftDown lN (R5 - 1) d6 else d6) = d7 at *
      rw [subN (by omega) (by omega), show (2 : Int) = ((2 : Nat) : Int) from rfl, geqN]
      refine condB (fun h2 => ?_) (fun h2 => ?_)
      · rw [if_pos (of_decide_eq_true h2)] at hm
        rw [add1 (by omega)]
        have hs8 := shiftUp_sz e e (R5 + 1) d7 (by omega)
        obtain ⟨R8, hR8⟩ : ∃ R8, R8 = Sort.shiftUp lN e (R5 + 1) d7 := ⟨_, rfl⟩
        rw [← hR8] at hm hs8
        refine loopW_ind (fun m ys M8 => ∃ (j : Nat) (d8 : Array Nat), m = e - j ∧ ys = [N .i64 (j : Int)] ∧ R5 + 1 ≤ j ∧ j ≤ e ∧ M8 = PM M b T d8 ∧ d8.size = d.size ∧ R8 = Sort.shiftUp lN e j d8) _ ⟨R5 + 1, d7, rfl, rfl, Nat.le_refl _, by omega, rfl, hs7, hR8⟩ ?_
        rintro next3 m ys M8 hnext3 ⟨j, d8, rfl, rfl, hj1, hj2, rfl, hs8', hm8⟩
        dsimp only [nthD]
        rw [Sort.shiftUp] at hm8
        rw [lssN]
        refine condB (fun hl1 => ?_) (fun hl1 => ?_)
        · have hl1 : j < e := of_decide_eq_true hl1
          rw [if_pos hl1] at hm8
          rw [PM.rd hs8'.symm (by omega), sub1 (by omega) (by omega), PM.rd hs8'.symm (by omega)]
          refine hl ?_
          rw [notW_Bo]
          refine condB (fun hn => ?_) (fun hn => ?_)
          · rw [if_pos hn] at hm8
            subst hm8
            exact hJ _ _ ⟨R5, R8, rfl, by omega, by omega, rfl, hs8', hm⟩
          · rw [if_neg (by rw [show (!lN d8[j]! d8[j - 1]!) = false from hn]; decide)] at hm8
            rw [sub1 (by omega) (by omega), sub1 (by omega) (by omega), PM.rd hs8'.symm (by omega), PM.rd hs8'.symm (by omega), PM.swap hs8'.symm (by omega) (by omega), add1 (by omega)]
            exact hnext3 _ _ _ (by omega) ⟨j + 1, _, rfl, rfl, by omega, by omega, rfl, swp_szE hs8', hm8⟩
        · rw [if_neg (of_decide_eq_false hl1)] at hm8
          subst hm8
          exact hJ _ _ ⟨R5, R8, rfl, by omega, by omega, rfl, hs8', hm⟩
      · rw [if_neg (of_decide_eq_false h2)] at hm
        exact hJ _ _ ⟨R5, d7, rfl, by omega, by omega, rfl, hs7, hm⟩
    intro J2 hJ2
    rw [subN (by omega) (by omega), show (2 : Int) = ((2 : Nat) : Int) from rfl, geqN]
    refine condB (fun h2 => ?_) (fun h2 => ?_)
    · rw [if_pos (of_decide_eq_true h2)] at hJ2
      rw [sub1 (by omega) (by omega)]
      obtain ⟨R8, hR8⟩ : ∃ R8, R8 = Sort.shiftDown lN (R5 - 1) d6 := ⟨_, rfl⟩
      rw [← hR8] at hJ2
      refine loopW_ind (fun m ys M8 => ∃ (j : Nat) (d8 : Array Nat), m = j + 1 ∧ ys = [N .i64 (j : Int)] ∧ j < R5 ∧ M8 = PM M b T d8 ∧ d8.size = d.size ∧ R8 = Sort.shiftDown lN j d8) _ ⟨R5 - 1, d6, rfl, rfl, by omega, rfl, hs6, hR8⟩ ?_
      rintro next3 m ys M8 hnext3 ⟨j, d8, rfl, rfl, hj1, rfl, hs8', hm8⟩
      dsimp only [nthD]
      rw [show (1 : Int) = ((1 : Nat) : Int) from rfl, geqN]
      refine condB (fun hl1 => ?_) (fun hl1 => ?_)
      · have hl1 : j ≥ 1 := of_decide_eq_true hl1
        obtain ⟨j', rfl⟩ : ∃ j', j = j' + 1 := ⟨j - 1, by omega⟩
        rw [Sort.shiftDown] at hm8
        rw [PM.rd hs8'.symm (by omega), subN (by omega) (by omega), Nat.add_sub_cancel, PM.rd hs8'.symm (by omega)]
        refine hl ?_
        rw [notW_Bo]
        refine condB (fun hn => ?_) (fun hn => ?_)
        · rw [if_pos hn] at hm8
          subst hm8
          exact hJ2 _ _ ⟨rfl, rfl⟩
        · rw [if_neg (by rw [show (!lN d8[j' + 1]! d8[j']!) = false from hn]; decide)] at hm8
          rw [subN (by omega) (by omega), subN (by omega) (by omega), Nat.add_sub_cancel, PM.rd hs8'.symm (by omega), PM.rd hs8'.symm (by omega), PM.swap hs8'.symm (by omega) (by omega), subN (by omega) (by omega), Nat.add_sub_cancel]
          exact hnext3 _ _ _ (by omega) ⟨j', _, rfl, rfl, by omega, rfl, swp_szE hs8', hm8⟩
      · have hl1 : ¬ j ≥ 1 := of_decide_eq_false hl1
        have h0 : j = 0 := by omega
        subst h0
        rw [Sort.shiftDown] at hm8
        subst hm8
        exact hJ2 _ _ ⟨rfl, rfl⟩
    · rw [if_neg (of_decide_eq_false h2)] at hJ2
      exact hJ2 _ _ ⟨rfl, rfl⟩
  · have hg : ¬ 5 - s < 5 := of_decide_eq_false hg
    have h0 : s = 0 := by omega
    subst h0
    rw [Sort.partialIns] at hm
    rw [hm] at hQ
    exact hQ
end Go.Ab.Dot
/- Sorting numbers: sizes; the patterns: the walks. By an AI agent. -/
set_option maxRecDepth 10000
set_option linter.unusedVariables false
set_option linter.unusedSimpArgs false
namespace Go.Ab.Dot
open Go Go.Ab

/-! ### sizes and ranges -/
theorem scanUp_rng (p : Nat → Bool) (d : Array Nat) (J : Nat) : ∀ (n i : Nat), J + 1 - i ≤ n → i ≤ Sort.scanUp p d J i ∧ Sort.scanUp p d J i ≤ max (J + 1) i
  | 0, i, h => by
    rw [Sort.scanUp, if_neg (by simp; omega)]; omega
  | n + 1, i, h => by
    rw [Sort.scanUp]
    split
    · rename_i hc
      rw [Bool.and_eq_true] at hc
      have := of_decide_eq_true hc.1
      have := scanUp_rng p d J n (i + 1) (by omega)
      omega
    · omega
theorem scanDown_rng (p : Nat → Bool) (d : Array Nat) (i : Nat) : ∀ j, Sort.scanDown p d i j ≤ j
  | 0 => Nat.le_refl _
  | j + 1 => by
    rw [Sort.scanDown]
    split
    · have := scanDown_rng p d i j; omega
    · omega
theorem partEqLoop_rng (a : Nat) : ∀ (n i j : Nat) (d : Array Nat), j + 1 - i ≤ n → i ≤ (Sort.partEqLoop lN a i j d).1 ∧ (Sort.partEqLoop lN a i j d).1 ≤ max (j + 1) i ∧ (Sort.partEqLoop lN a i j d).2.size = d.size
  | n, i, j, d, h => by
    have h1 := scanUp_rng (fun x => !lN d[a]! x) d j _ i (Nat.le_refl _)
    have h2 := scanDown_rng (fun x => lN d[a]! x) d (Sort.scanUp (fun x => !lN d[a]! x) d j i) j
    rw [Sort.partEqLoop]
    generalize Sort.scanUp (fun x => !lN d[a]! x) d j i = i2 at *
    generalize Sort.scanDown (fun x => lN d[a]! x) d i2 j = j2 at *
    split
    · exact ⟨h1.1, h1.2, rfl⟩
    · split
      · cases n with
        | zero => omega
        | succ n =>
          have h3 := partEqLoop_rng a n (i2 + 1) (j2 - 1) (Sort.swp d i2 j2) (by omega)
          rw [swp_sz] at h3
          omega
      · exact ⟨h1.1, h1.2, rfl⟩
theorem partLoop_sz (a : Nat) : ∀ (n i j : Nat) (d : Array Nat), j + 1 - i ≤ n → (Sort.partLoop lN a i j d).1 ≤ j ∧ (Sort.partLoop lN a i j d).2.size = d.size
  | n, i, j, d, h => by
    have h1 := scanUp_rng (fun x => lN x d[a]!) d j _ i (Nat.le_refl _)
    have h2 := scanDown_rng (fun x => !lN x d[a]!) d (Sort.scanUp (fun x => lN x d[a]!) d j i) j
    rw [Sort.partLoop]
    generalize Sort.scanUp (fun x => lN x d[a]!) d j i = i2 at *
    generalize Sort.scanDown (fun x => !lN x d[a]!) d i2 j = j2 at *
    split
    · exact ⟨h2, rfl⟩
    · split
      · cases n with
        | zero => omega
        | succ n =>
          have h3 := partLoop_sz a n (i2 + 1) (j2 - 1) (Sort.swp d i2 j2) (by omega)
          rw [swp_sz] at h3
          exact ⟨by omega, h3.2⟩
      · exact ⟨h2, rfl⟩
theorem partIns_sz (a e : Nat) : ∀ (s i : Nat) (d : Array Nat), (Sort.partialIns lN a e s i d).1.size = d.size
  | 0, i, d => rfl
  | s + 1, i, d => by
    rw [partialIns_eq]
    split
    · rfl
    · split
      · rfl
      · rw [partIns_sz a e s]
        have h1 : ∀ x, (if x - a ≥ 2 then Sort.shiftDown lN (x - 1) (Sort.swp d x (x - 1)) else Sort.swp d x (x - 1)).size = d.size := fun x => by
          split
          · rw [shiftDown_sz, swp_sz]
          · rw [swp_sz]
        split
        · rw [shiftUp_sz e e _ _ (by omega), h1]
        · rw [h1]

/-! ### how many bits -/
theorem bits_256 {x : Nat} (h : 256 ≤ x) : Sort.bitsLen x = Sort.bitsLen (x / 256) + 8 := by
  have h0 : x / 256 ≠ 0 := by omega
  unfold Sort.bitsLen
  rw [if_neg (by omega), if_neg h0]
  have h1 := (Nat.log2_eq_iff h0 (k := (x / 256).log2)).1 rfl
  have h2 : x.log2 = (x / 256).log2 + 8 := by
    rw [Nat.log2_eq_iff (by omega)]
    rw [show (x / 256).log2 + 8 + 1 = ((x / 256).log2 + 1) + 8 by omega, Nat.pow_add, Nat.pow_add _ ((x / 256).log2 + 1)]
    generalize 2 ^ (x / 256).log2 = u at *
    generalize 2 ^ ((x / 256).log2 + 1) = v at *
    omega
  omega
theorem tab_exact {tab : List UInt8} {x : Nat} (h : (List.range 256).all (fun i => tab[i]? == some (UInt8.ofNat (Sort.bitsLen i))) = true) (hx : x < 256) : tab[x]? = some (UInt8.ofNat (Sort.bitsLen x)) := by
  have := List.all_eq_true.1 h x (List.mem_range.2 hx)
  exact eq_of_beq this
theorem bits_lt {x : Nat} (h : x < 256) : Sort.bitsLen x ≤ 8 := by
  unfold Sort.bitsLen
  split
  · omega
  · rename_i h0
    have := (Nat.log2_lt h0 (k := 8)).2 (by omega)
    omega
def LenX (c : CallT) : Prop := ∀ {M : RM} {x : Nat} {Q : PostV}, x < 65536 → Q (N .i64 (Sort.bitsLen x : Nat)) M → c [N .u64 (x : Int)] M Q
theorem len64x_spec : LenX fun args M Q => ∃ a0, args = [a0] ∧ W_math_bits_Len64 a0 M Q := by
  intro M x Q hx hQ
  refine ⟨_, rfl, ?_⟩
  unfold W_math_bits_Len64
  rw [joinW_eq, intW_geq, show decide ((x : Int) ≥ 4294967296) = false by simp; omega, condF]
  dsimp only [nthD]
  rw [joinW_eq, intW_geq, show decide ((x : Int) ≥ 65536) = false by simp; omega, condF]
  dsimp only [nthD]
  rw [joinW_eq, intW_geq]
  have fin : ∀ (y z : Nat), y < 256 → z ≤ 8 → Sort.bitsLen x = z + Sort.bitsLen y → cvtW .u8 (N .u64 (y : Int)) fun t21 => idxB (St [0, 1, 2, 2, 3, 3, 3, 3, 4, 4, 4, 4, 4, 4, 4, 4, 5, 5, 5, 5, 5, 5, 5, 5, 5, 5, 5, 5, 5, 5, 5, 5, 6, 6, 6, 6, 6, 6, 6, 6, 6, 6, 6, 6, 6, 6, 6, 6, 6, 6, 6, 6, 6, 6, 6, 6, 6, 6, 6, 6, 6, 6, 6, 6, 7, 7, 7, 7, 7, 7, 7, 7, 7, 7, 7, 7, 7, 7, 7, 7, 7, 7, 7, 7, 7, 7, 7, 7, 7, 7, 7, 7, 7, 7, 7, 7, 7, 7, 7, 7, 7, 7, 7, 7, 7, 7, 7, 7, 7, 7, 7, 7, 7, 7, 7, 7, 7, 7, 7, 7, 7, 7, 7, 7, 7, 7, 7, 7, 8, 8, 8, 8, 8, 8, 8, 8, 8, 8, 8, 8, 8, 8, 8, 8, 8, 8, 8, 8, 8, 8, 8, 8, 8, 8, 8, 8, 8, 8, 8, 8, 8, 8, 8, 8, 8, 8, 8, 8, 8, 8, 8, 8, 8, 8, 8, 8, 8, 8, 8, 8, 8, 8, 8, 8, 8, 8, 8, 8, 8, 8, 8, 8, 8, 8, 8, 8, 8, 8, 8, 8, 8, 8, 8, 8, 8, 8, 8, 8, 8, 8, 8, 8, 8, 8, 8, 8, 8, 8, 8, 8, 8, 8, 8, 8, 8, 8, 8, 8, 8, 8, 8, 8, 8, 8, 8, 8, 8, 8, 8, 8, 8, 8, 8, 8, 8, 8, 8, 8, 8, 8, 8, 8, 8, 8, 8, 8]) t21 fun t22 =>
      cvtW .i64 t22 fun t23 => intW .add (N .i64 (z : Int)) t23 fun t24 => Q t24 M := fun y z hy hz e => by
    rw [cvtW_N, wrap_u8_id (by omega) (by omega), idxB_St]
    refine ⟨by omega, ?_⟩
    rw [Int.toNat_natCast]
    refine ⟨_, tab_exact (by kernel_rfl) hy, ?_⟩
    have hb := bits_lt hy
    have hu : (UInt8.ofNat (Sort.bitsLen y)).toNat = Sort.bitsLen y := by rw [UInt8.toNat_ofNat']; omega
    rw [hu, cvtW_N, wrap_i64_id (by omega) (by omega), addN (by omega), ← e]
    exact hQ
  by_cases h : x ≥ 256
  · rw [show decide ((x : Int) ≥ 256) = true by simp; omega, condT]
    dsimp only [nthD]
    rw [shW_shr]
    refine ⟨by decide, ?_⟩
    rw [show (8 : Int) = ((8 : Nat) : Int) from rfl, shrI_nat _ _ _ (by decide), intW_add, Int.zero_add, wrap_i64_id (by omega) (by omega)]
    exact fin (x / 256) 8 (by omega) (by omega) (by rw [bits_256 h]; omega)
  · rw [show decide ((x : Int) ≥ 256) = false by simp; omega, condF]
    dsimp only [nthD]
    exact fin x 0 (by omega) (by omega) (by omega)
theorem lenx_spec {c3 c6 : CallT} (h6 : LenX c6) : LenX fun args M Q => ∃ a0, args = [a0] ∧ W_math_bits_Len c3 c6 a0 M Q := by
  intro M x Q hx hQ
  refine ⟨_, rfl, ?_⟩
  unfold W_math_bits_Len
  rw [condF]
  exact h6 hx hQ
end Go.Ab.Dot
/- Sorting numbers: breaking patterns: the walks. By an AI agent. -/
set_option maxRecDepth 10000
set_option linter.unusedVariables false
set_option linter.unusedSimpArgs false
namespace Go.Ab.Dot
open Go Go.Ab

/-- A memory in which a cell holds a random number's state. -/
def XM (M : RM) (s T : Nat) (r : UInt64) : RM := M.put s (.row [N .u64 (r.toNat : Int)] false T 0)
theorem XM.put {M : RM} {s T : Nat} {r r' : UInt64} : (XM M s T r).put s (.row [N .u64 (r'.toNat : Int)] false T 0) = XM M s T r' := by
  unfold XM RM.put
  congr 1
  funext c
  simp only
  by_cases h : c = s <;> simp [h]
theorem XM.new {M : RM} {T : Nat} {x : RB} {r : UInt64} : (M.push x).put M.next (.row [N .u64 (r.toNat : Int)] false T 0) = XM (M.push x) M.next T r := rfl
theorem u64_shl {r k : UInt64} {n : Nat} (hk : k.toNat = n) (h : n < 64) : shlI .u64 (r.toNat : Int) (n : Int) = ((r <<< k).toNat : Int) := by
  rw [shlI_nat rfl _ _ (by show n ≤ 64; omega), UInt64.toNat_shiftLeft, hk, Nat.mod_eq_of_lt h, Nat.shiftLeft_eq]; rfl
theorem u64_shr {r k : UInt64} {n : Nat} (hk : k.toNat = n) (h : n < 64) : shrI .u64 (r.toNat : Int) (n : Int) = ((r >>> k).toNat : Int) := by
  rw [shrI_nat _ _ _ (by show n ≤ 64; omega), UInt64.toNat_shiftRight, hk, Nat.mod_eq_of_lt h, Nat.shiftRight_eq_div_pow]
theorem u64_xor (a b : UInt64) : xorI .u64 (a.toNat : Int) (b.toNat : Int) = ((a ^^^ b).toNat : Int) := by
  rw [xorI_nat rfl, ← UInt64.toNat_xor]
  have := (a ^^^ b).toNat_lt
  rw [Nat.mod_eq_of_lt (by show _ < 2 ^ 64; omega)]
def XorX (T TX : Nat) (c : CallT) : Prop := ∀ {M : RM} {b s : Nat} {r : UInt64} {d : Array Nat} {Q : PostV}, s ≠ b → Q (N .u64 ((Sort.xorNext r).toNat : Int)) (PM (XM M s TX (Sort.xorNext r)) b T d) → c [.ptr s 0] (PM (XM M s TX r) b T d) Q
theorem xor_spec {T TX : Nat} : XorX T TX fun args M Q => ∃ a0, args = [a0] ∧ W_slices_xorshift_Next a0 M Q := by
  intro M b s r d Q hsb hQ
  refine ⟨_, rfl, ?_⟩
  unfold W_slices_xorshift_Next
  have hh : ∀ r, (PM (XM M s TX r) b T d).heap s = some (.row [N .u64 (r.toNat : Int)] false TX 0) := fun r => by rw [PM.heapNe hsb]; exact RM.put_same _ _
  have st : ∀ (r r' : UInt64) (K : RM → Prop), storeW (PM (XM M s TX r) b T d) (.ptr s 0) (N .u64 (r'.toNat : Int)) 1 K = K (PM (XM M s TX r') b T d) := fun r r' K => by
    rw [storeW_at (hh r) (by simp) rfl rfl, PM.putNe hsb]
    rw [show ([N .u64 (r.toNat : Int)] : List AV).set 0 (N .u64 (r'.toNat : Int)) = [N .u64 (r'.toNat : Int)] from rfl, XM.put]
  rw [ptrW_ptr, load1_at (hh r) rfl, ptrW_ptr, load1_at (hh r) rfl, shW_shl]
  refine ⟨by decide, ?_⟩
  rw [show (13 : Int) = ((13 : Nat) : Int) from rfl, u64_shl (k := 13) (n := 13) rfl (by decide), intW_xor, u64_xor, ptrW_ptr, st]
  rw [ptrW_ptr, load1_at (hh _) rfl, ptrW_ptr, load1_at (hh _) rfl, shW_shr]
  refine ⟨by decide, ?_⟩
  rw [show (7 : Int) = ((7 : Nat) : Int) from rfl, u64_shr (k := 7) (n := 7) rfl (by decide), intW_xor, u64_xor, ptrW_ptr, st]
  rw [ptrW_ptr, load1_at (hh _) rfl, ptrW_ptr, load1_at (hh _) rfl, shW_shl]
  refine ⟨by decide, ?_⟩
  rw [show (17 : Int) = ((17 : Nat) : Int) from rfl, u64_shl (k := 17) (n := 17) rfl (by decide), intW_xor, u64_xor, ptrW_ptr, st]
  rw [ptrW_ptr, load1_at (hh _) rfl]
  exact hQ
def PowX (c : CallT) : Prop := ∀ {M : RM} {x : Nat} {Q : PostV}, 0 < x → x < 65536 → Q (N .u64 ((2 ^ Sort.bitsLen x : Nat) : Int)) M → c [N .i64 (x : Int)] M Q
theorem bits_le {x : Nat} (h0 : 0 < x) (h : x < 65536) : Sort.bitsLen x ≤ 16 ∧ 2 ^ Sort.bitsLen x ≤ 2 * x ∧ x < 2 ^ Sort.bitsLen x := by
  unfold Sort.bitsLen
  rw [if_neg (by omega)]
  have h1 := (Nat.log2_eq_iff (show x ≠ 0 by omega) (k := x.log2)).1 rfl
  have h2 := (Nat.log2_lt (show x ≠ 0 by omega) (k := 16)).2 (by omega)
  rw [Nat.pow_succ] at *
  omega
theorem pow_spec {cl : CallT} (hl : LenX cl) : PowX fun args M Q => ∃ a0, args = [a0] ∧ W_slices_nextPowerOfTwo cl a0 M Q := by
  intro M x Q h0 hx hQ
  refine ⟨_, rfl, ?_⟩
  unfold W_slices_nextPowerOfTwo
  have hb := bits_le h0 hx
  rw [cvtW_N, wrap_u64_id (by omega) (by omega)]
  refine hl hx ?_
  rw [shW_shl]
  refine ⟨by omega, ?_⟩
  rw [show (1 : Int) = ((1 : Nat) : Int) from rfl, shlI_nat rfl _ _ (by show Sort.bitsLen x ≤ 64; omega), Nat.one_mul]
  have : 2 ^ Sort.bitsLen x < 2 ^ 64 := Nat.pow_lt_pow_right (by decide) (by omega)
  rw [Nat.mod_eq_of_lt (by exact this)]
  exact hQ

def stK (a l m i0 : Nat) (d : Array Nat) : Nat → UInt64 × Array Nat
  | 0 => (UInt64.ofNat l, d)
  | k + 1 => Sort.breakStep a l m (stK a l m i0 d k) (i0 + k)
theorem stK_sz (a l m i0 : Nat) (d : Array Nat) : ∀ k, (stK a l m i0 d k).2.size = d.size
  | 0 => rfl
  | k + 1 => by
    rw [stK, Sort.breakStep]
    show (Sort.swp _ _ _).size = _
    rw [swp_sz, stK_sz a l m i0 d k]
def BreakX (T : Nat) (c : CallT) : Prop := ∀ {M : RM} {b a e : Nat} {d : Array Nat} {Q : PostV}, b < M.next → d.size ≤ 60000 → a ≤ e → e ≤ d.size → (∀ M', Keep [] M M' → Q (.tup []) (PM M' b T (Sort.breakPatterns d a e))) →
  c [vv b d.size, N .i64 (a : Int), N .i64 (e : Int)] (PM M b T d) Q
theorem break_spec {T TX : Nat} {cp cx : CallT} (hp : PowX cp) (hx : XorX T TX cx) : BreakX T fun args M Q => ∃ a0 a1 a2, args = [a0, a1, a2] ∧ W_slices_breakPatternsOrdered_uint64 TX cp cx a0 a1 a2 M Q := by
  intro M b a e d Q hb hsz hae he hQ
  refine ⟨_, _, _, rfl, ?_⟩
  unfold W_slices_breakPatternsOrdered_uint64
  simp only [joinW_shut]
  rw [subN hae (by omega), show (8 : Int) = ((8 : Nat) : Int) from rfl, geqN]
  unfold Sort.breakPatterns at hQ
  refine condB (fun h8 => ?_) (fun h8 => ?_)
  · have h8 : e - a ≥ 8 := of_decide_eq_true h8
    rw [if_pos h8] at hQ
    have hbl := bits_le (x := e - a) (by omega) (by omega)
    rw [cvtW_N, wrap_u64_id (by omega) (by omega), newW_eq, PM.push hb]
    have hnx : (PM M b T d).next = M.next := rfl
    rw [hnx]
    have hsb : M.next ≠ b := by omega
    have kk : Keep [] M (M.push (.row [(N .u64 0)] false TX 0)) := (Keep.refl _ _).push _
    have kS : ∀ r, Keep [] M (XM (M.push (.row [(N .u64 0)] false TX 0)) M.next TX r) := fun r => kk.new _ (Nat.le_refl _)
    have hh0 : (PM (M.push (.row [(N .u64 0)] false TX 0)) b T d).heap M.next = some (.row [N .u64 0] false TX 0) := by rw [PM.heapNe hsb]; exact RM.push_new _
    have hl64 : (UInt64.ofNat (e - a)).toNat = e - a := by rw [UInt64.toNat_ofNat']; omega
    rw [storeW_at hh0 (by simp) rfl rfl, PM.putNe hsb]
    rw [show ([N .u64 0] : List AV).set 0 (N .u64 ((e - a : Nat) : Int)) = [N .u64 ((UInt64.ofNat (e - a)).toNat : Int)] by rw [hl64]; rfl, XM.new]
    generalize M.push (.row [(N .u64 0)] false TX 0) = M1 at *
    generalize M.next = s at *
    refine hp (by omega) (by omega) ?_
    have hq : ∀ (c : Int), c = ((2 : Nat) : Int) → ∀ (K : AV → Prop), (intW .quo (N .i64 ((e - a : Nat) : Int)) (N .i64 4) fun t18 => intW .mul t18 (N .i64 c) fun t19 => intW .add (N .i64 (a : Int)) t19 K) = K (N .i64 ((a + (e - a) / 4 * 2 : Nat) : Int)) := fun c hc K => by
      subst hc
      rw [intW_quo, show (4 : Int) = ((4 : Nat) : Int) from rfl, quo_nat, wrap_i64_id (by omega) (by omega), intW_mul, ← Int.natCast_mul, wrap_i64_id (by omega) (by omega), addN (by omega)]
      exact propext ⟨fun h => h.2, fun h => ⟨by decide, h⟩⟩
    rw [hq 2 rfl, sub1 (by omega) (by omega)]
    have hst3 : (Sort.breakStep a (e - a) (1 <<< Sort.bitsLen (e - a)) (Sort.breakStep a (e - a) (1 <<< Sort.bitsLen (e - a)) (Sort.breakStep a (e - a) (1 <<< Sort.bitsLen (e - a)) (UInt64.ofNat (e - a), d) (a + (e - a) / 4 * 2 - 1)) (a + (e - a) / 4 * 2 - 1 + 1)) (a + (e - a) / 4 * 2 - 1 + 2)).2 = (stK a (e - a) (2 ^ Sort.bitsLen (e - a)) (a + (e - a) / 4 * 2 - 1) d 3).2 := by
      rw [Nat.shiftLeft_eq, Nat.one_mul]; rfl
    have hQ : ∀ M', Keep [] M M' → Q (.tup []) (PM M' b T (stK a (e - a) (2 ^ Sort.bitsLen (e - a)) (a + (e - a) / 4 * 2 - 1) d 3).2) := fun M' k => by
      have := hQ M' k
      rw [← hst3]; exact this
    generalize hmd : 2 ^ Sort.bitsLen (e - a) = md at *
    generalize hi0 : a + (e - a) / 4 * 2 - 1 = i0 at *
    refine loopW_ind (fun m ys M3 => ∃ (k : Nat), m = 3 - k ∧ k ≤ 3 ∧ ys = [N .i64 ((i0 + k : Nat) : Int)] ∧ M3 = PM (XM M1 s TX (stK a (e - a) md i0 d k).1) b T (stK a (e - a) md i0 d k).2) _ ⟨0, rfl, by omega, rfl, rfl⟩ ?_
    rintro next m ys M3 hnext ⟨k, rfl, hk, rfl, rfl⟩
    dsimp only [nthD]
    have hsk := stK_sz a (e - a) md i0 d k
    have hnx' : stK a (e - a) md i0 d (k + 1) = Sort.breakStep a (e - a) md (stK a (e - a) md i0 d k) (i0 + k) := rfl
    generalize hstk : stK a (e - a) md i0 d k = st at *
    rw [hq 2 rfl, add1 (by omega), leqN]
    refine condB (fun hg => ?_) (fun hg => ?_)
    · have hg : i0 + k ≤ a + (e - a) / 4 * 2 + 1 := of_decide_eq_true hg
      refine joinV_spec (fun zs M' => M' = PM (XM M1 s TX (stK a (e - a) md i0 d (k + 1)).1) b T (stK a (e - a) md i0 d (k + 1)).2) ?_ ?_
      · rintro zs M' rfl
        rw [add1 (by omega)]
        exact hnext _ _ _ (by omega) ⟨k + 1, rfl, by omega, rfl, rfl⟩
      intro J hJ
      refine hx hsb ?_
      rw [hnx'] at hJ
      unfold Sort.breakStep at hJ
      dsimp only at hJ
      generalize Sort.xorNext st.1 = r at *
      rw [intW_sub, wrap_u64_id (by omega) (by omega), show (md : Int) - 1 = ((md - 1 : Nat) : Int) by omega, intW_and, andI_nat rfl]
      have hlt : r.toNat &&& (md - 1) < md := by
        rw [← hmd, Nat.and_two_pow_sub_one_eq_mod]
        exact Nat.mod_lt _ (by rw [hmd]; omega)
      rw [Nat.mod_eq_of_lt (show r.toNat &&& (md - 1) < 2 ^ ubits .u64 by show _ < 2 ^ 64; omega)]
      generalize r.toNat &&& (md - 1) = o at *
      rw [cvtW_N, wrap_i64_id (by omega) (by omega)]
      refine joinV_spec (fun zs M' => zs = [N .i64 (((if o ≥ e - a then o - (e - a) else o) : Nat) : Int)] ∧ M' = PM (XM M1 s TX r) b T st.2) ?_ ?_
      · rintro zs M' ⟨rfl, rfl⟩
        dsimp only [nthD]
        have ho : (if o ≥ e - a then o - (e - a) else o) < e - a := by split <;> omega
        generalize (if o ≥ e - a then o - (e - a) else o) = o2 at *
        rw [addN (by omega), addN (by omega), PM.rd hsk.symm (by omega), PM.rd hsk.symm (by omega), PM.swap hsk.symm (by omega) (by omega)]
        exact hJ _ _ rfl
      intro J4 hJ4
      rw [geqN]
      refine condB (fun hg2 => ?_) (fun hg2 => ?_)
      · have hg2 : o ≥ e - a := of_decide_eq_true hg2
        rw [subN (by omega) (by omega)]
        exact hJ4 _ _ ⟨by rw [if_pos hg2], rfl⟩
      · exact hJ4 _ _ ⟨by rw [if_neg (of_decide_eq_false hg2)], rfl⟩
    · have hg : ¬ i0 + k ≤ a + (e - a) / 4 * 2 + 1 := of_decide_eq_false hg
      have h3 : k = 3 := by omega
      subst h3
      rw [hstk] at hQ
      exact hQ _ (kS _)
  · rw [if_neg (of_decide_eq_false h8)] at hQ
    exact hQ M (Keep.refl _ _)
end Go.Ab.Dot
/- Sorting numbers: pdqsort: the walk. By an AI agent. -/
set_option maxRecDepth 10000
set_option linter.unusedVariables false
set_option linter.unusedSimpArgs false
namespace Go.Ab.Dot
open Go Go.Ab

theorem swo_lN : Sort.SWO lN where
  irrefl x := by simp [lN]
  trans x y z := by simp [lN]; omega
  ntrans x y z := by simp [lN]; omega
/-! ### pdqsort's round, cut in pieces -/
def pdqC (d3 : Array Nat) (a e pv limit : Nat) (wb wp : Bool) : Array Nat :=
  if a > 0 && !lN d3[a - 1]! d3[pv]! then
    match Sort.partitionEqual lN d3 a e pv with
    | (mid, d4) => if _h : a < mid ∧ mid ≤ e then Sort.pdq lN d4 mid e limit wb wp else d4
  else
    match Sort.partition lN d3 a e pv with
    | (mid, ap, d4) =>
      if _h : a ≤ mid ∧ mid < e then
        if mid - a < e - mid then Sort.pdq lN (Sort.pdq lN d4 a mid limit true true) (mid + 1) e limit (decide (mid - a ≥ (e - a) / 8)) ap
        else Sort.pdq lN (Sort.pdq lN d4 (mid + 1) e limit true true) a mid limit (decide (e - mid ≥ (e - a) / 8)) ap
      else d4
def pdqP (pi : Array Nat × Bool) (a e pv limit : Nat) (wb wp : Bool) : Array Nat := if pi.2 then pi.1 else pdqC pi.1 a e pv limit wb wp
def pdqB (d2 : Array Nat) (a e pv : Nat) (hint : Sort.Hint) (limit : Nat) (wb wp : Bool) : Array Nat :=
  pdqP (if wb && wp && hint = .increasing then Sort.partialInsertionSort lN d2 a e else (d2, false)) a e pv limit wb wp
def pdqA (d1 : Array Nat) (a e limit : Nat) (wb wp : Bool) : Array Nat :=
  pdqB (if (Sort.choosePivot lN d1 a e).2 = .decreasing then Sort.reverseRange d1 a e else d1) a e (if (Sort.choosePivot lN d1 a e).2 = .decreasing then (e - 1) - ((Sort.choosePivot lN d1 a e).1 - a) else (Sort.choosePivot lN d1 a e).1)
    (if (Sort.choosePivot lN d1 a e).2 = .decreasing then .increasing else (Sort.choosePivot lN d1 a e).2) limit wb wp
theorem pdq_eq (d : Array Nat) (a e limit : Nat) (wb wp : Bool) : Sort.pdq lN d a e limit wb wp =
    if e - a ≤ 12 then Sort.insertionSort lN d a e else if limit = 0 then Sort.heapSort lN d a e else pdqA (if !wb then Sort.breakPatterns d a e else d) a e (if !wb then limit - 1 else limit) wb wp := by
  rw [Sort.pdq]; rfl
/-! ### sizes -/
theorem insOuter_sz (a e : Nat) : ∀ (k i : Nat) (d : Array Nat), e - i ≤ k → (Sort.insOuter lN a e i d).size = d.size
  | 0, i, d, h => by rw [Sort.insOuter, if_neg (by omega)]
  | k + 1, i, d, h => by
    rw [Sort.insOuter]
    split
    · rw [insOuter_sz a e k _ _ (by omega), insInner_sz]
    · rfl
theorem ins_sz (d : Array Nat) (a e : Nat) : (Sort.insertionSort lN d a e).size = d.size := insOuter_sz a e _ _ _ (Nat.le_refl _)
theorem pop_sz (first : Nat) : ∀ (k : Nat) (d : Array Nat), (Sort.heapPop lN first k d).size = d.size
  | 0, d => rfl
  | k + 1, d => by rw [Sort.heapPop, pop_sz first k, sift_sz _ _ k _ _ (by omega), swp_sz]
theorem heapS_sz (d : Array Nat) (a e : Nat) : (Sort.heapSort lN d a e).size = d.size := by rw [Sort.heapSort, pop_sz, build_sz]
theorem revLoop_sz : ∀ (k i j : Nat) (d : Array Nat), j - i ≤ k → (Sort.reverseLoop i j d).size = d.size
  | 0, i, j, d, h => by rw [Sort.reverseLoop, if_neg (by omega)]
  | k + 1, i, j, d, h => by
    rw [Sort.reverseLoop]
    split
    · rw [revLoop_sz k _ _ _ (by omega), swp_sz]
    · rfl
theorem rev_sz (d : Array Nat) (a e : Nat) : (Sort.reverseRange d a e).size = d.size := revLoop_sz _ _ _ _ (Nat.le_refl _)
theorem breakStep_sz (a l m : Nat) (st : UInt64 × Array Nat) (i : Nat) : (Sort.breakStep a l m st i).2.size = st.2.size := swp_sz _ _ _
theorem break_sz (d : Array Nat) (a e : Nat) : (Sort.breakPatterns d a e).size = d.size := by
  unfold Sort.breakPatterns
  dsimp only
  split
  · rw [breakStep_sz, breakStep_sz, breakStep_sz]
  · rfl
theorem partE_sz (d : Array Nat) (a e pv : Nat) (h : a < e) : (Sort.partitionEqual lN d a e pv).2.size = d.size ∧ a < (Sort.partitionEqual lN d a e pv).1 ∧ (Sort.partitionEqual lN d a e pv).1 ≤ e := by
  unfold Sort.partitionEqual
  have := partEqLoop_rng a _ (a + 1) (e - 1) (Sort.swp d a pv) (Nat.le_refl _)
  rw [swp_sz] at this
  omega
theorem part_sz (d : Array Nat) (a e pv : Nat) : (Sort.partition lN d a e pv).2.2.size = d.size := by
  rw [partition_eq]
  split
  · show (Sort.swp _ _ _).size = _
    rw [swp_sz, swp_sz]
  · show (Sort.swp _ _ _).size = _
    rw [swp_sz, (partLoop_sz a _ _ _ _ (Nat.le_refl _)).2, swp_sz, swp_sz]
theorem pdq_sz : ∀ (n : Nat) (d : Array Nat) (a e limit : Nat) (wb wp : Bool), e - a ≤ n → (Sort.pdq lN d a e limit wb wp).size = d.size
  | n, d, a, e, limit, wb, wp, hn => by
    rw [pdq_eq]
    split
    · exact ins_sz d a e
    split
    · exact heapS_sz d a e
    have h1 : (if !wb then Sort.breakPatterns d a e else d).size = d.size := by split; exact break_sz d a e; rfl
    rw [← h1]
    generalize (if !wb then Sort.breakPatterns d a e else d) = d1
    unfold pdqA
    have h2 : (if (Sort.choosePivot lN d1 a e).2 = .decreasing then Sort.reverseRange d1 a e else d1).size = d1.size := by split; exact rev_sz d1 a e; rfl
    rw [← h2]
    generalize (if (Sort.choosePivot lN d1 a e).2 = .decreasing then Sort.reverseRange d1 a e else d1) = d2
    generalize (if (Sort.choosePivot lN d1 a e).2 = .decreasing then (e - 1) - ((Sort.choosePivot lN d1 a e).1 - a) else (Sort.choosePivot lN d1 a e).1) = pv
    generalize (if (Sort.choosePivot lN d1 a e).2 = .decreasing then Sort.Hint.increasing else (Sort.choosePivot lN d1 a e).2) = hint
    unfold pdqB
    have h3 : (if wb && wp && hint = .increasing then Sort.partialInsertionSort lN d2 a e else (d2, false)).1.size = d2.size := by
      split
      · exact partIns_sz a e _ _ _
      · rfl
    rw [← h3]
    generalize (if wb && wp && hint = .increasing then Sort.partialInsertionSort lN d2 a e else (d2, false)) = pi
    unfold pdqP
    split
    · rfl
    unfold pdqC
    have hE := partE_sz pi.1 a e pv
    have hP := part_sz pi.1 a e pv
    generalize Sort.partitionEqual lN pi.1 a e pv = pe at *
    generalize Sort.partition lN pi.1 a e pv = pp at *
    obtain ⟨mid, d4⟩ := pe
    obtain ⟨mid2, ap, d5⟩ := pp
    cases n with
    | zero => omega
    | succ n =>
      split
      · dsimp only
        split
        · rw [pdq_sz n _ _ _ _ _ _ (by omega)]
          exact (hE (by omega)).1
        · exact (hE (by omega)).1
      · dsimp only at hP ⊢
        split
        · split
          · rw [pdq_sz n _ _ _ _ _ _ (by omega), pdq_sz n _ _ _ _ _ _ (by omega)]; exact hP
          · rw [pdq_sz n _ _ _ _ _ _ (by omega), pdq_sz n _ _ _ _ _ _ (by omega)]; exact hP
        · exact hP

/-- pdqsort, of ranges below a length. -/
def PdqX (T m : Nat) (c : CallT) : Prop := ∀ {M : RM} {b a e limit : Nat} {d : Array Nat} {Q : PostV}, b < M.next → d.size ≤ 60000 → a ≤ e → e ≤ d.size → e - a < m → limit ≤ 1000000 → (∀ M', Keep [] M M' → Q (.tup []) (PM M' b T (Sort.pdq lN d a e limit true true))) →
  c [vv b d.size, N .i64 (a : Int), N .i64 (e : Int), N .i64 (limit : Int)] (PM M b T d) Q
theorem pdqx_spec {T m : Nat} {ci ch cb cc cr cp cl ce ct cq : CallT} (hi : SortW T (Sort.insertionSort lN) (fun _ _ _ => True) ci) (hh : SortW T (Sort.heapSort lN) (fun _ a e => a < e) ch) (hb : BreakX T cb) (hc : ChooseX T cc) (hr : SortW T Sort.reverseRange (fun _ a e => a < e) cr)
    (hp : PartInsX T cp) (hl : LessC cl) (he : PartEqC T ce) (ht : PartC T ct) (hq : PdqX T m cq) : PdqX T (m + 1) fun args M Q => ∃ a0 a1 a2 a3, args = [a0, a1, a2, a3] ∧ W_slices_pdqsortOrdered_uint64 ci ch cb cc cr cp cl ce ct cq a0 a1 a2 a3 M Q := by
  intro M b a e limit d Q hbn hsz hae hed hm hlim hQ
  refine ⟨_, _, _, _, rfl, ?_⟩
  unfold W_slices_pdqsortOrdered_uint64
  simp only [fuseK, fuseKM, fuseMK, joinW_shut]
  obtain ⟨R, hR⟩ : ∃ R, R = Sort.pdq lN d a e limit true true := ⟨_, rfl⟩
  rw [← hR] at hQ
  refine loopW_ind (fun m' ys M3 => ∃ (a e limit : Nat) (wb wp : Bool) (d3 : Array Nat) (M4 : RM), m' = e - a ∧ ys = [N .i64 (a : Int), N .i64 (e : Int), N .i64 (limit : Int), Bo wb, Bo wp] ∧ a ≤ e ∧ e ≤ d.size ∧ e - a < m + 1 ∧ limit ≤ 1000000 ∧ M3 = PM M4 b T d3 ∧ Keep [] M M4 ∧ d3.size = d.size ∧ R = Sort.pdq lN d3 a e limit wb wp) _
    ⟨a, e, limit, true, true, d, M, rfl, rfl, hae, hed, hm, hlim, rfl, Keep.refl _ _, rfl, hR⟩ ?_
  clear hR hae hed hm hlim
  rintro next m' ys M3 hnext ⟨a, e, limit, wb, wp, d3, M4, rfl, rfl, hae, hed, hm, hlim, rfl, k4, hs3, hR⟩
  dsimp only [nthD]
  have hb4 : b < M4.next := Nat.lt_of_lt_of_le hbn k4.next
  rw [pdq_eq] at hR
  rw [subN hae (by omega), show (12 : Int) = ((12 : Nat) : Int) from rfl, leqN]
  refine condB (fun hg => ?_) (fun hg => ?_)
  · rw [if_pos (of_decide_eq_true hg)] at hR
    rw [← hs3]
    refine hi hb4 (by omega) hae (by omega) trivial ?_
    rw [← hR]
    exact hQ M4 k4
  have hg : ¬ e - a ≤ 12 := of_decide_eq_false hg
  rw [if_neg hg] at hR
  rw [show (0 : Int) = ((0 : Nat) : Int) from rfl, eqlN]
  refine condB (fun hg0 => ?_) (fun hg0 => ?_)
  · rw [if_pos (of_decide_eq_true hg0)] at hR
    rw [← hs3]
    refine hh hb4 (by omega) hae (by omega) (by omega) ?_
    rw [← hR]
    exact hQ M4 k4
  have hg0 : ¬ limit = 0 := of_decide_eq_false hg0
  rw [if_neg hg0] at hR
  refine joinV_spec (fun zs M' => ∃ (M5 : RM), zs = [N .i64 (((if !wb then limit - 1 else limit) : Nat) : Int)] ∧ M' = PM M5 b T (if !wb then Sort.breakPatterns d3 a e else d3) ∧ Keep [] M M5) ?_ ?_
  · rintro zs M' ⟨M5, rfl, rfl, k5⟩
    dsimp only [nthD]
    have hs5 : (if !wb then Sort.breakPatterns d3 a e else d3).size = d.size := by
      split
      · rw [break_sz, hs3]
      · exact hs3
    have hl5 : (if !wb then limit - 1 else limit) ≤ 1000000 := by split <;> omega
    generalize (if !wb then Sort.breakPatterns d3 a e else d3) = d5 at *
    generalize (if !wb then limit - 1 else limit) = lim at *
    have hb5 : b < M5.next := Nat.lt_of_lt_of_le hbn k5.next
    rw [← hs5]
    refine hc hb5 (by omega) (by omega) (by omega) fun M6 k6 => ?_
    rw [hs5]
    have hcr := Sort.choosePivot_holds lN d5 a e (by omega)
    unfold pdqA at hR
    generalize Sort.choosePivot lN d5 a e = cpv at *
    have k6' := k5.trans k6
    have hb6 : b < M6.next := Nat.lt_of_lt_of_le hbn k6'.next
    rw [extW0, extW1]
    refine joinV_spec (fun zs M' => zs = [N .i64 (((if cpv.2 = .decreasing then (e - 1) - (cpv.1 - a) else cpv.1) : Nat) : Int), N .i64 (hintV (if cpv.2 = .decreasing then .increasing else cpv.2))] ∧ M' = PM M6 b T (if cpv.2 = .decreasing then Sort.reverseRange d5 a e else d5)) ?_ ?_
    · rintro zs M' ⟨rfl, rfl⟩
      dsimp only [nthD]
      have hs7 : (if cpv.2 = .decreasing then Sort.reverseRange d5 a e else d5).size = d.size := by
        split
        · rw [rev_sz, hs5]
        · exact hs5
      have hpv : a ≤ (if cpv.2 = .decreasing then (e - 1) - (cpv.1 - a) else cpv.1) ∧ (if cpv.2 = .decreasing then (e - 1) - (cpv.1 - a) else cpv.1) < e := by
        split <;> omega
      generalize (if cpv.2 = .decreasing then Sort.reverseRange d5 a e else d5) = d7 at *
      generalize (if cpv.2 = .decreasing then (e - 1) - (cpv.1 - a) else cpv.1) = pv at *
      generalize (if cpv.2 = .decreasing then Sort.Hint.increasing else cpv.2) = hint at *
      unfold pdqB pdqP at hR
      -- behind the short insertion sort
      have rest : ∀ d8 : Array Nat, d8.size = d.size → R = pdqC d8 a e pv lim wb wp → ∀ (J : PostV), True → intW .gtr (N .i64 (a : Int)) (N .i64 ((0 : Nat) : Int)) fun t74 =>
          guardK t74 true (fun k' => intW .sub (N .i64 (a : Int)) (N .i64 1) fun t78 => idxS (vv b d.size) t78 1 fun t79 => load1 (PM M6 b T d8) t79 fun t80 => idxS (vv b d.size) (N .i64 (pv : Int)) 1 fun t83 => load1 (PM M6 b T d8) t83 fun t84 => cl [t80, t84] (PM M6 b T d8) fun t85 M_52 => notW t85 fun t86 => k' t86 M_52 none) (fun k => k .undef (PM M6 b T d8) none) fun t86_56 M_57 b_58 =>
          pickW t74 t86_56 (Bo false) fun t87 => condW t87 (
            ce [vv b d.size, N .i64 (a : Int), N .i64 (e : Int), N .i64 (pv : Int)] M_57 fun t92 M_59 => next [t92, N .i64 (e : Int), N .i64 (lim : Int), Bo wb, Bo wp] M_59) (
            ct [vv b d.size, N .i64 (a : Int), N .i64 (e : Int), N .i64 (pv : Int)] M_57 fun t99 M_60 => extW t99 0 fun t100 => extW t99 1 fun t101 => intW .sub t100 (N .i64 (a : Int)) fun t105 => intW .sub (N .i64 (e : Int)) t100 fun t108 =>
            intW .quo (N .i64 ((e - a : Nat) : Int)) (N .i64 8) fun t110 => intW .lss t105 t108 fun t113 => condW t113 (intW .geq t105 t110 fun t116 => cq [vv b d.size, N .i64 (a : Int), t100, N .i64 (lim : Int)] M_60 fun t121 M_61 => intW .add t100 (N .i64 1) fun t123 => next [t123, N .i64 (e : Int), N .i64 (lim : Int), t116, t101] M_61) (
            intW .geq t108 t110 fun t126 => intW .add t100 (N .i64 1) fun t129 => cq [vv b d.size, t129, N .i64 (e : Int), N .i64 (lim : Int)] M_60 fun t132 M_62 => next [N .i64 (a : Int), t100, N .i64 (lim : Int), t126, t101] M_62)) := fun d8 hs8 hR8 _ _ => by
        unfold pdqC at hR8
        rw [gtrN]
        refine andK (p := !lN d8[a - 1]! d8[pv]!) (fun hc k hk => ?_) ?_
        · have hc : a > 0 := of_decide_eq_true hc
          rw [sub1 (by omega) (by omega), PM.rd hs8.symm (by omega), PM.rd hs8.symm (by omega)]
          refine hl ?_
          rw [notW_Bo]
          exact hk
        refine condB (fun h => ?_) (fun h => ?_)
        · rw [if_pos h] at hR8
          rw [← hs8]
          refine he hb6 (by omega) hpv.1 hpv.2 (by omega) ?_
          have hE := partE_sz d8 a e pv (by omega)
          generalize Sort.partitionEqual lN d8 a e pv = pe at *
          dsimp only at hR8
          rw [dif_pos ⟨hE.2.1, hE.2.2⟩] at hR8
          exact hnext _ _ _ (by omega) ⟨pe.1, e, lim, wb, wp, pe.2, M6, rfl, rfl, hE.2.2, hed, by omega, hl5, rfl, k6', by rw [hE.1, hs8], hR8⟩
        · rw [if_neg (by rw [h]; decide)] at hR8
          rw [← hs8]
          refine ht hb6 (by omega) hpv.1 hpv.2 (by omega) ?_
          have hT := Sort.partition_holds lN swo_lN d8 a e pv hpv.1 hpv.2 (by omega)
          have hTs := part_sz d8 a e pv
          generalize Sort.partition lN d8 a e pv = pp at *
          obtain ⟨mid, ap, d9⟩ := pp
          dsimp only at hR8 hT hTs ⊢
          rw [dif_pos ⟨hT.1, hT.2.1⟩] at hR8
          have hT1 := hT.1
          have hT2 := hT.2.1
          rw [extW0, extW1, subN hT1 (by omega), subN (by omega) (by omega), intW_quo]
          refine ⟨by decide, ?_⟩
          rw [show (8 : Int) = ((8 : Nat) : Int) from rfl, quo_nat, wrap_i64_id (by omega) (by omega), lssN]
          refine condB (fun hc1 => ?_) (fun hc1 => ?_)
          · have hc1 : mid - a < e - mid := of_decide_eq_true hc1
            rw [if_pos hc1] at hR8
            rw [geqN, ← hTs]
            refine hq hb6 (by omega) hT1 (by omega) (by omega) hl5 fun M7 k7 => ?_
            rw [add1 (by omega)]
            exact hnext _ _ _ (by omega) ⟨mid + 1, e, lim, _, ap, _, M7, rfl, rfl, by omega, hed, by omega, hl5, rfl, k6'.trans k7, by rw [pdq_sz _ _ _ _ _ _ _ (Nat.le_refl _), hTs, hs8], hR8⟩
          · have hc1 : ¬ mid - a < e - mid := of_decide_eq_false hc1
            rw [if_neg hc1] at hR8
            rw [geqN, add1 (by omega), ← hTs]
            refine hq hb6 (by omega) (by omega) (by omega) (by omega) hl5 fun M7 k7 => ?_
            exact hnext _ _ _ (by omega) ⟨a, mid, lim, _, ap, _, M7, rfl, rfl, hT1, by omega, by omega, hl5, rfl, k6'.trans k7, by rw [pdq_sz _ _ _ _ _ _ _ (Nat.le_refl _), hTs, hs8], hR8⟩
      refine joinV_spec (fun zs M' => ∃ d8 : Array Nat, M' = PM M6 b T d8 ∧ d8.size = d.size ∧ R = pdqC d8 a e pv lim wb wp) ?_ ?_
      · rintro zs M' ⟨d8, rfl, hs8, hR8⟩
        exact rest d8 hs8 hR8 (fun _ _ => True) trivial
      intro J10 hJ10
      have no : ¬ (wb && wp && decide (hint = .increasing)) = true → J10 [] (PM M6 b T d7) := fun hn => by
        have hpi : (if (wb && wp && decide (hint = .increasing)) = true then Sort.partialInsertionSort lN d7 a e else (d7, false)) = (d7, false) := if_neg hn
        rw [hpi] at hR
        exact hJ10 _ _ ⟨d7, rfl, hs7, hR⟩
      cases wb with
      | false =>
        rw [guardM_FT]
        dsimp only
        rw [pickF, guardM_FT]
        dsimp only
        rw [guardM_FT]
        dsimp only
        rw [pickF, condF]
        exact no (by simp)
      | true =>
        rw [guardM_TT]
        dsimp only
        rw [pickT]
        cases wp with
        | false =>
          rw [guardM_FT]
          dsimp only
          rw [guardM_FT]
          dsimp only
          rw [pickF, condF]
          exact no (by simp)
        | true =>
          rw [guardM_TT]
          dsimp only
          rw [guardM_TT]
          dsimp only
          rw [intW_eql, pickT]
          by_cases hin : hint = .increasing
          · rw [show (hintV hint == 1) = true by rw [hin]; rfl, condT]
            have hpi : (if (true && true && decide (hint = .increasing)) = true then Sort.partialInsertionSort lN d7 a e else (d7, false)) = Sort.partialInsertionSort lN d7 a e := if_pos (by simp [hin])
            rw [hpi] at hR
            rw [← hs7]
            refine hp hb6 (by omega) (by omega) (by omega) ?_
            have hs8 : (Sort.partialInsertionSort lN d7 a e).1.size = d.size := by
              rw [Sort.partialInsertionSort, partIns_sz, hs7]
            generalize Sort.partialInsertionSort lN d7 a e = pi at *
            refine condB (fun h => ?_) (fun h => ?_)
            · rw [if_pos h] at hR
              rw [← hR]
              exact hQ M6 k6'
            · rw [if_neg (by rw [h]; decide)] at hR
              exact hJ10 _ _ ⟨pi.1, rfl, hs8, hR⟩
          · rw [show (hintV hint == 1) = false by cases hint <;> first | rfl | exact absurd rfl hin, condF]
            exact no (by simp [hin])
    intro J6 hJ6
    rw [intW_eql]
    by_cases hdec : cpv.2 = .decreasing
    · rw [show (hintV cpv.2 == 2) = true by rw [hdec]; rfl, condT, ← hs5]
      refine hr hb6 (by omega) hae (by omega) (by omega) ?_
      rw [sub1 (by omega) (by omega), subN (by omega) (by omega), subN (by omega) (by omega)]
      exact hJ6 _ _ ⟨by rw [if_pos hdec, if_pos hdec]; rfl, by rw [if_pos hdec]⟩
    · rw [show (hintV cpv.2 == 2) = false by cases h : cpv.2 <;> first | rfl | exact absurd h hdec, condF]
      exact hJ6 _ _ ⟨by rw [if_neg hdec, if_neg hdec], by rw [if_neg hdec]⟩
  intro J hJ
  rw [notW_Bo]
  cases wb with
  | true =>
    rw [Bool.not_true, condF]
    exact hJ _ _ ⟨M4, rfl, rfl, k4⟩
  | false =>
    rw [Bool.not_false, condT, ← hs3]
    refine hb hb4 (by omega) hae (by omega) fun M5 k5 => ?_
    rw [sub1 (by omega) (by omega)]
    exact hJ _ _ ⟨M5, rfl, rfl, k4.trans k5⟩
end Go.Ab.Dot
/- Sorting and compacting any list of numbers: the walks. By an AI agent. -/
set_option maxRecDepth 10000
set_option linter.unusedVariables false
set_option linter.unusedSimpArgs false
namespace Go.Ab.Dot
open Go Go.Ab

theorem own_pm {M : RM} {base T : Nat} {v : AV} {xs : List Nat} (h : Ow U64 M base T v xs) (hn : 0 < xs.length) : ∃ b, v = vv b xs.length ∧ base ≤ b ∧ b < M.next ∧ M = PM M b T xs.toArray := by
  obtain ⟨b, h1, h2, h3, h4, h5⟩ := Own.op_pos h hn
  refine ⟨b, h1, h2, h3, ?_⟩
  unfold PM RM.put
  obtain ⟨n, hp, lo⟩ := M
  simp only at h4 ⊢
  congr 1
  funext c
  by_cases hc : c = b
  · subst hc; rw [if_pos rfl, h4]
  · rw [if_neg hc]
theorem pm_own {M : RM} {b T base : Nat} {d : Array Nat} (h1 : base ≤ b) (h2 : b < M.next) : Ow U64 (PM M b T d) base T (vv b d.size) d.toList := by
  have : Own (PM M b T d) base T 1 (.slc b 0 d.size (.op 1)) (U64.row d.toList) d.size := .op _ _ _ h1 h2 PM.heap (by rw [PM.cellsLen]; omega)
  show Own (PM M b T d) base T 1 (.slc b 0 d.size (.op 1)) (U64.row d.toList) d.toList.length
  rw [Array.length_toList]; exact this
theorem pm_keep {M M' : RM} {b T : Nat} {d : Array Nat} (k : Keep [] M M') : Keep [b] M (PM M' b T d) := (k.mono (by simp)).put _ (.inr (by simp))
def sortN (xs : List Nat) : List Nat := (Sort.sort lN xs.toArray).toList
theorem sortN_nil : sortN [] = [] := by
  unfold sortN Sort.sort
  rw [pdq_eq, if_pos (by simp), Sort.insertionSort, Sort.insOuter, if_neg (by simp)]
theorem sortN_perm (xs : List Nat) : (sortN xs).Perm xs := by
  have h := (Sort.sort_sorts lN swo_lN xs.toArray).1
  have h2 := h.2.2
  rw [Array.extract_eq_self_of_le (by rw [h.1]; exact Nat.le_refl _), Array.extract_eq_self_of_le (Nat.le_refl _)] at h2
  exact h2
theorem sortN_len (xs : List Nat) : (sortN xs).length = xs.length := (sortN_perm xs).length_eq
theorem sortN_up (xs : List Nat) : Up (sortN xs) := by
  intro i j hi hj hij
  have h := (Sort.sort_sorts lN swo_lN xs.toArray)
  have hs : (Sort.sort lN xs.toArray).size = xs.toArray.size := h.1.1
  unfold sortN at hi hj ⊢
  rw [Array.length_toList] at hi hj
  rcases Nat.lt_or_ge i j with h1 | h1
  · have := h.2 i j (Nat.zero_le _) h1 (by omega)
    rw [get_bang hj, get_bang hi] at this
    rw [Array.getElem_toList, Array.getElem_toList]
    have := of_decide_eq_false this
    omega
  · have : i = j := by omega
    subst this; exact Nat.le_refl _
def PdqNil (c : CallT) : Prop := ∀ {M : RM} {v : AV} {Q : PostV}, Q (.tup []) M → c [v, N .i64 0, N .i64 ((0 : Nat) : Int), N .i64 ((0 : Nat) : Int)] M Q
def InsNil (c : CallT) : Prop := ∀ {M : RM} {v : AV} {Q : PostV}, Q (.tup []) M → c [v, N .i64 0, N .i64 ((0 : Nat) : Int)] M Q
theorem insNil_spec {cl : CallT} : InsNil fun args M Q => ∃ a0 a1 a2, args = [a0, a1, a2] ∧ W_slices_insertionSortOrdered_uint64 cl a0 a1 a2 M Q := by
  intro M v Q hQ
  refine ⟨_, _, _, rfl, ?_⟩
  unfold W_slices_insertionSortOrdered_uint64
  rw [intW_add, show IntKind.i64.wrap ((0 : Int) + 1) = 1 from rfl]
  refine loopW_ind (fun m ys M3 => m = 0 ∧ ys = [N .i64 1] ∧ M3 = M) 0 ⟨rfl, rfl, rfl⟩ ?_
  rintro next m ys M3 hnext ⟨rfl, rfl, rfl⟩
  dsimp only [nthD]
  rw [intW_lss, show decide ((1 : Int) < ((0 : Nat) : Int)) = false from rfl, condF]
  exact hQ
theorem pdqNil_spec {ci c2 c3 cc c4 cp c5 c6 c7 c8 : CallT} (hi : InsNil ci) : PdqNil fun args M Q => ∃ a0 a1 a2 a3, args = [a0, a1, a2, a3] ∧ W_slices_pdqsortOrdered_uint64 ci c2 c3 cc c4 cp c5 c6 c7 c8 a0 a1 a2 a3 M Q := by
  intro M v Q hQ
  refine ⟨_, _, _, _, rfl, ?_⟩
  unfold W_slices_pdqsortOrdered_uint64
  refine loopW_ind (fun m ys M3 => m = 0 ∧ ys = [N .i64 0, N .i64 ((0 : Nat) : Int), N .i64 ((0 : Nat) : Int), Bo true, Bo true] ∧ M3 = M) 0 ⟨rfl, rfl, rfl⟩ ?_
  rintro next m ys M3 hnext ⟨rfl, rfl, rfl⟩
  dsimp only [nthD]
  rw [intW_sub, show IntKind.i64.wrap (((0 : Nat) : Int) - 0) = 0 from rfl, intW_leq, show decide ((0 : Int) ≤ 12) = true from rfl, condT]
  exact hi hQ
theorem sortN_spec {T : Nat} {cl cp : CallT} (hl : LenX cl) (hp : ∀ m, PdqX T m cp) (h0 : PdqNil cp) : SortC (fun xs => xs.length ≤ 60000) sortN T fun args M Q => ∃ a0, args = [a0] ∧ W_slices_Sort_uint64_uint64 cl cp a0 M Q := by
  intro M base v xs Q ho hx hQ
  have hs : Sl U64 M v xs := ho.slR
  refine ⟨_, rfl, ?_⟩
  unfold W_slices_Sort_uint64_uint64
  have hx : xs.length ≤ 60000 := hx
  rw [SlR.len hs, cvtW_N, wrap_u64_id (by omega) (by omega)]
  refine hl (by omega) ?_
  rcases Nat.eq_zero_or_pos xs.length with hn | hn
  · rw [hn, show Sort.bitsLen 0 = 0 from rfl]
    refine h0 ?_
    have := List.length_eq_zero_iff.1 hn
    subst this
    exact hQ M (by rw [sortN_nil]; exact ho) (Keep.refl _ _)
  · obtain ⟨b, rfl, h1, h2, h3⟩ := own_pm ho hn
    have hb := bits_le hn (by omega)
    have hsz : xs.toArray.size = xs.length := by simp
    have := hp (xs.length + 1) (M := M) (b := b) (a := 0) (e := xs.toArray.size) (limit := Sort.bitsLen xs.length) (d := xs.toArray) (Q := fun t10 M_0 => Q (.tup []) M_0) h2 (by omega) (by omega) (Nat.le_refl _) (by omega) (by omega) fun M' k => ?_
    · rw [← h3] at this
      simpa using this
    · have e : (Sort.pdq lN xs.toArray 0 xs.toArray.size (Sort.bitsLen xs.length) true true) = Sort.sort lN xs.toArray := by rw [Sort.sort]; simp
      rw [e]
      refine hQ _ ?_ (pm_keep k)
      have hsz2 : (Sort.sort lN xs.toArray).size = xs.length := by
        have := sortN_len xs
        unfold sortN at this
        rw [Array.length_toList] at this; exact this
      have := pm_own (M := M') (T := T) (d := Sort.sort lN xs.toArray) h1 (Nat.lt_of_lt_of_le h2 k.next)
      rw [hsz2] at this
      exact this

/-! ### compacting -/
def ddA : Nat → List Nat → List Nat
  | _, [] => []
  | p, x :: xs => if x = p then ddA x xs else x :: ddA x xs
def dd : List Nat → List Nat
  | [] => []
  | x :: xs => x :: ddA x xs
theorem ddA_snoc : ∀ (ys : List Nat) (p x : Nat), ddA p (ys ++ [x]) = if x = ys.getLastD p then ddA p ys else ddA p ys ++ [x]
  | [], p, x => rfl
  | y :: ys, p, x => by
    rw [List.cons_append, ddA, ddA, ddA_snoc ys y x, List.getLastD_cons]
    by_cases hy : y = p
    · rw [if_pos hy, if_pos hy]
    · rw [if_neg hy, if_neg hy]
      split
      · rfl
      · rfl
theorem last_take : ∀ (k : Nat) (ys : List Nat) (y : Nat) (h : k < (y :: ys).length), (ys.take k).getLastD y = (y :: ys)[k]
  | 0, ys, y, h => rfl
  | k + 1, [], y, h => by simp at h
  | k + 1, z :: zs, y, h => by
    rw [List.take_succ_cons, List.getLastD_cons, last_take k zs z (by simpa using h)]
    rfl
theorem dd_take {xs : List Nat} {m : Nat} (h1 : 1 ≤ m) (h : m < xs.length) : dd (xs.take (m + 1)) = if xs[m] = xs[m - 1] then dd (xs.take m) else dd (xs.take m) ++ [xs[m]] := by
  rw [List.take_succ_eq_append_getElem h]
  cases xs with
  | nil => simp at h
  | cons y ys =>
    obtain ⟨k, rfl⟩ : ∃ k, m = k + 1 := ⟨m - 1, by omega⟩
    have hk : k < (y :: ys).length := by omega
    rw [List.take_succ_cons, List.cons_append, dd, dd, ddA_snoc, last_take k ys y hk]
    simp only [Nat.add_sub_cancel]
    split <;> simp
theorem dd_len : ∀ (xs : List Nat), (dd xs).length ≤ xs.length
  | [] => Nat.le_refl _
  | x :: xs => by
    have : ∀ (p : Nat) (l : List Nat), (ddA p l).length ≤ l.length := by
      intro p l
      induction l generalizing p with
      | nil => exact Nat.le_refl _
      | cons y l ih => rw [ddA]; split <;> simp <;> have := ih y <;> omega
    rw [dd]; simp; exact this x xs
theorem subS_to_op {b o n k : Nat} (h : k ≤ n) (h0 : 0 < n) : subS 1 (.slc b o n (.op 1)) none (some (N .i64 (k : Int))) none = some (.slc b o k (.op 1)) := by
  simp only [subS, bnd]
  simp [h]
  omega
theorem compactN_spec {T : Nat} : CompactC (fun xs => xs.length ≤ 60000) dd T fun args M Q => ∃ a0, args = [a0] ∧ W_slices_Compact_uint64_uint64 a0 M Q := by
  intro M base v xs Q ho hx hQ
  have hx : xs.length ≤ 60000 := hx
  have hs : Sl U64 M v xs := ho.slR
  refine ⟨_, rfl, ?_⟩
  unfold W_slices_Compact_uint64_uint64
  have hself : dd xs = xs → Q v M := fun e => hQ v M (by rw [e]; exact hs) (Own.capOk ho) (fun d hd => hd) (Keep.refl _ _)
  rw [SlR.len hs, intW_lss]
  refine condB (fun hg => ?_) (fun hg => ?_)
  · have hg : xs.length < 2 := by
      have : (xs.length : Int) < 2 := of_decide_eq_true hg
      omega
    refine hself ?_
    match xs, hg with
    | [], _ => rfl
    | [x], _ => rfl
  have hg : 2 ≤ xs.length := by
    have : ¬ (xs.length : Int) < 2 := of_decide_eq_false hg
    omega
  obtain ⟨b, rfl, h1, h2, h3⟩ := own_pm ho (by omega)
  have hsz : xs.toArray.size = xs.length := by simp
  have hat : ∀ i (h : i < xs.length), xs.toArray[i]! = xs[i] := fun i h => by rw [get_bang (by simpa using h)]; simp
  clear hs
  have hself := hself
  simp only [joinW_shut]
  refine loopW_ind (fun m ys M3 => ∃ i : Nat, m = xs.length - i ∧ ys = [N .i64 (i : Int)] ∧ 1 ≤ i ∧ i ≤ xs.length ∧ M3 = PM M b T xs.toArray ∧ dd (xs.take i) = xs.take i) _ ⟨1, rfl, rfl, Nat.le_refl _, by omega, h3, by
    match xs, hg with
    | x :: y :: l, _ => rfl⟩ ?_
  rintro next m ys M3 hnext ⟨i, rfl, rfl, hi1, hi, rfl, hdd⟩
  dsimp only [nthD]
  have lenV : ∀ K : AV → Prop, lenW (vv b xs.length) K = K (N .i64 (xs.length : Int)) := fun K => by simp [lenW_slc]
  rw [lenV, lssN]
  refine condB (fun hlt => ?_) (fun hge => ?_)
  rotate_left
  · have he : i = xs.length := by
      have : ¬ i < xs.length := of_decide_eq_false hge
      omega
    subst he
    rw [List.take_length] at hdd
    rw [← h3]
    exact hself hdd
  have hlt : i < xs.length := of_decide_eq_true hlt
  rw [PM.rd hsz.symm (by omega), sub1 (by omega) (by omega), PM.rd hsz.symm (by omega), hat i hlt, hat (i - 1) (by omega), intW_eql]
  have hstep := dd_take hi1 hlt
  by_cases heq : xs[i] = xs[i - 1]
  rotate_left
  · rw [show (((xs[i] : Nat) : Int) == ((xs[i - 1]'(by omega) : Nat) : Int)) = false by rw [beq_eq_false_iff_ne]; omega, condF, add1 (by omega)]
    rw [if_neg heq, hdd] at hstep
    exact hnext _ _ _ (by omega) ⟨i + 1, rfl, rfl, by omega, hlt, rfl, by rw [hstep, ← List.take_succ_eq_append_getElem hlt]⟩
  rw [show (((xs[i] : Nat) : Int) == ((xs[i - 1]'(by omega) : Nat) : Int)) = true by rw [beq_iff_eq]; omega, condT]
  rw [if_pos heq, hdd] at hstep
  rw [subS_from_op hlt, getW_some]
  have lenV2 : ∀ K : AV → Prop, lenW (.slc b (0 + i * 1) (xs.length - i) (.op 1)) K = K (N .i64 ((xs.length - i : Nat) : Int)) := fun K => by simp [lenW_slc]
  have idx2 : ∀ (j : Nat), j < xs.length - i → ∀ (K : AV → Prop), idxS (.slc b (0 + i * 1) (xs.length - i) (.op 1)) (N .i64 (j : Int)) 1 K = K (.ptr b (i + j)) := fun j hj K => by
    rw [idxS_slc]
    simp only [Int.toNat_natCast]
    rw [show 0 + i * 1 + j * 1 = i + j by omega]
    exact propext ⟨fun h => h.2.2, fun h => ⟨by omega, by omega, h⟩⟩
  -- the rest: moved down
  refine loopW_ind (fun m ys M5 => ∃ (k j : Nat) (d : Array Nat), m = xs.length - j ∧ ys = [N .i64 (k : Int), N .i64 (j : Int)] ∧ 1 ≤ j ∧ i + j ≤ xs.length ∧ 1 ≤ k ∧ k + 1 ≤ i + j ∧ M5 = PM M b T d ∧ d.size = xs.length ∧ d.toList.take k = dd (xs.take (i + j)) ∧ (∀ q (h : q < xs.length), i + j ≤ q + 1 → d[q]! = xs[q])) _
    ⟨i, 1, xs.toArray, rfl, rfl, by omega, by omega, by omega, by omega, rfl, hsz, by rw [hstep], fun q h _ => hat q h⟩ ?_
  rintro next2 m ys M5 hnext2 ⟨k, j, d, rfl, rfl, hj1, hij, hk1, hk, rfl, hds, hpre, hold⟩
  dsimp only [nthD]
  rw [lenV2, lssN]
  refine condB (fun hlt2 => ?_) (fun hge2 => ?_)
  · have hlt2 : j < xs.length - i := of_decide_eq_true hlt2
    have hij' : i + j < xs.length := by omega
    refine joinV_spec (fun zs M' => ∃ (k' : Nat) (d' : Array Nat), zs = [N .i64 (k' : Int)] ∧ 1 ≤ k' ∧ k' ≤ i + j ∧ M' = PM M b T d' ∧ d'.size = xs.length ∧ d'.toList.take k' = dd (xs.take (i + j + 1)) ∧ (∀ q (h : q < xs.length), i + j ≤ q → d'[q]! = xs[q])) ?_ ?_
    · rintro zs M' ⟨k', d', rfl, c1, c2, rfl, c3, c4, c5⟩
      dsimp only [nthD]
      rw [add1 (by omega)]
      exact hnext2 _ _ _ (by omega) ⟨k', j + 1, d', rfl, rfl, by omega, by omega, c1, by omega, rfl, c3, c4, fun q h hq => c5 q h (by omega)⟩
    intro J hJ
    have hst2 := dd_take (xs := xs) (m := i + j) (by omega) hij'
    have ld : ∀ q (h : q < xs.length) (K : AV → Prop), load1 (PM M b T d) (.ptr b q) K = K (N .u64 ((d[q]! : Nat) : Int)) := fun q h K => load1_at PM.heap (PM.cellAt (by omega))
    rw [idx2 j hlt2, ld _ hij', sub1 (by omega) (by omega), idx2 (j - 1) (by omega), ld _ (by omega), hold (i + j) hij' (by omega), hold (i + (j - 1)) (by omega) (by omega), intW_neq]
    have hpe : xs[i + (j - 1)]'(by omega) = xs[i + j - 1]'(by omega) := by congr 1; omega
    rw [hpe]
    by_cases hne : xs[i + j] = xs[i + j - 1]'(by omega)
    · rw [show (((xs[i + j] : Nat) : Int) != ((xs[i + j - 1]'(by omega) : Nat) : Int)) = false by rw [hne]; simp, condF]
      rw [if_pos hne] at hst2
      exact hJ _ _ ⟨k, d, rfl, hk1, by omega, rfl, hds, by rw [hst2]; exact hpre, fun q h hq => hold q h (by omega)⟩
    · rw [show (((xs[i + j] : Nat) : Int) != ((xs[i + j - 1]'(by omega) : Nat) : Int)) = true by simp only [bne_iff_ne, ne_eq]; omega, condT]
      rw [if_neg hne] at hst2
      rw [idx2 j hlt2, ld _ hij', hold (i + j) hij' (by omega), PM.idx (by omega), PM.put (by omega), add1 (by omega)]
      refine hJ _ _ ⟨k + 1, _, rfl, by omega, by omega, rfl, by simpa using hds, ?_, fun q h hq => ?_⟩
      · have hkl : k < d.toList.length := by rw [Array.length_toList]; omega
        rw [hst2, ← hpre, Array.toList_setIfInBounds, List.take_succ_eq_append_getElem (by rw [List.length_set]; exact hkl), List.getElem_set_self, List.take_set_of_le (Nat.le_refl _)]
      · rw [← hold q h (by omega)]
        rw [get_bang (by rw [Array.size_setIfInBounds]; omega), get_bang (by omega), Array.getElem_setIfInBounds_ne (by omega) (by omega)]
  · have hij' : i + j = xs.length := by
      have : ¬ j < xs.length - i := of_decide_eq_false hge2
      omega
    rw [hij', List.take_length] at hpre
    have hst : (PM M b T d).stores b (0 + k * 1) (repL [N .u64 0] (xs.length - k)) = some ((PM M b T d).put b (.row ((U64.row d.toList).take (0 + k * 1) ++ repL [N .u64 0] (xs.length - k) ++ (U64.row d.toList).drop (0 + k * 1 + (repL [N .u64 0] (xs.length - k)).length)) true T 0)) := by
      refine RM.stores_row PM.heap ?_ (Nat.zero_le _) (repL_one _).2
      rw [(repL_one _).1, PM.cellsLen]; omega
    rw [subS_from_op (by omega), getW_some]
    refine .inl ⟨_, _, _, _, _, rfl, hst, ?_⟩
    dsimp only
    rw [subS_to_op (by omega) (by omega), getW_some]
    have hlk : (dd xs).length = k := by rw [← hpre, List.length_take, Array.length_toList]; omega
    refine hQ _ _ ?_ (show (1 : Nat) = 1 from rfl) (fun e he => by simpa [blkOf] using he) ?_
    · have hrow : ((U64.row d.toList).take (0 + k * 1)) = U64.row (dd xs) := by
        rw [← hpre, show 0 + k * 1 = k * U64.size by simp [U64], Enc.row_take]
      show SlR _ 1 (.slc b 0 k (.op 1)) (U64.row (dd xs)) (dd xs).length
      rw [hlk]
      refine .slc _ _ _ _ _ h2 ?_
      have hl : (U64.row (dd xs)).length = k := by rw [Enc.row_len, hlk]; simp [U64]
      rw [RM.loads_row (heap_put_eq _) (by rw [hrow]; simp [hl]), List.drop_zero, hrow, Nat.mul_one, List.append_assoc, List.take_left' hl]
    · refine Keep.put ?_ _ (.inr (by simp [blkOf]))
      exact pm_keep (Keep.refl _ _)
end Go.Ab.Dot
/- The statement of growing sets: the walk. By an AI agent. -/
set_option maxRecDepth 10000
set_option linter.unusedVariables false
set_option linter.unusedSimpArgs false
namespace Go.Ab.Dot
open Go Go.Ab

def growT (l : List Dot) : Nat → List Pt
  | 0 => emptyS
  | i + 1 => (addS (growT l i) (l.getD i (0, 0))).2
theorem addS_len {ps : List Pt} {d : Dot} : (addS ps d).2.length = ps.length := by
  unfold addS
  split
  · split
    · simp only; rw [List.length_set]
    · rfl
  · rfl
structure GrowI (l : List Dot) (i : Nat) (ps : List Pt) : Prop where
  len : ps.length = 16
  wf : ∀ p ∈ ps, WfP p
  few : ∀ p ∈ ps, p.2.length ≤ i
  has : ∀ k (hk : k < l.length), k < i → good l[k] = true → hasS ps l[k] = true
theorem GrowI.step {l : List Dot} {i : Nat} {ps : List Pt} (h : GrowI l i ps) (hi : i < l.length) (h60 : i ≤ 100) : GrowI l (i + 1) (addS ps l[i]).2 := by
  have hl : ∀ p ∈ ps, p.2.length < 4096 := fun p hp => by have := h.few p hp; omega
  refine ⟨by rw [addS_len]; exact h.len, addS_wf h.wf, addS_more h.few, fun k hk hki hg => ?_⟩
  rcases Nat.lt_or_ge k i with h1 | h1
  · exact within_hasS h.wf (addS_wf h.wf) (grow_within h.len h.wf hl) (h.has k hk h1 hg)
  · have : k = i := by omega
    subst this
    exact grow_in h.len h.wf hl hg

def DotGrowsC (B : Base) (c : CallT) : Prop := ∀ {M : RM} {v : AV} {l : List Dot} {Q : PostV}, M.base = B → Sl DotE M v l → (∀ M', Q (Bo true) M') → c [v] M Q
theorem dotGrows_spec {B : Base} {T : Nat} {ca cn cc ch cA cW cg : CallT} (ha : AwakeC B ca) (hn : NewC T cn) (hc : CopyC T cc) (hh : HasSC T ch) (hA : AddSC T cA) (hW : WithinC T cW) (hg : GoodC cg) :
    DotGrowsC B fun args M Q => ∃ a0, args = [a0] ∧ W_rolodex_rolodexlaw13_DotGrows ca cn cc ch cA cW cg a0 M Q := by
  intro M v l Q hM hv hQ
  refine ⟨_, rfl, ?_⟩
  unfold W_rolodex_rolodexlaw13_DotGrows
  simp only [fuseM]
  refine ha hM ?_
  rw [notW_Bo, Bool.not_true, condF, SlR.len hv, intW_gtr]
  refine condB (fun _ => hQ M) (fun hl => ?_)
  have hl60 : l.length ≤ 60 := by
    have : ¬ (l.length : Int) > 60 := of_decide_eq_false hl
    omega
  refine hn fun M1 hs1 k1 n1 => ?_
  generalize hsn : M.next = s at *
  refine loopW_ind (fun m ys M3 => ∃ (i : Nat) (ps : List Pt), m = l.length - i ∧ ys = [N .i64 (i : Int)] ∧ i ≤ l.length ∧ Keep [] M M3 ∧ SetH T (fun e => s < e) M3 s ps ∧ GrowI l i ps) _
    ⟨0, emptyS, rfl, rfl, Nat.zero_le _, k1, hs1.mono (fun _ h => h.elim) (by omega), rfl, empty_wf, fun p hp => by simp only [emptyS, List.mem_replicate] at hp; rw [hp.2]; exact Nat.zero_le _, fun k hk h => by omega⟩ ?_
  rintro next m ys M3 hnext ⟨i, ps, rfl, rfl, hi, k3, hs3, hI⟩
  dsimp only [nthD]
  have s3 : Sl DotE M3 v l := SlR.keep hv k3 (by simp)
  rw [SlR.len s3, intW_lss]
  refine condB (fun hlt => ?_) (fun _ => hQ M3)
  have hlt : i < l.length := by simpa using hlt
  have hI' := hI.step hlt (by omega)
  have hll : ∀ p ∈ ps, p.2.length < 4096 := fun p hp => by have := hI.few p hp; omega
  have hq : ∀ q ∈ ps, Asc q.2 ∧ q.2.length ≤ 1000000 := fun q hq => ⟨(hI.wf q hq).1, by have := hI.few q hq; omega⟩
  have hq' : ∀ q ∈ (addS ps l[i]).2, Asc q.2 ∧ q.2.length ≤ 1000000 := fun q hq => ⟨(hI'.wf q hq).1, by have := hI'.few q hq; omega⟩
  have hgw := grow_within (d := l[i]) hI.len hI.wf hll
  have hgin : good l[i] = true → _ := fun h => grow_in (d := l[i]) hI.len hI.wf hll h
  have hgb : good l[i] = true → _ := fun h => grow_back (d := l[i]) hI.len hI.wf hll h
  have hgood : good l[i] = true → _ := fun h => addS_good (d := l[i]) hll h
  have hbad : good l[i] = false → _ := fun h => addS_bad (ps := ps) (d := l[i]) h
  -- the list, at any later memory
  have at' : ∀ (M' : RM), Keep [] M M' → ∀ k (hk : k < l.length), ∃ b o, (∀ (kd : IntKind) (K : AV → Prop), idxS v (N kd (k : Int)) 2 K = K (.ptr b o)) ∧ ∀ K : AV → Prop, loadN M' (.ptr b o) 2 K = K (.agg (dcells l[k])) := fun M' k' k hk => by
    have s' : Sl DotE M' v l := SlR.keep hv k' (by simp)
    obtain ⟨b1, o1, _, _, hidx, hld⟩ := Sl.at (E := DotE) (i := k) s' 2 (k : Int) hk rfl rfl
    refine ⟨b1, o1, hidx, fun K => ?_⟩
    rw [loadN_ptr, hld]
    simp [DotE]
  refine hc hs3 (fun q hq => ⟨hI.wf q hq, by have := hI.few q hq; omega⟩) fun c M4 hcn hc4 k4 => ?_
  have k34 := k3.trans k4
  have hs4 := hs3.keep k4 (by simp) (by simp)
  have hsl := hs3.lt
  obtain ⟨b4, o4, i4, l4⟩ := at' M4 k34 i hlt
  rw [i4, l4]
  refine hh hs4 hq fun M5 k5 => ?_
  have k35 := k34.trans k5
  have hs5 := hs4.keep k5 (by simp) (by simp)
  have hc5 := hc4.keep k5 (by simp) (by simp)
  obtain ⟨b5, o5, i5, l5⟩ := at' M5 k35 i hlt
  rw [i5, l5]
  refine hA hs5 hI.wf fun M6 hs6 k6 => ?_
  have hs5l := hs5.lt
  have k36 : Keep [] M M6 := k35.then_new k6 (by simp; omega)
  have hs6 : SetH T (fun e => s < e) M6 s (addS ps l[i]).2 := hs6.mono (fun e h => by rcases h with h | h <;> omega) (by omega)
  have hc6 := hc5.keep k6 (by simp; omega) (by simp; omega)
  refine hW hc6 hs6 (fun p hp => (hq p hp).2) hq' fun M7 k7 => ?_
  have k37 := k36.trans k7
  have hs7 := hs6.keep k7 (by simp) (by simp)
  have hc7 := hc6.keep k7 (by simp) (by simp)
  rw [hgw, notW_Bo, Bool.not_true, guardM_FF]
  dsimp only
  rw [intW_eql]
  -- the rest: the older dots
  have rest : ∀ M8, Keep [] M M8 → SetH T (fun e => s < e) M8 s (addS ps l[i]).2 → loopW (fun next_78 xs_79 M_80 =>
      intW .lss (nthD xs_79 0) (N .i64 (i : Int)) fun t75 => condW t75 (idxS v (nthD xs_79 0) 2 fun t80 => loadN M_80 t80 2 fun t81 => cg [t81] M_80 fun t82 M_81 =>
        guardM t82 true (fun k' => idxS v (nthD xs_79 0) 2 fun t87 => loadN M_81 t87 2 fun t88 => ch [.ptr s 0, t88] M_81 fun t89 M_95 => notW t89 fun t90 => k' t90 M_95) (fun k => k .undef M_81) fun t90_99 M_100 =>
        pickW t82 t90_99 (Bo false) fun t91 => condW t91 (Q (Bo false) M_100) (intW .add (nthD xs_79 0) (N .i64 1) fun t77 => next_78 [t77] M_100)) (intW .add (N .i64 (i : Int)) (N .i64 1) fun t20 => next [t20] M_80)) [N .i64 0] M8 := fun M8 k8 hs8 => by
    refine loopW_ind (fun m ys M9 => ∃ (k : Nat), m = i - k ∧ ys = [N .i64 (k : Int)] ∧ k ≤ i ∧ Keep [] M8 M9) _ ⟨0, rfl, rfl, Nat.zero_le _, Keep.refl _ _⟩ ?_
    rintro next2 m ys M9 hnext2 ⟨k, rfl, rfl, hk, k9⟩
    dsimp only [nthD]
    have k39 := k8.trans k9
    have hs9 := hs8.keep k9 (by simp) (by simp)
    rw [intW_lss]
    refine condB (fun hlt2 => ?_) (fun hge2 => ?_)
    · have hlt2 : k < i := by simpa using hlt2
      obtain ⟨b9, o9, i9, l9⟩ := at' M9 k39 k (by omega)
      rw [i9, l9]
      refine hg fun M10 k10 => ?_
      have k310 := k39.trans k10
      have hs10 := hs9.keep k10 (by simp) (by simp)
      cases hgk : good (l[k]'(by omega)) with
      | false =>
        rw [guardM_FT]
        dsimp only
        rw [pickF, condF, intW_add, i64_succ (by omega)]
        exact hnext2 _ _ _ (by omega) ⟨k + 1, rfl, rfl, hlt2, k9.trans k10⟩
      | true =>
        rw [guardM_TT]
        dsimp only
        obtain ⟨b10, o10, i10, l10⟩ := at' M10 k310 k (by omega)
        rw [i10, l10]
        refine hh hs10 hq' fun M11 k11 => ?_
        rw [hI'.has k (by omega) (by omega) hgk, notW_Bo, Bool.not_true, pickT, condF, intW_add, i64_succ (by omega)]
        exact hnext2 _ _ _ (by omega) ⟨k + 1, rfl, rfl, hlt2, (k9.trans k10).trans k11⟩
    · rw [intW_add, i64_succ (by omega)]
      exact hnext _ _ _ (by omega) ⟨i + 1, _, rfl, rfl, hlt, k39, hs9, hI'⟩
  cases hgd : good l[i] with
  | true =>
    have he : (addS ps l[i]).1 = 0 := by rw [hgood hgd]
    rw [he, show ((0 : Int) == 0) = true from rfl, guardM_TT]
    dsimp only
    obtain ⟨b7, o7, i7, l7⟩ := at' M7 k37 i hlt
    rw [i7, l7]
    refine hh hs7 hq' fun M8 k8 => ?_
    have hs8 := hs7.keep k8 (by simp) (by simp)
    have hc8 := hc7.keep k8 (by simp) (by simp)
    rw [hgin hgd, notW_Bo, Bool.not_true, guardM_FF]
    dsimp only
    rw [pickT, pickF, guardM_FF]
    dsimp only
    rw [intW_eql, show ((0 : Int) == 0) = true from rfl, guardM_TT]
    dsimp only
    refine hW hs8 hc8 (fun p hp => (hq' p hp).2) hq fun M9 k9 => ?_
    have hs9 := hs8.keep k9 (by simp) (by simp)
    rw [hgb hgd, boolEqW_Bo, show ((hasS ps l[i] == hasS ps l[i]) != true) = false by simp, guardM_FF]
    dsimp only
    rw [pickT, pickF, guardM_FF]
    dsimp only
    rw [intW_neq, show ((0 : Int) != 0) = false from rfl, guardM_FT]
    dsimp only
    rw [guardM_FF]
    dsimp only
    rw [pickF, pickF, condF]
    exact rest M9 ((k37.trans k8).trans k9) hs9
  | false =>
    have he : (addS ps l[i]).1 = 1 := by rw [hbad hgd]
    have hps : (addS ps l[i]).2 = ps := by rw [hbad hgd]
    rw [he, show ((1 : Int) == 0) = false from rfl, guardM_FT]
    dsimp only
    rw [guardM_FF]
    dsimp only
    rw [pickF, pickF, guardM_FF]
    dsimp only
    rw [intW_eql, show ((1 : Int) == 0) = false from rfl, guardM_FT]
    dsimp only
    rw [guardM_FF]
    dsimp only
    rw [pickF, pickF, guardM_FF]
    dsimp only
    rw [intW_neq, show ((1 : Int) != 0) = true from rfl, guardM_TT]
    dsimp only
    refine hW hs7 hc7 (fun p hp => (hq' p hp).2) hq fun M8 k8 => ?_
    have hs8 := hs7.keep k8 (by simp) (by simp)
    have hback : withinS (addS ps l[i]).2 ps = true := by rw [hps]; exact withinS_refl ps
    rw [hback, notW_Bo, Bool.not_true, guardM_FF]
    dsimp only
    rw [pickT, pickF, condF]
    exact rest M8 (k37.trans k8) hs8
end Go.Ab.Dot
/- Plain law: the document's list has the set's form. By an AI agent. -/
set_option maxRecDepth 10000
set_option linter.unusedVariables false
set_option linter.unusedSimpArgs false
namespace Go.Ab.Dot
open Go Go.Ab

/-! ### Lists in order -/
theorem ahead_iff {a b : Dot} : aheadB a b = true ↔ a.1 < b.1 ∨ (a.1 = b.1 ∧ a.2 < b.2) := by
  simp [aheadB]
theorem ahead_irr {a : Dot} : ¬ aheadB a a = true := by rw [ahead_iff]; omega
theorem ahead_asym {a b : Dot} (h : aheadB a b = true) : ¬ aheadB b a = true := by rw [ahead_iff] at *; omega
theorem ahead_trans {a b c : Dot} (h : aheadB a b = true) (k : aheadB b c = true) : aheadB a c = true := by rw [ahead_iff] at *; omega
theorem ahead_tot {a b : Dot} (h : ¬ aheadB a b = true) (hne : a ≠ b) : aheadB b a = true := by
  rw [ahead_iff] at *
  have : ¬ (a.1 = b.1 ∧ a.2 = b.2) := fun ⟨h1, h2⟩ => hne (Prod.ext h1 h2)
  omega
def Srt (l : List Dot) : Prop := l.Pairwise fun a b => aheadB a b = true
theorem srt_ext : ∀ {xs ys : List Dot}, Srt xs → Srt ys → (∀ x, x ∈ xs ↔ x ∈ ys) → xs = ys
  | [], [], _, _, _ => rfl
  | [], y :: ys, _, _, h => by have := (h y).2 (by simp); simp at this
  | x :: xs, [], _, _, h => by have := (h x).1 (by simp); simp at this
  | x :: xs, y :: ys, h1, h2, h => by
    have a1 := List.pairwise_cons.1 h1
    have a2 := List.pairwise_cons.1 h2
    have hxy : x = y := by
      rcases List.mem_cons.1 ((h x).1 (by simp)) with e | e
      · exact e
      · rcases List.mem_cons.1 ((h y).2 (by simp)) with e' | e'
        · exact e'.symm
        · exact absurd (a1.1 y e') (ahead_asym (a2.1 x e))
    subst hxy
    rw [srt_ext a1.2 a2.2 fun z => ⟨fun hz => ?_, fun hz => ?_⟩]
    · rcases List.mem_cons.1 ((h z).1 (by simp [hz])) with rfl | e
      · exact absurd (a1.1 z hz) ahead_irr
      · exact e
    · rcases List.mem_cons.1 ((h z).2 (by simp [hz])) with rfl | e
      · exact absurd (a2.1 z hz) ahead_irr
      · exact e
theorem addL_mem {l : List Dot} {d x : Dot} : x ∈ addL l d ↔ x = d ∨ x ∈ l := by
  unfold addL
  split
  · rename_i h
    exact ⟨.inr, fun h' => by rcases h' with rfl | h'; exact h; exact h'⟩
  · rw [List.mem_append, List.mem_cons]
    conv => rhs; rw [← List.take_append_drop (atL d l) l, List.mem_append]
    constructor
    · rintro (h | h | h)
      · exact .inr (.inl h)
      · exact .inl h
      · exact .inr (.inr h)
    · rintro (h | h | h)
      · exact .inr (.inl h)
      · exact .inl h
      · exact .inr (.inr h)
theorem addL_srt {d : Dot} : ∀ {l : List Dot}, Srt l → d ∉ l → Srt (l.take (atL d l) ++ d :: l.drop (atL d l))
  | [], _, _ => by simp [Srt, atL]
  | x :: l, h, hd => by
    have a := List.pairwise_cons.1 h
    simp only [List.mem_cons, not_or] at hd
    by_cases hx : aheadB x d = true
    · have e : atL d (x :: l) = atL d l + 1 := by simp [atL, hx]
      rw [e, List.take_succ_cons, List.drop_succ_cons, List.cons_append]
      refine List.pairwise_cons.2 ⟨fun y hy => ?_, addL_srt a.2 hd.2⟩
      rcases List.mem_append.1 hy with hy | hy
      · exact a.1 y (List.mem_of_mem_take hy)
      · rcases List.mem_cons.1 hy with rfl | hy
        · exact hx
        · exact a.1 y (List.mem_of_mem_drop hy)
    · have e : atL d (x :: l) = 0 := by simp [atL, hx]
      rw [e, List.take_zero, List.drop_zero, List.nil_append]
      have hdx := ahead_tot hx (fun e => hd.1 e.symm)
      refine List.pairwise_cons.2 ⟨fun y hy => ?_, h⟩
      rcases List.mem_cons.1 hy with rfl | hy
      · exact hdx
      · exact ahead_trans hdx (a.1 y hy)
theorem addL_sorted {l : List Dot} {d : Dot} (h : Srt l) : Srt (addL l d) := by
  unfold addL
  split
  · exact h
  · rename_i hd; exact addL_srt h hd

/-! ### The dots of a set, in order -/
def nums (p : Pt) : List Nat := List.range' 1 p.1 ++ p.2
def seg (i : Nat) (p : Pt) : List Dot := (nums p).map fun n => ((i : Int), n)
def elemsT (ps : List Pt) : Nat → List Dot
  | 0 => []
  | i + 1 => elemsT ps i ++ seg i (ps.getD i (0, []))
theorem mem_nums {p : Pt} {n : Nat} : n ∈ nums p ↔ hasP p n = true := by
  rw [hasP_iff, nums, List.mem_append, List.mem_range'_1]
  constructor
  · rintro (h | h)
    · exact .inl (by omega)
    · exact .inr h
  · rintro (h | h)
    · exact .inl (by omega)
    · exact .inr h
theorem mem_elemsT {ps : List Pt} {d : Dot} : ∀ {i : Nat}, d ∈ elemsT ps i ↔ 0 ≤ d.1 ∧ d.1 < i ∧ hasP (ps.getD d.1.toNat (0, [])) d.2 = true
  | 0 => by simp [elemsT]; omega
  | i + 1 => by
    rw [elemsT, List.mem_append, mem_elemsT, seg, List.mem_map]
    constructor
    · rintro (⟨h1, h2, h3⟩ | ⟨n, h, rfl⟩)
      · exact ⟨h1, by omega, h3⟩
      · exact ⟨by simp, by simp; omega, by simpa using mem_nums.1 h⟩
    · rintro ⟨h1, h2, h3⟩
      by_cases h : d.1 < i
      · exact .inl ⟨h1, h, h3⟩
      · have e : d.1.toNat = i := by omega
        rw [e] at h3
        exact .inr ⟨d.2, mem_nums.2 h3, Prod.ext (by simp; omega) rfl⟩
theorem nums_asc {p : Pt} (h : WfP p) : Asc (nums p) := by
  unfold nums Asc
  rw [List.pairwise_append]
  refine ⟨List.pairwise_lt_range', h.1, fun a ha b hb => ?_⟩
  have := List.mem_range'_1.1 ha
  have := h.2.1 b hb
  omega
theorem elemsT_srt {ps : List Pt} (h : ∀ p ∈ ps, WfP p) : ∀ i, Srt (elemsT ps i)
  | 0 => .nil
  | i + 1 => by
    unfold Srt
    rw [elemsT, List.pairwise_append]
    refine ⟨elemsT_srt h i, ?_, fun a ha b hb => ?_⟩
    · rw [seg, List.pairwise_map]
      exact List.Pairwise.imp (fun {a b} (hab : a < b) => by rw [ahead_iff]; exact .inr ⟨rfl, hab⟩) (nums_asc (getD_wf h i))
    · have h1 := (mem_elemsT.1 ha).2.1
      rw [seg, List.mem_map] at hb
      obtain ⟨n, _, rfl⟩ := hb
      exact ahead_iff.2 (.inl h1)
theorem elems_has {ps : List Pt} (h : ∀ p ∈ ps, WfP p) (d : Dot) : d ∈ elemsT ps 16 ↔ hasS ps d = true := by
  rw [mem_elemsT, hasS, Bool.and_eq_true]
  constructor
  · rintro ⟨h1, h2, h3⟩
    refine ⟨?_, h3⟩
    have hw := getD_wf h d.1.toNat
    have : 1 ≤ d.2 ∧ d.2 ≤ 1099511627776 := by
      rcases hasP_iff.1 h3 with h | h
      · have := hw.2.2.1; omega
      · have := hw.2.1 _ h; have := hw.2.2.2.1 _ h; omega
    simp [good]; omega
  · rintro ⟨h1, h3⟩
    simp [good] at h1
    exact ⟨by omega, by omega, h3⟩

/-! ### The form of a list, by one fold -/
def rfold : List PartT → Option Int → List Dot → List PartT
  | o, _, [] => o
  | o, p, d :: ds => rfold (bumpL (if p = some d.1 then o else o ++ [((d.1.toNat, 0), [])]) d.2) (some d.1) ds
theorem rfold_rparts {l : List Dot} : ∀ (k i : Nat), i + k = l.length → rfold (rpartsT l i) (if i = 0 then none else some (l.getD (i - 1) (0, 0)).1) (l.drop i) = rparts l
  | 0, i, h => by
    rw [List.drop_of_length_le (by omega), rfold, rparts]
    congr 1
  | k + 1, i, h => by
    have hi : i < l.length := by omega
    have hD : l.getD i (0, 0) = l[i] := getD_of hi
    have ih := rfold_rparts (l := l) k (i + 1) (by omega)
    rw [if_neg (show ¬ i + 1 = 0 by omega), Nat.add_sub_cancel, rpartsT, hD] at ih
    rw [List.drop_eq_getElem_cons hi, rfold, ← ih]
    congr 2
    unfold rnew
    rw [hD]
    by_cases h0 : i = 0
    · subst h0; simp
    · rw [if_neg h0]
      by_cases he : l[i].1 = (l.getD (i - 1) (0, 0)).1
      · rw [if_pos (by rw [he]), if_neg (by rintro (h | h); exact h0 h; exact h he)]
      · rw [if_neg (fun h => he (Option.some.inj h).symm), if_pos (.inr he)]
theorem bumpL_snoc (o : List PartT) (p : PartT) (n : Nat) : bumpL (o ++ [p]) n = o ++ [bump p n] := by
  have e : (o ++ [p]).length - 1 = o.length := by simp
  unfold bumpL
  rw [e, List.getD_eq_getElem?_getD, List.getElem?_append_right (Nat.le_refl _), List.set_append_right _ _ (Nat.le_refl _)]
  simp
theorem rfold_seg (i : Int) : ∀ (xs : List Nat) (o : List PartT) (p : PartT) (rest : List Dot), rfold (o ++ [p]) (some i) (xs.map (fun n => (i, n)) ++ rest) = rfold (o ++ [xs.foldl bump p]) (some i) rest
  | [], _, _, _ => rfl
  | x :: xs, o, p, rest => by
    rw [List.map_cons, List.cons_append, rfold, if_pos rfl, bumpL_snoc, rfold_seg i xs, List.foldl_cons]
theorem bump_range (i : Nat) : ∀ (k a : Nat), (List.range' (a + 1) k).foldl bump ((i, a), []) = ((i, a + k), [])
  | 0, a => rfl
  | k + 1, a => by
    rw [List.range'_succ, List.foldl_cons, bump, if_pos ⟨rfl, rfl⟩, bump_range i k (a + 1)]
    congr 2; omega
theorem bump_more (q : Nat × Nat) : ∀ (xs ys : List Nat), ys ≠ [] → xs.foldl bump (q, ys) = (q, ys ++ xs)
  | [], ys, _ => by simp
  | x :: xs, ys, h => by
    rw [List.foldl_cons, bump, if_neg (fun h' => h h'.1), bump_more q xs _ (by simp), List.append_assoc]; rfl
theorem bump_nums {i : Nat} {p : Pt} (h : WfP p) : (nums p).foldl bump ((i, 0), []) = ((i, p.1), p.2) := by
  obtain ⟨u, xs⟩ := p
  rw [nums, List.foldl_append, show (1 : Nat) = 0 + 1 from rfl, bump_range i u 0, Nat.zero_add]
  cases xs with
  | nil => rfl
  | cons x xs =>
    have := h.2.1 x (by simp)
    rw [List.foldl_cons, bump, if_neg (fun h' => by simp only at h' this; omega), bump_more _ _ _ (by simp)]
    rfl
theorem rfold_elems {ps : List Pt} (h : ∀ p ∈ ps, WfP p) : ∀ i : Nat, ∃ p : Option Int, (∀ j, p = some j → j < i) ∧ ∀ rest, rfold [] none (elemsT ps i ++ rest) = rfold (partsT ps i) p rest
  | 0 => ⟨none, by simp, fun rest => rfl⟩
  | i + 1 => by
    obtain ⟨p, hp, hr⟩ := rfold_elems h i
    have hw := getD_wf h i
    by_cases he : 0 < (ps.getD i (0, [])).1 ∨ 0 < (ps.getD i (0, [])).2.length
    · refine ⟨some (i : Int), fun j hj => by have := Option.some.inj hj; omega, fun rest => ?_⟩
      rw [elemsT, List.append_assoc, hr, partsT, if_pos he, seg]
      have hne : nums (ps.getD i (0, [])) ≠ [] := by
        unfold nums
        intro h0
        obtain ⟨q1, q2⟩ := List.append_eq_nil_iff.1 h0
        have q1 := congrArg List.length q1
        have q2 := congrArg List.length q2
        rw [List.length_range'] at q1
        simp only [List.length_nil] at q1 q2
        omega
      have hb := bump_nums (i := i) hw
      generalize nums (ps.getD i (0, [])) = ns at *
      cases ns with
      | nil => exact absurd rfl hne
      | cons n ns =>
        rw [List.map_cons, List.cons_append, rfold, if_neg (fun h' => by have := hp _ h'; omega), bumpL_snoc, rfold_seg, ← hb, List.foldl_cons, Int.toNat_natCast]
    · refine ⟨p, fun j hj => by have := hp j hj; omega, fun rest => ?_⟩
      rw [elemsT, List.append_assoc, hr, partsT, if_neg he, List.append_nil]
      have e : seg i (ps.getD i (0, [])) = [] := by
        unfold seg nums
        have h1 : (ps.getD i (0, [])).1 = 0 := by omega
        have h2 : (ps.getD i (0, [])).2 = [] := List.length_eq_zero_iff.1 (by omega)
        rw [h1, h2]; rfl
      rw [e, List.nil_append]
theorem rparts_elems {ps : List Pt} (h : ∀ p ∈ ps, WfP p) : rparts (elemsT ps 16) = parts ps := by
  rw [← rfold_rparts (l := elemsT ps 16) (elemsT ps 16).length 0 (by omega)]
  obtain ⟨p, _, hr⟩ := rfold_elems h 16
  have := hr []
  rw [List.append_nil] at this
  simp only [rpartsT, if_true, List.drop_zero]
  rw [this]; rfl

/-! ### A set and a list that have the same dots -/
structure DocI (ps : List Pt) (w : List Dot) : Prop where
  len : ps.length = 16
  wf : ∀ p ∈ ps, WfP p
  srt : Srt w
  mem : ∀ d, d ∈ w ↔ hasS ps d = true
theorem DocI.eq {ps : List Pt} {w : List Dot} (h : DocI ps w) : w = elemsT ps 16 := srt_ext h.srt (elemsT_srt h.wf 16) fun d => by rw [h.mem, elems_has h.wf]
theorem DocI.parts {ps : List Pt} {w : List Dot} (h : DocI ps w) : parts ps = rparts w := by rw [h.eq, rparts_elems h.wf]
theorem DocI.good {ps : List Pt} {w : List Dot} (h : DocI ps w) : ∀ d ∈ w, good d = true := fun d hd => by
  have := (h.mem d).1 hd
  rw [hasS, Bool.and_eq_true] at this
  exact this.1
theorem DocI.empty : DocI emptyS [] := by
  refine ⟨rfl, empty_wf, .nil, fun d => ?_⟩
  rw [hasS, empty_getD]
  simp [hasP]
  intro _ h; omega
/-- One more dot. -/
theorem DocI.add {ps : List Pt} {w : List Dot} (h : DocI ps w) {d : Dot} (hl : ∀ p ∈ ps, p.2.length < 4096) (hg : Dot.good d = true) : DocI (addS ps d).2 (addL w d) := by
  refine ⟨by rw [addS_len, h.len], addS_wf h.wf, addL_sorted h.srt, fun e => ?_⟩
  rw [addL_mem, h.mem, hasS, hasS, Bool.and_eq_true, Bool.and_eq_true, grow_has h.len h.wf hl hg]
  constructor
  · rintro (rfl | ⟨h1, h2⟩)
    · exact ⟨hg, .inr ⟨rfl, rfl⟩⟩
    · exact ⟨h1, .inl h2⟩
  · rintro ⟨h1, h2 | ⟨h2, h3⟩⟩
    · exact .inr ⟨h1, h2⟩
    · refine .inl (Prod.ext ?_ h3)
      have := (good_dev h1).1
      have := (good_dev hg).1
      omega
theorem ofP_snoc {l : List Dot} {i : Nat} (hi : i < l.length) : ofP (l.take (i + 1)) = ofStep (ofP (l.take i)) l[i] := by
  rw [List.take_succ_eq_append_getElem hi, ofP, List.foldl_append]; rfl
/-- The set and the list of any dots. -/
theorem ofP_doc {l : List Dot} : ∀ {i : Nat}, i ≤ l.length → i ≤ 4000 → DocI (ofP (l.take i)).1 (ofP (l.take i)).2 ∧ (∀ p ∈ (ofP (l.take i)).1, p.2.length ≤ i) ∧ (ofP (l.take i)).2.length ≤ i
  | 0, _, _ => ⟨DocI.empty, fun p hp => by
      have : p ∈ emptyS := hp
      rw [emptyS, List.mem_replicate] at this
      rw [this.2]; exact Nat.le_refl _, Nat.le_refl _⟩
  | i + 1, hi, hb => by
    obtain ⟨h1, h2, h3⟩ := ofP_doc (l := l) (i := i) (by omega) (by omega)
    rw [ofP_snoc (by omega)]
    have hl : ∀ p ∈ (ofP (l.take i)).1, p.2.length < 4096 := fun p hp => by have := h2 p hp; omega
    unfold ofStep
    by_cases hg : good l[i] = true
    · have e := addS_good hl hg
      have e1 : (addS (ofP (l.take i)).1 l[i]).1 = 0 := by rw [e]
      rw [if_pos e1]
      refine ⟨h1.add hl hg, fun p hp => addS_more h2 p hp, ?_⟩
      have := addL_len (ofP (l.take i)).2 l[i]
      show (addL _ _).length ≤ _
      omega
    · have hg' : good l[i] = false := by simpa using hg
      have e : addS (ofP (l.take i)).1 l[i] = (1, (ofP (l.take i)).1) := addS_bad hg'
      rw [e, if_neg (show ¬ (1 : Int) = 0 by decide)]
      exact ⟨h1, fun p hp => by have := h2 p hp; omega, by show (ofP (l.take i)).2.length ≤ _; omega⟩
end Go.Ab.Dot
/- Plain laws of joined sets. By an AI agent. -/
set_option maxRecDepth 10000
set_option linter.unusedVariables false
set_option linter.unusedSimpArgs false
namespace Go.Ab.Dot
open Go Go.Ab

theorem up_pw {xs : List Nat} (h : Up xs) : xs.Pairwise (· ≤ ·) := List.pairwise_iff_getElem.2 fun i j hi hj hij => h i j hi hj (Nat.le_of_lt hij)
theorem ddA_props : ∀ (ys : List Nat) (p : Nat), (p :: ys).Pairwise (· ≤ ·) → Asc (ddA p ys) ∧ (∀ x ∈ ddA p ys, p < x) ∧ ∀ x, x ∈ ddA p ys ↔ x ∈ ys ∧ x ≠ p
  | [], p, _ => ⟨.nil, by simp [ddA], by simp [ddA]⟩
  | y :: ys, p, h => by
    have a1 := List.pairwise_cons.1 h
    have a2 := List.pairwise_cons.1 a1.2
    obtain ⟨i1, i2, i3⟩ := ddA_props ys y a1.2
    have hpy : p ≤ y := a1.1 y (by simp)
    rw [ddA]
    by_cases hy : y = p
    · rw [if_pos hy]
      subst hy
      refine ⟨i1, i2, fun x => ?_⟩
      rw [i3, List.mem_cons]
      constructor
      · rintro ⟨h1, h2⟩; exact ⟨.inr h1, h2⟩
      · rintro ⟨h1 | h1, h2⟩
        · exact absurd h1 h2
        · exact ⟨h1, h2⟩
    · rw [if_neg hy]
      refine ⟨List.pairwise_cons.2 ⟨i2, i1⟩, fun x hx => ?_, fun x => ?_⟩
      · rcases List.mem_cons.1 hx with rfl | hx
        · omega
        · have := i2 x hx; omega
      · rw [List.mem_cons, i3, List.mem_cons]
        constructor
        · rintro (rfl | ⟨h1, h2⟩)
          · exact ⟨.inl rfl, hy⟩
          · have := a2.1 x h1
            exact ⟨.inr h1, by omega⟩
        · rintro ⟨h1 | h1, h2⟩
          · exact .inl h1
          · by_cases hxy : x = y
            · exact .inl hxy
            · exact .inr ⟨h1, hxy⟩
theorem dd_props {ys : List Nat} (h : Up ys) : Asc (dd ys) ∧ ∀ x, x ∈ dd ys ↔ x ∈ ys := by
  have hp := up_pw h
  cases ys with
  | nil => exact ⟨.nil, fun x => Iff.rfl⟩
  | cons y ys =>
    obtain ⟨i1, i2, i3⟩ := ddA_props ys y hp
    refine ⟨List.pairwise_cons.2 ⟨i2, i1⟩, fun x => ?_⟩
    rw [dd, List.mem_cons, i3, List.mem_cons]
    constructor
    · rintro (h | ⟨h, _⟩)
      · exact .inl h
      · exact .inr h
    · rintro (h | h)
      · exact .inl h
      · by_cases hxy : x = y
        · exact .inl hxy
        · exact .inr ⟨h, hxy⟩
def jl (p q : Pt) : List Nat := dd (sortN (p.2 ++ q.2))
theorem jl_props (p q : Pt) : Asc (jl p q) ∧ (∀ x, x ∈ jl p q ↔ x ∈ p.2 ∨ x ∈ q.2) ∧ (jl p q).length ≤ p.2.length + q.2.length := by
  obtain ⟨h1, h2⟩ := dd_props (sortN_up (p.2 ++ q.2))
  refine ⟨h1, fun x => ?_, ?_⟩
  · unfold jl
    rw [h2, (sortN_perm _).mem_iff, List.mem_append]
  · have := dd_len (sortN (p.2 ++ q.2))
    rw [sortN_len, List.length_append] at this
    exact this
theorem joinPt_props {p q : Pt} (hp : WfP p) (hq : WfP q) (hl : p.2.length + q.2.length ≤ 4096) :
    WfP (joinPt sortN dd p q) ∧ (∀ x, hasP (joinPt sortN dd p q) x = true ↔ hasP p x = true ∨ hasP q x = true) ∧ (joinPt sortN dd p q).2.length ≤ p.2.length + q.2.length := by
  obtain ⟨h1, h2, h3⟩ := jl_props p q
  have he : joinPt sortN dd p q = settle (max p.1 q.1) (jl p q) := rfl
  rw [he]
  have hpos : ∀ y ∈ jl p q, 1 ≤ y := fun y hy => by
    rcases (h2 y).1 hy with h | h
    · have := hp.2.1 y h; omega
    · have := hq.2.1 y h; omega
  have hle : ∀ y ∈ jl p q, y ≤ 1099511627776 := fun y hy => by
    rcases (h2 y).1 hy with h | h
    · exact hp.2.2.2.1 y h
    · exact hq.2.2.2.1 y h
  have hm : max p.1 q.1 ≤ 1099511627776 := by have := hp.2.2.1; have := hq.2.2.1; omega
  obtain ⟨s1, s2, s3, s4⟩ := settle_props (jl p q) (max p.1 q.1) 1099511627776 h1 hm hle
  have hsl := settle_len (max p.1 q.1) (jl p q)
  refine ⟨⟨s1, s2, s3, fun x hx => hle x (settle_mem hx), by omega⟩, fun x => ?_, by omega⟩
  rw [settle_has _ _ _ hpos, h2, hasP_iff, hasP_iff]
  constructor
  · rintro (h | h | h)
    · by_cases hx : x ≤ p.1
      · exact .inl (.inl ⟨h.1, hx⟩)
      · exact .inr (.inl ⟨h.1, by omega⟩)
    · exact .inl (.inr h)
    · exact .inr (.inr h)
  · rintro ((h | h) | (h | h))
    · exact .inl ⟨h.1, by omega⟩
    · exact .inr (.inl h)
    · exact .inl ⟨h.1, by omega⟩
    · exact .inr (.inr h)
def joinS (ps qs : List Pt) : List Pt := joinT sortN dd ps qs 16
/-- A set in good order, with so few others at a device. -/
structure SI (k : Nat) (ps : List Pt) : Prop where
  len : ps.length = 16
  wf : ∀ p ∈ ps, WfP p
  few : ∀ p ∈ ps, p.2.length ≤ k
theorem SI.at {k : Nat} {ps : List Pt} (h : SI k ps) (i : Nat) : WfP (ps.getD i (0, [])) ∧ (ps.getD i (0, [])).2.length ≤ k :=
  ⟨getD_wf h.wf i, getD_all (R := fun p => p.2.length ≤ k) h.few (Nat.zero_le _) i⟩
theorem joinS_at {ps qs : List Pt} {a c : Nat} (h1 : SI a ps) (h2 : SI c qs) {j : Nat} (hj : j < 16) : (joinS ps qs).getD j (0, []) = joinPt sortN dd (ps.getD j (0, [])) (qs.getD j (0, [])) := joinT_lt h1.len (Nat.le_refl _) hj
theorem joinS_SI {ps qs : List Pt} {a c : Nat} (h1 : SI a ps) (h2 : SI c qs) (hk : a + c ≤ 4096) : SI (a + c) (joinS ps qs) := by
  have hlen : (joinS ps qs).length = 16 := by rw [joinS, joinT_len, h1.len]
  have all : ∀ p ∈ joinS ps qs, WfP p ∧ p.2.length ≤ a + c := fun p hp => by
    obtain ⟨i, hi, rfl⟩ := List.getElem_of_mem hp
    rw [hlen] at hi
    have e := joinS_at h1 h2 hi
    rw [getD_of (by omega)] at e
    rw [e]
    obtain ⟨w1, l1⟩ := h1.at i
    obtain ⟨w2, l2⟩ := h2.at i
    obtain ⟨r1, _, r3⟩ := joinPt_props w1 w2 (by omega)
    exact ⟨r1, by omega⟩
  exact ⟨hlen, fun p hp => (all p hp).1, fun p hp => (all p hp).2⟩
theorem joinS_has {ps qs : List Pt} {a c : Nat} (h1 : SI a ps) (h2 : SI c qs) (hk : a + c ≤ 4096) (d : Dot) : hasS (joinS ps qs) d = true ↔ hasS ps d = true ∨ hasS qs d = true := by
  simp only [hasS, Bool.and_eq_true]
  constructor
  · rintro ⟨hg, h⟩
    have hd := good_dev hg
    rw [joinS_at h1 h2 (by omega)] at h
    obtain ⟨w1, l1⟩ := h1.at d.1.toNat
    obtain ⟨w2, l2⟩ := h2.at d.1.toNat
    rcases ((joinPt_props w1 w2 (by omega)).2.1 _).1 h with h | h
    · exact .inl ⟨hg, h⟩
    · exact .inr ⟨hg, h⟩
  · have key : good d = true → (hasP (ps.getD d.1.toNat (0, [])) d.2 = true ∨ hasP (qs.getD d.1.toNat (0, [])) d.2 = true) → hasP ((joinS ps qs).getD d.1.toNat (0, [])) d.2 = true := fun hg h => by
      have hd := good_dev hg
      rw [joinS_at h1 h2 (by omega)]
      obtain ⟨w1, l1⟩ := h1.at d.1.toNat
      obtain ⟨w2, l2⟩ := h2.at d.1.toNat
      exact ((joinPt_props w1 w2 (by omega)).2.1 _).2 h
    rintro (⟨hg, h⟩ | ⟨hg, h⟩)
    · exact ⟨hg, key hg (.inl h)⟩
    · exact ⟨hg, key hg (.inr h)⟩

/-! ### the document's union -/
def uni (u v : List Dot) : List Dot := v.foldl addL u
theorem uni_mem {x : Dot} : ∀ {v u : List Dot}, x ∈ uni u v ↔ x ∈ u ∨ x ∈ v
  | [], u => by simp [uni]
  | d :: v, u => by
    have : uni u (d :: v) = uni (addL u d) v := rfl
    rw [this, uni_mem, addL_mem, List.mem_cons]
    constructor
    · rintro ((h | h) | h)
      · exact .inr (.inl h)
      · exact .inl h
      · exact .inr (.inr h)
    · rintro (h | h | h)
      · exact .inl (.inr h)
      · exact .inl (.inl h)
      · exact .inr h
theorem uni_srt : ∀ {v u : List Dot}, Srt u → Srt (uni u v)
  | [], u, h => h
  | d :: v, u, h => by
    have : uni u (d :: v) = uni (addL u d) v := rfl
    rw [this]
    exact uni_srt (addL_sorted h)
theorem uni_len : ∀ {v u : List Dot}, (uni u v).length ≤ u.length + v.length
  | [], u => by simp [uni]
  | d :: v, u => by
    have : uni u (d :: v) = uni (addL u d) v := rfl
    rw [this, List.length_cons]
    have h1 := uni_len (v := v) (u := addL u d)
    have h2 := addL_len u d
    omega
theorem uni_take {v u : List Dot} {i : Nat} (h : i < v.length) : uni u (v.take (i + 1)) = addL (uni u (v.take i)) v[i] := by
  rw [List.take_succ_eq_append_getElem h, uni, List.foldl_append]; rfl
/-- A set with these dots is that list. -/
theorem DocI.of {k : Nat} {ps : List Pt} {w : List Dot} (h : SI k ps) (hs : Srt w) (hm : ∀ d, d ∈ w ↔ hasS ps d = true) : DocI ps w := ⟨h.len, h.wf, hs, hm⟩
theorem srt_sub : ∀ {xs ys : List Dot}, Srt xs → Srt ys → (∀ x ∈ xs, x ∈ ys) → xs.Sublist ys
  | [], ys, _, _, _ => List.nil_sublist _
  | x :: xs, [], _, _, h => by have := h x (by simp); simp at this
  | x :: xs, y :: ys, h1, h2, h => by
    have a1 := List.pairwise_cons.1 h1
    have a2 := List.pairwise_cons.1 h2
    by_cases hxy : x = y
    · subst hxy
      refine List.Sublist.cons_cons _ (srt_sub a1.2 a2.2 fun z hz => ?_)
      rcases List.mem_cons.1 (h z (by simp [hz])) with rfl | e
      · exact absurd (a1.1 z hz) ahead_irr
      · exact e
    · refine List.Sublist.cons _ (srt_sub h1 a2.2 fun z hz => ?_)
      rcases List.mem_cons.1 (h z hz) with rfl | e
      · -- y is in x :: xs, x is in ys: then y before x before y
        rcases List.mem_cons.1 hz with e | e
        · exact absurd e.symm hxy
        · rcases List.mem_cons.1 (h x (by simp)) with e' | e'
          · exact absurd e' hxy
          · exact absurd (a2.1 x e') (ahead_asym (a1.1 z e))
      · exact e
theorem withinS_has {ps qs : List Pt} (h1 : ∀ p ∈ ps, WfP p) (h2 : ∀ p ∈ qs, WfP p) : withinS ps qs = true ↔ ∀ d, hasS ps d = true → hasS qs d = true := by
  constructor
  · intro h d hd
    exact within_hasS h1 h2 h hd
  · intro h
    rw [withinS_iff]
    intro i hi
    rw [withinP_iff (getD_wf h1 i) (getD_wf h2 i)]
    intro x hx
    have hm : ((i : Int), x) ∈ elemsT ps 16 := mem_elemsT.2 ⟨by simp, by simp; omega, by simpa using hx⟩
    have := h _ ((elems_has h1 _).1 hm)
    rw [hasS, Bool.and_eq_true] at this
    simpa using this.2
theorem within_len {ps qs : List Pt} {u v : List Dot} (h1 : DocI ps u) (h2 : DocI qs v) : withinS ps qs = decide ((uni u v).length = v.length) := by
  rw [Bool.eq_iff_iff, withinS_has h1.wf h2.wf, decide_eq_true_eq]
  constructor
  · intro h
    have e : uni u v = v := srt_ext (uni_srt h1.srt) h2.srt fun d => by
      rw [uni_mem]
      constructor
      · rintro (hd | hd)
        · exact (h2.mem d).2 (h d ((h1.mem d).1 hd))
        · exact hd
      · exact .inr
    rw [e]
  · intro h d hd
    have e : v = uni u v := (srt_sub h2.srt (uni_srt h1.srt) fun x hx => uni_mem.2 (.inr hx)).eq_of_length h.symm
    refine (h2.mem d).1 ?_
    rw [e, uni_mem]
    exact .inl ((h1.mem d).2 hd)
end Go.Ab.Dot
/- The statement of sets: the walk. By an AI agent. -/
set_option maxRecDepth 10000
set_option linter.unusedVariables false
set_option linter.unusedSimpArgs false
namespace Go.Ab.Dot
open Go Go.Ab

def DotSetsC (B : Base) (c : CallT) : Prop := ∀ {M : RM} {v : AV} {l : List Dot} {d : Dot} {Q : PostV}, M.base = B → Sl DotE M v l → (∀ M', Q (Bo true) M') → c [v, .agg (dcells d)] M Q
theorem dotSets_spec {B : Base} {TA T TU TD TB : Nat} {ca cn cA cr cg cR cc ce cd ci ch cH : CallT} (ha : AwakeC B ca) (hn : NewC T cn) (hA : AddSC T cA) (hr : GoodC cr) (hg : GoodC cg) (hR : RefAddC TD cR) (hc : CopyC T cc) (he : EncodeC T TB ce) (hd : DecodeC T TU cd) (hi : IsC T ci) (hh : HasSC T ch) (hH : RefHasC cH) :
    DotSetsC B fun args M Q => ∃ a0 a1, args = [a0, a1] ∧ W_rolodex_rolodexlaw13_DotSets TA ca cn cA cr cg cR cc ce cd ci ch cH a0 a1 M Q := by
  intro M0 v l ask Q hM hs0 hQ
  refine ⟨_, _, rfl, ?_⟩
  unfold W_rolodex_rolodexlaw13_DotSets
  simp only [joinW_shut]
  rw [boxW_agg rfl (by simp), newW_eq]
  have hbase : (M0.push (.row (dcells ask) false TA 0)).base = B := hM
  have k0 : Keep [] M0 (M0.push (.row (dcells ask) false TA 0)) := (Keep.refl _ _).push _
  have hask : (M0.push (.row (dcells ask) false TA 0)).heap M0.next = some (.row (dcells ask) false TA 0) := RM.push_new _
  have hnx : M0.next < (M0.push (.row (dcells ask) false TA 0)).next := by simp [RM.push]
  have hs : Sl DotE (M0.push (.row (dcells ask) false TA 0)) v l := SlR.keep hs0 k0 (by simp)
  generalize M0.push (.row (dcells ask) false TA 0) = M at *
  generalize M0.next = a at *
  refine ha hbase ?_
  rw [notW_Bo, Bool.not_true, condF, SlR.len hs, intW_gtr]
  refine condB (fun _ => hQ _) (fun hlen => ?_)
  have hlen : l.length ≤ 200 := by
    have : ¬ (l.length : Int) > 200 := of_decide_eq_false hlen
    omega
  refine hn fun M2 hs2 k2 n2 => ?_
  generalize hsn : M.next = s at *
  have doc : ∀ i, i ≤ l.length → _ := fun i hi => ofP_doc (l := l) (i := i) hi (by omega)
  refine loopW_ind (fun m ys M3 => ∃ (i : Nat) (w : AV), m = l.length - i ∧ ys = [w, N .i64 (i : Int)] ∧ i ≤ l.length ∧ Keep [] M M3 ∧ s < M3.next ∧ SetH T (fun e => s < e) M3 s (ofP (l.take i)).1 ∧ Ow DotE M3 (s + 1) TD w (ofP (l.take i)).2) _
    ⟨0, nilS, rfl, rfl, Nat.zero_le _, k2, by omega, hs2.mono (fun _ h => h.elim) (by omega), .nil⟩ ?_
  rintro next m ys M3 hnext ⟨i, w, rfl, rfl, hil, k3, n3, hs3, ho3⟩
  dsimp only [nthD]
  have at' : ∀ (M' : RM), Keep [] M M' → ∀ k (hk : k < l.length), ∃ b o, (∀ (kd : IntKind) (K : AV → Prop), idxS v (N kd (k : Int)) 2 K = K (.ptr b o)) ∧ ∀ M'', Keep [] M' M'' → ∀ K : AV → Prop, loadN M'' (.ptr b o) 2 K = K (.agg (dcells l[k])) := fun M' k' k hk => by
    have s' : Sl DotE M' v l := SlR.keep hs k' (by simp)
    obtain ⟨b1, o1, _, hbv, hidx, hld⟩ := Sl.at (E := DotE) (i := k) s' 2 (k : Int) hk rfl rfl
    refine ⟨b1, o1, hidx, fun M'' k'' K => ?_⟩
    have s'' : Sl DotE M'' v l := SlR.keep s' k'' (by simp)
    obtain ⟨b2, o2, _, _, hidx2, hld2⟩ := Sl.at (E := DotE) (i := k) s'' 2 (k : Int) hk rfl rfl
    have e : (AV.ptr b1 o1) = .ptr b2 o2 := by
      have e := (hidx .i64 fun x => x = .ptr b2 o2)
      rw [hidx2 .i64 fun x => x = .ptr b2 o2] at e
      exact e.mp rfl
    injection e with e1 e2
    subst e1 e2
    rw [loadN_ptr, hld2]
    simp [DotE]
  have s3 : Sl DotE M3 v l := SlR.keep hs k3 (by simp)
  rw [SlR.len s3, intW_lss]
  obtain ⟨hdoc, hfew, hwl⟩ := doc i hil
  refine condB (fun hlt => ?_) (fun hge => ?_)
  · have hlt : i < l.length := by simpa using hlt
    have hsnoc := ofP_snoc hlt
    have hlf : ∀ p ∈ (ofP (l.take i)).1, p.2.length < 4096 := fun p hp => by have := hfew p hp; omega
    refine joinV_spec (fun zs M' => ∃ w', zs = [w'] ∧ Keep [] M M' ∧ s < M'.next ∧ SetH T (fun e => s < e) M' s (ofP (l.take (i + 1))).1 ∧ Ow DotE M' (s + 1) TD w' (ofP (l.take (i + 1))).2) ?_ ?_
    · rintro zs M' ⟨w', rfl, b1, b2, b3, b4⟩
      dsimp only [nthD]
      rw [intW_add, i64_succ (by omega)]
      exact hnext _ _ _ (by omega) ⟨i + 1, w', rfl, rfl, by omega, b1, b2, b3, b4⟩
    intro J hJ
    rw [hsnoc] at hJ
    generalize ofP (l.take i) = p at *
    obtain ⟨b1, o1, hidx, hld⟩ := at' M3 k3 i hlt
    rw [hidx, hld M3 (Keep.refl _ _)]
    refine hA hs3 hdoc.wf fun M4 hs4 k4 => ?_
    have n4 := k4.next
    have k34 : Keep [] M M4 := k3.then_new k4 (by simp; omega)
    have hs4' : SetH T (fun e => s < e) M4 s (addS p.1 l[i]).2 := hs4.mono (fun e h => by rcases h with h | h <;> omega) (by omega)
    have ho4 := ho3.keep k4 (fun b hb hm => by have := (ho3.blk b hb).1; simp at hm; omega)
    obtain ⟨b2, o2, hidx2, hld2⟩ := at' M4 k34 i hlt
    rw [hidx2, hld2 M4 (Keep.refl _ _), hidx2, hld2 M4 (Keep.refl _ _)]
    refine hr fun M5 k5 => ?_
    rw [hld2 M5 k5]
    refine ⟨rfl, ?_⟩
    refine hg fun M6 k6 => ?_
    have k46 := k5.trans k6
    rw [boolEqW_Bo, show ((good l[i] == good l[i]) != true) = false by simp]
    simp only [guardK_FF, guardM_FF, pickF]
    have ho6 := ho4.keep k46 (by simp)
    have hs6 := hs4'.keep k46 (by simp) (by simp)
    cases hgd : good l[i] with
    | true =>
      have e1 : (addS p.1 l[i]).1 = 0 := by rw [addS_good hlf hgd]
      rw [e1, intW_eql, show ((0 : Int) == 0) = true from rfl, hidx2, hld2 M6 k46]
      refine hr fun M7 k7 => ?_
      rw [hgd, boolEqW_Bo, show ((true == true) != true) = false from rfl]
      simp only [guardK_FF, guardM_FF, pickF]
      rw [intW_neq, show ((0 : Int) != 0) = false from rfl]
      simp only [guardK_FT, guardK_FF, guardM_FF, pickF]
      have k47 := k46.trans k7
      rw [condF, intW_eql, show ((0 : Int) == 0) = true from rfl, condT, hidx2, hld2 M7 k47]
      have ho7 := ho6.keep k7 (by simp)
      have hs7 := hs6.keep k7 (by simp) (by simp)
      have n47 := k47.next
      refine hR ho7 (by omega) (by omega) fun w' M8 ho8 k8 => ?_
      have n8 := k8.next
      refine hJ _ _ ⟨w', rfl, (k34.trans k47).trans k8, by omega, ?_, ?_⟩
      · rw [ofStep]; exact hs7.keep k8 (by simp) (by simp)
      · rw [ofStep]; simp only [e1, if_true]; exact ho8
    | false =>
      have e1 : (addS p.1 l[i]).1 = 1 := by rw [addS_bad hgd]
      rw [e1, intW_eql, show ((1 : Int) == 0) = false from rfl, hidx2, hld2 M6 k46]
      refine hr fun M7 k7 => ?_
      rw [hgd, boolEqW_Bo, show ((false == false) != true) = false from rfl]
      simp only [guardK_FF, guardM_FF, pickF]
      rw [intW_neq, show ((1 : Int) != 0) = true from rfl]
      simp only [guardK_TT, guardK_FF, guardM_FF, pickF]
      rw [intW_neq, show ((1 : Int) != 1) = false from rfl]
      simp only [guardK_TT, guardK_FF, guardM_FF, pickF, pickT]
      have k47 := k46.trans k7
      rw [condF, intW_eql, show ((1 : Int) == 0) = false from rfl, condF]
      have n47 := k47.next
      refine hJ _ _ ⟨w, rfl, k34.trans k47, by omega, ?_, ?_⟩
      · rw [ofStep]; exact hs6.keep k7 (by simp) (by simp)
      · rw [ofStep]; simp only [e1, show ¬ (1 : Int) = 0 by decide, if_false]; exact ho6.keep k7 (by simp)
  · have hee : i = l.length := by simp at hge; omega
    subst hee
    rw [List.take_length] at *
    generalize ofP l = p at *
    have hgw := hdoc.good
    have hpq := hdoc.parts
    have hdec := decode_encS hdoc.len hdoc.wf
    have hwb : ∀ b ∈ blkOf w, b < M3.next := fun b hb => (ho3.blk b hb).2
    have hsb := hs3.below
    refine hc hs3 (fun q hq => ⟨hdoc.wf q hq, by have := hfew q hq; omega⟩) fun c M4 hcn hc4 k4 => ?_
    have hs4 := hsb.keep k4 (by simp) (by simp)
    refine he hs4 (fun q hq => (hdoc.wf q hq).bd) fun r M5 o5 hl5 k5 => ?_
    have s5 : Sl BY M5 r (encS p.1) := Own.sl o5
    have k35 := k4.trans k5
    have hs5 := hs4.keep k5 (by simp) (by simp)
    have hc5 := hc4.keep k5 (by simp) (by simp)
    refine hd s5 (by omega) (fun h => by rw [hdec] at h; cases h) fun ps' h _ dd M6 hdn hd6 k6 => ?_
    rw [hdec] at h
    cases h
    have k36 := k35.trans k6
    rw [extW0, extW1, intW_neq, show ((0 : Int) != 0) = false from rfl]
    simp only [guardK_FF, guardM_FF, guardP_FF, pickF]
    have hs6 := hs5.keep k6 (by simp) (by simp)
    have hc6 := hc5.keep k6 (by simp) (by simp)
    have ho6 := ho3.keep k36 (by simp)
    have wfq : ∀ q ∈ p.1, WfP q := hdoc.wf
    refine hi hs6 wfq ho6.slR hgw (by omega) hpq fun M7 k7 => ?_
    rw [notW_Bo, Bool.not_true]
    simp only [guardK_FF, guardM_FF, guardP_FF, pickF]
    have ho7 := ho6.keep k7 (by simp)
    refine hi (hc6.keep k7 (by simp) (by simp)) wfq ho7.slR hgw (by omega) hpq fun M8 k8 => ?_
    rw [notW_Bo, Bool.not_true]
    simp only [guardK_FF, guardM_FF, guardP_FF, pickF]
    have ho8 := ho7.keep k8 (by simp)
    have k68 := k7.trans k8
    refine hi (hd6.setH.keep k68 (by simp) (by simp)) wfq ho8.slR hgw (by omega) hpq fun M9 k9 => ?_
    rw [notW_Bo, Bool.not_true]
    simp only [guardK_FF, guardM_FF, guardP_FF, pickF]
    have k69 := k68.trans k9
    have ho9 := ho8.keep k9 (by simp)
    have hs9 := hs6.keep k69 (by simp) (by simp)
    have k09 : Keep [] M M9 := (k3.trans k36).trans k69
    have hsk : ∀ M', Keep [] M M' → ∀ K : AV → Prop, loadN M' (.ptr a 0) 2 K = K (.agg (dcells ask)) := fun M' k' K => by
      rw [loadN_at (n := 2) (k'.heap_of hask (by rw [hsn]; exact hnx) (by simp)) rfl]
    rw [hsk M9 k09, hsk M9 k09]
    refine hh hs9 (fun q hq => ⟨(wfq q hq).1, by have := (wfq q hq).2.2.2.2; omega⟩) fun M10 k10 => ?_
    rw [hsk M10 (k09.trans k10)]
    refine ⟨rfl, ?_⟩
    have ho10 := ho9.keep k10 (by simp)
    refine hH ho10.slR (by omega) fun M11 k11 => ?_
    have hmem : decide (ask ∈ p.2) = hasS p.1 ask := by
      have := hdoc.mem ask
      cases h : hasS p.1 ask <;> simp [this, h]
    rw [hmem, boolEqW_Bo, show ((hasS p.1 ask == hasS p.1 ask) != true) = false by simp, condF, buildW_eq]
    refine ⟨_, build2 rfl rfl rfl rfl, ?_⟩
    have k911 := k10.trans k11
    have k611 := k69.trans k911
    have hc11 := hc6.keep k611 (by simp) (by simp)
    have n3s := hcn
    have n36 := k36.next
    have n611 := k611.next
    refine hA (d := ((1 : Int), 77777)) hc11 wfq fun M12 _ k12 => ?_
    have hs11 := hs9.keep k911 (by simp) (by simp)
    have ho11 := ho9.keep k911 (by simp)
    have hs12 := hs11.keep k12 (by simp; omega) (fun e he h => by simp at he; omega)
    have ho12 := ho11.keep k12 (fun b hb hm => by have := hwb b hb; simp at hm; omega)
    exact hi hs12 wfq ho12.slR hgw (by omega) hpq fun M13 k13 => hQ M13
end Go.Ab.Dot
/- The statement of joins: the walk. By an AI agent. -/
set_option maxRecDepth 10000
set_option linter.unusedVariables false
set_option linter.unusedSimpArgs false
namespace Go.Ab.Dot
open Go Go.Ab

/-- Joining any two sets. -/
def JoinAC (T : Nat) (c : CallT) : Prop := JoinC (fun xs => xs.length ≤ 60000) (fun xs => xs.length ≤ 60000) sortN dd T c
theorem JoinAC.use {T : Nat} {c : CallT} (h : JoinAC T c) {M : RM} {a b : Nat} {ps qs : List Pt} {S S' : Nat → Prop} {k l : Nat} {Q : PostV} (h1 : SetH T S M a ps) (h2 : SetH T S' M b qs) (he : a = b → ps = qs) (hn : ¬ S' a) (i1 : SI k ps) (i2 : SI l qs) (hkl : k + l ≤ 4096)
    (hQ : ∀ M', SetH T (fun e => S e ∨ M.next ≤ e) M' a (joinS ps qs) → Keep [a] M M' → Q (.tup []) M') : c [.ptr a 0, .ptr b 0] M Q := by
  refine h h1 h2 he hn (fun i hi => ?_) (fun p hp => ?_) (fun p hp => ?_) (fun i hi => ?_) hQ
  · have a1 := (i1.at i).2
    have a2 := (i2.at i).2
    show ((ps.getD i (0, [])).2 ++ (qs.getD i (0, [])).2).length ≤ 60000 ∧ (sortN ((ps.getD i (0, [])).2 ++ (qs.getD i (0, [])).2)).length ≤ 60000
    rw [sortN_len, List.length_append]
    omega
  · have := (i1.wf p hp).2.2.1
    have := i1.few p hp
    omega
  · have := (i2.wf p hp).2.2.1
    have := i2.few p hp
    omega
  · have a1 := i1.at i
    have a2 := i2.at i
    obtain ⟨_, j2, j3⟩ := jl_props (ps.getD i (0, [])) (qs.getD i (0, []))
    refine ⟨by have := j3; unfold jl at this; omega, fun x hx => ?_⟩
    rcases (j2 x).1 hx with h | h
    · have := a1.1.2.2.2.1 x h; omega
    · have := a2.1.2.2.2.1 x h; omega
theorem orM {c p : Bool} {f : PostV → Prop} {M : RM} {G : AV → RM → Prop} (hf : c = false → ∀ k : PostV, k (Bo p) M → f k) (hG : G (Bo (c || p)) M) :
    guardM (Bo c) false f (fun k => k .undef M) (fun t M' => pickW (Bo c) (Bo true) t fun u => G u M') := by
  cases c with
  | true => rw [guardM_TF]; dsimp only; rw [pickT]; exact hG
  | false => rw [guardM_FF]; exact hf rfl _ (by rw [pickF]; exact hG)
def DotJoinsC (B : Base) (c : CallT) : Prop := ∀ {M : RM} {v1 v2 v3 : AV} {l1 l2 l3 : List Dot} {Q : PostV}, M.base = B → Sl DotE M v1 l1 → Sl DotE M v2 l2 → Sl DotE M v3 l3 → (∀ M', Q (Bo true) M') → c [v1, v2, v3] M Q
theorem dotJoins_spec {B : Base} {T TD : Nat} {ca co cR cc cj ci cW : CallT} (ha : AwakeC B ca) (ho : OfC T TD co) (hR : RefAddC TD cR) (hc : CopyC T cc) (hj : JoinAC T cj) (hi : IsC T ci) (hW : WithinC T cW) :
    DotJoinsC B fun args M Q => ∃ a0 a1 a2, args = [a0, a1, a2] ∧ W_rolodex_rolodexlaw13_DotJoins ca co cR cc cj ci cW a0 a1 a2 M Q := by
  intro M v1 v2 v3 l1 l2 l3 Q hM hs1 hs2 hs3 hQ
  refine ⟨_, _, _, rfl, ?_⟩
  unfold W_rolodex_rolodexlaw13_DotJoins
  simp only [fuseM]
  refine ha hM ?_
  rw [notW_Bo, Bool.not_true, condF, SlR.len hs1, intW_gtr]
  refine orM (p := decide ((l2.length : Int) > 80)) (fun _ k hk => by rw [SlR.len hs2, intW_gtr]; exact hk) ?_
  refine orM (p := decide ((l3.length : Int) > 80)) (fun _ k hk => by rw [SlR.len hs3, intW_gtr]; exact hk) ?_
  refine condB (fun _ => hQ _) (fun hlen => ?_)
  simp only [Bool.or_eq_false_iff, decide_eq_false_iff_not] at hlen
  obtain ⟨⟨hl1, hl2⟩, hl3⟩ := hlen
  have hl1 : l1.length ≤ 80 := by omega
  have hl2 : l2.length ≤ 80 := by omega
  have hl3 : l3.length ≤ 80 := by omega
  have doc : ∀ l : List Dot, l.length ≤ 80 → DocI (ofP l).1 (ofP l).2 ∧ SI 80 (ofP l).1 ∧ (ofP l).2.length ≤ 80 := fun l hl => by
    obtain ⟨h1, h2, h3⟩ := ofP_doc (l := l) (i := l.length) (Nat.le_refl _) (by omega)
    rw [List.take_length] at h1 h2 h3
    exact ⟨h1, ⟨h1.len, h1.wf, fun p hp => by have := h2 p hp; omega⟩, by omega⟩
  obtain ⟨dx, ix, ux⟩ := doc l1 hl1
  obtain ⟨dy, iy, uy⟩ := doc l2 hl2
  obtain ⟨dz, iz, uz⟩ := doc l3 hl3
  refine ho hs1 (by omega) fun x u M1 xn hx _ hu _ k1 => ?_
  rw [extW0, extW1]
  refine ho (SlR.keep hs2 k1 (by simp)) (by omega) fun y w2 M2 yn hy _ hv _ k2 => ?_
  rw [extW0, extW1]
  refine ho (SlR.keep hs3 (k1.trans k2) (by simp)) (by omega) fun z w3 M3 zn hz _ hw _ k3 => ?_
  rw [extW0, extW1]
  have bx := hx.below
  have bY := hy.below
  have bz := hz.below
  have n1 := k1.next
  have n2 := k2.next
  have n3 := k3.next
  have xlt := hx.lt
  have ylt := hy.lt
  have zlt := hz.lt
  have k13 := k2.trans k3
  have x3 := bx.keep k13 (by simp) (by simp)
  have y3 := bY.keep k3 (by simp) (by simp)
  have z3 := bz
  have u3 := hu.keep k13 (by simp)
  have v3' := hv.keep k3 (by simp)
  have ub : ∀ d ∈ blkOf u, d < M1.next := fun d hd => (hu.blk d hd).2
  have vb : ∀ d ∈ blkOf w2, d < M2.next := fun d hd => (hv.blk d hd).2
  have wb : ∀ d ∈ blkOf w3, d < M3.next := fun d hd => (hw.blk d hd).2
  generalize (ofP l1).1 = px at *
  generalize (ofP l1).2 = lu at *
  generalize (ofP l2).1 = py at *
  generalize (ofP l2).2 = lv at *
  generalize (ofP l3).1 = pz at *
  generalize (ofP l3).2 = lw at *
  have uvl := uni_len (u := lu) (v := lv)
  have allL := uni_len (u := uni lu lv) (v := lw)
  -- the document's unions
  refine loopW_ind (fun m ys M4 => ∃ (i : Nat) (t : AV), m = lv.length - i ∧ ys = [t, N .i64 (i : Int)] ∧ i ≤ lv.length ∧ Keep [] M3 M4 ∧ Ow DotE M4 (x + 1) TD t (uni lu (lv.take i))) _
    ⟨0, u, rfl, rfl, Nat.zero_le _, Keep.refl _ _, u3⟩ ?_
  rintro next m ys M4 hnext ⟨i, t, rfl, rfl, hiv, k4, ot⟩
  dsimp only [nthD]
  have v4 := v3'.keep k4 (by simp)
  rw [SlR.len v4.slR, intW_lss]
  refine condB (fun hlt => ?_) (fun hge => ?_)
  · have hlt : i < lv.length := by simpa using hlt
    obtain ⟨b1, o1, _, _, hidx, hld⟩ := Sl.at (E := DotE) (i := i) v4.slR 2 (i : Int) hlt rfl rfl
    rw [hidx, loadN_ptr]
    refine ⟨_, hld, ?_⟩
    have n4 := k4.next
    have ul := uni_len (u := lu) (v := lv.take i)
    rw [List.length_take] at ul
    refine hR ot (by omega) (by omega) fun t' M5 ot' k5 => ?_
    rw [intW_add, i64_succ (by omega)]
    exact hnext _ _ _ (by omega) ⟨i + 1, t', rfl, rfl, by omega, k4.trans k5, by rw [uni_take hlt]; exact ot'⟩
  have hiv : i = lv.length := by simp at hge; omega
  subst hiv
  rw [List.take_length] at ot
  clear hnext hge
  refine loopW_ind (fun m ys M5 => ∃ (i : Nat) (s : AV), m = lw.length - i ∧ ys = [s, N .i64 (i : Int)] ∧ i ≤ lw.length ∧ Keep [] M4 M5 ∧ Ow DotE M5 (x + 1) TD s (uni (uni lu lv) (lw.take i))) _
    ⟨0, t, rfl, rfl, Nat.zero_le _, Keep.refl _ _, ot⟩ ?_
  rintro next m ys M5 hnext ⟨i, s, rfl, rfl, hiw, k5, os⟩
  dsimp only [nthD]
  have k35 := k4.trans k5
  have w5 := hw.keep k35 (by simp)
  rw [SlR.len w5.slR, intW_lss]
  refine condB (fun hlt => ?_) (fun hge => ?_)
  · have hlt : i < lw.length := by simpa using hlt
    obtain ⟨b1, o1, _, _, hidx, hld⟩ := Sl.at (E := DotE) (i := i) w5.slR 2 (i : Int) hlt rfl rfl
    rw [hidx, loadN_ptr]
    refine ⟨_, hld, ?_⟩
    have n5 := k35.next
    have ul := uni_len (u := uni lu lv) (v := lw.take i)
    rw [List.length_take] at ul
    refine hR os (by omega) (by omega) fun t' M6 ot' k6 => ?_
    rw [intW_add, i64_succ (by omega)]
    exact hnext _ _ _ (by omega) ⟨i + 1, t', rfl, rfl, by omega, k5.trans k6, by rw [uni_take hlt]; exact ot'⟩
  have hiw : i = lw.length := by simp at hge; omega
  subst hiw
  rw [List.take_length] at os
  clear hnext hge
  have n35 := k35.next
  have ot5 := ot.keep k5 (by simp)
  have u5 := u3.keep k35 (by simp)
  have v5 := v3'.keep k35 (by simp)
  have x5 := x3.keep k35 (by simp) (by simp)
  have y5 := y3.keep k35 (by simp) (by simp)
  have z5 := z3.keep k35 (by simp) (by simp)
  have tb : ∀ d ∈ blkOf t, d < M5.next := fun d hd => (ot5.blk d hd).2
  have sb : ∀ d ∈ blkOf s, d < M5.next := fun d hd => (os.blk d hd).2
  -- p: x and y
  refine hc x5 (fun q hq => ⟨ix.wf q hq, by have := ix.few q hq; omega⟩) fun p M6 pn hp6 k6 => ?_
  have n6 := k6.next
  have plt := hp6.lt
  have y6 := y5.keep k6 (by simp) (by simp)
  refine hj.use hp6 y6 (by omega) (by omega) ix iy (by omega) fun M7 hp7 k7 => ?_
  have n7 := k7.next
  have ip := joinS_SI ix iy (by omega)
  have hxy := joinS_has ix iy (by omega)
  have dp : DocI (joinS px py) (uni lu lv) := DocI.of ip (uni_srt dx.srt) fun d => by rw [uni_mem, dx.mem, dy.mem, hxy]
  have p7 := (hp7.mono (S' := fun e => p < e) (fun e h => by rcases h with h | h <;> omega) (by omega)).below
  have k57 : Keep [] M5 M7 := k6.then_new k7 (fun d hd => by simp at hd; omega)
  generalize joinS px py = pp at *
  -- q: p and z
  refine hc p7 (fun q hq => ⟨ip.wf q hq, by have := ip.few q hq; omega⟩) fun q M8 qn hq8 k8 => ?_
  have n8 := k8.next
  have qlt := hq8.lt
  have k58 := k57.trans k8
  have z8 := z5.keep k58 (by simp) (by simp)
  refine hj.use hq8 z8 (by omega) (by omega) ip iz (by omega) fun M9 hq9 k9 => ?_
  have n9 := k9.next
  have iq := joinS_SI ip iz (by omega)
  have hpz := joinS_has ip iz (by omega)
  have dq : DocI (joinS pp pz) (uni (uni lu lv) lw) := DocI.of iq (uni_srt (uni_srt dx.srt)) fun d => by rw [uni_mem, dp.mem, dz.mem, hpz]
  have q9 := (hq9.mono (S' := fun e => q < e) (fun e h => by rcases h with h | h <;> omega) (by omega)).below
  have k59 : Keep [] M5 M9 := k58.then_new k9 (fun d hd => by simp at hd; omega)
  have p9 := (p7.keep k8 (by simp) (by simp)).keep k9 (by simp; omega) (fun e he h => by simp at he; omega)
  generalize joinS pp pz = pq at *
  -- r: z, y, x, itself, y
  have z9 := z5.keep k59 (by simp) (by simp)
  refine hc z9 (fun q hq => ⟨iz.wf q hq, by have := iz.few q hq; omega⟩) fun r M10 rn hr10 k10 => ?_
  have n10 := k10.next
  have rlt := hr10.lt
  have k510 := k59.trans k10
  refine hj.use hr10 (y5.keep k510 (by simp) (by simp)) (by omega) (by omega) iz iy (by omega) fun M11 hr11 k11 => ?_
  have n11 := k11.next
  have k511 : Keep [] M5 M11 := k510.then_new k11 (fun d hd => by simp at hd; omega)
  have r11 := hr11.mono (S' := fun e => r < e) (fun e h => by rcases h with h | h <;> omega) (by omega)
  have i11 := joinS_SI iz iy (by omega)
  refine hj.use r11 (x5.keep k511 (by simp) (by simp)) (by omega) (by omega) i11 ix (by omega) fun M12 hr12 k12 => ?_
  have n12 := k12.next
  have k512 : Keep [] M5 M12 := k511.then_new k12 (fun d hd => by simp at hd; omega)
  have r12 := hr12.mono (S' := fun e => r < e) (fun e h => by rcases h with h | h <;> omega) (by omega)
  have i12 := joinS_SI i11 ix (by omega)
  refine hj.use r12 r12 (fun _ => rfl) (by omega) i12 i12 (by omega) fun M13 hr13 k13' => ?_
  have n13 := k13'.next
  have k513 : Keep [] M5 M13 := k512.then_new k13' (fun d hd => by simp at hd; omega)
  have r13 := hr13.mono (S' := fun e => r < e) (fun e h => by rcases h with h | h <;> omega) (by omega)
  have i13 := joinS_SI i12 i12 (by omega)
  refine hj.use r13 (y5.keep k513 (by simp) (by simp)) (by omega) (by omega) i13 iy (by omega) fun M14 hr14 k14 => ?_
  have n14 := k14.next
  have k514 : Keep [] M5 M14 := k513.then_new k14 (fun d hd => by simp at hd; omega)
  have r14 := hr14.mono (S' := fun e => r < e) (fun e h => by rcases h with h | h <;> omega) (by omega)
  have i14 := joinS_SI i13 iy (by omega)
  have dr : DocI (joinS (joinS (joinS (joinS pz py) px) (joinS (joinS pz py) px)) py) (uni (uni lu lv) lw) := DocI.of i14 (uni_srt (uni_srt dx.srt)) fun d => by
    rw [uni_mem, uni_mem, dx.mem, dy.mem, dz.mem, joinS_has i13 iy (by omega), joinS_has i12 i12 (by omega), joinS_has i11 ix (by omega), joinS_has iz iy (by omega)]
    constructor
    · rintro ((h | h) | h)
      · exact .inl (.inl (.inr h))
      · exact .inr h
      · exact .inl (.inl (.inl (.inl h)))
    · rintro (((( h | h) | h) | ((h | h) | h)) | h)
      · exact .inr h
      · exact .inl (.inr h)
      · exact .inl (.inl h)
      · exact .inr h
      · exact .inl (.inr h)
      · exact .inl (.inl h)
      · exact .inl (.inr h)
  have kr : Keep [r] M10 M14 := ((k11.trans k12).trans k13').trans k14
  have p14 := (p9.keep k10 (by simp) (by simp)).keep kr (by simp; omega) (fun e he h => by simp at he; omega)
  have q14 := (q9.keep k10 (by simp) (by simp)).keep kr (by simp; omega) (fun e he h => by simp at he; omega)
  generalize joinS (joinS (joinS (joinS pz py) px) (joinS (joinS pz py) px)) py = pr at *
  have x14 := x5.keep k514 (by simp) (by simp)
  have y14 := y5.keep k514 (by simp) (by simp)
  have z14 := z5.keep k514 (by simp) (by simp)
  have t14 := ot5.keep k514 (by simp)
  have s14 := os.keep k514 (by simp)
  have u14 := u5.keep k514 (by simp)
  have v14 := v5.keep k514 (by simp)
  have w14 := w5.keep k514 (by simp)
  have hwl := within_len dx dy
  rw [SlR.len t14.slR, SlR.len v14.slR, eqlN]
  have asc : ∀ {k : Nat} {ps : List Pt}, SI k ps → k ≤ 4096 → ∀ q ∈ ps, Asc q.2 ∧ q.2.length ≤ 1000000 := fun h hk q hq => ⟨(h.wf q hq).1, by have := h.few q hq; omega⟩
  refine hi p14 ip.wf t14.slR dp.good (by omega) dp.parts fun N1 e1 => ?_
  rw [guardM_TT]
  dsimp only
  have q1 := q14.keep e1 (by simp) (by simp)
  have s1 := s14.keep e1 (by simp)
  refine hi q1 iq.wf s1.slR dq.good (by omega) dq.parts fun N2 e2 => ?_
  rw [pickT, guardM_TT]
  dsimp only
  have f2 := e1.trans e2
  refine hi (r14.keep f2 (by simp) (by simp)) i14.wf (s14.keep f2 (by simp)).slR dq.good (by omega) dr.parts fun N3 e3 => ?_
  rw [pickT, guardM_TT]
  dsimp only
  have f3 := f2.trans e3
  refine hi (x14.keep f3 (by simp) (by simp)) ix.wf (u14.keep f3 (by simp)).slR dx.good (by omega) dx.parts fun N4 e4 => ?_
  rw [pickT, guardM_TT]
  dsimp only
  have f4 := f3.trans e4
  refine hi (y14.keep f4 (by simp) (by simp)) iy.wf (v14.keep f4 (by simp)).slR dy.good (by omega) dy.parts fun N5 e5 => ?_
  rw [pickT, guardM_TT]
  dsimp only
  have f5 := f4.trans e5
  refine hi (z14.keep f5 (by simp) (by simp)) iz.wf (w14.keep f5 (by simp)).slR dz.good (by omega) dz.parts fun N6 e6 => ?_
  rw [pickT, guardM_TT]
  dsimp only
  have f6 := f5.trans e6
  have hm1 : ∀ d, hasS px d = true → hasS pp d = true := fun d h => (dp.mem d).1 (uni_mem.2 (.inl ((dx.mem d).2 h)))
  have hm2 : ∀ d, hasS py d = true → hasS pp d = true := fun d h => (dp.mem d).1 (uni_mem.2 (.inr ((dy.mem d).2 h)))
  have hm3 : ∀ d, hasS pp d = true → hasS pq d = true := fun d h => (dq.mem d).1 (uni_mem.2 (.inl ((dp.mem d).2 h)))
  have hm4 : ∀ d, hasS pp d = true → hasS pr d = true := fun d h => (dr.mem d).1 (uni_mem.2 (.inl ((dp.mem d).2 h)))
  refine hW (x14.keep f6 (by simp) (by simp)) (q14.keep f6 (by simp) (by simp)) (fun p hp => (asc ix (by omega) p hp).2) (asc iq (by omega)) fun N7 e7 => ?_
  rw [(withinS_has ix.wf iq.wf).2 fun d h => hm3 d (hm1 d h), pickT, guardM_TT]
  dsimp only
  have f7 := f6.trans e7
  refine hW (y14.keep f7 (by simp) (by simp)) (p14.keep f7 (by simp) (by simp)) (fun p hp => (asc iy (by omega) p hp).2) (asc ip (by omega)) fun N8 e8 => ?_
  rw [(withinS_has iy.wf ip.wf).2 hm2, pickT, guardM_TT]
  dsimp only
  have f8 := f7.trans e8
  refine hW (p14.keep f8 (by simp) (by simp)) (r14.keep f8 (by simp) (by simp)) (fun p hp => (asc ip (by omega) p hp).2) (asc i14 (by omega)) fun N9 e9 => ?_
  rw [(withinS_has ip.wf i14.wf).2 hm4, pickT, guardM_TT]
  dsimp only
  have f9 := f8.trans e9
  refine hW (x14.keep f9 (by simp) (by simp)) (y14.keep f9 (by simp) (by simp)) (fun p hp => (asc ix (by omega) p hp).2) (asc iy (by omega)) fun N10 e10 => ?_
  rw [hwl, boolEqW_Bo, show ((decide ((uni lu lv).length = lv.length) == decide ((uni lu lv).length = lv.length)) != false) = true by simp, pickT]
  exact hQ N10
end Go.Ab.Dot
