import Derived.Test.YtkmkfgepdlkdkaaAwake
import Derived.WalkKit
import Derived.Below
import Derived.ProofKit
import Derived.Laws.StructEq
import Derived.Lib.Hide
set_option linter.unusedVariables false
set_option linter.unusedSimpArgs false
namespace Go.Proofs.Ytkmkfgepdlkdkaa
open Go Go.RowKit

def lessB (d1 n1 d2 n2 : Int) : Bool := decide (n1 < n2) || (decide (n1 = n2) && decide (d1 < d2))

theorem less_any (d1 n1 d2 n2 : Int) (w : World) :
    Calls Try.prog 27 #[.agg #[.int .i64 d1, .int .u64 n1], .agg #[.int .i64 d2, .int .u64 n2]] w fun e w' => e = .returned (.bool (lessB d1 n1 d2 n2)) ∧ Below w.heap.size w w' := by
  unfold lessB
  by_cases h1 : n1 < n2
  · go_enter Try.func27, Try.ntmps27
    go_wp2
    go_ret
    exact ⟨by simp [h1], ((Below.refl _ _).alloc (Nat.le_refl _) _).alloc (by simp) _⟩
  · by_cases h2 : n1 = n2
    · subst h2
      by_cases h3 : d1 < d2
      · go_enter Try.func27, Try.ntmps27
        go_wp2
        go_ret
        exact ⟨by simp [h3], ((Below.refl _ _).alloc (Nat.le_refl _) _).alloc (by simp) _⟩
      · go_enter Try.func27, Try.ntmps27
        go_wp2
        go_ret
        exact ⟨by simp [h3], ((Below.refl _ _).alloc (Nat.le_refl _) _).alloc (by simp) _⟩
    · have h2' : (n1 == n2) = false := by simpa using h2
      go_enter Try.func27, Try.ntmps27
      go_wp2
      go_ret
      exact ⟨by simp [h1, h2], ((Below.refl _ _).alloc (Nat.le_refl _) _).alloc (by simp) _⟩

theorem lessR_any (d1 n1 d2 n2 : Int) (w : World) :
    Calls Try.prog 28 #[.agg #[.int .i64 d1, .int .u64 n1], .agg #[.int .i64 d2, .int .u64 n2]] w fun e w' => e = .returned (.bool (lessB d1 n1 d2 n2)) ∧ Below w.heap.size w w' := by
  unfold lessB
  by_cases h1 : n1 < n2
  · go_enter Try.func28, Try.ntmps28
    go_wp2
    go_ret
    exact ⟨by simp [h1], ((Below.refl _ _).alloc (Nat.le_refl _) _).alloc (by simp) _⟩
  · by_cases h2 : n1 = n2
    · subst h2
      by_cases h3 : d1 < d2
      · go_enter Try.func28, Try.ntmps28
        go_wp2
        go_ret
        exact ⟨by simp [h3], ((Below.refl _ _).alloc (Nat.le_refl _) _).alloc (by simp) _⟩
      · go_enter Try.func28, Try.ntmps28
        go_wp2
        go_ret
        exact ⟨by simp [h3], ((Below.refl _ _).alloc (Nat.le_refl _) _).alloc (by simp) _⟩
    · have h2' : (n1 == n2) = false := by simpa using h2
      go_enter Try.func28, Try.ntmps28
      go_wp2
      go_ret
      exact ⟨by simp [h1, h2], ((Below.refl _ _).alloc (Nat.le_refl _) _).alloc (by simp) _⟩

theorem less_is {d1 n1 d2 n2 : Int} {b : Bool} (h : Hid (lessB d1 n1 d2 n2 = b)) (w : World) :
    Calls Try.prog 27 #[.agg #[.int .i64 d1, .int .u64 n1], .agg #[.int .i64 d2, .int .u64 n2]] w fun e w' => e = .returned (.bool b) ∧ Below w.heap.size w w' := by
  have := less_any d1 n1 d2 n2 w
  rw [h.out] at this
  exact this
theorem lessR_is {d1 n1 d2 n2 : Int} {b : Bool} (h : Hid (lessB d1 n1 d2 n2 = b)) (w : World) :
    Calls Try.prog 28 #[.agg #[.int .i64 d1, .int .u64 n1], .agg #[.int .i64 d2, .int .u64 n2]] w fun e w' => e = .returned (.bool b) ∧ Below w.heap.size w w' := by
  have := lessR_any d1 n1 d2 n2 w
  rw [h.out] at this
  exact this

theorem bcell {W w1 : World} (hb : Below W.heap.size W w1) : (∀ b o, b < W.heap.size → w1.cell? ⟨b, o, none⟩ = W.cell? ⟨b, o, none⟩) ∧ (∀ b o, b < W.heap.size → w1.frozen? ⟨b, o, none⟩ = W.frozen? ⟨b, o, none⟩) :=
  ⟨fun b o h => hb.cell (p := ⟨b, o, none⟩) h, fun b o h => hb.frozen (p := ⟨b, o, none⟩) h⟩

set_option maxHeartbeats 1000000 in
theorem order1 (da na db nb dc nc : Int) (w : World) (hx : lessB da na db nb = true) (hz : lessB db nb dc nc = false) :
    Calls Try.prog 7 #[.agg #[.int .i64 da, .int .u64 na], .agg #[.int .i64 db, .int .u64 nb], .agg #[.int .i64 dc, .int .u64 nc]] w fun e w' => e = .returned (.bool true) ∧ Below w.heap.size w w' := by
  have hy : Hid (lessB db nb da na = false) := by
    show lessB db nb da na = false
    unfold lessB at *; simp at *; omega
  have hne : Hid (¬ (da = db ∧ na = nb)) := by
    show ¬ (da = db ∧ na = nb)
    unfold lessB at *; simp at *; omega
  have HX := Lib.hid hx
  have HZ := Lib.hid hz
  clear hx hz
  by_cases hd : da = db
  · subst hd
    have hn : ¬ na = nb := fun h => hne.out ⟨rfl, h⟩
    go_enter Try.func7, Try.ntmps7
    go_wp2_with (first | (go_at_call 10; refine (awake_any _).mono ?_; rintro e w1 ⟨rfl, hb1⟩; obtain ⟨hc1, hf1⟩ := bcell hb1; have hs1 := hb1.size; have hB : Below w.heap.size w w1 := ((((Below.refl _ _).alloc (Nat.le_refl _) _).alloc (by simp) _).alloc (by simp; omega) _).trans (hb1.mono (by simp; omega)); simp only [World.size_alloc] at hc1 hf1 hs1; have hs1a : w.heap.size < w1.heap.size := (by omega); have hs1b : w.heap.size + 1 < w1.heap.size := (by omega); have hs1c : w.heap.size + 1 + 1 < w1.heap.size := (by omega); clear hs1 hb1) | (go_at_call 27; (first | ((with_reducible refine (less_is HX _).mono ?_)) | ((with_reducible refine (less_is hy _).mono ?_)) | ((with_reducible refine (less_is HZ _).mono ?_))); rintro e w2 ⟨rfl, hb2⟩; obtain ⟨hc2, hf2⟩ := bcell hb2; have hs2 := hb2.size; have hB : Below w.heap.size w w2 := Below.trans (by assumption) (hb2.mono (by omega)); have hs2a : w.heap.size < w2.heap.size := (by omega); have hs2b : w.heap.size + 1 < w2.heap.size := (by omega); have hs2c : w.heap.size + 1 + 1 < w2.heap.size := (by omega); clear hs2 hb2) | (go_at_call 28; (first | ((with_reducible refine (lessR_is HX _).mono ?_))); rintro e w2 ⟨rfl, hb2⟩; obtain ⟨hc2, hf2⟩ := bcell hb2; have hs2 := hb2.size; have hB : Below w.heap.size w w2 := Below.trans (by assumption) (hb2.mono (by omega)); have hs2a : w.heap.size < w2.heap.size := (by omega); have hs2b : w.heap.size + 1 < w2.heap.size := (by omega); have hs2c : w.heap.size + 1 + 1 < w2.heap.size := (by omega); clear hs2 hb2))
    all_goals first
      | (go_ret; exact ⟨rfl, by assumption⟩)
      | exact absurd ⟨by assumption, by assumption⟩ hne.out
  · skip
    go_enter Try.func7, Try.ntmps7
    go_wp2_with (first | (go_at_call 10; refine (awake_any _).mono ?_; rintro e w1 ⟨rfl, hb1⟩; obtain ⟨hc1, hf1⟩ := bcell hb1; have hs1 := hb1.size; have hB : Below w.heap.size w w1 := ((((Below.refl _ _).alloc (Nat.le_refl _) _).alloc (by simp) _).alloc (by simp; omega) _).trans (hb1.mono (by simp; omega)); simp only [World.size_alloc] at hc1 hf1 hs1; have hs1a : w.heap.size < w1.heap.size := (by omega); have hs1b : w.heap.size + 1 < w1.heap.size := (by omega); have hs1c : w.heap.size + 1 + 1 < w1.heap.size := (by omega); clear hs1 hb1) | (go_at_call 27; (first | ((with_reducible refine (less_is HX _).mono ?_)) | ((with_reducible refine (less_is hy _).mono ?_)) | ((with_reducible refine (less_is HZ _).mono ?_))); rintro e w2 ⟨rfl, hb2⟩; obtain ⟨hc2, hf2⟩ := bcell hb2; have hs2 := hb2.size; have hB : Below w.heap.size w w2 := Below.trans (by assumption) (hb2.mono (by omega)); have hs2a : w.heap.size < w2.heap.size := (by omega); have hs2b : w.heap.size + 1 < w2.heap.size := (by omega); have hs2c : w.heap.size + 1 + 1 < w2.heap.size := (by omega); clear hs2 hb2) | (go_at_call 28; (first | ((with_reducible refine (lessR_is HX _).mono ?_))); rintro e w2 ⟨rfl, hb2⟩; obtain ⟨hc2, hf2⟩ := bcell hb2; have hs2 := hb2.size; have hB : Below w.heap.size w w2 := Below.trans (by assumption) (hb2.mono (by omega)); have hs2a : w.heap.size < w2.heap.size := (by omega); have hs2b : w.heap.size + 1 < w2.heap.size := (by omega); have hs2c : w.heap.size + 1 + 1 < w2.heap.size := (by omega); clear hs2 hb2))
    all_goals first
      | (go_ret; exact ⟨rfl, by assumption⟩)
      | exact absurd ⟨by assumption, by assumption⟩ hne.out

set_option maxHeartbeats 1000000 in
theorem order2 (da na db nb dc nc : Int) (w : World) (hx : lessB da na db nb = true) (hz : lessB db nb dc nc = true) :
    Calls Try.prog 7 #[.agg #[.int .i64 da, .int .u64 na], .agg #[.int .i64 db, .int .u64 nb], .agg #[.int .i64 dc, .int .u64 nc]] w fun e w' => e = .returned (.bool true) ∧ Below w.heap.size w w' := by
  have hy : Hid (lessB db nb da na = false) := by
    show lessB db nb da na = false
    unfold lessB at *; simp at *; omega
  have hu : Hid (lessB da na dc nc = true) := by
    show lessB da na dc nc = true
    unfold lessB at *; simp at *; omega
  have hne : Hid (¬ (da = db ∧ na = nb)) := by
    show ¬ (da = db ∧ na = nb)
    unfold lessB at *; simp at *; omega
  have HX := Lib.hid hx
  have HZ := Lib.hid hz
  clear hx hz
  by_cases hd : da = db
  · subst hd
    have hn : ¬ na = nb := fun h => hne.out ⟨rfl, h⟩
    go_enter Try.func7, Try.ntmps7
    go_wp2_with (first | (go_at_call 10; refine (awake_any _).mono ?_; rintro e w1 ⟨rfl, hb1⟩; obtain ⟨hc1, hf1⟩ := bcell hb1; have hs1 := hb1.size; have hB : Below w.heap.size w w1 := ((((Below.refl _ _).alloc (Nat.le_refl _) _).alloc (by simp) _).alloc (by simp; omega) _).trans (hb1.mono (by simp; omega)); simp only [World.size_alloc] at hc1 hf1 hs1; have hs1a : w.heap.size < w1.heap.size := (by omega); have hs1b : w.heap.size + 1 < w1.heap.size := (by omega); have hs1c : w.heap.size + 1 + 1 < w1.heap.size := (by omega); clear hs1 hb1) | (go_at_call 27; (first | ((with_reducible refine (less_is HX _).mono ?_)) | ((with_reducible refine (less_is hy _).mono ?_)) | ((with_reducible refine (less_is HZ _).mono ?_)) | ((with_reducible refine (less_is hu _).mono ?_))); rintro e w2 ⟨rfl, hb2⟩; obtain ⟨hc2, hf2⟩ := bcell hb2; have hs2 := hb2.size; have hB : Below w.heap.size w w2 := Below.trans (by assumption) (hb2.mono (by omega)); have hs2a : w.heap.size < w2.heap.size := (by omega); have hs2b : w.heap.size + 1 < w2.heap.size := (by omega); have hs2c : w.heap.size + 1 + 1 < w2.heap.size := (by omega); clear hs2 hb2) | (go_at_call 28; (first | ((with_reducible refine (lessR_is HX _).mono ?_))); rintro e w2 ⟨rfl, hb2⟩; obtain ⟨hc2, hf2⟩ := bcell hb2; have hs2 := hb2.size; have hB : Below w.heap.size w w2 := Below.trans (by assumption) (hb2.mono (by omega)); have hs2a : w.heap.size < w2.heap.size := (by omega); have hs2b : w.heap.size + 1 < w2.heap.size := (by omega); have hs2c : w.heap.size + 1 + 1 < w2.heap.size := (by omega); clear hs2 hb2))
    all_goals first
      | (go_ret; exact ⟨rfl, by assumption⟩)
      | exact absurd ⟨by assumption, by assumption⟩ hne.out
  · skip
    go_enter Try.func7, Try.ntmps7
    go_wp2_with (first | (go_at_call 10; refine (awake_any _).mono ?_; rintro e w1 ⟨rfl, hb1⟩; obtain ⟨hc1, hf1⟩ := bcell hb1; have hs1 := hb1.size; have hB : Below w.heap.size w w1 := ((((Below.refl _ _).alloc (Nat.le_refl _) _).alloc (by simp) _).alloc (by simp; omega) _).trans (hb1.mono (by simp; omega)); simp only [World.size_alloc] at hc1 hf1 hs1; have hs1a : w.heap.size < w1.heap.size := (by omega); have hs1b : w.heap.size + 1 < w1.heap.size := (by omega); have hs1c : w.heap.size + 1 + 1 < w1.heap.size := (by omega); clear hs1 hb1) | (go_at_call 27; (first | ((with_reducible refine (less_is HX _).mono ?_)) | ((with_reducible refine (less_is hy _).mono ?_)) | ((with_reducible refine (less_is HZ _).mono ?_)) | ((with_reducible refine (less_is hu _).mono ?_))); rintro e w2 ⟨rfl, hb2⟩; obtain ⟨hc2, hf2⟩ := bcell hb2; have hs2 := hb2.size; have hB : Below w.heap.size w w2 := Below.trans (by assumption) (hb2.mono (by omega)); have hs2a : w.heap.size < w2.heap.size := (by omega); have hs2b : w.heap.size + 1 < w2.heap.size := (by omega); have hs2c : w.heap.size + 1 + 1 < w2.heap.size := (by omega); clear hs2 hb2) | (go_at_call 28; (first | ((with_reducible refine (lessR_is HX _).mono ?_))); rintro e w2 ⟨rfl, hb2⟩; obtain ⟨hc2, hf2⟩ := bcell hb2; have hs2 := hb2.size; have hB : Below w.heap.size w w2 := Below.trans (by assumption) (hb2.mono (by omega)); have hs2a : w.heap.size < w2.heap.size := (by omega); have hs2b : w.heap.size + 1 < w2.heap.size := (by omega); have hs2c : w.heap.size + 1 + 1 < w2.heap.size := (by omega); clear hs2 hb2))
    all_goals first
      | (go_ret; exact ⟨rfl, by assumption⟩)
      | exact absurd ⟨by assumption, by assumption⟩ hne.out

set_option maxHeartbeats 1000000 in
theorem order3 (da na db nb dc nc : Int) (w : World) (hx : lessB da na db nb = false) (hy : lessB db nb da na = true) :
    Calls Try.prog 7 #[.agg #[.int .i64 da, .int .u64 na], .agg #[.int .i64 db, .int .u64 nb], .agg #[.int .i64 dc, .int .u64 nc]] w fun e w' => e = .returned (.bool true) ∧ Below w.heap.size w w' := by
  have hne : Hid (¬ (da = db ∧ na = nb)) := by
    show ¬ (da = db ∧ na = nb)
    unfold lessB at *; simp at *; omega
  have HX := Lib.hid hx
  have HY := Lib.hid hy
  clear hx hy
  by_cases hd : da = db
  · subst hd
    have hn : ¬ na = nb := fun h => hne.out ⟨rfl, h⟩
    go_enter Try.func7, Try.ntmps7
    go_wp2_with (first | (go_at_call 10; refine (awake_any _).mono ?_; rintro e w1 ⟨rfl, hb1⟩; obtain ⟨hc1, hf1⟩ := bcell hb1; have hs1 := hb1.size; have hB : Below w.heap.size w w1 := ((((Below.refl _ _).alloc (Nat.le_refl _) _).alloc (by simp) _).alloc (by simp; omega) _).trans (hb1.mono (by simp; omega)); simp only [World.size_alloc] at hc1 hf1 hs1; have hs1a : w.heap.size < w1.heap.size := (by omega); have hs1b : w.heap.size + 1 < w1.heap.size := (by omega); have hs1c : w.heap.size + 1 + 1 < w1.heap.size := (by omega); clear hs1 hb1) | (go_at_call 27; (first | ((with_reducible refine (less_is HX _).mono ?_)) | ((with_reducible refine (less_is HY _).mono ?_))); rintro e w2 ⟨rfl, hb2⟩; obtain ⟨hc2, hf2⟩ := bcell hb2; have hs2 := hb2.size; have hB : Below w.heap.size w w2 := Below.trans (by assumption) (hb2.mono (by omega)); have hs2a : w.heap.size < w2.heap.size := (by omega); have hs2b : w.heap.size + 1 < w2.heap.size := (by omega); have hs2c : w.heap.size + 1 + 1 < w2.heap.size := (by omega); clear hs2 hb2) | (go_at_call 28; (first | ((with_reducible refine (lessR_is HX _).mono ?_))); rintro e w2 ⟨rfl, hb2⟩; obtain ⟨hc2, hf2⟩ := bcell hb2; have hs2 := hb2.size; have hB : Below w.heap.size w w2 := Below.trans (by assumption) (hb2.mono (by omega)); have hs2a : w.heap.size < w2.heap.size := (by omega); have hs2b : w.heap.size + 1 < w2.heap.size := (by omega); have hs2c : w.heap.size + 1 + 1 < w2.heap.size := (by omega); clear hs2 hb2))
    all_goals first
      | (go_ret; exact ⟨rfl, by assumption⟩)
      | exact absurd ⟨by assumption, by assumption⟩ hne.out
  · skip
    go_enter Try.func7, Try.ntmps7
    go_wp2_with (first | (go_at_call 10; refine (awake_any _).mono ?_; rintro e w1 ⟨rfl, hb1⟩; obtain ⟨hc1, hf1⟩ := bcell hb1; have hs1 := hb1.size; have hB : Below w.heap.size w w1 := ((((Below.refl _ _).alloc (Nat.le_refl _) _).alloc (by simp) _).alloc (by simp; omega) _).trans (hb1.mono (by simp; omega)); simp only [World.size_alloc] at hc1 hf1 hs1; have hs1a : w.heap.size < w1.heap.size := (by omega); have hs1b : w.heap.size + 1 < w1.heap.size := (by omega); have hs1c : w.heap.size + 1 + 1 < w1.heap.size := (by omega); clear hs1 hb1) | (go_at_call 27; (first | ((with_reducible refine (less_is HX _).mono ?_)) | ((with_reducible refine (less_is HY _).mono ?_))); rintro e w2 ⟨rfl, hb2⟩; obtain ⟨hc2, hf2⟩ := bcell hb2; have hs2 := hb2.size; have hB : Below w.heap.size w w2 := Below.trans (by assumption) (hb2.mono (by omega)); have hs2a : w.heap.size < w2.heap.size := (by omega); have hs2b : w.heap.size + 1 < w2.heap.size := (by omega); have hs2c : w.heap.size + 1 + 1 < w2.heap.size := (by omega); clear hs2 hb2) | (go_at_call 28; (first | ((with_reducible refine (lessR_is HX _).mono ?_))); rintro e w2 ⟨rfl, hb2⟩; obtain ⟨hc2, hf2⟩ := bcell hb2; have hs2 := hb2.size; have hB : Below w.heap.size w w2 := Below.trans (by assumption) (hb2.mono (by omega)); have hs2a : w.heap.size < w2.heap.size := (by omega); have hs2b : w.heap.size + 1 < w2.heap.size := (by omega); have hs2c : w.heap.size + 1 + 1 < w2.heap.size := (by omega); clear hs2 hb2))
    all_goals first
      | (go_ret; exact ⟨rfl, by assumption⟩)
      | exact absurd ⟨by assumption, by assumption⟩ hne.out

set_option maxHeartbeats 1000000 in
theorem order4 (da na db nb dc nc : Int) (w : World) (hx : lessB da na db nb = false) (hy : lessB db nb da na = false) :
    Calls Try.prog 7 #[.agg #[.int .i64 da, .int .u64 na], .agg #[.int .i64 db, .int .u64 nb], .agg #[.int .i64 dc, .int .u64 nc]] w fun e w' => e = .returned (.bool true) ∧ Below w.heap.size w w' := by
  obtain ⟨rfl, rfl⟩ : da = db ∧ na = nb := by
    unfold lessB at *; simp at *; omega
  have HX := Lib.hid hx
  clear hx hy
  go_enter Try.func7, Try.ntmps7
  go_wp2_with (first | (go_at_call 10; refine (awake_any _).mono ?_; rintro e w1 ⟨rfl, hb1⟩; obtain ⟨hc1, hf1⟩ := bcell hb1; have hs1 := hb1.size; have hB : Below w.heap.size w w1 := ((((Below.refl _ _).alloc (Nat.le_refl _) _).alloc (by simp) _).alloc (by simp; omega) _).trans (hb1.mono (by simp; omega)); simp only [World.size_alloc] at hc1 hf1 hs1; have hs1a : w.heap.size < w1.heap.size := (by omega); have hs1b : w.heap.size + 1 < w1.heap.size := (by omega); have hs1c : w.heap.size + 1 + 1 < w1.heap.size := (by omega); clear hs1 hb1) | (go_at_call 27; (first | ((with_reducible refine (less_is HX _).mono ?_))); rintro e w2 ⟨rfl, hb2⟩; obtain ⟨hc2, hf2⟩ := bcell hb2; have hs2 := hb2.size; have hB : Below w.heap.size w w2 := Below.trans (by assumption) (hb2.mono (by omega)); have hs2a : w.heap.size < w2.heap.size := (by omega); have hs2b : w.heap.size + 1 < w2.heap.size := (by omega); have hs2c : w.heap.size + 1 + 1 < w2.heap.size := (by omega); clear hs2 hb2) | (go_at_call 28; (first | ((with_reducible refine (lessR_is HX _).mono ?_))); rintro e w2 ⟨rfl, hb2⟩; obtain ⟨hc2, hf2⟩ := bcell hb2; have hs2 := hb2.size; have hB : Below w.heap.size w w2 := Below.trans (by assumption) (hb2.mono (by omega)); have hs2a : w.heap.size < w2.heap.size := (by omega); have hs2b : w.heap.size + 1 < w2.heap.size := (by omega); have hs2c : w.heap.size + 1 + 1 < w2.heap.size := (by omega); clear hs2 hb2))
  all_goals first
    | (go_ret; exact ⟨rfl, by assumption⟩)
    | skip

theorem order_any (da na db nb dc nc : Int) (w : World) :
    Calls Try.prog 7 #[.agg #[.int .i64 da, .int .u64 na], .agg #[.int .i64 db, .int .u64 nb], .agg #[.int .i64 dc, .int .u64 nc]] w fun e w' => e = .returned (.bool true) ∧ Below w.heap.size w w' := by
  cases hx : lessB da na db nb with
  | true => cases hz : lessB db nb dc nc with
    | true => exact order2 _ _ _ _ _ _ w hx hz
    | false => exact order1 _ _ _ _ _ _ w hx hz
  | false => cases hy : lessB db nb da na with
    | true => exact order3 _ _ _ _ _ _ w hx hy
    | false => exact order4 _ _ _ _ _ _ w hx hy
end Go.Proofs.Ytkmkfgepdlkdkaa
