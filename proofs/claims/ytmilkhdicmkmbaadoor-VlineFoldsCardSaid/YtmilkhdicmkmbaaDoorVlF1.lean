/- Folding, in plain terms. By an AI agent. -/
import Derived.Test.YtmilkhdicmkmbaaDoorVlR
set_option linter.unusedVariables false
set_option linter.unusedSimpArgs false
namespace Go.Ab.Vl
open Go Go.Ab

theorem rk_le {s : List UInt8} : rk s ≤ s.length ∧ rk s ≤ 4 := by
  by_cases h : s = []
  · subst h; simp [rk]
  · have h1 := rs_eq h
    have h2 := rs_le h
    by_cases h0 : rk s = 0
    · omega
    · rw [if_neg h0] at h1; omega
theorem drop_lt {s : List UInt8} (h : s ≠ []) {k : Nat} (hk : 1 ≤ k) : (s.drop k).length < s.length := by
  have := List.length_pos_iff.2 h
  simp; omega

theorem rkN_ext {n m b0 b1 b2 b3 c1 c2 c3 k : Nat} (h : rkN n b0 b1 b2 b3 = k) (h0 : k ≠ 0) (hm : k ≤ m) (e1 : 2 ≤ k → c1 = b1) (e2 : 3 ≤ k → c2 = b2) (e3 : 4 ≤ k → c3 = b3) : rkN m b0 c1 c2 c3 = k := by
  by_cases r1 : b0 < 128
  · rw [rkN_ascii r1] at h ⊢; exact h
  by_cases r2 : b0 < 194 ∨ 245 ≤ b0
  · rw [rkN_lead (by omega)] at h; exact absurd h.symm h0
  by_cases r3 : b0 < 224
  · by_cases g : n < 2 ∨ b1 < 128 ∨ 191 < b1
    · rw [rkN2_bad (by omega) g] at h; exact absurd h.symm h0
    · rw [rkN2 (by omega) (by omega) (by omega)] at h
      subst h
      have := e1 (by omega)
      exact rkN2 (by omega) (by omega) (by omega)
  by_cases r4 : b0 < 240
  · by_cases g : n < 3 ∨ b1 < 128 ∨ 191 < b1 ∨ b2 < 128 ∨ 191 < b2
    · rw [rkN3_bad (by omega) g] at h; exact absurd h.symm h0
    · rw [rkN3 (by omega) (by omega) (by omega) (by omega) rfl] at h
      have hk : k = 3 := by split at h <;> omega
      subst hk
      obtain rfl := e1 (by omega)
      obtain rfl := e2 (by omega)
      rw [rkN3 (by omega) (by omega) (by omega) (by omega) rfl]; exact h
  · by_cases g : n < 4 ∨ b1 < 128 ∨ 191 < b1 ∨ b2 < 128 ∨ 191 < b2 ∨ b3 < 128 ∨ 191 < b3
    · rw [rkN4_bad (by omega) g] at h; exact absurd h.symm h0
    · rw [rkN4 (by omega) (by omega) (by omega) (by omega) (by omega) rfl] at h
      have hk : k = 4 := by split at h <;> omega
      subst hk
      obtain rfl := e1 (by omega)
      obtain rfl := e2 (by omega)
      obtain rfl := e3 (by omega)
      rw [rkN4 (by omega) (by omega) (by omega) (by omega) (by omega) rfl]; exact h

theorem bt_ext {s : List UInt8} {k i : Nat} (t : List UInt8) (hk : k ≤ s.length) (hi : i < k) : bt (s.take k ++ t) i = bt s i := by
  simp only [bt, List.getD_eq_getElem?_getD]
  rw [List.getElem?_append_left (by simp; omega), List.getElem?_take_of_lt hi]
theorem rk_ext {s t : List UInt8} (h0 : rk s ≠ 0) : rk (s.take (rk s) ++ t) = rk s := by
  have hl := rk_le (s := s)
  have hne : s ≠ [] := by intro e; subst e; simp [rk] at h0
  have hne' : s.take (rk s) ++ t ≠ [] := by
    intro e
    have := congrArg List.length e
    rw [List.length_append, List.length_take, Nat.min_eq_left hl.1] at this
    simp only [List.length_nil] at this; omega
  have hk : rkN s.length (bt s 0) (bt s 1) (bt s 2) (bt s 3) = rk s := by rw [rk, if_neg hne]
  rw [show rk (s.take (rk s) ++ t) = rkN (s.take (rk s) ++ t).length (bt (s.take (rk s) ++ t) 0) (bt (s.take (rk s) ++ t) 1) (bt (s.take (rk s) ++ t) 2) (bt (s.take (rk s) ++ t) 3) by rw [rk, if_neg hne']]
  rw [bt_ext t hl.1 (show 0 < rk s by omega)]
  exact rkN_ext hk h0 (by simp; omega) (fun h => bt_ext t hl.1 (by omega)) (fun h => bt_ext t hl.1 (by omega)) (fun h => bt_ext t hl.1 (by omega))

/-- Well formed. -/
def fmd (s : List UInt8) : Bool := if s = [] then true else if h : rk s = 0 then false else fmd (s.drop (rk s))
 termination_by s.length
 decreasing_by exact drop_lt (by assumption) (by omega)
theorem fmd_nil : fmd [] = true := by rw [fmd]; simp
theorem fmd_bad {s : List UInt8} (hne : s ≠ []) (h : rk s = 0) : fmd s = false := by rw [fmd]; simp [hne, h]
theorem fmd_step {s : List UInt8} (h : rk s ≠ 0) : fmd s = fmd (s.drop (rk s)) := by
  have hne : s ≠ [] := by intro e; subst e; simp [rk] at h
  rw [fmd]; simp [hne, h]
theorem rk_ne {s : List UInt8} (hne : s ≠ []) (h : fmd s = true) : rk s ≠ 0 := fun h0 => by rw [fmd_bad hne h0] at h; cases h
theorem rs_rk {s : List UInt8} (hne : s ≠ []) (h : fmd s = true) : rs s = rk s := by rw [rs_eq hne, if_neg (rk_ne hne h)]
theorem fmd_take {s : List UInt8} (hne : s ≠ []) (h : fmd s = true) : fmd (s.take (rs s)) = true := by
  have h0 := rk_ne hne h
  have e := rk_ext (t := []) h0
  rw [List.append_nil] at e
  rw [rs_rk hne h, fmd_step (by omega), e]
  rw [List.drop_eq_nil_of_le (by simp; omega), fmd_nil]
theorem fmd_drop {s : List UInt8} (hne : s ≠ []) (h : fmd s = true) : fmd (s.drop (rs s)) = true := by
  rw [rs_rk hne h, ← fmd_step (rk_ne hne h), h]
theorem fmd_append : ∀ (n : Nat) {a b : List UInt8}, a.length ≤ n → fmd a = true → fmd b = true → fmd (a ++ b) = true
  | 0, a, b, hn, ha, hb => by
    have : a = [] := List.eq_nil_of_length_eq_zero (by omega)
    subst this; exact hb
  | n + 1, a, b, hn, ha, hb => by
    by_cases hne : a = []
    · subst hne; exact hb
    have h0 := rk_ne hne ha
    have hl := rk_le (s := a)
    have e : rk (a ++ b) = rk a := by
      have := rk_ext (s := a) (t := a.drop (rk a) ++ b) h0
      rwa [← List.append_assoc, List.take_append_drop] at this
    rw [fmd_step (by omega), e, List.drop_append_of_le_length hl.1]
    refine fmd_append n ?_ (by rw [← fmd_step h0, ha]) hb
    simp; omega
theorem fmd_sp {a : List UInt8} (h : fmd a = true) : fmd (32 :: a) = true := by
  have e : rk [32] = 1 := by rw [rk, if_neg (by simp)]; exact rkN_ascii (by simp [bt])
  exact fmd_append 1 (a := [32]) (by simp) (by rw [fmd_step (by omega), e]; exact fmd_nil) h

/-- What is written when so many bytes of a line are used. -/
def fo (u : Nat) (s : List UInt8) : List UInt8 :=
  if s = [] then [] else if u + rs s > 75 then [13, 10, 32] ++ s.take (rs s) ++ fo (1 + rs s) (s.drop (rs s)) else s.take (rs s) ++ fo (u + rs s) (s.drop (rs s))
 termination_by s.length
 decreasing_by all_goals exact drop_lt (by assumption) (rs_pos (by assumption))
theorem fo_nil (u : Nat) : fo u [] = [] := by rw [fo]; simp
theorem fo_break {u : Nat} {s : List UInt8} (hne : s ≠ []) (h : 75 < u + rs s) : fo u s = [13, 10, 32] ++ s.take (rs s) ++ fo (1 + rs s) (s.drop (rs s)) := by
  rw [fo, if_neg hne, if_pos (by omega)]
theorem fo_more {u : Nat} {s : List UInt8} (hne : s ≠ []) (h : u + rs s ≤ 75) : fo u s = s.take (rs s) ++ fo (u + rs s) (s.drop (rs s)) := by
  rw [fo, if_neg hne, if_neg (by omega)]
/-- The first piece. -/
def pc (lim : Nat) (s : List UInt8) : Nat := if s = [] then 0 else if rs s > lim then 0 else rs s + pc (lim - rs s) (s.drop (rs s))
 termination_by s.length
 decreasing_by exact drop_lt (by assumption) (rs_pos (by assumption))
theorem pc_nil (l : Nat) : pc l [] = 0 := by rw [pc]; simp
theorem pc_end {l : Nat} {s : List UInt8} (h : l < rs s) : pc l s = 0 := by rw [pc]; simp; intro _ _; omega
theorem pc_more {l : Nat} {s : List UInt8} (hne : s ≠ []) (h : rs s ≤ l) : pc l s = rs s + pc (l - rs s) (s.drop (rs s)) := by
  rw [pc, if_neg hne, if_neg (by omega)]
theorem pc_le : ∀ (n : Nat) {l : Nat} {s : List UInt8}, s.length ≤ n → pc l s ≤ s.length
  | n, l, s, hn => by
    by_cases hne : s = []
    · subst hne; simp [pc_nil]
    by_cases h : l < rs s
    · simp [pc_end h]
    rw [pc_more hne (by omega)]
    have h1 := rs_pos hne
    have h2 := rs_le hne
    cases n with
    | zero => exact absurd (List.eq_nil_of_length_eq_zero (by omega)) hne
    | succ n =>
      have := pc_le n (l := l - rs s) (s := s.drop (rs s)) (by simp; omega)
      simp at this; omega
theorem pc_pos {l : Nat} {s : List UInt8} (hne : s ≠ []) (h : 4 ≤ l) : 1 ≤ pc l s := by
  have h1 := rs_pos hne
  have h2 := rs_le hne
  rw [pc_more hne (by omega)]; omega
theorem fo_pc : ∀ (n : Nat) {u : Nat} {s : List UInt8}, s.length ≤ n → u ≤ 75 → fo u s = s.take (pc (75 - u) s) ++ (if s.drop (pc (75 - u) s) = [] then [] else [13, 10, 32] ++ fo 1 (s.drop (pc (75 - u) s)))
  | n, u, s, hn, hu => by
    by_cases hne : s = []
    · subst hne; simp [fo_nil]
    have h1 := rs_pos hne
    have h2 := rs_le hne
    by_cases h : 75 < u + rs s
    · rw [pc_end (by omega), fo_break hne h]
      simp only [List.take_zero, List.drop_zero, List.nil_append, if_neg hne]
      rw [fo_more (u := 1) hne (by omega)]; simp
    · rw [pc_more hne (by omega), fo_more hne (by omega)]
      cases n with
      | zero => exact absurd (List.eq_nil_of_length_eq_zero (by omega)) hne
      | succ n =>
        rw [fo_pc n (u := u + rs s) (by simp; omega) (by omega), List.take_add, ← List.drop_drop, show 75 - (u + rs s) = 75 - u - rs s by omega, List.append_assoc]
theorem fo_len : ∀ (n : Nat) {u : Nat} {s : List UInt8}, s.length ≤ n → (fo u s).length ≤ 4 * s.length
  | n, u, s, hn => by
    by_cases hne : s = []
    · subst hne; simp [fo_nil]
    have h1 := rs_pos hne
    have h2 := rs_le hne
    cases n with
    | zero => exact absurd (List.eq_nil_of_length_eq_zero (by omega)) hne
    | succ n =>
      by_cases h : 75 < u + rs s
      · rw [fo_break hne h]
        have := fo_len n (u := 1 + rs s) (s := s.drop (rs s)) (by simp; omega)
        simp at this ⊢; omega
      · rw [fo_more hne (by omega)]
        have := fo_len n (u := u + rs s) (s := s.drop (rs s)) (by simp; omega)
        simp at this ⊢; omega
end Go.Ab.Vl
