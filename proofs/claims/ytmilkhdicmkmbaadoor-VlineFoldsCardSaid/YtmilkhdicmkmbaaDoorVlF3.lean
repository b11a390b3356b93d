/- Lines and their folds, read. By an AI agent. -/
import Derived.Test.YtmilkhdicmkmbaaDoorVlF2
set_option linter.unusedVariables false
set_option linter.unusedSimpArgs false
namespace Go.Ab.Vl
open Go Go.Ab

/-- Before and behind the first byte 10. -/
def nl : List UInt8 → Option (List UInt8 × List UInt8)
  | [] => none
  | c :: t => if c.toNat = 10 then some ([], t) else (nl t).map fun p => (c :: p.1, p.2)
theorem nl_idx : ∀ s : List UInt8, (nl s = none ∧ Lib.indexByte s 10 = -1) ∨ ∃ a b, nl s = some (a, b) ∧ Lib.indexByte s 10 = (a.length : Int) ∧ s = a ++ 10 :: b
  | [] => .inl ⟨rfl, rfl⟩
  | c :: t => by
    by_cases h : c.toNat = 10
    · obtain rfl : c = 10 := UInt8.toNat_inj.1 h
      exact .inr ⟨[], t, by simp [nl], by simp [Lib.indexByte], rfl⟩
    · have hc : (c == (10 : UInt8)) = false := by
        simp only [beq_eq_false_iff_ne, ne_eq]
        intro e; subst e; exact h rfl
      rcases nl_idx t with ⟨h1, h2⟩ | ⟨a, b, h1, h2, h3⟩
      · exact .inl ⟨by simp [nl, h, h1], by simp [Lib.indexByte, hc, h2]⟩
      · refine .inr ⟨c :: a, b, by simp [nl, h, h1], ?_, by rw [h3]; rfl⟩
        have : ((a.length : Int) == -1) = false := by simp
        simp [Lib.indexByte, hc, h2, this]
/-- Without the byte 13 at its end. -/
def strip (s : List UInt8) : List UInt8 := if s.drop (s.length - 1) = [13] then s.take (s.length - 1) else s
theorem strip_cr (a : List UInt8) : strip (a ++ [13]) = a := by simp [strip]
theorem strip_len (a : List UInt8) : (strip a).length ≤ a.length := by
  unfold strip; split
  · simp
  · exact Nat.le_refl _
/-- The lines of a text. -/
def rawL : List UInt8 → List UInt8 → List (List UInt8)
  | cur, [] => if cur = [] then [] else [cur]
  | cur, c :: t => if c.toNat = 10 then strip cur :: rawL [] t else rawL (cur ++ [c]) t
theorem rawL_nl : ∀ (s cur : List UInt8), rawL cur s = match nl s with | some (a, b) => strip (cur ++ a) :: rawL [] b | none => if cur ++ s = [] then [] else [cur ++ s]
  | [], cur => by simp [rawL, nl]
  | c :: t, cur => by
    by_cases h : c.toNat = 10
    · simp [rawL, nl, h]
    · simp only [rawL, nl, if_neg h]
      rw [rawL_nl t (cur ++ [c])]
      cases nl t with
      | none => simp
      | some p => simp
theorem rawL_len : ∀ (s cur : List UInt8), (rawL cur s).length ≤ s.length + 1
  | [], cur => by simp only [rawL]; split <;> simp
  | c :: t, cur => by
    simp only [rawL]
    split
    · have := rawL_len t []
      simp; omega
    · have := rawL_len t (cur ++ [c])
      simp; omega
theorem rawL_crlf {a : List UInt8} (ha : ∀ b ∈ a, b.toNat ≠ 10) : ∀ (cur t : List UInt8), rawL cur (a ++ 13 :: 10 :: t) = (cur ++ a) :: rawL [] t := by
  induction a with
  | nil => intro cur t; simp [rawL, strip_cr]
  | cons c a ih =>
    intro cur t
    have hc := ha c (by simp)
    simp only [List.cons_append, rawL, if_neg hc]
    rw [ih (fun b hb => ha b (by simp [hb]))]
    simp
theorem rawL_go {a : List UInt8} (ha : ∀ b ∈ a, b.toNat ≠ 10) : ∀ (cur t : List UInt8), rawL cur (a ++ t) = rawL (cur ++ a) t := by
  induction a with
  | nil => intro cur t; simp
  | cons c a ih =>
    intro cur t
    have hc := ha c (by simp)
    simp only [List.cons_append, rawL, if_neg hc]
    rw [ih (fun b hb => ha b (by simp [hb]))]
    simp

/-! ### the calls -/
def IndexC (c : CallT) : Prop := ∀ {M : RM} {s : List UInt8} {Q : PostV}, Q (N .i64 (Lib.indexByte s 10)) M → c [St s, St [10]] M Q
theorem index_spec {ci x c1 c2 : CallT} (hi : IdxByteC ci) : IndexC fun args M Q => ∃ a0 a1, args = [a0, a1] ∧ W_internal_stringslite_Index ci x c1 c2 a0 a1 M Q := by
  intro M s Q hQ
  refine ⟨_, _, rfl, ?_⟩
  unfold W_internal_stringslite_Index
  rw [lenStr_St, intW_eql, show ((([10] : List UInt8).length : Int) == 0) = false from rfl]
  simp only [fuseM]
  by_cases h : [10] = s
  · subst h
    simp only [go_sem, beq_self_eq_true]
    exact hQ
  · have h' : (([10] : List UInt8) == s) = false := by simp [h]
    simp only [go_sem, h']
    exact ⟨fun _ => ⟨by omega, 10, rfl, hi hQ⟩, fun h => absurd h (by decide)⟩

def cutA (s : List UInt8) : AV := match nl s with
  | some (a, b) => .tup [St a, St b, Bo true]
  | none => .tup [St s, St [], Bo false]
def CutC (c : CallT) : Prop := ∀ {M : RM} {s : List UInt8} {Q : PostV}, s.length ≤ 1000000000 → Q (cutA s) M → c [St s, St [10]] M Q
theorem sliteCut_spec {ci : CallT} (hi : IndexC ci) : CutC fun args M Q => ∃ a0 a1, args = [a0, a1] ∧ W_internal_stringslite_Cut ci a0 a1 M Q := by
  intro M s Q hl hQ
  refine ⟨_, _, rfl, ?_⟩
  unfold W_internal_stringslite_Cut
  refine hi ?_
  unfold cutA at hQ
  rcases nl_idx s with ⟨h1, h2⟩ | ⟨a, b, h1, h2, h3⟩
  · rw [h1] at hQ
    simp only [go_sem, h2]
    exact ⟨fun h => absurd h (by decide), fun _ => hQ⟩
  · rw [h1] at hQ
    have hsl := congrArg List.length h3
    simp at hsl
    rw [h2, intW_geq, show decide ((a.length : Int) ≥ 0) = true by simp]
    refine ⟨fun _ => ?_, fun h => by cases h⟩
    rw [subStr_to (by omega)]
    simp only [go_sem]
    rw [show IntKind.wrap .i64 ((a.length : Int) + ((1 : Nat) : Int)) = ((a.length + 1 : Nat) : Int) by rw [i64w (by omega) (by omega)]; omega]
    rw [subStr_from (by omega)]
    simp only [go_sem]
    rw [h3]
    rw [show (a ++ 10 :: b).take a.length = a by simp, show (a ++ 10 :: b).drop (a.length + 1) = b by rw [← List.drop_drop]; simp]
    exact hQ
theorem cut_spec {ci : CallT} (hi : CutC ci) : CutC fun args M Q => ∃ a0 a1, args = [a0, a1] ∧ W_strings_Cut ci a0 a1 M Q := by
  intro M s Q hl hQ
  refine ⟨_, _, rfl, ?_⟩
  unfold W_strings_Cut
  refine hi hl ?_
  unfold cutA at hQ ⊢
  cases h : nl s with
  | none => rw [h] at hQ; simpa only [go_sem] using hQ
  | some p => rw [h] at hQ; simpa only [go_sem] using hQ

def HasSuffixC (c : CallT) : Prop := ∀ {M : RM} {s : List UInt8} {Q : PostV}, s.length ≤ 1000000000 → Q (Bo (decide (s.drop (s.length - 1) = [13]))) M → c [St s, St [13]] M Q
theorem hasSuffix_spec : HasSuffixC fun args M Q => ∃ a0 a1, args = [a0, a1] ∧ W_internal_stringslite_HasSuffix a0 a1 M Q := by
  intro M s Q hl hQ
  refine ⟨_, _, rfl, ?_⟩
  unfold W_internal_stringslite_HasSuffix
  simp only [fuseM]
  rw [lenStr_St, lenStr_St, intW_geq]
  by_cases h : s = []
  · subst h
    simp only [go_sem, show decide ((([] : List UInt8).length : Int) ≥ (([13] : List UInt8).length : Int)) = false from rfl]
    exact hQ
  · have hpos := List.length_pos_iff.2 h
    rw [show decide ((s.length : Int) ≥ (([13] : List UInt8).length : Int)) = true by simp; omega]
    simp only [go_sem]
    rw [show IntKind.wrap .i64 ((s.length : Int) - ((1 : Nat) : Int)) = ((s.length - 1 : Nat) : Int) by rw [i64w (by omega) (by omega)]; omega]
    rw [subStr_from (by omega)]
    simp only [go_sem]
    have : (s.drop (s.length - 1) == [13]) = decide (s.drop (s.length - 1) = [13]) := by
      by_cases e : s.drop (s.length - 1) = [13] <;> simp [e]
    rw [this]; exact hQ
def TrimC (c : CallT) : Prop := ∀ {M : RM} {s : List UInt8} {Q : PostV}, s.length ≤ 1000000000 → Q (St (strip s)) M → c [St s, St [13]] M Q
theorem sliteTrim_spec {ch : CallT} (hh : HasSuffixC ch) : TrimC fun args M Q => ∃ a0 a1, args = [a0, a1] ∧ W_internal_stringslite_TrimSuffix ch a0 a1 M Q := by
  intro M s Q hl hQ
  refine ⟨_, _, rfl, ?_⟩
  unfold W_internal_stringslite_TrimSuffix
  refine hh hl ?_
  unfold strip at hQ
  by_cases e : s.drop (s.length - 1) = [13]
  · rw [if_pos e] at hQ
    have hne : s ≠ [] := by intro h; subst h; simp at e
    have hpos := List.length_pos_iff.2 hne
    rw [decide_eq_true e]
    refine ⟨fun _ => ?_, fun h => by cases h⟩
    simp only [go_sem]
    rw [show IntKind.wrap .i64 ((s.length : Int) - ((1 : Nat) : Int)) = ((s.length - 1 : Nat) : Int) by rw [i64w (by omega) (by omega)]; omega]
    rw [subStr_to (by omega)]
    simp only [go_sem]
    exact hQ
  · rw [if_neg e] at hQ
    rw [decide_eq_false e]
    exact ⟨fun h => (by cases h), fun _ => hQ⟩
theorem trim_spec {ch : CallT} (hh : TrimC ch) : TrimC fun args M Q => ∃ a0 a1, args = [a0, a1] ∧ W_strings_TrimSuffix ch a0 a1 M Q := by
  intro M s Q hl hQ
  refine ⟨_, _, rfl, ?_⟩
  unfold W_strings_TrimSuffix
  exact hh hl hQ
end Go.Ab.Vl
