/- The law of folding, in plain terms. By an AI agent. -/
import Derived.Test.YtmilkhdicmkmbaaDoorVlF5
set_option linter.unusedVariables false
set_option linter.unusedSimpArgs false
namespace Go.Ab.Vl
open Go Go.Ab

def No10 (s : List UInt8) : Prop := ∀ b ∈ s, b.toNat ≠ 10
theorem No10.take {s : List UInt8} (h : No10 s) (n : Nat) : No10 (s.take n) := fun b hb => h b (List.mem_of_mem_take hb)
theorem No10.drop {s : List UInt8} (h : No10 s) (n : Nat) : No10 (s.drop n) := fun b hb => h b (List.mem_of_mem_drop hb)
theorem No10.sp {s : List UInt8} (h : No10 s) : No10 (32 :: s) := fun b hb => by
  rcases List.mem_cons.1 hb with rfl | hb
  · decide
  · exact h b hb

/-- A step of the lines of a folded text. -/
theorem raw_end (cur : List UInt8) (u : Nat) : rawL cur (fo u [] ++ [13, 10]) = [cur] := by
  have := rawL_crlf (a := []) (by simp) cur []
  simpa [fo_nil, rawL] using this
theorem raw_break {u : Nat} {s : List UInt8} (hne : s ≠ []) (h : 75 < u + rs s) (hs : No10 s) (cur : List UInt8) :
    rawL cur (fo u s ++ [13, 10]) = cur :: rawL (32 :: s.take (rs s)) (fo (1 + rs s) (s.drop (rs s)) ++ [13, 10]) := by
  rw [fo_break hne h]
  have h1 := rawL_crlf (a := []) (by simp) cur (32 :: s.take (rs s) ++ (fo (1 + rs s) (s.drop (rs s)) ++ [13, 10]))
  have h2 := rawL_go (hs.take (rs s)).sp [] (fo (1 + rs s) (s.drop (rs s)) ++ [13, 10])
  rw [List.nil_append] at h2
  rw [← h2]
  simpa using h1
theorem raw_more {u : Nat} {s : List UInt8} (hne : s ≠ []) (h : u + rs s ≤ 75) (hs : No10 s) (cur : List UInt8) :
    rawL cur (fo u s ++ [13, 10]) = rawL (cur ++ s.take (rs s)) (fo (u + rs s) (s.drop (rs s)) ++ [13, 10]) := by
  rw [fo_more hne h, List.append_assoc, rawL_go (hs.take (rs s))]

theorem lines_ok : ∀ (n : Nat) {u : Nat} {s cur : List UInt8}, s.length ≤ n → cur.length = u → u ≤ 75 → No10 s → ∀ L ∈ rawL cur (fo u s ++ [13, 10]), L.length ≤ 75 ∧ (fmd s = true → fmd cur = true → fmd L = true)
  | n, u, s, cur, hn, hc, hu, hs, L, hL => by
    by_cases hne : s = []
    · subst hne
      rw [raw_end] at hL
      have : L = cur := by simpa using hL
      subst this
      exact ⟨by omega, fun _ h => h⟩
    have h1 := rs_pos hne
    have h2 := rs_le hne
    cases n with
    | zero => exact absurd (List.eq_nil_of_length_eq_zero (by omega)) hne
    | succ n =>
      by_cases h : 75 < u + rs s
      · rw [raw_break hne h hs] at hL
        rcases List.mem_cons.1 hL with rfl | hL
        · exact ⟨by omega, fun _ h => h⟩
        · have := lines_ok n (u := 1 + rs s) (s := s.drop (rs s)) (cur := 32 :: s.take (rs s)) (by simp; omega) (by simp; omega) (by omega) (hs.drop _) L hL
          exact ⟨this.1, fun hf _ => this.2 (fmd_drop hne hf) (fmd_sp (fmd_take hne hf))⟩
      · rw [raw_more hne (by omega) hs] at hL
        have := lines_ok n (u := u + rs s) (s := s.drop (rs s)) (cur := cur ++ s.take (rs s)) (by simp; omega) (by simp; omega) (by omega) (hs.drop _) L hL
        exact ⟨this.1, fun hf hcf => this.2 (fmd_drop hne hf) (fmd_append cur.length (Nat.le_refl _) hcf (fmd_take hne hf))⟩

theorem glue_one (p c : List UInt8) : glue [p] (32 :: c) = [p ++ c] := by simp [glue, isSp]
theorem glue_back : ∀ (n : Nat) {u : Nat} {s p c : List UInt8}, s.length ≤ n → No10 s → (rawL (32 :: c) (fo u s ++ [13, 10])).foldl glue [p] = [p ++ c ++ s]
  | n, u, s, p, c, hn, hs => by
    by_cases hne : s = []
    · subst hne
      rw [raw_end]
      simp [glue_one]
    have h1 := rs_pos hne
    have h2 := rs_le hne
    cases n with
    | zero => exact absurd (List.eq_nil_of_length_eq_zero (by omega)) hne
    | succ n =>
      by_cases h : 75 < u + rs s
      · rw [raw_break hne h hs, List.foldl_cons, glue_one, glue_back n (by simp; omega) (hs.drop _), List.append_assoc, List.take_append_drop]
      · rw [raw_more hne (by omega) hs, List.cons_append, glue_back n (by simp; omega) (hs.drop _)]
        simp
theorem glue_all : ∀ (n : Nat) {u : Nat} {s c : List UInt8}, s.length ≤ n → No10 s → (rawL c (fo u s ++ [13, 10])).foldl glue [] = [c ++ s]
  | n, u, s, c, hn, hs => by
    by_cases hne : s = []
    · subst hne
      rw [raw_end]
      simp [glue]
    have h1 := rs_pos hne
    have h2 := rs_le hne
    cases n with
    | zero => exact absurd (List.eq_nil_of_length_eq_zero (by omega)) hne
    | succ n =>
      by_cases h : 75 < u + rs s
      · rw [raw_break hne h hs, List.foldl_cons, show glue [] c = [c] by simp [glue], glue_back n (by simp; omega) (hs.drop _), List.append_assoc, List.take_append_drop]
      · rw [raw_more hne (by omega) hs, glue_all n (by simp; omega) (hs.drop _)]
        simp

def FoldBC (B : Base) (c : CallT) : Prop := ∀ {M : RM} {s : List UInt8} {Q : PostV}, M.base = B → s.length ≤ 1000000 → (∀ M', Keep [] M M' → Q (St (fo 0 s)) M') → c [St s] M Q

theorem folds_law {T : Nat} {M : RM} {ca cf crf cr cfm cu : CallT} (ha : AwakeC M.base ca) (hf : FoldBC M.base cf) (hrf : FoldC crf) (hr : RawC T cr) (hfm : FormedC cfm) (hu : UnfoldC T cu) {s : List UInt8} {Q : PostV} (hQ : ∀ M', Q (Bo true) M') :
    W_rolodex_rolodexlaw23_VlineFolds ca cf crf cr cfm cu (St s) M Q := by
  unfold W_rolodex_rolodexlaw23_VlineFolds
  simp only [fuseM]
  refine ha rfl ?_
  simp only [go_sem]
  refine ⟨fun _ => hQ _, fun hl => ?_⟩
  have hl : s.length ≤ 2000 := by simp at hl; omega
  have hfl := fo_len s.length (u := 0) (s := s) (Nat.le_refl _)
  refine hf rfl (by omega) fun M1 k1 => ?_
  refine hrf (by omega) fun M2 k2 => ?_
  simp only [go_sem, bne_self_eq_false]
  refine loopW_ind (fun m ys M' => ∃ i : Nat, m = s.length - i ∧ ys = [N .i64 i] ∧ i ≤ s.length ∧ No10 (s.take i)) _ ⟨0, rfl, rfl, Nat.zero_le _, by simp [No10]⟩ ?_
  rintro next m ys M3 hnext ⟨i, rfl, rfl, hi, h10⟩
  simp only [go_sem]
  refine ⟨fun hlt => ?_, fun hge => ?_⟩
  · have hlt : i < s.length := by simpa using hlt
    have hg : s[i]? = some s[i] := List.getElem?_eq_getElem hlt
    have htk : s.take (i + 1) = s.take i ++ [s[i]] := List.take_succ_eq_append_getElem hlt
    generalize s[i] = c at *
    simp only [hg, go_sem, i64_succ (show i < 9223372036854775807 by omega)]
    by_cases c10 : c.toNat = 10
    · have e10 : ((c.toNat : Int) == 10) = true := by simp [c10]
      simp only [e10, go_sem]
      exact hQ _
    · have e10 : ((c.toNat : Int) == 10) = false := by simp; omega
      have fin : next [N .i64 ((i + 1 : Nat) : Int)] M3 := hnext _ _ _ (by omega) ⟨i + 1, rfl, rfl, by omega, by
        rw [htk]
        intro b hb
        rcases List.mem_append.1 hb with hb | hb
        · exact h10 b hb
        · have : b = c := by simpa using hb
          subst this; exact c10⟩
      simp only [e10, go_sem]
      exact ⟨fun _ => hQ _, fun _ => fin⟩
  · have : i = s.length := by simp at hge; omega
    subst this
    rw [List.take_length] at h10
    refine ⟨by simp; omega, ?_⟩
    refine hr (by simp; omega) fun v M4 ho4 k4 => ?_
    have hX := fun L hL => lines_ok s.length (u := 0) (s := s) (cur := []) (Nat.le_refl _) rfl (by omega) h10 L hL
    have hG := glue_all s.length (u := 0) (s := s) (c := []) (Nat.le_refl _) h10
    have hXl := rawL_len (fo 0 s ++ [13, 10]) []
    have hlF : (fo 0 s ++ [13, 10]).length ≤ 8002 := by simp; omega
    generalize hXX : rawL [] (fo 0 s ++ [13, 10]) = X at *
    have hv := ho4.slR
    refine loopW_ind (fun m ys M5 => ∃ i : Nat, m = X.length - i ∧ ys = [N .i64 i] ∧ i ≤ X.length ∧ Keep [] M4 M5) _ ⟨0, rfl, rfl, Nat.zero_le _, Keep.refl _ _⟩ ?_
    rintro next m ys M5 hnext ⟨i, rfl, rfl, hi, k5⟩
    have hv5 : Sl STR M5 v X := hv.keep k5 (by simp)
    rw [SlR.len hv5]
    simp only [nthD_zero, intW_lss, condW_Bo]
    refine ⟨fun hlt => ?_, fun _ => ?_⟩
    · have hlt : i < X.length := by simpa using hlt
      obtain ⟨b, o, _, _, hidx, hc⟩ := Sl.at1 hv5 (i := i) i hlt
      have hLL := hX X[i] (List.getElem_mem hlt)
      generalize X[i] = L at *
      have c75 : ¬ ((L.length : Int) > 75) := by omega
      rw [hidx]
      simp only [go_sem, hc _ rfl, c75, decide_false]
      refine hfm (by omega) ?_
      have fin : next [N .i64 ((i + 1 : Nat) : Int)] M5 := hnext _ _ _ (by omega) ⟨i + 1, rfl, rfl, by omega, k5⟩
      have w1 := i64_succ (show i < 9223372036854775807 by omega)
      cases hfs : fmd s with
      | false =>
        simp only [go_sem, w1]
        exact fin
      | true =>
        simp only [go_sem, w1, hidx, hc _ rfl]
        refine hfm (by omega) ?_
        rw [hLL.2 hfs fmd_nil]
        simp only [go_sem, w1]
        exact fin
    · refine ⟨by simp; omega, ?_⟩
      refine hu (by omega) fun v' u' M6 ho6 k6 => ?_
      rw [hXX, hG, List.nil_append] at ho6
      have fin : lenW v' fun t83 => intW BinOp.eql t83 (N IntKind.i64 1) fun t84 => guardM t84 true (fun k' => idxS v' (N IntKind.i64 0) 1 fun t87 => load1 M6 t87 fun t88 => strW BinOp.eql t88 (St s) fun t90 => k' t90 M6) (fun k => k AV.undef M6) fun t90_77 M_78 =>
          pickW t84 t90_77 (Bo false) fun t91 => Q t91 M_78 := by
        obtain ⟨b, o, _, _, hidx, hc⟩ := Sl.at1 ho6.slR (i := 0) 0 (by simp)
        rw [SlR.len ho6.slR]
        have e1 : (((([s] : List (List UInt8)).length : Nat) : Int) == 1) = true := rfl
        simp only [intW_eql, go_sem, hidx]
        rw [if_pos (show (((1 : Nat) : Int) == 1) = true from rfl)]
        refine ⟨_, hc _ rfl, ?_⟩
        simp only [strW_eql, List.getElem_cons_zero, beq_self_eq_true]
        rw [if_pos (show (((1 : Nat) : Int) == 1) = true from rfl)]
        exact hQ _
      simp only [go_sem]
      clear hfl hX hG hnext
      cases s with
      | nil =>
        simp only [List.length_nil, show decide (((0 : Nat) : Int) > 0) = false from rfl]
        exact ⟨fun h => (by cases h), fun _ => fin⟩
      | cons c r =>
        have e0 : decide ((((c :: r).length : Nat) : Int) > 0) = true := by simp
        simp only [e0, if_true]
        refine ⟨by omega, c, rfl, ?_⟩
        by_cases h32 : c.toNat = 32
        · have e32 : ((c.toNat : Int) == 32) = true := by simp [h32]
          simp only [e32, Bool.true_eq_false, if_true, if_false]
          exact ⟨fun _ => hQ _, fun h => (by cases h)⟩
        · have e32 : ((c.toNat : Int) == 32) = false := by simp; omega
          simp only [e32, Bool.false_eq_true, if_true, if_false]
          refine ⟨by omega, c, rfl, ?_⟩
          exact ⟨fun _ => hQ _, fun _ => fin⟩
end Go.Ab.Vl
