/- Lines and their folds: the walks. By an AI agent. -/
import Derived.Test.YtmilkhdicmkmbaaDoorVlF3
set_option linter.unusedVariables false
set_option linter.unusedSimpArgs false
namespace Go.Ab.Vl
open Go Go.Ab

theorem makeB {T B : Nat} {zs : List AV} {K : RB → (Nat → AV) → Prop} (h : K (.row [] false T 0) (fun b => .slc b 0 0 (.ex 0))) : makeW T B zs (N .i64 0) (N .i64 0) K :=
  ⟨_, _, 0, 0, rfl, rfl, by omega, by omega, by simp, by decide, h⟩
theorem app_s {n0 T : Nat} {M : RM} {v : AV} {xs : List (List UInt8)} {x : List UInt8} {K : AV → RM → Prop} (ho : Ow STR M n0 T v xs) (hn : n0 ≤ M.next) (hl : xs.length ≤ 100000000)
    (hK : ∀ v' M', Ow STR M' n0 T v' (xs ++ [x]) → Keep (blkOf v) M M' → (v' = v ∨ ∀ b ∈ blkOf v', M.next ≤ b) → K v' M') :
    rowsW T 1 [St []] [(0, 1, St x)] fun r f => appW T 1 16 [St []] false v (f M.next) (M.push r) K := by
  rw [rows1 (x := St x) (size := 1) rfl rfl rfl]
  exact app_one (E := STR) (a := x) ho hn (Nat.le_refl _) (by omega) (by omega) fun v' M' h1 h2 _ h4 => hK v' M' h1 h2 h4
theorem app_i {n0 T : Nat} {M : RM} {v : AV} {xs : List Int} {x : Int} {K : AV → RM → Prop} (ho : Ow INT M n0 T v xs) (hn : n0 ≤ M.next) (hl : xs.length ≤ 100000000)
    (hK : ∀ v' M', Ow INT M' n0 T v' (xs ++ [x]) → Keep (blkOf v) M M' → (v' = v ∨ ∀ b ∈ blkOf v', M.next ≤ b) → K v' M') :
    rowsW T 1 [N .i64 0] [(0, 1, N .i64 x)] fun r f => appW T 1 8 [N .i64 0] false v (f M.next) (M.push r) K := by
  rw [rows1 (x := N .i64 x) (size := 1) rfl rfl rfl]
  exact app_one (E := INT) (a := x) ho hn (Nat.le_refl _) (by omega) (by omega) fun v' M' h1 h2 _ h4 => hK v' M' h1 h2 h4

def RawC (T : Nat) (c : CallT) : Prop := ∀ {M : RM} {s : List UInt8} {Q : PostV}, s.length ≤ 1000000 → (∀ v M', Ow STR M' M.next T v (rawL [] s) → Keep [] M M' → Q v M') → c [St s] M Q
theorem getElem_last {l : List UInt8} (h : l ≠ []) : l.drop (l.length - 1) = [l[l.length - 1]'(by have := List.length_pos_iff.2 h; omega)] := by
  have hp := List.length_pos_iff.2 h
  rw [List.drop_eq_getElem_cons (by omega), List.drop_eq_nil_of_le (by omega)]

theorem raw_spec {T : Nat} : RawC T fun args M Q => ∃ a0, args = [a0] ∧ W_rolodex_rolodexref23_Raw T a0 M Q := by
  intro M s Q hl hQ
  refine ⟨_, rfl, ?_⟩
  unfold W_rolodex_rolodexref23_Raw
  refine makeB ?_
  simp only [newW_eq, fuseM]
  refine loopW_ind (fun m ys M3 => ∃ (i f : Nat) (v : AV) (out : List (List UInt8)), m = s.length - i ∧ ys = [v, N .i64 f, N .i64 i] ∧ i ≤ s.length ∧ f ≤ i ∧ Ow STR M3 M.next T v out ∧ Keep [] M M3 ∧ out.length ≤ i ∧
    rawL [] s = out ++ rawL ((s.drop f).take (i - f)) (s.drop i)) _
    ⟨0, 0, _, [], rfl, rfl, Nat.zero_le _, Nat.le_refl _, Ow.lit STR M, (Keep.refl _ _).push _, by simp, by simp⟩ ?_
  rintro next m ys M3 hnext ⟨i, f, v, out, rfl, rfl, hile, hfi, ho, hK, hol, hu⟩
  have kk : ∀ {M' : RM}, Keep (blkOf v) M3 M' → Keep [] M M' := fun h => hK.then_new h fun c hc => .inl (ho.blk c hc).1
  simp only [go_sem]
  refine ⟨fun hlt => ?_, fun hge => ?_⟩
  · have hlt : i < s.length := by simpa using hlt
    have hg : s[i]? = some s[i] := List.getElem?_eq_getElem hlt
    have hd := List.drop_eq_getElem_cons hlt
    have htk : (s.drop f).take (i + 1 - f) = (s.drop f).take (i - f) ++ [s[i]] := by
      rw [show i + 1 - f = (i - f) + 1 by omega, List.take_succ_eq_append_getElem (by simp; omega)]
      congr 2
      rw [List.getElem_drop]
      congr 1; omega
    rw [hd] at hu
    simp only [rawL] at hu
    simp only [hg, go_sem, i64_succ (show i < 9223372036854775807 by omega)]
    by_cases h10 : s[i].toNat = 10
    · have e10 : ((s[i].toNat : Int) == 10) = true := by simp [h10]
      rw [if_pos h10] at hu
      have cut : ∀ e : Nat, f ≤ e → e ≤ i → strip ((s.drop f).take (i - f)) = (s.drop f).take (e - f) → getW (subStr (St s) (some (N .i64 f)) (some (N .i64 e))) fun t35 => rowsW T 1 [(St [])] [(0, 1, t35)] fun r_16 f_17 =>
          appW T 1 16 [(St [])] false v (f_17 M3.next) (M3.push r_16) fun t37 M_19 => next [t37, N .i64 ((i + 1 : Nat) : Int), N .i64 ((i + 1 : Nat) : Int)] M_19 := fun e h1 h2 h3 => by
        rw [subStr_some h1 (by omega)]
        simp only [go_sem]
        refine app_s ho hK.next (by omega) fun v' M4 h4 h5 _ => ?_
        refine hnext _ _ _ (by omega) ⟨i + 1, i + 1, v', out ++ [(s.drop f).take (e - f)], rfl, rfl, by omega, Nat.le_refl _, h4, kk h5, by simp; omega, ?_⟩
        rw [hu, ← h3]; simp
      simp only [e10, go_sem]
      by_cases hif : f < i
      · have hne : (s.drop f).take (i - f) ≠ [] := by
          intro e
          have := congrArg List.length e
          simp at this; omega
        have hln : ((s.drop f).take (i - f)).length = i - f := by simp; omega
        have hlast : ((s.drop f).take (i - f)).drop (i - f - 1) = [s[i - 1]] := by
          rw [List.drop_take, List.drop_drop, show i - f - (i - f - 1) = 1 by omega, show f + (i - f - 1) = i - 1 by omega, List.drop_eq_getElem_cons (by omega)]
          rfl
        have hg1 : s[i - 1]? = some s[i - 1] := List.getElem?_eq_getElem (by omega)
        have w1 : IntKind.wrap .i64 ((i : Int) - 1) = ((i - 1 : Nat) : Int) := by rw [i64w (by omega) (by omega)]; omega
        have c1 : ((i : Int) > (f : Int)) := by omega
        simp only [c1, decide_true, go_sem, w1, hg1]
        by_cases h13 : s[i - 1].toNat = 13
        · have e13 : ((s[i - 1].toNat : Int) == 13) = true := by simp [h13]
          simp only [e13, go_sem]
          refine cut (i - 1) (by omega) (by omega) ?_
          unfold strip
          rw [hln, hlast, if_pos (by rw [show s[i - 1] = 13 from UInt8.toNat_inj.1 h13]), List.take_take]
          congr 1; omega
        · have e13 : ((s[i - 1].toNat : Int) == 13) = false := by simp; omega
          simp only [e13, go_sem]
          refine cut i (by omega) (by omega) ?_
          unfold strip
          rw [hln, hlast, if_neg]
          intro e
          have := (List.cons.inj e).1
          rw [this] at h13; exact h13 rfl
      · have c1 : ¬ ((i : Int) > (f : Int)) := by omega
        simp only [c1, decide_false, go_sem]
        refine cut i (by omega) (by omega) ?_
        rw [show i - f = 0 by omega]; rfl
    · have e10 : ((s[i].toNat : Int) == 10) = false := by simp; omega
      rw [if_neg h10] at hu
      simp only [e10, go_sem]
      exact hnext _ _ _ (by omega) ⟨i + 1, f, v, out, rfl, rfl, by omega, by omega, ho, hK, by omega, by rw [hu, htk]⟩
  · have : i = s.length := by simp at hge; omega
    subst this
    rw [List.drop_length, List.take_of_length_le (by simp)] at hu
    simp only [rawL] at hu
    refine ⟨fun h => ?_, fun h => ?_⟩
    · have h : f < s.length := by have := of_decide_eq_true h; omega
      rw [subStr_from hfi]
      simp only [go_sem]
      refine app_s ho hK.next (by omega) fun v' M4 h4 h5 _ => hQ v' M4 ?_ (kk h5)
      rw [if_neg (by intro e; have := congrArg List.length e; simp at this; omega)] at hu
      rw [hu]; exact h4
    · have h : s.length ≤ f := by have := of_decide_eq_false h; omega
      rw [if_pos (List.drop_eq_nil_of_le h), List.append_nil] at hu
      refine hQ v M3 ?_ hK
      rw [hu]; exact ho
end Go.Ab.Vl
