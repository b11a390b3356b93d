/- The law of escapes, in plain terms. By an AI agent. -/
import Derived.Test.YtmilkhdicmkmbaaDoorVlE
set_option linter.unusedVariables false
set_option linter.unusedSimpArgs false
namespace Go.Ab.Vl
open Go Go.Ab

theorem unescA_esc (bad good : AV) (s : List UInt8) : unescA bad good (esc s) = .tup [St s, good] := by simp [unescA, unesc_esc]

theorem escapes_law {T : Nat} {M : RM} {ca ce cu cru cre cs crs : CallT} (ha : AwakeC M.base ca) (he : EscC ce) (hu : UnescC (N .i64 14) (N .i64 0) cu) (hru : UnescC (Bo false) (Bo true) cru) (hre : EscC cre)
    (hs : SplitC T cs) (hrs : SplitC T crs) {s : List UInt8} {x : UInt8} {Q : PostV} (hQ : ∀ M', Q (Bo true) M') : W_rolodex_rolodexlaw23_VlineEscapes ca ce cu cru cre cs crs (St s) (By x) M Q := by
  unfold W_rolodex_rolodexlaw23_VlineEscapes
  simp only [fuseM]
  refine ha rfl ?_
  simp only [go_sem]
  refine ⟨fun _ => hQ _, fun hl => ?_⟩
  have hl : s.length ≤ 2000 := by simp at hl; omega
  have hel := esc_len s
  refine he (by omega) fun M1 k1 => ?_
  refine hu (by omega) fun M2 k2 => ?_
  rw [unescA_esc]
  simp only [go_sem]
  refine hu (by omega) fun M3 k3 => ?_
  have fin : ∀ M5, cs [St s, By x] M5 fun t77 M_65 => crs [St s, By x] M_65 fun t80 M_66 => lenW t77 fun t82 => lenW t80 fun t84 => intW .neq t82 t84 fun t85 => condW t85 (Q (Bo false) M_66) (
      loopW (fun next xs M_67 => lenW t77 fun t88 => intW .lss (nthD xs 0) t88 fun t89 => condW t89 (idxS t77 (nthD xs 0) 1 fun t94 => load1 M_67 t94 fun t95 => idxS t80 (nthD xs 0) 1 fun t98 => load1 M_67 t98 fun t99 =>
        strW .neq t95 t99 fun t100 => condW t100 (Q (Bo false) M_67) (intW .add (nthD xs 0) (N .i64 1) fun t91 => next [t91] M_67)) (
        loopW (fun next_68 xs_69 M_70 => lenStr (St (esc s)) fun t103 => intW .lss (nthD xs_69 0) t103 fun t104 => condW t104 (idxB (St (esc s)) (nthD xs_69 0) fun t109 => intW .eql t109 (N .u8 10) fun t110 =>
          condW t110 (Q (Bo false) M_70) (intW .add (nthD xs_69 0) (N .i64 1) fun t106 => next_68 [t106] M_70)) (Q (Bo true) M_70)) [(N .i64 0)] M_67)) [(N .i64 0)] M_66) := fun M5 => by
    refine hs (by omega) fun v M6 ho6 k6 => ?_
    refine hrs (by omega) fun u M7 ho7 k7 => ?_
    have hv := ho6.slR.keep k7 (by simp)
    have hw := ho7.slR
    have hpl := splitG_len x s [] false
    rw [SlR.len hv, SlR.len hw]
    simp only [go_sem, bne_self_eq_false]
    refine loopW_ind (fun m ys M8 => ∃ i : Nat, m = (parts x s).length - i ∧ ys = [N .i64 i] ∧ i ≤ (parts x s).length ∧ Keep [] M7 M8) _ ⟨0, rfl, rfl, Nat.zero_le _, Keep.refl _ _⟩ ?_
    rintro next m ys M8 hnext ⟨i, rfl, rfl, hi, k8⟩
    have hv8 : Sl STR M8 v (parts x s) := hv.keep k8 (by simp)
    have hw8 : Sl STR M8 u (parts x s) := hw.keep k8 (by simp)
    rw [SlR.len hv8]
    simp only [go_sem]
    refine ⟨fun hlt => ?_, fun _ => ?_⟩
    · have hlt : i < (parts x s).length := by simpa using hlt
      obtain ⟨b, o, _, _, hidx, hc⟩ := Sl.at1 hv8 (i := i) i hlt
      obtain ⟨b', o', _, _, hidx', hc'⟩ := Sl.at1 hw8 (i := i) i hlt
      simp only [hidx, hidx', hc _ rfl, hc' _ rfl, go_sem, bne_self_eq_false]
      unfold parts at hlt
      simp only [i64_succ (show i < 9223372036854775807 by omega)]
      exact hnext _ _ _ (by unfold parts; omega) ⟨i + 1, rfl, rfl, by unfold parts; omega, k8⟩
    · refine loopW_ind (fun m ys M9 => ∃ i : Nat, m = (esc s).length - i ∧ ys = [N .i64 i] ∧ i ≤ (esc s).length) _ ⟨0, rfl, rfl, Nat.zero_le _⟩ ?_
      rintro next m ys M9 hnext ⟨j, rfl, rfl, hj⟩
      simp only [go_sem]
      refine ⟨fun hlt => ?_, fun _ => hQ _⟩
      have hlt : j < (esc s).length := by simpa using hlt
      have hg : (esc s)[j]? = some (esc s)[j] := List.getElem?_eq_getElem hlt
      have h10 := esc_no10 s _ (List.getElem_mem hlt)
      have e10 : (((esc s)[j].toNat : Int) == 10) = false := by simp; omega
      simp only [hg, go_sem, e10, i64_succ (show j < 9223372036854775807 by omega)]
      exact hnext _ _ _ (by omega) ⟨j + 1, rfl, rfl, by omega⟩
  cases hun : unesc s with
  | none =>
    rw [show unescA (N .i64 14) (N .i64 0) s = .tup [St [], N .i64 14] by simp [unescA, hun]]
    simp only [go_sem]
    refine hru (by omega) fun M4 k4 => ?_
    rw [show unescA (Bo false) (Bo true) s = .tup [St [], Bo false] by simp [unescA, hun]]
    simp only [go_sem]
    refine hre (by omega) fun M5 k5 => ?_
    simpa only [go_sem, bne_self_eq_false] using fin M5
  | some w =>
    rw [show unescA (N .i64 14) (N .i64 0) s = .tup [St w, N .i64 0] by simp [unescA, hun]]
    simp only [go_sem]
    refine hru (by omega) fun M4 k4 => ?_
    rw [show unescA (Bo false) (Bo true) s = .tup [St w, Bo true] by simp [unescA, hun]]
    simp only [go_sem]
    refine hre (by omega) fun M5 k5 => ?_
    simpa only [go_sem, bne_self_eq_false] using fin M5
end Go.Ab.Vl
