/- Unfolding. By an AI agent. -/
import Derived.Test.YtmilkhdicmkmbaaDoorVlF4
set_option linter.unusedVariables false
set_option linter.unusedSimpArgs false
namespace Go.Ab.Vl
open Go Go.Ab

theorem ow_op {M : RM} {n0 T : Nat} {v : AV} {xs : List (List UInt8)} (ho : Ow STR M n0 T v xs) (hne : xs ≠ []) : ∃ b, v = .slc b 0 xs.length (.op 1) ∧ Rw STR M b true T xs ∧ n0 ≤ b := by
  have ho' : Own M n0 T 1 v (STR.row xs) xs.length := ho
  have hp := List.length_pos_iff.2 hne
  generalize hcs : STR.row xs = cs at ho'
  generalize hn : xs.length = n at ho'
  cases ho' with
  | nil => omega
  | ex0 => omega
  | op b n cs h1 h2 h3 h4 => exact ⟨b, rfl, ⟨by rw [h3, hcs], h2⟩, h1⟩
theorem ow_rw {M : RM} {n0 T b : Nat} {xs : List (List UInt8)} (h : Rw STR M b true T xs) (hb : n0 ≤ b) : Ow STR M n0 T (.slc b 0 xs.length (.op 1)) xs :=
  Own.op b _ _ hb h.lt h.heap (by rw [STR.row_len])

def isSp : List UInt8 → Bool
  | [] => false
  | c :: _ => decide (c.toNat = 32) || decide (c.toNat = 9)
def glue (acc : List (List UInt8)) (x : List UInt8) : List (List UInt8) := if acc ≠ [] ∧ isSp x = true then acc.set (acc.length - 1) (acc.getD (acc.length - 1) [] ++ x.drop 1) else acc ++ [x]
theorem glue_len (acc : List (List UInt8)) (x : List UInt8) : (glue acc x).length ≤ acc.length + 1 := by
  unfold glue; split <;> simp

def UnfoldC (T : Nat) (c : CallT) : Prop := ∀ {M : RM} {s : List UInt8} {Q : PostV}, s.length ≤ 1000000 → (∀ v u M', Ow STR M' M.next T v ((rawL [] s).foldl glue []) → Keep [] M M' → Q (.tup [v, u]) M') → c [St s] M Q

theorem cut_line {t : List UInt8} (hne : t ≠ []) : ∃ line0 rest found, cutA t = .tup [St line0, St rest, Bo found] ∧ rest.length < t.length ∧ line0.length + rest.length ≤ t.length ∧ rawL [] t = (if found then strip line0 else line0) :: rawL [] rest := by
  have hp := List.length_pos_iff.2 hne
  rcases nl_idx t with ⟨h1, _⟩ | ⟨a, b, h1, _, h3⟩
  · exact ⟨t, [], false, by simp [cutA, h1], by simpa using hp, by simp, by rw [rawL_nl, h1]; simp [hne, rawL]⟩
  · have := congrArg List.length h3
    simp at this
    exact ⟨a, b, true, by simp [cutA, h1], by omega, by omega, by rw [rawL_nl, h1]; simp⟩

theorem unfold_spec {T TI : Nat} {cc ct : CallT} (hc : CutC cc) (ht : TrimC ct) : UnfoldC T fun args M Q => ∃ a0, args = [a0] ∧ W_rolodex_vline_Unfold cc ct T TI a0 M Q := by
  intro M s Q hl hQ
  refine ⟨_, rfl, ?_⟩
  unfold W_rolodex_vline_Unfold
  simp only [fuseM, joinW_shut]
  refine loopW_ind (fun m ys M3 => ∃ (t : List UInt8) (v u : AV) (acc : List (List UInt8)) (ns : List Int) (k : Int), m = t.length ∧ ys = [St t, v, u, N .i64 k] ∧ acc.length + t.length ≤ s.length ∧ (∀ x ∈ acc, x.length + t.length ≤ s.length) ∧ ns.length + t.length ≤ s.length ∧
      Ow STR M3 M.next T v acc ∧ Ow INT M3 M.next TI u ns ∧ (∀ b ∈ blkOf v, b ∉ blkOf u) ∧ Keep [] M M3 ∧ (rawL [] t).foldl glue acc = (rawL [] s).foldl glue []) _
    ⟨s, nilS, nilS, [], [], 1, rfl, rfl, by simp, by simp, by simp, .nil, .nil, by simp [blkOf], Keep.refl _ _, rfl⟩ ?_
  rintro next m ys M3 hnext ⟨t, v, u, acc, ns, k, rfl, rfl, hal, hxl, hnl, hv, hu, hd, hK, hf⟩
  by_cases hne : t = []
  · subst hne
    simp only [go_sem, bne_self_eq_false]
    simp only [rawL, if_true, List.foldl_nil] at hf
    subst hf
    exact hQ v u M3 hv hK
  have hne' : (t != []) = true := by simp [hne]
  have hpos := List.length_pos_iff.2 hne
  obtain ⟨line0, rest, found, hcut, hrl, hll, hraw⟩ := cut_line hne
  simp only [go_sem, hne']
  refine joinV_open ?_
  refine hc (by omega) ?_
  rw [hcut]
  simp only [go_sem]
  refine joinV_spec (fun xs M' => M' = M3 ∧ xs = [St (if found then strip line0 else line0)]) ?_ ?_
  · rintro _ M0 ⟨hM0, rfl⟩
    subst hM0
    have hlen : (if found then strip line0 else line0).length + rest.length ≤ t.length := by
      split
      · have := strip_len line0; omega
      · exact hll
    generalize (if found then strip line0 else line0) = line at *
    rw [hraw, List.foldl_cons] at hf
    have app : glue acc line = acc ++ [line] → rowsW T 1 [St []] [(0, 1, St line)] fun r f => appW T 1 16 [St []] false v (f M0.next) (M0.push r) fun t54 M_32 =>
        rowsW TI 1 [N IntKind.i64 0] [(0, 1, N IntKind.i64 k)] fun r_33 f_34 => appW TI 1 8 [N IntKind.i64 0] false u (f_34 M_32.next) (M_32.push r_33) fun t58 M_36 =>
          next [St rest, t54, t58, N IntKind.i64 (IntKind.i64.wrap (k + 1))] M_36 := fun hg => by
      refine app_s hv hK.next (by omega) fun v' M4 h4 k4 hv' => ?_
      have hu4 : Ow INT M4 M.next TI u ns := Own.keep hu k4 (fun b hb hb' => hd b hb' hb)
      have hK4 : Keep [] M M4 := hK.then_new k4 fun c hc => .inl (hv.blk c hc).1
      have hd4 : ∀ b ∈ blkOf v', b ∉ blkOf u := fun b hb hb' => by
        rcases hv' with rfl | hv'
        · exact hd b hb hb'
        · have h1 := hv' b hb
          have h2 := (hu.blk b hb').2
          omega
      refine app_i hu4 hK4.next (by omega) fun u' M5 h5 k5 hu' => ?_
      have hv5 : Ow STR M5 M.next T v' (acc ++ [line]) := Own.keep h4 k5 hd4
      have hd5 : ∀ b ∈ blkOf v', b ∉ blkOf u' := fun b hb hb' => by
        rcases hu' with rfl | hu'
        · exact hd4 b hb hb'
        · have h1 := hu' b hb'
          have h2 := (h4.blk b hb).2
          omega
      refine hnext _ _ _ hrl ⟨rest, v', u', _, _, _, rfl, rfl, by simp; omega, ?_, by simp; omega, hv5, h5, hd5, hK4.then_new k5 fun c hc => .inl (hu4.blk c hc).1, by rw [← hg]; exact hf⟩
      intro x hx
      rcases List.mem_append.1 hx with hx | hx
      · have := hxl x hx; omega
      · have : x = line := by simpa using hx
        subst this; omega
    by_cases ha : acc = []
    · rw [SlR.len hv.slR]
      subst ha
      rw [show ((([] : List (List UInt8)).length : Nat) : Int) = 0 from rfl, intW_gtr, show decide ((0 : Int) > 0) = false from rfl]
      simp only [go_sem]
      exact app (by simp [glue])
    have hap := List.length_pos_iff.2 ha
    rw [SlR.len hv.slR]
    have e0 : decide (((acc.length : Nat) : Int) > 0) = true := by simp; omega
    obtain ⟨b, rfl, hrw, hb⟩ := ow_op hv ha
    cases line with
    | nil =>
      simp only [go_sem, e0, bne_self_eq_false]
      exact app (by simp [glue, isSp])
    | cons c r =>
      have e1 : (c :: r != []) = true := by simp
      have w1 : IntKind.wrap .i64 ((acc.length : Int) - 1) = ((acc.length - 1 : Nat) : Int) := by rw [i64w (by omega) (by omega)]; omega
      have hld := hrw.load1 (i := acc.length - 1) (by omega)
      have getl : acc.getD (acc.length - 1) [] = acc[acc.length - 1]'(by omega) := by
        rw [List.getD_eq_getElem?_getD, List.getElem?_eq_getElem (by omega)]; rfl
      have set : isSp (c :: r) = true → (0 ≤ IntKind.i64.wrap (↑acc.length - 1) ∧ IntKind.i64.wrap (↑acc.length - 1) < ↑acc.length ∧
          ∃ v, M0.cell b (IntKind.i64.wrap (↑acc.length - 1)).toNat = some v ∧ getW (subStr (St (c :: r)) (some (N IntKind.i64 1)) none) fun t48 => strW BinOp.add v t48 fun t49 =>
            0 ≤ IntKind.i64.wrap (↑acc.length - 1) ∧ IntKind.i64.wrap (↑acc.length - 1) < ↑acc.length ∧ t49.cells.length = 1 ∧ ∃ M', M0.stores b (IntKind.i64.wrap (↑acc.length - 1)).toNat t49.cells = some M' ∧
              next [St rest, AV.slc b 0 acc.length (Cap.op 1), u, N IntKind.i64 (IntKind.i64.wrap (k + 1))] M') := fun hs => by
        obtain ⟨hst, hrw'⟩ := hrw.store1 (i := acc.length - 1) (by omega) (acc.getD (acc.length - 1) [] ++ r)
        rw [w1, Int.toNat_natCast]
        refine ⟨by omega, by omega, _, hld, ?_⟩
        rw [show subStr (St (c :: r)) (some (N .i64 1)) none = some (St r) from subStr_from (l := 1) (by simp) .i64]
        rw [getl] at hst hrw'
        simp only [go_sem]
        have hxa := hxl _ (List.getElem_mem (l := acc) (n := acc.length - 1) (by omega))
        have hlr : r.length + 1 + rest.length ≤ t.length := by simpa using hlen
        refine ⟨by omega, by omega, _, hst, ?_⟩
        have hv4 := ow_rw hrw' hb
        rw [List.length_set] at hv4
        have hkp : Keep [b] M0 (M0.put b (.row (STR.row (acc.set (acc.length - 1) (acc[acc.length - 1]'(by omega) ++ r))) true T 0)) := (Keep.refl _ _).put _ (.inr (by simp))
        refine hnext _ _ _ hrl ⟨rest, _, u, _, ns, _, rfl, rfl, by simp; omega, ?_, by omega, hv4, Own.keep hu hkp ?_, hd, hK.put _ (.inl hb), ?_⟩
        · intro x hx
          rcases List.mem_or_eq_of_mem_set hx with hx | rfl
          · have := hxl x hx; omega
          · simp; omega
        · intro b' hb' hm
          have : b' = b := by simpa using hm
          subst this
          exact hd b' (by simp [blkOf]) hb'
        · rw [glue, if_pos ⟨ha, hs⟩, getl] at hf; exact hf
      simp only [go_sem, e0, e1]
      refine ⟨by omega, c, rfl, ?_⟩
      by_cases h32 : c.toNat = 32
      · have e32 : ((c.toNat : Int) == 32) = true := by simp [h32]
        simp only [e32, go_sem]
        exact set (by simp [isSp, h32])
      · have e32 : ((c.toNat : Int) == 32) = false := by simp; omega
        simp only [e32, go_sem]
        refine ⟨by omega, c, rfl, ?_⟩
        by_cases h9 : c.toNat = 9
        · have e9 : ((c.toNat : Int) == 9) = true := by simp [h9]
          simp only [e9, go_sem]
          exact set (by simp [isSp, h9])
        · have e9 : ((c.toNat : Int) == 9) = false := by simp; omega
          simp only [e9, go_sem]
          exact app (by simp [glue, isSp, h32, h9])
  · intro J hJ
    cases found with
    | true =>
      refine ⟨fun _ => ht (by omega) (hJ _ _ ⟨rfl, rfl⟩), fun h => by cases h⟩
    | false => exact ⟨fun h => (by cases h), fun _ => hJ _ _ ⟨rfl, rfl⟩⟩
end Go.Ab.Vl
