/- 'ViewWinner' returns true for any entries, in whatever world it is called: the winner is one of the entries, none has a greater dot, and of one dot it is the first. No condition. By an AI agent. -/
import Derived.Test.YtngfappichkflaaGreatRows
import Derived.Test.YtngfappichkflaaGreatMemo2
import Derived.Test.YtngfappichkflaaGreatTWin
import Derived.Test.YtngfappichkflaaGreatWinC
import Derived.HandedShaped
import Derived.Carry
import Derived.WalkKit
import Derived.ProofKit
import Derived.OpenShut
set_option maxRecDepth 100000
set_option linter.unusedVariables false
set_option linter.unusedSimpArgs false
namespace Go.Proofs.YtngfappichkflaaGreat.viewWinner
open Go Go.Ab Go.Ab.Win Go.ChangeShapes Go.WideShapes Go.ChangeAt Go.RowKit

theorem own : ownKnob Tryz.prog.godebug = none := by kernel_rfl

theorem cells3 : Tryz.prog.cellsOf 3 = 1 := by kernel_rfl
theorem cells25 : Tryz.prog.cellsOf 25 = 1 := by kernel_rfl
theorem cells9 : Tryz.prog.cellsOf 9 = 1 := by kernel_rfl
theorem cells27 : Tryz.prog.cellsOf 27 = 2 := by kernel_rfl
theorem cells40 : Tryz.prog.cellsOf 40 = 5 := by kernel_rfl
theorem bytes40 : Tryz.prog.bytesOf 40 = 64 := by kernel_rfl

theorem fits_dt {M : RM} {cs : List AV} (h : Fits Tryz.prog M 27 cs) : ∃ x : Dt, cs = x.cells := by
  obtain ⟨hl, hf⟩ := h.struct_inv Tryz.underlying27
  rw [cells27] at hl
  match cs, hl with
  | [a, b], _ =>
    have f0 : Fits Tryz.prog M 3 (([a, b].drop 0).take (Tryz.prog.cellsOf 3)) := hf 0 _ rfl
    have f1 : Fits Tryz.prog M 25 (([a, b].drop 1).take (Tryz.prog.cellsOf 25)) := hf 1 _ rfl
    rw [cells3] at f0
    rw [cells25] at f1
    obtain ⟨n, e, _, _⟩ := f0.int_inv Tryz.underlying3
    obtain ⟨m, e', _, _⟩ := f1.int_inv Tryz.underlying25
    cases e; cases e'
    exact ⟨⟨n, m⟩, rfl⟩

theorem fits_en {M : RM} {cs : List AV} (h : Fits Tryz.prog M 40 cs) : ∃ x : En, True ∧ cs = EnE.cells x := by
  obtain ⟨hl, hf⟩ := h.struct_inv Tryz.underlying40
  rw [cells40] at hl
  match cs, hl with
  | [a, b, c, d, e], _ =>
    have f0 : Fits Tryz.prog M 27 (([a, b, c, d, e].drop 0).take (Tryz.prog.cellsOf 27)) := hf 0 _ rfl
    have f1 : Fits Tryz.prog M 9 (([a, b, c, d, e].drop 2).take (Tryz.prog.cellsOf 9)) := hf 1 _ rfl
    have f2 : Fits Tryz.prog M 9 (([a, b, c, d, e].drop 3).take (Tryz.prog.cellsOf 9)) := hf 2 _ rfl
    have f3 : Fits Tryz.prog M 9 (([a, b, c, d, e].drop 4).take (Tryz.prog.cellsOf 9)) := hf 3 _ rfl
    rw [cells27] at f0
    rw [cells9] at f1 f2 f3
    obtain ⟨x, ex⟩ := fits_dt f0
    obtain ⟨s1, e1, _⟩ := f1.str_inv Tryz.underlying9
    obtain ⟨s2, e2, _⟩ := f2.str_inv Tryz.underlying9
    obtain ⟨s3, e3, _⟩ := f3.str_inv Tryz.underlying9
    cases ex; cases e1; cases e2; cases e3
    exact ⟨⟨x, s1, s2, s3⟩, trivial, rfl⟩

theorem fits_ens {M : RM} {cs : List AV} (h : Fits Tryz.prog M 47 cs) : ∃ v, ∃ xs : List En, cs = [v] ∧ Sl EnE M v xs ∧ xs.length * 64 ≤ reachBytes := by
  obtain ⟨v, n, ds, rfl, hs, hb, he⟩ := h.slice_inv Tryz.underlying47 (by rw [cells40]; decide)
  rw [cells40] at hs he
  rw [bytes40] at hb
  obtain ⟨xs, rfl, rfl, _⟩ := chunks_of (size := 5) EnE.cells (fun _ => True) (fun _ => rfl) n ds hs.length fun i hi => fits_en (he i hi)
  exact ⟨v, xs, rfl, hs, hb⟩

theorem less : LessC (CallsR Tryz.prog 37) := by
  intro M x y Q hQ
  obtain ⟨a0, a1, e, h⟩ := less_spec (T := 27) (x := x) (y := y) hQ
  cases e
  exact r_rolodex_dot_Less_calls h
theorem less13 : LessC (CallsR Tryz.prog 25) := by
  intro M x y Q hQ
  obtain ⟨a0, a1, e, h⟩ := less13_spec (T := 27) (x := x) (y := y) hQ
  cases e
  exact r_rolodex_rolodexref13_Less_calls h
theorem winner : WinnerC (CallsR Tryz.prog 14) := by
  intro M v xs Q h hn hQ
  obtain ⟨a0, e, h⟩ := winner_spec (T := 40) less h hn hQ
  cases e
  exact r_rolodex_view_Winner_calls h

def base (w : World) (hi : Iv w) : Base := ⟨w.heap.size, Iv, fun w1 w2 h h1 => iv_low w w1 w2 hi h h1⟩

theorem awake {B : Base} (hB : ∀ w, B.inv w → Iv w) : AwakeC B (CallsR Tryz.prog 9) := by
  intro M Q hM hQ
  exact callsR_tab t ⟨Tryz.f9, _, Tryz.func9, rfl⟩ (fun A => by kernel_rfl) (hM ▸ hB) hQ

theorem walk (w : World) (hi : Iv w) (v : Value) (hf : FitsA Tryz.prog (RM.old (base w hi) w) 47 (absA w.heap.size v)) :
    Calls Tryz.prog 5 #[v] w fun e w' => e = .returned (.bool true) ∧ Below w.heap.size w w' := by
  obtain ⟨u, xs, e, hs, hb⟩ := fits_ens (hf.one (by kernel_rfl))
  refine CallsR.close (base := base w hi) rfl hi ?_
  simp only [List.map_cons, List.map_nil]
  rw [show absA (base w hi).n v = u from by cases e; rfl]
  exact r_rolodex_rolodexlaw15_ViewWinner_calls (law_spec (awake (fun _ h => h)) winner less13 hs hb fun M' => rfl)

set_option maxRecDepth 100000 in
theorem lifted (os : Os) (started : os.Started) (H : Type) (enc : TypeId × Value → H) :
    ReturnsInHanded {} Tryz.checked os 5 .any (Rows.viewWinnerSpec.pre6 enc Tryz.prog Tryz.f5 Rows.viewWinnerRow.domain false) (Rows.viewWinnerSpec.post enc Tryz.prog Tryz.f5 false true false false) := by
  refine returnsInHanded_of_change_shaped (C := Tryz.checked) own started (by kernel_rfl) Tryz.func5
    (ChangeSpec.witness6 (enc := enc) (C := Tryz.checked) false ⟨#[], #[.slice none 0 0], []⟩ 8 (by kernel_rfl) (by kernel_rfl) (by kernel_rfl) (by kernel_rfl)) ?_
  intro W b0 args ds gs before hval hW hcnd hwt hsh _
  have hW' := hW
  obtain ⟨p, q, hA, hV, rfl, hfz, hnd⟩ := hW
  rw [Tryz.params5] at hA hwt
  have hi := Tryz.index_var W hsh
  obtain ⟨rfl, rfl⟩ := trodVars_none hV
  have hfit := fits_all (base := viewWinner.base W hi) rfl hA (fun j t v hj hv => hval j t v (by rw [Tryz.params5]; simpa using hj) (by simpa using hv)) (fun y hy => by
    have hwt2 : (DataW.weightsEach Tryz.prog [47] (ds ++ [])).all (· ≤ reachBytes) = true := hwt
    have := List.all_eq_true.1 hwt2 y (by rw [List.append_nil]; exact hy)
    simpa using this)
  simp only [List.append_nil] at hW'
  have hlt : ∀ x ∈ p, x.block < W.heap.size := fun x hx => hW'.lt x hx
  obtain ⟨v0, d0, rfl, rfl, h0⟩ := trodAll_one hA
  refine (walk W hi v0 (hfit 0 _ _ rfl rfl)).mono fun e W' ⟨he, hg⟩ => ?_
  subst he
  exact ⟨_, rfl, post_of_below (pa := p) (pv := []) hW' (fun _ _ _ => (trodAll_cons_mk (shut_bool Tryz.underlying4 _) trodAll_mk0)) (fun sp hsp => by
      rw [Tryz.params5]
      exact trodAll_stays (by kernel_rfl) hg (by intro t ht; have : t = 47 := by simpa using ht
                                                 subst this; exact ⟨by kernel_rfl, of_decide_eq_true (by kernel_rfl)⟩) hA hlt hsp) (fun _ _ => rfl) (by simp)
    hg (ok_one (by kernel_rfl) rfl (okWide_bool_mk Tryz.underlying4 _))⟩

theorem over : Rows.viewWinnerRow.holds Tryz.pinned (OpenSpec.ofChange Rows.viewWinnerSpec) :=
  OpenClaim.holds_of_wide 5 Tryz.f5 rfl rfl rfl rfl rfl rfl rfl ⟨rfl, rfl, rfl, rfl, rfl⟩ rfl rfl rfl rfl rfl (by kernel_rfl) Tryz.func5 (by kernel_rfl)
    (of_decide_eq_true (by kernel_rfl)) (by unfold Func.isWrapper; first | (rw [if_pos (by decide +kernel)]; kernel_rfl) | (rw [if_neg (by decide +kernel)]; exact ⟨rfl, rfl⟩))
    (fun os started H enc _ => lifted os started H enc)

theorem proved : Rows.ViewWinnerSaid :=
  over
end Go.Proofs.YtngfappichkflaaGreat.viewWinner
