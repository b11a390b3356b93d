/- 'VlineEscapes' returns true for any text and byte, in whatever world it is called: any text is escaped and comes back; any text is unescaped or refused; any text is split between bytes that are not escaped; the card's listed variables are tied to the program's text. No other condition. By an AI agent. -/
import Derived.Test.YtmilkhdicmkmbaaDoorRows
import Derived.Test.YtmilkhdicmkmbaaDoorTie
import Derived.Test.YtmilkhdicmkmbaaDoorCards
import Derived.Test.YtmilkhdicmkmbaaDoorAwake
import Derived.Test.YtmilkhdicmkmbaaDoorTEsc
import Derived.Test.YtmilkhdicmkmbaaDoorVlEL
import Derived.Carry
import Derived.WalkKit
import Derived.ProofKit
import Derived.OpenShut
import Derived.LaidMore
import Derived.Lay
import Derived.SevenTiedAt
import Derived.Stop.Joined
set_option maxRecDepth 100000
set_option linter.unusedVariables false
set_option linter.unusedSimpArgs false
namespace Go.Proofs.YtmilkhdicmkmbaaDoor.vlineEscapes
open Go Go.Ab Go.ChangeShapes Go.WideShapes Go.ChangeAt Go.RowKit

theorem own : ownKnob Tryd.prog.godebug = none := by kernel_rfl

open Go.Ab.Vl

theorem noesc : NoEscC (extnW Tryd.prog 63) := by
  intro v M Q hQ
  exact .inr (.inr (.inl ⟨⟨Tryd.f63, by kernel_rfl, by kernel_rfl, by kernel_rfl, by kernel_rfl⟩, v, rfl, hQ⟩))
theorem check : CheckC 61 (CallsR Tryd.prog 43) := by
  intro M b addr buf Q hh ha hb hQ
  obtain ⟨a0, e, h⟩ := check_spec (TB := 61) noesc hh ha hb hQ
  cases e
  exact r_strings_Builder_copyCheck_calls h
theorem writeByte : WriteByteC 61 5 (CallsR Tryd.prog 29) := by
  intro n0 M b xs x Q h1 h2 h3
  obtain ⟨a0, a1, e, h⟩ := writeByte_spec check h1 h2 h3
  cases e
  exact r_strings_Builder_WriteByte_calls h
theorem writeString : WriteStringC 61 5 (CallsR Tryd.prog 41) := by
  intro n0 M b xs s Q h1 h2 h3
  obtain ⟨a0, a1, e, h⟩ := writeString_spec check h1 h2 h3
  cases e
  exact r_strings_Builder_WriteString_calls h
theorem string : StringC 61 5 (CallsR Tryd.prog 31) := by
  intro n0 M b xs Q h1 h2 h3
  obtain ⟨a0, e, h⟩ := string_spec h1 h2 h3
  cases e
  exact r_strings_Builder_String_calls h
theorem idxNative {M : RM} {s : List UInt8} {x : UInt8} : nativeR Tryd.prog 64 [St s, By x] M (N .i64 (Lib.indexByte s x)) := by
  intro ρ w us hus hw
  cases hus with
  | cons _ u1 _ us r1 hus =>
  cases hus with
  | cons _ u2 _ us r2 hus =>
  cases hus
  obtain ⟨rfl, _⟩ := sc_inv r1
  obtain ⟨rfl, _⟩ := sc_inv r2
  refine ⟨.int .i64 (Lib.indexByte s x), ?_, .sc _ rfl⟩
  refine noBody_run (fn := Tryd.f64) (s := Extern.BytealgIndexByte.indexByte) (by kernel_rfl) (pok.ng 64 Tryd.f64 (by kernel_rfl)) (by kernel_rfl) (by kernel_rfl) (by kernel_rfl) (fun w => ?_) w
  rw [Lib.run_indexByteString]
  congr 2
  simp
theorem idx : IdxByteC (CallsR Tryd.prog 30) := by
  intro M s x Q hQ
  refine r_strings_IndexByte_calls ?_
  unfold W_strings_IndexByte
  refine r_internal_stringslite_IndexByte_calls ?_
  unfold W_internal_stringslite_IndexByte
  exact .inr (.inr (.inr ⟨_, idxNative, hQ⟩))
theorem escape : EscC (CallsR Tryd.prog 25) := by
  intro M s Q h1 h2
  obtain ⟨a0, e, h⟩ := escape_spec writeByte writeString string h1 h2
  cases e
  exact r_rolodex_vline_Escape_calls h
theorem refEscape : EscC (CallsR Tryd.prog 27) := by
  intro M s Q h1 h2
  obtain ⟨a0, e, h⟩ := refEscape_spec (T8 := 5) h1 h2
  cases e
  exact r_rolodex_rolodexref23_Escape_calls h
theorem unescape : UnescC (N .i64 14) (N .i64 0) (CallsR Tryd.prog 11) := by
  intro M s Q h1 h2
  obtain ⟨a0, e, h⟩ := unescape_spec writeByte idx string h1 h2
  cases e
  exact r_rolodex_vline_Unescape_calls h
theorem refUnescape : UnescC (Bo false) (Bo true) (CallsR Tryd.prog 26) := by
  intro M s Q h1 h2
  obtain ⟨a0, e, h⟩ := refUnescape_spec (T8 := 5) h1 h2
  cases e
  exact r_rolodex_rolodexref23_Unescape_calls h
theorem split : SplitC 9 (CallsR Tryd.prog 14) := by
  intro M s x Q h1 h2
  obtain ⟨a0, a1, e, h⟩ := split_spec (T := 9) h1 h2
  cases e
  exact r_rolodex_vline_Split_calls h
theorem refSplit : SplitC 9 (CallsR Tryd.prog 28) := by
  intro M s x Q h1 h2
  obtain ⟨a0, a1, e, h⟩ := refSplit_spec (T := 9) h1 h2
  cases e
  exact r_rolodex_rolodexref23_Split_calls h
theorem awake {B : Base} : AwakeC B (CallsR Tryd.prog 10) := by
  intro M Q hM hQ
  exact callsR_tab tA ⟨Tryd.f10, _, Tryd.func10, rfl⟩ (fun A => by kernel_rfl) (fun _ _ => trivial) hQ

def Inv (w : World) : Prop := True
theorem inv_of (w : World) (h : laidMetH Tryd.prog Rows.vlineEscapesRow.laid w) : Inv w := trivial
def base (w : World) (hi : Inv w) : Base := Base.any w.heap.size

theorem walk (w : World) (hi : Inv w) (v0 v1 : Value) (h0 : FitsA Tryd.prog (RM.old (base w hi) w) 9 (absA w.heap.size v0)) (h1 : FitsA Tryd.prog (RM.old (base w hi) w) 5 (absA w.heap.size v1)) :
    Calls Tryd.prog 7 #[v0, v1] w fun e w' => e = .returned (.bool true) ∧ Below w.heap.size w w' := by
  obtain ⟨s, e0, _⟩ := (h0.one (by kernel_rfl)).str_inv Tryd.underlying9
  obtain ⟨n, e1, hn0, hn1⟩ := (h1.one (by kernel_rfl)).int_inv Tryd.underlying5
  refine CallsR.close (base := base w hi) rfl trivial ?_
  simp only [List.map_cons, List.map_nil]
  rw [show absA (base w hi).n v0 = St s from (List.cons.inj e0).1, show absA (base w hi).n v1 = By (UInt8.ofNat n.toNat) from by
    have hn0 : 0 ≤ n := hn0
    have hn1 : n ≤ 255 := hn1
    have : absA w.heap.size v1 = N .u8 n := (List.cons.inj e1).1
    show absA w.heap.size v1 = _
    rw [this, By, u8_nat, Nat.mod_eq_of_lt (by omega)]
    congr 2
    omega]
  exact r_rolodex_rolodexlaw23_VlineEscapes_calls (escapes_law awake escape unescape refUnescape refEscape split refSplit fun M' => rfl)


set_option maxRecDepth 100000 in
theorem lifted (os : Os) (started : os.Started) (H : Type) (enc : TypeId × Value → H) :
    ReturnsInHanded {} Tryd.checked os 7 .any (fun w args => (Rows.vlineEscapesSpec.pre enc Tryd.prog Tryd.f7 Rows.vlineEscapesRow.domain false w args ∧ laidMetH Tryd.prog Rows.vlineEscapesRow.laid w) ∧ sizedMet enc Tryd.prog Tryd.f7 (OpenSpec.ofChange Rows.vlineEscapesSpec) false w args)
      (Rows.vlineEscapesSpec.post enc Tryd.prog Tryd.f7 false true false false) := by
  refine returnsInHanded_of_change_and (C := Tryd.checked) (X := fun w _ => laidMetH Tryd.prog Rows.vlineEscapesRow.laid w) (fun _ _ _ hh h => h.of_heap hh) own started (by kernel_rfl) Tryd.func7
    (ChangeSpec.witness_shaped (enc := enc) (C := Tryd.checked) (os := os) (X := fun w _ => laidMetH Tryd.prog Rows.vlineEscapesRow.laid w) false (World.laidAll Tryd.prog os Rows.vlineEscapesRow.laid) #[.string ⟨#[]⟩, .int .u8 0] 8 (World.laidAll_os _ _ _)
      (World.shaped_of_ZipB (by kernel_rfl) (by kernel_rfl)) (by kernel_rfl) (by kernel_rfl) (by kernel_rfl)
      (by rw [MakeChecks.laidMetH_plain _ _ _ (by kernel_rfl)]; exact laidMet_laidAll _ (by kernel_rfl) (by kernel_rfl))) ?_
  intro W b0 args ds gs before hval hW hcnd hwt hL _
  have hW' := hW
  obtain ⟨p, q, hA, hV, rfl, hfz, hnd⟩ := hW
  rw [Tryd.params7] at hA hwt
  have hi : Inv W := inv_of W hL
  obtain ⟨rfl, rfl⟩ := trodVars_none hV
  have hfit := fits_all (base := base W hi) rfl hA (fun j t v hj hv => hval j t v (by rw [Tryd.params7]; simpa using hj) (by simpa using hv)) (fun y hy => by
    have hwt2 : (DataW.weightsEach Tryd.prog [9, 5] (ds ++ [])).all (· ≤ reachBytes) = true := hwt
    have := List.all_eq_true.1 hwt2 y (by rw [List.append_nil]; exact hy)
    simpa using this)
  simp only [List.append_nil] at hW'
  have hlt : ∀ x ∈ p, x.block < W.heap.size := fun x hx => hW'.lt x hx
  obtain ⟨v0, v1, d0, d1, p0, p1, rfl, rfl, rfl, h0, h1⟩ := trodAll_two hA
  refine (walk W hi v0 v1 (hfit 0 _ _ rfl rfl) (hfit 1 _ _ rfl rfl)).mono fun e W' ⟨he, hg⟩ => ?_
  subst he
  exact ⟨_, rfl, post_of_below (pa := _) (pv := []) hW' (fun _ _ _ => (trodAll_cons_mk (shut_bool Tryd.underlying4 _) trodAll_mk0)) (fun sp hsp => by
      rw [Tryd.params7]
      exact trodAll_stays (by kernel_rfl) hg (fun t ht => by
        have ht : t = 9 ∨ t = 5 := by simpa using ht
        rcases ht with rfl | rfl <;> exact ⟨by kernel_rfl, of_decide_eq_true (by kernel_rfl)⟩) hA hlt hsp) (fun _ _ => rfl) (by simp)
    hg (ok_one (by kernel_rfl) rfl (okWide_bool_mk Tryd.underlying4 _))⟩

theorem over : Rows.VlineEscapesSaid :=
  OpenClaim.holds_of_wide 7 Tryd.f7 rfl rfl rfl rfl rfl rfl rfl ⟨rfl, rfl, rfl, rfl, rfl⟩ rfl rfl rfl rfl rfl (by kernel_rfl) Tryd.func7 (by kernel_rfl)
    (of_decide_eq_true (by kernel_rfl)) (by unfold Func.isWrapper; first | (rw [if_pos (by decide +kernel)]; kernel_rfl) | (rw [if_neg (by decide +kernel)]; exact ⟨rfl, rfl⟩))
    (fun os started H enc _ => lifted os started H enc)

theorem proved : Rows.VlineEscapesCardSaid :=
  Claim7.holds_tied_plain_at .later [] [.data, .pinned] true (true, "ea735614785885c3308a9bcfc6bd04ea6b6e3cab2f449ee50eb3fe5f00b968ef") false
    over (fun _ h => by cases h) (by kernel_rfl) (fun _ h => by cases h) vlineEscapes_row_tie rfl ⟨rfl, rfl⟩ (by kernel_rfl) rfl
    (fun f fn hf hfn => by
      obtain rfl : f = 7 := Option.some.inj ((show Tryd.prog.funcNamed "rolodex/rolodexlaw23.VlineEscapes" = some 7 by kernel_rfl).symm.trans hf) |>.symm
      obtain rfl : fn = Tryd.f7 := (Option.some.inj (Tryd.func7.symm.trans hfn)).symm
      exact ⟨by kernel_rfl, fun j t ht => by
        rw [Tryd.params7] at ht
        have hm := Array.mem_of_getElem? ht
        have hm : t = 9 ∨ t = 5 := by simpa using hm
        rcases hm with rfl | rfl
        · exact (by kernel_rfl : Tryd.prog.wantsStandIn 9 = false)
        · exact (by kernel_rfl : Tryd.prog.wantsStandIn 5 = false)⟩)
    (by kernel_rfl)
end Go.Proofs.YtmilkhdicmkmbaaDoor.vlineEscapes
