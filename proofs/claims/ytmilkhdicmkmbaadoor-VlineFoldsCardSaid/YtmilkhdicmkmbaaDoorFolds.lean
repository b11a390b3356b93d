/- The law of folding: the join. By an AI agent. -/
import Derived.Test.YtmilkhdicmkmbaaDoorRows
import Derived.Test.YtmilkhdicmkmbaaDoorTie
import Derived.Test.YtmilkhdicmkmbaaDoorCards
import Derived.Test.YtmilkhdicmkmbaaDoorAwake
import Derived.Test.YtmilkhdicmkmbaaDoorTFol
import Derived.Test.YtmilkhdicmkmbaaDoorVlF6
import Derived.Test.YtmilkhdicmkmbaaDoorR18
import Derived.Shelf.Unicode.DecodeAny
import Derived.Lib.LaidU8
import Derived.Carry
import Derived.WalkKit
import Derived.ProofKit
import Derived.OpenShut
import Derived.LaidMore
import Derived.Lay
import Derived.SevenTiedAt
import Derived.Stop.Joined
set_option maxRecDepth 100000
set_option linter.unusedVariables false
set_option linter.unusedSimpArgs false
namespace Go.Proofs.YtmilkhdicmkmbaaDoor.vlineFolds
open Go Go.Ab Go.ChangeShapes Go.WideShapes Go.ChangeAt Go.RowKit

theorem own : ownKnob Tryd.prog.godebug = none := by kernel_rfl

open Go.Ab.Vl

theorem noesc : NoEscC (extnW Tryd.prog 63) := by
  intro v M Q hQ
  exact .inr (.inr (.inl ⟨⟨Tryd.f63, by kernel_rfl, by kernel_rfl, by kernel_rfl, by kernel_rfl⟩, v, rfl, hQ⟩))
theorem check : CheckC 61 (CallsR Tryd.prog 43) := by
  intro M b addr buf Q hh ha hb hQ
  obtain ⟨a0, e, h⟩ := check_spec (TB := 61) noesc hh ha hb hQ
  cases e
  exact r_strings_Builder_copyCheck_calls h
theorem writeByte : WriteByteC 61 5 (CallsR Tryd.prog 29) := by
  intro n0 M b xs x Q h1 h2 h3
  obtain ⟨a0, a1, e, h⟩ := writeByte_spec check h1 h2 h3
  cases e
  exact r_strings_Builder_WriteByte_calls h
theorem writeString : WriteStringC 61 5 (CallsR Tryd.prog 41) := by
  intro n0 M b xs s Q h1 h2 h3
  obtain ⟨a0, a1, e, h⟩ := writeString_spec check h1 h2 h3
  cases e
  exact r_strings_Builder_WriteString_calls h
theorem string : StringC 61 5 (CallsR Tryd.prog 31) := by
  intro n0 M b xs Q h1 h2 h3
  obtain ⟨a0, e, h⟩ := string_spec h1 h2 h3
  cases e
  exact r_strings_Builder_String_calls h
theorem idxNative {M : RM} {s : List UInt8} {x : UInt8} : nativeR Tryd.prog 64 [St s, By x] M (N .i64 (Lib.indexByte s x)) := by
  intro ρ w us hus hw
  cases hus with
  | cons _ u1 _ us r1 hus =>
  cases hus with
  | cons _ u2 _ us r2 hus =>
  cases hus
  obtain ⟨rfl, _⟩ := sc_inv r1
  obtain ⟨rfl, _⟩ := sc_inv r2
  refine ⟨.int .i64 (Lib.indexByte s x), ?_, .sc _ rfl⟩
  refine noBody_run (fn := Tryd.f64) (s := Extern.BytealgIndexByte.indexByte) (by kernel_rfl) (pok.ng 64 Tryd.f64 (by kernel_rfl)) (by kernel_rfl) (by kernel_rfl) (by kernel_rfl) (fun w => ?_) w
  rw [Lib.run_indexByteString]
  congr 2
  simp
theorem idx44 : IdxByteC (CallsR Tryd.prog 44) := by
  intro M s x Q hQ
  refine r_internal_stringslite_IndexByte_calls ?_
  unfold W_internal_stringslite_IndexByte
  exact .inr (.inr (.inr ⟨_, idxNative, hQ⟩))
theorem index : IndexC (CallsR Tryd.prog 74) := by
  intro M s Q hQ
  obtain ⟨a0, a1, e, h⟩ := index_spec idx44 (x := extnW Tryd.prog 88) (c1 := CallsR Tryd.prog 89) (c2 := CallsR Tryd.prog 90) hQ
  cases e
  exact r_internal_stringslite_Index_calls h
theorem scut : CutC (CallsR Tryd.prog 59) := by
  intro M s Q hl hQ
  obtain ⟨a0, a1, e, h⟩ := sliteCut_spec index hl hQ
  cases e
  exact r_internal_stringslite_Cut_calls h
theorem cut : CutC (CallsR Tryd.prog 36) := by
  intro M s Q hl hQ
  obtain ⟨a0, a1, e, h⟩ := cut_spec scut hl hQ
  cases e
  exact r_strings_Cut_calls h
theorem hasSuffix : HasSuffixC (CallsR Tryd.prog 75) := by
  intro M s Q hl hQ
  obtain ⟨a0, a1, e, h⟩ := hasSuffix_spec hl hQ
  cases e
  exact r_internal_stringslite_HasSuffix_calls h
theorem strim : TrimC (CallsR Tryd.prog 60) := by
  intro M s Q hl hQ
  obtain ⟨a0, a1, e, h⟩ := sliteTrim_spec hasSuffix hl hQ
  cases e
  exact r_internal_stringslite_TrimSuffix_calls h
theorem trim : TrimC (CallsR Tryd.prog 37) := by
  intro M s Q hl hQ
  obtain ⟨a0, a1, e, h⟩ := trim_spec strim hl hQ
  cases e
  exact r_strings_TrimSuffix_calls h
theorem unfoldC : UnfoldC 9 (CallsR Tryd.prog 16) := by
  intro M s Q hl hQ
  obtain ⟨a0, e, h⟩ := unfold_spec (T := 9) (TI := 3) cut trim hl hQ
  cases e
  exact r_rolodex_vline_Unfold_calls h
theorem rune : RuneC (CallsR Tryd.prog 42) := by
  intro M s Q hl hQ
  obtain ⟨a0, e, h⟩ := rune_spec hl hQ
  cases e
  exact r_rolodex_rolodexref23_Rune_calls h
theorem formed : FormedC (CallsR Tryd.prog 24) := by
  intro M s Q hl hQ
  obtain ⟨a0, e, h⟩ := formed_spec rune hl hQ
  cases e
  exact r_rolodex_rolodexref23_Formed_calls h
theorem refFold : FoldC (CallsR Tryd.prog 22) := by
  intro M s Q hl hQ
  obtain ⟨a0, e, h⟩ := refFold_spec (T8 := 5) rune hl hQ
  cases e
  exact r_rolodex_rolodexref23_Fold_calls h
theorem raw : RawC 9 (CallsR Tryd.prog 23) := by
  intro M s Q hl hQ
  obtain ⟨a0, e, h⟩ := raw_spec (T := 9) hl hQ
  cases e
  exact r_rolodex_rolodexref23_Raw_calls h

/-! the shelf's contract of unicode/utf8.DecodeRuneInString -/
def lays197_ren : Go.Shelf.Ren := ⟨fun | 197 => 62 | 260 => 76 | n => n, fun | 9 => 9 | 21 => 21 | 3 => 3 | 4 => 4 | 5 => 5 | 105 => 91 | 119 => 98 | 0 => 0 | 46 => 102 | 139 => 101 | 138 => 100 | n => n, fun | 3 => 0 | 4 => 1 | n => n⟩
theorem lays197 : Go.Proofs.Lays.n197 Tryd.prog lays197_ren where
  mixed := by kernel_rfl
  f197 := Tryd.func62.trans (congrArg some (by kernel_rfl))
  f260 := Tryd.func76.trans (congrArg some (by kernel_rfl))
  t0 := Tryd.underlying0
  a0 := Tryd.isAgg0
  z0 := Tryd.sizeOf0
  v0 := Tryd.zeroValue0
  t3 := Tryd.underlying3
  a3 := Tryd.isAgg3
  z3 := Tryd.sizeOf3
  v3 := Tryd.zeroValue3
  t4 := Tryd.underlying4
  a4 := Tryd.isAgg4
  z4 := Tryd.sizeOf4
  v4 := Tryd.zeroValue4
  t5 := Tryd.underlying5
  a5 := Tryd.isAgg5
  z5 := Tryd.sizeOf5
  v5 := Tryd.zeroValue5
  t9 := Tryd.underlying9
  a9 := Tryd.isAgg9
  z9 := Tryd.sizeOf9
  v9 := Tryd.zeroValue9
  t21 := Tryd.underlying21
  a21 := Tryd.isAgg21
  z21 := Tryd.sizeOf21
  v21 := Tryd.zeroValue21
  t46 := Tryd.underlying102
  a46 := Tryd.isAgg102
  z46 := Tryd.sizeOf102
  v46 := Tryd.zeroValue102
  t105 := Tryd.underlying91
  a105 := Tryd.isAgg91
  z105 := Tryd.sizeOf91
  v105 := Tryd.zeroValue91
  t119 := Tryd.underlying98
  a119 := Tryd.isAgg98
  z119 := Tryd.sizeOf98
  t138 := Tryd.underlying100
  a138 := Tryd.isAgg100
  z138 := Tryd.sizeOf100
  v138 := Tryd.zeroValue100
  t139 := Tryd.underlying101
  a139 := Tryd.isAgg101
  z139 := Tryd.sizeOf101
  v139 := Tryd.zeroValue101
  g3 := by kernel_rfl
  g4 := by kernel_rfl
def lays260_ren : Go.Shelf.Ren := ⟨fun | 260 => 76 | n => n, fun | 9 => 9 | 21 => 21 | 3 => 3 | 4 => 4 | 5 => 5 | 119 => 98 | 0 => 0 | 46 => 102 | 139 => 101 | 138 => 100 | n => n, fun | 3 => 0 | 4 => 1 | n => n⟩
theorem lays260 : Go.Proofs.Lays.n260 Tryd.prog lays260_ren where
  mixed := by kernel_rfl
  f260 := Tryd.func76.trans (congrArg some (by kernel_rfl))
  t0 := Tryd.underlying0
  a0 := Tryd.isAgg0
  z0 := Tryd.sizeOf0
  v0 := Tryd.zeroValue0
  t3 := Tryd.underlying3
  a3 := Tryd.isAgg3
  z3 := Tryd.sizeOf3
  v3 := Tryd.zeroValue3
  t4 := Tryd.underlying4
  a4 := Tryd.isAgg4
  z4 := Tryd.sizeOf4
  v4 := Tryd.zeroValue4
  t5 := Tryd.underlying5
  a5 := Tryd.isAgg5
  z5 := Tryd.sizeOf5
  v5 := Tryd.zeroValue5
  t9 := Tryd.underlying9
  a9 := Tryd.isAgg9
  z9 := Tryd.sizeOf9
  v9 := Tryd.zeroValue9
  t21 := Tryd.underlying21
  a21 := Tryd.isAgg21
  z21 := Tryd.sizeOf21
  v21 := Tryd.zeroValue21
  t46 := Tryd.underlying102
  a46 := Tryd.isAgg102
  z46 := Tryd.sizeOf102
  v46 := Tryd.zeroValue102
  t119 := Tryd.underlying98
  a119 := Tryd.isAgg98
  z119 := Tryd.sizeOf98
  t138 := Tryd.underlying100
  a138 := Tryd.isAgg100
  z138 := Tryd.sizeOf100
  v138 := Tryd.zeroValue100
  t139 := Tryd.underlying101
  a139 := Tryd.isAgg101
  z139 := Tryd.sizeOf101
  v139 := Tryd.zeroValue101
  g3 := by kernel_rfl
  g4 := by kernel_rfl

def Inv (w : World) : Prop := Lib.Utf8Tabs 0 1 w
theorem laid_eq : Rows.vlineFoldsRow.laid = [("unicode/utf8.acceptRanges", Lib.acceptData), ("unicode/utf8.first", Lib.firstData)] := by kernel_rfl
theorem inv_of (w : World) (h : laidMetH Tryd.prog Rows.vlineFoldsRow.laid w) : Inv w := by
  rw [MakeChecks.laidMetH_plain _ _ _ (by kernel_rfl), laid_eq] at h
  exact utf8Tabs_of_reads (ρ := lays260_ren) lays260 ⟨by kernel_rfl, by kernel_rfl, by kernel_rfl, by kernel_rfl, by kernel_rfl, by kernel_rfl, by kernel_rfl⟩ (Lib.laidMet.reads h (.tail _ (.head _))) (Lib.laidMet.reads h (.head _))
theorem cell_lt {w : World} {b o : Nat} {v : Value} (h : w.cell? ⟨b, o, none⟩ = some v) : b < w.heap.size := by
  unfold World.cell? at h
  cases hb : w.heap[b]? with
  | none => simp [hb] at h
  | some x => exact (Array.getElem?_eq_some_iff.1 hb).1
theorem cell_same {w w' : World} {b : Nat} (h : w'.heap[b]? = w.heap[b]?) (o : Nat) : w'.cell? ⟨b, o, none⟩ = w.cell? ⟨b, o, none⟩ := by
  unfold World.cell?
  simp only [h]
def base (w : World) (hi : Inv w) : Base where
  n := w.heap.size
  inv w' := Inv w'
  low u u' hlow hu := by
    have h0 := cell_lt (hi.1 0 (by omega))
    have h1 := cell_lt (hi.2 0 (by omega)).1
    exact ⟨fun c hc => (cell_same (hlow 0 h0) c).trans (hu.1 c hc), fun i hi' => ⟨(cell_same (hlow 1 h1) _).trans (hu.2 i hi').1, (cell_same (hlow 1 h1) _).trans (hu.2 i hi').2⟩⟩

theorem dec_go (s : List UInt8) (h : s ≠ []) : Lib.decodeGo ⟨⟨s⟩⟩ = dec s := by
  have hs : (⟨⟨s⟩⟩ : ByteArray).size = s.length := rfl
  have hp := List.length_pos_iff.2 h
  have g : ∀ i, ((⟨⟨s⟩⟩ : ByteArray).get! i).toNat = bt s i := fun i => by
    simp only [ByteArray.get!, bt, List.getD_eq_getElem?_getD]
    simp [getElem!_def]
    cases s[i]? <;> rfl
  rw [Lib.decodeGo, if_neg (by rw [hs]; omega), Lib.decode_at, g, g, g, g, hs]
  rfl
theorem decode {w0 : World} {hi : Inv w0} : DecC (base w0 hi) (CallsR Tryd.prog 62) := by
  intro M s Q hM hne hl hQ
  refine CallsR.of_calls (v := .tup [N .i32 ((dec s).1 : Int), N .i64 (rs s : Int)]) ⟨Tryd.f62, _, Tryd.func62, rfl⟩ (fun ρ w us hus hw => ?_) (hQ _)
  cases hus with
  | cons _ u1 _ us r1 hus =>
  cases hus
  obtain ⟨rfl, _⟩ := sc_inv r1
  have hT : Lib.Utf8Tabs 0 1 w := by
    have := MRel.inv hw
    rw [hM] at this
    exact this
  refine (Any.utf8_DecodeRuneInString lays197 ⟨⟨s⟩⟩ w hT).mono fun e w' ⟨he, hb⟩ => ⟨_, he, hb, ?_⟩
  rw [dec_go s hne, show (dec s).2 = rs s by rw [rs, if_neg hne]]
  exact .tup _ _ (.cons _ _ _ _ (.sc _ rfl) (.cons _ _ _ _ (.sc _ rfl) .nil))
theorem piece {w0 : World} {hi : Inv w0} : PieceC (base w0 hi) (CallsR Tryd.prog 40) := by
  intro M s l Q h1 h2 h3 h4
  obtain ⟨a0, a1, e, h⟩ := piece_spec (decode (hi := hi)) h1 h2 h3 h4
  cases e
  exact r_rolodex_vline_piece_calls h
theorem fold {w0 : World} {hi : Inv w0} : FoldBC (base w0 hi) (CallsR Tryd.prog 21) := by
  intro M s Q h1 h2 h3
  exact r_rolodex_vline_Fold_calls (fold_spec (T8 := 5) (piece (hi := hi)) writeString string h1 h2 h3)
theorem awake {B : Base} : AwakeC B (CallsR Tryd.prog 10) := by
  intro M Q hM hQ
  exact callsR_tab tA ⟨Tryd.f10, _, Tryd.func10, rfl⟩ (fun A => by kernel_rfl) (fun _ _ => trivial) hQ

theorem walk (w : World) (hi : Inv w) (v0 : Value) (h0 : FitsA Tryd.prog (RM.old (base w hi) w) 9 (absA w.heap.size v0)) :
    Calls Tryd.prog 6 #[v0] w fun e w' => e = .returned (.bool true) ∧ Below w.heap.size w w' := by
  obtain ⟨s, e0, _⟩ := (h0.one (by kernel_rfl)).str_inv Tryd.underlying9
  refine CallsR.close (base := base w hi) rfl hi ?_
  simp only [List.map_cons, List.map_nil]
  rw [show absA (base w hi).n v0 = St s from (List.cons.inj e0).1]
  exact r_rolodex_rolodexlaw23_VlineFolds_calls (folds_law awake (fold (hi := hi)) refFold raw formed unfoldC fun M' => rfl)

set_option maxRecDepth 100000 in
theorem lifted (os : Os) (started : os.Started) (H : Type) (enc : TypeId × Value → H) :
    ReturnsInHanded {} Tryd.checked os 6 .any (fun w args => (Rows.vlineFoldsSpec.pre enc Tryd.prog Tryd.f6 Rows.vlineFoldsRow.domain false w args ∧ laidMetH Tryd.prog Rows.vlineFoldsRow.laid w) ∧ sizedMet enc Tryd.prog Tryd.f6 (OpenSpec.ofChange Rows.vlineFoldsSpec) false w args)
      (Rows.vlineFoldsSpec.post enc Tryd.prog Tryd.f6 false true false false) := by
  refine returnsInHanded_of_change_and (C := Tryd.checked) (X := fun w _ => laidMetH Tryd.prog Rows.vlineFoldsRow.laid w) (fun _ _ _ hh h => h.of_heap hh) own started (by kernel_rfl) Tryd.func6
    (ChangeSpec.witness_shaped (enc := enc) (C := Tryd.checked) (os := os) (X := fun w _ => laidMetH Tryd.prog Rows.vlineFoldsRow.laid w) false (World.laidAll Tryd.prog os Rows.vlineFoldsRow.laid) #[.string ⟨#[]⟩] 8 (World.laidAll_os _ _ _)
      (World.shaped_of_ZipB (by kernel_rfl) (by kernel_rfl)) (by kernel_rfl) (by kernel_rfl) (by kernel_rfl)
      (by rw [MakeChecks.laidMetH_plain _ _ _ (by kernel_rfl)]; exact laidMet_laidAll _ (by kernel_rfl) (by kernel_rfl))) ?_
  intro W b0 args ds gs before hval hW hcnd hwt hL _
  have hW' := hW
  obtain ⟨p, q, hA, hV, rfl, hfz, hnd⟩ := hW
  rw [Tryd.params6] at hA hwt
  have hi : Inv W := inv_of W hL
  obtain ⟨rfl, rfl⟩ := trodVars_none hV
  have hfit := fits_all (base := base W hi) rfl hA (fun j t v hj hv => hval j t v (by rw [Tryd.params6]; simpa using hj) (by simpa using hv)) (fun y hy => by
    have hwt2 : (DataW.weightsEach Tryd.prog [9] (ds ++ [])).all (· ≤ reachBytes) = true := hwt
    have := List.all_eq_true.1 hwt2 y (by rw [List.append_nil]; exact hy)
    simpa using this)
  simp only [List.append_nil] at hW'
  have hlt : ∀ x ∈ p, x.block < W.heap.size := fun x hx => hW'.lt x hx
  obtain ⟨v0, d0, rfl, rfl, h0⟩ := trodAll_one hA
  refine (walk W hi v0 (hfit 0 _ _ rfl rfl)).mono fun e W' ⟨he, hg⟩ => ?_
  subst he
  exact ⟨_, rfl, post_of_below (pa := p) (pv := []) hW' (fun _ _ _ => (trodAll_cons_mk (shut_bool Tryd.underlying4 _) trodAll_mk0)) (fun sp hsp => by
      rw [Tryd.params6]
      exact trodAll_stays (by kernel_rfl) hg (fun t ht => by
        have ht : t = 9 := by simpa using ht
        subst ht; exact ⟨by kernel_rfl, of_decide_eq_true (by kernel_rfl)⟩) hA hlt hsp) (fun _ _ => rfl) (by simp)
    hg (ok_one (by kernel_rfl) rfl (okWide_bool_mk Tryd.underlying4 _))⟩

theorem over : Rows.VlineFoldsSaid :=
  OpenClaim.holds_of_wide 6 Tryd.f6 rfl rfl rfl rfl rfl rfl rfl ⟨rfl, rfl, rfl, rfl, rfl⟩ rfl rfl rfl rfl rfl (by kernel_rfl) Tryd.func6 (by kernel_rfl)
    (of_decide_eq_true (by kernel_rfl)) (by unfold Func.isWrapper; first | (rw [if_pos (by decide +kernel)]; kernel_rfl) | (rw [if_neg (by decide +kernel)]; exact ⟨rfl, rfl⟩))
    (fun os started H enc _ => lifted os started H enc)

theorem proved : Rows.VlineFoldsCardSaid :=
  Claim7.holds_tied_plain_at .later [] [.data, .pinned] true (true, "ea735614785885c3308a9bcfc6bd04ea6b6e3cab2f449ee50eb3fe5f00b968ef") false
    over (fun _ h => by cases h) (by kernel_rfl) (fun _ h => by cases h) vlineFolds_row_tie rfl ⟨rfl, rfl⟩ (by kernel_rfl) rfl
    (fun f fn hf hfn => by
      obtain rfl : f = 6 := Option.some.inj ((show Tryd.prog.funcNamed "rolodex/rolodexlaw23.VlineFolds" = some 6 by kernel_rfl).symm.trans hf) |>.symm
      obtain rfl : fn = Tryd.f6 := (Option.some.inj (Tryd.func6.symm.trans hfn)).symm
      exact ⟨by kernel_rfl, fun j t ht => by
        rw [Tryd.params6] at ht
        have hm := Array.mem_of_getElem? ht
        have hm : t = 9 := by simpa using hm
        subst hm
        · exact (by kernel_rfl : Tryd.prog.wantsStandIn 9 = false)⟩)
    (by kernel_rfl)
end Go.Proofs.YtmilkhdicmkmbaaDoor.vlineFolds
