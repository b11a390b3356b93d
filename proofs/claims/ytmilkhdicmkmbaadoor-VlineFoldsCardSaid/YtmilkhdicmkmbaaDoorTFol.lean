/- The printed predicates are the program's. By an AI agent. -/
import Derived.Test.YtmilkhdicmkmbaaDoorTEsc
import Derived.KernelRfl
import Derived.Test.YtmilkhdicmkmbaaDoorProg
set_option maxRecDepth 100000
set_option linter.unusedVariables false
set_option linter.unusedSimpArgs false
namespace Go.Proofs.YtmilkhdicmkmbaaDoor
open Go Go.Ab Go.Ab.Vl

theorem r_rolodex_rolodexlaw23_VlineFolds : ∀ (a0 : AV) (M : RM) (Q : PostV), W_rolodex_rolodexlaw23_VlineFolds (CallsR Tryd.prog 10) (CallsR Tryd.prog 21) (CallsR Tryd.prog 22) (CallsR Tryd.prog 23) (CallsR Tryd.prog 24) (CallsR Tryd.prog 16) a0 M Q = wpBodyO Tryd.prog Tryd.f6 [a0] M Q := by
  intros; kernel_rfl
theorem r_rolodex_rolodexlaw23_VlineFolds_calls {a0 : AV} {M : RM} {Q : PostV} (h : W_rolodex_rolodexlaw23_VlineFolds (CallsR Tryd.prog 10) (CallsR Tryd.prog 21) (CallsR Tryd.prog 22) (CallsR Tryd.prog 23) (CallsR Tryd.prog 24) (CallsR Tryd.prog 16) a0 M Q) : CallsR Tryd.prog 6 [a0] M Q := callsR_of pok (fn := Tryd.f6) (by kernel_rfl) (r_rolodex_rolodexlaw23_VlineFolds a0 M Q ▸ h)
theorem r_rolodex_vline_Unfold : ∀ (a0 : AV) (M : RM) (Q : PostV), W_rolodex_vline_Unfold (CallsR Tryd.prog 36) (CallsR Tryd.prog 37) 9 3 a0 M Q = wpBodyO Tryd.prog Tryd.f16 [a0] M Q := by
  intros; kernel_rfl
theorem r_rolodex_vline_Unfold_calls {a0 : AV} {M : RM} {Q : PostV} (h : W_rolodex_vline_Unfold (CallsR Tryd.prog 36) (CallsR Tryd.prog 37) 9 3 a0 M Q) : CallsR Tryd.prog 16 [a0] M Q := callsR_of pok (fn := Tryd.f16) (by kernel_rfl) (r_rolodex_vline_Unfold a0 M Q ▸ h)
theorem r_rolodex_vline_Fold : ∀ (a0 : AV) (M : RM) (Q : PostV), W_rolodex_vline_Fold 61 (CallsR Tryd.prog 40) (CallsR Tryd.prog 41) (CallsR Tryd.prog 31) a0 M Q = wpBodyO Tryd.prog Tryd.f21 [a0] M Q := by
  intros; kernel_rfl
theorem r_rolodex_vline_Fold_calls {a0 : AV} {M : RM} {Q : PostV} (h : W_rolodex_vline_Fold 61 (CallsR Tryd.prog 40) (CallsR Tryd.prog 41) (CallsR Tryd.prog 31) a0 M Q) : CallsR Tryd.prog 21 [a0] M Q := callsR_of pok (fn := Tryd.f21) (by kernel_rfl) (r_rolodex_vline_Fold a0 M Q ▸ h)
theorem r_rolodex_rolodexref23_Fold : ∀ (a0 : AV) (M : RM) (Q : PostV), W_rolodex_rolodexref23_Fold 5 (CallsR Tryd.prog 42) a0 M Q = wpBodyO Tryd.prog Tryd.f22 [a0] M Q := by
  intros; kernel_rfl
theorem r_rolodex_rolodexref23_Fold_calls {a0 : AV} {M : RM} {Q : PostV} (h : W_rolodex_rolodexref23_Fold 5 (CallsR Tryd.prog 42) a0 M Q) : CallsR Tryd.prog 22 [a0] M Q := callsR_of pok (fn := Tryd.f22) (by kernel_rfl) (r_rolodex_rolodexref23_Fold a0 M Q ▸ h)
theorem r_rolodex_rolodexref23_Raw : ∀ (a0 : AV) (M : RM) (Q : PostV), W_rolodex_rolodexref23_Raw 9 a0 M Q = wpBodyO Tryd.prog Tryd.f23 [a0] M Q := by
  intros; kernel_rfl
theorem r_rolodex_rolodexref23_Raw_calls {a0 : AV} {M : RM} {Q : PostV} (h : W_rolodex_rolodexref23_Raw 9 a0 M Q) : CallsR Tryd.prog 23 [a0] M Q := callsR_of pok (fn := Tryd.f23) (by kernel_rfl) (r_rolodex_rolodexref23_Raw a0 M Q ▸ h)
theorem r_rolodex_rolodexref23_Formed : ∀ (a0 : AV) (M : RM) (Q : PostV), W_rolodex_rolodexref23_Formed (CallsR Tryd.prog 42) a0 M Q = wpBodyO Tryd.prog Tryd.f24 [a0] M Q := by
  intros; kernel_rfl
theorem r_rolodex_rolodexref23_Formed_calls {a0 : AV} {M : RM} {Q : PostV} (h : W_rolodex_rolodexref23_Formed (CallsR Tryd.prog 42) a0 M Q) : CallsR Tryd.prog 24 [a0] M Q := callsR_of pok (fn := Tryd.f24) (by kernel_rfl) (r_rolodex_rolodexref23_Formed a0 M Q ▸ h)
theorem r_strings_Cut : ∀ (a0 a1 : AV) (M : RM) (Q : PostV), W_strings_Cut (CallsR Tryd.prog 59) a0 a1 M Q = wpBodyO Tryd.prog Tryd.f36 [a0, a1] M Q := by
  intros; kernel_rfl
theorem r_strings_Cut_calls {a0 a1 : AV} {M : RM} {Q : PostV} (h : W_strings_Cut (CallsR Tryd.prog 59) a0 a1 M Q) : CallsR Tryd.prog 36 [a0, a1] M Q := callsR_of pok (fn := Tryd.f36) (by kernel_rfl) (r_strings_Cut a0 a1 M Q ▸ h)
theorem r_strings_TrimSuffix : ∀ (a0 a1 : AV) (M : RM) (Q : PostV), W_strings_TrimSuffix (CallsR Tryd.prog 60) a0 a1 M Q = wpBodyO Tryd.prog Tryd.f37 [a0, a1] M Q := by
  intros; kernel_rfl
theorem r_strings_TrimSuffix_calls {a0 a1 : AV} {M : RM} {Q : PostV} (h : W_strings_TrimSuffix (CallsR Tryd.prog 60) a0 a1 M Q) : CallsR Tryd.prog 37 [a0, a1] M Q := callsR_of pok (fn := Tryd.f37) (by kernel_rfl) (r_strings_TrimSuffix a0 a1 M Q ▸ h)
theorem r_rolodex_vline_piece : ∀ (a0 a1 : AV) (M : RM) (Q : PostV), W_rolodex_vline_piece (CallsR Tryd.prog 62) a0 a1 M Q = wpBodyO Tryd.prog Tryd.f40 [a0, a1] M Q := by
  intros; kernel_rfl
theorem r_rolodex_vline_piece_calls {a0 a1 : AV} {M : RM} {Q : PostV} (h : W_rolodex_vline_piece (CallsR Tryd.prog 62) a0 a1 M Q) : CallsR Tryd.prog 40 [a0, a1] M Q := callsR_of pok (fn := Tryd.f40) (by kernel_rfl) (r_rolodex_vline_piece a0 a1 M Q ▸ h)
theorem r_rolodex_rolodexref23_Rune : ∀ (a0 : AV) (M : RM) (Q : PostV), W_rolodex_rolodexref23_Rune a0 M Q = wpBodyO Tryd.prog Tryd.f42 [a0] M Q := by
  intros; kernel_rfl
theorem r_rolodex_rolodexref23_Rune_calls {a0 : AV} {M : RM} {Q : PostV} (h : W_rolodex_rolodexref23_Rune a0 M Q) : CallsR Tryd.prog 42 [a0] M Q := callsR_of pok (fn := Tryd.f42) (by kernel_rfl) (r_rolodex_rolodexref23_Rune a0 M Q ▸ h)
theorem r_internal_stringslite_Cut : ∀ (a0 a1 : AV) (M : RM) (Q : PostV), W_internal_stringslite_Cut (CallsR Tryd.prog 74) a0 a1 M Q = wpBodyO Tryd.prog Tryd.f59 [a0, a1] M Q := by
  intros; kernel_rfl
theorem r_internal_stringslite_Cut_calls {a0 a1 : AV} {M : RM} {Q : PostV} (h : W_internal_stringslite_Cut (CallsR Tryd.prog 74) a0 a1 M Q) : CallsR Tryd.prog 59 [a0, a1] M Q := callsR_of pok (fn := Tryd.f59) (by kernel_rfl) (r_internal_stringslite_Cut a0 a1 M Q ▸ h)
theorem r_internal_stringslite_TrimSuffix : ∀ (a0 a1 : AV) (M : RM) (Q : PostV), W_internal_stringslite_TrimSuffix (CallsR Tryd.prog 75) a0 a1 M Q = wpBodyO Tryd.prog Tryd.f60 [a0, a1] M Q := by
  intros; kernel_rfl
theorem r_internal_stringslite_TrimSuffix_calls {a0 a1 : AV} {M : RM} {Q : PostV} (h : W_internal_stringslite_TrimSuffix (CallsR Tryd.prog 75) a0 a1 M Q) : CallsR Tryd.prog 60 [a0, a1] M Q := callsR_of pok (fn := Tryd.f60) (by kernel_rfl) (r_internal_stringslite_TrimSuffix a0 a1 M Q ▸ h)
theorem r_internal_stringslite_Index : ∀ (a0 a1 : AV) (M : RM) (Q : PostV), W_internal_stringslite_Index (CallsR Tryd.prog 44) (extnW Tryd.prog 88) (CallsR Tryd.prog 89) (CallsR Tryd.prog 90) a0 a1 M Q = wpBodyO Tryd.prog Tryd.f74 [a0, a1] M Q := by
  intros; kernel_rfl
theorem r_internal_stringslite_Index_calls {a0 a1 : AV} {M : RM} {Q : PostV} (h : W_internal_stringslite_Index (CallsR Tryd.prog 44) (extnW Tryd.prog 88) (CallsR Tryd.prog 89) (CallsR Tryd.prog 90) a0 a1 M Q) : CallsR Tryd.prog 74 [a0, a1] M Q := callsR_of pok (fn := Tryd.f74) (by kernel_rfl) (r_internal_stringslite_Index a0 a1 M Q ▸ h)
theorem r_internal_stringslite_HasSuffix : ∀ (a0 a1 : AV) (M : RM) (Q : PostV), W_internal_stringslite_HasSuffix a0 a1 M Q = wpBodyO Tryd.prog Tryd.f75 [a0, a1] M Q := by
  intros; kernel_rfl
theorem r_internal_stringslite_HasSuffix_calls {a0 a1 : AV} {M : RM} {Q : PostV} (h : W_internal_stringslite_HasSuffix a0 a1 M Q) : CallsR Tryd.prog 75 [a0, a1] M Q := callsR_of pok (fn := Tryd.f75) (by kernel_rfl) (r_internal_stringslite_HasSuffix a0 a1 M Q ▸ h)
end Go.Proofs.YtmilkhdicmkmbaaDoor
