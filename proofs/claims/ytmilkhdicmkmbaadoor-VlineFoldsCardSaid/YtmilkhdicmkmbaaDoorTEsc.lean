/- The printed predicates are the program's. By an AI agent. -/
import Derived.Test.YtmilkhdicmkmbaaDoorWVl
import Derived.KernelRfl
import Derived.Test.YtmilkhdicmkmbaaDoorProg
set_option maxRecDepth 100000
set_option linter.unusedVariables false
set_option linter.unusedSimpArgs false
namespace Go.Proofs.YtmilkhdicmkmbaaDoor
open Go Go.Ab Go.Ab.Vl

theorem pok : POk Tryd.prog := ⟨names_of (by kernel_rfl), by kernel_rfl⟩

theorem r_rolodex_rolodexlaw23_VlineEscapes : ∀ (a0 a1 : AV) (M : RM) (Q : PostV), W_rolodex_rolodexlaw23_VlineEscapes (CallsR Tryd.prog 10) (CallsR Tryd.prog 25) (CallsR Tryd.prog 11) (CallsR Tryd.prog 26) (CallsR Tryd.prog 27) (CallsR Tryd.prog 14) (CallsR Tryd.prog 28) a0 a1 M Q = wpBodyO Tryd.prog Tryd.f7 [a0, a1] M Q := by
  intros; kernel_rfl
theorem r_rolodex_rolodexlaw23_VlineEscapes_calls {a0 a1 : AV} {M : RM} {Q : PostV} (h : W_rolodex_rolodexlaw23_VlineEscapes (CallsR Tryd.prog 10) (CallsR Tryd.prog 25) (CallsR Tryd.prog 11) (CallsR Tryd.prog 26) (CallsR Tryd.prog 27) (CallsR Tryd.prog 14) (CallsR Tryd.prog 28) a0 a1 M Q) : CallsR Tryd.prog 7 [a0, a1] M Q := callsR_of pok (fn := Tryd.f7) (by kernel_rfl) (r_rolodex_rolodexlaw23_VlineEscapes a0 a1 M Q ▸ h)
theorem r_rolodex_vline_Unescape : ∀ (a0 : AV) (M : RM) (Q : PostV), W_rolodex_vline_Unescape 61 (CallsR Tryd.prog 29) (CallsR Tryd.prog 30) (CallsR Tryd.prog 31) a0 M Q = wpBodyO Tryd.prog Tryd.f11 [a0] M Q := by
  intros; kernel_rfl
theorem r_rolodex_vline_Unescape_calls {a0 : AV} {M : RM} {Q : PostV} (h : W_rolodex_vline_Unescape 61 (CallsR Tryd.prog 29) (CallsR Tryd.prog 30) (CallsR Tryd.prog 31) a0 M Q) : CallsR Tryd.prog 11 [a0] M Q := callsR_of pok (fn := Tryd.f11) (by kernel_rfl) (r_rolodex_vline_Unescape a0 M Q ▸ h)
theorem r_rolodex_vline_Split : ∀ (a0 a1 : AV) (M : RM) (Q : PostV), W_rolodex_vline_Split 9 a0 a1 M Q = wpBodyO Tryd.prog Tryd.f14 [a0, a1] M Q := by
  intros; kernel_rfl
theorem r_rolodex_vline_Split_calls {a0 a1 : AV} {M : RM} {Q : PostV} (h : W_rolodex_vline_Split 9 a0 a1 M Q) : CallsR Tryd.prog 14 [a0, a1] M Q := callsR_of pok (fn := Tryd.f14) (by kernel_rfl) (r_rolodex_vline_Split a0 a1 M Q ▸ h)
theorem r_rolodex_vline_Escape : ∀ (a0 : AV) (M : RM) (Q : PostV), W_rolodex_vline_Escape 61 5 (CallsR Tryd.prog 29) (CallsR Tryd.prog 41) (CallsR Tryd.prog 31) a0 M Q = wpBodyO Tryd.prog Tryd.f25 [a0] M Q := by
  intros; kernel_rfl
theorem r_rolodex_vline_Escape_calls {a0 : AV} {M : RM} {Q : PostV} (h : W_rolodex_vline_Escape 61 5 (CallsR Tryd.prog 29) (CallsR Tryd.prog 41) (CallsR Tryd.prog 31) a0 M Q) : CallsR Tryd.prog 25 [a0] M Q := callsR_of pok (fn := Tryd.f25) (by kernel_rfl) (r_rolodex_vline_Escape a0 M Q ▸ h)
theorem r_rolodex_rolodexref23_Unescape : ∀ (a0 : AV) (M : RM) (Q : PostV), W_rolodex_rolodexref23_Unescape 5 a0 M Q = wpBodyO Tryd.prog Tryd.f26 [a0] M Q := by
  intros; kernel_rfl
theorem r_rolodex_rolodexref23_Unescape_calls {a0 : AV} {M : RM} {Q : PostV} (h : W_rolodex_rolodexref23_Unescape 5 a0 M Q) : CallsR Tryd.prog 26 [a0] M Q := callsR_of pok (fn := Tryd.f26) (by kernel_rfl) (r_rolodex_rolodexref23_Unescape a0 M Q ▸ h)
theorem r_rolodex_rolodexref23_Escape : ∀ (a0 : AV) (M : RM) (Q : PostV), W_rolodex_rolodexref23_Escape 5 a0 M Q = wpBodyO Tryd.prog Tryd.f27 [a0] M Q := by
  intros; kernel_rfl
theorem r_rolodex_rolodexref23_Escape_calls {a0 : AV} {M : RM} {Q : PostV} (h : W_rolodex_rolodexref23_Escape 5 a0 M Q) : CallsR Tryd.prog 27 [a0] M Q := callsR_of pok (fn := Tryd.f27) (by kernel_rfl) (r_rolodex_rolodexref23_Escape a0 M Q ▸ h)
theorem r_rolodex_rolodexref23_Split : ∀ (a0 a1 : AV) (M : RM) (Q : PostV), W_rolodex_rolodexref23_Split 9 a0 a1 M Q = wpBodyO Tryd.prog Tryd.f28 [a0, a1] M Q := by
  intros; kernel_rfl
theorem r_rolodex_rolodexref23_Split_calls {a0 a1 : AV} {M : RM} {Q : PostV} (h : W_rolodex_rolodexref23_Split 9 a0 a1 M Q) : CallsR Tryd.prog 28 [a0, a1] M Q := callsR_of pok (fn := Tryd.f28) (by kernel_rfl) (r_rolodex_rolodexref23_Split a0 a1 M Q ▸ h)
theorem r_strings_Builder_WriteByte : ∀ (a0 a1 : AV) (M : RM) (Q : PostV), W_strings_Builder_WriteByte (CallsR Tryd.prog 43) 5 a0 a1 M Q = wpBodyO Tryd.prog Tryd.f29 [a0, a1] M Q := by
  intros; kernel_rfl
theorem r_strings_Builder_WriteByte_calls {a0 a1 : AV} {M : RM} {Q : PostV} (h : W_strings_Builder_WriteByte (CallsR Tryd.prog 43) 5 a0 a1 M Q) : CallsR Tryd.prog 29 [a0, a1] M Q := callsR_of pok (fn := Tryd.f29) (by kernel_rfl) (r_strings_Builder_WriteByte a0 a1 M Q ▸ h)
theorem r_strings_IndexByte : ∀ (a0 a1 : AV) (M : RM) (Q : PostV), W_strings_IndexByte (CallsR Tryd.prog 44) a0 a1 M Q = wpBodyO Tryd.prog Tryd.f30 [a0, a1] M Q := by
  intros; kernel_rfl
theorem r_strings_IndexByte_calls {a0 a1 : AV} {M : RM} {Q : PostV} (h : W_strings_IndexByte (CallsR Tryd.prog 44) a0 a1 M Q) : CallsR Tryd.prog 30 [a0, a1] M Q := callsR_of pok (fn := Tryd.f30) (by kernel_rfl) (r_strings_IndexByte a0 a1 M Q ▸ h)
theorem r_strings_Builder_String : ∀ (a0 : AV) (M : RM) (Q : PostV), W_strings_Builder_String 5 a0 M Q = wpBodyO Tryd.prog Tryd.f31 [a0] M Q := by
  intros; kernel_rfl
theorem r_strings_Builder_String_calls {a0 : AV} {M : RM} {Q : PostV} (h : W_strings_Builder_String 5 a0 M Q) : CallsR Tryd.prog 31 [a0] M Q := callsR_of pok (fn := Tryd.f31) (by kernel_rfl) (r_strings_Builder_String a0 M Q ▸ h)
theorem r_strings_Builder_WriteString : ∀ (a0 a1 : AV) (M : RM) (Q : PostV), W_strings_Builder_WriteString (CallsR Tryd.prog 43) 5 a0 a1 M Q = wpBodyO Tryd.prog Tryd.f41 [a0, a1] M Q := by
  intros; kernel_rfl
theorem r_strings_Builder_WriteString_calls {a0 a1 : AV} {M : RM} {Q : PostV} (h : W_strings_Builder_WriteString (CallsR Tryd.prog 43) 5 a0 a1 M Q) : CallsR Tryd.prog 41 [a0, a1] M Q := callsR_of pok (fn := Tryd.f41) (by kernel_rfl) (r_strings_Builder_WriteString a0 a1 M Q ▸ h)
theorem r_strings_Builder_copyCheck : ∀ (a0 : AV) (M : RM) (Q : PostV), W_strings_Builder_copyCheck (extnW Tryd.prog 63) 61 a0 M Q = wpBodyO Tryd.prog Tryd.f43 [a0] M Q := by
  intros; kernel_rfl
theorem r_strings_Builder_copyCheck_calls {a0 : AV} {M : RM} {Q : PostV} (h : W_strings_Builder_copyCheck (extnW Tryd.prog 63) 61 a0 M Q) : CallsR Tryd.prog 43 [a0] M Q := callsR_of pok (fn := Tryd.f43) (by kernel_rfl) (r_strings_Builder_copyCheck a0 M Q ▸ h)
theorem r_internal_stringslite_IndexByte : ∀ (a0 a1 : AV) (M : RM) (Q : PostV), W_internal_stringslite_IndexByte (extnW Tryd.prog 64) a0 a1 M Q = wpBodyO Tryd.prog Tryd.f44 [a0, a1] M Q := by
  intros; kernel_rfl
theorem r_internal_stringslite_IndexByte_calls {a0 a1 : AV} {M : RM} {Q : PostV} (h : W_internal_stringslite_IndexByte (extnW Tryd.prog 64) a0 a1 M Q) : CallsR Tryd.prog 44 [a0, a1] M Q := callsR_of pok (fn := Tryd.f44) (by kernel_rfl) (r_internal_stringslite_IndexByte a0 a1 M Q ▸ h)
end Go.Proofs.YtmilkhdicmkmbaaDoor
