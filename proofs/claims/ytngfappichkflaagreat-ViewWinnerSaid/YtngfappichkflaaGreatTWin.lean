/- The printed predicates are the program's. By an AI agent. -/
import Derived.Test.YtngfappichkflaaGreatWWin
import Derived.KernelRfl
import Derived.Test.YtngfappichkflaaGreatProg
set_option maxRecDepth 100000
set_option linter.unusedVariables false
set_option linter.unusedSimpArgs false
namespace Go.Proofs.YtngfappichkflaaGreat
open Go Go.Ab Go.Ab.Win

theorem pok : POk Tryz.prog := ⟨names_of (by kernel_rfl), by kernel_rfl⟩

theorem r_rolodex_rolodexlaw15_ViewWinner : ∀ (a0 : AV) (M : RM) (Q : PostV), W_rolodex_rolodexlaw15_ViewWinner (CallsR Tryz.prog 9) 40 (CallsR Tryz.prog 14) (CallsR Tryz.prog 25) a0 M Q = wpBodyO Tryz.prog Tryz.f5 [a0] M Q := by
  intros; kernel_rfl
theorem r_rolodex_rolodexlaw15_ViewWinner_calls {a0 : AV} {M : RM} {Q : PostV} (h : W_rolodex_rolodexlaw15_ViewWinner (CallsR Tryz.prog 9) 40 (CallsR Tryz.prog 14) (CallsR Tryz.prog 25) a0 M Q) : CallsR Tryz.prog 5 [a0] M Q := callsR_of pok (fn := Tryz.f5) (by kernel_rfl) (r_rolodex_rolodexlaw15_ViewWinner a0 M Q ▸ h)
theorem r_rolodex_view_Winner : ∀ (a0 : AV) (M : RM) (Q : PostV), W_rolodex_view_Winner 40 (CallsR Tryz.prog 37) a0 M Q = wpBodyO Tryz.prog Tryz.f14 [a0] M Q := by
  intros; kernel_rfl
theorem r_rolodex_view_Winner_calls {a0 : AV} {M : RM} {Q : PostV} (h : W_rolodex_view_Winner 40 (CallsR Tryz.prog 37) a0 M Q) : CallsR Tryz.prog 14 [a0] M Q := callsR_of pok (fn := Tryz.f14) (by kernel_rfl) (r_rolodex_view_Winner a0 M Q ▸ h)
theorem r_rolodex_rolodexref13_Less : ∀ (a0 a1 : AV) (M : RM) (Q : PostV), W_rolodex_rolodexref13_Less 27 a0 a1 M Q = wpBodyO Tryz.prog Tryz.f25 [a0, a1] M Q := by
  intros; kernel_rfl
theorem r_rolodex_rolodexref13_Less_calls {a0 a1 : AV} {M : RM} {Q : PostV} (h : W_rolodex_rolodexref13_Less 27 a0 a1 M Q) : CallsR Tryz.prog 25 [a0, a1] M Q := callsR_of pok (fn := Tryz.f25) (by kernel_rfl) (r_rolodex_rolodexref13_Less a0 a1 M Q ▸ h)
theorem r_rolodex_dot_Less : ∀ (a0 a1 : AV) (M : RM) (Q : PostV), W_rolodex_dot_Less 27 a0 a1 M Q = wpBodyO Tryz.prog Tryz.f37 [a0, a1] M Q := by
  intros; kernel_rfl
theorem r_rolodex_dot_Less_calls {a0 a1 : AV} {M : RM} {Q : PostV} (h : W_rolodex_dot_Less 27 a0 a1 M Q) : CallsR Tryz.prog 37 [a0, a1] M Q := callsR_of pok (fn := Tryz.f37) (by kernel_rfl) (r_rolodex_dot_Less a0 a1 M Q ▸ h)
end Go.Proofs.YtngfappichkflaaGreat
