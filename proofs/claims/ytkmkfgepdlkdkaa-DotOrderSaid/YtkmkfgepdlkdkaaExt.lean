/- Dot's program: the functions that are met otherwise than by their text. By an AI agent. -/
import Derived.Test.YtkmkfgepdlkdkaaAb18
import Derived.KernelRfl
import Derived.Test.YtkmkfgepdlkdkaaProg
namespace Go.Proofs.Ytkmkfgepdlkdkaa
open Go Go.Ab Go.RowKit

def ext : Ext := { split := [50], overl := [57], noesc := [] }

theorem xok : XOk Try.prog ext where
  ng := names_of (by kernel_rfl)
  overl := by
    intro f hf
    have : f = 57 := by
      unfold ext at hf
      simp only [has] at hf
      split at hf
      · rename_i h; exact (Nat.eq_of_beq_eq_true h).symm
      · cases hf
    subst this
    exact ⟨Try.f57, 51, 30, 1, 4, by kernel_rfl, by kernel_rfl, by kernel_rfl, by kernel_rfl, by kernel_rfl, by kernel_rfl⟩
  noesc := fun f hf => by cases hf

theorem mixed : Try.prog.follows .mixedOrders = true := by kernel_rfl

end Go.Proofs.Ytkmkfgepdlkdkaa
