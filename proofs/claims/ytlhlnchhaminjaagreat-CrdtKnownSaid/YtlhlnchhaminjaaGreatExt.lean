/- Crdt's program: the functions that are met otherwise than by their text. By an AI agent. -/
import Derived.Test.YtlhlnchhaminjaaGreatAb19
import Derived.KernelRfl
import Derived.Test.YtlhlnchhaminjaaGreatProg
namespace Go.Proofs.YtlhlnchhaminjaaGreat
open Go Go.Ab Go.RowKit

def ext : Ext := { split := [107], overl := [137], noesc := [] }

theorem xok : XOk Tryz.prog ext where
  ng := names_of (by kernel_rfl)
  overl := by
    intro f hf
    have : f = 137 := by
      unfold ext at hf
      simp only [has] at hf
      split at hf
      · rename_i h; exact (Nat.eq_of_beq_eq_true h).symm
      · cases hf
    subst this
    exact ⟨Tryz.f137, 109, 25, 1, 4, by kernel_rfl, by kernel_rfl, by kernel_rfl, by kernel_rfl, by kernel_rfl, by kernel_rfl⟩
  noesc := fun f hf => by cases hf

theorem mixed : Tryz.prog.follows .mixedOrders = true := by kernel_rfl

end Go.Proofs.YtlhlnchhaminjaaGreat
