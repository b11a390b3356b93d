/- Vline's program: the functions that are met otherwise than by their text. By an AI agent. -/
import Derived.Test.YtmilkhdicmkmbaaDoorAb19
import Derived.KernelRfl
import Derived.Test.YtmilkhdicmkmbaaDoorProg
namespace Go.Proofs.YtmilkhdicmkmbaaDoor
open Go Go.Ab Go.RowKit

def ext : Ext := { split := [], overl := [], noesc := [63] }

theorem xok : XOk Tryd.prog ext where
  ng := names_of (by kernel_rfl)
  overl := fun f hf => by cases hf
  noesc := by
    intro f hf
    have : f = 63 := by
      unfold ext at hf
      simp only [has] at hf
      split at hf
      · rename_i h; exact (Nat.eq_of_beq_eq_true h).symm
      · cases hf
    subst this
    exact ⟨Tryd.f63, by kernel_rfl, by kernel_rfl, by kernel_rfl, by kernel_rfl⟩

theorem mixed : Tryd.prog.follows .mixedOrders = true := by kernel_rfl

/-- What is known of the world: nothing. -/
def Iv : World → Prop := fun _ => True
def T0 : Table := []
theorem t0 : TabOk Tryd.prog Iv T0 := TabOk.nil

end Go.Proofs.YtmilkhdicmkmbaaDoor
