/- Part 23 of the ground of the proofs of this seat (texts PP3a to PP3a). By an AI agent. -/
import Derived.Test.YtcoihknokhdbkaaGreatDoorTev8
set_option maxRecDepth 1000000
namespace Go.Proofs.YtcoihknokhdbkaaGreatDoor
open Go Go.Ab Go.Ab.Sy
theorem aap:PC C3 8 Z.Qc=true:=by kernel_rfl
theorem ZE:PC C3 8 Z.QM=true:=by kernel_rfl
end Go.Proofs.YtcoihknokhdbkaaGreatDoor
