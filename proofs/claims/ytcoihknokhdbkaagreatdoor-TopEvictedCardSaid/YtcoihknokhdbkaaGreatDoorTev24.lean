/- Part 24 of the ground of the proofs of this seat (texts PP4a to PP4a). By an AI agent. -/
import Derived.Test.YtcoihknokhdbkaaGreatDoorTev8
set_option maxRecDepth 1000000
namespace Go.Proofs.YtcoihknokhdbkaaGreatDoor
open Go Go.Ab Go.Ab.Sy
theorem aBf:PC C4 4 Z.am9=true:=by kernel_rfl
end Go.Proofs.YtcoihknokhdbkaaGreatDoor
