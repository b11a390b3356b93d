/- Part 20 of the ground of the proofs of this seat (texts PP2a to PP2a). By an AI agent. -/
import Derived.Test.YtcoihknokhdbkaaGreatDoorTev8
set_option maxRecDepth 1000000
namespace Go.Proofs.YtcoihknokhdbkaaGreatDoor
open Go Go.Ab Go.Ab.Sy
theorem Rt:PC C2 8 Z.KZ=true:=by kernel_rfl
theorem Rb:PC C2 8 Z.Ll=true:=by kernel_rfl
end Go.Proofs.YtcoihknokhdbkaaGreatDoor
