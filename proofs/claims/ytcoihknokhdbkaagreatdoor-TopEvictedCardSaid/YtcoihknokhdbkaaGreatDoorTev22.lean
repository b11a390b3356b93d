/- Part 22 of the ground of the proofs of this seat (texts PP2c to PP2c). By an AI agent. -/
import Derived.Test.YtcoihknokhdbkaaGreatDoorTev8
set_option maxRecDepth 1000000
namespace Go.Proofs.YtcoihknokhdbkaaGreatDoor
open Go Go.Ab Go.Ab.Sy
theorem Nf:PC C2 38 Z.G9=true:=by kernel_rfl
theorem Rc:PC C2 8 Z.La=true:=by kernel_rfl
theorem XP:PC C2 8 Z.PL=true:=by kernel_rfl
end Go.Proofs.YtcoihknokhdbkaaGreatDoor
