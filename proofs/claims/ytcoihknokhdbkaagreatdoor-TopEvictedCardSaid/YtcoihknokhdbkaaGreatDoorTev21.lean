/- Part 21 of the ground of the proofs of this seat (texts PP2b to PP2b). By an AI agent. -/
import Derived.Test.YtcoihknokhdbkaaGreatDoorTev8
set_option maxRecDepth 1000000
namespace Go.Proofs.YtcoihknokhdbkaaGreatDoor
open Go Go.Ab Go.Ab.Sy
theorem NV:PC C2 38 Z.Hg=true:=by kernel_rfl
theorem Rm:PC C2 8 Z.K6=true:=by kernel_rfl
theorem Qp:PC C2 8 Z.LJ=true:=by kernel_rfl
end Go.Proofs.YtcoihknokhdbkaaGreatDoor
