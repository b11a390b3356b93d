/- Part 14 of the ground of the proofs of this seat (texts PP0a to PP0a). By an AI agent. -/
import Derived.Test.YtcoihknokhdbkaaGreatDoorTev8
set_option maxRecDepth 1000000
namespace Go.Proofs.YtcoihknokhdbkaaGreatDoor
open Go Go.Ab Go.Ab.Sy
theorem uB:PC C0 181 Z.pR=true:=by kernel_rfl
theorem xK:PC C0 181 Z.sM=true:=by kernel_rfl
theorem ug:PC C0 181 Z.p9=true:=by kernel_rfl
theorem uz:PC C0 181 Z.pU=true:=by kernel_rfl
theorem xE:PC C0 137 Z.sK=true:=by kernel_rfl
theorem yU:PC C0 137 Z.sJ=true:=by kernel_rfl
end Go.Proofs.YtcoihknokhdbkaaGreatDoor
