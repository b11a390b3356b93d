/- Part 27 of the ground of the proofs of this seat (texts PPetrue to PPetrue). By an AI agent. -/
import Derived.Test.YtcoihknokhdbkaaGreatDoorTev25
set_option maxRecDepth 1000000
namespace Go.Proofs.YtcoihknokhdbkaaGreatDoor
open Go Go.Ab Go.Ab.Sy
theorem an9:C5 3 [.s [.a 0],.s [.a 1],.b true] (uN .h []) WG=true:=by
 kernel_rfl
end Go.Proofs.YtcoihknokhdbkaaGreatDoor
