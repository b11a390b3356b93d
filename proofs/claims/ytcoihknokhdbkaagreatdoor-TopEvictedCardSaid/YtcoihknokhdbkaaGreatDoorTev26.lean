/- Part 26 of the ground of the proofs of this seat (texts PPefalse to PPefalse). By an AI agent. -/
import Derived.Test.YtcoihknokhdbkaaGreatDoorTev25
set_option maxRecDepth 1000000
namespace Go.Proofs.YtcoihknokhdbkaaGreatDoor
open Go Go.Ab Go.Ab.Sy
theorem akT:C5 3 [.s [.a 0],.s [.a 1],.b false] (uN .h []) WG=true:=by
 kernel_rfl
end Go.Proofs.YtcoihknokhdbkaaGreatDoor
