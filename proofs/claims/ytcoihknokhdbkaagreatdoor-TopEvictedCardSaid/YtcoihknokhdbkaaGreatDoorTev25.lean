/- Part 25 of the ground of the proofs of this seat (texts Pelong to Pelong). By an AI agent. -/
import Derived.Test.YtcoihknokhdbkaaGreatDoorTev8
set_option maxRecDepth 1000000
namespace Go.Proofs.YtcoihknokhdbkaaGreatDoor
open Go Go.Ab Go.Ab.Sy
def WG(v:SV)(_:SH):Bool:=match v with
 |.b true=>true
 |_=>false
theorem avO:C5 3 [.s [.u 101 281474976710656],.s [.u 0 281474976710656],.top] (uN .h []) WG=true:=by
 kernel_rfl
theorem ayB:C5 3 [.s [.u 0 100],.s [.u 101 281474976710656],.top] (uN .h []) WG=true:=by
 kernel_rfl
end Go.Proofs.YtcoihknokhdbkaaGreatDoor
