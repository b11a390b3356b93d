/- Part 12 of the ground of the proofs of this seat (texts TeFC to TeFC). By an AI agent. -/
import Derived.Test.YtcoihknokhdbkaaGreatDoorTev10
import Derived.Test.YtcoihknokhdbkaaGreatDoorTev11
import Derived.Test.YtcoihknokhdbkaaGreatDoorRows
import Derived.Test.YtcoihknokhdbkaaGreatDoorCards
import Derived.JoinedOf
set_option maxRecDepth 100000
set_option linter.unusedVariables false
set_option linter.unusedSimpArgs false
namespace Go.Proofs.YtcoihknokhdbkaaGreatDoor.ties
open Go
theorem jf:joinedFacts Tryz.prog 3 Tryz.f3 Rows.topEvictedSpec Rows.topEvictedRow=true:=by
 unfold joinedFacts
 rw[laidOut,ar4,inPlace,unf,recs,named,heard,avH]
 kernel_rfl
end Go.Proofs.YtcoihknokhdbkaaGreatDoor.ties
