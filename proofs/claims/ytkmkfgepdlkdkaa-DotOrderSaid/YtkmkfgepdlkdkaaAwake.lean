/- 'awake' of chapter 13's statements answers true, in whatever world it is called. By an AI agent. -/
import Derived.Test.YtkmkfgepdlkdkaaExt
namespace Go.Proofs.Ytkmkfgepdlkdkaa
open Go Go.Ab Go.RowKit

/-- What the kernel's own reckoning says of 'awake'. -/
theorem awake_eval : isTrue (callA Try.prog ext 100000 200 10 [] { next := 0, heap := .leaf }) = true := by kernel_rfl
theorem awake_any (w : World) : Calls Try.prog 10 #[] w fun e w' => e = .returned (.bool true) ∧ Below w.heap.size w w' := calls_true xok mixed awake_eval w
end Go.Proofs.Ytkmkfgepdlkdkaa
