/- 'awake' of chapter 23's statements answers true, in whatever world it is called. By an AI agent. -/
import Derived.Test.YtmilkhdicmkmbaaDoorMemo1
namespace Go.Proofs.YtmilkhdicmkmbaaDoor
open Go Go.Ab Go.RowKit

def BA : Table := [(10, [{ args := [], ans := .val (.sc (.bool true)) }])]
theorem bA : batchOk Tryd.prog ext T 100000 200 BA = true := by kernel_rfl
def TA : Table := BA ++ T
theorem tA : TabOk Tryd.prog Iv TA := t.add xok mixed bA
end Go.Proofs.YtmilkhdicmkmbaaDoor
