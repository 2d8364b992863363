/- What a law's walk ends with. -/
import Derived.Test.YtabikhmaiennpaaRows
import Derived.WalkKit
namespace Go.Proofs.Ytabikhmaiennpaa
set_option maxRecDepth 100000
open Go.RowKit
/-- The law returned true; below the heap's size at its begin nothing has turned. -/
def LawEnd (W : World) (e : Ending) (w' : World) : Prop := e = .returned (.bool true) ∧ Below W.heap.size W w'
end Go.Proofs.Ytabikhmaiennpaa
