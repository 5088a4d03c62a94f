/- Contracts of cells, the iterator over all cells of an image, row by row. Conditions: the box that it reads holds a width and a slice of as many rows. -/
import Derived.RangeFuncNested
import Derived.RangeFuncBound
import Derived.RangeFuncCalls
import Derived.RangeFuncLeaves
import Derived.RangeFuncOne
import Derived.Shelf.Abstract
import Derived.OwnWalkIn
import Derived.TacticsInMore
import Derived.LoopNIn
import Derived.LoopIn
import Derived.Test.YtldmilpohappiaaK3
namespace Go.Proofs.Ytldmilpohappiaa
open Go.RowKit Go.Shelf
attribute [local go_sem] Oper.semAt_some
end Go.Proofs.Ytldmilpohappiaa
