/- Contract of ImagePut at a valid image and a cell of it. Conditions: those that the theorem names. -/
import Derived.Test.YtbblbdacdpokeaaDoorKT
import Derived.Test.YtbblbdacdpokeaaDoorK5
namespace Go.Proofs.YtbblbdacdpokeaaDoor
open Go.RowKit
end Go.Proofs.YtbblbdacdpokeaaDoor
