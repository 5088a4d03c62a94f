/- Contract of toImage: a copy of an image. Conditions: the slice reads as a list of integers; length below 2 to the power of 21. -/
import Derived.Test.YtilahcpjjaikgaaDoorK5
namespace Go.Proofs.YtilahcpjjaikgaaDoor
open Go.RowKit
end Go.Proofs.YtilahcpjjaikgaaDoor
