/- Contract of toImage: a copy of an image. Conditions: the slice reads as a list of integers; length below 2 to the power of 21. -/
import Derived.Test.YtponmfnehbohcaaDoorK5
namespace Go.Proofs.YtponmfnehbohcaaDoor
open Go.RowKit
end Go.Proofs.YtponmfnehbohcaaDoor
