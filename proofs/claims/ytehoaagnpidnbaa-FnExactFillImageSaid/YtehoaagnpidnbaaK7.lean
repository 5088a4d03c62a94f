/- Contract of toImage: a copy of an image. Conditions: the slice reads as a list of integers; length below 2 to the power of 21. -/
import Derived.Test.YtehoaagnpidnbaaK5
namespace Go.Proofs.Ytehoaagnpidnbaa
open Go.RowKit
end Go.Proofs.Ytehoaagnpidnbaa
