/- Contract of ColSums of the reference. Conditions: the slice reads as a list of integers. -/
import Derived.Test.YtbpjceffkchmbaaDoorFB
namespace Go.Proofs.YtbpjceffkchmbaaDoor
open Go.RowKit
theorem colSums_len (w : Nat) (ns : List Nat) : (colSums w ns).length = w := by simp [colSums]
theorem colSums_at {w : Nat} {ns : List Nat} {k : Nat} (hk : k < w) : (colSums w ns).getD k 0 = colSum ns k := by
  simp only [colSums, List.getD_eq_getElem?_getD, List.getElem?_map, List.getElem?_range hk, Option.map_some, Option.getD_some]
end Go.Proofs.YtbpjceffkchmbaaDoor
