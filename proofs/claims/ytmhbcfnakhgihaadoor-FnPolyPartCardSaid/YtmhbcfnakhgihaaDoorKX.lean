/- Contracts of RowSums and ColSums. Conditions: the image is valid. -/
import Derived.Test.YtmhbcfnakhgihaaDoorKW
import Derived.Test.YtmhbcfnakhgihaaDoorK5
import Derived.Test.YtmhbcfnakhgihaaDoorMA
namespace Go.Proofs.YtmhbcfnakhgihaaDoor
open Go.RowKit
theorem rowSums_len (w : Nat) (ns : List Nat) : (rowSums w ns).length = ns.length := by simp [rowSums]
theorem rowSums_at {w : Nat} {ns : List Nat} {k : Nat} (hk : k < ns.length) : (rowSums w ns).getD k 0 = pop w (ns.getD k 0) := by
  simp only [rowSums, List.getD_eq_getElem?_getD, List.getElem?_map, List.getElem?_eq_getElem hk, Option.map_some, Option.getD_some]
end Go.Proofs.YtmhbcfnakhgihaaDoor
