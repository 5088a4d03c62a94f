/- The law that a diagonal tells the products: it returns true at whatever code, where the table of the steps stands. Conditions: the code's slice can be read; the table. -/
import Derived.Test.YtbpjceffkchmbaaDoorML3
import Derived.Test.YtbpjceffkchmbaaDoorPD
namespace Go.Proofs.YtbpjceffkchmbaaDoor
open Go.RowKit
theorem mom_bd25 {n : Nat} {ns : List Nat} (hV : VImg n ns) {f : Nat → Nat → Int} (hf : ∀ i j, i < 6 → j < 6 → 0 ≤ f i j ∧ f i j ≤ 25) : 0 ≤ mom n ns f ∧ mom n ns f ≤ 1050 := by
  rw [← part_all]
  exact part_bd hf hV.h6 hV.w6 (Nat.zero_le _) (.inr rfl)
theorem mom_bdL {n : Nat} {ns : List Nat} (hV : VImg n ns) {d : Nat} (hd : d < 8) : 0 ≤ mom n ns (sqL d) ∧ mom n ns (sqL d) ≤ 9450 := by
  rw [← part_all]
  exact part_bdL (fun i j hi hj => sqL_bd hd hi hj) hV.h6 hV.w6 (Nat.zero_le _) (.inr rfl)
end Go.Proofs.YtbpjceffkchmbaaDoor
