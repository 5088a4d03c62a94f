/- Contracts of l1Cell, l31Get, l32Near, l32Touch of the reference. Conditions: the image is valid; the places lie near it. -/
import Derived.Test.YtehoaagnpidnbaaKT
import Derived.Test.YtehoaagnpidnbaaTW
import Derived.Test.YtehoaagnpidnbaaMA
namespace Go.Proofs.Ytehoaagnpidnbaa
open Go.RowKit
/-- Whether there is such a cell, of a valid image. -/
def inC (n : Nat) (ns : List Nat) (i j : Int) : Bool := decide (0 ≤ i) && decide (i < ns.length) && decide (0 ≤ j) && decide (j < n)
theorem inC_no {n : Nat} {ns : List Nat} {i j : Int} (h : ¬ (0 ≤ i ∧ i < ns.length ∧ 0 ≤ j ∧ j < n)) : inC n ns i j = false := by
  simp [inC]; omega
theorem inC_yes {n : Nat} {ns : List Nat} {i j : Int} (h : 0 ≤ i ∧ i < ns.length ∧ 0 ≤ j ∧ j < n) : inC n ns i j = true := by
  simp [inC]; omega
/-- Neighbors, or near if corners count; not one cell. -/
def nearZ (c : Bool) (i j k l : Int) : Bool := decide (i ≤ k + 1) && decide (k ≤ i + 1) && decide (j ≤ l + 1) && decide (l ≤ j + 1) && !(decide (i = k) && decide (j = l)) && (c || decide (i = k) || decide (j = l))
end Go.Proofs.Ytehoaagnpidnbaa
