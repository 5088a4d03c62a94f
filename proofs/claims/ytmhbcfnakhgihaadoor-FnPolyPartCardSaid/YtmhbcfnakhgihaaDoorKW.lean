/- Contracts of ones and ImageMany. Conditions: the row below 64; the slice reads as a list of integers. -/
import Derived.Test.YtmhbcfnakhgihaaDoorK11
namespace Go.Proofs.YtmhbcfnakhgihaaDoor
open Go.RowKit
def one (_i _j : Nat) : Int := 1
theorem one_bd (i j : Nat) (_hi : i < 6) (_hj : j < 6) : 0 ≤ one i j ∧ one i j ≤ 25 := by unfold one; omega
theorem one_step (ns : List Nat) (w : Nat) (k : Nat) : part ns w one (k + 1) 0 = part ns w one k 0 + pop w (ns.getD k 0) := by
  simp only [part, sumN, pop, one, Int.one_mul, cell]
  omega
end Go.Proofs.YtmhbcfnakhgihaaDoor
