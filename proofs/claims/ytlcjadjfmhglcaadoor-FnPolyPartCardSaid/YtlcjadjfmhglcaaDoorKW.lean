/- Contracts of ones and ImageMany. Conditions: the row below 64; the slice reads as a list of integers. -/
import Derived.Test.YtlcjadjfmhglcaaDoorK11
namespace Go.Proofs.YtlcjadjfmhglcaaDoor
open Go.RowKit
theorem OnesCount_c (r : Nat) (hr : r < 64) (w : World) : Calls Tryd.prog 110 #[.int .u64 (r : Int)] w fun e w' => e = .returned (.int .i64 (pop 6 r)) ∧ w = w' := by
  go_enter Tryd.func110, Tryd.ntmps110
  go_wp2_with fail
  refine (OnesCount64_c r hr w).mono ?_
  rintro e w' ⟨rfl, rfl⟩
  go_wp2
  go_returns
  exact ⟨rfl, rfl⟩
theorem ones_c (r : Nat) (hr : r < 64) (w : World) : Calls Tryd.prog 79 #[.int .i64 (r : Int)] w fun e w' => e = .returned (.int .i64 (pop 6 r)) ∧ w = w' := by
  have ew : IntKind.u64.wrap (r : Int) = r := by simp only [IntKind.wrap_u64]; omega
  go_enter Tryd.func79, Tryd.ntmps79
  go_wp2_with fail
  refine (OnesCount_c r hr w).mono ?_
  rintro e w' ⟨rfl, rfl⟩
  go_wp2
  go_returns
  exact ⟨rfl, rfl⟩
def one (_i _j : Nat) : Int := 1
theorem one_bd (i j : Nat) (_hi : i < 6) (_hj : j < 6) : 0 ≤ one i j ∧ one i j ≤ 25 := by unfold one; omega
theorem one_step (ns : List Nat) (w : Nat) (k : Nat) : part ns w one (k + 1) 0 = part ns w one k 0 + pop w (ns.getD k 0) := by
  simp only [part, sumN, pop, one, Int.one_mul, cell]
  omega
end Go.Proofs.YtlcjadjfmhglcaaDoor
