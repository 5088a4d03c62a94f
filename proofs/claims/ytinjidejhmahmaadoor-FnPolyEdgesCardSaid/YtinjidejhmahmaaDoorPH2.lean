/- Contracts of holes and ImageHoles. Conditions: the slice reads as a list of integers. -/
import Derived.Test.YtinjidejhmahmaaDoorPH1
namespace Go.Proofs.YtinjidejhmahmaaDoor
open Go.RowKit
open Gr
theorem groups_o (n : Nat) (v : Value) (ns : List Nat) (hV : VImg n ns) (w : World) (hv : Ints w.heap.size w v (casts (otherL n ns))) :
    Calls Tryd.prog 103 #[.agg #[.int .i64 (n : Int), v], .bool true] w fun e w' => ∃ v' gs, e = .returned v' ∧ Imgs w.heap.size w'.heap.size w'.heap.size w' n ns.length v' (allL (coT n ns) true ns.length n) gs ∧ Below w.heap.size w w' := by
  have h := groups_v true n v (otherL n ns) (vimg_other hV) w hv
  rw [length_other, show cell (otherL n ns) = coT n ns from funext fun i => funext fun j => cell_other (sized_img hV) i j] at h
  exact h
theorem sides_val {n : Nat} (h1 : 1 ≤ n) (h6 : n ≤ 6) : bits .or .i64 1 (wrap64 (2 ^ (n - 1))) = ((1 ||| 2 ^ (n - 1) : Nat) : Int) ∧ 1 ||| 2 ^ (n - 1) < 64 := by
  have hp : 2 ^ (n - 1) < 2 ^ 6 := Nat.pow_lt_pow_right (by omega) (by omega)
  have e := mask_val (w := n - 1) (by omega)
  rw [e]
  refine ⟨i64_or_nat 1 (2 ^ (n - 1)) (by omega) (by omega), Nat.or_lt_two_pow (n := 6) (by omega) hp⟩
end Go.Proofs.YtinjidejhmahmaaDoor
