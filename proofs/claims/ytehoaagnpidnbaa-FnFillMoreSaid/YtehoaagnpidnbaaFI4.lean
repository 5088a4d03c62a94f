/- Contract of l41Goal: whether a column's sum is not reached yet. Conditions: a valid image; a place of it; as many sums as columns. -/
import Derived.Test.YtehoaagnpidnbaaFI3
import Derived.Test.YtehoaagnpidnbaaFC
namespace Go.Proofs.Ytehoaagnpidnbaa
open Go.RowKit
set_option maxRecDepth 100000 in
set_option maxHeartbeats 2000000 in
theorem l41Goal_no (n : Nat) (v t : Value) (ns : List Nat) (hV : VImg n ns) (cs : List Int) (p : Nat) (hp : p < ns.length) (w : World) (hv : Ints w.heap.size w v (casts ns)) (ht : Ints w.heap.size w t cs) :
    Calls Try.prog 53 #[.agg #[.int .i64 (n : Int), v], .int .i64 (p : Int), t] w fun e w' => e = .returned (.bool false) ∧ Below w.heap.size w w' := by
  obtain ⟨A, cap, rfl⟩ := hv.len
  obtain ⟨B, cap', rfl⟩ := ht.len
  rw [length_casts] at hv ⊢
  have c1 : ¬ (ns.length : Int) ≤ (p : Int) := by omega
  have x0 : (w.alloc (.cells #[.int .i64 (n : Int), .slice A ns.length cap] 24)).cell? ⟨w.heap.size, 0, none⟩ = some (.int .i64 (n : Int)) := by go_cell
  have x1 : (w.alloc (.cells #[.int .i64 (n : Int), .slice A ns.length cap] 24)).cell? ⟨w.heap.size, 1, none⟩ = some (.slice A ns.length cap) := by go_cell
  have hB : Below w.heap.size w (w.alloc (.cells #[.int .i64 (n : Int), .slice A ns.length cap] 24)) := by go_grown
  go_enter Try.func53, Try.ntmps53
  go_wp2_with fail
  obtain ⟨W0, eW⟩ : ∃ W, W = w.alloc (.cells #[.int .i64 (n : Int), .slice A ns.length cap] 24) := ⟨_, rfl⟩
  rw [← eW] at x0 x1 hB ⊢
  clear eW
  have hdec : ¬ ns.length ≤ p := by omega
  refine wp_region_quiet_below (by kernel_rfl) (by kernel_rfl) ?_
  repeat (first | go_big_quiet_step (fail) | quiet_step (fail))
  refine wpQuiet_nil ?_
  intro _ hw0
  obtain ⟨⟨dq, osq⟩, hw1⟩ := hw0
  subst hw1
  have hq := below_regrown W0 dq osq
  generalize Go.Sort.grow (redrawn W0 dq) osq = w1 at hq ⊢
  go_wp2
  go_returns
  exact ⟨rfl, hB.trans (hq.mono hB.size)⟩
end Go.Proofs.Ytehoaagnpidnbaa
