/- Contract of l41Goal: whether a column's sum is not reached yet. Conditions: a valid image; a place of it; as many sums as columns. -/
import Derived.Test.YtehoaagnpidnbaaFI4
import Derived.Test.YtehoaagnpidnbaaFPD
namespace Go.Proofs.Ytehoaagnpidnbaa
open Go.RowKit
set_option maxRecDepth 100000 in
set_option maxHeartbeats 4000000 in
theorem l41Goal_yes (n : Nat) (v t : Value) (ns : List Nat) (hV : VImg n ns) (cs : List Int) (hcl : cs.length = n) (p : Nat) (hp1 : ns.length ≤ p) (hp2 : p < ns.length + n) (w : World) (hv : Ints w.heap.size w v (casts ns)) (ht : Ints w.heap.size w t cs) :
    Calls Try.prog 53 #[.agg #[.int .i64 (n : Int), v], .int .i64 (p : Int), t] w fun e w' => e = .returned (.bool (decide ((colSums n ns).getD (p - ns.length) 0 < cs.getD (p - ns.length) 0))) ∧ Below w.heap.size w w' := by
  obtain ⟨A, cap, rfl⟩ := hv.len
  have h6 := hV.h6
  have w6 := hV.w6
  have hcl' := colSums_len n ns
  obtain ⟨cb, co, cc, e, hcb, hcc⟩ := ht.row (by omega)
  subst e
  rw [length_casts] at hv ⊢
  obtain ⟨j, ej⟩ : ∃ j, j = p - ns.length := ⟨_, rfl⟩
  rw [← ej]
  have hj : j < n := by omega
  have hcj := hcc j (by omega)
  obtain ⟨W0, eW⟩ : ∃ W0, W0 = w.alloc (.cells #[.int .i64 (n : Int), .slice A ns.length cap] 24) := ⟨_, rfl⟩
  have hB : Below w.heap.size w W0 := by rw [eW]; go_grown
  have x0 : W0.cell? ⟨w.heap.size, 0, none⟩ = some (.int .i64 (n : Int)) := by rw [eW]; go_cell
  have x1 : W0.cell? ⟨w.heap.size, 1, none⟩ = some (.slice A ns.length cap) := by rw [eW]; go_cell
  have hI := ((hv.below hB).more hB.size).drew
  have hc0 := cellB hB hcj
  have HS := sColSums_yes n _ ns hV W0.drew hI
  obtain ⟨y, ey⟩ : ∃ y, y = cs.getD j 0 := ⟨_, rfl⟩
  rw [← ey] at hc0 ⊢
  obtain ⟨x, ex⟩ : ∃ x, x = (colSums n ns).getD j 0 := ⟨_, rfl⟩
  rw [← ex]
  have ew : IntKind.i64.wrap ((p : Int) - (ns.length : Int)) = (j : Int) := by rw [show (p : Int) - (ns.length : Int) = (j : Int) by omega]; exact IntWalk.i64_in _ ⟨by omega, by omega⟩
  have hjc : j < cs.length := by omega
  have HX := Lib.hid (And.intro hB (And.intro ex hcl'))
  have HE := Lib.hid eW
  clear hcj hcc hv ht hB eW ey ex hcl' hI ej
  go_enter Try.func53, Try.ntmps53
  go_wp2_with fail
  rw [← HE.out]
  clear HE
  go_region_held3 (fun w' : World => w'.cell? ⟨w.heap.size, 0, none⟩ = some (.int .i64 (n : Int)) ∧ w'.cell? ⟨w.heap.size, 1, none⟩ = some (.slice A ns.length cap) ∧ w'.cell? ⟨cb, co + j, none⟩ = some (.int .i64 y)) (first | exact ⟨x0, x1, hc0⟩ | (refine ⟨?_, ?_, ?_⟩ <;> assumption) | go_keep) ((go_at_call 36; (with_reducible refine HS.mono ?_); rintro e wp ⟨vs, rfl, hos, hbp'⟩; have hbp := Below.undrew hbp'; have p0 := cellB hbp x0; have p1 := cellB hbp x1; have p2 := cellB hbp hc0; obtain ⟨sb, so, sc, evs, hsb, hsc⟩ := hos.ints.row (by rw [HX.out.2.2]; omega); rw [HX.out.2.2] at hsc evs; subst evs; have hsj := hsc j hj; rw [← HX.out.2.1] at hsj; clear hbp' hsc hos))
  all_goals (go_wp2; go_returns; exact ⟨rfl, HX.out.1.trans (hbp.mono HX.out.1.size)⟩)
end Go.Proofs.Ytehoaagnpidnbaa
