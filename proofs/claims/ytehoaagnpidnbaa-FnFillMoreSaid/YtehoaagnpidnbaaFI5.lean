/- Contract of l41Goal: whether a column's sum is not reached yet. Conditions: a valid image; a place of it; as many sums as columns. -/
import Derived.Test.YtehoaagnpidnbaaFI4
import Derived.Test.YtehoaagnpidnbaaFPD
namespace Go.Proofs.Ytehoaagnpidnbaa
open Go.RowKit
set_option maxRecDepth 100000 in
set_option maxHeartbeats 4000000 in
theorem l41Goal_yes (n : Nat) (v t : Value) (ns : List Nat) (hV : VImg n ns) (cs : List Int) (hcl : cs.length = n) (p : Nat) (hp1 : ns.length ≤ p) (hp2 : p < ns.length + n) (w : World) (hv : Ints w.heap.size w v (casts ns)) (ht : Ints w.heap.size w t cs) :
    Calls Try.prog 53 #[.agg #[.int .i64 (n : Int), v], .int .i64 (p : Int), t] w fun e w' => e = .returned (.bool (decide ((colSums n ns).getD (p - ns.length) 0 < cs.getD (p - ns.length) 0))) ∧ Below w.heap.size w w' := by
  obtain ⟨A, cap, rfl⟩ := hv.len
  have h6 := hV.h6
  have w6 := hV.w6
  have hcl' := colSums_len n ns
  obtain ⟨cb, co, cc, e, hcb, hcc⟩ := ht.row (by omega)
  subst e
  rw [length_casts] at hv ⊢
  obtain ⟨j, ej⟩ : ∃ j, j = p - ns.length := ⟨_, rfl⟩
  rw [← ej]
  have hj : j < n := by omega
  have hcj := hcc j (by omega)
  obtain ⟨W0, eW⟩ : ∃ W0, W0 = w.alloc (.cells #[.int .i64 (n : Int), .slice A ns.length cap] 24) := ⟨_, rfl⟩
  have hB : Below w.heap.size w W0 := by rw [eW]; go_grown
  have x0 : W0.cell? ⟨w.heap.size, 0, none⟩ = some (.int .i64 (n : Int)) := by rw [eW]; go_cell
  have x1 : W0.cell? ⟨w.heap.size, 1, none⟩ = some (.slice A ns.length cap) := by rw [eW]; go_cell
  have hI := ((hv.below hB).more hB.size).drew
  have hc0 := cellB hB hcj
  have HS := sColSums_yes n _ ns hV W0.drew hI
  obtain ⟨y, ey⟩ : ∃ y, y = cs.getD j 0 := ⟨_, rfl⟩
  rw [← ey] at hc0 ⊢
  obtain ⟨x, ex⟩ : ∃ x, x = (colSums n ns).getD j 0 := ⟨_, rfl⟩
  rw [← ex]
  have ew : IntKind.i64.wrap ((p : Int) - (ns.length : Int)) = (j : Int) := by rw [show (p : Int) - (ns.length : Int) = (j : Int) by omega]; exact IntWalk.i64_in _ ⟨by omega, by omega⟩
  have hjc : j < cs.length := by omega
  have HX := Lib.hid (And.intro hB (And.intro ex hcl'))
  have HE := Lib.hid eW
  clear hcj hcc hv ht hB eW ey ex hcl' hI ej
  go_enter Try.func53, Try.ntmps53
  go_wp2_with fail
  rw [← HE.out]
  clear HE
  refine wp_region_held_drew (S := (fun w' : World => w'.cell? ⟨w.heap.size, 0, none⟩ = some (.int .i64 (n : Int)) ∧ w'.cell? ⟨w.heap.size, 1, none⟩ = some (.slice A ns.length cap) ∧ w'.cell? ⟨cb, co + j, none⟩ = some (.int .i64 y))) (by kernel_rfl) ⟨x0, x1, hc0⟩ (fun hHeld => ?_)
  refine wpAnyH_take (i := 0) (oi := { dst := some 11, op := Op.move (Operand.tmp 1), type := 3, pos := "l41_filling.go:45", after := #[], guard := none }) (v := ?_) rfl (by kernel_rfl) (by kernel_rfl) (by kernel_rfl) (fun _ _ _ h => h) (Or.inl ⟨by rfl, ?_⟩) (by assumption) ?_
  rotate_left
  · intro w hSw; (try dsimp only at hSw); go_simp; (try with_reducible rfl)
  try simp only [Act.put, List.setIfInBounds_toArray, List.set_cons_zero, List.set_cons_succ]
  refine wpAnyH_take (i := 1) (oi := { dst := some 12, op := Op.move (Operand.tmp 7), type := 3, pos := "l41_filling.go:45", after := #[], guard := none }) (v := ?_) rfl (by kernel_rfl) (by kernel_rfl) (by kernel_rfl) (fun _ _ _ h => h) (Or.inl ⟨by rfl, ?_⟩) (by assumption) ?_
  rotate_left
  · intro w hSw; (try dsimp only at hSw); go_simp; (try with_reducible rfl)
  try simp only [Act.put, List.setIfInBounds_toArray, List.set_cons_zero, List.set_cons_succ]
  refine wpAnyH_take (i := 2) (oi := { dst := some 13, op := Op.binOp BinOp.geq 3 (Operand.tmp 11) (Operand.tmp 12) 3, type := 4, pos := "l41_filling.go:45", after := #[{ on := 0, ground := Ground.data }, { on := 1, ground := Ground.data }], guard := none }) (v := ?_) rfl (by kernel_rfl) (by kernel_rfl) (by kernel_rfl) (fun _ _ _ h => h) (Or.inl ⟨by rfl, ?_⟩) (by assumption) ?_
  rotate_left
  · intro w hSw; (try dsimp only at hSw); go_simp; (try with_reducible rfl)
  try simp only [Act.put, List.setIfInBounds_toArray, List.set_cons_zero, List.set_cons_succ]
  refine wpAnyH_take (i := 3) (oi := { dst := some 14, op := Op.move (Operand.tmp 13), type := 4, pos := "l41_filling.go:45", after := #[{ on := 2, ground := Ground.data }], guard := none }) (v := ?_) rfl (by kernel_rfl) (by kernel_rfl) (by kernel_rfl) (fun _ _ _ h => h) (Or.inl ⟨by rfl, ?_⟩) (by assumption) ?_
  rotate_left
  · intro w hSw; (try dsimp only at hSw); go_simp; (try with_reducible rfl)
  try simp only [Act.put, List.setIfInBounds_toArray, List.set_cons_zero, List.set_cons_succ]
  refine wpAnyH_take (i := 4) (oi := { dst := some 15, op := Op.load 24 (Operand.tmp 3), type := 24, pos := "l41_filling.go:45", after := #[{ on := 3, ground := Ground.guard }], guard := some (3, true) }) (v := ?_) rfl (by kernel_rfl) (by kernel_rfl) (by kernel_rfl) (fun _ _ _ h => h) (Or.inl ⟨by rfl, ?_⟩) (by assumption) ?_
  rotate_left
  · intro w hSw; (try dsimp only at hSw); go_simp; (try with_reducible rfl)
  try simp only [Act.put, List.setIfInBounds_toArray, List.set_cons_zero, List.set_cons_succ]
  refine wpAnyH_take (i := 6) (oi := { dst := some 17, op := Op.move (Operand.tmp 1), type := 3, pos := "l41_filling.go:45", after := #[{ on := 3, ground := Ground.guard }], guard := some (3, true) }) (v := ?_) rfl (by kernel_rfl) (by kernel_rfl) (by kernel_rfl) (fun _ _ _ h => h) (Or.inl ⟨by rfl, ?_⟩) (by assumption) ?_
  rotate_left
  · intro w hSw; (try dsimp only at hSw); go_simp; (try with_reducible rfl)
  try simp only [Act.put, List.setIfInBounds_toArray, List.set_cons_zero, List.set_cons_succ]
  refine wpAnyH_take (i := 7) (oi := { dst := some 18, op := Op.move (Operand.tmp 7), type := 3, pos := "l41_filling.go:45", after := #[{ on := 3, ground := Ground.guard }], guard := some (3, true) }) (v := ?_) rfl (by kernel_rfl) (by kernel_rfl) (by kernel_rfl) (fun _ _ _ h => h) (Or.inl ⟨by rfl, ?_⟩) (by assumption) ?_
  rotate_left
  · intro w hSw; (try dsimp only at hSw); go_simp; (try with_reducible rfl)
  try simp only [Act.put, List.setIfInBounds_toArray, List.set_cons_zero, List.set_cons_succ]
  refine wpAnyH_take (i := 8) (oi := { dst := some 19, op := Op.binOp BinOp.sub 3 (Operand.tmp 17) (Operand.tmp 18) 3, type := 3, pos := "l41_filling.go:45", after := #[{ on := 6, ground := Ground.data }, { on := 7, ground := Ground.data }, { on := 3, ground := Ground.guard }], guard := some (3, true) }) (v := ?_) rfl (by kernel_rfl) (by kernel_rfl) (by kernel_rfl) (fun _ _ _ h => h) (Or.inl ⟨by rfl, ?_⟩) (by assumption) ?_
  rotate_left
  · intro w hSw; (try dsimp only at hSw); go_simp; (try with_reducible rfl)
  try simp only [Act.put, List.setIfInBounds_toArray, List.set_cons_zero, List.set_cons_succ]
  refine wpAnyH_take (i := 11) (oi := { dst := some 22, op := Op.move (Operand.tmp 2), type := 22, pos := "l41_filling.go:45", after := #[{ on := 3, ground := Ground.guard }], guard := some (3, true) }) (v := ?_) rfl (by kernel_rfl) (by kernel_rfl) (by kernel_rfl) (fun _ _ _ h => h) (Or.inl ⟨by rfl, ?_⟩) (by assumption) ?_
  rotate_left
  · intro w hSw; (try dsimp only at hSw); go_simp; (try with_reducible rfl)
  try simp only [Act.put, List.setIfInBounds_toArray, List.set_cons_zero, List.set_cons_succ]
  refine wpAnyH_take (i := 12) (oi := { dst := some 23, op := Op.move (Operand.tmp 1), type := 3, pos := "l41_filling.go:45", after := #[{ on := 3, ground := Ground.guard }], guard := some (3, true) }) (v := ?_) rfl (by kernel_rfl) (by kernel_rfl) (by kernel_rfl) (fun _ _ _ h => h) (Or.inl ⟨by rfl, ?_⟩) (by assumption) ?_
  rotate_left
  · intro w hSw; (try dsimp only at hSw); go_simp; (try with_reducible rfl)
  try simp only [Act.put, List.setIfInBounds_toArray, List.set_cons_zero, List.set_cons_succ]
  refine wpAnyH_take (i := 13) (oi := { dst := some 24, op := Op.move (Operand.tmp 7), type := 3, pos := "l41_filling.go:45", after := #[{ on := 3, ground := Ground.guard }], guard := some (3, true) }) (v := ?_) rfl (by kernel_rfl) (by kernel_rfl) (by kernel_rfl) (fun _ _ _ h => h) (Or.inl ⟨by rfl, ?_⟩) (by assumption) ?_
  rotate_left
  · intro w hSw; (try dsimp only at hSw); go_simp; (try with_reducible rfl)
  try simp only [Act.put, List.setIfInBounds_toArray, List.set_cons_zero, List.set_cons_succ]
  refine wpAnyH_take (i := 14) (oi := { dst := some 25, op := Op.binOp BinOp.sub 3 (Operand.tmp 23) (Operand.tmp 24) 3, type := 3, pos := "l41_filling.go:45", after := #[{ on := 12, ground := Ground.data }, { on := 13, ground := Ground.data }, { on := 3, ground := Ground.guard }], guard := some (3, true) }) (v := ?_) rfl (by kernel_rfl) (by kernel_rfl) (by kernel_rfl) (fun _ _ _ h => h) (Or.inl ⟨by rfl, ?_⟩) (by assumption) ?_
  rotate_left
  · intro w hSw; (try dsimp only at hSw); go_simp; (try with_reducible rfl)
  try simp only [Act.put, List.setIfInBounds_toArray, List.set_cons_zero, List.set_cons_succ]
  refine wpAnyH_take (i := 15) (oi := { dst := some 26, op := Op.indexAddr 22 (Operand.tmp 22) (Operand.tmp 25), type := 0, pos := "l41_filling.go:45", after := #[{ on := 11, ground := Ground.data }, { on := 14, ground := Ground.data }, { on := 3, ground := Ground.guard }], guard := some (3, true) }) (v := ?_) rfl (by kernel_rfl) (by kernel_rfl) (by kernel_rfl) (fun _ _ _ h => h) (Or.inl ⟨by rfl, ?_⟩) (by assumption) ?_
  rotate_left
  · intro w hSw; (try dsimp only at hSw); go_simp; (try with_reducible rfl)
  try simp only [Act.put, List.setIfInBounds_toArray, List.set_cons_zero, List.set_cons_succ]
  refine wpAnyH_take (i := 16) (oi := { dst := some 27, op := Op.load 3 (Operand.tmp 26), type := 3, pos := "l41_filling.go:45", after := #[{ on := 15, ground := Ground.data }, { on := 3, ground := Ground.guard }], guard := some (3, true) }) (v := ?_) rfl (by kernel_rfl) (by kernel_rfl) (by kernel_rfl) (fun _ _ _ h => h) (Or.inl ⟨by rfl, ?_⟩) (by assumption) ?_
  rotate_left
  · intro w hSw; (try dsimp only at hSw); go_simp; (try with_reducible rfl)
  try simp only [Act.put, List.setIfInBounds_toArray, List.set_cons_zero, List.set_cons_succ]
  refine wpAnyH_ready (rs := [5]) (by kernel_rfl) (by simp) ?_
  refine AllReadyH.cons (o := { dst := some 16, op := Op.call { callee := Callee.value (Operand.func 36), args := #[Operand.tmp 15], argTypes := #[24] }, type := 22, pos := "l41_filling.go:45", after := #[{ on := 4, ground := Ground.data }, { on := 3, ground := Ground.chain }, { on := 3, ground := Ground.guard }], guard := some (3, true) }) rfl (fun K hK => ?_) AllReadyH.nil
  go_simp
  go_at_call 36; (with_reducible refine HS.mono ?_); rintro e wp ⟨vs, rfl, hos, hbp'⟩; have hbp := Below.undrew hbp'; have p0 := cellB hbp x0; have p1 := cellB hbp x1; have p2 := cellB hbp hc0; obtain ⟨sb, so, sc, evs, hsb, hsc⟩ := hos.ints.row (by rw [HX.out.2.2]; omega); rw [HX.out.2.2] at hsc evs; subst evs; have hsj := hsc j hj; rw [← HX.out.2.1] at hsj; clear hbp' hsc hos
  go_wp2_with fail
  refine hK.out _ _ ⟨p0, p1, p2⟩ (fun hHeld => ?_)
  clear hK K
  try simp only [Act.put, List.setIfInBounds_toArray, List.set_cons_zero, List.set_cons_succ]
  refine wpAnyH_take (i := 9) (oi := { dst := some 20, op := Op.indexAddr 22 (Operand.tmp 16) (Operand.tmp 19), type := 0, pos := "l41_filling.go:45", after := #[{ on := 5, ground := Ground.data }, { on := 8, ground := Ground.data }, { on := 3, ground := Ground.guard }], guard := some (3, true) }) (v := ?_) rfl (by kernel_rfl) (by kernel_rfl) (by kernel_rfl) (fun _ _ _ h => h) (Or.inl ⟨by rfl, ?_⟩) (by assumption) ?_
  rotate_left
  · intro w hSw; (try dsimp only at hSw); go_simp; (try with_reducible rfl)
  try simp only [Act.put, List.setIfInBounds_toArray, List.set_cons_zero, List.set_cons_succ]
  refine wpAnyH_ready (rs := [10]) (by kernel_rfl) (by simp) ?_
  refine AllReadyH.cons (o := { dst := some 21, op := Op.load 3 (Operand.tmp 20), type := 3, pos := "l41_filling.go:45", after := #[{ on := 9, ground := Ground.data }, { on := 3, ground := Ground.guard }], guard := some (3, true) }) rfl (fun K hK => ?_) AllReadyH.nil
  go_simp
  refine hK.out _ _ ⟨p0, p1, p2⟩ (fun hHeld => ?_)
  clear hK K
  try simp only [Act.put, List.setIfInBounds_toArray, List.set_cons_zero, List.set_cons_succ]
  refine wpAnyH_take (i := 17) (oi := { dst := some 28, op := Op.binOp BinOp.lss 3 (Operand.tmp 21) (Operand.tmp 27) 3, type := 4, pos := "l41_filling.go:45", after := #[{ on := 10, ground := Ground.data }, { on := 16, ground := Ground.data }, { on := 3, ground := Ground.guard }], guard := some (3, true) }) (v := ?_) rfl (by kernel_rfl) (by kernel_rfl) (by kernel_rfl) (fun _ _ _ h => h) (Or.inl ⟨by rfl, ?_⟩) (by assumption) ?_
  rotate_left
  · intro w hSw; (try dsimp only at hSw); go_simp; (try with_reducible rfl)
  try simp only [Act.put, List.setIfInBounds_toArray, List.set_cons_zero, List.set_cons_succ]
  refine wpAnyH_take (i := 18) (oi := { dst := some 29, op := Op.pick (Operand.tmp 14) (Operand.tmp 28) (Operand.const (Value.bool false)), type := 4, pos := "l41_filling.go:45", after := #[{ on := 3, ground := Ground.data }, { on := 17, ground := Ground.data }], guard := none }) (v := ?_) rfl (by kernel_rfl) (by kernel_rfl) (by kernel_rfl) (fun _ _ _ h => h) (Or.inl ⟨by rfl, ?_⟩) (by assumption) ?_
  rotate_left
  · intro w hSw; (try dsimp only at hSw); go_simp; (try with_reducible rfl)
  try simp only [Act.put, List.setIfInBounds_toArray, List.set_cons_zero, List.set_cons_succ]
  refine wpAnyH_take (i := 19) (oi := { dst := some 6, op := Op.assign (Operand.tmp 29), type := 4, pos := "l41_filling.go:45", after := #[{ on := 18, ground := Ground.data }, { on := 5, ground := Ground.chain }, { on := 0, ground := Ground.phase }, { on := 1, ground := Ground.phase }, { on := 2, ground := Ground.phase }, { on := 3, ground := Ground.phase }, { on := 4, ground := Ground.phase }, { on := 5, ground := Ground.phase }, { on := 6, ground := Ground.phase }, { on := 7, ground := Ground.phase }, { on := 8, ground := Ground.phase }, { on := 9, ground := Ground.phase }, { on := 10, ground := Ground.phase }, { on := 11, ground := Ground.phase }, { on := 12, ground := Ground.phase }, { on := 13, ground := Ground.phase }, { on := 14, ground := Ground.phase }, { on := 15, ground := Ground.phase }, { on := 16, ground := Ground.phase }, { on := 17, ground := Ground.phase }, { on := 18, ground := Ground.phase }], guard := none }) (v := ?_) rfl (by kernel_rfl) (by kernel_rfl) (by kernel_rfl) (fun _ _ _ h => h) (Or.inl ⟨by rfl, ?_⟩) (by assumption) ?_
  rotate_left
  · intro w hSw; (try dsimp only at hSw); go_simp; (try with_reducible rfl)
  try simp only [Act.put, List.setIfInBounds_toArray, List.set_cons_zero, List.set_cons_succ]
  refine wpAnyH_done (by kernel_rfl) ?_ _
  go_wp2
  go_returns
  exact ⟨rfl, HX.out.1.trans (hbp.mono HX.out.1.size)⟩
end Go.Proofs.Ytehoaagnpidnbaa
