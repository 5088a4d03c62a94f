/- Contracts of the lines of directions: lineOf, isDir, l21X, l21Y, l21Line, l21Ok. Conditions: the table of the steps stands in its block. -/
import Derived.Test.YtbpjceffkchmbaaDoorMK9
import Derived.Test.YtbpjceffkchmbaaDoorTW
import Derived.Test.YtbpjceffkchmbaaDoorMLines
namespace Go.Proofs.YtbpjceffkchmbaaDoor
open Go.RowKit
/-- The table of the steps. -/
structure Dirs (w : World) : Prop where
  lt : 0 < w.heap.size
  x : ∀ d, d < 8 → w.cell? ⟨0, d * 2, none⟩ = some (.int .i64 (dXs.getD d 0))
  y : ∀ d, d < 8 → w.cell? ⟨0, d * 2 + 1, none⟩ = some (.int .i64 (dYs.getD d 0))
theorem Dirs.below {w w' : World} (h : Dirs w) (hb : Below w.heap.size w w') : Dirs w' := ⟨Nat.lt_of_lt_of_le h.lt hb.size, fun d hd => (hb.cell h.lt).trans (h.x d hd), fun d hd => (hb.cell h.lt).trans (h.y d hd)⟩
set_option maxHeartbeats 1000000 in
theorem lineOf_c (d i j : Nat) (hd : d < 8) (hi : i < 64) (hj : j < 64) (w : World) (hD : Dirs w) :
    Calls Tryd.prog 28 #[.int .i64 (d : Int), .int .i64 (i : Int), .int .i64 (j : Int)] w fun e w' => e = .returned (.int .i64 (lnO d i j)) ∧ Below w.heap.size w w' := by
  have hx := hD.x d hd
  have hy := hD.y d hd
  have bx := dX_bd d hd
  have b_y := dY_bd d hd
  have px : 0 ≤ dXs.getD d 0 * (i : Int) ∧ dXs.getD d 0 * (i : Int) ≤ 126 := ⟨Int.mul_nonneg bx.1 (by omega), by have := Int.mul_le_mul bx.2 (show (i : Int) ≤ 63 by omega) (by omega) (by omega); omega⟩
  have py : -126 ≤ dYs.getD d 0 * (j : Int) ∧ dYs.getD d 0 * (j : Int) ≤ 126 := by
    have h1 := Int.mul_le_mul_of_nonneg_right b_y.1 (show 0 ≤ (j : Int) by omega)
    have h2 := Int.mul_le_mul_of_nonneg_right b_y.2 (show 0 ≤ (j : Int) by omega)
    omega
  have el : lnO d i j = dXs.getD d 0 * (i : Int) - dYs.getD d 0 * (j : Int) := rfl
  rw [el]
  clear el
  obtain ⟨x, ex⟩ : ∃ x, x = dXs.getD d 0 := ⟨_, rfl⟩
  obtain ⟨y, ey⟩ : ∃ y, y = dYs.getD d 0 := ⟨_, rfl⟩
  rw [← ex] at hx bx px ⊢
  rw [← ey] at hy b_y py ⊢
  clear ex ey
  have kx := cell_regrown hx
  have ky := cell_regrown hy
  have ew1 : IntKind.i64.wrap (x * (i : Int)) = x * (i : Int) := IntWalk.i64_in _ ⟨by omega, by omega⟩
  have ew2 : IntKind.i64.wrap (y * (j : Int)) = y * (j : Int) := IntWalk.i64_in _ ⟨by omega, by omega⟩
  have ew3 : IntKind.i64.wrap (x * (i : Int) - y * (j : Int)) = x * (i : Int) - y * (j : Int) := IntWalk.i64_in _ ⟨by omega, by omega⟩
  clear hD
  go_enter Tryd.func28, Tryd.ntmps28
  go_wp2_with fail
  refine wp_region_quiet_below (by kernel_rfl) (by kernel_rfl) ?_
  repeat (first | go_big_quiet_step (fail) | quiet_step (fail))
  refine wpQuiet_nil ?_
  intro _ hw0
  obtain ⟨⟨dq, osq⟩, hw1⟩ := hw0
  subst hw1
  have hq := below_regrown w dq osq
  generalize Go.Sort.grow (redrawn w dq) osq = w1 at hq ⊢
  go_wp2
  go_returns
  exact ⟨rfl, hq⟩
/-- Whether there is such a direction. -/
def dirB (d : Int) : Bool := decide (0 ≤ d) && decide (d < 8)
theorem dirB_yes {d : Int} (h : dirB d = true) : ∃ n : Nat, d = n ∧ n < 8 := by
  simp only [dirB, Bool.and_eq_true, decide_eq_true_eq] at h
  exact ⟨d.toNat, by omega, by omega⟩
theorem dirB_of {d : Nat} (h : d < 8) : dirB (d : Int) = true := by simp [dirB]; omega
set_option maxHeartbeats 1000000 in
theorem isDir_c (d : Int) (w : World) : Calls Tryd.prog 25 #[.int .i64 d] w fun e w' => e = .returned (.bool (dirB d)) ∧ w = w' := by
  by_cases h0 : 0 ≤ d
  · by_cases h8 : d < 8
    · have e : dirB d = true := by simp [dirB, h0, h8]
      rw [e]
      clear e
      go_enter Tryd.func25, Tryd.ntmps25
      go_wp2
      go_returns
      exact ⟨rfl, rfl⟩
    · have e : dirB d = false := by simp [dirB, h8]
      rw [e]
      clear e
      go_enter Tryd.func25, Tryd.ntmps25
      go_wp2
      go_returns
      exact ⟨rfl, rfl⟩
  · have e : dirB d = false := by simp [dirB, h0]
    rw [e]
    clear e
    go_enter Tryd.func25, Tryd.ntmps25
    go_wp2
    go_returns
    exact ⟨rfl, rfl⟩
set_option maxHeartbeats 1000000 in
theorem l21Ok_c (d : Int) (w : World) : Calls Tryd.prog 30 #[.int .i64 d] w fun e w' => e = .returned (.bool (dirB d)) ∧ w = w' := by
  go_enter Tryd.func30, Tryd.ntmps30
  go_wp2_with fail
  refine (l6In_c d 0 7 _).mono ?_
  rintro e w' ⟨rfl, rfl⟩
  have e : (decide (0 ≤ d) && decide (d ≤ 7)) = dirB d := by
    unfold dirB
    congr 1
    exact decide_eq_decide.2 (by omega)
  rw [e]
  go_wp2
  go_returns
  exact ⟨rfl, rfl⟩
theorem nat8 {d : Nat} (h : d < 8) : d = 0 ∨ d = 1 ∨ d = 2 ∨ d = 3 ∨ d = 4 ∨ d = 5 ∨ d = 6 ∨ d = 7 := by omega
set_option maxHeartbeats 2000000 in
theorem l21X_c (d : Nat) (hd : d < 8) (w : World) : Calls Tryd.prog 57 #[.int .i64 (d : Int)] w fun e w' => e = .returned (.int .i64 (dXs.getD d 0)) ∧ Below w.heap.size w w' := by
  rcases nat8 hd with rfl | rfl | rfl | rfl | rfl | rfl | rfl | rfl
  all_goals
    go_enter Tryd.func57, Tryd.ntmps57
    go_wp2
    go_returns
    exact ⟨rfl, by go_grown⟩
set_option maxHeartbeats 2000000 in
theorem l21Y_c (d : Nat) (hd : d < 8) (w : World) : Calls Tryd.prog 58 #[.int .i64 (d : Int)] w fun e w' => e = .returned (.int .i64 (dYs.getD d 0)) ∧ Below w.heap.size w w' := by
  rcases nat8 hd with rfl | rfl | rfl | rfl | rfl | rfl | rfl | rfl
  all_goals
    go_enter Tryd.func58, Tryd.ntmps58
    go_wp2
    go_returns
    exact ⟨rfl, by go_grown⟩
theorem ln_prod {d i j : Nat} (hd : d < 8) (hi : i < 64) (hj : j < 64) : (0 ≤ dXs.getD d 0 * (i : Int) ∧ dXs.getD d 0 * (i : Int) ≤ 126) ∧ -126 ≤ dYs.getD d 0 * (j : Int) ∧ dYs.getD d 0 * (j : Int) ≤ 126 := by
  have bx := dX_bd d hd
  have b_y := dY_bd d hd
  refine ⟨⟨Int.mul_nonneg bx.1 (by omega), by have := Int.mul_le_mul bx.2 (show (i : Int) ≤ 63 by omega) (by omega) (by omega); omega⟩, ?_⟩
  have h1 := Int.mul_le_mul_of_nonneg_right b_y.1 (show 0 ≤ (j : Int) by omega)
  have h2 := Int.mul_le_mul_of_nonneg_right b_y.2 (show 0 ≤ (j : Int) by omega)
  omega
set_option maxHeartbeats 1000000 in
theorem l21Line_c (d i j : Nat) (hd : d < 8) (hi : i < 64) (hj : j < 64) (w : World) :
    Calls Tryd.prog 31 #[.int .i64 (d : Int), .int .i64 (i : Int), .int .i64 (j : Int)] w fun e w' => e = .returned (.int .i64 (lnO d i j)) ∧ Below w.heap.size w w' := by
  obtain ⟨px, py⟩ := ln_prod hd hi hj
  have el : lnO d i j = dXs.getD d 0 * (i : Int) - dYs.getD d 0 * (j : Int) := rfl
  have HX := l21X_c d hd
  have HY := l21Y_c d hd
  have bx := dX_bd d hd
  have b_y := dY_bd d hd
  rw [el]
  clear el
  generalize dXs.getD d 0 = x at *
  generalize dYs.getD d 0 = y at *
  have ew1 : IntKind.i64.wrap (x * (i : Int)) = x * (i : Int) := IntWalk.i64_in _ ⟨by omega, by omega⟩
  have ew2 : IntKind.i64.wrap (y * (j : Int)) = y * (j : Int) := IntWalk.i64_in _ ⟨by omega, by omega⟩
  have ew3 : IntKind.i64.wrap (x * (i : Int) - y * (j : Int)) = x * (i : Int) - y * (j : Int) := IntWalk.i64_in _ ⟨by omega, by omega⟩
  go_enter Tryd.func31, Tryd.ntmps31
  go_wp2_with fail
  refine (HX w).mono ?_
  rintro e w1 ⟨rfl, hb⟩
  go_wp2_with fail
  refine (HY w1).mono ?_
  rintro e w2 ⟨rfl, hb2⟩
  clear HX HY
  go_wp2
  go_returns
  exact ⟨rfl, hb.trans (hb2.mono hb.size)⟩
end Go.Proofs.YtbpjceffkchmbaaDoor
