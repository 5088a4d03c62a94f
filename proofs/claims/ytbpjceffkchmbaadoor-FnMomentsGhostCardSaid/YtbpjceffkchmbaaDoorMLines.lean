/- Plain laws of the moments of lines: steps of a direction, the number of a line, three moments that tell all. No condition beyond those that the theorems name. -/
import Derived.Test.YtbpjceffkchmbaaDoorMA
namespace Go.Proofs.YtbpjceffkchmbaaDoor
def dXs : List Int := [1, 0, 1, 1, 2, 1, 2, 1]
def dYs : List Int := [0, 1, 1, -1, 1, 2, -1, -2]
/-- The line of a cell. -/
def lnO (d i j : Nat) : Int := dXs.getD d 0 * i - dYs.getD d 0 * j
theorem lnO_bd : ∀ d, d < 8 → ∀ i, i < 6 → ∀ j, j < 6 → -15 ≤ lnO d i j ∧ lnO d i j ≤ 15 := by decide +kernel
theorem dX_bd : ∀ d, d < 8 → 0 ≤ dXs.getD d 0 ∧ dXs.getD d 0 ≤ 2 := by decide +kernel
theorem dY_bd : ∀ d, d < 8 → -2 ≤ dYs.getD d 0 ∧ dYs.getD d 0 ≤ 2 := by decide +kernel
theorem sq_bd {z c : Int} (h1 : -c ≤ z) (h2 : z ≤ c) : 0 ≤ z * z ∧ z * z ≤ c * c := by
  have h0 : 0 ≤ z * z := by
    rcases Int.le_total 0 z with h | h
    · exact Int.mul_nonneg h h
    · have := Int.mul_nonneg (a := -z) (b := -z) (by omega) (by omega)
      rwa [Int.neg_mul_neg] at this
  have h3 := Int.mul_nonneg (a := c - z) (b := c + z) (by omega) (by omega)
  have e : (c - z) * (c + z) = c * c - z * z := by
    rw [Int.sub_mul, Int.mul_add, Int.mul_add, Int.mul_comm z c]; omega
  omega
def sqL (d i j : Nat) : Int := lnO d i j * lnO d i j
theorem sqL_bd {d i j : Nat} (hd : d < 8) (hi : i < 6) (hj : j < 6) : 0 ≤ sqL d i j ∧ sqL d i j ≤ 225 := by
  obtain ⟨h1, h2⟩ := lnO_bd d hd i hi j hj
  have := sq_bd h1 h2
  unfold sqL
  omega
def sqI (i _j : Nat) : Int := (i : Int) * i
def sqJ (_i j : Nat) : Int := (j : Int) * j
def crO (i j : Nat) : Int := (i : Int) * j
theorem mul4 (a b c d : Int) : a * b * (c * d) = a * c * (b * d) := by rw [Int.mul_assoc, Int.mul_assoc, Int.mul_left_comm b c d]
theorem sqL_eq (d i j : Nat) : sqL d i j = dXs.getD d 0 * dXs.getD d 0 * sqI i j + (dYs.getD d 0 * dYs.getD d 0 * sqJ i j + -2 * (dXs.getD d 0 * dYs.getD d 0) * crO i j) := by
  unfold sqL lnO sqI sqJ crO
  generalize dXs.getD d 0 = x
  generalize dYs.getD d 0 = y
  generalize (i : Int) = a
  generalize (j : Int) = b
  have e1 : (x * a - y * b) * (x * a - y * b) = x * a * (x * a) - x * a * (y * b) - (y * b * (x * a) - y * b * (y * b)) := by rw [Int.sub_mul, Int.mul_sub, Int.mul_sub]
  have e2 : x * a * (x * a) = x * x * (a * a) := by rw [mul4]
  have e3 : y * b * (y * b) = y * y * (b * b) := by rw [mul4]
  have e4 : x * a * (y * b) = x * y * (a * b) := by rw [mul4]
  have e5 : y * b * (x * a) = x * y * (a * b) := by rw [Int.mul_comm, e4]
  have e6 : -2 * (x * y) * (a * b) = -(2 * (x * y * (a * b))) := by rw [Int.mul_assoc, Int.neg_mul]
  rw [e1, e2, e3, e4, e5, e6]
  omega
/-- Moments of any direction follow from three. -/
theorem mom_sqL (w : Nat) (ns : List Nat) (d : Nat) : mom w ns (sqL d) = dXs.getD d 0 * dXs.getD d 0 * mom w ns sqI + dYs.getD d 0 * dYs.getD d 0 * mom w ns sqJ - 2 * (dXs.getD d 0 * dYs.getD d 0) * mom w ns crO := by
  have e : sqL d = fun i j => dXs.getD d 0 * dXs.getD d 0 * sqI i j + (dYs.getD d 0 * dYs.getD d 0 * sqJ i j + -2 * (dXs.getD d 0 * dYs.getD d 0) * crO i j) := by
    funext i j
    exact sqL_eq d i j
  rw [e, mom_add, mom_add, mom_mul, mom_mul, mom_mul]
  have : -2 * (dXs.getD d 0 * dYs.getD d 0) * mom w ns crO = -(2 * (dXs.getD d 0 * dYs.getD d 0) * mom w ns crO) := by rw [Int.neg_mul, Int.neg_mul]
  rw [this]
  omega
theorem mom_two (w : Nat) (ns : List Nat) : 2 * mom w ns crO = mom w ns sqI + mom w ns sqJ - mom w ns (sqL 2) := by
  have := mom_sqL w ns 2
  simp only [show dXs.getD 2 0 = 1 from rfl, show dYs.getD 2 0 = 1 from rfl] at this
  omega
theorem mom_three (w : Nat) (ns : List Nat) : 2 * mom w ns crO = mom w ns (sqL 3) - mom w ns sqI - mom w ns sqJ := by
  have := mom_sqL w ns 3
  simp only [show dXs.getD 3 0 = 1 from rfl, show dYs.getD 3 0 = -1 from rfl] at this
  omega
/-! ### Sums of lines -/
/-- The least and the greatest line. -/
def lowL (d h w : Nat) : Int := min 0 (min (lnO d (h - 1) 0) (min (lnO d 0 (w - 1)) (lnO d (h - 1) (w - 1))))
def higL (d h w : Nat) : Int := max 0 (max (lnO d (h - 1) 0) (max (lnO d 0 (w - 1)) (lnO d (h - 1) (w - 1))))
theorem low_bd : ∀ d, d < 8 → ∀ h, h < 7 → ∀ w, w < 7 → -15 ≤ lowL d h w ∧ lowL d h w ≤ 0 ∧ 0 ≤ higL d h w ∧ higL d h w ≤ 15 := by decide +kernel
theorem low_in : ∀ d, d < 8 → ∀ h, h < 7 → ∀ w, w < 7 → ∀ i, i < h → ∀ j, j < w → lowL d h w ≤ lnO d i j ∧ lnO d i j ≤ higL d h w := by decide +kernel
/-- How many lines. -/
def linN (d h w : Nat) : Nat := (higL d h w - lowL d h w + 1).toNat
/-- The sum of a line. -/
def linS (w : Nat) (ns : List Nat) (d : Nat) (k : Nat) : Int := mom w ns fun i j => if (lnO d i j - lowL d ns.length w).toNat = k then 1 else 0
def linSums (w : Nat) (ns : List Nat) (d : Nat) : List Int := (List.range (linN d ns.length w)).map (linS w ns d)
theorem mom_sum (w : Nat) (ns : List Nat) (n : Nat) (f : Nat → Nat → Nat → Int) : mom w ns (fun i j => sumN n fun k => f k i j) = sumN n fun k => mom w ns (f k) := by
  induction n with
  | zero => simp only [sumN, mom, Int.zero_mul, sumN_zero]
  | succ n ih => simp only [sumN]; rw [mom_add, ih]
theorem mom_lines {w : Nat} {ns : List Nat} (hV : VImg w ns) {d : Nat} (hd : d < 8) : (sumN (linN d ns.length w) fun k => linS w ns d k * (lowL d ns.length w + k) * (lowL d ns.length w + k)) = mom w ns (sqL d) := by
  have h6 := hV.h6
  have w6 := hV.w6
  have hb := low_in d hd ns.length (by omega) w (by omega)
  have e1 : (fun k => linS w ns d k * (lowL d ns.length w + (k : Nat)) * (lowL d ns.length w + (k : Nat))) = fun k : Nat => mom w ns fun i j => (lowL d ns.length w + k) * (lowL d ns.length w + k) * if (lnO d i j - lowL d ns.length w).toNat = k then 1 else 0 := by
    funext k
    rw [mom_mul, Int.mul_assoc, Int.mul_comm]
    rfl
  rw [e1, ← mom_sum]
  refine mom_congr fun i j hi hj => ?_
  obtain ⟨h1, h2⟩ := hb i hi j hj
  have e2 : (fun k : Nat => (lowL d ns.length w + (k : Int)) * (lowL d ns.length w + (k : Int)) * if (lnO d i j - lowL d ns.length w).toNat = k then (1 : Int) else 0) = fun k : Nat => if k = (lnO d i j - lowL d ns.length w).toNat then (lowL d ns.length w + (k : Int)) * (lowL d ns.length w + (k : Int)) else 0 := by
    funext k
    by_cases e : k = (lnO d i j - lowL d ns.length w).toNat
    · rw [if_pos e, if_pos e.symm, Int.mul_one]
    · rw [if_neg e, if_neg (fun h => e h.symm), Int.mul_zero]
  rw [e2, sumN_point (fun k : Nat => (lowL d ns.length w + (k : Int)) * (lowL d ns.length w + (k : Int))) (by unfold linN; omega)]
  have e3 : lowL d ns.length w + ((lnO d i j - lowL d ns.length w).toNat : Int) = lnO d i j := by omega
  rw [e3]
  rfl
end Go.Proofs.YtbpjceffkchmbaaDoor
