/- Contracts of moment, the sum of a value over the set cells. Conditions: the image is valid; the value is a function without captures whose contract is at hand. | Contracts of the moments of an image, valid or not: the sum of products, of squares, of places. Conditions: the slice reads as a list of integers. | Contracts of the moments as the specification counts them. Conditions: the slice reads as a list of integers. | Contracts of ones and ImageMany. Conditions: the row below 64; the slice reads as a list of integers. -/
import Derived.Test.YtilahcpjjaikgaaDoorK8
import Derived.Test.YtilahcpjjaikgaaDoorMT
section
namespace Go.Proofs.YtilahcpjjaikgaaDoor
open Go.RowKit Go.Shelf
attribute [local go_sem] Oper.semAt_some
/-- The sum so far. -/
def accum {h w : Nat} (ns : List Nat) (f : Nat → Nat → Int) (pre : List (Cell h w)) : Int := (pre.map fun x => f x.1.1 x.1.2 * b2i (cell ns x.1.1 x.1.2)).sum
theorem accum_snoc {h w : Nat} (ns : List Nat) (f : Nat → Nat → Int) (pre : List (Cell h w)) (x : Cell h w) : accum ns f (pre ++ [x]) = accum ns f pre + f x.1.1 x.1.2 * b2i (cell ns x.1.1 x.1.2) := by
  simp [accum, List.sum_append]
theorem sum_range (w : Nat) (g : Nat → Int) : ((List.range w).map g).sum = sumN w g := by
  induction w with
  | zero => rfl
  | succ w ih => rw [List.range_succ, List.map_append, List.sum_append, ih]; simp [sumN]
theorem sum_cells (h w : Nat) (g : Nat → Nat → Int) : ((cellsL h w).map fun p => g p.1 p.2).sum = sumN h fun i => sumN w fun j => g i j := by
  induction h with
  | zero => rfl
  | succ h ih =>
    rw [cellsL_succ, List.map_append, List.sum_append, ih, List.map_map]
    simp only [sumN]
    rw [← sum_range w fun j => g h j]
    rfl
theorem accum_all {w : Nat} {ns : List Nat} (f : Nat → Nat → Int) {xs : List (Cell ns.length w)} (h : xs.map (·.1) = cellsL ns.length w) : accum ns f xs = mom w ns f := by
  unfold mom
  rw [← sum_cells ns.length w fun i j => f i j * b2i (cell ns i j), ← h, List.map_map]
  rfl
theorem accum_bd {h w : Nat} (ns : List Nat) {f : Nat → Nat → Int} (hf : ∀ i j, i < h → j < w → 0 ≤ f i j ∧ f i j ≤ 25) (pre : List (Cell h w)) : 0 ≤ accum ns f pre ∧ accum ns f pre ≤ 25 * pre.length := by
  induction pre with
  | nil => simp [accum]
  | cons x pre ih =>
    have e : accum ns f (x :: pre) = f x.1.1 x.1.2 * b2i (cell ns x.1.1 x.1.2) + accum ns f pre := by simp [accum]
    have := hf x.1.1 x.1.2 x.2.1 x.2.2
    rw [e]
    cases cell ns x.1.1 x.1.2 <;> simp [b2i] <;> omega
theorem cell_lt_size {W : World} {p : Addr} {v : Value} (h : W.cell? p = some v) : p.block < W.heap.size := by
  refine Classical.byContradiction fun hn => ?_
  unfold World.cell? at h
  rw [Array.getElem?_eq_none (by omega)] at h
  cases h
theorem cell_below {W W1 : World} (hb : Below W.heap.size W W1) {p : Addr} {v : Value} (h : W.cell? p = some v) : W1.cell? p = some v := (hb.cell (cell_lt_size h)).trans h
theorem frozen_below {W W1 : World} (hb : Below W.heap.size W W1) {p : Addr} {v : Value} (h : W.cell? p = some v) {x : Bool} (hf : W.frozen? p = x) : W1.frozen? p = x := (hb.frozen (cell_lt_size h)).trans hf
theorem keeps_below {W W1 : World} (hb : Below W.heap.size W W1) : KeepsOthers W W1 := ⟨hb.size, fun k _ hk _ => (hb.block k (Array.getElem?_eq_some_iff.1 hk).1).trans hk⟩
theorem KpC.of_below {Bn : Nat} {W W1 : World} (hb : Below W.heap.size W W1) : KpC Bn W W1 := fun _ hv => cell_below hb hv
end Go.Proofs.YtilahcpjjaikgaaDoor
end

section
namespace Go.Proofs.YtilahcpjjaikgaaDoor
open Go.RowKit
theorem casts_toNat (ns : List Nat) : (casts ns).map Int.toNat = ns := by
  rw [casts, List.map_map]
  have : (Int.toNat ∘ fun n : Nat => (n : Int)) = id := by funext n; simp
  rw [this, List.map_id]
/-- The moment of an image of whatever numbers. -/
def mo (f : Nat → Nat → Int) (W : Int) (rows : List Int) : Int := mom W.toNat (rows.map Int.toNat) f
theorem mo_casts (f : Nat → Nat → Int) (w : Nat) (ns : List Nat) : mo f (w : Int) (casts ns) = mom w ns f := by
  unfold mo
  rw [casts_toNat]
  simp
/-- The moment of a valid image, d of another. -/
def val0 (d : Int) (f : Nat → Nat → Int) (W : Int) (rows : List Int) : Int := if validB W rows then mo f W rows else d
theorem val0_no {d : Int} {f : Nat → Nat → Int} {W : Int} {rows : List Int} (h : validB W rows = false) : val0 d f W rows = d := by unfold val0; rw [h]; rfl
theorem val0_yes {d : Int} {f : Nat → Nat → Int} {w : Nat} {ns : List Nat} (h : VImg w ns) : val0 d f (w : Int) (casts ns) = mom w ns f := by unfold val0; rw [validB_of h, mo_casts]; rfl
theorem rt3 {a b a' b' : Int} {c c' : Bool} (h1 : a = a') (h2 : b = b') (h3 : c = c') : Ending.returned (.tuple #[.int .i64 a, .int .i64 b, .bool c]) = .returned (.tuple #[.int .i64 a', .int .i64 b', .bool c']) := by rw [h1, h2, h3]
end Go.Proofs.YtilahcpjjaikgaaDoor
end

section
namespace Go.Proofs.YtilahcpjjaikgaaDoor
open Go.RowKit
/-- The sum over k full rows and m cells of the next. -/
def part (ns : List Nat) (w : Nat) (f : Nat → Nat → Int) (k m : Nat) : Int := sumN k (fun i => sumN w fun j => f i j * b2i (cell ns i j)) + sumN m fun j => f k j * b2i (cell ns k j)
theorem part_step (ns : List Nat) (w : Nat) (f : Nat → Nat → Int) (k m : Nat) : part ns w f k (m + 1) = part ns w f k m + f k m * b2i (cell ns k m) := by
  simp only [part, sumN]; omega
theorem part_row (ns : List Nat) (w : Nat) (f : Nat → Nat → Int) (k : Nat) : part ns w f (k + 1) 0 = part ns w f k w := by simp only [part, sumN]; omega
theorem part_all (ns : List Nat) (w : Nat) (f : Nat → Nat → Int) : part ns w f ns.length 0 = mom w ns f := by simp [part, mom, sumN]
theorem part_bd {ns : List Nat} {w : Nat} {f : Nat → Nat → Int} (hf : ∀ i j, i < 6 → j < 6 → 0 ≤ f i j ∧ f i j ≤ 25) {k m : Nat} (hk : k ≤ 6) (hw : w ≤ 6) (hm : m ≤ w) (hkm : k < 6 ∨ m = 0) : 0 ≤ part ns w f k m ∧ part ns w f k m ≤ 1050 := by
  have hb : ∀ i j, i < 6 → j < 6 → 0 ≤ f i j * b2i (cell ns i j) ∧ f i j * b2i (cell ns i j) ≤ 25 := by
    intro i j hi hj
    have := hf i j hi hj
    cases cell ns i j <;> simp [b2i] <;> omega
  have h1 : ∀ i, i < k → 0 ≤ (sumN w fun j => f i j * b2i (cell ns i j)) ∧ (sumN w fun j => f i j * b2i (cell ns i j)) ≤ 150 := by
    intro i hi
    have := sumN_bd (n := w) (f := fun j => f i j * b2i (cell ns i j)) (c := 25) fun j hj => hb i j (by omega) (by omega)
    omega
  have h2 := sumN_bd (n := k) (f := fun i => sumN w fun j => f i j * b2i (cell ns i j)) (c := 150) h1
  have h3 : 0 ≤ (sumN m fun j => f k j * b2i (cell ns k j)) ∧ (sumN m fun j => f k j * b2i (cell ns k j)) ≤ 150 := by
    rcases hkm with hkm | rfl
    · have := sumN_bd (n := m) (f := fun j => f k j * b2i (cell ns k j)) (c := 25) fun j hj => hb k j hkm (by omega)
      omega
    · simp [sumN]
  unfold part
  omega
theorem prod_bd {p : Int} (c : Bool) (h : 0 ≤ p ∧ p ≤ 25) : 0 ≤ p * b2i c ∧ p * b2i c ≤ 25 := by cases c <;> simp [b2i] <;> omega
end Go.Proofs.YtilahcpjjaikgaaDoor
end

section
namespace Go.Proofs.YtilahcpjjaikgaaDoor
open Go.RowKit
theorem OnesCount_c (r : Nat) (hr : r < 64) (w : World) : Calls Tryd.prog 82 #[.int .u64 (r : Int)] w fun e w' => e = .returned (.int .i64 (pop 6 r)) ∧ w = w' := by
  go_enter Tryd.func82, Tryd.ntmps82
  go_wp2_with fail
  refine (OnesCount64_c r hr w).mono ?_
  rintro e w' ⟨rfl, rfl⟩
  go_wp2
  go_returns
  exact ⟨rfl, rfl⟩
theorem ones_c (r : Nat) (hr : r < 64) (w : World) : Calls Tryd.prog 60 #[.int .i64 (r : Int)] w fun e w' => e = .returned (.int .i64 (pop 6 r)) ∧ w = w' := by
  have ew : IntKind.u64.wrap (r : Int) = r := by simp only [IntKind.wrap_u64]; omega
  go_enter Tryd.func60, Tryd.ntmps60
  go_wp2_with fail
  refine (OnesCount_c r hr w).mono ?_
  rintro e w' ⟨rfl, rfl⟩
  go_wp2
  go_returns
  exact ⟨rfl, rfl⟩
def one (_i _j : Nat) : Int := 1
theorem one_bd (i j : Nat) (_hi : i < 6) (_hj : j < 6) : 0 ≤ one i j ∧ one i j ≤ 25 := by unfold one; omega
theorem one_step (ns : List Nat) (w : Nat) (k : Nat) : part ns w one (k + 1) 0 = part ns w one k 0 + pop w (ns.getD k 0) := by
  simp only [part, sumN, pop, one, Int.one_mul, cell]
  omega
end Go.Proofs.YtilahcpjjaikgaaDoor
end
