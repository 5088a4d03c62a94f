/- Contracts of moment, the sum of a value over the set cells. Conditions: the image is valid; the value is a function without captures whose contract is at hand. -/
import Derived.Test.YtehoaagnpidnbaaK8
import Derived.Test.YtehoaagnpidnbaaMT
namespace Go.Proofs.Ytehoaagnpidnbaa
open Go.RowKit Go.Shelf
attribute [local go_sem] Oper.semAt_some
/-- The sum so far. -/
def accum {h w : Nat} (ns : List Nat) (f : Nat → Nat → Int) (pre : List (Cell h w)) : Int := (pre.map fun x => f x.1.1 x.1.2 * b2i (cell ns x.1.1 x.1.2)).sum
theorem accum_snoc {h w : Nat} (ns : List Nat) (f : Nat → Nat → Int) (pre : List (Cell h w)) (x : Cell h w) : accum ns f (pre ++ [x]) = accum ns f pre + f x.1.1 x.1.2 * b2i (cell ns x.1.1 x.1.2) := by
  simp [accum, List.sum_append]
theorem sum_range (w : Nat) (g : Nat → Int) : ((List.range w).map g).sum = sumN w g := by
  induction w with
  | zero => rfl
  | succ w ih => rw [List.range_succ, List.map_append, List.sum_append, ih]; simp [sumN]
theorem sum_cells (h w : Nat) (g : Nat → Nat → Int) : ((cellsL h w).map fun p => g p.1 p.2).sum = sumN h fun i => sumN w fun j => g i j := by
  induction h with
  | zero => rfl
  | succ h ih =>
    rw [cellsL_succ, List.map_append, List.sum_append, ih, List.map_map]
    simp only [sumN]
    rw [← sum_range w fun j => g h j]
    rfl
theorem accum_all {w : Nat} {ns : List Nat} (f : Nat → Nat → Int) {xs : List (Cell ns.length w)} (h : xs.map (·.1) = cellsL ns.length w) : accum ns f xs = mom w ns f := by
  unfold mom
  rw [← sum_cells ns.length w fun i j => f i j * b2i (cell ns i j), ← h, List.map_map]
  rfl
theorem accum_bd {h w : Nat} (ns : List Nat) {f : Nat → Nat → Int} (hf : ∀ i j, i < h → j < w → 0 ≤ f i j ∧ f i j ≤ 25) (pre : List (Cell h w)) : 0 ≤ accum ns f pre ∧ accum ns f pre ≤ 25 * pre.length := by
  induction pre with
  | nil => simp [accum]
  | cons x pre ih =>
    have e : accum ns f (x :: pre) = f x.1.1 x.1.2 * b2i (cell ns x.1.1 x.1.2) + accum ns f pre := by simp [accum]
    have := hf x.1.1 x.1.2 x.2.1 x.2.2
    rw [e]
    cases cell ns x.1.1 x.1.2 <;> simp [b2i] <;> omega
theorem cell_lt_size {W : World} {p : Addr} {v : Value} (h : W.cell? p = some v) : p.block < W.heap.size := by
  refine Classical.byContradiction fun hn => ?_
  unfold World.cell? at h
  rw [Array.getElem?_eq_none (by omega)] at h
  cases h
theorem cell_below {W W1 : World} (hb : Below W.heap.size W W1) {p : Addr} {v : Value} (h : W.cell? p = some v) : W1.cell? p = some v := (hb.cell (cell_lt_size h)).trans h
theorem frozen_below {W W1 : World} (hb : Below W.heap.size W W1) {p : Addr} {v : Value} (h : W.cell? p = some v) {x : Bool} (hf : W.frozen? p = x) : W1.frozen? p = x := (hb.frozen (cell_lt_size h)).trans hf
theorem keeps_below {W W1 : World} (hb : Below W.heap.size W W1) : KeepsOthers W W1 := ⟨hb.size, fun k _ hk _ => (hb.block k (Array.getElem?_eq_some_iff.1 hk).1).trans hk⟩
theorem KpC.of_below {Bn : Nat} {W W1 : World} (hb : Below W.heap.size W W1) : KpC Bn W W1 := fun _ hv => cell_below hb hv
end Go.Proofs.Ytehoaagnpidnbaa
