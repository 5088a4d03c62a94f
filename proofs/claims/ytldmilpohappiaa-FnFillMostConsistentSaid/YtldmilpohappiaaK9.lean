/- Contracts of moment, the sum of a value over the set cells. Conditions: the image is valid; the value is a function without captures whose contract is at hand. -/
import Derived.Test.YtldmilpohappiaaK8
import Derived.Test.YtldmilpohappiaaTailIn
namespace Go.Proofs.Ytldmilpohappiaa
open Go.RowKit Go.Shelf
attribute [local go_sem] Oper.semAt_some
theorem sum_range (w : Nat) (g : Nat → Int) : ((List.range w).map g).sum = sumN w g := by
  induction w with
  | zero => rfl
  | succ w ih => rw [List.range_succ, List.map_append, List.sum_append, ih]; simp [sumN]
theorem sum_cells (h w : Nat) (g : Nat → Nat → Int) : ((cellsL h w).map fun p => g p.1 p.2).sum = sumN h fun i => sumN w fun j => g i j := by
  induction h with
  | zero => rfl
  | succ h ih =>
    rw [cellsL_succ, List.map_append, List.sum_append, ih, List.map_map]
    simp only [sumN]
    rw [← sum_range w fun j => g h j]
    rfl
theorem cell_lt_size {W : World} {p : Addr} {v : Value} (h : W.cell? p = some v) : p.block < W.heap.size := by
  refine Classical.byContradiction fun hn => ?_
  unfold World.cell? at h
  rw [Array.getElem?_eq_none (by omega)] at h
  cases h
theorem cell_below {W W1 : World} (hb : Below W.heap.size W W1) {p : Addr} {v : Value} (h : W.cell? p = some v) : W1.cell? p = some v := (hb.cell (cell_lt_size h)).trans h
theorem frozen_below {W W1 : World} (hb : Below W.heap.size W W1) {p : Addr} {v : Value} (h : W.cell? p = some v) {x : Bool} (hf : W.frozen? p = x) : W1.frozen? p = x := (hb.frozen (cell_lt_size h)).trans hf
theorem keeps_below {W W1 : World} (hb : Below W.heap.size W W1) : KeepsOthers W W1 := ⟨hb.size, fun k _ hk _ => (hb.block k (Array.getElem?_eq_some_iff.1 hk).1).trans hk⟩
end Go.Proofs.Ytldmilpohappiaa
