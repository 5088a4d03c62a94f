/- Contracts of l2Row, RowSums, ColSums of the reference. Conditions: the slice reads as a list of integers. -/
import Derived.Test.YtbpjceffkchmbaaDoorFA
import Derived.Test.YtbpjceffkchmbaaDoorTW
import Derived.Test.YtbpjceffkchmbaaDoorKX
import Derived.Test.YtbpjceffkchmbaaDoorKY
namespace Go.Proofs.YtbpjceffkchmbaaDoor
open Go.RowKit
theorem sumN_b2i_bd (n : Nat) (p : Nat → Bool) : 0 ≤ sumN n (fun k => b2i (p k)) ∧ sumN n (fun k => b2i (p k)) ≤ n := by
  have := sumN_bd (n := n) (f := fun k => b2i (p k)) (c := 1) fun k _ => b2i_bd _
  omega
/-- The row sums of whatever image, none of an invalid one. -/
def rsOf (W : Int) (rows : List Int) : List Int := if validB W rows = true then rowSums W.toNat (rows.map Int.toNat) else []
def csOf (W : Int) (rows : List Int) : List Int := if validB W rows = true then colSums W.toNat (rows.map Int.toNat) else []
theorem unCast (ns : List Nat) : (casts ns).map Int.toNat = ns := by simp [casts, Function.comp_def]
theorem rsOf_yes {n : Nat} {ns : List Nat} (hV : VImg n ns) : rsOf n (casts ns) = rowSums n ns := by
  unfold rsOf
  rw [if_pos (validB_of hV), unCast, Int.toNat_natCast]
theorem csOf_yes {n : Nat} {ns : List Nat} (hV : VImg n ns) : csOf n (casts ns) = colSums n ns := by
  unfold csOf
  rw [if_pos (validB_of hV), unCast, Int.toNat_natCast]
theorem rsOf_no {W : Int} {rows : List Int} (h : validB W rows = false) : rsOf W rows = [] := by unfold rsOf; rw [h]; rfl
theorem csOf_no {W : Int} {rows : List Int} (h : validB W rows = false) : csOf W rows = [] := by unfold csOf; rw [h]; rfl
theorem take_snoc_i {xs : List Int} {k : Nat} (hk : k < xs.length) : xs.take (k + 1) = xs.take k ++ [xs.getD k 0] := by
  rw [List.take_succ_eq_append_getElem hk, List.getD_eq_getElem?_getD, List.getElem?_eq_getElem hk]
  rfl
theorem len_take {xs : List Int} {k : Nat} (hk : k ≤ xs.length) : (xs.take k).length = k := by rw [List.length_take]; omega
/-- A list of the call's own, in a world. -/
def OwnOut (w : World) (xs : List Int) (e : Ending) (w' : World) : Prop := ∃ v, e = .returned v ∧ OwnI w' w.heap.size v xs ∧ Below w.heap.size w w'
end Go.Proofs.YtbpjceffkchmbaaDoor
