/- The law that one cell joins at most four parts: it returns true at whatever codes. Conditions: the codes' slices can be read. -/
import Derived.Test.YtbblbdacdpokeaaDoorPI3
import Derived.Test.YtbblbdacdpokeaaDoorPD2
import Derived.Test.YtbblbdacdpokeaaDoorKZ
import Derived.Test.YtbblbdacdpokeaaDoorPartsLaw
namespace Go.Proofs.YtbblbdacdpokeaaDoor
open Go.RowKit
open Gr
theorem parts_bd {w : Nat} {ns : List Nat} (hV : VImg w ns) : 0 ≤ partsN w ns ∧ partsN w ns ≤ 36 := by
  have h1 := firsts_len_le (T := cell ns) (near := false) (h := ns.length) (w := w)
  have h2 : ns.length * w ≤ 6 * 6 := Nat.mul_le_mul hV.h6 hV.w6
  unfold partsN partsL
  omega
theorem onParts_bd (W : Int) (rows : List Int) : -1 ≤ onImg (-1) partsN W rows ∧ onImg (-1) partsN W rows ≤ 36 := by
  cases hv : validB W rows with
  | false => rw [onImg_no hv]; omega
  | true =>
    obtain ⟨n, ns, rfl, rfl, hV⟩ := validB_yes hv
    rw [onImg_yes hV]
    have := parts_bd hV
    omega
theorem parts_put {w : Nat} {ns : List Nat} (hV : VImg w ns) {i j : Nat} (hi : i < ns.length) (hj : j < w) (hc : cell ns i j = false) : partsN w (putL ns i j true) ≤ partsN w ns + 1 ∧ partsN w ns ≤ partsN w (putL ns i j true) + 3 := by
  have h1 := firsts_put (sized_img hV).inside hi hj hc (S' := cell (putL ns i j true)) (cell_putL hi j true)
  unfold partsN partsL
  rw [length_putL]
  omega
end Go.Proofs.YtbblbdacdpokeaaDoor
