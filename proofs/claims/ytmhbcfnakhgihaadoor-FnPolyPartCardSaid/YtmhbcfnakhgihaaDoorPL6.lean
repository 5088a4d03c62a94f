/- Contracts of ImageHoles, ImageHas, ImagePart, ImageFill of the reference. Conditions: the slice reads as a list of integers. -/
import Derived.Test.YtmhbcfnakhgihaaDoorPL5
import Derived.Test.YtmhbcfnakhgihaaDoorK5
namespace Go.Proofs.YtmhbcfnakhgihaaDoor
open Go.RowKit
open Gr
/-- Whether an image of whatever numbers is valid and has the cell. -/
def hasZ (W : Int) (rows : List Int) (i j : Int) : Bool := validB W rows && inB W rows i j && cell (rows.map Int.toNat) i.toNat j.toNat
theorem hasZ_yes {W : Int} {rows : List Int} {i j : Int} (h : hasZ W rows i j = true) : ∃ (n : Nat) (ns : List Nat) (a b : Nat), W = n ∧ rows = casts ns ∧ i = a ∧ j = b ∧ VImg n ns ∧ a < ns.length ∧ b < n ∧ cell ns a b = true := by
  simp only [hasZ, Bool.and_eq_true, inB, decide_eq_true_eq] at h
  obtain ⟨⟨h1, ⟨⟨h2, h3⟩, h4⟩, h5⟩, h6⟩ := h
  obtain ⟨n, ns, rfl, rfl, hV⟩ := validB_yes h1
  have e : (casts ns).map Int.toNat = ns := by simp [casts, Function.comp_def]
  rw [e] at h6
  have := hV.cell_in h6
  exact ⟨n, ns, i.toNat, j.toNat, rfl, rfl, by omega, by omega, hV, this.1, this.2, h6⟩
theorem hasZ_of {n : Nat} {ns : List Nat} (hV : VImg n ns) (i j : Int) : hasZ (n : Int) (casts ns) i j = cellZ ns i j := by
  have e : (casts ns).map Int.toNat = ns := by simp [casts, Function.comp_def]
  unfold hasZ
  rw [validB_of hV, e, Bool.eq_iff_iff]
  simp only [inB, cellZ, Bool.and_eq_true, decide_eq_true_eq, length_casts, true_and]
  constructor
  · rintro ⟨⟨⟨⟨a, _⟩, b⟩, _⟩, c⟩; exact ⟨⟨a, b⟩, c⟩
  · rintro ⟨⟨a, b⟩, c⟩
    have := hV.cell_in c
    exact ⟨⟨⟨⟨a, by omega⟩, b⟩, by omega⟩, c⟩
/-- An image of the call's own, and true. -/
def ImgOut (w : World) (wd : Nat) (ns : List Nat) (e : Ending) (w' : World) : Prop :=
  ∃ g c, e = .returned (.tuple #[.agg #[.int .i64 (wd : Int), .slice (some ⟨g, 0, none⟩) ns.length c], .bool true]) ∧ w.heap.size ≤ g ∧ Row w' g (casts ns) ∧ Below w.heap.size w w'
/-- No image. -/
def NoImg (w : World) (e : Ending) (w' : World) : Prop := e = .returned (.tuple #[.agg #[.int .i64 0, .slice none 0 0], .bool false]) ∧ Below w.heap.size w w'
end Go.Proofs.YtmhbcfnakhgihaaDoor
