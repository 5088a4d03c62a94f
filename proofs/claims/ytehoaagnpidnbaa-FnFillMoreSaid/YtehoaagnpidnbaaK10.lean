/- Contracts of the moments of an image, valid or not: the sum of products, of squares, of places. Conditions: the slice reads as a list of integers. -/
import Derived.Test.YtehoaagnpidnbaaK9
namespace Go.Proofs.Ytehoaagnpidnbaa
open Go.RowKit
theorem casts_toNat (ns : List Nat) : (casts ns).map Int.toNat = ns := by
  rw [casts, List.map_map]
  have : (Int.toNat ∘ fun n : Nat => (n : Int)) = id := by funext n; simp
  rw [this, List.map_id]
/-- The moment of an image of whatever numbers. -/
def mo (f : Nat → Nat → Int) (W : Int) (rows : List Int) : Int := mom W.toNat (rows.map Int.toNat) f
theorem mo_casts (f : Nat → Nat → Int) (w : Nat) (ns : List Nat) : mo f (w : Int) (casts ns) = mom w ns f := by
  unfold mo
  rw [casts_toNat]
  simp
/-- The moment of a valid image, d of another. -/
def val0 (d : Int) (f : Nat → Nat → Int) (W : Int) (rows : List Int) : Int := if validB W rows then mo f W rows else d
theorem val0_no {d : Int} {f : Nat → Nat → Int} {W : Int} {rows : List Int} (h : validB W rows = false) : val0 d f W rows = d := by unfold val0; rw [h]; rfl
theorem val0_yes {d : Int} {f : Nat → Nat → Int} {w : Nat} {ns : List Nat} (h : VImg w ns) : val0 d f (w : Int) (casts ns) = mom w ns f := by unfold val0; rw [validB_of h, mo_casts]; rfl
theorem rt3 {a b a' b' : Int} {c c' : Bool} (h1 : a = a') (h2 : b = b') (h3 : c = c') : Ending.returned (.tuple #[.int .i64 a, .int .i64 b, .bool c]) = .returned (.tuple #[.int .i64 a', .int .i64 b', .bool c']) := by rw [h1, h2, h3]
end Go.Proofs.Ytehoaagnpidnbaa
