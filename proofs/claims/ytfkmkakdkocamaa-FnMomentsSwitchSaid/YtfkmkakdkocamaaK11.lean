/- Contracts of the moments as the specification counts them. Conditions: the slice reads as a list of integers. -/
import Derived.Test.YtfkmkakdkocamaaK10
namespace Go.Proofs.Ytfkmkakdkocamaa
open Go.RowKit
/-- The sum over k full rows and m cells of the next. -/
def part (ns : List Nat) (w : Nat) (f : Nat → Nat → Int) (k m : Nat) : Int := sumN k (fun i => sumN w fun j => f i j * b2i (cell ns i j)) + sumN m fun j => f k j * b2i (cell ns k j)
theorem part_step (ns : List Nat) (w : Nat) (f : Nat → Nat → Int) (k m : Nat) : part ns w f k (m + 1) = part ns w f k m + f k m * b2i (cell ns k m) := by
  simp only [part, sumN]; omega
theorem part_row (ns : List Nat) (w : Nat) (f : Nat → Nat → Int) (k : Nat) : part ns w f (k + 1) 0 = part ns w f k w := by simp only [part, sumN]; omega
theorem part_all (ns : List Nat) (w : Nat) (f : Nat → Nat → Int) : part ns w f ns.length 0 = mom w ns f := by simp [part, mom, sumN]
theorem part_bd {ns : List Nat} {w : Nat} {f : Nat → Nat → Int} (hf : ∀ i j, i < 6 → j < 6 → 0 ≤ f i j ∧ f i j ≤ 25) {k m : Nat} (hk : k ≤ 6) (hw : w ≤ 6) (hm : m ≤ w) (hkm : k < 6 ∨ m = 0) : 0 ≤ part ns w f k m ∧ part ns w f k m ≤ 1050 := by
  have hb : ∀ i j, i < 6 → j < 6 → 0 ≤ f i j * b2i (cell ns i j) ∧ f i j * b2i (cell ns i j) ≤ 25 := by
    intro i j hi hj
    have := hf i j hi hj
    cases cell ns i j <;> simp [b2i] <;> omega
  have h1 : ∀ i, i < k → 0 ≤ (sumN w fun j => f i j * b2i (cell ns i j)) ∧ (sumN w fun j => f i j * b2i (cell ns i j)) ≤ 150 := by
    intro i hi
    have := sumN_bd (n := w) (f := fun j => f i j * b2i (cell ns i j)) (c := 25) fun j hj => hb i j (by omega) (by omega)
    omega
  have h2 := sumN_bd (n := k) (f := fun i => sumN w fun j => f i j * b2i (cell ns i j)) (c := 150) h1
  have h3 : 0 ≤ (sumN m fun j => f k j * b2i (cell ns k j)) ∧ (sumN m fun j => f k j * b2i (cell ns k j)) ≤ 150 := by
    rcases hkm with hkm | rfl
    · have := sumN_bd (n := m) (f := fun j => f k j * b2i (cell ns k j)) (c := 25) fun j hj => hb k j hkm (by omega)
      omega
    · simp [sumN]
  unfold part
  omega
theorem prod_bd {p : Int} (c : Bool) (h : 0 ≤ p ∧ p ≤ 25) : 0 ≤ p * b2i c ∧ p * b2i c ≤ 25 := by cases c <;> simp [b2i] <;> omega
end Go.Proofs.Ytfkmkakdkocamaa
