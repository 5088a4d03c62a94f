/- Plain law: a ghost of the directions 0, 1 and 2 changes no moment of products and of lines. Conditions: the image's sides are at most 5; the moved table has bits only. -/
import Derived.Test.YtbpjceffkchmbaaDoorTG13
import Derived.Test.YtbpjceffkchmbaaDoorMLines
namespace Go.Proofs.YtbpjceffkchmbaaDoor
/-- A ghost's number at a cell of the image. -/
def gE (i j a b : Nat) : Int := if i ≤ a ∧ a < i + 3 ∧ j ≤ b ∧ b < j + 3 then ent (gh [0, 1, 2]).2.2 (a - i) (b - j) else 0
/-- The ghost's moment. -/
def gZ (n : Nat) (f : Nat → Nat → Int) (i j : Nat) : Int := sumN n fun a => sumN n fun b => f a b * gE i j a b
def gK (n : Nat) (f : Nat → Nat → Int) (i j : Nat) : Bool := decide (n < i + 3 ∨ n < j + 3) || decide (gZ n f i j = 0)
theorem gK_yes {n : Nat} {f : Nat → Nat → Int} {i j : Nat} (h : gK n f i j = true) (h1 : i + 3 ≤ n) (h2 : j + 3 ≤ n) : gZ n f i j = 0 := by
  unfold gK at h
  rw [Bool.or_eq_true, decide_eq_true_eq, decide_eq_true_eq] at h
  rcases h with h | h
  · omega
  · exact h
theorem gE_lines : ∀ n, n < 6 → ∀ d, d < 8 → ∀ i, i < 3 → ∀ j, j < 3 → gK n (sqL d) i j = true := by decide +kernel
theorem gE_cross : ∀ n, n < 6 → ∀ i, i < 3 → ∀ j, j < 3 → gK n crO i j = true := by decide +kernel
theorem mv_mom {n : Nat} {ns : List Nat} (hl : ns.length = n) {c : Int} {i j : Nat} (f : Nat → Nat → Int) (hz : gZ n f i j = 0) (hb : bitsB ns.length n (mvT n ns [0, 1, 2] c i j) = true) : mom n (mvL n ns [0, 1, 2] c i j) f = mom n ns f := by
  subst hl
  unfold gZ at hz
  have e : ∀ a, a < ns.length → (sumN ns.length fun b => f a b * b2i (cell (mvL ns.length ns [0, 1, 2] c i j) a b)) = (sumN ns.length fun b => f a b * b2i (cell ns a b)) + c * sumN ns.length fun b => f a b * gE i j a b := by
    intro a ha
    rw [← sumN_mul, ← sumN_add]
    refine sumN_congr fun b hb' => ?_
    unfold mvL
    rw [imgT_cell ha hb']
    have h1 := bitsB_at hb ha hb'
    have h2 : ent (mvT ns.length ns [0, 1, 2] c i j) a b = b2i (cell ns a b) + c * gE i j a b := by
      unfold mvT
      rw [ent_addT ha hb', ent_tabF ha hb']
      unfold gE bitF
      show _ + (if i ≤ a ∧ a < i + 3 ∧ j ≤ b ∧ b < j + 3 then _ else _) = _
      by_cases h : i ≤ a ∧ a < i + 3 ∧ j ≤ b ∧ b < j + 3
      · rw [if_pos h, if_pos h]
      · rw [if_neg h, if_neg h, Int.mul_zero]
    have h3 : b2i (decide (ent (mvT ns.length ns [0, 1, 2] c i j) a b = 1)) = ent (mvT ns.length ns [0, 1, 2] c i j) a b := by
      rcases h1 with h | h <;> rw [h] <;> rfl
    rw [h3, h2, Int.mul_add, Int.mul_left_comm]
  unfold mom
  rw [show (mvL ns.length ns [0, 1, 2] c i j).length = ns.length from imgT_len _ _ _, sumN_congr e, sumN_add, sumN_mul, hz, Int.mul_zero, Int.add_zero]
end Go.Proofs.YtbpjceffkchmbaaDoor
