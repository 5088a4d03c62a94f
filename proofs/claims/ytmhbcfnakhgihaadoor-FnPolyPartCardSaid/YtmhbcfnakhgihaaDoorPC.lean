/- The law that an image whose rows are convex has no hole. Plain Lean; no condition. -/
import Derived.Test.YtmhbcfnakhgihaaDoorPL5
namespace Go.Proofs.YtmhbcfnakhgihaaDoor
open Gr
/-- Between two set bits all are set. -/
def rowOk (r : Nat) : Prop := ∀ a, a < 6 → ∀ j, j < 6 → ∀ b, b < 6 → a < j → j < b → r.testBit a = true → r.testBit b = true → r.testBit j = true
theorem go_left {n : Nat} {ns : List Nat} {i j : Nat} (hi : i < ns.length) (hj : j < n) (h : ∀ a, a ≤ j → cell ns i a = false) : ∀ k, k ≤ j → Gr.Reach (coT n ns) true i j i (j - k)
  | 0, _ => .refl
  | k + 1, hk => by
    refine (go_left hi hj h k (by omega)).step ⟨by omega, by omega, by omega, by omega, by simp⟩ (co_iff.2 ⟨hi, by omega, h _ (by omega)⟩)
theorem go_right {n : Nat} {ns : List Nat} {i j : Nat} (hi : i < ns.length) (h : ∀ b, j ≤ b → cell ns i b = false) : ∀ k, j + k < n → Gr.Reach (coT n ns) true i j i (j + k)
  | 0, _ => .refl
  | k + 1, hk => by
    refine (go_right hi h k (by omega)).step ⟨by omega, by omega, by omega, by omega, by simp⟩ (co_iff.2 ⟨hi, by omega, h _ (by omega)⟩)
theorem convex_hole {n : Nat} {ns : List Nat} (hV : VImg n ns) (hc : ∀ i, i < ns.length → rowOk (ns.getD i 0)) : holesN n ns = 0 := by
  have w6 := hV.w6
  have e : holesL n ns = [] := by
    rw [holesL_eq, List.filter_eq_nil_iff]
    intro c hm h
    have hm := mem_cellsL.1 hm
    simp only [Bool.and_eq_true, holeB, Bool.not_eq_true'] at h
    have ht : coT n ns c.1 c.2 = true := co_iff.2 ⟨hm.1, hm.2, h.1.1⟩
    have hi := (innerB_iff coT_in ht).1 h.1.2
    by_cases hl : ∀ a, a ≤ c.2 → cell ns c.1 a = false
    · have := (hi _ _ (go_left hm.1 hm.2 hl c.2 (Nat.le_refl _))).2.2.1
      omega
    · by_cases hr : ∀ b, c.2 ≤ b → cell ns c.1 b = false
      · have := (hi _ _ (go_right hm.1 hr (n - 1 - c.2) (by omega))).2.2.2
        omega
      · obtain ⟨a, ha⟩ := Classical.not_forall.1 hl
        obtain ⟨b, hb⟩ := Classical.not_forall.1 hr
        simp only [Classical.not_imp, Bool.not_eq_false] at ha hb
        have hbn := (hV.cell_in hb.2).2
        have na : a ≠ c.2 := fun e => by rw [e, h.1.1] at ha; cases ha.2
        have nb : c.2 ≠ b := fun e => by rw [← e, h.1.1] at hb; cases hb.2
        have hz := hc c.1 hm.1 a (by omega) c.2 (by omega) b (by omega) (by omega) (by omega) ha.2 hb.2
        have hz2 : cell ns c.1 c.2 = true := hz
        rw [h.1.1] at hz2
        cases hz2
  unfold holesN
  rw [e]
  rfl
end Go.Proofs.YtmhbcfnakhgihaaDoor
