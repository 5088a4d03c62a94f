/- Plain laws of convex images and of images of one part: no hole; turned and mirrored they are convex; the part is the image. No condition beyond those that the theorems name. -/
import Derived.Test.YtmhbcfnakhgihaaDoorPC
import Derived.Test.YtmhbcfnakhgihaaDoorET
import Derived.Test.YtmhbcfnakhgihaaDoorPE1
import Derived.Test.YtmhbcfnakhgihaaDoorMA
import Derived.Test.YtmhbcfnakhgihaaDoorMX
namespace Go.Proofs.YtmhbcfnakhgihaaDoor
open Gr
def okB (r : Nat) : Bool := (List.range 6).all fun a => (List.range 6).all fun j => (List.range 6).all fun b => !(decide (a < j) && decide (j < b) && r.testBit a && r.testBit b) || r.testBit j
theorem okB_runs : ∀ r, r < 64 → runsC r ≤ 1 → okB r = true := by decide +kernel
theorem ok_of_runs (r : Nat) (hr : r < 64) (h : runsC r ≤ 1) : ∀ a, a < 6 → ∀ j, j < 6 → ∀ b, b < 6 → a < j → j < b → r.testBit a = true → r.testBit b = true → r.testBit j = true := by
  have h2 := okB_runs r hr h
  unfold okB at h2
  simp only [List.all_eq_true, List.mem_range] at h2
  intro a ha j hj b hb h3 h4 h5 h6
  have := h2 a ha j hj b hb
  simpa [h3, h4, h5, h6] using this
section
variable {n : Nat} {ns : List Nat}
theorem oneRun_mem {l : List Nat} (h : oneRun l = true) {r : Nat} (hr : r ∈ l) : runsC r ≤ 1 := by
  exact of_decide_eq_true (List.all_eq_true.1 h r hr)
theorem cvx_row (h : cvxB n ns = true) {i : Nat} (hi : i < ns.length) : runsC (ns.getD i 0) ≤ 1 :=
  oneRun_mem h (List.mem_append.2 (.inl (by rw [List.getD_eq_getElem?_getD, List.getElem?_eq_getElem hi]; exact List.getElem_mem hi)))
theorem cvx_holes (hV : VImg n ns) (h : cvxB n ns = true) : holesN n ns = 0 :=
  convex_hole hV fun i hi => ok_of_runs _ (hV.get64 i) (cvx_row h hi)
theorem cvx_euler (hV : VImg n ns) (h : cvxB n ns = true) : eulN n ns = partsN n ns := by
  rw [eul_parts hV, cvx_holes hV h]
  omega
/-- Where there is one part, each set cell's part is the image. -/
theorem one_comp (hV : VImg n ns) (h1 : partsN n ns = 1) {i j : Nat} (hc : cell ns i j = true) : compL (cell ns) false ns.length n (i, j) = ns := by
  have hS := (sized_img hV).inside
  have h2 := firsts_rest (near := false) hS (c := (i, j)) hc
  have h3 : (firsts (cell ns) false ns.length n).length = 1 := by unfold partsN partsL at h1; omega
  rw [h3] at h2
  have hr : Inside ns.length n (cell (restL (cell ns) false ns.length n (i, j))) := fun k l h => hS k l ((cell_rest hS (c := (i, j)) hc).1 h).1
  have h4 := (firsts_zero (near := false) hr).1 (by omega)
  refine Sized.ext (h := ns.length) (w := n) ⟨length_comp _, comp_lt _⟩ (sized_img hV) fun k l _ _ => ?_
  rw [Bool.eq_iff_iff, cell_comp hS (c := (i, j)) hc]
  constructor
  · intro hr
    cases hk : cell ns k l with
    | true => rfl
    | false => exact (by have := Gr.Reach.mem hr hc; rw [hk] at this; exact this)
  · intro hk
    refine Classical.byContradiction fun hn => ?_
    have := (cell_rest hS (c := (i, j)) hc).2 ⟨hk, hn⟩
    rw [h4 k l] at this
    cases this
theorem turn_turn (hV : VImg n ns) : turnL ns.length (turnL n ns) = ns := by
  have h2 := vimg_turn (vimg_turn hV)
  rw [len_turnL] at h2
  refine img_ext len_turnL h2.hi hV.hi fun i j _ _ => ?_
  rw [cell_turnL (vimg_turn hV), cell_turnL hV]
theorem runs_okB : ∀ r, r < 64 → okB r = true → runsC r ≤ 1 := by decide +kernel
theorem runs_of_ok (r : Nat) (hr : r < 64) (h : ∀ a, a < 6 → ∀ j, j < 6 → ∀ b, b < 6 → a < j → j < b → r.testBit a = true → r.testBit b = true → r.testBit j = true) : runsC r ≤ 1 := by
  refine runs_okB r hr ?_
  unfold okB
  simp only [List.all_eq_true, List.mem_range]
  intro a ha j hj b hb
  by_cases h1 : a < j
  · by_cases h2 : j < b
    · cases h3 : r.testBit a with
      | false => simp
      | true =>
        cases h4 : r.testBit b with
        | false => simp
        | true => simp [h a ha j hj b hb h1 h2 h3 h4]
    · simp [h2]
  · simp [h1]
theorem cvx_iff (hV : VImg n ns) : cvxB n ns = true ↔ (∀ i a j b, a < j → j < b → cell ns i a = true → cell ns i b = true → cell ns i j = true) ∧ ∀ j a i b, a < i → i < b → cell ns a j = true → cell ns b j = true → cell ns i j = true := by
  have w6 := hV.w6
  have h6 := hV.h6
  have hl : (turnL n ns).length = n := len_turnL
  constructor
  · intro h
    refine ⟨fun i a j b h1 h2 ha hb => ?_, fun j a i b h1 h2 ha hb => ?_⟩
    · have g1 := hV.cell_in ha
      have g2 := hV.cell_in hb
      exact ok_of_runs _ (hV.get64 i) (cvx_row h g1.1) a (by omega) j (by omega) b (by omega) h1 h2 ha hb
    · have g1 := hV.cell_in ha
      have g2 := hV.cell_in hb
      have hr : runsC ((turnL n ns).getD j 0) ≤ 1 := oneRun_mem h (List.mem_append.2 (.inr (by rw [List.getD_eq_getElem?_getD, List.getElem?_eq_getElem (by omega)]; exact List.getElem_mem _)))
      have := ok_of_runs _ ((vimg_turn hV).get64 j) hr a (by omega) i (by omega) b (by omega) h1 h2 (by have := cell_turnL hV j a; rw [ha] at this; exact this) (by have := cell_turnL hV j b; rw [hb] at this; exact this)
      rw [← cell_turnL hV j i]
      exact this
  · rintro ⟨h1, h2⟩
    refine oneRun_yes fun k hk => ?_
    rw [List.length_append, hl] at hk
    by_cases h : k < ns.length
    · rw [getD_app_l h]
      exact runs_of_ok _ (hV.get64 k) fun a _ j _ b _ haj hjb ha hb => h1 k a j b haj hjb ha hb
    · rw [getD_app_r (by omega)]
      refine runs_of_ok _ ((vimg_turn hV).get64 _) fun a _ j _ b _ haj hjb ha hb => ?_
      have e := fun i => cell_turnL hV (k - ns.length) i
      have := h2 (k - ns.length) a j b haj hjb ((e a).symm.trans ha) ((e b).symm.trans hb)
      exact (e j).trans this
theorem cvx_turn (hV : VImg n ns) (h : cvxB n ns = true) : cvxB ns.length (turnL n ns) = true := by
  obtain ⟨h1, h2⟩ := (cvx_iff hV).1 h
  refine (cvx_iff (vimg_turn hV)).2 ⟨fun i a j b haj hjb ha hb => ?_, fun j a i b hai hib ha hb => ?_⟩
  · rw [cell_turnL hV] at *
    exact h2 i a j b haj hjb ha hb
  · rw [cell_turnL hV] at *
    exact h1 j a i b hai hib ha hb
theorem cvx_mir (hV : VImg n ns) (h : cvxB n ns = true) : cvxB n (mirL n ns) = true := by
  obtain ⟨h1, h2⟩ := (cvx_iff hV).1 h
  refine (cvx_iff (vimg_mir hV)).2 ⟨fun i a j b haj hjb ha hb => ?_, fun j a i b hai hib ha hb => ?_⟩
  · rw [cell_mirL _ _ hV, Bool.and_eq_true, decide_eq_true_eq] at *
    exact ⟨by omega, h1 i (n - 1 - b) (n - 1 - j) (n - 1 - a) (by omega) (by omega) hb.2 ha.2⟩
  · rw [cell_mirL _ _ hV, Bool.and_eq_true, decide_eq_true_eq] at *
    exact ⟨ha.1, h2 (n - 1 - j) a i b hai hib ha.2 hb.2⟩
end
end Go.Proofs.YtmhbcfnakhgihaaDoor
