/- Plain laws: the row sums and the column sums of a polyomino are positive side by side. Conditions: a valid image of one part. -/
import Derived.Test.YtinjidejhmahmaaDoorPG
namespace Go.Proofs.YtinjidejhmahmaaDoor
open Gr
theorem sumN_pos {p : Nat → Bool} : ∀ {m : Nat}, 0 < sumN m (fun i => b2i (p i)) ↔ ∃ i, i < m ∧ p i = true
  | 0 => by simp [sumN]
  | m + 1 => by
    have ih := sumN_pos (p := p) (m := m)
    have h0 := sumN_nonneg (n := m) (f := fun i => b2i (p i)) fun i _ => (b2i_bd _).1
    have e : sumN (m + 1) (fun i => b2i (p i)) = sumN m (fun i => b2i (p i)) + b2i (p m) := rfl
    rw [e]
    constructor
    · intro h
      cases hp : p m with
      | true => exact ⟨m, by omega, hp⟩
      | false =>
        rw [hp] at h
        have : b2i false = 0 := rfl
        obtain ⟨i, h1, h2⟩ := ih.1 (by omega)
        exact ⟨i, by omega, h2⟩
    · rintro ⟨i, h1, h2⟩
      by_cases e : i = m
      · subst e
        rw [h2]
        have : b2i true = 1 := rfl
        omega
      · have h3 := ih.2 ⟨i, by omega, h2⟩
        have := (b2i_bd (p m)).1
        omega
section
variable {n : Nat} {ns : List Nat}
theorem some_cell (h1 : partsN n ns = 1) : ∃ i j, cell ns i j = true := by
  unfold partsN at h1
  have hl : (partsL n ns).length = 1 := by omega
  obtain ⟨c, hc⟩ : ∃ c, c ∈ partsL n ns := by
    cases h : partsL n ns with
    | nil => rw [h] at hl; simp at hl
    | cons c l => exact ⟨c, by simp⟩
  unfold partsL firsts at hc
  have := (List.mem_filter.1 hc).2
  unfold firstB at this
  simp only [Bool.and_eq_true] at this
  exact ⟨c.1, c.2, this.1⟩
theorem row_pos {i : Nat} (hi : i < ns.length) : 0 < (rowSums n ns).getD i 0 ↔ ∃ j, j < n ∧ cell ns i j = true := by
  rw [rowSums_getD hi]
  exact sumN_pos
theorem col_pos {j : Nat} (hj : j < n) : 0 < (colSums n ns).getD j 0 ↔ ∃ i, i < ns.length ∧ cell ns i j = true := by
  rw [colSums_getD hj]
  exact sumN_pos
theorem rows_one (hV : VImg n ns) (h1 : partsN n ns = 1) : runsB (fun i => decide (0 < (rowSums n ns).getD i 0)) ns.length = 1 := by
  refine group_one hV.h6 (fun a i b ha hb hbl h2 h3 => ?_) ?_
  · obtain ⟨j, hj, hc⟩ := (row_pos (by omega)).1 h2
    obtain ⟨k, hk, hc'⟩ := (row_pos hbl).1 h3
    obtain ⟨l, hl⟩ := reach_row (one_join hV h1 hc hc') hc i (by omega) (by omega)
    exact (row_pos (by omega)).2 ⟨l, (hV.cell_in hl).2, hl⟩
  · obtain ⟨i, j, hc⟩ := some_cell h1
    have hin := hV.cell_in hc
    exact ⟨i, hin.1, (row_pos hin.1).2 ⟨j, hin.2, hc⟩⟩
theorem cols_one (hV : VImg n ns) (h1 : partsN n ns = 1) : runsB (fun i => decide (0 < (colSums n ns).getD i 0)) n = 1 := by
  refine group_one hV.w6 (fun a i b ha hb hbl h2 h3 => ?_) ?_
  · obtain ⟨j, hj, hc⟩ := (col_pos (by omega)).1 h2
    obtain ⟨k, hk, hc'⟩ := (col_pos hbl).1 h3
    obtain ⟨l, hl⟩ := reach_col (one_join hV h1 hc hc') hc i (by omega) (by omega)
    exact (col_pos (by omega)).2 ⟨l, (hV.cell_in hl).1, hl⟩
  · obtain ⟨i, j, hc⟩ := some_cell h1
    have hin := hV.cell_in hc
    exact ⟨j, hin.2, (col_pos hin.2).2 ⟨i, hin.1, hc⟩⟩
theorem rows_nn (i : Nat) : 0 ≤ (rowSums n ns).getD i 0 ∧ (i < ns.length → (rowSums n ns).getD i 0 ≤ n) := by
  by_cases h : i < ns.length
  · rw [rowSums_getD h]
    have := sumN_bd (n := n) (f := fun j => b2i (cell ns i j)) (c := 1) fun j _ => b2i_bd _
    omega
  · have : (rowSums n ns).getD i 0 = 0 := by
      rw [List.getD_eq_getElem?_getD, List.getElem?_eq_none (by simpa [rowSums] using h)]
      rfl
    omega
theorem cols_nn (j : Nat) : 0 ≤ (colSums n ns).getD j 0 ∧ (j < n → (colSums n ns).getD j 0 ≤ ns.length) := by
  by_cases h : j < n
  · rw [colSums_getD h]
    have := sumN_bd (n := ns.length) (f := fun i => b2i (cell ns i j)) (c := 1) fun j _ => b2i_bd _
    omega
  · have : (colSums n ns).getD j 0 = 0 := by
      rw [List.getD_eq_getElem?_getD, List.getElem?_eq_none (by simpa [colSums] using h)]
      rfl
    omega
end
theorem posN_le (xs : List Int) : ∀ k, posN xs k ≤ k
  | 0 => by simp [posN]
  | k + 1 => by
    have := posN_le xs k
    rw [posN_succ]
    split <;> omega
end Go.Proofs.YtinjidejhmahmaaDoor
