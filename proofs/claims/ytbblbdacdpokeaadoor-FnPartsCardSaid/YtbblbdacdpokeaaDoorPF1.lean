/- Plain laws: the filled image, cell by cell, and image by image. Conditions: a valid image. -/
import Derived.Test.YtbblbdacdpokeaaDoorPH2
namespace Go.Proofs.YtbblbdacdpokeaaDoor
open Gr
/-- The image with its holes filled. -/
def fillL (n : Nat) (ns : List Nat) : List Nat := mkI ns.length n fun i j => cell ns i j || holeB n ns (i, j)
/-- The same, ahead of the cell (k, l). -/
def fillTo (n : Nat) (ns : List Nat) (k l : Nat) : List Nat := mkI ns.length n fun i j => cell ns i j || (holeB n ns (i, j) && (decide (i < k) || (decide (i = k) && decide (j < l))))
section
variable {n : Nat} {ns : List Nat}
theorem cell_fill (i j : Nat) : cell (fillL n ns) i j = (decide (i < ns.length) && decide (j < n) && (cell ns i j || holeB n ns (i, j))) := by
  unfold fillL
  rw [cell_mk]
theorem cell_fillTo (k l i j : Nat) : cell (fillTo n ns k l) i j = (decide (i < ns.length) && decide (j < n) && (cell ns i j || (holeB n ns (i, j) && (decide (i < k) || (decide (i = k) && decide (j < l)))))) := by
  unfold fillTo
  rw [cell_mk]
theorem length_fillTo (k l : Nat) : (fillTo n ns k l).length = ns.length := length_mk _ _ _
theorem sized_fillTo (k l : Nat) : Sized ns.length n (fillTo n ns k l) := sized_mk
theorem vimg_fill (hV : VImg n ns) : VImg n (fillL n ns) := sized_mk.vimg hV.h1 hV.h6 hV.w1 hV.w6
theorem fillTo_zero (hV : VImg n ns) : fillTo n ns 0 0 = ns := by
  refine Sized.ext (sized_fillTo _ _) (sized_img hV) fun i j hi hj => ?_
  rw [cell_fillTo]
  simp [hi, hj]
theorem fillTo_row (k : Nat) : fillTo n ns k n = fillTo n ns (k + 1) 0 := by
  refine Sized.ext (sized_fillTo _ _) (sized_fillTo _ _) fun i j hi hj => ?_
  rw [cell_fillTo, cell_fillTo]
  congr 2
  congr 1
  rw [Bool.eq_iff_iff]
  simp
  omega
theorem fillTo_all : fillTo n ns ns.length 0 = fillL n ns := by
  refine Sized.ext (sized_fillTo _ _) sized_mk fun i j hi hj => ?_
  rw [cell_fillTo]
  unfold fillL
  rw [cell_mk]
  simp [hi]
theorem fillTo_no {k l : Nat} (h : holeB n ns (k, l) = false) : fillTo n ns k (l + 1) = fillTo n ns k l := by
  refine Sized.ext (sized_fillTo _ _) (sized_fillTo _ _) fun i j hi hj => ?_
  rw [cell_fillTo, cell_fillTo]
  by_cases e : i = k ∧ j = l
  · obtain ⟨rfl, rfl⟩ := e
    rw [h]
    simp
  · congr 2
    congr 1
    rw [Bool.eq_iff_iff]
    simp
    omega
theorem fillTo_yes {k l : Nat} (hk : k < ns.length) (hl : l < n) (h : holeB n ns (k, l) = true) : fillTo n ns k (l + 1) = putL (fillTo n ns k l) k l true := by
  refine Sized.ext (sized_fillTo _ _) ((sized_fillTo _ _).put hk hl true) fun i j hi hj => ?_
  rw [cell_putL (by rw [length_fillTo]; exact hk), cell_fillTo, cell_fillTo]
  by_cases e : i = k ∧ j = l
  · rw [if_pos e]
    obtain ⟨rfl, rfl⟩ := e
    simp [hi, hj, h]
  · rw [if_neg e]
    congr 2
    congr 1
    rw [Bool.eq_iff_iff]
    simp
    omega
/-- The filled image, out of the hole images: k of them and m rows of the next. -/
def fillI (n : Nat) (ns : List Nat) (L : List (List Nat)) (k m : Nat) : List Nat := mkI ns.length n fun i j => cell ns i j || (L.take k).any (fun g => cell g i j) || (decide (i < m) && cell (L.getD k []) i j)
theorem cell_fillI (L : List (List Nat)) (k m i j : Nat) : cell (fillI n ns L k m) i j = (decide (i < ns.length) && decide (j < n) && (cell ns i j || (L.take k).any (fun g => cell g i j) || (decide (i < m) && cell (L.getD k []) i j))) := by
  unfold fillI
  rw [cell_mk]
theorem length_fillI (L : List (List Nat)) (k m : Nat) : (fillI n ns L k m).length = ns.length := length_mk _ _ _
theorem sized_fillI (L : List (List Nat)) (k m : Nat) : Sized ns.length n (fillI n ns L k m) := sized_mk
theorem fillI_zero (hV : VImg n ns) (L : List (List Nat)) : fillI n ns L 0 0 = ns := by
  refine Sized.ext (sized_fillI _ _ _) (sized_img hV) fun i j hi hj => ?_
  rw [cell_fillI]
  simp [hi, hj]
theorem fillI_next {L : List (List Nat)} {k : Nat} (hk : k < L.length) : fillI n ns L k ns.length = fillI n ns L (k + 1) 0 := by
  refine Sized.ext (sized_fillI _ _ _) (sized_fillI _ _ _) fun i j hi hj => ?_
  rw [cell_fillI, cell_fillI, List.take_succ_eq_append_getElem hk, List.any_append, List.getD_eq_getElem?_getD, List.getElem?_eq_getElem hk]
  simp [hi, Bool.or_assoc]
theorem holesI_any (hV : VImg n ns) {i j : Nat} (hi : i < ns.length) (hj : j < n) : (holesI n ns).any (fun g => cell g i j) = holeB n ns (i, j) := by
  rw [Bool.eq_iff_iff, List.any_eq_true]
  constructor
  · rintro ⟨g, hg, hc⟩
    unfold holesI allL at hg
    obtain ⟨hg, hin⟩ := List.mem_filter.1 hg
    obtain ⟨c, hm, rfl⟩ := List.mem_map.1 hg
    have hf := (mem_firsts coT_in).1 hm
    have hr := (cell_comp coT_in hf.1).1 hc
    have ht := hr.mem hf.1
    rw [comp_same coT_in (b := (i, j)) hf.1 hr, insideOf_comp coT_in (c := (i, j)) ht hV.w1 hV.h1] at hin
    unfold holeB
    rw [(co_iff.1 ht).2.2, hin]
    rfl
  · intro h
    simp only [holeB, Bool.and_eq_true, Bool.not_eq_true'] at h
    have ht : coT n ns i j = true := co_iff.2 ⟨hi, hj, h.1⟩
    obtain ⟨a, b, hf, hr⟩ := first_ex (T := coT n ns) (near := true) i j ht
    refine ⟨compL (coT n ns) true ns.length n (a, b), ?_, (cell_comp coT_in (c := (a, b)) hf.1).2 (hr.symm ht)⟩
    unfold holesI allL
    refine List.mem_filter.2 ⟨List.mem_map.2 ⟨(a, b), (mem_firsts coT_in).2 hf, rfl⟩, ?_⟩
    rw [comp_same coT_in (a := (a, b)) (b := (i, j)) hf.1 (hr.symm ht), insideOf_comp coT_in (c := (i, j)) ht hV.w1 hV.h1]
    exact h.2
theorem fillI_all (hV : VImg n ns) : fillI n ns (holesI n ns) (holesI n ns).length 0 = fillL n ns := by
  refine Sized.ext (sized_fillI _ _ _) sized_mk fun i j hi hj => ?_
  rw [cell_fillI, cell_fill, List.take_of_length_le (Nat.le_refl _), holesI_any hV hi hj]
  simp
/-- One row more. -/
theorem fillI_step {L : List (List Nat)} {k m : Nat} (hg : Sized ns.length n (L.getD k [])) : fillI n ns L k (m + 1) = (fillI n ns L k m).set m ((fillI n ns L k m).getD m 0 ||| (L.getD k []).getD m 0) := by
  have hc : ∀ i j, i < ns.length → cell (fillI n ns L k (m + 1)) i j = (cell (fillI n ns L k m) i j || (decide (i = m) && cell (L.getD k []) i j)) := fun i j hi => by
    rw [cell_fillI, cell_fillI]
    cases hcg : cell (L.getD k []) i j with
    | false => simp
    | true =>
      have hj := (hg.cell_in hcg).2
      simp only [hi, hj, decide_true, Bool.true_and, Bool.and_true, Bool.or_assoc]
      congr 2
      rw [Bool.eq_iff_iff]
      simp
      omega
  have hgd : ∀ (xs : List Nat) (i : Nat) (h : i < xs.length), xs[i] = xs.getD i 0 := fun xs i h => by rw [List.getD_eq_getElem?_getD, List.getElem?_eq_getElem h]; rfl
  refine List.ext_getElem (by rw [List.length_set, length_fillI, length_fillI]) fun i h1 h2 => ?_
  have hi : i < ns.length := by rw [length_fillI] at h1; exact h1
  rw [List.getElem_set]
  apply Nat.eq_of_testBit_eq
  intro j
  have e1 : (fillI n ns L k (m + 1))[i].testBit j = cell (fillI n ns L k (m + 1)) i j := by rw [hgd]; rfl
  rw [e1, hc i j hi]
  by_cases e : m = i
  · subst e
    rw [if_pos rfl, Nat.testBit_or]
    simp
    rfl
  · rw [if_neg e, hgd]
    have : ¬ i = m := fun h => e h.symm
    simp [this]
    rfl
end
end Go.Proofs.YtbblbdacdpokeaaDoor
