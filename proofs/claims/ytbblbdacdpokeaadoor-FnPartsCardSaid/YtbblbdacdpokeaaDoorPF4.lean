/- Plain laws: a filled image has no holes, and filling it changes nothing. Conditions: a valid image. -/
import Derived.Test.YtbblbdacdpokeaaDoorPF1
namespace Go.Proofs.YtbblbdacdpokeaaDoor
open Gr
section
variable {n : Nat} {ns : List Nat}
theorem length_fill : (fillL n ns).length = ns.length := length_mk _ _ _
theorem inner_same (hV : VImg n ns) {i j k l : Nat} (ht : coT n ns i j = true) (hr : Gr.Reach (coT n ns) true i j k l) : innerB (coT n ns) ns.length n (k, l) = innerB (coT n ns) ns.length n (i, j) := by
  rw [← insideOf_comp coT_in (c := (k, l)) (hr.mem ht) hV.w1 hV.h1, ← insideOf_comp coT_in (c := (i, j)) ht hV.w1 hV.h1, comp_same coT_in (a := (i, j)) (b := (k, l)) ht hr]
theorem fill_no_hole (hV : VImg n ns) {i j : Nat} (hi : i < ns.length) (hj : j < n) : holeB n (fillL n ns) (i, j) = false := by
  rw [← Bool.not_eq_true]
  intro h
  simp only [holeB, Bool.and_eq_true, Bool.not_eq_true'] at h
  obtain ⟨hc, hin⟩ := h
  have ht2 : coT n (fillL n ns) i j = true := co_iff.2 ⟨by rw [length_fill]; exact hi, hj, hc⟩
  have hin2 := (innerB_iff coT_in (c := (i, j)) ht2).1 hin
  rw [cell_fill] at hc
  simp only [hi, hj, decide_true, Bool.true_and, Bool.or_eq_false_iff] at hc
  have ht : coT n ns i j = true := co_iff.2 ⟨hi, hj, hc.1⟩
  have hni : innerB (coT n ns) ns.length n (i, j) = false := by
    have := hc.2
    unfold holeB at this
    rw [hc.1] at this
    simpa using this
  have key : ∀ k l, Gr.Reach (coT n ns) true i j k l → Gr.Reach (coT n (fillL n ns)) true i j k l := by
    intro k l hr
    induction hr with
    | refl => exact .refl
    | step hr ha t ih =>
      rename_i k l a b
      refine .step ih ha ?_
      have hrr := Gr.Reach.step hr ha t
      have hab := co_iff.1 t
      refine co_iff.2 ⟨by rw [length_fill]; exact hab.1, hab.2.1, ?_⟩
      rw [cell_fill]
      simp only [hab.1, hab.2.1, hab.2.2, decide_true, Bool.true_and, Bool.false_or, holeB]
      rw [inner_same hV ht hrr, hni]
      rfl
  rw [← Bool.not_eq_true] at hni
  refine hni ((innerB_iff coT_in (c := (i, j)) ht).2 fun k l hr => ?_)
  have := hin2 k l (key k l hr)
  rw [length_fill] at this
  exact this
theorem fill_fill (hV : VImg n ns) : fillL n (fillL n ns) = fillL n ns := by
  refine Sized.ext (h := ns.length) (w := n) (by have h : Sized (fillL n ns).length n (fillL n (fillL n ns)) := sized_mk; rw [length_fill] at h; exact h) sized_mk fun i j hi hj => ?_
  rw [cell_fill (ns := fillL n ns), fill_no_hole hV hi hj, length_fill]
  simp [hi, hj]
theorem fill_holes (hV : VImg n ns) : holesN n (fillL n ns) = 0 := by
  unfold holesN
  rw [holesL_eq, length_fill]
  have : ((cellsL ns.length n).filter fun c => holeB n (fillL n ns) c && firstB (coT n (fillL n ns)) true ns.length n c) = [] := by
    rw [List.filter_eq_nil_iff]
    intro c hc
    have hm := mem_cellsL.1 hc
    rw [fill_no_hole hV hm.1 hm.2]
    simp
  rw [this]
  rfl
end
end Go.Proofs.YtbblbdacdpokeaaDoor
