/- Plain laws: a filled image has no more parts than the image, and it has some if a cell is set. Conditions: a valid image. -/
import Derived.Test.YtbblbdacdpokeaaDoorPF4
import Derived.Test.YtbblbdacdpokeaaDoorPE1
import Derived.Test.YtbblbdacdpokeaaDoorPartsLaw
import Derived.Test.YtbblbdacdpokeaaDoorKW
namespace Go.Proofs.YtbblbdacdpokeaaDoor
open Gr
section
variable {n : Nat} {ns : List Nat}
theorem fill_in : Inside ns.length n (cell (fillL n ns)) := fun i j h => by
  rw [cell_fill] at h
  simp only [Bool.and_eq_true, decide_eq_true_eq] at h
  exact h.1
theorem fill_sup (hV : VImg n ns) {i j : Nat} (h : cell ns i j = true) : cell (fillL n ns) i j = true := by
  have hin := hV.cell_in h
  rw [cell_fill]
  simp [hin.1, hin.2, h]
/-- Up the column from a cell of the filled image, a set cell is reached. -/
theorem fill_up (hV : VImg n ns) : ∀ i j, cell (fillL n ns) i j = true → ∃ k l, cell ns k l = true ∧ Gr.Reach (cell (fillL n ns)) false i j k l := by
  intro i
  induction i with
  | zero =>
    intro j h
    have hin := fill_in 0 j h
    rw [cell_fill] at h
    simp only [Bool.and_eq_true, decide_eq_true_eq, Bool.or_eq_true] at h
    rcases h.2 with hc | hh
    · exact ⟨0, j, hc, .refl⟩
    · simp only [holeB, Bool.and_eq_true, Bool.not_eq_true'] at hh
      have ht : coT n ns 0 j = true := co_iff.2 ⟨hin.1, hin.2, hh.1⟩
      have := (innerB_iff coT_in (c := (0, j)) ht).1 hh.2 0 j .refl
      omega
  | succ i ih =>
    intro j h
    have hin := fill_in (i + 1) j h
    have h' := h
    rw [cell_fill] at h
    simp only [Bool.and_eq_true, decide_eq_true_eq, Bool.or_eq_true] at h
    rcases h.2 with hc | hh
    · exact ⟨i + 1, j, hc, .refl⟩
    · simp only [holeB, Bool.and_eq_true, Bool.not_eq_true'] at hh
      have ht : coT n ns (i + 1) j = true := co_iff.2 ⟨hin.1, hin.2, hh.1⟩
      have hup : cell (fillL n ns) i j = true := by
        rw [cell_fill]
        have hi : i < ns.length := by omega
        cases hc : cell ns i j with
        | true => simp [hi, hin.2]
        | false =>
          have ht2 : coT n ns i j = true := co_iff.2 ⟨hi, hin.2, hc⟩
          have ha : Adj true (i + 1) j i j := ⟨by omega, by omega, by omega, by omega, .inl rfl⟩
          have hr : Gr.Reach (coT n ns) true (i + 1) j i j := Gr.Reach.step .refl ha ht2
          have := inner_same hV ht hr
          simp only [hi, hin.2, decide_true, Bool.true_and, Bool.false_or, holeB, hc, Bool.not_false]
          exact this.trans hh.2
      obtain ⟨k, l, hk, hr⟩ := ih j hup
      have ha : Adj false (i + 1) j i j := ⟨by omega, by omega, by omega, by omega, .inr (.inr rfl)⟩
      exact ⟨k, l, hk, (Gr.Reach.step .refl ha hup).trans hr⟩
theorem fill_parts (hV : VImg n ns) : partsN n (fillL n ns) ≤ partsN n ns := by
  have hS := (sized_img hV).inside
  have := firsts_le (near := false) (near' := false) (fill_in (n := n) (ns := ns)) hS (fun a b => Gr.Reach (cell (fillL n ns)) false a.1 a.2 b.1 b.2)
    (fun a ha => by
      obtain ⟨k, l, hk, hr⟩ := fill_up hV _ _ ha.1
      exact ⟨(k, l), hk, hr⟩)
    (fun a a' b b' ha ha' hq hq' hb hr => by
      have h1 : Gr.Reach (cell (fillL n ns)) false b.1 b.2 b'.1 b'.2 := hr.mono fun i j h => fill_sup hV h
      exact (hq.trans h1).trans (hq'.symm ha'.1))
  unfold partsN partsL
  rw [length_fill]
  omega
theorem parts_pos (hV : VImg n ns) : 0 < partsN n ns ↔ ∃ i j, cell ns i j = true := by
  have h0 := firsts_zero (near := false) (sized_img hV).inside
  unfold partsN partsL
  constructor
  · intro h
    refine Classical.byContradiction fun hn => ?_
    have := h0.2 fun i j => by
      rw [← Bool.not_eq_true]
      exact fun hc => hn ⟨i, j, hc⟩
    omega
  · rintro ⟨i, j, hc⟩
    have : (firsts (cell ns) false ns.length n).length ≠ 0 := fun e => by
      have := h0.1 e i j
      rw [hc] at this
      cases this
    omega
theorem fill_some (hV : VImg n ns) : 0 < partsN n (fillL n ns) ↔ ∃ i j, cell ns i j = true := by
  rw [parts_pos (vimg_fill hV)]
  constructor
  · rintro ⟨i, j, h⟩
    obtain ⟨k, l, hk, _⟩ := fill_up hV i j h
    exact ⟨k, l, hk⟩
  · rintro ⟨i, j, h⟩
    exact ⟨i, j, fill_sup hV h⟩
end
theorem sumN_ge {n J : Nat} {f : Nat → Int} (h0 : ∀ k, k < n → 0 ≤ f k) (hJ : J < n) : f J ≤ sumN n f := by
  induction n with
  | zero => omega
  | succ n ih =>
    simp only [sumN]
    have h1 := h0 n (by omega)
    by_cases e : J = n
    · subst e
      have := sumN_nonneg (n := J) (f := f) fun k hk => h0 k (by omega)
      omega
    · have := ih (fun k hk => h0 k (by omega)) (by omega)
      omega
theorem many_gt {w : Nat} {ns : List Nat} {i j : Nat} (hV : VImg w ns) (hc : cell ns i j = true) : 0 < mom w ns one := by
  have hin := hV.cell_in hc
  unfold mom
  have h1 := sumN_ge (n := w) (J := j) (f := fun j => one i j * b2i (cell ns i j)) (fun k _ => by unfold one; have := b2i_bd (cell ns i k); omega) hin.2
  have h2 := sumN_ge (n := ns.length) (J := i) (f := fun i => sumN w fun j => one i j * b2i (cell ns i j)) (fun k _ => sumN_nonneg fun l _ => by unfold one; have := b2i_bd (cell ns k l); omega) hin.1
  have e : one i j * b2i (cell ns i j) = 1 := by rw [hc]; rfl
  have h1' : one i j * b2i (cell ns i j) ≤ sumN w fun j => one i j * b2i (cell ns i j) := h1
  have h2' : (sumN w fun j => one i j * b2i (cell ns i j)) ≤ sumN ns.length fun i => sumN w fun j => one i j * b2i (cell ns i j) := h2
  omega
theorem many_iff {n : Nat} {ns : List Nat} (hV : VImg n ns) : 0 < mom n ns one ↔ ∃ i j, cell ns i j = true := by
  constructor
  · intro h
    refine Classical.byContradiction fun hn => ?_
    have h0 : mom n ns one = 0 := by
      unfold mom
      rw [sumN_congr (g := fun _ => 0) fun i _ => ?_, sumN_zero]
      rw [sumN_congr (g := fun _ => 0) fun j _ => ?_, sumN_zero]
      have : cell ns i j = false := by
        rw [← Bool.not_eq_true]
        exact fun hc => hn ⟨i, j, hc⟩
      rw [this]
      simp [b2i]
    omega
  · rintro ⟨i, j, hc⟩
    exact many_gt hV hc
end Go.Proofs.YtbblbdacdpokeaaDoor
