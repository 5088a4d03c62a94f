/- Plain laws of images that fill sums: opened and made anew; one cell less; how many cells they have. No condition beyond those that the theorems name. -/
import Derived.Test.YtehoaagnpidnbaaFD
import Derived.Test.YtehoaagnpidnbaaFC
import Derived.Test.YtehoaagnpidnbaaMA
import Derived.Test.YtehoaagnpidnbaaKW
namespace Go.Proofs.Ytehoaagnpidnbaa
/-- What it is to fill. -/
structure Fits (n : Nat) (ns : List Nat) (rs cs : List Int) : Prop where
  V : VImg n ns
  S : Sums rs cs
  h : ns.length = rs.length
  w : n = cs.length
  r : ∀ i, i < ns.length → (rowSums n ns).getD i 0 ≤ rs.getD i 0
  c : ∀ j, j < n → (colSums n ns).getD j 0 ≤ cs.getD j 0
theorem ff_open {W : Int} {rows rs cs : List Int} (h : ffB W rows rs cs = true) : ∃ (n : Nat) (ns : List Nat), W = (n : Int) ∧ rows = casts ns ∧ Fits n ns rs cs := by
  have hsv : svB rs cs = true := by
    cases e : svB rs cs with
    | true => rfl
    | false => rw [ffB_sv e] at h; cases h
  have hva : validB W rows = true := by
    cases e : validB W rows with
    | true => rfl
    | false => rw [ffB_va e] at h; cases h
  obtain ⟨n, ns, rfl, rfl, hV⟩ := validB_yes hva
  have hl : ns.length = rs.length := by
    refine Classical.byContradiction fun e => ?_
    rw [ffB_h (by rw [length_casts]; exact e)] at h
    cases h
  have hw : n = cs.length := by
    refine Classical.byContradiction fun e => ?_
    rw [ffB_w (by omega)] at h
    cases h
  rw [ffB_yes hV hsv hl hw, Bool.and_eq_true, naB_iff, naB_iff, rowSums_len, colSums_len] at h
  exact ⟨n, ns, rfl, rfl, hV, svB_yes hsv, hl, hw, h.1, h.2⟩
theorem ff_of {n : Nat} {ns : List Nat} {rs cs : List Int} (h : Fits n ns rs cs) : ffB n (casts ns) rs cs = true := by
  rw [ffB_yes h.V (svB_of h.S) h.h h.w, Bool.and_eq_true, naB_iff, naB_iff, rowSums_len, colSums_len]
  exact ⟨h.r, h.c⟩
theorem Fits.less {n : Nat} {ns ms : List Nat} {rs cs : List Int} (h : Fits n ns rs cs) (hV : VImg n ms) (hl : ms.length = ns.length) (hs : ∀ i j, cell ms i j = true → cell ns i j = true) : Fits n ms rs cs := by
  have hb : ∀ i j, b2i (cell ms i j) ≤ b2i (cell ns i j) := fun i j => by
    cases e : cell ms i j with
    | false => have := b2i_bd (cell ns i j); simp [b2i] at *; split <;> omega
    | true => rw [hs i j e]; exact Int.le_refl _
  refine ⟨hV, h.S, hl.trans h.h, h.w, fun i hi => ?_, fun j hj => ?_⟩
  · have h1 := h.r i (by omega)
    rw [rowSums_getD hi]
    rw [rowSums_getD (by omega)] at h1
    have := sumN_le (n := n) (f := fun j => b2i (cell ms i j)) (g := fun j => b2i (cell ns i j)) fun k _ => hb i k
    omega
  · have h1 := h.c j hj
    rw [colSums_getD hj] at h1 ⊢
    rw [hl]
    have := sumN_le (n := ns.length) (f := fun i => b2i (cell ms i j)) (g := fun i => b2i (cell ns i j)) fun k _ => hb k j
    omega
theorem Fits.put {n : Nat} {ns : List Nat} {rs cs : List Int} (h : Fits n ns rs cs) {i j : Nat} (hi : i < ns.length) (hj : j < n) : Fits n (putL ns i j false) rs cs :=
  h.less (vimg_putL h.V hi hj false) (length_putL ..) fun a b hc => by
    rw [cell_putL hi] at hc
    by_cases e : a = i ∧ b = j
    · rw [if_pos e] at hc; cases hc
    · rw [if_neg e] at hc; exact hc
theorem many_sum (n : Nat) (ns : List Nat) : mom n ns one = sumN ns.length fun i => sumN n fun j => b2i (cell ns i j) := by
  unfold mom one
  exact sumN_congr fun i _ => sumN_congr fun j _ => by rw [Int.one_mul]
theorem Fits.many {n : Nat} {ns : List Nat} {rs cs : List Int} (h : Fits n ns rs cs) : mom n ns one ≤ fm rs cs := by
  rw [many_sum, h.h, h.w]
  refine cells_le_fm (fun i j => cell ns i j) (fun i hi => ?_) fun j hj => ?_
  · have h1 := h.r i (by rw [h.h]; exact hi)
    rw [rowSums_getD (by rw [h.h]; exact hi)] at h1
    have e := h.w
    subst e
    exact h1
  · have h1 := h.c j (by rw [h.w]; exact hj)
    rw [colSums_getD (by rw [h.w]; exact hj), h.h] at h1
    exact h1
theorem many_bd {n : Nat} {ns : List Nat} (hV : VImg n ns) : 0 ≤ mom n ns one ∧ mom n ns one ≤ 36 := by
  rw [many_sum]
  have h6 := hV.h6
  have w6 := hV.w6
  have h1 : ∀ i, 0 ≤ sumN n (fun j => b2i (cell ns i j)) ∧ sumN n (fun j => b2i (cell ns i j)) ≤ 6 := fun i => by
    have := sumN_bd (n := n) (f := fun j => b2i (cell ns i j)) (c := 1) fun j _ => b2i_bd _
    omega
  have := sumN_bd (n := ns.length) (f := fun i => sumN n fun j => b2i (cell ns i j)) (c := 6) fun i _ => h1 i
  omega
end Go.Proofs.Ytehoaagnpidnbaa
