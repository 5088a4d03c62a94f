/- Plain laws: turning and mirroring keep parts and holes. Conditions: a valid image. -/
import Derived.Test.YtmhbcfnakhgihaaDoorPH2
import Derived.Test.YtmhbcfnakhgihaaDoorMA
namespace Go.Proofs.YtmhbcfnakhgihaaDoor
open Gr
section
variable {T T' : Nat → Nat → Bool} {near : Bool} {h w h' w' : Nat}
theorem parts_map_le (hS : Inside h w T) (hS' : Inside h' w' T') (f g : Nat × Nat → Nat × Nat) (h1 : ∀ a, T a.1 a.2 = true → T' (f a).1 (f a).2 = true) (g1 : ∀ a, T' a.1 a.2 = true → T (g a).1 (g a).2 = true) (hgf : ∀ a, T a.1 a.2 = true → g (f a) = a)
    (hga : ∀ a b, T' a.1 a.2 = true → T' b.1 b.2 = true → Adj near a.1 a.2 b.1 b.2 → Adj near (g a).1 (g a).2 (g b).1 (g b).2) : (firsts T near h w).length ≤ (firsts T' near h' w').length :=
  firsts_map_le hS hS' f h1 fun a a' ha ha' hr => by
    have := Gr.Reach.map g g1 hga (a := f a) (b := f a') (h1 a ha) hr
    rwa [hgf a ha, hgf a' ha'] at this
theorem holes_map_le (hS : Inside h w T) (hS' : Inside h' w' T') (f g : Nat × Nat → Nat × Nat) (h1 : ∀ a, T a.1 a.2 = true → T' (f a).1 (f a).2 = true) (g1 : ∀ a, T' a.1 a.2 = true → T (g a).1 (g a).2 = true) (hgf : ∀ a, T a.1 a.2 = true → g (f a) = a)
    (hga : ∀ a b, T' a.1 a.2 = true → T' b.1 b.2 = true → Adj true a.1 a.2 b.1 b.2 → Adj true (g a).1 (g a).2 (g b).1 (g b).2)
    (hin : ∀ d : Nat × Nat, T' d.1 d.2 = true → (1 ≤ (g d).1 ∧ (g d).1 + 1 < h ∧ 1 ≤ (g d).2 ∧ (g d).2 + 1 < w) → 1 ≤ d.1 ∧ d.1 + 1 < h' ∧ 1 ≤ d.2 ∧ d.2 + 1 < w') :
    ((firsts T true h w).filter (innerB T h w)).length ≤ ((firsts T' true h' w').filter (innerB T' h' w')).length := by
  refine rel_inj_le (fun a c => FirstIn T true a.1 a.2 ∧ Gr.Reach T' true (f a).1 (f a).2 c.1 c.2) _ _ (List.Pairwise.filter _ nodup_firsts) ?_ ?_
  · intro a ha
    obtain ⟨ha, hi⟩ := List.mem_filter.1 ha
    have ha := (mem_firsts hS).1 ha
    have hi := (innerB_iff hS ha.1).1 hi
    have hb := h1 a ha.1
    obtain ⟨k, l, hk, hr⟩ := first_ex (T := T') (near := true) _ _ hb
    refine ⟨(k, l), List.mem_filter.2 ⟨(mem_firsts hS').2 hk, (innerB_iff hS' (c := (k, l)) hk.1).2 fun m n hmn => ?_⟩, ha, hr⟩
    have hfd := hr.trans hmn
    have ht := hfd.mem hb
    have hd := Gr.Reach.map g g1 hga (a := f a) (b := (m, n)) hb hfd
    rw [hgf a ha.1] at hd
    exact hin (m, n) ht (hi _ _ hd)
  · rintro a _ a' _ hne c ⟨ha, hr⟩ ⟨ha', hr'⟩
    have hb := h1 a ha.1
    have h2 := hr.trans (hr'.symm (h1 a' ha'.1))
    have := Gr.Reach.map g g1 hga (a := f a) (b := f a') hb h2
    rw [hgf a ha.1, hgf a' ha'.1] at this
    obtain ⟨e1, e2⟩ := first_same ha ha' this
    exact hne (Prod.ext e1 e2)
end
section
variable {n : Nat} {ns : List Nat}
theorem cell_turnL (hV : VImg n ns) (i j : Nat) : cell (turnL n ns) i j = cell ns j i := by
  unfold turnL
  rw [cell_mk]
  cases hc : cell ns j i with
  | false => simp
  | true => have := (sized_img hV).inside _ _ hc; simp [this.1, this.2]
theorem len_turnL : (turnL n ns).length = n := length_mk _ _ _
theorem len_mirL : (mirL n ns).length = ns.length := length_mk _ _ _
theorem coT_turn (hV : VImg n ns) (i j : Nat) : coT ns.length (turnL n ns) i j = coT n ns j i := by
  unfold coT
  rw [Bool.eq_iff_iff, co_iff, co_iff, len_turnL, cell_turnL hV]
  exact ⟨fun h => ⟨h.2.1, h.1, h.2.2⟩, fun h => ⟨h.2.1, h.1, h.2.2⟩⟩
theorem in_turn (hV : VImg n ns) : Inside n ns.length (cell (turnL n ns)) := fun i j h => by
  rw [cell_turnL hV] at h
  exact ((sized_img hV).inside _ _ h).symm
theorem adj_swap {b : Bool} {i j k l : Nat} (h : Adj b i j k l) : Adj b j i l k := by
  obtain ⟨h1, h2, h3, h4, h5⟩ := h
  exact ⟨h3, h4, h1, h2, by rcases h5 with e | e | e <;> simp [e]⟩
theorem turn_parts (hV : VImg n ns) : partsN ns.length (turnL n ns) = partsN n ns := by
  unfold partsN partsL
  rw [len_turnL]
  have a1 := parts_map_le (near := false) (in_turn hV) (sized_img hV).inside (fun c => (c.2, c.1)) (fun c => (c.2, c.1)) (fun a h => by rw [cell_turnL hV] at h; exact h) (fun a h => by rw [cell_turnL hV]; exact h) (fun a _ => rfl) (fun a b _ _ h => adj_swap h)
  have a2 := parts_map_le (near := false) (sized_img hV).inside (in_turn hV) (fun c => (c.2, c.1)) (fun c => (c.2, c.1)) (fun a h => by rw [cell_turnL hV]; exact h) (fun a h => by rw [cell_turnL hV] at h; exact h) (fun a _ => rfl) (fun a b _ _ h => adj_swap h)
  omega
theorem turn_holes (hV : VImg n ns) : holesN ns.length (turnL n ns) = holesN n ns := by
  unfold holesN holesL
  have hI : Inside n ns.length (coT ns.length (turnL n ns)) := fun i j h => by rw [coT_turn hV] at h; exact (coT_in _ _ h).symm
  rw [len_turnL]
  have a1 := holes_map_le hI coT_in (fun c => (c.2, c.1)) (fun c => (c.2, c.1)) (fun a h => by rw [coT_turn hV] at h; exact h) (fun a h => by rw [coT_turn hV]; exact h) (fun a _ => rfl) (fun a b _ _ h => adj_swap h) (fun d _ h => ⟨h.2.2.1, h.2.2.2, h.1, h.2.1⟩)
  have a2 := holes_map_le coT_in hI (fun c => (c.2, c.1)) (fun c => (c.2, c.1)) (fun a h => by rw [coT_turn hV]; exact h) (fun a h => by rw [coT_turn hV] at h; exact h) (fun a _ => rfl) (fun a b _ _ h => adj_swap h) (fun d _ h => ⟨h.2.2.1, h.2.2.2, h.1, h.2.1⟩)
  omega
theorem cell_mirL (i j : Nat) (hV : VImg n ns) : cell (mirL n ns) i j = (decide (j < n) && cell ns i (n - 1 - j)) := by
  unfold mirL
  rw [cell_mk]
  cases hc : cell ns i (n - 1 - j) with
  | false => simp
  | true => have := (sized_img hV).inside _ _ hc; simp [this.1]
theorem mir_cell (hV : VImg n ns) {i j : Nat} (h : cell ns i j = true) : cell (mirL n ns) i (n - 1 - j) = true := by
  have hi := (sized_img hV).inside _ _ h
  rw [cell_mirL _ _ hV, show n - 1 - (n - 1 - j) = j by omega, h]
  simp
  omega
theorem cell_mir (hV : VImg n ns) {i j : Nat} (h : cell (mirL n ns) i j = true) : cell ns i (n - 1 - j) = true := by
  rw [cell_mirL _ _ hV, Bool.and_eq_true] at h
  exact h.2
theorem in_mir (hV : VImg n ns) : Inside ns.length n (cell (mirL n ns)) := by
  have h := (sized_img (vimg_mir hV)).inside
  rw [len_mirL] at h
  exact h
theorem adj_mir {b : Bool} {i j k l : Nat} (hj : j < n) (hl : l < n) (h : Adj b i j k l) : Adj b i (n - 1 - j) k (n - 1 - l) := by
  obtain ⟨h1, h2, h3, h4, h5⟩ := h
  exact ⟨h1, h2, by omega, by omega, by rcases h5 with e | e | e <;> simp [e]⟩
theorem mir_parts (hV : VImg n ns) : partsN n (mirL n ns) = partsN n ns := by
  unfold partsN partsL
  rw [len_mirL]
  have hI := (sized_img hV).inside
  have hJ := in_mir hV
  have a1 := parts_map_le (near := false) hJ hI (fun c => (c.1, n - 1 - c.2)) (fun c => (c.1, n - 1 - c.2)) (fun a h => cell_mir hV h) (fun a h => mir_cell hV h) (fun a h => by have := hJ _ _ h; exact Prod.ext rfl (by show n - 1 - (n - 1 - a.2) = a.2; omega)) (fun a b ha hb h => adj_mir (hI _ _ ha).2 (hI _ _ hb).2 h)
  have a2 := parts_map_le (near := false) hI hJ (fun c => (c.1, n - 1 - c.2)) (fun c => (c.1, n - 1 - c.2)) (fun a h => mir_cell hV h) (fun a h => cell_mir hV h) (fun a h => by have := hI _ _ h; exact Prod.ext rfl (by show n - 1 - (n - 1 - a.2) = a.2; omega)) (fun a b ha hb h => adj_mir (hJ _ _ ha).2 (hJ _ _ hb).2 h)
  omega
theorem coT_mir (hV : VImg n ns) {i j : Nat} (hj : j < n) : coT n (mirL n ns) i j = coT n ns i (n - 1 - j) := by
  unfold coT
  rw [Bool.eq_iff_iff, co_iff, co_iff, len_mirL, cell_mirL _ _ hV]
  simp [hj]
  intros
  omega
theorem mir_holes (hV : VImg n ns) : holesN n (mirL n ns) = holesN n ns := by
  unfold holesN holesL
  have hI : Inside ns.length n (coT n (mirL n ns)) := fun i j h => by have := coT_in _ _ h; rw [len_mirL] at this; exact this
  have hJ : Inside ns.length n (coT n ns) := coT_in
  rw [len_mirL]
  have m1 : ∀ i j, coT n ns i j = true → coT n (mirL n ns) i (n - 1 - j) = true := fun i j h => by
    have := hJ _ _ h
    rw [coT_mir hV (by omega), show n - 1 - (n - 1 - j) = j by omega]
    exact h
  have m2 : ∀ i j, coT n (mirL n ns) i j = true → coT n ns i (n - 1 - j) = true := fun i j h => by
    have := hI _ _ h
    rw [coT_mir hV this.2] at h
    exact h
  have a1 := holes_map_le hI hJ (fun c => (c.1, n - 1 - c.2)) (fun c => (c.1, n - 1 - c.2)) (fun a h => m2 _ _ h) (fun a h => m1 _ _ h) (fun a h => by have := hI _ _ h; exact Prod.ext rfl (by show n - 1 - (n - 1 - a.2) = a.2; omega)) (fun a b ha hb h => adj_mir (hJ _ _ ha).2 (hJ _ _ hb).2 h) (fun d hd h => by have := hJ _ _ hd; simp only at h; omega)
  have a2 := holes_map_le hJ hI (fun c => (c.1, n - 1 - c.2)) (fun c => (c.1, n - 1 - c.2)) (fun a h => m1 _ _ h) (fun a h => m2 _ _ h) (fun a h => by have := hJ _ _ h; exact Prod.ext rfl (by show n - 1 - (n - 1 - a.2) = a.2; omega)) (fun a b ha hb h => adj_mir (hI _ _ ha).2 (hI _ _ hb).2 h) (fun d hd h => by have := hI _ _ hd; simp only at h; omega)
  omega
end
end Go.Proofs.YtmhbcfnakhgihaaDoor
