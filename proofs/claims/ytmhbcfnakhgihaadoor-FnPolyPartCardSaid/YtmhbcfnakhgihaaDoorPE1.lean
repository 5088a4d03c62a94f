/- Plain laws: the pairs of set neighbors, counted row by row. Conditions: no cell outside is set. -/
import Derived.Test.YtmhbcfnakhgihaaDoorPH2
namespace Go.Proofs.YtmhbcfnakhgihaaDoor
open Gr
theorem len_filter_flat {α β : Type} (p : β → Bool) (f : α → List β) : ∀ l : List α, ((l.flatMap f).filter p).length = (l.map fun a => ((f a).filter p).length).sum
  | [] => rfl
  | a :: l => by
    rw [List.flatMap_cons, List.filter_append, List.length_append, len_filter_flat p f l]
    simp
theorem filter_last {p : Nat → Bool} {w : Nat} (h : p (w - 1) = false) : ((List.range w).filter p).length = ((List.range (w - 1)).filter p).length := by
  cases w with
  | zero => rfl
  | succ k =>
    rw [Nat.add_sub_cancel] at h ⊢
    rw [List.range_succ, List.filter_append]
    simp [h]
section
variable {h w : Nat} {S : Nat → Nat → Bool}
theorem pairs_h (hw : 0 < w) (hS : Inside h w S) : ((hE h w).filter (both w S)).length = ((cellsL h w).filter fun c => S c.1 c.2 && S c.1 (c.2 + 1)).length := by
  unfold hE cellsL
  rw [len_filter_flat, len_filter_flat]
  congr 1
  refine List.map_congr_left fun i _ => ?_
  rw [List.filter_map, List.length_map, List.filter_map, List.length_map]
  have hl : (fun j => S i j && S i (j + 1)) (w - 1) = false := by
    cases hc : S i (w - 1 + 1) with
    | false => simp [hc]
    | true => have := (hS _ _ hc).2; omega
  have e := filter_last (p := fun j => S i j && S i (j + 1)) hl
  refine Eq.trans ?_ e.symm
  congr 1
  refine List.filter_congr fun j hj => ?_
  have hj := List.mem_range.1 hj
  simp only [Function.comp, both]
  rw [(divmod (i := i) (j := j) (w := w) (by omega)).1, (divmod (i := i) (j := j) (w := w) (by omega)).2, (divmod (i := i) (j := j + 1) (w := w) (by omega)).1, (divmod (i := i) (j := j + 1) (w := w) (by omega)).2]
theorem sum_last (f : Nat → Nat) {k : Nat} (h0 : 0 < k) (h1 : f (k - 1) = 0) : ((List.range k).map f).sum = ((List.range (k - 1)).map f).sum := by
  cases k with
  | zero => omega
  | succ k =>
    rw [Nat.add_sub_cancel] at h1 ⊢
    rw [List.range_succ, List.map_append, List.sum_append]
    simp [h1]
theorem pairs_v (hh : 0 < h) (hS : Inside h w S) : ((vE h w).filter (both w S)).length = ((cellsL h w).filter fun c => S c.1 c.2 && S (c.1 + 1) c.2).length := by
  unfold vE cellsL
  rw [len_filter_flat, len_filter_flat]
  have hz : (fun i => (((List.range w).map fun j => (i, j)).filter fun c : Nat × Nat => S c.1 c.2 && S (c.1 + 1) c.2).length) (h - 1) = 0 := by
    show List.length _ = 0
    rw [List.length_eq_zero_iff, List.filter_eq_nil_iff]
    intro c hc
    obtain ⟨j, _, rfl⟩ := List.mem_map.1 hc
    cases hs : S (h - 1 + 1) j with
    | false => simp [hs]
    | true => have := (hS _ _ hs).1; omega
  refine Eq.trans ?_ (sum_last _ hh hz).symm
  congr 1
  refine List.map_congr_left fun i _ => ?_
  rw [List.filter_map, List.length_map, List.filter_map, List.length_map]
  congr 1
  refine List.filter_congr fun j hj => ?_
  have hj := List.mem_range.1 hj
  simp only [Function.comp, both]
  rw [(divmod (i := i) (j := j) (w := w) (by omega)).1, (divmod (i := i) (j := j) (w := w) (by omega)).2, (divmod (i := i + 1) (j := j) (w := w) (by omega)).1, (divmod (i := i + 1) (j := j) (w := w) (by omega)).2]
theorem sum_b2i {α : Type} (p : α → Bool) : ∀ l : List α, (l.map fun c => b2i (p c)).sum = ((l.filter p).length : Int)
  | [] => rfl
  | a :: l => by
    rw [List.map_cons, List.sum_cons, sum_b2i p l]
    cases hp : p a <;> simp [hp, b2i] <;> omega
/-- What one cell adds to Euler's number. -/
def eulT (S : Nat → Nat → Bool) (c : Nat × Nat) : Int := b2i (S c.1 c.2) - b2i (S c.1 c.2 && S c.1 (c.2 + 1)) - b2i (S c.1 c.2 && S (c.1 + 1) c.2) + b2i (Sq S c)
theorem sum_eulT (S : Nat → Nat → Bool) : ∀ l : List (Nat × Nat), (l.map (eulT S)).sum = (l.map fun c => b2i (S c.1 c.2)).sum - (l.map fun c => b2i (S c.1 c.2 && S c.1 (c.2 + 1))).sum - (l.map fun c => b2i (S c.1 c.2 && S (c.1 + 1) c.2)).sum + (l.map fun c => b2i (Sq S c)).sum
  | [] => rfl
  | a :: l => by
    simp only [List.map_cons, List.sum_cons, sum_eulT S l]
    unfold eulT
    omega
end
/-- Euler's number of an image. -/
def eulN (n : Nat) (ns : List Nat) : Int := ((cellsL ns.length n).map (eulT (cell ns))).sum
theorem eul_parts {n : Nat} {ns : List Nat} (hV : VImg n ns) : eulN n ns = partsN n ns - holesN n ns := by
  have hS := (sized_img hV).inside
  have h1 := Gr.euler hV.h1 hV.w1 hS (firstB (cell ns) false ns.length n) (fun c => holeB n ns c && firstB (coT n ns) true ns.length n c) (fun c => firstB_iff hS c) (fun c => by
    rw [Bool.and_eq_true, firstB_iff coT_in]
    constructor
    · rintro ⟨h1, h2⟩
      simp only [holeB, Bool.and_eq_true] at h1
      exact ⟨h2, (innerB_iff coT_in h2.1).1 h1.2⟩
    · rintro ⟨h1, h2⟩
      refine ⟨?_, h1⟩
      simp only [holeB, Bool.and_eq_true, Bool.not_eq_true']
      exact ⟨(co_iff.1 h1.1).2.2, (innerB_iff coT_in h1.1).2 h2⟩)
  have h2 := pairs_h (w := n) hV.w1 hS
  have h3 := pairs_v (w := n) hV.h1 hS
  unfold aE at h1
  rw [List.filter_append, List.length_append, h2, h3] at h1
  unfold eulN
  rw [sum_eulT, sum_b2i, sum_b2i, sum_b2i, sum_b2i]
  unfold partsN partsL firsts holesN
  rw [holesL_eq]
  omega
end Go.Proofs.YtmhbcfnakhgihaaDoor
