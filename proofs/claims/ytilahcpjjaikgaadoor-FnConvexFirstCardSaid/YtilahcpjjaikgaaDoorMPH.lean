/- What holes come to, cell by cell: plain laws. Conditions: those that each theorem names. | Contracts of holes and ImageHoles. Conditions: the slice reads as a list of integers. | Plain laws: the pairs of set neighbors, counted row by row. Conditions: no cell outside is set. | Plain laws: turning and mirroring keep parts and holes. Conditions: a valid image. | The law that an image whose rows are convex has no hole. Plain Lean; no condition. | Plain laws of convex images and of images of one part: no hole; turned and mirrored they are convex; the part is the image. No condition beyond those that the theorems name. -/
import Derived.Test.YtilahcpjjaikgaaDoorMI
import Derived.Test.YtilahcpjjaikgaaDoorMA
import Derived.Test.YtilahcpjjaikgaaDoorML
import Derived.Test.YtilahcpjjaikgaaDoorMX
section
namespace Go.Proofs.YtilahcpjjaikgaaDoor
open Go.RowKit
open Gr
/-- First row, last row, and both sides of the first k rows. -/
def orTo (ms : List Nat) (s : Nat) : Nat → Nat
  | 0 => ms.getD 0 0 ||| ms.getD (ms.length - 1) 0
  | k + 1 => orTo ms s k ||| (ms.getD k 0 &&& s)
theorem orTo_lt {ms : List Nat} {s : Nat} (h : ∀ k, ms.getD k 0 < 64) : ∀ k, orTo ms s k < 64
  | 0 => Nat.or_lt_two_pow (n := 6) (h _) (h _)
  | k + 1 => Nat.or_lt_two_pow (n := 6) (orTo_lt h k) (Nat.lt_of_le_of_lt Nat.and_le_left (h k))
theorem orTo_zero {ms : List Nat} {s : Nat} : ∀ k, orTo ms s k = 0 ↔ ms.getD 0 0 = 0 ∧ ms.getD (ms.length - 1) 0 = 0 ∧ ∀ a, a < k → ms.getD a 0 &&& s = 0
  | 0 => by
    unfold orTo
    rw [Nat.or_eq_zero_iff]
    exact ⟨fun h => ⟨h.1, h.2, fun a ha => by omega⟩, fun h => ⟨h.1, h.2.1⟩⟩
  | k + 1 => by
    unfold orTo
    rw [Nat.or_eq_zero_iff, orTo_zero k]
    refine ⟨fun h => ⟨h.1.1, h.1.2.1, fun a ha => ?_⟩, fun h => ⟨⟨h.1, h.2.1, fun a ha => h.2.2 a (by omega)⟩, h.2.2 k (by omega)⟩⟩
    by_cases e : a = k
    · rw [e]; exact h.2
    · exact h.1.2.2 a (by omega)
theorem and_sides (r n : Nat) : r &&& (1 ||| 2 ^ (n - 1)) = 0 ↔ r.testBit 0 = false ∧ r.testBit (n - 1) = false := by
  constructor
  · intro h
    have h0 := congrArg (fun x => Nat.testBit x 0) h
    have h1 := congrArg (fun x => Nat.testBit x (n - 1)) h
    simp only [Nat.testBit_and, Nat.testBit_or, Nat.zero_testBit] at h0 h1
    rw [show Nat.testBit 1 0 = true from rfl, Bool.true_or, Bool.and_true] at h0
    rw [Nat.testBit_two_pow_self, Bool.or_true, Bool.and_true] at h1
    exact ⟨h0, h1⟩
  · rintro ⟨h0, h1⟩
    apply Nat.eq_of_testBit_eq
    intro i
    rw [Nat.testBit_and, Nat.testBit_or, Nat.zero_testBit, show (1 : Nat) = 2 ^ 0 from rfl, Nat.testBit_two_pow, Nat.testBit_two_pow]
    cases hi : r.testBit i with
    | false => rfl
    | true =>
      have n0 : ¬ 0 = i := fun e => by rw [← e, h0] at hi; cases hi
      have n1 : ¬ n - 1 = i := fun e => by rw [← e, h1] at hi; cases hi
      simp [n0, n1]
theorem orTo_inside (n : Nat) (ms : List Nat) : decide (orTo ms (1 ||| 2 ^ (n - 1)) ms.length = 0) = insideOf n ms := by
  rw [Bool.eq_iff_iff, decide_eq_true_eq, orTo_zero]
  simp only [insideOf, Bool.and_eq_true, List.all_eq_true, List.mem_range, decide_eq_true_eq, Bool.not_eq_true', and_sides]
  exact ⟨fun h => ⟨⟨fun k hk => h.2.2 k hk, h.1⟩, h.2.1⟩, fun h => ⟨h.1.2, h.2, fun a ha => h.1.1 a ha⟩⟩
theorem filter_snoc {p : List Nat → Bool} {L : List (List Nat)} {k : Nat} (hk : k < L.length) : (L.take (k + 1)).filter p = (L.take k).filter p ++ (if p (L.getD k []) = true then [L.getD k []] else []) := by
  rw [List.take_succ_eq_append_getElem hk, List.filter_append, List.getD_eq_getElem?_getD, List.getElem?_eq_getElem hk]
  simp [List.filter_cons]
/-- All holes, as images, in order. -/
def holesI (n : Nat) (ns : List Nat) : List (List Nat) := (allL (coT n ns) true ns.length n).filter (insideOf n)
theorem holesI_len {n : Nat} {ns : List Nat} (hV : VImg n ns) : (holesI n ns).length = (holesL n ns).length := by
  unfold holesI holesL allL
  rw [List.filter_map, List.length_map]
  congr 1
  refine List.filter_congr fun c hc => ?_
  have hf := (mem_firsts coT_in).1 hc
  exact insideOf_comp coT_in hf.1 hV.w1 hV.h1
/-- One image more, of rows that lie anywhere of the call's own. -/
theorem Imgs.snocA {base top gl n h : Nat} {w w' : World} {v : Value} {L : List (List Nat)} {gs : List (Nat × Nat)} {v' : Value} {g c : Nat} {ms : List Nat} (hi : Imgs base top gl w n h v L gs) (hown : OwnP w' base v' ((gs.map fun p => (.int .i64 (n : Int), .slice (some ⟨p.1, 0, none⟩) h p.2)) ++ [(.int .i64 (n : Int), .slice (some ⟨g, 0, none⟩) h c)]))
    (hg : w.grownBy w' v.ownBlock) (hob : v'.ownBlock = v.ownBlock ∨ v'.ownBlock = some w.heap.size) (hr : Row w g (casts ms)) (hgb : base ≤ g) (hgn : ∀ b, v.ownBlock = some b → g ≠ b) (hgl : g ≠ gl) (hgll : gl < w.heap.size) : Imgs base w'.heap.size gl w' n h v' (L ++ [ms]) (gs ++ [(g, c)]) := by
  have hl := hi.len
  refine ⟨by simp [hl], by simpa using hown, fun k hk => ?_, fun b hb => ?_, fun k b hk hb => ?_⟩
  · by_cases e : k < L.length
    · obtain ⟨h1, h2, h3, h4⟩ := hi.rows k e
      have e1 : (gs ++ [(g, c)]).getD k (0, 0) = gs.getD k (0, 0) := by simp [List.getD_eq_getElem?_getD, List.getElem?_append, hl, e]
      have e2 : (L ++ [ms]).getD k [] = L.getD k [] := by simp [List.getD_eq_getElem?_getD, List.getElem?_append, e]
      rw [e1, e2]
      exact ⟨h1.grown hg (fun e3 => hi.dis k _ e e3.symm rfl), h2, Nat.lt_of_lt_of_le h1.lt hg.size, h4⟩
    · have hk2 : k = L.length := by simp at hk; omega
      subst hk2
      have e1 : (gs ++ [(g, c)]).getD L.length (0, 0) = (g, c) := by rw [← hl]; simp [List.getD_eq_getElem?_getD]
      have e2 : (L ++ [ms]).getD L.length [] = ms := by simp [List.getD_eq_getElem?_getD]
      rw [e1, e2]
      exact ⟨hr.grown hg (fun e3 => hgn _ e3.symm rfl), hgb, Nat.lt_of_lt_of_le hr.lt hg.size, hgl⟩
  · have hlt := World.ownsRow.lt hown b hb
    refine ⟨hlt.1, hlt.2, ?_⟩
    rcases hob with hob | hob
    · exact (hi.blk b (hob ▸ hb)).2.2
    · rw [hob] at hb
      injection hb with hb
      omega
  · by_cases e : k < L.length
    · have e1 : (gs ++ [(g, c)]).getD k (0, 0) = gs.getD k (0, 0) := by simp [List.getD_eq_getElem?_getD, List.getElem?_append, hl, e]
      rw [e1]
      rcases hob with hob | hob
      · exact hi.dis k b e (hob ▸ hb)
      · rw [hob] at hb
        injection hb with hb
        have := (hi.rows k e).1.lt
        omega
    · have hk2 : k = L.length := by simp at hk; omega
      subst hk2
      have e1 : (gs ++ [(g, c)]).getD L.length (0, 0) = (g, c) := by rw [← hl]; simp [List.getD_eq_getElem?_getD]
      rw [e1]
      rcases hob with hob | hob
      · exact hgn b (hob ▸ hb)
      · rw [hob] at hb
        injection hb with hb
        have := hr.lt
        show g ≠ b
        omega
end Go.Proofs.YtilahcpjjaikgaaDoor
end

section
namespace Go.Proofs.YtilahcpjjaikgaaDoor
open Go.RowKit
open Gr
theorem groups_o (n : Nat) (v : Value) (ns : List Nat) (hV : VImg n ns) (w : World) (hv : Ints w.heap.size w v (casts (otherL n ns))) :
    Calls Tryd.prog 64 #[.agg #[.int .i64 (n : Int), v], .bool true] w fun e w' => ∃ v' gs, e = .returned v' ∧ Imgs w.heap.size w'.heap.size w'.heap.size w' n ns.length v' (allL (coT n ns) true ns.length n) gs ∧ Below w.heap.size w w' := by
  have h := groups_v true n v (otherL n ns) (vimg_other hV) w hv
  rw [length_other, show cell (otherL n ns) = coT n ns from funext fun i => funext fun j => cell_other (sized_img hV) i j] at h
  exact h
theorem sides_val {n : Nat} (h1 : 1 ≤ n) (h6 : n ≤ 6) : bits .or .i64 1 (wrap64 (2 ^ (n - 1))) = ((1 ||| 2 ^ (n - 1) : Nat) : Int) ∧ 1 ||| 2 ^ (n - 1) < 64 := by
  have hp : 2 ^ (n - 1) < 2 ^ 6 := Nat.pow_lt_pow_right (by omega) (by omega)
  have e := mask_val (w := n - 1) (by omega)
  rw [e]
  refine ⟨i64_or_nat 1 (2 ^ (n - 1)) (by omega) (by omega), Nat.or_lt_two_pow (n := 6) (by omega) hp⟩
end Go.Proofs.YtilahcpjjaikgaaDoor
end

section
namespace Go.Proofs.YtilahcpjjaikgaaDoor
open Gr
theorem len_filter_flat {α β : Type} (p : β → Bool) (f : α → List β) : ∀ l : List α, ((l.flatMap f).filter p).length = (l.map fun a => ((f a).filter p).length).sum
  | [] => rfl
  | a :: l => by
    rw [List.flatMap_cons, List.filter_append, List.length_append, len_filter_flat p f l]
    simp
theorem filter_last {p : Nat → Bool} {w : Nat} (h : p (w - 1) = false) : ((List.range w).filter p).length = ((List.range (w - 1)).filter p).length := by
  cases w with
  | zero => rfl
  | succ k =>
    rw [Nat.add_sub_cancel] at h ⊢
    rw [List.range_succ, List.filter_append]
    simp [h]
section
variable {h w : Nat} {S : Nat → Nat → Bool}
theorem pairs_h (hw : 0 < w) (hS : Inside h w S) : ((hE h w).filter (both w S)).length = ((cellsL h w).filter fun c => S c.1 c.2 && S c.1 (c.2 + 1)).length := by
  unfold hE cellsL
  rw [len_filter_flat, len_filter_flat]
  congr 1
  refine List.map_congr_left fun i _ => ?_
  rw [List.filter_map, List.length_map, List.filter_map, List.length_map]
  have hl : (fun j => S i j && S i (j + 1)) (w - 1) = false := by
    cases hc : S i (w - 1 + 1) with
    | false => simp [hc]
    | true => have := (hS _ _ hc).2; omega
  have e := filter_last (p := fun j => S i j && S i (j + 1)) hl
  refine Eq.trans ?_ e.symm
  congr 1
  refine List.filter_congr fun j hj => ?_
  have hj := List.mem_range.1 hj
  simp only [Function.comp, both]
  rw [(divmod (i := i) (j := j) (w := w) (by omega)).1, (divmod (i := i) (j := j) (w := w) (by omega)).2, (divmod (i := i) (j := j + 1) (w := w) (by omega)).1, (divmod (i := i) (j := j + 1) (w := w) (by omega)).2]
theorem sum_last (f : Nat → Nat) {k : Nat} (h0 : 0 < k) (h1 : f (k - 1) = 0) : ((List.range k).map f).sum = ((List.range (k - 1)).map f).sum := by
  cases k with
  | zero => omega
  | succ k =>
    rw [Nat.add_sub_cancel] at h1 ⊢
    rw [List.range_succ, List.map_append, List.sum_append]
    simp [h1]
theorem pairs_v (hh : 0 < h) (hS : Inside h w S) : ((vE h w).filter (both w S)).length = ((cellsL h w).filter fun c => S c.1 c.2 && S (c.1 + 1) c.2).length := by
  unfold vE cellsL
  rw [len_filter_flat, len_filter_flat]
  have hz : (fun i => (((List.range w).map fun j => (i, j)).filter fun c : Nat × Nat => S c.1 c.2 && S (c.1 + 1) c.2).length) (h - 1) = 0 := by
    show List.length _ = 0
    rw [List.length_eq_zero_iff, List.filter_eq_nil_iff]
    intro c hc
    obtain ⟨j, _, rfl⟩ := List.mem_map.1 hc
    cases hs : S (h - 1 + 1) j with
    | false => simp [hs]
    | true => have := (hS _ _ hs).1; omega
  refine Eq.trans ?_ (sum_last _ hh hz).symm
  congr 1
  refine List.map_congr_left fun i _ => ?_
  rw [List.filter_map, List.length_map, List.filter_map, List.length_map]
  congr 1
  refine List.filter_congr fun j hj => ?_
  have hj := List.mem_range.1 hj
  simp only [Function.comp, both]
  rw [(divmod (i := i) (j := j) (w := w) (by omega)).1, (divmod (i := i) (j := j) (w := w) (by omega)).2, (divmod (i := i + 1) (j := j) (w := w) (by omega)).1, (divmod (i := i + 1) (j := j) (w := w) (by omega)).2]
theorem sum_b2i {α : Type} (p : α → Bool) : ∀ l : List α, (l.map fun c => b2i (p c)).sum = ((l.filter p).length : Int)
  | [] => rfl
  | a :: l => by
    rw [List.map_cons, List.sum_cons, sum_b2i p l]
    cases hp : p a <;> simp [hp, b2i] <;> omega
/-- What one cell adds to Euler's number. -/
def eulT (S : Nat → Nat → Bool) (c : Nat × Nat) : Int := b2i (S c.1 c.2) - b2i (S c.1 c.2 && S c.1 (c.2 + 1)) - b2i (S c.1 c.2 && S (c.1 + 1) c.2) + b2i (Sq S c)
theorem sum_eulT (S : Nat → Nat → Bool) : ∀ l : List (Nat × Nat), (l.map (eulT S)).sum = (l.map fun c => b2i (S c.1 c.2)).sum - (l.map fun c => b2i (S c.1 c.2 && S c.1 (c.2 + 1))).sum - (l.map fun c => b2i (S c.1 c.2 && S (c.1 + 1) c.2)).sum + (l.map fun c => b2i (Sq S c)).sum
  | [] => rfl
  | a :: l => by
    simp only [List.map_cons, List.sum_cons, sum_eulT S l]
    unfold eulT
    omega
end
/-- Euler's number of an image. -/
def eulN (n : Nat) (ns : List Nat) : Int := ((cellsL ns.length n).map (eulT (cell ns))).sum
theorem eul_parts {n : Nat} {ns : List Nat} (hV : VImg n ns) : eulN n ns = partsN n ns - holesN n ns := by
  have hS := (sized_img hV).inside
  have h1 := Gr.euler hV.h1 hV.w1 hS (firstB (cell ns) false ns.length n) (fun c => holeB n ns c && firstB (coT n ns) true ns.length n c) (fun c => firstB_iff hS c) (fun c => by
    rw [Bool.and_eq_true, firstB_iff coT_in]
    constructor
    · rintro ⟨h1, h2⟩
      simp only [holeB, Bool.and_eq_true] at h1
      exact ⟨h2, (innerB_iff coT_in h2.1).1 h1.2⟩
    · rintro ⟨h1, h2⟩
      refine ⟨?_, h1⟩
      simp only [holeB, Bool.and_eq_true, Bool.not_eq_true']
      exact ⟨(co_iff.1 h1.1).2.2, (innerB_iff coT_in h1.1).2 h2⟩)
  have h2 := pairs_h (w := n) hV.w1 hS
  have h3 := pairs_v (w := n) hV.h1 hS
  unfold aE at h1
  rw [List.filter_append, List.length_append, h2, h3] at h1
  unfold eulN
  rw [sum_eulT, sum_b2i, sum_b2i, sum_b2i, sum_b2i]
  unfold partsN partsL firsts holesN
  rw [holesL_eq]
  omega
end Go.Proofs.YtilahcpjjaikgaaDoor
end

section
namespace Go.Proofs.YtilahcpjjaikgaaDoor
open Gr
section
variable {T T' : Nat → Nat → Bool} {near : Bool} {h w h' w' : Nat}
theorem parts_map_le (hS : Inside h w T) (hS' : Inside h' w' T') (f g : Nat × Nat → Nat × Nat) (h1 : ∀ a, T a.1 a.2 = true → T' (f a).1 (f a).2 = true) (g1 : ∀ a, T' a.1 a.2 = true → T (g a).1 (g a).2 = true) (hgf : ∀ a, T a.1 a.2 = true → g (f a) = a)
    (hga : ∀ a b, T' a.1 a.2 = true → T' b.1 b.2 = true → Adj near a.1 a.2 b.1 b.2 → Adj near (g a).1 (g a).2 (g b).1 (g b).2) : (firsts T near h w).length ≤ (firsts T' near h' w').length :=
  firsts_map_le hS hS' f h1 fun a a' ha ha' hr => by
    have := Gr.Reach.map g g1 hga (a := f a) (b := f a') (h1 a ha) hr
    rwa [hgf a ha, hgf a' ha'] at this
theorem holes_map_le (hS : Inside h w T) (hS' : Inside h' w' T') (f g : Nat × Nat → Nat × Nat) (h1 : ∀ a, T a.1 a.2 = true → T' (f a).1 (f a).2 = true) (g1 : ∀ a, T' a.1 a.2 = true → T (g a).1 (g a).2 = true) (hgf : ∀ a, T a.1 a.2 = true → g (f a) = a)
    (hga : ∀ a b, T' a.1 a.2 = true → T' b.1 b.2 = true → Adj true a.1 a.2 b.1 b.2 → Adj true (g a).1 (g a).2 (g b).1 (g b).2)
    (hin : ∀ d : Nat × Nat, T' d.1 d.2 = true → (1 ≤ (g d).1 ∧ (g d).1 + 1 < h ∧ 1 ≤ (g d).2 ∧ (g d).2 + 1 < w) → 1 ≤ d.1 ∧ d.1 + 1 < h' ∧ 1 ≤ d.2 ∧ d.2 + 1 < w') :
    ((firsts T true h w).filter (innerB T h w)).length ≤ ((firsts T' true h' w').filter (innerB T' h' w')).length := by
  refine rel_inj_le (fun a c => FirstIn T true a.1 a.2 ∧ Gr.Reach T' true (f a).1 (f a).2 c.1 c.2) _ _ (List.Pairwise.filter _ nodup_firsts) ?_ ?_
  · intro a ha
    obtain ⟨ha, hi⟩ := List.mem_filter.1 ha
    have ha := (mem_firsts hS).1 ha
    have hi := (innerB_iff hS ha.1).1 hi
    have hb := h1 a ha.1
    obtain ⟨k, l, hk, hr⟩ := first_ex (T := T') (near := true) _ _ hb
    refine ⟨(k, l), List.mem_filter.2 ⟨(mem_firsts hS').2 hk, (innerB_iff hS' (c := (k, l)) hk.1).2 fun m n hmn => ?_⟩, ha, hr⟩
    have hfd := hr.trans hmn
    have ht := hfd.mem hb
    have hd := Gr.Reach.map g g1 hga (a := f a) (b := (m, n)) hb hfd
    rw [hgf a ha.1] at hd
    exact hin (m, n) ht (hi _ _ hd)
  · rintro a _ a' _ hne c ⟨ha, hr⟩ ⟨ha', hr'⟩
    have hb := h1 a ha.1
    have h2 := hr.trans (hr'.symm (h1 a' ha'.1))
    have := Gr.Reach.map g g1 hga (a := f a) (b := f a') hb h2
    rw [hgf a ha.1, hgf a' ha'.1] at this
    obtain ⟨e1, e2⟩ := first_same ha ha' this
    exact hne (Prod.ext e1 e2)
end
section
variable {n : Nat} {ns : List Nat}
theorem cell_turnL (hV : VImg n ns) (i j : Nat) : cell (turnL n ns) i j = cell ns j i := by
  unfold turnL
  rw [cell_mk]
  cases hc : cell ns j i with
  | false => simp
  | true => have := (sized_img hV).inside _ _ hc; simp [this.1, this.2]
theorem len_turnL : (turnL n ns).length = n := length_mk _ _ _
theorem len_mirL : (mirL n ns).length = ns.length := length_mk _ _ _
theorem coT_turn (hV : VImg n ns) (i j : Nat) : coT ns.length (turnL n ns) i j = coT n ns j i := by
  unfold coT
  rw [Bool.eq_iff_iff, co_iff, co_iff, len_turnL, cell_turnL hV]
  exact ⟨fun h => ⟨h.2.1, h.1, h.2.2⟩, fun h => ⟨h.2.1, h.1, h.2.2⟩⟩
theorem in_turn (hV : VImg n ns) : Inside n ns.length (cell (turnL n ns)) := fun i j h => by
  rw [cell_turnL hV] at h
  exact ((sized_img hV).inside _ _ h).symm
theorem adj_swap {b : Bool} {i j k l : Nat} (h : Adj b i j k l) : Adj b j i l k := by
  obtain ⟨h1, h2, h3, h4, h5⟩ := h
  exact ⟨h3, h4, h1, h2, by rcases h5 with e | e | e <;> simp [e]⟩
theorem turn_parts (hV : VImg n ns) : partsN ns.length (turnL n ns) = partsN n ns := by
  unfold partsN partsL
  rw [len_turnL]
  have a1 := parts_map_le (near := false) (in_turn hV) (sized_img hV).inside (fun c => (c.2, c.1)) (fun c => (c.2, c.1)) (fun a h => by rw [cell_turnL hV] at h; exact h) (fun a h => by rw [cell_turnL hV]; exact h) (fun a _ => rfl) (fun a b _ _ h => adj_swap h)
  have a2 := parts_map_le (near := false) (sized_img hV).inside (in_turn hV) (fun c => (c.2, c.1)) (fun c => (c.2, c.1)) (fun a h => by rw [cell_turnL hV]; exact h) (fun a h => by rw [cell_turnL hV] at h; exact h) (fun a _ => rfl) (fun a b _ _ h => adj_swap h)
  omega
theorem turn_holes (hV : VImg n ns) : holesN ns.length (turnL n ns) = holesN n ns := by
  unfold holesN holesL
  have hI : Inside n ns.length (coT ns.length (turnL n ns)) := fun i j h => by rw [coT_turn hV] at h; exact (coT_in _ _ h).symm
  rw [len_turnL]
  have a1 := holes_map_le hI coT_in (fun c => (c.2, c.1)) (fun c => (c.2, c.1)) (fun a h => by rw [coT_turn hV] at h; exact h) (fun a h => by rw [coT_turn hV]; exact h) (fun a _ => rfl) (fun a b _ _ h => adj_swap h) (fun d _ h => ⟨h.2.2.1, h.2.2.2, h.1, h.2.1⟩)
  have a2 := holes_map_le coT_in hI (fun c => (c.2, c.1)) (fun c => (c.2, c.1)) (fun a h => by rw [coT_turn hV]; exact h) (fun a h => by rw [coT_turn hV] at h; exact h) (fun a _ => rfl) (fun a b _ _ h => adj_swap h) (fun d _ h => ⟨h.2.2.1, h.2.2.2, h.1, h.2.1⟩)
  omega
theorem cell_mirL (i j : Nat) (hV : VImg n ns) : cell (mirL n ns) i j = (decide (j < n) && cell ns i (n - 1 - j)) := by
  unfold mirL
  rw [cell_mk]
  cases hc : cell ns i (n - 1 - j) with
  | false => simp
  | true => have := (sized_img hV).inside _ _ hc; simp [this.1]
theorem mir_cell (hV : VImg n ns) {i j : Nat} (h : cell ns i j = true) : cell (mirL n ns) i (n - 1 - j) = true := by
  have hi := (sized_img hV).inside _ _ h
  rw [cell_mirL _ _ hV, show n - 1 - (n - 1 - j) = j by omega, h]
  simp
  omega
theorem cell_mir (hV : VImg n ns) {i j : Nat} (h : cell (mirL n ns) i j = true) : cell ns i (n - 1 - j) = true := by
  rw [cell_mirL _ _ hV, Bool.and_eq_true] at h
  exact h.2
theorem in_mir (hV : VImg n ns) : Inside ns.length n (cell (mirL n ns)) := by
  have h := (sized_img (vimg_mir hV)).inside
  rw [len_mirL] at h
  exact h
theorem adj_mir {b : Bool} {i j k l : Nat} (hj : j < n) (hl : l < n) (h : Adj b i j k l) : Adj b i (n - 1 - j) k (n - 1 - l) := by
  obtain ⟨h1, h2, h3, h4, h5⟩ := h
  exact ⟨h1, h2, by omega, by omega, by rcases h5 with e | e | e <;> simp [e]⟩
theorem mir_parts (hV : VImg n ns) : partsN n (mirL n ns) = partsN n ns := by
  unfold partsN partsL
  rw [len_mirL]
  have hI := (sized_img hV).inside
  have hJ := in_mir hV
  have a1 := parts_map_le (near := false) hJ hI (fun c => (c.1, n - 1 - c.2)) (fun c => (c.1, n - 1 - c.2)) (fun a h => cell_mir hV h) (fun a h => mir_cell hV h) (fun a h => by have := hJ _ _ h; exact Prod.ext rfl (by show n - 1 - (n - 1 - a.2) = a.2; omega)) (fun a b ha hb h => adj_mir (hI _ _ ha).2 (hI _ _ hb).2 h)
  have a2 := parts_map_le (near := false) hI hJ (fun c => (c.1, n - 1 - c.2)) (fun c => (c.1, n - 1 - c.2)) (fun a h => mir_cell hV h) (fun a h => cell_mir hV h) (fun a h => by have := hI _ _ h; exact Prod.ext rfl (by show n - 1 - (n - 1 - a.2) = a.2; omega)) (fun a b ha hb h => adj_mir (hJ _ _ ha).2 (hJ _ _ hb).2 h)
  omega
theorem coT_mir (hV : VImg n ns) {i j : Nat} (hj : j < n) : coT n (mirL n ns) i j = coT n ns i (n - 1 - j) := by
  unfold coT
  rw [Bool.eq_iff_iff, co_iff, co_iff, len_mirL, cell_mirL _ _ hV]
  simp [hj]
  intros
  omega
theorem mir_holes (hV : VImg n ns) : holesN n (mirL n ns) = holesN n ns := by
  unfold holesN holesL
  have hI : Inside ns.length n (coT n (mirL n ns)) := fun i j h => by have := coT_in _ _ h; rw [len_mirL] at this; exact this
  have hJ : Inside ns.length n (coT n ns) := coT_in
  rw [len_mirL]
  have m1 : ∀ i j, coT n ns i j = true → coT n (mirL n ns) i (n - 1 - j) = true := fun i j h => by
    have := hJ _ _ h
    rw [coT_mir hV (by omega), show n - 1 - (n - 1 - j) = j by omega]
    exact h
  have m2 : ∀ i j, coT n (mirL n ns) i j = true → coT n ns i (n - 1 - j) = true := fun i j h => by
    have := hI _ _ h
    rw [coT_mir hV this.2] at h
    exact h
  have a1 := holes_map_le hI hJ (fun c => (c.1, n - 1 - c.2)) (fun c => (c.1, n - 1 - c.2)) (fun a h => m2 _ _ h) (fun a h => m1 _ _ h) (fun a h => by have := hI _ _ h; exact Prod.ext rfl (by show n - 1 - (n - 1 - a.2) = a.2; omega)) (fun a b ha hb h => adj_mir (hJ _ _ ha).2 (hJ _ _ hb).2 h) (fun d hd h => by have := hJ _ _ hd; simp only at h; omega)
  have a2 := holes_map_le hJ hI (fun c => (c.1, n - 1 - c.2)) (fun c => (c.1, n - 1 - c.2)) (fun a h => m1 _ _ h) (fun a h => m2 _ _ h) (fun a h => by have := hJ _ _ h; exact Prod.ext rfl (by show n - 1 - (n - 1 - a.2) = a.2; omega)) (fun a b ha hb h => adj_mir (hI _ _ ha).2 (hI _ _ hb).2 h) (fun d hd h => by have := hI _ _ hd; simp only at h; omega)
  omega
end
end Go.Proofs.YtilahcpjjaikgaaDoor
end

section
namespace Go.Proofs.YtilahcpjjaikgaaDoor
open Gr
/-- Between two set bits all are set. -/
def rowOk (r : Nat) : Prop := ∀ a, a < 6 → ∀ j, j < 6 → ∀ b, b < 6 → a < j → j < b → r.testBit a = true → r.testBit b = true → r.testBit j = true
theorem go_left {n : Nat} {ns : List Nat} {i j : Nat} (hi : i < ns.length) (hj : j < n) (h : ∀ a, a ≤ j → cell ns i a = false) : ∀ k, k ≤ j → Gr.Reach (coT n ns) true i j i (j - k)
  | 0, _ => .refl
  | k + 1, hk => by
    refine (go_left hi hj h k (by omega)).step ⟨by omega, by omega, by omega, by omega, by simp⟩ (co_iff.2 ⟨hi, by omega, h _ (by omega)⟩)
theorem go_right {n : Nat} {ns : List Nat} {i j : Nat} (hi : i < ns.length) (h : ∀ b, j ≤ b → cell ns i b = false) : ∀ k, j + k < n → Gr.Reach (coT n ns) true i j i (j + k)
  | 0, _ => .refl
  | k + 1, hk => by
    refine (go_right hi h k (by omega)).step ⟨by omega, by omega, by omega, by omega, by simp⟩ (co_iff.2 ⟨hi, by omega, h _ (by omega)⟩)
theorem convex_hole {n : Nat} {ns : List Nat} (hV : VImg n ns) (hc : ∀ i, i < ns.length → rowOk (ns.getD i 0)) : holesN n ns = 0 := by
  have w6 := hV.w6
  have e : holesL n ns = [] := by
    rw [holesL_eq, List.filter_eq_nil_iff]
    intro c hm h
    have hm := mem_cellsL.1 hm
    simp only [Bool.and_eq_true, holeB, Bool.not_eq_true'] at h
    have ht : coT n ns c.1 c.2 = true := co_iff.2 ⟨hm.1, hm.2, h.1.1⟩
    have hi := (innerB_iff coT_in ht).1 h.1.2
    by_cases hl : ∀ a, a ≤ c.2 → cell ns c.1 a = false
    · have := (hi _ _ (go_left hm.1 hm.2 hl c.2 (Nat.le_refl _))).2.2.1
      omega
    · by_cases hr : ∀ b, c.2 ≤ b → cell ns c.1 b = false
      · have := (hi _ _ (go_right hm.1 hr (n - 1 - c.2) (by omega))).2.2.2
        omega
      · obtain ⟨a, ha⟩ := Classical.not_forall.1 hl
        obtain ⟨b, hb⟩ := Classical.not_forall.1 hr
        simp only [Classical.not_imp, Bool.not_eq_false] at ha hb
        have hbn := (hV.cell_in hb.2).2
        have na : a ≠ c.2 := fun e => by rw [e, h.1.1] at ha; cases ha.2
        have nb : c.2 ≠ b := fun e => by rw [← e, h.1.1] at hb; cases hb.2
        have hz := hc c.1 hm.1 a (by omega) c.2 (by omega) b (by omega) (by omega) (by omega) ha.2 hb.2
        have hz2 : cell ns c.1 c.2 = true := hz
        rw [h.1.1] at hz2
        cases hz2
  unfold holesN
  rw [e]
  rfl
end Go.Proofs.YtilahcpjjaikgaaDoor
end

section
namespace Go.Proofs.YtilahcpjjaikgaaDoor
open Gr
def okB (r : Nat) : Bool := (List.range 6).all fun a => (List.range 6).all fun j => (List.range 6).all fun b => !(decide (a < j) && decide (j < b) && r.testBit a && r.testBit b) || r.testBit j
theorem okB_runs : ∀ r, r < 64 → runsC r ≤ 1 → okB r = true := by decide +kernel
theorem ok_of_runs (r : Nat) (hr : r < 64) (h : runsC r ≤ 1) : ∀ a, a < 6 → ∀ j, j < 6 → ∀ b, b < 6 → a < j → j < b → r.testBit a = true → r.testBit b = true → r.testBit j = true := by
  have h2 := okB_runs r hr h
  unfold okB at h2
  simp only [List.all_eq_true, List.mem_range] at h2
  intro a ha j hj b hb h3 h4 h5 h6
  have := h2 a ha j hj b hb
  simpa [h3, h4, h5, h6] using this
section
variable {n : Nat} {ns : List Nat}
theorem oneRun_mem {l : List Nat} (h : oneRun l = true) {r : Nat} (hr : r ∈ l) : runsC r ≤ 1 := by
  exact of_decide_eq_true (List.all_eq_true.1 h r hr)
theorem cvx_row (h : cvxB n ns = true) {i : Nat} (hi : i < ns.length) : runsC (ns.getD i 0) ≤ 1 :=
  oneRun_mem h (List.mem_append.2 (.inl (by rw [List.getD_eq_getElem?_getD, List.getElem?_eq_getElem hi]; exact List.getElem_mem hi)))
theorem cvx_holes (hV : VImg n ns) (h : cvxB n ns = true) : holesN n ns = 0 :=
  convex_hole hV fun i hi => ok_of_runs _ (hV.get64 i) (cvx_row h hi)
theorem cvx_euler (hV : VImg n ns) (h : cvxB n ns = true) : eulN n ns = partsN n ns := by
  rw [eul_parts hV, cvx_holes hV h]
  omega
/-- Where there is one part, each set cell's part is the image. -/
theorem one_comp (hV : VImg n ns) (h1 : partsN n ns = 1) {i j : Nat} (hc : cell ns i j = true) : compL (cell ns) false ns.length n (i, j) = ns := by
  have hS := (sized_img hV).inside
  have h2 := firsts_rest (near := false) hS (c := (i, j)) hc
  have h3 : (firsts (cell ns) false ns.length n).length = 1 := by unfold partsN partsL at h1; omega
  rw [h3] at h2
  have hr : Inside ns.length n (cell (restL (cell ns) false ns.length n (i, j))) := fun k l h => hS k l ((cell_rest hS (c := (i, j)) hc).1 h).1
  have h4 := (firsts_zero (near := false) hr).1 (by omega)
  refine Sized.ext (h := ns.length) (w := n) ⟨length_comp _, comp_lt _⟩ (sized_img hV) fun k l _ _ => ?_
  rw [Bool.eq_iff_iff, cell_comp hS (c := (i, j)) hc]
  constructor
  · intro hr
    cases hk : cell ns k l with
    | true => rfl
    | false => exact (by have := Gr.Reach.mem hr hc; rw [hk] at this; exact this)
  · intro hk
    refine Classical.byContradiction fun hn => ?_
    have := (cell_rest hS (c := (i, j)) hc).2 ⟨hk, hn⟩
    rw [h4 k l] at this
    cases this
theorem turn_turn (hV : VImg n ns) : turnL ns.length (turnL n ns) = ns := by
  have h2 := vimg_turn (vimg_turn hV)
  rw [len_turnL] at h2
  refine img_ext len_turnL h2.hi hV.hi fun i j _ _ => ?_
  rw [cell_turnL (vimg_turn hV), cell_turnL hV]
theorem runs_okB : ∀ r, r < 64 → okB r = true → runsC r ≤ 1 := by decide +kernel
theorem runs_of_ok (r : Nat) (hr : r < 64) (h : ∀ a, a < 6 → ∀ j, j < 6 → ∀ b, b < 6 → a < j → j < b → r.testBit a = true → r.testBit b = true → r.testBit j = true) : runsC r ≤ 1 := by
  refine runs_okB r hr ?_
  unfold okB
  simp only [List.all_eq_true, List.mem_range]
  intro a ha j hj b hb
  by_cases h1 : a < j
  · by_cases h2 : j < b
    · cases h3 : r.testBit a with
      | false => simp
      | true =>
        cases h4 : r.testBit b with
        | false => simp
        | true => simp [h a ha j hj b hb h1 h2 h3 h4]
    · simp [h2]
  · simp [h1]
theorem cvx_iff (hV : VImg n ns) : cvxB n ns = true ↔ (∀ i a j b, a < j → j < b → cell ns i a = true → cell ns i b = true → cell ns i j = true) ∧ ∀ j a i b, a < i → i < b → cell ns a j = true → cell ns b j = true → cell ns i j = true := by
  have w6 := hV.w6
  have h6 := hV.h6
  have hl : (turnL n ns).length = n := len_turnL
  constructor
  · intro h
    refine ⟨fun i a j b h1 h2 ha hb => ?_, fun j a i b h1 h2 ha hb => ?_⟩
    · have g1 := hV.cell_in ha
      have g2 := hV.cell_in hb
      exact ok_of_runs _ (hV.get64 i) (cvx_row h g1.1) a (by omega) j (by omega) b (by omega) h1 h2 ha hb
    · have g1 := hV.cell_in ha
      have g2 := hV.cell_in hb
      have hr : runsC ((turnL n ns).getD j 0) ≤ 1 := oneRun_mem h (List.mem_append.2 (.inr (by rw [List.getD_eq_getElem?_getD, List.getElem?_eq_getElem (by omega)]; exact List.getElem_mem _)))
      have := ok_of_runs _ ((vimg_turn hV).get64 j) hr a (by omega) i (by omega) b (by omega) h1 h2 (by have := cell_turnL hV j a; rw [ha] at this; exact this) (by have := cell_turnL hV j b; rw [hb] at this; exact this)
      rw [← cell_turnL hV j i]
      exact this
  · rintro ⟨h1, h2⟩
    refine oneRun_yes fun k hk => ?_
    rw [List.length_append, hl] at hk
    by_cases h : k < ns.length
    · rw [getD_app_l h]
      exact runs_of_ok _ (hV.get64 k) fun a _ j _ b _ haj hjb ha hb => h1 k a j b haj hjb ha hb
    · rw [getD_app_r (by omega)]
      refine runs_of_ok _ ((vimg_turn hV).get64 _) fun a _ j _ b _ haj hjb ha hb => ?_
      have e := fun i => cell_turnL hV (k - ns.length) i
      have := h2 (k - ns.length) a j b haj hjb ((e a).symm.trans ha) ((e b).symm.trans hb)
      exact (e j).trans this
theorem cvx_turn (hV : VImg n ns) (h : cvxB n ns = true) : cvxB ns.length (turnL n ns) = true := by
  obtain ⟨h1, h2⟩ := (cvx_iff hV).1 h
  refine (cvx_iff (vimg_turn hV)).2 ⟨fun i a j b haj hjb ha hb => ?_, fun j a i b hai hib ha hb => ?_⟩
  · rw [cell_turnL hV] at *
    exact h2 i a j b haj hjb ha hb
  · rw [cell_turnL hV] at *
    exact h1 j a i b hai hib ha hb
theorem cvx_mir (hV : VImg n ns) (h : cvxB n ns = true) : cvxB n (mirL n ns) = true := by
  obtain ⟨h1, h2⟩ := (cvx_iff hV).1 h
  refine (cvx_iff (vimg_mir hV)).2 ⟨fun i a j b haj hjb ha hb => ?_, fun j a i b hai hib ha hb => ?_⟩
  · rw [cell_mirL _ _ hV, Bool.and_eq_true, decide_eq_true_eq] at *
    exact ⟨by omega, h1 i (n - 1 - b) (n - 1 - j) (n - 1 - a) (by omega) (by omega) hb.2 ha.2⟩
  · rw [cell_mirL _ _ hV, Bool.and_eq_true, decide_eq_true_eq] at *
    exact ⟨ha.1, h2 (n - 1 - j) a i b hai hib ha.2 hb.2⟩
end
end Go.Proofs.YtilahcpjjaikgaaDoor
end
