/- Contracts of ImageTurn and ImageMirror. Conditions: the slice reads as a list of integers. -/
import Derived.Test.YtbpjceffkchmbaaDoorK8
import Derived.Test.YtbpjceffkchmbaaDoorK4
import Derived.Test.YtbpjceffkchmbaaDoorMPS
import Derived.Test.YtbpjceffkchmbaaDoorMT
import Derived.Test.YtbpjceffkchmbaaDoorMA
namespace Go.Proofs.YtbpjceffkchmbaaDoor
open Go.RowKit Go.Shelf
attribute [local go_sem] Oper.semAt_some
theorem keepsB {W W1 : World} (hb : Below W.heap.size W W1) : KeepsOthers W W1 := ⟨hb.size, fun k _ hk _ => (hb.block k (Array.getElem?_eq_some_iff.1 hk).1).trans hk⟩
theorem kpB {Bn : Nat} {W W1 : World} (hb : Below W.heap.size W W1) : KpC Bn W W1 := fun _ hv => cellB hb hv
theorem keepsRow {W W1 : World} {g : Nat} {xs : List Int} (hr : Row W g xs) (hg : W.grownBy W1 (some g)) : KeepsOthers W W1 := KeepsOthers.of_grownBy hg (fun j o e ho => by
  cases e
  obtain ⟨sp, h⟩ := hr
  rw [h] at ho
  cases ho
  rfl)
theorem rowKept {A B : World} {g : Nat} {xs : List Int} {row : Option Nat} (h : Row A g xs) (hg : A.grownBy B row) (hr : ∀ r, row = some r → ∃ o : Obj, A.heap[r]? = some o ∧ o.isCells = false) : Row B g xs := by
  refine h.grown hg (fun e => ?_)
  obtain ⟨o, ho, hc⟩ := hr g e.symm
  obtain ⟨sp, h⟩ := h
  rw [h] at ho
  cases ho
  cases hc
/-! ### The rounds, as a fold -/
def stepT (ns : List Nat) (T : Nat × Nat → Nat × Nat) (ms : List Nat) (p : Nat × Nat) : List Nat := if cell ns p.1 p.2 then putL ms (T p).1 (T p).2 (!cell ms (T p).1 (T p).2) else ms
def foldT (ns : List Nat) (T : Nat × Nat → Nat × Nat) (H : Nat) (ps : List (Nat × Nat)) : List Nat := ps.foldl (stepT ns T) (List.replicate H 0)
theorem foldT_snoc (ns : List Nat) (T : Nat × Nat → Nat × Nat) (H : Nat) (ps : List (Nat × Nat)) (p : Nat × Nat) : foldT ns T H (ps ++ [p]) = stepT ns T (foldT ns T H ps) p := by simp [foldT, List.foldl_append]
theorem snoc_ind {α : Type} {C : List α → Prop} (h0 : C []) (h1 : ∀ l x, C l → C (l ++ [x])) : ∀ l, C l := fun l => by
  have : ∀ r : List α, C r.reverse := fun r => by
    induction r with
    | nil => exact h0
    | cons x r ih => rw [List.reverse_cons]; exact h1 _ _ ih
  have := this l.reverse
  rwa [List.reverse_reverse] at this
theorem foldT_length (ns : List Nat) (T : Nat × Nat → Nat × Nat) (H : Nat) (ps : List (Nat × Nat)) : (foldT ns T H ps).length = H := by
  induction ps using snoc_ind with
  | h0 => simp [foldT]
  | h1 l x ih =>
    rw [foldT_snoc]
    unfold stepT
    split
    · rw [length_putL]; exact ih
    · exact ih
theorem foldT_lt (ns : List Nat) (T : Nat × Nat → Nat × Nat) (H W : Nat) (ps : List (Nat × Nat)) (hT : ∀ p ∈ ps, (T p).1 < H ∧ (T p).2 < W) : ∀ n ∈ foldT ns T H ps, n < 2 ^ W := by
  induction ps using snoc_ind with
  | h0 => intro n hn; obtain ⟨_, rfl⟩ := List.mem_replicate.1 hn; exact Nat.two_pow_pos W
  | h1 l x ih =>
    have ih' := ih fun p hp => hT p (List.mem_append_left _ hp)
    rw [foldT_snoc]
    unfold stepT
    have := hT x (by simp)
    split
    · exact putL_lt ih' (by rw [foldT_length]; exact this.1) this.2 _
    · exact ih'
theorem foldT_cell (ns : List Nat) (T : Nat × Nat → Nat × Nat) (H W : Nat) (ps : List (Nat × Nat)) (hT : ∀ p ∈ ps, (T p).1 < H ∧ (T p).2 < W) (hinj : ∀ p ∈ ps, ∀ q ∈ ps, T p = T q → p = q) (hnd : ps.Nodup) (a b : Nat) :
    cell (foldT ns T H ps) a b = true ↔ ∃ p ∈ ps, T p = (a, b) ∧ cell ns p.1 p.2 = true := by
  induction ps using snoc_ind with
  | h0 =>
    simp only [foldT, List.foldl_nil, List.not_mem_nil, false_and, exists_const, iff_false]
    unfold cell
    rw [List.getD_eq_getElem?_getD, List.getElem?_replicate]
    split <;> simp
  | h1 l x ih =>
    rw [List.nodup_append] at hnd
    have ih' := ih (fun p hp => hT p (List.mem_append_left _ hp)) (fun p hp q hq => hinj p (List.mem_append_left _ hp) q (List.mem_append_left _ hq)) hnd.1
    have hx := hT x (by simp)
    have hnx : ¬ ∃ p ∈ l, T p = T x ∧ cell ns p.1 p.2 = true := by
      rintro ⟨p, hp, e, _⟩
      have := hinj p (List.mem_append_left _ hp) x (by simp) e
      exact hnd.2.2 p hp x (by simp) this
    rw [foldT_snoc]
    unfold stepT
    by_cases hc : cell ns x.1 x.2 = true
    · rw [if_pos hc, cell_putL (by rw [foldT_length]; exact hx.1)]
      by_cases e : a = (T x).1 ∧ b = (T x).2
      · rw [if_pos e]
        obtain ⟨rfl, rfl⟩ := e
        have hf : cell (foldT ns T H l) (T x).1 (T x).2 = false := by
          cases hcc : cell (foldT ns T H l) (T x).1 (T x).2 with
          | false => rfl
          | true =>
            have hi : (cell (foldT ns T H l) (T x).1 (T x).2 = true ↔ ∃ p ∈ l, T p = ((T x).1, (T x).2) ∧ cell ns p.1 p.2 = true) := ih'
            exact (hnx (hi.1 hcc)).elim
        rw [hf]
        simp only [Bool.not_false, true_iff]
        exact ⟨x, by simp, rfl, hc⟩
      · rw [if_neg e, ih']
        constructor
        · rintro ⟨p, hp, h⟩; exact ⟨p, List.mem_append_left _ hp, h⟩
        · rintro ⟨p, hp, h1, h2⟩
          rcases List.mem_append.1 hp with hp | hp
          · exact ⟨p, hp, h1, h2⟩
          · simp only [List.mem_singleton] at hp
            subst hp
            rw [h1] at e
            exact (e ⟨rfl, rfl⟩).elim
    · rw [if_neg hc, ih']
      constructor
      · rintro ⟨p, hp, h⟩; exact ⟨p, List.mem_append_left _ hp, h⟩
      · rintro ⟨p, hp, h1, h2⟩
        rcases List.mem_append.1 hp with hp | hp
        · exact ⟨p, hp, h1, h2⟩
        · simp only [List.mem_singleton] at hp
          subst hp
          exact (hc h2).elim
def T_ImageTurn (_w : Nat) (p : Nat × Nat) : Nat × Nat := (p.2, p.1)
def T_ImageMirror (w : Nat) (p : Nat × Nat) : Nat × Nat := (p.1, w - 1 - p.2)
theorem fold_turn {w : Nat} {ns : List Nat} (hv : VImg w ns) : foldT ns (T_ImageTurn w) w (cellsL ns.length w) = turnL w ns := by
  have hT : ∀ p ∈ cellsL ns.length w, (T_ImageTurn w p).1 < w ∧ (T_ImageTurn w p).2 < ns.length := fun p hp => by have := mem_cellsL.1 hp; exact ⟨this.2, this.1⟩
  have hlt := foldT_lt ns (T_ImageTurn w) w ns.length _ hT
  have hc := foldT_cell ns (T_ImageTurn w) w ns.length _ hT (fun p _ q _ e => by simp only [T_ImageTurn, Prod.mk.injEq] at e; exact Prod.ext e.2 e.1) (nodup_cellsL _ _)
  refine img_ext (w := ns.length) (by rw [foldT_length, turnL, length_mk]) hlt mk_lt fun i j hi hj => ?_
  rw [foldT_length] at hi
  unfold turnL
  rw [cell_mk]
  simp only [hi, hj, decide_true, Bool.true_and]
  have h := hc i j
  cases hh : cell ns j i with
  | true => exact h.2 ⟨(j, i), mem_cellsL.2 ⟨hj, hi⟩, rfl, hh⟩
  | false =>
    cases hk : cell (foldT ns (T_ImageTurn w) w (cellsL ns.length w)) i j with
    | false => rfl
    | true =>
      obtain ⟨p, _, e, hp⟩ := h.1 hk
      simp only [T_ImageTurn, Prod.mk.injEq] at e
      rw [e.1, e.2, hh] at hp
      cases hp
theorem fold_mir {w : Nat} {ns : List Nat} (hv : VImg w ns) : foldT ns (T_ImageMirror w) ns.length (cellsL ns.length w) = mirL w ns := by
  have hT : ∀ p ∈ cellsL ns.length w, (T_ImageMirror w p).1 < ns.length ∧ (T_ImageMirror w p).2 < w := fun p hp => by have := mem_cellsL.1 hp; exact ⟨this.1, by simp only [T_ImageMirror]; omega⟩
  have hlt := foldT_lt ns (T_ImageMirror w) ns.length w _ hT
  have hc := foldT_cell ns (T_ImageMirror w) ns.length w _ hT (fun p hp q hq e => by
    have h1 := mem_cellsL.1 hp
    have h2 := mem_cellsL.1 hq
    simp only [T_ImageMirror, Prod.mk.injEq] at e
    exact Prod.ext e.1 (by omega)) (nodup_cellsL _ _)
  refine img_ext (w := w) (by rw [foldT_length, mirL, length_mk]) hlt mk_lt fun i j hi hj => ?_
  rw [foldT_length] at hi
  unfold mirL
  rw [cell_mk]
  simp only [hi, hj, decide_true, Bool.true_and]
  have h := hc i j
  cases hh : cell ns i (w - 1 - j) with
  | true => exact h.2 ⟨(i, w - 1 - j), mem_cellsL.2 ⟨hi, by omega⟩, by simp only [T_ImageMirror, Prod.mk.injEq, true_and]; omega, hh⟩
  | false =>
    cases hk : cell (foldT ns (T_ImageMirror w) ns.length (cellsL ns.length w)) i j with
    | false => rfl
    | true =>
      obtain ⟨p, hpm, e, hp⟩ := h.1 hk
      have h1 := mem_cellsL.1 hpm
      simp only [T_ImageMirror, Prod.mk.injEq] at e
      rw [e.1, show p.2 = w - 1 - j by omega, hh] at hp
      cases hp
end Go.Proofs.YtbpjceffkchmbaaDoor
