/- Plain law, no program in it: the parts and the holes of an image, counted and built by finite search. Conditions: those that each theorem names. -/
import Derived.Test.YtldmilpohappiaaGrid3
import Derived.Test.YtldmilpohappiaaMomPure
namespace Go.Proofs.Ytldmilpohappiaa.Gr

def connB : List (Nat × Nat) → Nat → Nat → Bool
  | [], u, v => u == v
  | e :: E, u, v => connB E u v || (connB E u e.1 && connB E e.2 v) || (connB E u e.2 && connB E e.1 v)
theorem connB_iff (E : List (Nat × Nat)) : ∀ u v, connB E u v = true ↔ Conn E u v := by
  induction E with
  | nil =>
    intro u v
    simp only [connB, beq_iff_eq]
    constructor
    · rintro rfl; exact .refl
    · intro h
      cases h with
      | refl => rfl
      | step _ e => simp at e
  | cons e E ih =>
    intro u v
    obtain ⟨x, y⟩ := e
    rw [Conn.cons_iff]
    simp [connB, ih, or_assoc]
def adjB (near : Bool) (a b : Nat × Nat) : Bool := decide (a.1 ≤ b.1 + 1) && decide (b.1 ≤ a.1 + 1) && decide (a.2 ≤ b.2 + 1) && decide (b.2 ≤ a.2 + 1) && (near || decide (a.1 = b.1) || decide (a.2 = b.2))
theorem adjB_iff {near : Bool} {a b : Nat × Nat} : adjB near a b = true ↔ Adj near a.1 a.2 b.1 b.2 := by
  simp [adjB, Adj, and_assoc, or_assoc]
def pairsL (T : Nat → Nat → Bool) (near : Bool) (h w : Nat) : List (Nat × Nat) :=
  (cellsL h w).flatMap fun a => ((cellsL h w).filter fun b => T a.1 a.2 && T b.1 b.2 && adjB near a b).map fun b => (a.1 * w + a.2, b.1 * w + b.2)
section
variable {T : Nat → Nat → Bool} {near : Bool} {h w : Nat}
theorem mem_pairsL {u v : Nat} : (u, v) ∈ pairsL T near h w ↔ ∃ i j k l, i < h ∧ j < w ∧ k < h ∧ l < w ∧ T i j = true ∧ T k l = true ∧ Adj near i j k l ∧ u = i * w + j ∧ v = k * w + l := by
  unfold pairsL
  simp only [List.mem_flatMap, List.mem_map, List.mem_filter, Bool.and_eq_true, adjB_iff]
  constructor
  · rintro ⟨⟨i, j⟩, ha, ⟨k, l⟩, ⟨hb, ⟨h1, h2⟩, h3⟩, e⟩
    have ha := mem_cellsL.1 ha
    have hb := mem_cellsL.1 hb
    injection e with e1 e2
    exact ⟨i, j, k, l, ha.1, ha.2, hb.1, hb.2, h1, h2, h3, e1.symm, e2.symm⟩
  · rintro ⟨i, j, k, l, h1, h2, h3, h4, t1, t2, ha, rfl, rfl⟩
    exact ⟨(i, j), mem_cellsL.2 ⟨h1, h2⟩, (k, l), ⟨mem_cellsL.2 ⟨h3, h4⟩, ⟨t1, t2⟩, ha⟩, rfl⟩
/-- The set T lies in the rectangle. -/
def Inside (h w : Nat) (T : Nat → Nat → Bool) : Prop := ∀ i j, T i j = true → i < h ∧ j < w
def reachB (T : Nat → Nat → Bool) (near : Bool) (h w i j k l : Nat) : Bool := T i j && decide (k < h) && decide (l < w) && connB (pairsL T near h w) (i * w + j) (k * w + l)
theorem conn_of_reach (hS : Inside h w T) {i j k l : Nat} (ht : T i j = true) (hr : Reach T near i j k l) : Conn (pairsL T near h w) (i * w + j) (k * w + l) := by
  induction hr with
  | refl => exact .refl
  | step hr a t ih =>
    have t0 := hr.mem ht
    have b0 := hS _ _ t0
    have b1 := hS _ _ t
    exact .step ih (.inl (mem_pairsL.2 ⟨_, _, _, _, b0.1, b0.2, b1.1, b1.2, t0, t, a, rfl, rfl⟩))
theorem reach_of_conn {i j v : Nat} (hj : j < w) (ht : T i j = true) (hc : Conn (pairsL T near h w) (i * w + j) v) : ∀ k l, l < w → v = k * w + l → Reach T near i j k l := by
  induction hc with
  | refl =>
    intro k l hl e
    obtain ⟨rfl, rfl⟩ := lin_inj hj hl e
    exact .refl
  | step hc e ih =>
    intro k l hl ev
    rcases e with e | e
    · obtain ⟨a, b, c, d, _, h2, _, h4, t1, t2, hadj, e1, e2⟩ := mem_pairsL.1 e
      have hr := ih a b h2 e1
      obtain ⟨rfl, rfl⟩ := lin_inj hl h4 (ev.symm.trans e2)
      exact hr.step hadj t2
    · obtain ⟨a, b, c, d, _, h2, _, h4, t1, t2, hadj, e1, e2⟩ := mem_pairsL.1 e
      have hr := ih c d h4 e2
      obtain ⟨rfl, rfl⟩ := lin_inj hl h2 (ev.symm.trans e1)
      exact hr.step hadj.symm t1
theorem reachB_iff (hS : Inside h w T) {i j k l : Nat} : reachB T near h w i j k l = true ↔ T i j = true ∧ Reach T near i j k l := by
  simp only [reachB, Bool.and_eq_true, decide_eq_true_eq, connB_iff]
  constructor
  · rintro ⟨⟨⟨ht, hk⟩, hl⟩, hc⟩
    exact ⟨ht, reach_of_conn (hS _ _ ht).2 ht hc k l hl rfl⟩
  · rintro ⟨ht, hr⟩
    have := hS _ _ (hr.mem ht)
    exact ⟨⟨⟨ht, this.1⟩, this.2⟩, conn_of_reach hS ht hr⟩
def earlierB (a b : Nat × Nat) : Bool := decide (a.1 < b.1) || (decide (a.1 = b.1) && decide (a.2 < b.2))
theorem earlierB_iff {a b : Nat × Nat} : earlierB a b = true ↔ Earlier a.1 a.2 b.1 b.2 := by simp [earlierB, Earlier]
/-- The cell is the first one of its part. -/
def firstB (T : Nat → Nat → Bool) (near : Bool) (h w : Nat) (c : Nat × Nat) : Bool := T c.1 c.2 && (cellsL h w).all fun d => !(earlierB d c && T d.1 d.2 && reachB T near h w c.1 c.2 d.1 d.2)
theorem firstB_iff (hS : Inside h w T) (c : Nat × Nat) : firstB T near h w c = true ↔ FirstIn T near c.1 c.2 := by
  simp only [firstB, Bool.and_eq_true, List.all_eq_true, Bool.not_eq_true', ← Bool.not_eq_true, earlierB_iff, reachB_iff hS]
  constructor
  · rintro ⟨ht, ha⟩
    refine ⟨ht, fun k l he hk hr => ?_⟩
    exact ha (k, l) (mem_cellsL.2 (hS _ _ hk)) ⟨⟨he, hk⟩, ht, hr⟩
  · rintro ⟨ht, ha⟩
    exact ⟨ht, fun d _ hd => ha d.1 d.2 hd.1.1 hd.1.2 hd.2.2⟩
/-- The cell's part lies inside. -/
def innerB (T : Nat → Nat → Bool) (h w : Nat) (c : Nat × Nat) : Bool := (cellsL h w).all fun d => !reachB T true h w c.1 c.2 d.1 d.2 || (decide (1 ≤ d.1) && decide (d.1 + 1 < h) && decide (1 ≤ d.2) && decide (d.2 + 1 < w))
theorem innerB_iff (hS : Inside h w T) {c : Nat × Nat} (ht : T c.1 c.2 = true) : innerB T h w c = true ↔ Inner h w T c.1 c.2 := by
  simp only [innerB, List.all_eq_true, Bool.or_eq_true, Bool.not_eq_true', ← Bool.not_eq_true, reachB_iff hS, Bool.and_eq_true, decide_eq_true_eq]
  constructor
  · intro ha k l hr
    rcases ha (k, l) (mem_cellsL.2 (hS _ _ (hr.mem ht))) with h0 | h0
    · exact (h0 ⟨ht, hr⟩).elim
    · exact ⟨h0.1.1.1, h0.1.1.2, h0.1.2, h0.2⟩
  · intro ha d _
    by_cases hr : Reach T true c.1 c.2 d.1 d.2
    · have := ha _ _ hr
      exact .inr ⟨⟨⟨this.1, this.2.1⟩, this.2.2.1⟩, this.2.2.2⟩
    · exact .inl fun hh => hr hh.2
/-- The first cells of all parts, row by row; how many. -/
def firsts (T : Nat → Nat → Bool) (near : Bool) (h w : Nat) : List (Nat × Nat) := (cellsL h w).filter (firstB T near h w)
theorem mem_firsts (hS : Inside h w T) {c : Nat × Nat} : c ∈ firsts T near h w ↔ FirstIn T near c.1 c.2 := by
  unfold firsts
  rw [List.mem_filter, firstB_iff hS, mem_cellsL]
  exact ⟨fun h => h.2, fun h => ⟨hS _ _ h.1, h⟩⟩
theorem nodup_firsts : (firsts T near h w).Nodup := List.Pairwise.filter _ (nodup_cellsL h w)
/-- The part of a cell, as an image. -/
def compL (T : Nat → Nat → Bool) (near : Bool) (h w : Nat) (c : Nat × Nat) : List Nat := mkI h w fun k l => reachB T near h w c.1 c.2 k l
theorem length_comp (c : Nat × Nat) : (compL T near h w c).length = h := length_mk _ _ _
theorem comp_lt (c : Nat × Nat) : ∀ n ∈ compL T near h w c, n < 2 ^ w := mk_lt
theorem cell_comp (hS : Inside h w T) {c : Nat × Nat} (ht : T c.1 c.2 = true) {k l : Nat} : cell (compL T near h w c) k l = true ↔ Reach T near c.1 c.2 k l := by
  unfold compL
  rw [cell_mk]
  simp only [Bool.and_eq_true, decide_eq_true_eq, reachB_iff hS]
  constructor
  · rintro ⟨_, _, hr⟩; exact hr
  · intro hr
    exact ⟨hS _ _ (hr.mem ht), ht, hr⟩
/-- At each first cell that is mapped into a part of T' another part belongs: no more parts than in T'. -/
theorem firsts_le {T' : Nat → Nat → Bool} {near' : Bool} {h' w' : Nat} (hS : Inside h w T) (hS' : Inside h' w' T') (Q : Nat × Nat → Nat × Nat → Prop)
    (h1 : ∀ a, FirstIn T near a.1 a.2 → ∃ b, T' b.1 b.2 = true ∧ Q a b) (h2 : ∀ a a' b b', FirstIn T near a.1 a.2 → FirstIn T near a'.1 a'.2 → Q a b → Q a' b' → T' b.1 b.2 = true → Reach T' near' b.1 b.2 b'.1 b'.2 → Reach T near a.1 a.2 a'.1 a'.2) :
    (firsts T near h w).length ≤ (firsts T' near' h' w').length := by
  refine rel_inj_le (fun a c => FirstIn T near a.1 a.2 ∧ ∃ b, T' b.1 b.2 = true ∧ Q a b ∧ Reach T' near' b.1 b.2 c.1 c.2) _ _ nodup_firsts ?_ ?_
  · intro a ha
    have ha := (mem_firsts hS).1 ha
    obtain ⟨b, hb, hq⟩ := h1 a ha
    obtain ⟨k, l, hk, hr⟩ := first_ex (T := T') (near := near') _ _ hb
    exact ⟨(k, l), (mem_firsts hS').2 hk, ha, b, hb, hq, hr⟩
  · rintro a _ a' _ hne c ⟨ha, b, hb, hq, hr⟩ ⟨ha', b', hb', hq', hr'⟩
    have := h2 a a' b b' ha ha' hq hq' hb (hr.trans (hr'.symm hb'))
    obtain ⟨e1, e2⟩ := first_same ha ha' this
    exact hne (Prod.ext e1 e2)
theorem firsts_map_le {T' : Nat → Nat → Bool} {near' : Bool} {h' w' : Nat} (hS : Inside h w T) (hS' : Inside h' w' T') (f : Nat × Nat → Nat × Nat)
    (h1 : ∀ a, T a.1 a.2 = true → T' (f a).1 (f a).2 = true) (h2 : ∀ a a', T a.1 a.2 = true → T a'.1 a'.2 = true → Reach T' near' (f a).1 (f a).2 (f a').1 (f a').2 → Reach T near a.1 a.2 a'.1 a'.2) :
    (firsts T near h w).length ≤ (firsts T' near' h' w').length :=
  firsts_le hS hS' (fun a b => b = f a) (fun a ha => ⟨f a, h1 a ha.1, rfl⟩) (fun a a' b b' ha ha' e e' _ hr => h2 a a' ha.1 ha'.1 (by subst e e'; exact hr))
end
/-- A way is carried by a map that keeps cells and neighbors. -/
theorem Reach.map {T T' : Nat → Nat → Bool} {near near' : Bool} (f : Nat × Nat → Nat × Nat) (h1 : ∀ a, T a.1 a.2 = true → T' (f a).1 (f a).2 = true)
    (h2 : ∀ a b, T a.1 a.2 = true → T b.1 b.2 = true → Adj near a.1 a.2 b.1 b.2 → Adj near' (f a).1 (f a).2 (f b).1 (f b).2) {a b : Nat × Nat} (ha : T a.1 a.2 = true) (h : Reach T near a.1 a.2 b.1 b.2) : Reach T' near' (f a).1 (f a).2 (f b).1 (f b).2 := by
  have main : ∀ k l, Reach T near a.1 a.2 k l → Reach T' near' (f a).1 (f a).2 (f (k, l)).1 (f (k, l)).2 := by
    intro k l hr
    induction hr with
    | refl => exact .refl
    | step hr hadj t ih => exact .step ih (h2 _ _ (hr.mem ha) t hadj) (h1 _ t)
  exact main b.1 b.2 h
end Go.Proofs.Ytldmilpohappiaa.Gr
