/- Plain law, no program in it: Euler's number of an image is the number of its parts less that of its holes (the second side: the corners). Conditions: at least one row and one column. -/
import Derived.Test.YtldmilpohappiaaGrid2
namespace Go.Proofs.Ytldmilpohappiaa.Gr

/-- The cells that are there and not set. -/
def Co (h w : Nat) (S : Nat → Nat → Bool) (i j : Nat) : Bool := decide (i < h) && decide (j < w) && !S i j
theorem co_iff {h w : Nat} {S : Nat → Nat → Bool} {i j : Nat} : Co h w S i j = true ↔ i < h ∧ j < w ∧ S i j = false := by
  simp [Co, and_assoc]
/-- A cell from which only inner cells are reached. -/
def Inner (h w : Nat) (T : Nat → Nat → Bool) (i j : Nat) : Prop := ∀ k l, Reach T true i j k l → 1 ≤ k ∧ k + 1 < h ∧ 1 ≤ l ∧ l + 1 < w
/-- The first cell of a hole. -/
def HoleFirst (h w : Nat) (S : Nat → Nat → Bool) (i j : Nat) : Prop := FirstIn (Co h w S) true i j ∧ Inner h w (Co h w S) i j
/-- A square of four set cells. -/
def Sq (S : Nat → Nat → Bool) (c : Nat × Nat) : Bool := S c.1 c.2 && S c.1 (c.2 + 1) && S (c.1 + 1) c.2 && S (c.1 + 1) (c.2 + 1)

section
variable {h w : Nat} {S : Nat → Nat → Bool}

/-- The sides between two cells that are not both set. -/
def dE (h w : Nat) (S : Nat → Nat → Bool) : List (Nat × Nat) := ((aE h w).filter fun e => !both w S e).map (·.2)

/-- A side of dE: its two corners, and a cell that is not set and has both. -/
theorem mem_dE {a b : Nat} (hm : (a, b) ∈ dE h w S) : ∃ i j k l m n, a = cx h w i j ∧ b = cx h w k l ∧ Co h w S m n = true ∧
    (i = m ∨ i = m + 1) ∧ (j = n ∨ j = n + 1) ∧ (k = m ∨ k = m + 1) ∧ (l = n ∨ l = n + 1) := by
  obtain ⟨e, he, hab⟩ := List.mem_map.1 hm
  obtain ⟨he, hb⟩ := List.mem_filter.1 he
  rcases List.mem_append.1 he with he | he
  · obtain ⟨i, j, hi, hj, rfl⟩ := mem_hE.1 he
    rw [both_h hj] at hb
    injection hab with h1 h2
    cases hs : S i j with
    | false => exact ⟨i, j + 1, i + 1, j + 1, i, j, h1.symm, h2.symm, co_iff.2 ⟨hi, by omega, hs⟩, by omega, by omega, by omega, by omega⟩
    | true =>
      rw [hs] at hb
      exact ⟨i, j + 1, i + 1, j + 1, i, j + 1, h1.symm, h2.symm, co_iff.2 ⟨hi, hj, by simpa using hb⟩, by omega, by omega, by omega, by omega⟩
  · obtain ⟨i, j, hi, hj, rfl⟩ := mem_vE.1 he
    rw [both_v hj] at hb
    injection hab with h1 h2
    cases hs : S i j with
    | false => exact ⟨i + 1, j, i + 1, j + 1, i, j, h1.symm, h2.symm, co_iff.2 ⟨by omega, hj, hs⟩, by omega, by omega, by omega, by omega⟩
    | true =>
      rw [hs] at hb
      exact ⟨i + 1, j, i + 1, j + 1, i + 1, j, h1.symm, h2.symm, co_iff.2 ⟨hi, hj, by simpa using hb⟩, by omega, by omega, by omega, by omega⟩

/-- All corners of a cell that is not set are tied. -/
theorem corners_tied {m n : Nat} (hc : Co h w S m n = true) : ∀ i j k l, (i = m ∨ i = m + 1) → (j = n ∨ j = n + 1) → (k = m ∨ k = m + 1) → (l = n ∨ l = n + 1) → Conn (dE h w S) (cx h w i j) (cx h w k l) := by
  obtain ⟨hm, hn, hs⟩ := co_iff.1 hc
  have inE : ∀ e : DE, e ∈ aE h w → both w S e = false → e.2 ∈ dE h w S := fun e h1 h2 => List.mem_map.2 ⟨e, List.mem_filter.2 ⟨h1, by rw [h2]; rfl⟩, rfl⟩
  have top : Conn (dE h w S) (cx h w m n) (cx h w m (n + 1)) := by
    rcases Nat.eq_zero_or_pos m with e | e
    · rw [cx_out (by omega), cx_out (by omega)]; exact .refl
    · obtain ⟨a, rfl⟩ : ∃ a, m = a + 1 := ⟨m - 1, by omega⟩
      exact .one (inE _ (List.mem_append.2 (.inr (mem_vE.2 ⟨a, n, hm, hn, rfl⟩))) (by rw [both_v hn, hs]; simp))
  have bot : Conn (dE h w S) (cx h w (m + 1) n) (cx h w (m + 1) (n + 1)) := by
    by_cases e : m + 1 < h
    · exact .one (inE _ (List.mem_append.2 (.inr (mem_vE.2 ⟨m, n, e, hn, rfl⟩))) (by rw [both_v hn, hs]; simp))
    · rw [cx_out (by omega), cx_out (by omega)]; exact .refl
  have left : Conn (dE h w S) (cx h w m n) (cx h w (m + 1) n) := by
    rcases Nat.eq_zero_or_pos n with e | e
    · rw [cx_out (by omega), cx_out (by omega)]; exact .refl
    · obtain ⟨a, rfl⟩ : ∃ a, n = a + 1 := ⟨n - 1, by omega⟩
      exact .one (inE _ (List.mem_append.2 (.inl (mem_hE.2 ⟨m, a, hm, hn, rfl⟩))) (by rw [both_h hn, hs]; simp))
  have right : Conn (dE h w S) (cx h w m (n + 1)) (cx h w (m + 1) (n + 1)) := top.symm.trans (left.trans bot)
  have all : ∀ i j, (i = m ∨ i = m + 1) → (j = n ∨ j = n + 1) → Conn (dE h w S) (cx h w m n) (cx h w i j) := by
    rintro i j (rfl | rfl) (rfl | rfl)
    · exact .refl
    · exact top
    · exact left
    · exact top.trans right
  intro i j k l hi hj hk hl
  exact (all i j hi hj).symm.trans (all k l hk hl)

/-- Cells that are not set and reach each other over near ones have tied corners. -/
theorem reach_tied {m n k l : Nat} (hc : Co h w S m n = true) (hr : Reach (Co h w S) true m n k l) : Conn (dE h w S) (cx h w m n) (cx h w k l) := by
  induction hr with
  | refl => exact .refl
  | @step a b c d hr ad t ih =>
    obtain ⟨c1, c2, c3, c4, _⟩ := ad
    have sa := hr.mem hc
    -- the corner that both cells have
    have h1 : (max a c = a ∨ max a c = a + 1) ∧ (max b d = b ∨ max b d = b + 1) ∧ (max a c = c ∨ max a c = c + 1) ∧ (max b d = d ∨ max b d = d + 1) := by omega
    exact ih.trans ((corners_tied sa a b (max a c) (max b d) (.inl rfl) (.inl rfl) h1.1 h1.2.1).trans (corners_tied t (max a c) (max b d) c d h1.2.2.1 h1.2.2.2 (.inl rfl) (.inl rfl)))

/-- From a corner of four set cells no side leads on. -/
theorem sq_alone {i j v : Nat} (hs : Sq S (i, j) = true) (hi : i + 1 < h) (hj : j + 1 < w) (hc : Conn (dE h w S) (cx h w (i + 1) (j + 1)) v) : v = cx h w (i + 1) (j + 1) := by
  induction hc with
  | refl => rfl
  | @step a b _ e ih =>
    exfalso
    simp only [Sq, Bool.and_eq_true] at hs
    have no : ∀ m n, Co h w S m n = true → (i + 1 = m ∨ i + 1 = m + 1) → (j + 1 = n ∨ j + 1 = n + 1) → False := by
      intro m n hco h1 h2
      have := (co_iff.1 hco).2.2
      obtain ⟨⟨⟨s1, s2⟩, s3⟩, s4⟩ := hs
      rcases h1 with h1 | h1 <;> rcases h2 with h2 | h2
      · rw [← h1, ← h2, s4] at this; cases this
      · obtain rfl : j = n := by omega
        rw [← h1, s3] at this; cases this
      · obtain rfl : i = m := by omega
        rw [← h2, s2] at this; cases this
      · obtain rfl : i = m := by omega
        obtain rfl : j = n := by omega
        rw [s1] at this; cases this
    rw [ih] at e
    rcases e with e | e
    · obtain ⟨i', j', k, l, m, n, e1, _, hco, h1, h2, _, _⟩ := mem_dE e
      obtain ⟨rfl, rfl⟩ := cx_inj (by omega) hi (by omega) hj e1.symm
      exact no m n hco h1 h2
    · obtain ⟨i', j', k, l, m, n, _, e1, hco, _, _, h1, h2⟩ := mem_dE e
      obtain ⟨rfl, rfl⟩ := cx_inj (by omega) hi (by omega) hj e1.symm
      exact no m n hco h1 h2

/-- From a corner of a hole only corners of this hole are come to. -/
theorem hole_alone {a b v : Nat} (hin : Inner h w (Co h w S) a b) (hr : Conn (dE h w S) (cx h w a b) v) :
    ∃ I J, 1 ≤ I ∧ I < h ∧ 1 ≤ J ∧ J < w ∧ v = cx h w I J ∧ ∀ m n, Co h w S m n = true → (I = m ∨ I = m + 1) → (J = n ∨ J = n + 1) → Reach (Co h w S) true a b m n := by
  have near : ∀ I J m n m' n', (I = m ∨ I = m + 1) → (J = n ∨ J = n + 1) → (I = m' ∨ I = m' + 1) → (J = n' ∨ J = n' + 1) → Adj true m n m' n' := by
    intro I J m n m' n' h1 h2 h3 h4
    exact ⟨by omega, by omega, by omega, by omega, .inl rfl⟩
  induction hr with
  | refl =>
    have := hin a b .refl
    exact ⟨a, b, by omega, by omega, by omega, by omega, rfl, fun m n hco h1 h2 => .step .refl (near a b a b m n (.inl rfl) (.inl rfl) h1 h2) hco⟩
  | @step x y _ e ih =>
    obtain ⟨I, J, hI, hIh, hJ, hJw, rfl, hall⟩ := ih
    have go : ∀ k l m n, Co h w S m n = true → (I = m ∨ I = m + 1) → (J = n ∨ J = n + 1) → (k = m ∨ k = m + 1) → (l = n ∨ l = n + 1) →
        ∃ I' J', 1 ≤ I' ∧ I' < h ∧ 1 ≤ J' ∧ J' < w ∧ cx h w k l = cx h w I' J' ∧ ∀ m n, Co h w S m n = true → (I' = m ∨ I' = m + 1) → (J' = n ∨ J' = n + 1) → Reach (Co h w S) true a b m n := by
      intro k l m n hco h1 h2 h3 h4
      have hmn := hall m n hco h1 h2
      have := hin m n hmn
      exact ⟨k, l, by omega, by omega, by omega, by omega, rfl, fun m' n' hco' h5 h6 => .step hmn (near k l m n m' n' h3 h4 h5 h6) hco'⟩
    rcases e with e | e
    · obtain ⟨i', j', k, l, m, n, e1, rfl, hco, h1, h2, h3, h4⟩ := mem_dE e
      obtain ⟨rfl, rfl⟩ := cx_inj hI hIh hJ hJw e1.symm
      exact go k l m n hco h1 h2 h3 h4
    · obtain ⟨k, l, i', j', m, n, rfl, e1, hco, h3, h4, h1, h2⟩ := mem_dE e
      obtain ⟨rfl, rfl⟩ := cx_inj hI hIh hJ hJw e1.symm
      exact go k l m n hco h1 h2 h3 h4

/-- How many components the sides make: the outside, the squares, the holes. -/
theorem comps_holes (hS : ∀ i j, S i j = true → i < h ∧ j < w) (gB : Nat × Nat → Bool) (hg : ∀ c, gB c = true ↔ HoleFirst h w S c.1 c.2) {R : Nat → Nat → Bool} (hR : Dec (dE h w S) R) :
    comps ((h - 1) * (w - 1) + 1) R = 1 + ((cellsL h w).filter (Sq S)).length + ((cellsL h w).filter gB).length := by
  have sqin : ∀ c, c ∈ (cellsL h w).filter (Sq S) → c.1 + 1 < h ∧ c.2 + 1 < w ∧ Sq S c = true := by
    intro c hc
    have hs := (List.mem_filter.1 hc).2
    have hs' := hs
    simp only [Sq, Bool.and_eq_true] at hs'
    have := hS _ _ hs'.2
    exact ⟨this.1, this.2, hs⟩
  have hoin : ∀ c, c ∈ (cellsL h w).filter gB → HoleFirst h w S c.1 c.2 ∧ 1 ≤ c.1 ∧ c.1 + 1 < h ∧ 1 ≤ c.2 ∧ c.2 + 1 < w := by
    intro c hc
    have hh := (hg c).1 (List.mem_filter.1 hc).2
    exact ⟨hh, hh.2 _ _ .refl⟩
  have main := comps_length hR (0 :: (((cellsL h w).filter (Sq S)).map (fun c => cx h w (c.1 + 1) (c.2 + 1)) ++ ((cellsL h w).filter gB).map fun c => cx h w c.1 c.2)) (n := (h - 1) * (w - 1) + 1)
  have sq0 : ∀ c, c ∈ (cellsL h w).filter (Sq S) → ∀ v, Conn (dE h w S) (cx h w (c.1 + 1) (c.2 + 1)) v → v = cx h w (c.1 + 1) (c.2 + 1) := fun c hc v hv => by
    obtain ⟨h1, h2, h3⟩ := sqin c hc
    exact sq_alone (i := c.1) (j := c.2) h3 h1 h2 hv
  have ho0 : ∀ c, c ∈ (cellsL h w).filter gB → ∀ v, Conn (dE h w S) (cx h w c.1 c.2) v →
      ∃ I J, 1 ≤ I ∧ I < h ∧ 1 ≤ J ∧ J < w ∧ v = cx h w I J ∧ ∀ m n, Co h w S m n = true → (I = m ∨ I = m + 1) → (J = n ∨ J = n + 1) → Reach (Co h w S) true c.1 c.2 m n := fun c hc v hv => by
    obtain ⟨hh, _⟩ := hoin c hc
    exact hole_alone hh.2 hv
  have pos : ∀ i j, 1 ≤ i → i < h → 1 ≤ j → j < w → cx h w i j ≠ 0 := by
    intro i j a b c d
    rw [cx_in a b c d]
    omega
  have sqho : ∀ c, c ∈ (cellsL h w).filter (Sq S) → ∀ d, d ∈ (cellsL h w).filter gB → ¬ Conn (dE h w S) (cx h w (c.1 + 1) (c.2 + 1)) (cx h w d.1 d.2) := by
    intro c hc d hd hcn
    obtain ⟨h1, h2, h3⟩ := sqin c hc
    obtain ⟨hh, d1, d2, d3, d4⟩ := hoin d hd
    have e := sq0 c hc _ hcn
    obtain ⟨e1, e2⟩ := cx_inj (by omega) h1 (by omega) h2 e
    have := (co_iff.1 hh.1.1).2.2
    simp only [Sq, Bool.and_eq_true] at h3
    rw [e1, e2, h3.2] at this
    cases this
  have sqsq : ∀ c, c ∈ (cellsL h w).filter (Sq S) → ∀ d, d ∈ (cellsL h w).filter (Sq S) → Conn (dE h w S) (cx h w (c.1 + 1) (c.2 + 1)) (cx h w (d.1 + 1) (d.2 + 1)) → c = d := by
    intro c hc d hd hcn
    obtain ⟨h1, h2, _⟩ := sqin c hc
    obtain ⟨e1, e2⟩ := cx_inj (by omega) h1 (by omega) h2 (sq0 c hc _ hcn)
    exact Prod.ext (by omega) (by omega)
  have hoho : ∀ c, c ∈ (cellsL h w).filter gB → ∀ d, d ∈ (cellsL h w).filter gB → Conn (dE h w S) (cx h w c.1 c.2) (cx h w d.1 d.2) → c = d := by
    intro c hc d hd hcn
    obtain ⟨hh, _⟩ := hoin c hc
    obtain ⟨hh', d1, d2, d3, d4⟩ := hoin d hd
    obtain ⟨I, J, a1, a2, a3, a4, e, hall⟩ := ho0 c hc _ hcn
    obtain ⟨rfl, rfl⟩ := cx_inj d1 (by omega) d3 (by omega) e.symm
    obtain ⟨e1, e2⟩ := first_same hh.1 hh'.1 (hall _ _ hh'.1.1 (.inl rfl) (.inl rfl))
    exact Prod.ext e1 e2
  rw [main]
  · simp; omega
  · refine List.nodup_cons.2 ⟨?_, List.nodup_append.2 ⟨?_, ?_, ?_⟩⟩
    · rw [List.mem_append]
      rintro (hm | hm)
      · obtain ⟨c, hc, e⟩ := List.mem_map.1 hm
        obtain ⟨h1, h2, _⟩ := sqin c hc
        exact pos _ _ (by omega) h1 (by omega) h2 e
      · obtain ⟨c, hc, e⟩ := List.mem_map.1 hm
        obtain ⟨_, h1, h2, h3, h4⟩ := hoin c hc
        exact pos _ _ h1 (by omega) h3 (by omega) e
    · rw [List.nodup_iff_pairwise_ne, List.pairwise_map]
      refine List.Pairwise.imp_of_mem ?_ (List.Pairwise.filter _ (nodup_cellsL h w))
      intro c d hc hd hne e
      exact hne (sqsq c hc d hd (e ▸ .refl))
    · rw [List.nodup_iff_pairwise_ne, List.pairwise_map]
      refine List.Pairwise.imp_of_mem ?_ (List.Pairwise.filter _ (nodup_cellsL h w))
      intro c d hc hd hne e
      exact hne (hoho c hc d hd (e ▸ .refl))
    · intro x hx y hy e
      obtain ⟨c, hc, rfl⟩ := List.mem_map.1 hx
      obtain ⟨d, hd, rfl⟩ := List.mem_map.1 hy
      exact sqho c hc d hd (e ▸ .refl)
  · intro l hl
    rcases List.mem_cons.1 hl with rfl | hl
    · omega
    · rcases List.mem_append.1 hl with hl | hl
      · obtain ⟨c, _, rfl⟩ := List.mem_map.1 hl; exact cx_lt _ _
      · obtain ⟨c, _, rfl⟩ := List.mem_map.1 hl; exact cx_lt _ _
  · -- no two of them are tied
    have sq_zero : ∀ c, c ∈ (cellsL h w).filter (Sq S) → ¬ Conn (dE h w S) (cx h w (c.1 + 1) (c.2 + 1)) 0 := by
      intro c hc hcn
      obtain ⟨h1, h2, _⟩ := sqin c hc
      exact pos _ _ (by omega) h1 (by omega) h2 (sq0 c hc _ hcn).symm
    have ho_zero : ∀ c, c ∈ (cellsL h w).filter gB → ¬ Conn (dE h w S) (cx h w c.1 c.2) 0 := by
      intro c hc hcn
      obtain ⟨I, J, a1, a2, a3, a4, e, _⟩ := ho0 c hc _ hcn
      exact pos _ _ a1 a2 a3 a4 e.symm
    intro a ha b hb hne hcn
    rcases List.mem_cons.1 ha with rfl | ha
    · rcases List.mem_cons.1 hb with rfl | hb
      · exact hne rfl
      · rcases List.mem_append.1 hb with hb | hb
        · obtain ⟨c, hc, rfl⟩ := List.mem_map.1 hb; exact sq_zero c hc hcn.symm
        · obtain ⟨c, hc, rfl⟩ := List.mem_map.1 hb; exact ho_zero c hc hcn.symm
    · rcases List.mem_append.1 ha with ha | ha
      · obtain ⟨c, hc, rfl⟩ := List.mem_map.1 ha
        rcases List.mem_cons.1 hb with rfl | hb
        · exact sq_zero c hc hcn
        · rcases List.mem_append.1 hb with hb | hb
          · obtain ⟨d, hd, rfl⟩ := List.mem_map.1 hb
            exact hne (by rw [sqsq c hc d hd hcn])
          · obtain ⟨d, hd, rfl⟩ := List.mem_map.1 hb
            exact sqho c hc d hd hcn
      · obtain ⟨c, hc, rfl⟩ := List.mem_map.1 ha
        rcases List.mem_cons.1 hb with rfl | hb
        · exact ho_zero c hc hcn
        · rcases List.mem_append.1 hb with hb | hb
          · obtain ⟨d, hd, rfl⟩ := List.mem_map.1 hb
            exact sqho d hd c hc hcn.symm
          · obtain ⟨d, hd, rfl⟩ := List.mem_map.1 hb
            exact hne (by rw [hoho c hc d hd hcn])
  · -- each corner is tied to one of them
    intro q hq
    rcases Nat.eq_zero_or_pos q with e | e
    · subst e; exact ⟨0, by simp, .refl⟩
    · obtain ⟨I, J, hI, hIh, hJ, hJw, rfl⟩ := cx_ex e hq
      obtain ⟨i, rfl⟩ : ∃ i, I = i + 1 := ⟨I - 1, by omega⟩
      obtain ⟨j, rfl⟩ : ∃ j, J = j + 1 := ⟨J - 1, by omega⟩
      cases hsq : Sq S (i, j) with
      | true =>
        exact ⟨_, List.mem_cons_of_mem _ (List.mem_append.2 (.inl (List.mem_map.2 ⟨(i, j), List.mem_filter.2 ⟨mem_cellsL.2 ⟨by simp; omega, by simp; omega⟩, hsq⟩, rfl⟩))), .refl⟩
      | false =>
        have : ∃ m n, Co h w S m n = true ∧ (i + 1 = m ∨ i + 1 = m + 1) ∧ (j + 1 = n ∨ j + 1 = n + 1) := by
          cases s1 : S i j with
          | false => exact ⟨i, j, co_iff.2 ⟨by omega, by omega, s1⟩, .inr rfl, .inr rfl⟩
          | true =>
            cases s2 : S i (j + 1) with
            | false => exact ⟨i, j + 1, co_iff.2 ⟨by omega, by omega, s2⟩, .inr rfl, .inl rfl⟩
            | true =>
              cases s3 : S (i + 1) j with
              | false => exact ⟨i + 1, j, co_iff.2 ⟨by omega, by omega, s3⟩, .inl rfl, .inr rfl⟩
              | true =>
                cases s4 : S (i + 1) (j + 1) with
                | false => exact ⟨i + 1, j + 1, co_iff.2 ⟨by omega, by omega, s4⟩, .inl rfl, .inl rfl⟩
                | true => simp [Sq, s1, s2, s3, s4] at hsq
        obtain ⟨m, n, hco, h1, h2⟩ := this
        by_cases hin : Inner h w (Co h w S) m n
        · obtain ⟨k, l, hk, hr⟩ := first_ex (T := Co h w S) (near := true) m n hco
          have hkin : Inner h w (Co h w S) k l := fun a b hab => hin a b (hr.trans hab)
          obtain ⟨b1, b2, b3, b4⟩ := hkin _ _ .refl
          refine ⟨cx h w k l, List.mem_cons_of_mem _ (List.mem_append.2 (.inr (List.mem_map.2 ⟨(k, l), List.mem_filter.2 ⟨mem_cellsL.2 ⟨by simp; omega, by simp; omega⟩, (hg (k, l)).2 ⟨hk, hkin⟩⟩, rfl⟩))), ?_⟩
          exact ((reach_tied hco hr).symm).trans (corners_tied hco m n (i + 1) (j + 1) (.inl rfl) (.inl rfl) h1 h2)
        · have : ∃ k l, Reach (Co h w S) true m n k l ∧ ¬ (1 ≤ k ∧ k + 1 < h ∧ 1 ≤ l ∧ l + 1 < w) :=
            Classical.byContradiction fun hn => hin fun k l hr => Classical.byContradiction fun hb => hn ⟨k, l, hr, hb⟩
          obtain ⟨k, l, hr, hb⟩ := this
          have hkl := hr.mem hco
          obtain ⟨k1, l1, _⟩ := co_iff.1 hkl
          have : ∃ a b, (a = k ∨ a = k + 1) ∧ (b = l ∨ b = l + 1) ∧ cx h w a b = 0 := by
            by_cases z : k = 0 ∨ l = 0
            · exact ⟨k, l, .inl rfl, .inl rfl, cx_out (by omega)⟩
            · exact ⟨k + 1, l + 1, .inr rfl, .inr rfl, cx_out (by omega)⟩
          obtain ⟨a, b, ha, hb, e0⟩ := this
          refine ⟨0, by simp, ?_⟩
          rw [← e0]
          exact ((corners_tied hkl a b k l ha hb (.inl rfl) (.inl rfl)).trans (reach_tied hco hr).symm).trans (corners_tied hco m n (i + 1) (j + 1) (.inl rfl) (.inl rfl) h1 h2)

/-- PARTS AND HOLES MAKE ONE NUMBER: the set cells and the squares of four, and the holes; the parts and the pairs of neighbors. -/
theorem euler (hh : 0 < h) (hw : 0 < w) (hS : ∀ i j, S i j = true → i < h ∧ j < w) (fB gB : Nat × Nat → Bool) (hf : ∀ c, fB c = true ↔ FirstIn S false c.1 c.2) (hg : ∀ c, gB c = true ↔ HoleFirst h w S c.1 c.2) :
    ((cellsL h w).filter fun c => S c.1 c.2).length + ((cellsL h w).filter (Sq S)).length + ((cellsL h w).filter gB).length = ((cellsL h w).filter fB).length + ((aE h w).filter (both w S)).length := by
  obtain ⟨R, hR⟩ := dec_ex (((aE h w).filter (both w S)).map (·.1))
  obtain ⟨R', hR'⟩ := dec_ex (dE h w S)
  have h1 := grid_count hh hw (both w S) hR hR'
  rw [comps_parts hS fB hf hR, comps_holes hS gB hg hR'] at h1
  have h2 : ((cellsL h w).filter fun c => !S c.1 c.2 || fB c).length + ((cellsL h w).filter fun c => S c.1 c.2).length = (cellsL h w).length + ((cellsL h w).filter fB).length := by
    have : ∀ l : List (Nat × Nat), (l.filter fun c => !S c.1 c.2 || fB c).length + (l.filter fun c => S c.1 c.2).length = l.length + (l.filter fB).length := by
      intro l
      induction l with
      | nil => rfl
      | cons c r ih =>
        cases hs : S c.1 c.2 with
        | true => cases hb : fB c <;> simp [hs, hb] <;> omega
        | false =>
          have hb : fB c = false := by
            rw [← Bool.not_eq_true, hf]
            intro hb
            rw [hb.1] at hs
            cases hs
          simp [hs, hb]
          omega
    exact this _
  have h3 : (cellsL h w).length = h * w := by
    exact length_flat _ _ _
  omega
end
end Go.Proofs.Ytldmilpohappiaa.Gr
