/- Plain laws of parts, no program in them: a part is one part, without it there is one less, one cell joins at most four. Conditions: those that each theorem names. -/
import Derived.Test.YtbblbdacdpokeaaDoorPartsFn
namespace Go.Proofs.YtbblbdacdpokeaaDoor.Gr
section
variable {h w : Nat}
theorem comps_more {n : Nat} {E : List (Nat × Nat)} {R : Nat → Nat → Bool} (hR : Dec E R) : ∀ (L : List (Nat × Nat)) (R' : Nat → Nat → Bool), Dec (L ++ E) R' → (∀ e ∈ L, e.1 < n ∧ e.2 < n) → comps n R' ≤ comps n R ∧ comps n R ≤ comps n R' + L.length := by
  intro L
  induction L with
  | nil =>
    intro R' hR' _
    rw [hR'.comps_eq hR n]
    simp
  | cons e L ih =>
    intro R' hR' hb
    obtain ⟨R1, hR1⟩ := dec_ex (L ++ E)
    have h1 := ih R1 hR1 fun e he => hb e (by simp [he])
    have h2 := hb e (by simp)
    have h3 := comps_cons_cases (n := n) h2.1 h2.2 hR1 (x := e.1) (y := e.2) (R' := R') hR'
    simp only [List.length_cons]
    omega
def edgesS (h w : Nat) (S : Nat → Nat → Bool) : List (Nat × Nat) := ((aE h w).filter (both w S)).map (·.1)
theorem mem_edgesS {S : Nat → Nat → Bool} {e : Nat × Nat} : e ∈ edgesS h w S ↔ (∃ a b, a < h ∧ b + 1 < w ∧ S a b = true ∧ S a (b + 1) = true ∧ e = (a * w + b, a * w + (b + 1))) ∨ (∃ a b, a + 1 < h ∧ b < w ∧ S a b = true ∧ S (a + 1) b = true ∧ e = (a * w + b, (a + 1) * w + b)) := by
  unfold edgesS aE
  simp only [List.mem_map, List.mem_filter, List.mem_append]
  constructor
  · rintro ⟨f, ⟨hf | hf, hb⟩, rfl⟩
    · obtain ⟨a, b, h1, h2, rfl⟩ := mem_hE.1 hf
      rw [both_h h2] at hb
      simp only [Bool.and_eq_true] at hb
      exact .inl ⟨a, b, h1, h2, hb.1, hb.2, rfl⟩
    · obtain ⟨a, b, h1, h2, rfl⟩ := mem_vE.1 hf
      rw [both_v h2] at hb
      simp only [Bool.and_eq_true] at hb
      exact .inr ⟨a, b, h1, h2, hb.1, hb.2, rfl⟩
  · rintro (⟨a, b, h1, h2, s1, s2, rfl⟩ | ⟨a, b, h1, h2, s1, s2, rfl⟩)
    · exact ⟨_, ⟨.inl (mem_hE.2 ⟨a, b, h1, h2, rfl⟩), by rw [both_h h2, s1, s2]; rfl⟩, rfl⟩
    · exact ⟨_, ⟨.inr (mem_vE.2 ⟨a, b, h1, h2, rfl⟩), by rw [both_v h2, s1, s2]; rfl⟩, rfl⟩
theorem edges_bd {S : Nat → Nat → Bool} {e : Nat × Nat} (he : e ∈ edgesS h w S) : e.1 < h * w ∧ e.2 < h * w := by
  rcases mem_edgesS.1 he with ⟨a, b, h1, h2, _, _, rfl⟩ | ⟨a, b, h1, h2, _, _, rfl⟩
  · exact ⟨lin_lt h1 (by omega), lin_lt h1 h2⟩
  · exact ⟨lin_lt (by omega) h2, lin_lt h1 h2⟩
/-- The parts and the cells that are not set make the components. -/
theorem comps_firsts {S : Nat → Nat → Bool} (hS : Inside h w S) {R : Nat → Nat → Bool} (hR : Dec (edgesS h w S) R) : comps (h * w) R + ((cellsL h w).filter fun c => S c.1 c.2).length = h * w + (firsts S false h w).length := by
  have h1 := comps_parts hS (firstB S false h w) (fun c => firstB_iff hS c) hR
  rw [h1]
  have : ∀ l : List (Nat × Nat), (l.filter fun c => !S c.1 c.2 || firstB S false h w c).length + (l.filter fun c => S c.1 c.2).length = l.length + (l.filter (firstB S false h w)).length := by
    intro l
    induction l with
    | nil => rfl
    | cons c r ih =>
      cases hs : S c.1 c.2 with
      | true => cases hb : firstB S false h w c <;> simp [hs, hb] <;> omega
      | false =>
        have hb : firstB S false h w c = false := by unfold firstB; rw [hs]; rfl
        simp [hs, hb]
        omega
  rw [this, length_cellsL]
  rfl
theorem count_add {p q : Nat × Nat → Bool} {c : Nat × Nat} : ∀ (l : List (Nat × Nat)), l.Nodup → c ∈ l → p c = false → q c = true → (∀ d ∈ l, d ≠ c → p d = q d) → (l.filter q).length = (l.filter p).length + 1 := by
  intro l
  induction l with
  | nil => intro _ hc; simp at hc
  | cons a l ih =>
    intro hn hc hp hq hh
    obtain ⟨hn1, hn2⟩ := List.nodup_cons.1 hn
    by_cases e : a = c
    · subst e
      have : l.filter p = l.filter q := List.filter_congr fun d hd => hh d (by simp [hd]) (fun e => hn1 (e ▸ hd))
      simp [hp, hq, this]
    · have hc' : c ∈ l := by
        rcases List.mem_cons.1 hc with h1 | h1
        · exact (e h1.symm).elim
        · exact h1
      have h1 := ih hn2 hc' hp hq fun d hd => hh d (by simp [hd])
      have h2 := hh a (by simp) e
      cases hq' : q a <;> simp [h2, hq', h1]
/-- ONE CELL MORE JOINS AT MOST FOUR PARTS. -/
theorem firsts_put {S S' : Nat → Nat → Bool} {i j : Nat} (hS : Inside h w S) (hi : i < h) (hj : j < w) (hc : S i j = false) (hS' : ∀ a b, S' a b = if a = i ∧ b = j then true else S a b) :
    (firsts S' false h w).length ≤ (firsts S false h w).length + 1 ∧ (firsts S false h w).length ≤ (firsts S' false h w).length + 3 := by
  have hI' : Inside h w S' := fun a b hab => by
    rw [hS'] at hab
    split at hab
    · rename_i e; obtain ⟨rfl, rfl⟩ := e; exact ⟨hi, hj⟩
    · exact hS a b hab
  obtain ⟨R, hR⟩ := dec_ex (edgesS h w S)
  obtain ⟨R', hR'⟩ := dec_ex (edgesS h w S')
  have h1 := comps_firsts hS hR
  have h2 := comps_firsts hI' hR'
  have h3 : ((cellsL h w).filter fun c => S' c.1 c.2).length = ((cellsL h w).filter fun c => S c.1 c.2).length + 1 :=
    count_add (c := (i, j)) _ (nodup_cellsL h w) (mem_cellsL.2 ⟨hi, hj⟩) hc (by rw [hS', if_pos ⟨rfl, rfl⟩]) fun d _ hd => by
      rw [hS', if_neg]
      rintro ⟨e1, e2⟩
      exact hd (Prod.ext e1 e2)
  obtain ⟨L, hL, hLl, hLb⟩ : ∃ L : List (Nat × Nat), (∀ e, e ∈ edgesS h w S' ↔ e ∈ L ++ edgesS h w S) ∧ L.length ≤ 4 ∧ ∀ e ∈ L, e.1 < h * w ∧ e.2 < h * w := by
    refine ⟨[(i * w + (j - 1), i * w + j), (i * w + j, i * w + (j + 1)), ((i - 1) * w + j, i * w + j), (i * w + j, (i + 1) * w + j)].filter fun e => (edgesS h w S').contains e, fun e => ?_, List.length_filter_le _ _, fun e he => ?_⟩
    · rw [List.mem_append]
      constructor
      · intro he
        by_cases hs : e ∈ edgesS h w S
        · exact .inr hs
        · refine .inl (List.mem_filter.2 ⟨?_, by simpa using he⟩)
          rcases mem_edgesS.1 he with ⟨a, b, p1, p2, s1, s2, rfl⟩ | ⟨a, b, p1, p2, s1, s2, rfl⟩
          · rw [hS'] at s1 s2
            by_cases e1 : a = i ∧ b = j
            · obtain ⟨rfl, rfl⟩ := e1; simp
            · by_cases e2 : a = i ∧ b + 1 = j
              · obtain ⟨rfl, rfl⟩ := e2; simp
              · rw [if_neg e1] at s1
                rw [if_neg e2] at s2
                exact (hs (mem_edgesS.2 (.inl ⟨a, b, p1, p2, s1, s2, rfl⟩))).elim
          · rw [hS'] at s1 s2
            by_cases e1 : a = i ∧ b = j
            · obtain ⟨rfl, rfl⟩ := e1; simp
            · by_cases e2 : a + 1 = i ∧ b = j
              · obtain ⟨rfl, rfl⟩ := e2; simp
              · rw [if_neg e1] at s1
                rw [if_neg e2] at s2
                exact (hs (mem_edgesS.2 (.inr ⟨a, b, p1, p2, s1, s2, rfl⟩))).elim
      · rintro (he | he)
        · simpa using (List.mem_filter.1 he).2
        · have up : ∀ a b, S a b = true → S' a b = true := fun a b hab => by rw [hS']; split <;> first | rfl | exact hab
          rcases mem_edgesS.1 he with ⟨a, b, p1, p2, s1, s2, rfl⟩ | ⟨a, b, p1, p2, s1, s2, rfl⟩
          · exact mem_edgesS.2 (.inl ⟨a, b, p1, p2, up _ _ s1, up _ _ s2, rfl⟩)
          · exact mem_edgesS.2 (.inr ⟨a, b, p1, p2, up _ _ s1, up _ _ s2, rfl⟩)
    · exact edges_bd (by simpa using (List.mem_filter.1 he).2 : e ∈ edgesS h w S')
  have h4 := comps_more (n := h * w) hR L R' (hR'.of_mem hL) hLb
  omega

/-! ### A part, and the rest -/
variable {T : Nat → Nat → Bool} {near : Bool}
theorem comp_reach (hS : Inside h w T) {c : Nat × Nat} (ht : T c.1 c.2 = true) {a b k l : Nat} (ha : Reach T near c.1 c.2 a b) : Reach (cell (compL T near h w c)) near a b k l ↔ Reach T near a b k l := by
  constructor
  · exact Reach.mono fun x y hxy => ((cell_comp hS ht).1 hxy).mem ht
  · intro hr
    induction hr with
    | refl => exact .refl
    | step hr hadj t ih => exact .step ih hadj ((cell_comp hS ht).2 (ha.trans (.step hr hadj t)))
/-- A part is one part. -/
theorem firsts_comp (hS : Inside h w T) {c : Nat × Nat} (ht : T c.1 c.2 = true) : (firsts (cell (compL T near h w c)) near h w).length = 1 := by
  have hI : Inside h w (cell (compL T near h w c)) := (sized_mk : Sized h w (compL T near h w c)).inside
  have hcc : cell (compL T near h w c) c.1 c.2 = true := (cell_comp hS ht).2 .refl
  obtain ⟨k, l, hk, hr⟩ := first_ex (T := cell (compL T near h w c)) (near := near) _ _ hcc
  have hm := (mem_firsts (near := near) hI (c := (k, l))).2 hk
  refine Nat.le_antisymm ?_ (List.length_pos_of_mem hm)
  have hall : ∀ d ∈ firsts (cell (compL T near h w c)) near h w, d = (k, l) := by
    intro d hd
    have hd := (mem_firsts hI).1 hd
    have hrd : Reach T near c.1 c.2 d.1 d.2 := (cell_comp hS ht).1 hd.1
    have hrk : Reach T near c.1 c.2 k l := (cell_comp hS ht).1 hk.1
    have := (comp_reach hS ht hrk).2 ((hrk.symm ht).trans hrd)
    obtain ⟨e1, e2⟩ := first_same hk hd this
    exact Prod.ext e1.symm e2.symm
  match hf : firsts (cell (compL T near h w c)) near h w with
  | [] => simp
  | [_] => simp
  | a :: b :: r =>
    rw [hf] at hall
    have hn := nodup_firsts (T := cell (compL T near h w c)) (near := near) (h := h) (w := w)
    rw [hf] at hn
    have e1 := hall a (by simp)
    have e2 := hall b (by simp)
    rw [e1, e2] at hn
    simp at hn
/-- The image without a part. -/
def restL (T : Nat → Nat → Bool) (near : Bool) (h w : Nat) (c : Nat × Nat) : List Nat := mkI h w fun k l => T k l && !reachB T near h w c.1 c.2 k l
theorem cell_rest (hS : Inside h w T) {c : Nat × Nat} (ht : T c.1 c.2 = true) {k l : Nat} : cell (restL T near h w c) k l = true ↔ T k l = true ∧ ¬ Reach T near c.1 c.2 k l := by
  unfold restL
  rw [cell_mk]
  simp only [Bool.and_eq_true, decide_eq_true_eq, Bool.not_eq_true', ← Bool.not_eq_true, reachB_iff hS]
  constructor
  · rintro ⟨_, h1, h2⟩; exact ⟨h1, fun h3 => h2 ⟨ht, h3⟩⟩
  · rintro ⟨h1, h2⟩; exact ⟨hS _ _ h1, h1, fun h3 => h2 h3.2⟩
theorem rest_reach (hS : Inside h w T) {c : Nat × Nat} (ht : T c.1 c.2 = true) {a b k l : Nat} (ha : cell (restL T near h w c) a b = true) : Reach (cell (restL T near h w c)) near a b k l ↔ Reach T near a b k l := by
  have ha' := (cell_rest hS ht).1 ha
  constructor
  · exact Reach.mono fun x y hxy => ((cell_rest hS ht).1 hxy).1
  · intro hr
    induction hr with
    | refl => exact .refl
    | step hr hadj t ih =>
      refine .step ih hadj ((cell_rest hS ht).2 ⟨t, fun hc => ha'.2 ?_⟩)
      exact hc.trans ((Reach.step hr hadj t).symm ha'.1)
/-- Without a part there is one part less. -/
theorem firsts_rest (hS : Inside h w T) {c : Nat × Nat} (ht : T c.1 c.2 = true) : (firsts (cell (restL T near h w c)) near h w).length + 1 = (firsts T near h w).length := by
  have hI : Inside h w (cell (restL T near h w c)) := (sized_mk : Sized h w (restL T near h w c)).inside
  obtain ⟨k, l, hk, hr⟩ := first_ex (T := T) (near := near) _ _ ht
  symm
  refine count_add (c := (k, l)) _ (nodup_cellsL h w) (mem_cellsL.2 (hS _ _ hk.1)) ?_ ((firstB_iff hS (k, l)).2 hk) fun d _ hd => ?_
  · rw [← Bool.not_eq_true, firstB_iff hI]
    intro hf
    exact ((cell_rest hS ht).1 hf.1).2 hr
  · rw [Bool.eq_iff_iff, firstB_iff hI, firstB_iff hS]
    constructor
    · intro hf
      have h1 := (cell_rest hS ht).1 hf.1
      refine ⟨h1.1, fun a b he hab hra => ?_⟩
      refine hf.2 a b he ((cell_rest hS ht).2 ⟨hab, fun hc => h1.2 (hc.trans (hra.symm h1.1))⟩) ((rest_reach hS ht hf.1).2 hra)
    · intro hf
      have h1 : cell (restL T near h w c) d.1 d.2 = true := (cell_rest hS ht).2 ⟨hf.1, fun hc => by
        obtain ⟨e1, e2⟩ := first_same hk hf ((hr.symm ht).trans hc)
        exact hd (Prod.ext e1.symm e2.symm)⟩
      exact ⟨h1, fun a b he hab hra => hf.2 a b he ((cell_rest hS ht).1 hab).1 ((rest_reach hS ht h1).1 hra)⟩
theorem firsts_zero (hS : Inside h w T) : (firsts T near h w).length = 0 ↔ ∀ i j, T i j = false := by
  constructor
  · intro h0 i j
    rw [← Bool.not_eq_true]
    intro ht
    obtain ⟨k, l, hk, _⟩ := first_ex (T := T) (near := near) _ _ ht
    have := List.length_pos_of_mem ((mem_firsts hS (c := (k, l))).2 hk)
    omega
  · intro h0
    refine Nat.eq_zero_of_not_pos fun hp => ?_
    obtain ⟨c, hc⟩ := List.exists_mem_of_length_pos hp
    have := ((mem_firsts hS).1 hc).1
    rw [h0] at this
    cases this
end
/-- A row without some of its bits. -/
theorem sub_bits : ∀ n, n < 64 → ∀ m, m < 64 → n &&& m = m → n - m = n ^^^ m := by decide +kernel
theorem sub_row {n m : Nat} (hn : n < 64) (hm : m < 64) (hs : ∀ l, m.testBit l = true → n.testBit l = true) (l : Nat) : (n - m).testBit l = (n.testBit l && !m.testBit l) ∧ m ≤ n := by
  have he : n &&& m = m := by
    apply Nat.eq_of_testBit_eq
    intro l
    rw [Nat.testBit_and]
    have := hs l
    cases h1 : m.testBit l with
    | false => simp
    | true => simp [this h1]
  refine ⟨?_, ?_⟩
  · rw [sub_bits n hn m hm he, Nat.testBit_xor]
    have := hs l
    cases h1 : m.testBit l with
    | false => simp
    | true => simp [this h1]
  · rw [← he]; exact Nat.and_le_left
end Go.Proofs.YtbblbdacdpokeaaDoor.Gr
