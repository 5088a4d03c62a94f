/- Plain law, no program in it: the number of connected components of a finite graph, and a count that ties a graph to its dual. Conditions: those that each theorem names. -/
namespace Go.Proofs.Ytldmilpohappiaa.Gr

def cnt : Nat → (Nat → Bool) → Nat
  | 0, _ => 0
  | n + 1, p => cnt n p + (if p n then 1 else 0)

theorem cnt_congr {n : Nat} {p q : Nat → Bool} (h : ∀ k, k < n → p k = q k) : cnt n p = cnt n q := by
  induction n with
  | zero => rfl
  | succ n ih =>
    simp only [cnt]
    rw [ih (fun k hk => h k (by omega)), h n (by omega)]

theorem cnt_remove {n m : Nat} {p q : Nat → Bool} (hm : m < n) (hp : p m = true) (hq : q m = false) (h : ∀ k, k < n → k ≠ m → p k = q k) : cnt n q + 1 = cnt n p := by
  induction n with
  | zero => omega
  | succ n ih =>
    simp only [cnt]
    by_cases e : m = n
    · subst e
      rw [cnt_congr (p := p) (q := q) (fun k hk => h k (by omega) (by omega)), hp, hq]
      simp
    · rw [h n (by omega) (fun e' => e e'.symm)]
      have := ih (by omega) (fun k hk => h k (by omega))
      omega

theorem cnt_filter (n : Nat) (p : Nat → Bool) : cnt n p = ((List.range n).filter p).length := by
  induction n with
  | zero => rfl
  | succ n ih =>
    simp only [cnt, List.range_succ, List.filter_append, List.length_append, ih]
    by_cases h : p n = true <;> simp [h]

/-- Each element of a list without repetition has its own partner in another list: so it is no longer. -/
theorem rel_inj_le {α β : Type} [DecidableEq β] (Q : α → β → Prop) : ∀ (l : List α) (l' : List β), l.Nodup → (∀ a ∈ l, ∃ b ∈ l', Q a b) →
    (∀ a ∈ l, ∀ a' ∈ l, a ≠ a' → ∀ b, Q a b → Q a' b → False) → l.length ≤ l'.length := by
  intro l
  induction l with
  | nil => intros; simp
  | cons a l ih =>
    intro l' hn hq hd
    obtain ⟨b, hb, hab⟩ := hq a (by simp)
    have hn' := List.nodup_cons.1 hn
    have := ih (l'.erase b) hn'.2 (fun a' ha' => by
      obtain ⟨b', hb', hab'⟩ := hq a' (by simp [ha'])
      refine ⟨b', ?_, hab'⟩
      have hne : b' ≠ b := by
        rintro rfl
        exact hd a (by simp) a' (by simp [ha']) (fun e => hn'.1 (e ▸ ha')) _ hab hab'
      exact (List.mem_erase_of_ne hne).2 hb') (fun x hx y hy => hd x (by simp [hx]) y (by simp [hy]))
    rw [List.length_erase_of_mem hb] at this
    have : 0 < l'.length := List.length_pos_of_mem hb
    simp
    omega

inductive Conn (E : List (Nat × Nat)) (u : Nat) : Nat → Prop
  | refl : Conn E u u
  | step {v w : Nat} (h : Conn E u v) (e : (v, w) ∈ E ∨ (w, v) ∈ E) : Conn E u w

theorem Conn.trans {E : List (Nat × Nat)} {u v w : Nat} (h : Conn E u v) (k : Conn E v w) : Conn E u w := by
  induction k with
  | refl => exact h
  | step _ e ih => exact .step ih e
theorem Conn.symm {E : List (Nat × Nat)} {u v : Nat} (h : Conn E u v) : Conn E v u := by
  induction h with
  | refl => exact .refl
  | step _ e ih => exact (Conn.step .refl e.symm).trans ih
theorem Conn.mono {E E' : List (Nat × Nat)} (hs : ∀ e, e ∈ E → e ∈ E') {u v : Nat} (h : Conn E u v) : Conn E' u v := by
  induction h with
  | refl => exact .refl
  | step _ e ih => exact .step ih (e.imp (hs _) (hs _))
theorem Conn.one {E : List (Nat × Nat)} {u v : Nat} (h : (u, v) ∈ E) : Conn E u v := .step .refl (.inl h)
theorem Conn.cons_iff {E : List (Nat × Nat)} {x y u v : Nat} : Conn ((x, y) :: E) u v ↔ Conn E u v ∨ (Conn E u x ∧ Conn E y v) ∨ (Conn E u y ∧ Conn E x v) := by
  constructor
  · intro h
    induction h with
    | refl => exact .inl .refl
    | @step v w _ e ih =>
      have hE : ((v, w) ∈ E ∨ (w, v) ∈ E) ∨ (v = x ∧ w = y) ∨ (v = y ∧ w = x) := by
        rcases e with e | e
        · rcases List.mem_cons.1 e with e | e
          · injection e with e1 e2; exact .inr (.inl ⟨e1, e2⟩)
          · exact .inl (.inl e)
        · rcases List.mem_cons.1 e with e | e
          · injection e with e1 e2; exact .inr (.inr ⟨e2, e1⟩)
          · exact .inl (.inr e)
      rcases hE with hE | ⟨e1, e2⟩ | ⟨e1, e2⟩
      · rcases ih with ih | ⟨h1, h2⟩ | ⟨h1, h2⟩
        · exact .inl (.step ih hE)
        · exact .inr (.inl ⟨h1, .step h2 hE⟩)
        · exact .inr (.inr ⟨h1, .step h2 hE⟩)
      · rw [e2]
        rw [e1] at ih
        rcases ih with ih | ⟨h1, _⟩ | ⟨h1, _⟩
        · exact .inr (.inl ⟨ih, .refl⟩)
        · exact .inr (.inl ⟨h1, .refl⟩)
        · exact .inl h1
      · rw [e2]
        rw [e1] at ih
        rcases ih with ih | ⟨h1, _⟩ | ⟨h1, _⟩
        · exact .inr (.inr ⟨ih, .refl⟩)
        · exact .inl h1
        · exact .inr (.inr ⟨h1, .refl⟩)
  · have up : ∀ {a b : Nat}, Conn E a b → Conn ((x, y) :: E) a b := fun h => h.mono fun _ he => List.mem_cons_of_mem _ he
    rintro (h | ⟨h1, h2⟩ | ⟨h1, h2⟩)
    · exact up h
    · exact ((up h1).step (.inl List.mem_cons_self)).trans (up h2)
    · exact ((up h1).step (.inr List.mem_cons_self)).trans (up h2)

def Dec (E : List (Nat × Nat)) (R : Nat → Nat → Bool) : Prop := ∀ u v, R u v = true ↔ Conn E u v
theorem dec_ex (E : List (Nat × Nat)) : ∃ R, Dec E R := ⟨fun u v => @decide (Conn E u v) (Classical.propDecidable _), fun u v => by simp⟩
theorem Dec.of_mem {E E' : List (Nat × Nat)} {R : Nat → Nat → Bool} (h : Dec E R) (hs : ∀ e, e ∈ E ↔ e ∈ E') : Dec E' R :=
  fun u v => (h u v).trans ⟨Conn.mono fun e he => (hs e).1 he, Conn.mono fun e he => (hs e).2 he⟩
theorem Dec.uniq {E : List (Nat × Nat)} {R R' : Nat → Nat → Bool} (h : Dec E R) (h' : Dec E R') (u v : Nat) : R u v = R' u v := by
  rw [Bool.eq_iff_iff]
  exact (h u v).trans (h' u v).symm

def first (R : Nat → Nat → Bool) (v : Nat) : Bool := (List.range v).all fun u => !R u v
def comps (n : Nat) (R : Nat → Nat → Bool) : Nat := cnt n (first R)
theorem first_iff {R : Nat → Nat → Bool} {v : Nat} : first R v = true ↔ ∀ u, u < v → R u v = false := by simp [first]
theorem first_no {R : Nat → Nat → Bool} {v : Nat} : first R v = false ↔ ∃ u, u < v ∧ R u v = true := by
  rw [← Bool.not_eq_true, first_iff]
  constructor
  · intro h
    refine Classical.byContradiction fun hn => h fun u hu => ?_
    cases hr : R u v with
    | false => rfl
    | true => exact (hn ⟨u, hu, hr⟩).elim
  · rintro ⟨u, hu, hr⟩ h
    rw [h u hu] at hr
    cases hr
theorem comps_congr {n : Nat} {R R' : Nat → Nat → Bool} (h : ∀ u v, u < n → v < n → R u v = R' u v) : comps n R = comps n R' := by
  refine cnt_congr fun v hv => ?_
  rw [Bool.eq_iff_iff, first_iff, first_iff]
  exact ⟨fun hh u hu => (h u v (by omega) hv) ▸ hh u hu, fun hh u hu => (h u v (by omega) hv).symm ▸ hh u hu⟩
theorem Dec.comps_eq {E : List (Nat × Nat)} {R R' : Nat → Nat → Bool} (h : Dec E R) (h' : Dec E R') (n : Nat) : comps n R = comps n R' :=
  comps_congr fun u v _ _ => h.uniq h' u v

theorem min_ex {E : List (Nat × Nat)} {R : Nat → Nat → Bool} (hR : Dec E R) : ∀ v : Nat, ∃ m, m ≤ v ∧ Conn E m v ∧ first R m = true := by
  intro v
  induction v using Nat.strongRecOn with
  | _ v ih =>
    cases h : first R v with
    | true => exact ⟨v, Nat.le_refl _, .refl, h⟩
    | false =>
      obtain ⟨u, hu, hr⟩ := first_no.1 h
      obtain ⟨m, hm, hc, hf⟩ := ih u hu
      exact ⟨m, by omega, hc.trans ((hR _ _).1 hr), hf⟩
theorem first_le {E : List (Nat × Nat)} {R : Nat → Nat → Bool} (hR : Dec E R) {a b : Nat} (ha : first R a = true) (h : Conn E a b) : a ≤ b := by
  refine Classical.byContradiction fun hn => ?_
  have := first_iff.1 ha b (by omega)
  rw [(hR b a).2 h.symm] at this
  cases this
theorem first_uniq {E : List (Nat × Nat)} {R : Nat → Nat → Bool} (hR : Dec E R) {a b : Nat} (ha : first R a = true) (hb : first R b = true) (h : Conn E a b) : a = b :=
  Nat.le_antisymm (first_le hR ha h) (first_le hR hb h.symm)

theorem comps_same {E : List (Nat × Nat)} {R R' : Nat → Nat → Bool} {x y n : Nat} (hR : Dec E R) (hR' : Dec ((x, y) :: E) R') (h : Conn E x y) : comps n R' = comps n R := by
  refine comps_congr fun u v _ _ => ?_
  rw [Bool.eq_iff_iff, hR, hR', Conn.cons_iff]
  exact ⟨fun hh => by
    rcases hh with hh | ⟨h1, h2⟩ | ⟨h1, h2⟩
    · exact hh
    · exact (h1.trans h).trans h2
    · exact (h1.trans h.symm).trans h2, .inl⟩

theorem comps_less {E : List (Nat × Nat)} {R R' : Nat → Nat → Bool} {x y n : Nat} (hx : x < n) (hy : y < n) (hR : Dec E R) (hR' : Dec ((x, y) :: E) R') (h : ¬ Conn E x y) :
    comps n R' + 1 = comps n R := by
  obtain ⟨a, hax, hca, hfa⟩ := min_ex hR x
  obtain ⟨b, hby, hcb, hfb⟩ := min_ex hR y
  have hab : a ≠ b := fun e => h (hca.symm.trans (e ▸ hcb))
  have join : Conn ((x, y) :: E) a b := Conn.cons_iff.2 (.inr (.inl ⟨hca, hcb.symm⟩))
  refine cnt_remove (m := max a b) (by omega) ?_ ?_ ?_
  · rcases Nat.le_total a b with hl | hl
    · rw [Nat.max_eq_right hl]; exact hfb
    · rw [Nat.max_eq_left hl]; exact hfa
  · refine first_no.2 ?_
    rcases Nat.le_total a b with hl | hl
    · rw [Nat.max_eq_right hl]; exact ⟨a, by omega, (hR' _ _).2 join⟩
    · rw [Nat.max_eq_left hl]; exact ⟨b, by omega, (hR' _ _).2 join.symm⟩
  · intro v hv hne
    rw [Bool.eq_iff_iff, first_iff, first_iff]
    constructor
    · intro hf u hu
      have hfv : first R v = true := first_iff.2 hf
      cases hr : R' u v with
      | false => rfl
      | true =>
        exfalso
        rcases Conn.cons_iff.1 ((hR' _ _).1 hr) with h0 | ⟨h1, h2⟩ | ⟨h1, h2⟩
        · have := hf u hu
          rw [(hR u v).2 h0] at this
          cases this
        · have e1 : v = b := first_uniq hR hfv hfb (h2.symm.trans hcb.symm)
          have e2 : a ≤ u := first_le hR hfa (hca.trans h1.symm)
          omega
        · have e1 : v = a := first_uniq hR hfv hfa (h2.symm.trans hca.symm)
          have e2 : b ≤ u := first_le hR hfb (hcb.trans h1.symm)
          omega
    · intro hf u hu
      cases hr : R u v with
      | false => rfl
      | true =>
        have := hf u hu
        rw [(hR' u v).2 (Conn.cons_iff.2 (.inl ((hR u v).1 hr)))] at this
        cases this

/-- The number of components is the length of a list that has one vertex of each. -/
theorem comps_length {E : List (Nat × Nat)} {R : Nat → Nat → Bool} {n : Nat} (hR : Dec E R) (L : List Nat) (hn : L.Nodup) (hlt : ∀ l ∈ L, l < n)
    (hpw : ∀ a ∈ L, ∀ b ∈ L, a ≠ b → ¬ Conn E a b) (hall : ∀ v, v < n → ∃ l ∈ L, Conn E l v) : comps n R = L.length := by
  unfold comps
  rw [cnt_filter]
  refine Nat.le_antisymm ?_ ?_
  · refine rel_inj_le (fun a b => Conn E b a) _ _ (List.Pairwise.filter _ List.nodup_range) ?_ ?_
    · intro a ha
      have := List.mem_filter.1 ha
      exact hall a (by simpa using this.1)
    · intro a ha a' ha' hne b h1 h2
      exact hne (first_uniq hR (List.mem_filter.1 ha).2 (List.mem_filter.1 ha').2 (h1.symm.trans h2))
  · refine rel_inj_le (fun a b => Conn E b a) _ _ hn ?_ ?_
    · intro a ha
      obtain ⟨m, hm, hc, hf⟩ := min_ex hR a
      refine ⟨m, List.mem_filter.2 ⟨?_, hf⟩, hc⟩
      have := hlt a ha
      simp
      omega
    · intro a ha a' ha' hne b h1 h2
      exact hpw a ha a' ha' hne (h1.symm.trans h2)

theorem comps_nil {R : Nat → Nat → Bool} (hR : Dec [] R) (n : Nat) : comps n R = n := by
  have hno : ∀ {u v : Nat}, Conn [] u v → u = v := by
    intro u v h
    cases h with
    | refl => rfl
    | step _ e => simp at e
  rw [comps_length hR (List.range n) List.nodup_range (by simp) (fun a _ b _ hne h => hne (hno h)) (fun v hv => ⟨v, by simpa using hv, .refl⟩)]
  simp
theorem comps_full {E : List (Nat × Nat)} {R : Nat → Nat → Bool} {n : Nat} (hR : Dec E R) (hn : 0 < n) (h : ∀ v, v < n → Conn E 0 v) : comps n R = 1 := by
  rw [comps_length hR [0] (by simp) (by simpa using hn) (by simp) (fun v hv => ⟨0, by simp, h v hv⟩)]
  rfl

/-! ### The dual -/
abbrev DE := (Nat × Nat) × (Nat × Nat)

def one (b : Bool) : Nat := if b then 1 else 0
def cut (C : Nat → Bool) (f : DE) : Bool := C f.1.1 != C f.1.2
def deg (C : Nat → Bool) (q : Nat) : List DE → Nat
  | [] => 0
  | f :: r => one (cut C f) * (one (f.2.1 == q) + one (f.2.2 == q)) + deg C q r
def wgt (C K : Nat → Bool) : List DE → Nat
  | [] => 0
  | f :: r => one (cut C f) * (one (K f.2.1) + one (K f.2.2)) + wgt C K r
theorem wgt_append (C K : Nat → Bool) (a b : List DE) : wgt C K (a ++ b) = wgt C K a + wgt C K b := by
  induction a with
  | nil => simp [wgt]
  | cons f r ih => simp only [List.cons_append, wgt, ih]; omega

def sumK (K : Nat → Bool) (g : Nat → Nat) : Nat → Nat
  | 0 => 0
  | n + 1 => sumK K g n + one (K n) * g n
theorem sumK_add (K : Nat → Bool) (g h : Nat → Nat) (n : Nat) : sumK K (fun q => g q + h q) n = sumK K g n + sumK K h n := by
  induction n with
  | zero => rfl
  | succ n ih => simp only [sumK, ih, Nat.mul_add]; omega
theorem sumK_zero (K : Nat → Bool) (n : Nat) : sumK K (fun _ => 0) n = 0 := by
  induction n with
  | zero => rfl
  | succ n ih => simp only [sumK, ih]; simp
theorem sumK_mul (K : Nat → Bool) (c : Nat) (g : Nat → Nat) (n : Nat) : sumK K (fun q => c * g q) n = c * sumK K g n := by
  induction n with
  | zero => simp [sumK]
  | succ n ih => simp only [sumK, ih, Nat.mul_add]; rw [Nat.mul_left_comm]
theorem sumK_point (K : Nat → Bool) (p : Nat) : ∀ n : Nat, sumK K (fun q => one (p == q)) n = if p < n then one (K p) else 0 := by
  intro n
  induction n with
  | zero => simp [sumK]
  | succ n ih =>
    simp only [sumK, ih]
    by_cases e : p = n
    · subst e; simp [one]
    · have h1 : (p == n) = false := by simpa using e
      by_cases hl : p < n
      · rw [if_pos hl, if_pos (by omega), h1]; simp [one]
      · rw [if_neg hl, if_neg (by omega), h1]; simp [one]
theorem sumK_deg (C K : Nat → Bool) (n : Nat) : ∀ l : List DE, (∀ f ∈ l, f.2.1 < n ∧ f.2.2 < n) → sumK K (fun q => deg C q l) n = wgt C K l := by
  intro l
  induction l with
  | nil => intro _; simp only [deg, wgt]; exact sumK_zero K n
  | cons f r ih =>
    intro h
    have hf := h f (by simp)
    simp only [deg, wgt]
    rw [sumK_add, sumK_mul, sumK_add, sumK_point, sumK_point, if_pos hf.1, if_pos hf.2, ih fun g hg => h g (by simp [hg])]
theorem sumK_even (K : Nat → Bool) (g : Nat → Nat) (n : Nat) (h : ∀ q, q < n → g q % 2 = 0) : sumK K g n % 2 = 0 := by
  induction n with
  | zero => rfl
  | succ n ih =>
    simp only [sumK]
    have h1 := ih fun q hq => h q (by omega)
    have h2 := h n (by omega)
    cases K n <;> simp [one] <;> omega
theorem wgt_zero (C K : Nat → Bool) : ∀ l : List DE, (∀ f ∈ l, cut C f = false) → wgt C K l = 0 := by
  intro l
  induction l with
  | nil => intro _; rfl
  | cons f r ih =>
    intro h
    simp only [wgt, h f (by simp), ih fun g hg => h g (by simp [hg])]
    simp [one]
theorem wgt_even (C K : Nat → Bool) : ∀ l : List DE, (∀ f ∈ l, K f.2.1 = K f.2.2) → wgt C K l % 2 = 0 := by
  intro l
  induction l with
  | nil => intro _; rfl
  | cons f r ih =>
    intro h
    have h1 := ih fun g hg => h g (by simp [hg])
    simp only [wgt, h f (by simp)]
    cases cut C f <;> cases K f.2.2 <;> simp [one] <;> omega

/-- WHERE A SET OF VERTICES IS LEFT, ITS BORDER GOES ROUND: an edge whose ends are not tied by the edges ahead of it has a dual edge whose ends are tied by the dual edges behind it. -/
theorem tied {n' : Nat} {Es : List DE} (hd : ∀ f ∈ Es, f.2.1 < n' ∧ f.2.2 < n') (hev : ∀ (C : Nat → Bool) (q : Nat), q < n' → deg C q Es % 2 = 0)
    {A B : List DE} {e : DE} (hs : Es = A ++ e :: B) : Conn (A.map (·.1)) e.1.1 e.1.2 ∨ Conn (B.map (·.2)) e.2.1 e.2.2 := by
  refine Classical.byContradiction fun hno => ?_
  have h1 : ¬ Conn (A.map (·.1)) e.1.1 e.1.2 := fun h => hno (.inl h)
  have h2 : ¬ Conn (B.map (·.2)) e.2.1 e.2.2 := fun h => hno (.inr h)
  obtain ⟨RA, hRA⟩ := dec_ex (A.map (·.1))
  obtain ⟨RB, hRB⟩ := dec_ex (B.map (·.2))
  have htot := sumK_deg (RA e.1.1) (RB e.2.1) n' Es hd
  have heven := sumK_even (RB e.2.1) (fun q => deg (RA e.1.1) q Es) n' (fun q hq => hev _ q hq)
  rw [htot, hs, wgt_append] at heven
  have z : wgt (RA e.1.1) (RB e.2.1) A = 0 := by
    refine wgt_zero _ _ _ fun f hf => ?_
    have hm : (f.1.1, f.1.2) ∈ A.map (·.1) := List.mem_map.2 ⟨f, hf, rfl⟩
    have : RA e.1.1 f.1.1 = RA e.1.1 f.1.2 := by
      rw [Bool.eq_iff_iff, hRA, hRA]
      exact ⟨fun h => h.step (.inl hm), fun h => h.step (.inr hm)⟩
    simp [cut, this]
  have ev : wgt (RA e.1.1) (RB e.2.1) B % 2 = 0 := by
    refine wgt_even _ _ _ fun f hf => ?_
    have hm : (f.2.1, f.2.2) ∈ B.map (·.2) := List.mem_map.2 ⟨f, hf, rfl⟩
    rw [Bool.eq_iff_iff, hRB, hRB]
    exact ⟨fun h => h.step (.inl hm), fun h => h.step (.inr hm)⟩
  have c1 : RA e.1.1 e.1.1 = true := (hRA _ _).2 .refl
  have c2 : RA e.1.1 e.1.2 = false := by
    cases h : RA e.1.1 e.1.2 with
    | false => rfl
    | true => exact (h1 ((hRA _ _).1 h)).elim
  have k1 : RB e.2.1 e.2.1 = true := (hRB _ _).2 .refl
  have k2 : RB e.2.1 e.2.2 = false := by
    cases h : RB e.2.1 e.2.2 with
    | false => rfl
    | true => exact (h2 ((hRB _ _).1 h)).elim
  simp only [wgt, cut, c1, c2, k1, k2, z] at heven
  simp [one] at heven
  omega

theorem comps_cons_cases {E : List (Nat × Nat)} {R R' : Nat → Nat → Bool} {x y n : Nat} (hx : x < n) (hy : y < n) (hR : Dec E R) (hR' : Dec ((x, y) :: E) R') :
    (Conn E x y ∧ comps n R' = comps n R) ∨ comps n R' + 1 = comps n R := by
  by_cases h : Conn E x y
  · exact .inl ⟨h, comps_same hR hR' h⟩
  · exact .inr (comps_less hx hy hR hR' h)

/-- A GRAPH AND ITS DUAL: the components of some edges, and those of the dual edges of the others. -/
theorem dual_count {n n' : Nat} {Es : List DE} (hn : 0 < n) (hn' : 0 < n') (hp : ∀ f ∈ Es, f.1.1 < n ∧ f.1.2 < n) (hd : ∀ f ∈ Es, f.2.1 < n' ∧ f.2.2 < n')
    (hev : ∀ (C : Nat → Bool) (q : Nat), q < n' → deg C q Es % 2 = 0) (hcp : ∀ v, v < n → Conn (Es.map (·.1)) 0 v) (hcd : ∀ v, v < n' → Conn (Es.map (·.2)) 0 v)
    (hE : Es.length + 2 = n + n') (A B : List DE) (hs : Es = A ++ B) {R R' : Nat → Nat → Bool} (hR : Dec (A.map (·.1)) R) (hR' : Dec (B.map (·.2)) R') :
    comps n R + A.length + 1 = comps n' R' + n := by
  have step : ∀ (A B : List DE) (e : DE) (R R' S S' : Nat → Nat → Bool), Es = A ++ e :: B → Dec (A.map (·.1)) R → Dec ((e :: B).map (·.2)) R' → Dec ((A ++ [e]).map (·.1)) S → Dec (B.map (·.2)) S' →
      comps n R + comps n' S' ≤ comps n S + 1 + comps n' R' := by
    intro A B e R R' S S' hs hR hR' hS hS'
    have he : e ∈ Es := by rw [hs]; simp
    have hS2 : Dec ((e.1.1, e.1.2) :: A.map (·.1)) S := hS.of_mem fun x => by simp [or_comm]
    have hR2 : Dec ((e.2.1, e.2.2) :: B.map (·.2)) R' := hR'
    have c1 := comps_cons_cases (hp e he).1 (hp e he).2 hR hS2
    have c2 := comps_cons_cases (hd e he).1 (hd e he).2 hS' hR2
    rcases tied hd hev hs with ht | ht
    · have := comps_same (n := n) hR hS2 ht
      rcases c2 with ⟨_, c2⟩ | c2 <;> omega
    · have := comps_same (n := n') hS' hR2 ht
      rcases c1 with ⟨_, c1⟩ | c1 <;> omega
  have lower : ∀ (k : Nat) (A B : List DE) (R R' : Nat → Nat → Bool), A.length = k → Es = A ++ B → Dec (A.map (·.1)) R → Dec (B.map (·.2)) R' → comps n' R' + n ≤ comps n R + A.length + 1 := by
    intro k
    induction k with
    | zero =>
      intro A B R R' hk hs hR hR'
      obtain rfl : A = [] := List.eq_nil_of_length_eq_zero hk
      have hs' : Es = B := by simpa using hs
      rw [comps_nil hR n, comps_full hR' hn' (by rw [← hs']; exact hcd)]
      simp
      omega
    | succ k ih =>
      intro A B R R' hk hs hR hR'
      have hne : A ≠ [] := by intro e; rw [e] at hk; simp at hk
      obtain ⟨A0, e, rfl⟩ : ∃ A0 e, A = A0 ++ [e] := ⟨A.dropLast, A.getLast hne, (List.dropLast_concat_getLast hne).symm⟩
      obtain ⟨R0, hR0⟩ := dec_ex (A0.map (·.1))
      obtain ⟨R1, hR1⟩ := dec_ex ((e :: B).map (·.2))
      have hs1 : Es = A0 ++ e :: B := by rw [hs]; simp
      have h1 := ih A0 (e :: B) R0 R1 (by simpa using hk) hs1 hR0 hR1
      have h2 := step A0 B e R0 R1 R R' hs1 hR0 hR1 hR hR'
      simp
      omega
  have upper : ∀ (B A : List DE) (R R' : Nat → Nat → Bool), Es = A ++ B → Dec (A.map (·.1)) R → Dec (B.map (·.2)) R' → comps n R + A.length + 1 ≤ comps n' R' + n := by
    intro B
    induction B with
    | nil =>
      intro A R R' hs hR hR'
      have hs' : Es = A := by simpa using hs
      rw [comps_nil hR' n', comps_full hR hn (by rw [← hs']; exact hcp)]
      rw [hs'] at hE
      omega
    | cons e B ih =>
      intro A R R' hs hR hR'
      obtain ⟨R0, hR0⟩ := dec_ex ((A ++ [e]).map (·.1))
      obtain ⟨R1, hR1⟩ := dec_ex (B.map (·.2))
      have h1 := ih (A ++ [e]) R0 R1 (by rw [hs]; simp) hR0 hR1
      have h2 := step A B e R R' R0 R1 hs hR hR' hR0 hR1
      simp at h1
      omega
  exact Nat.le_antisymm (upper B A R R' hs hR hR') (lower A.length A B R R' rfl hs hR hR')
end Go.Proofs.Ytldmilpohappiaa.Gr
