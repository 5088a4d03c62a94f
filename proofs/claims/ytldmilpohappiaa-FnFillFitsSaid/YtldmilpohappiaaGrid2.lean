/- Plain law, no program in it: Euler's number of an image is the number of its parts less that of its holes. Conditions: at least one row and one column. -/
import Derived.Test.YtldmilpohappiaaGrid
import Derived.Test.YtldmilpohappiaaPure
namespace Go.Proofs.Ytldmilpohappiaa.Gr

theorem aE_bounds {h w : Nat} : ∀ f ∈ aE h w, (f.1.1 < h * w ∧ f.1.2 < h * w) ∧ (f.2.1 < (h - 1) * (w - 1) + 1 ∧ f.2.2 < (h - 1) * (w - 1) + 1) := by
  intro f hf
  rcases List.mem_append.1 hf with hf | hf
  · obtain ⟨i, j, hi, hj, rfl⟩ := mem_hE.1 hf
    exact ⟨⟨lin_lt hi (by omega), lin_lt hi hj⟩, cx_lt _ _, cx_lt _ _⟩
  · obtain ⟨i, j, hi, hj, rfl⟩ := mem_vE.1 hf
    exact ⟨⟨lin_lt (by omega) hj, lin_lt hi hj⟩, cx_lt _ _, cx_lt _ _⟩

theorem deg_even {h w : Nat} (C : Nat → Bool) (q : Nat) (hq : q < (h - 1) * (w - 1) + 1) : deg C q (aE h w) % 2 = 0 := by
  rcases Nat.eq_zero_or_pos q with e | e
  · subst e
    -- the whole sum is even, all other terms are
    have htot := sumK_deg C (fun _ => true) ((h - 1) * (w - 1) + 1) (aE h w) (fun f hf => (aE_bounds f hf).2)
    have hev := wgt_even C (fun _ => true) (aE h w) (fun _ _ => rfl)
    have split : ∀ n, (∀ q, 0 < q → q < n + 1 → deg C q (aE h w) % 2 = 0) → sumK (fun _ => true) (fun q => deg C q (aE h w)) (n + 1) % 2 = deg C 0 (aE h w) % 2 := by
      intro n
      induction n with
      | zero => intro _; simp [sumK, one]
      | succ n ih =>
        intro hh
        rw [sumK]
        have h1 := ih fun q h0 h1 => hh q h0 (by omega)
        have h2 := hh (n + 1) (by omega) (by omega)
        simp only [one, if_true]
        omega
    have hs := split ((h - 1) * (w - 1)) (fun q h0 h1 => by
      obtain ⟨I, J, a, b, c, d, rfl⟩ := cx_ex h0 h1
      exact deg_even_in a b c d C)
    rw [htot] at hs
    omega
  · obtain ⟨I, J, a, b, c, d, rfl⟩ := cx_ex e hq
    exact deg_even_in a b c d C

theorem conn_cells {h w : Nat} : ∀ i j, i < h → j < w → Conn ((aE h w).map (·.1)) 0 (i * w + j) := by
  have row : ∀ i, i < h → Conn ((aE h w).map (·.1)) 0 (i * w) → ∀ j, j < w → Conn ((aE h w).map (·.1)) 0 (i * w + j) := by
    intro i hi h0 j
    induction j with
    | zero => intro _; exact h0
    | succ j ih =>
      intro hj
      refine (ih (by omega)).step (.inl (List.mem_map.2 ⟨_, List.mem_append.2 (.inl (mem_hE.2 ⟨i, j, hi, hj, rfl⟩)), rfl⟩))
  intro i
  induction i with
  | zero => intro j hi hj; exact row 0 hi (by rw [Nat.zero_mul]; exact .refl) j hj
  | succ i ih =>
    intro j hi hj
    refine row (i + 1) hi ?_ j hj
    have := ih 0 (by omega) (by omega)
    rw [Nat.add_zero] at this
    refine this.step (.inl (List.mem_map.2 ⟨_, List.mem_append.2 (.inr (mem_vE.2 ⟨i, 0, hi, by omega, rfl⟩)), ?_⟩))
    simp
theorem conn_corners {h w : Nat} : ∀ q, q < (h - 1) * (w - 1) + 1 → Conn ((aE h w).map (·.2)) 0 q := by
  intro q hq
  rcases Nat.eq_zero_or_pos q with e | e
  · subst e; exact .refl
  · obtain ⟨I, J, hI, hIh, hJ, hJw, rfl⟩ := cx_ex e hq
    have go : ∀ j, j < w → Conn ((aE h w).map (·.2)) 0 (cx h w I j) := by
      intro j
      induction j with
      | zero => intro _; rw [cx_out (by omega)]; exact .refl
      | succ j ih =>
        intro hj
        refine (ih (by omega)).step (.inl (List.mem_map.2 ⟨_, List.mem_append.2 (.inr (mem_vE.2 ⟨I - 1, j, by omega, by omega, rfl⟩)), ?_⟩))
        simp only [show I - 1 + 1 = I from by omega]
    exact go J hJw
theorem length_flat {α : Type} (n m : Nat) (F : Nat → Nat → α) : ((List.range n).flatMap fun i => (List.range m).map (F i)).length = n * m := by
  induction n with
  | zero => simp
  | succ n ih =>
    rw [List.range_succ, List.flatMap_append, List.length_append, ih]
    simp [Nat.add_mul]
theorem length_hE (h w : Nat) : (hE h w).length = h * (w - 1) := length_flat _ _ _
theorem length_vE (h w : Nat) : (vE h w).length = (h - 1) * w := length_flat _ _ _
theorem length_aE {h w : Nat} (hh : 0 < h) (hw : 0 < w) : (aE h w).length + 2 = h * w + ((h - 1) * (w - 1) + 1) := by
  unfold aE
  rw [List.length_append, length_hE, length_vE]
  obtain ⟨a, rfl⟩ : ∃ a, h = a + 1 := ⟨h - 1, by omega⟩
  obtain ⟨b, rfl⟩ : ∃ b, w = b + 1 := ⟨w - 1, by omega⟩
  simp only [Nat.add_sub_cancel, Nat.add_mul, Nat.mul_add]
  omega

theorem deg_filter (C : Nat → Bool) (q : Nat) (p : DE → Bool) (l : List DE) : deg C q (l.filter p ++ l.filter (fun e => !p e)) = deg C q l := by
  rw [deg_append]
  induction l with
  | nil => rfl
  | cons f r ih => cases hp : p f <;> simp [hp, deg] <;> omega
theorem length_filter_not (p : DE → Bool) (l : List DE) : (l.filter p ++ l.filter (fun e => !p e)).length = l.length := by
  rw [List.length_append]
  induction l with
  | nil => rfl
  | cons f r ih => cases hp : p f <;> simp [hp] <;> omega
theorem mem_filter_not (p : DE → Bool) (l : List DE) (e : DE) : e ∈ l.filter p ++ l.filter (fun e => !p e) ↔ e ∈ l := by
  rw [List.mem_append, List.mem_filter, List.mem_filter]
  cases p e <;> simp

/-- The count, for a parting of all pairs of neighbors into those of set cells and the others. -/
theorem grid_count {h w : Nat} (hh : 0 < h) (hw : 0 < w) (p : DE → Bool) {R R' : Nat → Nat → Bool} (hR : Dec (((aE h w).filter p).map (·.1)) R) (hR' : Dec (((aE h w).filter fun e => !p e).map (·.2)) R') :
    comps (h * w) R + ((aE h w).filter p).length + 1 = comps ((h - 1) * (w - 1) + 1) R' + h * w := by
  have up : ∀ {f : DE → Nat × Nat} {u v : Nat}, Conn ((aE h w).map f) u v → Conn (((aE h w).filter p ++ (aE h w).filter (fun e => !p e)).map f) u v := by
    intro f u v hc
    refine hc.mono fun e he => ?_
    obtain ⟨x, hx, rfl⟩ := List.mem_map.1 he
    exact List.mem_map.2 ⟨x, (mem_filter_not p _ x).2 hx, rfl⟩
  refine dual_count (Es := (aE h w).filter p ++ (aE h w).filter (fun e => !p e)) (Nat.mul_pos hh hw) (by omega) (fun f hf => (aE_bounds f ((mem_filter_not p _ f).1 hf)).1) (fun f hf => (aE_bounds f ((mem_filter_not p _ f).1 hf)).2)
    (fun C q hq => by rw [deg_filter]; exact deg_even C q hq) ?_ (fun q hq => up (conn_corners q hq)) (by rw [length_filter_not]; exact length_aE hh hw) _ _ rfl hR hR'
  intro v hv
  have hlt : v / w < h := (Nat.div_lt_iff_lt_mul hw).2 hv
  have := conn_cells (h := h) (w := w) (v / w) (v % w) hlt (Nat.mod_lt _ hw)
  rw [Nat.mul_comm, Nat.div_add_mod] at this
  exact up this

/-! ### The two sides, counted by cells -/
section
variable {h w : Nat} {S : Nat → Nat → Bool}

/-- Both cells of a pair of neighbors are set. -/
def both (w : Nat) (S : Nat → Nat → Bool) (f : DE) : Bool := S (f.1.1 / w) (f.1.1 % w) && S (f.1.2 / w) (f.1.2 % w)
theorem divmod {i j : Nat} (hj : j < w) : (i * w + j) / w = i ∧ (i * w + j) % w = j := by
  have hw : 0 < w := by omega
  rw [Nat.mul_comm, Nat.mul_add_div hw, Nat.mul_add_mod, Nat.div_eq_of_lt hj, Nat.mod_eq_of_lt hj]
  exact ⟨by omega, rfl⟩
theorem both_h {i j : Nat} (hj : j + 1 < w) (q : Nat × Nat) : both w S ((i * w + j, i * w + (j + 1)), q) = (S i j && S i (j + 1)) := by
  unfold both
  simp only [(divmod (w := w) (i := i) (j := j) (by omega)).1, (divmod (w := w) (i := i) (j := j) (by omega)).2, (divmod (w := w) (i := i) hj).1, (divmod (w := w) (i := i) hj).2]
theorem both_v {i j : Nat} (hj : j < w) (q : Nat × Nat) : both w S ((i * w + j, (i + 1) * w + j), q) = (S i j && S (i + 1) j) := by
  unfold both
  simp only [(divmod (w := w) (i := i) hj).1, (divmod (w := w) (i := i) hj).2, (divmod (w := w) (i := i + 1) hj).1, (divmod (w := w) (i := i + 1) hj).2]

theorem mem_bb {a b : Nat} : (a, b) ∈ ((aE h w).filter (both w S)).map (·.1) → ∃ i j k l, i < h ∧ j < w ∧ k < h ∧ l < w ∧ a = i * w + j ∧ b = k * w + l ∧ S i j = true ∧ S k l = true ∧ Adj false i j k l := by
  intro hm
  obtain ⟨e, he, hab⟩ := List.mem_map.1 hm
  obtain ⟨he, hb⟩ := List.mem_filter.1 he
  rcases List.mem_append.1 he with he | he
  · obtain ⟨i, j, hi, hj, rfl⟩ := mem_hE.1 he
    rw [both_h hj] at hb
    injection hab with h1 h2
    simp only [Bool.and_eq_true] at hb
    exact ⟨i, j, i, j + 1, hi, by omega, hi, hj, h1.symm, h2.symm, hb.1, hb.2, by unfold Adj; omega⟩
  · obtain ⟨i, j, hi, hj, rfl⟩ := mem_vE.1 he
    rw [both_v hj] at hb
    injection hab with h1 h2
    simp only [Bool.and_eq_true] at hb
    exact ⟨i, j, i + 1, j, by omega, hj, hi, hj, h1.symm, h2.symm, hb.1, hb.2, by unfold Adj; omega⟩

/-- A tie over set neighbors is a way over set cells. -/
theorem conn_reach {i j v : Nat} (hj : j < w) (hc : Conn (((aE h w).filter (both w S)).map (·.1)) (i * w + j) v) :
    v = i * w + j ∨ (S i j = true ∧ ∃ k l, l < w ∧ v = k * w + l ∧ S k l = true ∧ Reach S false i j k l) := by
  induction hc with
  | refl => exact .inl rfl
  | @step a b _ e ih =>
    have hx : ∃ i' j' k l, j' < w ∧ l < w ∧ a = i' * w + j' ∧ b = k * w + l ∧ S i' j' = true ∧ S k l = true ∧ Adj false i' j' k l := by
      rcases e with e | e
      · obtain ⟨i', j', k, l, _, h1, _, h2, h3, h4, h5, h6, h7⟩ := mem_bb e
        exact ⟨i', j', k, l, h1, h2, h3, h4, h5, h6, h7⟩
      · obtain ⟨i', j', k, l, _, h1, _, h2, h3, h4, h5, h6, h7⟩ := mem_bb e
        exact ⟨k, l, i', j', h2, h1, h4, h3, h6, h5, h7.symm⟩
    obtain ⟨i', j', k, l, hj', hl, ea, eb, s1, s2, ad⟩ := hx
    refine .inr ?_
    rcases ih with ih | ⟨s0, k', l', hl', ea', _, hr⟩
    · rw [ih] at ea
      obtain ⟨rfl, rfl⟩ := lin_inj hj hj' ea
      exact ⟨s1, k, l, hl, eb, s2, .step .refl ad s2⟩
    · rw [ea'] at ea
      obtain ⟨rfl, rfl⟩ := lin_inj hl' hj' ea
      exact ⟨s0, k, l, hl, eb, s2, .step hr ad s2⟩

theorem reach_conn (hS : ∀ i j, S i j = true → i < h ∧ j < w) {i j k l : Nat} (s : S i j = true) (hr : Reach S false i j k l) : Conn (((aE h w).filter (both w S)).map (·.1)) (i * w + j) (k * w + l) := by
  induction hr with
  | refl => exact .refl
  | @step a b m n hr ad t ih =>
    have sa := hr.mem s
    obtain ⟨ha, hb⟩ := hS _ _ sa
    obtain ⟨hm, hn⟩ := hS _ _ t
    have inE : ∀ e : DE, e ∈ aE h w → both w S e = true → e.1 ∈ ((aE h w).filter (both w S)).map (·.1) := fun e h1 h2 => List.mem_map.2 ⟨e, List.mem_filter.2 ⟨h1, h2⟩, rfl⟩
    have right : ∀ i j, i < h → j + 1 < w → S i j = true → S i (j + 1) = true → (i * w + j, i * w + (j + 1)) ∈ ((aE h w).filter (both w S)).map (·.1) := fun i j h1 h2 h3 h4 =>
      inE ((i * w + j, i * w + (j + 1)), _) (List.mem_append.2 (.inl (mem_hE.2 ⟨i, j, h1, h2, rfl⟩))) (by rw [both_h h2, h3, h4]; rfl)
    have down : ∀ i j, i + 1 < h → j < w → S i j = true → S (i + 1) j = true → (i * w + j, (i + 1) * w + j) ∈ ((aE h w).filter (both w S)).map (·.1) := fun i j h1 h2 h3 h4 =>
      inE ((i * w + j, (i + 1) * w + j), _) (List.mem_append.2 (.inr (mem_vE.2 ⟨i, j, h1, h2, rfl⟩))) (by rw [both_v h2, h3, h4]; rfl)
    obtain ⟨c1, c2, c3, c4, c5⟩ := ad
    have cases4 : (m = a ∧ n = b) ∨ (m = a ∧ n = b + 1) ∨ (m = a ∧ b = n + 1) ∨ (m = a + 1 ∧ n = b) ∨ (a = m + 1 ∧ n = b) := by
      rcases c5 with c5 | c5 | c5
      · cases c5
      · omega
      · omega
    rcases cases4 with ⟨rfl, rfl⟩ | ⟨rfl, rfl⟩ | ⟨rfl, rfl⟩ | ⟨rfl, rfl⟩ | ⟨rfl, rfl⟩
    · exact ih
    · exact ih.step (.inl (right _ _ ha hn sa t))
    · exact ih.step (.inr (right _ _ ha hb t sa))
    · exact ih.step (.inl (down _ _ hm hn sa t))
    · exact ih.step (.inr (down _ _ ha hn t sa))

/-- How many components the set cells make, the others alone: parts and cells that are not set. -/
theorem comps_parts (hS : ∀ i j, S i j = true → i < h ∧ j < w) (fB : Nat × Nat → Bool) (hf : ∀ c, fB c = true ↔ FirstIn S false c.1 c.2) {R : Nat → Nat → Bool} (hR : Dec (((aE h w).filter (both w S)).map (·.1)) R) :
    comps (h * w) R = ((cellsL h w).filter fun c => !S c.1 c.2 || fB c).length := by
  rw [comps_length hR (((cellsL h w).filter fun c => !S c.1 c.2 || fB c).map fun c => c.1 * w + c.2)]
  · simp
  · rw [List.nodup_iff_pairwise_ne, List.pairwise_map]
    refine List.Pairwise.imp_of_mem ?_ (List.Pairwise.filter _ (nodup_cellsL h w))
    intro a b ha hb hne e
    have ha := (mem_cellsL.1 (List.mem_filter.1 ha).1).2
    have hb := (mem_cellsL.1 (List.mem_filter.1 hb).1).2
    obtain ⟨e1, e2⟩ := lin_inj ha hb e
    exact hne (Prod.ext e1 e2)
  · intro l hl
    obtain ⟨c, hc, rfl⟩ := List.mem_map.1 hl
    have := mem_cellsL.1 (List.mem_filter.1 hc).1
    exact lin_lt this.1 this.2
  · intro a ha b hb hne hc
    obtain ⟨c, hcm, rfl⟩ := List.mem_map.1 ha
    obtain ⟨d, hdm, rfl⟩ := List.mem_map.1 hb
    obtain ⟨hc1, hc2⟩ := List.mem_filter.1 hcm
    obtain ⟨hd1, hd2⟩ := List.mem_filter.1 hdm
    have hcc := mem_cellsL.1 hc1
    have hdd := mem_cellsL.1 hd1
    rcases conn_reach hcc.2 hc with e | ⟨s0, k, l, hl, e, s1, hr⟩
    · exact hne e.symm
    · obtain ⟨rfl, rfl⟩ := lin_inj hdd.2 hl e
      rw [s0] at hc2
      rw [s1] at hd2
      obtain ⟨e1, e2⟩ := first_same ((hf c).1 (by simpa using hc2)) ((hf d).1 (by simpa using hd2)) hr
      exact hne (by rw [e1, e2])
  · intro v hv
    have hw : 0 < w := by
      rcases Nat.eq_zero_or_pos w with e | e
      · rw [e] at hv; omega
      · exact e
    have hlt : v / w < h := (Nat.div_lt_iff_lt_mul hw).2 hv
    have hmod := Nat.mod_lt v hw
    have ev : v / w * w + v % w = v := by rw [Nat.mul_comm]; exact Nat.div_add_mod v w
    cases hs : S (v / w) (v % w) with
    | false =>
      refine ⟨v, List.mem_map.2 ⟨(v / w, v % w), List.mem_filter.2 ⟨mem_cellsL.2 ⟨hlt, hmod⟩, by simp [hs]⟩, ev⟩, .refl⟩
    | true =>
      obtain ⟨k, l, hk, hr⟩ := first_ex (T := S) (near := false) _ _ hs
      obtain ⟨hk1, hk2⟩ := hS _ _ hk.1
      refine ⟨k * w + l, List.mem_map.2 ⟨(k, l), List.mem_filter.2 ⟨mem_cellsL.2 ⟨hk1, hk2⟩, by rw [(hf (k, l)).2 hk]; simp⟩, rfl⟩, ?_⟩
      have := (reach_conn hS hs hr).symm
      rw [ev] at this
      exact this
end
end Go.Proofs.Ytldmilpohappiaa.Gr
