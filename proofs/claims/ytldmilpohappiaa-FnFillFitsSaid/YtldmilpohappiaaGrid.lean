/- Plain law, no program in it: in an image of h rows and w columns the number of set cells less the pairs of neighbors plus the full squares is the number of parts less that of holes. Conditions: h and w are at least 1. -/
import Derived.Test.YtldmilpohappiaaGraph
namespace Go.Proofs.Ytldmilpohappiaa.Gr

/-- Two cells are one, neighbors, or (near) touch at a corner. -/
def Adj (near : Bool) (i j k l : Nat) : Prop := i ≤ k + 1 ∧ k ≤ i + 1 ∧ j ≤ l + 1 ∧ l ≤ j + 1 ∧ (near = true ∨ i = k ∨ j = l)
theorem Adj.symm {near : Bool} {i j k l : Nat} (h : Adj near i j k l) : Adj near k l i j := by
  obtain ⟨a, b, c, d, e⟩ := h
  exact ⟨b, a, d, c, by rcases e with e | e | e <;> simp [e]⟩

/-- A cell is reached from another over cells of T. -/
inductive Reach (T : Nat → Nat → Bool) (near : Bool) (i j : Nat) : Nat → Nat → Prop
  | refl : Reach T near i j i j
  | step {k l m n : Nat} (h : Reach T near i j k l) (a : Adj near k l m n) (t : T m n = true) : Reach T near i j m n

section
variable {T : Nat → Nat → Bool} {near : Bool}
theorem Reach.trans {i j k l m n : Nat} (h : Reach T near i j k l) (g : Reach T near k l m n) : Reach T near i j m n := by
  induction g with
  | refl => exact h
  | step _ a t ih => exact .step ih a t
theorem Reach.mem {i j k l : Nat} (h : Reach T near i j k l) (hi : T i j = true) : T k l = true := by
  cases h with
  | refl => exact hi
  | step _ _ t => exact t
theorem Reach.symm {i j k l : Nat} (h : Reach T near i j k l) (hi : T i j = true) : Reach T near k l i j := by
  induction h with
  | refl => exact .refl
  | step h a _ ih => exact (Reach.step .refl a.symm (h.mem hi)).trans ih
theorem Reach.mono {T' : Nat → Nat → Bool} (hT : ∀ a b, T a b = true → T' a b = true) {i j k l : Nat} (h : Reach T near i j k l) : Reach T' near i j k l := by
  induction h with
  | refl => exact .refl
  | step _ a t ih => exact .step ih a (hT _ _ t)
end

def Earlier (k l i j : Nat) : Prop := k < i ∨ (k = i ∧ l < j)
/-- A cell of T is the first one of its part. -/
def FirstIn (T : Nat → Nat → Bool) (near : Bool) (i j : Nat) : Prop := T i j = true ∧ ∀ k l, Earlier k l i j → T k l = true → ¬ Reach T near i j k l

theorem first_ex {T : Nat → Nat → Bool} {near : Bool} : ∀ (i j : Nat), T i j = true → ∃ k l, FirstIn T near k l ∧ Reach T near i j k l := by
  have main : ∀ (i : Nat), (∀ k, k < i → ∀ l, T k l = true → ∃ m n, FirstIn T near m n ∧ Reach T near k l m n) → ∀ j, T i j = true → ∃ k l, FirstIn T near k l ∧ Reach T near i j k l := by
    intro i ihi j
    induction j using Nat.strongRecOn with
    | _ j ihj =>
      intro ht
      by_cases hf : FirstIn T near i j
      · exact ⟨i, j, hf, .refl⟩
      · have : ∃ k l, Earlier k l i j ∧ T k l = true ∧ Reach T near i j k l := by
          refine Classical.byContradiction fun hn => hf ⟨ht, fun k l he hk hr => hn ⟨k, l, he, hk, hr⟩⟩
        obtain ⟨k, l, he, hk, hr⟩ := this
        rcases he with he | ⟨rfl, he⟩
        · obtain ⟨m, n, hm, hmr⟩ := ihi k he l hk
          exact ⟨m, n, hm, hr.trans hmr⟩
        · obtain ⟨m, n, hm, hmr⟩ := ihj l he hk
          exact ⟨m, n, hm, hr.trans hmr⟩
  intro i
  induction i using Nat.strongRecOn with
  | _ i ih => exact main i ih

theorem first_same {T : Nat → Nat → Bool} {near : Bool} {i j k l : Nat} (h : FirstIn T near i j) (g : FirstIn T near k l) (hr : Reach T near i j k l) : i = k ∧ j = l := by
  refine Classical.byContradiction fun hn => ?_
  have : Earlier i j k l ∨ Earlier k l i j := by
    unfold Earlier
    omega
  rcases this with he | he
  · exact g.2 i j he h.1 (hr.symm h.1)
  · exact h.2 k l he g.1 hr

/-! ### The grid's edges and corners -/
def cx (h w i j : Nat) : Nat := if i = 0 ∨ j = 0 ∨ h ≤ i ∨ w ≤ j then 0 else 1 + (i - 1) * (w - 1) + (j - 1)
def hE (h w : Nat) : List DE := (List.range h).flatMap fun i => (List.range (w - 1)).map fun j => ((i * w + j, i * w + (j + 1)), (cx h w i (j + 1), cx h w (i + 1) (j + 1)))
def vE (h w : Nat) : List DE := (List.range (h - 1)).flatMap fun i => (List.range w).map fun j => ((i * w + j, (i + 1) * w + j), (cx h w (i + 1) j, cx h w (i + 1) (j + 1)))
def aE (h w : Nat) : List DE := hE h w ++ vE h w

theorem mem_hE {h w : Nat} {e : DE} : e ∈ hE h w ↔ ∃ i j, i < h ∧ j + 1 < w ∧ e = ((i * w + j, i * w + (j + 1)), (cx h w i (j + 1), cx h w (i + 1) (j + 1))) := by
  simp only [hE, List.mem_flatMap, List.mem_range, List.mem_map]
  constructor
  · rintro ⟨i, hi, j, hj, rfl⟩; exact ⟨i, j, hi, by omega, rfl⟩
  · rintro ⟨i, j, hi, hj, rfl⟩; exact ⟨i, hi, j, by omega, rfl⟩
theorem mem_vE {h w : Nat} {e : DE} : e ∈ vE h w ↔ ∃ i j, i + 1 < h ∧ j < w ∧ e = ((i * w + j, (i + 1) * w + j), (cx h w (i + 1) j, cx h w (i + 1) (j + 1))) := by
  simp only [vE, List.mem_flatMap, List.mem_range, List.mem_map]
  constructor
  · rintro ⟨i, hi, j, hj, rfl⟩; exact ⟨i, j, by omega, hj, rfl⟩
  · rintro ⟨i, j, hi, hj, rfl⟩; exact ⟨i, by omega, j, hj, rfl⟩

theorem lin_lt {a b m n : Nat} (ha : a < m) (hb : b < n) : a * n + b < m * n := by
  have : (a + 1) * n ≤ m * n := Nat.mul_le_mul_right n ha
  rw [Nat.add_mul] at this
  omega
theorem lin_inj {a b c d n : Nat} (hb : b < n) (hd : d < n) (h : a * n + b = c * n + d) : a = c ∧ b = d := by
  have h1 : (a * n + b) / n = (c * n + d) / n := by rw [h]
  have h2 : (a * n + b) % n = (c * n + d) % n := by rw [h]
  have hn : 0 < n := by omega
  rw [Nat.mul_comm a, Nat.mul_comm c, Nat.mul_add_div hn, Nat.mul_add_div hn, Nat.div_eq_of_lt hb, Nat.div_eq_of_lt hd] at h1
  rw [Nat.mul_comm a, Nat.mul_comm c, Nat.mul_add_mod, Nat.mul_add_mod, Nat.mod_eq_of_lt hb, Nat.mod_eq_of_lt hd] at h2
  exact ⟨by simpa using h1, h2⟩
theorem cx_in {h w i j : Nat} (hi : 1 ≤ i) (hih : i < h) (hj : 1 ≤ j) (hjw : j < w) : cx h w i j = 1 + (i - 1) * (w - 1) + (j - 1) := by
  unfold cx
  rw [if_neg (by omega)]
theorem cx_out {h w i j : Nat} (ho : i = 0 ∨ j = 0 ∨ h ≤ i ∨ w ≤ j) : cx h w i j = 0 := by
  unfold cx
  rw [if_pos ho]
theorem cx_lt {h w : Nat} (i j : Nat) : cx h w i j < (h - 1) * (w - 1) + 1 := by
  by_cases ho : i = 0 ∨ j = 0 ∨ h ≤ i ∨ w ≤ j
  · rw [cx_out ho]; omega
  · rw [cx_in (by omega) (by omega) (by omega) (by omega)]
    have := lin_lt (a := i - 1) (b := j - 1) (m := h - 1) (n := w - 1) (by omega) (by omega)
    omega
theorem cx_inj {h w i j I J : Nat} (hI : 1 ≤ I) (hIh : I < h) (hJ : 1 ≤ J) (hJw : J < w) (e : cx h w i j = cx h w I J) : i = I ∧ j = J := by
  rw [cx_in hI hIh hJ hJw] at e
  by_cases ho : i = 0 ∨ j = 0 ∨ h ≤ i ∨ w ≤ j
  · rw [cx_out ho] at e; omega
  · rw [cx_in (by omega) (by omega) (by omega) (by omega)] at e
    have := lin_inj (a := i - 1) (b := j - 1) (c := I - 1) (d := J - 1) (n := w - 1) (by omega) (by omega) (by omega)
    omega
theorem cx_ex {h w q : Nat} (hq : 0 < q) (hlt : q < (h - 1) * (w - 1) + 1) : ∃ I J, 1 ≤ I ∧ I < h ∧ 1 ≤ J ∧ J < w ∧ q = cx h w I J := by
  have hw : 0 < w - 1 := by
    rcases Nat.eq_zero_or_pos (w - 1) with e | e
    · rw [e] at hlt; omega
    · exact e
  have h1 : (q - 1) / (w - 1) < h - 1 := (Nat.div_lt_iff_lt_mul hw).2 (by omega)
  have h2 : (q - 1) % (w - 1) < w - 1 := Nat.mod_lt _ hw
  have h3 := Nat.div_add_mod (q - 1) (w - 1)
  rw [Nat.mul_comm] at h3
  generalize (q - 1) / (w - 1) = x at h1 h3
  generalize (q - 1) % (w - 1) = y at h2 h3
  refine ⟨x + 1, y + 1, by omega, by omega, by omega, by omega, ?_⟩
  rw [cx_in (by omega) (by omega) (by omega) (by omega)]
  simp only [Nat.add_sub_cancel]
  omega

/-! ### Round each corner the number of borders is even -/
def sm (f : Nat → Nat) : Nat → Nat
  | 0 => 0
  | n + 1 => sm f n + f n
theorem sm_congr {f g : Nat → Nat} {n : Nat} (h : ∀ k, k < n → f k = g k) : sm f n = sm g n := by
  induction n with
  | zero => rfl
  | succ n ih => simp only [sm]; rw [ih fun k hk => h k (by omega), h n (by omega)]
theorem sm_zero {f : Nat → Nat} {n : Nat} (h : ∀ k, k < n → f k = 0) : sm f n = 0 := by
  induction n with
  | zero => rfl
  | succ n ih => simp only [sm]; rw [ih fun k hk => h k (by omega), h n (by omega)]
theorem sm_one {f : Nat → Nat} {n J : Nat} (hJ : J < n) (h : ∀ k, k < n → k ≠ J → f k = 0) : sm f n = f J := by
  induction n with
  | zero => omega
  | succ n ih =>
    simp only [sm]
    by_cases e : J = n
    · subst e
      rw [sm_zero fun k hk => h k (by omega) (by omega)]
      omega
    · rw [ih (by omega) fun k hk hne => h k (by omega) hne, h n (by omega) (fun e' => e e'.symm)]
      omega
theorem sm_add (f g : Nat → Nat) (n : Nat) : sm (fun k => f k + g k) n = sm f n + sm g n := by
  induction n with
  | zero => rfl
  | succ n ih => simp only [sm, ih]; omega
theorem deg_append (C : Nat → Bool) (q : Nat) (a b : List DE) : deg C q (a ++ b) = deg C q a + deg C q b := by
  induction a with
  | nil => simp [deg]
  | cons f r ih => simp only [List.cons_append, deg, ih]; omega
theorem deg_map (C : Nat → Bool) (q : Nat) (G : Nat → DE) (m : Nat) : deg C q ((List.range m).map G) = sm (fun j => one (cut C (G j)) * (one ((G j).2.1 == q) + one ((G j).2.2 == q))) m := by
  induction m with
  | zero => rfl
  | succ m ih => simp only [List.range_succ, List.map_append, deg_append, ih, sm, List.map_cons, List.map_nil, deg]; omega
theorem deg_flat (C : Nat → Bool) (q : Nat) (F : Nat → List DE) (n : Nat) : deg C q ((List.range n).flatMap F) = sm (fun i => deg C q (F i)) n := by
  induction n with
  | zero => rfl
  | succ n ih => simp only [List.range_succ, List.flatMap_append, deg_append, ih, sm, List.flatMap_cons, List.flatMap_nil, List.append_nil]
theorem sm2_one {f : Nat → Nat → Nat} {n m I J : Nat} (hI : I < n) (hJ : J < m) (h : ∀ i j, i < n → j < m → ¬ (i = I ∧ j = J) → f i j = 0) : sm (fun i => sm (f i) m) n = f I J := by
  rw [sm_one (J := I) hI (fun i hi hne => sm_zero fun j hj => h i j hi hj (fun e => hne e.1))]
  exact sm_one hJ fun j hj hne => h I j hI hj (fun e => hne e.2)

theorem deg_even_in {h w I J : Nat} (hI : 1 ≤ I) (hIh : I < h) (hJ : 1 ≤ J) (hJw : J < w) (C : Nat → Bool) : deg C (cx h w I J) (aE h w) % 2 = 0 := by
  have key : ∀ i j, (cx h w i j == cx h w I J) = (decide (i = I) && decide (j = J)) := by
    intro i j
    rw [Bool.eq_iff_iff]
    simp only [beq_iff_eq, Bool.and_eq_true, decide_eq_true_eq]
    exact ⟨cx_inj hI hIh hJ hJw, fun ⟨a, b⟩ => by rw [a, b]⟩
  unfold aE
  rw [deg_append]
  unfold hE vE
  rw [deg_flat, deg_flat]
  simp only [deg_map, key, Nat.mul_add, sm_add]
  rw [sm2_one (I := I) (J := J - 1) hIh (by omega) (f := fun i j => one (cut C ((i * w + j, i * w + (j + 1)), (cx h w i (j + 1), cx h w (i + 1) (j + 1)))) * one (decide (i = I) && decide (j + 1 = J)))
      (fun i j _ _ hne => by
        have : (decide (i = I) && decide (j + 1 = J)) = false := by
          rw [← Bool.not_eq_true]; simp only [Bool.and_eq_true, decide_eq_true_eq]; omega
        simp only [this]; simp [one]),
    sm2_one (I := I - 1) (J := J - 1) (by omega) (by omega) (f := fun i j => one (cut C ((i * w + j, i * w + (j + 1)), (cx h w i (j + 1), cx h w (i + 1) (j + 1)))) * one (decide (i + 1 = I) && decide (j + 1 = J)))
      (fun i j _ _ hne => by
        have : (decide (i + 1 = I) && decide (j + 1 = J)) = false := by
          rw [← Bool.not_eq_true]; simp only [Bool.and_eq_true, decide_eq_true_eq]; omega
        simp only [this]; simp [one]),
    sm2_one (I := I - 1) (J := J) (by omega) (by omega) (f := fun i j => one (cut C ((i * w + j, (i + 1) * w + j), (cx h w (i + 1) j, cx h w (i + 1) (j + 1)))) * one (decide (i + 1 = I) && decide (j = J)))
      (fun i j _ _ hne => by
        have : (decide (i + 1 = I) && decide (j = J)) = false := by
          rw [← Bool.not_eq_true]; simp only [Bool.and_eq_true, decide_eq_true_eq]; omega
        simp only [this]; simp [one]),
    sm2_one (I := I - 1) (J := J - 1) (by omega) (by omega) (f := fun i j => one (cut C ((i * w + j, (i + 1) * w + j), (cx h w (i + 1) j, cx h w (i + 1) (j + 1)))) * one (decide (i + 1 = I) && decide (j + 1 = J)))
      (fun i j _ _ hne => by
        have : (decide (i + 1 = I) && decide (j + 1 = J)) = false := by
          rw [← Bool.not_eq_true]; simp only [Bool.and_eq_true, decide_eq_true_eq]; omega
        simp only [this]; simp [one])]
  have e1 : I - 1 + 1 = I := by omega
  have e2 : J - 1 + 1 = J := by omega
  simp only [e1, e2, decide_true, Bool.and_true, cut]
  cases C (I * w + (J - 1)) <;> cases C (I * w + J) <;> cases C ((I - 1) * w + (J - 1)) <;> cases C ((I - 1) * w + J) <;> simp [one]
end Go.Proofs.Ytldmilpohappiaa.Gr
