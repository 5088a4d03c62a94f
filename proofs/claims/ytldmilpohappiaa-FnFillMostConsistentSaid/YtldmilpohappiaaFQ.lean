/- Plain laws: all cells fit exactly if the sums agree and each sum of the greatest column sums is at most that of the conjugate row sums. Conditions: the sums are in range. -/
import Derived.Test.YtldmilpohappiaaFPure
namespace Go.Proofs.Ytldmilpohappiaa
/-- The sums agree, and the greatest columns fit. -/
def consB (rs cs : List Int) : Bool := decide (rs.sum = cs.sum) && (List.range 6).all fun k => decide (top cs k ≤ minS (k : Int) rs)
theorem consB_iff {rs cs : List Int} : consB rs cs = true ↔ rs.sum = cs.sum ∧ ∀ k : Nat, k < 6 → top cs k ≤ minS (k : Int) rs := by
  unfold consB
  rw [Bool.and_eq_true, decide_eq_true_eq, List.all_eq_true]
  refine and_congr Iff.rfl ⟨fun h k hk => ?_, fun h k hk => ?_⟩
  · exact of_decide_eq_true (h k (List.mem_range.2 hk))
  · exact decide_eq_true (h k (List.mem_range.1 hk))
theorem cons_iff {rs cs : List Int} (hr : ∀ r ∈ rs, 0 ≤ r ∧ r ≤ cs.length) (hc : ∀ c ∈ cs, 0 ≤ c) (h6 : cs.length ≤ 6) : (fm rs cs = rs.sum ∧ fm rs cs = cs.sum) ↔ consB rs cs = true := by
  rw [consB_iff]
  have hall : ∀ k : Nat, cs.length ≤ k → minS (k : Int) rs = rs.sum := fun k hk => minS_all fun r hm => by
    have := (hr r hm).2
    omega
  constructor
  · rintro ⟨h1, h2⟩
    refine ⟨by omega, fun k _ => ?_⟩
    by_cases hk : k ≤ cs.length
    · have : fm cs rs ≤ cutT cs rs k := minTo_le hk
      rw [← fm_turn, h2] at this
      unfold cutT at this
      omega
    · have e := hall k (by omega)
      have := top_le hc k
      omega
  · rintro ⟨h1, h2⟩
    have hge : cs.sum ≤ fm cs rs := le_minTo fun t ht => by
      unfold cutT
      by_cases h : t < 6
      · have := h2 t h
        omega
      · have e := hall t (by omega)
        have := top_le hc t
        omega
    have hle := fm_rows (rs := cs) (cs := rs) fun r hm => (hr r hm).1
    rw [fm_turn]
    omega
theorem above_cons (t x : Int) (xs : List Int) : (above t (x :: xs) : Int) = (if t < x then 1 else 0) + (above t xs : Nat) := by
  unfold above
  rw [List.filter_cons]
  by_cases h : t < x
  · simp [h]; omega
  · simp [h]
theorem sum_step {x : Int} (hx : 0 ≤ x) : ∀ k : Nat, sumN k (fun j => if (j : Int) < x then 1 else 0) = min x k
  | 0 => by simp [sumN]; omega
  | k + 1 => by
    rw [sumN, sum_step hx k]
    split <;> omega
theorem sumN_plus {f g : Nat → Int} : ∀ k, sumN k (fun j => f j + g j) = sumN k f + sumN k g
  | 0 => rfl
  | k + 1 => by rw [sumN, sumN, sumN, sumN_plus k]; omega
theorem sum_above : ∀ {xs : List Int}, (∀ x ∈ xs, 0 ≤ x) → ∀ k : Nat, sumN k (fun j => (above (j : Int) xs : Nat)) = minS (k : Int) xs
  | [], _, k => by
    have : ∀ k, sumN k (fun j => ((above (j : Int) [] : Nat) : Int)) = 0 := fun k => by
      induction k with
      | zero => rfl
      | succ k ih => rw [sumN, ih]; rfl
    rw [this]
    rfl
  | x :: xs, h, k => by
    rw [minS_cons, ← sum_above (fun y hy => h y (List.mem_cons_of_mem _ hy)) k, ← sum_step (h x (List.mem_cons_self ..)) k, ← sumN_plus]
    exact sumN_congr fun j _ => above_cons _ _ _
/-- The conjugate list. -/
def conjL (xs : List Int) (n : Nat) : List Int := (List.range n).map fun k : Nat => ((above (k : Int) xs : Nat) : Int)
theorem length_conjL (xs : List Int) (n : Nat) : (conjL xs n).length = n := by simp [conjL]
theorem conj_at {xs : List Int} {n k : Nat} (h : k < n) : (conjL xs n).getD k 0 = ((above (k : Int) xs : Nat) : Int) := by
  simp [conjL, List.getD_eq_getElem?_getD, h]
theorem take_sumN (l : List Int) : ∀ k, k ≤ l.length → (l.take k).sum = sumN k fun j => l.getD j 0
  | 0, _ => by simp [sumN]
  | k + 1, h => by
    have hk : k < l.length := h
    rw [sumN, ← take_sumN l k (by omega), List.take_add_one, List.getD_eq_getElem?_getD, List.getElem?_eq_getElem hk, List.sum_append]
    simp
theorem conj_take {xs : List Int} (hx : ∀ x ∈ xs, 0 ≤ x) {n k : Nat} (hn : ∀ x ∈ xs, x ≤ n) : ((conjL xs n).take k).sum = minS (k : Int) xs := by
  by_cases h : k ≤ n
  · rw [take_sumN _ _ (by rw [length_conjL]; exact h), ← sum_above hx]
    exact sumN_congr fun j hj => conj_at (by omega)
  · rw [List.take_of_length_le (by rw [length_conjL]; omega)]
    have e : (conjL xs n).sum = ((conjL xs n).take n).sum := by rw [List.take_of_length_le (by rw [length_conjL]; omega)]
    rw [e, take_sumN _ _ (by rw [length_conjL]; omega)]
    have : sumN n (fun j => (conjL xs n).getD j 0) = minS (n : Int) xs := by
      rw [← sum_above hx]
      exact sumN_congr fun j hj => conj_at hj
    rw [this, minS_all hn, minS_all fun x hm => by have := hn x hm; omega]
theorem conj_sum {xs : List Int} (hx : ∀ x ∈ xs, 0 ≤ x) {n : Nat} (hn : ∀ x ∈ xs, x ≤ n) : (conjL xs n).sum = xs.sum := by
  have := conj_take hx hn (k := n)
  rwa [List.take_of_length_le (by rw [length_conjL]; omega), minS_all hn] at this
theorem above_mono (xs : List Int) {s t : Int} (h : s ≤ t) : above t xs ≤ above s xs := by
  induction xs with
  | nil => exact Nat.le_refl _
  | cons x xs ih =>
    have h1 := above_cons t x xs
    have h2 := above_cons s x xs
    split at h1 <;> split at h2 <;> omega
theorem conj_desc (xs : List Int) (n : Nat) : ∀ k, k + 1 < n → (conjL xs n).getD (k + 1) 0 ≤ (conjL xs n).getD k 0 := fun k hk => by
  rw [conj_at hk, conj_at (by omega)]
  have := above_mono xs (s := (k : Int)) (t := ((k + 1 : Nat) : Int)) (by omega)
  omega
theorem conj_bd (xs : List Int) (n k : Nat) (h : k < n) : 0 ≤ (conjL xs n).getD k 0 ∧ (conjL xs n).getD k 0 ≤ xs.length := by
  rw [conj_at h]
  have := above_le (k : Int) xs
  omega
/-- Whether a list is a partition below another: the reports of the program on lists that are partitions. -/
theorem below_cons {rs cs ds : List Int} (hr : ∀ r ∈ rs, 0 ≤ r ∧ r ≤ cs.length) (hd : ds.Pairwise fun a b => b ≤ a) (hd0 : ∀ y ∈ ds, 0 ≤ y) (hp : ds.Perm cs) : (decide (ds.sum = (conjL rs cs.length).sum) && (List.range 6).all fun k => decide ((ds.take k).sum ≤ ((conjL rs cs.length).take k).sum)) = consB rs cs := by
  have h0 : ∀ x ∈ rs, 0 ≤ x := fun x h => (hr x h).1
  have hn : ∀ x ∈ rs, x ≤ cs.length := fun x h => (hr x h).2
  have e1 : ds.sum = cs.sum := by
    have a := top_all hd0 ds.length (Nat.le_refl _)
    have hc0 : ∀ x ∈ cs, 0 ≤ x := fun x h => hd0 x (hp.symm.subset h)
    have b := top_all hc0 ds.length (by rw [hp.length_eq]; exact Nat.le_refl _)
    rw [top_perm hp] at a
    omega
  unfold consB
  rw [conj_sum h0 hn, e1]
  congr 1
  · exact decide_eq_decide.2 ⟨Eq.symm, Eq.symm⟩
  · congr 1
    funext k
    rw [conj_take h0 hn, ← top_desc hd hd0, top_perm hp]
end Go.Proofs.Ytldmilpohappiaa
