/- Plain laws: the sum of the t greatest of a list, the least cut of two lists, and what an image that fills them has. No condition beyond those that the theorems name. -/
import Derived.Test.YtldmilpohappiaaPure
namespace Go.Proofs.Ytldmilpohappiaa
/-- The sum of the t greatest numbers of a list of numbers that are not negative. -/
def top : List Int → Nat → Int
  | _, 0 => 0
  | [], _ + 1 => 0
  | x :: xs, t + 1 => max (top xs (t + 1)) (x + top xs t)
theorem top_zero (xs : List Int) : top xs 0 = 0 := by cases xs <;> rfl
theorem top_nil (t : Nat) : top [] t = 0 := by cases t <;> rfl
theorem top_succ (x : Int) (xs : List Int) (t : Nat) : top (x :: xs) (t + 1) = max (top xs (t + 1)) (x + top xs t) := rfl
theorem top_swap (x y : Int) (l : List Int) : ∀ t, top (x :: y :: l) t = top (y :: x :: l) t
  | 0 => by simp only [top_zero]
  | 1 => by simp only [top_succ, top_zero]; omega
  | t + 2 => by simp only [top_succ]; omega
theorem top_perm {xs ys : List Int} (h : xs.Perm ys) : ∀ t, top xs t = top ys t := by
  induction h with
  | nil => exact fun _ => rfl
  | cons x _ ih =>
    intro t
    cases t with
    | zero => simp only [top_zero]
    | succ t => rw [top_succ, top_succ, ih, ih]
  | swap x y l => exact fun t => top_swap y x l t
  | trans _ _ ih1 ih2 => exact fun t => (ih1 t).trans (ih2 t)
theorem top_step {y : Int} : ∀ {ys : List Int}, (∀ z ∈ ys, z ≤ y) → 0 ≤ y → ∀ t, top ys (t + 1) ≤ y + top ys t
  | [], _, h0, t => by rw [top_nil, top_nil]; omega
  | z :: l, h, h0, t => by
    have hz := h z (List.mem_cons_self ..)
    have ih := top_step (ys := l) (fun z hz => h z (List.mem_cons_of_mem _ hz)) h0
    cases t with
    | zero =>
      have := ih 0
      rw [top_succ, top_zero, top_zero] at *
      omega
    | succ s =>
      have h1 := ih (s + 1)
      have h2 := ih s
      rw [top_succ z l (s + 1), top_succ z l s]
      omega
theorem top_desc : ∀ {ys : List Int}, ys.Pairwise (fun a b => b ≤ a) → (∀ y ∈ ys, 0 ≤ y) → ∀ t, top ys t = (ys.take t).sum
  | [], _, _, t => by rw [top_nil]; simp
  | y :: l, hp, h0, t => by
    cases t with
    | zero => rw [top_zero]; rfl
    | succ t =>
      have hp' := List.pairwise_cons.1 hp
      have h0' : ∀ z ∈ l, 0 ≤ z := fun z hz => h0 z (List.mem_cons_of_mem _ hz)
      have h1 := top_step hp'.1 (h0 y (List.mem_cons_self ..)) t
      rw [top_succ, List.take_succ_cons, List.sum_cons, ← top_desc hp'.2 h0' t]
      omega
theorem top_nonneg : ∀ {xs : List Int}, (∀ x ∈ xs, 0 ≤ x) → ∀ t, 0 ≤ top xs t
  | [], _, t => by rw [top_nil]; omega
  | x :: l, h, t => by
    have ih := top_nonneg (xs := l) fun z hz => h z (List.mem_cons_of_mem _ hz)
    cases t with
    | zero => rw [top_zero]; omega
    | succ t =>
      have := ih (t + 1)
      rw [top_succ]
      omega
theorem top_le : ∀ {xs : List Int}, (∀ x ∈ xs, 0 ≤ x) → ∀ t, top xs t ≤ xs.sum
  | [], _, t => by rw [top_nil]; simp
  | x :: l, h, t => by
    have hx := h x (List.mem_cons_self ..)
    have hl : ∀ z ∈ l, 0 ≤ z := fun z hz => h z (List.mem_cons_of_mem _ hz)
    have ih := top_le hl
    have hn := top_nonneg hl
    rw [List.sum_cons]
    cases t with
    | zero => have := ih 0; rw [top_zero] at *; omega
    | succ t =>
      have h1 := ih (t + 1)
      have h2 := ih t
      rw [top_succ]
      omega
theorem top_all : ∀ {xs : List Int}, (∀ x ∈ xs, 0 ≤ x) → ∀ t, xs.length ≤ t → top xs t = xs.sum
  | [], _, t, _ => by rw [top_nil]; simp
  | x :: l, h, t, ht => by
    have hx := h x (List.mem_cons_self ..)
    have hl : ∀ z ∈ l, 0 ≤ z := fun z hz => h z (List.mem_cons_of_mem _ hz)
    cases t with
    | zero => simp at ht
    | succ t =>
      have h1 := top_le hl (t + 1)
      have h2 := top_all hl t (by simpa using ht)
      rw [top_succ, List.sum_cons, h2]
      omega
theorem top_cons_le (x : Int) (xs : List Int) : ∀ t, top xs t ≤ top (x :: xs) t
  | 0 => by rw [top_zero, top_zero]; omega
  | t + 1 => by rw [top_succ]; omega
/-- How many are greater than t. -/
def above (t : Int) (xs : List Int) : Nat := (xs.filter fun x => decide (t < x)).length
theorem above_le (t : Int) (xs : List Int) : above t xs ≤ xs.length := List.length_filter_le _ _
def minS (t : Int) (xs : List Int) : Int := (xs.map fun x => min x t).sum
theorem minS_cons (t x : Int) (xs : List Int) : minS t (x :: xs) = min x t + minS t xs := by simp [minS]
theorem minS_le (t : Nat) : ∀ (xs : List Int) (s : Nat), minS t xs ≤ xs.sum - top xs s + t * s
  | [], s => by rw [top_nil]; simp [minS]; exact Int.mul_nonneg (by omega) (by omega)
  | x :: l, s => by
    have ih := minS_le t l
    rw [minS_cons, List.sum_cons]
    cases s with
    | zero =>
      have := ih 0
      rw [top_zero] at *
      omega
    | succ s =>
      have h1 := ih (s + 1)
      have h2 := ih s
      have e : (t : Int) * ((s + 1 : Nat) : Int) = t * s + t := by rw [show ((s + 1 : Nat) : Int) = (s : Int) + 1 from rfl, Int.mul_add, Int.mul_one]
      rw [top_succ]
      rw [e] at h1 ⊢
      omega
theorem minS_ge (t : Nat) : ∀ xs : List Int, xs.sum - top xs (above t xs) + t * (above t xs : Nat) ≤ minS t xs
  | [] => by simp [minS, above, top_zero]
  | x :: l => by
    have ih := minS_ge t l
    rw [minS_cons, List.sum_cons]
    by_cases h : (t : Int) < x
    · have e : above t (x :: l) = above t l + 1 := by simp [above, h]
      have e2 : (t : Int) * ((above t l + 1 : Nat) : Int) = t * (above t l : Nat) + t := by rw [show ((above t l + 1 : Nat) : Int) = ((above t l : Nat) : Int) + 1 from rfl, Int.mul_add, Int.mul_one]
      rw [e, top_succ, e2]
      omega
    · have e : above t (x :: l) = above t l := by simp [above, h]
      have := top_cons_le x l (above t l)
      rw [e]
      omega
/-- The least of f at 0 to n. -/
def minTo (f : Nat → Int) : Nat → Int
  | 0 => f 0
  | n + 1 => min (minTo f n) (f (n + 1))
theorem minTo_le {f : Nat → Int} : ∀ {n t : Nat}, t ≤ n → minTo f n ≤ f t
  | 0, t, h => by obtain rfl : t = 0 := by omega
                  exact Int.le_refl _
  | n + 1, t, h => by
    rw [minTo]
    by_cases e : t = n + 1
    · subst e; omega
    · have := minTo_le (f := f) (n := n) (t := t) (by omega)
      omega
theorem minTo_ex (f : Nat → Int) : ∀ n, ∃ t, t ≤ n ∧ minTo f n = f t
  | 0 => ⟨0, Nat.le_refl _, rfl⟩
  | n + 1 => by
    obtain ⟨t, ht, e⟩ := minTo_ex f n
    rw [minTo]
    by_cases h : minTo f n ≤ f (n + 1)
    · exact ⟨t, by omega, by rw [Int.min_eq_left h, e]⟩
    · exact ⟨n + 1, Nat.le_refl _, Int.min_eq_right (by omega)⟩
theorem le_minTo {f : Nat → Int} {z : Int} {n : Nat} (h : ∀ t, t ≤ n → z ≤ f t) : z ≤ minTo f n := by
  obtain ⟨t, ht, e⟩ := minTo_ex f n
  rw [e]
  exact h t ht
/-- The cut of the t greatest rows. -/
def cutT (rs cs : List Int) (t : Nat) : Int := rs.sum - top rs t + minS t cs
/-- The least cut. -/
def fm (rs cs : List Int) : Int := minTo (cutT rs cs) rs.length
theorem fm_le_turn (rs cs : List Int) : fm rs cs ≤ fm cs rs := by
  obtain ⟨s, hs, e⟩ := minTo_ex (cutT cs rs) cs.length
  have h0 : fm rs cs ≤ cutT rs cs (above s rs) := minTo_le (above_le _ _)
  have h1 := minS_ge s rs
  have h2 := minS_le (above s rs) cs s
  have e2 : ((above s rs : Nat) : Int) * (s : Int) = (s : Int) * (above s rs : Nat) := Int.mul_comm _ _
  unfold fm at *
  rw [e]
  unfold cutT at *
  rw [e2] at h2
  omega
theorem fm_turn (rs cs : List Int) : fm rs cs = fm cs rs := Int.le_antisymm (fm_le_turn rs cs) (fm_le_turn cs rs)
theorem minS_zero : ∀ {cs : List Int}, (∀ c ∈ cs, 0 ≤ c) → minS 0 cs = 0
  | [], _ => rfl
  | c :: l, h => by
    have := h c (List.mem_cons_self ..)
    rw [minS_cons, minS_zero fun z hz => h z (List.mem_cons_of_mem _ hz)]
    omega
theorem minS_all {t : Int} : ∀ {cs : List Int}, (∀ c ∈ cs, c ≤ t) → minS t cs = cs.sum
  | [], _ => rfl
  | c :: l, h => by
    have := h c (List.mem_cons_self ..)
    rw [minS_cons, minS_all fun z hz => h z (List.mem_cons_of_mem _ hz), List.sum_cons]
    omega
theorem minS_nonneg {t : Int} (ht : 0 ≤ t) : ∀ {cs : List Int}, (∀ c ∈ cs, 0 ≤ c) → 0 ≤ minS t cs
  | [], _ => Int.le_refl _
  | c :: l, h => by
    have := h c (List.mem_cons_self ..)
    have := minS_nonneg ht fun z hz => h z (List.mem_cons_of_mem _ hz)
    rw [minS_cons]
    omega
theorem cut_zero {rs cs : List Int} (h : ∀ c ∈ cs, 0 ≤ c) : cutT rs cs 0 = rs.sum := by
  unfold cutT
  rw [top_zero]
  show _ + minS 0 cs = _
  rw [minS_zero h]
  omega
theorem fm_rows {rs cs : List Int} (h : ∀ c ∈ cs, 0 ≤ c) : fm rs cs ≤ rs.sum := by
  have := minTo_le (f := cutT rs cs) (n := rs.length) (t := 0) (Nat.zero_le _)
  rw [cut_zero h] at this
  exact this
theorem fm_cols {rs cs : List Int} (h : ∀ r ∈ rs, 0 ≤ r) : fm rs cs ≤ cs.sum := by
  rw [fm_turn]
  exact fm_rows h
theorem fm_nonneg {rs cs : List Int} (hr : ∀ r ∈ rs, 0 ≤ r) (hc : ∀ c ∈ cs, 0 ≤ c) : 0 ≤ fm rs cs := le_minTo fun t _ => by
  have h1 := top_le hr t
  have h2 := minS_nonneg (t := (t : Int)) (by omega) hc
  unfold cutT
  omega
theorem fm_none {rs cs : List Int} (hr : ∀ r ∈ rs, 0 ≤ r) (hc : ∀ c ∈ cs, c = 0) : fm rs cs = 0 := by
  have h0 : ∀ c ∈ cs, 0 ≤ c := fun c h => by rw [hc c h]; omega
  have h1 := fm_nonneg hr h0
  have h2 := minTo_le (f := cutT rs cs) (n := rs.length) (t := rs.length) (Nat.le_refl _)
  have h3 : cutT rs cs rs.length = 0 := by
    unfold cutT
    rw [top_all hr _ (Nat.le_refl _)]
    have : minS (rs.length : Int) cs = cs.sum := minS_all fun c h => by rw [hc c h]; omega
    rw [this]
    have hs : cs.sum = 0 := by
      clear h0 h1 h2 this
      induction cs with
      | nil => rfl
      | cons c l ih => rw [List.sum_cons, hc c (List.mem_cons_self ..), ih fun z hz => hc z (List.mem_cons_of_mem _ hz)]; rfl
    omega
  unfold fm at *
  omega
theorem top_bd {w : Int} (hw : 0 ≤ w) : ∀ {xs : List Int}, (∀ x ∈ xs, x ≤ w) → ∀ t : Nat, top xs t ≤ t * w
  | [], _, t => by rw [top_nil]; exact Int.mul_nonneg (by omega) hw
  | x :: l, h, t => by
    have hx := h x (List.mem_cons_self ..)
    have ih := top_bd hw (xs := l) fun z hz => h z (List.mem_cons_of_mem _ hz)
    cases t with
    | zero => rw [top_zero]; simp
    | succ t =>
      have h1 := ih (t + 1)
      have h2 := ih t
      have e : ((t + 1 : Nat) : Int) * w = t * w + w := by rw [show ((t + 1 : Nat) : Int) = (t : Int) + 1 from rfl, Int.add_mul, Int.one_mul]
      rw [e] at h1 ⊢
      rw [top_succ]
      omega
theorem minS_const {h : Int} {t : Nat} (ht : (t : Int) ≤ h) : ∀ {cs : List Int}, (∀ c ∈ cs, c = h) → minS t cs = t * cs.length
  | [], _ => by simp [minS]
  | c :: l, hc => by
    rw [minS_cons, minS_const ht fun z hz => hc z (List.mem_cons_of_mem _ hz), hc c (List.mem_cons_self ..)]
    rw [List.length_cons, show ((l.length + 1 : Nat) : Int) = (l.length : Int) + 1 from rfl, Int.mul_add, Int.mul_one]
    omega
theorem fm_full {rs cs : List Int} (hr : ∀ r ∈ rs, r ≤ cs.length) (hc : ∀ c ∈ cs, c = rs.length) : fm rs cs = rs.sum := by
  have h1 : fm rs cs ≤ rs.sum := fm_rows fun c h => by rw [hc c h]; omega
  have h2 : rs.sum ≤ fm rs cs := le_minTo fun t ht => by
    have h3 := top_bd (w := (cs.length : Int)) (by omega) hr t
    have h4 := minS_const (h := (rs.length : Int)) (t := t) (by omega) hc
    unfold cutT
    omega
  omega
/-- Two lists whose least cut is the same at each t. -/
theorem fm_more {rs cs cs' : List Int} (h : ∀ t : Nat, minS t cs ≤ minS t cs' ∧ minS t cs' ≤ minS t cs + 1) : fm rs cs ≤ fm rs cs' ∧ fm rs cs' ≤ fm rs cs + 1 := by
  constructor
  · refine le_minTo fun t ht => ?_
    have h1 := minTo_le (f := cutT rs cs) ht
    have h2 := h t
    unfold fm
    unfold cutT at h1 ⊢
    omega
  · obtain ⟨t, ht, e⟩ := minTo_ex (cutT rs cs) rs.length
    have h1 := minTo_le (f := cutT rs cs') ht
    have h2 := h t
    unfold fm
    rw [e]
    unfold cutT at h1 ⊢
    omega
theorem minS_set : ∀ {cs : List Int} {k : Nat} (_ : k < cs.length) (t : Int), minS t cs ≤ minS t (cs.set k (cs.getD k 0 + 1)) ∧ minS t (cs.set k (cs.getD k 0 + 1)) ≤ minS t cs + 1
  | c :: l, 0, _, t => by
    rw [List.set_cons_zero, List.getD_cons_zero, minS_cons, minS_cons]
    omega
  | c :: l, k + 1, h, t => by
    have ih := minS_set (cs := l) (k := k) (by simpa using h) t
    rw [List.set_cons_succ, List.getD_cons_succ, minS_cons, minS_cons]
    omega
/-! ### What an image that fills has -/
theorem sumN_front (f : Nat → Int) : ∀ n, sumN (n + 1) f = f 0 + sumN n fun k => f (k + 1)
  | 0 => by simp [sumN]
  | n + 1 => by
    rw [sumN, sumN_front f n]
    simp only [sumN]
    omega
theorem list_sum_N (xs : List Int) : xs.sum = sumN xs.length fun i => xs.getD i 0 := by
  induction xs with
  | nil => rfl
  | cons x l ih => rw [List.sum_cons, List.length_cons, sumN_front, ih]; rfl
theorem map_sum_N (f : Int → Int) (xs : List Int) : (xs.map f).sum = sumN xs.length fun i => f (xs.getD i 0) := by
  induction xs with
  | nil => rfl
  | cons x l ih => rw [List.map_cons, List.sum_cons, List.length_cons, sumN_front, ih]; rfl
/-- Some rows, no more than t, have the sum of the t greatest. -/
theorem top_mask : ∀ (xs : List Int) (t : Nat), ∃ T : Nat → Bool, sumN xs.length (fun i => b2i (T i)) ≤ t ∧ sumN xs.length (fun i => b2i (T i) * xs.getD i 0) = top xs t
  | [], t => ⟨fun _ => false, by simp [sumN], by rw [top_nil]; rfl⟩
  | x :: l, 0 => ⟨fun _ => false, by simp [b2i, sumN_zero], by rw [top_zero]; simp [b2i, sumN_zero]⟩
  | x :: l, t + 1 => by
    rw [top_succ]
    by_cases h : top l (t + 1) ≥ x + top l t
    · obtain ⟨T, h1, h2⟩ := top_mask l (t + 1)
      refine ⟨fun i => match i with | 0 => false | k + 1 => T k, ?_, ?_⟩
      · rw [List.length_cons, sumN_front]
        simp only [b2i] at h1 ⊢
        simpa using h1
      · rw [List.length_cons, sumN_front]
        simp only [List.getD_cons_succ]
        rw [h2]
        simp [b2i]
        omega
    · obtain ⟨T, h1, h2⟩ := top_mask l t
      refine ⟨fun i => match i with | 0 => true | k + 1 => T k, ?_, ?_⟩
      · rw [List.length_cons, sumN_front]
        simp only [b2i] at h1 ⊢
        simp
        omega
      · rw [List.length_cons, sumN_front]
        simp only [List.getD_cons_succ, List.getD_cons_zero]
        rw [h2]
        simp [b2i]
        omega
/-- AN IMAGE THAT FILLS HAS NO MORE CELLS THAN ANY CUT. -/
theorem cells_le_cut {rs cs : List Int} (p : Nat → Nat → Bool) (hr : ∀ i, i < rs.length → sumN cs.length (fun j => b2i (p i j)) ≤ rs.getD i 0) (hc : ∀ j, j < cs.length → sumN rs.length (fun i => b2i (p i j)) ≤ cs.getD j 0) (t : Nat) :
    sumN rs.length (fun i => sumN cs.length fun j => b2i (p i j)) ≤ cutT rs cs t := by
  obtain ⟨T, hT, e⟩ := top_mask rs t
  unfold cutT
  rw [← e, list_sum_N rs, minS, map_sum_N]
  have h1 : sumN rs.length (fun i => sumN cs.length fun j => b2i (p i j)) = sumN rs.length (fun i => b2i (!T i) * sumN cs.length fun j => b2i (p i j)) + sumN rs.length (fun i => b2i (T i) * sumN cs.length fun j => b2i (p i j)) := by
    rw [← sumN_add]
    refine sumN_congr fun i _ => ?_
    cases T i <;> simp [b2i]
  have h2 : sumN rs.length (fun i => b2i (!T i) * sumN cs.length fun j => b2i (p i j)) + sumN rs.length (fun i => b2i (T i) * rs.getD i 0) ≤ sumN rs.length (fun i => rs.getD i 0) := by
    rw [← sumN_add]
    refine sumN_le fun i hi => ?_
    have := hr i hi
    have h0 : 0 ≤ sumN cs.length fun j => b2i (p i j) := sumN_nonneg fun j _ => (b2i_bd _).1
    cases T i <;> simp [b2i] at * <;> omega
  have h3 : sumN rs.length (fun i => b2i (T i) * sumN cs.length fun j => b2i (p i j)) ≤ sumN cs.length (fun j => min (cs.getD j 0) t) := by
    have e1 : sumN rs.length (fun i => b2i (T i) * sumN cs.length fun j => b2i (p i j)) = sumN cs.length fun j => sumN rs.length fun i => b2i (T i) * b2i (p i j) := by
      rw [← sumN_swap]
      refine sumN_congr fun i _ => ?_
      rw [← sumN_mul]
    rw [e1]
    refine sumN_le fun j hj => ?_
    have g1 : sumN rs.length (fun i => b2i (T i) * b2i (p i j)) ≤ sumN rs.length (fun i => b2i (p i j)) := sumN_le fun i _ => by cases T i <;> cases p i j <;> simp [b2i]
    have g2 : sumN rs.length (fun i => b2i (T i) * b2i (p i j)) ≤ sumN rs.length (fun i => b2i (T i)) := sumN_le fun i _ => by cases T i <;> cases p i j <;> simp [b2i]
    have := hc j hj
    omega
  omega
theorem cells_le_fm {rs cs : List Int} (p : Nat → Nat → Bool) (hr : ∀ i, i < rs.length → sumN cs.length (fun j => b2i (p i j)) ≤ rs.getD i 0) (hc : ∀ j, j < cs.length → sumN rs.length (fun i => b2i (p i j)) ≤ cs.getD j 0) :
    sumN rs.length (fun i => sumN cs.length fun j => b2i (p i j)) ≤ fm rs cs := le_minTo fun t _ => cells_le_cut p hr hc t
end Go.Proofs.Ytldmilpohappiaa
