/- Plain words for images, no program in them: rows as numbers, cells as their bits, sums. No condition. -/
namespace Go.Proofs.Ytldmilpohappiaa

def sumN : Nat → (Nat → Int) → Int
  | 0, _ => 0
  | n + 1, f => sumN n f + f n
theorem sumN_congr {n : Nat} {f g : Nat → Int} (h : ∀ k, k < n → f k = g k) : sumN n f = sumN n g := by
  induction n with
  | zero => rfl
  | succ n ih => simp only [sumN]; rw [ih fun k hk => h k (by omega), h n (by omega)]
theorem sumN_add (n : Nat) (f g : Nat → Int) : sumN n (fun k => f k + g k) = sumN n f + sumN n g := by
  induction n with
  | zero => rfl
  | succ n ih => simp only [sumN, ih]; omega
theorem sumN_mul (n : Nat) (c : Int) (f : Nat → Int) : sumN n (fun k => c * f k) = c * sumN n f := by
  induction n with
  | zero => simp [sumN]
  | succ n ih => simp only [sumN, ih, Int.mul_add]
theorem sumN_zero (n : Nat) : sumN n (fun _ => 0) = 0 := by
  induction n with
  | zero => rfl
  | succ n ih => simp only [sumN, ih]; rfl
theorem sumN_swap (n m : Nat) (f : Nat → Nat → Int) : sumN n (fun i => sumN m (fun j => f i j)) = sumN m (fun j => sumN n (fun i => f i j)) := by
  induction n with
  | zero => simp only [sumN]; rw [sumN_zero]
  | succ n ih => simp only [sumN, ih]; rw [sumN_add]
theorem sumN_le {n : Nat} {f g : Nat → Int} (h : ∀ k, k < n → f k ≤ g k) : sumN n f ≤ sumN n g := by
  induction n with
  | zero => simp [sumN]
  | succ n ih => simp only [sumN]; have := ih fun k hk => h k (by omega); have := h n (by omega); omega
theorem sumN_nonneg {n : Nat} {f : Nat → Int} (h : ∀ k, k < n → 0 ≤ f k) : 0 ≤ sumN n f := by
  have := sumN_le (n := n) (f := fun _ => 0) h
  rwa [sumN_zero] at this
theorem sumN_bd {n : Nat} {f : Nat → Int} {c : Int} (h : ∀ k, k < n → 0 ≤ f k ∧ f k ≤ c) : 0 ≤ sumN n f ∧ sumN n f ≤ n * c := by
  refine ⟨sumN_nonneg fun k hk => (h k hk).1, ?_⟩
  induction n with
  | zero => simp [sumN]
  | succ n ih =>
    simp only [sumN]
    have h1 := ih fun k hk => h k (by omega)
    have h2 := (h n (by omega)).2
    have e : ((n + 1 : Nat) : Int) * c = n * c + c := by rw [show ((n + 1 : Nat) : Int) = (n : Int) + 1 from rfl, Int.add_mul, Int.one_mul]
    omega
theorem sumN_point {n J : Nat} (f : Nat → Int) (hJ : J < n) : sumN n (fun k => if k = J then f k else 0) = f J := by
  induction n with
  | zero => omega
  | succ n ih =>
    simp only [sumN]
    by_cases e : J = n
    · subst e
      rw [sumN_congr (g := fun _ => 0) (fun k hk => if_neg (by omega)), sumN_zero, if_pos rfl]
      omega
    · rw [ih (by omega), if_neg (fun e' => e e'.symm)]
      omega

/-- 2 to the power of k. -/
def pw (k : Nat) : Int := ((2 ^ k : Nat) : Int)
theorem pw_zero : pw 0 = 1 := rfl
theorem pw_succ (k : Nat) : pw (k + 1) = pw k * 2 := by unfold pw; rw [Nat.pow_succ]; omega
theorem pw_pos (k : Nat) : 1 ≤ pw k := by unfold pw; have := Nat.two_pow_pos k; omega
theorem pw_mono {k l : Nat} (h : k ≤ l) : pw k ≤ pw l := by unfold pw; have := Nat.pow_le_pow_right (n := 2) (by omega) h; omega
theorem pw_61 {k : Nat} (h : k ≤ 61) : pw k ≤ 2305843009213693952 := by have := pw_mono h; have e : pw 61 = 2305843009213693952 := (by unfold pw; decide); omega
theorem pw_6 {k : Nat} (h : k ≤ 6) : pw k ≤ 64 := by have := pw_mono h; have e : pw 6 = 64 := (by unfold pw; decide); omega
/-- A bit as a number. -/
def b2i (b : Bool) : Int := if b then 1 else 0
theorem b2i_bd (b : Bool) : 0 ≤ b2i b ∧ b2i b ≤ 1 := by cases b <;> simp [b2i]
/-- The cell (i, j) of an image. -/
def cell (ns : List Nat) (i j : Nat) : Bool := (ns.getD i 0).testBit j
/-- The cell (i, j), false where there is none. -/
def cellZ (ns : List Nat) (i j : Int) : Bool := decide (0 ≤ i) && decide (0 ≤ j) && cell ns i.toNat j.toNat
/-- The image is valid: w columns, rows ns. -/
structure VImg (w : Nat) (ns : List Nat) : Prop where
  w1 : 1 ≤ w
  w6 : w ≤ 6
  h1 : 1 ≤ ns.length
  h6 : ns.length ≤ 6
  hi : ∀ n ∈ ns, n < 2 ^ w
def casts (ns : List Nat) : List Int := List.map (fun n : Nat => (n : Int)) ns
theorem length_casts (ns : List Nat) : (casts ns).length = ns.length := by simp [casts]
theorem casts_getD (ns : List Nat) (k : Nat) : (casts ns).getD k 0 = ((ns.getD k 0 : Nat) : Int) := by
  simp only [casts, List.getD_eq_getElem?_getD, List.getElem?_map]
  cases ns[k]? <;> simp
/-- Whether an image is valid, of whatever numbers. -/
def validB (W : Int) (rows : List Int) : Bool := decide (1 ≤ W) && decide (W ≤ 6) && decide (1 ≤ rows.length) && decide (rows.length ≤ 6) && rows.all fun r => decide (0 ≤ r) && decide (r < 2 ^ W.toNat)
theorem validB_yes {W : Int} {rows : List Int} (h : validB W rows = true) : ∃ (w : Nat) (ns : List Nat), W = w ∧ rows = casts ns ∧ VImg w ns := by
  simp only [validB, Bool.and_eq_true, decide_eq_true_eq, List.all_eq_true] at h
  obtain ⟨⟨⟨⟨h1, h2⟩, h3⟩, h4⟩, h5⟩ := h
  refine ⟨W.toNat, rows.map Int.toNat, by omega, ?_, by omega, by omega, by simpa using h3, by simpa using h4, ?_⟩
  · rw [casts, List.map_map]
    have : ∀ r ∈ rows, ((fun n : Nat => (n : Int)) ∘ Int.toNat) r = r := fun r hr => by
      have := (h5 r hr).1
      simp
      omega
    rw [List.map_congr_left this, List.map_id']
  · intro n hn
    obtain ⟨r, hr, rfl⟩ := List.mem_map.1 hn
    have h6 := h5 r hr
    have e : ((2 ^ W.toNat : Nat) : Int) = 2 ^ W.toNat := by simp
    omega
theorem validB_of {w : Nat} {ns : List Nat} (h : VImg w ns) : validB w (casts ns) = true := by
  simp only [validB, Bool.and_eq_true, decide_eq_true_eq, List.all_eq_true, length_casts]
  refine ⟨⟨⟨⟨?_, ?_⟩, h.h1⟩, h.h6⟩, ?_⟩
  · have := h.w1; omega
  · have := h.w6; omega
  · intro r hr
    obtain ⟨n, hn, rfl⟩ := List.mem_map.1 hr
    have := h.hi n hn
    have e : ((2 ^ w : Nat) : Int) = 2 ^ w := by simp
    have e2 : ((w : Int)).toNat = w := by simp
    rw [e2]
    omega
theorem VImg.get {w : Nat} {ns : List Nat} (h : VImg w ns) (i : Nat) : ns.getD i 0 < 2 ^ w := by
  rw [List.getD_eq_getElem?_getD]
  cases e : ns[i]? with
  | none => simp; exact Nat.two_pow_pos w
  | some n => exact h.hi n (List.mem_of_getElem? e)
theorem pow6 {w : Nat} (h : w ≤ 6) : 2 ^ w ≤ 64 := by
  have := Nat.pow_le_pow_right (n := 2) (by omega) h
  simpa using this
theorem VImg.get64 {w : Nat} {ns : List Nat} (h : VImg w ns) (i : Nat) : ns.getD i 0 < 64 := by
  have := h.get i
  have := pow6 h.w6
  omega
theorem VImg.cell_in {w : Nat} {ns : List Nat} (h : VImg w ns) {i j : Nat} (hc : cell ns i j = true) : i < ns.length ∧ j < w := by
  unfold cell at hc
  refine ⟨?_, ?_⟩
  · refine Classical.byContradiction fun hn => ?_
    rw [List.getD_eq_getElem?_getD, List.getElem?_eq_none (by omega)] at hc
    simp at hc
  · refine Classical.byContradiction fun hn => ?_
    rw [Nat.testBit_lt_two_pow (Nat.lt_of_lt_of_le (h.get i) (Nat.pow_le_pow_right (by omega) (by omega)))] at hc
    cases hc
/-- Two images of the same size are one if their cells are. -/
theorem img_ext {w : Nat} {ns ms : List Nat} (hl : ns.length = ms.length) (hn : ∀ n ∈ ns, n < 2 ^ w) (hm : ∀ n ∈ ms, n < 2 ^ w) (h : ∀ i j, i < ns.length → j < w → cell ns i j = cell ms i j) : ns = ms := by
  apply List.ext_getElem hl
  intro i h1 h2
  apply Nat.eq_of_testBit_eq
  intro j
  by_cases hj : j < w
  · have := h i j h1 hj
    simpa [cell, List.getD_eq_getElem?_getD, h1, h2] using this
  · have h3 : 2 ^ w ≤ 2 ^ j := Nat.pow_le_pow_right (by omega) (by omega)
    rw [Nat.testBit_lt_two_pow (Nat.lt_of_lt_of_le (hn _ (List.getElem_mem h1)) h3), Nat.testBit_lt_two_pow (Nat.lt_of_lt_of_le (hm _ (List.getElem_mem h2)) h3)]

/-- A row out of its bits. -/
def rowOf (p : Nat → Bool) : Nat → Nat
  | 0 => 0
  | w + 1 => rowOf p w + if p w then 2 ^ w else 0
theorem rowOf_lt (p : Nat → Bool) (w : Nat) : rowOf p w < 2 ^ w := by
  induction w with
  | zero => simp [rowOf]
  | succ w ih => simp only [rowOf, Nat.pow_succ]; split <;> omega
theorem rowOf_bit (p : Nat → Bool) (w j : Nat) : (rowOf p w).testBit j = (decide (j < w) && p j) := by
  induction w with
  | zero => simp [rowOf]
  | succ w ih =>
    simp only [rowOf]
    have hlt := rowOf_lt p w
    have hor : ∀ b : Bool, rowOf p w + (if b = true then 2 ^ w else 0) = (if b = true then 2 ^ w else 0) ||| rowOf p w := by
      intro b
      cases b with
      | false => simp
      | true =>
        have := Nat.two_pow_add_eq_or_of_lt hlt 1
        simpa [Nat.add_comm] using this
    rw [hor, Nat.testBit_or, ih]
    by_cases e : j = w
    · subst e
      cases hp : p j <;> simp [Nat.testBit_two_pow_self]
    · have h1 : (if p w = true then 2 ^ w else 0).testBit j = false := by
        cases p w with
        | false => simp
        | true => simp [Nat.testBit_two_pow]; omega
      rw [h1]
      by_cases hj : j < w
      · simp [hj, Nat.lt_succ_of_lt hj]
      · have : ¬ j < w + 1 := by omega
        simp [hj, this]
/-- An image out of its cells. -/
def mkI (h w : Nat) (p : Nat → Nat → Bool) : List Nat := (List.range h).map fun i => rowOf (p i) w
theorem length_mk (h w : Nat) (p : Nat → Nat → Bool) : (mkI h w p).length = h := by simp [mkI]
theorem mk_lt {h w : Nat} {p : Nat → Nat → Bool} : ∀ n ∈ mkI h w p, n < 2 ^ w := by
  intro n hn
  obtain ⟨i, _, rfl⟩ := List.mem_map.1 hn
  exact rowOf_lt _ _
theorem cell_mk {h w : Nat} {p : Nat → Nat → Bool} (i j : Nat) : cell (mkI h w p) i j = (decide (i < h) && decide (j < w) && p i j) := by
  unfold cell mkI
  rw [List.getD_eq_getElem?_getD, List.getElem?_map]
  by_cases hi : i < h
  · simp [hi, rowOf_bit]
  · rw [List.getElem?_eq_none (by simpa using hi)]
    simp [hi]
theorem vimg_mk {h w : Nat} {p : Nat → Nat → Bool} (h1 : 1 ≤ h) (h6 : h ≤ 6) (w1 : 1 ≤ w) (w6 : w ≤ 6) : VImg w (mkI h w p) :=
  ⟨w1, w6, by rw [length_mk]; exact h1, by rw [length_mk]; exact h6, mk_lt⟩
theorem VImg.eq_mk {w : Nat} {ns : List Nat} (hv : VImg w ns) {h : Nat} (hh : ns.length = h) {p : Nat → Nat → Bool} (hp : ∀ i j, i < h → j < w → cell ns i j = p i j) : ns = mkI h w p := by
  subst hh
  refine img_ext (by rw [length_mk]) hv.hi mk_lt fun i j hi hj => ?_
  rw [hp i j hi hj, cell_mk]
  simp [hi, hj]

/-! ### All cells, row by row -/
def cellsL (h w : Nat) : List (Nat × Nat) := (List.range h).flatMap fun i => (List.range w).map fun j => (i, j)
theorem mem_cellsL {h w : Nat} {c : Nat × Nat} : c ∈ cellsL h w ↔ c.1 < h ∧ c.2 < w := by
  obtain ⟨a, b⟩ := c
  simp only [cellsL, List.mem_flatMap, List.mem_range, List.mem_map, Prod.mk.injEq]
  constructor
  · rintro ⟨i, hi, j, hj, rfl, rfl⟩; exact ⟨hi, hj⟩
  · rintro ⟨hi, hj⟩; exact ⟨a, hi, b, hj, rfl, rfl⟩
theorem nodup_cellsL (h w : Nat) : (cellsL h w).Nodup := by
  unfold cellsL
  induction h with
  | zero => simp
  | succ n ih =>
    rw [List.range_succ, List.flatMap_append, List.nodup_append]
    refine ⟨ih, ?_, ?_⟩
    · simp only [List.flatMap_cons, List.flatMap_nil, List.append_nil]
      refine List.Pairwise.map _ (fun a b hab => ?_) List.nodup_range
      simpa using hab
    · intro a ha b hb e
      subst e
      simp only [List.mem_flatMap, List.mem_range, List.mem_map, List.mem_cons, List.not_mem_nil, or_false] at ha hb
      obtain ⟨i, hi, j, hj, rfl⟩ := ha
      obtain ⟨i', rfl, j', hj', e⟩ := hb
      injection e with e1 e2
      omega

theorem cellsL_succ (h w : Nat) : cellsL (h + 1) w = cellsL h w ++ (List.range w).map fun j => (h, j) := by
  unfold cellsL
  rw [List.range_succ, List.flatMap_append]
  simp
theorem length_cellsL (h w : Nat) : (cellsL h w).length = h * w := by
  induction h with
  | zero => simp [cellsL]
  | succ n ih =>
    rw [cellsL_succ, List.length_append, ih]
    simp [Nat.add_mul]

/-! ### One bit changed -/
def setBit (r j : Nat) (s : Bool) : Nat := if r.testBit j = s then r else r ^^^ 2 ^ j
theorem setBit_bit (r j k : Nat) (s : Bool) : (setBit r j s).testBit k = if k = j then s else r.testBit k := by
  unfold setBit
  by_cases h : r.testBit j = s
  · rw [if_pos h]
    by_cases e : k = j
    · subst e; rw [if_pos rfl]; exact h
    · rw [if_neg e]
  · rw [if_neg h, Nat.testBit_xor, Nat.testBit_two_pow]
    by_cases e : k = j
    · subst e
      rw [if_pos rfl]
      cases hr : r.testBit k <;> cases s <;> simp_all
    · rw [if_neg e]
      have : ¬ j = k := fun h => e h.symm
      simp [this]
theorem setBit_lt {r j w : Nat} {s : Bool} (hr : r < 2 ^ w) (hj : j < w) : setBit r j s < 2 ^ w := by
  unfold setBit
  split
  · exact hr
  · exact Nat.xor_lt_two_pow hr (Nat.pow_lt_pow_right (by omega) hj)
theorem setBit_sum : ∀ r, r < 64 → ∀ j, j < 6 → ∀ s : Bool, r - (r.testBit j).toNat * 2 ^ j + (if s then 2 ^ j else 0) = setBit r j s := by decide +kernel
theorem setBit_le : ∀ r, r < 64 → ∀ j, j < 6 → (r.testBit j).toNat * 2 ^ j ≤ r := by decide +kernel
/-- One cell of an image set, or not. -/
def putL (ns : List Nat) (i j : Nat) (s : Bool) : List Nat := ns.set i (setBit (ns.getD i 0) j s)
theorem length_putL (ns : List Nat) (i j : Nat) (s : Bool) : (putL ns i j s).length = ns.length := by simp [putL]
theorem cell_putL {ns : List Nat} {i : Nat} (hi : i < ns.length) (j : Nat) (s : Bool) (a b : Nat) : cell (putL ns i j s) a b = if a = i ∧ b = j then s else cell ns a b := by
  unfold cell putL
  by_cases ha : a = i
  · subst ha
    rw [List.getD_eq_getElem?_getD, List.getElem?_set_self hi]
    simp only [Option.getD_some, setBit_bit, true_and]
  · rw [List.getD_eq_getElem?_getD, List.getElem?_set_ne (fun h => ha h.symm), if_neg (fun h => ha h.1), List.getD_eq_getElem?_getD]
theorem putL_lt {w : Nat} {ns : List Nat} (h : ∀ n ∈ ns, n < 2 ^ w) {i j : Nat} (hi : i < ns.length) (hj : j < w) (s : Bool) : ∀ n ∈ putL ns i j s, n < 2 ^ w := by
  intro n hn
  rcases List.mem_or_eq_of_mem_set hn with hn | rfl
  · exact h n hn
  · refine setBit_lt (h _ ?_) hj
    rw [List.getD_eq_getElem?_getD, List.getElem?_eq_getElem hi]
    exact List.getElem_mem hi
theorem vimg_putL {w : Nat} {ns : List Nat} (h : VImg w ns) {i j : Nat} (hi : i < ns.length) (hj : j < w) (s : Bool) : VImg w (putL ns i j s) :=
  ⟨h.w1, h.w6, by rw [length_putL]; exact h.h1, by rw [length_putL]; exact h.h6, putL_lt h.hi hi hj s⟩
theorem putL_same {ns : List Nat} {i j : Nat} (hi : i < ns.length) {s : Bool} (h : cell ns i j = s) : putL ns i j s = ns := by
  unfold putL setBit
  unfold cell at h
  rw [if_pos h]
  apply List.ext_getElem?
  intro k
  by_cases e : k = i
  · subst e
    rw [List.getElem?_set_self hi, List.getD_eq_getElem?_getD, List.getElem?_eq_getElem hi]
    rfl
  · rw [List.getElem?_set_ne (fun h => e h.symm)]
theorem casts_set (ns : List Nat) (i n : Nat) : (casts ns).set i (n : Int) = casts (ns.set i n) := by
  unfold casts
  rw [List.map_set]

/-! ### Sums -/
def pop (w n : Nat) : Int := sumN w fun j => b2i (n.testBit j)
def rowSums (w : Nat) (ns : List Nat) : List Int := ns.map (pop w)
def colSum (ns : List Nat) (j : Nat) : Int := sumN ns.length fun i => b2i (cell ns i j)
def colSums (w : Nat) (ns : List Nat) : List Int := (List.range w).map (colSum ns)
/-- The sum of a value over the set cells. -/
def mom (w : Nat) (ns : List Nat) (f : Nat → Nat → Int) : Int := sumN ns.length fun i => sumN w fun j => f i j * b2i (cell ns i j)
def many (w : Nat) (ns : List Nat) : Int := mom w ns fun _ _ => 1
theorem pop_bd (w n : Nat) : 0 ≤ pop w n ∧ pop w n ≤ w := by
  have := sumN_bd (n := w) (f := fun j => b2i (n.testBit j)) (c := 1) fun k _ => b2i_bd _
  unfold pop
  omega
theorem pop_more {n w w' : Nat} (h : n < 2 ^ w) (hw : w ≤ w') : pop w' n = pop w n := by
  obtain ⟨d, rfl⟩ : ∃ d, w' = w + d := ⟨w' - w, by omega⟩
  unfold pop
  induction d with
  | zero => rfl
  | succ d ih =>
    rw [← Nat.add_assoc]
    simp only [sumN]
    rw [ih (by omega), Nat.testBit_lt_two_pow (Nat.lt_of_lt_of_le h (Nat.pow_le_pow_right (by omega) (by omega)))]
    simp [b2i]
end Go.Proofs.Ytldmilpohappiaa
