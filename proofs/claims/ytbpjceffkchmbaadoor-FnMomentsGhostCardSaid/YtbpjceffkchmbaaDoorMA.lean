/- Plain words for images, no program in them: rows as numbers, cells as their bits, sums. No condition. | Plain laws of moments, no program in them. Conditions: those that each theorem names. | Plain laws: the sum of the t greatest of a list, the least cut of two lists, and what an image that fills them has. No condition beyond those that the theorems name. | Plain law, no program in it: the number of connected components of a finite graph, and a count that ties a graph to its dual. Conditions: those that each theorem names. | Plain law, no program in it: in an image of h rows and w columns the number of set cells less the pairs of neighbors plus the full squares is the number of parts less that of holes. Conditions: h and w are at least 1. | Plain law, no program in it: Euler's number of an image is the number of its parts less that of its holes. Conditions: at least one row and one column. | Plain law, no program in it: Euler's number of an image is the number of its parts less that of its holes (the second side: the corners). Conditions: at least one row and one column. | Plain law, no program in it: the parts and the holes of an image, counted and built by finite search. Conditions: those that each theorem names. | Plain law, no program in it: what a search over neighbors comes to. Conditions: those that each theorem names. | Plain laws of parts, no program in them: a part is one part, without it there is one less, one cell joins at most four. Conditions: those that each theorem names. -/
section
namespace Go.Proofs.YtbpjceffkchmbaaDoor

def sumN : Nat → (Nat → Int) → Int
  | 0, _ => 0
  | n + 1, f => sumN n f + f n
theorem sumN_congr {n : Nat} {f g : Nat → Int} (h : ∀ k, k < n → f k = g k) : sumN n f = sumN n g := by
  induction n with
  | zero => rfl
  | succ n ih => simp only [sumN]; rw [ih fun k hk => h k (by omega), h n (by omega)]
theorem sumN_add (n : Nat) (f g : Nat → Int) : sumN n (fun k => f k + g k) = sumN n f + sumN n g := by
  induction n with
  | zero => rfl
  | succ n ih => simp only [sumN, ih]; omega
theorem sumN_mul (n : Nat) (c : Int) (f : Nat → Int) : sumN n (fun k => c * f k) = c * sumN n f := by
  induction n with
  | zero => simp [sumN]
  | succ n ih => simp only [sumN, ih, Int.mul_add]
theorem sumN_zero (n : Nat) : sumN n (fun _ => 0) = 0 := by
  induction n with
  | zero => rfl
  | succ n ih => simp only [sumN, ih]; rfl
theorem sumN_swap (n m : Nat) (f : Nat → Nat → Int) : sumN n (fun i => sumN m (fun j => f i j)) = sumN m (fun j => sumN n (fun i => f i j)) := by
  induction n with
  | zero => simp only [sumN]; rw [sumN_zero]
  | succ n ih => simp only [sumN, ih]; rw [sumN_add]
theorem sumN_le {n : Nat} {f g : Nat → Int} (h : ∀ k, k < n → f k ≤ g k) : sumN n f ≤ sumN n g := by
  induction n with
  | zero => simp [sumN]
  | succ n ih => simp only [sumN]; have := ih fun k hk => h k (by omega); have := h n (by omega); omega
theorem sumN_nonneg {n : Nat} {f : Nat → Int} (h : ∀ k, k < n → 0 ≤ f k) : 0 ≤ sumN n f := by
  have := sumN_le (n := n) (f := fun _ => 0) h
  rwa [sumN_zero] at this
theorem sumN_bd {n : Nat} {f : Nat → Int} {c : Int} (h : ∀ k, k < n → 0 ≤ f k ∧ f k ≤ c) : 0 ≤ sumN n f ∧ sumN n f ≤ n * c := by
  refine ⟨sumN_nonneg fun k hk => (h k hk).1, ?_⟩
  induction n with
  | zero => simp [sumN]
  | succ n ih =>
    simp only [sumN]
    have h1 := ih fun k hk => h k (by omega)
    have h2 := (h n (by omega)).2
    have e : ((n + 1 : Nat) : Int) * c = n * c + c := by rw [show ((n + 1 : Nat) : Int) = (n : Int) + 1 from rfl, Int.add_mul, Int.one_mul]
    omega
theorem sumN_point {n J : Nat} (f : Nat → Int) (hJ : J < n) : sumN n (fun k => if k = J then f k else 0) = f J := by
  induction n with
  | zero => omega
  | succ n ih =>
    simp only [sumN]
    by_cases e : J = n
    · subst e
      rw [sumN_congr (g := fun _ => 0) (fun k hk => if_neg (by omega)), sumN_zero, if_pos rfl]
      omega
    · rw [ih (by omega), if_neg (fun e' => e e'.symm)]
      omega

/-- 2 to the power of k. -/
def pw (k : Nat) : Int := ((2 ^ k : Nat) : Int)
theorem pw_zero : pw 0 = 1 := rfl
theorem pw_succ (k : Nat) : pw (k + 1) = pw k * 2 := by unfold pw; rw [Nat.pow_succ]; omega
theorem pw_pos (k : Nat) : 1 ≤ pw k := by unfold pw; have := Nat.two_pow_pos k; omega
theorem pw_mono {k l : Nat} (h : k ≤ l) : pw k ≤ pw l := by unfold pw; have := Nat.pow_le_pow_right (n := 2) (by omega) h; omega
theorem pw_61 {k : Nat} (h : k ≤ 61) : pw k ≤ 2305843009213693952 := by have := pw_mono h; have e : pw 61 = 2305843009213693952 := (by unfold pw; decide); omega
theorem pw_6 {k : Nat} (h : k ≤ 6) : pw k ≤ 64 := by have := pw_mono h; have e : pw 6 = 64 := (by unfold pw; decide); omega
/-- A bit as a number. -/
def b2i (b : Bool) : Int := if b then 1 else 0
theorem b2i_bd (b : Bool) : 0 ≤ b2i b ∧ b2i b ≤ 1 := by cases b <;> simp [b2i]
/-- The cell (i, j) of an image. -/
def cell (ns : List Nat) (i j : Nat) : Bool := (ns.getD i 0).testBit j
/-- The cell (i, j), false where there is none. -/
def cellZ (ns : List Nat) (i j : Int) : Bool := decide (0 ≤ i) && decide (0 ≤ j) && cell ns i.toNat j.toNat
/-- The image is valid: w columns, rows ns. -/
structure VImg (w : Nat) (ns : List Nat) : Prop where
  w1 : 1 ≤ w
  w6 : w ≤ 6
  h1 : 1 ≤ ns.length
  h6 : ns.length ≤ 6
  hi : ∀ n ∈ ns, n < 2 ^ w
def casts (ns : List Nat) : List Int := List.map (fun n : Nat => (n : Int)) ns
theorem length_casts (ns : List Nat) : (casts ns).length = ns.length := by simp [casts]
theorem casts_getD (ns : List Nat) (k : Nat) : (casts ns).getD k 0 = ((ns.getD k 0 : Nat) : Int) := by
  simp only [casts, List.getD_eq_getElem?_getD, List.getElem?_map]
  cases ns[k]? <;> simp
/-- Whether an image is valid, of whatever numbers. -/
def validB (W : Int) (rows : List Int) : Bool := decide (1 ≤ W) && decide (W ≤ 6) && decide (1 ≤ rows.length) && decide (rows.length ≤ 6) && rows.all fun r => decide (0 ≤ r) && decide (r < 2 ^ W.toNat)
theorem validB_yes {W : Int} {rows : List Int} (h : validB W rows = true) : ∃ (w : Nat) (ns : List Nat), W = w ∧ rows = casts ns ∧ VImg w ns := by
  simp only [validB, Bool.and_eq_true, decide_eq_true_eq, List.all_eq_true] at h
  obtain ⟨⟨⟨⟨h1, h2⟩, h3⟩, h4⟩, h5⟩ := h
  refine ⟨W.toNat, rows.map Int.toNat, by omega, ?_, by omega, by omega, by simpa using h3, by simpa using h4, ?_⟩
  · rw [casts, List.map_map]
    have : ∀ r ∈ rows, ((fun n : Nat => (n : Int)) ∘ Int.toNat) r = r := fun r hr => by
      have := (h5 r hr).1
      simp
      omega
    rw [List.map_congr_left this, List.map_id']
  · intro n hn
    obtain ⟨r, hr, rfl⟩ := List.mem_map.1 hn
    have h6 := h5 r hr
    have e : ((2 ^ W.toNat : Nat) : Int) = 2 ^ W.toNat := by simp
    omega
theorem validB_of {w : Nat} {ns : List Nat} (h : VImg w ns) : validB w (casts ns) = true := by
  simp only [validB, Bool.and_eq_true, decide_eq_true_eq, List.all_eq_true, length_casts]
  refine ⟨⟨⟨⟨?_, ?_⟩, h.h1⟩, h.h6⟩, ?_⟩
  · have := h.w1; omega
  · have := h.w6; omega
  · intro r hr
    obtain ⟨n, hn, rfl⟩ := List.mem_map.1 hr
    have := h.hi n hn
    have e : ((2 ^ w : Nat) : Int) = 2 ^ w := by simp
    have e2 : ((w : Int)).toNat = w := by simp
    rw [e2]
    omega
theorem VImg.get {w : Nat} {ns : List Nat} (h : VImg w ns) (i : Nat) : ns.getD i 0 < 2 ^ w := by
  rw [List.getD_eq_getElem?_getD]
  cases e : ns[i]? with
  | none => simp; exact Nat.two_pow_pos w
  | some n => exact h.hi n (List.mem_of_getElem? e)
theorem pow6 {w : Nat} (h : w ≤ 6) : 2 ^ w ≤ 64 := by
  have := Nat.pow_le_pow_right (n := 2) (by omega) h
  simpa using this
theorem VImg.get64 {w : Nat} {ns : List Nat} (h : VImg w ns) (i : Nat) : ns.getD i 0 < 64 := by
  have := h.get i
  have := pow6 h.w6
  omega
theorem VImg.cell_in {w : Nat} {ns : List Nat} (h : VImg w ns) {i j : Nat} (hc : cell ns i j = true) : i < ns.length ∧ j < w := by
  unfold cell at hc
  refine ⟨?_, ?_⟩
  · refine Classical.byContradiction fun hn => ?_
    rw [List.getD_eq_getElem?_getD, List.getElem?_eq_none (by omega)] at hc
    simp at hc
  · refine Classical.byContradiction fun hn => ?_
    rw [Nat.testBit_lt_two_pow (Nat.lt_of_lt_of_le (h.get i) (Nat.pow_le_pow_right (by omega) (by omega)))] at hc
    cases hc
/-- Two images of the same size are one if their cells are. -/
theorem img_ext {w : Nat} {ns ms : List Nat} (hl : ns.length = ms.length) (hn : ∀ n ∈ ns, n < 2 ^ w) (hm : ∀ n ∈ ms, n < 2 ^ w) (h : ∀ i j, i < ns.length → j < w → cell ns i j = cell ms i j) : ns = ms := by
  apply List.ext_getElem hl
  intro i h1 h2
  apply Nat.eq_of_testBit_eq
  intro j
  by_cases hj : j < w
  · have := h i j h1 hj
    simpa [cell, List.getD_eq_getElem?_getD, h1, h2] using this
  · have h3 : 2 ^ w ≤ 2 ^ j := Nat.pow_le_pow_right (by omega) (by omega)
    rw [Nat.testBit_lt_two_pow (Nat.lt_of_lt_of_le (hn _ (List.getElem_mem h1)) h3), Nat.testBit_lt_two_pow (Nat.lt_of_lt_of_le (hm _ (List.getElem_mem h2)) h3)]

/-- A row out of its bits. -/
def rowOf (p : Nat → Bool) : Nat → Nat
  | 0 => 0
  | w + 1 => rowOf p w + if p w then 2 ^ w else 0
theorem rowOf_lt (p : Nat → Bool) (w : Nat) : rowOf p w < 2 ^ w := by
  induction w with
  | zero => simp [rowOf]
  | succ w ih => simp only [rowOf, Nat.pow_succ]; split <;> omega
theorem rowOf_bit (p : Nat → Bool) (w j : Nat) : (rowOf p w).testBit j = (decide (j < w) && p j) := by
  induction w with
  | zero => simp [rowOf]
  | succ w ih =>
    simp only [rowOf]
    have hlt := rowOf_lt p w
    have hor : ∀ b : Bool, rowOf p w + (if b = true then 2 ^ w else 0) = (if b = true then 2 ^ w else 0) ||| rowOf p w := by
      intro b
      cases b with
      | false => simp
      | true =>
        have := Nat.two_pow_add_eq_or_of_lt hlt 1
        simpa [Nat.add_comm] using this
    rw [hor, Nat.testBit_or, ih]
    by_cases e : j = w
    · subst e
      cases hp : p j <;> simp [Nat.testBit_two_pow_self]
    · have h1 : (if p w = true then 2 ^ w else 0).testBit j = false := by
        cases p w with
        | false => simp
        | true => simp [Nat.testBit_two_pow]; omega
      rw [h1]
      by_cases hj : j < w
      · simp [hj, Nat.lt_succ_of_lt hj]
      · have : ¬ j < w + 1 := by omega
        simp [hj, this]
/-- An image out of its cells. -/
def mkI (h w : Nat) (p : Nat → Nat → Bool) : List Nat := (List.range h).map fun i => rowOf (p i) w
theorem length_mk (h w : Nat) (p : Nat → Nat → Bool) : (mkI h w p).length = h := by simp [mkI]
theorem mk_lt {h w : Nat} {p : Nat → Nat → Bool} : ∀ n ∈ mkI h w p, n < 2 ^ w := by
  intro n hn
  obtain ⟨i, _, rfl⟩ := List.mem_map.1 hn
  exact rowOf_lt _ _
theorem cell_mk {h w : Nat} {p : Nat → Nat → Bool} (i j : Nat) : cell (mkI h w p) i j = (decide (i < h) && decide (j < w) && p i j) := by
  unfold cell mkI
  rw [List.getD_eq_getElem?_getD, List.getElem?_map]
  by_cases hi : i < h
  · simp [hi, rowOf_bit]
  · rw [List.getElem?_eq_none (by simpa using hi)]
    simp [hi]
theorem vimg_mk {h w : Nat} {p : Nat → Nat → Bool} (h1 : 1 ≤ h) (h6 : h ≤ 6) (w1 : 1 ≤ w) (w6 : w ≤ 6) : VImg w (mkI h w p) :=
  ⟨w1, w6, by rw [length_mk]; exact h1, by rw [length_mk]; exact h6, mk_lt⟩
theorem VImg.eq_mk {w : Nat} {ns : List Nat} (hv : VImg w ns) {h : Nat} (hh : ns.length = h) {p : Nat → Nat → Bool} (hp : ∀ i j, i < h → j < w → cell ns i j = p i j) : ns = mkI h w p := by
  subst hh
  refine img_ext (by rw [length_mk]) hv.hi mk_lt fun i j hi hj => ?_
  rw [hp i j hi hj, cell_mk]
  simp [hi, hj]

/-! ### All cells, row by row -/
def cellsL (h w : Nat) : List (Nat × Nat) := (List.range h).flatMap fun i => (List.range w).map fun j => (i, j)
theorem mem_cellsL {h w : Nat} {c : Nat × Nat} : c ∈ cellsL h w ↔ c.1 < h ∧ c.2 < w := by
  obtain ⟨a, b⟩ := c
  simp only [cellsL, List.mem_flatMap, List.mem_range, List.mem_map, Prod.mk.injEq]
  constructor
  · rintro ⟨i, hi, j, hj, rfl, rfl⟩; exact ⟨hi, hj⟩
  · rintro ⟨hi, hj⟩; exact ⟨a, hi, b, hj, rfl, rfl⟩
theorem nodup_cellsL (h w : Nat) : (cellsL h w).Nodup := by
  unfold cellsL
  induction h with
  | zero => simp
  | succ n ih =>
    rw [List.range_succ, List.flatMap_append, List.nodup_append]
    refine ⟨ih, ?_, ?_⟩
    · simp only [List.flatMap_cons, List.flatMap_nil, List.append_nil]
      refine List.Pairwise.map _ (fun a b hab => ?_) List.nodup_range
      simpa using hab
    · intro a ha b hb e
      subst e
      simp only [List.mem_flatMap, List.mem_range, List.mem_map, List.mem_cons, List.not_mem_nil, or_false] at ha hb
      obtain ⟨i, hi, j, hj, rfl⟩ := ha
      obtain ⟨i', rfl, j', hj', e⟩ := hb
      injection e with e1 e2
      omega

theorem cellsL_succ (h w : Nat) : cellsL (h + 1) w = cellsL h w ++ (List.range w).map fun j => (h, j) := by
  unfold cellsL
  rw [List.range_succ, List.flatMap_append]
  simp
theorem length_cellsL (h w : Nat) : (cellsL h w).length = h * w := by
  induction h with
  | zero => simp [cellsL]
  | succ n ih =>
    rw [cellsL_succ, List.length_append, ih]
    simp [Nat.add_mul]

/-! ### One bit changed -/
def setBit (r j : Nat) (s : Bool) : Nat := if r.testBit j = s then r else r ^^^ 2 ^ j
theorem setBit_bit (r j k : Nat) (s : Bool) : (setBit r j s).testBit k = if k = j then s else r.testBit k := by
  unfold setBit
  by_cases h : r.testBit j = s
  · rw [if_pos h]
    by_cases e : k = j
    · subst e; rw [if_pos rfl]; exact h
    · rw [if_neg e]
  · rw [if_neg h, Nat.testBit_xor, Nat.testBit_two_pow]
    by_cases e : k = j
    · subst e
      rw [if_pos rfl]
      cases hr : r.testBit k <;> cases s <;> simp_all
    · rw [if_neg e]
      have : ¬ j = k := fun h => e h.symm
      simp [this]
theorem setBit_lt {r j w : Nat} {s : Bool} (hr : r < 2 ^ w) (hj : j < w) : setBit r j s < 2 ^ w := by
  unfold setBit
  split
  · exact hr
  · exact Nat.xor_lt_two_pow hr (Nat.pow_lt_pow_right (by omega) hj)
theorem setBit_sum : ∀ r, r < 64 → ∀ j, j < 6 → ∀ s : Bool, r - (r.testBit j).toNat * 2 ^ j + (if s then 2 ^ j else 0) = setBit r j s := by decide +kernel
theorem setBit_le : ∀ r, r < 64 → ∀ j, j < 6 → (r.testBit j).toNat * 2 ^ j ≤ r := by decide +kernel
/-- One cell of an image set, or not. -/
def putL (ns : List Nat) (i j : Nat) (s : Bool) : List Nat := ns.set i (setBit (ns.getD i 0) j s)
theorem length_putL (ns : List Nat) (i j : Nat) (s : Bool) : (putL ns i j s).length = ns.length := by simp [putL]
theorem cell_putL {ns : List Nat} {i : Nat} (hi : i < ns.length) (j : Nat) (s : Bool) (a b : Nat) : cell (putL ns i j s) a b = if a = i ∧ b = j then s else cell ns a b := by
  unfold cell putL
  by_cases ha : a = i
  · subst ha
    rw [List.getD_eq_getElem?_getD, List.getElem?_set_self hi]
    simp only [Option.getD_some, setBit_bit, true_and]
  · rw [List.getD_eq_getElem?_getD, List.getElem?_set_ne (fun h => ha h.symm), if_neg (fun h => ha h.1), List.getD_eq_getElem?_getD]
theorem putL_lt {w : Nat} {ns : List Nat} (h : ∀ n ∈ ns, n < 2 ^ w) {i j : Nat} (hi : i < ns.length) (hj : j < w) (s : Bool) : ∀ n ∈ putL ns i j s, n < 2 ^ w := by
  intro n hn
  rcases List.mem_or_eq_of_mem_set hn with hn | rfl
  · exact h n hn
  · refine setBit_lt (h _ ?_) hj
    rw [List.getD_eq_getElem?_getD, List.getElem?_eq_getElem hi]
    exact List.getElem_mem hi
theorem vimg_putL {w : Nat} {ns : List Nat} (h : VImg w ns) {i j : Nat} (hi : i < ns.length) (hj : j < w) (s : Bool) : VImg w (putL ns i j s) :=
  ⟨h.w1, h.w6, by rw [length_putL]; exact h.h1, by rw [length_putL]; exact h.h6, putL_lt h.hi hi hj s⟩
theorem putL_same {ns : List Nat} {i j : Nat} (hi : i < ns.length) {s : Bool} (h : cell ns i j = s) : putL ns i j s = ns := by
  unfold putL setBit
  unfold cell at h
  rw [if_pos h]
  apply List.ext_getElem?
  intro k
  by_cases e : k = i
  · subst e
    rw [List.getElem?_set_self hi, List.getD_eq_getElem?_getD, List.getElem?_eq_getElem hi]
    rfl
  · rw [List.getElem?_set_ne (fun h => e h.symm)]
theorem casts_set (ns : List Nat) (i n : Nat) : (casts ns).set i (n : Int) = casts (ns.set i n) := by
  unfold casts
  rw [List.map_set]

/-! ### Sums -/
def pop (w n : Nat) : Int := sumN w fun j => b2i (n.testBit j)
def rowSums (w : Nat) (ns : List Nat) : List Int := ns.map (pop w)
def colSum (ns : List Nat) (j : Nat) : Int := sumN ns.length fun i => b2i (cell ns i j)
def colSums (w : Nat) (ns : List Nat) : List Int := (List.range w).map (colSum ns)
/-- The sum of a value over the set cells. -/
def mom (w : Nat) (ns : List Nat) (f : Nat → Nat → Int) : Int := sumN ns.length fun i => sumN w fun j => f i j * b2i (cell ns i j)
def many (w : Nat) (ns : List Nat) : Int := mom w ns fun _ _ => 1
theorem pop_bd (w n : Nat) : 0 ≤ pop w n ∧ pop w n ≤ w := by
  have := sumN_bd (n := w) (f := fun j => b2i (n.testBit j)) (c := 1) fun k _ => b2i_bd _
  unfold pop
  omega
theorem pop_more {n w w' : Nat} (h : n < 2 ^ w) (hw : w ≤ w') : pop w' n = pop w n := by
  obtain ⟨d, rfl⟩ : ∃ d, w' = w + d := ⟨w' - w, by omega⟩
  unfold pop
  induction d with
  | zero => rfl
  | succ d ih =>
    rw [← Nat.add_assoc]
    simp only [sumN]
    rw [ih (by omega), Nat.testBit_lt_two_pow (Nat.lt_of_lt_of_le h (Nat.pow_le_pow_right (by omega) (by omega)))]
    simp [b2i]
end Go.Proofs.YtbpjceffkchmbaaDoor
end

section
namespace Go.Proofs.YtbpjceffkchmbaaDoor

def turnL (w : Nat) (ns : List Nat) : List Nat := mkI w ns.length fun i j => cell ns j i
def mirL (w : Nat) (ns : List Nat) : List Nat := mkI ns.length w fun i j => cell ns i (w - 1 - j)

theorem mom_congr {w : Nat} {ns : List Nat} {f g : Nat → Nat → Int} (h : ∀ i j, i < ns.length → j < w → f i j = g i j) : mom w ns f = mom w ns g :=
  sumN_congr fun i hi => sumN_congr fun j hj => by rw [h i j hi hj]
theorem mom_add (w : Nat) (ns : List Nat) (f g : Nat → Nat → Int) : mom w ns (fun i j => f i j + g i j) = mom w ns f + mom w ns g := by
  unfold mom
  rw [← sumN_add]
  refine sumN_congr fun i _ => ?_
  rw [← sumN_add]
  exact sumN_congr fun j _ => Int.add_mul _ _ _
theorem mom_mul (w : Nat) (ns : List Nat) (c : Int) (f : Nat → Nat → Int) : mom w ns (fun i j => c * f i j) = c * mom w ns f := by
  unfold mom
  rw [← sumN_mul]
  refine sumN_congr fun i _ => ?_
  rw [← sumN_mul]
  exact sumN_congr fun j _ => Int.mul_assoc _ _ _
theorem mom_nonneg {w : Nat} {ns : List Nat} {f : Nat → Nat → Int} (h : ∀ i j, i < ns.length → j < w → 0 ≤ f i j) : 0 ≤ mom w ns f :=
  sumN_nonneg fun i hi => sumN_nonneg fun j hj => Int.mul_nonneg (h i j hi hj) (b2i_bd _).1
theorem mom_le {w : Nat} {ns : List Nat} {f g : Nat → Nat → Int} (h : ∀ i j, i < ns.length → j < w → f i j ≤ g i j) : mom w ns f ≤ mom w ns g :=
  sumN_le fun i hi => sumN_le fun j hj => Int.mul_le_mul_of_nonneg_right (h i j hi hj) (b2i_bd _).1

theorem mom_turn (w : Nat) (ns : List Nat) (f : Nat → Nat → Int) : mom ns.length (turnL w ns) f = mom w ns fun i j => f j i := by
  unfold mom turnL
  rw [length_mk, sumN_swap]
  refine sumN_congr fun i hi => sumN_congr fun j hj => ?_
  rw [cell_mk]
  simp [hi, hj]
theorem sumN_rev (n : Nat) (f : Nat → Int) : sumN n (fun k => f (n - 1 - k)) = sumN n f := by
  induction n generalizing f with
  | zero => rfl
  | succ n ih =>
    have shift : ∀ (m : Nat) (g : Nat → Int), sumN (m + 1) g = g 0 + sumN m fun k => g (k + 1) := by
      intro m g
      induction m with
      | zero => simp [sumN]
      | succ m ihm => rw [sumN, ihm]; simp only [sumN]; omega
    rw [shift]
    have e : sumN n (fun k => f (n + 1 - 1 - (k + 1))) = sumN n fun k => f (n - 1 - k) := sumN_congr fun k _ => by congr 1; omega
    rw [e, ih]
    simp only [sumN, Nat.add_sub_cancel, Nat.sub_zero]
    omega
theorem mom_mir (w : Nat) (ns : List Nat) (f : Nat → Nat → Int) : mom w (mirL w ns) f = mom w ns fun i j => f i (w - 1 - j) := by
  unfold mom mirL
  rw [length_mk]
  refine sumN_congr fun i hi => ?_
  rw [← sumN_rev w (fun j => f i (w - 1 - j) * b2i (cell ns i j))]
  refine sumN_congr fun j hj => ?_
  rw [cell_mk]
  have e : w - 1 - (w - 1 - j) = j := by omega
  simp [hi, hj, e]
theorem vimg_turn {w : Nat} {ns : List Nat} (h : VImg w ns) : VImg ns.length (turnL w ns) := vimg_mk h.w1 h.w6 h.h1 h.h6
theorem vimg_mir {w : Nat} {ns : List Nat} (h : VImg w ns) : VImg w (mirL w ns) := vimg_mk h.h1 h.h6 h.w1 h.w6

/-! ### Squares spread -/
theorem spread_step {q s n a : Int} (h1 : s * s ≤ q * n) (h2 : ∀ c : Int, 0 ≤ q - 2 * c * s + c * c * n) : (s + a) * (s + a) ≤ (q + a * a) * (n + 1) ∧ ∀ c : Int, 0 ≤ (q + a * a) - 2 * c * (s + a) + c * c * (n + 1) := by
  refine ⟨?_, fun c => ?_⟩
  · have := h2 a
    have e1 : (s + a) * (s + a) = s * s + 2 * a * s + a * a := by
      rw [Int.add_mul, Int.mul_add, Int.mul_add, Int.mul_comm s a, Int.mul_assoc 2]; omega
    have e2 : (q + a * a) * (n + 1) = q * n + q + a * a * n + a * a := by
      rw [Int.add_mul, Int.mul_add, Int.mul_add]; omega
    omega
  · have h3 := h2 c
    have e1 : 2 * c * (s + a) = 2 * c * s + 2 * (c * a) := by rw [Int.mul_add, Int.mul_assoc 2 c a]
    have e2 : c * c * (n + 1) = c * c * n + c * c := by rw [Int.mul_add]; omega
    have e3 : 0 ≤ (a - c) * (a - c) := by
      rcases Int.le_total 0 (a - c) with h | h
      · exact Int.mul_nonneg h h
      · have := Int.mul_nonneg (a := c - a) (b := c - a) (by omega) (by omega)
        have e : (c - a) * (c - a) = (a - c) * (a - c) := by rw [show c - a = -(a - c) from by omega, Int.neg_mul_neg]
        omega
    have e4 : (a - c) * (a - c) = a * a - 2 * (c * a) + c * c := by
      rw [Int.sub_mul, Int.mul_sub, Int.mul_sub, Int.mul_comm a c]; omega
    omega
def Spread (q s n : Int) : Prop := s * s ≤ q * n ∧ ∀ c : Int, 0 ≤ q - 2 * c * s + c * c * n
theorem Spread.bit {q s n : Int} (h : Spread q s n) (a : Int) (b : Bool) : Spread (q + a * a * b2i b) (s + a * b2i b) (n + 1 * b2i b) := by
  cases b with
  | false => simpa [b2i] using h
  | true => simpa [b2i, Spread] using spread_step (a := a) h.1 h.2
theorem spread_row (w : Nat) (p : Nat → Bool) (a : Nat → Int) {q s n : Int} (h : Spread q s n) : Spread (q + sumN w fun j => a j * a j * b2i (p j)) (s + sumN w fun j => a j * b2i (p j)) (n + sumN w fun j => 1 * b2i (p j)) := by
  induction w with
  | zero => simpa [sumN] using h
  | succ w ih =>
    simp only [sumN]
    have := ih.bit (a w) (p w)
    rw [← Int.add_assoc, ← Int.add_assoc, ← Int.add_assoc]
    exact this
theorem spread_mom (w : Nat) (ns : List Nat) (a : Nat → Nat → Int) : Spread (mom w ns fun i j => a i j * a i j) (mom w ns a) (many w ns) := by
  unfold many mom
  generalize ns.length = h
  induction h with
  | zero => simp [sumN, Spread]
  | succ h ih =>
    simp only [sumN]
    exact spread_row w (cell ns h) (a h) ih

/-! ### Moments are those of the sums -/
theorem rowSums_getD {w : Nat} {ns : List Nat} {i : Nat} (hi : i < ns.length) : (rowSums w ns).getD i 0 = sumN w fun j => b2i (cell ns i j) := by
  simp only [rowSums, List.getD_eq_getElem?_getD, List.getElem?_map, List.getElem?_eq_getElem hi, Option.map_some, Option.getD_some, pop, cell]
theorem colSums_getD {w : Nat} {ns : List Nat} {j : Nat} (hj : j < w) : (colSums w ns).getD j 0 = sumN ns.length fun i => b2i (cell ns i j) := by
  simp only [colSums, List.getD_eq_getElem?_getD, List.getElem?_map, List.getElem?_range hj, Option.map_some, Option.getD_some, colSum]
theorem mom_rows (w : Nat) (ns : List Nat) (f : Nat → Int) : mom w ns (fun i _ => f i) = sumN ns.length fun i => f i * (rowSums w ns).getD i 0 := by
  unfold mom
  refine sumN_congr fun i hi => ?_
  rw [rowSums_getD hi, sumN_mul]
theorem mom_cols (w : Nat) (ns : List Nat) (f : Nat → Int) : mom w ns (fun _ j => f j) = sumN w fun j => f j * (colSums w ns).getD j 0 := by
  unfold mom
  rw [sumN_swap]
  refine sumN_congr fun j hj => ?_
  rw [colSums_getD hj, sumN_mul]

/-! ### One more cell -/
theorem mom_set {w : Nat} {ns ms : List Nat} {i j : Nat} (hl : ms.length = ns.length) (hi : i < ns.length) (hj : j < w) (hn : cell ns i j = false) (hm : ∀ a b, a < ns.length → b < w → cell ms a b = (cell ns a b || (decide (a = i) && decide (b = j)))) (f : Nat → Nat → Int) :
    mom w ms f = mom w ns f + f i j := by
  unfold mom
  rw [hl]
  have e1 : ∀ a, a < ns.length → sumN w (fun b => f a b * b2i (cell ms a b)) = sumN w (fun b => f a b * b2i (cell ns a b)) + if a = i then f a j else 0 := by
    intro a ha
    have : ∀ b, b < w → f a b * b2i (cell ms a b) = f a b * b2i (cell ns a b) + if b = j then (if a = i then f a b else 0) else 0 := by
      intro b hb
      rw [hm a b ha hb]
      by_cases ea : a = i
      · subst ea
        by_cases eb : b = j
        · subst eb
          rw [hn]
          simp [b2i]
        · simp [eb]
      · simp [ea]
    rw [sumN_congr this, sumN_add, sumN_point (fun b => if a = i then f a b else 0) hj]
  rw [sumN_congr e1, sumN_add, sumN_point (fun a => f a j) hi]
end Go.Proofs.YtbpjceffkchmbaaDoor
end

section
namespace Go.Proofs.YtbpjceffkchmbaaDoor
/-- The sum of the t greatest numbers of a list of numbers that are not negative. -/
def top : List Int → Nat → Int
  | _, 0 => 0
  | [], _ + 1 => 0
  | x :: xs, t + 1 => max (top xs (t + 1)) (x + top xs t)
theorem top_zero (xs : List Int) : top xs 0 = 0 := by cases xs <;> rfl
theorem top_nil (t : Nat) : top [] t = 0 := by cases t <;> rfl
theorem top_succ (x : Int) (xs : List Int) (t : Nat) : top (x :: xs) (t + 1) = max (top xs (t + 1)) (x + top xs t) := rfl
theorem top_swap (x y : Int) (l : List Int) : ∀ t, top (x :: y :: l) t = top (y :: x :: l) t
  | 0 => by simp only [top_zero]
  | 1 => by simp only [top_succ, top_zero]; omega
  | t + 2 => by simp only [top_succ]; omega
theorem top_perm {xs ys : List Int} (h : xs.Perm ys) : ∀ t, top xs t = top ys t := by
  induction h with
  | nil => exact fun _ => rfl
  | cons x _ ih =>
    intro t
    cases t with
    | zero => simp only [top_zero]
    | succ t => rw [top_succ, top_succ, ih, ih]
  | swap x y l => exact fun t => top_swap y x l t
  | trans _ _ ih1 ih2 => exact fun t => (ih1 t).trans (ih2 t)
theorem top_step {y : Int} : ∀ {ys : List Int}, (∀ z ∈ ys, z ≤ y) → 0 ≤ y → ∀ t, top ys (t + 1) ≤ y + top ys t
  | [], _, h0, t => by rw [top_nil, top_nil]; omega
  | z :: l, h, h0, t => by
    have hz := h z (List.mem_cons_self ..)
    have ih := top_step (ys := l) (fun z hz => h z (List.mem_cons_of_mem _ hz)) h0
    cases t with
    | zero =>
      have := ih 0
      rw [top_succ, top_zero, top_zero] at *
      omega
    | succ s =>
      have h1 := ih (s + 1)
      have h2 := ih s
      rw [top_succ z l (s + 1), top_succ z l s]
      omega
theorem top_desc : ∀ {ys : List Int}, ys.Pairwise (fun a b => b ≤ a) → (∀ y ∈ ys, 0 ≤ y) → ∀ t, top ys t = (ys.take t).sum
  | [], _, _, t => by rw [top_nil]; simp
  | y :: l, hp, h0, t => by
    cases t with
    | zero => rw [top_zero]; rfl
    | succ t =>
      have hp' := List.pairwise_cons.1 hp
      have h0' : ∀ z ∈ l, 0 ≤ z := fun z hz => h0 z (List.mem_cons_of_mem _ hz)
      have h1 := top_step hp'.1 (h0 y (List.mem_cons_self ..)) t
      rw [top_succ, List.take_succ_cons, List.sum_cons, ← top_desc hp'.2 h0' t]
      omega
theorem top_nonneg : ∀ {xs : List Int}, (∀ x ∈ xs, 0 ≤ x) → ∀ t, 0 ≤ top xs t
  | [], _, t => by rw [top_nil]; omega
  | x :: l, h, t => by
    have ih := top_nonneg (xs := l) fun z hz => h z (List.mem_cons_of_mem _ hz)
    cases t with
    | zero => rw [top_zero]; omega
    | succ t =>
      have := ih (t + 1)
      rw [top_succ]
      omega
theorem top_le : ∀ {xs : List Int}, (∀ x ∈ xs, 0 ≤ x) → ∀ t, top xs t ≤ xs.sum
  | [], _, t => by rw [top_nil]; simp
  | x :: l, h, t => by
    have hx := h x (List.mem_cons_self ..)
    have hl : ∀ z ∈ l, 0 ≤ z := fun z hz => h z (List.mem_cons_of_mem _ hz)
    have ih := top_le hl
    have hn := top_nonneg hl
    rw [List.sum_cons]
    cases t with
    | zero => have := ih 0; rw [top_zero] at *; omega
    | succ t =>
      have h1 := ih (t + 1)
      have h2 := ih t
      rw [top_succ]
      omega
theorem top_all : ∀ {xs : List Int}, (∀ x ∈ xs, 0 ≤ x) → ∀ t, xs.length ≤ t → top xs t = xs.sum
  | [], _, t, _ => by rw [top_nil]; simp
  | x :: l, h, t, ht => by
    have hx := h x (List.mem_cons_self ..)
    have hl : ∀ z ∈ l, 0 ≤ z := fun z hz => h z (List.mem_cons_of_mem _ hz)
    cases t with
    | zero => simp at ht
    | succ t =>
      have h1 := top_le hl (t + 1)
      have h2 := top_all hl t (by simpa using ht)
      rw [top_succ, List.sum_cons, h2]
      omega
theorem top_cons_le (x : Int) (xs : List Int) : ∀ t, top xs t ≤ top (x :: xs) t
  | 0 => by rw [top_zero, top_zero]; omega
  | t + 1 => by rw [top_succ]; omega
/-- How many are greater than t. -/
def above (t : Int) (xs : List Int) : Nat := (xs.filter fun x => decide (t < x)).length
theorem above_le (t : Int) (xs : List Int) : above t xs ≤ xs.length := List.length_filter_le _ _
def minS (t : Int) (xs : List Int) : Int := (xs.map fun x => min x t).sum
theorem minS_cons (t x : Int) (xs : List Int) : minS t (x :: xs) = min x t + minS t xs := by simp [minS]
theorem minS_le (t : Nat) : ∀ (xs : List Int) (s : Nat), minS t xs ≤ xs.sum - top xs s + t * s
  | [], s => by rw [top_nil]; simp [minS]; exact Int.mul_nonneg (by omega) (by omega)
  | x :: l, s => by
    have ih := minS_le t l
    rw [minS_cons, List.sum_cons]
    cases s with
    | zero =>
      have := ih 0
      rw [top_zero] at *
      omega
    | succ s =>
      have h1 := ih (s + 1)
      have h2 := ih s
      have e : (t : Int) * ((s + 1 : Nat) : Int) = t * s + t := by rw [show ((s + 1 : Nat) : Int) = (s : Int) + 1 from rfl, Int.mul_add, Int.mul_one]
      rw [top_succ]
      rw [e] at h1 ⊢
      omega
theorem minS_ge (t : Nat) : ∀ xs : List Int, xs.sum - top xs (above t xs) + t * (above t xs : Nat) ≤ minS t xs
  | [] => by simp [minS, above, top_zero]
  | x :: l => by
    have ih := minS_ge t l
    rw [minS_cons, List.sum_cons]
    by_cases h : (t : Int) < x
    · have e : above t (x :: l) = above t l + 1 := by simp [above, h]
      have e2 : (t : Int) * ((above t l + 1 : Nat) : Int) = t * (above t l : Nat) + t := by rw [show ((above t l + 1 : Nat) : Int) = ((above t l : Nat) : Int) + 1 from rfl, Int.mul_add, Int.mul_one]
      rw [e, top_succ, e2]
      omega
    · have e : above t (x :: l) = above t l := by simp [above, h]
      have := top_cons_le x l (above t l)
      rw [e]
      omega
/-- The least of f at 0 to n. -/
def minTo (f : Nat → Int) : Nat → Int
  | 0 => f 0
  | n + 1 => min (minTo f n) (f (n + 1))
theorem minTo_le {f : Nat → Int} : ∀ {n t : Nat}, t ≤ n → minTo f n ≤ f t
  | 0, t, h => by obtain rfl : t = 0 := by omega
                  exact Int.le_refl _
  | n + 1, t, h => by
    rw [minTo]
    by_cases e : t = n + 1
    · subst e; omega
    · have := minTo_le (f := f) (n := n) (t := t) (by omega)
      omega
theorem minTo_ex (f : Nat → Int) : ∀ n, ∃ t, t ≤ n ∧ minTo f n = f t
  | 0 => ⟨0, Nat.le_refl _, rfl⟩
  | n + 1 => by
    obtain ⟨t, ht, e⟩ := minTo_ex f n
    rw [minTo]
    by_cases h : minTo f n ≤ f (n + 1)
    · exact ⟨t, by omega, by rw [Int.min_eq_left h, e]⟩
    · exact ⟨n + 1, Nat.le_refl _, Int.min_eq_right (by omega)⟩
theorem le_minTo {f : Nat → Int} {z : Int} {n : Nat} (h : ∀ t, t ≤ n → z ≤ f t) : z ≤ minTo f n := by
  obtain ⟨t, ht, e⟩ := minTo_ex f n
  rw [e]
  exact h t ht
/-- The cut of the t greatest rows. -/
def cutT (rs cs : List Int) (t : Nat) : Int := rs.sum - top rs t + minS t cs
/-- The least cut. -/
def fm (rs cs : List Int) : Int := minTo (cutT rs cs) rs.length
theorem fm_le_turn (rs cs : List Int) : fm rs cs ≤ fm cs rs := by
  obtain ⟨s, hs, e⟩ := minTo_ex (cutT cs rs) cs.length
  have h0 : fm rs cs ≤ cutT rs cs (above s rs) := minTo_le (above_le _ _)
  have h1 := minS_ge s rs
  have h2 := minS_le (above s rs) cs s
  have e2 : ((above s rs : Nat) : Int) * (s : Int) = (s : Int) * (above s rs : Nat) := Int.mul_comm _ _
  unfold fm at *
  rw [e]
  unfold cutT at *
  rw [e2] at h2
  omega
theorem fm_turn (rs cs : List Int) : fm rs cs = fm cs rs := Int.le_antisymm (fm_le_turn rs cs) (fm_le_turn cs rs)
theorem minS_zero : ∀ {cs : List Int}, (∀ c ∈ cs, 0 ≤ c) → minS 0 cs = 0
  | [], _ => rfl
  | c :: l, h => by
    have := h c (List.mem_cons_self ..)
    rw [minS_cons, minS_zero fun z hz => h z (List.mem_cons_of_mem _ hz)]
    omega
theorem minS_all {t : Int} : ∀ {cs : List Int}, (∀ c ∈ cs, c ≤ t) → minS t cs = cs.sum
  | [], _ => rfl
  | c :: l, h => by
    have := h c (List.mem_cons_self ..)
    rw [minS_cons, minS_all fun z hz => h z (List.mem_cons_of_mem _ hz), List.sum_cons]
    omega
theorem minS_nonneg {t : Int} (ht : 0 ≤ t) : ∀ {cs : List Int}, (∀ c ∈ cs, 0 ≤ c) → 0 ≤ minS t cs
  | [], _ => Int.le_refl _
  | c :: l, h => by
    have := h c (List.mem_cons_self ..)
    have := minS_nonneg ht fun z hz => h z (List.mem_cons_of_mem _ hz)
    rw [minS_cons]
    omega
theorem cut_zero {rs cs : List Int} (h : ∀ c ∈ cs, 0 ≤ c) : cutT rs cs 0 = rs.sum := by
  unfold cutT
  rw [top_zero]
  show _ + minS 0 cs = _
  rw [minS_zero h]
  omega
theorem fm_rows {rs cs : List Int} (h : ∀ c ∈ cs, 0 ≤ c) : fm rs cs ≤ rs.sum := by
  have := minTo_le (f := cutT rs cs) (n := rs.length) (t := 0) (Nat.zero_le _)
  rw [cut_zero h] at this
  exact this
theorem fm_cols {rs cs : List Int} (h : ∀ r ∈ rs, 0 ≤ r) : fm rs cs ≤ cs.sum := by
  rw [fm_turn]
  exact fm_rows h
theorem fm_nonneg {rs cs : List Int} (hr : ∀ r ∈ rs, 0 ≤ r) (hc : ∀ c ∈ cs, 0 ≤ c) : 0 ≤ fm rs cs := le_minTo fun t _ => by
  have h1 := top_le hr t
  have h2 := minS_nonneg (t := (t : Int)) (by omega) hc
  unfold cutT
  omega
theorem fm_none {rs cs : List Int} (hr : ∀ r ∈ rs, 0 ≤ r) (hc : ∀ c ∈ cs, c = 0) : fm rs cs = 0 := by
  have h0 : ∀ c ∈ cs, 0 ≤ c := fun c h => by rw [hc c h]; omega
  have h1 := fm_nonneg hr h0
  have h2 := minTo_le (f := cutT rs cs) (n := rs.length) (t := rs.length) (Nat.le_refl _)
  have h3 : cutT rs cs rs.length = 0 := by
    unfold cutT
    rw [top_all hr _ (Nat.le_refl _)]
    have : minS (rs.length : Int) cs = cs.sum := minS_all fun c h => by rw [hc c h]; omega
    rw [this]
    have hs : cs.sum = 0 := by
      clear h0 h1 h2 this
      induction cs with
      | nil => rfl
      | cons c l ih => rw [List.sum_cons, hc c (List.mem_cons_self ..), ih fun z hz => hc z (List.mem_cons_of_mem _ hz)]; rfl
    omega
  unfold fm at *
  omega
theorem top_bd {w : Int} (hw : 0 ≤ w) : ∀ {xs : List Int}, (∀ x ∈ xs, x ≤ w) → ∀ t : Nat, top xs t ≤ t * w
  | [], _, t => by rw [top_nil]; exact Int.mul_nonneg (by omega) hw
  | x :: l, h, t => by
    have hx := h x (List.mem_cons_self ..)
    have ih := top_bd hw (xs := l) fun z hz => h z (List.mem_cons_of_mem _ hz)
    cases t with
    | zero => rw [top_zero]; simp
    | succ t =>
      have h1 := ih (t + 1)
      have h2 := ih t
      have e : ((t + 1 : Nat) : Int) * w = t * w + w := by rw [show ((t + 1 : Nat) : Int) = (t : Int) + 1 from rfl, Int.add_mul, Int.one_mul]
      rw [e] at h1 ⊢
      rw [top_succ]
      omega
theorem minS_const {h : Int} {t : Nat} (ht : (t : Int) ≤ h) : ∀ {cs : List Int}, (∀ c ∈ cs, c = h) → minS t cs = t * cs.length
  | [], _ => by simp [minS]
  | c :: l, hc => by
    rw [minS_cons, minS_const ht fun z hz => hc z (List.mem_cons_of_mem _ hz), hc c (List.mem_cons_self ..)]
    rw [List.length_cons, show ((l.length + 1 : Nat) : Int) = (l.length : Int) + 1 from rfl, Int.mul_add, Int.mul_one]
    omega
theorem fm_full {rs cs : List Int} (hr : ∀ r ∈ rs, r ≤ cs.length) (hc : ∀ c ∈ cs, c = rs.length) : fm rs cs = rs.sum := by
  have h1 : fm rs cs ≤ rs.sum := fm_rows fun c h => by rw [hc c h]; omega
  have h2 : rs.sum ≤ fm rs cs := le_minTo fun t ht => by
    have h3 := top_bd (w := (cs.length : Int)) (by omega) hr t
    have h4 := minS_const (h := (rs.length : Int)) (t := t) (by omega) hc
    unfold cutT
    omega
  omega
/-- Two lists whose least cut is the same at each t. -/
theorem fm_more {rs cs cs' : List Int} (h : ∀ t : Nat, minS t cs ≤ minS t cs' ∧ minS t cs' ≤ minS t cs + 1) : fm rs cs ≤ fm rs cs' ∧ fm rs cs' ≤ fm rs cs + 1 := by
  constructor
  · refine le_minTo fun t ht => ?_
    have h1 := minTo_le (f := cutT rs cs) ht
    have h2 := h t
    unfold fm
    unfold cutT at h1 ⊢
    omega
  · obtain ⟨t, ht, e⟩ := minTo_ex (cutT rs cs) rs.length
    have h1 := minTo_le (f := cutT rs cs') ht
    have h2 := h t
    unfold fm
    rw [e]
    unfold cutT at h1 ⊢
    omega
theorem minS_set : ∀ {cs : List Int} {k : Nat} (_ : k < cs.length) (t : Int), minS t cs ≤ minS t (cs.set k (cs.getD k 0 + 1)) ∧ minS t (cs.set k (cs.getD k 0 + 1)) ≤ minS t cs + 1
  | c :: l, 0, _, t => by
    rw [List.set_cons_zero, List.getD_cons_zero, minS_cons, minS_cons]
    omega
  | c :: l, k + 1, h, t => by
    have ih := minS_set (cs := l) (k := k) (by simpa using h) t
    rw [List.set_cons_succ, List.getD_cons_succ, minS_cons, minS_cons]
    omega
/-! ### What an image that fills has -/
theorem sumN_front (f : Nat → Int) : ∀ n, sumN (n + 1) f = f 0 + sumN n fun k => f (k + 1)
  | 0 => by simp [sumN]
  | n + 1 => by
    rw [sumN, sumN_front f n]
    simp only [sumN]
    omega
theorem list_sum_N (xs : List Int) : xs.sum = sumN xs.length fun i => xs.getD i 0 := by
  induction xs with
  | nil => rfl
  | cons x l ih => rw [List.sum_cons, List.length_cons, sumN_front, ih]; rfl
theorem map_sum_N (f : Int → Int) (xs : List Int) : (xs.map f).sum = sumN xs.length fun i => f (xs.getD i 0) := by
  induction xs with
  | nil => rfl
  | cons x l ih => rw [List.map_cons, List.sum_cons, List.length_cons, sumN_front, ih]; rfl
/-- Some rows, no more than t, have the sum of the t greatest. -/
theorem top_mask : ∀ (xs : List Int) (t : Nat), ∃ T : Nat → Bool, sumN xs.length (fun i => b2i (T i)) ≤ t ∧ sumN xs.length (fun i => b2i (T i) * xs.getD i 0) = top xs t
  | [], t => ⟨fun _ => false, by simp [sumN], by rw [top_nil]; rfl⟩
  | x :: l, 0 => ⟨fun _ => false, by simp [b2i, sumN_zero], by rw [top_zero]; simp [b2i, sumN_zero]⟩
  | x :: l, t + 1 => by
    rw [top_succ]
    by_cases h : top l (t + 1) ≥ x + top l t
    · obtain ⟨T, h1, h2⟩ := top_mask l (t + 1)
      refine ⟨fun i => match i with | 0 => false | k + 1 => T k, ?_, ?_⟩
      · rw [List.length_cons, sumN_front]
        simp only [b2i] at h1 ⊢
        simpa using h1
      · rw [List.length_cons, sumN_front]
        simp only [List.getD_cons_succ]
        rw [h2]
        simp [b2i]
        omega
    · obtain ⟨T, h1, h2⟩ := top_mask l t
      refine ⟨fun i => match i with | 0 => true | k + 1 => T k, ?_, ?_⟩
      · rw [List.length_cons, sumN_front]
        simp only [b2i] at h1 ⊢
        simp
        omega
      · rw [List.length_cons, sumN_front]
        simp only [List.getD_cons_succ, List.getD_cons_zero]
        rw [h2]
        simp [b2i]
        omega
/-- AN IMAGE THAT FILLS HAS NO MORE CELLS THAN ANY CUT. -/
theorem cells_le_cut {rs cs : List Int} (p : Nat → Nat → Bool) (hr : ∀ i, i < rs.length → sumN cs.length (fun j => b2i (p i j)) ≤ rs.getD i 0) (hc : ∀ j, j < cs.length → sumN rs.length (fun i => b2i (p i j)) ≤ cs.getD j 0) (t : Nat) :
    sumN rs.length (fun i => sumN cs.length fun j => b2i (p i j)) ≤ cutT rs cs t := by
  obtain ⟨T, hT, e⟩ := top_mask rs t
  unfold cutT
  rw [← e, list_sum_N rs, minS, map_sum_N]
  have h1 : sumN rs.length (fun i => sumN cs.length fun j => b2i (p i j)) = sumN rs.length (fun i => b2i (!T i) * sumN cs.length fun j => b2i (p i j)) + sumN rs.length (fun i => b2i (T i) * sumN cs.length fun j => b2i (p i j)) := by
    rw [← sumN_add]
    refine sumN_congr fun i _ => ?_
    cases T i <;> simp [b2i]
  have h2 : sumN rs.length (fun i => b2i (!T i) * sumN cs.length fun j => b2i (p i j)) + sumN rs.length (fun i => b2i (T i) * rs.getD i 0) ≤ sumN rs.length (fun i => rs.getD i 0) := by
    rw [← sumN_add]
    refine sumN_le fun i hi => ?_
    have := hr i hi
    have h0 : 0 ≤ sumN cs.length fun j => b2i (p i j) := sumN_nonneg fun j _ => (b2i_bd _).1
    cases T i <;> simp [b2i] at * <;> omega
  have h3 : sumN rs.length (fun i => b2i (T i) * sumN cs.length fun j => b2i (p i j)) ≤ sumN cs.length (fun j => min (cs.getD j 0) t) := by
    have e1 : sumN rs.length (fun i => b2i (T i) * sumN cs.length fun j => b2i (p i j)) = sumN cs.length fun j => sumN rs.length fun i => b2i (T i) * b2i (p i j) := by
      rw [← sumN_swap]
      refine sumN_congr fun i _ => ?_
      rw [← sumN_mul]
    rw [e1]
    refine sumN_le fun j hj => ?_
    have g1 : sumN rs.length (fun i => b2i (T i) * b2i (p i j)) ≤ sumN rs.length (fun i => b2i (p i j)) := sumN_le fun i _ => by cases T i <;> cases p i j <;> simp [b2i]
    have g2 : sumN rs.length (fun i => b2i (T i) * b2i (p i j)) ≤ sumN rs.length (fun i => b2i (T i)) := sumN_le fun i _ => by cases T i <;> cases p i j <;> simp [b2i]
    have := hc j hj
    omega
  omega
theorem cells_le_fm {rs cs : List Int} (p : Nat → Nat → Bool) (hr : ∀ i, i < rs.length → sumN cs.length (fun j => b2i (p i j)) ≤ rs.getD i 0) (hc : ∀ j, j < cs.length → sumN rs.length (fun i => b2i (p i j)) ≤ cs.getD j 0) :
    sumN rs.length (fun i => sumN cs.length fun j => b2i (p i j)) ≤ fm rs cs := le_minTo fun t _ => cells_le_cut p hr hc t
end Go.Proofs.YtbpjceffkchmbaaDoor
end

section
namespace Go.Proofs.YtbpjceffkchmbaaDoor.Gr

def cnt : Nat → (Nat → Bool) → Nat
  | 0, _ => 0
  | n + 1, p => cnt n p + (if p n then 1 else 0)

theorem cnt_congr {n : Nat} {p q : Nat → Bool} (h : ∀ k, k < n → p k = q k) : cnt n p = cnt n q := by
  induction n with
  | zero => rfl
  | succ n ih =>
    simp only [cnt]
    rw [ih (fun k hk => h k (by omega)), h n (by omega)]

theorem cnt_remove {n m : Nat} {p q : Nat → Bool} (hm : m < n) (hp : p m = true) (hq : q m = false) (h : ∀ k, k < n → k ≠ m → p k = q k) : cnt n q + 1 = cnt n p := by
  induction n with
  | zero => omega
  | succ n ih =>
    simp only [cnt]
    by_cases e : m = n
    · subst e
      rw [cnt_congr (p := p) (q := q) (fun k hk => h k (by omega) (by omega)), hp, hq]
      simp
    · rw [h n (by omega) (fun e' => e e'.symm)]
      have := ih (by omega) (fun k hk => h k (by omega))
      omega

theorem cnt_filter (n : Nat) (p : Nat → Bool) : cnt n p = ((List.range n).filter p).length := by
  induction n with
  | zero => rfl
  | succ n ih =>
    simp only [cnt, List.range_succ, List.filter_append, List.length_append, ih]
    by_cases h : p n = true <;> simp [h]

/-- Each element of a list without repetition has its own partner in another list: so it is no longer. -/
theorem rel_inj_le {α β : Type} [DecidableEq β] (Q : α → β → Prop) : ∀ (l : List α) (l' : List β), l.Nodup → (∀ a ∈ l, ∃ b ∈ l', Q a b) →
    (∀ a ∈ l, ∀ a' ∈ l, a ≠ a' → ∀ b, Q a b → Q a' b → False) → l.length ≤ l'.length := by
  intro l
  induction l with
  | nil => intros; simp
  | cons a l ih =>
    intro l' hn hq hd
    obtain ⟨b, hb, hab⟩ := hq a (by simp)
    have hn' := List.nodup_cons.1 hn
    have := ih (l'.erase b) hn'.2 (fun a' ha' => by
      obtain ⟨b', hb', hab'⟩ := hq a' (by simp [ha'])
      refine ⟨b', ?_, hab'⟩
      have hne : b' ≠ b := by
        rintro rfl
        exact hd a (by simp) a' (by simp [ha']) (fun e => hn'.1 (e ▸ ha')) _ hab hab'
      exact (List.mem_erase_of_ne hne).2 hb') (fun x hx y hy => hd x (by simp [hx]) y (by simp [hy]))
    rw [List.length_erase_of_mem hb] at this
    have : 0 < l'.length := List.length_pos_of_mem hb
    simp
    omega

inductive Conn (E : List (Nat × Nat)) (u : Nat) : Nat → Prop
  | refl : Conn E u u
  | step {v w : Nat} (h : Conn E u v) (e : (v, w) ∈ E ∨ (w, v) ∈ E) : Conn E u w

theorem Conn.trans {E : List (Nat × Nat)} {u v w : Nat} (h : Conn E u v) (k : Conn E v w) : Conn E u w := by
  induction k with
  | refl => exact h
  | step _ e ih => exact .step ih e
theorem Conn.symm {E : List (Nat × Nat)} {u v : Nat} (h : Conn E u v) : Conn E v u := by
  induction h with
  | refl => exact .refl
  | step _ e ih => exact (Conn.step .refl e.symm).trans ih
theorem Conn.mono {E E' : List (Nat × Nat)} (hs : ∀ e, e ∈ E → e ∈ E') {u v : Nat} (h : Conn E u v) : Conn E' u v := by
  induction h with
  | refl => exact .refl
  | step _ e ih => exact .step ih (e.imp (hs _) (hs _))
theorem Conn.one {E : List (Nat × Nat)} {u v : Nat} (h : (u, v) ∈ E) : Conn E u v := .step .refl (.inl h)
theorem Conn.cons_iff {E : List (Nat × Nat)} {x y u v : Nat} : Conn ((x, y) :: E) u v ↔ Conn E u v ∨ (Conn E u x ∧ Conn E y v) ∨ (Conn E u y ∧ Conn E x v) := by
  constructor
  · intro h
    induction h with
    | refl => exact .inl .refl
    | @step v w _ e ih =>
      have hE : ((v, w) ∈ E ∨ (w, v) ∈ E) ∨ (v = x ∧ w = y) ∨ (v = y ∧ w = x) := by
        rcases e with e | e
        · rcases List.mem_cons.1 e with e | e
          · injection e with e1 e2; exact .inr (.inl ⟨e1, e2⟩)
          · exact .inl (.inl e)
        · rcases List.mem_cons.1 e with e | e
          · injection e with e1 e2; exact .inr (.inr ⟨e2, e1⟩)
          · exact .inl (.inr e)
      rcases hE with hE | ⟨e1, e2⟩ | ⟨e1, e2⟩
      · rcases ih with ih | ⟨h1, h2⟩ | ⟨h1, h2⟩
        · exact .inl (.step ih hE)
        · exact .inr (.inl ⟨h1, .step h2 hE⟩)
        · exact .inr (.inr ⟨h1, .step h2 hE⟩)
      · rw [e2]
        rw [e1] at ih
        rcases ih with ih | ⟨h1, _⟩ | ⟨h1, _⟩
        · exact .inr (.inl ⟨ih, .refl⟩)
        · exact .inr (.inl ⟨h1, .refl⟩)
        · exact .inl h1
      · rw [e2]
        rw [e1] at ih
        rcases ih with ih | ⟨h1, _⟩ | ⟨h1, _⟩
        · exact .inr (.inr ⟨ih, .refl⟩)
        · exact .inl h1
        · exact .inr (.inr ⟨h1, .refl⟩)
  · have up : ∀ {a b : Nat}, Conn E a b → Conn ((x, y) :: E) a b := fun h => h.mono fun _ he => List.mem_cons_of_mem _ he
    rintro (h | ⟨h1, h2⟩ | ⟨h1, h2⟩)
    · exact up h
    · exact ((up h1).step (.inl List.mem_cons_self)).trans (up h2)
    · exact ((up h1).step (.inr List.mem_cons_self)).trans (up h2)

def Dec (E : List (Nat × Nat)) (R : Nat → Nat → Bool) : Prop := ∀ u v, R u v = true ↔ Conn E u v
theorem dec_ex (E : List (Nat × Nat)) : ∃ R, Dec E R := ⟨fun u v => @decide (Conn E u v) (Classical.propDecidable _), fun u v => by simp⟩
theorem Dec.of_mem {E E' : List (Nat × Nat)} {R : Nat → Nat → Bool} (h : Dec E R) (hs : ∀ e, e ∈ E ↔ e ∈ E') : Dec E' R :=
  fun u v => (h u v).trans ⟨Conn.mono fun e he => (hs e).1 he, Conn.mono fun e he => (hs e).2 he⟩
theorem Dec.uniq {E : List (Nat × Nat)} {R R' : Nat → Nat → Bool} (h : Dec E R) (h' : Dec E R') (u v : Nat) : R u v = R' u v := by
  rw [Bool.eq_iff_iff]
  exact (h u v).trans (h' u v).symm

def first (R : Nat → Nat → Bool) (v : Nat) : Bool := (List.range v).all fun u => !R u v
def comps (n : Nat) (R : Nat → Nat → Bool) : Nat := cnt n (first R)
theorem first_iff {R : Nat → Nat → Bool} {v : Nat} : first R v = true ↔ ∀ u, u < v → R u v = false := by simp [first]
theorem first_no {R : Nat → Nat → Bool} {v : Nat} : first R v = false ↔ ∃ u, u < v ∧ R u v = true := by
  rw [← Bool.not_eq_true, first_iff]
  constructor
  · intro h
    refine Classical.byContradiction fun hn => h fun u hu => ?_
    cases hr : R u v with
    | false => rfl
    | true => exact (hn ⟨u, hu, hr⟩).elim
  · rintro ⟨u, hu, hr⟩ h
    rw [h u hu] at hr
    cases hr
theorem comps_congr {n : Nat} {R R' : Nat → Nat → Bool} (h : ∀ u v, u < n → v < n → R u v = R' u v) : comps n R = comps n R' := by
  refine cnt_congr fun v hv => ?_
  rw [Bool.eq_iff_iff, first_iff, first_iff]
  exact ⟨fun hh u hu => (h u v (by omega) hv) ▸ hh u hu, fun hh u hu => (h u v (by omega) hv).symm ▸ hh u hu⟩
theorem Dec.comps_eq {E : List (Nat × Nat)} {R R' : Nat → Nat → Bool} (h : Dec E R) (h' : Dec E R') (n : Nat) : comps n R = comps n R' :=
  comps_congr fun u v _ _ => h.uniq h' u v

theorem min_ex {E : List (Nat × Nat)} {R : Nat → Nat → Bool} (hR : Dec E R) : ∀ v : Nat, ∃ m, m ≤ v ∧ Conn E m v ∧ first R m = true := by
  intro v
  induction v using Nat.strongRecOn with
  | _ v ih =>
    cases h : first R v with
    | true => exact ⟨v, Nat.le_refl _, .refl, h⟩
    | false =>
      obtain ⟨u, hu, hr⟩ := first_no.1 h
      obtain ⟨m, hm, hc, hf⟩ := ih u hu
      exact ⟨m, by omega, hc.trans ((hR _ _).1 hr), hf⟩
theorem first_le {E : List (Nat × Nat)} {R : Nat → Nat → Bool} (hR : Dec E R) {a b : Nat} (ha : first R a = true) (h : Conn E a b) : a ≤ b := by
  refine Classical.byContradiction fun hn => ?_
  have := first_iff.1 ha b (by omega)
  rw [(hR b a).2 h.symm] at this
  cases this
theorem first_uniq {E : List (Nat × Nat)} {R : Nat → Nat → Bool} (hR : Dec E R) {a b : Nat} (ha : first R a = true) (hb : first R b = true) (h : Conn E a b) : a = b :=
  Nat.le_antisymm (first_le hR ha h) (first_le hR hb h.symm)

theorem comps_same {E : List (Nat × Nat)} {R R' : Nat → Nat → Bool} {x y n : Nat} (hR : Dec E R) (hR' : Dec ((x, y) :: E) R') (h : Conn E x y) : comps n R' = comps n R := by
  refine comps_congr fun u v _ _ => ?_
  rw [Bool.eq_iff_iff, hR, hR', Conn.cons_iff]
  exact ⟨fun hh => by
    rcases hh with hh | ⟨h1, h2⟩ | ⟨h1, h2⟩
    · exact hh
    · exact (h1.trans h).trans h2
    · exact (h1.trans h.symm).trans h2, .inl⟩

theorem comps_less {E : List (Nat × Nat)} {R R' : Nat → Nat → Bool} {x y n : Nat} (hx : x < n) (hy : y < n) (hR : Dec E R) (hR' : Dec ((x, y) :: E) R') (h : ¬ Conn E x y) :
    comps n R' + 1 = comps n R := by
  obtain ⟨a, hax, hca, hfa⟩ := min_ex hR x
  obtain ⟨b, hby, hcb, hfb⟩ := min_ex hR y
  have hab : a ≠ b := fun e => h (hca.symm.trans (e ▸ hcb))
  have join : Conn ((x, y) :: E) a b := Conn.cons_iff.2 (.inr (.inl ⟨hca, hcb.symm⟩))
  refine cnt_remove (m := max a b) (by omega) ?_ ?_ ?_
  · rcases Nat.le_total a b with hl | hl
    · rw [Nat.max_eq_right hl]; exact hfb
    · rw [Nat.max_eq_left hl]; exact hfa
  · refine first_no.2 ?_
    rcases Nat.le_total a b with hl | hl
    · rw [Nat.max_eq_right hl]; exact ⟨a, by omega, (hR' _ _).2 join⟩
    · rw [Nat.max_eq_left hl]; exact ⟨b, by omega, (hR' _ _).2 join.symm⟩
  · intro v hv hne
    rw [Bool.eq_iff_iff, first_iff, first_iff]
    constructor
    · intro hf u hu
      have hfv : first R v = true := first_iff.2 hf
      cases hr : R' u v with
      | false => rfl
      | true =>
        exfalso
        rcases Conn.cons_iff.1 ((hR' _ _).1 hr) with h0 | ⟨h1, h2⟩ | ⟨h1, h2⟩
        · have := hf u hu
          rw [(hR u v).2 h0] at this
          cases this
        · have e1 : v = b := first_uniq hR hfv hfb (h2.symm.trans hcb.symm)
          have e2 : a ≤ u := first_le hR hfa (hca.trans h1.symm)
          omega
        · have e1 : v = a := first_uniq hR hfv hfa (h2.symm.trans hca.symm)
          have e2 : b ≤ u := first_le hR hfb (hcb.trans h1.symm)
          omega
    · intro hf u hu
      cases hr : R u v with
      | false => rfl
      | true =>
        have := hf u hu
        rw [(hR' u v).2 (Conn.cons_iff.2 (.inl ((hR u v).1 hr)))] at this
        cases this

/-- The number of components is the length of a list that has one vertex of each. -/
theorem comps_length {E : List (Nat × Nat)} {R : Nat → Nat → Bool} {n : Nat} (hR : Dec E R) (L : List Nat) (hn : L.Nodup) (hlt : ∀ l ∈ L, l < n)
    (hpw : ∀ a ∈ L, ∀ b ∈ L, a ≠ b → ¬ Conn E a b) (hall : ∀ v, v < n → ∃ l ∈ L, Conn E l v) : comps n R = L.length := by
  unfold comps
  rw [cnt_filter]
  refine Nat.le_antisymm ?_ ?_
  · refine rel_inj_le (fun a b => Conn E b a) _ _ (List.Pairwise.filter _ List.nodup_range) ?_ ?_
    · intro a ha
      have := List.mem_filter.1 ha
      exact hall a (by simpa using this.1)
    · intro a ha a' ha' hne b h1 h2
      exact hne (first_uniq hR (List.mem_filter.1 ha).2 (List.mem_filter.1 ha').2 (h1.symm.trans h2))
  · refine rel_inj_le (fun a b => Conn E b a) _ _ hn ?_ ?_
    · intro a ha
      obtain ⟨m, hm, hc, hf⟩ := min_ex hR a
      refine ⟨m, List.mem_filter.2 ⟨?_, hf⟩, hc⟩
      have := hlt a ha
      simp
      omega
    · intro a ha a' ha' hne b h1 h2
      exact hpw a ha a' ha' hne (h1.symm.trans h2)

theorem comps_nil {R : Nat → Nat → Bool} (hR : Dec [] R) (n : Nat) : comps n R = n := by
  have hno : ∀ {u v : Nat}, Conn [] u v → u = v := by
    intro u v h
    cases h with
    | refl => rfl
    | step _ e => simp at e
  rw [comps_length hR (List.range n) List.nodup_range (by simp) (fun a _ b _ hne h => hne (hno h)) (fun v hv => ⟨v, by simpa using hv, .refl⟩)]
  simp
theorem comps_full {E : List (Nat × Nat)} {R : Nat → Nat → Bool} {n : Nat} (hR : Dec E R) (hn : 0 < n) (h : ∀ v, v < n → Conn E 0 v) : comps n R = 1 := by
  rw [comps_length hR [0] (by simp) (by simpa using hn) (by simp) (fun v hv => ⟨0, by simp, h v hv⟩)]
  rfl

/-! ### The dual -/
abbrev DE := (Nat × Nat) × (Nat × Nat)

def one (b : Bool) : Nat := if b then 1 else 0
def cut (C : Nat → Bool) (f : DE) : Bool := C f.1.1 != C f.1.2
def deg (C : Nat → Bool) (q : Nat) : List DE → Nat
  | [] => 0
  | f :: r => one (cut C f) * (one (f.2.1 == q) + one (f.2.2 == q)) + deg C q r
def wgt (C K : Nat → Bool) : List DE → Nat
  | [] => 0
  | f :: r => one (cut C f) * (one (K f.2.1) + one (K f.2.2)) + wgt C K r
theorem wgt_append (C K : Nat → Bool) (a b : List DE) : wgt C K (a ++ b) = wgt C K a + wgt C K b := by
  induction a with
  | nil => simp [wgt]
  | cons f r ih => simp only [List.cons_append, wgt, ih]; omega

def sumK (K : Nat → Bool) (g : Nat → Nat) : Nat → Nat
  | 0 => 0
  | n + 1 => sumK K g n + one (K n) * g n
theorem sumK_add (K : Nat → Bool) (g h : Nat → Nat) (n : Nat) : sumK K (fun q => g q + h q) n = sumK K g n + sumK K h n := by
  induction n with
  | zero => rfl
  | succ n ih => simp only [sumK, ih, Nat.mul_add]; omega
theorem sumK_zero (K : Nat → Bool) (n : Nat) : sumK K (fun _ => 0) n = 0 := by
  induction n with
  | zero => rfl
  | succ n ih => simp only [sumK, ih]; simp
theorem sumK_mul (K : Nat → Bool) (c : Nat) (g : Nat → Nat) (n : Nat) : sumK K (fun q => c * g q) n = c * sumK K g n := by
  induction n with
  | zero => simp [sumK]
  | succ n ih => simp only [sumK, ih, Nat.mul_add]; rw [Nat.mul_left_comm]
theorem sumK_point (K : Nat → Bool) (p : Nat) : ∀ n : Nat, sumK K (fun q => one (p == q)) n = if p < n then one (K p) else 0 := by
  intro n
  induction n with
  | zero => simp [sumK]
  | succ n ih =>
    simp only [sumK, ih]
    by_cases e : p = n
    · subst e; simp [one]
    · have h1 : (p == n) = false := by simpa using e
      by_cases hl : p < n
      · rw [if_pos hl, if_pos (by omega), h1]; simp [one]
      · rw [if_neg hl, if_neg (by omega), h1]; simp [one]
theorem sumK_deg (C K : Nat → Bool) (n : Nat) : ∀ l : List DE, (∀ f ∈ l, f.2.1 < n ∧ f.2.2 < n) → sumK K (fun q => deg C q l) n = wgt C K l := by
  intro l
  induction l with
  | nil => intro _; simp only [deg, wgt]; exact sumK_zero K n
  | cons f r ih =>
    intro h
    have hf := h f (by simp)
    simp only [deg, wgt]
    rw [sumK_add, sumK_mul, sumK_add, sumK_point, sumK_point, if_pos hf.1, if_pos hf.2, ih fun g hg => h g (by simp [hg])]
theorem sumK_even (K : Nat → Bool) (g : Nat → Nat) (n : Nat) (h : ∀ q, q < n → g q % 2 = 0) : sumK K g n % 2 = 0 := by
  induction n with
  | zero => rfl
  | succ n ih =>
    simp only [sumK]
    have h1 := ih fun q hq => h q (by omega)
    have h2 := h n (by omega)
    cases K n <;> simp [one] <;> omega
theorem wgt_zero (C K : Nat → Bool) : ∀ l : List DE, (∀ f ∈ l, cut C f = false) → wgt C K l = 0 := by
  intro l
  induction l with
  | nil => intro _; rfl
  | cons f r ih =>
    intro h
    simp only [wgt, h f (by simp), ih fun g hg => h g (by simp [hg])]
    simp [one]
theorem wgt_even (C K : Nat → Bool) : ∀ l : List DE, (∀ f ∈ l, K f.2.1 = K f.2.2) → wgt C K l % 2 = 0 := by
  intro l
  induction l with
  | nil => intro _; rfl
  | cons f r ih =>
    intro h
    have h1 := ih fun g hg => h g (by simp [hg])
    simp only [wgt, h f (by simp)]
    cases cut C f <;> cases K f.2.2 <;> simp [one] <;> omega

/-- WHERE A SET OF VERTICES IS LEFT, ITS BORDER GOES ROUND: an edge whose ends are not tied by the edges ahead of it has a dual edge whose ends are tied by the dual edges behind it. -/
theorem tied {n' : Nat} {Es : List DE} (hd : ∀ f ∈ Es, f.2.1 < n' ∧ f.2.2 < n') (hev : ∀ (C : Nat → Bool) (q : Nat), q < n' → deg C q Es % 2 = 0)
    {A B : List DE} {e : DE} (hs : Es = A ++ e :: B) : Conn (A.map (·.1)) e.1.1 e.1.2 ∨ Conn (B.map (·.2)) e.2.1 e.2.2 := by
  refine Classical.byContradiction fun hno => ?_
  have h1 : ¬ Conn (A.map (·.1)) e.1.1 e.1.2 := fun h => hno (.inl h)
  have h2 : ¬ Conn (B.map (·.2)) e.2.1 e.2.2 := fun h => hno (.inr h)
  obtain ⟨RA, hRA⟩ := dec_ex (A.map (·.1))
  obtain ⟨RB, hRB⟩ := dec_ex (B.map (·.2))
  have htot := sumK_deg (RA e.1.1) (RB e.2.1) n' Es hd
  have heven := sumK_even (RB e.2.1) (fun q => deg (RA e.1.1) q Es) n' (fun q hq => hev _ q hq)
  rw [htot, hs, wgt_append] at heven
  have z : wgt (RA e.1.1) (RB e.2.1) A = 0 := by
    refine wgt_zero _ _ _ fun f hf => ?_
    have hm : (f.1.1, f.1.2) ∈ A.map (·.1) := List.mem_map.2 ⟨f, hf, rfl⟩
    have : RA e.1.1 f.1.1 = RA e.1.1 f.1.2 := by
      rw [Bool.eq_iff_iff, hRA, hRA]
      exact ⟨fun h => h.step (.inl hm), fun h => h.step (.inr hm)⟩
    simp [cut, this]
  have ev : wgt (RA e.1.1) (RB e.2.1) B % 2 = 0 := by
    refine wgt_even _ _ _ fun f hf => ?_
    have hm : (f.2.1, f.2.2) ∈ B.map (·.2) := List.mem_map.2 ⟨f, hf, rfl⟩
    rw [Bool.eq_iff_iff, hRB, hRB]
    exact ⟨fun h => h.step (.inl hm), fun h => h.step (.inr hm)⟩
  have c1 : RA e.1.1 e.1.1 = true := (hRA _ _).2 .refl
  have c2 : RA e.1.1 e.1.2 = false := by
    cases h : RA e.1.1 e.1.2 with
    | false => rfl
    | true => exact (h1 ((hRA _ _).1 h)).elim
  have k1 : RB e.2.1 e.2.1 = true := (hRB _ _).2 .refl
  have k2 : RB e.2.1 e.2.2 = false := by
    cases h : RB e.2.1 e.2.2 with
    | false => rfl
    | true => exact (h2 ((hRB _ _).1 h)).elim
  simp only [wgt, cut, c1, c2, k1, k2, z] at heven
  simp [one] at heven
  omega

theorem comps_cons_cases {E : List (Nat × Nat)} {R R' : Nat → Nat → Bool} {x y n : Nat} (hx : x < n) (hy : y < n) (hR : Dec E R) (hR' : Dec ((x, y) :: E) R') :
    (Conn E x y ∧ comps n R' = comps n R) ∨ comps n R' + 1 = comps n R := by
  by_cases h : Conn E x y
  · exact .inl ⟨h, comps_same hR hR' h⟩
  · exact .inr (comps_less hx hy hR hR' h)

/-- A GRAPH AND ITS DUAL: the components of some edges, and those of the dual edges of the others. -/
theorem dual_count {n n' : Nat} {Es : List DE} (hn : 0 < n) (hn' : 0 < n') (hp : ∀ f ∈ Es, f.1.1 < n ∧ f.1.2 < n) (hd : ∀ f ∈ Es, f.2.1 < n' ∧ f.2.2 < n')
    (hev : ∀ (C : Nat → Bool) (q : Nat), q < n' → deg C q Es % 2 = 0) (hcp : ∀ v, v < n → Conn (Es.map (·.1)) 0 v) (hcd : ∀ v, v < n' → Conn (Es.map (·.2)) 0 v)
    (hE : Es.length + 2 = n + n') (A B : List DE) (hs : Es = A ++ B) {R R' : Nat → Nat → Bool} (hR : Dec (A.map (·.1)) R) (hR' : Dec (B.map (·.2)) R') :
    comps n R + A.length + 1 = comps n' R' + n := by
  have step : ∀ (A B : List DE) (e : DE) (R R' S S' : Nat → Nat → Bool), Es = A ++ e :: B → Dec (A.map (·.1)) R → Dec ((e :: B).map (·.2)) R' → Dec ((A ++ [e]).map (·.1)) S → Dec (B.map (·.2)) S' →
      comps n R + comps n' S' ≤ comps n S + 1 + comps n' R' := by
    intro A B e R R' S S' hs hR hR' hS hS'
    have he : e ∈ Es := by rw [hs]; simp
    have hS2 : Dec ((e.1.1, e.1.2) :: A.map (·.1)) S := hS.of_mem fun x => by simp [or_comm]
    have hR2 : Dec ((e.2.1, e.2.2) :: B.map (·.2)) R' := hR'
    have c1 := comps_cons_cases (hp e he).1 (hp e he).2 hR hS2
    have c2 := comps_cons_cases (hd e he).1 (hd e he).2 hS' hR2
    rcases tied hd hev hs with ht | ht
    · have := comps_same (n := n) hR hS2 ht
      rcases c2 with ⟨_, c2⟩ | c2 <;> omega
    · have := comps_same (n := n') hS' hR2 ht
      rcases c1 with ⟨_, c1⟩ | c1 <;> omega
  have lower : ∀ (k : Nat) (A B : List DE) (R R' : Nat → Nat → Bool), A.length = k → Es = A ++ B → Dec (A.map (·.1)) R → Dec (B.map (·.2)) R' → comps n' R' + n ≤ comps n R + A.length + 1 := by
    intro k
    induction k with
    | zero =>
      intro A B R R' hk hs hR hR'
      obtain rfl : A = [] := List.eq_nil_of_length_eq_zero hk
      have hs' : Es = B := by simpa using hs
      rw [comps_nil hR n, comps_full hR' hn' (by rw [← hs']; exact hcd)]
      simp
      omega
    | succ k ih =>
      intro A B R R' hk hs hR hR'
      have hne : A ≠ [] := by intro e; rw [e] at hk; simp at hk
      obtain ⟨A0, e, rfl⟩ : ∃ A0 e, A = A0 ++ [e] := ⟨A.dropLast, A.getLast hne, (List.dropLast_concat_getLast hne).symm⟩
      obtain ⟨R0, hR0⟩ := dec_ex (A0.map (·.1))
      obtain ⟨R1, hR1⟩ := dec_ex ((e :: B).map (·.2))
      have hs1 : Es = A0 ++ e :: B := by rw [hs]; simp
      have h1 := ih A0 (e :: B) R0 R1 (by simpa using hk) hs1 hR0 hR1
      have h2 := step A0 B e R0 R1 R R' hs1 hR0 hR1 hR hR'
      simp
      omega
  have upper : ∀ (B A : List DE) (R R' : Nat → Nat → Bool), Es = A ++ B → Dec (A.map (·.1)) R → Dec (B.map (·.2)) R' → comps n R + A.length + 1 ≤ comps n' R' + n := by
    intro B
    induction B with
    | nil =>
      intro A R R' hs hR hR'
      have hs' : Es = A := by simpa using hs
      rw [comps_nil hR' n', comps_full hR hn (by rw [← hs']; exact hcp)]
      rw [hs'] at hE
      omega
    | cons e B ih =>
      intro A R R' hs hR hR'
      obtain ⟨R0, hR0⟩ := dec_ex ((A ++ [e]).map (·.1))
      obtain ⟨R1, hR1⟩ := dec_ex (B.map (·.2))
      have h1 := ih (A ++ [e]) R0 R1 (by rw [hs]; simp) hR0 hR1
      have h2 := step A B e R R' R0 R1 hs hR hR' hR0 hR1
      simp at h1
      omega
  exact Nat.le_antisymm (upper B A R R' hs hR hR') (lower A.length A B R R' rfl hs hR hR')
end Go.Proofs.YtbpjceffkchmbaaDoor.Gr
end

section
namespace Go.Proofs.YtbpjceffkchmbaaDoor.Gr

/-- Two cells are one, neighbors, or (near) touch at a corner. -/
def Adj (near : Bool) (i j k l : Nat) : Prop := i ≤ k + 1 ∧ k ≤ i + 1 ∧ j ≤ l + 1 ∧ l ≤ j + 1 ∧ (near = true ∨ i = k ∨ j = l)
theorem Adj.symm {near : Bool} {i j k l : Nat} (h : Adj near i j k l) : Adj near k l i j := by
  obtain ⟨a, b, c, d, e⟩ := h
  exact ⟨b, a, d, c, by rcases e with e | e | e <;> simp [e]⟩

/-- A cell is reached from another over cells of T. -/
inductive Reach (T : Nat → Nat → Bool) (near : Bool) (i j : Nat) : Nat → Nat → Prop
  | refl : Reach T near i j i j
  | step {k l m n : Nat} (h : Reach T near i j k l) (a : Adj near k l m n) (t : T m n = true) : Reach T near i j m n

section
variable {T : Nat → Nat → Bool} {near : Bool}
theorem Reach.trans {i j k l m n : Nat} (h : Reach T near i j k l) (g : Reach T near k l m n) : Reach T near i j m n := by
  induction g with
  | refl => exact h
  | step _ a t ih => exact .step ih a t
theorem Reach.mem {i j k l : Nat} (h : Reach T near i j k l) (hi : T i j = true) : T k l = true := by
  cases h with
  | refl => exact hi
  | step _ _ t => exact t
theorem Reach.symm {i j k l : Nat} (h : Reach T near i j k l) (hi : T i j = true) : Reach T near k l i j := by
  induction h with
  | refl => exact .refl
  | step h a _ ih => exact (Reach.step .refl a.symm (h.mem hi)).trans ih
theorem Reach.mono {T' : Nat → Nat → Bool} (hT : ∀ a b, T a b = true → T' a b = true) {i j k l : Nat} (h : Reach T near i j k l) : Reach T' near i j k l := by
  induction h with
  | refl => exact .refl
  | step _ a t ih => exact .step ih a (hT _ _ t)
end

def Earlier (k l i j : Nat) : Prop := k < i ∨ (k = i ∧ l < j)
/-- A cell of T is the first one of its part. -/
def FirstIn (T : Nat → Nat → Bool) (near : Bool) (i j : Nat) : Prop := T i j = true ∧ ∀ k l, Earlier k l i j → T k l = true → ¬ Reach T near i j k l

theorem first_ex {T : Nat → Nat → Bool} {near : Bool} : ∀ (i j : Nat), T i j = true → ∃ k l, FirstIn T near k l ∧ Reach T near i j k l := by
  have main : ∀ (i : Nat), (∀ k, k < i → ∀ l, T k l = true → ∃ m n, FirstIn T near m n ∧ Reach T near k l m n) → ∀ j, T i j = true → ∃ k l, FirstIn T near k l ∧ Reach T near i j k l := by
    intro i ihi j
    induction j using Nat.strongRecOn with
    | _ j ihj =>
      intro ht
      by_cases hf : FirstIn T near i j
      · exact ⟨i, j, hf, .refl⟩
      · have : ∃ k l, Earlier k l i j ∧ T k l = true ∧ Reach T near i j k l := by
          refine Classical.byContradiction fun hn => hf ⟨ht, fun k l he hk hr => hn ⟨k, l, he, hk, hr⟩⟩
        obtain ⟨k, l, he, hk, hr⟩ := this
        rcases he with he | ⟨rfl, he⟩
        · obtain ⟨m, n, hm, hmr⟩ := ihi k he l hk
          exact ⟨m, n, hm, hr.trans hmr⟩
        · obtain ⟨m, n, hm, hmr⟩ := ihj l he hk
          exact ⟨m, n, hm, hr.trans hmr⟩
  intro i
  induction i using Nat.strongRecOn with
  | _ i ih => exact main i ih

theorem first_same {T : Nat → Nat → Bool} {near : Bool} {i j k l : Nat} (h : FirstIn T near i j) (g : FirstIn T near k l) (hr : Reach T near i j k l) : i = k ∧ j = l := by
  refine Classical.byContradiction fun hn => ?_
  have : Earlier i j k l ∨ Earlier k l i j := by
    unfold Earlier
    omega
  rcases this with he | he
  · exact g.2 i j he h.1 (hr.symm h.1)
  · exact h.2 k l he g.1 hr

/-! ### The grid's edges and corners -/
def cx (h w i j : Nat) : Nat := if i = 0 ∨ j = 0 ∨ h ≤ i ∨ w ≤ j then 0 else 1 + (i - 1) * (w - 1) + (j - 1)
def hE (h w : Nat) : List DE := (List.range h).flatMap fun i => (List.range (w - 1)).map fun j => ((i * w + j, i * w + (j + 1)), (cx h w i (j + 1), cx h w (i + 1) (j + 1)))
def vE (h w : Nat) : List DE := (List.range (h - 1)).flatMap fun i => (List.range w).map fun j => ((i * w + j, (i + 1) * w + j), (cx h w (i + 1) j, cx h w (i + 1) (j + 1)))
def aE (h w : Nat) : List DE := hE h w ++ vE h w

theorem mem_hE {h w : Nat} {e : DE} : e ∈ hE h w ↔ ∃ i j, i < h ∧ j + 1 < w ∧ e = ((i * w + j, i * w + (j + 1)), (cx h w i (j + 1), cx h w (i + 1) (j + 1))) := by
  simp only [hE, List.mem_flatMap, List.mem_range, List.mem_map]
  constructor
  · rintro ⟨i, hi, j, hj, rfl⟩; exact ⟨i, j, hi, by omega, rfl⟩
  · rintro ⟨i, j, hi, hj, rfl⟩; exact ⟨i, hi, j, by omega, rfl⟩
theorem mem_vE {h w : Nat} {e : DE} : e ∈ vE h w ↔ ∃ i j, i + 1 < h ∧ j < w ∧ e = ((i * w + j, (i + 1) * w + j), (cx h w (i + 1) j, cx h w (i + 1) (j + 1))) := by
  simp only [vE, List.mem_flatMap, List.mem_range, List.mem_map]
  constructor
  · rintro ⟨i, hi, j, hj, rfl⟩; exact ⟨i, j, by omega, hj, rfl⟩
  · rintro ⟨i, j, hi, hj, rfl⟩; exact ⟨i, by omega, j, hj, rfl⟩

theorem lin_lt {a b m n : Nat} (ha : a < m) (hb : b < n) : a * n + b < m * n := by
  have : (a + 1) * n ≤ m * n := Nat.mul_le_mul_right n ha
  rw [Nat.add_mul] at this
  omega
theorem lin_inj {a b c d n : Nat} (hb : b < n) (hd : d < n) (h : a * n + b = c * n + d) : a = c ∧ b = d := by
  have h1 : (a * n + b) / n = (c * n + d) / n := by rw [h]
  have h2 : (a * n + b) % n = (c * n + d) % n := by rw [h]
  have hn : 0 < n := by omega
  rw [Nat.mul_comm a, Nat.mul_comm c, Nat.mul_add_div hn, Nat.mul_add_div hn, Nat.div_eq_of_lt hb, Nat.div_eq_of_lt hd] at h1
  rw [Nat.mul_comm a, Nat.mul_comm c, Nat.mul_add_mod, Nat.mul_add_mod, Nat.mod_eq_of_lt hb, Nat.mod_eq_of_lt hd] at h2
  exact ⟨by simpa using h1, h2⟩
theorem cx_in {h w i j : Nat} (hi : 1 ≤ i) (hih : i < h) (hj : 1 ≤ j) (hjw : j < w) : cx h w i j = 1 + (i - 1) * (w - 1) + (j - 1) := by
  unfold cx
  rw [if_neg (by omega)]
theorem cx_out {h w i j : Nat} (ho : i = 0 ∨ j = 0 ∨ h ≤ i ∨ w ≤ j) : cx h w i j = 0 := by
  unfold cx
  rw [if_pos ho]
theorem cx_lt {h w : Nat} (i j : Nat) : cx h w i j < (h - 1) * (w - 1) + 1 := by
  by_cases ho : i = 0 ∨ j = 0 ∨ h ≤ i ∨ w ≤ j
  · rw [cx_out ho]; omega
  · rw [cx_in (by omega) (by omega) (by omega) (by omega)]
    have := lin_lt (a := i - 1) (b := j - 1) (m := h - 1) (n := w - 1) (by omega) (by omega)
    omega
theorem cx_inj {h w i j I J : Nat} (hI : 1 ≤ I) (hIh : I < h) (hJ : 1 ≤ J) (hJw : J < w) (e : cx h w i j = cx h w I J) : i = I ∧ j = J := by
  rw [cx_in hI hIh hJ hJw] at e
  by_cases ho : i = 0 ∨ j = 0 ∨ h ≤ i ∨ w ≤ j
  · rw [cx_out ho] at e; omega
  · rw [cx_in (by omega) (by omega) (by omega) (by omega)] at e
    have := lin_inj (a := i - 1) (b := j - 1) (c := I - 1) (d := J - 1) (n := w - 1) (by omega) (by omega) (by omega)
    omega
theorem cx_ex {h w q : Nat} (hq : 0 < q) (hlt : q < (h - 1) * (w - 1) + 1) : ∃ I J, 1 ≤ I ∧ I < h ∧ 1 ≤ J ∧ J < w ∧ q = cx h w I J := by
  have hw : 0 < w - 1 := by
    rcases Nat.eq_zero_or_pos (w - 1) with e | e
    · rw [e] at hlt; omega
    · exact e
  have h1 : (q - 1) / (w - 1) < h - 1 := (Nat.div_lt_iff_lt_mul hw).2 (by omega)
  have h2 : (q - 1) % (w - 1) < w - 1 := Nat.mod_lt _ hw
  have h3 := Nat.div_add_mod (q - 1) (w - 1)
  rw [Nat.mul_comm] at h3
  generalize (q - 1) / (w - 1) = x at h1 h3
  generalize (q - 1) % (w - 1) = y at h2 h3
  refine ⟨x + 1, y + 1, by omega, by omega, by omega, by omega, ?_⟩
  rw [cx_in (by omega) (by omega) (by omega) (by omega)]
  simp only [Nat.add_sub_cancel]
  omega

/-! ### Round each corner the number of borders is even -/
def sm (f : Nat → Nat) : Nat → Nat
  | 0 => 0
  | n + 1 => sm f n + f n
theorem sm_congr {f g : Nat → Nat} {n : Nat} (h : ∀ k, k < n → f k = g k) : sm f n = sm g n := by
  induction n with
  | zero => rfl
  | succ n ih => simp only [sm]; rw [ih fun k hk => h k (by omega), h n (by omega)]
theorem sm_zero {f : Nat → Nat} {n : Nat} (h : ∀ k, k < n → f k = 0) : sm f n = 0 := by
  induction n with
  | zero => rfl
  | succ n ih => simp only [sm]; rw [ih fun k hk => h k (by omega), h n (by omega)]
theorem sm_one {f : Nat → Nat} {n J : Nat} (hJ : J < n) (h : ∀ k, k < n → k ≠ J → f k = 0) : sm f n = f J := by
  induction n with
  | zero => omega
  | succ n ih =>
    simp only [sm]
    by_cases e : J = n
    · subst e
      rw [sm_zero fun k hk => h k (by omega) (by omega)]
      omega
    · rw [ih (by omega) fun k hk hne => h k (by omega) hne, h n (by omega) (fun e' => e e'.symm)]
      omega
theorem sm_add (f g : Nat → Nat) (n : Nat) : sm (fun k => f k + g k) n = sm f n + sm g n := by
  induction n with
  | zero => rfl
  | succ n ih => simp only [sm, ih]; omega
theorem deg_append (C : Nat → Bool) (q : Nat) (a b : List DE) : deg C q (a ++ b) = deg C q a + deg C q b := by
  induction a with
  | nil => simp [deg]
  | cons f r ih => simp only [List.cons_append, deg, ih]; omega
theorem deg_map (C : Nat → Bool) (q : Nat) (G : Nat → DE) (m : Nat) : deg C q ((List.range m).map G) = sm (fun j => one (cut C (G j)) * (one ((G j).2.1 == q) + one ((G j).2.2 == q))) m := by
  induction m with
  | zero => rfl
  | succ m ih => simp only [List.range_succ, List.map_append, deg_append, ih, sm, List.map_cons, List.map_nil, deg]; omega
theorem deg_flat (C : Nat → Bool) (q : Nat) (F : Nat → List DE) (n : Nat) : deg C q ((List.range n).flatMap F) = sm (fun i => deg C q (F i)) n := by
  induction n with
  | zero => rfl
  | succ n ih => simp only [List.range_succ, List.flatMap_append, deg_append, ih, sm, List.flatMap_cons, List.flatMap_nil, List.append_nil]
theorem sm2_one {f : Nat → Nat → Nat} {n m I J : Nat} (hI : I < n) (hJ : J < m) (h : ∀ i j, i < n → j < m → ¬ (i = I ∧ j = J) → f i j = 0) : sm (fun i => sm (f i) m) n = f I J := by
  rw [sm_one (J := I) hI (fun i hi hne => sm_zero fun j hj => h i j hi hj (fun e => hne e.1))]
  exact sm_one hJ fun j hj hne => h I j hI hj (fun e => hne e.2)

theorem deg_even_in {h w I J : Nat} (hI : 1 ≤ I) (hIh : I < h) (hJ : 1 ≤ J) (hJw : J < w) (C : Nat → Bool) : deg C (cx h w I J) (aE h w) % 2 = 0 := by
  have key : ∀ i j, (cx h w i j == cx h w I J) = (decide (i = I) && decide (j = J)) := by
    intro i j
    rw [Bool.eq_iff_iff]
    simp only [beq_iff_eq, Bool.and_eq_true, decide_eq_true_eq]
    exact ⟨cx_inj hI hIh hJ hJw, fun ⟨a, b⟩ => by rw [a, b]⟩
  unfold aE
  rw [deg_append]
  unfold hE vE
  rw [deg_flat, deg_flat]
  simp only [deg_map, key, Nat.mul_add, sm_add]
  rw [sm2_one (I := I) (J := J - 1) hIh (by omega) (f := fun i j => one (cut C ((i * w + j, i * w + (j + 1)), (cx h w i (j + 1), cx h w (i + 1) (j + 1)))) * one (decide (i = I) && decide (j + 1 = J)))
      (fun i j _ _ hne => by
        have : (decide (i = I) && decide (j + 1 = J)) = false := by
          rw [← Bool.not_eq_true]; simp only [Bool.and_eq_true, decide_eq_true_eq]; omega
        simp only [this]; simp [one]),
    sm2_one (I := I - 1) (J := J - 1) (by omega) (by omega) (f := fun i j => one (cut C ((i * w + j, i * w + (j + 1)), (cx h w i (j + 1), cx h w (i + 1) (j + 1)))) * one (decide (i + 1 = I) && decide (j + 1 = J)))
      (fun i j _ _ hne => by
        have : (decide (i + 1 = I) && decide (j + 1 = J)) = false := by
          rw [← Bool.not_eq_true]; simp only [Bool.and_eq_true, decide_eq_true_eq]; omega
        simp only [this]; simp [one]),
    sm2_one (I := I - 1) (J := J) (by omega) (by omega) (f := fun i j => one (cut C ((i * w + j, (i + 1) * w + j), (cx h w (i + 1) j, cx h w (i + 1) (j + 1)))) * one (decide (i + 1 = I) && decide (j = J)))
      (fun i j _ _ hne => by
        have : (decide (i + 1 = I) && decide (j = J)) = false := by
          rw [← Bool.not_eq_true]; simp only [Bool.and_eq_true, decide_eq_true_eq]; omega
        simp only [this]; simp [one]),
    sm2_one (I := I - 1) (J := J - 1) (by omega) (by omega) (f := fun i j => one (cut C ((i * w + j, (i + 1) * w + j), (cx h w (i + 1) j, cx h w (i + 1) (j + 1)))) * one (decide (i + 1 = I) && decide (j + 1 = J)))
      (fun i j _ _ hne => by
        have : (decide (i + 1 = I) && decide (j + 1 = J)) = false := by
          rw [← Bool.not_eq_true]; simp only [Bool.and_eq_true, decide_eq_true_eq]; omega
        simp only [this]; simp [one])]
  have e1 : I - 1 + 1 = I := by omega
  have e2 : J - 1 + 1 = J := by omega
  simp only [e1, e2, decide_true, Bool.and_true, cut]
  cases C (I * w + (J - 1)) <;> cases C (I * w + J) <;> cases C ((I - 1) * w + (J - 1)) <;> cases C ((I - 1) * w + J) <;> simp [one]
end Go.Proofs.YtbpjceffkchmbaaDoor.Gr
end

section
namespace Go.Proofs.YtbpjceffkchmbaaDoor.Gr

theorem aE_bounds {h w : Nat} : ∀ f ∈ aE h w, (f.1.1 < h * w ∧ f.1.2 < h * w) ∧ (f.2.1 < (h - 1) * (w - 1) + 1 ∧ f.2.2 < (h - 1) * (w - 1) + 1) := by
  intro f hf
  rcases List.mem_append.1 hf with hf | hf
  · obtain ⟨i, j, hi, hj, rfl⟩ := mem_hE.1 hf
    exact ⟨⟨lin_lt hi (by omega), lin_lt hi hj⟩, cx_lt _ _, cx_lt _ _⟩
  · obtain ⟨i, j, hi, hj, rfl⟩ := mem_vE.1 hf
    exact ⟨⟨lin_lt (by omega) hj, lin_lt hi hj⟩, cx_lt _ _, cx_lt _ _⟩

theorem deg_even {h w : Nat} (C : Nat → Bool) (q : Nat) (hq : q < (h - 1) * (w - 1) + 1) : deg C q (aE h w) % 2 = 0 := by
  rcases Nat.eq_zero_or_pos q with e | e
  · subst e
    -- the whole sum is even, all other terms are
    have htot := sumK_deg C (fun _ => true) ((h - 1) * (w - 1) + 1) (aE h w) (fun f hf => (aE_bounds f hf).2)
    have hev := wgt_even C (fun _ => true) (aE h w) (fun _ _ => rfl)
    have split : ∀ n, (∀ q, 0 < q → q < n + 1 → deg C q (aE h w) % 2 = 0) → sumK (fun _ => true) (fun q => deg C q (aE h w)) (n + 1) % 2 = deg C 0 (aE h w) % 2 := by
      intro n
      induction n with
      | zero => intro _; simp [sumK, one]
      | succ n ih =>
        intro hh
        rw [sumK]
        have h1 := ih fun q h0 h1 => hh q h0 (by omega)
        have h2 := hh (n + 1) (by omega) (by omega)
        simp only [one, if_true]
        omega
    have hs := split ((h - 1) * (w - 1)) (fun q h0 h1 => by
      obtain ⟨I, J, a, b, c, d, rfl⟩ := cx_ex h0 h1
      exact deg_even_in a b c d C)
    rw [htot] at hs
    omega
  · obtain ⟨I, J, a, b, c, d, rfl⟩ := cx_ex e hq
    exact deg_even_in a b c d C

theorem conn_cells {h w : Nat} : ∀ i j, i < h → j < w → Conn ((aE h w).map (·.1)) 0 (i * w + j) := by
  have row : ∀ i, i < h → Conn ((aE h w).map (·.1)) 0 (i * w) → ∀ j, j < w → Conn ((aE h w).map (·.1)) 0 (i * w + j) := by
    intro i hi h0 j
    induction j with
    | zero => intro _; exact h0
    | succ j ih =>
      intro hj
      refine (ih (by omega)).step (.inl (List.mem_map.2 ⟨_, List.mem_append.2 (.inl (mem_hE.2 ⟨i, j, hi, hj, rfl⟩)), rfl⟩))
  intro i
  induction i with
  | zero => intro j hi hj; exact row 0 hi (by rw [Nat.zero_mul]; exact .refl) j hj
  | succ i ih =>
    intro j hi hj
    refine row (i + 1) hi ?_ j hj
    have := ih 0 (by omega) (by omega)
    rw [Nat.add_zero] at this
    refine this.step (.inl (List.mem_map.2 ⟨_, List.mem_append.2 (.inr (mem_vE.2 ⟨i, 0, hi, by omega, rfl⟩)), ?_⟩))
    simp
theorem conn_corners {h w : Nat} : ∀ q, q < (h - 1) * (w - 1) + 1 → Conn ((aE h w).map (·.2)) 0 q := by
  intro q hq
  rcases Nat.eq_zero_or_pos q with e | e
  · subst e; exact .refl
  · obtain ⟨I, J, hI, hIh, hJ, hJw, rfl⟩ := cx_ex e hq
    have go : ∀ j, j < w → Conn ((aE h w).map (·.2)) 0 (cx h w I j) := by
      intro j
      induction j with
      | zero => intro _; rw [cx_out (by omega)]; exact .refl
      | succ j ih =>
        intro hj
        refine (ih (by omega)).step (.inl (List.mem_map.2 ⟨_, List.mem_append.2 (.inr (mem_vE.2 ⟨I - 1, j, by omega, by omega, rfl⟩)), ?_⟩))
        simp only [show I - 1 + 1 = I from by omega]
    exact go J hJw
theorem length_flat {α : Type} (n m : Nat) (F : Nat → Nat → α) : ((List.range n).flatMap fun i => (List.range m).map (F i)).length = n * m := by
  induction n with
  | zero => simp
  | succ n ih =>
    rw [List.range_succ, List.flatMap_append, List.length_append, ih]
    simp [Nat.add_mul]
theorem length_hE (h w : Nat) : (hE h w).length = h * (w - 1) := length_flat _ _ _
theorem length_vE (h w : Nat) : (vE h w).length = (h - 1) * w := length_flat _ _ _
theorem length_aE {h w : Nat} (hh : 0 < h) (hw : 0 < w) : (aE h w).length + 2 = h * w + ((h - 1) * (w - 1) + 1) := by
  unfold aE
  rw [List.length_append, length_hE, length_vE]
  obtain ⟨a, rfl⟩ : ∃ a, h = a + 1 := ⟨h - 1, by omega⟩
  obtain ⟨b, rfl⟩ : ∃ b, w = b + 1 := ⟨w - 1, by omega⟩
  simp only [Nat.add_sub_cancel, Nat.add_mul, Nat.mul_add]
  omega

theorem deg_filter (C : Nat → Bool) (q : Nat) (p : DE → Bool) (l : List DE) : deg C q (l.filter p ++ l.filter (fun e => !p e)) = deg C q l := by
  rw [deg_append]
  induction l with
  | nil => rfl
  | cons f r ih => cases hp : p f <;> simp [hp, deg] <;> omega
theorem length_filter_not (p : DE → Bool) (l : List DE) : (l.filter p ++ l.filter (fun e => !p e)).length = l.length := by
  rw [List.length_append]
  induction l with
  | nil => rfl
  | cons f r ih => cases hp : p f <;> simp [hp] <;> omega
theorem mem_filter_not (p : DE → Bool) (l : List DE) (e : DE) : e ∈ l.filter p ++ l.filter (fun e => !p e) ↔ e ∈ l := by
  rw [List.mem_append, List.mem_filter, List.mem_filter]
  cases p e <;> simp

/-- The count, for a parting of all pairs of neighbors into those of set cells and the others. -/
theorem grid_count {h w : Nat} (hh : 0 < h) (hw : 0 < w) (p : DE → Bool) {R R' : Nat → Nat → Bool} (hR : Dec (((aE h w).filter p).map (·.1)) R) (hR' : Dec (((aE h w).filter fun e => !p e).map (·.2)) R') :
    comps (h * w) R + ((aE h w).filter p).length + 1 = comps ((h - 1) * (w - 1) + 1) R' + h * w := by
  have up : ∀ {f : DE → Nat × Nat} {u v : Nat}, Conn ((aE h w).map f) u v → Conn (((aE h w).filter p ++ (aE h w).filter (fun e => !p e)).map f) u v := by
    intro f u v hc
    refine hc.mono fun e he => ?_
    obtain ⟨x, hx, rfl⟩ := List.mem_map.1 he
    exact List.mem_map.2 ⟨x, (mem_filter_not p _ x).2 hx, rfl⟩
  refine dual_count (Es := (aE h w).filter p ++ (aE h w).filter (fun e => !p e)) (Nat.mul_pos hh hw) (by omega) (fun f hf => (aE_bounds f ((mem_filter_not p _ f).1 hf)).1) (fun f hf => (aE_bounds f ((mem_filter_not p _ f).1 hf)).2)
    (fun C q hq => by rw [deg_filter]; exact deg_even C q hq) ?_ (fun q hq => up (conn_corners q hq)) (by rw [length_filter_not]; exact length_aE hh hw) _ _ rfl hR hR'
  intro v hv
  have hlt : v / w < h := (Nat.div_lt_iff_lt_mul hw).2 hv
  have := conn_cells (h := h) (w := w) (v / w) (v % w) hlt (Nat.mod_lt _ hw)
  rw [Nat.mul_comm, Nat.div_add_mod] at this
  exact up this

/-! ### The two sides, counted by cells -/
section
variable {h w : Nat} {S : Nat → Nat → Bool}

/-- Both cells of a pair of neighbors are set. -/
def both (w : Nat) (S : Nat → Nat → Bool) (f : DE) : Bool := S (f.1.1 / w) (f.1.1 % w) && S (f.1.2 / w) (f.1.2 % w)
theorem divmod {i j : Nat} (hj : j < w) : (i * w + j) / w = i ∧ (i * w + j) % w = j := by
  have hw : 0 < w := by omega
  rw [Nat.mul_comm, Nat.mul_add_div hw, Nat.mul_add_mod, Nat.div_eq_of_lt hj, Nat.mod_eq_of_lt hj]
  exact ⟨by omega, rfl⟩
theorem both_h {i j : Nat} (hj : j + 1 < w) (q : Nat × Nat) : both w S ((i * w + j, i * w + (j + 1)), q) = (S i j && S i (j + 1)) := by
  unfold both
  simp only [(divmod (w := w) (i := i) (j := j) (by omega)).1, (divmod (w := w) (i := i) (j := j) (by omega)).2, (divmod (w := w) (i := i) hj).1, (divmod (w := w) (i := i) hj).2]
theorem both_v {i j : Nat} (hj : j < w) (q : Nat × Nat) : both w S ((i * w + j, (i + 1) * w + j), q) = (S i j && S (i + 1) j) := by
  unfold both
  simp only [(divmod (w := w) (i := i) hj).1, (divmod (w := w) (i := i) hj).2, (divmod (w := w) (i := i + 1) hj).1, (divmod (w := w) (i := i + 1) hj).2]

theorem mem_bb {a b : Nat} : (a, b) ∈ ((aE h w).filter (both w S)).map (·.1) → ∃ i j k l, i < h ∧ j < w ∧ k < h ∧ l < w ∧ a = i * w + j ∧ b = k * w + l ∧ S i j = true ∧ S k l = true ∧ Adj false i j k l := by
  intro hm
  obtain ⟨e, he, hab⟩ := List.mem_map.1 hm
  obtain ⟨he, hb⟩ := List.mem_filter.1 he
  rcases List.mem_append.1 he with he | he
  · obtain ⟨i, j, hi, hj, rfl⟩ := mem_hE.1 he
    rw [both_h hj] at hb
    injection hab with h1 h2
    simp only [Bool.and_eq_true] at hb
    exact ⟨i, j, i, j + 1, hi, by omega, hi, hj, h1.symm, h2.symm, hb.1, hb.2, by unfold Adj; omega⟩
  · obtain ⟨i, j, hi, hj, rfl⟩ := mem_vE.1 he
    rw [both_v hj] at hb
    injection hab with h1 h2
    simp only [Bool.and_eq_true] at hb
    exact ⟨i, j, i + 1, j, by omega, hj, hi, hj, h1.symm, h2.symm, hb.1, hb.2, by unfold Adj; omega⟩

/-- A tie over set neighbors is a way over set cells. -/
theorem conn_reach {i j v : Nat} (hj : j < w) (hc : Conn (((aE h w).filter (both w S)).map (·.1)) (i * w + j) v) :
    v = i * w + j ∨ (S i j = true ∧ ∃ k l, l < w ∧ v = k * w + l ∧ S k l = true ∧ Reach S false i j k l) := by
  induction hc with
  | refl => exact .inl rfl
  | @step a b _ e ih =>
    have hx : ∃ i' j' k l, j' < w ∧ l < w ∧ a = i' * w + j' ∧ b = k * w + l ∧ S i' j' = true ∧ S k l = true ∧ Adj false i' j' k l := by
      rcases e with e | e
      · obtain ⟨i', j', k, l, _, h1, _, h2, h3, h4, h5, h6, h7⟩ := mem_bb e
        exact ⟨i', j', k, l, h1, h2, h3, h4, h5, h6, h7⟩
      · obtain ⟨i', j', k, l, _, h1, _, h2, h3, h4, h5, h6, h7⟩ := mem_bb e
        exact ⟨k, l, i', j', h2, h1, h4, h3, h6, h5, h7.symm⟩
    obtain ⟨i', j', k, l, hj', hl, ea, eb, s1, s2, ad⟩ := hx
    refine .inr ?_
    rcases ih with ih | ⟨s0, k', l', hl', ea', _, hr⟩
    · rw [ih] at ea
      obtain ⟨rfl, rfl⟩ := lin_inj hj hj' ea
      exact ⟨s1, k, l, hl, eb, s2, .step .refl ad s2⟩
    · rw [ea'] at ea
      obtain ⟨rfl, rfl⟩ := lin_inj hl' hj' ea
      exact ⟨s0, k, l, hl, eb, s2, .step hr ad s2⟩

theorem reach_conn (hS : ∀ i j, S i j = true → i < h ∧ j < w) {i j k l : Nat} (s : S i j = true) (hr : Reach S false i j k l) : Conn (((aE h w).filter (both w S)).map (·.1)) (i * w + j) (k * w + l) := by
  induction hr with
  | refl => exact .refl
  | @step a b m n hr ad t ih =>
    have sa := hr.mem s
    obtain ⟨ha, hb⟩ := hS _ _ sa
    obtain ⟨hm, hn⟩ := hS _ _ t
    have inE : ∀ e : DE, e ∈ aE h w → both w S e = true → e.1 ∈ ((aE h w).filter (both w S)).map (·.1) := fun e h1 h2 => List.mem_map.2 ⟨e, List.mem_filter.2 ⟨h1, h2⟩, rfl⟩
    have right : ∀ i j, i < h → j + 1 < w → S i j = true → S i (j + 1) = true → (i * w + j, i * w + (j + 1)) ∈ ((aE h w).filter (both w S)).map (·.1) := fun i j h1 h2 h3 h4 =>
      inE ((i * w + j, i * w + (j + 1)), _) (List.mem_append.2 (.inl (mem_hE.2 ⟨i, j, h1, h2, rfl⟩))) (by rw [both_h h2, h3, h4]; rfl)
    have down : ∀ i j, i + 1 < h → j < w → S i j = true → S (i + 1) j = true → (i * w + j, (i + 1) * w + j) ∈ ((aE h w).filter (both w S)).map (·.1) := fun i j h1 h2 h3 h4 =>
      inE ((i * w + j, (i + 1) * w + j), _) (List.mem_append.2 (.inr (mem_vE.2 ⟨i, j, h1, h2, rfl⟩))) (by rw [both_v h2, h3, h4]; rfl)
    obtain ⟨c1, c2, c3, c4, c5⟩ := ad
    have cases4 : (m = a ∧ n = b) ∨ (m = a ∧ n = b + 1) ∨ (m = a ∧ b = n + 1) ∨ (m = a + 1 ∧ n = b) ∨ (a = m + 1 ∧ n = b) := by
      rcases c5 with c5 | c5 | c5
      · cases c5
      · omega
      · omega
    rcases cases4 with ⟨rfl, rfl⟩ | ⟨rfl, rfl⟩ | ⟨rfl, rfl⟩ | ⟨rfl, rfl⟩ | ⟨rfl, rfl⟩
    · exact ih
    · exact ih.step (.inl (right _ _ ha hn sa t))
    · exact ih.step (.inr (right _ _ ha hb t sa))
    · exact ih.step (.inl (down _ _ hm hn sa t))
    · exact ih.step (.inr (down _ _ ha hn t sa))

/-- How many components the set cells make, the others alone: parts and cells that are not set. -/
theorem comps_parts (hS : ∀ i j, S i j = true → i < h ∧ j < w) (fB : Nat × Nat → Bool) (hf : ∀ c, fB c = true ↔ FirstIn S false c.1 c.2) {R : Nat → Nat → Bool} (hR : Dec (((aE h w).filter (both w S)).map (·.1)) R) :
    comps (h * w) R = ((cellsL h w).filter fun c => !S c.1 c.2 || fB c).length := by
  rw [comps_length hR (((cellsL h w).filter fun c => !S c.1 c.2 || fB c).map fun c => c.1 * w + c.2)]
  · simp
  · rw [List.nodup_iff_pairwise_ne, List.pairwise_map]
    refine List.Pairwise.imp_of_mem ?_ (List.Pairwise.filter _ (nodup_cellsL h w))
    intro a b ha hb hne e
    have ha := (mem_cellsL.1 (List.mem_filter.1 ha).1).2
    have hb := (mem_cellsL.1 (List.mem_filter.1 hb).1).2
    obtain ⟨e1, e2⟩ := lin_inj ha hb e
    exact hne (Prod.ext e1 e2)
  · intro l hl
    obtain ⟨c, hc, rfl⟩ := List.mem_map.1 hl
    have := mem_cellsL.1 (List.mem_filter.1 hc).1
    exact lin_lt this.1 this.2
  · intro a ha b hb hne hc
    obtain ⟨c, hcm, rfl⟩ := List.mem_map.1 ha
    obtain ⟨d, hdm, rfl⟩ := List.mem_map.1 hb
    obtain ⟨hc1, hc2⟩ := List.mem_filter.1 hcm
    obtain ⟨hd1, hd2⟩ := List.mem_filter.1 hdm
    have hcc := mem_cellsL.1 hc1
    have hdd := mem_cellsL.1 hd1
    rcases conn_reach hcc.2 hc with e | ⟨s0, k, l, hl, e, s1, hr⟩
    · exact hne e.symm
    · obtain ⟨rfl, rfl⟩ := lin_inj hdd.2 hl e
      rw [s0] at hc2
      rw [s1] at hd2
      obtain ⟨e1, e2⟩ := first_same ((hf c).1 (by simpa using hc2)) ((hf d).1 (by simpa using hd2)) hr
      exact hne (by rw [e1, e2])
  · intro v hv
    have hw : 0 < w := by
      rcases Nat.eq_zero_or_pos w with e | e
      · rw [e] at hv; omega
      · exact e
    have hlt : v / w < h := (Nat.div_lt_iff_lt_mul hw).2 hv
    have hmod := Nat.mod_lt v hw
    have ev : v / w * w + v % w = v := by rw [Nat.mul_comm]; exact Nat.div_add_mod v w
    cases hs : S (v / w) (v % w) with
    | false =>
      refine ⟨v, List.mem_map.2 ⟨(v / w, v % w), List.mem_filter.2 ⟨mem_cellsL.2 ⟨hlt, hmod⟩, by simp [hs]⟩, ev⟩, .refl⟩
    | true =>
      obtain ⟨k, l, hk, hr⟩ := first_ex (T := S) (near := false) _ _ hs
      obtain ⟨hk1, hk2⟩ := hS _ _ hk.1
      refine ⟨k * w + l, List.mem_map.2 ⟨(k, l), List.mem_filter.2 ⟨mem_cellsL.2 ⟨hk1, hk2⟩, by rw [(hf (k, l)).2 hk]; simp⟩, rfl⟩, ?_⟩
      have := (reach_conn hS hs hr).symm
      rw [ev] at this
      exact this
end
end Go.Proofs.YtbpjceffkchmbaaDoor.Gr
end

section
namespace Go.Proofs.YtbpjceffkchmbaaDoor.Gr

/-- The cells that are there and not set. -/
def Co (h w : Nat) (S : Nat → Nat → Bool) (i j : Nat) : Bool := decide (i < h) && decide (j < w) && !S i j
theorem co_iff {h w : Nat} {S : Nat → Nat → Bool} {i j : Nat} : Co h w S i j = true ↔ i < h ∧ j < w ∧ S i j = false := by
  simp [Co, and_assoc]
/-- A cell from which only inner cells are reached. -/
def Inner (h w : Nat) (T : Nat → Nat → Bool) (i j : Nat) : Prop := ∀ k l, Reach T true i j k l → 1 ≤ k ∧ k + 1 < h ∧ 1 ≤ l ∧ l + 1 < w
/-- The first cell of a hole. -/
def HoleFirst (h w : Nat) (S : Nat → Nat → Bool) (i j : Nat) : Prop := FirstIn (Co h w S) true i j ∧ Inner h w (Co h w S) i j
/-- A square of four set cells. -/
def Sq (S : Nat → Nat → Bool) (c : Nat × Nat) : Bool := S c.1 c.2 && S c.1 (c.2 + 1) && S (c.1 + 1) c.2 && S (c.1 + 1) (c.2 + 1)

section
variable {h w : Nat} {S : Nat → Nat → Bool}

/-- The sides between two cells that are not both set. -/
def dE (h w : Nat) (S : Nat → Nat → Bool) : List (Nat × Nat) := ((aE h w).filter fun e => !both w S e).map (·.2)

/-- A side of dE: its two corners, and a cell that is not set and has both. -/
theorem mem_dE {a b : Nat} (hm : (a, b) ∈ dE h w S) : ∃ i j k l m n, a = cx h w i j ∧ b = cx h w k l ∧ Co h w S m n = true ∧
    (i = m ∨ i = m + 1) ∧ (j = n ∨ j = n + 1) ∧ (k = m ∨ k = m + 1) ∧ (l = n ∨ l = n + 1) := by
  obtain ⟨e, he, hab⟩ := List.mem_map.1 hm
  obtain ⟨he, hb⟩ := List.mem_filter.1 he
  rcases List.mem_append.1 he with he | he
  · obtain ⟨i, j, hi, hj, rfl⟩ := mem_hE.1 he
    rw [both_h hj] at hb
    injection hab with h1 h2
    cases hs : S i j with
    | false => exact ⟨i, j + 1, i + 1, j + 1, i, j, h1.symm, h2.symm, co_iff.2 ⟨hi, by omega, hs⟩, by omega, by omega, by omega, by omega⟩
    | true =>
      rw [hs] at hb
      exact ⟨i, j + 1, i + 1, j + 1, i, j + 1, h1.symm, h2.symm, co_iff.2 ⟨hi, hj, by simpa using hb⟩, by omega, by omega, by omega, by omega⟩
  · obtain ⟨i, j, hi, hj, rfl⟩ := mem_vE.1 he
    rw [both_v hj] at hb
    injection hab with h1 h2
    cases hs : S i j with
    | false => exact ⟨i + 1, j, i + 1, j + 1, i, j, h1.symm, h2.symm, co_iff.2 ⟨by omega, hj, hs⟩, by omega, by omega, by omega, by omega⟩
    | true =>
      rw [hs] at hb
      exact ⟨i + 1, j, i + 1, j + 1, i + 1, j, h1.symm, h2.symm, co_iff.2 ⟨hi, hj, by simpa using hb⟩, by omega, by omega, by omega, by omega⟩

/-- All corners of a cell that is not set are tied. -/
theorem corners_tied {m n : Nat} (hc : Co h w S m n = true) : ∀ i j k l, (i = m ∨ i = m + 1) → (j = n ∨ j = n + 1) → (k = m ∨ k = m + 1) → (l = n ∨ l = n + 1) → Conn (dE h w S) (cx h w i j) (cx h w k l) := by
  obtain ⟨hm, hn, hs⟩ := co_iff.1 hc
  have inE : ∀ e : DE, e ∈ aE h w → both w S e = false → e.2 ∈ dE h w S := fun e h1 h2 => List.mem_map.2 ⟨e, List.mem_filter.2 ⟨h1, by rw [h2]; rfl⟩, rfl⟩
  have top : Conn (dE h w S) (cx h w m n) (cx h w m (n + 1)) := by
    rcases Nat.eq_zero_or_pos m with e | e
    · rw [cx_out (by omega), cx_out (by omega)]; exact .refl
    · obtain ⟨a, rfl⟩ : ∃ a, m = a + 1 := ⟨m - 1, by omega⟩
      exact .one (inE _ (List.mem_append.2 (.inr (mem_vE.2 ⟨a, n, hm, hn, rfl⟩))) (by rw [both_v hn, hs]; simp))
  have bot : Conn (dE h w S) (cx h w (m + 1) n) (cx h w (m + 1) (n + 1)) := by
    by_cases e : m + 1 < h
    · exact .one (inE _ (List.mem_append.2 (.inr (mem_vE.2 ⟨m, n, e, hn, rfl⟩))) (by rw [both_v hn, hs]; simp))
    · rw [cx_out (by omega), cx_out (by omega)]; exact .refl
  have left : Conn (dE h w S) (cx h w m n) (cx h w (m + 1) n) := by
    rcases Nat.eq_zero_or_pos n with e | e
    · rw [cx_out (by omega), cx_out (by omega)]; exact .refl
    · obtain ⟨a, rfl⟩ : ∃ a, n = a + 1 := ⟨n - 1, by omega⟩
      exact .one (inE _ (List.mem_append.2 (.inl (mem_hE.2 ⟨m, a, hm, hn, rfl⟩))) (by rw [both_h hn, hs]; simp))
  have right : Conn (dE h w S) (cx h w m (n + 1)) (cx h w (m + 1) (n + 1)) := top.symm.trans (left.trans bot)
  have all : ∀ i j, (i = m ∨ i = m + 1) → (j = n ∨ j = n + 1) → Conn (dE h w S) (cx h w m n) (cx h w i j) := by
    rintro i j (rfl | rfl) (rfl | rfl)
    · exact .refl
    · exact top
    · exact left
    · exact top.trans right
  intro i j k l hi hj hk hl
  exact (all i j hi hj).symm.trans (all k l hk hl)

/-- Cells that are not set and reach each other over near ones have tied corners. -/
theorem reach_tied {m n k l : Nat} (hc : Co h w S m n = true) (hr : Reach (Co h w S) true m n k l) : Conn (dE h w S) (cx h w m n) (cx h w k l) := by
  induction hr with
  | refl => exact .refl
  | @step a b c d hr ad t ih =>
    obtain ⟨c1, c2, c3, c4, _⟩ := ad
    have sa := hr.mem hc
    -- the corner that both cells have
    have h1 : (max a c = a ∨ max a c = a + 1) ∧ (max b d = b ∨ max b d = b + 1) ∧ (max a c = c ∨ max a c = c + 1) ∧ (max b d = d ∨ max b d = d + 1) := by omega
    exact ih.trans ((corners_tied sa a b (max a c) (max b d) (.inl rfl) (.inl rfl) h1.1 h1.2.1).trans (corners_tied t (max a c) (max b d) c d h1.2.2.1 h1.2.2.2 (.inl rfl) (.inl rfl)))

/-- From a corner of four set cells no side leads on. -/
theorem sq_alone {i j v : Nat} (hs : Sq S (i, j) = true) (hi : i + 1 < h) (hj : j + 1 < w) (hc : Conn (dE h w S) (cx h w (i + 1) (j + 1)) v) : v = cx h w (i + 1) (j + 1) := by
  induction hc with
  | refl => rfl
  | @step a b _ e ih =>
    exfalso
    simp only [Sq, Bool.and_eq_true] at hs
    have no : ∀ m n, Co h w S m n = true → (i + 1 = m ∨ i + 1 = m + 1) → (j + 1 = n ∨ j + 1 = n + 1) → False := by
      intro m n hco h1 h2
      have := (co_iff.1 hco).2.2
      obtain ⟨⟨⟨s1, s2⟩, s3⟩, s4⟩ := hs
      rcases h1 with h1 | h1 <;> rcases h2 with h2 | h2
      · rw [← h1, ← h2, s4] at this; cases this
      · obtain rfl : j = n := by omega
        rw [← h1, s3] at this; cases this
      · obtain rfl : i = m := by omega
        rw [← h2, s2] at this; cases this
      · obtain rfl : i = m := by omega
        obtain rfl : j = n := by omega
        rw [s1] at this; cases this
    rw [ih] at e
    rcases e with e | e
    · obtain ⟨i', j', k, l, m, n, e1, _, hco, h1, h2, _, _⟩ := mem_dE e
      obtain ⟨rfl, rfl⟩ := cx_inj (by omega) hi (by omega) hj e1.symm
      exact no m n hco h1 h2
    · obtain ⟨i', j', k, l, m, n, _, e1, hco, _, _, h1, h2⟩ := mem_dE e
      obtain ⟨rfl, rfl⟩ := cx_inj (by omega) hi (by omega) hj e1.symm
      exact no m n hco h1 h2

/-- From a corner of a hole only corners of this hole are come to. -/
theorem hole_alone {a b v : Nat} (hin : Inner h w (Co h w S) a b) (hr : Conn (dE h w S) (cx h w a b) v) :
    ∃ I J, 1 ≤ I ∧ I < h ∧ 1 ≤ J ∧ J < w ∧ v = cx h w I J ∧ ∀ m n, Co h w S m n = true → (I = m ∨ I = m + 1) → (J = n ∨ J = n + 1) → Reach (Co h w S) true a b m n := by
  have near : ∀ I J m n m' n', (I = m ∨ I = m + 1) → (J = n ∨ J = n + 1) → (I = m' ∨ I = m' + 1) → (J = n' ∨ J = n' + 1) → Adj true m n m' n' := by
    intro I J m n m' n' h1 h2 h3 h4
    exact ⟨by omega, by omega, by omega, by omega, .inl rfl⟩
  induction hr with
  | refl =>
    have := hin a b .refl
    exact ⟨a, b, by omega, by omega, by omega, by omega, rfl, fun m n hco h1 h2 => .step .refl (near a b a b m n (.inl rfl) (.inl rfl) h1 h2) hco⟩
  | @step x y _ e ih =>
    obtain ⟨I, J, hI, hIh, hJ, hJw, rfl, hall⟩ := ih
    have go : ∀ k l m n, Co h w S m n = true → (I = m ∨ I = m + 1) → (J = n ∨ J = n + 1) → (k = m ∨ k = m + 1) → (l = n ∨ l = n + 1) →
        ∃ I' J', 1 ≤ I' ∧ I' < h ∧ 1 ≤ J' ∧ J' < w ∧ cx h w k l = cx h w I' J' ∧ ∀ m n, Co h w S m n = true → (I' = m ∨ I' = m + 1) → (J' = n ∨ J' = n + 1) → Reach (Co h w S) true a b m n := by
      intro k l m n hco h1 h2 h3 h4
      have hmn := hall m n hco h1 h2
      have := hin m n hmn
      exact ⟨k, l, by omega, by omega, by omega, by omega, rfl, fun m' n' hco' h5 h6 => .step hmn (near k l m n m' n' h3 h4 h5 h6) hco'⟩
    rcases e with e | e
    · obtain ⟨i', j', k, l, m, n, e1, rfl, hco, h1, h2, h3, h4⟩ := mem_dE e
      obtain ⟨rfl, rfl⟩ := cx_inj hI hIh hJ hJw e1.symm
      exact go k l m n hco h1 h2 h3 h4
    · obtain ⟨k, l, i', j', m, n, rfl, e1, hco, h3, h4, h1, h2⟩ := mem_dE e
      obtain ⟨rfl, rfl⟩ := cx_inj hI hIh hJ hJw e1.symm
      exact go k l m n hco h1 h2 h3 h4

/-- How many components the sides make: the outside, the squares, the holes. -/
theorem comps_holes (hS : ∀ i j, S i j = true → i < h ∧ j < w) (gB : Nat × Nat → Bool) (hg : ∀ c, gB c = true ↔ HoleFirst h w S c.1 c.2) {R : Nat → Nat → Bool} (hR : Dec (dE h w S) R) :
    comps ((h - 1) * (w - 1) + 1) R = 1 + ((cellsL h w).filter (Sq S)).length + ((cellsL h w).filter gB).length := by
  have sqin : ∀ c, c ∈ (cellsL h w).filter (Sq S) → c.1 + 1 < h ∧ c.2 + 1 < w ∧ Sq S c = true := by
    intro c hc
    have hs := (List.mem_filter.1 hc).2
    have hs' := hs
    simp only [Sq, Bool.and_eq_true] at hs'
    have := hS _ _ hs'.2
    exact ⟨this.1, this.2, hs⟩
  have hoin : ∀ c, c ∈ (cellsL h w).filter gB → HoleFirst h w S c.1 c.2 ∧ 1 ≤ c.1 ∧ c.1 + 1 < h ∧ 1 ≤ c.2 ∧ c.2 + 1 < w := by
    intro c hc
    have hh := (hg c).1 (List.mem_filter.1 hc).2
    exact ⟨hh, hh.2 _ _ .refl⟩
  have main := comps_length hR (0 :: (((cellsL h w).filter (Sq S)).map (fun c => cx h w (c.1 + 1) (c.2 + 1)) ++ ((cellsL h w).filter gB).map fun c => cx h w c.1 c.2)) (n := (h - 1) * (w - 1) + 1)
  have sq0 : ∀ c, c ∈ (cellsL h w).filter (Sq S) → ∀ v, Conn (dE h w S) (cx h w (c.1 + 1) (c.2 + 1)) v → v = cx h w (c.1 + 1) (c.2 + 1) := fun c hc v hv => by
    obtain ⟨h1, h2, h3⟩ := sqin c hc
    exact sq_alone (i := c.1) (j := c.2) h3 h1 h2 hv
  have ho0 : ∀ c, c ∈ (cellsL h w).filter gB → ∀ v, Conn (dE h w S) (cx h w c.1 c.2) v →
      ∃ I J, 1 ≤ I ∧ I < h ∧ 1 ≤ J ∧ J < w ∧ v = cx h w I J ∧ ∀ m n, Co h w S m n = true → (I = m ∨ I = m + 1) → (J = n ∨ J = n + 1) → Reach (Co h w S) true c.1 c.2 m n := fun c hc v hv => by
    obtain ⟨hh, _⟩ := hoin c hc
    exact hole_alone hh.2 hv
  have pos : ∀ i j, 1 ≤ i → i < h → 1 ≤ j → j < w → cx h w i j ≠ 0 := by
    intro i j a b c d
    rw [cx_in a b c d]
    omega
  have sqho : ∀ c, c ∈ (cellsL h w).filter (Sq S) → ∀ d, d ∈ (cellsL h w).filter gB → ¬ Conn (dE h w S) (cx h w (c.1 + 1) (c.2 + 1)) (cx h w d.1 d.2) := by
    intro c hc d hd hcn
    obtain ⟨h1, h2, h3⟩ := sqin c hc
    obtain ⟨hh, d1, d2, d3, d4⟩ := hoin d hd
    have e := sq0 c hc _ hcn
    obtain ⟨e1, e2⟩ := cx_inj (by omega) h1 (by omega) h2 e
    have := (co_iff.1 hh.1.1).2.2
    simp only [Sq, Bool.and_eq_true] at h3
    rw [e1, e2, h3.2] at this
    cases this
  have sqsq : ∀ c, c ∈ (cellsL h w).filter (Sq S) → ∀ d, d ∈ (cellsL h w).filter (Sq S) → Conn (dE h w S) (cx h w (c.1 + 1) (c.2 + 1)) (cx h w (d.1 + 1) (d.2 + 1)) → c = d := by
    intro c hc d hd hcn
    obtain ⟨h1, h2, _⟩ := sqin c hc
    obtain ⟨e1, e2⟩ := cx_inj (by omega) h1 (by omega) h2 (sq0 c hc _ hcn)
    exact Prod.ext (by omega) (by omega)
  have hoho : ∀ c, c ∈ (cellsL h w).filter gB → ∀ d, d ∈ (cellsL h w).filter gB → Conn (dE h w S) (cx h w c.1 c.2) (cx h w d.1 d.2) → c = d := by
    intro c hc d hd hcn
    obtain ⟨hh, _⟩ := hoin c hc
    obtain ⟨hh', d1, d2, d3, d4⟩ := hoin d hd
    obtain ⟨I, J, a1, a2, a3, a4, e, hall⟩ := ho0 c hc _ hcn
    obtain ⟨rfl, rfl⟩ := cx_inj d1 (by omega) d3 (by omega) e.symm
    obtain ⟨e1, e2⟩ := first_same hh.1 hh'.1 (hall _ _ hh'.1.1 (.inl rfl) (.inl rfl))
    exact Prod.ext e1 e2
  rw [main]
  · simp; omega
  · refine List.nodup_cons.2 ⟨?_, List.nodup_append.2 ⟨?_, ?_, ?_⟩⟩
    · rw [List.mem_append]
      rintro (hm | hm)
      · obtain ⟨c, hc, e⟩ := List.mem_map.1 hm
        obtain ⟨h1, h2, _⟩ := sqin c hc
        exact pos _ _ (by omega) h1 (by omega) h2 e
      · obtain ⟨c, hc, e⟩ := List.mem_map.1 hm
        obtain ⟨_, h1, h2, h3, h4⟩ := hoin c hc
        exact pos _ _ h1 (by omega) h3 (by omega) e
    · rw [List.nodup_iff_pairwise_ne, List.pairwise_map]
      refine List.Pairwise.imp_of_mem ?_ (List.Pairwise.filter _ (nodup_cellsL h w))
      intro c d hc hd hne e
      exact hne (sqsq c hc d hd (e ▸ .refl))
    · rw [List.nodup_iff_pairwise_ne, List.pairwise_map]
      refine List.Pairwise.imp_of_mem ?_ (List.Pairwise.filter _ (nodup_cellsL h w))
      intro c d hc hd hne e
      exact hne (hoho c hc d hd (e ▸ .refl))
    · intro x hx y hy e
      obtain ⟨c, hc, rfl⟩ := List.mem_map.1 hx
      obtain ⟨d, hd, rfl⟩ := List.mem_map.1 hy
      exact sqho c hc d hd (e ▸ .refl)
  · intro l hl
    rcases List.mem_cons.1 hl with rfl | hl
    · omega
    · rcases List.mem_append.1 hl with hl | hl
      · obtain ⟨c, _, rfl⟩ := List.mem_map.1 hl; exact cx_lt _ _
      · obtain ⟨c, _, rfl⟩ := List.mem_map.1 hl; exact cx_lt _ _
  · -- no two of them are tied
    have sq_zero : ∀ c, c ∈ (cellsL h w).filter (Sq S) → ¬ Conn (dE h w S) (cx h w (c.1 + 1) (c.2 + 1)) 0 := by
      intro c hc hcn
      obtain ⟨h1, h2, _⟩ := sqin c hc
      exact pos _ _ (by omega) h1 (by omega) h2 (sq0 c hc _ hcn).symm
    have ho_zero : ∀ c, c ∈ (cellsL h w).filter gB → ¬ Conn (dE h w S) (cx h w c.1 c.2) 0 := by
      intro c hc hcn
      obtain ⟨I, J, a1, a2, a3, a4, e, _⟩ := ho0 c hc _ hcn
      exact pos _ _ a1 a2 a3 a4 e.symm
    intro a ha b hb hne hcn
    rcases List.mem_cons.1 ha with rfl | ha
    · rcases List.mem_cons.1 hb with rfl | hb
      · exact hne rfl
      · rcases List.mem_append.1 hb with hb | hb
        · obtain ⟨c, hc, rfl⟩ := List.mem_map.1 hb; exact sq_zero c hc hcn.symm
        · obtain ⟨c, hc, rfl⟩ := List.mem_map.1 hb; exact ho_zero c hc hcn.symm
    · rcases List.mem_append.1 ha with ha | ha
      · obtain ⟨c, hc, rfl⟩ := List.mem_map.1 ha
        rcases List.mem_cons.1 hb with rfl | hb
        · exact sq_zero c hc hcn
        · rcases List.mem_append.1 hb with hb | hb
          · obtain ⟨d, hd, rfl⟩ := List.mem_map.1 hb
            exact hne (by rw [sqsq c hc d hd hcn])
          · obtain ⟨d, hd, rfl⟩ := List.mem_map.1 hb
            exact sqho c hc d hd hcn
      · obtain ⟨c, hc, rfl⟩ := List.mem_map.1 ha
        rcases List.mem_cons.1 hb with rfl | hb
        · exact ho_zero c hc hcn
        · rcases List.mem_append.1 hb with hb | hb
          · obtain ⟨d, hd, rfl⟩ := List.mem_map.1 hb
            exact sqho d hd c hc hcn.symm
          · obtain ⟨d, hd, rfl⟩ := List.mem_map.1 hb
            exact hne (by rw [hoho c hc d hd hcn])
  · -- each corner is tied to one of them
    intro q hq
    rcases Nat.eq_zero_or_pos q with e | e
    · subst e; exact ⟨0, by simp, .refl⟩
    · obtain ⟨I, J, hI, hIh, hJ, hJw, rfl⟩ := cx_ex e hq
      obtain ⟨i, rfl⟩ : ∃ i, I = i + 1 := ⟨I - 1, by omega⟩
      obtain ⟨j, rfl⟩ : ∃ j, J = j + 1 := ⟨J - 1, by omega⟩
      cases hsq : Sq S (i, j) with
      | true =>
        exact ⟨_, List.mem_cons_of_mem _ (List.mem_append.2 (.inl (List.mem_map.2 ⟨(i, j), List.mem_filter.2 ⟨mem_cellsL.2 ⟨by simp; omega, by simp; omega⟩, hsq⟩, rfl⟩))), .refl⟩
      | false =>
        have : ∃ m n, Co h w S m n = true ∧ (i + 1 = m ∨ i + 1 = m + 1) ∧ (j + 1 = n ∨ j + 1 = n + 1) := by
          cases s1 : S i j with
          | false => exact ⟨i, j, co_iff.2 ⟨by omega, by omega, s1⟩, .inr rfl, .inr rfl⟩
          | true =>
            cases s2 : S i (j + 1) with
            | false => exact ⟨i, j + 1, co_iff.2 ⟨by omega, by omega, s2⟩, .inr rfl, .inl rfl⟩
            | true =>
              cases s3 : S (i + 1) j with
              | false => exact ⟨i + 1, j, co_iff.2 ⟨by omega, by omega, s3⟩, .inl rfl, .inr rfl⟩
              | true =>
                cases s4 : S (i + 1) (j + 1) with
                | false => exact ⟨i + 1, j + 1, co_iff.2 ⟨by omega, by omega, s4⟩, .inl rfl, .inl rfl⟩
                | true => simp [Sq, s1, s2, s3, s4] at hsq
        obtain ⟨m, n, hco, h1, h2⟩ := this
        by_cases hin : Inner h w (Co h w S) m n
        · obtain ⟨k, l, hk, hr⟩ := first_ex (T := Co h w S) (near := true) m n hco
          have hkin : Inner h w (Co h w S) k l := fun a b hab => hin a b (hr.trans hab)
          obtain ⟨b1, b2, b3, b4⟩ := hkin _ _ .refl
          refine ⟨cx h w k l, List.mem_cons_of_mem _ (List.mem_append.2 (.inr (List.mem_map.2 ⟨(k, l), List.mem_filter.2 ⟨mem_cellsL.2 ⟨by simp; omega, by simp; omega⟩, (hg (k, l)).2 ⟨hk, hkin⟩⟩, rfl⟩))), ?_⟩
          exact ((reach_tied hco hr).symm).trans (corners_tied hco m n (i + 1) (j + 1) (.inl rfl) (.inl rfl) h1 h2)
        · have : ∃ k l, Reach (Co h w S) true m n k l ∧ ¬ (1 ≤ k ∧ k + 1 < h ∧ 1 ≤ l ∧ l + 1 < w) :=
            Classical.byContradiction fun hn => hin fun k l hr => Classical.byContradiction fun hb => hn ⟨k, l, hr, hb⟩
          obtain ⟨k, l, hr, hb⟩ := this
          have hkl := hr.mem hco
          obtain ⟨k1, l1, _⟩ := co_iff.1 hkl
          have : ∃ a b, (a = k ∨ a = k + 1) ∧ (b = l ∨ b = l + 1) ∧ cx h w a b = 0 := by
            by_cases z : k = 0 ∨ l = 0
            · exact ⟨k, l, .inl rfl, .inl rfl, cx_out (by omega)⟩
            · exact ⟨k + 1, l + 1, .inr rfl, .inr rfl, cx_out (by omega)⟩
          obtain ⟨a, b, ha, hb, e0⟩ := this
          refine ⟨0, by simp, ?_⟩
          rw [← e0]
          exact ((corners_tied hkl a b k l ha hb (.inl rfl) (.inl rfl)).trans (reach_tied hco hr).symm).trans (corners_tied hco m n (i + 1) (j + 1) (.inl rfl) (.inl rfl) h1 h2)

/-- PARTS AND HOLES MAKE ONE NUMBER: the set cells and the squares of four, and the holes; the parts and the pairs of neighbors. -/
theorem euler (hh : 0 < h) (hw : 0 < w) (hS : ∀ i j, S i j = true → i < h ∧ j < w) (fB gB : Nat × Nat → Bool) (hf : ∀ c, fB c = true ↔ FirstIn S false c.1 c.2) (hg : ∀ c, gB c = true ↔ HoleFirst h w S c.1 c.2) :
    ((cellsL h w).filter fun c => S c.1 c.2).length + ((cellsL h w).filter (Sq S)).length + ((cellsL h w).filter gB).length = ((cellsL h w).filter fB).length + ((aE h w).filter (both w S)).length := by
  obtain ⟨R, hR⟩ := dec_ex (((aE h w).filter (both w S)).map (·.1))
  obtain ⟨R', hR'⟩ := dec_ex (dE h w S)
  have h1 := grid_count hh hw (both w S) hR hR'
  rw [comps_parts hS fB hf hR, comps_holes hS gB hg hR'] at h1
  have h2 : ((cellsL h w).filter fun c => !S c.1 c.2 || fB c).length + ((cellsL h w).filter fun c => S c.1 c.2).length = (cellsL h w).length + ((cellsL h w).filter fB).length := by
    have : ∀ l : List (Nat × Nat), (l.filter fun c => !S c.1 c.2 || fB c).length + (l.filter fun c => S c.1 c.2).length = l.length + (l.filter fB).length := by
      intro l
      induction l with
      | nil => rfl
      | cons c r ih =>
        cases hs : S c.1 c.2 with
        | true => cases hb : fB c <;> simp [hs, hb] <;> omega
        | false =>
          have hb : fB c = false := by
            rw [← Bool.not_eq_true, hf]
            intro hb
            rw [hb.1] at hs
            cases hs
          simp [hs, hb]
          omega
    exact this _
  have h3 : (cellsL h w).length = h * w := by
    exact length_flat _ _ _
  omega
end
end Go.Proofs.YtbpjceffkchmbaaDoor.Gr
end

section
namespace Go.Proofs.YtbpjceffkchmbaaDoor.Gr

def connB : List (Nat × Nat) → Nat → Nat → Bool
  | [], u, v => u == v
  | e :: E, u, v => connB E u v || (connB E u e.1 && connB E e.2 v) || (connB E u e.2 && connB E e.1 v)
theorem connB_iff (E : List (Nat × Nat)) : ∀ u v, connB E u v = true ↔ Conn E u v := by
  induction E with
  | nil =>
    intro u v
    simp only [connB, beq_iff_eq]
    constructor
    · rintro rfl; exact .refl
    · intro h
      cases h with
      | refl => rfl
      | step _ e => simp at e
  | cons e E ih =>
    intro u v
    obtain ⟨x, y⟩ := e
    rw [Conn.cons_iff]
    simp [connB, ih, or_assoc]
def adjB (near : Bool) (a b : Nat × Nat) : Bool := decide (a.1 ≤ b.1 + 1) && decide (b.1 ≤ a.1 + 1) && decide (a.2 ≤ b.2 + 1) && decide (b.2 ≤ a.2 + 1) && (near || decide (a.1 = b.1) || decide (a.2 = b.2))
theorem adjB_iff {near : Bool} {a b : Nat × Nat} : adjB near a b = true ↔ Adj near a.1 a.2 b.1 b.2 := by
  simp [adjB, Adj, and_assoc, or_assoc]
def pairsL (T : Nat → Nat → Bool) (near : Bool) (h w : Nat) : List (Nat × Nat) :=
  (cellsL h w).flatMap fun a => ((cellsL h w).filter fun b => T a.1 a.2 && T b.1 b.2 && adjB near a b).map fun b => (a.1 * w + a.2, b.1 * w + b.2)
section
variable {T : Nat → Nat → Bool} {near : Bool} {h w : Nat}
theorem mem_pairsL {u v : Nat} : (u, v) ∈ pairsL T near h w ↔ ∃ i j k l, i < h ∧ j < w ∧ k < h ∧ l < w ∧ T i j = true ∧ T k l = true ∧ Adj near i j k l ∧ u = i * w + j ∧ v = k * w + l := by
  unfold pairsL
  simp only [List.mem_flatMap, List.mem_map, List.mem_filter, Bool.and_eq_true, adjB_iff]
  constructor
  · rintro ⟨⟨i, j⟩, ha, ⟨k, l⟩, ⟨hb, ⟨h1, h2⟩, h3⟩, e⟩
    have ha := mem_cellsL.1 ha
    have hb := mem_cellsL.1 hb
    injection e with e1 e2
    exact ⟨i, j, k, l, ha.1, ha.2, hb.1, hb.2, h1, h2, h3, e1.symm, e2.symm⟩
  · rintro ⟨i, j, k, l, h1, h2, h3, h4, t1, t2, ha, rfl, rfl⟩
    exact ⟨(i, j), mem_cellsL.2 ⟨h1, h2⟩, (k, l), ⟨mem_cellsL.2 ⟨h3, h4⟩, ⟨t1, t2⟩, ha⟩, rfl⟩
/-- The set T lies in the rectangle. -/
def Inside (h w : Nat) (T : Nat → Nat → Bool) : Prop := ∀ i j, T i j = true → i < h ∧ j < w
def reachB (T : Nat → Nat → Bool) (near : Bool) (h w i j k l : Nat) : Bool := T i j && decide (k < h) && decide (l < w) && connB (pairsL T near h w) (i * w + j) (k * w + l)
theorem conn_of_reach (hS : Inside h w T) {i j k l : Nat} (ht : T i j = true) (hr : Reach T near i j k l) : Conn (pairsL T near h w) (i * w + j) (k * w + l) := by
  induction hr with
  | refl => exact .refl
  | step hr a t ih =>
    have t0 := hr.mem ht
    have b0 := hS _ _ t0
    have b1 := hS _ _ t
    exact .step ih (.inl (mem_pairsL.2 ⟨_, _, _, _, b0.1, b0.2, b1.1, b1.2, t0, t, a, rfl, rfl⟩))
theorem reach_of_conn {i j v : Nat} (hj : j < w) (ht : T i j = true) (hc : Conn (pairsL T near h w) (i * w + j) v) : ∀ k l, l < w → v = k * w + l → Reach T near i j k l := by
  induction hc with
  | refl =>
    intro k l hl e
    obtain ⟨rfl, rfl⟩ := lin_inj hj hl e
    exact .refl
  | step hc e ih =>
    intro k l hl ev
    rcases e with e | e
    · obtain ⟨a, b, c, d, _, h2, _, h4, t1, t2, hadj, e1, e2⟩ := mem_pairsL.1 e
      have hr := ih a b h2 e1
      obtain ⟨rfl, rfl⟩ := lin_inj hl h4 (ev.symm.trans e2)
      exact hr.step hadj t2
    · obtain ⟨a, b, c, d, _, h2, _, h4, t1, t2, hadj, e1, e2⟩ := mem_pairsL.1 e
      have hr := ih c d h4 e2
      obtain ⟨rfl, rfl⟩ := lin_inj hl h2 (ev.symm.trans e1)
      exact hr.step hadj.symm t1
theorem reachB_iff (hS : Inside h w T) {i j k l : Nat} : reachB T near h w i j k l = true ↔ T i j = true ∧ Reach T near i j k l := by
  simp only [reachB, Bool.and_eq_true, decide_eq_true_eq, connB_iff]
  constructor
  · rintro ⟨⟨⟨ht, hk⟩, hl⟩, hc⟩
    exact ⟨ht, reach_of_conn (hS _ _ ht).2 ht hc k l hl rfl⟩
  · rintro ⟨ht, hr⟩
    have := hS _ _ (hr.mem ht)
    exact ⟨⟨⟨ht, this.1⟩, this.2⟩, conn_of_reach hS ht hr⟩
def earlierB (a b : Nat × Nat) : Bool := decide (a.1 < b.1) || (decide (a.1 = b.1) && decide (a.2 < b.2))
theorem earlierB_iff {a b : Nat × Nat} : earlierB a b = true ↔ Earlier a.1 a.2 b.1 b.2 := by simp [earlierB, Earlier]
/-- The cell is the first one of its part. -/
def firstB (T : Nat → Nat → Bool) (near : Bool) (h w : Nat) (c : Nat × Nat) : Bool := T c.1 c.2 && (cellsL h w).all fun d => !(earlierB d c && T d.1 d.2 && reachB T near h w c.1 c.2 d.1 d.2)
theorem firstB_iff (hS : Inside h w T) (c : Nat × Nat) : firstB T near h w c = true ↔ FirstIn T near c.1 c.2 := by
  simp only [firstB, Bool.and_eq_true, List.all_eq_true, Bool.not_eq_true', ← Bool.not_eq_true, earlierB_iff, reachB_iff hS]
  constructor
  · rintro ⟨ht, ha⟩
    refine ⟨ht, fun k l he hk hr => ?_⟩
    exact ha (k, l) (mem_cellsL.2 (hS _ _ hk)) ⟨⟨he, hk⟩, ht, hr⟩
  · rintro ⟨ht, ha⟩
    exact ⟨ht, fun d _ hd => ha d.1 d.2 hd.1.1 hd.1.2 hd.2.2⟩
/-- The cell's part lies inside. -/
def innerB (T : Nat → Nat → Bool) (h w : Nat) (c : Nat × Nat) : Bool := (cellsL h w).all fun d => !reachB T true h w c.1 c.2 d.1 d.2 || (decide (1 ≤ d.1) && decide (d.1 + 1 < h) && decide (1 ≤ d.2) && decide (d.2 + 1 < w))
theorem innerB_iff (hS : Inside h w T) {c : Nat × Nat} (ht : T c.1 c.2 = true) : innerB T h w c = true ↔ Inner h w T c.1 c.2 := by
  simp only [innerB, List.all_eq_true, Bool.or_eq_true, Bool.not_eq_true', ← Bool.not_eq_true, reachB_iff hS, Bool.and_eq_true, decide_eq_true_eq]
  constructor
  · intro ha k l hr
    rcases ha (k, l) (mem_cellsL.2 (hS _ _ (hr.mem ht))) with h0 | h0
    · exact (h0 ⟨ht, hr⟩).elim
    · exact ⟨h0.1.1.1, h0.1.1.2, h0.1.2, h0.2⟩
  · intro ha d _
    by_cases hr : Reach T true c.1 c.2 d.1 d.2
    · have := ha _ _ hr
      exact .inr ⟨⟨⟨this.1, this.2.1⟩, this.2.2.1⟩, this.2.2.2⟩
    · exact .inl fun hh => hr hh.2
/-- The first cells of all parts, row by row; how many. -/
def firsts (T : Nat → Nat → Bool) (near : Bool) (h w : Nat) : List (Nat × Nat) := (cellsL h w).filter (firstB T near h w)
theorem mem_firsts (hS : Inside h w T) {c : Nat × Nat} : c ∈ firsts T near h w ↔ FirstIn T near c.1 c.2 := by
  unfold firsts
  rw [List.mem_filter, firstB_iff hS, mem_cellsL]
  exact ⟨fun h => h.2, fun h => ⟨hS _ _ h.1, h⟩⟩
theorem nodup_firsts : (firsts T near h w).Nodup := List.Pairwise.filter _ (nodup_cellsL h w)
/-- The part of a cell, as an image. -/
def compL (T : Nat → Nat → Bool) (near : Bool) (h w : Nat) (c : Nat × Nat) : List Nat := mkI h w fun k l => reachB T near h w c.1 c.2 k l
theorem length_comp (c : Nat × Nat) : (compL T near h w c).length = h := length_mk _ _ _
theorem comp_lt (c : Nat × Nat) : ∀ n ∈ compL T near h w c, n < 2 ^ w := mk_lt
theorem cell_comp (hS : Inside h w T) {c : Nat × Nat} (ht : T c.1 c.2 = true) {k l : Nat} : cell (compL T near h w c) k l = true ↔ Reach T near c.1 c.2 k l := by
  unfold compL
  rw [cell_mk]
  simp only [Bool.and_eq_true, decide_eq_true_eq, reachB_iff hS]
  constructor
  · rintro ⟨_, _, hr⟩; exact hr
  · intro hr
    exact ⟨hS _ _ (hr.mem ht), ht, hr⟩
/-- At each first cell that is mapped into a part of T' another part belongs: no more parts than in T'. -/
theorem firsts_le {T' : Nat → Nat → Bool} {near' : Bool} {h' w' : Nat} (hS : Inside h w T) (hS' : Inside h' w' T') (Q : Nat × Nat → Nat × Nat → Prop)
    (h1 : ∀ a, FirstIn T near a.1 a.2 → ∃ b, T' b.1 b.2 = true ∧ Q a b) (h2 : ∀ a a' b b', FirstIn T near a.1 a.2 → FirstIn T near a'.1 a'.2 → Q a b → Q a' b' → T' b.1 b.2 = true → Reach T' near' b.1 b.2 b'.1 b'.2 → Reach T near a.1 a.2 a'.1 a'.2) :
    (firsts T near h w).length ≤ (firsts T' near' h' w').length := by
  refine rel_inj_le (fun a c => FirstIn T near a.1 a.2 ∧ ∃ b, T' b.1 b.2 = true ∧ Q a b ∧ Reach T' near' b.1 b.2 c.1 c.2) _ _ nodup_firsts ?_ ?_
  · intro a ha
    have ha := (mem_firsts hS).1 ha
    obtain ⟨b, hb, hq⟩ := h1 a ha
    obtain ⟨k, l, hk, hr⟩ := first_ex (T := T') (near := near') _ _ hb
    exact ⟨(k, l), (mem_firsts hS').2 hk, ha, b, hb, hq, hr⟩
  · rintro a _ a' _ hne c ⟨ha, b, hb, hq, hr⟩ ⟨ha', b', hb', hq', hr'⟩
    have := h2 a a' b b' ha ha' hq hq' hb (hr.trans (hr'.symm hb'))
    obtain ⟨e1, e2⟩ := first_same ha ha' this
    exact hne (Prod.ext e1 e2)
theorem firsts_map_le {T' : Nat → Nat → Bool} {near' : Bool} {h' w' : Nat} (hS : Inside h w T) (hS' : Inside h' w' T') (f : Nat × Nat → Nat × Nat)
    (h1 : ∀ a, T a.1 a.2 = true → T' (f a).1 (f a).2 = true) (h2 : ∀ a a', T a.1 a.2 = true → T a'.1 a'.2 = true → Reach T' near' (f a).1 (f a).2 (f a').1 (f a').2 → Reach T near a.1 a.2 a'.1 a'.2) :
    (firsts T near h w).length ≤ (firsts T' near' h' w').length :=
  firsts_le hS hS' (fun a b => b = f a) (fun a ha => ⟨f a, h1 a ha.1, rfl⟩) (fun a a' b b' ha ha' e e' _ hr => h2 a a' ha.1 ha'.1 (by subst e e'; exact hr))
end
/-- A way is carried by a map that keeps cells and neighbors. -/
theorem Reach.map {T T' : Nat → Nat → Bool} {near near' : Bool} (f : Nat × Nat → Nat × Nat) (h1 : ∀ a, T a.1 a.2 = true → T' (f a).1 (f a).2 = true)
    (h2 : ∀ a b, T a.1 a.2 = true → T b.1 b.2 = true → Adj near a.1 a.2 b.1 b.2 → Adj near' (f a).1 (f a).2 (f b).1 (f b).2) {a b : Nat × Nat} (ha : T a.1 a.2 = true) (h : Reach T near a.1 a.2 b.1 b.2) : Reach T' near' (f a).1 (f a).2 (f b).1 (f b).2 := by
  have main : ∀ k l, Reach T near a.1 a.2 k l → Reach T' near' (f a).1 (f a).2 (f (k, l)).1 (f (k, l)).2 := by
    intro k l hr
    induction hr with
    | refl => exact .refl
    | step hr hadj t ih => exact .step ih (h2 _ _ (hr.mem ha) t hadj) (h1 _ t)
  exact main b.1 b.2 h
end Go.Proofs.YtbpjceffkchmbaaDoor.Gr
end

section
namespace Go.Proofs.YtbpjceffkchmbaaDoor.Gr

/-- A list of h rows of w cells. -/
def Sized (h w : Nat) (ns : List Nat) : Prop := ns.length = h ∧ ∀ n ∈ ns, n < 2 ^ w
theorem sized_img {w : Nat} {ns : List Nat} (h : VImg w ns) : Sized ns.length w ns := ⟨rfl, h.hi⟩
theorem sized_mk {h w : Nat} {p : Nat → Nat → Bool} : Sized h w (mkI h w p) := ⟨length_mk _ _ _, mk_lt⟩
theorem Sized.cell_in {h w : Nat} {ns : List Nat} (hs : Sized h w ns) {i j : Nat} (hc : cell ns i j = true) : i < h ∧ j < w := by
  obtain ⟨hl, hlt⟩ := hs
  unfold cell at hc
  have hi : i < ns.length := by
    refine Classical.byContradiction fun hn => ?_
    rw [List.getD_eq_getElem?_getD, List.getElem?_eq_none (by omega)] at hc
    simp at hc
  refine ⟨by omega, ?_⟩
  refine Classical.byContradiction fun hn => ?_
  have : ns.getD i 0 < 2 ^ w := by
    rw [List.getD_eq_getElem?_getD, List.getElem?_eq_getElem hi]
    exact hlt _ (List.getElem_mem hi)
  rw [Nat.testBit_lt_two_pow (Nat.lt_of_lt_of_le this (Nat.pow_le_pow_right (by omega) (by omega)))] at hc
  cases hc
theorem Sized.inside {h w : Nat} {ns : List Nat} (hs : Sized h w ns) : Inside h w (cell ns) := fun _ _ hc => hs.cell_in hc
theorem Sized.ext {h w : Nat} {ns ms : List Nat} (hn : Sized h w ns) (hm : Sized h w ms) (he : ∀ i j, i < h → j < w → cell ns i j = cell ms i j) : ns = ms :=
  img_ext (hn.1.trans hm.1.symm) hn.2 hm.2 (by rw [hn.1]; exact he)
theorem Sized.put {h w : Nat} {ns : List Nat} (hs : Sized h w ns) {i j : Nat} (hi : i < h) (hj : j < w) (s : Bool) : Sized h w (putL ns i j s) :=
  ⟨by rw [length_putL]; exact hs.1, putL_lt hs.2 (by rw [hs.1]; exact hi) hj s⟩
theorem Sized.vimg {h w : Nat} {ns : List Nat} (hs : Sized h w ns) (h1 : 1 ≤ h) (h6 : h ≤ 6) (w1 : 1 ≤ w) (w6 : w ≤ 6) : VImg w ns := ⟨w1, w6, by rw [hs.1]; exact h1, by rw [hs.1]; exact h6, hs.2⟩
def setN (h w : Nat) (ns : List Nat) : Nat := ((cellsL h w).filter fun c => cell ns c.1 c.2).length
theorem filter_lt {α : Type} (p q : α → Bool) : ∀ (l : List α), (∀ x ∈ l, p x = true → q x = true) → ∀ c ∈ l, p c = false → q c = true → (l.filter p).length < (l.filter q).length := by
  have le : ∀ (l : List α), (∀ x ∈ l, p x = true → q x = true) → (l.filter p).length ≤ (l.filter q).length := by
    intro l
    induction l with
    | nil => intro _; simp
    | cons a l ih =>
      intro hh
      have h1 := ih fun x hx => hh x (by simp [hx])
      have h2 := hh a (by simp)
      cases hp : p a with
      | false => cases hq : q a <;> simp [hp, hq] <;> omega
      | true => rw [hp] at h2; simp [hp, h2 rfl]; omega
  intro l
  induction l with
  | nil => intro _ c hc; simp at hc
  | cons a l ih =>
    intro hh c hc hp hq
    rcases List.mem_cons.1 hc with rfl | hc
    · have := le l fun x hx => hh x (by simp [hx])
      simp [hp, hq]
      omega
    · have h1 := ih (fun x hx => hh x (by simp [hx])) c hc hp hq
      have h2 := hh a (by simp)
      cases hp : p a with
      | false => cases hq : q a <;> simp [hp, hq] <;> omega
      | true => rw [hp] at h2; simp [hp, h2 rfl]; omega
theorem setN_lt {h w : Nat} {ns ms : List Nat} (hs : Sized h w ns) (hsub : ∀ k l, cell ms k l = true → cell ns k l = true) {i j : Nat} (h1 : cell ns i j = true) (h2 : cell ms i j = false) : setN h w ms < setN h w ns :=
  filter_lt _ _ _ (fun _ _ hx => hsub _ _ hx) (i, j) (mem_cellsL.2 (hs.cell_in h1)) h2 h1
theorem setN_le (h w : Nat) (ns : List Nat) : setN h w ns ≤ h * w := by
  unfold setN
  rw [← length_cellsL h w]
  exact List.length_filter_le _ _

/-! ### The search in depth -/
section
variable {near : Bool} {h w : Nat}
/-- The cells that a visit of (i, j) comes to. -/
def vis (near : Bool) (h w : Nat) (ls : List Nat) (i j : Int) (k l : Nat) : Bool := decide (0 ≤ i) && decide (0 ≤ j) && reachB (cell ls) near h w i.toNat j.toNat k l
/-- What is left behind a visit, and what has come into the group. -/
def visL (near : Bool) (h w : Nat) (ls : List Nat) (i j : Int) : List Nat := mkI h w fun k l => cell ls k l && !vis near h w ls i j k l
def visG (near : Bool) (h w : Nat) (ls gs : List Nat) (i j : Int) : List Nat := mkI h w fun k l => cell gs k l || vis near h w ls i j k l
theorem vis_iff {ls : List Nat} (hs : Sized h w ls) {i j : Int} {k l : Nat} : vis near h w ls i j k l = true ↔ cellZ ls i j = true ∧ Reach (cell ls) near i.toNat j.toNat k l := by
  simp only [vis, cellZ, Bool.and_eq_true, decide_eq_true_eq, reachB_iff hs.inside]
  constructor
  · rintro ⟨⟨a, b⟩, c, d⟩; exact ⟨⟨⟨a, b⟩, c⟩, d⟩
  · rintro ⟨⟨⟨a, b⟩, c⟩, d⟩; exact ⟨⟨a, b⟩, c, d⟩
theorem vis_mem {ls : List Nat} (hs : Sized h w ls) {i j : Int} {k l : Nat} (hv : vis near h w ls i j k l = true) : cell ls k l = true := by
  obtain ⟨hc, hr⟩ := (vis_iff hs).1 hv
  simp only [cellZ, Bool.and_eq_true] at hc
  exact hr.mem hc.2
theorem cell_visL {ls : List Nat} (hs : Sized h w ls) (i j : Int) (k l : Nat) : cell (visL near h w ls i j) k l = (cell ls k l && !vis near h w ls i j k l) := by
  unfold visL
  rw [cell_mk]
  cases hc : cell ls k l with
  | false => simp
  | true =>
    have := hs.cell_in hc
    simp [this.1, this.2]
theorem cell_visG {ls gs : List Nat} (hs : Sized h w ls) (hg : Sized h w gs) (i j : Int) (k l : Nat) : cell (visG near h w ls gs i j) k l = (cell gs k l || vis near h w ls i j k l) := by
  unfold visG
  rw [cell_mk]
  cases hc : (cell gs k l || vis near h w ls i j k l) with
  | false => simp
  | true =>
    have : k < h ∧ l < w := by
      rcases Bool.or_eq_true_iff.1 hc with h1 | h1
      · exact hg.cell_in h1
      · exact hs.cell_in (vis_mem hs h1)
    simp [this.1, this.2]
theorem vis_none {ls : List Nat} (hs : Sized h w ls) {i j : Int} (hc : cellZ ls i j = false) (k l : Nat) : vis near h w ls i j k l = false := by
  rw [← Bool.not_eq_true, vis_iff hs, hc]
  simp
theorem visL_none {ls : List Nat} (hs : Sized h w ls) {i j : Int} (hc : cellZ ls i j = false) : visL near h w ls i j = ls :=
  Sized.ext sized_mk hs fun k l _ _ => by
    have := cell_visL (near := near) hs i j k l
    rw [vis_none hs hc] at this
    simpa using this
theorem visG_none {ls gs : List Nat} (hs : Sized h w ls) (hg : Sized h w gs) {i j : Int} (hc : cellZ ls i j = false) : visG near h w ls gs i j = gs :=
  Sized.ext sized_mk hg fun k l _ _ => by
    have := cell_visG (near := near) hs hg i j k l
    rw [vis_none hs hc] at this
    simpa using this
/-- The offsets ahead of (di, dj). -/
def Ahead (near : Bool) (di dj a b : Int) : Prop := (near = true ∨ a = 0 ∨ b = 0) ∧ -1 ≤ a ∧ a ≤ 1 ∧ -1 ≤ b ∧ b ≤ 1 ∧ (a < di ∨ (a = di ∧ b < dj))
/-- In the midst of a visit of (i, j): the offsets of D are done. -/
structure DInv (near : Bool) (h w : Nat) (ls gs : List Nat) (i j : Nat) (D : Int → Int → Prop) (ls' gs' : List Nat) : Prop where
  vl : Sized h w ls'
  vg : Sized h w gs'
  sub : ∀ k l, cell ls' k l = true → cell ls k l = true
  here : cell ls' i j = false
  reached : ∀ k l, cell ls k l = true → cell ls' k l = false → Reach (cell ls) near i j k l
  closed : ∀ k l m n, cell ls k l = true → cell ls' k l = false → ¬ (k = i ∧ l = j) → cell ls m n = true → Adj near k l m n → cell ls' m n = false
  done : ∀ a b, D a b → cellZ ls' (i + a) (j + b) = false
  g : ∀ k l, cell gs' k l = (cell gs k l || (cell ls k l && !cell ls' k l))
theorem DInv.start {ls gs : List Nat} {i j : Nat} {D : Int → Int → Prop} (hs : Sized h w ls) (hg : Sized h w gs) (hc : cell ls i j = true) (hD : ∀ a b, ¬ D a b) : DInv near h w ls gs i j D (putL ls i j false) (putL gs i j true) := by
  obtain ⟨hi, hj⟩ := hs.cell_in hc
  have e : ∀ k l, cell (putL ls i j false) k l = if k = i ∧ l = j then false else cell ls k l := cell_putL (by rw [hs.1]; exact hi) j false
  have e2 : ∀ k l, cell (putL gs i j true) k l = if k = i ∧ l = j then true else cell gs k l := cell_putL (by rw [hg.1]; exact hi) j true
  refine ⟨hs.put hi hj _, hg.put hi hj _, fun k l hh => ?_, by rw [e, if_pos ⟨rfl, rfl⟩], fun k l h1 h2 => ?_, fun k l m n h1 h2 h3 _ _ => ?_, fun a b hh => (hD a b hh).elim, fun k l => ?_⟩
  · rw [e] at hh
    split at hh
    · cases hh
    · exact hh
  · rw [e] at h2
    split at h2
    · rename_i h3; obtain ⟨rfl, rfl⟩ := h3; exact .refl
    · rw [h1] at h2; cases h2
  · rw [e, if_neg h3, h1] at h2; cases h2
  · rw [e, e2]
    by_cases hh : k = i ∧ l = j
    · obtain ⟨rfl, rfl⟩ := hh
      simp [hc]
    · rw [if_neg hh, if_neg hh]
      cases cell ls k l <;> simp
theorem DInv.step {ls gs ls' gs' : List Nat} {i j : Nat} {D D' : Int → Int → Prop} (hv : DInv near h w ls gs i j D ls' gs') {a b : Int} (hn : near = true ∨ a = 0 ∨ b = 0) (ha : -1 ≤ a ∧ a ≤ 1) (hb : -1 ≤ b ∧ b ≤ 1)
    (hD : ∀ x y, D' x y → D x y ∨ (x = a ∧ y = b)) : DInv near h w ls gs i j D' (visL near h w ls' (i + a) (j + b)) (visG near h w ls' gs' (i + a) (j + b)) := by
  have eL := cell_visL (near := near) hv.vl (i + a) (j + b)
  have eG := cell_visG (near := near) hv.vl hv.vg (i + a) (j + b)
  refine ⟨sized_mk, sized_mk, fun k l hh => ?_, ?_, fun k l h1 h2 => ?_, fun k l m n h1 h2 h3 h4 h5 => ?_, fun x y hh => ?_, fun k l => ?_⟩
  · rw [eL, Bool.and_eq_true] at hh
    exact hv.sub k l hh.1
  · rw [eL, hv.here]; rfl
  · rw [eL] at h2
    cases h3 : cell ls' k l with
    | false => exact hv.reached k l h1 h3
    | true =>
      rw [h3, Bool.true_and, Bool.not_eq_false'] at h2
      obtain ⟨h4, h5⟩ := (vis_iff hv.vl).1 h2
      simp only [cellZ, Bool.and_eq_true, decide_eq_true_eq] at h4
      have h6 := h5.mono hv.sub
      have h7 : Adj near i j (i + a : Int).toNat (j + b : Int).toNat := by
        unfold Adj
        refine ⟨by omega, by omega, by omega, by omega, ?_⟩
        rcases hn with hn | hn | hn
        · exact .inl hn
        · exact .inr (.inl (by omega))
        · exact .inr (.inr (by omega))
      exact (Reach.step .refl h7 (hv.sub _ _ h4.2)).trans h6
  · rw [eL] at h2 ⊢
    cases h6 : cell ls' k l with
    | false => rw [hv.closed k l m n h1 h6 h3 h4 h5]; rfl
    | true =>
      rw [h6, Bool.true_and, Bool.not_eq_false'] at h2
      cases h7 : cell ls' m n with
      | false => rfl
      | true =>
        obtain ⟨h8, h9⟩ := (vis_iff hv.vl).1 h2
        rw [(vis_iff hv.vl).2 ⟨h8, h9.step h5 h7⟩]
        rfl
  · rw [← Bool.not_eq_true]
    intro hc
    simp only [cellZ, Bool.and_eq_true, decide_eq_true_eq, eL, Bool.not_eq_true'] at hc
    obtain ⟨⟨h1, h2⟩, h3, h4⟩ := hc
    rcases hD x y hh with h5 | ⟨rfl, rfl⟩
    · have := hv.done x y h5
      simp only [cellZ, h3, Bool.and_true, Bool.and_eq_false_iff, decide_eq_false_iff_not] at this
      omega
    · have : vis near h w ls' (i + x) (j + y) (i + x : Int).toNat (j + y : Int).toNat = true := (vis_iff hv.vl).2 ⟨by simp only [cellZ, h3, Bool.and_true, Bool.and_eq_true, decide_eq_true_eq]; exact ⟨h1, h2⟩, .refl⟩
      rw [this] at h4
      cases h4
  · rw [eG, eL, hv.g]
    cases hx : vis near h w ls' (i + a) (j + b) k l with
    | false => simp
    | true => simp [vis_mem hv.vl hx, hv.sub k l (vis_mem hv.vl hx)]
theorem DInv.pass {ls gs ls' gs' : List Nat} {i j : Nat} {D D' : Int → Int → Prop} (hv : DInv near h w ls gs i j D ls' gs') (hD : ∀ x y, D' x y → D x y) : DInv near h w ls gs i j D' ls' gs' :=
  ⟨hv.vl, hv.vg, hv.sub, hv.here, hv.reached, hv.closed, fun a b hh => hv.done a b (hD a b hh), hv.g⟩
theorem DInv.finish {ls gs ls' gs' : List Nat} {i j : Nat} {D : Int → Int → Prop} (hv : DInv near h w ls gs i j D ls' gs') (hs : Sized h w ls) (hg : Sized h w gs) (hc : cell ls i j = true)
    (hD : ∀ a b : Int, (near = true ∨ a = 0 ∨ b = 0) → -1 ≤ a → a ≤ 1 → -1 ≤ b → b ≤ 1 → D a b) : ls' = visL near h w ls i j ∧ gs' = visG near h w ls gs i j := by
  have all : ∀ k l, Reach (cell ls) near i j k l → cell ls' k l = false := by
    intro k l hr
    induction hr with
    | refl => exact hv.here
    | @step k l m n hr ha ht ih =>
      by_cases e : k = i ∧ l = j
      · obtain ⟨rfl, rfl⟩ := e
        obtain ⟨a1, a2, a3, a4, a5⟩ := ha
        have := hv.done ((m : Int) - k) ((n : Int) - l) (hD _ _ (by
          rcases a5 with h | h | h
          · exact .inl h
          · exact .inr (.inl (by omega))
          · exact .inr (.inr (by omega))) (by omega) (by omega) (by omega) (by omega))
        rw [show (k : Int) + (m - k) = (m : Int) by omega, show (l : Int) + (n - l) = (n : Int) by omega] at this
        simpa [cellZ] using this
      · exact hv.closed k l m n (hr.mem hc) ih e ht ha
  have hz : cellZ ls (i : Int) (j : Int) = true := by simp [cellZ, hc]
  have key : ∀ k l, cell ls' k l = (cell ls k l && !vis near h w ls i j k l) := by
    intro k l
    cases h1 : cell ls k l with
    | false =>
      rw [Bool.false_and, ← Bool.not_eq_true]
      intro h2
      rw [hv.sub k l h2] at h1
      cases h1
    | true =>
      rw [Bool.true_and]
      cases h2 : vis near h w ls i j k l with
      | true => exact all k l (by simpa using ((vis_iff hs).1 h2).2)
      | false =>
        cases h3 : cell ls' k l with
        | true => rfl
        | false =>
          have := (vis_iff (near := near) hs).2 ⟨hz, by simpa using hv.reached k l h1 h3⟩
          rw [this] at h2
          cases h2
  refine ⟨Sized.ext hv.vl sized_mk fun k l _ _ => (key k l).trans (cell_visL hs _ _ _ _).symm, Sized.ext hv.vg sized_mk fun k l _ _ => ?_⟩
  rw [hv.g, cell_visG hs hg, key]
  cases hx : vis near h w ls i j k l with
  | false => cases cell ls k l <;> simp
  | true => simp [vis_mem hs hx]
theorem DInv.less {ls gs ls' gs' : List Nat} {i j : Nat} {D : Int → Int → Prop} (hv : DInv near h w ls gs i j D ls' gs') (hs : Sized h w ls) (hc : cell ls i j = true) : setN h w ls' < setN h w ls :=
  setN_lt hs hv.sub hc hv.here

/-! ### All groups, cell by cell -/
def grpStep (near : Bool) (h w : Nat) (s : List Nat × List (List Nat)) (c : Nat × Nat) : List Nat × List (List Nat) :=
  if cell s.1 c.1 c.2 then (visL near h w s.1 c.1 c.2, s.2 ++ [visG near h w s.1 (List.replicate h 0) c.1 c.2]) else s
def grp (near : Bool) (h w : Nat) (ns : List Nat) (cs : List (Nat × Nat)) : List Nat × List (List Nat) := cs.foldl (grpStep near h w) (ns, [])
theorem grp_snoc (ns : List Nat) (cs : List (Nat × Nat)) (c : Nat × Nat) : grp near h w ns (cs ++ [c]) = grpStep near h w (grp near h w ns cs) c := by simp [grp, List.foldl_append]
theorem snocInd {α : Type} {C : List α → Prop} (h0 : C []) (h1 : ∀ l x, C l → C (l ++ [x])) : ∀ l, C l := fun l => by
  have : ∀ r : List α, C r.reverse := fun r => by
    induction r with
    | nil => exact h0
    | cons x r ih => rw [List.reverse_cons]; exact h1 _ _ ih
  have := this l.reverse
  rwa [List.reverse_reverse] at this
theorem grp_sized {ns : List Nat} (hs : Sized h w ns) (cs : List (Nat × Nat)) : Sized h w (grp near h w ns cs).1 := by
  induction cs using snocInd with
  | h0 => exact hs
  | h1 l x ih =>
    rw [grp_snoc]
    unfold grpStep
    split
    · exact sized_mk
    · exact ih
theorem sized_zero : Sized h w (List.replicate h 0) := ⟨by simp, fun n hn => by obtain ⟨_, rfl⟩ := List.mem_replicate.1 hn; exact Nat.two_pow_pos w⟩
theorem cell_zero (k l : Nat) : cell (List.replicate h 0) k l = false := by
  unfold cell
  rw [List.getD_eq_getElem?_getD, List.getElem?_replicate]
  split <;> simp
theorem cellsL_sorted (h w : Nat) : (cellsL h w).Pairwise fun a b => Earlier a.1 a.2 b.1 b.2 := by
  induction h with
  | zero => simp [cellsL]
  | succ n ih =>
    rw [cellsL_succ, List.pairwise_append]
    refine ⟨ih, ?_, ?_⟩
    · rw [List.pairwise_map]
      exact List.Pairwise.imp (fun hab => .inr ⟨rfl, hab⟩) List.pairwise_lt_range
    · intro a ha b hb
      obtain ⟨j, _, rfl⟩ := List.mem_map.1 hb
      exact .inl (mem_cellsL.1 ha).1
theorem grp_main {ns : List Nat} (hs : Sized h w ns) (cs : List (Nat × Nat)) : ∀ r, cellsL h w = cs ++ r →
    (∀ k l, cell (grp near h w ns cs).1 k l = true ↔ cell ns k l = true ∧ ∀ c ∈ cs, cell ns c.1 c.2 = true → ¬ Reach (cell ns) near c.1 c.2 k l) ∧ (grp near h w ns cs).2 = (cs.filter (firstB (cell ns) near h w)).map (compL (cell ns) near h w) := by
  induction cs using snocInd with
  | h0 => intro r _; exact ⟨fun k l => by simp [grp], rfl⟩
  | h1 l x ih =>
    intro r hr
    have hr' : cellsL h w = l ++ (x :: r) := by rw [hr]; simp
    obtain ⟨ih1, ih2⟩ := ih _ hr'
    have hsl := grp_sized (near := near) hs l
    have hp := cellsL_sorted h w
    rw [hr', List.pairwise_append] at hp
    have hbef : ∀ c ∈ l, Earlier c.1 c.2 x.1 x.2 := fun c hc => hp.2.2 c hc x (by simp)
    have hin : ∀ a b, cell ns a b = true → Earlier a b x.1 x.2 → (a, b) ∈ l := by
      intro a b hab he
      have hm : (a, b) ∈ cellsL h w := mem_cellsL.2 (hs.cell_in hab)
      rw [hr', List.mem_append] at hm
      rcases hm with hm | hm
      · exact hm
      · exfalso
        unfold Earlier at he
        rcases List.mem_cons.1 hm with e | hm
        · rw [← e] at he; simp only at he; omega
        · have := (List.pairwise_cons.1 hp.2.1).1 _ hm
          unfold Earlier at this
          simp only at this
          omega
    have hfirst : cell (grp near h w ns l).1 x.1 x.2 = true ↔ FirstIn (cell ns) near x.1 x.2 := by
      rw [ih1]
      constructor
      · rintro ⟨h1, h2⟩
        exact ⟨h1, fun a b he hab hrx => h2 (a, b) (hin a b hab he) hab (hrx.symm h1)⟩
      · rintro ⟨h1, h2⟩
        exact ⟨h1, fun c hc hct hrx => h2 c.1 c.2 (hbef c hc) hct (hrx.symm hct)⟩
    rw [grp_snoc]
    unfold grpStep
    obtain ⟨s, es⟩ : ∃ s, s = grp near h w ns l := ⟨_, rfl⟩
    rw [← es] at ih1 ih2 hsl hfirst ⊢
    by_cases hc : cell s.1 x.1 x.2 = true
    · rw [if_pos hc]
      have hxn := ((ih1 _ _).1 hc).1
      have hback : ∀ k m, Reach (cell ns) near x.1 x.2 k m → Reach (cell s.1) near x.1 x.2 k m := by
        intro k m hrx
        induction hrx with
        | refl => exact .refl
        | @step k m a b hrx ha ht ih3 =>
          refine .step ih3 ha ((ih1 _ _).2 ⟨ht, fun c hcm hct hrc => ?_⟩)
          exact ((ih1 _ _).1 hc).2 c hcm hct (hrc.trans ((Reach.step hrx ha ht).symm hxn))
      have hvis : ∀ k m, vis near h w s.1 x.1 x.2 k m = true ↔ Reach (cell ns) near x.1 x.2 k m := by
        intro k m
        rw [vis_iff hsl]
        constructor
        · rintro ⟨_, h2⟩
          have h3 := h2.mono (T' := cell ns) fun a b hab => ((ih1 a b).1 hab).1
          simpa using h3
        · intro h2
          refine ⟨by simp [cellZ, hc], ?_⟩
          simpa using hback k m h2
      refine ⟨fun k m => ?_, ?_⟩
      · rw [cell_visL hsl, Bool.and_eq_true, Bool.not_eq_true', ← Bool.not_eq_true, hvis, ih1]
        constructor
        · rintro ⟨⟨h1, h2⟩, h3⟩
          refine ⟨h1, fun c hcm hct => ?_⟩
          rcases List.mem_append.1 hcm with hcm | hcm
          · exact h2 c hcm hct
          · simp only [List.mem_singleton] at hcm
            subst hcm
            exact h3
        · rintro ⟨h1, h2⟩
          exact ⟨⟨h1, fun c hcm => h2 c (by simp [hcm])⟩, h2 x (by simp) hxn⟩
      · rw [ih2, List.filter_append, List.map_append]
        have hfb : firstB (cell ns) near h w x = true := (firstB_iff hs.inside x).2 (hfirst.1 hc)
        simp only [List.filter_cons, hfb, if_true, List.filter_nil, List.map_cons, List.map_nil]
        congr 2
        refine Sized.ext (h := h) (w := w) sized_mk sized_mk fun k m _ _ => ?_
        rw [cell_visG hsl sized_zero, cell_zero, Bool.false_or, Bool.eq_iff_iff, hvis]
        exact (cell_comp hs.inside hxn).symm
    · rw [if_neg hc]
      have hfb : firstB (cell ns) near h w x = false := by
        rw [← Bool.not_eq_true, firstB_iff hs.inside, ← hfirst]
        exact hc
      refine ⟨fun k m => ?_, by rw [ih2, List.filter_append]; simp [hfb]⟩
      rw [ih1]
      constructor
      · rintro ⟨h1, h2⟩
        refine ⟨h1, fun c hcm hct => ?_⟩
        rcases List.mem_append.1 hcm with hcm | hcm
        · exact h2 c hcm hct
        · simp only [List.mem_singleton] at hcm
          subst hcm
          intro hrx
          refine hc ((ih1 _ _).2 ⟨hct, fun d hd hdt hrd => ?_⟩)
          exact h2 d hd hdt (hrd.trans hrx)
      · rintro ⟨h1, h2⟩
        exact ⟨h1, fun c hcm => h2 c (by simp [hcm])⟩
theorem grp_all {ns : List Nat} (hs : Sized h w ns) : (grp near h w ns (cellsL h w)).2 = (firsts (cell ns) near h w).map (compL (cell ns) near h w) := (grp_main hs (cellsL h w) [] (by simp)).2

/-! ### The search in breadth -/
/-- The cells of the same kind as (i, j). -/
def sameT (h w : Nat) (ns : List Nat) (i j k l : Nat) : Bool := decide (k < h) && decide (l < w) && (cell ns k l == cell ns i j)
theorem sameT_in {ns : List Nat} {i j : Nat} : Inside h w (sameT h w ns i j) := fun k l hk => by
  simp only [sameT, Bool.and_eq_true, decide_eq_true_eq] at hk
  exact hk.1
theorem sameT_set {ns : List Nat} (hs : Sized h w ns) {i j : Nat} (hc : cell ns i j = true) : sameT h w ns i j = cell ns := by
  funext k l
  unfold sameT
  rw [hc]
  cases hk : cell ns k l with
  | false => simp
  | true => have := hs.cell_in hk; simp [this.1, this.2]
theorem sameT_not {ns : List Nat} {i j : Nat} (hc : cell ns i j = false) : sameT h w ns i j = Co h w (cell ns) := by
  funext k l
  unfold sameT Co
  rw [hc]
  cases cell ns k l <;> simp
/-- A set cell other than (i, j) is near. -/
def touchB (c : Bool) (h w : Nat) (os : List Nat) (i j : Nat) : Bool := (cellsL h w).any fun d => cell os d.1 d.2 && adjB c (i, j) d && !(d == (i, j))
theorem touchB_iff {c : Bool} {os : List Nat} (hs : Sized h w os) {i j : Nat} : touchB c h w os i j = true ↔ ∃ k l, cell os k l = true ∧ Adj c i j k l ∧ ¬ (k = i ∧ l = j) := by
  simp only [touchB, List.any_eq_true, Bool.and_eq_true, adjB_iff, Bool.not_eq_true', beq_eq_false_iff_ne, ne_eq]
  constructor
  · rintro ⟨d, _, ⟨h1, h2⟩, h3⟩
    exact ⟨d.1, d.2, h1, h2, fun e => h3 (Prod.ext e.1 e.2)⟩
  · rintro ⟨k, l, h1, h2, h3⟩
    exact ⟨(k, l), mem_cellsL.2 (hs.cell_in h1), ⟨h1, h2⟩, fun e => by injection e with e1 e2; exact h3 ⟨e1, e2⟩⟩
structure GInv (T : Nat → Nat → Bool) (c : Bool) (h w i j : Nat) (os : List Nat) : Prop where
  sz : Sized h w os
  here : cell os i j = true
  sub : ∀ k l, cell os k l = true → Reach T c i j k l
theorem GInv.start {T : Nat → Nat → Bool} {c : Bool} {i j : Nat} (hi : i < h) (hj : j < w) : GInv T c h w i j (putL (List.replicate h 0) i j true) := by
  have e : ∀ k l, cell (putL (List.replicate h 0) i j true) k l = if k = i ∧ l = j then true else cell (List.replicate h 0) k l := cell_putL (by simpa using hi) j true
  refine ⟨sized_zero.put hi hj _, by rw [e, if_pos ⟨rfl, rfl⟩], fun k l hk => ?_⟩
  rw [e] at hk
  split at hk
  · rename_i hh; obtain ⟨rfl, rfl⟩ := hh; exact .refl
  · rw [cell_zero] at hk; cases hk
theorem GInv.add {T : Nat → Nat → Bool} {c : Bool} {i j k l : Nat} {os : List Nat} (hv : GInv T c h w i j os) (hk : k < h) (hl : l < w) (ht : T k l = true) (hto : touchB c h w os k l = true) : GInv T c h w i j (putL os k l true) := by
  have e : ∀ a b, cell (putL os k l true) a b = if a = k ∧ b = l then true else cell os a b := cell_putL (by rw [hv.sz.1]; exact hk) l true
  refine ⟨hv.sz.put hk hl _, by rw [e]; split <;> first | rfl | exact hv.here, fun a b hab => ?_⟩
  rw [e] at hab
  split at hab
  · rename_i hh
    obtain ⟨rfl, rfl⟩ := hh
    obtain ⟨m, n, h1, h2, _⟩ := (touchB_iff hv.sz).1 hto
    exact .step (hv.sub m n h1) h2.symm ht
  · exact hv.sub a b hab
theorem GInv.finish {T : Nat → Nat → Bool} {c : Bool} {i j : Nat} {os : List Nat} (hS : Inside h w T) (hv : GInv T c h w i j os) (ht : T i j = true)
    (hno : ∀ k l, k < h → l < w → T k l = true → cell os k l = false → touchB c h w os k l = false) : os = compL T c h w (i, j) := by
  suffices hall : ∀ k l, Reach T c i j k l → cell os k l = true from Sized.ext hv.sz sized_mk fun k l _ _ => by
    rw [Bool.eq_iff_iff, cell_comp hS ht]
    exact ⟨hv.sub k l, hall k l⟩
  intro k l hr
  induction hr with
  | refl => exact hv.here
  | @step k l m n hr ha htm ih =>
    refine Classical.byContradiction fun hn => ?_
    have hb := hS _ _ htm
    have := hno m n hb.1 hb.2 htm (by simpa using hn)
    rw [← Bool.not_eq_true, touchB_iff hv.sz] at this
    refine this ⟨k, l, ih, ha.symm, fun e => ?_⟩
    obtain ⟨rfl, rfl⟩ := e
    exact hn ih
end
end Go.Proofs.YtbpjceffkchmbaaDoor.Gr
end

section
namespace Go.Proofs.YtbpjceffkchmbaaDoor.Gr
section
variable {h w : Nat}
theorem comps_more {n : Nat} {E : List (Nat × Nat)} {R : Nat → Nat → Bool} (hR : Dec E R) : ∀ (L : List (Nat × Nat)) (R' : Nat → Nat → Bool), Dec (L ++ E) R' → (∀ e ∈ L, e.1 < n ∧ e.2 < n) → comps n R' ≤ comps n R ∧ comps n R ≤ comps n R' + L.length := by
  intro L
  induction L with
  | nil =>
    intro R' hR' _
    rw [hR'.comps_eq hR n]
    simp
  | cons e L ih =>
    intro R' hR' hb
    obtain ⟨R1, hR1⟩ := dec_ex (L ++ E)
    have h1 := ih R1 hR1 fun e he => hb e (by simp [he])
    have h2 := hb e (by simp)
    have h3 := comps_cons_cases (n := n) h2.1 h2.2 hR1 (x := e.1) (y := e.2) (R' := R') hR'
    simp only [List.length_cons]
    omega
def edgesS (h w : Nat) (S : Nat → Nat → Bool) : List (Nat × Nat) := ((aE h w).filter (both w S)).map (·.1)
theorem mem_edgesS {S : Nat → Nat → Bool} {e : Nat × Nat} : e ∈ edgesS h w S ↔ (∃ a b, a < h ∧ b + 1 < w ∧ S a b = true ∧ S a (b + 1) = true ∧ e = (a * w + b, a * w + (b + 1))) ∨ (∃ a b, a + 1 < h ∧ b < w ∧ S a b = true ∧ S (a + 1) b = true ∧ e = (a * w + b, (a + 1) * w + b)) := by
  unfold edgesS aE
  simp only [List.mem_map, List.mem_filter, List.mem_append]
  constructor
  · rintro ⟨f, ⟨hf | hf, hb⟩, rfl⟩
    · obtain ⟨a, b, h1, h2, rfl⟩ := mem_hE.1 hf
      rw [both_h h2] at hb
      simp only [Bool.and_eq_true] at hb
      exact .inl ⟨a, b, h1, h2, hb.1, hb.2, rfl⟩
    · obtain ⟨a, b, h1, h2, rfl⟩ := mem_vE.1 hf
      rw [both_v h2] at hb
      simp only [Bool.and_eq_true] at hb
      exact .inr ⟨a, b, h1, h2, hb.1, hb.2, rfl⟩
  · rintro (⟨a, b, h1, h2, s1, s2, rfl⟩ | ⟨a, b, h1, h2, s1, s2, rfl⟩)
    · exact ⟨_, ⟨.inl (mem_hE.2 ⟨a, b, h1, h2, rfl⟩), by rw [both_h h2, s1, s2]; rfl⟩, rfl⟩
    · exact ⟨_, ⟨.inr (mem_vE.2 ⟨a, b, h1, h2, rfl⟩), by rw [both_v h2, s1, s2]; rfl⟩, rfl⟩
theorem edges_bd {S : Nat → Nat → Bool} {e : Nat × Nat} (he : e ∈ edgesS h w S) : e.1 < h * w ∧ e.2 < h * w := by
  rcases mem_edgesS.1 he with ⟨a, b, h1, h2, _, _, rfl⟩ | ⟨a, b, h1, h2, _, _, rfl⟩
  · exact ⟨lin_lt h1 (by omega), lin_lt h1 h2⟩
  · exact ⟨lin_lt (by omega) h2, lin_lt h1 h2⟩
/-- The parts and the cells that are not set make the components. -/
theorem comps_firsts {S : Nat → Nat → Bool} (hS : Inside h w S) {R : Nat → Nat → Bool} (hR : Dec (edgesS h w S) R) : comps (h * w) R + ((cellsL h w).filter fun c => S c.1 c.2).length = h * w + (firsts S false h w).length := by
  have h1 := comps_parts hS (firstB S false h w) (fun c => firstB_iff hS c) hR
  rw [h1]
  have : ∀ l : List (Nat × Nat), (l.filter fun c => !S c.1 c.2 || firstB S false h w c).length + (l.filter fun c => S c.1 c.2).length = l.length + (l.filter (firstB S false h w)).length := by
    intro l
    induction l with
    | nil => rfl
    | cons c r ih =>
      cases hs : S c.1 c.2 with
      | true => cases hb : firstB S false h w c <;> simp [hs, hb] <;> omega
      | false =>
        have hb : firstB S false h w c = false := by unfold firstB; rw [hs]; rfl
        simp [hs, hb]
        omega
  rw [this, length_cellsL]
  rfl
theorem count_add {p q : Nat × Nat → Bool} {c : Nat × Nat} : ∀ (l : List (Nat × Nat)), l.Nodup → c ∈ l → p c = false → q c = true → (∀ d ∈ l, d ≠ c → p d = q d) → (l.filter q).length = (l.filter p).length + 1 := by
  intro l
  induction l with
  | nil => intro _ hc; simp at hc
  | cons a l ih =>
    intro hn hc hp hq hh
    obtain ⟨hn1, hn2⟩ := List.nodup_cons.1 hn
    by_cases e : a = c
    · subst e
      have : l.filter p = l.filter q := List.filter_congr fun d hd => hh d (by simp [hd]) (fun e => hn1 (e ▸ hd))
      simp [hp, hq, this]
    · have hc' : c ∈ l := by
        rcases List.mem_cons.1 hc with h1 | h1
        · exact (e h1.symm).elim
        · exact h1
      have h1 := ih hn2 hc' hp hq fun d hd => hh d (by simp [hd])
      have h2 := hh a (by simp) e
      cases hq' : q a <;> simp [h2, hq', h1]
/-- ONE CELL MORE JOINS AT MOST FOUR PARTS. -/
theorem firsts_put {S S' : Nat → Nat → Bool} {i j : Nat} (hS : Inside h w S) (hi : i < h) (hj : j < w) (hc : S i j = false) (hS' : ∀ a b, S' a b = if a = i ∧ b = j then true else S a b) :
    (firsts S' false h w).length ≤ (firsts S false h w).length + 1 ∧ (firsts S false h w).length ≤ (firsts S' false h w).length + 3 := by
  have hI' : Inside h w S' := fun a b hab => by
    rw [hS'] at hab
    split at hab
    · rename_i e; obtain ⟨rfl, rfl⟩ := e; exact ⟨hi, hj⟩
    · exact hS a b hab
  obtain ⟨R, hR⟩ := dec_ex (edgesS h w S)
  obtain ⟨R', hR'⟩ := dec_ex (edgesS h w S')
  have h1 := comps_firsts hS hR
  have h2 := comps_firsts hI' hR'
  have h3 : ((cellsL h w).filter fun c => S' c.1 c.2).length = ((cellsL h w).filter fun c => S c.1 c.2).length + 1 :=
    count_add (c := (i, j)) _ (nodup_cellsL h w) (mem_cellsL.2 ⟨hi, hj⟩) hc (by rw [hS', if_pos ⟨rfl, rfl⟩]) fun d _ hd => by
      rw [hS', if_neg]
      rintro ⟨e1, e2⟩
      exact hd (Prod.ext e1 e2)
  obtain ⟨L, hL, hLl, hLb⟩ : ∃ L : List (Nat × Nat), (∀ e, e ∈ edgesS h w S' ↔ e ∈ L ++ edgesS h w S) ∧ L.length ≤ 4 ∧ ∀ e ∈ L, e.1 < h * w ∧ e.2 < h * w := by
    refine ⟨[(i * w + (j - 1), i * w + j), (i * w + j, i * w + (j + 1)), ((i - 1) * w + j, i * w + j), (i * w + j, (i + 1) * w + j)].filter fun e => (edgesS h w S').contains e, fun e => ?_, List.length_filter_le _ _, fun e he => ?_⟩
    · rw [List.mem_append]
      constructor
      · intro he
        by_cases hs : e ∈ edgesS h w S
        · exact .inr hs
        · refine .inl (List.mem_filter.2 ⟨?_, by simpa using he⟩)
          rcases mem_edgesS.1 he with ⟨a, b, p1, p2, s1, s2, rfl⟩ | ⟨a, b, p1, p2, s1, s2, rfl⟩
          · rw [hS'] at s1 s2
            by_cases e1 : a = i ∧ b = j
            · obtain ⟨rfl, rfl⟩ := e1; simp
            · by_cases e2 : a = i ∧ b + 1 = j
              · obtain ⟨rfl, rfl⟩ := e2; simp
              · rw [if_neg e1] at s1
                rw [if_neg e2] at s2
                exact (hs (mem_edgesS.2 (.inl ⟨a, b, p1, p2, s1, s2, rfl⟩))).elim
          · rw [hS'] at s1 s2
            by_cases e1 : a = i ∧ b = j
            · obtain ⟨rfl, rfl⟩ := e1; simp
            · by_cases e2 : a + 1 = i ∧ b = j
              · obtain ⟨rfl, rfl⟩ := e2; simp
              · rw [if_neg e1] at s1
                rw [if_neg e2] at s2
                exact (hs (mem_edgesS.2 (.inr ⟨a, b, p1, p2, s1, s2, rfl⟩))).elim
      · rintro (he | he)
        · simpa using (List.mem_filter.1 he).2
        · have up : ∀ a b, S a b = true → S' a b = true := fun a b hab => by rw [hS']; split <;> first | rfl | exact hab
          rcases mem_edgesS.1 he with ⟨a, b, p1, p2, s1, s2, rfl⟩ | ⟨a, b, p1, p2, s1, s2, rfl⟩
          · exact mem_edgesS.2 (.inl ⟨a, b, p1, p2, up _ _ s1, up _ _ s2, rfl⟩)
          · exact mem_edgesS.2 (.inr ⟨a, b, p1, p2, up _ _ s1, up _ _ s2, rfl⟩)
    · exact edges_bd (by simpa using (List.mem_filter.1 he).2 : e ∈ edgesS h w S')
  have h4 := comps_more (n := h * w) hR L R' (hR'.of_mem hL) hLb
  omega

/-! ### A part, and the rest -/
variable {T : Nat → Nat → Bool} {near : Bool}
theorem comp_reach (hS : Inside h w T) {c : Nat × Nat} (ht : T c.1 c.2 = true) {a b k l : Nat} (ha : Reach T near c.1 c.2 a b) : Reach (cell (compL T near h w c)) near a b k l ↔ Reach T near a b k l := by
  constructor
  · exact Reach.mono fun x y hxy => ((cell_comp hS ht).1 hxy).mem ht
  · intro hr
    induction hr with
    | refl => exact .refl
    | step hr hadj t ih => exact .step ih hadj ((cell_comp hS ht).2 (ha.trans (.step hr hadj t)))
/-- A part is one part. -/
theorem firsts_comp (hS : Inside h w T) {c : Nat × Nat} (ht : T c.1 c.2 = true) : (firsts (cell (compL T near h w c)) near h w).length = 1 := by
  have hI : Inside h w (cell (compL T near h w c)) := (sized_mk : Sized h w (compL T near h w c)).inside
  have hcc : cell (compL T near h w c) c.1 c.2 = true := (cell_comp hS ht).2 .refl
  obtain ⟨k, l, hk, hr⟩ := first_ex (T := cell (compL T near h w c)) (near := near) _ _ hcc
  have hm := (mem_firsts (near := near) hI (c := (k, l))).2 hk
  refine Nat.le_antisymm ?_ (List.length_pos_of_mem hm)
  have hall : ∀ d ∈ firsts (cell (compL T near h w c)) near h w, d = (k, l) := by
    intro d hd
    have hd := (mem_firsts hI).1 hd
    have hrd : Reach T near c.1 c.2 d.1 d.2 := (cell_comp hS ht).1 hd.1
    have hrk : Reach T near c.1 c.2 k l := (cell_comp hS ht).1 hk.1
    have := (comp_reach hS ht hrk).2 ((hrk.symm ht).trans hrd)
    obtain ⟨e1, e2⟩ := first_same hk hd this
    exact Prod.ext e1.symm e2.symm
  match hf : firsts (cell (compL T near h w c)) near h w with
  | [] => simp
  | [_] => simp
  | a :: b :: r =>
    rw [hf] at hall
    have hn := nodup_firsts (T := cell (compL T near h w c)) (near := near) (h := h) (w := w)
    rw [hf] at hn
    have e1 := hall a (by simp)
    have e2 := hall b (by simp)
    rw [e1, e2] at hn
    simp at hn
/-- The image without a part. -/
def restL (T : Nat → Nat → Bool) (near : Bool) (h w : Nat) (c : Nat × Nat) : List Nat := mkI h w fun k l => T k l && !reachB T near h w c.1 c.2 k l
theorem cell_rest (hS : Inside h w T) {c : Nat × Nat} (ht : T c.1 c.2 = true) {k l : Nat} : cell (restL T near h w c) k l = true ↔ T k l = true ∧ ¬ Reach T near c.1 c.2 k l := by
  unfold restL
  rw [cell_mk]
  simp only [Bool.and_eq_true, decide_eq_true_eq, Bool.not_eq_true', ← Bool.not_eq_true, reachB_iff hS]
  constructor
  · rintro ⟨_, h1, h2⟩; exact ⟨h1, fun h3 => h2 ⟨ht, h3⟩⟩
  · rintro ⟨h1, h2⟩; exact ⟨hS _ _ h1, h1, fun h3 => h2 h3.2⟩
theorem rest_reach (hS : Inside h w T) {c : Nat × Nat} (ht : T c.1 c.2 = true) {a b k l : Nat} (ha : cell (restL T near h w c) a b = true) : Reach (cell (restL T near h w c)) near a b k l ↔ Reach T near a b k l := by
  have ha' := (cell_rest hS ht).1 ha
  constructor
  · exact Reach.mono fun x y hxy => ((cell_rest hS ht).1 hxy).1
  · intro hr
    induction hr with
    | refl => exact .refl
    | step hr hadj t ih =>
      refine .step ih hadj ((cell_rest hS ht).2 ⟨t, fun hc => ha'.2 ?_⟩)
      exact hc.trans ((Reach.step hr hadj t).symm ha'.1)
/-- Without a part there is one part less. -/
theorem firsts_rest (hS : Inside h w T) {c : Nat × Nat} (ht : T c.1 c.2 = true) : (firsts (cell (restL T near h w c)) near h w).length + 1 = (firsts T near h w).length := by
  have hI : Inside h w (cell (restL T near h w c)) := (sized_mk : Sized h w (restL T near h w c)).inside
  obtain ⟨k, l, hk, hr⟩ := first_ex (T := T) (near := near) _ _ ht
  symm
  refine count_add (c := (k, l)) _ (nodup_cellsL h w) (mem_cellsL.2 (hS _ _ hk.1)) ?_ ((firstB_iff hS (k, l)).2 hk) fun d _ hd => ?_
  · rw [← Bool.not_eq_true, firstB_iff hI]
    intro hf
    exact ((cell_rest hS ht).1 hf.1).2 hr
  · rw [Bool.eq_iff_iff, firstB_iff hI, firstB_iff hS]
    constructor
    · intro hf
      have h1 := (cell_rest hS ht).1 hf.1
      refine ⟨h1.1, fun a b he hab hra => ?_⟩
      refine hf.2 a b he ((cell_rest hS ht).2 ⟨hab, fun hc => h1.2 (hc.trans (hra.symm h1.1))⟩) ((rest_reach hS ht hf.1).2 hra)
    · intro hf
      have h1 : cell (restL T near h w c) d.1 d.2 = true := (cell_rest hS ht).2 ⟨hf.1, fun hc => by
        obtain ⟨e1, e2⟩ := first_same hk hf ((hr.symm ht).trans hc)
        exact hd (Prod.ext e1.symm e2.symm)⟩
      exact ⟨h1, fun a b he hab hra => hf.2 a b he ((cell_rest hS ht).1 hab).1 ((rest_reach hS ht h1).1 hra)⟩
theorem firsts_zero (hS : Inside h w T) : (firsts T near h w).length = 0 ↔ ∀ i j, T i j = false := by
  constructor
  · intro h0 i j
    rw [← Bool.not_eq_true]
    intro ht
    obtain ⟨k, l, hk, _⟩ := first_ex (T := T) (near := near) _ _ ht
    have := List.length_pos_of_mem ((mem_firsts hS (c := (k, l))).2 hk)
    omega
  · intro h0
    refine Nat.eq_zero_of_not_pos fun hp => ?_
    obtain ⟨c, hc⟩ := List.exists_mem_of_length_pos hp
    have := ((mem_firsts hS).1 hc).1
    rw [h0] at this
    cases this
end
/-- A row without some of its bits. -/
theorem sub_bits : ∀ n, n < 64 → ∀ m, m < 64 → n &&& m = m → n - m = n ^^^ m := by decide +kernel
theorem sub_row {n m : Nat} (hn : n < 64) (hm : m < 64) (hs : ∀ l, m.testBit l = true → n.testBit l = true) (l : Nat) : (n - m).testBit l = (n.testBit l && !m.testBit l) ∧ m ≤ n := by
  have he : n &&& m = m := by
    apply Nat.eq_of_testBit_eq
    intro l
    rw [Nat.testBit_and]
    have := hs l
    cases h1 : m.testBit l with
    | false => simp
    | true => simp [this h1]
  refine ⟨?_, ?_⟩
  · rw [sub_bits n hn m hm he, Nat.testBit_xor]
    have := hs l
    cases h1 : m.testBit l with
    | false => simp
    | true => simp [this h1]
  · rw [← he]; exact Nat.and_le_left
end Go.Proofs.YtbpjceffkchmbaaDoor.Gr
end
