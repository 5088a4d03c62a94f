/- Plain laws of tables: filled cell by cell, added, made an image. No condition beyond those that the theorems name. -/
import Derived.Test.YtbpjceffkchmbaaDoorTBP
namespace Go.Proofs.YtbpjceffkchmbaaDoor
/-- A table filled behind k rows and l numbers of the next one. -/
def filT (f : Nat → Nat → Int) (h n k l : Nat) : List (List Int) := tabF (fun a b => if a < k ∨ (a = k ∧ b < l) then f a b else 0) h n
theorem szd_filT (f : Nat → Nat → Int) (h n k l : Nat) : Szd h n (filT f h n k l) := szd_tabF _ _ _
theorem filT_zero (f : Nat → Nat → Int) (h n : Nat) : filT f h n 0 0 = zeroT h n :=
  szd_ext (szd_filT ..) (szd_zeroT h n) fun i j hi hj => by
    unfold filT
    rw [ent_tabF hi hj, ent_zeroT, if_neg (by omega)]
theorem filT_step {f : Nat → Nat → Int} {h n k l : Nat} (hk : k < h) (hl : l < n) : putT (filT f h n k l) k l (f k l) = filT f h n k (l + 1) :=
  szd_ext ((szd_filT ..).put _ _ _) (szd_filT ..) fun i j hi hj => by
    rw [ent_put (szd_filT f h n k l) hk hl]
    unfold filT
    rw [ent_tabF hi hj, ent_tabF hi hj]
    by_cases e : i = k ∧ j = l
    · rw [if_pos e, if_pos (by omega), e.1, e.2]
    · rw [if_neg e]
      by_cases e2 : i < k ∨ (i = k ∧ j < l)
      · rw [if_pos e2, if_pos (by omega)]
      · rw [if_neg e2, if_neg (by omega)]
theorem filT_row (f : Nat → Nat → Int) (h n k : Nat) : filT f h n k n = filT f h n (k + 1) 0 :=
  szd_ext (szd_filT ..) (szd_filT ..) fun i j hi hj => by
    unfold filT
    rw [ent_tabF hi hj, ent_tabF hi hj]
    by_cases e2 : i < k ∨ (i = k ∧ j < n)
    · rw [if_pos e2, if_pos (by omega)]
    · rw [if_neg e2, if_neg (by omega)]
theorem filT_all (f : Nat → Nat → Int) (h n : Nat) : filT f h n h 0 = tabF f h n :=
  szd_ext (szd_filT ..) (szd_tabF ..) fun i j hi hj => by
    unfold filT
    rw [ent_tabF hi hj, ent_tabF hi hj, if_pos (by omega)]
theorem tabF_ent {A : List (List Int)} {h n : Nat} (hA : Szd h n A) : tabF (ent A) h n = A :=
  szd_ext (szd_tabF ..) hA fun i j hi hj => by rw [ent_tabF hi hj]
theorem filT_ent {A : List (List Int)} {h n : Nat} (hA : Szd h n A) : filT (ent A) h n h 0 = A := by rw [filT_all, tabF_ent hA]
theorem row_set_ent {T R : List (List Int)} {h n k : Nat} {r : List Int} (hT : Szd h n T) (hR : Szd h n R) (hk : k < h) (hr : r.length = n) (h1 : ∀ b, b < n → r.getD b 0 = ent R k b) (h2 : ∀ a b, a < h → b < n → a ≠ k → ent T a b = ent R a b) : T.set k r = R := by
  have hkl : k < T.length := by rw [hT.len]; exact hk
  have hget : ∀ a, (T.set k r).getD a [] = if a = k then r else T.getD a [] := fun a => by
    by_cases e : a = k
    · subst e; rw [if_pos rfl, List.getD_eq_getElem?_getD, List.getElem?_set_self hkl]; rfl
    · rw [if_neg e, List.getD_eq_getElem?_getD, List.getElem?_set_ne (fun e2 => e e2.symm), List.getD_eq_getElem?_getD]
  refine szd_ext ⟨by rw [List.length_set]; exact hT.len, fun a ha => ?_⟩ hR fun a b ha hb => ?_
  · rw [hget]
    split
    · exact hr
    · exact hT.wid a ha
  · unfold ent
    rw [hget]
    by_cases e : a = k
    · subst e; rw [if_pos rfl]; exact h1 b hb
    · rw [if_neg e]; exact h2 a b ha hb e
theorem filT_copy {A : List (List Int)} {h n k : Nat} (hA : Szd h n A) (hk : k < h) : (filT (ent A) h n k 0).set k (A.getD k []) = filT (ent A) h n (k + 1) 0 :=
  row_set_ent (szd_filT ..) (szd_filT ..) hk (hA.wid k hk) (fun b hb => by
    unfold filT
    rw [ent_tabF hk hb, if_pos (by omega)]
    rfl) fun a b ha hb e => by
    unfold filT
    rw [ent_tabF ha hb, ent_tabF ha hb]
    by_cases e2 : a < k
    · rw [if_pos (by omega), if_pos (by omega)]
    · rw [if_neg (by omega), if_neg (by omega)]
/-- A number of a table to which behind k rows and l numbers so many times another one is added. -/
def addF (A B : List (List Int)) (c : Int) (i j n2 k l a b : Nat) : Int := ent A a b + if i ≤ a ∧ j ≤ b ∧ b < j + n2 ∧ (a < i + k ∨ (a = i + k ∧ b < j + l)) then c * ent B (a - i) (b - j) else 0
def addS (A B : List (List Int)) (c : Int) (i j h n n2 k l : Nat) : List (List Int) := tabF (addF A B c i j n2 k l) h n
theorem szd_addS (A B : List (List Int)) (c : Int) (i j h n n2 k l : Nat) : Szd h n (addS A B c i j h n n2 k l) := szd_tabF _ _ _
theorem addS_zero {A : List (List Int)} {h n : Nat} (hA : Szd h n A) (B : List (List Int)) (c : Int) (i j n2 : Nat) : addS A B c i j h n n2 0 0 = A :=
  szd_ext (szd_addS ..) hA fun a b ha hb => by
    unfold addS addF
    rw [ent_tabF ha hb, if_neg (by omega), Int.add_zero]
theorem addS_at {A B : List (List Int)} {c : Int} {i j h n n2 k l : Nat} (hk : i + k < h) (hl : j + l < n) : ent (addS A B c i j h n n2 k l) (i + k) (j + l) = ent A (i + k) (j + l) := by
  unfold addS addF
  rw [ent_tabF hk hl, if_neg (by omega), Int.add_zero]
theorem addS_step {A B : List (List Int)} {c : Int} {i j h n n2 k l : Nat} (hk : i + k < h) (hl : j + l < n) (h2 : l < n2) : putT (addS A B c i j h n n2 k l) (i + k) (j + l) (ent A (i + k) (j + l) + c * ent B k l) = addS A B c i j h n n2 k (l + 1) :=
  szd_ext ((szd_addS ..).put _ _ _) (szd_addS ..) fun a b ha hb => by
    rw [ent_put (szd_addS A B c i j h n n2 k l) hk hl]
    unfold addS
    rw [ent_tabF ha hb, ent_tabF ha hb]
    unfold addF
    by_cases e : a = i + k ∧ b = j + l
    · rw [if_pos e, if_pos (by omega), e.1, e.2, Nat.add_sub_cancel_left, Nat.add_sub_cancel_left]
    · rw [if_neg e]
      by_cases e2 : i ≤ a ∧ j ≤ b ∧ b < j + n2 ∧ (a < i + k ∨ (a = i + k ∧ b < j + l))
      · rw [if_pos e2, if_pos (by omega)]
      · rw [if_neg e2, if_neg (by omega)]
theorem addS_row (A B : List (List Int)) (c : Int) (i j h n n2 k : Nat) : addS A B c i j h n n2 k n2 = addS A B c i j h n n2 (k + 1) 0 :=
  szd_ext (szd_addS ..) (szd_addS ..) fun a b ha hb => by
    unfold addS
    rw [ent_tabF ha hb, ent_tabF ha hb]
    unfold addF
    by_cases e2 : i ≤ a ∧ j ≤ b ∧ b < j + n2 ∧ (a < i + k ∨ (a = i + k ∧ b < j + n2))
    · rw [if_pos e2, if_pos (by omega)]
    · rw [if_neg e2, if_neg (by omega)]
/-- A table of h rows and n columns to which c times one of h2 and n2 is added at the place (i, j). -/
def addT (A B : List (List Int)) (c : Int) (i j h n h2 n2 : Nat) : List (List Int) := addS A B c i j h n n2 h2 0
theorem szd_addT (A B : List (List Int)) (c : Int) (i j h n h2 n2 : Nat) : Szd h n (addT A B c i j h n h2 n2) := szd_tabF _ _ _
theorem ent_addT {A B : List (List Int)} {c : Int} {i j h n h2 n2 a b : Nat} (ha : a < h) (hb : b < n) : ent (addT A B c i j h n h2 n2) a b = ent A a b + if i ≤ a ∧ a < i + h2 ∧ j ≤ b ∧ b < j + n2 then c * ent B (a - i) (b - j) else 0 := by
  unfold addT addS
  rw [ent_tabF ha hb]
  unfold addF
  by_cases e2 : i ≤ a ∧ a < i + h2 ∧ j ≤ b ∧ b < j + n2
  · rw [if_pos e2, if_pos (by omega)]
  · rw [if_neg e2, if_neg (by omega)]
/-- Whether all numbers of a table are 0 or 1. -/
def bitE (T : List (List Int)) (i j : Nat) : Bool := decide (0 ≤ ent T i j) && decide (ent T i j ≤ 1)
def bitsB (h n : Nat) (T : List (List Int)) : Bool := (List.range h).all fun i => (List.range n).all fun j => bitE T i j
theorem bitsB_yes {h n : Nat} {T : List (List Int)} (ha : ∀ i j, i < h → j < n → bitE T i j = true) : bitsB h n T = true := by
  unfold bitsB
  rw [List.all_eq_true]
  intro i hi
  rw [List.all_eq_true]
  intro j hj
  exact ha i j (List.mem_range.1 hi) (List.mem_range.1 hj)
theorem bitsB_no {h n i j : Nat} {T : List (List Int)} (hi : i < h) (hj : j < n) (hb : bitE T i j = false) : bitsB h n T = false := by
  cases hc : bitsB h n T with
  | false => rfl
  | true =>
    unfold bitsB at hc
    rw [List.all_eq_true] at hc
    have h1 := hc i (List.mem_range.2 hi)
    rw [List.all_eq_true] at h1
    have h2 := h1 j (List.mem_range.2 hj)
    rw [hb] at h2
    cases h2
theorem bitsB_at {h n i j : Nat} {T : List (List Int)} (ht : bitsB h n T = true) (hi : i < h) (hj : j < n) : ent T i j = 0 ∨ ent T i j = 1 := by
  cases hc : bitE T i j with
  | false => rw [bitsB_no hi hj hc] at ht; cases ht
  | true =>
    unfold bitE at hc
    rw [Bool.and_eq_true, decide_eq_true_eq, decide_eq_true_eq] at hc
    omega
/-- The image of a table while it is made. -/
def imgP (T : List (List Int)) (h n k l : Nat) : List Nat := mkI h n fun a b => decide (a < k ∨ (a = k ∧ b < l)) && decide (ent T a b = 1)
theorem imgP_len (T : List (List Int)) (h n k l : Nat) : (imgP T h n k l).length = h := length_mk _ _ _
theorem imgP_vimg {T : List (List Int)} {h n k l : Nat} (h1 : 1 ≤ h) (h6 : h ≤ 6) (w1 : 1 ≤ n) (w6 : n ≤ 6) : VImg n (imgP T h n k l) := vimg_mk h1 h6 w1 w6
theorem imgP_zero {T : List (List Int)} {h n : Nat} (h1 : 1 ≤ h) (h6 : h ≤ 6) (w1 : 1 ≤ n) (w6 : n ≤ 6) : imgP T h n 0 0 = List.replicate h 0 := by
  have hv : VImg n (List.replicate h 0) := ⟨w1, w6, by simpa using h1, by simpa using h6, fun x hx => by rw [(List.mem_replicate.1 hx).2]; exact Nat.two_pow_pos n⟩
  refine (hv.eq_mk (by simp) fun i j hi hj => ?_).symm
  rw [decide_eq_false (by omega)]
  simp [cell, List.getD_eq_getElem?_getD, hi]
theorem imgP_step {T : List (List Int)} {h n k l : Nat} (h1 : 1 ≤ h) (h6 : h ≤ 6) (w1 : 1 ≤ n) (w6 : n ≤ 6) (hk : k < h) (hl : l < n) : putL (imgP T h n k l) k l (decide (ent T k l = 1)) = imgP T h n k (l + 1) := by
  have hkl : k < (imgP T h n k l).length := by rw [imgP_len]; exact hk
  refine (vimg_putL (imgP_vimg h1 h6 w1 w6) hkl hl _).eq_mk (by rw [length_putL, imgP_len]) fun i j hi hj => ?_
  rw [cell_putL hkl]
  by_cases e : i = k ∧ j = l
  · rw [if_pos e, e.1, e.2, decide_eq_true (p := k < k ∨ (k = k ∧ l < l + 1)) (by omega), Bool.true_and]
  · rw [if_neg e]
    unfold imgP
    rw [cell_mk, decide_eq_true hi, decide_eq_true hj, Bool.true_and, Bool.true_and]
    by_cases e2 : i < k ∨ (i = k ∧ j < l)
    · rw [decide_eq_true e2, decide_eq_true (p := i < k ∨ (i = k ∧ j < l + 1)) (by omega)]
    · rw [decide_eq_false e2, decide_eq_false (p := i < k ∨ (i = k ∧ j < l + 1)) (by omega)]
theorem imgP_row (T : List (List Int)) (h n k : Nat) : imgP T h n k n = imgP T h n (k + 1) 0 := by
  unfold imgP mkI
  refine List.map_congr_left fun a _ => ?_
  apply Nat.eq_of_testBit_eq
  intro b
  rw [rowOf_bit, rowOf_bit]
  dsimp only
  by_cases hb : b < n
  · by_cases e2 : a < k ∨ (a = k ∧ b < n)
    · rw [decide_eq_true e2, decide_eq_true (p := a < k + 1 ∨ (a = k + 1 ∧ b < 0)) (by omega)]
    · rw [decide_eq_false e2, decide_eq_false (p := a < k + 1 ∨ (a = k + 1 ∧ b < 0)) (by omega)]
  · rw [decide_eq_false hb, Bool.false_and, Bool.false_and]
/-- The image of a table. -/
def imgT (T : List (List Int)) (h n : Nat) : List Nat := imgP T h n h 0
theorem imgT_len (T : List (List Int)) (h n : Nat) : (imgT T h n).length = h := length_mk _ _ _
theorem imgT_vimg {T : List (List Int)} {h n : Nat} (h1 : 1 ≤ h) (h6 : h ≤ 6) (w1 : 1 ≤ n) (w6 : n ≤ 6) : VImg n (imgT T h n) := vimg_mk h1 h6 w1 w6
theorem imgT_cell {T : List (List Int)} {h n i j : Nat} (hi : i < h) (hj : j < n) : cell (imgT T h n) i j = decide (ent T i j = 1) := by
  unfold imgT imgP
  rw [cell_mk, decide_eq_true hi, decide_eq_true hj, decide_eq_true (p := i < h ∨ (i = h ∧ j < 0)) (.inl hi)]
  rfl
end Go.Proofs.YtbpjceffkchmbaaDoor
