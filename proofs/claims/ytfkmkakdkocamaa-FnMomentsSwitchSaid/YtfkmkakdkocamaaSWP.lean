/- Plain laws of switches: when an image has one; the image behind it; what it does to moments. No condition beyond those that the theorems name. -/
import Derived.Test.YtfkmkakdkocamaaMA
import Derived.Test.YtfkmkakdkocamaaK10
namespace Go.Proofs.Ytfkmkakdkocamaa
/-- Whether a switch's numbers are those of rows and columns. -/
def swIn (n : Nat) (ns : List Nat) (a b c d : Nat) : Bool := decide (a < b ∧ b < ns.length ∧ c < d ∧ d < n)
/-- Whether the cells of a switch are as they should. -/
def swC (ns : List Nat) (a b c d : Nat) : Bool := (cell ns b d == cell ns a c) && ((cell ns a d != cell ns a c) && (cell ns b c != cell ns a c))
def swB (n : Nat) (ns : List Nat) (a b c d : Nat) : Bool := swIn n ns a b c d && swC ns a b c d
/-- The image behind a switch. -/
def swL (ns : List Nat) (a b c d : Nat) : List Nat := putL (putL (putL (putL ns a c (!cell ns a c)) b d (!cell ns a c)) a d (cell ns a c)) b c (cell ns a c)
/-- A row changed at the places of a mask. -/
def xorL (ns : List Nat) (i m : Nat) : List Nat := ns.set i (ns.getD i 0 ^^^ m)
def mask2 (c d : Nat) : Nat := 2 ^ c ||| 2 ^ d
theorem mask2_bit (c d j : Nat) : (mask2 c d).testBit j = (decide (c = j) || decide (d = j)) := by
  unfold mask2
  rw [Nat.testBit_or, Nat.testBit_two_pow, Nat.testBit_two_pow]
theorem mask2_lt {c d n : Nat} (hc : c < n) (hd : d < n) : mask2 c d < 2 ^ n := by
  unfold mask2
  exact Nat.or_lt_two_pow (Nat.pow_lt_pow_right (by omega) hc) (Nat.pow_lt_pow_right (by omega) hd)
theorem length_xorL (ns : List Nat) (i m : Nat) : (xorL ns i m).length = ns.length := by simp [xorL]
theorem cell_xorL {ns : List Nat} {i : Nat} (hi : i < ns.length) (m a b : Nat) : cell (xorL ns i m) a b = if a = i then (cell ns a b ^^ m.testBit b) else cell ns a b := by
  unfold cell xorL
  by_cases e : a = i
  · subst e
    rw [if_pos rfl, List.getD_eq_getElem?_getD, List.getElem?_set_self hi, Option.getD_some, Nat.testBit_xor]
  · rw [if_neg e, List.getD_eq_getElem?_getD, List.getElem?_set_ne (fun h => e h.symm), List.getD_eq_getElem?_getD]
theorem xorL_lt {ns : List Nat} {n i m : Nat} (h : ∀ x ∈ ns, x < 2 ^ n) (hi : i < ns.length) (hm : m < 2 ^ n) : ∀ x ∈ xorL ns i m, x < 2 ^ n := by
  intro x hx
  rcases List.mem_or_eq_of_mem_set hx with h1 | h1
  · exact h x h1
  · rw [h1]
    refine Nat.xor_lt_two_pow ?_ hm
    rw [List.getD_eq_getElem?_getD, List.getElem?_eq_getElem hi]
    exact h _ (List.getElem_mem hi)
theorem length_swL (ns : List Nat) (a b c d : Nat) : (swL ns a b c d).length = ns.length := by simp [swL, length_putL]
section
variable {n a b c d : Nat} {ns : List Nat}
theorem swIn_iff : swIn n ns a b c d = true ↔ a < b ∧ b < ns.length ∧ c < d ∧ d < n := by simp [swIn]
theorem swC_iff : swC ns a b c d = true ↔ cell ns b d = cell ns a c ∧ cell ns a d = (!cell ns a c) ∧ cell ns b c = (!cell ns a c) := by
  unfold swC
  cases cell ns b d <;> cases cell ns a c <;> cases cell ns a d <;> cases cell ns b c <;> simp
theorem vimg_swL (hV : VImg n ns) (h : swIn n ns a b c d = true) : VImg n (swL ns a b c d) := by
  obtain ⟨h1, h2, h3, h4⟩ := swIn_iff.1 h
  have e1 := vimg_putL hV (i := a) (j := c) (by omega) (by omega) (!cell ns a c)
  have e2 := vimg_putL e1 (i := b) (j := d) (by rw [length_putL]; omega) h4 (!cell ns a c)
  have e3 := vimg_putL e2 (i := a) (j := d) (by rw [length_putL, length_putL]; omega) h4 (cell ns a c)
  exact vimg_putL e3 (i := b) (j := c) (by rw [length_putL, length_putL, length_putL]; omega) (by omega) (cell ns a c)
theorem cell_swL (h : swIn n ns a b c d = true) (x y : Nat) : cell (swL ns a b c d) x y = if (x = a ∨ x = b) ∧ (y = c ∨ y = d) then (if (x = a ∧ y = c) ∨ (x = b ∧ y = d) then !cell ns a c else cell ns a c) else cell ns x y := by
  obtain ⟨h1, h2, h3, h4⟩ := swIn_iff.1 h
  unfold swL
  rw [cell_putL (by rw [length_putL, length_putL, length_putL]; omega), cell_putL (by rw [length_putL, length_putL]; omega), cell_putL (by rw [length_putL]; omega), cell_putL (by omega)]
  by_cases x1 : x = a
  · subst x1
    have hab : ¬ x = b := by omega
    by_cases y1 : y = c
    · subst y1
      have hcd : ¬ y = d := by omega
      simp [hab, hcd]
    · by_cases y2 : y = d
      · subst y2; simp [hab, y1]
      · simp [y1, y2]
  · by_cases x2 : x = b
    · subst x2
      by_cases y1 : y = c
      · subst y1; simp [x1]; intro e; omega
      · by_cases y2 : y = d
        · subst y2; simp [x1, y1]
        · simp [y1, y2]
    · simp [x1, x2]
/-- The program's way: two rows changed by a mask. -/
theorem swX (hV : VImg n ns) (h : swB n ns a b c d = true) : xorL (xorL ns a (mask2 c d)) b (mask2 c d) = swL ns a b c d := by
  have hin : swIn n ns a b c d = true := by unfold swB at h; exact (Bool.and_eq_true_iff.1 h).1
  have hc : swC ns a b c d = true := by unfold swB at h; exact (Bool.and_eq_true_iff.1 h).2
  obtain ⟨h1, h2, h3, h4⟩ := swIn_iff.1 hin
  obtain ⟨c1, c2, c3⟩ := swC_iff.1 hc
  have hm := mask2_lt (c := c) (d := d) (n := n) (by omega) h4
  refine img_ext (w := n) (by rw [length_xorL, length_xorL, length_swL]) (xorL_lt (xorL_lt hV.hi (by omega) hm) (by rw [length_xorL]; exact h2) hm) (vimg_swL hV hin).hi fun x y hx hy => ?_
  rw [cell_swL hin, cell_xorL (by rw [length_xorL]; exact h2), cell_xorL (by omega), mask2_bit]
  by_cases x1 : x = a
  · subst x1
    have hab : ¬ x = b := by omega
    by_cases y1 : y = c
    · subst y1; simp [hab]
    · by_cases y2 : y = d
      · subst y2
        have hcd : ¬ c = y := by omega
        simp [hab, y1, c2]
      · have e1 : ¬ c = y := fun e => y1 e.symm
        have e2 : ¬ d = y := fun e => y2 e.symm
        simp [hab, y1, y2, e1, e2]
  · by_cases x2 : x = b
    · subst x2
      by_cases y1 : y = c
      · subst y1
        have hcd : ¬ y = d := by omega
        simp [x1, hcd, c3]
      · by_cases y2 : y = d
        · subst y2; simp [x1, y1, c1]
        · have e1 : ¬ c = y := fun e => y1 e.symm
          have e2 : ¬ d = y := fun e => y2 e.symm
          simp [x1, y1, y2, e1, e2]
    · simp [x1, x2]
/-- What a switch does to a moment. -/
theorem mom_put {w i j : Nat} {ms : List Nat} (hi : i < ms.length) (hj : j < w) (s : Bool) (f : Nat → Nat → Int) : mom w (putL ms i j s) f = mom w ms f + f i j * (b2i s - b2i (cell ms i j)) := by
  have key : ∀ (ms : List Nat), i < ms.length → cell ms i j = false → mom w (putL ms i j true) f = mom w ms f + f i j := fun ms hi hn => mom_set (length_putL ..) hi hj hn (fun x y hx hy => by
    rw [cell_putL hi]
    by_cases e : x = i ∧ y = j
    · rw [if_pos e]; simp [e.1, e.2]
    · rw [if_neg e]
      have : (decide (x = i) && decide (y = j)) = false := by simpa using fun h1 h2 => e ⟨h1, h2⟩
      rw [this, Bool.or_false]) f
  cases hc : cell ms i j with
  | false =>
    cases s with
    | false => rw [putL_same hi hc]; simp [b2i]
    | true => rw [key ms hi hc]; simp [b2i]
  | true =>
    cases s with
    | true => rw [putL_same hi hc]; simp [b2i]
    | false =>
      have h0 : cell (putL ms i j false) i j = false := by rw [cell_putL hi, if_pos ⟨rfl, rfl⟩]
      have h1 := key (putL ms i j false) (by rw [length_putL]; exact hi) h0
      have h2 : putL (putL ms i j false) i j true = ms := by
        unfold putL
        rw [List.set_set]
        have : (ms.set i (ms.getD i 0)) = ms := by
          rw [List.getD_eq_getElem?_getD, List.getElem?_eq_getElem hi, Option.getD_some, List.set_getElem_self]
        rw [show setBit ((ms.set i (setBit (ms.getD i 0) j false)).getD i 0) j true = ms.getD i 0 from ?_, this]
        rw [List.getD_eq_getElem?_getD, List.getElem?_set_self hi, Option.getD_some]
        unfold cell at hc
        apply Nat.eq_of_testBit_eq
        intro k
        rw [setBit_bit, setBit_bit]
        by_cases e : k = j
        · subst e; rw [if_pos rfl]; exact hc.symm
        · rw [if_neg e, if_neg e]
      rw [h2] at h1
      rw [h1]
      simp only [b2i, Bool.false_eq_true, if_false, if_true]
      omega
theorem mom_sw (h : swB n ns a b c d = true) (f : Nat → Nat → Int) : mom n (swL ns a b c d) f = mom n ns f + (if cell ns a c then -1 else 1) * (f a c - f a d - f b c + f b d) := by
  have hin : swIn n ns a b c d = true := by unfold swB at h; exact (Bool.and_eq_true_iff.1 h).1
  have hc : swC ns a b c d = true := by unfold swB at h; exact (Bool.and_eq_true_iff.1 h).2
  obtain ⟨h1, h2, h3, h4⟩ := swIn_iff.1 hin
  obtain ⟨c1, c2, c3⟩ := swC_iff.1 hc
  have hab : ¬ b = a := by omega
  have hab2 : ¬ a = b := by omega
  have hcd : ¬ d = c := by omega
  have hcd2 : ¬ c = d := by omega
  have k1 : ∀ s, cell (putL ns a c s) b d = cell ns b d := fun s => by rw [cell_putL (by omega), if_neg (fun h => hab h.1)]
  have k2 : ∀ s t, cell (putL (putL ns a c s) b d t) a d = cell ns a d := fun s t => by rw [cell_putL (by rw [length_putL]; exact h2), if_neg (fun h => hab2 h.1), cell_putL (by omega), if_neg (fun h => hcd h.2)]
  have k3 : ∀ s t u, cell (putL (putL (putL ns a c s) b d t) a d u) b c = cell ns b c := fun s t u => by rw [cell_putL (by rw [length_putL, length_putL]; omega), if_neg (fun h => hab h.1), cell_putL (by rw [length_putL]; exact h2), if_neg (fun h => hcd2 h.2), cell_putL (by omega), if_neg (fun h => hab h.1)]
  unfold swL
  rw [mom_put (by rw [length_putL, length_putL, length_putL]; omega) (by omega), k3, mom_put (by rw [length_putL, length_putL]; omega) h4, k2, mom_put (by rw [length_putL]; omega) h4, k1, mom_put (by omega) (by omega), c1, c2, c3]
  cases cell ns a c <;> simp [b2i] <;> omega
end
end Go.Proofs.Ytfkmkakdkocamaa
