/- Plain laws of moments, no program in them. Conditions: those that each theorem names. -/
import Derived.Test.YtldmilpohappiaaPure
namespace Go.Proofs.Ytldmilpohappiaa

def turnL (w : Nat) (ns : List Nat) : List Nat := mkI w ns.length fun i j => cell ns j i
def mirL (w : Nat) (ns : List Nat) : List Nat := mkI ns.length w fun i j => cell ns i (w - 1 - j)

theorem mom_congr {w : Nat} {ns : List Nat} {f g : Nat → Nat → Int} (h : ∀ i j, i < ns.length → j < w → f i j = g i j) : mom w ns f = mom w ns g :=
  sumN_congr fun i hi => sumN_congr fun j hj => by rw [h i j hi hj]
theorem mom_add (w : Nat) (ns : List Nat) (f g : Nat → Nat → Int) : mom w ns (fun i j => f i j + g i j) = mom w ns f + mom w ns g := by
  unfold mom
  rw [← sumN_add]
  refine sumN_congr fun i _ => ?_
  rw [← sumN_add]
  exact sumN_congr fun j _ => Int.add_mul _ _ _
theorem mom_mul (w : Nat) (ns : List Nat) (c : Int) (f : Nat → Nat → Int) : mom w ns (fun i j => c * f i j) = c * mom w ns f := by
  unfold mom
  rw [← sumN_mul]
  refine sumN_congr fun i _ => ?_
  rw [← sumN_mul]
  exact sumN_congr fun j _ => Int.mul_assoc _ _ _
theorem mom_nonneg {w : Nat} {ns : List Nat} {f : Nat → Nat → Int} (h : ∀ i j, i < ns.length → j < w → 0 ≤ f i j) : 0 ≤ mom w ns f :=
  sumN_nonneg fun i hi => sumN_nonneg fun j hj => Int.mul_nonneg (h i j hi hj) (b2i_bd _).1
theorem mom_le {w : Nat} {ns : List Nat} {f g : Nat → Nat → Int} (h : ∀ i j, i < ns.length → j < w → f i j ≤ g i j) : mom w ns f ≤ mom w ns g :=
  sumN_le fun i hi => sumN_le fun j hj => Int.mul_le_mul_of_nonneg_right (h i j hi hj) (b2i_bd _).1

theorem mom_turn (w : Nat) (ns : List Nat) (f : Nat → Nat → Int) : mom ns.length (turnL w ns) f = mom w ns fun i j => f j i := by
  unfold mom turnL
  rw [length_mk, sumN_swap]
  refine sumN_congr fun i hi => sumN_congr fun j hj => ?_
  rw [cell_mk]
  simp [hi, hj]
theorem sumN_rev (n : Nat) (f : Nat → Int) : sumN n (fun k => f (n - 1 - k)) = sumN n f := by
  induction n generalizing f with
  | zero => rfl
  | succ n ih =>
    have shift : ∀ (m : Nat) (g : Nat → Int), sumN (m + 1) g = g 0 + sumN m fun k => g (k + 1) := by
      intro m g
      induction m with
      | zero => simp [sumN]
      | succ m ihm => rw [sumN, ihm]; simp only [sumN]; omega
    rw [shift]
    have e : sumN n (fun k => f (n + 1 - 1 - (k + 1))) = sumN n fun k => f (n - 1 - k) := sumN_congr fun k _ => by congr 1; omega
    rw [e, ih]
    simp only [sumN, Nat.add_sub_cancel, Nat.sub_zero]
    omega
theorem mom_mir (w : Nat) (ns : List Nat) (f : Nat → Nat → Int) : mom w (mirL w ns) f = mom w ns fun i j => f i (w - 1 - j) := by
  unfold mom mirL
  rw [length_mk]
  refine sumN_congr fun i hi => ?_
  rw [← sumN_rev w (fun j => f i (w - 1 - j) * b2i (cell ns i j))]
  refine sumN_congr fun j hj => ?_
  rw [cell_mk]
  have e : w - 1 - (w - 1 - j) = j := by omega
  simp [hi, hj, e]
theorem vimg_turn {w : Nat} {ns : List Nat} (h : VImg w ns) : VImg ns.length (turnL w ns) := vimg_mk h.w1 h.w6 h.h1 h.h6
theorem vimg_mir {w : Nat} {ns : List Nat} (h : VImg w ns) : VImg w (mirL w ns) := vimg_mk h.h1 h.h6 h.w1 h.w6

/-! ### Squares spread -/
theorem spread_step {q s n a : Int} (h1 : s * s ≤ q * n) (h2 : ∀ c : Int, 0 ≤ q - 2 * c * s + c * c * n) : (s + a) * (s + a) ≤ (q + a * a) * (n + 1) ∧ ∀ c : Int, 0 ≤ (q + a * a) - 2 * c * (s + a) + c * c * (n + 1) := by
  refine ⟨?_, fun c => ?_⟩
  · have := h2 a
    have e1 : (s + a) * (s + a) = s * s + 2 * a * s + a * a := by
      rw [Int.add_mul, Int.mul_add, Int.mul_add, Int.mul_comm s a, Int.mul_assoc 2]; omega
    have e2 : (q + a * a) * (n + 1) = q * n + q + a * a * n + a * a := by
      rw [Int.add_mul, Int.mul_add, Int.mul_add]; omega
    omega
  · have h3 := h2 c
    have e1 : 2 * c * (s + a) = 2 * c * s + 2 * (c * a) := by rw [Int.mul_add, Int.mul_assoc 2 c a]
    have e2 : c * c * (n + 1) = c * c * n + c * c := by rw [Int.mul_add]; omega
    have e3 : 0 ≤ (a - c) * (a - c) := by
      rcases Int.le_total 0 (a - c) with h | h
      · exact Int.mul_nonneg h h
      · have := Int.mul_nonneg (a := c - a) (b := c - a) (by omega) (by omega)
        have e : (c - a) * (c - a) = (a - c) * (a - c) := by rw [show c - a = -(a - c) from by omega, Int.neg_mul_neg]
        omega
    have e4 : (a - c) * (a - c) = a * a - 2 * (c * a) + c * c := by
      rw [Int.sub_mul, Int.mul_sub, Int.mul_sub, Int.mul_comm a c]; omega
    omega
def Spread (q s n : Int) : Prop := s * s ≤ q * n ∧ ∀ c : Int, 0 ≤ q - 2 * c * s + c * c * n
theorem Spread.bit {q s n : Int} (h : Spread q s n) (a : Int) (b : Bool) : Spread (q + a * a * b2i b) (s + a * b2i b) (n + 1 * b2i b) := by
  cases b with
  | false => simpa [b2i] using h
  | true => simpa [b2i, Spread] using spread_step (a := a) h.1 h.2
theorem spread_row (w : Nat) (p : Nat → Bool) (a : Nat → Int) {q s n : Int} (h : Spread q s n) : Spread (q + sumN w fun j => a j * a j * b2i (p j)) (s + sumN w fun j => a j * b2i (p j)) (n + sumN w fun j => 1 * b2i (p j)) := by
  induction w with
  | zero => simpa [sumN] using h
  | succ w ih =>
    simp only [sumN]
    have := ih.bit (a w) (p w)
    rw [← Int.add_assoc, ← Int.add_assoc, ← Int.add_assoc]
    exact this
theorem spread_mom (w : Nat) (ns : List Nat) (a : Nat → Nat → Int) : Spread (mom w ns fun i j => a i j * a i j) (mom w ns a) (many w ns) := by
  unfold many mom
  generalize ns.length = h
  induction h with
  | zero => simp [sumN, Spread]
  | succ h ih =>
    simp only [sumN]
    exact spread_row w (cell ns h) (a h) ih

/-! ### Moments are those of the sums -/
theorem rowSums_getD {w : Nat} {ns : List Nat} {i : Nat} (hi : i < ns.length) : (rowSums w ns).getD i 0 = sumN w fun j => b2i (cell ns i j) := by
  simp only [rowSums, List.getD_eq_getElem?_getD, List.getElem?_map, List.getElem?_eq_getElem hi, Option.map_some, Option.getD_some, pop, cell]
theorem colSums_getD {w : Nat} {ns : List Nat} {j : Nat} (hj : j < w) : (colSums w ns).getD j 0 = sumN ns.length fun i => b2i (cell ns i j) := by
  simp only [colSums, List.getD_eq_getElem?_getD, List.getElem?_map, List.getElem?_range hj, Option.map_some, Option.getD_some, colSum]
theorem mom_rows (w : Nat) (ns : List Nat) (f : Nat → Int) : mom w ns (fun i _ => f i) = sumN ns.length fun i => f i * (rowSums w ns).getD i 0 := by
  unfold mom
  refine sumN_congr fun i hi => ?_
  rw [rowSums_getD hi, sumN_mul]
theorem mom_cols (w : Nat) (ns : List Nat) (f : Nat → Int) : mom w ns (fun _ j => f j) = sumN w fun j => f j * (colSums w ns).getD j 0 := by
  unfold mom
  rw [sumN_swap]
  refine sumN_congr fun j hj => ?_
  rw [colSums_getD hj, sumN_mul]

/-! ### One more cell -/
theorem mom_set {w : Nat} {ns ms : List Nat} {i j : Nat} (hl : ms.length = ns.length) (hi : i < ns.length) (hj : j < w) (hn : cell ns i j = false) (hm : ∀ a b, a < ns.length → b < w → cell ms a b = (cell ns a b || (decide (a = i) && decide (b = j)))) (f : Nat → Nat → Int) :
    mom w ms f = mom w ns f + f i j := by
  unfold mom
  rw [hl]
  have e1 : ∀ a, a < ns.length → sumN w (fun b => f a b * b2i (cell ms a b)) = sumN w (fun b => f a b * b2i (cell ns a b)) + if a = i then f a j else 0 := by
    intro a ha
    have : ∀ b, b < w → f a b * b2i (cell ms a b) = f a b * b2i (cell ns a b) + if b = j then (if a = i then f a b else 0) else 0 := by
      intro b hb
      rw [hm a b ha hb]
      by_cases ea : a = i
      · subst ea
        by_cases eb : b = j
        · subst eb
          rw [hn]
          simp [b2i]
        · simp [eb]
      · simp [ea]
    rw [sumN_congr this, sumN_add, sumN_point (fun b => if a = i then f a b else 0) hj]
  rw [sumN_congr e1, sumN_add, sumN_point (fun a => f a j) hi]
end Go.Proofs.Ytldmilpohappiaa
