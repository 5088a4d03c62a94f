/- Plain laws: the sides of a convex image of one part are twice its rows and columns with cells, and these lie side by side. No condition beyond those that the theorems name. -/
import Derived.Test.YtinjidejhmahmaaDoorCP1
import Derived.Test.YtinjidejhmahmaaDoorMX
namespace Go.Proofs.YtinjidejhmahmaaDoor
open Gr
/-- The sides of a cell at which there is no set cell. -/
def edT (S : Nat → Nat → Bool) (c : Nat × Nat) : Int := b2i (S c.1 c.2) * ((1 - b2i (decide (0 < c.1) && S (c.1 - 1) c.2)) + (1 - b2i (decide (0 < c.2) && S c.1 (c.2 - 1))) + (1 - b2i (S c.1 (c.2 + 1))) + (1 - b2i (S (c.1 + 1) c.2)))
/-- All sides. -/
def edgN (n : Nat) (ns : List Nat) : Int := ((cellsL ns.length n).map (edT (cell ns))).sum
/-- The sides of a line. -/
def lineE (p : Nat → Bool) (m : Nat) : Int := sumN m fun j => b2i (p j) * ((1 - b2i (decide (0 < j) && p (j - 1))) + (1 - b2i (p (j + 1))))
theorem lineE_row : ∀ r, r < 64 → lineE r.testBit 6 = 2 * (runsC r : Nat) := by decide +kernel
theorem sumN_more {f : Nat → Int} {n : Nat} (h : ∀ k, n ≤ k → f k = 0) : ∀ d, sumN (n + d) f = sumN n f
  | 0 => rfl
  | d + 1 => by rw [← Nat.add_assoc, sumN, sumN_more h d, h (n + d) (by omega)]; omega
theorem lineE_cut {p : Nat → Bool} {n : Nat} (hn : n ≤ 6) (h : ∀ k, n ≤ k → p k = false) : lineE p n = lineE p 6 := by
  unfold lineE
  have := sumN_more (f := fun j => b2i (p j) * ((1 - b2i (decide (0 < j) && p (j - 1))) + (1 - b2i (p (j + 1))))) (n := n) (fun k hk => by rw [h k hk]; simp [b2i]) (6 - n)
  rw [show n + (6 - n) = 6 by omega] at this
  exact this.symm
section
variable {n : Nat} {ns : List Nat}
theorem edg_rows (hV : VImg n ns) {i : Nat} : lineE (fun j => cell ns i j) n = 2 * (runsC (ns.getD i 0) : Nat) := by
  rw [lineE_cut hV.w6 fun k hk => ?_]
  · exact lineE_row _ (hV.get64 i)
  · cases h : cell ns i k with
    | false => rfl
    | true => have := (hV.cell_in h).2; omega
theorem edg_cols (hV : VImg n ns) {j : Nat} : lineE (fun i => cell ns i j) ns.length = 2 * (runsC ((turnL n ns).getD j 0) : Nat) := by
  have h := edg_rows (vimg_turn hV) (i := j)
  rw [← h]
  unfold lineE
  exact sumN_congr fun k _ => by simp only [cell_turnL hV]
theorem edgN_eq (hV : VImg n ns) : edgN n ns = (sumN ns.length fun i => 2 * (runsC (ns.getD i 0) : Int)) + sumN n fun j => 2 * (runsC ((turnL n ns).getD j 0) : Int) := by
  unfold edgN
  rw [sum_cells ns.length n fun i j => edT (cell ns) (i, j)]
  have e1 : (sumN ns.length fun i => sumN n fun j => edT (cell ns) (i, j)) = (sumN ns.length fun i => lineE (fun j => cell ns i j) n) + sumN ns.length fun i => sumN n fun j => b2i (cell ns i j) * ((1 - b2i (decide (0 < i) && cell ns (i - 1) j)) + (1 - b2i (cell ns (i + 1) j))) := by
    rw [← sumN_add]
    refine sumN_congr fun i _ => ?_
    unfold lineE
    rw [← sumN_add]
    refine sumN_congr fun j _ => ?_
    unfold edT
    dsimp only
    rw [← Int.mul_add]
    congr 1
    omega
  rw [e1, sumN_swap]
  congr 1
  · exact sumN_congr fun i _ => edg_rows hV
  · exact sumN_congr fun j _ => edg_cols hV
/-- Whether a row, a column has cells. -/
theorem runs_some : ∀ r, r < 64 → (runsC r = 0 ↔ r = 0) := by decide +kernel
theorem cvx_col (hV : VImg n ns) (h : cvxB n ns = true) {j : Nat} (hj : j < n) : runsC ((turnL n ns).getD j 0) ≤ 1 := by
  have hl : (turnL n ns).length = n := len_turnL
  exact oneRun_mem h (List.mem_append.2 (.inr (by rw [List.getD_eq_getElem?_getD, List.getElem?_eq_getElem (by omega)]; exact List.getElem_mem _)))
theorem pop_zero : ∀ r, r < 64 → (pop 6 r = 0 ↔ r = 0) := by decide +kernel
theorem row_sum_zero (hV : VImg n ns) {i : Nat} (hi : i < ns.length) : (rowSums n ns).getD i 0 = 0 ↔ ns.getD i 0 = 0 := by
  have e : (rowSums n ns).getD i 0 = pop n (ns.getD i 0) := by
    simp only [rowSums, List.getD_eq_getElem?_getD, List.getElem?_map, List.getElem?_eq_getElem hi, Option.map_some, Option.getD_some]
  rw [e, ← pop_more (hV.get i) hV.w6, pop_zero _ (hV.get64 i)]
/-- How many of a list are positive, so far. -/
def posN (xs : List Int) (k : Nat) : Nat := ((List.range k).filter fun i => decide (0 < xs.getD i 0)).length
theorem posN_succ (xs : List Int) (k : Nat) : posN xs (k + 1) = posN xs k + if 0 < xs.getD k 0 then 1 else 0 := by
  unfold posN
  rw [List.range_succ, List.filter_append, List.length_append]
  congr 1
  simp only [List.filter_cons, List.filter_nil, decide_eq_true_eq]
  split <;> rfl
theorem sum_pos (xs : List Int) (f : Nat → Int) (m : Nat) (h : ∀ i, i < m → f i = if 0 < xs.getD i 0 then 2 else 0) : sumN m f = 2 * (posN xs m : Nat) := by
  induction m with
  | zero => rfl
  | succ m ih =>
    rw [sumN, ih fun i hi => h i (by omega), h m (by omega), posN_succ]
    split <;> push_cast <;> omega
/-- The sides of a convex image. -/
theorem edg_cvx (hV : VImg n ns) (h : cvxB n ns = true) : edgN n ns = 2 * ((posN (rowSums n ns) ns.length : Nat) + (posN (colSums n ns) n : Nat) : Int) := by
  rw [edgN_eq hV]
  have e1 := sum_pos (rowSums n ns) (fun i => 2 * (runsC (ns.getD i 0) : Int)) ns.length fun i hi => by
    have g1 := cvx_row h hi
    have g2 := runs_some _ (hV.get64 i)
    have g3 := row_sum_zero hV hi
    have g4 : 0 ≤ (rowSums n ns).getD i 0 := by
      have e : (rowSums n ns).getD i 0 = pop n (ns.getD i 0) := by
        simp only [rowSums, List.getD_eq_getElem?_getD, List.getElem?_map, List.getElem?_eq_getElem hi, Option.map_some, Option.getD_some]
      rw [e]
      exact (pop_bd _ _).1
    split
    · rename_i hp
      have : runsC (ns.getD i 0) ≠ 0 := fun e => by have := g3.2 (g2.1 e); omega
      omega
    · rename_i hp
      have : runsC (ns.getD i 0) = 0 := g2.2 (g3.1 (by omega))
      omega
  have e2 := sum_pos (colSums n ns) (fun j => 2 * (runsC ((turnL n ns).getD j 0) : Int)) n fun j hj => by
    have g1 := cvx_col hV h hj
    have g2 := runs_some _ ((vimg_turn hV).get64 j)
    have g3 := row_sum_zero (vimg_turn hV) (i := j) (by rw [len_turnL]; exact hj)
    have e : (rowSums ns.length (turnL n ns)).getD j 0 = (colSums n ns).getD j 0 := by
      have e1 : (rowSums ns.length (turnL n ns)).getD j 0 = pop ns.length ((turnL n ns).getD j 0) := by
        have : j < (turnL n ns).length := by rw [len_turnL]; exact hj
        simp only [rowSums, List.getD_eq_getElem?_getD, List.getElem?_map, List.getElem?_eq_getElem this, Option.map_some, Option.getD_some]
      rw [e1, colSums_getD hj]
      exact sumN_congr fun i _ => by
        have := cell_turnL hV j i
        unfold cell at this
        rw [this]
        rfl
    rw [e] at g3
    have g4 : 0 ≤ (colSums n ns).getD j 0 := by rw [colSums_getD hj]; exact sumN_nonneg fun i _ => (b2i_bd _).1
    split
    · rename_i hp
      have : runsC ((turnL n ns).getD j 0) ≠ 0 := fun e => by have := g3.2 (g2.1 e); omega
      omega
    · rename_i hp
      have : runsC ((turnL n ns).getD j 0) = 0 := g2.2 (g3.1 (by omega))
      omega
  rw [e1, e2]
  omega
/-- A way within an image passes each row between its ends. -/
theorem reach_row {a b : Nat} : ∀ {k l : Nat}, Gr.Reach (cell ns) false a b k l → cell ns a b = true → ∀ i, a ≤ i → i ≤ k → ∃ j, cell ns i j = true
  | _, _, .refl, hc, i, h1, h2 => ⟨b, by rw [show i = a by omega]; exact hc⟩
  | _, _, .step (k := k) (l := l) (m := m) (n := n') h ad t, hc, i, h1, h2 => by
    by_cases e : i ≤ k
    · exact reach_row h hc i h1 e
    · have : m ≤ k + 1 := by obtain ⟨h1, h2, _⟩ := ad; omega
      exact ⟨n', by rw [show i = m by omega]; exact t⟩
theorem reach_col {a b : Nat} : ∀ {k l : Nat}, Gr.Reach (cell ns) false a b k l → cell ns a b = true → ∀ j, b ≤ j → j ≤ l → ∃ i, cell ns i j = true
  | _, _, .refl, hc, j, h1, h2 => ⟨a, by rw [show j = b by omega]; exact hc⟩
  | _, _, .step (k := k) (l := l) (m := m) (n := n') h ad t, hc, j, h1, h2 => by
    by_cases e : j ≤ l
    · exact reach_col h hc j h1 e
    · have : n' ≤ l + 1 := by obtain ⟨_, _, h3, h4, _⟩ := ad; omega
      exact ⟨m, by rw [show j = n' by omega]; exact t⟩
/-- Where there is one part, any two set cells are joined. -/
theorem one_join (hV : VImg n ns) (h1 : partsN n ns = 1) {a b c d : Nat} (h2 : cell ns a b = true) (h3 : cell ns c d = true) : Gr.Reach (cell ns) false a b c d := by
  have hS := (sized_img hV).inside
  have := one_comp hV h1 h2
  refine (cell_comp (near := false) hS (c := (a, b)) h2).1 ?_
  rw [this]
  exact h3
end
/-- Numbers that are positive side by side make one group. -/
theorem group_one {xs : List Int} {m : Nat} (hm : m ≤ 6) (hc : ∀ a i b, a < i → i < b → b < m → 0 < xs.getD a 0 → 0 < xs.getD b 0 → 0 < xs.getD i 0) (hs : ∃ a, a < m ∧ 0 < xs.getD a 0) : runsB (fun i => decide (0 < xs.getD i 0)) m = 1 := by
  obtain ⟨r, er⟩ : ∃ r, r = rowOf (fun i => decide (i < m) && decide (0 < xs.getD i 0)) 6 := ⟨_, rfl⟩
  have hr : r < 64 := by rw [er]; exact rowOf_lt _ 6
  have hb : ∀ j, r.testBit j = (decide (j < m) && decide (0 < xs.getD j 0)) := fun j => by
    rw [er, rowOf_bit]
    by_cases h : j < m
    · simp [h, show j < 6 by omega]
    · simp [h]
  have h1 : runsC r ≤ 1 := runs_of_ok r hr fun a _ j _ b _ haj hjb ha hb' => by
    rw [hb] at *
    simp only [Bool.and_eq_true, decide_eq_true_eq] at *
    exact ⟨by omega, hc a j b haj hjb hb'.1 ha.2 hb'.2⟩
  have h2 : runsC r ≠ 0 := fun e => by
    have := (runs_some r hr).1 e
    obtain ⟨a, ha, hp⟩ := hs
    have hba := hb a
    rw [this, show decide (a < m) = true by simpa using ha, show decide (0 < xs.getD a 0) = true by simpa using hp] at hba
    simp at hba
  have h3 : runsB (fun i => decide (0 < xs.getD i 0)) m = runsB r.testBit 6 := by
    have e : ∀ d, runsB r.testBit (m + d) = runsB (fun i => decide (0 < xs.getD i 0)) m := by
      intro d
      induction d with
      | zero =>
        unfold runsB
        congr 1
        refine List.filter_congr fun k hk => ?_
        have hk := List.mem_range.1 hk
        rw [Nat.add_zero] at hk
        simp only [hb]
        have : decide (k - 1 < m) = true := by simpa using (by omega : k - 1 < m)
        simp [hk, this]
      | succ d ih =>
        have hz : r.testBit (m + d) = false := by rw [hb, show decide (m + d < m) = false by simp]; rfl
        rw [← Nat.add_assoc, runsB_succ, ih, hz]
        simp
    have := e (6 - m)
    rw [show m + (6 - m) = 6 by omega] at this
    exact this.symm
  rw [h3]
  have : runsB r.testBit 6 = runsC r := rfl
  omega
end Go.Proofs.YtinjidejhmahmaaDoor
