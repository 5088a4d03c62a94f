/- Contracts of the functions that check sums: sumsInRange, SumsValid, l2Each, noneAbove, total, l3Sum. Conditions: the slices read as lists of integers, their lengths at most 2 to the power of 21. -/
import Derived.Test.YtmhbcfnakhgihaaDoorK3
import Derived.Test.YtmhbcfnakhgihaaDoorMA
namespace Go.Proofs.YtmhbcfnakhgihaaDoor
open Go.RowKit
/-- All numbers are in a range. -/
def inR (a b : Int) (xs : List Int) : Bool := xs.all fun x => decide (a ≤ x) && decide (x ≤ b)
def len6 (xs : List Int) : Bool := decide (1 ≤ xs.length) && decide (xs.length ≤ 6)
theorem inR_true {a b : Int} {xs : List Int} (h : ∀ j, j < xs.length → a ≤ xs.getD j 0 ∧ xs.getD j 0 ≤ b) : inR a b xs = true := by
  simp only [inR, List.all_eq_true, Bool.and_eq_true, decide_eq_true_eq]
  intro x hx
  obtain ⟨i, hi, rfl⟩ := List.getElem_of_mem hx
  have := h i hi
  rwa [List.getD_eq_getElem?_getD, List.getElem?_eq_getElem hi] at this
theorem inR_at {a b : Int} {xs : List Int} (h : inR a b xs = true) {j : Nat} (hj : j < xs.length) : a ≤ xs.getD j 0 ∧ xs.getD j 0 ≤ b := by
  simp only [inR, List.all_eq_true, Bool.and_eq_true, decide_eq_true_eq] at h
  have := h (xs.getD j 0) (by rw [List.getD_eq_getElem?_getD, List.getElem?_eq_getElem hj]; exact List.getElem_mem hj)
  exact this
theorem inR_mem {a b : Int} {xs : List Int} (h : inR a b xs = true) {x : Int} (hx : x ∈ xs) : a ≤ x ∧ x ≤ b := by
  simp only [inR, List.all_eq_true, Bool.and_eq_true, decide_eq_true_eq] at h
  exact h x hx
theorem inR_false {a b : Int} {xs : List Int} {k : Nat} (hk : k < xs.length) (h : xs.getD k 0 < a ∨ b < xs.getD k 0) : inR a b xs = false := by
  rw [← Bool.not_eq_true]
  intro hv
  have := inR_at hv hk
  omega
theorem len6_yes {xs : List Int} (h1 : 1 ≤ xs.length) (h6 : xs.length ≤ 6) : len6 xs = true := by simp [len6]; omega
theorem len6_no {xs : List Int} (h : ¬ (1 ≤ xs.length ∧ xs.length ≤ 6)) : len6 xs = false := by
  rw [← Bool.not_eq_true]
  intro hv
  simp only [len6, Bool.and_eq_true, decide_eq_true_eq] at hv
  exact h hv
/-- Whether lists can be row sums and column sums. -/
def svB (rs cs : List Int) : Bool := len6 rs && len6 cs && inR 0 cs.length rs && inR 0 rs.length cs
structure Sums (rs cs : List Int) : Prop where
  h1 : 1 ≤ rs.length
  h6 : rs.length ≤ 6
  w1 : 1 ≤ cs.length
  w6 : cs.length ≤ 6
  r : ∀ j, j < rs.length → 0 ≤ rs.getD j 0 ∧ rs.getD j 0 ≤ cs.length
  c : ∀ j, j < cs.length → 0 ≤ cs.getD j 0 ∧ cs.getD j 0 ≤ rs.length
theorem svB_yes {rs cs : List Int} (h : svB rs cs = true) : Sums rs cs := by
  simp only [svB, len6, Bool.and_eq_true, decide_eq_true_eq] at h
  obtain ⟨⟨⟨⟨h1, h2⟩, h3, h4⟩, h5⟩, h6⟩ := h
  exact ⟨h1, h2, h3, h4, fun j hj => inR_at h5 hj, fun j hj => inR_at h6 hj⟩
theorem svB_of {rs cs : List Int} (h : Sums rs cs) : svB rs cs = true := by
  simp only [svB, len6, Bool.and_eq_true, decide_eq_true_eq]
  exact ⟨⟨⟨⟨h.h1, h.h6⟩, h.w1, h.w6⟩, inR_true h.r⟩, inR_true h.c⟩
theorem Sums.turn {rs cs : List Int} (h : Sums rs cs) : Sums cs rs := ⟨h.w1, h.w6, h.h1, h.h6, h.c, h.r⟩
theorem getD_mem {xs : List Int} {x : Int} (hx : x ∈ xs) : ∃ j, j < xs.length ∧ x = xs.getD j 0 := by
  obtain ⟨i, hi, rfl⟩ := List.getElem_of_mem hx
  exact ⟨i, hi, by rw [List.getD_eq_getElem?_getD, List.getElem?_eq_getElem hi]; rfl⟩
theorem Sums.rm {rs cs : List Int} (h : Sums rs cs) : ∀ x ∈ rs, 0 ≤ x ∧ x ≤ cs.length := fun x hx => by
  obtain ⟨j, hj, rfl⟩ := getD_mem hx
  exact h.r j hj
theorem Sums.cm {rs cs : List Int} (h : Sums rs cs) : ∀ x ∈ cs, 0 ≤ x ∧ x ≤ rs.length := h.turn.rm
/-- No number of a list exceeds that of another one. -/
def naB (xs ys : List Int) : Bool := (List.range xs.length).all fun i => decide (xs.getD i 0 ≤ ys.getD i 0)
theorem naB_iff {xs ys : List Int} : naB xs ys = true ↔ ∀ i, i < xs.length → xs.getD i 0 ≤ ys.getD i 0 := by simp [naB]
theorem naB_no {xs ys : List Int} {k : Nat} (hk : k < xs.length) (h : ys.getD k 0 < xs.getD k 0) : naB xs ys = false := by
  rw [← Bool.not_eq_true, naB_iff]
  intro hv
  have := hv k hk
  omega
end Go.Proofs.YtmhbcfnakhgihaaDoor
