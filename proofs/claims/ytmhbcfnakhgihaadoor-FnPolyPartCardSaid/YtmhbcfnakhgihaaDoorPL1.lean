/- Contracts of l1Cell, l31Get, l32Near, l32Touch of the reference. Conditions: the image is valid; the places lie near it. -/
import Derived.Test.YtmhbcfnakhgihaaDoorKT
import Derived.Test.YtmhbcfnakhgihaaDoorTW
import Derived.Test.YtmhbcfnakhgihaaDoorMA
namespace Go.Proofs.YtmhbcfnakhgihaaDoor
open Go.RowKit
/-- Whether there is such a cell, of a valid image. -/
def inC (n : Nat) (ns : List Nat) (i j : Int) : Bool := decide (0 ≤ i) && decide (i < ns.length) && decide (0 ≤ j) && decide (j < n)
theorem inC_no {n : Nat} {ns : List Nat} {i j : Int} (h : ¬ (0 ≤ i ∧ i < ns.length ∧ 0 ≤ j ∧ j < n)) : inC n ns i j = false := by
  simp [inC]; omega
theorem inC_yes {n : Nat} {ns : List Nat} {i j : Int} (h : 0 ≤ i ∧ i < ns.length ∧ 0 ≤ j ∧ j < n) : inC n ns i j = true := by
  simp [inC]; omega
set_option maxHeartbeats 1000000 in
theorem l1Cell_c (n : Nat) (v : Value) (ns : List Nat) (hV : VImg n ns) (i j : Int) (w : World) (hv : Ints w.heap.size w v (casts ns)) :
    Calls Tryd.prog 75 #[.agg #[.int .i64 (n : Int), v], .int .i64 i, .int .i64 j] w fun e w' => e = .returned (.bool (inC n ns i j)) ∧ Below w.heap.size w w' := by
  obtain ⟨A, cap, rfl⟩ := hv.len
  rw [length_casts]
  have h1 := hV.h1
  have h6 := hV.h6
  have w1 := hV.w1
  have w6 := hV.w6
  by_cases hi : 0 ≤ i ∧ i ≤ (ns.length : Int) - 1
  · by_cases hj : 0 ≤ j ∧ j ≤ (n : Int) - 1
    · go_enter Tryd.func75, Tryd.ntmps75
      go_wp2_with (go_at_call 58; (first | (with_reducible refine (l6In_yes i _ _ hi _).mono ?_) | (with_reducible refine (l6In_yes j _ _ hj _).mono ?_)); rintro e w' ⟨rfl, rfl⟩)
      go_returns
      exact ⟨rb (inC_yes (by omega)).symm, by go_grown⟩
    · go_enter Tryd.func75, Tryd.ntmps75
      go_wp2_with (go_at_call 58; (first | (with_reducible refine (l6In_yes i _ _ hi _).mono ?_) | (with_reducible refine (l6In_no j _ _ (by omega) _).mono ?_)); rintro e w' ⟨rfl, rfl⟩)
      go_returns
      exact ⟨rb (inC_no (by omega)).symm, by go_grown⟩
  · go_enter Tryd.func75, Tryd.ntmps75
    go_wp2_with (go_at_call 58; (with_reducible refine (l6In_no i _ _ (by omega) _).mono ?_); rintro e w' ⟨rfl, rfl⟩)
    go_returns
    exact ⟨rb (inC_no (by omega)).symm, by go_grown⟩
set_option maxHeartbeats 1000000 in
theorem l31Get_c (n : Nat) (v : Value) (ns : List Nat) (hV : VImg n ns) (i j : Int) (w : World) (hv : Ints w.heap.size w v (casts ns)) :
    Calls Tryd.prog 70 #[.agg #[.int .i64 (n : Int), v], .int .i64 i, .int .i64 j] w fun e w' => e = .returned (.int .i64 (b2i (cellZ ns i j))) ∧ Below w.heap.size w w' := by
  obtain ⟨A, cap, rfl⟩ := hv.len
  rw [length_casts] at hv ⊢
  have w6 := hV.w6
  obtain ⟨W0, eW⟩ : ∃ W0, W0 = w.alloc (.cells #[.int .i64 (n : Int), .slice A ns.length cap] 27) := ⟨_, rfl⟩
  have hB0 : Below w.heap.size w W0 := by rw [eW]; go_grown
  have hx := Box2.new w (.int .i64 (n : Int)) (.slice A ns.length cap) 27
  rw [← eW] at hx
  obtain ⟨_, x0, x1⟩ := hx
  replace hv := (hv.below hB0).more hB0.size
  go_enter Tryd.func70, Tryd.ntmps70
  go_wp2_with fail
  rw [← eW]
  clear eW
  refine (l1Cell_c n _ ns hV i j W0 hv).mono ?_
  rintro e wc ⟨rfl, hb⟩
  replace hB0 := hB0.trans (Below.mono hb hB0.size)
  replace hv := (hv.below hb).more (Below.size hb)
  replace x0 := cellB hb x0
  replace x1 := cellB hb x1
  by_cases hin : 0 ≤ i ∧ i < ns.length ∧ 0 ≤ j ∧ j < n
  · rw [inC_yes hin]
    obtain ⟨a, rfl⟩ := Int.eq_ofNat_of_zero_le hin.1
    obtain ⟨b, rfl⟩ := Int.eq_ofNat_of_zero_le hin.2.2.1
    have h64 := hV.get64 a
    go_wp2_with fail
    refine (l11Get_c n _ ns a b (by omega) (by omega) (by omega) _ hv).mono ?_
    rintro e w2 ⟨rfl, hb2⟩
    go_wp2
    go_returns
    exact ⟨ri (by simp [cellZ]), hB0.trans (hb2.mono hB0.size)⟩
  · rw [inC_no hin]
    have hz : cellZ ns i j = false := by
      rw [← Bool.not_eq_true]
      intro hc
      simp only [cellZ, Bool.and_eq_true, decide_eq_true_eq] at hc
      have := hV.cell_in hc.2
      omega
    go_wp2
    go_returns
    exact ⟨ri (by rw [hz]; rfl), hB0⟩
/-- Neighbors, or near if corners count; not one cell. -/
def nearZ (c : Bool) (i j k l : Int) : Bool := decide (i ≤ k + 1) && decide (k ≤ i + 1) && decide (j ≤ l + 1) && decide (l ≤ j + 1) && !(decide (i = k) && decide (j = l)) && (c || decide (i = k) || decide (j = l))
set_option maxHeartbeats 1000000 in
theorem l32Near_c (i j k l : Int) (c : Bool) (hi : -20 ≤ i ∧ i ≤ 20) (hj : -20 ≤ j ∧ j ≤ 20) (hk : -20 ≤ k ∧ k ≤ 20) (hl : -20 ≤ l ∧ l ≤ 20) (w : World) :
    Calls Tryd.prog 71 #[.int .i64 i, .int .i64 j, .int .i64 k, .int .i64 l, .bool c] w fun e w' => e = .returned (.bool (nearZ c i j k l)) ∧ w = w' := by
  obtain ⟨i1, i2⟩ := hi
  obtain ⟨j1, j2⟩ := hj
  obtain ⟨k1, k2⟩ := hk
  obtain ⟨l1, l2⟩ := hl
  cases c with
  | true =>
    go_enter Tryd.func71, Tryd.ntmps71
    go_wp2
    all_goals
      go_returns
      exact ⟨rb (by unfold nearZ; rw [Bool.eq_iff_iff]; simp; omega), rfl⟩
  | false =>
    go_enter Tryd.func71, Tryd.ntmps71
    go_wp2
    all_goals
      go_returns
      exact ⟨rb (by unfold nearZ; rw [Bool.eq_iff_iff]; simp; omega), rfl⟩
end Go.Proofs.YtmhbcfnakhgihaaDoor
