/- Contracts of the smallest functions: l6In, l1Power, l1Bit, l15Count, ones. Conditions: those that each theorem names. -/
import Derived.Test.YtbpjceffkchmbaaDoorChecked
import Derived.Test.YtbpjceffkchmbaaDoorBase
import Derived.Test.YtbpjceffkchmbaaDoorMA
namespace Go.Proofs.YtbpjceffkchmbaaDoor
open Go.RowKit
set_option maxHeartbeats 400000 in
theorem l6In_c (n a b : Int) (w : World) : Calls Tryd.prog 56 #[.int .i64 n, .int .i64 a, .int .i64 b] w fun e w' => e = .returned (.bool (decide (a ≤ n) && decide (n ≤ b))) ∧ w = w' := by
  go_enter Tryd.func56, Tryd.ntmps56
  go_wp2
  all_goals go_returns
  · have h : a ≤ n := by assumption
    exact ⟨by simp [h], rfl⟩
  · have h : n < a := by assumption
    exact ⟨by simp; omega, rfl⟩
theorem l6In_yes (n a b : Int) (h : a ≤ n ∧ n ≤ b) (w : World) : Calls Tryd.prog 56 #[.int .i64 n, .int .i64 a, .int .i64 b] w fun e w' => e = .returned (.bool true) ∧ w = w' :=
  (l6In_c n a b w).mono fun _ _ ⟨he, hw⟩ => ⟨he.trans (rb (by simpa using h)), hw⟩
theorem l6In_no (n a b : Int) (h : n < a ∨ b < n) (w : World) : Calls Tryd.prog 56 #[.int .i64 n, .int .i64 a, .int .i64 b] w fun e w' => e = .returned (.bool false) ∧ w = w' :=
  (l6In_c n a b w).mono fun _ _ ⟨he, hw⟩ => ⟨he.trans (rb (by simp; omega)), hw⟩
set_option maxHeartbeats 400000 in
theorem l1Power_c (n : Nat) (hn : n ≤ 62) (w : World) : Calls Tryd.prog 53 #[.int .i64 (n : Int)] w fun e w' => e = .returned (.int .i64 (pw n)) ∧ w = w' := by
  go_enter Tryd.func53, Tryd.ntmps53
  go_wp2
  go_loop [3, 4] (fun o i => ∃ k : Nat, k ≤ n ∧ i = .int .i64 k ∧ o = .int .i64 (pw k)) (fun _ i => n - (intOf i).toNat)
  case atStart => exact ⟨0, Nat.zero_le _, rfl, rfl⟩
  case round =>
    obtain ⟨k, hk, rfl, rfl⟩ := hrel
    have h1 := pw_pos k
    by_cases hlt : k < n
    · have h2 := pw_61 (k := k) (by omega)
      go_wp2
      go_round
      case rel => exact ⟨k + 1, by omega, by go_num, by rw [pw_succ]⟩
      case measure => simp [intOf]; omega
    · go_wp2
      go_returns
      exact ⟨by rw [show k = n from by omega]; rfl, rfl⟩
theorem bit_quot {r j : Nat} (hr : r < 4611686018427387904) : (wrap64 ((r : Int) / pw j)).tmod 2 = b2i (r.testBit j) := by
  have h1 : r / 2 ^ j ≤ r := Nat.div_le_self _ _
  have e : (r : Int) / pw j = ((r / 2 ^ j : Nat) : Int) := by unfold pw; rw [Int.natCast_ediv]
  rw [e, Nat.testBit_eq_decide_div_mod_eq]
  clear e
  generalize r / 2 ^ j = q at h1
  rw [IntWalk.wrap64_in _ ⟨by omega, by omega⟩]
  have e2 : ((q : Int)).tmod 2 = ((q % 2 : Nat) : Int) := by rw [Int.tmod_eq_emod_of_nonneg (by omega)]; omega
  rw [e2]
  have : q % 2 = 0 ∨ q % 2 = 1 := by omega
  rcases this with h | h <;> simp [h, b2i]
set_option maxHeartbeats 400000 in
theorem l1Bit_c (r j : Nat) (hr : r < 4611686018427387904) (hj : j ≤ 62) (w : World) : Calls Tryd.prog 59 #[.int .i64 (r : Int), .int .i64 (j : Int)] w fun e w' => e = .returned (.int .i64 (b2i (r.testBit j))) ∧ w = w' := by
  have h1 := pw_pos j
  go_enter Tryd.func59, Tryd.ntmps59
  go_wp2_with (go_at_call 53; refine (l1Power_c j hj _).mono ?_; rintro e w' ⟨rfl, rfl⟩)
  go_returns
  exact ⟨ri (bit_quot hr), rfl⟩
theorem pop_half (m : Nat) (h : m < 64) : pop 6 (m / 2) + ((m % 2 : Nat) : Int) = pop 6 m := by
  revert m
  decide +kernel
set_option maxHeartbeats 400000 in
theorem l15Count_c (r : Nat) (hr : r < 64) (w : World) : Calls Tryd.prog 90 #[.int .i64 (r : Int)] w fun e w' => e = .returned (.int .i64 (pop 6 r)) ∧ w = w' := by
  have hb := pop_bd 6 r
  go_enter Tryd.func90, Tryd.ntmps90
  go_wp2
  go_loop [0, 3] (fun i o => ∃ (m : Nat) (c : Int), m < 64 ∧ i = .int .i64 m ∧ o = .int .i64 c ∧ 0 ≤ c ∧ c + pop 6 m = pop 6 r) (fun i _ => (intOf i).toNat)
  case atStart => exact ⟨r, 0, hr, rfl, rfl, by omega, by omega⟩
  case round =>
    obtain ⟨m, c, hm, rfl, rfl, hc0, hc⟩ := hrel
    have h1 := pop_bd 6 m
    have h2 := pop_half m hm
    have HC := Lib.hid hc
    have H2 := Lib.hid h2
    have h3 : c ≤ 6 := by omega
    clear hc h2
    by_cases h0 : 0 < m
    · go_wp2
      go_round
      case rel => exact ⟨m / 2, c + ((m % 2 : Nat) : Int), by omega, by go_num, by go_num, by omega, by have := HC.out; have := H2.out; omega⟩
      case measure => simp [intOf]; omega
    · go_wp2
      go_returns
      refine ⟨ri ?_, rfl⟩
      obtain rfl : m = 0 := by omega
      have := HC.out
      have e : pop 6 0 = 0 := by decide
      show c = pop 6 r
      omega
set_option maxHeartbeats 400000 in
theorem OnesCount64_c (r : Nat) (hr : r < 64) (w : World) : Calls Tryd.prog 89 #[.int .u64 (r : Int)] w fun e w' => e = .returned (.int .i64 (pop 6 r)) ∧ w = w' := by
  go_enter Tryd.func89, Tryd.ntmps89
  go_wp2
  go_returns
  refine ⟨ri ?_, rfl⟩
  clear w
  show _ = pop 6 r
  revert r
  decide +kernel
end Go.Proofs.YtbpjceffkchmbaaDoor
