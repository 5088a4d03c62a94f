/- Contracts of sumOf and SumsExcess. Conditions: one to six numbers from 0 to 6. -/
import Derived.Test.YtldmilpohappiaaFG
namespace Go.Proofs.Ytldmilpohappiaa
open Go.RowKit
set_option maxHeartbeats 1000000 in
theorem sumOf_c (v : Value) (xs : List Int) (hx : Small xs) (w : World) (hv : Ints w.heap.size w v xs) :
    Calls Try.prog 15 #[v] w fun e w' => e = .returned (.int .i64 xs.sum) ∧ w = w' := by
  obtain ⟨A, cap, rfl⟩ := hv.len
  have h6 := hx.h6
  go_enter Try.func15, Try.ntmps15
  go_wp2
  go_loop [3, 4] (fun s i => ∃ k : Nat, k ≤ xs.length ∧ i = .int .i64 k ∧ s = .int .i64 (xs.take k).sum) (fun _ i => xs.length - (intOf i).toNat)
  case atStart => exact ⟨0, by omega, rfl, rfl⟩
  case round =>
    obtain ⟨k, hk, rfl, rfl⟩ := hrel
    have hbd := take_bd hx.bd k
    by_cases hlt : k < xs.length
    · obtain ⟨b, off, cap', e, hbl, hc⟩ := hv.row (by omega)
      injection e with e1 _ e3
      subst e1 e3
      have hst := take_sum hlt
      have hat := hx.at hlt
      have hcr := hc k hlt
      obtain ⟨r, er⟩ : ∃ r, r = xs.getD k 0 := ⟨_, rfl⟩
      rw [← er] at hst hat hcr
      obtain ⟨S, eS⟩ : ∃ S, S = (xs.take k).sum := ⟨_, rfl⟩
      rw [← eS] at hst hbd ⊢
      have HST := Lib.hid hst
      clear hst er eS hc hv
      go_wp2
      go_round
      case rel => exact ⟨k + 1, by omega, by go_num, by rw [HST.out]⟩
      case measure => simp [intOf]; omega
    · obtain rfl : k = xs.length := by omega
      go_wp2
      go_returns
      exact ⟨ri (by simp), rfl⟩
end Go.Proofs.Ytldmilpohappiaa
