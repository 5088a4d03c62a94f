/- Contracts of sumOf and SumsExcess. Conditions: one to six numbers from 0 to 6. -/
import Derived.Test.YtodofomcoolbhaaFG
namespace Go.Proofs.Ytodofomcoolbhaa
open Go.RowKit
set_option maxHeartbeats 1000000 in
theorem sumOf_c (v : Value) (xs : List Int) (hx : Small xs) (w : World) (hv : Ints w.heap.size w v xs) :
    Calls Try.prog 40 #[v] w fun e w' => e = .returned (.int .i64 xs.sum) ∧ w = w' := by
  obtain ⟨A, cap, rfl⟩ := hv.len
  have h6 := hx.h6
  go_enter Try.func40, Try.ntmps40
  go_wp2
  go_loop [3, 4] (fun s i => ∃ k : Nat, k ≤ xs.length ∧ i = .int .i64 k ∧ s = .int .i64 (xs.take k).sum) (fun _ i => xs.length - (intOf i).toNat)
  case atStart => exact ⟨0, by omega, rfl, rfl⟩
  case round =>
    obtain ⟨k, hk, rfl, rfl⟩ := hrel
    have hbd := take_bd hx.bd k
    by_cases hlt : k < xs.length
    · obtain ⟨b, off, cap', e, hbl, hc⟩ := hv.row (by omega)
      injection e with e1 _ e3
      subst e1 e3
      have hst := take_sum hlt
      have hat := hx.at hlt
      have hcr := hc k hlt
      obtain ⟨r, er⟩ : ∃ r, r = xs.getD k 0 := ⟨_, rfl⟩
      rw [← er] at hst hat hcr
      obtain ⟨S, eS⟩ : ∃ S, S = (xs.take k).sum := ⟨_, rfl⟩
      rw [← eS] at hst hbd ⊢
      have HST := Lib.hid hst
      clear hst er eS hc hv
      go_wp2
      go_round
      case rel => exact ⟨k + 1, by omega, by go_num, by rw [HST.out]⟩
      case measure => simp [intOf]; omega
    · obtain rfl : k = xs.length := by omega
      go_wp2
      go_returns
      exact ⟨ri (by simp), rfl⟩
set_option maxHeartbeats 2000000 in
theorem SumsExcess_c (u v : Value) (rs cs : List Int) (hsv : svB rs cs = true) (w : World) (hu : Ints w.heap.size w u rs) (hv : Ints w.heap.size w v cs) :
    Calls Try.prog 41 #[u, v] w fun e w' => e = .returned (.int .i64 (rs.sum - fm rs cs)) ∧ Below w.heap.size w w' := by
  obtain ⟨A, cap, rfl⟩ := hu.len
  obtain ⟨B, cap1, rfl⟩ := hv.len
  have hS := svB_yes hsv
  have hr := hS.sr
  have hc := hS.sc
  have h1 := hS.h1
  have h6 := hS.h6
  have w6 := hS.w6
  have hJ := Arg.new hu
  have hK := Arg.new hv
  have hW := Below.refl w.heap.size w
  have HSV := SumsValid_c (.slice A rs.length cap) (.slice B cs.length cap1) rs cs (by omega) (by omega) w hu hv
  rw [hsv] at HSV
  have hz := cut_zero (rs := rs) (cs := cs) fun c h => (hc.bd c h).1
  have hsb := sum_bd hr
  obtain ⟨T, eT⟩ : ∃ T, T = rs.sum := ⟨_, rfl⟩
  rw [← eT] at hz hsb
  have HZ := Lib.hid hz
  have HET := Lib.hid eT
  clear hu hv hz eT hsv
  go_enter Try.func41, Try.ntmps41
  go_wp2_with fail
  refine HSV.mono ?_
  rintro e wc ⟨rfl, rfl⟩
  clear HSV
  go_wp2_with fail
  go_loopw [5, 14] (fun s q wr => ∃ k : Nat, k ≤ rs.length + 1 ∧ q = .int .i64 k ∧ s = .int .i64 (T - minTo (cutT rs cs) (k - 1)) ∧ Arg w.heap.size wr (.slice A rs.length cap) rs ∧ Arg w.heap.size wr (.slice B cs.length cap1) cs ∧ Below w.heap.size w wr) (fun _ q _ => rs.length + 1 - (intOf q).toNat)
  case atStart => exact ⟨0, by omega, rfl, by rw [show minTo (cutT rs cs) (0 - 1) = cutT rs cs 0 from rfl, HZ.out, Int.sub_self], hJ, hK, hW⟩
  case round =>
    clear hJ hK hW
    obtain ⟨k, hk, rfl, rfl, hJ, hK, hW⟩ := hrel
    by_cases hlt : k < rs.length + 1
    · have hst := minTo_step (cutT rs cs) k
      have hcb := cut_bd hr hc k
      have hmb := minTo_bd hr hc (k - 1)
      have hcut : cutT rs cs k = T - (top rs k - minS k cs) := by unfold cutT; rw [HET.out]; omega
      have HX := fun w h1 h2 => excess_c (.slice A rs.length cap) (.slice B cs.length cap1) rs cs hr hc k (by omega) w h1 h2
      obtain ⟨X, eX⟩ : ∃ X, X = top rs k - minS k cs := ⟨_, rfl⟩
      rw [← eX] at hcut
      simp only [← eX] at HX
      obtain ⟨C, eC⟩ : ∃ C, C = cutT rs cs k := ⟨_, rfl⟩
      rw [← eC] at hst hcb hcut
      obtain ⟨M, eM⟩ : ∃ M, M = minTo (cutT rs cs) (k - 1) := ⟨_, rfl⟩
      rw [← eM] at hst hmb ⊢
      have em : (if X > T - M then X else T - M) = T - min M C := by split <;> omega
      have em2 : (if T - M > X then T - M else X) = T - min M C := by split <;> omega
      have em3 : (if T - M < X then X else T - M) = T - min M C := by split <;> omega
      have hX : -72 ≤ X ∧ X ≤ 72 := by omega
      have HST := Lib.hid hst
      have HCUT := Lib.hid hcut
      clear hst hcut eX eC eM
      go_wp2_with fail
      refine (HX _ hJ.ints hK.ints).mono ?_
      rintro e wc ⟨rfl, hb⟩
      replace hJ := hJ.below hb
      replace hK := hK.below hb
      replace hW := hW.trans (Below.mono hb hW.size)
      go_wp2
      go_roundw
      case rel => exact ⟨k + 1, by omega, by go_num, by rw [Nat.add_sub_cancel, ← HST.out]; simp only [Value.int.injEq, true_and]; have := HCUT.out; omega, hJ, hK, hW⟩
      case measure => simp [intOf]; omega
    · obtain rfl : k = rs.length + 1 := by omega
      go_wp2
      go_returns
      exact ⟨ri (by rw [HET.out]; rfl), hW⟩
end Go.Proofs.Ytodofomcoolbhaa
