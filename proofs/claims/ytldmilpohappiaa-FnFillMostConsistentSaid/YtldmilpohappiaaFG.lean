/- Contracts of FillMost, the program's and the reference's. Conditions: the slices read as lists of integers, their lengths at most 2 to the power of 21. -/
import Derived.Test.YtldmilpohappiaaFF
namespace Go.Proofs.Ytldmilpohappiaa
open Go.RowKit
/-- What FillMost returns. -/
def fmO (rs cs : List Int) : Int := if svB rs cs = true then fm rs cs else -1
theorem fmO_yes {rs cs : List Int} (h : svB rs cs = true) : fmO rs cs = fm rs cs := by unfold fmO; rw [if_pos h]
theorem fmO_no {rs cs : List Int} (h : svB rs cs = false) : fmO rs cs = -1 := by unfold fmO; rw [h]; rfl
theorem cut_bd {rs cs : List Int} (hr : Small rs) (hc : Small cs) (t : Nat) : 0 ≤ cutT rs cs t ∧ cutT rs cs t ≤ 72 := by
  have h1 := top_le (fun x hx => (hr.bd x hx).1) t
  have h2 := top_nonneg (fun x hx => (hr.bd x hx).1) t
  have h3 := minS_bd (t := t) hc.bd cs.length
  have h4 := take_bd hr.bd rs.length
  rw [List.take_of_length_le (Nat.le_refl _)] at h3 h4
  have := hr.h6
  have := hc.h6
  unfold cutT
  omega
theorem minTo_bd {rs cs : List Int} (hr : Small rs) (hc : Small cs) (k : Nat) : 0 ≤ minTo (cutT rs cs) k ∧ minTo (cutT rs cs) k ≤ 72 := by
  obtain ⟨t, _, e⟩ := minTo_ex (cutT rs cs) k
  rw [e]
  exact cut_bd hr hc t
theorem sum_bd {rs : List Int} (hr : Small rs) : 0 ≤ rs.sum ∧ rs.sum ≤ 36 := by
  have h4 := take_bd hr.bd rs.length
  rw [List.take_of_length_le (Nat.le_refl _)] at h4
  have := hr.h6
  omega
set_option maxHeartbeats 2000000 in
theorem FillMost_c (u v : Value) (rs cs : List Int) (hr : rs.length ≤ 2097152) (hc : cs.length ≤ 2097152) (w : World) (hu : Ints w.heap.size w u rs) (hv : Ints w.heap.size w v cs) :
    Calls Try.prog 12 #[u, v] w fun e w' => e = .returned (.int .i64 (fmO rs cs)) ∧ Below w.heap.size w w' := by
  obtain ⟨A, cap, rfl⟩ := hu.len
  obtain ⟨B, cap1, rfl⟩ := hv.len
  have hJ := Arg.new hu
  have hK := Arg.new hv
  have hW := Below.refl w.heap.size w
  clear hu hv
  go_enter Try.func12, Try.ntmps12
  go_wp2_with fail
  refine (SumsValid_c _ _ rs cs hr hc _ hJ.ints hK.ints).mono ?_
  rintro e wc ⟨rfl, rfl⟩
  cases hs : svB rs cs with
  | false =>
    have HF := Lib.hid (fmO_no hs)
    clear hs
    go_wp2
    go_returns
    exact ⟨ri HF.out.symm, hW⟩
  | true =>
    have HF := Lib.hid (fmO_yes hs)
    have hS := svB_yes hs
    have hr := hS.sr
    have hc := hS.sc
    have h1 := hS.h1
    have h6 := hS.h6
    have hz := cut_zero (rs := rs) (cs := cs) fun c h => (hc.bd c h).1
    have hsb := sum_bd hr
    have HT := fun w h => total_c (.slice A rs.length cap) rs h6 hr.bd w h
    obtain ⟨T, eT⟩ : ∃ T, T = rs.sum := ⟨_, rfl⟩
    rw [← eT] at hz hsb
    simp only [← eT] at HT
    have HZ := Lib.hid hz
    have HET := Lib.hid eT
    clear hs hz eT
    go_wp2_with fail
    refine (HT _ hJ.ints).mono ?_
    rintro e wc ⟨rfl, rfl⟩
    go_wp2_with fail
    go_loopw [5, 16] (fun s q wr => ∃ k : Nat, k ≤ rs.length + 1 ∧ q = .int .i64 k ∧ s = .int .i64 (minTo (cutT rs cs) (k - 1)) ∧ Arg w.heap.size wr (.slice A rs.length cap) rs ∧ Arg w.heap.size wr (.slice B cs.length cap1) cs ∧ Below w.heap.size w wr) (fun _ q _ => rs.length + 1 - (intOf q).toNat)
    case atStart => exact ⟨0, by omega, rfl, by rw [show minTo (cutT rs cs) (0 - 1) = cutT rs cs 0 from rfl, HZ.out], hJ, hK, hW⟩
    case round =>
      clear hJ hK hW
      obtain ⟨k, hk, rfl, rfl, hJ, hK, hW⟩ := hrel
      by_cases hlt : k < rs.length + 1
      · have hst := minTo_step (cutT rs cs) k
        have hcb := cut_bd hr hc k
        have hmb := minTo_bd hr hc (k - 1)
        have hcut : cutT rs cs k = T - (top rs k - minS k cs) := by unfold cutT; rw [HET.out]; omega
        have HX := fun w h1 h2 => excess_c (.slice A rs.length cap) (.slice B cs.length cap1) rs cs hr hc k (by omega) w h1 h2
        obtain ⟨X, eX⟩ : ∃ X, X = top rs k - minS k cs := ⟨_, rfl⟩
        rw [← eX] at hcut
        simp only [← eX] at HX
        obtain ⟨C, eC⟩ : ∃ C, C = cutT rs cs k := ⟨_, rfl⟩
        rw [← eC] at hst hcb hcut
        obtain ⟨M, eM⟩ : ∃ M, M = minTo (cutT rs cs) (k - 1) := ⟨_, rfl⟩
        rw [← eM] at hst hmb ⊢
        have em : (if T - X < M then T - X else M) = min M C := by split <;> omega
        have em2 : (if M < T - X then M else T - X) = min M C := by split <;> omega
        have hX : -72 ≤ X ∧ X ≤ 72 := by omega
        have HST := Lib.hid hst
        have HCUT := Lib.hid hcut
        clear hst hcut eX eC eM
        go_wp2_with fail
        refine (HT _ hJ.ints).mono ?_
        rintro e wc ⟨rfl, rfl⟩
        go_wp2_with fail
        refine (HX _ hJ.ints hK.ints).mono ?_
        rintro e wc ⟨rfl, hb⟩
        replace hJ := hJ.below hb
        replace hK := hK.below hb
        replace hW := hW.trans (Below.mono hb hW.size)
        go_wp2
        go_roundw
        case rel => exact ⟨k + 1, by omega, by go_num, by rw [Nat.add_sub_cancel, ← HST.out, HCUT.out], hJ, hK, hW⟩
        case measure => simp [intOf]; omega
      · obtain rfl : k = rs.length + 1 := by omega
        go_wp2
        go_returns
        exact ⟨ri (by rw [HF.out]; rfl), hW⟩
set_option maxHeartbeats 2000000 in
theorem sFillMost_c (u v : Value) (rs cs : List Int) (hr : rs.length ≤ 2097152) (hc : cs.length ≤ 2097152) (w : World) (hu : Ints w.heap.size w u rs) (hv : Ints w.heap.size w v cs) :
    Calls Try.prog 14 #[u, v] w fun e w' => e = .returned (.int .i64 (fmO rs cs)) ∧ Below w.heap.size w w' := by
  obtain ⟨A, cap, rfl⟩ := hu.len
  obtain ⟨B, cap1, rfl⟩ := hv.len
  have hK := Arg.new hv
  have hW := Below.refl w.heap.size w
  go_enter Try.func14, Try.ntmps14
  go_wp2_with fail
  refine (sSumsValid_c _ _ rs cs hr hc _ hu hK.ints).mono ?_
  rintro e wc ⟨rfl, rfl⟩
  cases hs : svB rs cs with
  | false =>
    have HF := Lib.hid (fmO_no hs)
    clear hs
    go_wp2
    go_returns
    exact ⟨ri HF.out.symm, hW⟩
  | true =>
    have HF := Lib.hid (fmO_yes hs)
    have hS := svB_yes hs
    have hr := hS.sr
    have hc := hS.sc
    have h1 := hS.h1
    have h6 := hS.h6
    have g1 := hS.w1
    have g6 := hS.w6
    have hz := cut_zero (rs := rs) (cs := cs) fun c h => (hc.bd c h).1
    have hsb := sum_bd hr
    have hD := desc_byVal hr.bd
    clear hs
    go_wp2_with fail
    refine (sPartOf_c _ rs hr _ hu).mono ?_
    rintro e wc ⟨vy, rfl, hoy, hb⟩
    replace hK := hK.below hb
    replace hW := hW.trans (Below.mono hb hW.size)
    obtain ⟨ys, ey⟩ : ∃ ys, ys = byVal rs (downs 7) := ⟨_, rfl⟩
    rw [← ey] at hoy hD
    have hY := hoy.ints
    obtain ⟨Ay, cy, rfl⟩ := hY.len
    have hyl := hD.len
    have hyb := hD.bd hr.bd
    have htop := fun t => hD.top hr.bd t
    have hsum := hD.sum
    have HL := fun t (ht : t ≤ 1000) => l3Sum_c (.slice Ay ys.length cy) ys t (by omega) ht hyb wc hY
    have hta := htop ys.length
    rw [List.take_of_length_le (Nat.le_refl _), hsum] at hta
    simp only [htop] at HL
    have HL0 := HL ys.length (by omega)
    rw [← hta] at HL0
    rw [hyl] at HL0 HL ⊢
    obtain ⟨T, eT⟩ : ∃ T, T = rs.sum := ⟨_, rfl⟩
    rw [← eT] at hz hsb HL0
    have HZ := Lib.hid hz
    have HET := Lib.hid eT
    have HLH := Lib.hid HL
    have HL0H := Lib.hid HL0
    clear hz eT ey hoy hY htop hsum hta HL HL0 hyb hD hu
    go_wp2_with fail
    refine HL0H.out.mono ?_
    rintro e wc ⟨rfl, rfl⟩
    have hIn := hK.ints
    obtain ⟨b, off, cap', e, hbl, hcc⟩ := hIn.row (by omega)
    injection e with e1 _ e3
    subst e1 e3
    have HC := Lib.hid hcc
    clear hcc hIn hK hyl
    go_wp2_with fail
    go_loop [7, 8] (fun s q => ∃ k : Nat, k ≤ rs.length + 1 ∧ q = .int .i64 k ∧ s = .int .i64 (minTo (cutT rs cs) (k - 1))) (fun _ q => rs.length + 1 - (intOf q).toNat)
    case atStart => exact ⟨0, by omega, rfl, by rw [show minTo (cutT rs cs) (0 - 1) = cutT rs cs 0 from rfl, HZ.out]⟩
    case round =>
      obtain ⟨k, hk, rfl, rfl⟩ := hrel
      by_cases hlt : k < rs.length + 1
      · have hkl : (k : Int) ≤ (rs.length : Int) := by omega
        have hst := minTo_step (cutT rs cs) k
        have hcb := cut_bd hr hc k
        have hmb := minTo_bd hr hc (k - 1)
        have hcut : cutT rs cs k = T - top rs k + minS k cs := by unfold cutT; rw [HET.out]
        have htb1 := top_nonneg (fun x hx => (hr.bd x hx).1) k
        have htb2 := top_le (fun x hx => (hr.bd x hx).1) k
        rw [← HET.out] at htb2
        have HX := HLH.out k (by omega)
        obtain ⟨X, eX⟩ : ∃ X, X = top rs k := ⟨_, rfl⟩
        rw [← eX] at hcut HX htb1 htb2
        obtain ⟨C, eC⟩ : ∃ C, C = cutT rs cs k := ⟨_, rfl⟩
        rw [← eC] at hst hcb hcut
        obtain ⟨M, eM⟩ : ∃ M, M = minTo (cutT rs cs) (k - 1) := ⟨_, rfl⟩
        rw [← eM] at hst hmb ⊢
        have HST := Lib.hid hst
        have HCUT := Lib.hid hcut
        have HXH := Lib.hid HX
        clear hst hcut eX eC eM HX
        go_wp2_with fail
        refine HL0H.out.mono ?_
        rintro e wc ⟨rfl, rfl⟩
        go_wp2_with fail
        refine HXH.out.mono ?_
        rintro e wc ⟨rfl, rfl⟩
        go_wp2_with fail
        go_loop [9, 10] (fun s i => ∃ j : Nat, j ≤ cs.length ∧ i = .int .i64 j ∧ s = .int .i64 (T - X + minS k (cs.take j))) (fun _ i => cs.length - (intOf i).toNat)
        case atStart => exact ⟨0, by omega, rfl, by simp [minS]⟩
        case round =>
          obtain ⟨j, hj, rfl, rfl⟩ := hrel
          have hbd := minS_bd (t := k) hc.bd j
          by_cases hjl : j < cs.length
          · have hsj := minS_take (t := (k : Int)) hjl
            have hat := hc.at hjl
            have hcr := HC.out j hjl
            obtain ⟨r, er⟩ : ∃ r, r = cs.getD j 0 := ⟨_, rfl⟩
            rw [← er] at hsj hat hcr
            obtain ⟨S, eS⟩ : ∃ S, S = minS k (cs.take j) := ⟨_, rfl⟩
            rw [← eS] at hsj hbd ⊢
            obtain ⟨m, em⟩ : ∃ m, m = min r (k : Int) := ⟨_, rfl⟩
            have em1 : (if (k : Int) < r then (k : Int) else r) = m := by split <;> omega
            have em2 : (if r < (k : Int) then r else (k : Int)) = m := by split <;> omega
            rw [← em] at hsj
            have hm : 0 ≤ m ∧ m ≤ 6 := by omega
            have HSJ := Lib.hid hsj
            clear hsj er eS em
            go_wp2
            go_round
            case rel => exact ⟨j + 1, by omega, by go_num, by rw [HSJ.out]; first | rfl | (simp only [Value.int.injEq, true_and]; omega)⟩
            case measure => simp [intOf]; omega
          · obtain rfl : j = cs.length := by omega
            rw [List.take_of_length_le (Nat.le_refl _), show T - X + minS (k : Int) cs = C from HCUT.out.symm]
            have em1 : (if C < M then C else M) = min M C := by split <;> omega
            have em2 : (if M < C then M else C) = min M C := by split <;> omega
            clear hbd
            go_wp2
            go_round
            case rel => exact ⟨k + 1, by omega, by go_num, by rw [Nat.add_sub_cancel, ← HST.out]⟩
            case measure => simp [intOf]; omega
      · obtain rfl : k = rs.length + 1 := by omega
        go_wp2
        go_returns
        exact ⟨ri (by rw [HF.out]; rfl), hW⟩
end Go.Proofs.Ytldmilpohappiaa
