/- Contracts of ImageValid, the program's and the reference's: whether the numbers make an image. Condition: the slice reads as a list of integers. -/
import Derived.Test.YtbpjceffkchmbaaDoorK1
namespace Go.Proofs.YtbpjceffkchmbaaDoor
open Go.RowKit
theorem sh_pw {W : Int} (h0 : 1 ≤ W) (h6 : W ≤ 6) : wrap64 (2 ^ W.toNat) = pw W.toNat := by
  have : pw W.toNat ≤ 64 := pw_6 (by omega)
  have e : (2 : Int) ^ W.toNat = pw W.toNat := by unfold pw; simp
  have h1 := pw_pos W.toNat
  rw [e]
  exact IntWalk.wrap64_in _ ⟨by omega, by omega⟩
theorem validB_false_row {W : Int} {rows : List Int} {k : Nat} (hk : k < rows.length) (h : rows.getD k 0 < 0 ∨ pw W.toNat ≤ rows.getD k 0) : validB W rows = false := by
  rw [← Bool.not_eq_true]
  intro hv
  simp only [validB, Bool.and_eq_true, decide_eq_true_eq, List.all_eq_true] at hv
  have := hv.2 (rows.getD k 0) (by rw [List.getD_eq_getElem?_getD, List.getElem?_eq_getElem hk]; exact List.getElem_mem hk)
  have e : (2 : Int) ^ W.toNat = pw W.toNat := by unfold pw; simp
  omega
theorem validB_false_head {W : Int} {rows : List Int} (h : ¬ (1 ≤ W ∧ W ≤ 6 ∧ 1 ≤ rows.length ∧ rows.length ≤ 6)) : validB W rows = false := by
  rw [← Bool.not_eq_true]
  intro hv
  simp only [validB, Bool.and_eq_true, decide_eq_true_eq] at hv
  omega
theorem validB_true {W : Int} {rows : List Int} (h : 1 ≤ W ∧ W ≤ 6 ∧ 1 ≤ rows.length ∧ rows.length ≤ 6) (hr : ∀ j, j < rows.length → 0 ≤ rows.getD j 0 ∧ rows.getD j 0 < pw W.toNat) : validB W rows = true := by
  simp only [validB, Bool.and_eq_true, decide_eq_true_eq, List.all_eq_true]
  refine ⟨by omega, fun r hm => ?_⟩
  obtain ⟨i, hi, rfl⟩ := List.getElem_of_mem hm
  have := hr i hi
  rw [List.getD_eq_getElem?_getD, List.getElem?_eq_getElem hi] at this
  have e : (2 : Int) ^ W.toNat = pw W.toNat := by unfold pw; simp
  simp only [Option.getD_some] at this
  omega
set_option maxHeartbeats 400000 in
theorem ImageValid_c (W : Int) (v : Value) (rows : List Int) (w : World) (hv : Ints w.heap.size w v rows) :
    Calls Tryd.prog 15 #[.agg #[.int .i64 W, v]] w fun e w' => e = .returned (.bool (validB W rows)) ∧ Below w.heap.size w w' := by
  by_cases hb : 1 ≤ W ∧ W ≤ 6 ∧ 1 ≤ rows.length ∧ rows.length ≤ 6
  · obtain ⟨b, off, cap, rfl, hlt, hc⟩ := hv.row (by omega)
    have HB := Lib.hid hb
    obtain ⟨h1, h2, h3, h4⟩ := hb
    have hsh := sh_pw h1 h2
    have HC := Lib.hid hc
    clear hc
    go_enter Tryd.func15, Tryd.ntmps15
    go_wp2
    go_loop [28] (fun i => ∃ k : Nat, k ≤ rows.length ∧ i = .int .i64 k ∧ ∀ j, j < k → 0 ≤ rows.getD j 0 ∧ rows.getD j 0 < pw W.toNat) (fun i => rows.length - (intOf i).toNat)
    case atStart => exact ⟨0, by omega, rfl, fun j hj => by omega⟩
    case round =>
      obtain ⟨k, hk, rfl, hall⟩ := hrel
      have HA := Lib.hid hall
      clear hall
      by_cases hlt' : k < rows.length
      · obtain ⟨r, e_r⟩ : ∃ r : Int, r = rows.getD k 0 := ⟨_, rfl⟩
        have hc_r := HC.out k hlt'
        rw [← e_r] at hc_r
        have H_r := Lib.hid e_r
        clear e_r
        by_cases hr1 : r < 0
        · go_wp2
          go_returns
          exact ⟨rb (validB_false_row hlt' (.inl (by rw [← H_r.out]; exact hr1))).symm, by go_grown⟩
        · by_cases hr2 : pw W.toNat ≤ r
          · go_wp2
            go_returns
            exact ⟨rb (validB_false_row hlt' (.inr (by rw [← H_r.out]; exact hr2))).symm, by go_grown⟩
          · go_wp2
            go_round
            case rel =>
              refine ⟨k + 1, by omega, by go_num, fun j hj => ?_⟩
              by_cases e : j = k
              · subst e; rw [← H_r.out]; omega
              · exact HA.out j (by omega)
            case measure => simp [intOf]; omega
      · go_wp2
        go_returns
        exact ⟨rb (validB_true HB.out fun j hj => HA.out j (by omega)).symm, by go_grown⟩
  · obtain ⟨A, cap, rfl⟩ := hv.len
    go_enter Tryd.func15, Tryd.ntmps15
    go_wp2
    all_goals first
      | (exfalso; omega)
      | (go_returns; exact ⟨rb (validB_false_head hb).symm, by go_grown⟩)
set_option maxHeartbeats 400000 in
theorem sImageValid_c (W : Int) (v : Value) (rows : List Int) (w : World) (hv : Ints w.heap.size w v rows) :
    Calls Tryd.prog 29 #[.agg #[.int .i64 W, v]] w fun e w' => e = .returned (.bool (validB W rows)) ∧ Below w.heap.size w w' := by
  by_cases hb : 1 ≤ W ∧ W ≤ 6 ∧ 1 ≤ rows.length ∧ rows.length ≤ 6
  · obtain ⟨b, off, cap, rfl, hlt, hc⟩ := hv.row (by omega)
    have HB := Lib.hid hb
    obtain ⟨h1, h2, h3, h4⟩ := hb
    obtain ⟨n, rfl⟩ := Int.eq_ofNat_of_zero_le (show 0 ≤ W by omega)
    have HC := Lib.hid hc
    clear hc
    go_enter Tryd.func29, Tryd.ntmps29
    go_wp2_with (go_at_call 56; refine (l6In_yes _ _ _ (by omega) _).mono ?_; rintro e w' ⟨rfl, rfl⟩)
    go_loopw [3] (fun i wr => ∃ k : Nat, k ≤ rows.length ∧ i = .int .i64 k ∧ (∀ j, j < k → 0 ≤ rows.getD j 0 ∧ rows.getD j 0 < pw n) ∧ Below (w.heap.size + 1) (w.alloc (.cells #[.int .i64 (n : Int), .slice (some ⟨b, off, none⟩) rows.length cap] 25)) wr) (fun i _ => rows.length - (intOf i).toNat)
    case atStart => exact ⟨0, by omega, rfl, fun j hj => by omega, Below.refl _ _⟩
    case round =>
      obtain ⟨k, hk, rfl, hall, hB⟩ := hrel
      have HA := Lib.hid hall
      clear hall
      obtain ⟨hbl, hbx0, hbx1⟩ := (Box2.new w (.int .i64 (n : Int)) (.slice (some ⟨b, off, none⟩) rows.length cap) 25).below hB (by omega)
      have hBw := ((Below.refl w.heap.size w).alloc (Nat.le_refl _) _).trans (hB.mono (by omega))
      by_cases hlt' : k < rows.length
      · obtain ⟨r, e_r⟩ : ∃ r : Int, r = rows.getD k 0 := ⟨_, rfl⟩
        have hc_r := HC.out k hlt'
        rw [← e_r] at hc_r
        have H_r := Lib.hid e_r
        clear e_r
        have hcr := (hBw.cell (p := ⟨b, off + k, none⟩) hlt).trans hc_r
        clear hc_r
        have k0 := cell_regrown hbx0
        have k1 := cell_regrown hbx1
        have k2 := cell_regrown hcr
        have hp := pw_pos n
        have hp6 := pw_6 (k := n) (by omega)
        go_wp2_with fail
        have ew : IntKind.i64.wrap (pw n - 1) = pw n - 1 := IntWalk.i64_in _ ⟨by omega, by omega⟩
        by_cases hr : 0 ≤ r ∧ r ≤ pw n - 1
        · refine wp_region_quiet_below (by kernel_rfl) (by kernel_rfl) ?_
          repeat (first | go_big_quiet_step (first | (go_at_call 53; exact Calls.rgs (l1Power_c n (by omega) _)) | (go_at_call 56; exact Calls.rgs (l6In_yes r 0 (pw n - 1) hr _))) | quiet_step (first | (go_at_call 53; exact Calls.rgs (l1Power_c n (by omega) _)) | (go_at_call 56; exact Calls.rgs (l6In_yes r 0 (pw n - 1) hr _))))
          refine wpQuiet_nil ?_
          intro _ hw0
          obtain ⟨⟨dq, osq⟩, hw1⟩ := hw0
          subst hw1
          have hq := below_regrown wr dq osq
          generalize Go.Sort.grow (redrawn wr dq) osq = w1 at hq ⊢
          clear k0 k1 k2 ew
          go_wp2
          go_roundw
          case rel =>
            refine ⟨k + 1, by omega, by go_num, fun j hj => ?_, hB.trans (hq.mono (by omega))⟩
            by_cases e : j = k
            · subst e; rw [← H_r.out]; omega
            · exact HA.out j (by omega)
          case measure => simp [intOf]; omega
        · refine wp_region_quiet_below (by kernel_rfl) (by kernel_rfl) ?_
          repeat (first | go_big_quiet_step (first | (go_at_call 53; exact Calls.rgs (l1Power_c n (by omega) _)) | (go_at_call 56; exact Calls.rgs (l6In_no r 0 (pw n - 1) (by omega) _))) | quiet_step (first | (go_at_call 53; exact Calls.rgs (l1Power_c n (by omega) _)) | (go_at_call 56; exact Calls.rgs (l6In_no r 0 (pw n - 1) (by omega) _))))
          refine wpQuiet_nil ?_
          intro _ hw0
          obtain ⟨⟨dq, osq⟩, hw1⟩ := hw0
          subst hw1
          have hq := below_regrown wr dq osq
          generalize Go.Sort.grow (redrawn wr dq) osq = w1 at hq ⊢
          clear k0 k1 k2 ew
          go_wp2
          go_returns
          exact ⟨rb (validB_false_row hlt' (by rw [← H_r.out]; show _ ∨ pw n ≤ r; omega)).symm, hBw.trans (hq.mono (by omega))⟩
      · go_wp2
        go_returns
        exact ⟨rb (validB_true HB.out fun j hj => HA.out j (by omega)).symm, hBw⟩
  · obtain ⟨A, cap, rfl⟩ := hv.len
    by_cases hW : 1 ≤ W ∧ W ≤ 6
    · go_enter Tryd.func29, Tryd.ntmps29
      go_wp2_with fail
      refine (l6In_yes _ _ _ hW _).mono ?_
      rintro e w' ⟨rfl, rfl⟩
      go_wp2_with fail
      refine (l6In_no _ _ _ (by omega) _).mono ?_
      rintro e w' ⟨rfl, rfl⟩
      go_wp2
      go_returns
      exact ⟨rb (validB_false_head hb).symm, by go_grown⟩
    · go_enter Tryd.func29, Tryd.ntmps29
      go_wp2_with fail
      refine (l6In_no _ _ _ (by omega) _).mono ?_
      rintro e w' ⟨rfl, rfl⟩
      go_wp2
      go_returns
      exact ⟨rb (validB_false_head hb).symm, by go_grown⟩
end Go.Proofs.YtbpjceffkchmbaaDoor
