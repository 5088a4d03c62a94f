/- Contracts of the functions that compare lists and images, and measure them. Conditions: the slices read as lists of integers; lengths below 2 to the power of 21. -/
import Derived.Test.YtbpjceffkchmbaaDoorK5
namespace Go.Proofs.YtbpjceffkchmbaaDoor
open Go.RowKit
theorem list_ne_of {xs ys : List Int} {k : Nat} (h : xs.getD k 0 ≠ ys.getD k 0) : xs ≠ ys := fun e => h (by rw [e])
theorem list_eq_of {xs ys : List Int} (hl : xs.length = ys.length) (h : ∀ j, j < xs.length → xs.getD j 0 = ys.getD j 0) : xs = ys := by
  apply List.ext_getElem hl
  intro i h1 h2
  have := h i h1
  simpa [List.getD_eq_getElem?_getD, h1, h2] using this
set_option maxHeartbeats 1000000 in
theorem sameInts_c (u v : Value) (xs ys : List Int) (h6 : xs.length ≤ 2097152) (w : World) (hu : Ints w.heap.size w u xs) (hv : Ints w.heap.size w v ys) :
    Calls Tryd.prog 45 #[u, v] w fun e w' => e = .returned (.bool (decide (xs = ys))) ∧ Below w.heap.size w w' := by
  obtain ⟨A, cap, rfl⟩ := hu.len
  obtain ⟨A', cap', rfl⟩ := hv.len
  by_cases hl : xs.length = ys.length
  · have hne : ((xs.length : Int) != (ys.length : Int)) = false := by simp; omega
    have HL := Lib.hid hl
    clear hl
    go_enter Tryd.func45, Tryd.ntmps45
    go_wp2
    go_loopw [5] (fun i wr => ∃ k : Nat, k ≤ xs.length ∧ i = .int .i64 k ∧ (∀ j, j < k → xs.getD j 0 = ys.getD j 0) ∧ Below w.heap.size w wr) (fun i _ => xs.length - (intOf i).toNat)
    case atStart => exact ⟨0, by omega, rfl, fun j hj => by omega, Below.refl _ _⟩
    case round =>
      obtain ⟨k, hk, rfl, hall, hB⟩ := hrel
      have HA := Lib.hid hall
      clear hall hne
      by_cases hlt : k < xs.length
      · obtain ⟨b, off, c1, e, hbl, hc⟩ := hu.row (by omega)
        injection e with e1 _ e3
        subst e1 e3
        have hl2 : k < ys.length := by rw [← HL.out]; exact hlt
        obtain ⟨b', off', c1', e', hbl', hc'⟩ := hv.row (by omega)
        injection e' with e1 _ e3
        subst e1 e3
        obtain ⟨x, e_x⟩ : ∃ x : Int, x = xs.getD k 0 := ⟨_, rfl⟩
        have hc_x := hc k hlt
        rw [← e_x] at hc_x
        have H_x := Lib.hid e_x
        clear e_x
        obtain ⟨y, e_y⟩ : ∃ y : Int, y = ys.getD k 0 := ⟨_, rfl⟩
        have hc_y := hc' k hl2
        rw [← e_y] at hc_y
        have H_y := Lib.hid e_y
        clear e_y
        have hcx := (hB.cell (p := ⟨b, off + k, none⟩) hbl).trans hc_x
        have hcy := (hB.cell (p := ⟨b', off' + k, none⟩) hbl').trans hc_y
        clear hc hc' hc_x hc_y hu hv
        have k1 := cell_regrown hcx
        have k2 := cell_regrown hcy
        go_wp2_with fail
        refine wp_region_quiet_below (by kernel_rfl) (by kernel_rfl) ?_
        repeat (first | go_big_quiet_step (fail) | quiet_step (fail))
        refine wpQuiet_nil ?_
        intro _ hw0
        obtain ⟨⟨dq, osq⟩, hw1⟩ := hw0
        subst hw1
        have hq := below_regrown wr dq osq
        generalize Go.Sort.grow (redrawn wr dq) osq = w1 at hq ⊢
        clear k1 k2
        have hB1 := hB.trans (hq.mono hB.size)
        by_cases hxy : x = y
        · have hb : (x != y) = false := by simp [hxy]
          have HXY := Lib.hid hxy
          clear hxy
          go_wp2
          go_roundw
          case rel =>
            refine ⟨k + 1, by omega, by go_num, fun j hj => ?_, hB1⟩
            by_cases e : j = k
            · subst e; rw [← H_x.out, ← H_y.out]; exact HXY.out
            · exact HA.out j (by omega)
          case measure => simp [intOf]; omega
        · have hb : (x != y) = true := by simpa using hxy
          go_wp2
          go_returns
          have hne : xs ≠ ys := list_ne_of (k := k) (by rw [← H_x.out, ← H_y.out]; exact hxy)
          exact ⟨rb (by simp [hne]), hB1⟩
      · go_wp2
        go_returns
        have he : xs = ys := list_eq_of HL.out fun j hj => HA.out j (by omega)
        exact ⟨rb (by simp [he]), hB⟩
  · have hne : ((xs.length : Int) != (ys.length : Int)) = true := by simp; omega
    go_enter Tryd.func45, Tryd.ntmps45
    go_wp2
    go_returns
    have hne : xs ≠ ys := fun e => hl (by rw [e])
    exact ⟨rb (by simp [hne]), Below.refl _ _⟩
set_option maxHeartbeats 1000000 in
theorem sameImage_c (W W' : Int) (u v : Value) (xs ys : List Int) (h6 : xs.length ≤ 2097152) (w : World) (hu : Ints w.heap.size w u xs) (hv : Ints w.heap.size w v ys) :
    Calls Tryd.prog 14 #[.agg #[.int .i64 W, u], .agg #[.int .i64 W', v]] w fun e w' => e = .returned (.bool (decide (W = W' ∧ xs = ys))) ∧ Below w.heap.size w w' := by
  obtain ⟨A, cap, rfl⟩ := hu.len
  obtain ⟨A', cap', rfl⟩ := hv.len
  obtain ⟨W0, eW⟩ : ∃ W0, W0 = (w.alloc (.cells #[.int .i64 W, .slice A xs.length cap] 25)).alloc (.cells #[.int .i64 W', .slice A' ys.length cap'] 25) := ⟨_, rfl⟩
  have hB0 : Below w.heap.size w W0 := by rw [eW]; go_grown
  have hu2 := (hu.below hB0).more hB0.size
  have hv2 := (hv.below hB0).more hB0.size
  by_cases hW : W = W'
  · have hb1 : (W == W') = true := by simp [hW]
    have hb2 : (W != W') = false := by simp [hW]
    have HW := Lib.hid hW
    clear hW
    go_enter Tryd.func14, Tryd.ntmps14
    go_wp2_with fail
    rw [← eW]
    have HE := Lib.hid eW
    clear eW
    refine (sameInts_c _ _ xs ys h6 _ hu2 hv2).mono ?_
    rintro e w1 ⟨rfl, hq⟩
    by_cases hx : xs = ys
    · have hd : decide (xs = ys) = true := by simp [hx]
      rw [hd]
      go_wp2
      go_returns
      exact ⟨rb (by simp [HW.out, hx]), hB0.trans (hq.mono hB0.size)⟩
    · have hd : decide (xs = ys) = false := by simp [hx]
      rw [hd]
      go_wp2
      go_returns
      exact ⟨rb (by simp [hx]), hB0.trans (hq.mono hB0.size)⟩
  · have hb1 : (W == W') = false := by simpa using hW
    have hb2 : (W != W') = true := by simpa using hW
    go_enter Tryd.func14, Tryd.ntmps14
    go_wp2
    go_returns
    exact ⟨rb (by simp [hW]), by go_grown⟩
end Go.Proofs.YtbpjceffkchmbaaDoor
