/- Contracts of slices.Equal, sameImage and SumsFit of the program. Conditions: the slices read as lists of integers; lengths below 2 to the power of 21. -/
import Derived.Test.YtbpjceffkchmbaaDoorK6
import Derived.Test.YtbpjceffkchmbaaDoorKX
import Derived.Test.YtbpjceffkchmbaaDoorKY
import Derived.Test.YtbpjceffkchmbaaDoorFC
namespace Go.Proofs.YtbpjceffkchmbaaDoor
open Go.RowKit
set_option maxHeartbeats 1000000 in
theorem sliceEq_c (u v : Value) (xs ys : List Int) (h6 : xs.length ≤ 2097152) (w : World) (hu : Ints w.heap.size w u xs) (hv : Ints w.heap.size w v ys) :
    Calls Tryd.prog 50 #[u, v] w fun e w' => e = .returned (.bool (decide (xs = ys))) ∧ Below w.heap.size w w' := by
  obtain ⟨A, cap, rfl⟩ := hu.len
  obtain ⟨A', cap', rfl⟩ := hv.len
  by_cases hl : xs.length = ys.length
  · have hne : ((xs.length : Int) != (ys.length : Int)) = false := by simp; omega
    have HL := Lib.hid hl
    clear hl
    go_enter Tryd.func50, Tryd.ntmps50
    go_wp2
    go_loopw [13] (fun i wr => ∃ k : Nat, k ≤ xs.length ∧ i = .int .i64 k ∧ (∀ j, j < k → xs.getD j 0 = ys.getD j 0) ∧ Below w.heap.size w wr) (fun i _ => xs.length - (intOf i).toNat)
    case atStart => exact ⟨0, by omega, rfl, fun j hj => by omega, Below.refl _ _⟩
    case round =>
      obtain ⟨k, hk, rfl, hall, hB⟩ := hrel
      have HA := Lib.hid hall
      clear hall hne
      by_cases hlt : k < xs.length
      · obtain ⟨b, off, c1, e, hbl, hc⟩ := hu.row (by omega)
        injection e with e1 _ e3
        subst e1 e3
        have hl2 : k < ys.length := by rw [← HL.out]; exact hlt
        obtain ⟨b', off', c1', e', hbl', hc'⟩ := hv.row (by omega)
        injection e' with e1 _ e3
        subst e1 e3
        obtain ⟨x, e_x⟩ : ∃ x : Int, x = xs.getD k 0 := ⟨_, rfl⟩
        have hc_x := hc k hlt
        rw [← e_x] at hc_x
        have H_x := Lib.hid e_x
        clear e_x
        obtain ⟨y, e_y⟩ : ∃ y : Int, y = ys.getD k 0 := ⟨_, rfl⟩
        have hc_y := hc' k hl2
        rw [← e_y] at hc_y
        have H_y := Lib.hid e_y
        clear e_y
        have hcx := (hB.cell (p := ⟨b, off + k, none⟩) hbl).trans hc_x
        have hcy := (hB.cell (p := ⟨b', off' + k, none⟩) hbl').trans hc_y
        clear hc hc' hc_x hc_y hu hv
        have k1 := cell_regrown hcx
        have k2 := cell_regrown hcy
        go_wp2_with fail
        refine wp_region_quiet_below (by kernel_rfl) (by kernel_rfl) ?_
        repeat (first | go_big_quiet_step (fail) | quiet_step (fail))
        refine wpQuiet_nil ?_
        intro _ hw0
        obtain ⟨⟨dq, osq⟩, hw1⟩ := hw0
        subst hw1
        have hq := below_regrown wr dq osq
        generalize Go.Sort.grow (redrawn wr dq) osq = w1 at hq ⊢
        clear k1 k2
        have hB1 := hB.trans (hq.mono hB.size)
        by_cases hxy : x = y
        · have hb : (x != y) = false := by simp [hxy]
          have HXY := Lib.hid hxy
          clear hxy
          go_wp2
          go_roundw
          case rel =>
            refine ⟨k + 1, by omega, by go_num, fun j hj => ?_, hB1⟩
            by_cases e : j = k
            · subst e; rw [← H_x.out, ← H_y.out]; exact HXY.out
            · exact HA.out j (by omega)
          case measure => simp [intOf]; omega
        · have hb : (x != y) = true := by simpa using hxy
          go_wp2
          go_returns
          have hne : xs ≠ ys := list_ne_of (k := k) (by rw [← H_x.out, ← H_y.out]; exact hxy)
          exact ⟨rb (by simp [hne]), hB1⟩
      · go_wp2
        go_returns
        have he : xs = ys := list_eq_of HL.out fun j hj => HA.out j (by omega)
        exact ⟨rb (by simp [he]), hB⟩
  · have hne : ((xs.length : Int) != (ys.length : Int)) = true := by simp; omega
    go_enter Tryd.func50, Tryd.ntmps50
    go_wp2
    go_returns
    have hne : xs ≠ ys := fun e => hl (by rw [e])
    exact ⟨rb (by simp [hne]), Below.refl _ _⟩
end Go.Proofs.YtbpjceffkchmbaaDoor
