/- Contracts of slices.Equal, sameImage and SumsFit of the program. Conditions: the slices read as lists of integers; lengths below 2 to the power of 21. -/
import Derived.Test.YtilahcpjjaikgaaDoorK6
import Derived.Test.YtilahcpjjaikgaaDoorKX
import Derived.Test.YtilahcpjjaikgaaDoorKY
import Derived.Test.YtilahcpjjaikgaaDoorFC
namespace Go.Proofs.YtilahcpjjaikgaaDoor
open Go.RowKit
set_option maxHeartbeats 1000000 in
theorem sliceEq_c (u v : Value) (xs ys : List Int) (h6 : xs.length ≤ 2097152) (w : World) (hu : Ints w.heap.size w u xs) (hv : Ints w.heap.size w v ys) :
    Calls Tryd.prog 39 #[u, v] w fun e w' => e = .returned (.bool (decide (xs = ys))) ∧ Below w.heap.size w w' := by
  obtain ⟨A, cap, rfl⟩ := hu.len
  obtain ⟨A', cap', rfl⟩ := hv.len
  by_cases hl : xs.length = ys.length
  · have hne : ((xs.length : Int) != (ys.length : Int)) = false := by simp; omega
    have HL := Lib.hid hl
    clear hl
    go_enter Tryd.func39, Tryd.ntmps39
    go_wp2
    go_loopw [13] (fun i wr => ∃ k : Nat, k ≤ xs.length ∧ i = .int .i64 k ∧ (∀ j, j < k → xs.getD j 0 = ys.getD j 0) ∧ Below w.heap.size w wr) (fun i _ => xs.length - (intOf i).toNat)
    case atStart => exact ⟨0, by omega, rfl, fun j hj => by omega, Below.refl _ _⟩
    case round =>
      obtain ⟨k, hk, rfl, hall, hB⟩ := hrel
      have HA := Lib.hid hall
      clear hall hne
      by_cases hlt : k < xs.length
      · obtain ⟨b, off, c1, e, hbl, hc⟩ := hu.row (by omega)
        injection e with e1 _ e3
        subst e1 e3
        have hl2 : k < ys.length := by rw [← HL.out]; exact hlt
        obtain ⟨b', off', c1', e', hbl', hc'⟩ := hv.row (by omega)
        injection e' with e1 _ e3
        subst e1 e3
        obtain ⟨x, e_x⟩ : ∃ x : Int, x = xs.getD k 0 := ⟨_, rfl⟩
        have hc_x := hc k hlt
        rw [← e_x] at hc_x
        have H_x := Lib.hid e_x
        clear e_x
        obtain ⟨y, e_y⟩ : ∃ y : Int, y = ys.getD k 0 := ⟨_, rfl⟩
        have hc_y := hc' k hl2
        rw [← e_y] at hc_y
        have H_y := Lib.hid e_y
        clear e_y
        have hcx := (hB.cell (p := ⟨b, off + k, none⟩) hbl).trans hc_x
        have hcy := (hB.cell (p := ⟨b', off' + k, none⟩) hbl').trans hc_y
        clear hc hc' hc_x hc_y hu hv
        have k1 := cell_regrown hcx
        have k2 := cell_regrown hcy
        go_wp2_with fail
        refine wp_region_quiet_below (by kernel_rfl) (by kernel_rfl) ?_
        repeat (first | go_big_quiet_step (fail) | quiet_step (fail))
        refine wpQuiet_nil ?_
        intro _ hw0
        obtain ⟨⟨dq, osq⟩, hw1⟩ := hw0
        subst hw1
        have hq := below_regrown wr dq osq
        generalize Go.Sort.grow (redrawn wr dq) osq = w1 at hq ⊢
        clear k1 k2
        have hB1 := hB.trans (hq.mono hB.size)
        by_cases hxy : x = y
        · have hb : (x != y) = false := by simp [hxy]
          have HXY := Lib.hid hxy
          clear hxy
          go_wp2
          go_roundw
          case rel =>
            refine ⟨k + 1, by omega, by go_num, fun j hj => ?_, hB1⟩
            by_cases e : j = k
            · subst e; rw [← H_x.out, ← H_y.out]; exact HXY.out
            · exact HA.out j (by omega)
          case measure => simp [intOf]; omega
        · have hb : (x != y) = true := by simpa using hxy
          go_wp2
          go_returns
          have hne : xs ≠ ys := list_ne_of (k := k) (by rw [← H_x.out, ← H_y.out]; exact hxy)
          exact ⟨rb (by simp [hne]), hB1⟩
      · go_wp2
        go_returns
        have he : xs = ys := list_eq_of HL.out fun j hj => HA.out j (by omega)
        exact ⟨rb (by simp [he]), hB⟩
  · have hne : ((xs.length : Int) != (ys.length : Int)) = true := by simp; omega
    go_enter Tryd.func39, Tryd.ntmps39
    go_wp2
    go_returns
    have hne : xs ≠ ys := fun e => hl (by rw [e])
    exact ⟨rb (by simp [hne]), Below.refl _ _⟩
set_option maxHeartbeats 1000000 in
theorem sameImg_c (W W' : Int) (u v : Value) (xs ys : List Int) (h6 : xs.length ≤ 2097152) (w : World) (hu : Ints w.heap.size w u xs) (hv : Ints w.heap.size w v ys) :
    Calls Tryd.prog 37 #[.agg #[.int .i64 W, u], .agg #[.int .i64 W', v]] w fun e w' => e = .returned (.bool (decide (W = W' ∧ xs = ys))) ∧ Below w.heap.size w w' := by
  obtain ⟨A, cap, rfl⟩ := hu.len
  obtain ⟨A', cap', rfl⟩ := hv.len
  obtain ⟨W0, eW⟩ : ∃ W0, W0 = (w.alloc (.cells #[.int .i64 W, .slice A xs.length cap] 27)).alloc (.cells #[.int .i64 W', .slice A' ys.length cap'] 27) := ⟨_, rfl⟩
  have hB0 : Below w.heap.size w W0 := by rw [eW]; go_grown
  have hu2 := (hu.below hB0).more hB0.size
  have hv2 := (hv.below hB0).more hB0.size
  by_cases hW : W = W'
  · have hb1 : (W == W') = true := by simp [hW]
    have hb2 : (W != W') = false := by simp [hW]
    have HW := Lib.hid hW
    clear hW
    go_enter Tryd.func37, Tryd.ntmps37
    go_wp2_with fail
    rw [← eW]
    have HE := Lib.hid eW
    clear eW
    refine (sliceEq_c _ _ xs ys h6 _ hu2 hv2).mono ?_
    rintro e w1 ⟨rfl, hq⟩
    by_cases hx : xs = ys
    · have hd : decide (xs = ys) = true := by simp [hx]
      rw [hd]
      go_wp2
      go_returns
      exact ⟨rb (by simp [HW.out, hx]), hB0.trans (hq.mono hB0.size)⟩
    · have hd : decide (xs = ys) = false := by simp [hx]
      rw [hd]
      go_wp2
      go_returns
      exact ⟨rb (by simp [hx]), hB0.trans (hq.mono hB0.size)⟩
  · have hb1 : (W == W') = false := by simpa using hW
    have hb2 : (W != W') = true := by simpa using hW
    go_enter Tryd.func37, Tryd.ntmps37
    go_wp2
    go_returns
    exact ⟨rb (by simp [hW]), by go_grown⟩
set_option maxRecDepth 100000 in
set_option maxHeartbeats 2000000 in
/-- An image with these sums fits them. -/
theorem SumsFit_yes (n : Nat) (v u t : Value) (ns : List Nat) (hV : VImg n ns) (w : World) (hv : Ints w.heap.size w v (casts ns)) (hu : Ints w.heap.size w u (rowSums n ns)) (ht : Ints w.heap.size w t (colSums n ns)) :
    Calls Tryd.prog 13 #[.agg #[.int .i64 (n : Int), v], u, t] w fun e w' => e = .returned (.bool true) ∧ Below w.heap.size w w' := by
  obtain ⟨A, cap, rfl⟩ := hv.len
  obtain ⟨B, cap1, rfl⟩ := hu.len
  obtain ⟨C, cap2, rfl⟩ := ht.len
  have hI := hv
  have hJ := hu
  have hK := ht
  have hW := Below.refl w.heap.size w
  have hl1 := rowSums_len n ns
  have hl2 := colSums_len n ns
  have h6 := hV.h6
  have w6 := hV.w6
  clear hv hu ht
  rw [length_casts] at hI ⊢
  rw [hl1] at hJ ⊢
  rw [hl2] at hK ⊢
  have HL := Lib.hid (And.intro hl1 hl2)
  clear hl1 hl2
  go_enter Tryd.func13, Tryd.ntmps13
  obtain ⟨W0, e_W0⟩ : ∃ W0, W0 = World.alloc w (.cells #[.int .i64 (n : Int), .slice A ns.length cap] 27) := ⟨_, rfl⟩
  have hx_W0 := Box2.new w (.int .i64 (n : Int)) (.slice A ns.length cap) 27
  have hb_W0 : Below (World.heap w).size w W0 := by rw [e_W0]; go_grown
  have HS_W0 := Lib.hid (show (World.heap W0).size = (World.heap w).size + 1 by rw [e_W0]; simp)
  replace hI := (hI.below hb_W0).more (Below.size hb_W0)
  replace hJ := (hJ.below hb_W0).more (Below.size hb_W0)
  replace hK := (hK.below hb_W0).more (Below.size hb_W0)
  replace hW := hW.trans (Below.mono hb_W0 hW.size)
  have HE_W0 := Lib.hid e_W0
  clear e_W0
  go_wp2_with fail
  rw [← HE_W0.out] at hx_W0 ⊢
  clear HE_W0
  obtain ⟨hl_x, x0, x1⟩ := hx_W0
  obtain ⟨Bx, e_Bx⟩ : ∃ Bx, Bx = (World.heap w).size := ⟨_, rfl⟩
  rw [← e_Bx] at hl_x x0 x1 hb_W0 HS_W0  ⊢
  have hz_Bx := hb_W0.size
  clear e_Bx hb_W0
  refine (ImageValid_c (n : Int) _ (casts ns) _ hI).mono ?_
  rintro e wc ⟨rfl, hb⟩
  replace hI := (hI.below hb).more (Below.size hb)
  replace hJ := (hJ.below hb).more (Below.size hb)
  replace hK := (hK.below hb).more (Below.size hb)
  replace hW := hW.trans (Below.mono hb hW.size)
  replace x0 := cellB hb x0
  replace x1 := cellB hb x1
  rw [validB_of hV]
  go_wp2_with fail
  refine (RowSums_c n _ ns hV _ hI).mono ?_
  rintro e wc ⟨gr, rfl, hgr, hrr, hb⟩
  replace hI := (hI.below hb).more (Below.size hb)
  replace hJ := (hJ.below hb).more (Below.size hb)
  replace hK := (hK.below hb).more (Below.size hb)
  replace hW := hW.trans (Below.mono hb hW.size)
  replace x0 := cellB hb x0
  replace x1 := cellB hb x1
  have hR := hrr.ints hrr.lt ns.length
  rw [HL.out.1] at hR
  go_wp2_with fail
  refine (sliceEq_c _ _ (rowSums n ns) (rowSums n ns) (by rw [HL.out.1]; omega) _ hR hJ).mono ?_
  rintro e wc ⟨rfl, hb⟩
  replace hI := (hI.below hb).more (Below.size hb)
  replace hJ := (hJ.below hb).more (Below.size hb)
  replace hK := (hK.below hb).more (Below.size hb)
  replace hW := hW.trans (Below.mono hb hW.size)
  replace x0 := cellB hb x0
  replace x1 := cellB hb x1
  simp only [decide_true]
  clear hR hrr
  go_wp2_with fail
  refine (ColSums_c n _ ns hV _ hI).mono ?_
  rintro e wc ⟨gc, rfl, hgc, hcc, hb⟩
  replace hI := (hI.below hb).more (Below.size hb)
  replace hJ := (hJ.below hb).more (Below.size hb)
  replace hK := (hK.below hb).more (Below.size hb)
  replace hW := hW.trans (Below.mono hb hW.size)
  replace x0 := cellB hb x0
  replace x1 := cellB hb x1
  have hC := hcc.ints hcc.lt n
  rw [HL.out.2] at hC
  go_wp2_with fail
  refine (sliceEq_c _ _ (colSums n ns) (colSums n ns) (by rw [HL.out.2]; omega) _ hC hK).mono ?_
  rintro e wc ⟨rfl, hb⟩
  replace hI := (hI.below hb).more (Below.size hb)
  replace hJ := (hJ.below hb).more (Below.size hb)
  replace hK := (hK.below hb).more (Below.size hb)
  replace hW := hW.trans (Below.mono hb hW.size)
  replace x0 := cellB hb x0
  replace x1 := cellB hb x1
  simp only [decide_true]
  go_wp2
  go_returns
  exact ⟨rfl, hW⟩
end Go.Proofs.YtilahcpjjaikgaaDoor
