/- Contract of TableOf of the reference at a valid image. Conditions: the image is valid. -/
import Derived.Test.YtbpjceffkchmbaaDoorTG9
import Derived.Test.YtbpjceffkchmbaaDoorK3
namespace Go.Proofs.YtbpjceffkchmbaaDoor
open Go.RowKit
theorem Tbl.far {w : World} {gT h n : Nat} {gs : List Nat} {T : List (List Int)} (t : Tbl w gT h n gs T) {p : Addr} (h0 : gT ≠ p.block) (h1 : ∀ i, i < h → gs.getD i 0 ≠ p.block) (u : Value) : Tbl (w.setCell p u) gT h n gs T :=
  t.of_blocks (Below.heap_setCell w p u gT h0) fun i hi => Below.heap_setCell w p u _ (h1 i hi)
set_option maxRecDepth 100000 in
set_option maxHeartbeats 4000000 in
theorem sTableOf_c (n : Nat) (v : Value) (ns : List Nat) (hV : VImg n ns) (w : World) (hv : Ints w.heap.size w v (casts ns)) :
    Calls Tryd.prog 42 #[.agg #[.int .i64 (n : Int), v]] w fun e w' => TadOut w false true ns.length n (tabF (bitF ns) ns.length n) w' e := by
  obtain ⟨A, cap, rfl⟩ := hv.len
  rw [length_casts] at hv ⊢
  have h6 := hV.h6
  have w6 := hV.w6
  have hr64 := hV.get64
  have hvb := validB_of hV
  have hI := Arg.new hv
  have hW := Below.refl w.heap.size w
  have HE := fun (W : World) => l22Blank_c ns.length n (by omega) (by omega) W
  have HV := Lib.hid hv
  clear hv
  go_enter Tryd.func42, Tryd.ntmps42
  obtain ⟨W0, e_W0⟩ : ∃ W0, W0 = World.alloc w (.cells #[.int .i64 (n : Int), .slice A ns.length cap] 25) := ⟨_, rfl⟩
  have hx_W0 := Box2.new w (.int .i64 (n : Int)) (.slice A ns.length cap) 25
  have hb_W0 : Below (World.heap w).size w W0 := by rw [e_W0]; go_grown
  have HS_W0 := Lib.hid (show (World.heap W0).size = (World.heap w).size + 1 by rw [e_W0]; simp)
  replace hI := hI.below hb_W0
  replace hW := hW.trans (Below.mono hb_W0 hW.size)
  have HE_W0 := Lib.hid e_W0
  clear e_W0
  go_wp2_with fail
  rw [← HE_W0.out] at hx_W0 ⊢
  clear HE_W0
  obtain ⟨hl_x, x0, x1⟩ := hx_W0
  obtain ⟨Bx, e_Bx⟩ : ∃ Bx, Bx = (World.heap w).size := ⟨_, rfl⟩
  rw [← e_Bx] at hl_x x0 x1 hb_W0 HS_W0  ⊢
  have hz_Bx := hb_W0.size
  clear e_Bx hb_W0
  have HS := sImageValid_c (n : Int) (.slice A ns.length cap) (casts ns) W0 hI.ints
  rw [hvb] at HS
  refine HS.mono ?_
  rintro e wc ⟨rfl, hb⟩
  replace hI := hI.below hb
  replace hW := hW.trans (Below.mono hb hW.size)
  replace x0 := cellB hb x0
  replace x1 := cellB hb x1
  have hBx : Bx < wc.heap.size := lt_of_cell x0
  have hIc := hI
  have hWs := hW.size
  clear HS hvb
  go_wp2_with fail
  refine (HE wc).mono ?_
  rintro e w4 ⟨v, rfl, gT, cp, gs, rfl, hcp, hT, hgT, hgs, hb4⟩
  have x04 := cellB hb4 x0
  have x14 := cellB hb4 x1
  have hb5 := hW.trans (hb4.mono hW.size)
  have h0 : Tbl w4 gT ns.length n gs (filT (bitF ns) ns.length n 0 0) := by rw [filT_zero]; exact hT
  have HX := Lib.hid (show w.heap.size ≤ gT ∧ (∀ i, i < ns.length → w.heap.size ≤ gs.getD i 0 ∧ Bx ≠ gs.getD i 0) ∧ Bx ≠ gT ∧ ns.length ≤ cp from ⟨by omega, fun i hi => by have := hgs i hi; omega, by omega, hcp⟩)
  have H0 := Lib.hid (And.intro h0 (And.intro hb5 (And.intro x04 x14)))
  clear h0 hT hgT hgs hb4 hb5 HE hBx hIc hWs hcp hW hI x0 x1
  go_wp2_with fail
  clear x04 x14
  go_loopw [5] (fun q wr => ∃ k : Nat, k ≤ ns.length ∧ q = .int .i64 (k : Int) ∧ Tbl wr gT ns.length n gs (filT (bitF ns) ns.length n k 0) ∧ Below w.heap.size w wr ∧ wr.cell? ⟨Bx, 0, none⟩ = some (.int .i64 (n : Int)) ∧ wr.cell? ⟨Bx, 1, none⟩ = some (.slice A ns.length cap)) (fun q _ => ns.length - (intOf q).toNat)
  case atStart => exact ⟨0, Nat.zero_le _, rfl, H0.out⟩
  case round =>
    clear H0
    obtain ⟨k, hk, rfl, hT, hb, x0, x1⟩ := hrel
    by_cases hkl : k < ns.length
    · have hki : (k : Int) < (ns.length : Int) := by omega
      have HK := Lib.hid (And.intro hT (And.intro hb (And.intro x0 x1)))
      clear hT hb
      go_wp2_with fail
      clear x0 x1
      go_loopw [6] (fun q wr => ∃ l : Nat, l ≤ n ∧ q = .int .i64 (l : Int) ∧ Tbl wr gT ns.length n gs (filT (bitF ns) ns.length n k l) ∧ Below w.heap.size w wr ∧ wr.cell? ⟨Bx, 0, none⟩ = some (.int .i64 (n : Int)) ∧ wr.cell? ⟨Bx, 1, none⟩ = some (.slice A ns.length cap)) (fun q _ => n - (intOf q).toNat)
      case atStart => exact ⟨0, Nat.zero_le _, rfl, HK.out⟩
      case round =>
        clear HK
        obtain ⟨l, hl, rfl, hT, hb, x0, x1⟩ := hrel
        by_cases hll : l < n
        · have hli : (l : Int) < (n : Int) := by omega
          have hIr : Ints wr.heap.size wr (.slice A ns.length cap) (casts ns) := (HV.out.below hb).more hb.size
          have hct := hT.cell hkl
          have hst := filT_step (f := bitF ns) hkl hll
          have HG := fun (d : Nat) (os : Array Obj) => l11Get_c (n : Int) (.slice A ns.length cap) ns k l hkl (by omega) (by have := hr64 k; omega) _ ((hIr.rg (Nat.le_refl _) d os).more (rg_size wr d os))
          rw [show cell ns k l = cell ns k l from rfl] at HG
          obtain ⟨z, ez⟩ : ∃ z, z = b2i (cell ns k l) := ⟨_, rfl⟩
          have hbz : bitF ns k l = z := ez.symm
          simp only [← ez] at HG
          rw [hbz] at hst
          have hset := fun (W : World) (hW : Below wr.heap.size wr W) => (hT.below hW).set hkl hll z
          have hfe := fun (W : World) (hW : Below wr.heap.size wr W) => ((hT.below hW).row k hkl).frozen l
          have hcl := fun (W : World) (hW : Below wr.heap.size wr W) => ((hT.below hW).row k hkl).cell (k := l) (by rw [hT.wid k hkl]; exact hll)
          obtain ⟨hge, hgx⟩ := HX.out.2.1 k hkl
          obtain ⟨gt, egt⟩ : ∃ g, g = gs.getD k 0 := ⟨_, rfl⟩
          rw [← egt] at hct hge hgx
          simp only [← egt] at hset hfe hcl
          unfold rowV at hct
          have k1 := cell_regrown x0
          have k2 := cell_regrown x1
          have k3 := cell_regrown hct
          have HS := Lib.hid (And.intro hset (And.intro hst hb))
          have HF := Lib.hid (And.intro hfe (And.intro hcl (And.intro x0 x1)))
          clear hT hb hst ez egt hset hfe hcl hIr hbz
          go_wp2_with fail
          refine wp_region_below_tail 10 (by kernel_rfl) (by kernel_rfl) ?_
          simp only [List.take_succ_cons, List.take_zero, List.drop_succ_cons, List.drop_zero]
          repeat (first | go_big_quiet_step ((go_at_call 32; with_reducible exact Calls.rg (HG _ _))) | quiet_step ((go_at_call 32; with_reducible exact Calls.rg (HG _ _))))
          refine wpQuiet_nil ?_
          intro _ hw0
          obtain ⟨⟨dq, osq⟩, hw1⟩ := hw0
          subst hw1
          have hq := below_regrown wr dq osq
          generalize Go.Sort.grow (redrawn wr dq) osq = w5 at hq ⊢
          clear k1 k2 k3 HG x0 x1
          have hfe := HF.out.1 w5 hq
          have hcl := HF.out.2.1 w5 hq
          have hset := HS.out.1 w5 hq
          rw [show (filT (bitF ns) ns.length n k l).set k (((filT (bitF ns) ns.length n k l).getD k []).set l z) = filT (bitF ns) ns.length n k (l + 1) from HS.out.2.1] at hset
          have hbb := (HS.out.2.2.trans (hq.mono HS.out.2.2.size)).setCell (p := ⟨gt, l, none⟩) hge (.int .i64 z)
          have HN := Lib.hid (And.intro hset (And.intro hbb (And.intro ((World.cell?_setCell_other _ _ _ _ (by first | (simp; done) | (simp; omega))).trans (cellB hq HF.out.2.2.1) : (w5.setCell ⟨gt, l, none⟩ (.int .i64 z)).cell? ⟨Bx, 0, none⟩ = some (.int .i64 (n : Int))) ((World.cell?_setCell_other _ _ _ _ (by first | (simp; done) | (simp; omega))).trans (cellB hq HF.out.2.2.2) : (w5.setCell ⟨gt, l, none⟩ (.int .i64 z)).cell? ⟨Bx, 1, none⟩ = some (.slice A ns.length cap)))))
          clear hset hbb hq hct
          go_wp2_with fail
          go_roundw
          case rel => exact ⟨l + 1, by omega, by go_num, HN.out⟩
          case measure => simp [intOf]; omega
        · have hli : ¬ ((l : Int) < (n : Int)) := by omega
          have hln : l = n := by omega
          rw [hln, filT_row] at hT
          have HN := Lib.hid (And.intro hT (And.intro hb (And.intro x0 x1)))
          clear hT hb hln
          go_wp2
          exact ⟨⟨k + 1, by omega, by go_num, HN.out⟩, by simp [intOf]; omega⟩
    · have hki : ¬ ((k : Int) < (ns.length : Int)) := by omega
      have hkh : k = ns.length := by omega
      rw [hkh, filT_all] at hT
      have HN := Lib.hid (And.intro hT hb)
      clear hT hb hkh
      go_wp2
      go_returns
      exact .inl ⟨rfl, gT, cp, gs, rfl, HN.out.1, HX.out.1, fun i hi => (HX.out.2.1 i hi).1, ⟨HX.out.2.2.2, fun e => by cases e⟩, HN.out.2⟩
end Go.Proofs.YtbpjceffkchmbaaDoor
