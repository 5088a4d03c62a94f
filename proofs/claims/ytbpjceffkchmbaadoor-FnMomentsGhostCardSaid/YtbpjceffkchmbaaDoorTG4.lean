/- Contract of GhostOf: the ghost of a list of directions, if they are all different. Conditions: one to five directions below 4; the tables on the way are valid; the table of the steps stands. -/
import Derived.Test.YtbpjceffkchmbaaDoorTGH
import Derived.Test.YtbpjceffkchmbaaDoorTG2
import Derived.Test.YtbpjceffkchmbaaDoorTG3
import Derived.Test.YtbpjceffkchmbaaDoorML1
namespace Go.Proofs.YtbpjceffkchmbaaDoor
open Go.RowKit
theorem Ints.takeG {B b off cap m : Nat} {w : World} {xs : List Int} (hb : b < B) (hc : ∀ k, k < xs.length → w.cell? ⟨b, off + k, none⟩ = some (.int .i64 (xs.getD k 0))) (hm : m ≤ xs.length) : Ints B w (.slice (some ⟨b, off, none⟩) m cap) (xs.take m) := by
  refine .inr ⟨b, off, cap, by rw [List.length_take, Nat.min_eq_left hm], hb, fun k hk => ?_⟩
  rw [List.length_take, Nat.min_eq_left hm] at hk
  rw [hc k (by omega)]
  simp only [List.getD_eq_getElem?_getD, List.getElem?_take, if_pos hk]
/-- The ghost while it is made. -/
def GSt (w wr : World) (ds : List Nat) (k : Nat) (v : Value) : Prop := ∃ gT gs, v = .slice (some ⟨gT, 0, none⟩) (gh (ds.take k)).1 (gh (ds.take k)).1 ∧ Tbl wr gT (gh (ds.take k)).1 (gh (ds.take k)).2.1 gs (gh (ds.take k)).2.2 ∧ w.heap.size ≤ gT ∧ (∀ i, i < (gh (ds.take k)).1 → w.heap.size ≤ gs.getD i 0) ∧ Below w.heap.size w wr
theorem one_tbl (w : World) : Tbl ((w.alloc (.cells #[.int .i64 1] 3)).alloc (.cells #[.slice (some ⟨w.heap.size, 0, none⟩) 1 1] 23)) (w.heap.size + 1) 1 1 [w.heap.size] [[1]] := by
  have h1 : ((w.alloc (.cells #[.int .i64 1] 3)).alloc (.cells #[.slice (some ⟨w.heap.size, 0, none⟩) 1 1] 23)).heap[w.heap.size]? = some (.cells #[.int .i64 1] 3 (0, 0)) := by
    have := Below.heap_alloc (w.alloc (.cells #[.int .i64 1] 3)) (.cells #[.slice (some ⟨w.heap.size, 0, none⟩) 1 1] 23) w.heap.size (by simp)
    rw [this]
    exact heap_alloc_new w _
  have h2 : ((w.alloc (.cells #[.int .i64 1] 3)).alloc (.cells #[.slice (some ⟨w.heap.size, 0, none⟩) 1 1] 23)).heap[w.heap.size + 1]? = some (.cells #[.slice (some ⟨w.heap.size, 0, none⟩) 1 1] 23 (0, 0)) := by
    have := heap_alloc_new (w.alloc (.cells #[.int .i64 1] 3)) (.cells #[.slice (some ⟨w.heap.size, 0, none⟩) 1 1] 23)
    rw [show (w.alloc (.cells #[.int .i64 1] 3)).heap.size = w.heap.size + 1 by simp] at this
    exact this
  refine ⟨rfl, rfl, ⟨[], h2⟩, fun i hi => ?_, fun i hi => ?_, fun i j hi hj _ => by omega, fun i hi => ?_⟩
  · obtain rfl : i = 0 := by omega
    exact ⟨[], h1⟩
  · obtain rfl : i = 0 := by omega
    rfl
  · obtain rfl : i = 0 := by omega
    show w.heap.size ≠ w.heap.size + 1
    omega
set_option maxRecDepth 100000 in
set_option maxHeartbeats 8000000 in
theorem GhostOf_c (ds : List Nat) (h1 : 1 ≤ ds.length) (h5 : ds.length ≤ 5) (h4 : ∀ k, k < ds.length → ds.getD k 0 < 4) (hG : gOk ds = true) (A : Option Addr) (cap : Nat) (hcap : ds.length ≤ cap) (w : World) (hv : Ints w.heap.size w (.slice A ds.length cap) (casts ds)) (hD : Dirs w) :
    Calls Tryd.prog 39 #[.slice A ds.length cap] w fun e w' => TadOut w true (dif (casts ds) ds.length) (gh ds).1 (gh ds).2.1 (gh ds).2.2 w' e := by
  obtain ⟨b, off, cp, ev, hbl, hcx⟩ := hv.row (by rw [length_casts]; omega)
  injection ev with e1 e2 e3
  subst e1 e3
  clear e2 hv
  have HT := Lib.hid (And.intro hcx (And.intro hD (And.intro hG h4)))
  have hb0 : Below w.heap.size w ((w.alloc (.cells #[.int .i64 1] 3)).alloc (.cells #[.slice (some ⟨w.heap.size, 0, none⟩) 1 1] 23)) := by go_grown
  have HS := Lib.hid (show GSt w ((w.alloc (.cells #[.int .i64 1] 3)).alloc (.cells #[.slice (some ⟨w.heap.size, 0, none⟩) 1 1] 23)) ds 0 (.slice (some ⟨w.heap.size + 1, 0, none⟩) 1 1) from ⟨w.heap.size + 1, [w.heap.size], rfl, one_tbl w, by omega, fun i hi => by
    have : i < 1 := hi
    obtain rfl : i = 0 := by omega
    exact Nat.le_refl _, hb0⟩)
  clear hcx hD hG h4 hb0
  go_enter Tryd.func39, Tryd.ntmps39
  go_wp2_with fail
  go_loopw [4, 23] (fun s q wr => ∃ k : Nat, k ≤ ds.length ∧ q = .int .i64 (k : Int) ∧ dif (casts ds) k = true ∧ GSt w wr ds k s) (fun _ q _ => ds.length - (intOf q).toNat)
  case atStart => exact ⟨0, Nat.zero_le _, rfl, dif_zero _, HS.out⟩
  case round =>
    clear HS
    obtain ⟨k, hk, rfl, hdk, gT, gs, rfl, hT, hgT, hgs, hb⟩ := hrel
    by_cases hkl : k < ds.length
    · have hki : (k : Int) < (ds.length : Int) := by omega
      have hkc : k ≤ cap := by omega
      have hsu := gh_succ hkl
      have hok := gOk_s HT.out.2.2.1 hk
      have hmk := gOk_m HT.out.2.2.1 hkl
      obtain ⟨s, es⟩ : ∃ s, s = gh (ds.take k) := ⟨_, rfl⟩
      rw [← es] at hT hgs hsu hok hmk ⊢
      obtain ⟨h, n, T⟩ := s
      dsimp only at hT hgs hsu hok hmk ⊢
      have hcr : ∀ q, q < (casts ds).length → wr.cell? ⟨b, off + q, none⟩ = some (.int .i64 ((casts ds).getD q 0)) := fun q hq => (hb.cell (p := ⟨b, off + q, none⟩) hbl).trans (HT.out.1 q hq)
      have hck := hcr k (by rw [length_casts]; exact hkl)
      have hd4 := HT.out.2.2.2 k hkl
      have HC := Contains_c (.slice (some ⟨b, off, none⟩) k cap) ((casts ds).take k) ((casts ds).getD k 0) (by rw [List.length_take, length_casts]; omega) wr (Ints.takeG (Nat.lt_of_lt_of_le hbl hb.size) hcr (by rw [length_casts]; exact hk))
      rw [mm_take] at HC
      have hno := dif_no (xs := casts ds) (k := k) (by rw [length_casts]; exact hkl)
      have hdf := dif_succ (casts ds) k
      rw [hdk, Bool.true_and] at hdf
      rw [length_casts] at hno
      rw [casts_getD] at hck HC hno hdf
      obtain ⟨d, ed⟩ : ∃ d, d = ds.getD k 0 := ⟨_, rfl⟩
      rw [← ed] at hck HC hno hdf hd4 hmk hsu
      have HDi := isDir_c (d : Int) wr
      rw [dirB_of (show d < 8 by omega)] at HDi
      have hc0 := hT.cell (i := 0) (by omega)
      obtain ⟨g0, eg0⟩ : ∃ g, g = gs.getD 0 0 := ⟨_, rfl⟩
      rw [← eg0] at hc0
      unfold rowV at hc0
      have hDw := HT.out.2.1.below (hb.mono (Nat.le_refl _))
      have HW := Lib.hid (And.intro hT (And.intro hgT (And.intro hgs (And.intro hb (And.intro es hmk)))))
      cases hm : mm (casts ds) k (d : Int) with
      | true =>
        rw [hm] at HC
        have HN := Lib.hid (hno hm)
        clear hno hdf hT hgs hgT es hmk hsu hcr ed eg0 hm hdk hDw
        go_wp2_with fail
        refine HDi.mono ?_
        rintro e w1 ⟨rfl, rfl⟩
        clear HDi
        go_wp2_with fail
        refine HC.mono ?_
        rintro e w1 ⟨rfl, rfl⟩
        clear HC
        go_wp2
        go_returns
        exact .inr ⟨HN.out, ⟨_, rfl⟩, HW.out.2.2.2.1⟩
      | false =>
        rw [hm] at HC hdf
        have HN := Lib.hid (And.intro (show dif (casts ds) (k + 1) = true from hdf) hsu)
        have hx := hDw.x d (by omega)
        have hy := hDw.y d (by omega)
        obtain ⟨x, ex⟩ : ∃ x, x = dXs.getD d 0 := ⟨_, rfl⟩
        obtain ⟨y, ey⟩ : ∃ y, y = dYs.getD d 0 := ⟨_, rfl⟩
        rw [← ex] at hx
        rw [← ey] at hy
        have kx := cell_regrown hx
        have ky := cell_regrown hy
        have HEX := Lib.hid (And.intro ex ey)
        clear hno hdf hT hgs hgT es hmk hsu hcr ed eg0 hm hdk hDw ex ey
        go_wp2_with fail
        refine HDi.mono ?_
        rintro e w1 ⟨rfl, rfl⟩
        clear HDi
        go_wp2_with fail
        refine HC.mono ?_
        rintro e w1 ⟨rfl, rfl⟩
        clear HC
        go_wp2_with fail
        refine wp_region_quiet_below (by kernel_rfl) (by kernel_rfl) ?_
        repeat (first | go_big_quiet_step (fail) | quiet_step (fail))
        refine wpQuiet_nil ?_
        intro _ hw0
        obtain ⟨⟨dq, osq⟩, hw1⟩ := hw0
        subst hw1
        have hq := below_regrown wr dq osq
        generalize Go.Sort.grow (redrawn wr dq) osq = w1 at hq ⊢
        have hc1 := cellB hq hc0
        clear kx ky hx hy hc0 hck
        obtain ⟨hT, hgT, hgs, hb, es, hmk⟩ := HW.out
        obtain ⟨ex, ey⟩ := HEX.out
        have hT1 := hT.below hq
        have hb1 := hb.trans (hq.mono hb.size)
        have HQ := Lib.hid (And.intro hT1 hb1)
        clear hT hgT hgs hb es hq hT1 hb1 HEX
        rcases (show d = 0 ∨ d = 1 ∨ d = 2 ∨ d = 3 by omega) with rfl | rfl | rfl | rfl
        · obtain rfl : x = 1 := ex
          obtain rfl : y = 0 := ey
          have hM : tvB h (n + 1) (midG 0 h n T) = true := hmk
          have HE := emptyTable_c h (n + 1) (by omega) (by omega) w1
          rw [show ((n + 1 : Nat) : Int) = (n : Int) + 1 by omega] at HE
          have HM := Lib.hid hM
          clear hM hmk
          go_wp2_with fail
          refine HE.mono ?_
          rintro e w2 ⟨gE, gsE, rfl, hTE, hgE, hgsE, hbE⟩
          clear HE
          have hb2 := HQ.out.2.trans (hbE.mono HQ.out.2.size)
          have hT2 := HQ.out.1.below hbE
          have HA := added_c gE gT h (n + 1) h n 0 0 (-1) gsE gs (zeroT h (n + 1)) T (by omega) (by omega) (by omega) (by omega) (by omega) (by omega) (zero_bd _ _) (tv_bd hok.2) w2 hTE hT2
          rw [show ((0 : Nat) : Int) = 0 from rfl] at HA
          have H2 := Lib.hid (And.intro hT2 hb2)
          clear hTE hgE hgsE hbE hb2 hT2
          go_wp2_with fail
          refine HA.mono ?_
          rintro e w3 ⟨gM, gsM, rfl, hTM, hgM, hgsM, hbM⟩
          clear HA
          have hb3 := H2.out.2.trans (hbM.mono H2.out.2.size)
          have hT3 := H2.out.1.below hbM
          have HA := added_c gM gT h (n + 1) h n 0 1 1 gsM gs (midG 0 h n T) T (by omega) (by omega) (by omega) (by omega) (by omega) (by omega) (tv_bd HM.out) (tv_bd hok.2) w3 hTM hT3
          rw [show ((0 : Nat) : Int) = 0 from rfl, show ((1 : Nat) : Int) = 1 from rfl] at HA
          have H3 := Lib.hid hb3
          clear hTM hgM hgsM hbM hb3 hT3
          go_wp2_with fail
          refine HA.mono ?_
          rintro e w4 ⟨gF, gsF, rfl, hTF, hgF, hgsF, hbF⟩
          clear HA
          have hb4 := H3.out.trans (hbF.mono H3.out.size)
          have hlw := H3.out.size
          have HG := Lib.hid (show GSt w w4 ds (k + 1) (.slice (some ⟨gF, 0, none⟩) h h) from by
            refine ⟨gF, gsF, ?_, ?_, by omega, ?_, hb4⟩
            · rw [HN.out.2]; rfl
            · rw [HN.out.2]; exact hTF
            · rw [HN.out.2]; exact fun i hi => Nat.le_trans hlw (hgsF i hi))
          clear hTF hgF hgsF hbF hb4 hlw
          go_wp2_with fail
          go_roundw
          case rel => exact ⟨k + 1, by omega, by go_num, HN.out.1, HG.out⟩
          case measure => simp [intOf]; omega
        · obtain rfl : x = 0 := ex
          obtain rfl : y = 1 := ey
          have hM : tvB (h + 1) n (midG 1 h n T) = true := hmk
          have HE := emptyTable_c (h + 1) n (by omega) (by omega) w1
          rw [show ((h + 1 : Nat) : Int) = (h : Int) + 1 by omega] at HE
          have HM := Lib.hid hM
          clear hM hmk
          go_wp2_with fail
          refine HE.mono ?_
          rintro e w2 ⟨gE, gsE, rfl, hTE, hgE, hgsE, hbE⟩
          clear HE
          have hb2 := HQ.out.2.trans (hbE.mono HQ.out.2.size)
          have hT2 := HQ.out.1.below hbE
          have HA := added_c gE gT (h + 1) n h n 0 0 (-1) gsE gs (zeroT (h + 1) n) T (by omega) (by omega) (by omega) (by omega) (by omega) (by omega) (zero_bd _ _) (tv_bd hok.2) w2 hTE hT2
          rw [show ((0 : Nat) : Int) = 0 from rfl] at HA
          have H2 := Lib.hid (And.intro hT2 hb2)
          clear hTE hgE hgsE hbE hb2 hT2
          go_wp2_with fail
          refine HA.mono ?_
          rintro e w3 ⟨gM, gsM, rfl, hTM, hgM, hgsM, hbM⟩
          clear HA
          have hb3 := H2.out.2.trans (hbM.mono H2.out.2.size)
          have hT3 := H2.out.1.below hbM
          have HA := added_c gM gT (h + 1) n h n 1 0 1 gsM gs (midG 1 h n T) T (by omega) (by omega) (by omega) (by omega) (by omega) (by omega) (tv_bd HM.out) (tv_bd hok.2) w3 hTM hT3
          rw [show ((0 : Nat) : Int) = 0 from rfl, show ((1 : Nat) : Int) = 1 from rfl] at HA
          have H3 := Lib.hid hb3
          clear hTM hgM hgsM hbM hb3 hT3
          go_wp2_with fail
          refine HA.mono ?_
          rintro e w4 ⟨gF, gsF, rfl, hTF, hgF, hgsF, hbF⟩
          clear HA
          have hb4 := H3.out.trans (hbF.mono H3.out.size)
          have hlw := H3.out.size
          have HG := Lib.hid (show GSt w w4 ds (k + 1) (.slice (some ⟨gF, 0, none⟩) (h + 1) (h + 1)) from by
            refine ⟨gF, gsF, ?_, ?_, by omega, ?_, hb4⟩
            · rw [HN.out.2]; rfl
            · rw [HN.out.2]; exact hTF
            · rw [HN.out.2]; exact fun i hi => Nat.le_trans hlw (hgsF i hi))
          clear hTF hgF hgsF hbF hb4 hlw
          go_wp2_with fail
          go_roundw
          case rel => exact ⟨k + 1, by omega, by go_num, HN.out.1, HG.out⟩
          case measure => simp [intOf]; omega
        · obtain rfl : x = 1 := ex
          obtain rfl : y = 1 := ey
          have hM : tvB (h + 1) (n + 1) (midG 2 h n T) = true := hmk
          have HE := emptyTable_c (h + 1) (n + 1) (by omega) (by omega) w1
          rw [show ((h + 1 : Nat) : Int) = (h : Int) + 1 by omega] at HE
          rw [show ((n + 1 : Nat) : Int) = (n : Int) + 1 by omega] at HE
          have HM := Lib.hid hM
          clear hM hmk
          go_wp2_with fail
          refine HE.mono ?_
          rintro e w2 ⟨gE, gsE, rfl, hTE, hgE, hgsE, hbE⟩
          clear HE
          have hb2 := HQ.out.2.trans (hbE.mono HQ.out.2.size)
          have hT2 := HQ.out.1.below hbE
          have HA := added_c gE gT (h + 1) (n + 1) h n 0 0 (-1) gsE gs (zeroT (h + 1) (n + 1)) T (by omega) (by omega) (by omega) (by omega) (by omega) (by omega) (zero_bd _ _) (tv_bd hok.2) w2 hTE hT2
          rw [show ((0 : Nat) : Int) = 0 from rfl] at HA
          have H2 := Lib.hid (And.intro hT2 hb2)
          clear hTE hgE hgsE hbE hb2 hT2
          go_wp2_with fail
          refine HA.mono ?_
          rintro e w3 ⟨gM, gsM, rfl, hTM, hgM, hgsM, hbM⟩
          clear HA
          have hb3 := H2.out.2.trans (hbM.mono H2.out.2.size)
          have hT3 := H2.out.1.below hbM
          have HA := added_c gM gT (h + 1) (n + 1) h n 1 1 1 gsM gs (midG 2 h n T) T (by omega) (by omega) (by omega) (by omega) (by omega) (by omega) (tv_bd HM.out) (tv_bd hok.2) w3 hTM hT3
          rw [show ((1 : Nat) : Int) = 1 from rfl] at HA
          have H3 := Lib.hid hb3
          clear hTM hgM hgsM hbM hb3 hT3
          go_wp2_with fail
          refine HA.mono ?_
          rintro e w4 ⟨gF, gsF, rfl, hTF, hgF, hgsF, hbF⟩
          clear HA
          have hb4 := H3.out.trans (hbF.mono H3.out.size)
          have hlw := H3.out.size
          have HG := Lib.hid (show GSt w w4 ds (k + 1) (.slice (some ⟨gF, 0, none⟩) (h + 1) (h + 1)) from by
            refine ⟨gF, gsF, ?_, ?_, by omega, ?_, hb4⟩
            · rw [HN.out.2]; rfl
            · rw [HN.out.2]; exact hTF
            · rw [HN.out.2]; exact fun i hi => Nat.le_trans hlw (hgsF i hi))
          clear hTF hgF hgsF hbF hb4 hlw
          go_wp2_with fail
          go_roundw
          case rel => exact ⟨k + 1, by omega, by go_num, HN.out.1, HG.out⟩
          case measure => simp [intOf]; omega
        · obtain rfl : x = 1 := ex
          obtain rfl : y = (-1) := ey
          have hM : tvB (h + 1) (n + 1) (midG 3 h n T) = true := hmk
          have HE := emptyTable_c (h + 1) (n + 1) (by omega) (by omega) w1
          rw [show ((h + 1 : Nat) : Int) = (h : Int) + 1 by omega] at HE
          rw [show ((n + 1 : Nat) : Int) = (n : Int) + 1 by omega] at HE
          have HM := Lib.hid hM
          clear hM hmk
          go_wp2_with fail
          refine HE.mono ?_
          rintro e w2 ⟨gE, gsE, rfl, hTE, hgE, hgsE, hbE⟩
          clear HE
          have hb2 := HQ.out.2.trans (hbE.mono HQ.out.2.size)
          have hT2 := HQ.out.1.below hbE
          have HA := added_c gE gT (h + 1) (n + 1) h n 1 0 (-1) gsE gs (zeroT (h + 1) (n + 1)) T (by omega) (by omega) (by omega) (by omega) (by omega) (by omega) (zero_bd _ _) (tv_bd hok.2) w2 hTE hT2
          rw [show ((1 : Nat) : Int) = 1 from rfl, show ((0 : Nat) : Int) = 0 from rfl] at HA
          have H2 := Lib.hid (And.intro hT2 hb2)
          clear hTE hgE hgsE hbE hb2 hT2
          go_wp2_with fail
          refine HA.mono ?_
          rintro e w3 ⟨gM, gsM, rfl, hTM, hgM, hgsM, hbM⟩
          clear HA
          have hb3 := H2.out.2.trans (hbM.mono H2.out.2.size)
          have hT3 := H2.out.1.below hbM
          have HA := added_c gM gT (h + 1) (n + 1) h n 0 1 1 gsM gs (midG 3 h n T) T (by omega) (by omega) (by omega) (by omega) (by omega) (by omega) (tv_bd HM.out) (tv_bd hok.2) w3 hTM hT3
          rw [show ((0 : Nat) : Int) = 0 from rfl, show ((1 : Nat) : Int) = 1 from rfl] at HA
          have H3 := Lib.hid hb3
          clear hTM hgM hgsM hbM hb3 hT3
          go_wp2_with fail
          refine HA.mono ?_
          rintro e w4 ⟨gF, gsF, rfl, hTF, hgF, hgsF, hbF⟩
          clear HA
          have hb4 := H3.out.trans (hbF.mono H3.out.size)
          have hlw := H3.out.size
          have HG := Lib.hid (show GSt w w4 ds (k + 1) (.slice (some ⟨gF, 0, none⟩) (h + 1) (h + 1)) from by
            refine ⟨gF, gsF, ?_, ?_, by omega, ?_, hb4⟩
            · rw [HN.out.2]; rfl
            · rw [HN.out.2]; exact hTF
            · rw [HN.out.2]; exact fun i hi => Nat.le_trans hlw (hgsF i hi))
          clear hTF hgF hgsF hbF hb4 hlw
          go_wp2_with fail
          go_roundw
          case rel => exact ⟨k + 1, by omega, by go_num, HN.out.1, HG.out⟩
          case measure => simp [intOf]; omega
    · have hki : ¬ ((k : Int) < (ds.length : Int)) := by omega
      have hkh : k = ds.length := by omega
      subst hkh
      have hok := gOk_s HT.out.2.2.1 (Nat.le_refl ds.length)
      rw [List.take_length] at hT hgs hok ⊢
      have HV := TableValid_c gT (gh ds).1 (gh ds).2.1 gs (gh ds).2.2 hok.1.1 (by omega) hok.1.2.2.1 (by omega) wr hT
      rw [hok.2] at HV
      have HN := Lib.hid (And.intro hdk (And.intro hT (And.intro hgT (And.intro hgs hb))))
      clear hdk hT hgT hgs hb
      go_wp2_with fail
      refine HV.mono ?_
      rintro e w4 ⟨rfl, rfl⟩
      clear HV
      go_wp2
      go_returns
      exact .inl ⟨HN.out.1, gT, (gh ds).1, gs, rfl, HN.out.2.1, HN.out.2.2.1, HN.out.2.2.2.1, ⟨Nat.le_refl _, fun _ => rfl⟩, HN.out.2.2.2.2⟩
end Go.Proofs.YtbpjceffkchmbaaDoor
