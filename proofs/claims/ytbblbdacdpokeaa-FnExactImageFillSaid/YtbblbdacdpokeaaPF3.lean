/- Contract of the specification's ImageFill. Conditions: the slice reads as a list of integers. -/
import Derived.Test.YtbblbdacdpokeaaPF1
namespace Go.Proofs.Ytbblbdacdpokeaa
open Go.RowKit
open Gr
theorem IMem.put {w wr w2 : World} {n h g c Bo cap : Nat} {A : Option Addr} {ms ms' : List Nat} (hm : IMem w wr n h g c Bo cap A ms) (hg : w.heap.size + 2 ≤ g) (hgB : g < Bo) (hr : Row w2 g (casts ms')) (ho : wr.grownBy w2 (some g)) : IMem w w2 n h g c Bo cap A ms' :=
  ⟨hr, hm.bel.grown ho hm.bel.size (fun k e => by cases e; omega), cell_only ho hm.x0 (by simp; omega), cell_only ho hm.x1 (by simp; omega), cell_only ho hm.r0 (by simp; omega), cell_only ho hm.r1 (by simp; omega), frozen_only ho hm.r0 (by simp; omega) hm.rf0, frozen_only ho hm.r1 (by simp; omega) hm.rf1, cell_only ho hm.o0 (by simp; omega), cell_only ho hm.o1 (by simp; omega)⟩
set_option maxHeartbeats 4000000 in
theorem sImageFill_yes (n : Nat) (v : Value) (ns : List Nat) (hV : VImg n ns) (w : World) (hv : Ints w.heap.size w v (casts ns)) :
    Calls Try.prog 30 #[.agg #[.int .i64 (n : Int), v]] w (ImgOut w n (fillL n ns)) := by
  obtain ⟨A, cap, rfl⟩ := hv.len
  rw [length_casts] at hv ⊢
  have h1 := hV.h1
  have h6 := hV.h6
  have w1 := hV.w1
  have w6 := hV.w6
  obtain ⟨W0, e_W0⟩ : ∃ W1, W1 = (w.alloc (.cells #[.int .i64 (n : Int), .slice A ns.length cap] 27)).alloc (.cells #[.int .i64 0, .slice none 0 0] 27) := ⟨_, rfl⟩
  have hW : Below w.heap.size w W0 := by rw [e_W0]; go_grown
  have x0 : W0.cell? ⟨w.heap.size, 0, none⟩ = some (.int .i64 (n : Int)) := by rw [e_W0]; go_cell
  have x1 : W0.cell? ⟨w.heap.size, 1, none⟩ = some (.slice A ns.length cap) := by rw [e_W0]; go_cell
  have r0 : W0.cell? ⟨w.heap.size + 1, 0, none⟩ = some (.int .i64 0) := by rw [e_W0]; go_cell
  have r1 : W0.cell? ⟨w.heap.size + 1, 1, none⟩ = some (.slice none 0 0) := by rw [e_W0]; go_cell
  have rf0 : W0.frozen? ⟨w.heap.size + 1, 0, none⟩ = false := by rw [e_W0]; go_cell
  have rf1 : W0.frozen? ⟨w.heap.size + 1, 1, none⟩ = false := by rw [e_W0]; go_cell
  have hs : w.heap.size + 2 ≤ W0.heap.size := by rw [e_W0]; simp
  go_enter Try.func30, Try.ntmps30
  go_wp2_with fail
  rw [← e_W0]
  clear e_W0
  have hI := (Arg.new hv).below hW
  refine (sImageValid_c (n : Int) _ (casts ns) _ hI.ints).mono ?_
  rintro e wc ⟨rfl, hb⟩
  replace x0 := cellB hb x0
  replace x1 := cellB hb x1
  replace rf0 := frozenB hb r0 rf0
  replace r0 := cellB hb r0
  replace rf1 := frozenB hb r1 rf1
  replace r1 := cellB hb r1
  replace hW := hW.trans (Below.mono hb hW.size)
  replace hs := Nat.le_trans hs hb.size
  replace hI := hI.below hb
  rw [validB_of hV]
  have HV := Lib.hid hv
  clear hv
  go_wp2_with fail
  refine (l1Copy_c (n : Int) _ (casts ns) (by rw [length_casts]; exact h1) (by rw [length_casts]; omega) _ hI.ints).mono ?_
  rintro e wc ⟨g, c, rfl, hg, hr, hb⟩
  rw [length_casts]
  have hgw : w.heap.size + 2 ≤ g := by omega
  have hgB : g < wc.heap.size := hr.lt
  replace x0 := cellB hb x0
  replace x1 := cellB hb x1
  replace rf0 := frozenB hb r0 rf0
  replace r0 := cellB hb r0
  replace rf1 := frozenB hb r1 rf1
  replace r1 := cellB hb r1
  replace hW := hW.trans (Below.mono hb hW.size)
  replace hs := Nat.le_trans hs hb.size
  replace hI := hI.below hb
  obtain ⟨W1, e_W1⟩ : ∃ W0, W0 = World.alloc wc (.cells #[.int .i64 (n : Int), .slice (some ⟨g, 0, none⟩) ns.length c] 27) := ⟨_, rfl⟩
  have hx_W1 := Box2.new wc (.int .i64 (n : Int)) (.slice (some ⟨g, 0, none⟩) ns.length c) 27
  have hb_W1 : Below (World.heap wc).size wc W1 := by rw [e_W1]; go_grown
  have HS_W1 := Lib.hid (show (World.heap W1).size = (World.heap wc).size + 1 by rw [e_W1]; simp)
  replace x0 := cellB hb_W1 x0
  replace x1 := cellB hb_W1 x1
  replace rf0 := frozenB hb_W1 r0 rf0
  replace r0 := cellB hb_W1 r0
  replace rf1 := frozenB hb_W1 r1 rf1
  replace r1 := cellB hb_W1 r1
  replace hW := hW.trans (Below.mono hb_W1 hW.size)
  replace hs := Nat.le_trans hs hb_W1.size
  replace hI := hI.below hb_W1
  replace hr := hr.below hb_W1 hr.lt
  have x0r := x0
  rw [e_W1] at x0r
  have x1r := x1
  rw [e_W1] at x1r
  have HE_W1 := Lib.hid e_W1
  clear e_W1
  go_wp2_with fail
  rw [← HE_W1.out] at hx_W1 ⊢
  clear x0r x1r
  clear HE_W1
  obtain ⟨hl_o, o0, o1⟩ := hx_W1
  obtain ⟨Bo, e_Bo⟩ : ∃ Bx, Bx = (World.heap wc).size := ⟨_, rfl⟩
  rw [← e_Bo] at hl_o o0 o1 hb_W1 HS_W1 hgB ⊢
  have hz_Bo := hb_W1.size
  clear e_Bo hb_W1
  go_wp2_with fail
  go_loopw [5] (fun s wr => ∃ k : Nat, k ≤ ns.length ∧ s = .int .i64 k ∧ IMem w wr n ns.length g c Bo cap A (fillTo n ns k 0)) (fun s _ => ns.length - (intOf s).toNat)
  case atStart => exact ⟨0, by omega, rfl, by rw [fillTo_zero hV]; exact ⟨hr, hW, x0, x1, r0, r1, rf0, rf1, o0, o1⟩⟩
  case round =>
    clear hr hW x0 x1 r0 r1 rf0 rf1 o0 o1 hI hs
    obtain ⟨k, hk, rfl, hm⟩ := hrel
    by_cases hkl : k < ns.length
    · have x1 := hm.x1
      have hki : ((k : Int) < (ns.length : Int)) := by omega
      go_wp2_with fail
      clear x1
      go_loopw [6] (fun s wr => ∃ l : Nat, l ≤ n ∧ s = .int .i64 l ∧ IMem w wr n ns.length g c Bo cap A (fillTo n ns k l)) (fun s _ => n - (intOf s).toNat)
      case atStart => exact ⟨0, by omega, rfl, hm⟩
      case round =>
        clear hm
        obtain ⟨l, hl, rfl, hm⟩ := hrel
        have x0 := hm.x0
        have x1 := hm.x1
        by_cases hll : l < n
        · have hI := (Arg.new HV.out).below hm.bel
          go_wp2_with fail
          refine (l32Hole_c n _ ns hV k l hkl hll _ hI.ints).mono ?_
          rintro e wc ⟨rfl, hb⟩
          replace hm := hm.below hb
          have o0 := hm.o0
          have o1 := hm.o1
          clear x0 x1 hI
          cases hh : holeB n ns (k, l) with
          | false =>
            rw [← fillTo_no hh] at hm
            clear hh
            go_wp2
            go_roundw
            case rel => exact ⟨l + 1, by omega, by go_num, hm⟩
            case measure => simp [intOf]; omega
          | true =>
            have hst := fillTo_yes hkl hll hh
            have hr64 := ((sized_fillTo (n := n) (ns := ns) k l).vimg h1 h6 w1 w6).get64 k
            have HC := Lib.hid (l1Put_h (n : Int) g c ns.length (fillTo n ns k l) (length_fillTo k l) k l hkl (by omega) hr64 true wc hm.row)
            have HST := Lib.hid hst
            clear hh hst hr64
            go_wp2_with fail
            refine HC.out.mono ?_
            rintro e w5 ⟨rfl, hr5, ho5⟩
            rw [← HST.out] at hr5
            have hm5 := hm.put hgw hgB hr5 ho5
            clear hm hr5 ho5 o0 o1 HC
            go_wp2
            go_roundw
            case rel => exact ⟨l + 1, by omega, by go_num, hm5⟩
            case measure => simp [intOf]; omega
        · obtain rfl : l = n := by omega
          rw [fillTo_row] at hm
          go_wp2
          go_roundw
          case rel => exact ⟨k + 1, by omega, by go_num, hm⟩
          case measure => simp [intOf]; omega
    · obtain rfl : k = ns.length := by omega
      rw [fillTo_all] at hm
      have x1 := hm.x1
      have o0 := hm.o0
      have o1 := hm.o1
      have r0 := hm.r0
      have r1 := hm.r1
      have rf0 := hm.rf0
      have rf1 := hm.rf1
      obtain ⟨q0, q1⟩ := set2_get (x := .int .i64 (n : Int)) (y := .slice (some ⟨g, 0, none⟩) ns.length c) r0 r1
      have HE := Lib.hid (hm.fin hgw (show (fillL n ns).length = ns.length from length_mk _ _ _))
      clear hm
      go_wp2
      refine bodyPost_ret (res_img_b rfl _ _ rfl q0 q1) rfl ?_
      exact HE.out
set_option maxHeartbeats 2000000 in
theorem sImageFill_no (W : Int) (v : Value) (rows : List Int) (hn : validB W rows = false) (w : World) (hv : Ints w.heap.size w v rows) :
    Calls Try.prog 30 #[.agg #[.int .i64 W, v]] w (NoImg w) := by
  obtain ⟨A, cap, rfl⟩ := hv.len
  obtain ⟨W0, e_W0⟩ : ∃ W1, W1 = (w.alloc (.cells #[.int .i64 W, .slice A rows.length cap] 27)).alloc (.cells #[.int .i64 0, .slice none 0 0] 27) := ⟨_, rfl⟩
  have hW : Below w.heap.size w W0 := by rw [e_W0]; go_grown
  have x0 : W0.cell? ⟨w.heap.size, 0, none⟩ = some (.int .i64 W) := by rw [e_W0]; go_cell
  have x1 : W0.cell? ⟨w.heap.size, 1, none⟩ = some (.slice A rows.length cap) := by rw [e_W0]; go_cell
  have r0 : W0.cell? ⟨w.heap.size + 1, 0, none⟩ = some (.int .i64 0) := by rw [e_W0]; go_cell
  have r1 : W0.cell? ⟨w.heap.size + 1, 1, none⟩ = some (.slice none 0 0) := by rw [e_W0]; go_cell
  have rf0 : W0.frozen? ⟨w.heap.size + 1, 0, none⟩ = false := by rw [e_W0]; go_cell
  have rf1 : W0.frozen? ⟨w.heap.size + 1, 1, none⟩ = false := by rw [e_W0]; go_cell
  have hs : w.heap.size + 2 ≤ W0.heap.size := by rw [e_W0]; simp
  go_enter Try.func30, Try.ntmps30
  go_wp2_with fail
  rw [← e_W0]
  clear e_W0
  have hI := (Arg.new hv).below hW
  refine (sImageValid_c W _ rows _ hI.ints).mono ?_
  rintro e wc ⟨rfl, hb⟩
  replace x0 := cellB hb x0
  replace x1 := cellB hb x1
  replace rf0 := frozenB hb r0 rf0
  replace r0 := cellB hb r0
  replace rf1 := frozenB hb r1 rf1
  replace r1 := cellB hb r1
  replace hW := hW.trans (Below.mono hb hW.size)
  replace hs := Nat.le_trans hs hb.size
  replace hI := hI.below hb
  rw [hn]
  obtain ⟨q0, q1⟩ := set2_get (x := .int .i64 0) (y := .slice none 0 0) r0 r1
  clear hn hv
  go_wp2
  refine bodyPost_ret (res_img_b rfl _ _ rfl q0 q1) rfl ?_
  exact ⟨rfl, (hW.setCell (by simp) _).setCell (by simp) _⟩
end Go.Proofs.Ytbblbdacdpokeaa
