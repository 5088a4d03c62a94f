/- Contracts of l11Do and SwitchDo. Conditions: the switch's numbers are naturals up to 6. -/
import Derived.Test.YtfkmkakdkocamaaSW2
namespace Go.Proofs.Ytfkmkakdkocamaa
open Go.RowKit
set_option maxRecDepth 100000 in
set_option maxHeartbeats 8000000 in
theorem l11Do_c (n : Nat) (v : Value) (ns : List Nat) (hV : VImg n ns) (a b c d : Nat) (hsw : swB n ns a b c d = true) (w : World) (hv : Ints w.heap.size w v (casts ns)) :
    Calls Try.prog 15 #[.agg #[.int .i64 (n : Int), v], swV a b c d] w fun e w' => ∃ g c', e = .returned (.agg #[.int .i64 (n : Int), .slice (some ⟨g, 0, none⟩) ns.length c']) ∧ w.heap.size ≤ g ∧ Row w' g (casts (swL ns a b c d)) ∧ Below w.heap.size w w' := by
  obtain ⟨A, cap, rfl⟩ := hv.len
  rw [length_casts] at hv ⊢
  have h6 := hV.h6
  have w6 := hV.w6
  have hin : swIn n ns a b c d = true := by unfold swB at hsw; exact (Bool.and_eq_true_iff.1 hsw).1
  obtain ⟨c1, c2, c3, c4⟩ := swIn_iff.1 hin
  have H := fun W hI => l11Get_c (n : Int) (.slice A ns.length cap) ns a c (by omega) (by omega) (by have := hV.get64 a; omega) W hI
  have hbt : b2i true = 1 := rfl
  have hbf : b2i false = 0 := rfl
  obtain ⟨W0, eW⟩ : ∃ W, W = ((w.alloc (.cells #[.int .i64 (n : Int), .slice A ns.length cap] 25)).alloc (.cells #[.int .i64 (a : Int), .int .i64 (b : Int), .int .i64 (c : Int), .int .i64 (d : Int)] 27)).alloc (.cells #[.int .i64 0, .slice none 0 0] 25) := ⟨_, rfl⟩
  have hW : Below w.heap.size w W0 := by rw [eW]; go_grown
  have x0 : W0.cell? ⟨w.heap.size, 0, none⟩ = some (.int .i64 (n : Int)) := by rw [eW]; go_cell
  have x1 : W0.cell? ⟨w.heap.size, 1, none⟩ = some (.slice A ns.length cap) := by rw [eW]; go_cell
  have s0 : W0.cell? ⟨w.heap.size + 1, 0, none⟩ = some (.int .i64 (a : Int)) := by rw [eW]; go_cell
  have s1 : W0.cell? ⟨w.heap.size + 1, 1, none⟩ = some (.int .i64 (b : Int)) := by rw [eW]; go_cell
  have s2 : W0.cell? ⟨w.heap.size + 1, 2, none⟩ = some (.int .i64 (c : Int)) := by rw [eW]; go_cell
  have s3 : W0.cell? ⟨w.heap.size + 1, 3, none⟩ = some (.int .i64 (d : Int)) := by rw [eW]; go_cell
  have r0 : W0.cell? ⟨w.heap.size + 1 + 1, 0, none⟩ = some (.int .i64 0) := by rw [eW]; go_cell
  have r1 : W0.cell? ⟨w.heap.size + 1 + 1, 1, none⟩ = some (.slice none 0 0) := by rw [eW]; go_cell
  have rf0 : W0.frozen? ⟨w.heap.size + 1 + 1, 0, none⟩ = false := by rw [eW]; go_cell
  have rf1 : W0.frozen? ⟨w.heap.size + 1 + 1, 1, none⟩ = false := by rw [eW]; go_cell
  have hsz : w.heap.size + 3 ≤ W0.heap.size := by rw [eW]; simp
  have hI := (Arg.new hv).below hW
  have e1 := vimg_putL hV (i := a) (j := c) (by omega) (by omega) (!cell ns a c)
  have e2 := vimg_putL e1 (i := b) (j := d) (by rw [length_putL]; omega) c4 (!cell ns a c)
  have e3 := vimg_putL e2 (i := a) (j := d) (by rw [length_putL, length_putL]; omega) c4 (cell ns a c)
  clear hv hin hsw
  unfold swV
  go_enter Try.func15, Try.ntmps15
  go_wp2_with fail
  rw [← eW]
  clear eW
  refine (l1Copy_c (n : Int) _ (casts ns) (by rw [length_casts]; exact hV.h1) (by rw [length_casts]; omega) W0 hI.ints).mono ?_
  rintro e wc ⟨g, cg, rfl, hg, hR, hb⟩
  rw [length_casts]
  have hgw : w.heap.size + 3 ≤ g := by omega
  have hgl := hR.lt
  clear hg
  replace x0 := cellB hb x0
  replace x1 := cellB hb x1
  replace s0 := cellB hb s0
  replace s1 := cellB hb s1
  replace s2 := cellB hb s2
  replace s3 := cellB hb s3
  replace rf0 := frozenB hb r0 rf0
  replace r0 := cellB hb r0
  replace rf1 := frozenB hb r1 rf1
  replace r1 := cellB hb r1
  replace hI := hI.below hb
  replace hW := hW.trans (Below.mono hb hW.size)
  replace hsz := Nat.le_trans hsz hb.size
  obtain ⟨W1, e_W1⟩ : ∃ W0, W0 = World.alloc wc (.cells #[.int .i64 (n : Int), .slice (some ⟨g, 0, none⟩) ns.length cg] 25) := ⟨_, rfl⟩
  have hx_W1 := Box2.new wc (.int .i64 (n : Int)) (.slice (some ⟨g, 0, none⟩) ns.length cg) 25
  have hb_W1 : Below (World.heap wc).size wc W1 := by rw [e_W1]; go_grown
  have HS_W1 := Lib.hid (show (World.heap W1).size = (World.heap wc).size + 1 by rw [e_W1]; simp)
  replace x0 := cellB hb_W1 x0
  replace x1 := cellB hb_W1 x1
  replace s0 := cellB hb_W1 s0
  replace s1 := cellB hb_W1 s1
  replace s2 := cellB hb_W1 s2
  replace s3 := cellB hb_W1 s3
  replace rf0 := frozenB hb_W1 r0 rf0
  replace r0 := cellB hb_W1 r0
  replace rf1 := frozenB hb_W1 r1 rf1
  replace r1 := cellB hb_W1 r1
  replace hI := hI.below hb_W1
  replace hW := hW.trans (Below.mono hb_W1 hW.size)
  replace hsz := Nat.le_trans hsz hb_W1.size
  replace hR := hR.below hb_W1 hR.lt
  have x0r := x0
  rw [e_W1] at x0r
  have x1r := x1
  rw [e_W1] at x1r
  have s0r := s0
  rw [e_W1] at s0r
  have s1r := s1
  rw [e_W1] at s1r
  have s2r := s2
  rw [e_W1] at s2r
  have s3r := s3
  rw [e_W1] at s3r
  have HE_W1 := Lib.hid e_W1
  clear e_W1
  go_wp2_with fail
  rw [← HE_W1.out] at hx_W1 ⊢
  clear x0r x1r s0r s1r s2r s3r
  clear HE_W1
  obtain ⟨hl_y, y0, y1⟩ := hx_W1
  obtain ⟨By, e_By⟩ : ∃ Bx, Bx = (World.heap wc).size := ⟨_, rfl⟩
  rw [← e_By] at hl_y y0 y1 hb_W1 HS_W1 hgl ⊢
  have hz_By := hb_W1.size
  clear e_By hb_W1
  have hyg : By ≠ g := by omega
  refine (H _ hI.ints).mono ?_
  rintro e wc ⟨rfl, hb⟩
  replace x0 := cellB hb x0
  replace x1 := cellB hb x1
  replace s0 := cellB hb s0
  replace s1 := cellB hb s1
  replace s2 := cellB hb s2
  replace s3 := cellB hb s3
  replace rf0 := frozenB hb r0 rf0
  replace r0 := cellB hb r0
  replace rf1 := frozenB hb r1 rf1
  replace r1 := cellB hb r1
  replace hI := hI.below hb
  replace hW := hW.trans (Below.mono hb hW.size)
  replace hsz := Nat.le_trans hsz hb.size
  replace hR := hR.below hb hR.lt
  replace y0 := cellB hb y0
  replace y1 := cellB hb y1
  clear H
  have hsl : swL ns a b c d = putL (putL (putL (putL ns a c (!cell ns a c)) b d (!cell ns a c)) a d (cell ns a c)) b c (cell ns a c) := rfl
  obtain ⟨m1, em1⟩ : ∃ m, m = putL ns a c (!cell ns a c) := ⟨_, rfl⟩
  rw [← em1] at e1 e2 e3 hsl
  obtain ⟨m2, em2⟩ : ∃ m, m = putL m1 b d (!cell ns a c) := ⟨_, rfl⟩
  rw [← em2] at e2 e3 hsl
  obtain ⟨m3, em3⟩ : ∃ m, m = putL m2 a d (cell ns a c) := ⟨_, rfl⟩
  rw [← em3] at e3 hsl
  obtain ⟨m4, em4⟩ : ∃ m, m = putL m3 b c (cell ns a c) := ⟨_, rfl⟩
  rw [← em4] at hsl
  have HM := Lib.hid (show ns.length = ns.length ∧ m1.length = ns.length ∧ m2.length = ns.length ∧ m3.length = ns.length from ⟨rfl, by rw [em1, length_putL], by rw [em2, em1, length_putL, length_putL], by rw [em3, em2, em1, length_putL, length_putL, length_putL]⟩)
  have HGns := hV.get64
  have HGm1 := e1.get64
  have HGm2 := e2.get64
  have HGm3 := e3.get64
  have HSL := Lib.hid hsl
  cases hX : cell ns a c with
  | false =>
    rw [hX] at em1 em2 em3 em4
    have HD := Lib.hid (show putL ns a c true = m1 ∧ putL m1 b d true = m2 ∧ putL m2 a d false = m3 ∧ putL m3 b c false = m4 from ⟨em1.symm, em2.symm, em3.symm, em4.symm⟩)
    clear em1 em2 em3 em4 hX hsl e1 e2 e3
    go_wp2_with fail
    refine (l1Put_h (n : Int) g cg ns.length ns rfl a c (by omega) (by omega) (HGns a) true _ hR).mono ?_
    rintro e wc ⟨rfl, hR', hgr⟩
    rw [show putL ns a c true = m1 from HD.out.1] at hR'
    replace x0 := cell_only hgr x0 (by first | assumption | omega | (simp; omega))
    replace x1 := cell_only hgr x1 (by first | assumption | omega | (simp; omega))
    replace s0 := cell_only hgr s0 (by first | assumption | omega | (simp; omega))
    replace s1 := cell_only hgr s1 (by first | assumption | omega | (simp; omega))
    replace s2 := cell_only hgr s2 (by first | assumption | omega | (simp; omega))
    replace s3 := cell_only hgr s3 (by first | assumption | omega | (simp; omega))
    replace rf0 := frozen_only hgr r0 (by first | assumption | omega | (simp; omega)) rf0
    replace r0 := cell_only hgr r0 (by first | assumption | omega | (simp; omega))
    replace rf1 := frozen_only hgr r1 (by first | assumption | omega | (simp; omega)) rf1
    replace r1 := cell_only hgr r1 (by first | assumption | omega | (simp; omega))
    replace hI := hI.only hgr (by first | assumption | omega | (simp; omega))
    replace hW := bel_only hW hgr (by first | assumption | omega | (simp; omega))
    replace hsz := Nat.le_trans hsz hgr.size
    replace y0 := cell_only hgr y0 (by first | assumption | omega | (simp; omega))
    replace y1 := cell_only hgr y1 (by first | assumption | omega | (simp; omega))
    clear hR hgr
    have hR := hR'
    clear hR'
    go_wp2_with fail
    refine (l1Put_h (n : Int) g cg ns.length m1 HM.out.2.1 b d (by omega) (by omega) (HGm1 b) true _ hR).mono ?_
    rintro e wc ⟨rfl, hR', hgr⟩
    rw [show putL m1 b d true = m2 from HD.out.2.1] at hR'
    replace x0 := cell_only hgr x0 (by first | assumption | omega | (simp; omega))
    replace x1 := cell_only hgr x1 (by first | assumption | omega | (simp; omega))
    replace s0 := cell_only hgr s0 (by first | assumption | omega | (simp; omega))
    replace s1 := cell_only hgr s1 (by first | assumption | omega | (simp; omega))
    replace s2 := cell_only hgr s2 (by first | assumption | omega | (simp; omega))
    replace s3 := cell_only hgr s3 (by first | assumption | omega | (simp; omega))
    replace rf0 := frozen_only hgr r0 (by first | assumption | omega | (simp; omega)) rf0
    replace r0 := cell_only hgr r0 (by first | assumption | omega | (simp; omega))
    replace rf1 := frozen_only hgr r1 (by first | assumption | omega | (simp; omega)) rf1
    replace r1 := cell_only hgr r1 (by first | assumption | omega | (simp; omega))
    replace hI := hI.only hgr (by first | assumption | omega | (simp; omega))
    replace hW := bel_only hW hgr (by first | assumption | omega | (simp; omega))
    replace hsz := Nat.le_trans hsz hgr.size
    replace y0 := cell_only hgr y0 (by first | assumption | omega | (simp; omega))
    replace y1 := cell_only hgr y1 (by first | assumption | omega | (simp; omega))
    clear hR hgr
    have hR := hR'
    clear hR'
    go_wp2_with fail
    refine (l1Put_h (n : Int) g cg ns.length m2 HM.out.2.2.1 a d (by omega) (by omega) (HGm2 a) false _ hR).mono ?_
    rintro e wc ⟨rfl, hR', hgr⟩
    rw [show putL m2 a d false = m3 from HD.out.2.2.1] at hR'
    replace x0 := cell_only hgr x0 (by first | assumption | omega | (simp; omega))
    replace x1 := cell_only hgr x1 (by first | assumption | omega | (simp; omega))
    replace s0 := cell_only hgr s0 (by first | assumption | omega | (simp; omega))
    replace s1 := cell_only hgr s1 (by first | assumption | omega | (simp; omega))
    replace s2 := cell_only hgr s2 (by first | assumption | omega | (simp; omega))
    replace s3 := cell_only hgr s3 (by first | assumption | omega | (simp; omega))
    replace rf0 := frozen_only hgr r0 (by first | assumption | omega | (simp; omega)) rf0
    replace r0 := cell_only hgr r0 (by first | assumption | omega | (simp; omega))
    replace rf1 := frozen_only hgr r1 (by first | assumption | omega | (simp; omega)) rf1
    replace r1 := cell_only hgr r1 (by first | assumption | omega | (simp; omega))
    replace hI := hI.only hgr (by first | assumption | omega | (simp; omega))
    replace hW := bel_only hW hgr (by first | assumption | omega | (simp; omega))
    replace hsz := Nat.le_trans hsz hgr.size
    replace y0 := cell_only hgr y0 (by first | assumption | omega | (simp; omega))
    replace y1 := cell_only hgr y1 (by first | assumption | omega | (simp; omega))
    clear hR hgr
    have hR := hR'
    clear hR'
    go_wp2_with fail
    refine (l1Put_h (n : Int) g cg ns.length m3 HM.out.2.2.2 b c (by omega) (by omega) (HGm3 b) false _ hR).mono ?_
    rintro e wc ⟨rfl, hR', hgr⟩
    rw [show putL m3 b c false = m4 from HD.out.2.2.2] at hR'
    replace x0 := cell_only hgr x0 (by first | assumption | omega | (simp; omega))
    replace x1 := cell_only hgr x1 (by first | assumption | omega | (simp; omega))
    replace s0 := cell_only hgr s0 (by first | assumption | omega | (simp; omega))
    replace s1 := cell_only hgr s1 (by first | assumption | omega | (simp; omega))
    replace s2 := cell_only hgr s2 (by first | assumption | omega | (simp; omega))
    replace s3 := cell_only hgr s3 (by first | assumption | omega | (simp; omega))
    replace rf0 := frozen_only hgr r0 (by first | assumption | omega | (simp; omega)) rf0
    replace r0 := cell_only hgr r0 (by first | assumption | omega | (simp; omega))
    replace rf1 := frozen_only hgr r1 (by first | assumption | omega | (simp; omega)) rf1
    replace r1 := cell_only hgr r1 (by first | assumption | omega | (simp; omega))
    replace hI := hI.only hgr (by first | assumption | omega | (simp; omega))
    replace hW := bel_only hW hgr (by first | assumption | omega | (simp; omega))
    replace hsz := Nat.le_trans hsz hgr.size
    replace y0 := cell_only hgr y0 (by first | assumption | omega | (simp; omega))
    replace y1 := cell_only hgr y1 (by first | assumption | omega | (simp; omega))
    clear hR hgr
    have hR := hR'
    clear hR'
    obtain ⟨q0, q1⟩ := set2_get (x := .int .i64 (n : Int)) (y := .slice (some ⟨g, 0, none⟩) ns.length cg) r0 r1
    have HO := Lib.hid (And.intro ((hR.far (p := ⟨w.heap.size + 1 + 1, 0, none⟩) (by simp; omega) (.int .i64 (n : Int))).far (p := ⟨w.heap.size + 1 + 1, 1, none⟩) (by simp; omega) (.slice (some ⟨g, 0, none⟩) ns.length cg)) ((hW.setCell (p := ⟨w.heap.size + 1 + 1, 0, none⟩) (by simp; omega) (.int .i64 (n : Int))).setCell (p := ⟨w.heap.size + 1 + 1, 1, none⟩) (by simp; omega) (.slice (some ⟨g, 0, none⟩) ns.length cg)))
    clear hR hW HD HGns HGm1 HGm2 HGm3
    go_wp2
    refine bodyPost_ret (res_img rfl _ _ rfl q0 q1) rfl ?_
    exact ⟨g, cg, rfl, by omega, by rw [HSL.out]; exact HO.out.1, HO.out.2⟩
  | true =>
    rw [hX] at em1 em2 em3 em4
    have HD := Lib.hid (show putL ns a c false = m1 ∧ putL m1 b d false = m2 ∧ putL m2 a d true = m3 ∧ putL m3 b c true = m4 from ⟨em1.symm, em2.symm, em3.symm, em4.symm⟩)
    clear em1 em2 em3 em4 hX hsl e1 e2 e3
    go_wp2_with fail
    refine (l1Put_h (n : Int) g cg ns.length ns rfl a c (by omega) (by omega) (HGns a) false _ hR).mono ?_
    rintro e wc ⟨rfl, hR', hgr⟩
    rw [show putL ns a c false = m1 from HD.out.1] at hR'
    replace x0 := cell_only hgr x0 (by first | assumption | omega | (simp; omega))
    replace x1 := cell_only hgr x1 (by first | assumption | omega | (simp; omega))
    replace s0 := cell_only hgr s0 (by first | assumption | omega | (simp; omega))
    replace s1 := cell_only hgr s1 (by first | assumption | omega | (simp; omega))
    replace s2 := cell_only hgr s2 (by first | assumption | omega | (simp; omega))
    replace s3 := cell_only hgr s3 (by first | assumption | omega | (simp; omega))
    replace rf0 := frozen_only hgr r0 (by first | assumption | omega | (simp; omega)) rf0
    replace r0 := cell_only hgr r0 (by first | assumption | omega | (simp; omega))
    replace rf1 := frozen_only hgr r1 (by first | assumption | omega | (simp; omega)) rf1
    replace r1 := cell_only hgr r1 (by first | assumption | omega | (simp; omega))
    replace hI := hI.only hgr (by first | assumption | omega | (simp; omega))
    replace hW := bel_only hW hgr (by first | assumption | omega | (simp; omega))
    replace hsz := Nat.le_trans hsz hgr.size
    replace y0 := cell_only hgr y0 (by first | assumption | omega | (simp; omega))
    replace y1 := cell_only hgr y1 (by first | assumption | omega | (simp; omega))
    clear hR hgr
    have hR := hR'
    clear hR'
    go_wp2_with fail
    refine (l1Put_h (n : Int) g cg ns.length m1 HM.out.2.1 b d (by omega) (by omega) (HGm1 b) false _ hR).mono ?_
    rintro e wc ⟨rfl, hR', hgr⟩
    rw [show putL m1 b d false = m2 from HD.out.2.1] at hR'
    replace x0 := cell_only hgr x0 (by first | assumption | omega | (simp; omega))
    replace x1 := cell_only hgr x1 (by first | assumption | omega | (simp; omega))
    replace s0 := cell_only hgr s0 (by first | assumption | omega | (simp; omega))
    replace s1 := cell_only hgr s1 (by first | assumption | omega | (simp; omega))
    replace s2 := cell_only hgr s2 (by first | assumption | omega | (simp; omega))
    replace s3 := cell_only hgr s3 (by first | assumption | omega | (simp; omega))
    replace rf0 := frozen_only hgr r0 (by first | assumption | omega | (simp; omega)) rf0
    replace r0 := cell_only hgr r0 (by first | assumption | omega | (simp; omega))
    replace rf1 := frozen_only hgr r1 (by first | assumption | omega | (simp; omega)) rf1
    replace r1 := cell_only hgr r1 (by first | assumption | omega | (simp; omega))
    replace hI := hI.only hgr (by first | assumption | omega | (simp; omega))
    replace hW := bel_only hW hgr (by first | assumption | omega | (simp; omega))
    replace hsz := Nat.le_trans hsz hgr.size
    replace y0 := cell_only hgr y0 (by first | assumption | omega | (simp; omega))
    replace y1 := cell_only hgr y1 (by first | assumption | omega | (simp; omega))
    clear hR hgr
    have hR := hR'
    clear hR'
    go_wp2_with fail
    refine (l1Put_h (n : Int) g cg ns.length m2 HM.out.2.2.1 a d (by omega) (by omega) (HGm2 a) true _ hR).mono ?_
    rintro e wc ⟨rfl, hR', hgr⟩
    rw [show putL m2 a d true = m3 from HD.out.2.2.1] at hR'
    replace x0 := cell_only hgr x0 (by first | assumption | omega | (simp; omega))
    replace x1 := cell_only hgr x1 (by first | assumption | omega | (simp; omega))
    replace s0 := cell_only hgr s0 (by first | assumption | omega | (simp; omega))
    replace s1 := cell_only hgr s1 (by first | assumption | omega | (simp; omega))
    replace s2 := cell_only hgr s2 (by first | assumption | omega | (simp; omega))
    replace s3 := cell_only hgr s3 (by first | assumption | omega | (simp; omega))
    replace rf0 := frozen_only hgr r0 (by first | assumption | omega | (simp; omega)) rf0
    replace r0 := cell_only hgr r0 (by first | assumption | omega | (simp; omega))
    replace rf1 := frozen_only hgr r1 (by first | assumption | omega | (simp; omega)) rf1
    replace r1 := cell_only hgr r1 (by first | assumption | omega | (simp; omega))
    replace hI := hI.only hgr (by first | assumption | omega | (simp; omega))
    replace hW := bel_only hW hgr (by first | assumption | omega | (simp; omega))
    replace hsz := Nat.le_trans hsz hgr.size
    replace y0 := cell_only hgr y0 (by first | assumption | omega | (simp; omega))
    replace y1 := cell_only hgr y1 (by first | assumption | omega | (simp; omega))
    clear hR hgr
    have hR := hR'
    clear hR'
    go_wp2_with fail
    refine (l1Put_h (n : Int) g cg ns.length m3 HM.out.2.2.2 b c (by omega) (by omega) (HGm3 b) true _ hR).mono ?_
    rintro e wc ⟨rfl, hR', hgr⟩
    rw [show putL m3 b c true = m4 from HD.out.2.2.2] at hR'
    replace x0 := cell_only hgr x0 (by first | assumption | omega | (simp; omega))
    replace x1 := cell_only hgr x1 (by first | assumption | omega | (simp; omega))
    replace s0 := cell_only hgr s0 (by first | assumption | omega | (simp; omega))
    replace s1 := cell_only hgr s1 (by first | assumption | omega | (simp; omega))
    replace s2 := cell_only hgr s2 (by first | assumption | omega | (simp; omega))
    replace s3 := cell_only hgr s3 (by first | assumption | omega | (simp; omega))
    replace rf0 := frozen_only hgr r0 (by first | assumption | omega | (simp; omega)) rf0
    replace r0 := cell_only hgr r0 (by first | assumption | omega | (simp; omega))
    replace rf1 := frozen_only hgr r1 (by first | assumption | omega | (simp; omega)) rf1
    replace r1 := cell_only hgr r1 (by first | assumption | omega | (simp; omega))
    replace hI := hI.only hgr (by first | assumption | omega | (simp; omega))
    replace hW := bel_only hW hgr (by first | assumption | omega | (simp; omega))
    replace hsz := Nat.le_trans hsz hgr.size
    replace y0 := cell_only hgr y0 (by first | assumption | omega | (simp; omega))
    replace y1 := cell_only hgr y1 (by first | assumption | omega | (simp; omega))
    clear hR hgr
    have hR := hR'
    clear hR'
    obtain ⟨q0, q1⟩ := set2_get (x := .int .i64 (n : Int)) (y := .slice (some ⟨g, 0, none⟩) ns.length cg) r0 r1
    have HO := Lib.hid (And.intro ((hR.far (p := ⟨w.heap.size + 1 + 1, 0, none⟩) (by simp; omega) (.int .i64 (n : Int))).far (p := ⟨w.heap.size + 1 + 1, 1, none⟩) (by simp; omega) (.slice (some ⟨g, 0, none⟩) ns.length cg)) ((hW.setCell (p := ⟨w.heap.size + 1 + 1, 0, none⟩) (by simp; omega) (.int .i64 (n : Int))).setCell (p := ⟨w.heap.size + 1 + 1, 1, none⟩) (by simp; omega) (.slice (some ⟨g, 0, none⟩) ns.length cg)))
    clear hR hW HD HGns HGm1 HGm2 HGm3
    go_wp2
    refine bodyPost_ret (res_img rfl _ _ rfl q0 q1) rfl ?_
    exact ⟨g, cg, rfl, by omega, by rw [HSL.out]; exact HO.out.1, HO.out.2⟩
set_option maxRecDepth 100000 in
set_option maxHeartbeats 4000000 in
theorem SwitchDo_no (W : Int) (v : Value) (rows : List Int) (a b c d : Nat) (ha : a ≤ 6) (hb : b ≤ 6) (hc : c ≤ 6) (hd : d ≤ 6) (hz : swZ W rows a b c d = false) (w : World) (hv : Ints w.heap.size w v rows) :
    Calls Try.prog 5 #[.agg #[.int .i64 W, v], swV a b c d] w fun e w' => e = .returned (.tuple #[.agg #[.int .i64 0, .slice none 0 0], .bool false]) ∧ Below w.heap.size w w' := by
  obtain ⟨A, cap, rfl⟩ := hv.len
  obtain ⟨W0, eW⟩ : ∃ Wx, Wx = ((w.alloc (.cells #[.int .i64 W, .slice A rows.length cap] 25)).alloc (.cells #[.int .i64 (a : Int), .int .i64 (b : Int), .int .i64 (c : Int), .int .i64 (d : Int)] 27)).alloc (.cells #[.int .i64 0, .slice none 0 0] 25) := ⟨_, rfl⟩
  have hW : Below w.heap.size w W0 := by rw [eW]; go_grown
  have x0 : W0.cell? ⟨w.heap.size, 0, none⟩ = some (.int .i64 W) := by rw [eW]; go_cell
  have x1 : W0.cell? ⟨w.heap.size, 1, none⟩ = some (.slice A rows.length cap) := by rw [eW]; go_cell
  have s0 : W0.cell? ⟨w.heap.size + 1, 0, none⟩ = some (.int .i64 (a : Int)) := by rw [eW]; go_cell
  have s1 : W0.cell? ⟨w.heap.size + 1, 1, none⟩ = some (.int .i64 (b : Int)) := by rw [eW]; go_cell
  have s2 : W0.cell? ⟨w.heap.size + 1, 2, none⟩ = some (.int .i64 (c : Int)) := by rw [eW]; go_cell
  have s3 : W0.cell? ⟨w.heap.size + 1, 3, none⟩ = some (.int .i64 (d : Int)) := by rw [eW]; go_cell
  have r0 : W0.cell? ⟨w.heap.size + 1 + 1, 0, none⟩ = some (.int .i64 0) := by rw [eW]; go_cell
  have r1 : W0.cell? ⟨w.heap.size + 1 + 1, 1, none⟩ = some (.slice none 0 0) := by rw [eW]; go_cell
  have rf0 : W0.frozen? ⟨w.heap.size + 1 + 1, 0, none⟩ = false := by rw [eW]; go_cell
  have rf1 : W0.frozen? ⟨w.heap.size + 1 + 1, 1, none⟩ = false := by rw [eW]; go_cell
  have hsz : w.heap.size + 3 ≤ W0.heap.size := by rw [eW]; simp
  have hI := (Arg.new hv).below hW
  clear hv
  have HK := fun Wx hI => SwitchOk_c W (.slice A rows.length cap) rows a b c d ha hb hc hd Wx hI
  rw [hz] at HK
  unfold swV at HK
  unfold swV
  go_enter Try.func5, Try.ntmps5
  go_wp2_with fail
  rw [← eW]
  clear eW
  refine (HK _ hI.ints).mono ?_
  rintro e wc ⟨rfl, hb1⟩
  replace x0 := cellB hb1 x0
  replace x1 := cellB hb1 x1
  replace s0 := cellB hb1 s0
  replace s1 := cellB hb1 s1
  replace s2 := cellB hb1 s2
  replace s3 := cellB hb1 s3
  replace rf0 := frozenB hb1 r0 rf0
  replace r0 := cellB hb1 r0
  replace rf1 := frozenB hb1 r1 rf1
  replace r1 := cellB hb1 r1
  replace hI := hI.below hb1
  replace hW := hW.trans (Below.mono hb1 hW.size)
  replace hsz := Nat.le_trans hsz hb1.size
  obtain ⟨q0, q1⟩ := set2_get (x := .int .i64 0) (y := .slice none 0 0) r0 r1
  clear HK hz
  go_wp2
  refine bodyPost_ret (res_img_b rfl _ _ rfl q0 q1) rfl ?_
  exact ⟨rfl, (hW.setCell (by simp; omega) _).setCell (by simp; omega) _⟩
set_option maxRecDepth 100000 in
set_option maxHeartbeats 4000000 in
theorem SwitchDo_yes (n : Nat) (v : Value) (ns : List Nat) (hV : VImg n ns) (a b c d : Nat) (ha : a ≤ 6) (hb : b ≤ 6) (hc : c ≤ 6) (hd : d ≤ 6) (hsw : swB n ns a b c d = true) (w : World) (hv : Ints w.heap.size w v (casts ns)) :
    Calls Try.prog 5 #[.agg #[.int .i64 (n : Int), v], swV a b c d] w fun e w' => ∃ g c', e = .returned (.tuple #[.agg #[.int .i64 (n : Int), .slice (some ⟨g, 0, none⟩) ns.length c'], .bool true]) ∧ w.heap.size ≤ g ∧ Row w' g (casts (swL ns a b c d)) ∧ Below w.heap.size w w' := by
  have hz : swZ (n : Int) (casts ns) a b c d = true := by unfold swZ; rw [validB_of hV, casts_nat, Int.toNat_natCast, hsw]; rfl
  obtain ⟨A, cap, rfl⟩ := hv.len
  obtain ⟨W0, eW⟩ : ∃ Wx, Wx = ((w.alloc (.cells #[.int .i64 (n : Int), .slice A (casts ns).length cap] 25)).alloc (.cells #[.int .i64 (a : Int), .int .i64 (b : Int), .int .i64 (c : Int), .int .i64 (d : Int)] 27)).alloc (.cells #[.int .i64 0, .slice none 0 0] 25) := ⟨_, rfl⟩
  have hW : Below w.heap.size w W0 := by rw [eW]; go_grown
  have x0 : W0.cell? ⟨w.heap.size, 0, none⟩ = some (.int .i64 (n : Int)) := by rw [eW]; go_cell
  have x1 : W0.cell? ⟨w.heap.size, 1, none⟩ = some (.slice A (casts ns).length cap) := by rw [eW]; go_cell
  have s0 : W0.cell? ⟨w.heap.size + 1, 0, none⟩ = some (.int .i64 (a : Int)) := by rw [eW]; go_cell
  have s1 : W0.cell? ⟨w.heap.size + 1, 1, none⟩ = some (.int .i64 (b : Int)) := by rw [eW]; go_cell
  have s2 : W0.cell? ⟨w.heap.size + 1, 2, none⟩ = some (.int .i64 (c : Int)) := by rw [eW]; go_cell
  have s3 : W0.cell? ⟨w.heap.size + 1, 3, none⟩ = some (.int .i64 (d : Int)) := by rw [eW]; go_cell
  have r0 : W0.cell? ⟨w.heap.size + 1 + 1, 0, none⟩ = some (.int .i64 0) := by rw [eW]; go_cell
  have r1 : W0.cell? ⟨w.heap.size + 1 + 1, 1, none⟩ = some (.slice none 0 0) := by rw [eW]; go_cell
  have rf0 : W0.frozen? ⟨w.heap.size + 1 + 1, 0, none⟩ = false := by rw [eW]; go_cell
  have rf1 : W0.frozen? ⟨w.heap.size + 1 + 1, 1, none⟩ = false := by rw [eW]; go_cell
  have hsz : w.heap.size + 3 ≤ W0.heap.size := by rw [eW]; simp
  have hI := (Arg.new hv).below hW
  clear hv
  have HK := fun Wx hI => SwitchOk_c (n : Int) (.slice A (casts ns).length cap) (casts ns) a b c d ha hb hc hd Wx hI
  have HD := fun Wx hI => switched_c n (.slice A (casts ns).length cap) ns hV a b c d hsw Wx hI
  rw [hz] at HK
  unfold swV at HK HD
  unfold swV
  go_enter Try.func5, Try.ntmps5
  go_wp2_with fail
  rw [← eW]
  clear eW
  refine (HK _ hI.ints).mono ?_
  rintro e wc ⟨rfl, hb1⟩
  replace x0 := cellB hb1 x0
  replace x1 := cellB hb1 x1
  replace s0 := cellB hb1 s0
  replace s1 := cellB hb1 s1
  replace s2 := cellB hb1 s2
  replace s3 := cellB hb1 s3
  replace rf0 := frozenB hb1 r0 rf0
  replace r0 := cellB hb1 r0
  replace rf1 := frozenB hb1 r1 rf1
  replace r1 := cellB hb1 r1
  replace hI := hI.below hb1
  replace hW := hW.trans (Below.mono hb1 hW.size)
  replace hsz := Nat.le_trans hsz hb1.size
  clear hz HK
  go_wp2_with fail
  refine (HD _ hI.ints).mono ?_
  rintro e wc ⟨g, cg, rfl, hg, hR, hb1⟩
  have hgw : w.heap.size + 3 ≤ g := by omega
  replace x0 := cellB hb1 x0
  replace x1 := cellB hb1 x1
  replace s0 := cellB hb1 s0
  replace s1 := cellB hb1 s1
  replace s2 := cellB hb1 s2
  replace s3 := cellB hb1 s3
  replace rf0 := frozenB hb1 r0 rf0
  replace r0 := cellB hb1 r0
  replace rf1 := frozenB hb1 r1 rf1
  replace r1 := cellB hb1 r1
  replace hI := hI.below hb1
  replace hW := hW.trans (Below.mono hb1 hW.size)
  replace hsz := Nat.le_trans hsz hb1.size
  obtain ⟨q0, q1⟩ := set2_get (x := .int .i64 (n : Int)) (y := .slice (some ⟨g, 0, none⟩) ns.length cg) r0 r1
  have HO := Lib.hid (And.intro ((hR.far (p := ⟨w.heap.size + 1 + 1, 0, none⟩) (by simp; omega) (.int .i64 (n : Int))).far (p := ⟨w.heap.size + 1 + 1, 1, none⟩) (by simp; omega) (.slice (some ⟨g, 0, none⟩) ns.length cg)) ((hW.setCell (p := ⟨w.heap.size + 1 + 1, 0, none⟩) (by simp; omega) (.int .i64 (n : Int))).setCell (p := ⟨w.heap.size + 1 + 1, 1, none⟩) (by simp; omega) (.slice (some ⟨g, 0, none⟩) ns.length cg)))
  clear hR hW HD hsw
  go_wp2
  refine bodyPost_ret (res_img_b rfl _ _ rfl q0 q1) rfl ?_
  exact ⟨g, cg, rfl, by omega, HO.out.1, HO.out.2⟩
set_option maxRecDepth 100000 in
set_option maxHeartbeats 4000000 in
theorem sSwitchDo_no (W : Int) (v : Value) (rows : List Int) (a b c d : Nat) (ha : a ≤ 6) (hb : b ≤ 6) (hc : c ≤ 6) (hd : d ≤ 6) (hz : swZ W rows a b c d = false) (w : World) (hv : Ints w.heap.size w v rows) :
    Calls Try.prog 6 #[.agg #[.int .i64 W, v], swV a b c d] w fun e w' => e = .returned (.tuple #[.agg #[.int .i64 0, .slice none 0 0], .bool false]) ∧ Below w.heap.size w w' := by
  obtain ⟨A, cap, rfl⟩ := hv.len
  obtain ⟨W0, eW⟩ : ∃ Wx, Wx = ((w.alloc (.cells #[.int .i64 W, .slice A rows.length cap] 25)).alloc (.cells #[.int .i64 (a : Int), .int .i64 (b : Int), .int .i64 (c : Int), .int .i64 (d : Int)] 27)).alloc (.cells #[.int .i64 0, .slice none 0 0] 25) := ⟨_, rfl⟩
  have hW : Below w.heap.size w W0 := by rw [eW]; go_grown
  have x0 : W0.cell? ⟨w.heap.size, 0, none⟩ = some (.int .i64 W) := by rw [eW]; go_cell
  have x1 : W0.cell? ⟨w.heap.size, 1, none⟩ = some (.slice A rows.length cap) := by rw [eW]; go_cell
  have s0 : W0.cell? ⟨w.heap.size + 1, 0, none⟩ = some (.int .i64 (a : Int)) := by rw [eW]; go_cell
  have s1 : W0.cell? ⟨w.heap.size + 1, 1, none⟩ = some (.int .i64 (b : Int)) := by rw [eW]; go_cell
  have s2 : W0.cell? ⟨w.heap.size + 1, 2, none⟩ = some (.int .i64 (c : Int)) := by rw [eW]; go_cell
  have s3 : W0.cell? ⟨w.heap.size + 1, 3, none⟩ = some (.int .i64 (d : Int)) := by rw [eW]; go_cell
  have r0 : W0.cell? ⟨w.heap.size + 1 + 1, 0, none⟩ = some (.int .i64 0) := by rw [eW]; go_cell
  have r1 : W0.cell? ⟨w.heap.size + 1 + 1, 1, none⟩ = some (.slice none 0 0) := by rw [eW]; go_cell
  have rf0 : W0.frozen? ⟨w.heap.size + 1 + 1, 0, none⟩ = false := by rw [eW]; go_cell
  have rf1 : W0.frozen? ⟨w.heap.size + 1 + 1, 1, none⟩ = false := by rw [eW]; go_cell
  have hsz : w.heap.size + 3 ≤ W0.heap.size := by rw [eW]; simp
  have hI := (Arg.new hv).below hW
  clear hv
  have HK := fun Wx hI => sSwitchOk_c W (.slice A rows.length cap) rows a b c d ha hb hc hd Wx hI
  rw [hz] at HK
  unfold swV at HK
  unfold swV
  go_enter Try.func6, Try.ntmps6
  go_wp2_with fail
  rw [← eW]
  clear eW
  refine (HK _ hI.ints).mono ?_
  rintro e wc ⟨rfl, hb1⟩
  replace x0 := cellB hb1 x0
  replace x1 := cellB hb1 x1
  replace s0 := cellB hb1 s0
  replace s1 := cellB hb1 s1
  replace s2 := cellB hb1 s2
  replace s3 := cellB hb1 s3
  replace rf0 := frozenB hb1 r0 rf0
  replace r0 := cellB hb1 r0
  replace rf1 := frozenB hb1 r1 rf1
  replace r1 := cellB hb1 r1
  replace hI := hI.below hb1
  replace hW := hW.trans (Below.mono hb1 hW.size)
  replace hsz := Nat.le_trans hsz hb1.size
  obtain ⟨q0, q1⟩ := set2_get (x := .int .i64 0) (y := .slice none 0 0) r0 r1
  clear HK hz
  go_wp2
  refine bodyPost_ret (res_img_b rfl _ _ rfl q0 q1) rfl ?_
  exact ⟨rfl, (hW.setCell (by simp; omega) _).setCell (by simp; omega) _⟩
set_option maxRecDepth 100000 in
set_option maxHeartbeats 4000000 in
theorem sSwitchDo_yes (n : Nat) (v : Value) (ns : List Nat) (hV : VImg n ns) (a b c d : Nat) (ha : a ≤ 6) (hb : b ≤ 6) (hc : c ≤ 6) (hd : d ≤ 6) (hsw : swB n ns a b c d = true) (w : World) (hv : Ints w.heap.size w v (casts ns)) :
    Calls Try.prog 6 #[.agg #[.int .i64 (n : Int), v], swV a b c d] w fun e w' => ∃ g c', e = .returned (.tuple #[.agg #[.int .i64 (n : Int), .slice (some ⟨g, 0, none⟩) ns.length c'], .bool true]) ∧ w.heap.size ≤ g ∧ Row w' g (casts (swL ns a b c d)) ∧ Below w.heap.size w w' := by
  have hz : swZ (n : Int) (casts ns) a b c d = true := by unfold swZ; rw [validB_of hV, casts_nat, Int.toNat_natCast, hsw]; rfl
  obtain ⟨A, cap, rfl⟩ := hv.len
  obtain ⟨W0, eW⟩ : ∃ Wx, Wx = ((w.alloc (.cells #[.int .i64 (n : Int), .slice A (casts ns).length cap] 25)).alloc (.cells #[.int .i64 (a : Int), .int .i64 (b : Int), .int .i64 (c : Int), .int .i64 (d : Int)] 27)).alloc (.cells #[.int .i64 0, .slice none 0 0] 25) := ⟨_, rfl⟩
  have hW : Below w.heap.size w W0 := by rw [eW]; go_grown
  have x0 : W0.cell? ⟨w.heap.size, 0, none⟩ = some (.int .i64 (n : Int)) := by rw [eW]; go_cell
  have x1 : W0.cell? ⟨w.heap.size, 1, none⟩ = some (.slice A (casts ns).length cap) := by rw [eW]; go_cell
  have s0 : W0.cell? ⟨w.heap.size + 1, 0, none⟩ = some (.int .i64 (a : Int)) := by rw [eW]; go_cell
  have s1 : W0.cell? ⟨w.heap.size + 1, 1, none⟩ = some (.int .i64 (b : Int)) := by rw [eW]; go_cell
  have s2 : W0.cell? ⟨w.heap.size + 1, 2, none⟩ = some (.int .i64 (c : Int)) := by rw [eW]; go_cell
  have s3 : W0.cell? ⟨w.heap.size + 1, 3, none⟩ = some (.int .i64 (d : Int)) := by rw [eW]; go_cell
  have r0 : W0.cell? ⟨w.heap.size + 1 + 1, 0, none⟩ = some (.int .i64 0) := by rw [eW]; go_cell
  have r1 : W0.cell? ⟨w.heap.size + 1 + 1, 1, none⟩ = some (.slice none 0 0) := by rw [eW]; go_cell
  have rf0 : W0.frozen? ⟨w.heap.size + 1 + 1, 0, none⟩ = false := by rw [eW]; go_cell
  have rf1 : W0.frozen? ⟨w.heap.size + 1 + 1, 1, none⟩ = false := by rw [eW]; go_cell
  have hsz : w.heap.size + 3 ≤ W0.heap.size := by rw [eW]; simp
  have hI := (Arg.new hv).below hW
  clear hv
  have HK := fun Wx hI => sSwitchOk_c (n : Int) (.slice A (casts ns).length cap) (casts ns) a b c d ha hb hc hd Wx hI
  have HD := fun Wx hI => l11Do_c n (.slice A (casts ns).length cap) ns hV a b c d hsw Wx hI
  rw [hz] at HK
  unfold swV at HK HD
  unfold swV
  go_enter Try.func6, Try.ntmps6
  go_wp2_with fail
  rw [← eW]
  clear eW
  refine (HK _ hI.ints).mono ?_
  rintro e wc ⟨rfl, hb1⟩
  replace x0 := cellB hb1 x0
  replace x1 := cellB hb1 x1
  replace s0 := cellB hb1 s0
  replace s1 := cellB hb1 s1
  replace s2 := cellB hb1 s2
  replace s3 := cellB hb1 s3
  replace rf0 := frozenB hb1 r0 rf0
  replace r0 := cellB hb1 r0
  replace rf1 := frozenB hb1 r1 rf1
  replace r1 := cellB hb1 r1
  replace hI := hI.below hb1
  replace hW := hW.trans (Below.mono hb1 hW.size)
  replace hsz := Nat.le_trans hsz hb1.size
  clear hz HK
  go_wp2_with fail
  refine (HD _ hI.ints).mono ?_
  rintro e wc ⟨g, cg, rfl, hg, hR, hb1⟩
  have hgw : w.heap.size + 3 ≤ g := by omega
  replace x0 := cellB hb1 x0
  replace x1 := cellB hb1 x1
  replace s0 := cellB hb1 s0
  replace s1 := cellB hb1 s1
  replace s2 := cellB hb1 s2
  replace s3 := cellB hb1 s3
  replace rf0 := frozenB hb1 r0 rf0
  replace r0 := cellB hb1 r0
  replace rf1 := frozenB hb1 r1 rf1
  replace r1 := cellB hb1 r1
  replace hI := hI.below hb1
  replace hW := hW.trans (Below.mono hb1 hW.size)
  replace hsz := Nat.le_trans hsz hb1.size
  obtain ⟨q0, q1⟩ := set2_get (x := .int .i64 (n : Int)) (y := .slice (some ⟨g, 0, none⟩) ns.length cg) r0 r1
  have HO := Lib.hid (And.intro ((hR.far (p := ⟨w.heap.size + 1 + 1, 0, none⟩) (by simp; omega) (.int .i64 (n : Int))).far (p := ⟨w.heap.size + 1 + 1, 1, none⟩) (by simp; omega) (.slice (some ⟨g, 0, none⟩) ns.length cg)) ((hW.setCell (p := ⟨w.heap.size + 1 + 1, 0, none⟩) (by simp; omega) (.int .i64 (n : Int))).setCell (p := ⟨w.heap.size + 1 + 1, 1, none⟩) (by simp; omega) (.slice (some ⟨g, 0, none⟩) ns.length cg)))
  clear hR hW HD hsw
  go_wp2
  refine bodyPost_ret (res_img_b rfl _ _ rfl q0 q1) rfl ?_
  exact ⟨g, cg, rfl, by omega, HO.out.1, HO.out.2⟩
end Go.Proofs.Ytfkmkakdkocamaa
