/- Contracts of the drawing of an image: l91Image, l91Wrong, and the draws that open the code and draw one image. Conditions: the code's slice can be read. -/
import Derived.Test.YtldmilpohappiaaPN
namespace Go.Proofs.Ytldmilpohappiaa
open Go.RowKit
set_option maxHeartbeats 2000000 in
theorem l91Image_c (R K cells : Nat) (hcl : 1 ≤ cells) (hc6 : cells ≤ 1000) (hK : K ≤ 700000) (w : World) (hR : Rd w R K) :
    Calls Try.prog 40 #[.pointer (some ⟨R, 0, none⟩), .int .i64 cells] w fun e w' => Drawn w w' R (K + 10) e := by
  have hlt := hR.1
  go_enter Try.func40, Try.ntmps40
  go_wp2_with fail
  obtain ⟨W0, eW⟩ : ∃ W0, W0 = w.alloc (.cells #[.int .i64 0, .slice none 0 0] 25) := ⟨_, rfl⟩
  have hB0 : Below w.heap.size w W0 := by rw [eW]; go_grown
  have i0 : W0.cell? ⟨w.heap.size, 0, none⟩ = some (.int .i64 0) := by rw [eW]; go_cell
  have i1 : W0.cell? ⟨w.heap.size, 1, none⟩ = some (.slice none 0 0) := by rw [eW]; go_cell
  have if0 : W0.frozen? ⟨w.heap.size, 0, none⟩ = false := by rw [eW]; go_cell
  have if1 : W0.frozen? ⟨w.heap.size, 1, none⟩ = false := by rw [eW]; go_cell
  have hz0 : w.heap.size < W0.heap.size := by rw [eW]; simp
  rw [← eW]
  clear eW
  have hwR : w.heap.size ≠ R := by omega
  refine (pick_c R K 4 (by omega) (by omega) (by omega) _ (hR.below hB0 hlt)).mono ?_
  rintro e w1 ⟨⟨x, rfl, hx⟩, hR1, hg1⟩
  have j0 := cell_only hg1 i0 hwR
  have j1 := cell_only hg1 i1 hwR
  have jf0 := frozen_only hg1 i0 hwR if0
  have jf1 := frozen_only hg1 i1 hwR if1
  have hO1 : w.grownBy w1 (some R) := only_trans (only_of_below hB0 _) hg1
  have hz1 := Nat.lt_of_lt_of_le hz0 hg1.size
  clear i0 i1 if0 if1 hg1 hB0 hR
  have fin : ∀ (e : Ending) (w2 : World), Drawn w1 w2 R (K + 10) e → ∃ (g c v h : Nat) (ns : List Nat), e = .returned (.agg #[.int .i64 v, .slice (some ⟨g, 0, none⟩) h c]) ∧ (w2.cell? ⟨w.heap.size, 0, none⟩ = some (.int .i64 0) ∧ w2.cell? ⟨w.heap.size, 1, none⟩ = some (.slice none 0 0) ∧ w2.frozen? ⟨w.heap.size, 0, none⟩ = false ∧ w2.frozen? ⟨w.heap.size, 1, none⟩ = false) ∧ ∀ e', e' = .returned (.agg #[.int .i64 v, .slice (some ⟨g, 0, none⟩) h c]) → Drawn w ((w2.setCell ⟨w.heap.size, 0, none⟩ (.int .i64 v)).setCell ⟨w.heap.size, 1, none⟩ (.slice (some ⟨g, 0, none⟩) h c)) R (K + 10) e' := by
    rintro e w2 ⟨⟨g, c, v, ns, rfl, hV, hrow, hgw⟩, hR2, hg2⟩
    refine ⟨g, c, v, ns.length, ns, rfl, ⟨cell_only hg2 j0 hwR, cell_only hg2 j1 hwR, frozen_only hg2 j0 hwR jf0, frozen_only hg2 j1 hwR jf1⟩, ?_⟩
    rintro e' rfl
    exact ⟨⟨g, c, v, ns, rfl, hV, (hrow.far (by simp; omega) _).far (by simp; omega) _, by omega⟩, hR2.below (B := R + 1) (((Below.refl (R + 1) w2).setCell (by simp; omega) _).setCell (by simp; omega) _) (by omega), only_setCell (only_setCell (only_trans hO1 hg2) (.inr (by simp)) _) (.inr (by simp)) _⟩
  have HF := Lib.hid fin
  clear fin j0 j1 jf0 jf1
  by_cases hx0 : x = 0
  · subst hx0
    go_wp2_with fail
    refine (l91Nested_c R (K + 1) cells hcl hc6 (by omega) _ hR1).mono ?_
    intro e w2 hd
    obtain ⟨g, c, v, h, ns, rfl, ⟨c0, c1, cf0, cf1⟩, hend⟩ := HF.out e w2 hd
    obtain ⟨q0, q1⟩ := set2_get (x := .int .i64 v) (y := .slice (some ⟨g, 0, none⟩) h c) c0 c1
    have HE := Lib.hid hend
    clear hend hd
    go_wp2
    refine bodyPost_ret (res_img rfl _ _ rfl q0 q1) rfl ?_
    exact HE.out _ rfl
  · have hxi : ((x : Int) == 0) = false := by simp; omega
    go_wp2_with fail
    refine (l91Shape_c R (K + 1) cells hcl hc6 (by omega) _ hR1).mono ?_
    intro e w2 hd
    have hd' : Drawn w1 w2 R (K + 10) e := ⟨hd.img, hd.rd.more (by omega), hd.only⟩
    obtain ⟨g, c, v, h, ns, rfl, ⟨c0, c1, cf0, cf1⟩, hend⟩ := HF.out e w2 hd'
    obtain ⟨q0, q1⟩ := set2_get (x := .int .i64 v) (y := .slice (some ⟨g, 0, none⟩) h c) c0 c1
    have HE := Lib.hid hend
    clear hend hd hd'
    go_wp2
    refine bodyPost_ret (res_img rfl _ _ rfl q0 q1) rfl ?_
    exact HE.out _ rfl
/-- An image of whatever numbers, six rows at most. -/
def Wrong (lo : Nat) (w' : World) (e : Ending) : Prop := ∃ (W : Int) (v : Value) (rows : List Int), e = .returned (.agg #[.int .i64 W, v]) ∧ ((rows = [] ∧ ∃ A c, v = .slice A 0 c) ∨ ∃ g c, Row w' g rows ∧ v = .slice (some ⟨g, 0, none⟩) rows.length c ∧ lo ≤ g) ∧ rows.length ≤ 6
/-- What the end of l91Wrong needs of the world: the result's box, the image's box, the row. -/
structure WEnd (w w4 : World) (R K g Bx h c : Nat) (W : Int) (sl : Value) (rows : List Int) : Prop where
  c0 : w4.cell? ⟨w.heap.size, 0, none⟩ = some (.int .i64 0)
  c1 : w4.cell? ⟨w.heap.size, 1, none⟩ = some (.slice none 0 0)
  f0 : w4.frozen? ⟨w.heap.size, 0, none⟩ = false
  f1 : w4.frozen? ⟨w.heap.size, 1, none⟩ = false
  b0 : w4.cell? ⟨Bx, 0, none⟩ = some (.int .i64 W)
  b1 : w4.cell? ⟨Bx, 1, none⟩ = some sl
  on : w.grownBy w4 (some R)
  rd : Rd w4 R K
  lt : R < w.heap.size
  row : (rows = [] ∧ ∃ A c, sl = .slice A 0 c) ∨ (Row w4 g rows ∧ rows.length = h ∧ sl = .slice (some ⟨g, 0, none⟩) h c)
theorem WEnd.fin {w w4 : World} {R K g Bx h c : Nat} {W : Int} {sl : Value} {rows : List Int} (H : WEnd w w4 R K g Bx h c W sl rows) (hwg : w.heap.size < g) (hl : rows.length ≤ 6) : Wrong w.heap.size ((w4.setCell ⟨w.heap.size, 0, none⟩ (.int .i64 W)).setCell ⟨w.heap.size, 1, none⟩ sl) (.returned (.agg #[.int .i64 W, sl])) ∧ w.grownBy ((w4.setCell ⟨w.heap.size, 0, none⟩ (.int .i64 W)).setCell ⟨w.heap.size, 1, none⟩ sl) (some R) ∧ Rd ((w4.setCell ⟨w.heap.size, 0, none⟩ (.int .i64 W)).setCell ⟨w.heap.size, 1, none⟩ sl) R K := by
  have hlt := H.lt
  refine ⟨⟨W, sl, rows, rfl, ?_, hl⟩, only_setCell (only_setCell H.on (.inr (by simp)) _) (.inr (by simp)) _, H.rd.below (B := R + 1) (((Below.refl (R + 1) w4).setCell (by simp; omega) _).setCell (by simp; omega) _) (by omega)⟩
  rcases H.row with ⟨rfl, A, c, rfl⟩ | ⟨hrow, rfl, rfl⟩
  · exact .inl ⟨rfl, _, _, rfl⟩
  · have hr := ((hrow.far (p := ⟨w.heap.size, 0, none⟩) (by simp; omega) (.int .i64 W)).far (p := ⟨w.heap.size, 1, none⟩) (by simp; omega) (.slice (some ⟨g, 0, none⟩) rows.length c))
    exact .inr ⟨g, c, hr, rfl, by omega⟩
theorem WEnd.setRow {w w4 : World} {R K g Bx h c : Nat} {W : Int} {rows : List Int} (H : WEnd w w4 R K g Bx h c W (.slice (some ⟨g, 0, none⟩) h c) rows) (hrow : Row w4 g rows) (hl : rows.length = h) (hpos : 0 < h) (hwg : w.heap.size < g) (hgB : g < Bx) (z : Int) : WEnd w (w4.setCell ⟨g, 0, none⟩ (.int .i64 z)) R K g Bx h c W (.slice (some ⟨g, 0, none⟩) h c) (rows.set 0 z) :=
  ⟨(World.cell?_setCell_other _ _ _ _ (by simp <;> omega)).trans H.c0, (World.cell?_setCell_other _ _ _ _ (by simp)).trans H.c1, by rw [World.frozen?_setCell]; exact H.f0, by rw [World.frozen?_setCell]; exact H.f1,
   (World.cell?_setCell_other _ _ _ _ (by simp <;> omega)).trans H.b0, (World.cell?_setCell_other _ _ _ _ (by simp)).trans H.b1, only_setCell H.on (.inr (by simp; omega)) _, H.rd.below (B := R + 1) ((Below.refl (R + 1) w4).setCell (by have := H.lt; simp; omega) _) (by omega), H.lt, .inr ⟨hrow.set (by omega) z, by simp [hl], rfl⟩⟩
theorem WEnd.below {w w4 w5 : World} {R K g Bx h c : Nat} {W : Int} {rows : List Int} (H : WEnd w w4 R K g Bx h c W (.slice (some ⟨g, 0, none⟩) h c) rows) (hb : Below w4.heap.size w4 w5) (hrow : Row w4 g rows) (hl : rows.length = h) : WEnd w w5 R K g Bx h c W (.slice (some ⟨g, 0, none⟩) h c) rows :=
  ⟨cellB hb H.c0, cellB hb H.c1, frozenB hb H.c0 H.f0, frozenB hb H.c1 H.f1, cellB hb H.b0, cellB hb H.b1, only_trans H.on (only_of_below hb _), H.rd.below hb H.rd.1, H.lt, .inr ⟨hrow.below hb hrow.lt, hl, rfl⟩⟩
theorem WEnd.only {w w4 w5 : World} {R K g Bx h c : Nat} {W : Int} {rows : List Int} (H : WEnd w w4 R K g Bx h c W (.slice (some ⟨g, 0, none⟩) h c) rows) (hb : w4.grownBy w5 (some R)) (hrow : Row w4 g rows) (hl : rows.length = h) (hwR : w.heap.size ≠ R) (hgR : g ≠ R) (hBR : Bx ≠ R) (hrd : Rd w5 R K) : WEnd w w5 R K g Bx h c W (.slice (some ⟨g, 0, none⟩) h c) rows :=
  ⟨cell_only hb H.c0 hwR, cell_only hb H.c1 hwR, frozen_only hb H.c0 hwR H.f0, frozen_only hb H.c1 hwR H.f1, cell_only hb H.b0 hBR, cell_only hb H.b1 hBR, only_trans H.on hb, hrd, H.lt, .inr ⟨hrow.only hb hgR, hl, rfl⟩⟩
set_option maxHeartbeats 2000000 in
theorem l91Wrong_r (R K cells : Nat) (hcl : 1 ≤ cells) (hc6 : cells ≤ 1000) (hK : K ≤ 600000) (w : World) (hR : Rd w R K) :
    Calls Try.prog 18 #[.pointer (some ⟨R, 0, none⟩), .int .i64 cells] w fun e w' => Wrong w.heap.size w' e ∧ w.grownBy w' (some R) ∧ Rd w' R (K + 12) := by
  have hlt := hR.1
  go_enter Try.func18, Try.ntmps18
  go_wp2_with fail
  obtain ⟨W0, eW⟩ : ∃ W0, W0 = w.alloc (.cells #[.int .i64 0, .slice none 0 0] 25) := ⟨_, rfl⟩
  have hB0 : Below w.heap.size w W0 := by rw [eW]; go_grown
  have i0 : W0.cell? ⟨w.heap.size, 0, none⟩ = some (.int .i64 0) := by rw [eW]; go_cell
  have i1 : W0.cell? ⟨w.heap.size, 1, none⟩ = some (.slice none 0 0) := by rw [eW]; go_cell
  have if0 : W0.frozen? ⟨w.heap.size, 0, none⟩ = false := by rw [eW]; go_cell
  have if1 : W0.frozen? ⟨w.heap.size, 1, none⟩ = false := by rw [eW]; go_cell
  have hz0 : w.heap.size < W0.heap.size := by rw [eW]; simp
  rw [← eW]
  clear eW
  have hwR : w.heap.size ≠ R := by omega
  refine (l91Image_c R K cells hcl hc6 (by omega) _ (hR.below hB0 hlt)).mono ?_
  rintro e w1 ⟨⟨g, c, v, ns, rfl, hV, hrow1, hgw⟩, hR1, hg1⟩
  have hO1 : w.grownBy w1 (some R) := only_trans (only_of_below hB0 _) hg1
  have hwg : w.heap.size < g := Nat.lt_of_lt_of_le hz0 hgw
  have j0 := cell_only hg1 i0 hwR
  have j1 := cell_only hg1 i1 hwR
  have jf0 := frozen_only hg1 i0 hwR if0
  have jf1 := frozen_only hg1 i1 hwR if1
  obtain ⟨h, eh⟩ : ∃ h, h = ns.length := ⟨_, rfl⟩
  have hh6 := hV.h6
  have hh1 := hV.h1
  have hv1 := hV.w1
  have hv6 := hV.w6
  rw [← eh] at hh1 hh6 ⊢
  obtain ⟨W2, eW⟩ : ∃ W2, W2 = w1.alloc (.cells #[.int .i64 v, .slice (some ⟨g, 0, none⟩) h c] 25) := ⟨_, rfl⟩
  have hx := Box2.new w1 (.int .i64 v) (.slice (some ⟨g, 0, none⟩) h c) 25
  have hfx : W2.frozen? ⟨w1.heap.size, 0, none⟩ = false ∧ W2.frozen? ⟨w1.heap.size, 1, none⟩ = false := by rw [eW]; exact ⟨by go_cell, by go_cell⟩
  have hB2 : Below w1.heap.size w1 W2 := by rw [eW]; go_grown
  have hgB : g < w1.heap.size := hrow1.lt
  rw [← eW] at hx
  obtain ⟨_, x0, x1⟩ := hx
  obtain ⟨xf0, xf1⟩ := hfx
  have hrow2 := hrow1.below hB2 hrow1.lt
  have hR2 := hR1.below hB2 hR1.1
  have hO2 := only_trans hO1 (only_of_below hB2 _)
  have k0 := cellB hB2 j0
  have k1 := cellB hB2 j1
  have kf0 := frozenB hB2 j0 jf0
  have kf1 := frozenB hB2 j1 jf1
  have EH := Lib.hid eh
  clear i0 i1 if0 if1 j0 j1 jf0 jf1 eh
  go_wp2_with fail
  rw [← eW]
  obtain ⟨Bx, eB⟩ : ∃ Bx, Bx = w1.heap.size := ⟨_, rfl⟩
  rw [← eB] at x0 x1 xf0 xf1 hgB ⊢
  have hBw : w.heap.size < Bx := by omega
  have hBR : Bx ≠ R := by omega
  clear eB eW hB2
  refine (pick_c R (K + 10) 40 (by omega) (by omega) (by omega) _ hR2).mono ?_
  rintro e w3 ⟨⟨x, rfl, hx⟩, hR3, hg3⟩
  have y0 := cell_only hg3 x0 hBR
  have y1 := cell_only hg3 x1 hBR
  have yf0 := frozen_only hg3 x0 hBR xf0
  have yf1 := frozen_only hg3 x1 hBR xf1
  have hrow3 := hrow2.only hg3 (by omega)
  have hO3 := only_trans hO2 hg3
  have l0 := cell_only hg3 k0 hwR
  have l1 := cell_only hg3 k1 hwR
  have lf0 := frozen_only hg3 k0 hwR kf0
  have lf1 := frozen_only hg3 k1 hwR kf1
  clear x0 x1 xf0 xf1 k0 k1 kf0 kf1 hrow1 hrow2 hR1 hR2 hO1 hO2 hg1 hg3 hR hV hB0
  have HW3 : WEnd w w3 R (K + 12) g Bx h c v (.slice (some ⟨g, 0, none⟩) h c) (casts ns) := ⟨l0, l1, lf0, lf1, y0, y1, hO3, hR3.more (by omega), hlt, .inr ⟨hrow3, by rw [length_casts, ← EH.out], rfl⟩⟩
  have hlc : (casts ns).length = h := by rw [length_casts, ← EH.out]
  have HW := Lib.hid HW3
  have HRW := Lib.hid (And.intro hrow3 hR3)
  have HLC := Lib.hid hlc
  clear HW3 hlc hrow3 hO3 hR3
  by_cases e0 : x = 0
  · subst e0
    have k0 := cell_regrown y0
    have k1 := cell_regrown y1
    have hv62 : v ≤ 62 := by omega
    go_wp2_with fail
    refine wp_region_below_tail 5 (by kernel_rfl) (by kernel_rfl) ?_
    simp only [List.take_succ_cons, List.take_zero, List.drop_succ_cons, List.drop_zero]
    repeat (first | go_big_quiet_step ((go_at_call 41; exact Calls.rgs (l1Power_c v hv62 _))) | quiet_step ((go_at_call 41; exact Calls.rgs (l1Power_c v hv62 _))))
    refine wpQuiet_nil ?_
    intro _ hw0
    obtain ⟨⟨dq, osq⟩, hw1⟩ := hw0
    subst hw1
    have hq := below_regrown w3 dq osq
    generalize Go.Sort.grow (redrawn w3 dq) osq = w4 at hq ⊢
    clear k0 k1 y0 y1 yf0 yf1 l0 l1 lf0 lf1
    have hr4 := HRW.out.1.below hq HRW.out.1.lt
    have H4 := HW.out.below hq HRW.out.1 HLC.out
    have H5 := H4.setRow hr4 HLC.out (by omega) hwg hgB (pw v)
    have hc4 := hr4.cell (k := 0) (by rw [HLC.out]; omega)
    have hf4 := hr4.frozen 0
    obtain ⟨q0, q1⟩ := set2_get (x := .int .i64 v) (y := .slice (some ⟨g, 0, none⟩) h c) H5.c0 H5.c1
    have c0 := H5.c0
    have c1 := H5.c1
    have f0 := H5.f0
    have f1 := H5.f1
    have b0 := H5.b0
    have b1 := H5.b1
    have HE := Lib.hid (H5.fin hwg (by rw [List.length_set, HLC.out]; omega))
    clear H4 H5 hr4
    go_wp2
    refine bodyPost_ret (res_img rfl _ _ rfl q0 q1) rfl ?_
    exact HE.out
  · by_cases e1 : x = 1
    · subst e1
      have hgR : g ≠ R := by omega
      obtain ⟨W5, e5⟩ : ∃ W5, W5 = w3.alloc (.cells #[.int .i64 0, .int .i64 7] 3) := ⟨_, rfl⟩
      have hb5 : Below w3.heap.size w3 W5 := by rw [e5]; go_grown
      have s0 : W5.cell? ⟨w3.heap.size, 0, none⟩ = some (.int .i64 0) := by rw [e5]; go_cell
      have s1 : W5.cell? ⟨w3.heap.size, 1, none⟩ = some (.int .i64 7) := by rw [e5]; go_cell
      have hrow5 := HRW.out.1.below hb5 HRW.out.1.lt
      have hR5 := HRW.out.2.below hb5 HRW.out.2.1
      have H5 := HW.out.below hb5 HRW.out.1 HLC.out
      have yf0' := frozenB hb5 y0 yf0
      have hw3 : w3.heap.size ≠ R := by have := HRW.out.2.1; omega
      have HH := Lib.hid (And.intro H5 hrow5)
      have b05 := H5.b0
      clear H5 hrow5 hb5 l0 l1 lf0 lf1 y0 y1 yf0 yf1
      go_wp2_with fail
      rw [← e5]
      clear e5
      refine (pick_c R (K + 10 + 1) 2 (by omega) (by omega) (by omega) _ hR5).mono ?_
      rintro e w6 ⟨⟨x, rfl, hx⟩, hR6, hg6⟩
      have t0 := cell_only hg6 s0 hw3
      have t1 := cell_only hg6 s1 hw3
      have yf6 := frozen_only hg6 b05 hBR yf0'
      have H6 := HH.out.1.only hg6 HH.out.2 HLC.out hwR hgR hBR (hR6.more (by omega))
      have b06 := H6.b0
      obtain ⟨z, hz⟩ : ∃ z : Int, w6.cell? ⟨w3.heap.size, x, none⟩ = some (.int .i64 z) := by
        have : x = 0 ∨ x = 1 := by omega
        rcases this with rfl | rfl
        · exact ⟨_, t0⟩
        · exact ⟨_, t1⟩
      have H7 : WEnd w (w6.setCell ⟨Bx, 0, none⟩ (.int .i64 z)) R (K + 12) g Bx h c z (.slice (some ⟨g, 0, none⟩) h c) (casts ns) :=
        ⟨(World.cell?_setCell_other _ _ _ _ (by simp <;> omega)).trans H6.c0, (World.cell?_setCell_other _ _ _ _ (by simp)).trans H6.c1, by rw [World.frozen?_setCell]; exact H6.f0, by rw [World.frozen?_setCell]; exact H6.f1,
         World.cell?_setCell_same' _ _ _ (by rw [b06]; rfl), (World.cell?_setCell_other _ _ _ _ (by simp)).trans H6.b1, only_setCell H6.on (.inr (by simp; omega)) _, H6.rd.below (B := R + 1) ((Below.refl (R + 1) w6).setCell (by simp; omega) _) (by omega), hlt, .inr ⟨(HH.out.2.only hg6 hgR).far (by simp; omega) _, HLC.out, rfl⟩⟩
      obtain ⟨q0, q1⟩ := set2_get (x := .int .i64 z) (y := .slice (some ⟨g, 0, none⟩) h c) H7.c0 H7.c1
      have c0 := H7.c0
      have c1 := H7.c1
      have f0 := H7.f0
      have f1 := H7.f1
      have b0 := H7.b0
      have b1 := H7.b1
      have HE := Lib.hid (H7.fin hwg (by rw [HLC.out]; omega))
      clear H6 H7 t0 t1 s0 s1
      go_wp2
      refine bodyPost_ret (res_img rfl _ _ rfl q0 q1) rfl ?_
      exact HE.out
    · by_cases e2 : x = 2
      · subst e2
        obtain ⟨W5, e5⟩ : ∃ W5, W5 = w3.alloc (.cells #[] 3) := ⟨_, rfl⟩
        have hb5 : Below w3.heap.size w3 W5 := by rw [e5]; go_grown
        have H5 := HW.out.below hb5 HRW.out.1 HLC.out
        have yf1' := frozenB hb5 y1 yf1
        have b15 := H5.b1
        have b05 := H5.b0
        have H7 : WEnd w (W5.setCell ⟨Bx, 1, none⟩ (.slice (some ⟨w3.heap.size, 0, none⟩) 0 0)) R (K + 12) g Bx h c v (.slice (some ⟨w3.heap.size, 0, none⟩) 0 0) [] :=
          ⟨(World.cell?_setCell_other _ _ _ _ (by simp)).trans H5.c0, (World.cell?_setCell_other _ _ _ _ (by simp <;> omega)).trans H5.c1, by rw [World.frozen?_setCell]; exact H5.f0, by rw [World.frozen?_setCell]; exact H5.f1,
           (World.cell?_setCell_other _ _ _ _ (by simp)).trans H5.b0, World.cell?_setCell_same' _ _ _ (by rw [b15]; rfl), only_setCell H5.on (.inr (by simp; omega)) _, H5.rd.below (B := R + 1) ((Below.refl (R + 1) W5).setCell (by simp; omega) _) (by omega), hlt, .inl ⟨rfl, _, _, rfl⟩⟩
        obtain ⟨q0, q1⟩ := set2_get (x := .int .i64 v) (y := .slice (some ⟨w3.heap.size, 0, none⟩) 0 0) H7.c0 H7.c1
        have c0 := H7.c0
        have c1 := H7.c1
        have f0 := H7.f0
        have f1 := H7.f1
        have b0 := H7.b0
        have b1 := H7.b1
        have HE := Lib.hid (H7.fin hwg (by simp))
        clear H5 H7 hb5
        rw [e5] at q0 q1 c0 c1 f0 f1 b0 b1 yf1' b15 b05
        have HEW := Lib.hid e5
        clear e5 l0 l1 lf0 lf1
        go_wp2
        refine bodyPost_ret (res_img rfl _ _ rfl q0 q1) rfl ?_
        rw [← HEW.out]
        exact HE.out
      · by_cases e3 : x = 3
        · subst e3
          have H5 := HW.out.setRow HRW.out.1 HLC.out (by omega) hwg hgB (-1)
          have hc4 := HRW.out.1.cell (k := 0) (by rw [HLC.out]; omega)
          have hf4 := HRW.out.1.frozen 0
          obtain ⟨q0, q1⟩ := set2_get (x := .int .i64 v) (y := .slice (some ⟨g, 0, none⟩) h c) H5.c0 H5.c1
          have c0 := H5.c0
          have c1 := H5.c1
          have f0 := H5.f0
          have f1 := H5.f1
          have b0 := H5.b0
          have b1 := H5.b1
          have HE := Lib.hid (H5.fin hwg (by rw [List.length_set, HLC.out]; omega))
          clear H5
          go_wp2
          refine bodyPost_ret (res_img rfl _ _ rfl q0 q1) rfl ?_
          exact HE.out
        · have n0 : ((x : Int) == 0) = false := by simp; omega
          have n1 : ((x : Int) == 1) = false := by simp; omega
          have n2 : ((x : Int) == 2) = false := by simp; omega
          have n3 : ((x : Int) == 3) = false := by simp; omega
          obtain ⟨q0, q1⟩ := set2_get (x := .int .i64 v) (y := .slice (some ⟨g, 0, none⟩) h c) l0 l1
          have HE := Lib.hid (HW.out.fin hwg (by rw [HLC.out]; omega))
          go_wp2
          refine bodyPost_ret (res_img rfl _ _ rfl q0 q1) rfl ?_
          exact HE.out
theorem l91Wrong_c (R K cells : Nat) (hcl : 1 ≤ cells) (hc6 : cells ≤ 1000) (hK : K ≤ 600000) (w : World) (hR : Rd w R K) :
    Calls Try.prog 18 #[.pointer (some ⟨R, 0, none⟩), .int .i64 cells] w fun e w' => Wrong w.heap.size w' e ∧ w.grownBy w' (some R) :=
  (l91Wrong_r R K cells hcl hc6 hK w hR).mono fun _ _ ⟨h1, h2, _⟩ => ⟨h1, h2⟩
end Go.Proofs.Ytldmilpohappiaa
