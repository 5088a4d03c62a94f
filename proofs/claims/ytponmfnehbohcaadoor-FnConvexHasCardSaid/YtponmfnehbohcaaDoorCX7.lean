/- Contracts of the draws of the laws of convex images: one image out of a code. Conditions: the code's slice can be read. -/
import Derived.Test.YtponmfnehbohcaaDoorCX6
import Derived.Test.YtponmfnehbohcaaDoorPD2
namespace Go.Proofs.YtponmfnehbohcaaDoor
open Go.RowKit
theorem draw_fin {w w2 : World} {R lo : Nat} {W : Int} {v : Value} {rows : List Int} (hon : w.grownBy w2 (some R)) (hlt : w.heap.size < R) (hrow : DRows lo w2 v rows) (hlo : w.heap.size < lo) : Ints ((w2.setCell ⟨w.heap.size, 0, none⟩ (.int .i64 W)).setCell ⟨w.heap.size, 1, none⟩ v).heap.size ((w2.setCell ⟨w.heap.size, 0, none⟩ (.int .i64 W)).setCell ⟨w.heap.size, 1, none⟩ v) v rows ∧ Below w.heap.size w ((w2.setCell ⟨w.heap.size, 0, none⟩ (.int .i64 W)).setCell ⟨w.heap.size, 1, none⟩ v) := by
  have hB : Below w.heap.size w w2 := ⟨hon.os, hon.tape, hon.output, hon.size, fun i hi => hon.block i hi (fun e => by cases e; omega)⟩
  refine ⟨?_, (hB.setCell (by simp) _).setCell (by simp) _⟩
  rcases hrow with ⟨e, A, c, h⟩ | ⟨g, c, hr, h, hg⟩
  · exact .inl ⟨e, A, c, h⟩
  · have hr' := ((hr.far (p := ⟨w.heap.size, 0, none⟩) (by simp; omega) (.int .i64 W)).far (p := ⟨w.heap.size, 1, none⟩) (by simp; omega) v)
    have := hr'.ints hr'.lt c
    rw [← h] at this
    exact this
set_option maxRecDepth 100000 in
set_option maxHeartbeats 2000000 in
theorem DrawImageConvex_c (A : Option Addr) (len cap : Nat) (hlc : len ≤ cap) (w : World) (hc : Code8 w w.heap.size A len) :
    Calls Tryd.prog 16 #[.slice A len cap] w fun e w' => ∃ (W : Int) (v : Value) (rows : List Int), e = .returned (.agg #[.int .i64 W, v]) ∧ Ints w'.heap.size w' v rows ∧ rows.length ≤ 6 ∧ Below w.heap.size w w' := by
  obtain ⟨W0, eW⟩ : ∃ W0, W0 = w.alloc (.cells #[.int .i64 0, .slice none 0 0] 31) := ⟨_, rfl⟩
  have hB0 : Below w.heap.size w W0 := by rw [eW]; go_grown
  have i0 : W0.cell? ⟨w.heap.size, 0, none⟩ = some (.int .i64 0) := by rw [eW]; go_cell
  have i1 : W0.cell? ⟨w.heap.size, 1, none⟩ = some (.slice none 0 0) := by rw [eW]; go_cell
  have if0 : W0.frozen? ⟨w.heap.size, 0, none⟩ = false := by rw [eW]; go_cell
  have if1 : W0.frozen? ⟨w.heap.size, 1, none⟩ = false := by rw [eW]; go_cell
  have hz0 : w.heap.size < W0.heap.size := by rw [eW]; simp
  have hc0 : Code8 W0 W0.heap.size A len := by
    rcases hc with h | ⟨b, off, e, hb, z, hz⟩
    · exact .inl h
    · exact .inr ⟨b, off, e, by omega, z, fun i hi => ⟨cellB hB0 (hz i hi).1, (hz i hi).2⟩⟩
  go_enter Tryd.func16, Tryd.ntmps16
  go_wp2_with fail
  rw [← eW]
  clear eW hc
  refine (l6Open_c A len cap hlc _ hc0).mono ?_
  rintro e w1 ⟨rfl, hR1, hb1⟩
  obtain ⟨R, eR⟩ : ∃ R, R = W0.heap.size := ⟨_, rfl⟩
  rw [← eR] at hR1 hz0 ⊢
  have ER := Lib.hid eR
  have hne : w.heap.size ≠ R := by omega
  have c0 := cellB hb1 i0
  have c1 := cellB hb1 i1
  have f0 := frozenB hb1 i0 if0
  have f1 := frozenB hb1 i1 if1
  have hon : w.grownBy w1 (some R) := only_trans (only_of_below hB0 _) (only_of_below hb1 _)
  clear eR i0 i1 if0 if1 hb1 hB0 hc0
  go_wp2_with fail
  refine (pick_c R 0 3 (by omega) (by omega) (by omega) _ hR1).mono ?_
  rintro e wc ⟨⟨x, rfl, hx⟩, hR2, hg⟩
  replace f0 := frozen_only hg c0 (by first | assumption | omega | (simp; omega)) f0
  replace c0 := cell_only hg c0 (by first | assumption | omega | (simp; omega))
  replace f1 := frozen_only hg c1 (by first | assumption | omega | (simp; omega)) f1
  replace c1 := cell_only hg c1 (by first | assumption | omega | (simp; omega))
  replace hon := only_trans hon hg
  clear hR1 hg
  have hRw2 := hR2.1
  by_cases hx0 : x = 0
  · subst hx0
    go_wp2_with fail
    refine (l91Wrong_r R (0 + 1) 36 (by omega) (by omega) (by omega) _ hR2).mono ?_
    rintro e wd ⟨⟨W, v, rows, rfl, hI, hl⟩, hg, _⟩
    have hI2 : DRows (R + 1) wd v rows := by
      rcases hI with h | ⟨g, c, hr, h, hlo⟩
      · exact .inl h
      · exact .inr ⟨g, c, hr, h, by omega⟩
    obtain ⟨ao, co, rfl⟩ := DRows.form hI2
    replace f0 := frozen_only hg c0 (by first | assumption | omega | (simp; omega)) f0
    replace c0 := cell_only hg c0 (by first | assumption | omega | (simp; omega))
    replace f1 := frozen_only hg c1 (by first | assumption | omega | (simp; omega)) f1
    replace c1 := cell_only hg c1 (by first | assumption | omega | (simp; omega))
    replace hon := only_trans hon hg
    have HE := Lib.hid (draw_fin (W := W) hon hz0 hI2 (by omega))
    obtain ⟨q0, q1⟩ := set2_get (x := .int .i64 W) (y := .slice ao rows.length co) c0 c1
    clear hI hI2 hon hg
    go_wp2
    refine bodyPost_ret (res_img rfl _ _ rfl q0 q1) rfl ?_
    exact ⟨W, _, rows, rfl, HE.out.1, hl, HE.out.2⟩
  · have hx1 : 0 < (x : Int) := by omega
    go_wp2_with fail
    refine (l93Convex_c R (0 + 1) 36 (by omega) (by omega) (by omega) _ hR2).mono ?_
    rintro e wd ⟨⟨g, c, v, ns, rfl, hV, hr, hgl⟩, _, hg⟩
    have hI2 : DRows (R + 1) wd (.slice (some ⟨g, 0, none⟩) ns.length c) (casts ns) := .inr ⟨g, c, hr, by rw [length_casts], by omega⟩
    replace f0 := frozen_only hg c0 (by first | assumption | omega | (simp; omega)) f0
    replace c0 := cell_only hg c0 (by first | assumption | omega | (simp; omega))
    replace f1 := frozen_only hg c1 (by first | assumption | omega | (simp; omega)) f1
    replace c1 := cell_only hg c1 (by first | assumption | omega | (simp; omega))
    replace hon := only_trans hon hg
    have HE := Lib.hid (draw_fin (W := (v : Int)) hon hz0 hI2 (by omega))
    obtain ⟨q0, q1⟩ := set2_get (x := .int .i64 (v : Int)) (y := .slice (some ⟨g, 0, none⟩) ns.length c) c0 c1
    have hl6 := hV.h6
    clear hI2 hon hg hr
    go_wp2
    refine bodyPost_ret (res_img rfl _ _ rfl q0 q1) rfl ?_
    exact ⟨v, _, casts ns, rfl, HE.out.1, by rw [length_casts]; exact hl6, HE.out.2⟩
set_option maxRecDepth 100000 in
set_option maxHeartbeats 2000000 in
theorem DrawImagePoly_c (A : Option Addr) (len cap : Nat) (hlc : len ≤ cap) (w : World) (hc : Code8 w w.heap.size A len) :
    Calls Tryd.prog 24 #[.slice A len cap] w fun e w' => ∃ (W : Int) (v : Value) (rows : List Int), e = .returned (.agg #[.int .i64 W, v]) ∧ Ints w'.heap.size w' v rows ∧ rows.length ≤ 6 ∧ Below w.heap.size w w' := by
  obtain ⟨W0, eW⟩ : ∃ W0, W0 = w.alloc (.cells #[.int .i64 0, .slice none 0 0] 31) := ⟨_, rfl⟩
  have hB0 : Below w.heap.size w W0 := by rw [eW]; go_grown
  have i0 : W0.cell? ⟨w.heap.size, 0, none⟩ = some (.int .i64 0) := by rw [eW]; go_cell
  have i1 : W0.cell? ⟨w.heap.size, 1, none⟩ = some (.slice none 0 0) := by rw [eW]; go_cell
  have if0 : W0.frozen? ⟨w.heap.size, 0, none⟩ = false := by rw [eW]; go_cell
  have if1 : W0.frozen? ⟨w.heap.size, 1, none⟩ = false := by rw [eW]; go_cell
  have hz0 : w.heap.size < W0.heap.size := by rw [eW]; simp
  have hc0 : Code8 W0 W0.heap.size A len := by
    rcases hc with h | ⟨b, off, e, hb, z, hz⟩
    · exact .inl h
    · exact .inr ⟨b, off, e, by omega, z, fun i hi => ⟨cellB hB0 (hz i hi).1, (hz i hi).2⟩⟩
  go_enter Tryd.func24, Tryd.ntmps24
  go_wp2_with fail
  rw [← eW]
  clear eW hc
  refine (l6Open_c A len cap hlc _ hc0).mono ?_
  rintro e w1 ⟨rfl, hR1, hb1⟩
  obtain ⟨R, eR⟩ : ∃ R, R = W0.heap.size := ⟨_, rfl⟩
  rw [← eR] at hR1 hz0 ⊢
  have ER := Lib.hid eR
  have hne : w.heap.size ≠ R := by omega
  have c0 := cellB hb1 i0
  have c1 := cellB hb1 i1
  have f0 := frozenB hb1 i0 if0
  have f1 := frozenB hb1 i1 if1
  have hon : w.grownBy w1 (some R) := only_trans (only_of_below hB0 _) (only_of_below hb1 _)
  clear eR i0 i1 if0 if1 hb1 hB0 hc0
  go_wp2_with fail
  refine (pick_c R 0 3 (by omega) (by omega) (by omega) _ hR1).mono ?_
  rintro e wc ⟨⟨x, rfl, hx⟩, hR2, hg⟩
  replace f0 := frozen_only hg c0 (by first | assumption | omega | (simp; omega)) f0
  replace c0 := cell_only hg c0 (by first | assumption | omega | (simp; omega))
  replace f1 := frozen_only hg c1 (by first | assumption | omega | (simp; omega)) f1
  replace c1 := cell_only hg c1 (by first | assumption | omega | (simp; omega))
  replace hon := only_trans hon hg
  clear hR1 hg
  have hRw2 := hR2.1
  by_cases hx0 : x = 0
  · subst hx0
    go_wp2_with fail
    refine (l91Wrong_r R (0 + 1) 30 (by omega) (by omega) (by omega) _ hR2).mono ?_
    rintro e wd ⟨⟨W, v, rows, rfl, hI, hl⟩, hg, _⟩
    have hI2 : DRows (R + 1) wd v rows := by
      rcases hI with h | ⟨g, c, hr, h, hlo⟩
      · exact .inl h
      · exact .inr ⟨g, c, hr, h, by omega⟩
    obtain ⟨ao, co, rfl⟩ := DRows.form hI2
    replace f0 := frozen_only hg c0 (by first | assumption | omega | (simp; omega)) f0
    replace c0 := cell_only hg c0 (by first | assumption | omega | (simp; omega))
    replace f1 := frozen_only hg c1 (by first | assumption | omega | (simp; omega)) f1
    replace c1 := cell_only hg c1 (by first | assumption | omega | (simp; omega))
    replace hon := only_trans hon hg
    have HE := Lib.hid (draw_fin (W := W) hon hz0 hI2 (by omega))
    obtain ⟨q0, q1⟩ := set2_get (x := .int .i64 W) (y := .slice ao rows.length co) c0 c1
    clear hI hI2 hon hg
    go_wp2
    refine bodyPost_ret (res_img rfl _ _ rfl q0 q1) rfl ?_
    exact ⟨W, _, rows, rfl, HE.out.1, hl, HE.out.2⟩
  · have hx1 : 0 < (x : Int) := by omega
    go_wp2_with fail
    refine (l93Convex_c R (0 + 1) 30 (by omega) (by omega) (by omega) _ hR2).mono ?_
    rintro e wd ⟨⟨g, c, v, ns, rfl, hV, hr, hgl⟩, _, hg⟩
    have hI2 : DRows (R + 1) wd (.slice (some ⟨g, 0, none⟩) ns.length c) (casts ns) := .inr ⟨g, c, hr, by rw [length_casts], by omega⟩
    replace f0 := frozen_only hg c0 (by first | assumption | omega | (simp; omega)) f0
    replace c0 := cell_only hg c0 (by first | assumption | omega | (simp; omega))
    replace f1 := frozen_only hg c1 (by first | assumption | omega | (simp; omega)) f1
    replace c1 := cell_only hg c1 (by first | assumption | omega | (simp; omega))
    replace hon := only_trans hon hg
    have HE := Lib.hid (draw_fin (W := (v : Int)) hon hz0 hI2 (by omega))
    obtain ⟨q0, q1⟩ := set2_get (x := .int .i64 (v : Int)) (y := .slice (some ⟨g, 0, none⟩) ns.length c) c0 c1
    have hl6 := hV.h6
    clear hI2 hon hg hr
    go_wp2
    refine bodyPost_ret (res_img rfl _ _ rfl q0 q1) rfl ?_
    exact ⟨v, _, casts ns, rfl, HE.out.1, by rw [length_casts]; exact hl6, HE.out.2⟩
end Go.Proofs.YtponmfnehbohcaaDoor
