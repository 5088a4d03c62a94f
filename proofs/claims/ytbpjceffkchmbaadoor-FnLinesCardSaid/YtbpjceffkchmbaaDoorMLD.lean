/- Contracts of l92Dir and of DrawMomentLines: an image and a direction out of a code. Conditions: the code's slice can be read. -/
import Derived.Test.YtbpjceffkchmbaaDoorPD
import Derived.Test.YtbpjceffkchmbaaDoorPD2
import Derived.Test.YtbpjceffkchmbaaDoorTW
import Derived.Deep.RegionWith
namespace Go.Proofs.YtbpjceffkchmbaaDoor
open Go.RowKit
theorem grn_undrew {w w' : World} {row : Option Nat} (h : w.drew.grownBy w' row) : w.grownBy w' row := ⟨h.os, h.tape, h.output, h.size, h.block⟩
/-- A direction, or -1 or 8. -/
def DirE (e : Ending) : Prop := ∃ d : Int, e = .returned (.int .i64 d) ∧ -1 ≤ d ∧ d ≤ 8
set_option maxHeartbeats 1000000 in
theorem l92Dir_c (R K : Nat) (hK : K ≤ 600000) (w : World) (hR : Rd w R K) :
    Calls Tryd.prog 24 #[.pointer (some ⟨R, 0, none⟩)] w fun e w' => DirE e ∧ Rd w' R (K + 2) ∧ w.grownBy w' (some R) := by
  have hlt := hR.1
  go_enter Tryd.func24, Tryd.ntmps24
  go_wp2_with fail
  refine (pick_c R K 24 (by omega) (by omega) (by omega) w hR).mono ?_
  rintro e w1 ⟨⟨x, rfl, hx⟩, hrd, hon⟩
  by_cases e0 : x = 0
  · subst e0
    obtain ⟨W5, e5⟩ : ∃ W5, W5 = w1.alloc (.cells #[.int .i64 (-1), .int .i64 8] 3) := ⟨_, rfl⟩
    have hb5 : Below w1.heap.size w1 W5 := by rw [e5]; go_grown
    have s0 : W5.cell? ⟨w1.heap.size, 0, none⟩ = some (.int .i64 (-1)) := by rw [e5]; go_cell
    have s1 : W5.cell? ⟨w1.heap.size, 1, none⟩ = some (.int .i64 8) := by rw [e5]; go_cell
    have hR5 := hrd.below hb5 hrd.1
    have hne : w1.heap.size ≠ R := by have := hon.size; omega
    have hon5 := only_trans hon (only_of_below hb5 (some R))
    clear hb5 hrd hon
    go_wp2_with fail
    rw [← e5]
    clear e5
    refine (pick_c R (K + 1) 2 (by omega) (by omega) (by omega) _ hR5).mono ?_
    rintro e w6 ⟨⟨x, rfl, hx⟩, hR6, hg6⟩
    have t0 := cell_only hg6 s0 hne
    have t1 := cell_only hg6 s1 hne
    obtain ⟨z, hz, hb⟩ : ∃ z : Int, w6.cell? ⟨w1.heap.size, x, none⟩ = some (.int .i64 z) ∧ -1 ≤ z ∧ z ≤ 8 := by
      have : x = 0 ∨ x = 1 := by omega
      rcases this with rfl | rfl
      · exact ⟨_, t0, by omega, by omega⟩
      · exact ⟨_, t1, by omega, by omega⟩
    have HE := Lib.hid (And.intro hb (And.intro hR6 (only_trans hon5 hg6)))
    clear t0 t1 s0 s1 hg6 hR6 hon5 hR5 hb
    go_wp2
    go_returns
    exact ⟨⟨z, rfl, HE.out.1⟩, HE.out.2⟩
  · have f0 : ((x : Int) == 0) = false := by simp; omega
    go_wp2_with fail
    refine (pick_c R (K + 1) 8 (by omega) (by omega) (by omega) _ hrd).mono ?_
    rintro e w2 ⟨⟨h, rfl, hh⟩, hrd2, hg⟩
    have HE := Lib.hid (And.intro hrd2 (only_trans hon hg))
    clear hrd2 hg hon hrd
    go_wp2
    go_returns
    exact ⟨⟨h, rfl, by omega, by omega⟩, HE.out⟩
theorem res_img_1 {fn : Func} {t u : Tmp} (h : fn.results = #[.cell t 25, .tmp u]) (tmps : Array Value) (w : World) {b : Nat} {x y : Value} (ht : tmps.getD t undef = .pointer (some ⟨b, 0, none⟩)) (h0 : w.cell? ⟨b, 0, none⟩ = some x) (h1 : w.cell? ⟨b, 1, none⟩ = some y) :
    (results fn tmps).run Tryd.prog w = .ok (.tuple #[.agg #[x, y], tmps.getD u undef]) w := res_img_b h tmps w ht h0 h1
set_option maxHeartbeats 2000000 in
theorem DrawMomentLines_c (A : Option Addr) (len cap : Nat) (hlc : len ≤ cap) (w : World) (hc : Code8 w w.heap.size A len) :
    Calls Tryd.prog 6 #[.slice A len cap] w fun e w' => ∃ (W : Int) (v : Value) (rows : List Int) (d : Int), e = .returned (.tuple #[.agg #[.int .i64 W, v], .int .i64 d]) ∧ Ints w'.heap.size w' v rows ∧ rows.length ≤ 6 ∧ (-1 ≤ d ∧ d ≤ 8) ∧ Below w.heap.size w w' := by
  obtain ⟨W0, eW⟩ : ∃ W0, W0 = w.alloc (.cells #[.int .i64 0, .slice none 0 0] 25) := ⟨_, rfl⟩
  have hB0 : Below w.heap.size w W0 := by rw [eW]; go_grown
  have i0 : W0.cell? ⟨w.heap.size, 0, none⟩ = some (.int .i64 0) := by rw [eW]; go_cell
  have i1 : W0.cell? ⟨w.heap.size, 1, none⟩ = some (.slice none 0 0) := by rw [eW]; go_cell
  have if0 : W0.frozen? ⟨w.heap.size, 0, none⟩ = false := by rw [eW]; go_cell
  have if1 : W0.frozen? ⟨w.heap.size, 1, none⟩ = false := by rw [eW]; go_cell
  have hz0 : w.heap.size < W0.heap.size := by rw [eW]; simp
  have hc0 : Code8 W0 W0.heap.size A len := by
    rcases hc with h | ⟨b, off, e, hb, z, hz⟩
    · exact .inl h
    · exact .inr ⟨b, off, e, by omega, z, fun i hi => ⟨cellB hB0 (hz i hi).1, (hz i hi).2⟩⟩
  go_enter Tryd.func6, Tryd.ntmps6
  go_wp2_with fail
  rw [← eW]
  clear eW hc
  refine (l6Open_c A len cap hlc _ hc0).mono ?_
  rintro e w1 ⟨rfl, hR1, hb1⟩
  obtain ⟨R, eR⟩ : ∃ R, R = W0.heap.size := ⟨_, rfl⟩
  rw [← eR] at hR1 hz0 ⊢
  have ER := Lib.hid eR
  clear eR
  go_wp2_with fail
  refine (l91Wrong_r R 0 36 (by omega) (by omega) (by omega) _ hR1).mono ?_
  rintro e w2 ⟨⟨W, v, rows, rfl, hI, hl⟩, hg2, hR2⟩
  have hne : w.heap.size ≠ R := by omega
  have c0 := cell_only hg2 (cellB hb1 i0) hne
  have c1 := cell_only hg2 (cellB hb1 i1) hne
  have f0 := frozen_only hg2 (cellB hb1 i0) hne (frozenB hb1 i0 if0)
  have f1 := frozen_only hg2 (cellB hb1 i1) hne (frozenB hb1 i1 if1)
  have hB2 : Below w.heap.size w w2 := by
    have h1 : W0.grownBy w2 (some R) := only_trans (only_of_below hb1 _) hg2
    rw [ER.out] at h1
    exact hB0.trans ((below_of_only h1 (Nat.le_refl _)).mono hB0.size)
  have hRw2 := hR2.1
  have hz1 := hb1.size
  have hI2 : DRows (R + 1) w2 v rows := by
    rcases hI with h | ⟨g, c, hr, h, hlo⟩
    · exact .inl h
    · have : R < w1.heap.size := hR1.1
      exact .inr ⟨g, c, hr, h, by omega⟩
  obtain ⟨ao, co, rfl⟩ := DRows.form hI2
  clear hI i0 i1 if0 if1 hg2 hb1 hB0 hc0 hz1
  obtain ⟨W3, e3⟩ : ∃ W3, W3 = w2.alloc (.cells #[.int .i64 W, .slice ao rows.length co] 25) := ⟨_, rfl⟩
  have hb3 : Below w2.heap.size w2 W3 := by rw [e3]; go_grown
  have x0 : W3.cell? ⟨w2.heap.size, 0, none⟩ = some (.int .i64 W) := by rw [e3]; go_cell
  have x1 : W3.cell? ⟨w2.heap.size, 1, none⟩ = some (.slice ao rows.length co) := by rw [e3]; go_cell
  have c0 := cellB hb3 c0
  have c1 := cellB hb3 c1
  have f0 := frozenB hb3 (by assumption) f0
  have f1 := frozenB hb3 (by assumption) f1
  have hR3 := hR2.below hb3 hR2.1
  have hI3 := DRows.below hI2 hb3
  have hB3 := hB2.trans (hb3.mono hB2.size)
  have hxR : w2.heap.size ≠ R := by omega
  obtain ⟨Bx, eBx⟩ : ∃ Bx, Bx = w2.heap.size := ⟨_, rfl⟩
  rw [← eBx] at x0 x1 hxR
  have hBw : w.heap.size < Bx := by omega
  have EB := Lib.hid eBx
  clear eBx
  go_wp2_with fail
  rw [← e3, ← EB.out]
  clear e3 hI2 hR2 hB2 hb3
  have hRd : Rd W3.drew R 12 := hR3.more (by omega)
  have HP := l92Dir_c R 12 (by omega) _ hRd
  have HH := Lib.hid (And.intro hI3 hB3)
  clear hI3 hB3 hR3 hRd
  go_region_with (go_at_call 24; ((with_reducible refine HP.mono ?_); rintro e w9 ⟨⟨d, rfl, hd⟩, hR9, hg9'⟩; have hg9 := grn_undrew hg9'; have y0 := cell_only hg9 x0 hxR; have y1 := cell_only hg9 x1 hxR; have k0 := cell_only hg9 c0 hne; have k1 := cell_only hg9 c1 hne; have l0 := frozen_only hg9 c0 hne f0; have l1 := frozen_only hg9 c1 hne f1; clear hg9'))
  all_goals
    obtain ⟨q0, q1⟩ := set2_get (x := .int .i64 W) (y := .slice ao rows.length co) k0 k1
    have HE := Lib.hid (And.intro (DRows.only HH.out.1 hg9 (by omega)) (HH.out.2.grown hg9 HH.out.2.size (fun k e => by cases e; omega)))
    go_wp2
    refine bodyPost_ret (res_img_1 rfl _ _ rfl q0 q1) rfl ?_
    refine ⟨W, _, rows, d, rfl, ?_, hl, hd, (HE.out.2.setCell (by simp) _).setCell (by simp) _⟩
    rcases HE.out.1 with ⟨e, A', c, h⟩ | ⟨g, c, hr, h, hlo⟩
    · exact .inl ⟨e, A', c, h⟩
    · have hr' := ((hr.far (p := ⟨w.heap.size, 0, none⟩) (by simp; omega) (.int .i64 W)).far (p := ⟨w.heap.size, 1, none⟩) (by simp; omega) (.slice ao rows.length co))
      have := hr'.ints hr'.lt c
      rw [← h] at this
      exact this
end Go.Proofs.YtbpjceffkchmbaaDoor
