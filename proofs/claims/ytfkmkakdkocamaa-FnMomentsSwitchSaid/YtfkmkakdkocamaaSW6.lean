/- Contracts of DrawSwitchOk and DrawSwitchDo: an image and a switch whose numbers are at most 6. Conditions: the code's slice can be read. -/
import Derived.Test.YtfkmkakdkocamaaSW5
import Derived.Deep.RegionWith
namespace Go.Proofs.Ytfkmkakdkocamaa
open Go.RowKit
/-- Rows in a block behind R, or none. -/
def ROk (R : Nat) (w : World) (v : Value) (rows : List Int) : Prop := (rows = [] ∧ ∃ A c, v = .slice A 0 c) ∨ ∃ g c, Row w g rows ∧ v = .slice (some ⟨g, 0, none⟩) rows.length c ∧ R < g
theorem ROk.form {R : Nat} {w : World} {v : Value} {rows : List Int} (h : ROk R w v rows) : ∃ A c, v = .slice A rows.length c := by
  rcases h with ⟨e, A, c, h⟩ | ⟨g, c, _, h, _⟩
  · exact ⟨A, c, by rw [h, e]; rfl⟩
  · exact ⟨_, _, h⟩
theorem ROk.ints {R : Nat} {w : World} {v : Value} {rows : List Int} (h : ROk R w v rows) : Ints w.heap.size w v rows := by
  rcases h with ⟨e, A, c, h⟩ | ⟨g, c, hr, h, _⟩
  · exact .inl ⟨e, A, c, h⟩
  · rw [h]; exact hr.ints hr.lt c
theorem ROk.below {R : Nat} {w w' : World} {v : Value} {rows : List Int} (h : ROk R w v rows) (hb : Below w.heap.size w w') : ROk R w' v rows := by
  rcases h with h | ⟨g, c, hr, h, hl⟩
  · exact .inl h
  · exact .inr ⟨g, c, hr.below hb hr.lt, h, hl⟩
theorem ROk.only {R : Nat} {w w' : World} {v : Value} {rows : List Int} (h : ROk R w v rows) (hg : w.grownBy w' (some R)) : ROk R w' v rows := by
  rcases h with h | ⟨g, c, hr, h, hl⟩
  · exact .inl h
  · exact .inr ⟨g, c, hr.only hg (by omega), h, hl⟩
theorem ROk.far {R : Nat} {w : World} {v : Value} {rows : List Int} (h : ROk R w v rows) {p : Addr} (hp : p.block < R) (u : Value) : ROk R (w.setCell p u) v rows := by
  rcases h with h | ⟨g, c, hr, h, hl⟩
  · exact .inl h
  · exact .inr ⟨g, c, hr.far (by omega) _, h, hl⟩
theorem ROk.more {R R' : Nat} {w : World} {v : Value} {rows : List Int} (h : ROk R w v rows) (hR : R' ≤ R) : ROk R' w v rows := by
  rcases h with h | ⟨g, c, hr, h, hl⟩
  · exact .inl h
  · exact .inr ⟨g, c, hr, h, by omega⟩
/-- The drawn image and switch. -/
def ImgSw (w : World) (e : Ending) (w' : World) : Prop := ∃ (W : Int) (v : Value) (rows : List Int) (a b c d : Nat), e = .returned (.tuple #[.agg #[.int .i64 W, v], swV a b c d]) ∧ ROk w.heap.size w' v rows ∧ rows.length ≤ 6 ∧ (a ≤ 6 ∧ b ≤ 6 ∧ c ≤ 6 ∧ d ≤ 6) ∧ Below w.heap.size w w'
theorem belowOnS {w w' : World} {g : Nat} (h : w.grownBy w' (some g)) (hg : w.heap.size ≤ g) : Below w.heap.size w w' := (Below.refl w.heap.size w).grown h (Nat.le_refl _) (fun k e => by cases e; exact hg)
/-- An image's cells and a switch's cells written. -/
def set6 (w : World) (b : Nat) (k l x y z u : Value) : World := (((((w.setCell ⟨b, 0, none⟩ k).setCell ⟨b, 1, none⟩ l).setCell ⟨b + 1, 0, none⟩ x).setCell ⟨b + 1, 1, none⟩ y).setCell ⟨b + 1, 2, none⟩ z).setCell ⟨b + 1, 3, none⟩ u
theorem set6_get {w : World} {b : Nat} {k l x y z u k' l' x' y' z' u' : Value} (e0 : w.cell? ⟨b, 0, none⟩ = some k') (e1 : w.cell? ⟨b, 1, none⟩ = some l') (h0 : w.cell? ⟨b + 1, 0, none⟩ = some x') (h1 : w.cell? ⟨b + 1, 1, none⟩ = some y') (h2 : w.cell? ⟨b + 1, 2, none⟩ = some z') (h3 : w.cell? ⟨b + 1, 3, none⟩ = some u') :
    ((set6 w b k l x y z u).cell? ⟨b, 0, none⟩ = some k ∧ (set6 w b k l x y z u).cell? ⟨b, 1, none⟩ = some l) ∧ (set6 w b k l x y z u).cell? ⟨b + 1, 0, none⟩ = some x ∧ (set6 w b k l x y z u).cell? ⟨b + 1, 1, none⟩ = some y ∧ (set6 w b k l x y z u).cell? ⟨b + 1, 2, none⟩ = some z ∧ (set6 w b k l x y z u).cell? ⟨b + 1, 3, none⟩ = some u := by
  obtain ⟨q0, q1⟩ := set2_get (x := k) (y := l) e0 e1
  have far : ∀ o, ((w.setCell ⟨b, 0, none⟩ k).setCell ⟨b, 1, none⟩ l).cell? ⟨b + 1, o, none⟩ = w.cell? ⟨b + 1, o, none⟩ := fun o => by
    rw [World.cell?_setCell_other _ _ _ _ (by simp), World.cell?_setCell_other _ _ _ _ (by simp)]
  have hs := set4_get (x := x) (y := y) (z := z) (u := u) ((far 0).trans h0) ((far 1).trans h1) ((far 2).trans h2) ((far 3).trans h3)
  refine ⟨⟨?_, ?_⟩, hs⟩
  · unfold set6
    rw [World.cell?_setCell_other _ _ _ _ (by simp), World.cell?_setCell_other _ _ _ _ (by simp), World.cell?_setCell_other _ _ _ _ (by simp), World.cell?_setCell_other _ _ _ _ (by simp)]
    exact q0
  · unfold set6
    rw [World.cell?_setCell_other _ _ _ _ (by simp), World.cell?_setCell_other _ _ _ _ (by simp), World.cell?_setCell_other _ _ _ _ (by simp), World.cell?_setCell_other _ _ _ _ (by simp)]
    exact q1
theorem ROk.set6 {R : Nat} {w : World} {v : Value} {rows : List Int} (h : ROk R w v rows) {b : Nat} (hb : b + 1 < R) (k l x y z u : Value) : ROk R (set6 w b k l x y z u) v rows :=
  (((((h.far (p := ⟨b, 0, none⟩) (by show b < R; omega) k).far (p := ⟨b, 1, none⟩) (by show b < R; omega) l).far (p := ⟨b + 1, 0, none⟩) hb x).far (p := ⟨b + 1, 1, none⟩) hb y).far (p := ⟨b + 1, 2, none⟩) hb z).far (p := ⟨b + 1, 3, none⟩) hb u
theorem below6 {a w : World} {b : Nat} (h : Below a.heap.size a w) (hb : a.heap.size ≤ b) (k l x y z u : Value) : Below a.heap.size a (set6 w b k l x y z u) :=
  (((((h.setCell (p := ⟨b, 0, none⟩) hb k).setCell (p := ⟨b, 1, none⟩) hb l).setCell (p := ⟨b + 1, 0, none⟩) (by show _ ≤ b + 1; omega) x).setCell (p := ⟨b + 1, 1, none⟩) (by show _ ≤ b + 1; omega) y).setCell (p := ⟨b + 1, 2, none⟩) (by show _ ≤ b + 1; omega) z).setCell (p := ⟨b + 1, 3, none⟩) (by show _ ≤ b + 1; omega) u
theorem grn_undrewS {w w1 : World} {row : Option Nat} (h : w.drew.grownBy w1 row) : w.grownBy w1 row := ⟨h.os, h.tape, h.output, h.size, h.block⟩
set_option maxRecDepth 100000 in
set_option maxHeartbeats 4000000 in
theorem DrawSwitchOk_c (A : Option Addr) (len cap : Nat) (hlc : len ≤ cap) (w : World) (hc : Code8 w w.heap.size A len) :
    Calls Try.prog 11 #[.slice A len cap] w (ImgSw w) := by
  obtain ⟨W0, eW⟩ : ∃ W0, W0 = (w.alloc (.cells #[.int .i64 0, .slice none 0 0] 25)).alloc (.cells #[.int .i64 0, .int .i64 0, .int .i64 0, .int .i64 0] 27) := ⟨_, rfl⟩
  have hB0 : Below w.heap.size w W0 := by rw [eW]; go_grown
  have i0 : W0.cell? ⟨w.heap.size, 0, none⟩ = some (.int .i64 0) := by rw [eW]; go_cell
  have i1 : W0.cell? ⟨w.heap.size, 1, none⟩ = some (.slice none 0 0) := by rw [eW]; go_cell
  have if0 : W0.frozen? ⟨w.heap.size, 0, none⟩ = false := by rw [eW]; go_cell
  have if1 : W0.frozen? ⟨w.heap.size, 1, none⟩ = false := by rw [eW]; go_cell
  have s0 : W0.cell? ⟨w.heap.size + 1, 0, none⟩ = some (.int .i64 0) := by rw [eW]; go_cell
  have s1 : W0.cell? ⟨w.heap.size + 1, 1, none⟩ = some (.int .i64 0) := by rw [eW]; go_cell
  have s2 : W0.cell? ⟨w.heap.size + 1, 2, none⟩ = some (.int .i64 0) := by rw [eW]; go_cell
  have s3 : W0.cell? ⟨w.heap.size + 1, 3, none⟩ = some (.int .i64 0) := by rw [eW]; go_cell
  have sf0 : W0.frozen? ⟨w.heap.size + 1, 0, none⟩ = false := by rw [eW]; go_cell
  have sf1 : W0.frozen? ⟨w.heap.size + 1, 1, none⟩ = false := by rw [eW]; go_cell
  have sf2 : W0.frozen? ⟨w.heap.size + 1, 2, none⟩ = false := by rw [eW]; go_cell
  have sf3 : W0.frozen? ⟨w.heap.size + 1, 3, none⟩ = false := by rw [eW]; go_cell
  have hz0 : w.heap.size + 1 < W0.heap.size := by rw [eW]; simp
  have hc0 : Code8 W0 W0.heap.size A len := by
    rcases hc with h | ⟨b, off, e, hb, z, hz⟩
    · exact .inl h
    · exact .inr ⟨b, off, e, by omega, z, fun i hi => ⟨cellB hB0 (hz i hi).1, (hz i hi).2⟩⟩
  go_enter Try.func11, Try.ntmps11
  go_wp2_with fail
  rw [← eW]
  clear eW hc
  refine (l6Open_c A len cap hlc _ hc0).mono ?_
  rintro e w1 ⟨rfl, hR1, hb1⟩
  obtain ⟨R, eR⟩ : ∃ R, R = W0.heap.size := ⟨_, rfl⟩
  rw [← eR] at hR1 hz0 ⊢
  have ER := Lib.hid eR
  clear eR
  replace if0 := frozenB hb1 i0 if0
  replace i0 := cellB hb1 i0
  replace if1 := frozenB hb1 i1 if1
  replace i1 := cellB hb1 i1
  replace sf0 := frozenB hb1 s0 sf0
  replace s0 := cellB hb1 s0
  replace sf1 := frozenB hb1 s1 sf1
  replace s1 := cellB hb1 s1
  replace sf2 := frozenB hb1 s2 sf2
  replace s2 := cellB hb1 s2
  replace sf3 := frozenB hb1 s3 sf3
  replace s3 := cellB hb1 s3
  go_wp2_with fail
  refine (l91Wrong_r R 0 36 (by omega) (by omega) (by omega) _ hR1).mono ?_
  rintro e w2 ⟨⟨W, v, rows, rfl, hI, hl⟩, hg2, hR2⟩
  have hB2 : Below w.heap.size w w2 := by
    have h1 : W0.grownBy w2 (some R) := only_trans (only_of_below hb1 _) hg2
    rw [ER.out] at h1
    exact hB0.trans ((belowOnS h1 (Nat.le_refl _)).mono hB0.size)
  have hRw2 := hR2.1
  have hI2 : ROk R w2 v rows := by
    rcases hI with h | ⟨g, c, hr, h, hlo⟩
    · exact .inl h
    · have : R < w1.heap.size := hR1.1
      exact .inr ⟨g, c, hr, h, by omega⟩
  replace if0 := frozen_only hg2 i0 (by first | assumption | omega | (simp; omega)) if0
  replace i0 := cell_only hg2 i0 (by first | assumption | omega | (simp; omega))
  replace if1 := frozen_only hg2 i1 (by first | assumption | omega | (simp; omega)) if1
  replace i1 := cell_only hg2 i1 (by first | assumption | omega | (simp; omega))
  replace sf0 := frozen_only hg2 s0 (by first | assumption | omega | (simp; omega)) sf0
  replace s0 := cell_only hg2 s0 (by first | assumption | omega | (simp; omega))
  replace sf1 := frozen_only hg2 s1 (by first | assumption | omega | (simp; omega)) sf1
  replace s1 := cell_only hg2 s1 (by first | assumption | omega | (simp; omega))
  replace sf2 := frozen_only hg2 s2 (by first | assumption | omega | (simp; omega)) sf2
  replace s2 := cell_only hg2 s2 (by first | assumption | omega | (simp; omega))
  replace sf3 := frozen_only hg2 s3 (by first | assumption | omega | (simp; omega)) sf3
  replace s3 := cell_only hg2 s3 (by first | assumption | omega | (simp; omega))
  obtain ⟨ao, co, rfl⟩ := hI2.form
  clear hI hg2 hb1 hB0 hc0
  obtain ⟨W3, e3⟩ : ∃ W3, W3 = w2.alloc (.cells #[.int .i64 W, .slice ao rows.length co] 25) := ⟨_, rfl⟩
  have hb3 : Below w2.heap.size w2 W3 := by rw [e3]; go_grown
  have x0 : W3.cell? ⟨w2.heap.size, 0, none⟩ = some (.int .i64 W) := by rw [e3]; go_cell
  have x1 : W3.cell? ⟨w2.heap.size, 1, none⟩ = some (.slice ao rows.length co) := by rw [e3]; go_cell
  replace if0 := frozenB hb3 i0 if0
  replace i0 := cellB hb3 i0
  replace if1 := frozenB hb3 i1 if1
  replace i1 := cellB hb3 i1
  replace sf0 := frozenB hb3 s0 sf0
  replace s0 := cellB hb3 s0
  replace sf1 := frozenB hb3 s1 sf1
  replace s1 := cellB hb3 s1
  replace sf2 := frozenB hb3 s2 sf2
  replace s2 := cellB hb3 s2
  replace sf3 := frozenB hb3 s3 sf3
  replace s3 := cellB hb3 s3
  have hR3 := hR2.below hb3 hR2.1
  have hI3 := hI2.below hb3
  have hB3 := hB2.trans (hb3.mono hB2.size)
  have hxR : w2.heap.size ≠ R := by omega
  obtain ⟨Bx, eBx⟩ : ∃ Bx, Bx = w2.heap.size := ⟨_, rfl⟩
  rw [← eBx] at x0 x1 hxR
  have hBw : w.heap.size < Bx := by omega
  have EB := Lib.hid eBx
  clear eBx
  go_wp2_with fail
  rw [← e3, ← EB.out]
  clear e3 hI2 hR2 hB2 hb3
  have hRd : Rd W3.drew R 12 := hR3.more (by omega)
  have HP := l92Switch_c R 12 (by omega) W (.slice ao rows.length co) rows W3.drew hRd hI3.ints.drew
  have HH := Lib.hid (And.intro hI3 hB3)
  clear hI3 hB3 hR3 hRd
  have hne : w.heap.size ≠ R := by omega
  have hne2 : w.heap.size + 1 ≠ R := by omega
  go_region_with (go_at_call 26; ((with_reducible refine HP.mono ?_); rintro e w9 ⟨a, b, c, d, rfl, ha, hb, hc, hd, hg9'⟩; have hg9 := grn_undrewS hg9'; have y0 := cell_only hg9 x0 hxR; have y1 := cell_only hg9 x1 hxR; have k0 := cell_only hg9 i0 hne; have k1 := cell_only hg9 i1 hne; have l0 := frozen_only hg9 i0 hne if0; have l1 := frozen_only hg9 i1 hne if1; have t0 := cell_only hg9 s0 hne2; have t1 := cell_only hg9 s1 hne2; have t2 := cell_only hg9 s2 hne2; have t3 := cell_only hg9 s3 hne2; have u0 := frozen_only hg9 s0 hne2 sf0; have u1 := frozen_only hg9 s1 hne2 sf1; have u2 := frozen_only hg9 s2 hne2 sf2; have u3 := frozen_only hg9 s3 hne2 sf3; unfold swV; clear hg9'))
  all_goals
    have hq := set6_get (k := .int .i64 W) (l := .slice ao rows.length co) (x := .int .i64 (a : Int)) (y := .int .i64 (b : Int)) (z := .int .i64 (c : Int)) (u := .int .i64 (d : Int)) k0 k1 t0 t1 t2 t3
    have HE := Lib.hid (And.intro ((HH.out.1.only hg9).set6 (b := w.heap.size) hz0 (.int .i64 W) (.slice ao rows.length co) (.int .i64 (a : Int)) (.int .i64 (b : Int)) (.int .i64 (c : Int)) (.int .i64 (d : Int))) (below6 (HH.out.2.grown hg9 HH.out.2.size (fun k e => by cases e; omega)) (Nat.le_refl _) (.int .i64 W) (.slice ao rows.length co) (.int .i64 (a : Int)) (.int .i64 (b : Int)) (.int .i64 (c : Int)) (.int .i64 (d : Int))))
    have HQ := Lib.hid hq
    clear hq
    go_wp2
    refine bodyPost_ret (res_img_sw rfl _ _ rfl rfl HQ.out.1.1 HQ.out.1.2 HQ.out.2.1 HQ.out.2.2.1 HQ.out.2.2.2.1 HQ.out.2.2.2.2) rfl ?_
    exact ⟨W, _, rows, a, b, c, d, rfl, HE.out.1.more (by omega), hl, ⟨ha, hb, hc, hd⟩, HE.out.2⟩
set_option maxRecDepth 100000 in
set_option maxHeartbeats 4000000 in
theorem DrawSwitchDo_c (A : Option Addr) (len cap : Nat) (hlc : len ≤ cap) (w : World) (hc : Code8 w w.heap.size A len) :
    Calls Try.prog 4 #[.slice A len cap] w (ImgSw w) := by
  obtain ⟨W0, eW⟩ : ∃ W0, W0 = (w.alloc (.cells #[.int .i64 0, .slice none 0 0] 25)).alloc (.cells #[.int .i64 0, .int .i64 0, .int .i64 0, .int .i64 0] 27) := ⟨_, rfl⟩
  have hB0 : Below w.heap.size w W0 := by rw [eW]; go_grown
  have i0 : W0.cell? ⟨w.heap.size, 0, none⟩ = some (.int .i64 0) := by rw [eW]; go_cell
  have i1 : W0.cell? ⟨w.heap.size, 1, none⟩ = some (.slice none 0 0) := by rw [eW]; go_cell
  have if0 : W0.frozen? ⟨w.heap.size, 0, none⟩ = false := by rw [eW]; go_cell
  have if1 : W0.frozen? ⟨w.heap.size, 1, none⟩ = false := by rw [eW]; go_cell
  have s0 : W0.cell? ⟨w.heap.size + 1, 0, none⟩ = some (.int .i64 0) := by rw [eW]; go_cell
  have s1 : W0.cell? ⟨w.heap.size + 1, 1, none⟩ = some (.int .i64 0) := by rw [eW]; go_cell
  have s2 : W0.cell? ⟨w.heap.size + 1, 2, none⟩ = some (.int .i64 0) := by rw [eW]; go_cell
  have s3 : W0.cell? ⟨w.heap.size + 1, 3, none⟩ = some (.int .i64 0) := by rw [eW]; go_cell
  have sf0 : W0.frozen? ⟨w.heap.size + 1, 0, none⟩ = false := by rw [eW]; go_cell
  have sf1 : W0.frozen? ⟨w.heap.size + 1, 1, none⟩ = false := by rw [eW]; go_cell
  have sf2 : W0.frozen? ⟨w.heap.size + 1, 2, none⟩ = false := by rw [eW]; go_cell
  have sf3 : W0.frozen? ⟨w.heap.size + 1, 3, none⟩ = false := by rw [eW]; go_cell
  have hz0 : w.heap.size + 1 < W0.heap.size := by rw [eW]; simp
  have hc0 : Code8 W0 W0.heap.size A len := by
    rcases hc with h | ⟨b, off, e, hb, z, hz⟩
    · exact .inl h
    · exact .inr ⟨b, off, e, by omega, z, fun i hi => ⟨cellB hB0 (hz i hi).1, (hz i hi).2⟩⟩
  have HD := DrawSwitchOk_c A len cap hlc W0 hc0
  clear hc hc0
  go_enter Try.func4, Try.ntmps4
  go_wp2_with fail
  rw [← eW]
  clear eW
  refine HD.mono ?_
  clear HD
  rintro e w9 ⟨W, v, rows, a, b, c, d, rfl, hI, hl, ⟨ha, hb, hc, hd⟩, hb9⟩
  unfold swV
  replace if0 := frozenB hb9 i0 if0
  replace i0 := cellB hb9 i0
  replace if1 := frozenB hb9 i1 if1
  replace i1 := cellB hb9 i1
  replace sf0 := frozenB hb9 s0 sf0
  replace s0 := cellB hb9 s0
  replace sf1 := frozenB hb9 s1 sf1
  replace s1 := cellB hb9 s1
  replace sf2 := frozenB hb9 s2 sf2
  replace s2 := cellB hb9 s2
  replace sf3 := frozenB hb9 s3 sf3
  replace s3 := cellB hb9 s3
  obtain ⟨ao, co, rfl⟩ := hI.form
  have hq := set6_get (k := .int .i64 W) (l := .slice ao rows.length co) (x := .int .i64 (a : Int)) (y := .int .i64 (b : Int)) (z := .int .i64 (c : Int)) (u := .int .i64 (d : Int)) i0 i1 s0 s1 s2 s3
  have HE := Lib.hid (And.intro (hI.set6 (b := w.heap.size) hz0 (.int .i64 W) (.slice ao rows.length co) (.int .i64 (a : Int)) (.int .i64 (b : Int)) (.int .i64 (c : Int)) (.int .i64 (d : Int))) (below6 (hB0.trans (hb9.mono hB0.size)) (Nat.le_refl _) (.int .i64 W) (.slice ao rows.length co) (.int .i64 (a : Int)) (.int .i64 (b : Int)) (.int .i64 (c : Int)) (.int .i64 (d : Int))))
  have HQ := Lib.hid hq
  have hz1 : w.heap.size ≤ W0.heap.size := by omega
  have HZ := Lib.hid hz1
  clear hq hI hb9 hB0 hz1
  go_wp2
  refine bodyPost_ret (res_img_sw rfl _ _ rfl rfl HQ.out.1.1 HQ.out.1.2 HQ.out.2.1 HQ.out.2.2.1 HQ.out.2.2.2.1 HQ.out.2.2.2.2) rfl ?_
  exact ⟨W, _, rows, a, b, c, d, rfl, HE.out.1.more HZ.out, hl, ⟨ha, hb, hc, hd⟩, HE.out.2⟩
end Go.Proofs.Ytfkmkakdkocamaa
