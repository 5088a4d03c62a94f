/- Contracts of the draws of the laws of parts: an image out of a code, often with holes. Conditions: the code's slice can be read. -/
import Derived.Test.YtbblbdacdpokeaaDoorPW
import Derived.Test.YtbblbdacdpokeaaDoorTW
import Derived.Test.YtbblbdacdpokeaaDoorPL1
namespace Go.Proofs.YtbblbdacdpokeaaDoor
open Go.RowKit
theorem wrong_fin {w w4 : World} {R : Nat} {W : Int} {sl : Value} {rows : List Int} (hon : w.grownBy w4 (some R)) (hrow : (rows = [] ∧ ∃ A c, sl = .slice A 0 c) ∨ ∃ g c, Row w4 g rows ∧ sl = .slice (some ⟨g, 0, none⟩) rows.length c ∧ w.heap.size < g) (hl : rows.length ≤ 6) :
    Wrong w.heap.size ((w4.setCell ⟨w.heap.size, 0, none⟩ (.int .i64 W)).setCell ⟨w.heap.size, 1, none⟩ sl) (.returned (.agg #[.int .i64 W, sl])) ∧ w.grownBy ((w4.setCell ⟨w.heap.size, 0, none⟩ (.int .i64 W)).setCell ⟨w.heap.size, 1, none⟩ sl) (some R) := by
  refine ⟨⟨W, sl, rows, rfl, ?_, hl⟩, only_setCell (only_setCell hon (.inr (by simp)) _) (.inr (by simp)) _⟩
  rcases hrow with ⟨rfl, A, c, rfl⟩ | ⟨g, c, hrow, rfl, hg⟩
  · exact .inl ⟨rfl, _, _, rfl⟩
  · have hr := ((hrow.far (p := ⟨w.heap.size, 0, none⟩) (by simp; omega) (.int .i64 W)).far (p := ⟨w.heap.size, 1, none⟩) (by simp; omega) (.slice (some ⟨g, 0, none⟩) rows.length c))
    exact .inr ⟨g, c, hr, rfl, by omega⟩
theorem below_grown {w w' : World} {R : Nat} (h : w.grownBy w' (some R)) (hR : w.heap.size ≤ R) : Below w.heap.size w w' :=
  ⟨h.os, h.tape, h.output, h.size, fun i hi => h.block i hi (fun e => by cases e; omega)⟩
/-- DRows that a draw has made: none, or a block of the call's own. -/
def DRows (lo : Nat) (w : World) (v : Value) (rows : List Int) : Prop := (rows = [] ∧ ∃ A c, v = .slice A 0 c) ∨ ∃ g c, Row w g rows ∧ v = .slice (some ⟨g, 0, none⟩) rows.length c ∧ lo ≤ g
theorem DRows.ints {lo : Nat} {w : World} {v : Value} {rows : List Int} (h : DRows lo w v rows) : Ints w.heap.size w v rows := by
  rcases h with ⟨e, A, c, h⟩ | ⟨g, c, hr, h, _⟩
  · exact .inl ⟨e, A, c, h⟩
  · rw [h]; exact hr.ints hr.lt c
theorem DRows.below {lo : Nat} {w w' : World} {v : Value} {rows : List Int} (h : DRows lo w v rows) (hb : Below w.heap.size w w') : DRows lo w' v rows := by
  rcases h with h | ⟨g, c, hr, h, hl⟩
  · exact .inl h
  · exact .inr ⟨g, c, hr.below hb hr.lt, h, hl⟩
theorem DRows.only {lo R : Nat} {w w' : World} {v : Value} {rows : List Int} (h : DRows lo w v rows) (hg : w.grownBy w' (some R)) (hR : R < lo) : DRows lo w' v rows := by
  rcases h with h | ⟨g, c, hr, h, hl⟩
  · exact .inl h
  · exact .inr ⟨g, c, hr.only hg (by omega), h, hl⟩
theorem DRows.form {lo : Nat} {w : World} {v : Value} {rows : List Int} (h : DRows lo w v rows) : ∃ A c, v = .slice A rows.length c := by
  rcases h with ⟨rfl, A, c, h⟩ | ⟨g, c, _, h, _⟩
  · exact ⟨_, _, h⟩
  · exact ⟨_, _, h⟩
theorem DRows.fin {lo a : Nat} {w : World} {v : Value} {rows : List Int} (h : DRows lo w v rows) (hl : a < lo) : (rows = [] ∧ ∃ A c, v = .slice A 0 c) ∨ ∃ g c, Row w g rows ∧ v = .slice (some ⟨g, 0, none⟩) rows.length c ∧ a < g := by
  rcases h with h | ⟨g, c, hr, h, hl⟩
  · exact .inl h
  · exact .inr ⟨g, c, hr, h, by omega⟩
theorem two_bd {x : Nat} {p : Int} (hx : x < 2) (hp : 0 ≤ p) : 0 ≤ (x : Int) * p ∧ (x : Int) * p ≤ p := by
  have : x = 0 ∨ x = 1 := by omega
  rcases this with rfl | rfl
  · simp; exact hp
  · simp; exact hp
/-- The memory of l93Parts while it changes rows. -/
structure PMem (w W : World) (R K Bx g h co n : Nat) (rows : List Int) : Prop where
  r0 : W.cell? ⟨w.heap.size, 0, none⟩ = some (.int .i64 0)
  r1 : W.cell? ⟨w.heap.size, 1, none⟩ = some (.slice none 0 0)
  rf0 : W.frozen? ⟨w.heap.size, 0, none⟩ = false
  rf1 : W.frozen? ⟨w.heap.size, 1, none⟩ = false
  x0 : W.cell? ⟨Bx, 0, none⟩ = some (.int .i64 (n : Int))
  x1 : W.cell? ⟨Bx, 1, none⟩ = some (.slice (some ⟨g, 0, none⟩) h co)
  row : Row W g rows
  len : rows.length = h
  on : w.grownBy W (some R)
  rd : Rd W R K
theorem PMem.step {w W w9 : World} {R K K' Bx g h co n : Nat} {rows : List Int} (hm : PMem w W R K Bx g h co n rows) (hg : W.grownBy w9 (some R)) (hr : Rd w9 R K') (n1 : w.heap.size ≠ R) (n2 : Bx ≠ R) (n3 : R < g) (n4 : w.heap.size ≠ g) (n5 : Bx ≠ g) (n6 : w.heap.size ≤ g) (k : Nat) (hk : k < h) (z : Int) :
    PMem w (w9.setCell ⟨g, k, none⟩ (.int .i64 z)) R K' Bx g h co n (rows.set k z) :=
  ⟨(World.cell?_setCell_other _ _ _ _ (by simp <;> omega)).trans (cell_only hg hm.r0 n1), (World.cell?_setCell_other _ _ _ _ (by simp <;> omega)).trans (cell_only hg hm.r1 n1), by rw [World.frozen?_setCell]; exact frozen_only hg hm.r0 n1 hm.rf0, by rw [World.frozen?_setCell]; exact frozen_only hg hm.r1 n1 hm.rf1,
   (World.cell?_setCell_other _ _ _ _ (by simp <;> omega)).trans (cell_only hg hm.x0 n2), (World.cell?_setCell_other _ _ _ _ (by simp <;> omega)).trans (cell_only hg hm.x1 n2), (hm.row.only hg (by omega)).set (by rw [hm.len]; exact hk) z, by rw [List.length_set]; exact hm.len, only_setCell (only_trans hm.on hg) (.inr n6) _, hr.below (B := R + 1) ((Below.refl (R + 1) w9).setCell (p := ⟨g, k, none⟩) (by simp; omega) _) (by omega)⟩
theorem PMem.fin {w W : World} {R K Bx g h co n : Nat} {rows : List Int} (hm : PMem w W R K Bx g h co n rows) (hg : w.heap.size < g) (hh : h ≤ 6) : Wrong w.heap.size ((W.setCell ⟨w.heap.size, 0, none⟩ (.int .i64 (n : Int))).setCell ⟨w.heap.size, 1, none⟩ (.slice (some ⟨g, 0, none⟩) h co)) (.returned (.agg #[.int .i64 (n : Int), .slice (some ⟨g, 0, none⟩) h co])) ∧ w.grownBy ((W.setCell ⟨w.heap.size, 0, none⟩ (.int .i64 (n : Int))).setCell ⟨w.heap.size, 1, none⟩ (.slice (some ⟨g, 0, none⟩) h co)) (some R) := by
  have := hm.len
  subst this
  exact wrong_fin hm.on (.inr ⟨g, co, hm.row, rfl, hg⟩) hh
set_option maxRecDepth 100000 in
set_option maxHeartbeats 4000000 in
theorem l93Parts_c (R K : Nat) (hK : K ≤ 500000) (w : World) (hR : Rd w R K) :
    Calls Tryd.prog 15 #[.pointer (some ⟨R, 0, none⟩)] w fun e w' => Wrong w.heap.size w' e ∧ w.grownBy w' (some R) := by
  have hlt := hR.1
  obtain ⟨W0, eW⟩ : ∃ W0, W0 = w.alloc (.cells #[.int .i64 0, .slice none 0 0] 25) := ⟨_, rfl⟩
  have hB0 : Below w.heap.size w W0 := by rw [eW]; go_grown
  have r0 : W0.cell? ⟨w.heap.size, 0, none⟩ = some (.int .i64 0) := by rw [eW]; go_cell
  have r1 : W0.cell? ⟨w.heap.size, 1, none⟩ = some (.slice none 0 0) := by rw [eW]; go_cell
  have rf0 : W0.frozen? ⟨w.heap.size, 0, none⟩ = false := by rw [eW]; go_cell
  have rf1 : W0.frozen? ⟨w.heap.size, 1, none⟩ = false := by rw [eW]; go_cell
  have hs : w.heap.size + 1 ≤ W0.heap.size := by rw [eW]; simp
  have hO : w.grownBy W0 (some R) := only_of_below hB0 _
  have hR0 := hR.below hB0 hlt
  go_enter Tryd.func15, Tryd.ntmps15
  go_wp2_with fail
  rw [← eW]
  clear eW hB0
  have hlo : w.heap.size + 1 ≤ W0.heap.size := hs
  have hwR : w.heap.size ≠ R := by omega
  refine (l91Wrong_r R K 36 (by omega) (by omega) (by omega) _ hR0).mono ?_
  rintro e wc ⟨⟨W, v, rows, rfl, hI, hl6⟩, hg, hR1⟩
  obtain ⟨lo, elo⟩ : ∃ b, b = W0.heap.size := ⟨_, rfl⟩
  have hI : DRows lo wc v rows := by rw [elo]; exact hI
  rw [← elo] at hlo
  have hRlo : R < lo := by omega
  replace rf0 := frozen_only hg r0 (by first | assumption | omega | (simp; omega)) rf0
  replace r0 := cell_only hg r0 (by first | assumption | omega | (simp; omega))
  replace rf1 := frozen_only hg r1 (by first | assumption | omega | (simp; omega)) rf1
  replace r1 := cell_only hg r1 (by first | assumption | omega | (simp; omega))
  replace hO := only_trans hO hg
  replace hs := Nat.le_trans hs hg.size
  clear elo hg hR0 hR
  obtain ⟨ao, co, rfl⟩ := hI.form
  have hsb := hs
  have hRw := hR1.1
  obtain ⟨W1, e_W1⟩ : ∃ W0, W0 = World.alloc wc (.cells #[.int .i64 W, .slice ao rows.length co] 25) := ⟨_, rfl⟩
  have hx_W1 := Box2.new wc (.int .i64 W) (.slice ao rows.length co) 25
  have hb_W1 : Below (World.heap wc).size wc W1 := by rw [e_W1]; go_grown
  have HS_W1 := Lib.hid (show (World.heap W1).size = (World.heap wc).size + 1 by rw [e_W1]; simp)
  replace rf0 := frozenB hb_W1 r0 rf0
  replace r0 := cellB hb_W1 r0
  replace rf1 := frozenB hb_W1 r1 rf1
  replace r1 := cellB hb_W1 r1
  replace hO := only_trans hO (only_of_below hb_W1 _)
  replace hs := Nat.le_trans hs hb_W1.size
  replace hR1 := hR1.below hb_W1 hR1.1
  replace hI := DRows.below hI hb_W1
  have HE_W1 := Lib.hid e_W1
  clear e_W1
  go_wp2_with fail
  rw [← HE_W1.out] at hx_W1 ⊢
  clear HE_W1
  obtain ⟨hl_x, x0, x1⟩ := hx_W1
  obtain ⟨Bx, e_Bx⟩ : ∃ Bx, Bx = (World.heap wc).size := ⟨_, rfl⟩
  rw [← e_Bx] at hl_x x0 x1 hb_W1 HS_W1 hsb hRw ⊢
  have hz_Bx := hb_W1.size
  clear e_Bx hb_W1
  refine (pick_c R (K + 12) 3 (by omega) (by omega) (by omega) _ hR1).mono ?_
  rintro e wc ⟨⟨x, rfl, hx⟩, hR2, hg⟩
  clear hR1
  replace rf0 := frozen_only hg r0 (by first | assumption | omega | (simp; omega)) rf0
  replace r0 := cell_only hg r0 (by first | assumption | omega | (simp; omega))
  replace rf1 := frozen_only hg r1 (by first | assumption | omega | (simp; omega)) rf1
  replace r1 := cell_only hg r1 (by first | assumption | omega | (simp; omega))
  replace hO := only_trans hO hg
  replace hs := Nat.le_trans hs hg.size
  replace hI := DRows.only hI hg (by first | assumption | omega | (simp; omega))
  replace x0 := cell_only hg x0 (by first | assumption | omega | (simp; omega))
  replace x1 := cell_only hg x1 (by first | assumption | omega | (simp; omega))
  by_cases hx0 : x = 0
  · subst hx0
    by_cases hl2 : 2 < rows.length
    · go_wp2_with fail
      refine (sImageValid_c W _ rows _ (DRows.ints hI)).mono ?_
      rintro e wc ⟨rfl, hb⟩
      replace rf0 := frozenB hb r0 rf0
      replace r0 := cellB hb r0
      replace rf1 := frozenB hb r1 rf1
      replace r1 := cellB hb r1
      replace hO := only_trans hO (only_of_below hb _)
      replace hs := Nat.le_trans hs hb.size
      replace hI := DRows.below hI hb
      replace x0 := cellB hb x0
      replace x1 := cellB hb x1
      replace hR2 := hR2.below hb hR2.1
      cases hval : validB W rows with
      | false =>
        clear hval
        obtain ⟨q0, q1⟩ := set2_get (x := .int .i64 W) (y := .slice ao rows.length co) r0 r1
        have HE := Lib.hid (wrong_fin (W := W) hO (DRows.fin hI (by omega)) hl6)
        clear hI
        go_wp2
        refine bodyPost_ret (res_img rfl _ _ rfl q0 q1) rfl ?_
        exact HE.out
      | true =>
        obtain ⟨n, ns, rfl, rfl, hV⟩ := validB_yes hval
        clear hval
        by_cases hn2 : 2 < n
        · obtain ⟨g, c, hr, hform, hlg⟩ : ∃ g c, Row wc g (casts ns) ∧ Value.slice ao (casts ns).length co = .slice (some ⟨g, 0, none⟩) (casts ns).length c ∧ lo ≤ g := by
            rcases hI with ⟨h, _⟩ | h
            · rw [h] at hl2; simp at hl2
            · exact h
          injection hform with e1 e2 e3
          subst e1 e3
          clear hI e2
          obtain ⟨h, eh⟩ : ∃ h, h = (casts ns).length := ⟨_, rfl⟩
          have EH := Lib.hid eh
          have hh6 := hl6
          rw [← eh] at hl2 x1 hh6 ⊢
          clear eh
          have hw6 := hV.w6
          have hp1 := pw_pos n
          have hp6 := pw_6 hw6
          have hgR : g ≠ R := by omega
          have hBR : Bx ≠ R := by omega
          have hgB : Bx ≠ g := by
            intro e
            have h2 := hr.cell (k := 1) (by rw [← EH.out]; omega)
            rw [← e, x1] at h2
            cases h2
          have hwg : w.heap.size ≠ g := by omega
          have ewf : IntKind.i64.wrap (pw n - 1) = pw n - 1 := IntWalk.i64_in _ ⟨by omega, by omega⟩
          go_wp2_with (go_at_call 36; refine (l1Power_c n (by omega) _).mono ?_; rintro e w' ⟨rfl, rfl⟩)
          have hM : PMem w wc R (K + 12 + 1) Bx g h co n (casts ns) := ⟨r0, r1, rf0, rf1, x0, x1, hr, EH.out.symm, hO, hR2⟩
          obtain ⟨rows, erows⟩ : ∃ rows, rows = casts ns := ⟨_, rfl⟩
          rw [← erows] at hM
          obtain ⟨W, eW⟩ : ∃ W, W = wc := ⟨_, rfl⟩
          subst eW
          have hh0 : 0 < h := by omega
          have hh1 : 1 < h := by omega
          have hh2 : 2 < h := by omega
          have hi2 : (2 : Int) < (h : Int) := by omega
          have hi1 : (1 : Int) < (h : Int) := by omega
          have hi0 : (0 : Int) < (h : Int) := by omega
          clear erows r0 r1 rf0 rf1 x0 x1 hr hO hR2 hI EH hl6 hs hb
          have hkc : Hid (0 < (rows).length) := by rw [hM.len]; exact hh0
          have x0 := hM.x0
          have x1 := hM.x1
          have hr := hM.row
          have HP := pick_c R (K + 12 + 1) 2 (by omega) (by omega) (by omega) W.drew hM.rd
          have hS0 : ∀ (W : World) (u : Value), (W.setCell ⟨g, 0, none⟩ u).cell? ⟨Bx, 0, none⟩ = W.cell? ⟨Bx, 0, none⟩ := fun W u => World.cell?_setCell_other _ _ _ _ (by simp <;> omega)
          have hS1 : ∀ (W : World) (u : Value), (W.setCell ⟨g, 0, none⟩ u).cell? ⟨Bx, 1, none⟩ = W.cell? ⟨Bx, 1, none⟩ := fun W u => World.cell?_setCell_other _ _ _ _ (by simp <;> omega)
          go_region_held3 (fun w' : World => w'.cell? ⟨Bx, 0, none⟩ = some (.int .i64 (n : Int)) ∧ w'.cell? ⟨Bx, 1, none⟩ = some (.slice (some ⟨g, 0, none⟩) h co)) (first | exact ⟨x0, x1⟩ | (refine ⟨?_, ?_⟩ <;> assumption) | (refine ⟨(hS0 _ _).trans ?_, (hS1 _ _).trans ?_⟩ <;> assumption) | go_keep) (first | (go_at_call 25; refine HP.mono ?_; rintro e w9 ⟨⟨x, rfl, hx⟩, hR9, hg9'⟩; have hg9 := grown_undrew hg9'; have z0 := cell_only hg9 x0 hBR; have z1 := cell_only hg9 x1 hBR; have hrow9 := Row.only hr hg9 hgR; have hc9 := Row.cell hrow9 hkc; have hf9 := Row.frozen hrow9 0; clear hg9'))
          have hM2 := hM.step hg9 hR9 hwR hBR (by omega) hwg hgB (by omega) 0 hh0 (IntKind.i64.wrap (pw n - 1 - (x : Int)))
          obtain ⟨W5, e_W5⟩ : ∃ W, W = w9.setCell ⟨g, 0, none⟩ (.int .i64 (IntKind.i64.wrap (pw n - 1 - (x : Int)))) := ⟨_, rfl⟩
          rw [← e_W5] at hM2 ⊢
          obtain ⟨rows5, e_rows5⟩ : ∃ r, r = (rows).set 0 (IntKind.i64.wrap (pw n - 1 - (x : Int))) := ⟨_, rfl⟩
          rw [← e_rows5] at hM2
          have HM := Lib.hid hM2
          clear e_W5 e_rows5 hM2 hM x0 x1 hr hS0 hS1 HP hkc z0 z1 hrow9 hc9 hf9 hg9 hR9
          go_wp2_with fail
          have hM := HM.out
          clear HM
          have hkc : Hid (2 < (rows5).length) := by rw [hM.len]; exact hh2
          have x0 := hM.x0
          have x1 := hM.x1
          have hr := hM.row
          have ep1 : ((n - 1 : Nat) : Int) = (n : Int) - 1 := by omega
          have hL1 : ∀ W, Calls Tryd.prog 36 #[.int .i64 ((n : Int) - 1)] W fun e w' => e = .returned (.int .i64 (pw (n - 1))) ∧ W = w' := fun W => by rw [← ep1]; exact l1Power_c (n - 1) (by omega) W
          have ew1 : IntKind.i64.wrap ((n : Int) - 1) = (n : Int) - 1 := IntWalk.i64_in _ ⟨by omega, by omega⟩
          have hq1 := pw_pos (n - 1)
          have hq6 := pw_6 (k := n - 1) (by omega)
          have HE1 := Lib.hid ep1
          clear ep1
          have HP := pick_c R (K + 12 + 1 + 1) 2 (by omega) (by omega) (by omega) W5.drew hM.rd
          have hS0 : ∀ (W : World) (u : Value), (W.setCell ⟨g, 2, none⟩ u).cell? ⟨Bx, 0, none⟩ = W.cell? ⟨Bx, 0, none⟩ := fun W u => World.cell?_setCell_other _ _ _ _ (by simp <;> omega)
          have hS1 : ∀ (W : World) (u : Value), (W.setCell ⟨g, 2, none⟩ u).cell? ⟨Bx, 1, none⟩ = W.cell? ⟨Bx, 1, none⟩ := fun W u => World.cell?_setCell_other _ _ _ _ (by simp <;> omega)
          go_region_held3 (fun w' : World => w'.cell? ⟨Bx, 0, none⟩ = some (.int .i64 (n : Int)) ∧ w'.cell? ⟨Bx, 1, none⟩ = some (.slice (some ⟨g, 0, none⟩) h co)) (first | exact ⟨x0, x1⟩ | (refine ⟨?_, ?_⟩ <;> assumption) | (refine ⟨(hS0 _ _).trans ?_, (hS1 _ _).trans ?_⟩ <;> assumption) | go_keep) (first | (go_at_call 36; refine (hL1 _).mono ?_; rintro e w9 ⟨rfl, rfl⟩) | (go_at_call 25; refine HP.mono ?_; rintro e w9 ⟨⟨x, rfl, hx⟩, hR9, hg9'⟩; have hg9 := grown_undrew hg9'; have z0 := cell_only hg9 x0 hBR; have z1 := cell_only hg9 x1 hBR; have hrow9 := Row.only hr hg9 hgR; have hc9 := Row.cell hrow9 hkc; have hf9 := Row.frozen hrow9 2; clear hg9'))
          have hM2 := hM.step hg9 hR9 hwR hBR (by omega) hwg hgB (by omega) 2 hh2 (IntKind.i64.wrap (pw n - 1 - IntKind.i64.wrap ((x : Int) * pw (n - 1))))
          obtain ⟨W6, e_W6⟩ : ∃ W, W = w9.setCell ⟨g, 2, none⟩ (.int .i64 (IntKind.i64.wrap (pw n - 1 - IntKind.i64.wrap ((x : Int) * pw (n - 1))))) := ⟨_, rfl⟩
          rw [← e_W6] at hM2 ⊢
          obtain ⟨rows6, e_rows6⟩ : ∃ r, r = (rows5).set 2 (IntKind.i64.wrap (pw n - 1 - IntKind.i64.wrap ((x : Int) * pw (n - 1)))) := ⟨_, rfl⟩
          rw [← e_rows6] at hM2
          have HM := Lib.hid hM2
          clear e_W6 e_rows6 hM2 hM x0 x1 hr hS0 hS1 HP hkc z0 z1 hrow9 hc9 hf9 hg9 hR9
          go_wp2_with fail
          have hM := HM.out
          clear HM
          have hkc : Hid (1 < (rows6).length) := by rw [hM.len]; exact hh1
          have x0 := hM.x0
          have x1 := hM.x1
          have hr := hM.row
          have ep2 : ((n - 2 : Nat) : Int) = (n : Int) - 2 := by omega
          have hL2 : ∀ W, Calls Tryd.prog 36 #[.int .i64 ((n : Int) - 2)] W fun e w' => e = .returned (.int .i64 (pw (n - 2))) ∧ W = w' := fun W => by rw [← ep2]; exact l1Power_c (n - 2) (by omega) W
          have ew2 : IntKind.i64.wrap ((n : Int) - 2) = (n : Int) - 2 := IntWalk.i64_in _ ⟨by omega, by omega⟩
          have hr1 := pw_pos (n - 2)
          have hr6 := pw_6 (k := n - 2) (by omega)
          have HE2 := Lib.hid ep2
          clear ep2
          have hr2 : 1 < pw (n - 2) := by have := pw_mono (k := 1) (l := n - 2) (by omega); have e : pw 1 = 2 := rfl; omega
          have HP := pick_c R (K + 12 + 1 + 1 + 1) (2 ^ (n - 2)) (Nat.two_pow_pos _) (pow6 (by omega)) (by omega) W6.drew hM.rd
          have hS0 : ∀ (W : World) (u : Value), (W.setCell ⟨g, 1, none⟩ u).cell? ⟨Bx, 0, none⟩ = W.cell? ⟨Bx, 0, none⟩ := fun W u => World.cell?_setCell_other _ _ _ _ (by simp <;> omega)
          have hS1 : ∀ (W : World) (u : Value), (W.setCell ⟨g, 1, none⟩ u).cell? ⟨Bx, 1, none⟩ = W.cell? ⟨Bx, 1, none⟩ := fun W u => World.cell?_setCell_other _ _ _ _ (by simp <;> omega)
          rw [show ((2 ^ (n - 2) : Nat) : Int) = pw (n - 2) from rfl] at HP
          go_region_held3 (fun w' : World => w'.cell? ⟨Bx, 0, none⟩ = some (.int .i64 (n : Int)) ∧ w'.cell? ⟨Bx, 1, none⟩ = some (.slice (some ⟨g, 0, none⟩) h co)) (first | exact ⟨x0, x1⟩ | (refine ⟨?_, ?_⟩ <;> assumption) | (refine ⟨(hS0 _ _).trans ?_, (hS1 _ _).trans ?_⟩ <;> assumption) | go_keep) (first | (go_at_call 36; first | ((with_reducible refine (hL1 _).mono ?_); rintro e w9 ⟨rfl, rfl⟩) | ((with_reducible refine (hL2 _).mono ?_); rintro e w9 ⟨rfl, rfl⟩)) | (go_at_call 25; refine HP.mono ?_; rintro e w9 ⟨⟨x, rfl, hx⟩, hR9, hg9'⟩; have hg9 := grown_undrew hg9'; have z0 := cell_only hg9 x0 hBR; have z1 := cell_only hg9 x1 hBR; have hrow9 := Row.only hr hg9 hgR; have hc9 := Row.cell hrow9 hkc; have hf9 := Row.frozen hrow9 1; clear hg9'))
          have hM2 := hM.step hg9 hR9 hwR hBR (by omega) hwg hgB (by omega) 1 hh1 (IntKind.i64.wrap (IntKind.i64.wrap (1 + pw (n - 1)) + IntKind.i64.wrap (2 * (x : Int))))
          obtain ⟨W7, e_W7⟩ : ∃ W, W = w9.setCell ⟨g, 1, none⟩ (.int .i64 (IntKind.i64.wrap (IntKind.i64.wrap (1 + pw (n - 1)) + IntKind.i64.wrap (2 * (x : Int))))) := ⟨_, rfl⟩
          rw [← e_W7] at hM2 ⊢
          have HE := Lib.hid (hM2.fin (by omega) hh6)
          have r0 := hM2.r0
          have r1 := hM2.r1
          have rf0 := hM2.rf0
          have rf1 := hM2.rf1
          have y0 := hM2.x0
          have y1 := hM2.x1
          obtain ⟨q0, q1⟩ := set2_get (x := .int .i64 (n : Int)) (y := .slice (some ⟨g, 0, none⟩) h co) r0 r1
          clear e_W7 hM2 hM x0 x1 hr hS0 hS1 HP hkc z0 z1 hrow9 hc9 hf9 hg9 hR9
          go_wp2
          refine bodyPost_ret (res_img rfl _ _ rfl q0 q1) rfl ?_
          exact HE.out
        · have hn2' : ¬ (2 : Int) < (n : Int) := by omega
          obtain ⟨q0, q1⟩ := set2_get (x := .int .i64 (n : Int)) (y := .slice ao (casts ns).length co) r0 r1
          have HE := Lib.hid (wrong_fin (W := (n : Int)) hO (DRows.fin hI (by omega)) hl6)
          clear hI
          go_wp2
          refine bodyPost_ret (res_img rfl _ _ rfl q0 q1) rfl ?_
          exact HE.out
    · have hl2b : ¬ (2 : Int) < (rows.length : Int) := by omega
      obtain ⟨q0, q1⟩ := set2_get (x := .int .i64 W) (y := .slice ao rows.length co) r0 r1
      have HE := Lib.hid (wrong_fin (W := W) hO (DRows.fin hI (by omega)) hl6)
      clear hI
      go_wp2
      refine bodyPost_ret (res_img rfl _ _ rfl q0 q1) rfl ?_
      exact HE.out
  · have hxb : ((x : Int) == 0) = false := by simp [hx0]
    clear hx0
    obtain ⟨q0, q1⟩ := set2_get (x := .int .i64 W) (y := .slice ao rows.length co) r0 r1
    have HE := Lib.hid (wrong_fin (W := W) hO (DRows.fin hI (by omega)) hl6)
    clear hI
    go_wp2
    refine bodyPost_ret (res_img rfl _ _ rfl q0 q1) rfl ?_
    exact HE.out
set_option maxHeartbeats 1000000 in
theorem DrawImageParts_c (A : Option Addr) (len cap : Nat) (hlc : len ≤ cap) (w : World) (hc : Code8 w w.heap.size A len) :
    Calls Tryd.prog 5 #[.slice A len cap] w fun e w' => ∃ (W : Int) (v : Value) (rows : List Int), e = .returned (.agg #[.int .i64 W, v]) ∧ Ints w'.heap.size w' v rows ∧ rows.length ≤ 6 ∧ Below w.heap.size w w' := by
  obtain ⟨W0, eW⟩ : ∃ W0, W0 = w.alloc (.cells #[.int .i64 0, .slice none 0 0] 25) := ⟨_, rfl⟩
  have hB0 : Below w.heap.size w W0 := by rw [eW]; go_grown
  have i0 : W0.cell? ⟨w.heap.size, 0, none⟩ = some (.int .i64 0) := by rw [eW]; go_cell
  have i1 : W0.cell? ⟨w.heap.size, 1, none⟩ = some (.slice none 0 0) := by rw [eW]; go_cell
  have if0 : W0.frozen? ⟨w.heap.size, 0, none⟩ = false := by rw [eW]; go_cell
  have if1 : W0.frozen? ⟨w.heap.size, 1, none⟩ = false := by rw [eW]; go_cell
  have hz0 : w.heap.size < W0.heap.size := by rw [eW]; simp
  have hc0 := code_below hB0 hc
  go_enter Tryd.func5, Tryd.ntmps5
  go_wp2_with fail
  rw [← eW]
  clear eW hc
  refine (l6Open_c A len cap hlc _ hc0).mono ?_
  rintro e w1 ⟨rfl, hR1, hb1⟩
  go_wp2_with fail
  refine (l93Parts_c W0.heap.size 0 (by omega) _ hR1).mono ?_
  rintro e w2 ⟨⟨W, v, rows, rfl, hI, hl⟩, hg2⟩
  have hne : w.heap.size ≠ W0.heap.size := by omega
  have c0 := cell_only hg2 (cellB hb1 i0) hne
  have c1 := cell_only hg2 (cellB hb1 i1) hne
  have f0 := frozen_only hg2 (cellB hb1 i0) hne (frozenB hb1 i0 if0)
  have f1 := frozen_only hg2 (cellB hb1 i1) hne (frozenB hb1 i1 if1)
  have hB2 : Below w.heap.size w w2 := by
    have h1 : W0.grownBy w2 (some W0.heap.size) := only_trans (only_of_below hb1 _) hg2
    exact hB0.trans ((below_grown h1 (Nat.le_refl _)).mono hB0.size)
  obtain ⟨q0, q1⟩ := set2_get (x := .int .i64 W) (y := v) c0 c1
  have hI2 : Ints ((w2.setCell ⟨w.heap.size, 0, none⟩ (.int .i64 W)).setCell ⟨w.heap.size, 1, none⟩ v).heap.size ((w2.setCell ⟨w.heap.size, 0, none⟩ (.int .i64 W)).setCell ⟨w.heap.size, 1, none⟩ v) v rows := by
    rcases hI with ⟨e, A, c, h⟩ | ⟨g, c, hr, h, hlo⟩
    · exact .inl ⟨e, A, c, h⟩
    · have hz1 := hb1.size
      have hr' := ((hr.far (p := ⟨w.heap.size, 0, none⟩) (by simp; omega) (.int .i64 W)).far (p := ⟨w.heap.size, 1, none⟩) (by simp; omega) v)
      have := hr'.ints hr'.lt c
      rw [← h] at this
      exact this
  have HE := Lib.hid (And.intro hI2 ((hB2.setCell (p := ⟨w.heap.size, 0, none⟩) (Nat.le_refl _) (.int .i64 W)).setCell (p := ⟨w.heap.size, 1, none⟩) (Nat.le_refl _) v))
  obtain ⟨A', c', rfl⟩ := DRows.form hI
  clear hI hI2 hB2
  go_wp2
  refine bodyPost_ret (res_img rfl _ _ rfl q0 q1) rfl ?_
  exact ⟨W, _, rows, rfl, HE.out.1, hl, HE.out.2⟩
end Go.Proofs.YtbblbdacdpokeaaDoor
