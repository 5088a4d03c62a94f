/- Contracts of the draws of an image and a cell. Conditions: the code's slice can be read. -/
import Derived.Test.YtbblbdacdpokeaaPD2
import Derived.Deep.RegionWith
namespace Go.Proofs.Ytbblbdacdpokeaa
open Go.RowKit
theorem res_img_2 {fn : Func} {t u v : Tmp} (h : fn.results = #[.cell t 27, .tmp u, .tmp v]) (tmps : Array Value) (w : World) {b : Nat} {x y : Value} (ht : tmps.getD t undef = .pointer (some ⟨b, 0, none⟩)) (h0 : w.cell? ⟨b, 0, none⟩ = some x) (h1 : w.cell? ⟨b, 1, none⟩ = some y) :
    (results fn tmps).run Try.prog w = .ok (.tuple #[.agg #[x, y], tmps.getD u undef, tmps.getD v undef]) w := by
  have ht' : tmps[t]?.getD undef = .pointer (some ⟨b, 0, none⟩) := by rw [← ht, Array.getD_eq_getD_getElem?]
  simp only [results, h]
  simp [go_sem, ht', h0, h1]
/-- An image and a cell, whatever they are. -/
def AtOut (lo : Nat) (w' : World) (e : Ending) : Prop := ∃ (W : Int) (v : Value) (rows : List Int) (i j : Int), e = .returned (.tuple #[.agg #[.int .i64 W, v], .int .i64 i, .int .i64 j]) ∧ DRows lo w' v rows ∧ rows.length ≤ 6
theorem at_fin {w w4 : World} {R lo : Nat} {W i j : Int} {sl : Value} {rows : List Int} (hon : w.grownBy w4 (some R)) (hrow : DRows lo w4 sl rows) (hlo : w.heap.size < lo) (hl : rows.length ≤ 6) {K : Nat} (hR : Rd w4 R K) (hlt : R < w.heap.size) :
    AtOut lo ((w4.setCell ⟨w.heap.size, 0, none⟩ (.int .i64 W)).setCell ⟨w.heap.size, 1, none⟩ sl) (.returned (.tuple #[.agg #[.int .i64 W, sl], .int .i64 i, .int .i64 j])) ∧ w.grownBy ((w4.setCell ⟨w.heap.size, 0, none⟩ (.int .i64 W)).setCell ⟨w.heap.size, 1, none⟩ sl) (some R) ∧ Rd ((w4.setCell ⟨w.heap.size, 0, none⟩ (.int .i64 W)).setCell ⟨w.heap.size, 1, none⟩ sl) R K := by
  refine ⟨⟨W, sl, rows, i, j, rfl, ?_, hl⟩, only_setCell (only_setCell hon (.inr (by simp)) _) (.inr (by simp)) _, hR.below (B := R + 1) (((Below.refl (R + 1) w4).setCell (by simp; omega) _).setCell (by simp; omega) _) (by omega)⟩
  rcases hrow with h | ⟨g, c, hrow, h, hg⟩
  · exact .inl h
  · exact .inr ⟨g, c, (hrow.far (p := ⟨w.heap.size, 0, none⟩) (by simp; omega) _).far (p := ⟨w.heap.size, 1, none⟩) (by simp; omega) _, h, hg⟩
set_option maxRecDepth 100000 in
set_option maxHeartbeats 4000000 in
theorem l91At_c (R K cells : Nat) (hcl : 1 ≤ cells) (hc6 : cells ≤ 1000) (hK : K ≤ 500000) (w : World) (hR : Rd w R K) :
    Calls Try.prog 57 #[.pointer (some ⟨R, 0, none⟩), .int .i64 cells] w fun e w' => AtOut (w.heap.size + 1) w' e ∧ w.grownBy w' (some R) ∧ Rd w' R (K + 20) := by
  have hlt := hR.1
  obtain ⟨W0, eW⟩ : ∃ W0, W0 = w.alloc (.cells #[.int .i64 0, .slice none 0 0] 27) := ⟨_, rfl⟩
  have hB0 : Below w.heap.size w W0 := by rw [eW]; go_grown
  have r0 : W0.cell? ⟨w.heap.size, 0, none⟩ = some (.int .i64 0) := by rw [eW]; go_cell
  have r1 : W0.cell? ⟨w.heap.size, 1, none⟩ = some (.slice none 0 0) := by rw [eW]; go_cell
  have rf0 : W0.frozen? ⟨w.heap.size, 0, none⟩ = false := by rw [eW]; go_cell
  have rf1 : W0.frozen? ⟨w.heap.size, 1, none⟩ = false := by rw [eW]; go_cell
  have hs : w.heap.size + 1 = W0.heap.size := by rw [eW]; simp
  have hO : w.grownBy W0 (some R) := only_of_below hB0 _
  have hR0 := hR.below hB0 hlt
  have HS := Lib.hid hs
  clear hs
  go_enter Try.func57, Try.ntmps57
  go_wp2_with fail
  rw [← eW]
  clear eW hB0
  have hwR : w.heap.size ≠ R := by omega
  refine (l91Wrong_r R K cells hcl hc6 (by omega) _ hR0).mono ?_
  rintro e wc ⟨⟨W, v, rows, rfl, hI, hl6⟩, hg, hR1⟩
  have hI : DRows (w.heap.size + 1) wc v rows := by rw [HS.out]; exact hI
  replace rf0 := frozen_only hg r0 (by first | assumption | omega | (simp; omega)) rf0
  replace r0 := cell_only hg r0 (by first | assumption | omega | (simp; omega))
  replace rf1 := frozen_only hg r1 (by first | assumption | omega | (simp; omega)) rf1
  replace r1 := cell_only hg r1 (by first | assumption | omega | (simp; omega))
  replace hO := only_trans hO hg
  clear hg hR0 hR
  obtain ⟨ao, co, rfl⟩ := DRows.form hI
  have hRw := hR1.1
  have hwb : w.heap.size + 1 ≤ wc.heap.size := by have h2 : w.heap.size < wc.heap.size := lt_of_cell r0; omega
  obtain ⟨h, eh⟩ : ∃ h, h = rows.length := ⟨_, rfl⟩
  have EH := Lib.hid eh
  have hh6 := hl6
  rw [← eh] at hh6 ⊢
  clear eh
  obtain ⟨p, ep⟩ : ∃ p : Nat, p = max 1 h := ⟨max 1 h, rfl⟩
  have hp1 : 1 ≤ p := by omega
  have hp6 : p ≤ 6 := by omega
  have ep' : (if (h : Int) > 1 then (h : Int) else 1) = (p : Int) := by split <;> omega
  obtain ⟨m, em⟩ : ∃ m : Int, m = min 6 W := ⟨min 6 W, rfl⟩
  have em' : (if W < 6 then W else 6) = m := by split <;> omega
  obtain ⟨q, eq⟩ : ∃ q : Nat, (q : Int) = max 1 m := ⟨(max 1 m).toNat, by omega⟩
  have eq' : (if m > 1 then m else 1) = (q : Int) := by split <;> omega
  have hq1 : 1 ≤ q := by omega
  have hq6 : q ≤ 6 := by omega
  clear ep eq em
  obtain ⟨W1, e_W1⟩ : ∃ W0, W0 = World.alloc wc (.cells #[.int .i64 W, .slice ao h co] 27) := ⟨_, rfl⟩
  have hx_W1 := Box2.new wc (.int .i64 W) (.slice ao h co) 27
  have hb_W1 : Below (World.heap wc).size wc W1 := by rw [e_W1]; go_grown
  replace rf0 := frozenB hb_W1 r0 rf0
  replace r0 := cellB hb_W1 r0
  replace rf1 := frozenB hb_W1 r1 rf1
  replace r1 := cellB hb_W1 r1
  replace hO := only_trans hO (only_of_below hb_W1 _)
  replace hR1 := hR1.below hb_W1 hR1.1
  replace hI := DRows.below hI hb_W1
  have HE_W1 := Lib.hid e_W1
  clear e_W1
  go_wp2_with fail
  rw [← HE_W1.out] at hx_W1 ⊢
  clear HE_W1
  obtain ⟨hl_x, x0, x1⟩ := hx_W1
  obtain ⟨Bx, e_Bx⟩ : ∃ Bx, Bx = (World.heap wc).size := ⟨_, rfl⟩
  rw [← e_Bx] at hl_x x0 x1 hb_W1 hRw hwb ⊢
  have hz_Bx := hb_W1.size
  clear e_Bx hb_W1
  have hBR : Bx ≠ R := by omega
  refine (pick_c R (K + 12) p hp1 (by omega) (by omega) _ hR1).mono ?_
  rintro e wc ⟨⟨i, rfl, hi⟩, hR2, hg⟩
  clear hR1
  replace rf0 := frozen_only hg r0 (by first | assumption | omega | (simp; omega)) rf0
  replace r0 := cell_only hg r0 (by first | assumption | omega | (simp; omega))
  replace rf1 := frozen_only hg r1 (by first | assumption | omega | (simp; omega)) rf1
  replace r1 := cell_only hg r1 (by first | assumption | omega | (simp; omega))
  replace hO := only_trans hO hg
  replace hI := DRows.only hI hg (by first | assumption | omega | (simp; omega))
  replace x0 := cell_only hg x0 (by first | assumption | omega | (simp; omega))
  replace x1 := cell_only hg x1 (by first | assumption | omega | (simp; omega))
  go_wp2_with fail
  refine (pick_c R (K + 12 + 1) q hq1 (by omega) (by omega) _ hR2).mono ?_
  rintro e wc ⟨⟨j, rfl, hj⟩, hR3, hg⟩
  clear hR2
  replace rf0 := frozen_only hg r0 (by first | assumption | omega | (simp; omega)) rf0
  replace r0 := cell_only hg r0 (by first | assumption | omega | (simp; omega))
  replace rf1 := frozen_only hg r1 (by first | assumption | omega | (simp; omega)) rf1
  replace r1 := cell_only hg r1 (by first | assumption | omega | (simp; omega))
  replace hO := only_trans hO hg
  replace hI := DRows.only hI hg (by first | assumption | omega | (simp; omega))
  replace x0 := cell_only hg x0 (by first | assumption | omega | (simp; omega))
  replace x1 := cell_only hg x1 (by first | assumption | omega | (simp; omega))
  go_wp2_with fail
  refine (pick_c R (K + 12 + 1 + 1) 24 (by omega) (by omega) (by omega) _ hR3).mono ?_
  rintro e wc ⟨⟨x, rfl, hx⟩, hR4, hg⟩
  clear hR3 ep' em' eq'
  replace rf0 := frozen_only hg r0 (by first | assumption | omega | (simp; omega)) rf0
  replace r0 := cell_only hg r0 (by first | assumption | omega | (simp; omega))
  replace rf1 := frozen_only hg r1 (by first | assumption | omega | (simp; omega)) rf1
  replace r1 := cell_only hg r1 (by first | assumption | omega | (simp; omega))
  replace hO := only_trans hO hg
  replace hI := DRows.only hI hg (by first | assumption | omega | (simp; omega))
  replace x0 := cell_only hg x0 (by first | assumption | omega | (simp; omega))
  replace x1 := cell_only hg x1 (by first | assumption | omega | (simp; omega))
  by_cases e0 : x = 0
  · subst e0
    go_wp2_with fail
    have HP : ∀ W, Rd W R (K + 12 + 1 + 1 + 1) → Calls Try.prog 59 #[.pointer (some ⟨R, 0, none⟩), .int .i64 2] W fun e w' => Num 2 e ∧ Rd w' R (K + 12 + 1 + 1 + 1 + 1) ∧ W.grownBy w' (some R) := fun W h => pick_c R (K + 12 + 1 + 1 + 1) 2 (by omega) (by omega) (by omega) W h
    have hRd : Rd wc.drew R (K + 12 + 1 + 1 + 1) := hR4
    have HP1 := HP _ hRd
    have hBr : Below (R + 1) wc (wc.alloc (.cells #[.int .i64 (-1), .int .i64 ((h : Int))] 3)) := (Below.refl _ _).alloc (by have := hR4.1; omega) _
    have hRa2 : Rd (wc.alloc (.cells #[.int .i64 (-1), .int .i64 ((h : Int))] 3)).drew R (K + 12 + 1 + 1 + 1) := (hR4.below hBr (by omega) : Rd (wc.alloc (.cells #[.int .i64 (-1), .int .i64 ((h : Int))] 3)) R (K + 12 + 1 + 1 + 1))
    have HP2 := HP _ hRa2
    have hBa : Below wc.heap.size wc (wc.alloc (.cells #[.int .i64 (-1), .int .i64 ((h : Int))] 3)) := by go_grown
    have hzx : ∀ x : Nat, x < 2 → ∃ z : Int, (∀ W' : World, (W'.alloc (.cells #[.int .i64 (-1), .int .i64 ((h : Int))] 3)).cell? ⟨W'.heap.size, x, none⟩ = some (.int .i64 z)) ∧ (#[Value.int .i64 (-1), Value.int .i64 ((h : Int))] : Array Value)[x]? = some (.int .i64 z) := fun x hx => by
      have : x = 0 ∨ x = 1 := by omega
      rcases this with rfl | rfl
      · exact ⟨-1, fun W' => by go_cell, rfl⟩
      · exact ⟨(h : Int), fun W' => by go_cell, rfl⟩
    have hwn : wc.heap.size ≠ R := by have := hR4.1; omega
    have hI' := hI
    rw [← EH.out] at hI'
    have HH := Lib.hid (And.intro hBa hzx)
    clear hBa hzx hBr hRa2 hRd HP
    go_region_with (go_at_call 59; first | ((with_reducible refine HP1.mono ?_); rintro e w9 ⟨⟨x, rfl, hx⟩, hR9, hg9'⟩; have hg9 := grown_undrew hg9'; have z1 := cell_only hg9 x1 hBR; obtain ⟨z, hz, hzz⟩ := HH.out.2 x hx; clear hg9') | ((with_reducible refine HP2.mono ?_); rintro e w9 ⟨⟨x, rfl, hx⟩, hR9, hg9'⟩; have hg8 := grown_undrew hg9'; obtain ⟨z, hz, hzz⟩ := HH.out.2 x hx; have hz9 := cell_only hg8 (hz wc) hwn; have hg9 := only_trans (only_of_below HH.out.1 (some R)) hg8; have z1 := cell_only hg9 x1 hBR; clear hg9' hg8))
    all_goals first
      | (
        obtain ⟨q0, q1⟩ := set2_get (x := .int .i64 W) (y := .slice ao h co) (cell_only hg9 r0 hwR) (cell_only hg9 r1 hwR)
        have c0 := cell_only hg9 r0 hwR
        have c1 := cell_only hg9 r1 hwR
        have f0 := frozen_only hg9 r0 hwR rf0
        have f1 := frozen_only hg9 r1 hwR rf1
        have y0 := cell_only hg9 x0 hBR
        have y1 := cell_only hg9 x1 hBR
        have HE := Lib.hid (at_fin (W := W) (i := z) (j := j) (only_trans hO hg9) (DRows.only hI' hg9 (by omega)) (by omega) hl6 (hR9) hlt)
        clear hI hI' HP1 HP2 hz hzz
        go_wp2
        refine bodyPost_ret (res_img_2 rfl _ _ rfl q0 q1) rfl ?_
        exact ⟨HE.out.1, HE.out.2.1, HE.out.2.2.more (by omega)⟩)
      | (
        have hb9 : Below w9.heap.size w9 (w9.alloc (.cells #[.int .i64 (-1), .int .i64 ((h : Int))] 3)) := (by go_grown)
        obtain ⟨q0, q1⟩ := set2_get (x := .int .i64 W) (y := .slice ao h co) (cellB hb9 (cell_only hg9 r0 hwR)) (cellB hb9 (cell_only hg9 r1 hwR))
        have c0 := cellB hb9 (cell_only hg9 r0 hwR)
        have c1 := cellB hb9 (cell_only hg9 r1 hwR)
        have f0 := frozenB hb9 (cell_only hg9 r0 hwR) (frozen_only hg9 r0 hwR rf0)
        have f1 := frozenB hb9 (cell_only hg9 r1 hwR) (frozen_only hg9 r1 hwR rf1)
        have y0 := cellB hb9 (cell_only hg9 x0 hBR)
        have y1 := cellB hb9 (cell_only hg9 x1 hBR)
        have HE := Lib.hid (at_fin (W := W) (i := z) (j := j) (only_trans (only_trans hO hg9) (only_of_below hb9 _)) (DRows.below (DRows.only hI' hg9 (by omega)) hb9) (by omega) hl6 (hR9.below hb9 hR9.1) hlt)
        clear hI hI' HP1 HP2 hz hzz
        go_wp2
        refine bodyPost_ret (res_img_2 rfl _ _ rfl q0 q1) rfl ?_
        exact ⟨HE.out.1, HE.out.2.1, HE.out.2.2.more (by omega)⟩)
  · by_cases e1 : x = 1
    · subst e1
      go_wp2_with fail
      have HP : ∀ W, Rd W R (K + 12 + 1 + 1 + 1) → Calls Try.prog 59 #[.pointer (some ⟨R, 0, none⟩), .int .i64 2] W fun e w' => Num 2 e ∧ Rd w' R (K + 12 + 1 + 1 + 1 + 1) ∧ W.grownBy w' (some R) := fun W h => pick_c R (K + 12 + 1 + 1 + 1) 2 (by omega) (by omega) (by omega) W h
      have hRd : Rd wc.drew R (K + 12 + 1 + 1 + 1) := hR4
      have HP1 := HP _ hRd
      have hBr : Below (R + 1) wc (wc.alloc (.cells #[.int .i64 (-1), .int .i64 (W)] 3)) := (Below.refl _ _).alloc (by have := hR4.1; omega) _
      have hRa2 : Rd (wc.alloc (.cells #[.int .i64 (-1), .int .i64 (W)] 3)).drew R (K + 12 + 1 + 1 + 1) := (hR4.below hBr (by omega) : Rd (wc.alloc (.cells #[.int .i64 (-1), .int .i64 (W)] 3)) R (K + 12 + 1 + 1 + 1))
      have HP2 := HP _ hRa2
      have hBa : Below wc.heap.size wc (wc.alloc (.cells #[.int .i64 (-1), .int .i64 (W)] 3)) := by go_grown
      have hzx : ∀ x : Nat, x < 2 → ∃ z : Int, (∀ W' : World, (W'.alloc (.cells #[.int .i64 (-1), .int .i64 (W)] 3)).cell? ⟨W'.heap.size, x, none⟩ = some (.int .i64 z)) ∧ (#[Value.int .i64 (-1), Value.int .i64 (W)] : Array Value)[x]? = some (.int .i64 z) := fun x hx => by
        have : x = 0 ∨ x = 1 := by omega
        rcases this with rfl | rfl
        · exact ⟨-1, fun W' => by go_cell, rfl⟩
        · exact ⟨W, fun W' => by go_cell, rfl⟩
      have hwn : wc.heap.size ≠ R := by have := hR4.1; omega
      have hI' := hI
      rw [← EH.out] at hI'
      have HH := Lib.hid (And.intro hBa hzx)
      clear hBa hzx hBr hRa2 hRd HP
      go_region_with (go_at_call 59; first | ((with_reducible refine HP1.mono ?_); rintro e w9 ⟨⟨x, rfl, hx⟩, hR9, hg9'⟩; have hg9 := grown_undrew hg9'; have z1 := cell_only hg9 x0 hBR; obtain ⟨z, hz, hzz⟩ := HH.out.2 x hx; clear hg9') | ((with_reducible refine HP2.mono ?_); rintro e w9 ⟨⟨x, rfl, hx⟩, hR9, hg9'⟩; have hg8 := grown_undrew hg9'; obtain ⟨z, hz, hzz⟩ := HH.out.2 x hx; have hz9 := cell_only hg8 (hz wc) hwn; have hg9 := only_trans (only_of_below HH.out.1 (some R)) hg8; have z1 := cell_only hg9 x0 hBR; clear hg9' hg8))
      all_goals first
        | (
          obtain ⟨q0, q1⟩ := set2_get (x := .int .i64 W) (y := .slice ao h co) (cell_only hg9 r0 hwR) (cell_only hg9 r1 hwR)
          have c0 := cell_only hg9 r0 hwR
          have c1 := cell_only hg9 r1 hwR
          have f0 := frozen_only hg9 r0 hwR rf0
          have f1 := frozen_only hg9 r1 hwR rf1
          have y0 := cell_only hg9 x0 hBR
          have y1 := cell_only hg9 x1 hBR
          have HE := Lib.hid (at_fin (W := W) (i := i) (j := z) (only_trans hO hg9) (DRows.only hI' hg9 (by omega)) (by omega) hl6 (hR9) hlt)
          clear hI hI' HP1 HP2 hz hzz
          go_wp2
          refine bodyPost_ret (res_img_2 rfl _ _ rfl q0 q1) rfl ?_
          exact ⟨HE.out.1, HE.out.2.1, HE.out.2.2.more (by omega)⟩)
        | (
          have hb9 : Below w9.heap.size w9 (w9.alloc (.cells #[.int .i64 (-1), .int .i64 (W)] 3)) := (by go_grown)
          obtain ⟨q0, q1⟩ := set2_get (x := .int .i64 W) (y := .slice ao h co) (cellB hb9 (cell_only hg9 r0 hwR)) (cellB hb9 (cell_only hg9 r1 hwR))
          have c0 := cellB hb9 (cell_only hg9 r0 hwR)
          have c1 := cellB hb9 (cell_only hg9 r1 hwR)
          have f0 := frozenB hb9 (cell_only hg9 r0 hwR) (frozen_only hg9 r0 hwR rf0)
          have f1 := frozenB hb9 (cell_only hg9 r1 hwR) (frozen_only hg9 r1 hwR rf1)
          have y0 := cellB hb9 (cell_only hg9 x0 hBR)
          have y1 := cellB hb9 (cell_only hg9 x1 hBR)
          have HE := Lib.hid (at_fin (W := W) (i := i) (j := z) (only_trans (only_trans hO hg9) (only_of_below hb9 _)) (DRows.below (DRows.only hI' hg9 (by omega)) hb9) (by omega) hl6 (hR9.below hb9 hR9.1) hlt)
          clear hI hI' HP1 HP2 hz hzz
          go_wp2
          refine bodyPost_ret (res_img_2 rfl _ _ rfl q0 q1) rfl ?_
          exact ⟨HE.out.1, HE.out.2.1, HE.out.2.2.more (by omega)⟩)
    · have n0 : ((x : Int) == 0) = false := by simp; omega
      have n1 : ((x : Int) == 1) = false := by simp; omega
      obtain ⟨q0, q1⟩ := set2_get (x := .int .i64 W) (y := .slice ao h co) r0 r1
      have hI' := hI
      rw [← EH.out] at hI'
      have HE := Lib.hid (at_fin (W := W) (i := i) (j := j) hO hI' (by omega) hl6 hR4 hlt)
      clear hI hI'
      go_wp2
      refine bodyPost_ret (res_img_2 rfl _ _ rfl q0 q1) rfl ?_
      exact ⟨HE.out.1, HE.out.2.1, HE.out.2.2.more (by omega)⟩
theorem part_fin {w w4 : World} {lo : Nat} {W i j : Int} {sl : Value} {rows : List Int} (hon : Below w.heap.size w w4) (hrow : DRows lo w4 sl rows) (hlo : w.heap.size < lo) (hl : rows.length ≤ 6) :
    ∃ (W' : Int) (v : Value) (rows' : List Int) (i' j' : Int), Ending.returned (.tuple #[.agg #[.int .i64 W, sl], .int .i64 i, .int .i64 j]) = .returned (.tuple #[.agg #[.int .i64 W', v], .int .i64 i', .int .i64 j']) ∧ Ints ((w4.setCell ⟨w.heap.size, 0, none⟩ (.int .i64 W)).setCell ⟨w.heap.size, 1, none⟩ sl).heap.size ((w4.setCell ⟨w.heap.size, 0, none⟩ (.int .i64 W)).setCell ⟨w.heap.size, 1, none⟩ sl) v rows' ∧ rows'.length ≤ 6 ∧ Below w.heap.size w ((w4.setCell ⟨w.heap.size, 0, none⟩ (.int .i64 W)).setCell ⟨w.heap.size, 1, none⟩ sl) := by
  refine ⟨W, sl, rows, i, j, rfl, ?_, hl, (hon.setCell (by simp) _).setCell (by simp) _⟩
  rcases hrow with ⟨e, A, c, h⟩ | ⟨g, c, hrow, h, hg⟩
  · exact .inl ⟨e, A, c, h⟩
  · have hr := (hrow.far (p := ⟨w.heap.size, 0, none⟩) (by simp; omega) (.int .i64 W)).far (p := ⟨w.heap.size, 1, none⟩) (by simp; omega) sl
    have := hr.ints hr.lt c
    rw [← h] at this
    exact this
end Go.Proofs.Ytbblbdacdpokeaa
