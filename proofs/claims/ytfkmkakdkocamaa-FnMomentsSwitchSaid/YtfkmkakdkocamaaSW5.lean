/- Contracts of l92Switch, DrawSwitchOk and DrawSwitchDo: an image and a switch whose numbers are at most 6. Conditions: the reader lies in block R; the code's slice can be read. -/
import Derived.Test.YtfkmkakdkocamaaSW4
import Derived.Test.YtfkmkakdkocamaaPKL
import Derived.Test.YtfkmkakdkocamaaMPS
namespace Go.Proofs.Ytfkmkakdkocamaa
open Go.RowKit
theorem res_sw {fn : Func} {t : Tmp} (h : fn.results = #[.cell t 27]) (tmps : Array Value) (w : World) {b : Nat} {x y z u : Value} (ht : tmps.getD t undef = .pointer (some ⟨b, 0, none⟩)) (h0 : w.cell? ⟨b, 0, none⟩ = some x) (h1 : w.cell? ⟨b, 1, none⟩ = some y) (h2 : w.cell? ⟨b, 2, none⟩ = some z) (h3 : w.cell? ⟨b, 3, none⟩ = some u) :
    (results fn tmps).run Try.prog w = .ok (.agg #[x, y, z, u]) w := by
  have ht' : tmps[t]?.getD undef = .pointer (some ⟨b, 0, none⟩) := by rw [← ht, Array.getD_eq_getD_getElem?]
  simp only [results, h]
  simp [go_sem, ht', h0, h1, h2, h3]
theorem res_img_sw {fn : Func} {t s : Tmp} (h : fn.results = #[.cell t 25, .cell s 27]) (tmps : Array Value) (w : World) {b c : Nat} {k l x y z u : Value} (ht : tmps.getD t undef = .pointer (some ⟨b, 0, none⟩)) (hs : tmps.getD s undef = .pointer (some ⟨c, 0, none⟩)) (k0 : w.cell? ⟨b, 0, none⟩ = some k) (k1 : w.cell? ⟨b, 1, none⟩ = some l) (h0 : w.cell? ⟨c, 0, none⟩ = some x) (h1 : w.cell? ⟨c, 1, none⟩ = some y) (h2 : w.cell? ⟨c, 2, none⟩ = some z) (h3 : w.cell? ⟨c, 3, none⟩ = some u) :
    (results fn tmps).run Try.prog w = .ok (.tuple #[.agg #[k, l], .agg #[x, y, z, u]]) w := by
  have ht' : tmps[t]?.getD undef = .pointer (some ⟨b, 0, none⟩) := by rw [← ht, Array.getD_eq_getD_getElem?]
  have hs' : tmps[s]?.getD undef = .pointer (some ⟨c, 0, none⟩) := by rw [← hs, Array.getD_eq_getD_getElem?]
  simp only [results, h]
  simp [go_sem, ht', hs', k0, k1, h0, h1, h2, h3]
/-- Four cells written. -/
def set4 (w : World) (b : Nat) (x y z u : Value) : World := (((w.setCell ⟨b, 0, none⟩ x).setCell ⟨b, 1, none⟩ y).setCell ⟨b, 2, none⟩ z).setCell ⟨b, 3, none⟩ u
theorem set4_get {w : World} {b : Nat} {x y z u x' y' z' u' : Value} (h0 : w.cell? ⟨b, 0, none⟩ = some x') (h1 : w.cell? ⟨b, 1, none⟩ = some y') (h2 : w.cell? ⟨b, 2, none⟩ = some z') (h3 : w.cell? ⟨b, 3, none⟩ = some u') :
    ((((w.setCell ⟨b, 0, none⟩ x).setCell ⟨b, 1, none⟩ y).setCell ⟨b, 2, none⟩ z).setCell ⟨b, 3, none⟩ u).cell? ⟨b, 0, none⟩ = some x ∧ ((((w.setCell ⟨b, 0, none⟩ x).setCell ⟨b, 1, none⟩ y).setCell ⟨b, 2, none⟩ z).setCell ⟨b, 3, none⟩ u).cell? ⟨b, 1, none⟩ = some y ∧ ((((w.setCell ⟨b, 0, none⟩ x).setCell ⟨b, 1, none⟩ y).setCell ⟨b, 2, none⟩ z).setCell ⟨b, 3, none⟩ u).cell? ⟨b, 2, none⟩ = some z ∧ ((((w.setCell ⟨b, 0, none⟩ x).setCell ⟨b, 1, none⟩ y).setCell ⟨b, 2, none⟩ z).setCell ⟨b, 3, none⟩ u).cell? ⟨b, 3, none⟩ = some u := by
  refine ⟨?_, ?_, ?_, ?_⟩
  · rw [World.cell?_setCell_other _ _ _ _ (by simp), World.cell?_setCell_other _ _ _ _ (by simp), World.cell?_setCell_other _ _ _ _ (by simp)]
    exact World.cell?_setCell_same' _ _ _ (by rw [h0]; rfl)
  · rw [World.cell?_setCell_other _ _ _ _ (by simp), World.cell?_setCell_other _ _ _ _ (by simp)]
    exact World.cell?_setCell_same' _ _ _ (by rw [World.cell?_setCell_other _ _ _ _ (by simp), h1]; rfl)
  · rw [World.cell?_setCell_other _ _ _ _ (by simp)]
    exact World.cell?_setCell_same' _ _ _ (by rw [World.cell?_setCell_other _ _ _ _ (by simp), World.cell?_setCell_other _ _ _ _ (by simp), h2]; rfl)
  · exact World.cell?_setCell_same' _ _ _ (by rw [World.cell?_setCell_other _ _ _ _ (by simp), World.cell?_setCell_other _ _ _ _ (by simp), World.cell?_setCell_other _ _ _ _ (by simp), h3]; rfl)
theorem only4 {a w : World} {g b : Nat} (h : a.grownBy w (some g)) (hb : a.heap.size ≤ b) (x y z u : Value) : a.grownBy ((((w.setCell ⟨b, 0, none⟩ x).setCell ⟨b, 1, none⟩ y).setCell ⟨b, 2, none⟩ z).setCell ⟨b, 3, none⟩ u) (some g) :=
  only_setCell (only_setCell (only_setCell (only_setCell h (.inr hb) _) (.inr hb) _) (.inr hb) _) (.inr hb) _
/-- A switch whose numbers are at most 6. -/
def SwOut (w : World) (R : Nat) (e : Ending) (w' : World) : Prop := ∃ a b c d : Nat, e = .returned (swV a b c d) ∧ a ≤ 6 ∧ b ≤ 6 ∧ c ≤ 6 ∧ d ≤ 6 ∧ w.grownBy w' (some R)
set_option maxRecDepth 100000 in
set_option maxHeartbeats 8000000 in
theorem l92Switch_c (R K : Nat) (hK : K ≤ 900000) (W : Int) (v : Value) (rows : List Int) (w : World) (hRd : Rd w R K) (hv : Ints w.heap.size w v rows) :
    Calls Try.prog 26 #[.pointer (some ⟨R, 0, none⟩), .agg #[.int .i64 W, v]] w (SwOut w R) := by
  obtain ⟨A, cap, rfl⟩ := hv.len
  have hRl := hRd.1
  obtain ⟨W0, eW⟩ : ∃ Wx, Wx = (w.alloc (.cells #[.int .i64 W, .slice A rows.length cap] 25)).alloc (.cells #[.int .i64 0, .int .i64 0, .int .i64 0, .int .i64 0] 27) := ⟨_, rfl⟩
  have hW : Below w.heap.size w W0 := by rw [eW]; go_grown
  have x0 : W0.cell? ⟨w.heap.size, 0, none⟩ = some (.int .i64 W) := by rw [eW]; go_cell
  have x1 : W0.cell? ⟨w.heap.size, 1, none⟩ = some (.slice A rows.length cap) := by rw [eW]; go_cell
  have r0 : W0.cell? ⟨w.heap.size + 1, 0, none⟩ = some (.int .i64 0) := by rw [eW]; go_cell
  have r1 : W0.cell? ⟨w.heap.size + 1, 1, none⟩ = some (.int .i64 0) := by rw [eW]; go_cell
  have r2 : W0.cell? ⟨w.heap.size + 1, 2, none⟩ = some (.int .i64 0) := by rw [eW]; go_cell
  have r3 : W0.cell? ⟨w.heap.size + 1, 3, none⟩ = some (.int .i64 0) := by rw [eW]; go_cell
  have rf0 : W0.frozen? ⟨w.heap.size + 1, 0, none⟩ = false := by rw [eW]; go_cell
  have rf1 : W0.frozen? ⟨w.heap.size + 1, 1, none⟩ = false := by rw [eW]; go_cell
  have rf2 : W0.frozen? ⟨w.heap.size + 1, 2, none⟩ = false := by rw [eW]; go_cell
  have rf3 : W0.frozen? ⟨w.heap.size + 1, 3, none⟩ = false := by rw [eW]; go_cell
  have hI := (hv.below hW).more hW.size
  replace hRd := hRd.below hW hRl
  have hon : w.grownBy W0 (some R) := only_of_below hW _
  have hsz := hW.size
  clear hv
  go_enter Try.func26, Try.ntmps26
  go_wp2_with fail
  rw [← eW]
  clear eW
  refine (SwitchList_c W _ rows W0 hI).mono ?_
  rintro e wc ⟨vs, L, rfl, hown, hsm, hlen, hb⟩
  obtain ⟨A2, c2, rfl⟩ := hown.form
  replace hRd := hRd.below hb hRd.1
  replace hon := only_trans hon (only_of_below hb _)
  replace x0 := cellB hb x0
  replace x1 := cellB hb x1
  replace rf0 := frozenB hb r0 rf0
  replace r0 := cellB hb r0
  replace rf1 := frozenB hb r1 rf1
  replace r1 := cellB hb r1
  replace rf2 := frozenB hb r2 rf2
  replace r2 := cellB hb r2
  replace rf3 := frozenB hb r3 rf3
  replace r3 := cellB hb r3
  clear hb hI hW
  obtain ⟨m, em⟩ : ∃ m, m = L.length := ⟨_, rfl⟩
  rw [← em]
  have hm15 : m ≤ 1500 := by omega
  by_cases hm : m = 0
  · have hmi : ¬ (0 : Int) < (m : Int) := by omega
    clear hown hsm em
    have HP := pick_c R (K + 0) 3 (by omega) (by omega) (by omega) _ hRd
    rw [show (((3 : Nat)) : Int) = 3 from rfl] at HP
    go_wp2_with fail
    refine HP.mono ?_
    clear HP
    rintro e wd ⟨⟨pa, rfl, hpa⟩, hRd', hg⟩
    replace x0 := cell_only hg x0 (by first | assumption | omega | (simp; omega))
    replace x1 := cell_only hg x1 (by first | assumption | omega | (simp; omega))
    replace rf0 := frozen_only hg r0 (by first | assumption | omega | (simp; omega)) rf0
    replace r0 := cell_only hg r0 (by first | assumption | omega | (simp; omega))
    replace rf1 := frozen_only hg r1 (by first | assumption | omega | (simp; omega)) rf1
    replace r1 := cell_only hg r1 (by first | assumption | omega | (simp; omega))
    replace rf2 := frozen_only hg r2 (by first | assumption | omega | (simp; omega)) rf2
    replace r2 := cell_only hg r2 (by first | assumption | omega | (simp; omega))
    replace rf3 := frozen_only hg r3 (by first | assumption | omega | (simp; omega)) rf3
    replace r3 := cell_only hg r3 (by first | assumption | omega | (simp; omega))
    replace hon := only_trans hon hg
    clear hg hRd
    have hRd := hRd'
    clear hRd'
    have HP := pick_c R (K + 1) 7 (by omega) (by omega) (by omega) _ hRd
    rw [show (((7 : Nat)) : Int) = 7 from rfl] at HP
    go_wp2_with fail
    refine HP.mono ?_
    clear HP
    rintro e wd ⟨⟨pb, rfl, hpb⟩, hRd', hg⟩
    replace x0 := cell_only hg x0 (by first | assumption | omega | (simp; omega))
    replace x1 := cell_only hg x1 (by first | assumption | omega | (simp; omega))
    replace rf0 := frozen_only hg r0 (by first | assumption | omega | (simp; omega)) rf0
    replace r0 := cell_only hg r0 (by first | assumption | omega | (simp; omega))
    replace rf1 := frozen_only hg r1 (by first | assumption | omega | (simp; omega)) rf1
    replace r1 := cell_only hg r1 (by first | assumption | omega | (simp; omega))
    replace rf2 := frozen_only hg r2 (by first | assumption | omega | (simp; omega)) rf2
    replace r2 := cell_only hg r2 (by first | assumption | omega | (simp; omega))
    replace rf3 := frozen_only hg r3 (by first | assumption | omega | (simp; omega)) rf3
    replace r3 := cell_only hg r3 (by first | assumption | omega | (simp; omega))
    replace hon := only_trans hon hg
    clear hg hRd
    have hRd := hRd'
    clear hRd'
    have HP := pick_c R (K + 2) 3 (by omega) (by omega) (by omega) _ hRd
    rw [show (((3 : Nat)) : Int) = 3 from rfl] at HP
    go_wp2_with fail
    refine HP.mono ?_
    clear HP
    rintro e wd ⟨⟨pc, rfl, hpc⟩, hRd', hg⟩
    replace x0 := cell_only hg x0 (by first | assumption | omega | (simp; omega))
    replace x1 := cell_only hg x1 (by first | assumption | omega | (simp; omega))
    replace rf0 := frozen_only hg r0 (by first | assumption | omega | (simp; omega)) rf0
    replace r0 := cell_only hg r0 (by first | assumption | omega | (simp; omega))
    replace rf1 := frozen_only hg r1 (by first | assumption | omega | (simp; omega)) rf1
    replace r1 := cell_only hg r1 (by first | assumption | omega | (simp; omega))
    replace rf2 := frozen_only hg r2 (by first | assumption | omega | (simp; omega)) rf2
    replace r2 := cell_only hg r2 (by first | assumption | omega | (simp; omega))
    replace rf3 := frozen_only hg r3 (by first | assumption | omega | (simp; omega)) rf3
    replace r3 := cell_only hg r3 (by first | assumption | omega | (simp; omega))
    replace hon := only_trans hon hg
    clear hg hRd
    have hRd := hRd'
    clear hRd'
    have HP := pick_c R (K + 3) 7 (by omega) (by omega) (by omega) _ hRd
    rw [show (((7 : Nat)) : Int) = 7 from rfl] at HP
    go_wp2_with fail
    refine HP.mono ?_
    clear HP
    rintro e wd ⟨⟨pd, rfl, hpd⟩, hRd', hg⟩
    replace x0 := cell_only hg x0 (by first | assumption | omega | (simp; omega))
    replace x1 := cell_only hg x1 (by first | assumption | omega | (simp; omega))
    replace rf0 := frozen_only hg r0 (by first | assumption | omega | (simp; omega)) rf0
    replace r0 := cell_only hg r0 (by first | assumption | omega | (simp; omega))
    replace rf1 := frozen_only hg r1 (by first | assumption | omega | (simp; omega)) rf1
    replace r1 := cell_only hg r1 (by first | assumption | omega | (simp; omega))
    replace rf2 := frozen_only hg r2 (by first | assumption | omega | (simp; omega)) rf2
    replace r2 := cell_only hg r2 (by first | assumption | omega | (simp; omega))
    replace rf3 := frozen_only hg r3 (by first | assumption | omega | (simp; omega)) rf3
    replace r3 := cell_only hg r3 (by first | assumption | omega | (simp; omega))
    replace hon := only_trans hon hg
    clear hg hRd
    have hRd := hRd'
    clear hRd'
    obtain ⟨q0, q1, q2, q3⟩ := set4_get (x := .int .i64 (pa : Int)) (y := .int .i64 (pb : Int)) (z := .int .i64 (pc : Int)) (u := .int .i64 (pd : Int)) r0 r1 r2 r3
    have HO := Lib.hid (only4 hon (show w.heap.size ≤ w.heap.size + 1 by omega) (.int .i64 (pa : Int)) (.int .i64 (pb : Int)) (.int .i64 (pc : Int)) (.int .i64 (pd : Int)))
    clear hon hRd
    go_wp2
    refine bodyPost_ret (res_sw rfl _ _ rfl q0 q1 q2 q3) rfl ?_
    exact ⟨pa, pb, pc, pd, rfl, by omega, by omega, by omega, by omega, HO.out⟩
  · have hmi : (0 : Int) < (m : Int) := by omega
    have HP := pick_c R (K + 0) 8 (by omega) (by omega) (by omega) _ hRd
    rw [show (((8 : Nat)) : Int) = 8 from rfl] at HP
    have HL := Lib.hid (And.intro hown (And.intro hsm em))
    clear hown hsm em
    go_wp2_with fail
    refine HP.mono ?_
    clear HP
    rintro e wk ⟨⟨x, rfl, hx⟩, hRd', hg⟩
    replace x0 := cell_only hg x0 (by first | assumption | omega | (simp; omega))
    replace x1 := cell_only hg x1 (by first | assumption | omega | (simp; omega))
    replace rf0 := frozen_only hg r0 (by first | assumption | omega | (simp; omega)) rf0
    replace r0 := cell_only hg r0 (by first | assumption | omega | (simp; omega))
    replace rf1 := frozen_only hg r1 (by first | assumption | omega | (simp; omega)) rf1
    replace r1 := cell_only hg r1 (by first | assumption | omega | (simp; omega))
    replace rf2 := frozen_only hg r2 (by first | assumption | omega | (simp; omega)) rf2
    replace r2 := cell_only hg r2 (by first | assumption | omega | (simp; omega))
    replace rf3 := frozen_only hg r3 (by first | assumption | omega | (simp; omega)) rf3
    replace r3 := cell_only hg r3 (by first | assumption | omega | (simp; omega))
    replace hon := only_trans hon hg
    have HG := Lib.hid hg
    clear hg hRd
    have hRd := hRd'
    clear hRd'
    by_cases hx0 : x = 0
    · have hxi : ¬ (0 : Int) < (x : Int) := by omega
      have HP := pick_c R (K + 1) 3 (by omega) (by omega) (by omega) _ hRd
      rw [show (((3 : Nat)) : Int) = 3 from rfl] at HP
      go_wp2_with fail
      refine HP.mono ?_
      clear HP
      rintro e wd ⟨⟨pa, rfl, hpa⟩, hRd', hg⟩
      replace x0 := cell_only hg x0 (by first | assumption | omega | (simp; omega))
      replace x1 := cell_only hg x1 (by first | assumption | omega | (simp; omega))
      replace rf0 := frozen_only hg r0 (by first | assumption | omega | (simp; omega)) rf0
      replace r0 := cell_only hg r0 (by first | assumption | omega | (simp; omega))
      replace rf1 := frozen_only hg r1 (by first | assumption | omega | (simp; omega)) rf1
      replace r1 := cell_only hg r1 (by first | assumption | omega | (simp; omega))
      replace rf2 := frozen_only hg r2 (by first | assumption | omega | (simp; omega)) rf2
      replace r2 := cell_only hg r2 (by first | assumption | omega | (simp; omega))
      replace rf3 := frozen_only hg r3 (by first | assumption | omega | (simp; omega)) rf3
      replace r3 := cell_only hg r3 (by first | assumption | omega | (simp; omega))
      replace hon := only_trans hon hg
      clear hg hRd
      have hRd := hRd'
      clear hRd'
      have HP := pick_c R (K + 2) 7 (by omega) (by omega) (by omega) _ hRd
      rw [show (((7 : Nat)) : Int) = 7 from rfl] at HP
      go_wp2_with fail
      refine HP.mono ?_
      clear HP
      rintro e wd ⟨⟨pb, rfl, hpb⟩, hRd', hg⟩
      replace x0 := cell_only hg x0 (by first | assumption | omega | (simp; omega))
      replace x1 := cell_only hg x1 (by first | assumption | omega | (simp; omega))
      replace rf0 := frozen_only hg r0 (by first | assumption | omega | (simp; omega)) rf0
      replace r0 := cell_only hg r0 (by first | assumption | omega | (simp; omega))
      replace rf1 := frozen_only hg r1 (by first | assumption | omega | (simp; omega)) rf1
      replace r1 := cell_only hg r1 (by first | assumption | omega | (simp; omega))
      replace rf2 := frozen_only hg r2 (by first | assumption | omega | (simp; omega)) rf2
      replace r2 := cell_only hg r2 (by first | assumption | omega | (simp; omega))
      replace rf3 := frozen_only hg r3 (by first | assumption | omega | (simp; omega)) rf3
      replace r3 := cell_only hg r3 (by first | assumption | omega | (simp; omega))
      replace hon := only_trans hon hg
      clear hg hRd
      have hRd := hRd'
      clear hRd'
      have HP := pick_c R (K + 3) 3 (by omega) (by omega) (by omega) _ hRd
      rw [show (((3 : Nat)) : Int) = 3 from rfl] at HP
      go_wp2_with fail
      refine HP.mono ?_
      clear HP
      rintro e wd ⟨⟨pc, rfl, hpc⟩, hRd', hg⟩
      replace x0 := cell_only hg x0 (by first | assumption | omega | (simp; omega))
      replace x1 := cell_only hg x1 (by first | assumption | omega | (simp; omega))
      replace rf0 := frozen_only hg r0 (by first | assumption | omega | (simp; omega)) rf0
      replace r0 := cell_only hg r0 (by first | assumption | omega | (simp; omega))
      replace rf1 := frozen_only hg r1 (by first | assumption | omega | (simp; omega)) rf1
      replace r1 := cell_only hg r1 (by first | assumption | omega | (simp; omega))
      replace rf2 := frozen_only hg r2 (by first | assumption | omega | (simp; omega)) rf2
      replace r2 := cell_only hg r2 (by first | assumption | omega | (simp; omega))
      replace rf3 := frozen_only hg r3 (by first | assumption | omega | (simp; omega)) rf3
      replace r3 := cell_only hg r3 (by first | assumption | omega | (simp; omega))
      replace hon := only_trans hon hg
      clear hg hRd
      have hRd := hRd'
      clear hRd'
      have HP := pick_c R (K + 4) 7 (by omega) (by omega) (by omega) _ hRd
      rw [show (((7 : Nat)) : Int) = 7 from rfl] at HP
      go_wp2_with fail
      refine HP.mono ?_
      clear HP
      rintro e wd ⟨⟨pd, rfl, hpd⟩, hRd', hg⟩
      replace x0 := cell_only hg x0 (by first | assumption | omega | (simp; omega))
      replace x1 := cell_only hg x1 (by first | assumption | omega | (simp; omega))
      replace rf0 := frozen_only hg r0 (by first | assumption | omega | (simp; omega)) rf0
      replace r0 := cell_only hg r0 (by first | assumption | omega | (simp; omega))
      replace rf1 := frozen_only hg r1 (by first | assumption | omega | (simp; omega)) rf1
      replace r1 := cell_only hg r1 (by first | assumption | omega | (simp; omega))
      replace rf2 := frozen_only hg r2 (by first | assumption | omega | (simp; omega)) rf2
      replace r2 := cell_only hg r2 (by first | assumption | omega | (simp; omega))
      replace rf3 := frozen_only hg r3 (by first | assumption | omega | (simp; omega)) rf3
      replace r3 := cell_only hg r3 (by first | assumption | omega | (simp; omega))
      replace hon := only_trans hon hg
      clear hg hRd
      have hRd := hRd'
      clear hRd'
      obtain ⟨q0, q1, q2, q3⟩ := set4_get (x := .int .i64 (pa : Int)) (y := .int .i64 (pb : Int)) (z := .int .i64 (pc : Int)) (u := .int .i64 (pd : Int)) r0 r1 r2 r3
      have HO := Lib.hid (only4 hon (show w.heap.size ≤ w.heap.size + 1 by omega) (.int .i64 (pa : Int)) (.int .i64 (pb : Int)) (.int .i64 (pc : Int)) (.int .i64 (pd : Int)))
      clear hon hRd
      go_wp2
      refine bodyPost_ret (res_sw rfl _ _ rfl q0 q1 q2 q3) rfl ?_
      exact ⟨pa, pb, pc, pd, rfl, by omega, by omega, by omega, by omega, HO.out⟩
    · have hxi : (0 : Int) < (x : Int) := by omega
      have HP := pick_l R (K + 0 + 1) m (by omega) (by omega) (by omega) _ hRd
      go_wp2_with fail
      refine HP.mono ?_
      clear HP
      rintro e wd ⟨⟨z, rfl, hz⟩, hRd', hg⟩
      obtain ⟨hown, hsm, em⟩ := HL.out
      obtain ⟨gl, cl, el, hgl, hgl2, hcl⟩ := hown.cells (by omega)
      injection el with el1 el2 el3
      subst el1
      obtain ⟨p, hp⟩ : ∃ p, L[z]? = some p := ⟨L[z]'(by omega), by simp [show z < L.length by omega]⟩
      have hpm := hsm p (List.mem_of_getElem? hp)
      obtain ⟨l0, l1, l2, l3⟩ := hcl z p hp
      have hgR : gl ≠ R := by omega
      have l0 := cell_only hg (cell_only HG.out l0 hgR) hgR
      have l1 := cell_only hg (cell_only HG.out l1 hgR) hgR
      have l2 := cell_only hg (cell_only HG.out l2 hgR) hgR
      have l3 := cell_only hg (cell_only HG.out l3 hgR) hgR
      replace x0 := cell_only hg x0 (by first | assumption | omega | (simp; omega))
      replace x1 := cell_only hg x1 (by first | assumption | omega | (simp; omega))
      replace rf0 := frozen_only hg r0 (by first | assumption | omega | (simp; omega)) rf0
      replace r0 := cell_only hg r0 (by first | assumption | omega | (simp; omega))
      replace rf1 := frozen_only hg r1 (by first | assumption | omega | (simp; omega)) rf1
      replace r1 := cell_only hg r1 (by first | assumption | omega | (simp; omega))
      replace rf2 := frozen_only hg r2 (by first | assumption | omega | (simp; omega)) rf2
      replace r2 := cell_only hg r2 (by first | assumption | omega | (simp; omega))
      replace rf3 := frozen_only hg r3 (by first | assumption | omega | (simp; omega)) rf3
      replace r3 := cell_only hg r3 (by first | assumption | omega | (simp; omega))
      replace hon := only_trans hon hg
      obtain ⟨pa, pb, pc, pd⟩ := p
      obtain ⟨h1, h2, h3, h4⟩ := hpm
      dsimp only at l0 l1 l2 l3 h1 h2 h3 h4
      have hzm : z < m := hz
      obtain ⟨q0, q1, q2, q3⟩ := set4_get (x := .int .i64 (pa : Int)) (y := .int .i64 (pb : Int)) (z := .int .i64 (pc : Int)) (u := .int .i64 (pd : Int)) r0 r1 r2 r3
      have HO := Lib.hid (only4 hon (show w.heap.size ≤ w.heap.size + 1 by omega) (.int .i64 (pa : Int)) (.int .i64 (pb : Int)) (.int .i64 (pc : Int)) (.int .i64 (pd : Int)))
      clear hon hRd hRd' hg HG HL hown hsm em hcl el2 el3 hp
      go_wp2
      refine bodyPost_ret (res_sw rfl _ _ rfl q0 q1 q2 q3) rfl ?_
      exact ⟨pa, pb, pc, pd, rfl, h1, h2, h3, h4, HO.out⟩
end Go.Proofs.Ytfkmkakdkocamaa
