/- Contract of the visit of groups: a search in depth that moves cells from one image to another. Conditions: both images have the same size; no cell is set in both. -/
import Derived.Test.YtbblbdacdpokeaaDoorKT
import Derived.Test.YtbblbdacdpokeaaDoorTW
import Derived.Test.YtbblbdacdpokeaaDoorPartsFn
namespace Go.Proofs.YtbblbdacdpokeaaDoor
open Go.RowKit
open Gr
/-- The memory of a visit: the images in blocks gl and gg, the boxes of the four variables. -/
structure VMem (w : World) (near : Bool) (n h Bl Bg Bn Bv gl gg cl cg : Nat) (ls gs : List Nat) : Prop where
  rowL : Row w gl (casts ls)
  rowG : Row w gg (casts gs)
  l0 : w.cell? ⟨Bl, 0, none⟩ = some (.int .i64 (n : Int))
  l1 : w.cell? ⟨Bl, 1, none⟩ = some (.slice (some ⟨gl, 0, none⟩) h cl)
  g0 : w.cell? ⟨Bg, 0, none⟩ = some (.int .i64 (n : Int))
  g1 : w.cell? ⟨Bg, 1, none⟩ = some (.slice (some ⟨gg, 0, none⟩) h cg)
  nb : w.cell? ⟨Bn, 0, none⟩ = some (.bool near)
  vb : w.cell? ⟨Bv, 0, none⟩ = some (.func (.func 39) #[] #[.pointer (some ⟨Bl, 0, none⟩), .pointer (some ⟨Bg, 0, none⟩), .pointer (some ⟨Bn, 0, none⟩), .pointer (some ⟨Bv, 0, none⟩)])
/-- The blocks are apart. -/
structure VApart (Bl Bg Bn Bv gl gg : Nat) : Prop where
  n0 : gl ≠ gg
  n1 : Bl ≠ gl
  n2 : Bl ≠ gg
  n3 : Bg ≠ gl
  n4 : Bg ≠ gg
  n5 : Bn ≠ gl
  n6 : Bn ≠ gg
  n7 : Bv ≠ gl
  n8 : Bv ≠ gg
section
variable {near : Bool} {h w : Nat}
theorem Gr.DInv.disj {ls gs ls' gs' : List Nat} {i j : Nat} {D : Int → Int → Prop} (hv : DInv near h w ls gs i j D ls' gs') (hd : ∀ k l, cell gs k l = true → cell ls k l = false) : ∀ k l, cell gs' k l = true → cell ls' k l = false := by
  intro k l hk
  rw [hv.g] at hk
  rcases Bool.or_eq_true_iff.1 hk with h1 | h1
  · rw [← Bool.not_eq_true]
    intro h2
    have h3 := hv.sub k l h2
    rw [hd k l h1] at h3
    cases h3
  · simpa using (Bool.and_eq_true_iff.1 h1).2
end
theorem ahead_next {near : Bool} {di dj : Int} (x y : Int) (h : Ahead near di (dj + 1) x y) : Ahead near di dj x y ∨ (x = di ∧ y = dj) := by
  obtain ⟨h1, h2, h3, h4, h5, h6⟩ := h
  by_cases e : x = di ∧ y = dj
  · exact .inr e
  · exact .inl ⟨h1, h2, h3, h4, h5, by omega⟩
theorem ahead_skip {near : Bool} {di dj : Int} (hn : ¬ (near = true ∨ di = 0 ∨ dj = 0)) (x y : Int) (h : Ahead near di (dj + 1) x y) : Ahead near di dj x y := by
  rcases ahead_next x y h with h1 | ⟨rfl, rfl⟩
  · exact h1
  · exact (hn h.1).elim
theorem ahead_row {near : Bool} {di dj : Int} (hd : 2 ≤ dj) (x y : Int) (h : Ahead near (di + 1) (-1) x y) : Ahead near di dj x y := by
  obtain ⟨h1, h2, h3, h4, h5, h6⟩ := h
  exact ⟨h1, h2, h3, h4, h5, by omega⟩
set_option maxHeartbeats 1000000 in
theorem visit_none (near : Bool) (n h : Nat) (h1 : 1 ≤ h) (h6 : h ≤ 6) (w1 : 1 ≤ n) (w6 : n ≤ 6) (Bl Bg Bn Bv gl gg cl cg : Nat) (ls gs : List Nat) (i j : Int) (w : World)
    (hls : Sized h n ls) (hgs : Sized h n gs) (hc : cellZ ls i j = false) (hM : VMem w near n h Bl Bg Bn Bv gl gg cl cg ls gs) :
    Calls Tryd.prog 39 #[.int .i64 i, .int .i64 j, .pointer (some ⟨Bl, 0, none⟩), .pointer (some ⟨Bg, 0, none⟩), .pointer (some ⟨Bn, 0, none⟩), .pointer (some ⟨Bv, 0, none⟩)] w fun e w' => e = .returned (.tuple #[]) ∧ VMem w' near n h Bl Bg Bn Bv gl gg cl cg (visL near h n ls i j) (visG near h n ls gs i j) ∧ Only2 w w' gl gg := by
  have eL := visL_none (near := near) hls hc
  have eG := visG_none (near := near) hls hgs hc
  rw [eL, eG]
  have hV := hls.vimg h1 h6 w1 w6
  obtain ⟨hrl, hrg, l0, l1, g0, g1, nb, vb⟩ := hM
  have hT := Only2.refl w gl gg
  have HI := ImageHas_v n _ ls hV i j w (hrl.intsH (c := cl) hls.1)
  rw [hc] at HI
  clear eL eG hc
  go_enter Tryd.func39, Tryd.ntmps39
  go_wp2_with fail
  refine HI.mono ?_
  rintro e wc ⟨rfl, hb⟩
  clear HI
  replace hrl := hrl.below hb hrl.lt
  replace hrg := hrg.below hb hrg.lt
  replace l0 := cellB hb l0
  replace l1 := cellB hb l1
  replace g0 := cellB hb g0
  replace g1 := cellB hb g1
  replace nb := cellB hb nb
  replace vb := cellB hb vb
  replace hT := Only2.trans hT (Only2.of_below hb)
  go_wp2
  go_returns
  exact ⟨rfl, ⟨hrl, hrg, l0, l1, g0, g1, nb, vb⟩, hT⟩
set_option maxRecDepth 100000 in
set_option maxHeartbeats 4000000 in
theorem visit_c (near : Bool) (n h : Nat) (h1 : 1 ≤ h) (h6 : h ≤ 6) (w1 : 1 ≤ n) (w6 : n ≤ 6) (Bl Bg Bn Bv gl gg cl cg : Nat) (hap : VApart Bl Bg Bn Bv gl gg) : ∀ (m : Nat) (ls gs : List Nat) (i j : Int) (w : World),
    Sized h n ls → Sized h n gs → setN h n ls ≤ m → (∀ k l, cell gs k l = true → cell ls k l = false) → VMem w near n h Bl Bg Bn Bv gl gg cl cg ls gs →
    Calls Tryd.prog 39 #[.int .i64 i, .int .i64 j, .pointer (some ⟨Bl, 0, none⟩), .pointer (some ⟨Bg, 0, none⟩), .pointer (some ⟨Bn, 0, none⟩), .pointer (some ⟨Bv, 0, none⟩)] w fun e w' => e = .returned (.tuple #[]) ∧ VMem w' near n h Bl Bg Bn Bv gl gg cl cg (visL near h n ls i j) (visG near h n ls gs i j) ∧ Only2 w w' gl gg := by
  obtain ⟨n0, n1, n2, n3, n4, n5, n6, n7, n8⟩ := hap
  intro m
  induction m with
  | zero =>
    intro ls gs i j w hls hgs hm hdis hM
    have hc : cellZ ls i j = false := by
      rw [← Bool.not_eq_true]
      intro hc
      simp only [cellZ, Bool.and_eq_true, decide_eq_true_eq] at hc
      have : (cellsL h n).filter (fun c => cell ls c.1 c.2) = [] := List.eq_nil_of_length_eq_zero (Nat.le_zero.1 hm)
      have hmem : (i.toNat, j.toNat) ∈ (cellsL h n).filter (fun c => cell ls c.1 c.2) := List.mem_filter.2 ⟨mem_cellsL.2 (hls.cell_in hc.2), hc.2⟩
      rw [this] at hmem
      cases hmem
    exact visit_none near n h h1 h6 w1 w6 Bl Bg Bn Bv gl gg cl cg ls gs i j w hls hgs hc hM
  | succ m ih =>
    intro ls gs i j w hls hgs hm hdis hM
    cases hc : cellZ ls i j with
    | false => exact visit_none near n h h1 h6 w1 w6 Bl Bg Bn Bv gl gg cl cg ls gs i j w hls hgs hc hM
    | true =>
      have hc2 := hc
      simp only [cellZ, Bool.and_eq_true, decide_eq_true_eq] at hc2
      obtain ⟨⟨hi0, hj0⟩, hca⟩ := hc2
      obtain ⟨a, rfl⟩ := Int.eq_ofNat_of_zero_le hi0
      obtain ⟨b, rfl⟩ := Int.eq_ofNat_of_zero_le hj0
      simp only [Int.toNat_natCast] at hca
      have hin := hls.cell_in hca
      have hgn : cell gs a b = false := by
        rw [← Bool.not_eq_true]
        intro hg
        rw [hdis a b hg] at hca
        cases hca
      have hV := hls.vimg h1 h6 w1 w6
      have hVg := hgs.vimg h1 h6 w1 w6
      obtain ⟨hrl, hrg, l0, l1, g0, g1, nb, vb⟩ := hM
      have hT := Only2.refl w gl gg
      have HI := ImageHas_v n _ ls hV a b w (hrl.intsH (c := cl) hls.1)
      rw [hc] at HI
      have hD0 : DInv near h n ls gs a b (Ahead near (-1) (-1)) (putL ls a b false) (putL gs a b true) := DInv.start hls hgs hca (fun x y hh => by obtain ⟨_, _, _, _, _, _⟩ := hh; omega)
      have HF1 : ∀ W, Row W gl (casts ls) → Calls Tryd.prog 40 #[.agg #[.int .i64 (n : Int), .slice (some ⟨gl, 0, none⟩) h cl], .int .i64 (a : Int), .int .i64 (b : Int)] W fun e w' => e = .returned (.tuple #[]) ∧ Row w' gl (casts (putL ls a b false)) ∧ W.grownBy w' (some gl) := fun W hr => by
        have := flip_h (n : Int) gl cl h ls hls.1 a b hin.1 (by omega) (hV.get64 a) W hr
        rwa [hca] at this
      have HF2 : ∀ W, Row W gg (casts gs) → Calls Tryd.prog 40 #[.agg #[.int .i64 (n : Int), .slice (some ⟨gg, 0, none⟩) h cg], .int .i64 (a : Int), .int .i64 (b : Int)] W fun e w' => e = .returned (.tuple #[]) ∧ Row w' gg (casts (putL gs a b true)) ∧ W.grownBy w' (some gg) := fun W hr => by
        have := flip_h (n : Int) gg cg h gs hgs.1 a b hin.1 (by omega) (hVg.get64 a) W hr
        rwa [hgn] at this
      have HCA := Lib.hid hca
      have HDIS := Lib.hid hdis
      have HM := Lib.hid hm
      have HIH := Lib.hid ih
      obtain ⟨ha6, hb6⟩ : a < 6 ∧ b < 6 := ⟨by omega, by omega⟩
      clear hc hca hgn hdis hm ih hi0 hj0
      go_enter Tryd.func39, Tryd.ntmps39
      go_wp2_with fail
      refine HI.mono ?_
      rintro e wc ⟨rfl, hb⟩
      clear HI
      replace hrl := hrl.below hb hrl.lt
      replace hrg := hrg.below hb hrg.lt
      replace l0 := cellB hb l0
      replace l1 := cellB hb l1
      replace g0 := cellB hb g0
      replace g1 := cellB hb g1
      replace nb := cellB hb nb
      replace vb := cellB hb vb
      replace hT := Only2.trans hT (Only2.of_below hb)
      go_wp2_with fail
      refine (HF1 _ hrl).mono ?_
      rintro e wc ⟨rfl, hrl', hg⟩
      clear hrl
      replace hrg := hrg.only hg (by first | assumption | omega | (simp; omega))
      replace l0 := cell_only hg l0 (by first | assumption | omega | (simp; omega))
      replace l1 := cell_only hg l1 (by first | assumption | omega | (simp; omega))
      replace g0 := cell_only hg g0 (by first | assumption | omega | (simp; omega))
      replace g1 := cell_only hg g1 (by first | assumption | omega | (simp; omega))
      replace nb := cell_only hg nb (by first | assumption | omega | (simp; omega))
      replace vb := cell_only hg vb (by first | assumption | omega | (simp; omega))
      replace hT := Only2.trans hT (by first | exact Only2.of_a hg | exact Only2.of_b hg)
      go_wp2_with fail
      refine (HF2 _ hrg).mono ?_
      rintro e wc ⟨rfl, hrg', hg⟩
      clear hrg
      replace l0 := cell_only hg l0 (by first | assumption | omega | (simp; omega))
      replace l1 := cell_only hg l1 (by first | assumption | omega | (simp; omega))
      replace g0 := cell_only hg g0 (by first | assumption | omega | (simp; omega))
      replace g1 := cell_only hg g1 (by first | assumption | omega | (simp; omega))
      replace nb := cell_only hg nb (by first | assumption | omega | (simp; omega))
      replace vb := cell_only hg vb (by first | assumption | omega | (simp; omega))
      replace hT := Only2.trans hT (by first | exact Only2.of_a hg | exact Only2.of_b hg)
      replace hrl' := hrl'.only hg (by first | assumption | omega | (simp; omega))
      have hM0 : VMem wc near n h Bl Bg Bn Bv gl gg cl cg (putL ls a b false) (putL gs a b true) := ⟨hrl', hrg', l0, l1, g0, g1, nb, vb⟩
      have HM0 := Lib.hid (And.intro hM0 hT)
      clear hM0 hT hrl' hrg' l0 l1 g0 g1 nb vb HF1 HF2
      go_wp2_with fail
      go_loopw [8] (fun s wr => ∃ (di : Int) (ls' gs' : List Nat), -1 ≤ di ∧ di ≤ 2 ∧ s = .int .i64 di ∧ DInv near h n ls gs a b (Ahead near di (-1)) ls' gs' ∧ VMem wr near n h Bl Bg Bn Bv gl gg cl cg ls' gs' ∧ Only2 w wr gl gg) (fun s _ => (2 - intOf s).toNat)
      case atStart => exact ⟨-1, _, _, by omega, by omega, rfl, hD0, HM0.out.1, HM0.out.2⟩
      case round =>
        obtain ⟨di, ls', gs', hd1, hd2, rfl, hD, hM, hT⟩ := hrel
        by_cases hdl : di ≤ 1
        · go_wp2_with fail
          go_loopw [9] (fun s wr => ∃ (dj : Int) (ls' gs' : List Nat), -1 ≤ dj ∧ dj ≤ 2 ∧ s = .int .i64 dj ∧ DInv near h n ls gs a b (Ahead near di dj) ls' gs' ∧ VMem wr near n h Bl Bg Bn Bv gl gg cl cg ls' gs' ∧ Only2 w wr gl gg) (fun s _ => (2 - intOf s).toNat)
          case atStart => exact ⟨-1, _, _, by omega, by omega, rfl, hD, hM, hT⟩
          case round =>
            clear hD hM hT
            obtain ⟨dj, ls', gs', he1, he2, rfl, hD, hM, hT⟩ := hrel
            by_cases hel : dj ≤ 1
            · have hnb := hM.nb
              have hvb := hM.vb
              by_cases hcond : near = true ∨ di = 0 ∨ dj = 0
              · have HC := HIH.out ls' gs' ((a : Int) + di) ((b : Int) + dj) wr hD.vl hD.vg (by have := hD.less hls HCA.out; have := HM.out; omega) (hD.disj HDIS.out) hM
                have hst := hD.step hcond ⟨hd1, hdl⟩ ⟨he1, hel⟩ (D' := Ahead near di (dj + 1)) (fun x y hh => ahead_next x y hh)
                have HST := Lib.hid hst
                have HHC := Lib.hid HC
                clear hst HC
                cases near with
                | true =>
                  clear hcond
                  go_wp2_with fail
                  refine HHC.out.mono ?_
                  rintro e wc ⟨rfl, hM2, ho⟩
                  go_wp2
                  go_roundw
                  case rel => exact ⟨dj + 1, _, _, by omega, by omega, by go_num, HST.out, hM2, hT.trans ho⟩
                  case measure => simp [intOf]; omega
                | false =>
                  by_cases hdi0 : di = 0
                  · have hdb : (di == 0) = true := by simp [hdi0]
                    clear hcond hdi0
                    go_wp2_with fail
                    refine HHC.out.mono ?_
                    rintro e wc ⟨rfl, hM2, ho⟩
                    go_wp2
                    go_roundw
                    case rel => exact ⟨dj + 1, _, _, by omega, by omega, by go_num, HST.out, hM2, hT.trans ho⟩
                    case measure => simp [intOf]; omega
                  · have hdj0 : dj = 0 := by
                      rcases hcond with h | h | h
                      · cases h
                      · exact (hdi0 h).elim
                      · exact h
                    have hdb : (di == 0) = false := by simp [hdi0]
                    have heb : (dj == 0) = true := by simp [hdj0]
                    clear hcond hdi0 hdj0
                    go_wp2_with fail
                    refine HHC.out.mono ?_
                    rintro e wc ⟨rfl, hM2, ho⟩
                    go_wp2
                    go_roundw
                    case rel => exact ⟨dj + 1, _, _, by omega, by omega, by go_num, HST.out, hM2, hT.trans ho⟩
                    case measure => simp [intOf]; omega
              · have hst := hD.pass (D' := Ahead near di (dj + 1)) (ahead_skip hcond)
                have HST := Lib.hid hst
                have hdb : (di == 0) = false := by simp; omega
                have heb : (dj == 0) = false := by simp; omega
                have hnf : near = false := by cases near <;> simp_all
                subst hnf
                clear hst hcond
                go_wp2
                go_roundw
                case rel => exact ⟨dj + 1, _, _, by omega, by omega, by go_num, HST.out, hM, hT⟩
                case measure => simp [intOf]; omega
            · go_wp2
              go_roundw
              case rel => exact ⟨di + 1, _, _, by omega, by omega, by go_num, hD.pass (fun x y hh => ahead_row (by omega) x y hh), hM, hT⟩
              case measure => simp [intOf]; omega
        · have hfin := hD.finish hls hgs HCA.out (fun x y hh x1 x2 y1 y2 => ⟨hh, x1, x2, y1, y2, by omega⟩)
          have HFIN := Lib.hid hfin
          clear hfin
          go_wp2
          go_returns
          rw [HFIN.out.1, HFIN.out.2] at hM
          exact ⟨rfl, hM, hT⟩
end Go.Proofs.YtbblbdacdpokeaaDoor
