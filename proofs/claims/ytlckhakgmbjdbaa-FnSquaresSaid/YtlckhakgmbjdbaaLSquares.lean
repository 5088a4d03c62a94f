/- The law that squares are those of the sums: it returns true at whatever code. Conditions: the code's slice can be read. -/
import Derived.Test.YtlckhakgmbjdbaaLCrossTurn
import Derived.Test.YtlckhakgmbjdbaaKY
namespace Go.Proofs.Ytlckhakgmbjdbaa
open Go.RowKit
theorem squares_rows {w : Nat} {ns : List Nat} : (sumN ns.length fun i => ((i : Int) * i) * (rowSums w ns).getD i 0) = mom w ns f_MomentSquares_1 := (mom_rows w ns fun i => ((i : Int) * i)).symm
theorem squares_cols {w : Nat} {ns : List Nat} : (sumN w fun j => ((j : Int) * j) * (colSums w ns).getD j 0) = mom w ns f_MomentSquares_2 := (mom_cols w ns fun j => ((j : Int) * j)).symm
theorem squares_rbd {w : Nat} {ns : List Nat} (hi : VImg w ns) {k : Nat} (hk : k < ns.length) : 0 ≤ (rowSums w ns).getD k 0 ∧ (rowSums w ns).getD k 0 ≤ 6 := by
  rw [rowSums_at hk]
  have := pop_bd w (ns.getD k 0)
  have := hi.w6
  omega
theorem squares_cbd {w : Nat} {ns : List Nat} (hi : VImg w ns) {k : Nat} (hk : k < w) : 0 ≤ (colSums w ns).getD k 0 ∧ (colSums w ns).getD k 0 ≤ 6 := by
  rw [colSums_getD hk]
  have := sumN_bd (n := ns.length) (f := fun i => b2i (cell ns i k)) (c := 1) fun i _ => b2i_bd _
  have := hi.h6
  omega
theorem squares_pbd {p q : Int} (h1 : 0 ≤ p ∧ p ≤ 25) (h2 : 0 ≤ q ∧ q ≤ 6) : 0 ≤ p * q ∧ p * q ≤ 150 := ⟨Int.mul_nonneg h1.1 h2.1, by have := Int.mul_le_mul h1.2 h2.2 h2.1 (by omega); omega⟩
theorem squares_kbd {k : Nat} (hk : k < 6) : 0 ≤ ((k : Int) * k) ∧ ((k : Int) * k) ≤ 25 := by
  have := mul_bd hk hk
  omega
set_option maxHeartbeats 4000000 in
theorem squares_walk (A : Option Addr) (len cap : Nat) (hlc : len ≤ cap) (w : World) (hc : Code8 w w.heap.size A len) :
    Calls Try.prog 11 #[.slice A len cap] w fun e w' => e = .returned (.bool true) ∧ Below w.heap.size w w' := by
  by_cases hbig : 1048576 < len
  · go_enter Try.func11, Try.ntmps11
    go_wp2
    go_returns
    exact ⟨rfl, Below.refl _ _⟩
  · go_enter Try.func11, Try.ntmps11
    go_wp2_with fail
    refine (DrawMomentSquares_c A len cap hlc w hc).mono ?_
    rintro e w1 ⟨W, v, rows, rfl, hI, hl6, hB1⟩
    obtain ⟨B, cp, rfl⟩ := hI.len
    obtain ⟨W0, eW⟩ : ∃ W0, W0 = w1.alloc (.cells #[.int .i64 W, .slice B rows.length cp] 27) := ⟨_, rfl⟩
    have hx := Box2.new w1 (.int .i64 W) (.slice B rows.length cp) 27
    have hB0 : Below w1.heap.size w1 W0 := by rw [eW]; go_grown
    have hI0 := (hI.below hB0).more hB0.size
    have hW0 := hB1.trans (hB0.mono hB1.size)
    go_wp2_with fail
    rw [← eW] at hx ⊢
    clear eW
    obtain ⟨hxl, x0, x1⟩ := hx
    obtain ⟨Bx, eB⟩ : ∃ Bx, Bx = w1.heap.size := ⟨_, rfl⟩
    rw [← eB] at hxl x0 x1 ⊢
    clear eB hB0
    refine (MomentSquares_c W _ rows W0 hI0).mono ?_
    rintro e w2 ⟨rfl, hb2⟩
    have y0 := cell_below hb2 x0
    have y1 := cell_below hb2 x1
    have hI2 := (hI0.below hb2).more hb2.size
    have hW2 := hW0.trans (hb2.mono hW0.size)
    go_wp2_with fail
    refine (sMomentSquares_c W _ rows w2 hI2).mono ?_
    rintro e w3 ⟨rfl, hb3⟩
    have z0 := cell_below hb3 y0
    have z1 := cell_below hb3 y1
    have hI3 := (hI2.below hb3).more hb3.size
    have hW3 := hW2.trans (hb3.mono hW2.size)
    clear x0 x1 y0 y1 hI0 hI2 hW0 hW2 hb2 hb3
    obtain ⟨a, ea⟩ : ∃ a, a = val0 0 f_MomentSquares_1 W rows := ⟨_, rfl⟩
    obtain ⟨b, eb⟩ : ∃ b, b = val0 0 f_MomentSquares_2 W rows := ⟨_, rfl⟩
    rw [← ea, ← eb]
    have HA := Lib.hid ea
    have HB := Lib.hid eb
    clear ea eb
    cases hval : validB W rows with
    | false =>
      go_wp2
      go_returns
      exact ⟨rfl, hW3⟩
    | true =>
      obtain ⟨wd, ns, rfl, rfl, hi⟩ := validB_yes hval
      have hva : val0 0 f_MomentSquares_1 (wd : Int) (casts ns) = mom wd ns f_MomentSquares_1 := val0_yes hi
      have hvb : val0 0 f_MomentSquares_2 (wd : Int) (casts ns) = mom wd ns f_MomentSquares_2 := val0_yes hi
      have ha2 : a = mom wd ns f_MomentSquares_1 := HA.out.trans hva
      have hb2 : b = mom wd ns f_MomentSquares_2 := HB.out.trans hvb
      have HA2 := Lib.hid ha2
      have HB2 := Lib.hid hb2
      have h6 := hi.h6
      have w6 := hi.w6
      rw [length_casts] at z1 hI3 ⊢
      have HVL := Lib.hid hval
      clear hva hvb ha2 hb2 hval
      go_wp2_with fail
      refine (RowSums_c wd _ ns hi w3 hI3).mono ?_
      rintro e w4 ⟨g, rfl, hg, hr4, hb4⟩
      have u0 := cell_below hb4 z0
      have u1 := cell_below hb4 z1
      have hI4 := (hI3.below hb4).more hb4.size
      have hW4 := hW3.trans (hb4.mono hW3.size)
      go_wp2_with fail
      refine (ColSums_c wd _ ns hi w4 hI4).mono ?_
      rintro e w5 ⟨g', rfl, hg', hr5', hb5⟩
      have t0 := cell_below hb5 u0
      have t1 := cell_below hb5 u1
      have hI5 := (hI4.below hb5).more hb5.size
      have hr5 := hr4.below hb5 hr4.lt
      have hW5 := hW4.trans (hb5.mono hW4.size)
      have hrc : ∀ k, k < ns.length → w5.cell? ⟨g, k, none⟩ = some (.int .i64 ((rowSums wd ns).getD k 0)) := fun k hk => hr5.cell (by rw [rowSums_len]; exact hk)
      have hcc : ∀ k, k < wd → w5.cell? ⟨g', k, none⟩ = some (.int .i64 ((colSums wd ns).getD k 0)) := fun k hk => hr5'.cell (by simp [colSums]; exact hk)
      have HRC := Lib.hid hrc
      have HCC := Lib.hid hcc
      clear hrc hcc hr4 hr5 hr5' hI3 hI4 u0 u1 z0 z1 hb4 hb5
      go_wp2_with fail
      go_loop [10, 14] (fun s i => ∃ k : Nat, k ≤ ns.length ∧ i = .int .i64 k ∧ s = .int .i64 (sumN k fun i => ((i : Int) * i) * (rowSums wd ns).getD i 0)) (fun _ i => ns.length - (intOf i).toNat)
      case atStart => exact ⟨0, by omega, rfl, by simp [sumN]⟩
      case round =>
        obtain ⟨k, hk, rfl, rfl⟩ := hrel
        have hsb := sumN_bd (n := k) (f := fun i => ((i : Int) * i) * (rowSums wd ns).getD i 0) (c := 150) fun i hik => squares_pbd (squares_kbd (by omega)) (squares_rbd hi (by omega))
        obtain ⟨S, eS⟩ : ∃ S, S = sumN k fun i => ((i : Int) * i) * (rowSums wd ns).getD i 0 := ⟨_, rfl⟩
        rw [← eS] at hsb ⊢
        by_cases hkl : k < ns.length
        · have hcell := HRC.out k hkl
          have hrb := squares_rbd hi hkl
          have hst : (sumN (k + 1) fun i => ((i : Int) * i) * (rowSums wd ns).getD i 0) = S + ((k : Int) * k) * (rowSums wd ns).getD k 0 := by rw [eS]; rfl
          obtain ⟨r, er⟩ : ∃ r, r = (rowSums wd ns).getD k 0 := ⟨_, rfl⟩
          rw [← er] at hcell hrb hst
          have hp := squares_pbd (squares_kbd (k := k) (by omega)) hrb
          have hkb := squares_kbd (k := k) (by omega)
          have ew0 : IntKind.i64.wrap ((k : Int) * k) = (k : Int) * k := IntWalk.i64_in _ ⟨by omega, by omega⟩
          have ew1 : IntKind.i64.wrap (((k : Int) * k) * r) = ((k : Int) * k) * r := IntWalk.i64_in _ ⟨by omega, by omega⟩
          have ew2 : IntKind.i64.wrap (S + ((k : Int) * k) * r) = S + ((k : Int) * k) * r := IntWalk.i64_in _ ⟨by omega, by omega⟩
          have HST := Lib.hid hst
          clear er hst eS hp hkb
          go_wp2
          go_round
          case rel => exact ⟨k + 1, by omega, by go_num, by rw [HST.out]⟩
          case measure => simp [intOf]; omega
        · obtain rfl : k = ns.length := by omega
          have HSX := Lib.hid eS
          clear eS
          go_wp2_with fail
          go_loop [11, 15] (fun s i => ∃ k : Nat, k ≤ wd ∧ i = .int .i64 k ∧ s = .int .i64 (sumN k fun i => ((i : Int) * i) * (colSums wd ns).getD i 0)) (fun _ i => wd - (intOf i).toNat)
          case atStart => exact ⟨0, by omega, rfl, by simp [sumN]⟩
          case round =>
            obtain ⟨k, hk, rfl, rfl⟩ := hrel
            have hsb := sumN_bd (n := k) (f := fun i => ((i : Int) * i) * (colSums wd ns).getD i 0) (c := 150) fun i hik => squares_pbd (squares_kbd (by omega)) (squares_cbd hi (by omega))
            obtain ⟨S2, eS2⟩ : ∃ S2, S2 = sumN k fun i => ((i : Int) * i) * (colSums wd ns).getD i 0 := ⟨_, rfl⟩
            rw [← eS2] at hsb ⊢
            by_cases hkl : k < wd
            · have hcell := HCC.out k hkl
              have hrb := squares_cbd hi hkl
              have hst : (sumN (k + 1) fun i => ((i : Int) * i) * (colSums wd ns).getD i 0) = S2 + ((k : Int) * k) * (colSums wd ns).getD k 0 := by rw [eS2]; rfl
              obtain ⟨r, er⟩ : ∃ r, r = (colSums wd ns).getD k 0 := ⟨_, rfl⟩
              rw [← er] at hcell hrb hst
              have hp := squares_pbd (squares_kbd (k := k) (by omega)) hrb
              have hkb := squares_kbd (k := k) (by omega)
              have ew0 : IntKind.i64.wrap ((k : Int) * k) = (k : Int) * k := IntWalk.i64_in _ ⟨by omega, by omega⟩
              have ew1 : IntKind.i64.wrap (((k : Int) * k) * r) = ((k : Int) * k) * r := IntWalk.i64_in _ ⟨by omega, by omega⟩
              have ew2 : IntKind.i64.wrap (S2 + ((k : Int) * k) * r) = S2 + ((k : Int) * k) * r := IntWalk.i64_in _ ⟨by omega, by omega⟩
              have HST := Lib.hid hst
              clear er hst eS2 hp hkb
              go_wp2
              go_round
              case rel => exact ⟨k + 1, by omega, by go_num, by rw [HST.out]⟩
              case measure => simp [intOf]; omega
            · obtain rfl : k = wd := by omega
              have HSY := Lib.hid eS2
              clear eS2
              have e1 : S = a := by rw [HSX.out, HA2.out]; exact squares_rows
              have e2 : S2 = b := by rw [HSY.out, HB2.out]; exact squares_cols
              have g1 : mom k ns f_MomentSums_1 ≤ a := by
                rw [HA2.out]
                refine mom_le fun i j _ _ => ?_
                unfold f_MomentSums_1 f_MomentSquares_1
                have h := Nat.le_mul_self i
                have e : (i : Int) * i = ((i * i : Nat) : Int) := by simp
                omega
              have g2 : mom k ns f_MomentSums_2 ≤ b := by
                rw [HB2.out]
                refine mom_le fun i j _ _ => ?_
                unfold f_MomentSums_2 f_MomentSquares_2
                have h := Nat.le_mul_self j
                have e : (j : Int) * j = ((j * j : Nat) : Int) := by simp
                omega
              obtain ⟨x, ex⟩ : ∃ x, x = mom k ns f_MomentSums_1 := ⟨_, rfl⟩
              obtain ⟨y, ey⟩ : ∃ y, y = mom k ns f_MomentSums_2 := ⟨_, rfl⟩
              have hsx : val0 0 f_MomentSums_1 (k : Int) (casts ns) = x := by rw [val0_yes hi, ex]
              have hsy : val0 0 f_MomentSums_2 (k : Int) (casts ns) = y := by rw [val0_yes hi, ey]
              rw [← ex] at g1
              rw [← ey] at g2
              have HXY := Lib.hid (And.intro hsx hsy)
              clear ex ey hsx hsy
              subst e1 e2
              go_wp2_with fail
              refine (MomentSums_c (k : Int) _ _ w5 hI5).mono ?_
              rintro e w6 ⟨rfl, hb6⟩
              rw [HXY.out.1, HXY.out.2, HVL.out]
              go_wp2
              go_returns
              exact ⟨rb (by simp [g1, g2]), hW5.trans (hb6.mono hW5.size)⟩
end Go.Proofs.Ytlckhakgmbjdbaa
