/- The law that squares spread: it returns true at whatever code. Conditions: the code's slice can be read. -/
import Derived.Test.YtlckhakgmbjdbaaPD
import Derived.Test.YtlckhakgmbjdbaaK11
import Derived.Test.YtlckhakgmbjdbaaKW
import Derived.Test.YtlckhakgmbjdbaaLCrossTurn
namespace Go.Proofs.Ytlckhakgmbjdbaa
open Go.RowKit
set_option maxHeartbeats 2000000 in
theorem squaresSpread_walk (A : Option Addr) (len cap : Nat) (hlc : len ≤ cap) (w : World) (hc : Code8 w w.heap.size A len) :
    Calls Try.prog 9 #[.slice A len cap] w fun e w' => e = .returned (.bool true) ∧ Below w.heap.size w w' := by
  by_cases hbig : 1048576 < len
  · go_enter Try.func9, Try.ntmps9
    go_wp2
    go_returns
    exact ⟨rfl, Below.refl _ _⟩
  · go_enter Try.func9, Try.ntmps9
    go_wp2_with fail
    refine (DrawMomentSquares_c A len cap hlc w hc).mono ?_
    rintro e w1 ⟨W, v, rows, rfl, hI, hl6, hB1⟩
    obtain ⟨B, cp, rfl⟩ := hI.len
    obtain ⟨W0, eW⟩ : ∃ W0, W0 = w1.alloc (.cells #[.int .i64 W, .slice B rows.length cp] 27) := ⟨_, rfl⟩
    have hx := Box2.new w1 (.int .i64 W) (.slice B rows.length cp) 27
    have hB0 : Below w1.heap.size w1 W0 := by rw [eW]; go_grown
    have hI0 := (hI.below hB0).more hB0.size
    have hW0 := hB1.trans (hB0.mono hB1.size)
    go_wp2_with fail
    rw [← eW] at hx ⊢
    clear eW
    obtain ⟨hxl, x0, x1⟩ := hx
    obtain ⟨Bx, eB⟩ : ∃ Bx, Bx = w1.heap.size := ⟨_, rfl⟩
    rw [← eB] at hxl x0 x1 ⊢
    clear eB hB0
    refine (MomentSquares_c W _ rows W0 hI0).mono ?_
    rintro e w2 ⟨rfl, hb2⟩
    have y0 := cell_below hb2 x0
    have y1 := cell_below hb2 x1
    have hI2 := (hI0.below hb2).more hb2.size
    have hW2 := hW0.trans (hb2.mono hW0.size)
    go_wp2_with fail
    refine (sMomentSquares_c W _ rows w2 hI2).mono ?_
    rintro e w3 ⟨rfl, hb3⟩
    have z0 := cell_below hb3 y0
    have z1 := cell_below hb3 y1
    have hI3 := (hI2.below hb3).more hb3.size
    have hW3 := hW2.trans (hb3.mono hW2.size)
    clear x0 x1 y0 y1 hI0 hI2 hW0 hW2 hb2 hb3
    obtain ⟨a, ea⟩ : ∃ a, a = val0 0 f_MomentSquares_1 W rows := ⟨_, rfl⟩
    obtain ⟨b, eb⟩ : ∃ b, b = val0 0 f_MomentSquares_2 W rows := ⟨_, rfl⟩
    rw [← ea, ← eb]
    have HA := Lib.hid ea
    have HB := Lib.hid eb
    clear ea eb
    cases hval : validB W rows with
    | false =>
      go_wp2
      go_returns
      exact ⟨rfl, hW3⟩
    | true =>
      obtain ⟨wd, ns, rfl, rfl, hi⟩ := validB_yes hval
      have hva : val0 0 f_MomentSquares_1 (wd : Int) (casts ns) = mom wd ns f_MomentSquares_1 := val0_yes hi
      have hvb : val0 0 f_MomentSquares_2 (wd : Int) (casts ns) = mom wd ns f_MomentSquares_2 := val0_yes hi
      have hab := mom_bd hi (f := f_MomentSquares_1) bd_MomentSquares_1
      have hbb := mom_bd hi (f := f_MomentSquares_2) bd_MomentSquares_2
      have hxb := mom_bd hi (f := f_MomentSums_1) bd_MomentSums_1
      have hyb := mom_bd hi (f := f_MomentSums_2) bd_MomentSums_2
      have hnb := mom_bd hi (f := one) one_bd
      have hs1 := (spread_mom wd ns f_MomentSums_1).1
      have hs2 := (spread_mom wd ns f_MomentSums_2).1
      rw [show (mom wd ns fun i j => f_MomentSums_1 i j * f_MomentSums_1 i j) = mom wd ns f_MomentSquares_1 from rfl, show many wd ns = mom wd ns one from rfl] at hs1
      rw [show (mom wd ns fun i j => f_MomentSums_2 i j * f_MomentSums_2 i j) = mom wd ns f_MomentSquares_2 from rfl, show many wd ns = mom wd ns one from rfl] at hs2
      have ha2 : a = mom wd ns f_MomentSquares_1 := HA.out.trans hva
      have hb2 : b = mom wd ns f_MomentSquares_2 := HB.out.trans hvb
      rw [← ha2] at hab hs1
      rw [← hb2] at hbb hs2
      obtain ⟨x, ex⟩ : ∃ x, x = mom wd ns f_MomentSums_1 := ⟨_, rfl⟩
      obtain ⟨y, ey⟩ : ∃ y, y = mom wd ns f_MomentSums_2 := ⟨_, rfl⟩
      obtain ⟨n, en⟩ : ∃ n, n = mom wd ns one := ⟨_, rfl⟩
      have hsx : val0 0 f_MomentSums_1 (wd : Int) (casts ns) = x := by rw [val0_yes hi, ex]
      have hsy : val0 0 f_MomentSums_2 (wd : Int) (casts ns) = y := by rw [val0_yes hi, ey]
      have hsn : val0 (-1) one (wd : Int) (casts ns) = n := by rw [val0_yes hi, en]
      rw [← ex] at hxb hs1
      rw [← ey] at hyb hs2
      rw [← en] at hnb hs1 hs2
      rw [length_casts] at z1 hI3 ⊢
      have HS := Lib.hid (And.intro hsx (And.intro hsy (And.intro hsn hval)))
      have pb : ∀ p q : Int, 0 ≤ p ∧ p ≤ 1050 → 0 ≤ q ∧ q ≤ 1050 → 0 ≤ p * q ∧ p * q ≤ 1050 * 1050 := fun p q h1 h2 => ⟨Int.mul_nonneg h1.1 h2.1, Int.mul_le_mul h1.2 h2.2 h2.1 (by omega)⟩
      have p1 := pb a n hab hnb
      have p2 := pb x x hxb hxb
      have p3 := pb b n hbb hnb
      have p4 := pb y y hyb hyb
      have e1 : IntKind.i64.wrap (a * n) = a * n := IntWalk.i64_in _ ⟨by omega, by omega⟩
      have e2 : IntKind.i64.wrap (x * x) = x * x := IntWalk.i64_in _ ⟨by omega, by omega⟩
      have e3 : IntKind.i64.wrap (b * n) = b * n := IntWalk.i64_in _ ⟨by omega, by omega⟩
      have e4 : IntKind.i64.wrap (y * y) = y * y := IntWalk.i64_in _ ⟨by omega, by omega⟩
      have d1 : decide (x * x ≤ a * n) = true := by simpa using hs1
      have d2 : decide (y * y ≤ b * n) = true := by simpa using hs2
      clear hva hvb ha2 hb2 ex ey en hsx hsy hsn hval pb
      go_wp2_with fail
      refine (MomentSums_c (wd : Int) _ _ w3 hI3).mono ?_
      rintro e w4 ⟨rfl, hb4⟩
      rw [HS.out.1, HS.out.2.1, HS.out.2.2.2]
      have u0 := cell_below hb4 z0
      have u1 := cell_below hb4 z1
      have hI4 := (hI3.below hb4).more hb4.size
      have hW4 := hW3.trans (hb4.mono hW3.size)
      go_wp2_with fail
      refine (ImageMany_c (wd : Int) _ _ w4 hI4).mono ?_
      rintro e w5 ⟨rfl, hb5⟩
      rw [HS.out.2.2.1]
      go_wp2
      go_returns
      exact ⟨rb (by simp [hs1, hs2]), hW4.trans (hb5.mono hW4.size)⟩
end Go.Proofs.Ytlckhakgmbjdbaa
