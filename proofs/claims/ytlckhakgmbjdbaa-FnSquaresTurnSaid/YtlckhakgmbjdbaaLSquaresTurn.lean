/- The law that squares turn: it returns true at whatever code. Conditions: the code's slice can be read. -/
import Derived.Test.YtlckhakgmbjdbaaPD
import Derived.Test.YtlckhakgmbjdbaaK11
import Derived.Test.YtlckhakgmbjdbaaKU
namespace Go.Proofs.Ytlckhakgmbjdbaa
open Go.RowKit
set_option maxHeartbeats 2000000 in
theorem squaresTurn_walk (A : Option Addr) (len cap : Nat) (hlc : len ≤ cap) (w : World) (hc : Code8 w w.heap.size A len) :
    Calls Try.prog 6 #[.slice A len cap] w fun e w' => e = .returned (.bool true) ∧ Below w.heap.size w w' := by
  by_cases hbig : 1048576 < len
  · go_enter Try.func6, Try.ntmps6
    go_wp2
    go_returns
    exact ⟨rfl, Below.refl _ _⟩
  · go_enter Try.func6, Try.ntmps6
    go_wp2_with fail
    refine (DrawMomentSquares_c A len cap hlc w hc).mono ?_
    rintro e w1 ⟨W, v, rows, rfl, hI, hl6, hB1⟩
    obtain ⟨B, cp, rfl⟩ := hI.len
    obtain ⟨W0, eW⟩ : ∃ W0, W0 = w1.alloc (.cells #[.int .i64 W, .slice B rows.length cp] 27) := ⟨_, rfl⟩
    have hx := Box2.new w1 (.int .i64 W) (.slice B rows.length cp) 27
    have hB0 : Below w1.heap.size w1 W0 := by rw [eW]; go_grown
    have hI0 := (hI.below hB0).more hB0.size
    have hW0 := hB1.trans (hB0.mono hB1.size)
    go_wp2_with fail
    rw [← eW] at hx ⊢
    clear eW
    obtain ⟨hxl, x0, x1⟩ := hx
    obtain ⟨Bx, eB⟩ : ∃ Bx, Bx = w1.heap.size := ⟨_, rfl⟩
    rw [← eB] at hxl x0 x1 ⊢
    clear eB hB0
    refine (MomentSquares_c W _ rows W0 hI0).mono ?_
    rintro e w2 ⟨rfl, hb2⟩
    have y0 := cell_below hb2 x0
    have y1 := cell_below hb2 x1
    have hI2 := (hI0.below hb2).more hb2.size
    have hW2 := hW0.trans (hb2.mono hW0.size)
    go_wp2_with fail
    refine (sMomentSquares_c W _ rows w2 hI2).mono ?_
    rintro e w3 ⟨rfl, hb3⟩
    have z0 := cell_below hb3 y0
    have z1 := cell_below hb3 y1
    have hI3 := (hI2.below hb3).more hb3.size
    have hW3 := hW2.trans (hb3.mono hW2.size)
    clear x0 x1 y0 y1 hI0 hI2 hW0 hW2 hb2 hb3
    obtain ⟨a, ea⟩ : ∃ a, a = val0 0 f_MomentSquares_1 W rows := ⟨_, rfl⟩
    obtain ⟨b, eb⟩ : ∃ b, b = val0 0 f_MomentSquares_2 W rows := ⟨_, rfl⟩
    rw [← ea, ← eb]
    have HA := Lib.hid ea
    have HB := Lib.hid eb
    clear ea eb
    cases hval : validB W rows with
    | false =>
      go_wp2
      go_returns
      exact ⟨rfl, hW3⟩
    | true =>
      obtain ⟨wd, ns, rfl, rfl, hi⟩ := validB_yes hval
      have hva : val0 0 f_MomentSquares_1 (wd : Int) (casts ns) = mom wd ns f_MomentSquares_1 := val0_yes hi
      have hvb : val0 0 f_MomentSquares_2 (wd : Int) (casts ns) = mom wd ns f_MomentSquares_2 := val0_yes hi
      have hta : val0 0 f_MomentSquares_1 (ns.length : Int) (casts (turnL wd ns)) = b := by
        rw [val0_yes (vimg_turn hi), mom_turn, HB.out, hvb]
        rfl
      have htb : val0 0 f_MomentSquares_2 (ns.length : Int) (casts (turnL wd ns)) = a := by
        rw [val0_yes (vimg_turn hi), mom_turn, HA.out, hva]
        rfl
      have htv : validB (ns.length : Int) (casts (turnL wd ns)) = true := validB_of (vimg_turn hi)
      have htl : (turnL wd ns).length = wd := by rw [turnL, length_mk]
      rw [length_casts] at z1 hI3 ⊢
      have HT := Lib.hid (And.intro hta (And.intro htb htv))
      clear hva hvb hta htb htv hval
      go_wp2_with fail
      refine (ImageTurn_c wd _ ns hi w3 hI3).mono ?_
      rintro e w4 ⟨g, c, rfl, hg, hr, hb4⟩
      have hW4 := hW3.trans (hb4.mono hW3.size)
      have hI4 := (hr.alloc (.cells #[.int .i64 (ns.length : Int), .slice (some ⟨g, 0, none⟩) wd c] 27)).ints (Row.lt (hr.alloc (.cells #[.int .i64 (ns.length : Int), .slice (some ⟨g, 0, none⟩) wd c] 27))) c
      rw [length_casts, htl] at hI4
      have hW5 : Below w.heap.size w (w4.alloc (.cells #[.int .i64 (ns.length : Int), .slice (some ⟨g, 0, none⟩) wd c] 27)) := hW4.alloc hW4.size _
      have HW5 := Lib.hid hW5
      clear hW5
      go_wp2_with fail
      refine (MomentSquares_c (ns.length : Int) _ _ _ hI4).mono ?_
      rintro e w5 ⟨rfl, hb5⟩
      rw [HT.out.1, HT.out.2.1, HT.out.2.2]
      go_wp2
      go_returns
      exact ⟨rfl, HW5.out.trans (hb5.mono HW5.out.size)⟩
end Go.Proofs.Ytlckhakgmbjdbaa
