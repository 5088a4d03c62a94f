/- The law that moments turn: it returns true at whatever code. Conditions: the code's slice can be read. -/
import Derived.Test.YtlckhakgmbjdbaaLCrossTurn
import Derived.Test.YtlckhakgmbjdbaaKW
namespace Go.Proofs.Ytlckhakgmbjdbaa
open Go.RowKit
theorem sums_turn1 {w : Nat} {ns : List Nat} : mom ns.length (turnL w ns) f_MomentSums_1 = mom w ns f_MomentSums_2 := by
  rw [mom_turn]
  rfl
theorem sums_turn2 {w : Nat} {ns : List Nat} : mom ns.length (turnL w ns) f_MomentSums_2 = mom w ns f_MomentSums_1 := by
  rw [mom_turn]
  rfl
theorem sums_mir1 {w : Nat} {ns : List Nat} : mom w (mirL w ns) f_MomentSums_1 = mom w ns f_MomentSums_1 := by
  rw [mom_mir]
  rfl
theorem sums_mir2 {w : Nat} {ns : List Nat} : mom w (mirL w ns) f_MomentSums_2 = mom w ns one * ((w : Int) - 1) - mom w ns f_MomentSums_2 := by
  rw [mom_mir, Int.mul_comm, ← mom_mul]
  have h := mom_add w ns (fun i j => f_MomentSums_2 i (w - 1 - j)) f_MomentSums_2
  have h2 : mom w ns (fun i j => f_MomentSums_2 i (w - 1 - j) + f_MomentSums_2 i j) = mom w ns fun i j => ((w : Int) - 1) * one i j := mom_congr fun i j _ hj => by
    unfold f_MomentSums_2 one
    omega
  omega
set_option maxHeartbeats 2000000 in
theorem momentsTurn_walk (A : Option Addr) (len cap : Nat) (hlc : len ≤ cap) (w : World) (hc : Code8 w w.heap.size A len) :
    Calls Try.prog 12 #[.slice A len cap] w fun e w' => e = .returned (.bool true) ∧ Below w.heap.size w w' := by
  by_cases hbig : 1048576 < len
  · go_enter Try.func12, Try.ntmps12
    go_wp2
    go_returns
    exact ⟨rfl, Below.refl _ _⟩
  · go_enter Try.func12, Try.ntmps12
    go_wp2_with fail
    refine (DrawMomentSums_c A len cap hlc w hc).mono ?_
    rintro e w1 ⟨W, v, rows, rfl, hI, hl6, hB1⟩
    obtain ⟨B, cp, rfl⟩ := hI.len
    obtain ⟨W0, eW⟩ : ∃ W0, W0 = w1.alloc (.cells #[.int .i64 W, .slice B rows.length cp] 27) := ⟨_, rfl⟩
    have hx := Box2.new w1 (.int .i64 W) (.slice B rows.length cp) 27
    have hB0 : Below w1.heap.size w1 W0 := by rw [eW]; go_grown
    have hI0 := (hI.below hB0).more hB0.size
    have hW0 := hB1.trans (hB0.mono hB1.size)
    go_wp2_with fail
    rw [← eW] at hx ⊢
    clear eW
    obtain ⟨hxl, x0, x1⟩ := hx
    obtain ⟨Bx, eB⟩ : ∃ Bx, Bx = w1.heap.size := ⟨_, rfl⟩
    rw [← eB] at hxl x0 x1 ⊢
    clear eB hB0
    refine (MomentSums_c W _ rows W0 hI0).mono ?_
    rintro e w2 ⟨rfl, hb2⟩
    have y0 := cell_below hb2 x0
    have y1 := cell_below hb2 x1
    have hI2 := (hI0.below hb2).more hb2.size
    have hW2 := hW0.trans (hb2.mono hW0.size)
    go_wp2_with fail
    refine (sMomentSums_c W _ rows w2 hI2).mono ?_
    rintro e w3 ⟨rfl, hb3⟩
    have z0 := cell_below hb3 y0
    have z1 := cell_below hb3 y1
    have hI3 := (hI2.below hb3).more hb3.size
    have hW3 := hW2.trans (hb3.mono hW2.size)
    clear x0 x1 y0 y1 hI0 hI2 hW0 hW2 hb2 hb3
    obtain ⟨a, ea⟩ : ∃ a, a = val0 0 f_MomentSums_1 W rows := ⟨_, rfl⟩
    obtain ⟨b, eb⟩ : ∃ b, b = val0 0 f_MomentSums_2 W rows := ⟨_, rfl⟩
    rw [← ea, ← eb]
    have HA := Lib.hid ea
    have HB := Lib.hid eb
    clear ea eb
    cases hval : validB W rows with
    | false =>
      go_wp2
      go_returns
      exact ⟨rfl, hW3⟩
    | true =>
      obtain ⟨wd, ns, rfl, rfl, hi⟩ := validB_yes hval
      have hva : val0 0 f_MomentSums_1 (wd : Int) (casts ns) = mom wd ns f_MomentSums_1 := val0_yes hi
      have hvb : val0 0 f_MomentSums_2 (wd : Int) (casts ns) = mom wd ns f_MomentSums_2 := val0_yes hi
      have hnb := mom_bd hi (f := one) one_bd
      have hbb := mom_bd hi (f := f_MomentSums_2) bd_MomentSums_2
      obtain ⟨n, en⟩ : ∃ n, n = mom wd ns one := ⟨_, rfl⟩
      have hb2 : b = mom wd ns f_MomentSums_2 := HB.out.trans hvb
      have hta : val0 0 f_MomentSums_1 (ns.length : Int) (casts (turnL wd ns)) = b := by rw [val0_yes (vimg_turn hi), sums_turn1, HB.out, hvb]
      have htb : val0 0 f_MomentSums_2 (ns.length : Int) (casts (turnL wd ns)) = a := by rw [val0_yes (vimg_turn hi), sums_turn2, HA.out, hva]
      have htv : validB (ns.length : Int) (casts (turnL wd ns)) = true := validB_of (vimg_turn hi)
      have hma : val0 0 f_MomentSums_1 (wd : Int) (casts (mirL wd ns)) = a := by rw [val0_yes (vimg_mir hi), sums_mir1, HA.out, hva]
      have hmb : val0 0 f_MomentSums_2 (wd : Int) (casts (mirL wd ns)) = n * ((wd : Int) - 1) - b := by rw [val0_yes (vimg_mir hi), sums_mir2, HB.out, hvb, en]
      have hmv : validB (wd : Int) (casts (mirL wd ns)) = true := validB_of (vimg_mir hi)
      have hsn : val0 (-1) one (wd : Int) (casts ns) = n := by rw [val0_yes hi, en]
      rw [← en] at hnb
      rw [← hb2] at hbb
      have htl : (turnL wd ns).length = wd := by rw [turnL, length_mk]
      have hml : (mirL wd ns).length = ns.length := by rw [mirL, length_mk]
      rw [length_casts] at z1 hI3 ⊢
      have HT := Lib.hid (And.intro hta (And.intro htb htv))
      have HM := Lib.hid (And.intro hma (And.intro hmb hmv))
      have HN := Lib.hid hsn
      have hw1 := hi.w1
      have hw6 := hi.w6
      have hp0 : 0 ≤ n * ((wd : Int) - 1) := Int.mul_nonneg hnb.1 (by omega)
      have hp1 : n * ((wd : Int) - 1) ≤ 1050 * 5 := Int.mul_le_mul hnb.2 (by omega) (by omega) (by omega)
      clear hva hvb hta htb htv hma hmb hmv hsn en hb2 hval
      go_wp2_with fail
      refine (ImageTurn_c wd _ ns hi w3 hI3).mono ?_
      rintro e w4 ⟨g, c, rfl, hg, hr, hb4⟩
      have hW4 := hW3.trans (hb4.mono hW3.size)
      have u0 := cell_below hb4 z0
      have u1 := cell_below hb4 z1
      have hI4 := (hI3.below hb4).more hb4.size
      obtain ⟨W5, eW⟩ : ∃ W5, W5 = w4.alloc (.cells #[.int .i64 (ns.length : Int), .slice (some ⟨g, 0, none⟩) wd c] 27) := ⟨_, rfl⟩
      have hB5 : Below w4.heap.size w4 W5 := by rw [eW]; go_grown
      have v0 := cell_below hB5 u0
      have v1 := cell_below hB5 u1
      have hI5 := (hI4.below hB5).more hB5.size
      have hr5 := hr.below hB5 hr.lt
      have hW5 := hW4.trans (hB5.mono hW4.size)
      have j5 := hr5.ints hr5.lt c
      rw [length_casts, htl] at j5
      clear z0 z1 u0 u1 hI3 hI4 hW3 hW4 hb4 hr hr5 hB5
      have HE := Lib.hid eW
      clear eW
      go_wp2_with fail
      have eW := HE.out
      rw [← eW]
      clear eW HE
      refine (MomentSums_c (ns.length : Int) _ _ W5 j5).mono ?_
      rintro e w6 ⟨rfl, hb6⟩
      rw [HT.out.1, HT.out.2.1, HT.out.2.2]
      have u0 := cell_below hb6 v0
      have u1 := cell_below hb6 v1
      have hI6 := (hI5.below hb6).more hb6.size
      have hW6 := hW5.trans (hb6.mono hW5.size)
      clear v0 v1 hI5 hW5 hb6 j5
      go_wp2_with fail
      refine (ImageMirror_c wd _ ns hi w6 hI6).mono ?_
      rintro e w7 ⟨g', c', rfl, hg', hr', hb7⟩
      have hW7 := hW6.trans (hb7.mono hW6.size)
      have v0 := cell_below hb7 u0
      have v1 := cell_below hb7 u1
      have hI7 := (hI6.below hb7).more hb7.size
      obtain ⟨W8, eW⟩ : ∃ W8, W8 = w7.alloc (.cells #[.int .i64 (wd : Int), .slice (some ⟨g', 0, none⟩) ns.length c'] 27) := ⟨_, rfl⟩
      have hB8 : Below w7.heap.size w7 W8 := by rw [eW]; go_grown
      have s0 := cell_below hB8 v0
      have s1 := cell_below hB8 v1
      have hI8 := (hI7.below hB8).more hB8.size
      have hr8 := hr'.below hB8 hr'.lt
      have hW8 := hW7.trans (hB8.mono hW7.size)
      have j8 := hr8.ints hr8.lt c'
      rw [length_casts, hml] at j8
      clear u0 u1 v0 v1 hI6 hI7 hW6 hW7 hb7 hr' hr8 hB8
      have HE := Lib.hid eW
      clear eW
      go_wp2_with fail
      have eW := HE.out
      rw [← eW]
      clear eW HE
      refine (MomentSums_c (wd : Int) _ _ W8 j8).mono ?_
      rintro e w9 ⟨rfl, hb9⟩
      rw [HM.out.1, HM.out.2.1, HM.out.2.2]
      have k0 := cell_below hb9 s0
      have k1 := cell_below hb9 s1
      have hI9 := (hI8.below hb9).more hb9.size
      have hW9 := hW8.trans (hb9.mono hW8.size)
      have HA2 := fun d os => ImageMany_c (wd : Int) _ _ _ ((hI9.rg (Nat.le_refl _) d os).more (rg_size _ d os))
      rw [HN.out] at HA2
      have HW9 := Lib.hid hW9
      have q0 := cell_regrown k0
      have q1 := cell_regrown k1
      clear hW9 hW8 hI8 hI9 j8 hb9 s0 s1 k0 k1
      go_wp2_with fail
      have e1 : IntKind.i64.wrap ((wd : Int) - 1) = (wd : Int) - 1 := IntWalk.i64_in _ ⟨by omega, by omega⟩
      have e2 : IntKind.i64.wrap (n * ((wd : Int) - 1)) = n * ((wd : Int) - 1) := IntWalk.i64_in _ ⟨by omega, by omega⟩
      have e3 : IntKind.i64.wrap (n * ((wd : Int) - 1) - b) = n * ((wd : Int) - 1) - b := IntWalk.i64_in _ ⟨by omega, by omega⟩
      refine wp_region_quiet_below (by kernel_rfl) (by kernel_rfl) ?_
      repeat (quiet_step ((go_at_call 30; with_reducible exact Calls.rg (HA2 _ _))))
      refine wpQuiet_nil ?_
      intro _ hw0
      obtain ⟨⟨dq, osq⟩, hw1⟩ := hw0
      subst hw1
      have hq := below_regrown w9 dq osq
      generalize Go.Sort.grow (redrawn w9 dq) osq = w10 at hq ⊢
      go_wp2
      go_returns
      exact ⟨rfl, HW9.out.trans (hq.mono HW9.out.size)⟩
end Go.Proofs.Ytlckhakgmbjdbaa
