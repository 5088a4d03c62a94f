/- The law that products turn: it returns true at whatever code. Conditions: the code's slice can be read. -/
import Derived.Test.YtlckhakgmbjdbaaPD
import Derived.Test.YtlckhakgmbjdbaaK11
import Derived.Test.YtlckhakgmbjdbaaKU
import Derived.Test.YtlckhakgmbjdbaaKV
namespace Go.Proofs.Ytlckhakgmbjdbaa
open Go.RowKit
theorem mom_bd {w : Nat} {ns : List Nat} (hi : VImg w ns) {f : Nat → Nat → Int} (hf : ∀ i j, i < 6 → j < 6 → 0 ≤ f i j ∧ f i j ≤ 25) : 0 ≤ mom w ns f ∧ mom w ns f ≤ 1050 := by
  have := part_bd (ns := ns) (w := w) hf (k := ns.length) (m := 0) hi.h6 hi.w6 (by omega) (.inr rfl)
  rwa [part_all] at this
theorem cross_turn {w : Nat} {ns : List Nat} : mom ns.length (turnL w ns) f_MomentCross_1 = mom w ns f_MomentCross_1 := by
  rw [mom_turn]
  exact mom_congr fun i j _ _ => Int.mul_comm _ _
theorem cross_mir {w : Nat} {ns : List Nat} : mom w (mirL w ns) f_MomentCross_1 = ((w : Int) - 1) * mom w ns f_MomentSums_1 - mom w ns f_MomentCross_1 := by
  rw [mom_mir, ← mom_mul]
  have h := mom_add w ns (fun i j => f_MomentCross_1 i (w - 1 - j)) f_MomentCross_1
  have h2 : mom w ns (fun i j => f_MomentCross_1 i (w - 1 - j) + f_MomentCross_1 i j) = mom w ns fun i j => ((w : Int) - 1) * f_MomentSums_1 i j := mom_congr fun i j _ hj => by
    unfold f_MomentCross_1 f_MomentSums_1
    rw [← Int.mul_add, Int.mul_comm, show (((w - 1 - j : Nat)) : Int) + (j : Int) = (w : Int) - 1 by omega]
  omega
set_option maxHeartbeats 4000000 in
theorem crossTurn_walk (A : Option Addr) (len cap : Nat) (hlc : len ≤ cap) (w : World) (hc : Code8 w w.heap.size A len) :
    Calls Try.prog 7 #[.slice A len cap] w fun e w' => e = .returned (.bool true) ∧ Below w.heap.size w w' := by
  by_cases hbig : 1048576 < len
  · go_enter Try.func7, Try.ntmps7
    go_wp2
    go_returns
    exact ⟨rfl, Below.refl _ _⟩
  · go_enter Try.func7, Try.ntmps7
    go_wp2_with fail
    refine (DrawMomentCross_c A len cap hlc w hc).mono ?_
    rintro e w1 ⟨W, v, rows, rfl, hI, hl6, hB1⟩
    obtain ⟨B, cp, rfl⟩ := hI.len
    obtain ⟨W0, eW⟩ : ∃ W0, W0 = w1.alloc (.cells #[.int .i64 W, .slice B rows.length cp] 27) := ⟨_, rfl⟩
    have hx := Box2.new w1 (.int .i64 W) (.slice B rows.length cp) 27
    have hB0 : Below w1.heap.size w1 W0 := by rw [eW]; go_grown
    have hI0 := (hI.below hB0).more hB0.size
    have hW0 := hB1.trans (hB0.mono hB1.size)
    go_wp2_with fail
    rw [← eW] at hx ⊢
    clear eW
    obtain ⟨hxl, x0, x1⟩ := hx
    obtain ⟨Bx, eB⟩ : ∃ Bx, Bx = w1.heap.size := ⟨_, rfl⟩
    rw [← eB] at hxl x0 x1 ⊢
    clear eB hB0
    refine (MomentCross_c W _ rows W0 hI0).mono ?_
    rintro e w2 ⟨rfl, hb2⟩
    have y0 := cell_below hb2 x0
    have y1 := cell_below hb2 x1
    have hI2 := (hI0.below hb2).more hb2.size
    have hW2 := hW0.trans (hb2.mono hW0.size)
    go_wp2_with fail
    refine (sMomentCross_c W _ rows w2 hI2).mono ?_
    rintro e w3 ⟨rfl, hb3⟩
    have z0 := cell_below hb3 y0
    have z1 := cell_below hb3 y1
    have hI3 := (hI2.below hb3).more hb3.size
    have hW3 := hW2.trans (hb3.mono hW2.size)
    clear x0 x1 y0 y1 hI0 hI2 hW0 hW2 hb2 hb3
    cases hval : validB W rows with
    | false =>
      rw [val0_no hval]
      go_wp2
      go_returns
      exact ⟨rfl, hW3⟩
    | true =>
      obtain ⟨wd, ns, rfl, rfl, hi⟩ := validB_yes hval
      have hva : val0 (-1) f_MomentCross_1 (wd : Int) (casts ns) = mom wd ns f_MomentCross_1 := val0_yes hi
      have hab := mom_bd hi (f := f_MomentCross_1) bd_MomentCross_1
      have hxb := mom_bd hi (f := f_MomentSums_1) bd_MomentSums_1
      obtain ⟨a, ea⟩ : ∃ a, a = mom wd ns f_MomentCross_1 := ⟨_, rfl⟩
      obtain ⟨x, ex⟩ : ∃ x, x = mom wd ns f_MomentSums_1 := ⟨_, rfl⟩
      have hta : val0 (-1) f_MomentCross_1 (ns.length : Int) (casts (turnL wd ns)) = a := by
        rw [val0_yes (vimg_turn hi), cross_turn, ea]
      have htb : val0 (-1) f_MomentCross_1 (wd : Int) (casts (mirL wd ns)) = ((wd : Int) - 1) * x - a := by
        rw [val0_yes (vimg_mir hi), cross_mir, ea, ex]
      have hsx : val0 0 f_MomentSums_1 (wd : Int) (casts ns) = x := by rw [val0_yes hi, ex]
      rw [hva, ← ea]
      rw [← ea] at hab
      rw [← ex] at hxb
      have htl : (turnL wd ns).length = wd := by rw [turnL, length_mk]
      have hml : (mirL wd ns).length = ns.length := by rw [mirL, length_mk]
      rw [length_casts] at z1 hI3 ⊢
      have HT := Lib.hid (And.intro hta (And.intro htb (And.intro hsx hval)))
      have hw1 := hi.w1
      have hw6 := hi.w6
      have hp0 : 0 ≤ ((wd : Int) - 1) * x := Int.mul_nonneg (by omega) hxb.1
      have hp1 : ((wd : Int) - 1) * x ≤ 5 * 1050 := Int.mul_le_mul (by omega) hxb.2 hxb.1 (by omega)
      clear hva hta htb hsx hval ea ex
      have hab0 := hab.1
      go_wp2_with fail
      refine (ImageTurn_c wd _ ns hi w3 hI3).mono ?_
      rintro e w4 ⟨g, c, rfl, hg, hr, hb4⟩
      have hW4 := hW3.trans (hb4.mono hW3.size)
      have u0 := cell_below hb4 z0
      have u1 := cell_below hb4 z1
      have hI4 := (hI3.below hb4).more hb4.size
      obtain ⟨W5, eW⟩ : ∃ W5, W5 = w4.alloc (.cells #[.int .i64 (ns.length : Int), .slice (some ⟨g, 0, none⟩) wd c] 27) := ⟨_, rfl⟩
      have hx := Box2.new w4 (.int .i64 (ns.length : Int)) (.slice (some ⟨g, 0, none⟩) wd c) 27
      have hB5 : Below w4.heap.size w4 W5 := by rw [eW]; go_grown
      have v0 := cell_below hB5 u0
      have v1 := cell_below hB5 u1
      have v0r := v0
      have v1r := v1
      rw [eW] at v0r v1r
      have hI5 := (hI4.below hB5).more hB5.size
      have hr5 := hr.below hB5 hr.lt
      have hW5 := hW4.trans (hB5.mono hW4.size)
      have HE := Lib.hid eW
      have HV := Lib.hid (And.intro v0 v1)
      have HX := Lib.hid hx
      clear eW v0 v1 hx z0 z1 hI3 hI4 hW3 hW4 hb4
      go_wp2_with fail
      have eW := HE.out
      have hx := HX.out
      obtain ⟨v0, v1⟩ := HV.out
      clear u0 u1 v0r v1r
      rw [← eW] at hx ⊢
      obtain ⟨hxl5, t0, t1⟩ := hx
      obtain ⟨Bt, eB⟩ : ∃ Bt, Bt = w4.heap.size := ⟨_, rfl⟩
      rw [← eB] at hxl5 t0 t1 ⊢
      clear eB eW HE HX hB5
      refine (ImageMirror_c wd _ ns hi W5 hI5).mono ?_
      rintro e w6 ⟨g', c', rfl, hg', hr', hb6⟩
      have hW6 := hW5.trans (hb6.mono hW5.size)
      have u0 := cell_below hb6 v0
      have u1 := cell_below hb6 v1
      have s0 := cell_below hb6 t0
      have s1 := cell_below hb6 t1
      have hI6 := (hI5.below hb6).more hb6.size
      have hr6 := hr5.below hb6 hr5.lt
      obtain ⟨W7, eW⟩ : ∃ W7, W7 = w6.alloc (.cells #[.int .i64 (wd : Int), .slice (some ⟨g', 0, none⟩) ns.length c'] 27) := ⟨_, rfl⟩
      have hx := Box2.new w6 (.int .i64 (wd : Int)) (.slice (some ⟨g', 0, none⟩) ns.length c') 27
      have hB7 : Below w6.heap.size w6 W7 := by rw [eW]; go_grown
      have k0 := cell_below hB7 u0
      have k1 := cell_below hB7 u1
      have k0r := k0
      have k1r := k1
      rw [eW] at k0r k1r
      have l0 := cell_below hB7 s0
      have l1 := cell_below hB7 s1
      have hI7 := (hI6.below hB7).more hB7.size
      have hr7 := hr6.below hB7 hr6.lt
      have hr7' := hr'.below hB7 hr'.lt
      have hW7 := hW6.trans (hB7.mono hW6.size)
      have HE := Lib.hid eW
      have HV := Lib.hid (And.intro k0 (And.intro k1 (And.intro l0 l1)))
      have HX := Lib.hid hx
      clear eW k0 k1 l0 l1 hx v0 v1 t0 t1 s0 s1 hI5 hI6 hW5 hW6 hb6 hr hr5 hr6
      go_wp2_with fail
      have eW := HE.out
      have hx := HX.out
      obtain ⟨k0, k1, l0, l1⟩ := HV.out
      clear u0 u1 k0r k1r
      rw [← eW] at hx ⊢
      obtain ⟨hxl7, m0, m1⟩ := hx
      obtain ⟨Bm, eB⟩ : ∃ Bm, Bm = w6.heap.size := ⟨_, rfl⟩
      rw [← eB] at hxl7 m0 m1 ⊢
      clear eB eW HE HX HV hB7
      refine (MomentSums_c (wd : Int) _ _ _ hI7).mono ?_
      rintro e w9 ⟨rfl, hb9⟩
      rw [HT.out.2.2.1, HT.out.2.2.2]
      have k0 := cell_below hb9 k0
      have l0 := cell_below hb9 l0
      have l1 := cell_below hb9 l1
      have m0 := cell_below hb9 m0
      have m1 := cell_below hb9 m1
      have hW9 := hW7.trans (hb9.mono hW7.size)
      have hr9 := hr7.below hb9 hr7.lt
      have hr9' := hr7'.below hb9 hr7'.lt
      have j1 := hr9.ints hr9.lt c
      have j2 := hr9'.ints hr9'.lt c'
      rw [length_casts, htl] at j1
      rw [length_casts, hml] at j2
      have HA := fun d os => MomentCross_c (ns.length : Int) _ _ _ ((j1.rg (Nat.le_refl _) d os).more (rg_size _ d os))
      have HM := fun d os => MomentCross_c (wd : Int) _ _ _ ((j2.rg (Nat.le_refl _) d os).more (rg_size _ d os))
      rw [HT.out.1] at HA
      rw [HT.out.2.1] at HM
      have HW9 := Lib.hid hW9
      have q0 := cell_regrown k0
      have q1 := cell_regrown l0
      have q2 := cell_regrown l1
      have q3 := cell_regrown m0
      have q4 := cell_regrown m1
      clear hW9 hW7 hr7 hr7' hr9 hr9' j1 j2 hI7 hb9 k0 k1 l0 l1 m0 m1
      go_wp2_with fail
      have e1 : IntKind.i64.wrap ((wd : Int) - 1) = (wd : Int) - 1 := IntWalk.i64_in _ ⟨by omega, by omega⟩
      have e2 : IntKind.i64.wrap (((wd : Int) - 1) * x) = ((wd : Int) - 1) * x := IntWalk.i64_in _ ⟨by omega, by omega⟩
      have e3 : IntKind.i64.wrap (((wd : Int) - 1) * x - a) = ((wd : Int) - 1) * x - a := IntWalk.i64_in _ ⟨by omega, by omega⟩
      refine wp_region_quiet_below (by kernel_rfl) (by kernel_rfl) ?_
      repeat (quiet_step ((go_at_call 17; first | with_reducible exact Calls.rg (HA _ _) | with_reducible exact Calls.rg (HM _ _))))
      refine wpQuiet_nil ?_
      intro _ hw0
      obtain ⟨⟨dq, osq⟩, hw1⟩ := hw0
      subst hw1
      have hq := below_regrown w9 dq osq
      generalize Go.Sort.grow (redrawn w9 dq) osq = w10 at hq ⊢
      go_wp2
      go_returns
      exact ⟨rfl, HW9.out.trans (hq.mono HW9.out.size)⟩
end Go.Proofs.Ytlckhakgmbjdbaa
