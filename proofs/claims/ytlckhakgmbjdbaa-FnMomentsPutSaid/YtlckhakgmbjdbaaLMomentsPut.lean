/- The law that one cell has its own moments: it returns true at whatever codes. Conditions: the codes' slices can be read. -/
import Derived.Test.YtlckhakgmbjdbaaLCrossTurn
import Derived.Test.YtlckhakgmbjdbaaKZ
import Derived.Test.YtlckhakgmbjdbaaTW
namespace Go.Proofs.Ytlckhakgmbjdbaa
open Go.RowKit
theorem put_mom {w : Nat} {ns : List Nat} {i j : Nat} (hi : i < ns.length) (hj : j < w) (hn : cell ns i j = false) (f : Nat → Nat → Int) : mom w (putL ns i j true) f = mom w ns f + f i j :=
  mom_set (length_putL _ _ _ _) hi hj hn (fun a b ha hb => by
    rw [cell_putL hi]
    by_cases h : a = i ∧ b = j
    · rw [if_pos h]; simp [h.1, h.2]
    · rw [if_neg h]
      cases cell ns a b with
      | true => rfl
      | false =>
        simp only [Bool.false_or]
        symm
        rw [Bool.and_eq_false_iff]
        simp only [decide_eq_false_iff_not]
        omega) f
theorem cellZ_nat (ns : List Nat) (i j : Nat) : cellZ ns (i : Int) (j : Int) = cell ns i j := by simp [cellZ]
set_option maxRecDepth 100000 in
set_option maxHeartbeats 4000000 in
theorem momentsPut_walk (A : Option Addr) (len cap : Nat) (hlc : len ≤ cap) (A' : Option Addr) (len' cap' : Nat) (w : World) (hc : Code8 w w.heap.size A len) :
    Calls Try.prog 8 #[.slice A len cap, .slice A' len' cap'] w fun e w' => e = .returned (.bool true) ∧ Below w.heap.size w w' := by
  by_cases hbig : 1048576 < len ∨ 1048576 < len'
  · by_cases hb1 : 1048576 < len
    · go_enter Try.func8, Try.ntmps8
      go_wp2
      go_returns
      exact ⟨rfl, Below.refl _ _⟩
    · have hb2 : 1048576 < len' := by omega
      go_enter Try.func8, Try.ntmps8
      go_wp2
      go_returns
      exact ⟨rfl, Below.refl _ _⟩
  · have hb1 : ¬ 1048576 < len := by omega
    have hb2 : ¬ 1048576 < len' := by omega
    have hl2 : len' ≤ 1048576 := by omega
    clear hbig
    go_enter Try.func8, Try.ntmps8
    go_wp2_with fail
    refine (DrawMomentSums_c A len cap hlc w hc).mono ?_
    rintro e wc ⟨W, v, rows, rfl, hI, hl6, hW⟩
    obtain ⟨B, cp, rfl⟩ := hI.len
    obtain ⟨W1, e_W1⟩ : ∃ W0, W0 = World.alloc wc (.cells #[.int .i64 W, .slice B rows.length cp] 27) := ⟨_, rfl⟩
    have hx_W1 := Box2.new wc (.int .i64 W) (.slice B rows.length cp) 27
    have hb_W1 : Below (World.heap wc).size wc W1 := by rw [e_W1]; go_grown
    replace hW := hW.trans (Below.mono hb_W1 hW.size)
    replace hI := (hI.below hb_W1).more (Below.size hb_W1)
    go_wp2_with fail
    rw [← e_W1] at hx_W1 ⊢
    clear e_W1
    obtain ⟨hl_x, x0, x1⟩ := hx_W1
    obtain ⟨Bx, e_Bx⟩ : ∃ Bx, Bx = (World.heap wc).size := ⟨_, rfl⟩
    rw [← e_Bx] at hl_x x0 x1 hb_W1 ⊢
    have hz_Bx := hb_W1.size
    clear e_Bx hb_W1
    go_wp2_with fail
    refine (MomentSums_c W _ rows W1 hI).mono ?_
    rintro e wc ⟨rfl, hb⟩
    replace hW := hW.trans (Below.mono hb hW.size)
    replace hI := (hI.below hb).more (Below.size hb)
    replace x0 := cellB hb x0
    replace x1 := cellB hb x1
    go_wp2_with fail
    refine (sMomentSums_c W _ rows _ hI).mono ?_
    rintro e wc ⟨rfl, hb⟩
    replace hW := hW.trans (Below.mono hb hW.size)
    replace hI := (hI.below hb).more (Below.size hb)
    replace x0 := cellB hb x0
    replace x1 := cellB hb x1
    obtain ⟨a, ea⟩ : ∃ a, a = val0 0 f_MomentSums_1 W rows := ⟨_, rfl⟩
    obtain ⟨b, eb⟩ : ∃ b, b = val0 0 f_MomentSums_2 W rows := ⟨_, rfl⟩
    rw [← ea, ← eb]
    have HA := Lib.hid ea
    have HB := Lib.hid eb
    clear ea eb
    cases hval : validB W rows with
    | false =>
      go_wp2
      go_returns
      exact ⟨rfl, hW⟩
    | true =>
      obtain ⟨wd, ns, rfl, rfl, hi⟩ := validB_yes hval
      have HVL := Lib.hid hval
      clear hval
      have h6 := hi.h6
      have w6 := hi.w6
      have h1 := hi.h1
      have w1 := hi.w1
      rw [length_casts] at x1 hI ⊢
      obtain ⟨i, ei⟩ : ∃ i, i = len' % ns.length := ⟨_, rfl⟩
      obtain ⟨q, eq⟩ : ∃ q, q = len' / ns.length := ⟨_, rfl⟩
      obtain ⟨j, ej⟩ : ∃ j, j = q % wd := ⟨_, rfl⟩
      have hxi : i < ns.length := by rw [ei]; exact Nat.mod_lt _ (by omega)
      have hxj : j < wd := by rw [ej]; exact Nat.mod_lt _ (by omega)
      have hq : q ≤ 1048576 := by rw [eq]; exact Nat.le_trans (Nat.div_le_self _ _) hl2
      have ei' : (len' : Int) % (ns.length : Int) = (i : Int) := by rw [ei]; simp
      have eq' : (len' : Int).tdiv (ns.length : Int) = (q : Int) := by rw [Int.tdiv_eq_ediv_of_nonneg (by omega), eq]; simp
      have ej' : (q : Int).tmod (wd : Int) = (j : Int) := by rw [Int.tmod_eq_emod_of_nonneg (by omega), ej]; simp
      have ew : IntKind.i64.wrap (q : Int) = (q : Int) := IntWalk.i64_in _ ⟨by omega, by omega⟩
      have hn0 : ¬ (ns.length : Int) = 0 := by omega
      have hw0 : ¬ (wd : Int) = 0 := by omega
      have k0 := cell_regrown x0
      have k1 := cell_regrown x1
      clear ei eq ej
      go_wp2_with fail
      refine wp_region_quiet_below (by kernel_rfl) (by kernel_rfl) ?_
      repeat (first | quiet_step (fail) | go_big_quiet_step (fail))
      refine wpQuiet_nil ?_
      intro _ hw0
      obtain ⟨⟨dq, osq⟩, hw1⟩ := hw0
      subst hw1
      have hq2 := below_regrown wc dq osq
      generalize Go.Sort.grow (redrawn wc dq) osq = w2 at hq2 ⊢
      clear ei' eq' ej' ew hn0 hw0 k0 k1
      replace hW := hW.trans (Below.mono hq2 hW.size)
      replace hI := (hI.below hq2).more (Below.size hq2)
      replace x0 := cellB hq2 x0
      replace x1 := cellB hq2 x1
      go_wp2_with fail
      refine (ImagePut_c wd _ ns hi i j hxi hxj true _ hI).mono ?_
      rintro e wc ⟨g, c, rfl, hg, hr, hb⟩
      replace hW := hW.trans (Below.mono hb hW.size)
      replace hI := (hI.below hb).more (Below.size hb)
      replace x0 := cellB hb x0
      replace x1 := cellB hb x1
      have hi2 := vimg_putL hi hxi hxj true
      have hlen2 : (putL ns i j true).length = ns.length := length_putL _ _ _ _
      obtain ⟨ms, em⟩ : ∃ ms, ms = putL ns i j true := ⟨_, rfl⟩
      rw [← em] at hr hi2 hlen2
      have HM := Lib.hid em
      have HL2 := Lib.hid hlen2
      clear em hlen2
      obtain ⟨W3, e_W3⟩ : ∃ W0, W0 = World.alloc wc (.cells #[.int .i64 (wd : Int), .slice (some ⟨g, 0, none⟩) ns.length c] 27) := ⟨_, rfl⟩
      have hx_W3 := Box2.new wc (.int .i64 (wd : Int)) (.slice (some ⟨g, 0, none⟩) ns.length c) 27
      have hb_W3 : Below (World.heap wc).size wc W3 := by rw [e_W3]; go_grown
      replace hW := hW.trans (Below.mono hb_W3 hW.size)
      replace hI := (hI.below hb_W3).more (Below.size hb_W3)
      replace x0 := cellB hb_W3 x0
      replace x1 := cellB hb_W3 x1
      replace hr := hr.below hb_W3 hr.lt
      go_wp2_with fail
      rw [← e_W3] at hx_W3 ⊢
      clear e_W3
      obtain ⟨hl_y, y0, y1⟩ := hx_W3
      obtain ⟨By, e_By⟩ : ∃ Bx, Bx = (World.heap wc).size := ⟨_, rfl⟩
      rw [← e_By] at hl_y y0 y1 hb_W3 ⊢
      have hz_By := hb_W3.size
      clear e_By hb_W3
      have hI2 : Ints W3.heap.size W3 (.slice (some ⟨g, 0, none⟩) ns.length c) (casts ms) := by
        have := hr.ints hr.lt c
        rw [length_casts, HL2.out] at this
        exact this
      go_wp2_with fail
      refine (MomentSums_c (wd : Int) _ (casts ms) W3 hI2).mono ?_
      rintro e wc ⟨rfl, hb⟩
      replace hW := hW.trans (Below.mono hb hW.size)
      replace hI := (hI.below hb).more (Below.size hb)
      replace x0 := cellB hb x0
      replace x1 := cellB hb x1
      replace hr := hr.below hb hr.lt
      replace y0 := cellB hb y0
      replace y1 := cellB hb y1
      replace hI2 := (hI2.below hb).more (Below.size hb)
      rw [val0_yes hi2, val0_yes hi2, validB_of hi2]
      have ha : a = mom wd ns f_MomentSums_1 := HA.out.trans (val0_yes hi)
      have hb : b = mom wd ns f_MomentSums_2 := HB.out.trans (val0_yes hi)
      cases hcell : cell ns i j with
      | true =>
        have hm : ms = ns := HM.out.trans (putL_same hxi hcell)
        rw [hm, ← ha, ← hb]
        have HC := Lib.hid hcell
        clear ha hb hcell hm
        go_wp2_with fail
        refine (ImageHas_v wd _ ns hi i j _ hI).mono ?_
        rintro e wc ⟨rfl, hb⟩
        replace hW := hW.trans (Below.mono hb hW.size)
        replace hI := (hI.below hb).more (Below.size hb)
        replace x0 := cellB hb x0
        replace x1 := cellB hb x1
        replace hr := hr.below hb hr.lt
        replace y0 := cellB hb y0
        replace y1 := cellB hb y1
        replace hI2 := (hI2.below hb).more (Below.size hb)
        rw [cellZ_nat, HC.out]
        go_wp2
        go_returns
        exact ⟨rfl, hW⟩
      | false =>
        have hx : mom wd ms f_MomentSums_1 = a + i := by rw [HM.out, put_mom hxi hxj hcell, ha]; rfl
        have hy : mom wd ms f_MomentSums_2 = b + j := by rw [HM.out, put_mom hxi hxj hcell, hb]; rfl
        have hz : mom wd ms f_MomentCross_1 = mom wd ns f_MomentCross_1 + (i : Int) * j := by rw [HM.out, put_mom hxi hxj hcell]; rfl
        have hab := mom_bd hi (f := f_MomentSums_1) bd_MomentSums_1
        have hbb := mom_bd hi (f := f_MomentSums_2) bd_MomentSums_2
        have hcb := mom_bd hi (f := f_MomentCross_1) bd_MomentCross_1
        rw [← ha] at hab
        rw [← hb] at hbb
        rw [hx, hy]
        obtain ⟨z, ez⟩ : ∃ z, z = mom wd ns f_MomentCross_1 := ⟨_, rfl⟩
        rw [← ez] at hz hcb
        have HZ := Lib.hid (And.intro ez hz)
        have HC := Lib.hid hcell
        have hij := mul_bd (i := i) (j := j) (by omega) (by omega)
        clear ha hb hcell hx hy hz ez
        go_wp2_with fail
        refine (ImageHas_v wd _ ns hi i j _ hI).mono ?_
        rintro e wc ⟨rfl, hb⟩
        replace hW := hW.trans (Below.mono hb hW.size)
        replace hI := (hI.below hb).more (Below.size hb)
        replace x0 := cellB hb x0
        replace x1 := cellB hb x1
        replace hr := hr.below hb hr.lt
        replace y0 := cellB hb y0
        replace y1 := cellB hb y1
        replace hI2 := (hI2.below hb).more (Below.size hb)
        rw [cellZ_nat, HC.out]
        have HP := fun d os => MomentCross_c (wd : Int) _ _ _ ((hI.rg (Nat.le_refl _) d os).more (rg_size _ d os))
        have HQ := fun d os => MomentCross_c (wd : Int) _ _ _ ((hI2.rg (Nat.le_refl _) d os).more (rg_size _ d os))
        rw [val0_yes hi, ← HZ.out.1] at HP
        rw [val0_yes hi2, HZ.out.2] at HQ
        have k0 := cell_regrown x0
        have k1 := cell_regrown x1
        have k2 := cell_regrown y0
        have k3 := cell_regrown y1
        go_wp2_with fail
        have e1 : IntKind.i64.wrap (a + i) = a + i := IntWalk.i64_in _ ⟨by omega, by omega⟩
        have e2 : IntKind.i64.wrap (b + j) = b + j := IntWalk.i64_in _ ⟨by omega, by omega⟩
        have e3 : IntKind.i64.wrap ((i : Int) * j) = (i : Int) * j := IntWalk.i64_in _ ⟨by omega, by omega⟩
        have e4 : IntKind.i64.wrap (z + (i : Int) * j) = z + (i : Int) * j := IntWalk.i64_in _ ⟨by omega, by omega⟩
        refine wp_region_quiet_below (by kernel_rfl) (by kernel_rfl) ?_
        repeat (first | quiet_step ((go_at_call 17; first | with_reducible exact Calls.rg (HP _ _) | with_reducible exact Calls.rg (HQ _ _))) | go_big_quiet_step ((go_at_call 17; first | with_reducible exact Calls.rg (HP _ _) | with_reducible exact Calls.rg (HQ _ _))))
        refine wpQuiet_nil ?_
        intro _ hw0
        obtain ⟨⟨dq, osq⟩, hw1⟩ := hw0
        subst hw1
        have hq := below_regrown wc dq osq
        generalize Go.Sort.grow (redrawn wc dq) osq = w9 at hq ⊢
        replace hW := hW.trans (Below.mono hq hW.size)
        replace hI := (hI.below hq).more (Below.size hq)
        replace x0 := cellB hq x0
        replace x1 := cellB hq x1
        replace hr := hr.below hq hr.lt
        replace y0 := cellB hq y0
        replace y1 := cellB hq y1
        replace hI2 := (hI2.below hq).more (Below.size hq)
        go_wp2
        go_returns
        exact ⟨rfl, hW⟩
end Go.Proofs.Ytlckhakgmbjdbaa
