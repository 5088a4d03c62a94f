/- The law that an image that fills has no greater sums: it returns true at whatever codes. Conditions: the codes' slices can be read. -/
import Derived.Test.YtldmilpohappiaaFDD
import Derived.Test.YtldmilpohappiaaFP2
import Derived.Test.YtldmilpohappiaaFG
import Derived.Test.YtldmilpohappiaaKZ
namespace Go.Proofs.Ytldmilpohappiaa
open Go.RowKit
set_option maxRecDepth 100000 in
set_option maxHeartbeats 8000000 in
theorem fillFits_walk (A : Option Addr) (len cap : Nat) (hlc : len ≤ cap) (A' : Option Addr) (len' cap' : Nat) (w : World) (hc : Code8 w w.heap.size A len) :
    Calls Try.prog 3 #[.slice A len cap, .slice A' len' cap'] w fun e w' => e = .returned (.bool true) ∧ Below w.heap.size w w' := by
  by_cases hb1 : 1048576 < len
  · go_enter Try.func3, Try.ntmps3
    go_wp2
    go_returns
    exact ⟨rfl, Below.refl _ _⟩
  by_cases hb2 : 1048576 < len'
  · go_enter Try.func3, Try.ntmps3
    go_wp2
    go_returns
    exact ⟨rfl, Below.refl _ _⟩
  have hl2 : len' ≤ 1048576 := by omega
  go_enter Try.func3, Try.ntmps3
  go_wp2_with fail
  refine (DrawFillFits_c A len cap hlc w hc).mono ?_
  rintro e wc ⟨W, v, u, t, rows, rs, cs, rfl, hI, hl6, hJ, hK, hr12, hc12, hW⟩
  obtain ⟨B, bp, rfl⟩ := hI.len
  obtain ⟨C, cp, rfl⟩ := hJ.len
  obtain ⟨D, dp, rfl⟩ := hK.len
  obtain ⟨W1, e_W1⟩ : ∃ W0, W0 = World.alloc wc (.cells #[.int .i64 W, .slice B rows.length bp] 25) := ⟨_, rfl⟩
  have hx_W1 := Box2.new wc (.int .i64 W) (.slice B rows.length bp) 25
  have hb_W1 : Below (World.heap wc).size wc W1 := by rw [e_W1]; go_grown
  have HS_W1 := Lib.hid (show (World.heap W1).size = (World.heap wc).size + 1 by rw [e_W1]; simp)
  replace hW := hW.trans (Below.mono hb_W1 hW.size)
  replace hI := (hI.below hb_W1).more (Below.size hb_W1)
  replace hJ := (hJ.below hb_W1).more (Below.size hb_W1)
  replace hK := (hK.below hb_W1).more (Below.size hb_W1)
  have HE_W1 := Lib.hid e_W1
  clear e_W1
  go_wp2_with fail
  rw [← HE_W1.out] at hx_W1 ⊢
  clear HE_W1
  obtain ⟨hl_x, x0, x1⟩ := hx_W1
  obtain ⟨Bx, e_Bx⟩ : ∃ Bx, Bx = (World.heap wc).size := ⟨_, rfl⟩
  rw [← e_Bx] at hl_x x0 x1 hb_W1 HS_W1  ⊢
  have hz_Bx := hb_W1.size
  clear e_Bx hb_W1
  refine (FillFits_c W _ _ _ rows rs cs (by omega) (by omega) (by omega) W1 hI hJ hK).mono ?_
  rintro e wc ⟨rfl, hb⟩
  replace hW := hW.trans (Below.mono hb hW.size)
  replace hI := (hI.below hb).more (Below.size hb)
  replace hJ := (hJ.below hb).more (Below.size hb)
  replace hK := (hK.below hb).more (Below.size hb)
  replace x0 := cellB hb x0
  replace x1 := cellB hb x1
  go_wp2_with fail
  refine (sFillFits_c W _ _ _ rows rs cs (by omega) (by omega) (by omega) _ hI hJ hK).mono ?_
  rintro e wc ⟨rfl, hb⟩
  replace hW := hW.trans (Below.mono hb hW.size)
  replace hI := (hI.below hb).more (Below.size hb)
  replace hJ := (hJ.below hb).more (Below.size hb)
  replace hK := (hK.below hb).more (Below.size hb)
  replace x0 := cellB hb x0
  replace x1 := cellB hb x1
  cases hff : ffB W rows rs cs with
  | false =>
    clear hff
    go_wp2
    go_returns
    exact ⟨rfl, hW⟩
  | true =>
    obtain ⟨n, ns, rfl, rfl, hF⟩ := ff_open hff
    rw [length_casts] at x1 hI ⊢
    have hV := hF.V
    have h1 := hV.h1
    have h6 := hV.h6
    have w1 := hV.w1
    have w6 := hV.w6
    have hS := hF.S
    obtain ⟨i, ei⟩ : ∃ i, i = len' % ns.length := ⟨_, rfl⟩
    obtain ⟨q, eq⟩ : ∃ q, q = len' / ns.length := ⟨_, rfl⟩
    obtain ⟨j, ej⟩ : ∃ j, j = q % n := ⟨_, rfl⟩
    have hi : i < ns.length := by rw [ei]; exact Nat.mod_lt _ (by omega)
    have hj : j < n := by rw [ej]; exact Nat.mod_lt _ (by omega)
    have hq : q ≤ 1048576 := by rw [eq]; exact Nat.le_trans (Nat.div_le_self _ _) hl2
    have ei' : (len' : Int) % (ns.length : Int) = (i : Int) := by rw [ei]; simp
    have eq' : (len' : Int).tdiv (ns.length : Int) = (q : Int) := by rw [Int.tdiv_eq_ediv_of_nonneg (by omega), eq]; simp
    have ej' : (q : Int).tmod (n : Int) = (j : Int) := by rw [Int.tmod_eq_emod_of_nonneg (by omega), ej]; simp
    have ew : IntKind.i64.wrap (q : Int) = (q : Int) := IntWalk.i64_in _ ⟨by omega, by omega⟩
    have hn0 : ¬ (ns.length : Int) = 0 := by omega
    have hn1 : ¬ (n : Int) = 0 := by omega
    have hput := hF.put hi hj
    have hpl : (putL ns i j false).length = ns.length := length_putL ..
    have hPF := ff_of hput
    have hmany := hF.many
    have hmb := many_bd hV
    have hfm := fmO_yes (svB_of hS)
    have hR := hF.r
    have hC := hF.c
    have hrl : Hid (ns.length = rs.length ∧ n = cs.length) := And.intro hF.h hF.w
    obtain ⟨M, eM⟩ : ∃ M, M = mom n ns one := ⟨_, rfl⟩
    obtain ⟨N, eN⟩ : ∃ N, N = fmO rs cs := ⟨_, rfl⟩
    rw [← eN] at hfm
    rw [← hfm] at hmany
    rw [← eM] at hmany hmb
    have HP := Lib.hid (And.intro hPF (And.intro hR (And.intro hC (And.intro eM eN))))
    have HPL := Lib.hid hpl
    clear hff hput hpl hPF hfm eM eN ei eq ej hF hR hC hS
    go_wp2_with fail
    have k0 := cell_regrown x0
    have k1 := cell_regrown x1
    refine wp_region_quiet_below (by kernel_rfl) (by kernel_rfl) ?_
    repeat (first | go_big_quiet_step (fail) | quiet_step (fail))
    refine wpQuiet_nil ?_
    intro _ hw0
    obtain ⟨⟨dq, osq⟩, hw1⟩ := hw0
    subst hw1
    have hq2 := below_regrown wc dq osq
    generalize Go.Sort.grow (redrawn wc dq) osq = w2 at hq2 ⊢
    rw [ei']
    clear ei' eq' ej' ew hn0 hn1 k0 k1
    replace hW := hW.trans (Below.mono hq2 hW.size)
    replace hI := (hI.below hq2).more (Below.size hq2)
    replace hJ := (hJ.below hq2).more (Below.size hq2)
    replace hK := (hK.below hq2).more (Below.size hq2)
    replace x0 := cellB hq2 x0
    replace x1 := cellB hq2 x1
    go_wp2_with fail
    refine (ImagePut_c n _ ns hV i j hi hj false _ hI).mono ?_
    rintro e wc ⟨g, c, rfl, hg, hr, hb⟩
    replace hW := hW.trans (Below.mono hb hW.size)
    replace hI := (hI.below hb).more (Below.size hb)
    replace hJ := (hJ.below hb).more (Below.size hb)
    replace hK := (hK.below hb).more (Below.size hb)
    replace x0 := cellB hb x0
    replace x1 := cellB hb x1
    obtain ⟨ms, em⟩ : ∃ ms, ms = putL ns i j false := ⟨_, rfl⟩
    rw [← em] at hr HP HPL
    clear em
    obtain ⟨W3, e_W3⟩ : ∃ W0, W0 = World.alloc wc (.cells #[.int .i64 (n : Int), .slice (some ⟨g, 0, none⟩) ns.length c] 25) := ⟨_, rfl⟩
    have hx_W3 := Box2.new wc (.int .i64 (n : Int)) (.slice (some ⟨g, 0, none⟩) ns.length c) 25
    have hb_W3 : Below (World.heap wc).size wc W3 := by rw [e_W3]; go_grown
    have HS_W3 := Lib.hid (show (World.heap W3).size = (World.heap wc).size + 1 by rw [e_W3]; simp)
    replace hW := hW.trans (Below.mono hb_W3 hW.size)
    replace hI := (hI.below hb_W3).more (Below.size hb_W3)
    replace hJ := (hJ.below hb_W3).more (Below.size hb_W3)
    replace hK := (hK.below hb_W3).more (Below.size hb_W3)
    replace x0 := cellB hb_W3 x0
    replace x1 := cellB hb_W3 x1
    replace hr := hr.below hb_W3 hr.lt
    have x0r := x0
    rw [e_W3] at x0r
    have x1r := x1
    rw [e_W3] at x1r
    have HE_W3 := Lib.hid e_W3
    clear e_W3
    go_wp2_with fail
    rw [← HE_W3.out] at hx_W3 ⊢
    clear x0r x1r
    clear HE_W3
    obtain ⟨hl_y, y0, y1⟩ := hx_W3
    obtain ⟨By, e_By⟩ : ∃ Bx, Bx = (World.heap wc).size := ⟨_, rfl⟩
    rw [← e_By] at hl_y y0 y1 hb_W3 HS_W3  ⊢
    have hz_By := hb_W3.size
    clear e_By hb_W3
    refine (RowSums_c n _ ns hV _ hI).mono ?_
    rintro e wc ⟨gr, rfl, hgr, hrr, hb⟩
    replace hW := hW.trans (Below.mono hb hW.size)
    replace hI := (hI.below hb).more (Below.size hb)
    replace hJ := (hJ.below hb).more (Below.size hb)
    replace hK := (hK.below hb).more (Below.size hb)
    replace x0 := cellB hb x0
    replace x1 := cellB hb x1
    replace hr := hr.below hb hr.lt
    replace y0 := cellB hb y0
    replace y1 := cellB hb y1
    go_wp2_with fail
    refine (ColSums_c n _ ns hV _ hI).mono ?_
    rintro e wc ⟨gc, rfl, hgc, hcc, hb⟩
    replace hW := hW.trans (Below.mono hb hW.size)
    replace hI := (hI.below hb).more (Below.size hb)
    replace hJ := (hJ.below hb).more (Below.size hb)
    replace hK := (hK.below hb).more (Below.size hb)
    replace x0 := cellB hb x0
    replace x1 := cellB hb x1
    replace hr := hr.below hb hr.lt
    replace y0 := cellB hb y0
    replace y1 := cellB hb y1
    replace hrr := hrr.below hb hrr.lt
    obtain ⟨wb, ewb⟩ : ∃ W, W = wc := ⟨_, rfl⟩
    subst ewb
    have HX := Lib.hid (And.intro hI (And.intro hJ (And.intro hK (And.intro hr (And.intro hrr (And.intro hcc (And.intro hW (And.intro (And.intro x0 x1) (And.intro y0 y1)))))))))
    clear hI hJ hK hr hrr hcc hW x0 x1 y0 y1
    go_wp2_with fail
    go_loopw [16] (fun q wr => ∃ k : Nat, k ≤ ns.length ∧ q = .int .i64 (k : Int) ∧ Below wb.heap.size wb wr) (fun q _ => ns.length - (intOf q).toNat)
    case atStart => exact ⟨0, Nat.zero_le _, rfl, Below.refl _ _⟩
    case round =>
      obtain ⟨k, hk, rfl, hbb⟩ := hrel
      by_cases hkl : k < ns.length
      · have hki : (k : Int) < (ns.length : Int) := by omega
        have hrw := (HX.out.2.2.2.2.1.below hbb HX.out.2.2.2.2.1.lt).cell (k := k) (by rw [rowSums_len]; exact hkl)
        obtain ⟨b, off, cp', e, hbl, hcx⟩ := ((HX.out.2.1.below hbb).more hbb.size).row (by have := hrl.1; omega)
        injection e with e1 _ e3
        subst e1 e3
        have hkr : (k : Int) < (rs.length : Int) := by have := hrl.1; omega
        have hcr := hcx k (by have := hrl.1; omega)
        have hle := HP.out.2.1 k hkl
        obtain ⟨x, ex⟩ : ∃ x, x = (rowSums n ns).getD k 0 := ⟨_, rfl⟩
        obtain ⟨y, ey⟩ : ∃ y, y = rs.getD k 0 := ⟨_, rfl⟩
        rw [← ex] at hrw hle
        rw [← ey] at hcr hle
        have hng : ¬ y < x := by omega
        have k0 := cell_regrown hrw
        have k1 := cell_regrown hcr
        have HB := Lib.hid hbb
        clear ex ey hcx hbl hbb hle
        go_wp2_with fail
        refine wp_region_quiet_below (by kernel_rfl) (by kernel_rfl) ?_
        repeat (first | go_big_quiet_step (fail) | quiet_step (fail))
        refine wpQuiet_nil ?_
        intro _ hw0
        obtain ⟨⟨dq, osq⟩, hw1⟩ := hw0
        subst hw1
        have hq4 := below_regrown wr dq osq
        generalize Go.Sort.grow (redrawn wr dq) osq = w4 at hq4 ⊢
        clear k0 k1 hrw hcr
        have HB4 := Lib.hid (HB.out.trans (hq4.mono HB.out.size))
        clear hq4
        go_wp2
        go_roundw
        case rel => exact ⟨k + 1, by omega, by go_num, HB4.out⟩
        case measure => simp [intOf]; omega
      · obtain rfl : k = ns.length := by omega
        have HB := Lib.hid hbb
        clear hbb
        go_wp2_with fail
        go_loopw [17] (fun q wr => ∃ k : Nat, k ≤ n ∧ q = .int .i64 (k : Int) ∧ Below wb.heap.size wb wr) (fun q _ => n - (intOf q).toNat)
        case atStart => exact ⟨0, Nat.zero_le _, rfl, HB.out⟩
        case round =>
          clear HB
          obtain ⟨k, hk, rfl, hbb⟩ := hrel
          by_cases hkl : k < n
          · have hki : (k : Int) < (n : Int) := by omega
            have hrw := (HX.out.2.2.2.2.2.1.below hbb HX.out.2.2.2.2.2.1.lt).cell (k := k) (by rw [colSums_len]; exact hkl)
            obtain ⟨b, off, cp', e, hbl, hcx⟩ := ((HX.out.2.2.1.below hbb).more hbb.size).row (by have := hrl.2; omega)
            injection e with e1 _ e3
            subst e1 e3
            have hkr : (k : Int) < (cs.length : Int) := by have := hrl.2; omega
            have hcr := hcx k (by have := hrl.2; omega)
            have hle := HP.out.2.2.1 k hkl
            obtain ⟨x, ex⟩ : ∃ x, x = (colSums n ns).getD k 0 := ⟨_, rfl⟩
            obtain ⟨y, ey⟩ : ∃ y, y = cs.getD k 0 := ⟨_, rfl⟩
            rw [← ex] at hrw hle
            rw [← ey] at hcr hle
            have hng : ¬ y < x := by omega
            have k0 := cell_regrown hrw
            have k1 := cell_regrown hcr
            have HB := Lib.hid hbb
            clear ex ey hcx hbl hbb hle
            go_wp2_with fail
            refine wp_region_quiet_below (by kernel_rfl) (by kernel_rfl) ?_
            repeat (first | go_big_quiet_step (fail) | quiet_step (fail))
            refine wpQuiet_nil ?_
            intro _ hw0
            obtain ⟨⟨dq, osq⟩, hw1⟩ := hw0
            subst hw1
            have hq4 := below_regrown wr dq osq
            generalize Go.Sort.grow (redrawn wr dq) osq = w4 at hq4 ⊢
            clear k0 k1 hrw hcr
            have HB4 := Lib.hid (HB.out.trans (hq4.mono HB.out.size))
            clear hq4
            go_wp2
            go_roundw
            case rel => exact ⟨k + 1, by omega, by go_num, HB4.out⟩
            case measure => simp [intOf]; omega
          · obtain rfl : k = n := by omega
            obtain ⟨hI, hJ, hK, hr, hrr, hcc, hW, ⟨x0, x1⟩, y0, y1⟩ := HX.out
            have hI := (hI.below hbb).more hbb.size
            have hJ := (hJ.below hbb).more hbb.size
            have hK := (hK.below hbb).more hbb.size
            have hr := hr.below hbb hr.lt
            have hW := hW.trans (hbb.mono hW.size)
            have x0 := cellB hbb x0
            have x1 := cellB hbb x1
            have y0 := cellB hbb y0
            have y1 := cellB hbb y1
            clear hbb HX hrr hcc
            have hM := hr.intsH (c := c) HPL.out
            have hng : ¬ ((k : Int) < (k : Int)) := by omega
            go_wp2_with fail
            refine (FillFits_c (k : Int) _ _ _ (casts ms) rs cs (by omega) (by omega) (by rw [length_casts, HPL.out]; omega) _ hM hJ hK).mono ?_
            rintro e wc ⟨rfl, hb⟩
            replace hW := hW.trans (Below.mono hb hW.size)
            replace hI := (hI.below hb).more (Below.size hb)
            replace hJ := (hJ.below hb).more (Below.size hb)
            replace hK := (hK.below hb).more (Below.size hb)
            replace x0 := cellB hb x0
            replace x1 := cellB hb x1
            replace y0 := cellB hb y0
            replace y1 := cellB hb y1
            replace hM := (hM.below hb).more (Below.size hb)
            rw [HP.out.1]
            go_wp2_with fail
            refine (ImageMany_c (k : Int) _ (casts ns) _ hI).mono ?_
            rintro e wc ⟨rfl, hb⟩
            replace hW := hW.trans (Below.mono hb hW.size)
            replace hI := (hI.below hb).more (Below.size hb)
            replace hJ := (hJ.below hb).more (Below.size hb)
            replace hK := (hK.below hb).more (Below.size hb)
            replace x0 := cellB hb x0
            replace x1 := cellB hb x1
            replace y0 := cellB hb y0
            replace y1 := cellB hb y1
            replace hM := (hM.below hb).more (Below.size hb)
            rw [val0_yes hV, ← HP.out.2.2.2.1]
            go_wp2_with fail
            refine (FillMost_c _ _ rs cs (by omega) (by omega) _ hJ hK).mono ?_
            rintro e wc ⟨rfl, hb⟩
            replace hW := hW.trans (Below.mono hb hW.size)
            replace hI := (hI.below hb).more (Below.size hb)
            replace hJ := (hJ.below hb).more (Below.size hb)
            replace hK := (hK.below hb).more (Below.size hb)
            replace x0 := cellB hb x0
            replace x1 := cellB hb x1
            replace y0 := cellB hb y0
            replace y1 := cellB hb y1
            replace hM := (hM.below hb).more (Below.size hb)
            rw [← HP.out.2.2.2.2]
            go_wp2
            go_returns
            exact ⟨rfl, hW⟩
end Go.Proofs.Ytldmilpohappiaa
