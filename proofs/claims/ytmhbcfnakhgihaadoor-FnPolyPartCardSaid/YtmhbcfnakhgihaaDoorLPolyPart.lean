/- The law that a polyomino is its part: it returns true at whatever codes, where the table of math/bits stands. Conditions: the code's slice can be read; the table. -/
import Derived.Test.YtmhbcfnakhgihaaDoorCP1
import Derived.Test.YtmhbcfnakhgihaaDoorCX5
import Derived.Test.YtmhbcfnakhgihaaDoorCX7
import Derived.Test.YtmhbcfnakhgihaaDoorK7
import Derived.Test.YtmhbcfnakhgihaaDoorK6
namespace Go.Proofs.YtmhbcfnakhgihaaDoor
open Go.RowKit
open Gr
set_option maxRecDepth 100000 in
set_option maxHeartbeats 4000000 in
theorem polyPart_walk (A : Option Addr) (len cap : Nat) (hlc : len ≤ cap) (A' : Option Addr) (len' cap' : Nat) (w : World) (hc : Code8 w w.heap.size A len) (hT : Tab w) :
    Calls Tryd.prog 4 #[.slice A len cap, .slice A' len' cap'] w fun e w' => e = .returned (.bool true) ∧ Below w.heap.size w w' := by
  by_cases hbig : 1048576 < len ∨ 1048576 < len'
  · by_cases hb1 : 1048576 < len
    · go_enter Tryd.func4, Tryd.ntmps4
      go_wp2
      go_returns
      exact ⟨rfl, Below.refl _ _⟩
    · have hb2 : 1048576 < len' := by omega
      go_enter Tryd.func4, Tryd.ntmps4
      go_wp2
      go_returns
      exact ⟨rfl, Below.refl _ _⟩
  · have hb1 : ¬ 1048576 < len := by omega
    have hb2 : ¬ 1048576 < len' := by omega
    have hl2 : len' ≤ 1048576 := by omega
    clear hbig
    go_enter Tryd.func4, Tryd.ntmps4
    go_wp2_with fail
    refine (DrawImagePoly_c A len cap hlc w hc).mono ?_
    rintro e wc ⟨W, v, rows, rfl, hI, hl6, hW⟩
    obtain ⟨B, cp, rfl⟩ := hI.len
    obtain ⟨W1, e_W1⟩ : ∃ W0, W0 = World.alloc wc (.cells #[.int .i64 W, .slice B rows.length cp] 27) := ⟨_, rfl⟩
    have hx_W1 := Box2.new wc (.int .i64 W) (.slice B rows.length cp) 27
    have hb_W1 : Below (World.heap wc).size wc W1 := by rw [e_W1]; go_grown
    have HS_W1 := Lib.hid (show (World.heap W1).size = (World.heap wc).size + 1 by rw [e_W1]; simp)
    replace hW := hW.trans (Below.mono hb_W1 hW.size)
    replace hI := (hI.below hb_W1).more (Below.size hb_W1)
    have HE_W1 := Lib.hid e_W1
    clear e_W1
    go_wp2_with fail
    rw [← HE_W1.out] at hx_W1 ⊢
    clear HE_W1
    obtain ⟨hl_x, x0, x1⟩ := hx_W1
    obtain ⟨Bx, e_Bx⟩ : ∃ Bx, Bx = (World.heap wc).size := ⟨_, rfl⟩
    rw [← e_Bx] at hl_x x0 x1 hb_W1 HS_W1  ⊢
    have hz_Bx := hb_W1.size
    clear e_Bx hb_W1
    refine (ImagePoly_c W _ rows W1 hI (hT.below hW)).mono ?_
    rintro e wc ⟨rfl, hb⟩
    replace hW := hW.trans (Below.mono hb hW.size)
    replace hI := (hI.below hb).more (Below.size hb)
    replace x0 := cellB hb x0
    replace x1 := cellB hb x1
    go_wp2_with fail
    refine (sImagePoly_c W _ rows _ hI).mono ?_
    rintro e wc ⟨rfl, hb⟩
    replace hW := hW.trans (Below.mono hb hW.size)
    replace hI := (hI.below hb).more (Below.size hb)
    replace x0 := cellB hb x0
    replace x1 := cellB hb x1
    cases hpo : polyO W rows with
    | false =>
      clear hpo
      go_wp2
      go_returns
      exact ⟨rfl, hW⟩
    | true =>
      obtain ⟨n, ns, rfl, rfl, hV, hcx, hpt⟩ := polyO_valid hpo
      rw [length_casts] at x1 hI ⊢
      have h6 := hV.h6
      have w6 := hV.w6
      have h1 := hV.h1
      have w1 := hV.w1
      clear hpo
      obtain ⟨i, ei⟩ : ∃ i, i = len' % ns.length := ⟨_, rfl⟩
      obtain ⟨q, eq⟩ : ∃ q, q = len' / ns.length := ⟨_, rfl⟩
      obtain ⟨j, ej⟩ : ∃ j, j = q % n := ⟨_, rfl⟩
      have hxi : i < ns.length := by rw [ei]; exact Nat.mod_lt _ (by omega)
      have hxj : j < n := by rw [ej]; exact Nat.mod_lt _ (by omega)
      have hq : q ≤ 1048576 := by rw [eq]; exact Nat.le_trans (Nat.div_le_self _ _) hl2
      have ei' : (len' : Int) % (ns.length : Int) = (i : Int) := by rw [ei]; simp
      have eq' : (len' : Int).tdiv (ns.length : Int) = (q : Int) := by rw [Int.tdiv_eq_ediv_of_nonneg (by omega), eq]; simp
      have ej' : (q : Int).tmod (n : Int) = (j : Int) := by rw [Int.tmod_eq_emod_of_nonneg (by omega), ej]; simp
      have ew : IntKind.i64.wrap (q : Int) = (q : Int) := IntWalk.i64_in _ ⟨by omega, by omega⟩
      have hn0 : ¬ (ns.length : Int) = 0 := by omega
      have hw0 : ¬ (n : Int) = 0 := by omega
      have k0 := cell_regrown x0
      have k1 := cell_regrown x1
      clear ei eq ej
      go_wp2_with fail
      try rw [ei']
      refine wp_region_quiet_below (by kernel_rfl) (by kernel_rfl) ?_
      repeat (first | go_big_quiet_step (fail) | quiet_step (fail))
      refine wpQuiet_nil ?_
      intro _ hw0
      obtain ⟨⟨dq, osq⟩, hw1⟩ := hw0
      subst hw1
      have hq2 := below_regrown wc dq osq
      generalize Go.Sort.grow (redrawn wc dq) osq = w2 at hq2 ⊢
      clear ei' eq' ej' ew hn0 hw0 k0 k1
      replace hW := hW.trans (Below.mono hq2 hW.size)
      replace hI := (hI.below hq2).more (Below.size hq2)
      replace x0 := cellB hq2 x0
      replace x1 := cellB hq2 x1
      have HO := Lib.hid (fun h => one_comp hV hpt (i := i) (j := j) h)
      clear hcx hpt hxi hxj
      cases hcell : cell ns i j with
      | false =>
        have HN := ImagePart_no (n : Int) (.slice B ns.length cp) (casts ns) i j (by rw [hasZ_of hV, cellZ_nat]; exact hcell)
        have HC := Lib.hid hcell
        clear hcell
        go_wp2_with fail
        refine (HN _ hI).mono ?_
        rintro e wc ⟨rfl, hb⟩
        replace hW := hW.trans (Below.mono hb hW.size)
        replace hI := (hI.below hb).more (Below.size hb)
        replace x0 := cellB hb x0
        replace x1 := cellB hb x1
        obtain ⟨W3, e_W3⟩ : ∃ W0, W0 = World.alloc wc (.cells #[.int .i64 0, .slice none 0 0] 27) := ⟨_, rfl⟩
        have hx_W3 := Box2.new wc (.int .i64 0) (.slice none 0 0) 27
        have hb_W3 : Below (World.heap wc).size wc W3 := by rw [e_W3]; go_grown
        have HS_W3 := Lib.hid (show (World.heap W3).size = (World.heap wc).size + 1 by rw [e_W3]; simp)
        replace hW := hW.trans (Below.mono hb_W3 hW.size)
        replace hI := (hI.below hb_W3).more (Below.size hb_W3)
        replace x0 := cellB hb_W3 x0
        replace x1 := cellB hb_W3 x1
        have x0r := x0
        rw [e_W3] at x0r
        have x1r := x1
        rw [e_W3] at x1r
        have HE_W3 := Lib.hid e_W3
        clear e_W3
        go_wp2_with fail
        rw [← HE_W3.out] at hx_W3 ⊢
        clear x0r x1r
        clear HE_W3
        obtain ⟨hl_y, y0, y1⟩ := hx_W3
        obtain ⟨By, e_By⟩ : ∃ Bx, Bx = (World.heap wc).size := ⟨_, rfl⟩
        rw [← e_By] at hl_y y0 y1 hb_W3 HS_W3  ⊢
        have hz_By := hb_W3.size
        clear e_By hb_W3
        have HI := ImageHas_v n _ ns hV i j _ hI
        rw [cellZ_nat, HC.out] at HI
        refine HI.mono ?_
        rintro e wc ⟨rfl, hb⟩
        replace hW := hW.trans (Below.mono hb hW.size)
        replace hI := (hI.below hb).more (Below.size hb)
        replace x0 := cellB hb x0
        replace x1 := cellB hb x1
        replace y0 := cellB hb y0
        replace y1 := cellB hb y1
        clear HN HI
        go_wp2
        go_returns
        exact ⟨rfl, hW⟩
      | true =>
        have HY := ImagePart_yes n (.slice B ns.length cp) ns hV i j hcell
        rw [HO.out hcell] at HY
        have HC := Lib.hid hcell
        clear hcell
        go_wp2_with fail
        refine (HY _ hI).mono ?_
        rintro e wc ⟨g, c, rfl, hg, hr, hb⟩
        replace hW := hW.trans (Below.mono hb hW.size)
        replace hI := (hI.below hb).more (Below.size hb)
        replace x0 := cellB hb x0
        replace x1 := cellB hb x1
        obtain ⟨W3, e_W3⟩ : ∃ W0, W0 = World.alloc wc (.cells #[.int .i64 (n : Int), .slice (some ⟨g, 0, none⟩) ns.length c] 27) := ⟨_, rfl⟩
        have hx_W3 := Box2.new wc (.int .i64 (n : Int)) (.slice (some ⟨g, 0, none⟩) ns.length c) 27
        have hb_W3 : Below (World.heap wc).size wc W3 := by rw [e_W3]; go_grown
        have HS_W3 := Lib.hid (show (World.heap W3).size = (World.heap wc).size + 1 by rw [e_W3]; simp)
        replace hW := hW.trans (Below.mono hb_W3 hW.size)
        replace hI := (hI.below hb_W3).more (Below.size hb_W3)
        replace x0 := cellB hb_W3 x0
        replace x1 := cellB hb_W3 x1
        replace hr := hr.below hb_W3 hr.lt
        have x0r := x0
        rw [e_W3] at x0r
        have x1r := x1
        rw [e_W3] at x1r
        have HE_W3 := Lib.hid e_W3
        clear e_W3
        go_wp2_with fail
        rw [← HE_W3.out] at hx_W3 ⊢
        clear x0r x1r
        clear HE_W3
        obtain ⟨hl_y, y0, y1⟩ := hx_W3
        obtain ⟨By, e_By⟩ : ∃ Bx, Bx = (World.heap wc).size := ⟨_, rfl⟩
        rw [← e_By] at hl_y y0 y1 hb_W3 HS_W3  ⊢
        have hz_By := hb_W3.size
        clear e_By hb_W3
        have HI := ImageHas_v n _ ns hV i j _ hI
        rw [cellZ_nat, HC.out] at HI
        refine HI.mono ?_
        rintro e wc ⟨rfl, hb⟩
        replace hW := hW.trans (Below.mono hb hW.size)
        replace hI := (hI.below hb).more (Below.size hb)
        replace x0 := cellB hb x0
        replace x1 := cellB hb x1
        replace hr := hr.below hb hr.lt
        replace y0 := cellB hb y0
        replace y1 := cellB hb y1
        clear HY HI
        go_wp2_with fail
        refine (sameImage_c (n : Int) n _ _ (casts ns) (casts ns) (by rw [length_casts]; omega) _ (hr.intsH rfl) hI).mono ?_
        rintro e wc ⟨rfl, hb⟩
        replace hW := hW.trans (Below.mono hb hW.size)
        replace hI := (hI.below hb).more (Below.size hb)
        replace x0 := cellB hb x0
        replace x1 := cellB hb x1
        replace hr := hr.below hb hr.lt
        replace y0 := cellB hb y0
        replace y1 := cellB hb y1
        simp only [decide_true, and_self]
        go_wp2
        go_returns
        exact ⟨rfl, hW⟩
end Go.Proofs.YtmhbcfnakhgihaaDoor
