/- The law that one cell joins at most four parts: it returns true at whatever codes. Conditions: the codes' slices can be read. -/
import Derived.Test.YtbblbdacdpokeaaPI3
import Derived.Test.YtbblbdacdpokeaaPD2
import Derived.Test.YtbblbdacdpokeaaKZ
import Derived.Test.YtbblbdacdpokeaaPartsLaw
namespace Go.Proofs.Ytbblbdacdpokeaa
open Go.RowKit
open Gr
theorem parts_bd {w : Nat} {ns : List Nat} (hV : VImg w ns) : 0 ≤ partsN w ns ∧ partsN w ns ≤ 36 := by
  have h1 := firsts_len_le (T := cell ns) (near := false) (h := ns.length) (w := w)
  have h2 : ns.length * w ≤ 6 * 6 := Nat.mul_le_mul hV.h6 hV.w6
  unfold partsN partsL
  omega
theorem onParts_bd (W : Int) (rows : List Int) : -1 ≤ onImg (-1) partsN W rows ∧ onImg (-1) partsN W rows ≤ 36 := by
  cases hv : validB W rows with
  | false => rw [onImg_no hv]; omega
  | true =>
    obtain ⟨n, ns, rfl, rfl, hV⟩ := validB_yes hv
    rw [onImg_yes hV]
    have := parts_bd hV
    omega
theorem parts_put {w : Nat} {ns : List Nat} (hV : VImg w ns) {i j : Nat} (hi : i < ns.length) (hj : j < w) (hc : cell ns i j = false) : partsN w (putL ns i j true) ≤ partsN w ns + 1 ∧ partsN w ns ≤ partsN w (putL ns i j true) + 3 := by
  have h1 := firsts_put (sized_img hV).inside hi hj hc (S' := cell (putL ns i j true)) (cell_putL hi j true)
  unfold partsN partsL
  rw [length_putL]
  omega
set_option maxRecDepth 100000 in
set_option maxHeartbeats 4000000 in
theorem partsPut_walk (A : Option Addr) (len cap : Nat) (hlc : len ≤ cap) (A' : Option Addr) (len' cap' : Nat) (w : World) (hc : Code8 w w.heap.size A len) :
    Calls Try.prog 4 #[.slice A len cap, .slice A' len' cap'] w fun e w' => e = .returned (.bool true) ∧ Below w.heap.size w w' := by
  by_cases hbig : 1048576 < len ∨ 1048576 < len'
  · by_cases hb1 : 1048576 < len
    · go_enter Try.func4, Try.ntmps4
      go_wp2
      go_returns
      exact ⟨rfl, Below.refl _ _⟩
    · have hb2 : 1048576 < len' := by omega
      go_enter Try.func4, Try.ntmps4
      go_wp2
      go_returns
      exact ⟨rfl, Below.refl _ _⟩
  · have hb1 : ¬ 1048576 < len := by omega
    have hb2 : ¬ 1048576 < len' := by omega
    have hl2 : len' ≤ 1048576 := by omega
    clear hbig
    go_enter Try.func4, Try.ntmps4
    go_wp2_with fail
    refine (DrawImageParts_c A len cap hlc w hc).mono ?_
    rintro e wc ⟨W, v, rows, rfl, hI, hl6, hW⟩
    obtain ⟨B, cp, rfl⟩ := hI.len
    obtain ⟨W1, e_W1⟩ : ∃ W0, W0 = World.alloc wc (.cells #[.int .i64 W, .slice B rows.length cp] 27) := ⟨_, rfl⟩
    have hx_W1 := Box2.new wc (.int .i64 W) (.slice B rows.length cp) 27
    have hb_W1 : Below (World.heap wc).size wc W1 := by rw [e_W1]; go_grown
    have HS_W1 := Lib.hid (show (World.heap W1).size = (World.heap wc).size + 1 by rw [e_W1]; simp)
    replace hW := hW.trans (Below.mono hb_W1 hW.size)
    replace hI := (hI.below hb_W1).more (Below.size hb_W1)
    have HE_W1 := Lib.hid e_W1
    clear e_W1
    go_wp2_with fail
    rw [← HE_W1.out] at hx_W1 ⊢
    clear HE_W1
    obtain ⟨hl_x, x0, x1⟩ := hx_W1
    obtain ⟨Bx, e_Bx⟩ : ∃ Bx, Bx = (World.heap wc).size := ⟨_, rfl⟩
    rw [← e_Bx] at hl_x x0 x1 hb_W1 HS_W1  ⊢
    have hz_Bx := hb_W1.size
    clear e_Bx hb_W1
    refine (ImageParts_c W _ rows W1 hI).mono ?_
    rintro e wc ⟨rfl, hb⟩
    replace hW := hW.trans (Below.mono hb hW.size)
    replace hI := (hI.below hb).more (Below.size hb)
    replace x0 := cellB hb x0
    replace x1 := cellB hb x1
    go_wp2_with fail
    refine (sImageParts_c W _ rows _ hI).mono ?_
    rintro e wc ⟨rfl, hb⟩
    replace hW := hW.trans (Below.mono hb hW.size)
    replace hI := (hI.below hb).more (Below.size hb)
    replace x0 := cellB hb x0
    replace x1 := cellB hb x1
    have hob := onParts_bd W rows
    obtain ⟨a, ea⟩ : ∃ a, a = onImg (-1) partsN W rows := ⟨_, rfl⟩
    rw [← ea] at hob ⊢
    by_cases hneg : a < 0
    · clear ea
      go_wp2
      go_returns
      exact ⟨rfl, hW⟩
    · have hval : validB W rows = true := by
        cases hv : validB W rows with
        | true => rfl
        | false => rw [onImg_no hv] at ea; omega
      obtain ⟨wd, ns, rfl, rfl, hi⟩ := validB_yes hval
      rw [onImg_yes hi] at ea
      have HA := Lib.hid ea
      have h6 := hi.h6
      have w6 := hi.w6
      have h1 := hi.h1
      have w1 := hi.w1
      rw [length_casts] at x1 hI ⊢
      obtain ⟨i, ei⟩ : ∃ i, i = len' % ns.length := ⟨_, rfl⟩
      obtain ⟨q, eq⟩ : ∃ q, q = len' / ns.length := ⟨_, rfl⟩
      obtain ⟨j, ej⟩ : ∃ j, j = q % wd := ⟨_, rfl⟩
      have hxi : i < ns.length := by rw [ei]; exact Nat.mod_lt _ (by omega)
      have hxj : j < wd := by rw [ej]; exact Nat.mod_lt _ (by omega)
      have hq : q ≤ 1048576 := by rw [eq]; exact Nat.le_trans (Nat.div_le_self _ _) hl2
      have ei' : (len' : Int) % (ns.length : Int) = (i : Int) := by rw [ei]; simp
      have eq' : (len' : Int).tdiv (ns.length : Int) = (q : Int) := by rw [Int.tdiv_eq_ediv_of_nonneg (by omega), eq]; simp
      have ej' : (q : Int).tmod (wd : Int) = (j : Int) := by rw [Int.tmod_eq_emod_of_nonneg (by omega), ej]; simp
      have ew : IntKind.i64.wrap (q : Int) = (q : Int) := IntWalk.i64_in _ ⟨by omega, by omega⟩
      have hn0 : ¬ (ns.length : Int) = 0 := by omega
      have hw0 : ¬ (wd : Int) = 0 := by omega
      have k0 := cell_regrown x0
      have k1 := cell_regrown x1
      clear ei eq ej ea hval
      go_wp2_with fail
      try rw [ei']
      refine wp_region_quiet_below (by kernel_rfl) (by kernel_rfl) ?_
      repeat (first | go_big_quiet_step (fail) | quiet_step (fail))
      refine wpQuiet_nil ?_
      intro _ hw0
      obtain ⟨⟨dq, osq⟩, hw1⟩ := hw0
      subst hw1
      have hq2 := below_regrown wc dq osq
      generalize Go.Sort.grow (redrawn wc dq) osq = w2 at hq2 ⊢
      clear ei' eq' ej' ew hn0 hw0 k0 k1
      replace hW := hW.trans (Below.mono hq2 hW.size)
      replace hI := (hI.below hq2).more (Below.size hq2)
      replace x0 := cellB hq2 x0
      replace x1 := cellB hq2 x1
      go_wp2_with fail
      refine (ImagePut_c wd _ ns hi i j hxi hxj true _ hI).mono ?_
      rintro e wc ⟨g, c, rfl, hg, hr, hb⟩
      replace hW := hW.trans (Below.mono hb hW.size)
      replace hI := (hI.below hb).more (Below.size hb)
      replace x0 := cellB hb x0
      replace x1 := cellB hb x1
      have hi2 := vimg_putL hi hxi hxj true
      have hlen2 : (putL ns i j true).length = ns.length := length_putL _ _ _ _
      obtain ⟨ms, em⟩ : ∃ ms, ms = putL ns i j true := ⟨_, rfl⟩
      rw [← em] at hr hi2 hlen2
      have HM := Lib.hid em
      have HL2 := Lib.hid hlen2
      clear em hlen2
      obtain ⟨W3, e_W3⟩ : ∃ W0, W0 = World.alloc wc (.cells #[.int .i64 (wd : Int), .slice (some ⟨g, 0, none⟩) ns.length c] 27) := ⟨_, rfl⟩
      have hx_W3 := Box2.new wc (.int .i64 (wd : Int)) (.slice (some ⟨g, 0, none⟩) ns.length c) 27
      have hb_W3 : Below (World.heap wc).size wc W3 := by rw [e_W3]; go_grown
      have HS_W3 := Lib.hid (show (World.heap W3).size = (World.heap wc).size + 1 by rw [e_W3]; simp)
      replace hW := hW.trans (Below.mono hb_W3 hW.size)
      replace hI := (hI.below hb_W3).more (Below.size hb_W3)
      replace x0 := cellB hb_W3 x0
      replace x1 := cellB hb_W3 x1
      replace hr := hr.below hb_W3 hr.lt
      have HE_W3 := Lib.hid e_W3
      clear e_W3
      go_wp2_with fail
      rw [← HE_W3.out] at hx_W3 ⊢
      clear HE_W3
      obtain ⟨hl_y, y0, y1⟩ := hx_W3
      obtain ⟨By, e_By⟩ : ∃ Bx, Bx = (World.heap wc).size := ⟨_, rfl⟩
      rw [← e_By] at hl_y y0 y1 hb_W3 HS_W3  ⊢
      have hz_By := hb_W3.size
      clear e_By hb_W3
      refine (ImageParts_c (wd : Int) _ (casts ms) W3 (hr.intsH HL2.out)).mono ?_
      rintro e wc ⟨rfl, hb⟩
      replace hW := hW.trans (Below.mono hb hW.size)
      replace hI := (hI.below hb).more (Below.size hb)
      replace x0 := cellB hb x0
      replace x1 := cellB hb x1
      replace hr := hr.below hb hr.lt
      replace y0 := cellB hb y0
      replace y1 := cellB hb y1
      rw [onImg_yes hi2]
      have hbb := parts_bd hi2
      obtain ⟨b, eb⟩ : ∃ b, b = partsN wd ms := ⟨_, rfl⟩
      rw [← eb] at hbb ⊢
      cases hcell : cell ns i j with
      | true =>
        have hm : ms = ns := HM.out.trans (putL_same hxi hcell)
        have hba : b - a = 0 := by rw [eb, hm, HA.out]; omega
        have HC := Lib.hid hcell
        obtain rfl : b = a := by omega
        clear hcell hm eb hba
        have HI := ImageHas_v wd _ ns hi i j _ hI
        rw [cellZ_nat, HC.out] at HI
        go_wp2_with (go_at_call 25; refine HI.mono ?_; rintro e wc ⟨rfl, hb⟩)
        go_returns
        exact ⟨rfl, hW.trans (hb.mono hW.size)⟩
      | false =>
        have hpp := parts_put hi hxi hxj hcell
        rw [← HM.out, ← eb, ← HA.out] at hpp
        have HC := Lib.hid hcell
        have HI := ImageHas_v wd _ ns hi i j _ hI
        rw [cellZ_nat, hcell] at HI
        clear hcell eb
        go_wp2_with (go_at_call 25; refine HI.mono ?_; rintro e wc ⟨rfl, hb⟩)
        go_returns
        exact ⟨rfl, hW.trans (hb.mono hW.size)⟩
end Go.Proofs.Ytbblbdacdpokeaa
