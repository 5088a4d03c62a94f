/- The law that a part of a part is the part: it returns true at whatever code. Conditions: the code's slice can be read. -/
import Derived.Test.YtbblbdacdpokeaaEU
import Derived.Test.YtbblbdacdpokeaaLPart
import Derived.Test.YtbblbdacdpokeaaLHoles
namespace Go.Proofs.Ytbblbdacdpokeaa
open Go.RowKit
open Gr
theorem part_part {n : Nat} {ns ms : List Nat} (hV : VImg n ns) {a b : Nat} (hc : cell ns a b = true) (hm : ms = compL (cell ns) false ns.length n (a, b)) : compL (cell ms) false ms.length n (a, b) = ms := by
  have hS := (sized_img hV).inside
  have hl : ms.length = ns.length := by rw [hm]; exact length_comp _
  have hin : Inside ns.length n (cell ms) := fun i j h => by
    rw [hm, cell_comp hS hc] at h
    exact hS _ _ (h.mem hc)
  have hcm : cell ms a b = true := by rw [hm, cell_comp hS hc]; exact .refl
  rw [hl]
  refine Sized.ext (h := ns.length) (w := n) sized_mk (by rw [hm]; exact sized_mk) fun i j hi hj => ?_
  rw [Bool.eq_iff_iff, cell_comp hin (c := (a, b)) hcm]
  have h2 := comp_reach (near := false) hS (c := (a, b)) hc (a := a) (b := b) (k := i) (l := j) .refl
  rw [← hm] at h2
  rw [h2, hm, cell_comp hS hc]
set_option maxRecDepth 100000 in
set_option maxHeartbeats 4000000 in
theorem partPart_walk (A : Option Addr) (len cap : Nat) (hlc : len ≤ cap) (w : World) (hc : Code8 w w.heap.size A len) :
    Calls Try.prog 12 #[.slice A len cap] w fun e w' => e = .returned (.bool true) ∧ Below w.heap.size w w' := by
  by_cases hbig : 1048576 < len
  · go_enter Try.func12, Try.ntmps12
    go_wp2
    go_returns
    exact ⟨rfl, Below.refl _ _⟩
  · go_enter Try.func12, Try.ntmps12
    go_wp2_with fail
    refine (DrawImagePart_c A len cap hlc w hc).mono ?_
    rintro e wc ⟨W, v, rows, i, j, rfl, hI, hl6, hW⟩
    obtain ⟨B, cp, rfl⟩ := hI.len
    obtain ⟨W1, e_W1⟩ : ∃ W0, W0 = World.alloc wc (.cells #[.int .i64 W, .slice B rows.length cp] 27) := ⟨_, rfl⟩
    have hx_W1 := Box2.new wc (.int .i64 W) (.slice B rows.length cp) 27
    have hb_W1 : Below (World.heap wc).size wc W1 := by rw [e_W1]; go_grown
    replace hW := hW.trans (Below.mono hb_W1 hW.size)
    replace hI := (hI.below hb_W1).more (Below.size hb_W1)
    have HE_W1 := Lib.hid e_W1
    clear e_W1
    go_wp2_with fail
    rw [← HE_W1.out] at hx_W1 ⊢
    clear HE_W1
    obtain ⟨hl_x, x0, x1⟩ := hx_W1
    obtain ⟨Bx, e_Bx⟩ : ∃ Bx, Bx = (World.heap wc).size := ⟨_, rfl⟩
    rw [← e_Bx] at hl_x x0 x1 hb_W1  ⊢
    have hz_Bx := hb_W1.size
    clear e_Bx hb_W1
    cases hhas : hasZ W rows i j with
    | false =>
      refine (ImagePart_no W _ rows i j hhas W1 hI).mono ?_
      rintro e wc ⟨rfl, hb⟩
      replace hW := hW.trans (Below.mono hb hW.size)
      replace hI := (hI.below hb).more (Below.size hb)
      replace x0 := cellB hb x0
      replace x1 := cellB hb x1
      obtain ⟨W3, e_W3⟩ : ∃ W0, W0 = World.alloc wc (.cells #[.int .i64 0, .slice none 0 0] 27) := ⟨_, rfl⟩
      have hx_W3 := Box2.new wc (.int .i64 0) (.slice none 0 0) 27
      have hb_W3 : Below (World.heap wc).size wc W3 := by rw [e_W3]; go_grown
      replace hW := hW.trans (Below.mono hb_W3 hW.size)
      replace hI := (hI.below hb_W3).more (Below.size hb_W3)
      replace x0 := cellB hb_W3 x0
      replace x1 := cellB hb_W3 x1
      have x0r := x0
      rw [e_W3] at x0r
      have x1r := x1
      rw [e_W3] at x1r
      have HE_W3 := Lib.hid e_W3
      clear e_W3
      go_wp2_with fail
      rw [← HE_W3.out] at hx_W3 ⊢
      clear x0r x1r
      clear HE_W3
      obtain ⟨hl_y, y0, y1⟩ := hx_W3
      obtain ⟨By, e_By⟩ : ∃ Bx, Bx = (World.heap wc).size := ⟨_, rfl⟩
      rw [← e_By] at hl_y y0 y1 hb_W3  ⊢
      have hz_By := hb_W3.size
      clear e_By hb_W3
      refine (sImagePart_no W _ rows i j hhas W3 hI).mono ?_
      rintro e wc ⟨rfl, hb⟩
      replace hW := hW.trans (Below.mono hb hW.size)
      replace hI := (hI.below hb).more (Below.size hb)
      replace x0 := cellB hb x0
      replace x1 := cellB hb x1
      replace y0 := cellB hb y0
      replace y1 := cellB hb y1
      clear hhas
      obtain ⟨W5, e_W5⟩ : ∃ W0, W0 = World.alloc wc (.cells #[.int .i64 0, .slice none 0 0] 27) := ⟨_, rfl⟩
      have hx_W5 := Box2.new wc (.int .i64 0) (.slice none 0 0) 27
      have hb_W5 : Below (World.heap wc).size wc W5 := by rw [e_W5]; go_grown
      replace hW := hW.trans (Below.mono hb_W5 hW.size)
      replace hI := (hI.below hb_W5).more (Below.size hb_W5)
      replace x0 := cellB hb_W5 x0
      replace x1 := cellB hb_W5 x1
      replace y0 := cellB hb_W5 y0
      replace y1 := cellB hb_W5 y1
      have y0r := y0
      rw [e_W5] at y0r
      have y1r := y1
      rw [e_W5] at y1r
      have HE_W5 := Lib.hid e_W5
      clear e_W5
      go_wp2_with fail
      rw [← HE_W5.out] at hx_W5 ⊢
      clear y0r y1r
      clear HE_W5
      obtain ⟨hl_z, z0, z1⟩ := hx_W5
      obtain ⟨Bz, e_Bz⟩ : ∃ Bx, Bx = (World.heap wc).size := ⟨_, rfl⟩
      rw [← e_Bz] at hl_z z0 z1 hb_W5  ⊢
      have hz_Bz := hb_W5.size
      clear e_Bz hb_W5
      refine (sameImage_c 0 0 _ _ [] [] (by simp) W5 (.inl ⟨rfl, none, 0, rfl⟩) (.inl ⟨rfl, none, 0, rfl⟩)).mono ?_
      rintro e wc ⟨rfl, hb⟩
      replace hW := hW.trans (Below.mono hb hW.size)
      replace hI := (hI.below hb).more (Below.size hb)
      replace x0 := cellB hb x0
      replace x1 := cellB hb x1
      replace y0 := cellB hb y0
      replace y1 := cellB hb y1
      replace z0 := cellB hb z0
      replace z1 := cellB hb z1
      simp only [decide_true, and_self]
      go_wp2_with fail
      refine (sameImage_c 0 0 _ _ [] [] (by simp) _ (.inl ⟨rfl, none, 0, rfl⟩) (.inl ⟨rfl, none, 0, rfl⟩)).mono ?_
      rintro e wc ⟨rfl, hb⟩
      replace hW := hW.trans (Below.mono hb hW.size)
      replace hI := (hI.below hb).more (Below.size hb)
      replace x0 := cellB hb x0
      replace x1 := cellB hb x1
      replace y0 := cellB hb y0
      replace y1 := cellB hb y1
      replace z0 := cellB hb z0
      replace z1 := cellB hb z1
      simp only [decide_true, and_self]
      go_wp2
      go_returns
      exact ⟨rfl, hW⟩
    | true =>
      obtain ⟨n, ns, a, b, rfl, rfl, rfl, rfl, hV, ha, hb', hc'⟩ := hasZ_yes hhas
      rw [length_casts] at x1 hI ⊢
      have h1 := hV.h1
      have h6 := hV.h6
      have w1 := hV.w1
      have w6 := hV.w6
      have hms : VImg n (compL (cell ns) false ns.length n (a, b)) := Sized.vimg sized_mk h1 h6 w1 w6
      have hml : (compL (cell ns) false ns.length n (a, b)).length = ns.length := length_comp _
      have HC := Lib.hid hc'
      have G1 := ImagePart_yes n _ ns hV a b hc' W1 hI
      have G2 := fun W h => sImagePart_yes n (.slice B ns.length cp) ns hV a b hc' W h
      obtain ⟨ms, em⟩ : ∃ ms, ms = compL (cell ns) false ns.length n (a, b) := ⟨_, rfl⟩
      rw [← em] at hms hml G1
      simp only [← em] at G2
      have HM := Lib.hid em
      have HML := Lib.hid hml
      clear hhas hc' em hml
      refine G1.mono ?_
      rintro e wc ⟨g, c, rfl, hg, hr, hb⟩
      rw [HML.out]
      clear G1
      replace hW := hW.trans (Below.mono hb hW.size)
      replace hI := (hI.below hb).more (Below.size hb)
      replace x0 := cellB hb x0
      replace x1 := cellB hb x1
      obtain ⟨W3, e_W3⟩ : ∃ W0, W0 = World.alloc wc (.cells #[.int .i64 (n : Int), .slice (some ⟨g, 0, none⟩) ns.length c] 27) := ⟨_, rfl⟩
      have hx_W3 := Box2.new wc (.int .i64 (n : Int)) (.slice (some ⟨g, 0, none⟩) ns.length c) 27
      have hb_W3 : Below (World.heap wc).size wc W3 := by rw [e_W3]; go_grown
      replace hW := hW.trans (Below.mono hb_W3 hW.size)
      replace hI := (hI.below hb_W3).more (Below.size hb_W3)
      replace x0 := cellB hb_W3 x0
      replace x1 := cellB hb_W3 x1
      replace hr := hr.below hb_W3 hr.lt
      have x0r := x0
      rw [e_W3] at x0r
      have x1r := x1
      rw [e_W3] at x1r
      have HE_W3 := Lib.hid e_W3
      clear e_W3
      go_wp2_with fail
      rw [← HE_W3.out] at hx_W3 ⊢
      clear x0r x1r
      clear HE_W3
      obtain ⟨hl_y, y0, y1⟩ := hx_W3
      obtain ⟨By, e_By⟩ : ∃ Bx, Bx = (World.heap wc).size := ⟨_, rfl⟩
      rw [← e_By] at hl_y y0 y1 hb_W3  ⊢
      have hz_By := hb_W3.size
      clear e_By hb_W3
      refine (G2 W3 hI).mono ?_
      rintro e wc ⟨g', c', rfl, hg', hr', hb⟩
      rw [HML.out]
      clear G2
      replace hW := hW.trans (Below.mono hb hW.size)
      replace hI := (hI.below hb).more (Below.size hb)
      replace x0 := cellB hb x0
      replace x1 := cellB hb x1
      replace hr := hr.below hb hr.lt
      replace y0 := cellB hb y0
      replace y1 := cellB hb y1
      obtain ⟨W5, e_W5⟩ : ∃ W0, W0 = World.alloc wc (.cells #[.int .i64 (n : Int), .slice (some ⟨g', 0, none⟩) ns.length c'] 27) := ⟨_, rfl⟩
      have hx_W5 := Box2.new wc (.int .i64 (n : Int)) (.slice (some ⟨g', 0, none⟩) ns.length c') 27
      have hb_W5 : Below (World.heap wc).size wc W5 := by rw [e_W5]; go_grown
      replace hW := hW.trans (Below.mono hb_W5 hW.size)
      replace hI := (hI.below hb_W5).more (Below.size hb_W5)
      replace x0 := cellB hb_W5 x0
      replace x1 := cellB hb_W5 x1
      replace hr := hr.below hb_W5 hr.lt
      replace y0 := cellB hb_W5 y0
      replace y1 := cellB hb_W5 y1
      replace hr' := hr'.below hb_W5 hr'.lt
      have y0r := y0
      rw [e_W5] at y0r
      have y1r := y1
      rw [e_W5] at y1r
      have HE_W5 := Lib.hid e_W5
      clear e_W5
      go_wp2_with fail
      rw [← HE_W5.out] at hx_W5 ⊢
      clear y0r y1r
      clear HE_W5
      obtain ⟨hl_z, z0, z1⟩ := hx_W5
      obtain ⟨Bz, e_Bz⟩ : ∃ Bx, Bx = (World.heap wc).size := ⟨_, rfl⟩
      rw [← e_Bz] at hl_z z0 z1 hb_W5  ⊢
      have hz_Bz := hb_W5.size
      clear e_Bz hb_W5
      refine (sameImage_c (n : Int) n _ _ (casts ms) (casts ms) (by rw [length_casts, HML.out]; omega) W5 (hr.intsH HML.out) (hr'.intsH HML.out)).mono ?_
      rintro e wc ⟨rfl, hb⟩
      replace hW := hW.trans (Below.mono hb hW.size)
      replace hI := (hI.below hb).more (Below.size hb)
      replace x0 := cellB hb x0
      replace x1 := cellB hb x1
      replace hr := hr.below hb hr.lt
      replace y0 := cellB hb y0
      replace y1 := cellB hb y1
      replace hr' := hr'.below hb hr'.lt
      replace z0 := cellB hb z0
      replace z1 := cellB hb z1
      simp only [decide_true, and_self]
      clear hg hg' hb' hr' z0 z1
      have hhere := part_here hV HC.out HM.out
      rw [cellZ_nat] at hhere
      have hpp := part_part hV HC.out HM.out
      have hone := part_one hV HC.out HM.out
      have he := eul_parts hms
      rw [hone] at he
      have hh1 : 0 ≤ holesN n ms := by unfold holesN; omega
      have hh2 : holesN n ms ≤ 42 := by have := (onHoles_bd n (casts ms)).2; rwa [onImg_yes hms] at this
      have G3 := ImagePart_yes n _ ms hms a b hhere _ (hr.intsH (c := c) HML.out)
      rw [hpp] at G3
      have HS := Lib.hid (And.intro he (And.intro hh1 hh2))
      clear hhere hpp hone he hh1 hh2
      go_wp2_with fail
      refine G3.mono ?_
      rintro e wc ⟨g3, c3, rfl, hg3, hr3, hb⟩
      rw [HML.out]
      clear G3
      replace hW := hW.trans (Below.mono hb hW.size)
      replace hI := (hI.below hb).more (Below.size hb)
      replace x0 := cellB hb x0
      replace x1 := cellB hb x1
      replace hr := hr.below hb hr.lt
      replace y0 := cellB hb y0
      replace y1 := cellB hb y1
      obtain ⟨W7, e_W7⟩ : ∃ W0, W0 = World.alloc wc (.cells #[.int .i64 (n : Int), .slice (some ⟨g3, 0, none⟩) ns.length c3] 27) := ⟨_, rfl⟩
      have hx_W7 := Box2.new wc (.int .i64 (n : Int)) (.slice (some ⟨g3, 0, none⟩) ns.length c3) 27
      have hb_W7 : Below (World.heap wc).size wc W7 := by rw [e_W7]; go_grown
      replace hW := hW.trans (Below.mono hb_W7 hW.size)
      replace hI := (hI.below hb_W7).more (Below.size hb_W7)
      replace x0 := cellB hb_W7 x0
      replace x1 := cellB hb_W7 x1
      replace hr := hr.below hb_W7 hr.lt
      replace y0 := cellB hb_W7 y0
      replace y1 := cellB hb_W7 y1
      replace hr3 := hr3.below hb_W7 hr3.lt
      have y0r := y0
      rw [e_W7] at y0r
      have y1r := y1
      rw [e_W7] at y1r
      have HE_W7 := Lib.hid e_W7
      clear e_W7
      go_wp2_with fail
      rw [← HE_W7.out] at hx_W7 ⊢
      clear y0r y1r
      clear HE_W7
      obtain ⟨hl_u, u0, u1⟩ := hx_W7
      obtain ⟨Bu, e_Bu⟩ : ∃ Bx, Bx = (World.heap wc).size := ⟨_, rfl⟩
      rw [← e_Bu] at hl_u u0 u1 hb_W7  ⊢
      have hz_Bu := hb_W7.size
      clear e_Bu hb_W7
      obtain ⟨he, hh1, hh2⟩ := HS.out
      have HI1 := hr.intsH (c := c) HML.out
      have HI3 := hr3.intsH (c := c3) HML.out
      have S0 := fun d os => sameImage_c (n : Int) n _ _ (casts ms) (casts ms) (by rw [length_casts, HML.out]; omega) _ ((HI3.rg (Nat.le_refl _) d os).more (rg_size _ d os)) ((HI1.rg (Nat.le_refl _) d os).more (rg_size _ d os))
      have E0 := fun d os => ImageEuler_yes n _ ms hms _ ((HI1.rg (Nat.le_refl _) d os).more (rg_size _ d os))
      have H0 := fun d os => ImageHoles_c (n : Int) _ _ _ ((HI1.rg (Nat.le_refl _) d os).more (rg_size _ d os))
      simp only [onImg_yes hms] at H0
      simp only [decide_true, and_self] at S0
      rw [he] at E0
      obtain ⟨hn, eh⟩ : ∃ h, h = holesN n ms := ⟨_, rfl⟩
      simp only [← eh] at H0 E0
      rw [← eh] at hh1 hh2
      clear he eh
      have k0 := cell_regrown y0
      have k1 := cell_regrown y1
      have k2 := cell_regrown u0
      have k3 := cell_regrown u1
      have ew : IntKind.i64.wrap (1 - hn) = 1 - hn := IntWalk.i64_in _ ⟨by omega, by omega⟩
      refine wp_region_quiet_below (by kernel_rfl) (by kernel_rfl) ?_
      repeat (first | go_big_quiet_step (first | (go_at_call 29; with_reducible exact Calls.rg (S0 _ _)) | (go_at_call 35; with_reducible exact Calls.rg (E0 _ _)) | (go_at_call 19; with_reducible exact Calls.rg (H0 _ _))) | quiet_step (first | (go_at_call 29; with_reducible exact Calls.rg (S0 _ _)) | (go_at_call 35; with_reducible exact Calls.rg (E0 _ _)) | (go_at_call 19; with_reducible exact Calls.rg (H0 _ _))))
      refine wpQuiet_nil ?_
      intro _ hw0
      obtain ⟨⟨dq, osq⟩, hw1⟩ := hw0
      subst hw1
      have hq := below_regrown W7 dq osq
      generalize Go.Sort.grow (redrawn W7 dq) osq = w9 at hq ⊢
      have hW := hW.trans (hq.mono hW.size)
      clear k0 k1 k2 k3 hI S0 H0 E0 ew HI1 HI3 hr hr3
      go_wp2
      go_returns
      exact ⟨rfl, hW⟩
end Go.Proofs.Ytbblbdacdpokeaa
