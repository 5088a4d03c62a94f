/- The law that filling has both directions: it returns true at whatever code. Conditions: the code's slice can be read. -/
import Derived.Test.YtehoaagnpidnbaaFJ
import Derived.Test.YtehoaagnpidnbaaFPE
import Derived.Test.YtehoaagnpidnbaaK6
import Derived.Test.YtehoaagnpidnbaaKU
namespace Go.Proofs.Ytehoaagnpidnbaa
open Go.RowKit
set_option maxRecDepth 100000 in
set_option maxHeartbeats 4000000 in
theorem fillTurn_walk (A : Option Addr) (len cap : Nat) (hlc : len ≤ cap) (w : World) (hc : Code8 w w.heap.size A len) :
    Calls Try.prog 6 #[.slice A len cap] w fun e w' => e = .returned (.bool true) ∧ Below w.heap.size w w' := by
  by_cases hbig : 1048576 < len
  · go_enter Try.func6, Try.ntmps6
    go_wp2
    go_returns
    exact ⟨rfl, Below.refl _ _⟩
  · go_enter Try.func6, Try.ntmps6
    go_wp2_with fail
    refine (DrawFillImage_c A len cap hlc w hc).mono ?_
    rintro e wc ⟨u, v, rs, cs, rfl, hI, hJ, hr12, hc12, hW⟩
    obtain ⟨B, bp, rfl⟩ := hI.len
    obtain ⟨C, cp, rfl⟩ := hJ.len
    go_wp2_with fail
    cases hsv : svB rs cs with
    | false =>
      have HO : Hid (filO rs cs = none) := by unfold filO; rw [hsv]; rfl
      clear hsv
      refine (FillImage_o _ _ rs cs (by omega) (by omega) _ hI hJ).mono ?_
      intro e wc hF
      rw [HO.out] at hF
      obtain ⟨rfl, hb⟩ := hF.no
      replace hW := hW.trans (Below.mono hb hW.size)
      replace hI := (hI.below hb).more (Below.size hb)
      replace hJ := (hJ.below hb).more (Below.size hb)
      obtain ⟨W1, e_W1⟩ : ∃ W0, W0 = World.alloc wc (.cells #[.int .i64 0, .slice none 0 0] 24) := ⟨_, rfl⟩
      have hx_W1 := Box2.new wc (.int .i64 0) (.slice none 0 0) 24
      have hb_W1 : Below (World.heap wc).size wc W1 := by rw [e_W1]; go_grown
      have HS_W1 := Lib.hid (show (World.heap W1).size = (World.heap wc).size + 1 by rw [e_W1]; simp)
      replace hW := hW.trans (Below.mono hb_W1 hW.size)
      replace hI := (hI.below hb_W1).more (Below.size hb_W1)
      replace hJ := (hJ.below hb_W1).more (Below.size hb_W1)
      have HE_W1 := Lib.hid e_W1
      clear e_W1
      go_wp2_with fail
      rw [← HE_W1.out] at hx_W1 ⊢
      clear HE_W1
      obtain ⟨hl_y, y0, y1⟩ := hx_W1
      obtain ⟨By, e_By⟩ : ∃ Bx, Bx = (World.heap wc).size := ⟨_, rfl⟩
      rw [← e_By] at hl_y y0 y1 hb_W1 HS_W1  ⊢
      have hz_By := hb_W1.size
      clear e_By hb_W1
      refine (sFillImage_o _ _ rs cs (by omega) (by omega) _ hI hJ).mono ?_
      intro e wc hF
      rw [HO.out] at hF
      obtain ⟨rfl, hb⟩ := hF.no
      replace hW := hW.trans (Below.mono hb hW.size)
      replace hI := (hI.below hb).more (Below.size hb)
      replace hJ := (hJ.below hb).more (Below.size hb)
      replace y0 := cellB hb y0
      replace y1 := cellB hb y1
      obtain ⟨W3, e_W3⟩ : ∃ W0, W0 = World.alloc wc (.cells #[.int .i64 0, .slice none 0 0] 24) := ⟨_, rfl⟩
      have hx_W3 := Box2.new wc (.int .i64 0) (.slice none 0 0) 24
      have hb_W3 : Below (World.heap wc).size wc W3 := by rw [e_W3]; go_grown
      have HS_W3 := Lib.hid (show (World.heap W3).size = (World.heap wc).size + 1 by rw [e_W3]; simp)
      replace hW := hW.trans (Below.mono hb_W3 hW.size)
      replace hI := (hI.below hb_W3).more (Below.size hb_W3)
      replace hJ := (hJ.below hb_W3).more (Below.size hb_W3)
      replace y0 := cellB hb_W3 y0
      replace y1 := cellB hb_W3 y1
      have y0r := y0
      rw [e_W3] at y0r
      have y1r := y1
      rw [e_W3] at y1r
      have HE_W3 := Lib.hid e_W3
      clear e_W3
      go_wp2_with fail
      rw [← HE_W3.out] at hx_W3 ⊢
      clear y0r y1r
      clear HE_W3
      obtain ⟨hl_u, u0, u1⟩ := hx_W3
      obtain ⟨Bu, e_Bu⟩ : ∃ Bx, Bx = (World.heap wc).size := ⟨_, rfl⟩
      rw [← e_Bu] at hl_u u0 u1 hb_W3 HS_W3  ⊢
      have hz_Bu := hb_W3.size
      clear e_Bu hb_W3
      refine (sameImage_c 0 0 _ _ [] [] (by simp) _ (.inl ⟨rfl, none, 0, rfl⟩) (.inl ⟨rfl, none, 0, rfl⟩)).mono ?_
      rintro e wc ⟨rfl, hb⟩
      replace hW := hW.trans (Below.mono hb hW.size)
      replace hI := (hI.below hb).more (Below.size hb)
      replace hJ := (hJ.below hb).more (Below.size hb)
      replace y0 := cellB hb y0
      replace y1 := cellB hb y1
      replace u0 := cellB hb u0
      replace u1 := cellB hb u1
      simp only [decide_true, and_self]
      go_wp2_with fail
      refine (sameImage_c 0 0 _ _ [] [] (by simp) _ (.inl ⟨rfl, none, 0, rfl⟩) (.inl ⟨rfl, none, 0, rfl⟩)).mono ?_
      rintro e wc ⟨rfl, hb⟩
      replace hW := hW.trans (Below.mono hb hW.size)
      replace hI := (hI.below hb).more (Below.size hb)
      replace hJ := (hJ.below hb).more (Below.size hb)
      replace y0 := cellB hb y0
      replace y1 := cellB hb y1
      replace u0 := cellB hb u0
      replace u1 := cellB hb u1
      simp only [decide_true, and_self]
      go_wp2
      go_returns
      exact ⟨rfl, hW⟩
    | true =>
      have hS := svB_yes hsv
      have ho : filO rs cs = some (fillO rs cs) := by unfold filO; rw [if_pos hsv]
      have hnl := fil_len ho
      have hV := (fillO_fit hS).1.img hS
      have HSM := Lib.hid hS
      have HSV := Lib.hid hsv
      have h1 := hS.h1
      have h6 := hS.h6
      have w1 := hS.w1
      have w6 := hS.w6
      obtain ⟨ns, ens⟩ : ∃ ns, ns = fillO rs cs := ⟨_, rfl⟩
      rw [← ens] at ho hnl hV
      have HNS := Lib.hid ens
      have HO := Lib.hid ho
      have HLC := Lib.hid (length_casts ns)
      have n20 : ns.length ≤ 2097152 := by omega
      have HNL := Lib.hid hnl
      clear ho ens hsv hS hnl
      refine (FillImage_o _ _ rs cs (by omega) (by omega) _ hI hJ).mono ?_
      intro e wc hF
      rw [HO.out] at hF
      obtain ⟨gr, cr, rfl, hgr, hrr, hb⟩ := hF.img
      clear hgr
      replace hW := hW.trans (Below.mono hb hW.size)
      replace hI := (hI.below hb).more (Below.size hb)
      replace hJ := (hJ.below hb).more (Below.size hb)
      obtain ⟨W1, e_W1⟩ : ∃ W0, W0 = World.alloc wc (.cells #[.int .i64 (cs.length : Int), .slice (some ⟨gr, 0, none⟩) ns.length cr] 24) := ⟨_, rfl⟩
      have hx_W1 := Box2.new wc (.int .i64 (cs.length : Int)) (.slice (some ⟨gr, 0, none⟩) ns.length cr) 24
      have hb_W1 : Below (World.heap wc).size wc W1 := by rw [e_W1]; go_grown
      have HS_W1 := Lib.hid (show (World.heap W1).size = (World.heap wc).size + 1 by rw [e_W1]; simp)
      replace hW := hW.trans (Below.mono hb_W1 hW.size)
      replace hI := (hI.below hb_W1).more (Below.size hb_W1)
      replace hJ := (hJ.below hb_W1).more (Below.size hb_W1)
      replace hrr := hrr.below hb_W1 hrr.lt
      have HE_W1 := Lib.hid e_W1
      clear e_W1
      go_wp2_with fail
      rw [← HE_W1.out] at hx_W1 ⊢
      clear HE_W1
      obtain ⟨hl_y, y0, y1⟩ := hx_W1
      obtain ⟨By, e_By⟩ : ∃ Bx, Bx = (World.heap wc).size := ⟨_, rfl⟩
      rw [← e_By] at hl_y y0 y1 hb_W1 HS_W1  ⊢
      have hz_By := hb_W1.size
      clear e_By hb_W1
      refine (sFillImage_o _ _ rs cs (by omega) (by omega) _ hI hJ).mono ?_
      intro e wc hF
      rw [HO.out] at hF
      obtain ⟨gw, cw, rfl, hgw, hrw, hb⟩ := hF.img
      clear hgw
      replace hW := hW.trans (Below.mono hb hW.size)
      replace hI := (hI.below hb).more (Below.size hb)
      replace hJ := (hJ.below hb).more (Below.size hb)
      replace hrr := hrr.below hb hrr.lt
      replace y0 := cellB hb y0
      replace y1 := cellB hb y1
      obtain ⟨W3, e_W3⟩ : ∃ W0, W0 = World.alloc wc (.cells #[.int .i64 (cs.length : Int), .slice (some ⟨gw, 0, none⟩) ns.length cw] 24) := ⟨_, rfl⟩
      have hx_W3 := Box2.new wc (.int .i64 (cs.length : Int)) (.slice (some ⟨gw, 0, none⟩) ns.length cw) 24
      have hb_W3 : Below (World.heap wc).size wc W3 := by rw [e_W3]; go_grown
      have HS_W3 := Lib.hid (show (World.heap W3).size = (World.heap wc).size + 1 by rw [e_W3]; simp)
      replace hW := hW.trans (Below.mono hb_W3 hW.size)
      replace hI := (hI.below hb_W3).more (Below.size hb_W3)
      replace hJ := (hJ.below hb_W3).more (Below.size hb_W3)
      replace hrr := hrr.below hb_W3 hrr.lt
      replace y0 := cellB hb_W3 y0
      replace y1 := cellB hb_W3 y1
      replace hrw := hrw.below hb_W3 hrw.lt
      have y0r := y0
      rw [e_W3] at y0r
      have y1r := y1
      rw [e_W3] at y1r
      have HE_W3 := Lib.hid e_W3
      clear e_W3
      go_wp2_with fail
      rw [← HE_W3.out] at hx_W3 ⊢
      clear y0r y1r
      clear HE_W3
      obtain ⟨hl_u, u0, u1⟩ := hx_W3
      obtain ⟨Bu, e_Bu⟩ : ∃ Bx, Bx = (World.heap wc).size := ⟨_, rfl⟩
      rw [← e_Bu] at hl_u u0 u1 hb_W3 HS_W3  ⊢
      have hz_Bu := hb_W3.size
      clear e_Bu hb_W3
      refine (sameImage_c (cs.length : Int) cs.length _ _ (casts ns) (casts ns) (by rw [HLC.out]; exact n20) _ (hrr.intsH rfl) (hrw.intsH rfl)).mono ?_
      rintro e wc ⟨rfl, hb⟩
      replace hW := hW.trans (Below.mono hb hW.size)
      replace hI := (hI.below hb).more (Below.size hb)
      replace hJ := (hJ.below hb).more (Below.size hb)
      replace hrr := hrr.below hb hrr.lt
      replace y0 := cellB hb y0
      replace y1 := cellB hb y1
      replace hrw := hrw.below hb hrw.lt
      replace u0 := cellB hb u0
      replace u1 := cellB hb u1
      simp only [decide_true, and_self]
      clear u0 u1 hrw
      go_wp2_with fail
      refine (ImageTurn_c cs.length _ ns hV _ (hrr.intsH rfl)).mono ?_
      rintro e wc ⟨gt, ct, rfl, hgt, hrt, hb⟩
      clear hgt
      replace hW := hW.trans (Below.mono hb hW.size)
      replace hI := (hI.below hb).more (Below.size hb)
      replace hJ := (hJ.below hb).more (Below.size hb)
      replace hrr := hrr.below hb hrr.lt
      replace y0 := cellB hb y0
      replace y1 := cellB hb y1
      obtain ⟨W5, e_W5⟩ : ∃ W0, W0 = World.alloc wc (.cells #[.int .i64 (ns.length : Int), .slice (some ⟨gt, 0, none⟩) cs.length ct] 24) := ⟨_, rfl⟩
      have hx_W5 := Box2.new wc (.int .i64 (ns.length : Int)) (.slice (some ⟨gt, 0, none⟩) cs.length ct) 24
      have hb_W5 : Below (World.heap wc).size wc W5 := by rw [e_W5]; go_grown
      have HS_W5 := Lib.hid (show (World.heap W5).size = (World.heap wc).size + 1 by rw [e_W5]; simp)
      replace hW := hW.trans (Below.mono hb_W5 hW.size)
      replace hI := (hI.below hb_W5).more (Below.size hb_W5)
      replace hJ := (hJ.below hb_W5).more (Below.size hb_W5)
      replace hrr := hrr.below hb_W5 hrr.lt
      replace y0 := cellB hb_W5 y0
      replace y1 := cellB hb_W5 y1
      replace hrt := hrt.below hb_W5 hrt.lt
      have y0r := y0
      rw [e_W5] at y0r
      have y1r := y1
      rw [e_W5] at y1r
      have HE_W5 := Lib.hid e_W5
      clear e_W5
      go_wp2_with fail
      rw [← HE_W5.out] at hx_W5 ⊢
      clear y0r y1r
      clear HE_W5
      obtain ⟨hl_z, z0, z1⟩ := hx_W5
      obtain ⟨Bz, e_Bz⟩ : ∃ Bx, Bx = (World.heap wc).size := ⟨_, rfl⟩
      rw [← e_Bz] at hl_z z0 z1 hb_W5 HS_W5  ⊢
      have hz_Bz := hb_W5.size
      clear e_Bz hb_W5
      have hOT : filO cs rs = some (fillO cs rs) := by unfold filO; rw [if_pos (svB_of HSM.out.turn)]
      obtain ⟨ms, ems⟩ : ∃ ms, ms = fillO cs rs := ⟨_, rfl⟩
      have hVm : VImg rs.length ms := by rw [ems]; exact (fillO_fit HSM.out.turn).1.img HSM.out.turn
      have hmm : mom rs.length ms one = fm rs cs := by rw [ems, fil_many HSM.out.turn, fm_turn]
      have hmn : mom cs.length ns one = fm rs cs := by rw [HNS.out, fil_many HSM.out]
      rw [← ems] at hOT
      have HOT := Lib.hid hOT
      have HMM := Lib.hid (And.intro hmm hmn)
      have HVM := Lib.hid hVm
      clear hOT ems hmm hmn hVm
      refine (FillImage_o _ _ cs rs (by omega) (by omega) _ hJ hI).mono ?_
      intro e wc hF
      rw [HOT.out] at hF
      obtain ⟨gc, cc, rfl, hgc, hrc, hb⟩ := hF.img
      clear hgc
      replace hW := hW.trans (Below.mono hb hW.size)
      replace hI := (hI.below hb).more (Below.size hb)
      replace hJ := (hJ.below hb).more (Below.size hb)
      replace hrr := hrr.below hb hrr.lt
      replace y0 := cellB hb y0
      replace y1 := cellB hb y1
      replace hrt := hrt.below hb hrt.lt
      replace z0 := cellB hb z0
      replace z1 := cellB hb z1
      obtain ⟨W7, e_W7⟩ : ∃ W0, W0 = World.alloc wc (.cells #[.int .i64 (rs.length : Int), .slice (some ⟨gc, 0, none⟩) ms.length cc] 24) := ⟨_, rfl⟩
      have hx_W7 := Box2.new wc (.int .i64 (rs.length : Int)) (.slice (some ⟨gc, 0, none⟩) ms.length cc) 24
      have hb_W7 : Below (World.heap wc).size wc W7 := by rw [e_W7]; go_grown
      have HS_W7 := Lib.hid (show (World.heap W7).size = (World.heap wc).size + 1 by rw [e_W7]; simp)
      replace hW := hW.trans (Below.mono hb_W7 hW.size)
      replace hI := (hI.below hb_W7).more (Below.size hb_W7)
      replace hJ := (hJ.below hb_W7).more (Below.size hb_W7)
      replace hrr := hrr.below hb_W7 hrr.lt
      replace y0 := cellB hb_W7 y0
      replace y1 := cellB hb_W7 y1
      replace hrt := hrt.below hb_W7 hrt.lt
      replace z0 := cellB hb_W7 z0
      replace z1 := cellB hb_W7 z1
      replace hrc := hrc.below hb_W7 hrc.lt
      have y0r := y0
      rw [e_W7] at y0r
      have y1r := y1
      rw [e_W7] at y1r
      have z0r := z0
      rw [e_W7] at z0r
      have z1r := z1
      rw [e_W7] at z1r
      have HE_W7 := Lib.hid e_W7
      clear e_W7
      go_wp2_with fail
      rw [← HE_W7.out] at hx_W7 ⊢
      clear y0r y1r z0r z1r
      clear HE_W7
      obtain ⟨hl_t, t0, t1⟩ := hx_W7
      obtain ⟨Bt, e_Bt⟩ : ∃ Bx, Bx = (World.heap wc).size := ⟨_, rfl⟩
      rw [← e_Bt] at hl_t t0 t1 hb_W7 HS_W7  ⊢
      have hz_Bt := hb_W7.size
      clear e_Bt hb_W7
      have hff : ffB (ns.length : Int) (casts (turnL cs.length ns)) cs rs = true := by
        have hfit : Fits cs.length ns rs cs := by rw [HNS.out]; exact fil_fits HSM.out
        exact ff_of hfit.turn
      have hlt : (casts (turnL cs.length ns)).length ≤ 2097152 := by rw [length_casts, len_mkT]; omega
      have F0 := fun d os => FillFits_c (ns.length : Int) _ _ _ (casts (turnL cs.length ns)) cs rs (by omega) (by omega) hlt (Go.Sort.grow (redrawn W7 d) os) (((hrt.intsH (h := cs.length) (c := ct) (len_mkT _ _)).rg (Nat.le_refl _) d os).more (rg_size W7 d os)) ((hJ.rg (Nat.le_refl _) d os).more (rg_size W7 d os)) ((hI.rg (Nat.le_refl _) d os).more (rg_size W7 d os))
      have M1 := fun d os => ImageMany_c (rs.length : Int) _ (casts ms) (Go.Sort.grow (redrawn W7 d) os) (((hrc.intsH (h := ms.length) (c := cc) rfl).rg (Nat.le_refl _) d os).more (rg_size W7 d os))
      have M2 := fun d os => ImageMany_c (cs.length : Int) _ (casts ns) (Go.Sort.grow (redrawn W7 d) os) (((hrr.intsH (h := ns.length) (c := cr) rfl).rg (Nat.le_refl _) d os).more (rg_size W7 d os))
      rw [hff] at F0
      rw [val0_yes HVM.out, HMM.out.1] at M1
      rw [val0_yes hV, HMM.out.2] at M2
      obtain ⟨M, eM⟩ : ∃ M, M = fm rs cs := ⟨_, rfl⟩
      rw [← eM] at M1 M2
      have k0 := cell_regrown y0
      have k1 := cell_regrown y1
      have k2 := cell_regrown z0
      have k3 := cell_regrown z1
      have k4 := cell_regrown t0
      have k5 := cell_regrown t1
      clear hff hlt eM HMM
      refine wp_region_quiet_below (by kernel_rfl) (by kernel_rfl) ?_
      repeat (first | go_big_quiet_step (first | (go_at_call 16; with_reducible exact Calls.rg (F0 _ _)) | (go_at_call 18; first | with_reducible exact Calls.rg (M1 _ _) | with_reducible exact Calls.rg (M2 _ _))) | quiet_step (first | (go_at_call 16; with_reducible exact Calls.rg (F0 _ _)) | (go_at_call 18; first | with_reducible exact Calls.rg (M1 _ _) | with_reducible exact Calls.rg (M2 _ _))))
      refine wpQuiet_nil ?_
      intro _ hw0
      obtain ⟨⟨dq, osq⟩, hw1⟩ := hw0
      subst hw1
      have hq := below_regrown W7 dq osq
      generalize Go.Sort.grow (redrawn W7 dq) osq = w9 at hq ⊢
      clear k0 k1 k2 k3 k4 k5 F0 M1 M2
      go_wp2
      go_returns
      exact ⟨rfl, hW.trans (hq.mono hW.size)⟩
end Go.Proofs.Ytehoaagnpidnbaa
