/- The law that no image fills more: it returns true at whatever code. Conditions: the code's slice can be read. -/
import Derived.Test.YtehoaagnpidnbaaFJ
import Derived.Test.YtehoaagnpidnbaaFPE
import Derived.Test.YtehoaagnpidnbaaK6
import Derived.Test.YtehoaagnpidnbaaKZ
namespace Go.Proofs.Ytehoaagnpidnbaa
open Go.RowKit
set_option maxRecDepth 100000 in
set_option maxHeartbeats 4000000 in
theorem fillImageOther_walk (A : Option Addr) (len cap : Nat) (hlc : len ≤ cap) (w : World) (hc : Code8 w w.heap.size A len) :
    Calls Try.prog 5 #[.slice A len cap] w fun e w' => e = .returned (.bool true) ∧ Below w.heap.size w w' := by
  by_cases hbig : 1048576 < len
  · go_enter Try.func5, Try.ntmps5
    go_wp2
    go_returns
    exact ⟨rfl, Below.refl _ _⟩
  · go_enter Try.func5, Try.ntmps5
    go_wp2_with fail
    refine (DrawFillImage_c A len cap hlc w hc).mono ?_
    rintro e wc ⟨u, v, rs, cs, rfl, hI, hJ, hr12, hc12, hW⟩
    obtain ⟨B, bp, rfl⟩ := hI.len
    obtain ⟨C, cp, rfl⟩ := hJ.len
    go_wp2_with fail
    cases hsv : svB rs cs with
    | false =>
      have HO : Hid (filO rs cs = none) := by unfold filO; rw [hsv]; rfl
      clear hsv
      refine (FillImage_o _ _ rs cs (by omega) (by omega) _ hI hJ).mono ?_
      intro e wc hF
      rw [HO.out] at hF
      obtain ⟨rfl, hb⟩ := hF.no
      replace hW := hW.trans (Below.mono hb hW.size)
      replace hI := (hI.below hb).more (Below.size hb)
      replace hJ := (hJ.below hb).more (Below.size hb)
      obtain ⟨W1, e_W1⟩ : ∃ W0, W0 = World.alloc wc (.cells #[.int .i64 0, .slice none 0 0] 24) := ⟨_, rfl⟩
      have hx_W1 := Box2.new wc (.int .i64 0) (.slice none 0 0) 24
      have hb_W1 : Below (World.heap wc).size wc W1 := by rw [e_W1]; go_grown
      have HS_W1 := Lib.hid (show (World.heap W1).size = (World.heap wc).size + 1 by rw [e_W1]; simp)
      replace hW := hW.trans (Below.mono hb_W1 hW.size)
      replace hI := (hI.below hb_W1).more (Below.size hb_W1)
      replace hJ := (hJ.below hb_W1).more (Below.size hb_W1)
      have HE_W1 := Lib.hid e_W1
      clear e_W1
      go_wp2_with fail
      rw [← HE_W1.out] at hx_W1 ⊢
      clear HE_W1
      obtain ⟨hl_y, y0, y1⟩ := hx_W1
      obtain ⟨By, e_By⟩ : ∃ Bx, Bx = (World.heap wc).size := ⟨_, rfl⟩
      rw [← e_By] at hl_y y0 y1 hb_W1 HS_W1  ⊢
      have hz_By := hb_W1.size
      clear e_By hb_W1
      refine (sFillImage_o _ _ rs cs (by omega) (by omega) _ hI hJ).mono ?_
      intro e wc hF
      rw [HO.out] at hF
      obtain ⟨rfl, hb⟩ := hF.no
      replace hW := hW.trans (Below.mono hb hW.size)
      replace hI := (hI.below hb).more (Below.size hb)
      replace hJ := (hJ.below hb).more (Below.size hb)
      replace y0 := cellB hb y0
      replace y1 := cellB hb y1
      obtain ⟨W3, e_W3⟩ : ∃ W0, W0 = World.alloc wc (.cells #[.int .i64 0, .slice none 0 0] 24) := ⟨_, rfl⟩
      have hx_W3 := Box2.new wc (.int .i64 0) (.slice none 0 0) 24
      have hb_W3 : Below (World.heap wc).size wc W3 := by rw [e_W3]; go_grown
      have HS_W3 := Lib.hid (show (World.heap W3).size = (World.heap wc).size + 1 by rw [e_W3]; simp)
      replace hW := hW.trans (Below.mono hb_W3 hW.size)
      replace hI := (hI.below hb_W3).more (Below.size hb_W3)
      replace hJ := (hJ.below hb_W3).more (Below.size hb_W3)
      replace y0 := cellB hb_W3 y0
      replace y1 := cellB hb_W3 y1
      have y0r := y0
      rw [e_W3] at y0r
      have y1r := y1
      rw [e_W3] at y1r
      have HE_W3 := Lib.hid e_W3
      clear e_W3
      go_wp2_with fail
      rw [← HE_W3.out] at hx_W3 ⊢
      clear y0r y1r
      clear HE_W3
      obtain ⟨hl_u, u0, u1⟩ := hx_W3
      obtain ⟨Bu, e_Bu⟩ : ∃ Bx, Bx = (World.heap wc).size := ⟨_, rfl⟩
      rw [← e_Bu] at hl_u u0 u1 hb_W3 HS_W3  ⊢
      have hz_Bu := hb_W3.size
      clear e_Bu hb_W3
      refine (sameImage_c 0 0 _ _ [] [] (by simp) _ (.inl ⟨rfl, none, 0, rfl⟩) (.inl ⟨rfl, none, 0, rfl⟩)).mono ?_
      rintro e wc ⟨rfl, hb⟩
      replace hW := hW.trans (Below.mono hb hW.size)
      replace hI := (hI.below hb).more (Below.size hb)
      replace hJ := (hJ.below hb).more (Below.size hb)
      replace y0 := cellB hb y0
      replace y1 := cellB hb y1
      replace u0 := cellB hb u0
      replace u1 := cellB hb u1
      simp only [decide_true, and_self]
      go_wp2_with fail
      refine (sameImage_c 0 0 _ _ [] [] (by simp) _ (.inl ⟨rfl, none, 0, rfl⟩) (.inl ⟨rfl, none, 0, rfl⟩)).mono ?_
      rintro e wc ⟨rfl, hb⟩
      replace hW := hW.trans (Below.mono hb hW.size)
      replace hI := (hI.below hb).more (Below.size hb)
      replace hJ := (hJ.below hb).more (Below.size hb)
      replace y0 := cellB hb y0
      replace y1 := cellB hb y1
      replace u0 := cellB hb u0
      replace u1 := cellB hb u1
      simp only [decide_true, and_self]
      go_wp2
      go_returns
      exact ⟨rfl, hW⟩
    | true =>
      have hS := svB_yes hsv
      have ho : filO rs cs = some (fillO rs cs) := by unfold filO; rw [if_pos hsv]
      have hnl := fil_len ho
      have hV := (fillO_fit hS).1.img hS
      have HSM := Lib.hid hS
      have HSV := Lib.hid hsv
      have h1 := hS.h1
      have h6 := hS.h6
      have w1 := hS.w1
      have w6 := hS.w6
      obtain ⟨ns, ens⟩ : ∃ ns, ns = fillO rs cs := ⟨_, rfl⟩
      rw [← ens] at ho hnl hV
      have HNS := Lib.hid ens
      have HO := Lib.hid ho
      have HLC := Lib.hid (length_casts ns)
      have n20 : ns.length ≤ 2097152 := by omega
      have HNL := Lib.hid hnl
      clear ho ens hsv hS hnl
      refine (FillImage_o _ _ rs cs (by omega) (by omega) _ hI hJ).mono ?_
      intro e wc hF
      rw [HO.out] at hF
      obtain ⟨gr, cr, rfl, hgr, hrr, hb⟩ := hF.img
      clear hgr
      replace hW := hW.trans (Below.mono hb hW.size)
      replace hI := (hI.below hb).more (Below.size hb)
      replace hJ := (hJ.below hb).more (Below.size hb)
      obtain ⟨W1, e_W1⟩ : ∃ W0, W0 = World.alloc wc (.cells #[.int .i64 (cs.length : Int), .slice (some ⟨gr, 0, none⟩) ns.length cr] 24) := ⟨_, rfl⟩
      have hx_W1 := Box2.new wc (.int .i64 (cs.length : Int)) (.slice (some ⟨gr, 0, none⟩) ns.length cr) 24
      have hb_W1 : Below (World.heap wc).size wc W1 := by rw [e_W1]; go_grown
      have HS_W1 := Lib.hid (show (World.heap W1).size = (World.heap wc).size + 1 by rw [e_W1]; simp)
      replace hW := hW.trans (Below.mono hb_W1 hW.size)
      replace hI := (hI.below hb_W1).more (Below.size hb_W1)
      replace hJ := (hJ.below hb_W1).more (Below.size hb_W1)
      replace hrr := hrr.below hb_W1 hrr.lt
      have HE_W1 := Lib.hid e_W1
      clear e_W1
      go_wp2_with fail
      rw [← HE_W1.out] at hx_W1 ⊢
      clear HE_W1
      obtain ⟨hl_y, y0, y1⟩ := hx_W1
      obtain ⟨By, e_By⟩ : ∃ Bx, Bx = (World.heap wc).size := ⟨_, rfl⟩
      rw [← e_By] at hl_y y0 y1 hb_W1 HS_W1  ⊢
      have hz_By := hb_W1.size
      clear e_By hb_W1
      refine (sFillImage_o _ _ rs cs (by omega) (by omega) _ hI hJ).mono ?_
      intro e wc hF
      rw [HO.out] at hF
      obtain ⟨gw, cw, rfl, hgw, hrw, hb⟩ := hF.img
      clear hgw
      replace hW := hW.trans (Below.mono hb hW.size)
      replace hI := (hI.below hb).more (Below.size hb)
      replace hJ := (hJ.below hb).more (Below.size hb)
      replace hrr := hrr.below hb hrr.lt
      replace y0 := cellB hb y0
      replace y1 := cellB hb y1
      obtain ⟨W3, e_W3⟩ : ∃ W0, W0 = World.alloc wc (.cells #[.int .i64 (cs.length : Int), .slice (some ⟨gw, 0, none⟩) ns.length cw] 24) := ⟨_, rfl⟩
      have hx_W3 := Box2.new wc (.int .i64 (cs.length : Int)) (.slice (some ⟨gw, 0, none⟩) ns.length cw) 24
      have hb_W3 : Below (World.heap wc).size wc W3 := by rw [e_W3]; go_grown
      have HS_W3 := Lib.hid (show (World.heap W3).size = (World.heap wc).size + 1 by rw [e_W3]; simp)
      replace hW := hW.trans (Below.mono hb_W3 hW.size)
      replace hI := (hI.below hb_W3).more (Below.size hb_W3)
      replace hJ := (hJ.below hb_W3).more (Below.size hb_W3)
      replace hrr := hrr.below hb_W3 hrr.lt
      replace y0 := cellB hb_W3 y0
      replace y1 := cellB hb_W3 y1
      replace hrw := hrw.below hb_W3 hrw.lt
      have y0r := y0
      rw [e_W3] at y0r
      have y1r := y1
      rw [e_W3] at y1r
      have HE_W3 := Lib.hid e_W3
      clear e_W3
      go_wp2_with fail
      rw [← HE_W3.out] at hx_W3 ⊢
      clear y0r y1r
      clear HE_W3
      obtain ⟨hl_u, u0, u1⟩ := hx_W3
      obtain ⟨Bu, e_Bu⟩ : ∃ Bx, Bx = (World.heap wc).size := ⟨_, rfl⟩
      rw [← e_Bu] at hl_u u0 u1 hb_W3 HS_W3  ⊢
      have hz_Bu := hb_W3.size
      clear e_Bu hb_W3
      refine (sameImage_c (cs.length : Int) cs.length _ _ (casts ns) (casts ns) (by rw [HLC.out]; exact n20) _ (hrr.intsH rfl) (hrw.intsH rfl)).mono ?_
      rintro e wc ⟨rfl, hb⟩
      replace hW := hW.trans (Below.mono hb hW.size)
      replace hI := (hI.below hb).more (Below.size hb)
      replace hJ := (hJ.below hb).more (Below.size hb)
      replace hrr := hrr.below hb hrr.lt
      replace y0 := cellB hb y0
      replace y1 := cellB hb y1
      replace hrw := hrw.below hb hrw.lt
      replace u0 := cellB hb u0
      replace u1 := cellB hb u1
      simp only [decide_true, and_self]
      clear u0 u1 hrw
      have HX := Lib.hid (And.intro hI (And.intro hJ (And.intro hrr (And.intro hW (And.intro y0 y1)))))
      obtain ⟨wb, ewb⟩ : ∃ W, W = wc := ⟨_, rfl⟩
      subst ewb
      have HOT := Lib.hid (show ∀ i j, i < ns.length → j < cs.length → cell ns i j = false → ffB (cs.length : Int) (casts (putL ns i j true)) rs cs = false from fun i j hi hj hc => by
        rw [HNS.out] at hi hc ⊢
        exact fil_other HSM.out hi hj hc)
      clear hI hJ hrr hW y0 y1
      go_wp2_with fail
      go_loopw [9] (fun i wr => ∃ k : Nat, k ≤ rs.length ∧ i = .int .i64 (k : Int) ∧ Below wb.heap.size wb wr) (fun i _ => rs.length - (intOf i).toNat)
      case atStart => exact ⟨0, Nat.zero_le _, rfl, Below.refl _ _⟩
      case round =>
        obtain ⟨k, hk, rfl, hbb⟩ := hrel
        by_cases hkl : k < rs.length
        · have hki : (k : Int) < (rs.length : Int) := by omega
          have HB := Lib.hid hbb
          clear hbb
          go_wp2_with fail
          go_loopw [10] (fun i wr => ∃ l : Nat, l ≤ cs.length ∧ i = .int .i64 (l : Int) ∧ Below wb.heap.size wb wr) (fun i _ => cs.length - (intOf i).toNat)
          case atStart => exact ⟨0, Nat.zero_le _, rfl, HB.out⟩
          case round =>
            clear HB
            obtain ⟨l, hl, rfl, hbb⟩ := hrel
            by_cases hll : l < cs.length
            · have hli : (l : Int) < (cs.length : Int) := by omega
              have hkn : k < ns.length := by rw [HNL.out]; exact hkl
              obtain ⟨hI, hJ, hrr, hW, y0, y1⟩ := HX.out
              replace hI := (hI.below hbb).more hbb.size
              replace hJ := (hJ.below hbb).more hbb.size
              replace hrr := hrr.below hbb hrr.lt
              replace y0 := cellB hbb y0
              replace y1 := cellB hbb y1
              have hbc : Below wb.heap.size wb wr := hbb
              clear hW hbb
              go_wp2_with fail
              refine (ImagePut_c cs.length _ ns hV k l hkn hll true _ (hrr.intsH rfl)).mono ?_
              rintro e wc ⟨gb, cb, rfl, hgb, hrb, hb⟩
              clear hgb
              replace hI := (hI.below hb).more (Below.size hb)
              replace hJ := (hJ.below hb).more (Below.size hb)
              replace hrr := hrr.below hb hrr.lt
              replace y0 := cellB hb y0
              replace y1 := cellB hb y1
              replace hbc := hbc.trans (Below.mono hb hbc.size)
              obtain ⟨W5, e_W5⟩ : ∃ W0, W0 = World.alloc wc (.cells #[.int .i64 (cs.length : Int), .slice (some ⟨gb, 0, none⟩) ns.length cb] 24) := ⟨_, rfl⟩
              have hx_W5 := Box2.new wc (.int .i64 (cs.length : Int)) (.slice (some ⟨gb, 0, none⟩) ns.length cb) 24
              have hb_W5 : Below (World.heap wc).size wc W5 := by rw [e_W5]; go_grown
              have HS_W5 := Lib.hid (show (World.heap W5).size = (World.heap wc).size + 1 by rw [e_W5]; simp)
              replace hI := (hI.below hb_W5).more (Below.size hb_W5)
              replace hJ := (hJ.below hb_W5).more (Below.size hb_W5)
              replace hrr := hrr.below hb_W5 hrr.lt
              replace y0 := cellB hb_W5 y0
              replace y1 := cellB hb_W5 y1
              replace hbc := hbc.trans (Below.mono hb_W5 hbc.size)
              replace hrb := hrb.below hb_W5 hrb.lt
              have y0r := y0
              rw [e_W5] at y0r
              have y1r := y1
              rw [e_W5] at y1r
              have HE_W5 := Lib.hid e_W5
              clear e_W5
              go_wp2_with fail
              rw [← HE_W5.out] at hx_W5 ⊢
              clear y0r y1r
              clear HE_W5
              obtain ⟨hl_z, z0, z1⟩ := hx_W5
              obtain ⟨Bz, e_Bz⟩ : ∃ Bx, Bx = (World.heap wc).size := ⟨_, rfl⟩
              rw [← e_Bz] at hl_z z0 z1 hb_W5 HS_W5  ⊢
              have hz_Bz := hb_W5.size
              clear e_Bz hb_W5
              refine (ImageHas_v cs.length _ ns hV (k : Int) (l : Int) _ (hrr.intsH rfl)).mono ?_
              rintro e wc ⟨rfl, hb⟩
              replace hI := (hI.below hb).more (Below.size hb)
              replace hJ := (hJ.below hb).more (Below.size hb)
              replace hrr := hrr.below hb hrr.lt
              replace y0 := cellB hb y0
              replace y1 := cellB hb y1
              replace hbc := hbc.trans (Below.mono hb hbc.size)
              replace hrb := hrb.below hb hrb.lt
              replace z0 := cellB hb z0
              replace z1 := cellB hb z1
              rw [cellZ_nat]
              cases hce : cell ns k l with
              | true =>
                clear hce
                go_wp2
                go_roundw
                case rel => exact ⟨l + 1, by omega, by go_num, hbc⟩
                case measure => simp [intOf]; omega
              | false =>
                have hff := HOT.out k l hkn hll hce
                have hpl : (casts (putL ns k l true)).length ≤ 2097152 := by rw [length_casts, length_putL]; omega
                clear hce
                go_wp2_with fail
                refine (FillFits_c (cs.length : Int) _ _ _ (casts (putL ns k l true)) rs cs (by omega) (by omega) hpl _ (hrb.intsH (length_putL ..)) hI hJ).mono ?_
                rintro e wc ⟨rfl, hb⟩
                replace hI := (hI.below hb).more (Below.size hb)
                replace hJ := (hJ.below hb).more (Below.size hb)
                replace hrr := hrr.below hb hrr.lt
                replace y0 := cellB hb y0
                replace y1 := cellB hb y1
                replace hbc := hbc.trans (Below.mono hb hbc.size)
                replace hrb := hrb.below hb hrb.lt
                replace z0 := cellB hb z0
                replace z1 := cellB hb z1
                rw [hff]
                clear hff hpl
                go_wp2
                go_roundw
                case rel => exact ⟨l + 1, by omega, by go_num, hbc⟩
                case measure => simp [intOf]; omega
            · obtain rfl : l = cs.length := by omega
              have hli : ¬ ((cs.length : Int) < (cs.length : Int)) := by omega
              have HB := Lib.hid hbb
              clear hbb
              go_wp2
              go_roundw
              case rel => exact ⟨k + 1, by omega, by go_num, HB.out⟩
              case measure => simp [intOf]; omega
        · obtain rfl : k = rs.length := by omega
          have hki : ¬ ((rs.length : Int) < (rs.length : Int)) := by omega
          obtain ⟨hI, hJ, hrr, hW, y0, y1⟩ := HX.out
          replace hrr := hrr.below hbb hrr.lt
          replace y0 := cellB hbb y0
          replace y1 := cellB hbb y1
          replace hW := hW.trans (hbb.mono hW.size)
          clear hbb hI hJ
          go_wp2_with fail
          refine (ImageValid_c (cs.length : Int) _ (casts ns) _ (hrr.intsH rfl)).mono ?_
          rintro e wc ⟨rfl, hb⟩
          replace hW := hW.trans (Below.mono hb hW.size)
          rw [validB_of hV]
          go_wp2
          go_returns
          exact ⟨rfl, hW⟩
end Go.Proofs.Ytehoaagnpidnbaa
