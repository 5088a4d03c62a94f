/- The law that convex images are counted one by one: it returns true at whatever code, where the table of math/bits stands. Conditions: the code's slice can be read; the table. -/
import Derived.Test.YtilahcpjjaikgaaDoorCN
import Derived.Test.YtilahcpjjaikgaaDoorDS
import Derived.Test.YtilahcpjjaikgaaDoorSC4
import Derived.Test.YtilahcpjjaikgaaDoorIO9
namespace Go.Proofs.YtilahcpjjaikgaaDoor
open Go.RowKit
theorem convex_le' (rs cs : List Int) : nConvexCount rs cs ≤ nSumsCount rs cs := by
  unfold nConvexCount nSumsCount
  split
  · have h1 := cnt_all cs.length rs cs (cvxB cs.length)
    have h2 : cntI cs.length rs cs (fun _ => true) = (genI cs.length rs cs).length := by unfold cntI; rw [List.filter_eq_self.2 fun _ _ => rfl]
    omega
  · omega
set_option maxRecDepth 100000 in
set_option maxHeartbeats 4000000 in
theorem convexAll_walk (A : Option Addr) (len cap : Nat) (hlc : len ≤ cap) (w : World) (hc : Code8 w w.heap.size A len) (hT : Tab w) :
    Calls Tryd.prog 5 #[.slice A len cap] w fun e w' => e = .returned (.bool true) ∧ Below w.heap.size w w' := by
  by_cases hbig : 1048576 < len
  · go_enter Tryd.func5, Tryd.ntmps5
    go_wp2
    go_returns
    exact ⟨rfl, Below.refl _ _⟩
  · go_enter Tryd.func5, Tryd.ntmps5
    go_wp2_with fail
    refine (DrawConvexCount_c A len cap hlc w hc).mono ?_
    rintro e wc ⟨u, v, rs, cs, rfl, hI, hJ, hr12, hc12, hW⟩
    obtain ⟨B, bp, rfl⟩ := hI.len
    obtain ⟨C, cp, rfl⟩ := hJ.len
    go_wp2_with fail
    refine (ConvexCount_c _ _ rs cs (by omega) (by omega) _ hI hJ (hT.below hW)).mono ?_
    rintro e wc ⟨rfl, hb⟩
    replace hW := hW.trans (Below.mono hb hW.size)
    replace hI := (hI.below hb).more (Below.size hb)
    replace hJ := (hJ.below hb).more (Below.size hb)
    go_wp2_with fail
    refine (sConvexCount_c _ _ rs cs (by omega) (by omega) _ hI hJ).mono ?_
    rintro e wc ⟨rfl, hb⟩
    replace hW := hW.trans (Below.mono hb hW.size)
    replace hI := (hI.below hb).more (Below.size hb)
    replace hJ := (hJ.below hb).more (Below.size hb)
    obtain ⟨N, eN⟩ : ∃ N, N = nConvexCount rs cs := ⟨_, rfl⟩
    rw [← eN]
    by_cases hneg : N < 0
    · clear eN
      go_wp2
      go_returns
      exact ⟨rfl, hW⟩
    · have hct : ctB rs cs = true := nConvexCount_ct (by rw [← eN]; omega)
      have hle := convex_le' rs cs
      rw [← eN] at hle
      rw [nConvexCount_yes hct] at eN
      have hpc := nPolyCount_yes hct
      have hsc : nSumsCount rs cs = ((genI cs.length rs cs).length : Nat) := by unfold nSumsCount; rw [if_pos hct]
      have hS := (ct_sums hct).1
      have himg : ∀ ns, ns ∈ genI cs.length rs cs → VImg cs.length ns ∧ ns.length = rs.length := fun ns hm => by
        have := gen_img hS.h1 hS.h6 hS.w1 hS.w6 hm
        exact ⟨this.1, this.2.2.2⟩
      have hnth : ∀ j : Nat, j < (genI cs.length rs cs).length → nthO rs cs (j : Int) = some ((genI cs.length rs cs).getD j []) := fun j hj => by
        unfold nthO
        rw [if_pos ⟨hct, by omega⟩, Int.toNat_natCast, List.getD_eq_getElem?_getD, List.getElem?_eq_getElem hj]
        rfl
      unfold cntI at eN hpc
      obtain ⟨L, eL⟩ : ∃ L, L = genI cs.length rs cs := ⟨_, rfl⟩
      rw [← eL] at eN hpc hsc himg hnth
      obtain ⟨M, eM⟩ : ∃ M, M = L.length := ⟨_, rfl⟩
      rw [← eM] at hsc hnth
      rw [hsc] at hle
      have HN := Lib.hid (And.intro eN (And.intro hpc (And.intro hsc (And.intro himg (And.intro hnth eM)))))
      have h6 := hS.h6
      have hTc := Lib.hid hT
      clear eL hct hpc hsc himg hnth eM hS eN
      go_wp2_with fail
      refine (SumsCount_c _ _ rs cs (by omega) (by omega) _ hI hJ).mono ?_
      rintro e wc ⟨rfl, hb⟩
      replace hW := hW.trans (Below.mono hb hW.size)
      replace hI := (hI.below hb).more (Below.size hb)
      replace hJ := (hJ.below hb).more (Below.size hb)
      rw [HN.out.2.2.1]
      by_cases h12 : 12 < M
      · have h12' : (12 : Int) < (M : Int) := by omega
        go_wp2
        go_returns
        exact ⟨rb (by simp), hW⟩
      · have h12' : ¬ (12 : Int) < (M : Int) := by omega
        have HX := Lib.hid (And.intro hI (And.intro hJ hW))
        clear hI hJ hW
        obtain ⟨wb, ewb⟩ : ∃ W, W = wc := ⟨_, rfl⟩
        subst ewb
        go_wp2_with fail
        go_loopw [8, 9, 10] (fun s t q wr => ∃ (j a b : Nat), j ≤ M ∧ s = .int .i64 (a : Int) ∧ t = .int .i64 (b : Int) ∧ q = .int .i64 (j : Int) ∧ a = ((L.take j).filter (cvxB cs.length)).length ∧ b = ((L.take j).filter (polyB cs.length)).length ∧ Below wb.heap.size wb wr) (fun _ _ q _ => M - (intOf q).toNat)
        case atStart => exact ⟨0, 0, 0, Nat.zero_le _, rfl, rfl, rfl, rfl, rfl, Below.refl _ _⟩
        case round =>
          obtain ⟨j, a, b, hj, rfl, rfl, rfl, ha, hb', hbb⟩ := hrel
          have hak : a ≤ 12 := by
            have a1 := List.length_filter_le (cvxB cs.length) (L.take j)
            rw [len_take_l (by have := HN.out.2.2.2.2.2; omega : j ≤ L.length)] at a1
            omega
          have hbk : b ≤ 12 := by
            have a1 := List.length_filter_le (polyB cs.length) (L.take j)
            rw [len_take_l (by have := HN.out.2.2.2.2.2; omega : j ≤ L.length)] at a1
            omega
          have HA := Lib.hid (And.intro ha hb')
          clear ha hb'
          have hI := (HX.out.1.below hbb).more hbb.size
          have hJ := (HX.out.2.1.below hbb).more hbb.size
          have hW := HX.out.2.2.trans (hbb.mono HX.out.2.2.size)
          by_cases hlt : j < M
          · have hji : (j : Int) < (M : Int) := by omega
            have hjL : j < L.length := by have := HN.out.2.2.2.2.2; omega
            have hs1 := filter_snoc (p := cvxB cs.length) hjL
            have hs2 := filter_snoc (p := polyB cs.length) hjL
            have hmem : L.getD j [] ∈ L := by rw [List.getD_eq_getElem?_getD, List.getElem?_eq_getElem hjL]; exact List.getElem_mem hjL
            obtain ⟨hV, hnl⟩ := HN.out.2.2.2.1 _ hmem
            have HNT := ImageNth_c (.slice B rs.length bp) (.slice C cs.length cp) rs cs (j : Int) (by omega) (by omega) (by omega) wr hI hJ
            rw [HN.out.2.2.2.2.1 j hlt] at HNT
            obtain ⟨ms, em⟩ : ∃ ms, ms = L.getD j [] := ⟨_, rfl⟩
            rw [← em] at hs1 hs2 hV hnl HNT
            have HS12 := Lib.hid (And.intro hs1 (And.intro hs2 (And.intro hV hnl)))
            clear hs1 hs2 hmem em hV hnl
            go_wp2_with fail
            refine HNT.mono ?_
            rintro e wc hfo
            obtain ⟨g, c, rfl, hg, hr, hb⟩ : ImgOut wr cs.length ms e wc := by
              rcases hfo with ⟨ns', e1, h⟩ | ⟨e1, _⟩
              · rw [Option.some.inj e1]; exact h
              · cases e1
            clear hfo HNT hI hJ
            replace hW := hW.trans (Below.mono hb hW.size)
            replace hbb := hbb.trans (Below.mono hb hbb.size)
            rw [HS12.out.2.2.2]
            obtain ⟨h, eh⟩ : ∃ n, n = rs.length := ⟨_, rfl⟩
            obtain ⟨W3, e_W3⟩ : ∃ W0, W0 = World.alloc wc (.cells #[.int .i64 (cs.length : Int), .slice (some ⟨g, 0, none⟩) rs.length c] 27) := ⟨_, rfl⟩
            have hx_W3 := Box2.new wc (.int .i64 (cs.length : Int)) (.slice (some ⟨g, 0, none⟩) rs.length c) 27
            have hb_W3 : Below (World.heap wc).size wc W3 := by rw [e_W3]; go_grown
            have HS_W3 := Lib.hid (show (World.heap W3).size = (World.heap wc).size + 1 by rw [e_W3]; simp)
            replace hW := hW.trans (Below.mono hb_W3 hW.size)
            replace hbb := hbb.trans (Below.mono hb_W3 hbb.size)
            replace hr := hr.below hb_W3 hr.lt
            have HE_W3 := Lib.hid e_W3
            clear e_W3
            go_wp2_with fail
            rw [← HE_W3.out] at hx_W3 ⊢
            clear HE_W3
            obtain ⟨hl_y, y0, y1⟩ := hx_W3
            obtain ⟨By, e_By⟩ : ∃ Bx, Bx = (World.heap wc).size := ⟨_, rfl⟩
            rw [← e_By] at hl_y y0 y1 hb_W3 HS_W3  ⊢
            have hz_By := hb_W3.size
            clear e_By hb_W3
            have hM := hr.intsH (h := rs.length) (c := c) HS12.out.2.2.2
            refine (ImageConvex_c (cs.length : Int) _ (casts ms) W3 hM (hTc.out.below hW)).mono ?_
            rintro e wc ⟨rfl, hb2⟩
            replace hW := hW.trans (Below.mono hb2 hW.size)
            replace hbb := hbb.trans (Below.mono hb2 hbb.size)
            replace hr := hr.below hb2 hr.lt
            replace y0 := cellB hb2 y0
            replace y1 := cellB hb2 y1
            replace hM := (hM.below hb2).more (Below.size hb2)
            rw [cvxO_yes HS12.out.2.2.1]
            have HP := ImagePoly_c (cs.length : Int) (.slice (some ⟨g, 0, none⟩) rs.length c) (casts ms) wc hM (hTc.out.below hW)
            rw [poly_img HS12.out.2.2.1] at HP
            have hs1 := HS12.out.1
            have hs2 := HS12.out.2.1
            cases hc1 : cvxB cs.length ms with
            | true =>
              rw [hc1, if_pos rfl] at hs1
              have hn1 : ((L.take (j + 1)).filter (cvxB cs.length)).length = a + 1 := by rw [hs1, List.length_append, ← HA.out.1]; rfl
              have HN1 := Lib.hid hn1
              clear hc1 hs1 hn1
              go_wp2_with fail
              refine HP.mono ?_
              rintro e wd ⟨rfl, hb3⟩
              replace hbb := hbb.trans (hb3.mono hbb.size)
              cases hc2 : polyB cs.length ms with
              | true =>
                rw [hc2, if_pos rfl] at hs2
                have hn2 : ((L.take (j + 1)).filter (polyB cs.length)).length = b + 1 := by rw [hs2, List.length_append, ← HA.out.2]; rfl
                have HF := Lib.hid (And.intro hn2 hbb)
                clear hc2 hs2 hn2 hbb hb3 HP
                go_wp2
                go_roundw
                case rel => exact ⟨j + 1, a + 1, b + 1, by omega, by go_num, by go_num, by go_num, HN1.out.symm, HF.out.1.symm, HF.out.2⟩
                case measure => simp [intOf]; omega
              | false =>
                rw [hc2, if_neg (by simp), List.append_nil] at hs2
                have hn2 : ((L.take (j + 1)).filter (polyB cs.length)).length = b := by rw [hs2, ← HA.out.2]
                have HF := Lib.hid (And.intro hn2 hbb)
                clear hc2 hs2 hn2 hbb hb3 HP
                go_wp2
                go_roundw
                case rel => exact ⟨j + 1, a + 1, b, by omega, by go_num, by go_num, by go_num, HN1.out.symm, HF.out.1.symm, HF.out.2⟩
                case measure => simp [intOf]; omega
            | false =>
              rw [hc1, if_neg (by simp), List.append_nil] at hs1
              have hn1 : ((L.take (j + 1)).filter (cvxB cs.length)).length = a := by rw [hs1, ← HA.out.1]
              have HN1 := Lib.hid hn1
              have hc2 : polyB cs.length ms = false := by unfold polyB; rw [hc1]; rfl
              rw [hc2] at HP
              rw [hc2, if_neg (by simp), List.append_nil] at hs2
              have hn2 : ((L.take (j + 1)).filter (polyB cs.length)).length = b := by rw [hs2, ← HA.out.2]
              clear hc1 hs1 hn1 hc2 hs2
              go_wp2_with fail
              refine HP.mono ?_
              rintro e wd ⟨rfl, hb3⟩
              replace hbb := hbb.trans (hb3.mono hbb.size)
              have HF := Lib.hid (And.intro hn2 hbb)
              clear hn2 hbb hb3 HP
              go_wp2
              go_roundw
              case rel => exact ⟨j + 1, a, b, by omega, by go_num, by go_num, by go_num, HN1.out.symm, HF.out.1.symm, HF.out.2⟩
              case measure => simp [intOf]; omega
          · obtain rfl : j = M := by omega
            have hji : ¬ ((j : Int) < (j : Int)) := by omega
            have hall : L.take j = L := List.take_of_length_le (by have := HN.out.2.2.2.2.2; omega)
            have hea : (a : Int) = N := by rw [HN.out.1, HA.out.1, hall]
            have heb : nPolyCount rs cs = (b : Int) := by rw [HN.out.2.1, HA.out.2, hall]
            have HEB := Lib.hid heb
            subst hea
            clear hall heb
            go_wp2_with fail
            refine (PolyCount_c _ _ rs cs (by omega) (by omega) _ hI hJ (hTc.out.below hW)).mono ?_
            rintro e wc ⟨rfl, hb⟩
            replace hW := hW.trans (Below.mono hb hW.size)
            rw [HEB.out]
            go_wp2
            go_returns
            exact ⟨rfl, hW⟩
end Go.Proofs.YtilahcpjjaikgaaDoor
