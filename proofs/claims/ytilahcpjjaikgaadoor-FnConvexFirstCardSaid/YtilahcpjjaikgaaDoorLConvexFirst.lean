/- The law of the first convex image: it returns true at whatever code, where the table of math/bits stands. Conditions: the code's slice can be read; the table. -/
import Derived.Test.YtilahcpjjaikgaaDoorCN
import Derived.Test.YtilahcpjjaikgaaDoorDS
import Derived.Test.YtilahcpjjaikgaaDoorSC5
import Derived.Test.YtilahcpjjaikgaaDoorIO9
import Derived.Test.YtilahcpjjaikgaaDoorIO10
import Derived.Test.YtilahcpjjaikgaaDoorK6
namespace Go.Proofs.YtilahcpjjaikgaaDoor
open Go.RowKit
theorem first_idx {p : List Nat → Bool} {L : List (List Nat)} {ns : List Nat} (h : L.find? p = some ns) : p ns = true ∧ ns ∈ L ∧ L.idxOf ns < L.length ∧ ∀ k, k < L.idxOf ns → p (L.getD k []) = false := by
  obtain ⟨hp, pre, rest, hL, ha⟩ := List.find?_eq_some_iff_append.1 h
  have hi := idx_here hL (fun x hx e => by have := ha x hx; rw [e, hp] at this; simp at this)
  have hm : ns ∈ L := by rw [hL]; simp
  refine ⟨hp, hm, ?_, fun k hk => ?_⟩
  · rw [hi, hL]
    simp
  · rw [hi] at hk
    have h2 : L.getD k [] ∈ pre := by
      rw [hL, List.getD_eq_getElem?_getD, List.getElem?_append_left hk, List.getElem?_eq_getElem hk]
      exact List.getElem_mem hk
    simpa using ha _ h2
theorem first_ct {rs cs : List Int} {ns : List Nat} (ho : firstO rs cs = some ns) : ctB rs cs = true ∧ (genI cs.length rs cs).find? (cvxB cs.length) = some ns := by
  unfold firstO at ho
  split at ho
  · rename_i h
    exact ⟨h, ho⟩
  · cases ho
set_option maxRecDepth 100000 in
set_option maxHeartbeats 4000000 in
theorem convexFirst_walk (A : Option Addr) (len cap : Nat) (hlc : len ≤ cap) (w : World) (hc : Code8 w w.heap.size A len) (hT : Tab w) :
    Calls Tryd.prog 3 #[.slice A len cap] w fun e w' => e = .returned (.bool true) ∧ Below w.heap.size w w' := by
  by_cases hbig : 1048576 < len
  · go_enter Tryd.func3, Tryd.ntmps3
    go_wp2
    go_returns
    exact ⟨rfl, Below.refl _ _⟩
  · go_enter Tryd.func3, Tryd.ntmps3
    go_wp2_with fail
    refine (DrawConvexFirst_c A len cap hlc w hc).mono ?_
    rintro e wc ⟨u, v, rs, cs, rfl, hI, hJ, hr12, hc12, hW⟩
    obtain ⟨B, bp, rfl⟩ := hI.len
    obtain ⟨C, cp, rfl⟩ := hJ.len
    go_wp2_with fail
    cases ho : firstO rs cs with
    | none =>
      have HO := Lib.hid ho
      clear ho
      refine (ConvexFirst_c _ _ rs cs (by omega) (by omega) _ hI hJ (hT.below hW)).mono ?_
      intro e wc hF
      rw [HO.out] at hF
      obtain ⟨rfl, hb⟩ := hF.no
      replace hW := hW.trans (Below.mono hb hW.size)
      replace hI := (hI.below hb).more (Below.size hb)
      replace hJ := (hJ.below hb).more (Below.size hb)
      obtain ⟨W1, e_W1⟩ : ∃ W0, W0 = World.alloc wc (.cells #[.int .i64 0, .slice none 0 0] 27) := ⟨_, rfl⟩
      have hx_W1 := Box2.new wc (.int .i64 0) (.slice none 0 0) 27
      have hb_W1 : Below (World.heap wc).size wc W1 := by rw [e_W1]; go_grown
      have HS_W1 := Lib.hid (show (World.heap W1).size = (World.heap wc).size + 1 by rw [e_W1]; simp)
      replace hW := hW.trans (Below.mono hb_W1 hW.size)
      replace hI := (hI.below hb_W1).more (Below.size hb_W1)
      replace hJ := (hJ.below hb_W1).more (Below.size hb_W1)
      have HE_W1 := Lib.hid e_W1
      clear e_W1
      go_wp2_with fail
      rw [← HE_W1.out] at hx_W1 ⊢
      clear HE_W1
      obtain ⟨hl_y, y0, y1⟩ := hx_W1
      obtain ⟨By, e_By⟩ : ∃ Bx, Bx = (World.heap wc).size := ⟨_, rfl⟩
      rw [← e_By] at hl_y y0 y1 hb_W1 HS_W1  ⊢
      have hz_By := hb_W1.size
      clear e_By hb_W1
      refine (sConvexFirst_c _ _ rs cs (by omega) (by omega) _ hI hJ).mono ?_
      intro e wc hF
      rw [HO.out] at hF
      obtain ⟨rfl, hb⟩ := hF.no
      replace hW := hW.trans (Below.mono hb hW.size)
      replace hI := (hI.below hb).more (Below.size hb)
      replace hJ := (hJ.below hb).more (Below.size hb)
      replace y0 := cellB hb y0
      replace y1 := cellB hb y1
      obtain ⟨W3, e_W3⟩ : ∃ W0, W0 = World.alloc wc (.cells #[.int .i64 0, .slice none 0 0] 27) := ⟨_, rfl⟩
      have hx_W3 := Box2.new wc (.int .i64 0) (.slice none 0 0) 27
      have hb_W3 : Below (World.heap wc).size wc W3 := by rw [e_W3]; go_grown
      have HS_W3 := Lib.hid (show (World.heap W3).size = (World.heap wc).size + 1 by rw [e_W3]; simp)
      replace hW := hW.trans (Below.mono hb_W3 hW.size)
      replace hI := (hI.below hb_W3).more (Below.size hb_W3)
      replace hJ := (hJ.below hb_W3).more (Below.size hb_W3)
      replace y0 := cellB hb_W3 y0
      replace y1 := cellB hb_W3 y1
      have y0r := y0
      rw [e_W3] at y0r
      have y1r := y1
      rw [e_W3] at y1r
      have HE_W3 := Lib.hid e_W3
      clear e_W3
      go_wp2_with fail
      rw [← HE_W3.out] at hx_W3 ⊢
      clear y0r y1r
      clear HE_W3
      obtain ⟨hl_u, u0, u1⟩ := hx_W3
      obtain ⟨Bu, e_Bu⟩ : ∃ Bx, Bx = (World.heap wc).size := ⟨_, rfl⟩
      rw [← e_Bu] at hl_u u0 u1 hb_W3 HS_W3  ⊢
      have hz_Bu := hb_W3.size
      clear e_Bu hb_W3
      refine (sameImage_c 0 0 _ _ [] [] (by simp) _ (.inl ⟨rfl, none, 0, rfl⟩) (.inl ⟨rfl, none, 0, rfl⟩)).mono ?_
      rintro e wc ⟨rfl, hb⟩
      replace hW := hW.trans (Below.mono hb hW.size)
      replace hI := (hI.below hb).more (Below.size hb)
      replace hJ := (hJ.below hb).more (Below.size hb)
      replace y0 := cellB hb y0
      replace y1 := cellB hb y1
      replace u0 := cellB hb u0
      replace u1 := cellB hb u1
      simp only [decide_true, and_self]
      go_wp2_with fail
      refine (sameImage_c 0 0 _ _ [] [] (by simp) _ (.inl ⟨rfl, none, 0, rfl⟩) (.inl ⟨rfl, none, 0, rfl⟩)).mono ?_
      rintro e wc ⟨rfl, hb⟩
      replace hW := hW.trans (Below.mono hb hW.size)
      replace hI := (hI.below hb).more (Below.size hb)
      replace hJ := (hJ.below hb).more (Below.size hb)
      replace y0 := cellB hb y0
      replace y1 := cellB hb y1
      replace u0 := cellB hb u0
      replace u1 := cellB hb u1
      simp only [decide_true, and_self]
      go_wp2
      go_returns
      exact ⟨rfl, hW⟩
    | some ns =>
      obtain ⟨hct, hfi⟩ := first_ct ho
      obtain ⟨hcv, hmem, hidx, hno⟩ := first_idx hfi
      have hS := (ct_sums hct).1
      obtain ⟨hV, hrs, hcs, hnl⟩ := gen_img hS.h1 hS.h6 hS.w1 hS.w6 hmem
      have h16 : ns.length * cs.length ≤ 16 := by rw [hnl]; exact (ct_sums hct).2
      have hlen : (genI cs.length rs cs).length ≤ 65536 := gen_len_cs (by rw [← hnl]; exact h16) rfl
      have hrk : (genI cs.length (rowSums cs.length ns) (colSums cs.length ns)).idxOf ns = (genI cs.length rs cs).idxOf ns := by rw [hrs, hcs]
      have hcnt : 0 < nConvexCount rs cs := by
        rw [nConvexCount_yes hct]
        unfold cntI
        have : 0 < ((genI cs.length rs cs).filter (cvxB cs.length)).length := List.length_pos_of_mem (List.mem_filter.2 ⟨hmem, hcv⟩)
        omega
      have hnth : ∀ j : Nat, j < (genI cs.length rs cs).length → nthO rs cs (j : Int) = some ((genI cs.length rs cs).getD j []) := fun j hj => by
        unfold nthO
        rw [if_pos ⟨hct, by omega⟩, Int.toNat_natCast, List.getD_eq_getElem?_getD, List.getElem?_eq_getElem hj]
        rfl
      have himg : ∀ ms, ms ∈ genI cs.length rs cs → VImg cs.length ms ∧ ms.length = rs.length := fun ms hm => by
        have := gen_img hS.h1 hS.h6 hS.w1 hS.w6 hm
        exact ⟨this.1, this.2.2.2⟩
      obtain ⟨L, eL⟩ : ∃ L, L = genI cs.length rs cs := ⟨_, rfl⟩
      rw [← eL] at hidx hno hlen hrk hnth himg
      obtain ⟨r, er⟩ : ∃ r, r = L.idxOf ns := ⟨_, rfl⟩
      rw [← er] at hidx hno hrk
      have hr65 : r < 65536 := by omega
      obtain ⟨N, eN⟩ : ∃ N, N = nConvexCount rs cs := ⟨_, rfl⟩
      rw [← eN] at hcnt
      have HN := Lib.hid (And.intro hidx (And.intro hno (And.intro hnth (And.intro himg eN))))
      have HRK := Lib.hid (And.intro hrk (And.intro hrs (And.intro hcs (And.intro hnl h16))))
      have HV := Lib.hid (And.intro hV hcv)
      have HO := Lib.hid ho
      have HLC := Lib.hid (length_casts ns)
      have n20 : ns.length ≤ 2097152 := by omega
      clear ho hct hfi hcv hmem hidx hno hS hV hrs hcs hnl h16 hlen hrk hnth himg eL er eN
      refine (ConvexFirst_c _ _ rs cs (by omega) (by omega) _ hI hJ (hT.below hW)).mono ?_
      intro e wc hF
      rw [HO.out] at hF
      obtain ⟨gr, cr, rfl, hgr, hrr, hb⟩ := hF.img
      clear hgr
      replace hW := hW.trans (Below.mono hb hW.size)
      replace hI := (hI.below hb).more (Below.size hb)
      replace hJ := (hJ.below hb).more (Below.size hb)
      obtain ⟨W1, e_W1⟩ : ∃ W0, W0 = World.alloc wc (.cells #[.int .i64 (cs.length : Int), .slice (some ⟨gr, 0, none⟩) ns.length cr] 27) := ⟨_, rfl⟩
      have hx_W1 := Box2.new wc (.int .i64 (cs.length : Int)) (.slice (some ⟨gr, 0, none⟩) ns.length cr) 27
      have hb_W1 : Below (World.heap wc).size wc W1 := by rw [e_W1]; go_grown
      have HS_W1 := Lib.hid (show (World.heap W1).size = (World.heap wc).size + 1 by rw [e_W1]; simp)
      replace hW := hW.trans (Below.mono hb_W1 hW.size)
      replace hI := (hI.below hb_W1).more (Below.size hb_W1)
      replace hJ := (hJ.below hb_W1).more (Below.size hb_W1)
      replace hrr := hrr.below hb_W1 hrr.lt
      have HE_W1 := Lib.hid e_W1
      clear e_W1
      go_wp2_with fail
      rw [← HE_W1.out] at hx_W1 ⊢
      clear HE_W1
      obtain ⟨hl_y, y0, y1⟩ := hx_W1
      obtain ⟨By, e_By⟩ : ∃ Bx, Bx = (World.heap wc).size := ⟨_, rfl⟩
      rw [← e_By] at hl_y y0 y1 hb_W1 HS_W1  ⊢
      have hz_By := hb_W1.size
      clear e_By hb_W1
      refine (sConvexFirst_c _ _ rs cs (by omega) (by omega) _ hI hJ).mono ?_
      intro e wc hF
      rw [HO.out] at hF
      obtain ⟨gw, cw, rfl, hgw, hrw, hb⟩ := hF.img
      clear hgw
      replace hW := hW.trans (Below.mono hb hW.size)
      replace hI := (hI.below hb).more (Below.size hb)
      replace hJ := (hJ.below hb).more (Below.size hb)
      replace hrr := hrr.below hb hrr.lt
      replace y0 := cellB hb y0
      replace y1 := cellB hb y1
      obtain ⟨W3, e_W3⟩ : ∃ W0, W0 = World.alloc wc (.cells #[.int .i64 (cs.length : Int), .slice (some ⟨gw, 0, none⟩) ns.length cw] 27) := ⟨_, rfl⟩
      have hx_W3 := Box2.new wc (.int .i64 (cs.length : Int)) (.slice (some ⟨gw, 0, none⟩) ns.length cw) 27
      have hb_W3 : Below (World.heap wc).size wc W3 := by rw [e_W3]; go_grown
      have HS_W3 := Lib.hid (show (World.heap W3).size = (World.heap wc).size + 1 by rw [e_W3]; simp)
      replace hW := hW.trans (Below.mono hb_W3 hW.size)
      replace hI := (hI.below hb_W3).more (Below.size hb_W3)
      replace hJ := (hJ.below hb_W3).more (Below.size hb_W3)
      replace hrr := hrr.below hb_W3 hrr.lt
      replace y0 := cellB hb_W3 y0
      replace y1 := cellB hb_W3 y1
      replace hrw := hrw.below hb_W3 hrw.lt
      have y0r := y0
      rw [e_W3] at y0r
      have y1r := y1
      rw [e_W3] at y1r
      have HE_W3 := Lib.hid e_W3
      clear e_W3
      go_wp2_with fail
      rw [← HE_W3.out] at hx_W3 ⊢
      clear y0r y1r
      clear HE_W3
      obtain ⟨hl_u, u0, u1⟩ := hx_W3
      obtain ⟨Bu, e_Bu⟩ : ∃ Bx, Bx = (World.heap wc).size := ⟨_, rfl⟩
      rw [← e_Bu] at hl_u u0 u1 hb_W3 HS_W3  ⊢
      have hz_Bu := hb_W3.size
      clear e_Bu hb_W3
      refine (sameImage_c (cs.length : Int) cs.length _ _ (casts ns) (casts ns) (by rw [HLC.out]; exact n20) _ (hrr.intsH rfl) (hrw.intsH rfl)).mono ?_
      rintro e wc ⟨rfl, hb⟩
      replace hW := hW.trans (Below.mono hb hW.size)
      replace hI := (hI.below hb).more (Below.size hb)
      replace hJ := (hJ.below hb).more (Below.size hb)
      replace hrr := hrr.below hb hrr.lt
      replace y0 := cellB hb y0
      replace y1 := cellB hb y1
      replace hrw := hrw.below hb hrw.lt
      replace u0 := cellB hb u0
      replace u1 := cellB hb u1
      simp only [decide_true, and_self]
      clear u0 u1 hrw
      go_wp2_with fail
      refine (ImageRank_c cs.length _ ns HV.out.1 HRK.out.2.2.2.2 _ (hrr.intsH rfl)).mono ?_
      rintro e wc ⟨rfl, hb⟩
      replace hW := hW.trans (Below.mono hb hW.size)
      replace hI := (hI.below hb).more (Below.size hb)
      replace hJ := (hJ.below hb).more (Below.size hb)
      replace hrr := hrr.below hb hrr.lt
      replace y0 := cellB hb y0
      replace y1 := cellB hb y1
      rw [HRK.out.1]
      go_wp2_with fail
      obtain ⟨s, es, hs⟩ : ∃ s : Nat, (max (0 : Int) ((r : Int) - 12)) = (s : Int) ∧ s ≤ r := ⟨r - 12, by omega, by omega⟩
      rw [es]
      have HX := Lib.hid (And.intro hI (And.intro hJ (And.intro hW (And.intro y0 (And.intro y1 hrr)))))
      have hTc := Lib.hid hT
      clear hI hJ hW y0 y1 hrr es
      obtain ⟨wb, ewb⟩ : ∃ W, W = wc := ⟨_, rfl⟩
      subst ewb
      go_loopw [10] (fun q wr => ∃ j : Nat, j ≤ r ∧ q = .int .i64 (j : Int) ∧ Below wb.heap.size wb wr) (fun q _ => r - (intOf q).toNat)
      case atStart => exact ⟨s, hs, rfl, Below.refl _ _⟩
      case round =>
        obtain ⟨j, hj, rfl, hbb⟩ := hrel
        have hI := (HX.out.1.below hbb).more hbb.size
        have hJ := (HX.out.2.1.below hbb).more hbb.size
        have hW := HX.out.2.2.1.trans (hbb.mono HX.out.2.2.1.size)
        by_cases hlt : j < r
        · have hji : (j : Int) < (r : Int) := by omega
          have hjL : j < L.length := by have := HN.out.1; omega
          have hmem : L.getD j [] ∈ L := by rw [List.getD_eq_getElem?_getD, List.getElem?_eq_getElem hjL]; exact List.getElem_mem hjL
          obtain ⟨hV, hnl⟩ := HN.out.2.2.2.1 _ hmem
          have HNT := ImageNth_c (.slice B rs.length bp) (.slice C cs.length cp) rs cs (j : Int) (by omega) (by omega) (by omega) wr hI hJ
          rw [HN.out.2.2.1 j hjL] at HNT
          have hncv := HN.out.2.1 j hlt
          obtain ⟨ms, em⟩ : ∃ ms, ms = L.getD j [] := ⟨_, rfl⟩
          rw [← em] at hV hnl HNT hncv
          have HS12 := Lib.hid (And.intro hncv (And.intro hV hnl))
          clear hmem em hV hnl hncv hjL
          go_wp2_with fail
          refine HNT.mono ?_
          intro e wc hF
          obtain ⟨g, c, rfl, hg, hr, hb⟩ := hF.img
          clear hg hF HNT hI hJ
          replace hW := hW.trans (Below.mono hb hW.size)
          replace hbb := hbb.trans (Below.mono hb hbb.size)
          rw [HS12.out.2.2]
          obtain ⟨W5, e_W5⟩ : ∃ W0, W0 = World.alloc wc (.cells #[.int .i64 (cs.length : Int), .slice (some ⟨g, 0, none⟩) rs.length c] 27) := ⟨_, rfl⟩
          have hx_W5 := Box2.new wc (.int .i64 (cs.length : Int)) (.slice (some ⟨g, 0, none⟩) rs.length c) 27
          have hb_W5 : Below (World.heap wc).size wc W5 := by rw [e_W5]; go_grown
          have HS_W5 := Lib.hid (show (World.heap W5).size = (World.heap wc).size + 1 by rw [e_W5]; simp)
          replace hW := hW.trans (Below.mono hb_W5 hW.size)
          replace hbb := hbb.trans (Below.mono hb_W5 hbb.size)
          replace hr := hr.below hb_W5 hr.lt
          have HE_W5 := Lib.hid e_W5
          clear e_W5
          go_wp2_with fail
          rw [← HE_W5.out] at hx_W5 ⊢
          clear HE_W5
          obtain ⟨hl_z, z0, z1⟩ := hx_W5
          obtain ⟨Bz, e_Bz⟩ : ∃ Bx, Bx = (World.heap wc).size := ⟨_, rfl⟩
          rw [← e_Bz] at hl_z z0 z1 hb_W5 HS_W5  ⊢
          have hz_Bz := hb_W5.size
          clear e_Bz hb_W5
          have hM := hr.intsH (h := rs.length) (c := c) HS12.out.2.2
          refine (ImageConvex_c (cs.length : Int) _ (casts ms) W5 hM (hTc.out.below hW)).mono ?_
          rintro e wc ⟨rfl, hb2⟩
          replace hW := hW.trans (Below.mono hb2 hW.size)
          replace hbb := hbb.trans (Below.mono hb2 hbb.size)
          replace hr := hr.below hb2 hr.lt
          replace z0 := cellB hb2 z0
          replace z1 := cellB hb2 z1
          rw [cvxO_yes HS12.out.2.1, HS12.out.1]
          have HF := Lib.hid hbb
          clear hbb
          go_wp2
          go_roundw
          case rel => exact ⟨j + 1, by omega, by go_num, HF.out⟩
          case measure => simp [intOf]; omega
        · obtain rfl : j = r := by omega
          have hji : ¬ ((j : Int) < (j : Int)) := by omega
          have h0 : (0 : Int) ≤ (j : Int) := by omega
          have y0 := cellB hbb HX.out.2.2.2.1
          have y1 := cellB hbb HX.out.2.2.2.2.1
          have hrr := HX.out.2.2.2.2.2.below hbb HX.out.2.2.2.2.2.lt
          clear hbb
          go_wp2_with fail
          refine (ImageConvex_c (cs.length : Int) _ (casts ns) _ (hrr.intsH rfl) (hTc.out.below hW)).mono ?_
          rintro e wc ⟨rfl, hb⟩
          replace hW := hW.trans (Below.mono hb hW.size)
          replace hI := (hI.below hb).more (Below.size hb)
          replace hJ := (hJ.below hb).more (Below.size hb)
          replace y0 := cellB hb y0
          replace y1 := cellB hb y1
          replace hrr := hrr.below hb hrr.lt
          rw [cvxO_yes HV.out.1, HV.out.2]
          go_wp2_with fail
          have hIr : Ints wc.heap.size wc (.slice B rs.length bp) (rowSums cs.length ns) := by rw [HRK.out.2.1]; exact hI
          have hJr : Ints wc.heap.size wc (.slice C cs.length cp) (colSums cs.length ns) := by rw [HRK.out.2.2.1]; exact hJ
          refine (SumsFit_yes cs.length _ _ _ ns HV.out.1 _ (hrr.intsH rfl) hIr hJr).mono ?_
          clear hIr hJr
          rintro e wc ⟨rfl, hb⟩
          replace hW := hW.trans (Below.mono hb hW.size)
          replace hI := (hI.below hb).more (Below.size hb)
          replace hJ := (hJ.below hb).more (Below.size hb)
          replace y0 := cellB hb y0
          replace y1 := cellB hb y1
          replace hrr := hrr.below hb hrr.lt
          go_wp2_with fail
          refine (ConvexCount_c _ _ rs cs (by omega) (by omega) _ hI hJ (hTc.out.below hW)).mono ?_
          rintro e wc ⟨rfl, hb⟩
          replace hW := hW.trans (Below.mono hb hW.size)
          replace hI := (hI.below hb).more (Below.size hb)
          replace hJ := (hJ.below hb).more (Below.size hb)
          replace y0 := cellB hb y0
          replace y1 := cellB hb y1
          replace hrr := hrr.below hb hrr.lt
          rw [← HN.out.2.2.2.2]
          go_wp2
          go_returns
          exact ⟨rfl, hW⟩
end Go.Proofs.YtilahcpjjaikgaaDoor
