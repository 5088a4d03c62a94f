/- The law that convex images are some of all: it returns true at whatever code, where the table of math/bits stands. Conditions: the code's slice can be read; the table. -/
import Derived.Test.YtponmfnehbohcaaDoorCN
import Derived.Test.YtponmfnehbohcaaDoorDS
import Derived.Test.YtponmfnehbohcaaDoorSC4
import Derived.Test.YtponmfnehbohcaaDoorIO7
namespace Go.Proofs.YtponmfnehbohcaaDoor
open Go.RowKit
theorem rev_take {xs : List Int} {k : Nat} (hk : k < xs.length) : xs.reverse.take (k + 1) = xs.reverse.take k ++ [xs.getD (xs.length - 1 - k) 0] := by
  rw [take_snoc_i (by rw [List.length_reverse]; exact hk), getD_rev hk]
theorem convex_le (rs cs : List Int) : nConvexCount rs cs ≤ nSumsCount rs cs := by
  unfold nConvexCount nSumsCount
  split
  · have h1 := cnt_all cs.length rs cs (cvxB cs.length)
    have h2 : cntI cs.length rs cs (fun _ => true) = (genI cs.length rs cs).length := by unfold cntI; rw [List.filter_eq_self.2 fun _ _ => rfl]
    omega
  · omega
set_option maxRecDepth 100000 in
set_option maxHeartbeats 4000000 in
theorem convexCount_walk (A : Option Addr) (len cap : Nat) (hlc : len ≤ cap) (w : World) (hc : Code8 w w.heap.size A len) (hT : Tab w) :
    Calls Tryd.prog 6 #[.slice A len cap] w fun e w' => e = .returned (.bool true) ∧ Below w.heap.size w w' := by
  by_cases hbig : 1048576 < len
  · go_enter Tryd.func6, Tryd.ntmps6
    go_wp2
    go_returns
    exact ⟨rfl, Below.refl _ _⟩
  · go_enter Tryd.func6, Tryd.ntmps6
    go_wp2_with fail
    refine (DrawConvexCount_c A len cap hlc w hc).mono ?_
    rintro e wc ⟨u, v, rs, cs, rfl, hI, hJ, hr12, hc12, hW⟩
    obtain ⟨B, bp, rfl⟩ := hI.len
    obtain ⟨C, cp, rfl⟩ := hJ.len
    go_wp2_with fail
    refine (ConvexCount_c _ _ rs cs (by omega) (by omega) _ hI hJ (hT.below hW)).mono ?_
    rintro e wc ⟨rfl, hb⟩
    replace hW := hW.trans (Below.mono hb hW.size)
    replace hI := (hI.below hb).more (Below.size hb)
    replace hJ := (hJ.below hb).more (Below.size hb)
    go_wp2_with fail
    refine (sConvexCount_c _ _ rs cs (by omega) (by omega) _ hI hJ).mono ?_
    rintro e wc ⟨rfl, hb⟩
    replace hW := hW.trans (Below.mono hb hW.size)
    replace hI := (hI.below hb).more (Below.size hb)
    replace hJ := (hJ.below hb).more (Below.size hb)
    obtain ⟨N, eN⟩ : ∃ N, N = nConvexCount rs cs := ⟨_, rfl⟩
    rw [← eN]
    by_cases hneg : N < 0
    · clear eN
      go_wp2
      go_returns
      exact ⟨rfl, hW⟩
    · have hct : ctB rs cs = true := nConvexCount_ct (by rw [← eN]; omega)
      have hle := convex_le rs cs
      have htu := convex_turn hct
      have hmi := convex_mir hct
      rw [← eN] at hle htu hmi
      obtain ⟨M, eM⟩ : ∃ M, M = nSumsCount rs cs := ⟨_, rfl⟩
      rw [← eM] at hle
      have HN := Lib.hid (And.intro eM (And.intro htu hmi))
      have hS := (ct_sums hct).1
      have w1 := hS.w1
      have w6 := hS.w6
      have h6 := hS.h6
      clear eN hct htu hmi eM hS
      have hown := OwnI.empty (base := wc.heap.size) wc (Nat.le_refl _)
      have hb0 : Below wc.heap.size wc (wc.alloc (.cells #[] 3)) := by go_grown
      obtain ⟨W0, eW⟩ : ∃ W, W = wc.alloc (.cells #[] 3) := ⟨_, rfl⟩
      rw [← eW] at hown hb0
      have HO := Lib.hid (And.intro hown hb0)
      have HX := Lib.hid (And.intro hI (And.intro hJ hW))
      clear hown hb0 hI hJ hW
      go_wp2_with fail
      rw [← eW]
      clear eW
      go_loopw [7, 8] (fun s q wr => ∃ (k : Nat) (ao : Option Addr) (co : Nat), k ≤ cs.length ∧ s = .slice ao k co ∧ q = .int .i64 ((cs.length : Int) - 1 - k) ∧ OwnI wr wc.heap.size (.slice ao k co) (cs.reverse.take k) ∧ Below wc.heap.size wc wr) (fun _ q _ => (intOf q + 1).toNat)
      case atStart => exact ⟨0, _, _, Nat.zero_le _, rfl, by go_num, by simpa using HO.out.1, HO.out.2⟩
      case round =>
        clear HO
        obtain ⟨k, ao, co, hk, rfl, rfl, hown, hbb⟩ := hrel
        by_cases hlt : k < cs.length
        · have hge : (0 : Int) ≤ (cs.length : Int) - 1 - k := by omega
          have hJ := (HX.out.2.1.below hbb).more hbb.size
          obtain ⟨b, off, cap', e, hbl, hcx⟩ := hJ.row (by omega)
          injection e with e1 _ e3
          subst e1 e3
          have hcr := hcx (cs.length - 1 - k) (by omega)
          have hix : ((cs.length : Int) - 1 - k).toNat = cs.length - 1 - k := by omega
          have hts := rev_take hlt
          obtain ⟨z, ez⟩ : ∃ z, z = cs.getD (cs.length - 1 - k) 0 := ⟨_, rfl⟩
          rw [← ez] at hcr hts
          have hlt6 : (cs.reverse.take k).length = k := len_take (by rw [List.length_reverse]; omega)
          have hown2 := hown.alloc (.cells #[.int .i64 z] 3)
          have hb3 : Below wc.heap.size wr (wr.alloc (.cells #[.int .i64 z] 3)) := (Below.refl _ wr).alloc hbb.size _
          have hbs : wc.heap.size ≤ (wr.alloc (.cells #[.int .i64 z] 3)).heap.size := Nat.le_trans hbb.size hb3.size
          have hlen : (cs.reverse.take k).length + ([z] : List Int).length ≤ 16777216 := by rw [hlt6]; simp; omega
          have hone := Ints.one wr z 3
          have HH := Lib.hid (And.intro hown2 (And.intro hbs (And.intro hlen (And.intro hone (And.intro hb3 (And.intro hbb (And.intro hts hlt6)))))))
          clear hown2 hbs hlen hone hb3 hbb hts hlt6 ez hown hcx hJ hbl
          go_wp2_with (at_builtin; refine wpList_app (v := .slice ao k co) (ys := [z]) rfl (.tmp 41) (.tmp 46) rfl rfl HH.out.1 rfl HH.out.2.2.2.1 HH.out.2.2.1 HH.out.2.1 ?_; intro v6 w6' hown6 hgr6 _ _)
          obtain ⟨hown2, hbs, hlen, hone, hb3, hbb, hts, hlt6⟩ := HH.out
          have hb6 := Below.app (hbb.trans hb3) hown2 hgr6 (Nat.le_refl _) hbs
          rw [← hts] at hown6
          have hl6 : (cs.reverse.take (k + 1)).length = k + 1 := len_take (by rw [List.length_reverse]; omega)
          obtain ⟨a6, c6, e6⟩ := hown6.ints.len
          rw [hl6] at e6
          subst e6
          have HD := Lib.hid (And.intro hown6 hb6)
          clear hown6 hgr6 hb6 hown2 hbs hlen hone hb3 hbb hts hlt6 HH hl6
          go_roundw
          case rel => exact ⟨k + 1, a6, c6, by omega, rfl, by go_num, HD.out.1, HD.out.2⟩
          case measure => simp [intOf]; omega
        · obtain rfl : k = cs.length := by omega
          have hall : cs.reverse.take cs.length = cs.reverse := List.take_of_length_le (by rw [List.length_reverse]; exact Nat.le_refl _)
          rw [hall] at hown
          have hB := hown.ints
          have hI := (HX.out.1.below hbb).more hbb.size
          have hJ := (HX.out.2.1.below hbb).more hbb.size
          have hW := HX.out.2.2.trans (hbb.mono HX.out.2.2.size)
          have hng : ¬ (0 : Int) ≤ (cs.length : Int) - 1 - (cs.length : Int) := by omega
          clear hown hbb HX hall
          go_wp2_with fail
          refine (SumsCount_c _ _ rs cs (by omega) (by omega) _ hI hJ).mono ?_
          rintro e wc ⟨rfl, hb⟩
          replace hW := hW.trans (Below.mono hb hW.size)
          replace hI := (hI.below hb).more (Below.size hb)
          replace hJ := (hJ.below hb).more (Below.size hb)
          replace hB := (hB.below hb).more (Below.size hb)
          rw [← HN.out.1]
          go_wp2_with fail
          refine (ConvexCount_c _ _ cs rs (by omega) (by omega) _ hJ hI (hT.below hW)).mono ?_
          rintro e wc ⟨rfl, hb⟩
          replace hW := hW.trans (Below.mono hb hW.size)
          replace hI := (hI.below hb).more (Below.size hb)
          replace hJ := (hJ.below hb).more (Below.size hb)
          replace hB := (hB.below hb).more (Below.size hb)
          rw [HN.out.2.1]
          go_wp2_with fail
          refine (ConvexCount_c _ _ rs cs.reverse (by omega) (by rw [List.length_reverse]; omega) _ hI hB (hT.below hW)).mono ?_
          rintro e wc ⟨rfl, hb⟩
          replace hW := hW.trans (Below.mono hb hW.size)
          replace hI := (hI.below hb).more (Below.size hb)
          replace hJ := (hJ.below hb).more (Below.size hb)
          replace hB := (hB.below hb).more (Below.size hb)
          rw [HN.out.2.2]
          go_wp2
          go_returns
          exact ⟨rfl, hW⟩
end Go.Proofs.YtponmfnehbohcaaDoor
