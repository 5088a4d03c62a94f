/- Contracts of ConvexCount and PolyCount of the reference. Conditions: the slices read as lists of integers. -/
import Derived.Test.YtponmfnehbohcaaDoorSC3
namespace Go.Proofs.YtponmfnehbohcaaDoor
open Go Go.RowKit
set_option maxHeartbeats 2000000 in
theorem sConvexCount_c (u v : Value) (rs cs : List Int) (hr : rs.length ≤ 2097152) (hc : cs.length ≤ 2097152) (w : World) (hu : Ints w.heap.size w u rs) (hv : Ints w.heap.size w v cs) :
    Calls Tryd.prog 13 #[u, v] w fun e w' => e = .returned (.int .i64 (nConvexCount rs cs)) ∧ Below w.heap.size w w' := by
  have HS := l15Ok_c u v rs cs hr hc w hu hv
  unfold nConvexCount
  cases hs : ctB rs cs with
  | false =>
    rw [hs] at HS
    obtain ⟨A, cap, rfl⟩ := hu.len
    obtain ⟨B, cap', rfl⟩ := hv.len
    clear hs
    go_enter Tryd.func13, Tryd.ntmps13
    go_wp2_with (go_at_call 31; refine HS.mono ?_; rintro e w' ⟨rfl, rfl⟩)
    go_returns
    exact ⟨by simp, Below.refl _ _⟩
  | true =>
    rw [hs] at HS
    have h16 : rs.length * cs.length ≤ 16 := by
      unfold ctB at hs
      rw [Bool.and_eq_true, decide_eq_true_eq] at hs
      exact hs.2
    have hsv : svB rs cs = true := by
      unfold ctB at hs
      exact (Bool.and_eq_true _ _ ▸ hs).1
    have HC := l34Convex_c rs cs (svB_yes hsv) h16 u v w hu hv
    have hcn : cntI cs.length rs cs (cvxB cs.length) = ((genI cs.length rs cs).filter (cvxB cs.length)).length := rfl
    obtain ⟨A, cap, rfl⟩ := hu.len
    obtain ⟨B, cap', rfl⟩ := hv.len
    obtain ⟨M, eM⟩ : ∃ M, M = (genI cs.length rs cs).filter (cvxB cs.length) := ⟨_, rfl⟩
    rw [← eM] at HC hcn
    rw [hcn]
    obtain ⟨n, en⟩ : ∃ n, n = M.length := ⟨_, rfl⟩
    rw [← en]
    clear hs hsv eM hcn h16
    go_enter Tryd.func13, Tryd.ntmps13
    go_wp2_with (go_at_call 31; refine HS.mono ?_; rintro e w' ⟨rfl, rfl⟩)
    refine HC.mono ?_
    rintro e w' ⟨b, c, gs, rfl, him, hb⟩
    rw [← en]
    clear him
    go_wp2
    go_returns
    exact ⟨by simp, hb⟩
theorem poly_filter (n : Nat) (L : List (List Nat)) : (L.filter (cvxB n)).filter (polyB n) = L.filter (polyB n) := by
  rw [List.filter_filter]
  congr 1
  funext x
  unfold polyB
  cases cvxB n x <;> simp
set_option maxHeartbeats 4000000 in
set_option maxRecDepth 100000 in
theorem sPolyCount_c (u v : Value) (rs cs : List Int) (hr : rs.length ≤ 2097152) (hc : cs.length ≤ 2097152) (w : World) (hu : Ints w.heap.size w u rs) (hv : Ints w.heap.size w v cs) :
    Calls Tryd.prog 11 #[u, v] w fun e w' => e = .returned (.int .i64 (nPolyCount rs cs)) ∧ Below w.heap.size w w' := by
  have HS := l15Ok_c u v rs cs hr hc w hu hv
  cases hs : ctB rs cs with
  | false =>
    have hn : nPolyCount rs cs = -1 := by unfold nPolyCount; rw [if_neg (by rw [hs]; decide)]
    rw [hn]
    rw [hs] at HS
    obtain ⟨A, cap, rfl⟩ := hu.len
    obtain ⟨B, cap', rfl⟩ := hv.len
    clear hs
    go_enter Tryd.func11, Tryd.ntmps11
    go_wp2_with (go_at_call 31; refine HS.mono ?_; rintro e w' ⟨rfl, rfl⟩)
    go_returns
    exact ⟨rfl, Below.refl _ _⟩
  | true =>
    have hn : nPolyCount rs cs = ((((genI cs.length rs cs).filter (cvxB cs.length)).filter (polyB cs.length)).length : Nat) := by unfold nPolyCount; rw [if_pos hs, poly_filter]; rfl
    rw [hn]
    rw [hs] at HS
    have h16 : rs.length * cs.length ≤ 16 := by
      unfold ctB at hs
      rw [Bool.and_eq_true, decide_eq_true_eq] at hs
      exact hs.2
    have hsv : svB rs cs = true := by
      unfold ctB at hs
      exact (Bool.and_eq_true _ _ ▸ hs).1
    have hS := svB_yes hsv
    have HC := l34Convex_c rs cs hS h16 u v w hu hv
    have himg : ∀ ns, ns ∈ (genI cs.length rs cs).filter (cvxB cs.length) → VImg cs.length ns ∧ ns.length = rs.length := fun ns hm => by
      have := gen_img hS.h1 hS.h6 hS.w1 hS.w6 (List.mem_filter.1 hm).1
      exact ⟨this.1, this.2.2.2⟩
    have hlen : ((genI cs.length rs cs).filter (cvxB cs.length)).length ≤ 65536 := Nat.le_trans (List.length_filter_le _ _) (gen_len_ct h16)
    obtain ⟨A, cap, rfl⟩ := hu.len
    obtain ⟨B, cap', rfl⟩ := hv.len
    obtain ⟨M, eM⟩ : ∃ M, M = (genI cs.length rs cs).filter (cvxB cs.length) := ⟨_, rfl⟩
    rw [← eM] at HC himg hlen ⊢
    obtain ⟨n, en⟩ : ∃ n, n = M.length := ⟨_, rfl⟩
    rw [← en] at hlen
    have HIM := Lib.hid (And.intro himg en)
    clear hs hsv eM hn h16 hS himg
    go_enter Tryd.func11, Tryd.ntmps11
    go_wp2_with (go_at_call 31; refine HS.mono ?_; rintro e w' ⟨rfl, rfl⟩)
    refine HC.mono ?_
    rintro e w9 ⟨b9, c9, gs9, rfl, him9, hb9⟩
    rw [← en] at him9 ⊢
    have H9 := Lib.hid (And.intro him9 hb9)
    clear him9 hb9 HC HS en
    go_wp2_with fail
    go_loopw [6, 7] (fun s q wr => ∃ (k a : Nat), k ≤ n ∧ s = .int .i64 (a : Int) ∧ q = .int .i64 (k : Int) ∧ a = ((M.take k).filter (polyB cs.length)).length ∧ Below w9.heap.size w9 wr) (fun _ q _ => n - (intOf q).toNat)
    case atStart => exact ⟨0, 0, Nat.zero_le _, rfl, rfl, rfl, Below.refl _ _⟩
    case round =>
      obtain ⟨k, a, hk, rfl, rfl, ha, hbr⟩ := hrel
      have HN := Lib.hid ha
      have hak : a ≤ 65536 := by
        have a1 := List.length_filter_le (polyB cs.length) (M.take k)
        rw [len_take_l (by have := HIM.out.2; omega : k ≤ M.length)] at a1
        omega
      clear ha
      by_cases hlt : k < n
      · have hkL : k < M.length := by rw [← HIM.out.2]; exact hlt
        have hki : (k : Int) < (n : Int) := by omega
        have hl := H9.out.1.below hbr (Nat.le_refl _)
        obtain ⟨bb, cc, e, hb1, hb2, c0, c1⟩ := hl.get hkL
        injection e with e1 e2 e3
        injection e1 with e1
        injection e1 with e1
        subst e1 e3
        obtain ⟨hrow, hg1⟩ := hl.rows k hkL
        have hsn := filter_snoc (p := polyB cs.length) hkL
        have hmem : M.getD k [] ∈ M := by rw [List.getD_eq_getElem?_getD, List.getElem?_eq_getElem hkL]; exact List.getElem_mem hkL
        obtain ⟨hV, hnl⟩ := HIM.out.1 _ hmem
        obtain ⟨gg, eg⟩ : ∃ g, g = (gs9.getD k (0, 0)).1 := ⟨_, rfl⟩
        obtain ⟨cg, ec⟩ : ∃ c, c = (gs9.getD k (0, 0)).2 := ⟨_, rfl⟩
        rw [← eg] at hrow hg1 c1
        rw [← ec] at c1
        obtain ⟨ms, em⟩ : ∃ ms, ms = M.getD k [] := ⟨_, rfl⟩
        rw [← em] at hrow hsn hV hnl
        have hcv := poly_img hV
        have HC := sImagePoly_c (cs.length : Int) (.slice (some ⟨gg, 0, none⟩) rs.length cg) (casts ms) wr (hrow.intsH (h := rs.length) (c := cg) hnl)
        rw [hcv] at HC
        have HK := Lib.hid (And.intro hbr hsn)
        clear hl hbr hrow hg1 hsn hV hnl hmem em eg ec hb1 hb2 e2 hcv
        go_wp2_with fail
        refine HC.mono ?_
        rintro e wc ⟨rfl, hb2⟩
        obtain ⟨hbr, hsn⟩ := HK.out
        have hbrc := hbr.trans (hb2.mono hbr.size)
        cases hp : polyB cs.length ms with
        | false =>
          rw [hp, if_neg (by simp), List.append_nil] at hsn
          have HF := Lib.hid (And.intro hbrc hsn)
          clear hp hsn hbr hbrc c0 c1 HC HK hb2
          go_wp2
          go_roundw
          case rel => exact ⟨k + 1, a, by omega, rfl, by go_num, by rw [HF.out.2]; exact HN.out, HF.out.1⟩
          case measure => simp [intOf]; omega
        | true =>
          rw [hp, if_pos rfl] at hsn
          have HF := Lib.hid (And.intro hbrc hsn)
          clear hp hsn hbr hbrc c0 c1 HC HK hb2
          go_wp2
          go_roundw
          case rel => exact ⟨k + 1, a + 1, by omega, by go_num, by go_num, by rw [HF.out.2, List.length_append, ← HN.out]; rfl, HF.out.1⟩
          case measure => simp [intOf]; omega
      · obtain rfl : k = n := by omega
        have hki : ¬ ((k : Int) < (k : Int)) := by omega
        have hall : M.take k = M := List.take_of_length_le (by rw [← HIM.out.2]; exact Nat.le_refl _)
        have HE := Lib.hid (show a = (M.filter (polyB cs.length)).length from by have h := HN.out; rwa [hall] at h)
        have HB := Lib.hid (H9.out.2.trans (hbr.mono H9.out.2.size))
        clear hbr
        go_wp2
        go_returns
        exact ⟨ri (by rw [HE.out]), HB.out⟩
end Go.Proofs.YtponmfnehbohcaaDoor
