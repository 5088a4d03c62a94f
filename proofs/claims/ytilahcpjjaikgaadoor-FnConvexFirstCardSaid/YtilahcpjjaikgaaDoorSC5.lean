/- Contract of ConvexFirst of the reference: the first convex image in order, if the images are counted. Conditions: the slices read as lists of integers. -/
import Derived.Test.YtilahcpjjaikgaaDoorSC4
import Derived.Test.YtilahcpjjaikgaaDoorIO8
namespace Go.Proofs.YtilahcpjjaikgaaDoor
open Go Go.RowKit
theorem first_filter {p : List Nat → Bool} {L : List (List Nat)} (h : 0 < (L.filter p).length) : L.find? p = some ((L.filter p).getD 0 []) := by
  rw [← List.head?_filter]
  cases hf : L.filter p with
  | nil => rw [hf] at h; simp at h
  | cons a t => simp
theorem first_none {p : List Nat → Bool} {L : List (List Nat)} (h : (L.filter p).length = 0) : L.find? p = none := by
  rw [← List.head?_filter, List.length_eq_zero_iff.1 h]
  rfl
theorem FirstOut.img {w w' : World} {wd : Nat} {ns : List Nat} {e : Ending} (h : FirstOut w wd (some ns) e w') : ImgOut w wd ns e w' := by
  rcases h with ⟨ms, e1, h⟩ | ⟨e1, _⟩
  · cases e1
    exact h
  · cases e1
theorem FirstOut.no {w w' : World} {wd : Nat} {e : Ending} (h : FirstOut w wd none e w') : NoImg w e w' := by
  rcases h with ⟨ms, e1, h⟩ | ⟨_, h⟩
  · cases e1
  · exact h
theorem first_len {rs cs : List Int} {ns : List Nat} (h : firstO rs cs = some ns) : ns.length = rs.length := by
  unfold firstO at h
  split at h
  · rename_i hs
    have hsv : svB rs cs = true := by
      unfold ctB at hs
      exact (Bool.and_eq_true _ _ ▸ hs).1
    have hS := svB_yes hsv
    exact (gen_img hS.h1 hS.h6 hS.w1 hS.w6 (List.mem_of_find?_eq_some h)).2.2.2
  · cases h
set_option maxHeartbeats 4000000 in
set_option maxRecDepth 100000 in
theorem sConvexFirst_c (u v : Value) (rs cs : List Int) (hr : rs.length ≤ 2097152) (hc : cs.length ≤ 2097152) (w : World) (hu : Ints w.heap.size w u rs) (hv : Ints w.heap.size w v cs) :
    Calls Tryd.prog 8 #[u, v] w (FirstOut w cs.length (firstO rs cs)) := by
  obtain ⟨W0, eW⟩ : ∃ W0, W0 = w.alloc (.cells #[.int .i64 0, .slice none 0 0] 27) := ⟨_, rfl⟩
  have hB0 : Below w.heap.size w W0 := by rw [eW]; go_grown
  have i0 : W0.cell? ⟨w.heap.size, 0, none⟩ = some (.int .i64 0) := by rw [eW]; go_cell
  have i1 : W0.cell? ⟨w.heap.size, 1, none⟩ = some (.slice none 0 0) := by rw [eW]; go_cell
  have f0 : W0.frozen? ⟨w.heap.size, 0, none⟩ = false := by rw [eW]; go_cell
  have f1 : W0.frozen? ⟨w.heap.size, 1, none⟩ = false := by rw [eW]; go_cell
  have hz0 : w.heap.size < W0.heap.size := by rw [eW]; simp
  have hu0 := (hu.below hB0).more hB0.size
  have hv0 := (hv.below hB0).more hB0.size
  have HS := sConvexCount_c u v rs cs hr hc W0 hu0 hv0
  by_cases hn : nConvexCount rs cs < 1
  · have ho : firstO rs cs = none := by
      unfold firstO
      cases hs : ctB rs cs with
      | false => rfl
      | true =>
        unfold nConvexCount at hn
        rw [if_pos hs] at hn
        have h1 : (((genI cs.length rs cs).filter (cvxB cs.length)).length : Int) < 1 := hn
        exact first_none (by omega)
    rw [ho]
    obtain ⟨N, eN⟩ : ∃ N, N = nConvexCount rs cs := ⟨_, rfl⟩
    rw [← eN] at HS hn
    obtain ⟨A, cap, rfl⟩ := hu.len
    obtain ⟨B, cap', rfl⟩ := hv.len
    have HB := Lib.hid hB0
    clear ho hu hv hu0 hv0 hB0 eN
    go_enter Tryd.func8, Tryd.ntmps8
    go_wp2_with fail
    rw [← eW]
    clear eW
    refine HS.mono ?_
    rintro e w1 ⟨rfl, hb⟩
    have k0 := cellB hb i0
    have k1 := cellB hb i1
    have kf0 := frozenB hb i0 f0
    have kf1 := frozenB hb i1 f1
    obtain ⟨q0, q1⟩ := set2_get (x := .int .i64 0) (y := .slice none 0 0) k0 k1
    have HO := Lib.hid (((HB.out.trans (hb.mono HB.out.size)).setCell (p := ⟨w.heap.size, 0, none⟩) (by simp) (.int .i64 0)).setCell (p := ⟨w.heap.size, 1, none⟩) (by simp) (.slice none 0 0))
    clear hb HS HB
    go_wp2
    refine bodyPost_ret (res_img_b rfl _ _ rfl q0 q1) rfl ?_
    exact .inr ⟨rfl, rfl, HO.out⟩
  · have hs : ctB rs cs = true := by
      cases hs : ctB rs cs with
      | false => exact absurd (show nConvexCount rs cs < 1 by unfold nConvexCount; rw [if_neg (by rw [hs]; decide)]; omega) hn
      | true => rfl
    have h16 : rs.length * cs.length ≤ 16 := by
      have hs' := hs
      unfold ctB at hs'
      rw [Bool.and_eq_true, decide_eq_true_eq] at hs'
      exact hs'.2
    have hsv : svB rs cs = true := by
      have hs' := hs
      unfold ctB at hs'
      exact (Bool.and_eq_true _ _ ▸ hs').1
    have hS := svB_yes hsv
    have hM0 : 0 < ((genI cs.length rs cs).filter (cvxB cs.length)).length := by
      have hn' := hn
      unfold nConvexCount at hn'
      rw [if_pos hs] at hn'
      have h1 : ¬ (((genI cs.length rs cs).filter (cvxB cs.length)).length : Int) < 1 := hn'
      omega
    have ho : firstO rs cs = some (((genI cs.length rs cs).filter (cvxB cs.length)).getD 0 []) := by
      unfold firstO
      rw [if_pos hs]
      exact first_filter hM0
    have hnl := first_len ho
    rw [ho]
    have HC := fun (W : World) (hb : Below W0.heap.size W0 W) => l34Convex_c rs cs hS h16 u v W ((hu0.below hb).more hb.size) ((hv0.below hb).more hb.size)
    obtain ⟨A, cap, rfl⟩ := hu.len
    obtain ⟨B, cap', rfl⟩ := hv.len
    obtain ⟨N, eN⟩ : ∃ N, N = nConvexCount rs cs := ⟨_, rfl⟩
    rw [← eN] at HS hn
    obtain ⟨M, eM⟩ : ∃ M, M = (genI cs.length rs cs).filter (cvxB cs.length) := ⟨_, rfl⟩
    rw [← eM] at HC hM0 hnl ⊢
    obtain ⟨wd, ewd⟩ : ∃ n, n = cs.length := ⟨_, rfl⟩
    rw [← ewd] at HC HS ⊢
    obtain ⟨ms, em⟩ : ∃ ms, ms = M.getD 0 [] := ⟨_, rfl⟩
    rw [← em] at hnl ⊢
    obtain ⟨h, eh⟩ : ∃ h, h = rs.length := ⟨_, rfl⟩
    rw [← eh] at HC HS hnl ⊢
    obtain ⟨n, en⟩ : ∃ n, n = M.length := ⟨_, rfl⟩
    have hn0 : (0 : Int) < (n : Int) := by omega
    have HB := Lib.hid hB0
    have HM := Lib.hid (And.intro hM0 (And.intro em (And.intro hnl en)))
    clear hs hsv hS h16 ho hu hv hu0 hv0 hB0 eN eM ewd eh hM0 em hnl en hr hc
    go_enter Tryd.func8, Tryd.ntmps8
    go_wp2_with fail
    rw [← eW]
    clear eW
    refine HS.mono ?_
    rintro e w1 ⟨rfl, hb⟩
    have k0 := cellB hb i0
    have k1 := cellB hb i1
    have kf0 := frozenB hb i0 f0
    have kf1 := frozenB hb i1 f1
    clear HS i0 i1 f0 f1
    have HB1 := Lib.hid (And.intro (HB.out.trans (hb.mono HB.out.size)) hb.size)
    have HC1 := Lib.hid (HC w1 hb)
    clear hb HC HB
    go_wp2_with fail
    refine HC1.out.mono ?_
    rintro e w9 ⟨b, c, gs, rfl, him, hb9⟩
    obtain ⟨bb, cc, e, h1, h2, c0, c1⟩ := him.get HM.out.1
    injection e with e1 e2 e3
    injection e1 with e1
    injection e1 with e1
    subst e1 e3
    obtain ⟨hrow, hg1⟩ := him.rows 0 HM.out.1
    rw [← HM.out.2.1] at hrow
    rw [← HM.out.2.2.2]
    rw [Nat.zero_mul] at c0 c1
    obtain ⟨gg, eg⟩ : ∃ g, g = (gs.getD 0 (0, 0)).1 := ⟨_, rfl⟩
    obtain ⟨cg, ec⟩ : ∃ c, c = (gs.getD 0 (0, 0)).2 := ⟨_, rfl⟩
    rw [← eg] at hrow hg1 c1
    rw [← ec] at c1
    have i0 := cellB hb9 k0
    have i1 := cellB hb9 k1
    have f0 := frozenB hb9 k0 kf0
    have f1 := frozenB hb9 k1 kf1
    obtain ⟨q0, q1⟩ := set2_get (x := .int .i64 (wd : Int)) (y := .slice (some ⟨gg, 0, none⟩) h cg) i0 i1
    have hgw : w.heap.size < gg := by have := HB1.out.2; omega
    have HO := Lib.hid (And.intro ((hrow.far (p := ⟨w.heap.size, 0, none⟩) (by simp; omega) (.int .i64 (wd : Int))).far (p := ⟨w.heap.size, 1, none⟩) (by simp; omega) (.slice (some ⟨gg, 0, none⟩) h cg)) (((HB1.out.1.trans (hb9.mono HB1.out.1.size)).setCell (p := ⟨w.heap.size, 0, none⟩) (by simp) (.int .i64 (wd : Int))).setCell (p := ⟨w.heap.size, 1, none⟩) (by simp) (.slice (some ⟨gg, 0, none⟩) h cg)))
    clear hrow hb9 HC1 him hg1 e2 eg ec k0 k1 kf0 kf1
    go_wp2
    refine bodyPost_ret (res_img_b rfl _ _ rfl q0 q1) rfl ?_
    exact .inl ⟨ms, rfl, gg, cg, by rw [HM.out.2.2.1]; rfl, by omega, HO.out.1, HO.out.2⟩
end Go.Proofs.YtilahcpjjaikgaaDoor
