/- Contract of TableOf at a valid image: its cells as numbers. Conditions: the image is valid. -/
import Derived.Test.YtbpjceffkchmbaaDoorTB1
import Derived.Test.YtbpjceffkchmbaaDoorTBP
import Derived.Test.YtbpjceffkchmbaaDoorKU
namespace Go.Proofs.YtbpjceffkchmbaaDoor
open Go.RowKit Go.Shelf
attribute [local go_sem] Oper.semAt_some
/-- The numbers of an image's cells. -/
def bitF (ns : List Nat) (i j : Nat) : Int := b2i (cell ns i j)
theorem Tbl.szd {w : World} {gT h n : Nat} {gs : List Nat} {T : List (List Int)} (t : Tbl w gT h n gs T) : Szd h n T := ⟨t.tl, t.wid⟩
theorem Tbl.kept {A B : World} {gT h n : Nat} {gs : List Nat} {T : List (List Int)} {row : Option Nat} (t : Tbl A gT h n gs T) (hg : A.grownBy B row) (hr : ∀ r, row = some r → ∃ o : Obj, A.heap[r]? = some o ∧ o.isCells = false) : Tbl B gT h n gs T := by
  refine t.of_blocks (hg.block _ t.lt (fun e => ?_)) fun i hi => hg.block _ (t.row i hi).lt (fun e => ?_)
  · obtain ⟨o, ho, hc⟩ := hr gT e.symm
    obtain ⟨sp, hb⟩ := t.blk
    rw [hb] at ho
    cases ho
    cases hc
  · obtain ⟨o, ho, hc⟩ := hr _ e.symm
    obtain ⟨sp, hb⟩ := t.row i hi
    rw [hb] at ho
    cases ho
    cases hc
set_option maxRecDepth 100000 in
set_option maxHeartbeats 4000000 in
theorem TableOf_c (Wd : Nat) (v : Value) (ns : List Nat) (hi : VImg Wd ns) (w : World) (hv : Ints w.heap.size w v (casts ns)) :
    Calls Tryd.prog 34 #[.agg #[.int .i64 (Wd : Int), v]] w fun e w' => ∃ gT gs, e = .returned (.tuple #[.slice (some ⟨gT, 0, none⟩) ns.length ns.length, .bool true]) ∧ Tbl w' gT ns.length Wd gs (tabF (bitF ns) ns.length Wd) ∧ w.heap.size ≤ gT ∧ (∀ i, i < ns.length → w.heap.size ≤ gs.getD i 0) ∧ Below w.heap.size w w' := by
  obtain ⟨A, cap, rfl⟩ := hv.len
  rw [length_casts] at hv ⊢
  have h6 := hi.h6
  have w6 := hi.w6
  have hvb := validB_of hi
  refine (callsIn_wide (n := 3)).1 ?_
  refine callsIn_of_wp_marks Tryd.func34 rfl trivial ?_ rfl
  simp only [Tryd.ntmps34, List.size_toArray, List.length_cons, List.length_nil, Nat.reduceAdd, Nat.reduceSub, Array.replicate_succ, Array.replicate_zero, List.push_toArray, List.append_toArray, List.nil_append, List.cons_append]
  obtain ⟨Wa, eWa⟩ : ∃ W0, W0 = w.alloc (.cells #[.int .i64 (Wd : Int), .slice A ns.length cap] 25) := ⟨_, rfl⟩
  have hBa : Below w.heap.size w Wa := by rw [eWa]; go_grown
  have a0 : Wa.cell? ⟨w.heap.size, 0, none⟩ = some (.int .i64 (Wd : Int)) := by rw [eWa]; go_cell
  have a1 : Wa.cell? ⟨w.heap.size, 1, none⟩ = some (.slice A ns.length cap) := by rw [eWa]; go_cell
  have hza : w.heap.size + 1 = Wa.heap.size := by rw [eWa]; simp
  have hva := (hv.below hBa).more hBa.size
  gi_wp2_with fail
  rw [← eWa]
  clear eWa
  refine ⟨trivial, ?_⟩
  refine (callsIn_wide.2 (ImageValid_c (Wd : Int) _ (casts ns) Wa hva)).mono ?_
  rintro e w1 ⟨rfl, hb1⟩
  rw [hvb]
  have d0 := cellB hb1 a0
  have d1 := cellB hb1 a1
  have hB1 := hBa.trans (hb1.mono hBa.size)
  have hz1 : w.heap.size + 1 ≤ w1.heap.size := by have := hb1.size; omega
  clear a0 a1 hva hza hBa hb1 hvb
  gi_wp2_with fail
  refine ⟨trivial, ?_⟩
  refine (callsIn_wide.2 (emptyTable_c ns.length Wd (by omega) (by omega) w1)).mono ?_
  rintro e w2 ⟨gT, gs, rfl, hT2, hgT, hgs, hb2⟩
  have hgw : w.heap.size < gT := by omega
  have hgsw : ∀ i, i < ns.length → w.heap.size < gs.getD i 0 := fun i hi => by have := hgs i hi; omega
  have hgB : gT < w2.heap.size := hT2.lt
  have hgsB : ∀ i, i < ns.length → gs.getD i 0 < w2.heap.size := fun i hi => (hT2.row i hi).lt
  have a0 := cellB hb2 d0
  have a1 := cellB hb2 d1
  have hB2 := hB1.trans (hb2.mono hB1.size)
  clear d0 d1 hB1 hb2 hgs hgT
  obtain ⟨W3, eW3⟩ : ∃ W3, W3 = w2.alloc (.cells #[.slice (some ⟨gT, 0, none⟩) ns.length ns.length] 55) := ⟨_, rfl⟩
  have hb3 : Below w2.heap.size w2 W3 := by rw [eW3]; go_grown
  have o0 : W3.cell? ⟨w2.heap.size, 0, none⟩ = some (.slice (some ⟨gT, 0, none⟩) ns.length ns.length) := by rw [eW3]; go_cell
  have hz3 : W3.heap.size = w2.heap.size + 1 := by rw [eW3]; simp
  have d0 := cellB hb3 a0
  have d1 := cellB hb3 a1
  have hT3 := hT2.below hb3
  have hB3 := hB2.trans (hb3.mono hB2.size)
  clear hT2 hB2 hb3
  have d0r := d0
  have d1r := d1
  rw [eW3] at d0r d1r
  have HE3 := Lib.hid eW3
  have HO := Lib.hid (And.intro o0 (And.intro d0 d1))
  clear eW3 o0 d0 d1
  gi_wp2_with fail
  have eW3 := HE3.out
  obtain ⟨o0, d0, d1⟩ := HO.out
  clear a0 a1 d0r d1r
  rw [← eW3]
  obtain ⟨Bo, eB⟩ : ∃ Bo, Bo = w2.heap.size := ⟨_, rfl⟩
  rw [← eB] at o0 hz3 hgB hgsB ⊢
  clear eW3
  have hoB : w.heap.size < Bo := by omega
  clear eB
  refine ⟨trivial, ?_⟩
  refine (callsIn_wide.2 (cells_c (Wd : Int) (.slice A ns.length cap) W3)).mono ?_
  rintro e w4 ⟨rfl, e4⟩
  have hb4 : Below W3.heap.size W3 w4 := by rw [← e4]; go_grown
  have hbn := Box2.new W3 (.int .i64 (Wd : Int)) (.slice A ns.length cap) 25
  rw [e4] at hbn
  obtain ⟨hz4, b0, b1⟩ := hbn
  clear e4
  rw [hz3] at b0 b1 hz4 ⊢
  have a0 := cellB hb4 d0
  have a1 := cellB hb4 d1
  have p0 := cellB hb4 o0
  have hT4 := hT3.below hb4
  have hB4 := hB3.trans (hb4.mono hB3.size)
  clear d0 d1 o0 hT3 hB3 hb4 hz3
  gi_wp2_with fail
  refine wpIn_rangeFunc_ownF (F := Fence.wide) rfl (by omega) (gf := 79) (lb := #[.pointer (some ⟨Bo + 1, 0, none⟩)]) rfl trivial (enters_of Tryd.func79 (by kernel_rfl) rfl)
    (cells_stops 2 (Bo + 1) ns.length Wd cap A h6 w6 w4 b0 b1 hz4) (fun h k => KpC.t h k) (fun W l o o' _ h hc _ => KpC.b W l o o' h hc) (Below.refl _ _) (fun _ => rfl)
    (fun pre W => ((W.cell? ⟨w.heap.size, 0, none⟩ = some (.int .i64 (Wd : Int)) ∧ W.cell? ⟨w.heap.size, 1, none⟩ = some (.slice A ns.length cap)) ∧ W.cell? ⟨Bo, 0, none⟩ = some (.slice (some ⟨gT, 0, none⟩) ns.length ns.length) ∧ Tbl W gT ns.length Wd gs (foldTb (bitF ns) ns.length Wd (pre.map (·.1)))) ∧ Below w.heap.size w W)
    (fun _ _ _ => False)
    (OwnFrom.and (Own.from (fun s A B row hs hg hr => ⟨⟨cell_kept hs.1.1 hg hr, cell_kept hs.1.2 hg hr⟩, cell_kept hs.2.1 hg hr, hs.2.2.kept hg hr⟩) _) (ownFrom_below (Nat.le_refl _) (by omega)))
    (fun _ _ _ _ _ hs _ _ => hs)
    ⟨⟨⟨a0, a1⟩, p0, hT4⟩, hB4⟩
    (fun x => { tmps := #[.agg #[.int .i64 (Wd : Int), .slice A ns.length cap], .pointer (some ⟨w.heap.size, 0, none⟩), .slice none 0 0, .bool false, .pointer (some ⟨Bo, 0, none⟩), .int .i64 (x.1.1 : Int), .int .i64 (x.1.2 : Int), .agg #[.int .i64 (Wd : Int), .slice A ns.length cap], .bool true, .bool false, .pointer (some ⟨w.heap.size, 1, none⟩), .slice A ns.length cap, .int .i64 (ns.length : Int), .pointer (some ⟨w.heap.size, 0, none⟩), .int .i64 (Wd : Int), .slice (some ⟨gT, 0, none⟩) ns.length ns.length, .agg #[.int .i64 (Wd : Int), .slice A ns.length cap], .func (.func 79) #[] #[.pointer (some ⟨Bo + 1, 0, none⟩)], .int .i64 (x.1.1 : Int), .int .i64 (x.1.2 : Int), undef, undef, undef, undef, undef, undef, undef, undef, undef, undef, undef, undef, undef, undef, undef], defers := [] }) ?assign ?body ?done ?stop
  case assign =>
    intro l x W K hK
    dsimp only [encC]
    gi_wp2
    exact hK
  case body =>
    rintro l pre x W ⟨⟨⟨h0, h1⟩, o0, hT⟩, hB⟩ hlen
    have hvW := (hv.below hB).more hB.size
    obtain ⟨⟨i, j⟩, hxi, hxj⟩ := x
    dsimp only at hxi hxj ⊢
    have hsn : foldTb (bitF ns) ns.length Wd ((pre ++ [(⟨(i, j), hxi, hxj⟩ : Cell ns.length Wd)]).map (·.1)) = putT (foldTb (bitF ns) ns.length Wd (pre.map (·.1))) i j (bitF ns i j) := by
      rw [List.map_append]
      exact foldTb_snoc _ _ _ _ _
    obtain ⟨T, eT⟩ : ∃ T, T = foldTb (bitF ns) ns.length Wd (pre.map (·.1)) := ⟨_, rfl⟩
    rw [← eT] at hT hsn
    have HSN := Lib.hid hsn
    have hr6 := hi.get64 i
    have hj62 : j ≤ 62 := by omega
    obtain ⟨b, off, cp, ebv, hbl, hcx⟩ := hvW.row (by rw [length_casts]; omega)
    injection ebv with e1 e2 e3
    subst e1 e3
    clear e2
    rw [length_casts] at hcx
    have hci := hcx i hxi
    rw [casts_getD] at hci
    have hct := hT.cell hxi
    have hcr := (hT.row i hxi).cell (k := j) (by rw [hT.wid i hxi]; exact hxj)
    obtain ⟨g, eg⟩ : ∃ g, g = gs.getD i 0 := ⟨_, rfl⟩
    rw [← eg] at hct hcr
    unfold rowV at hct
    obtain ⟨r, er⟩ : ∃ r, r = ns.getD i 0 := ⟨_, rfl⟩
    rw [← er] at hci hr6
    obtain ⟨z, ez⟩ : ∃ z, z = (T.getD i []).getD j 0 := ⟨_, rfl⟩
    rw [← ez] at hcr
    have k0 := cell_regrown o0
    have k1 := cell_regrown h1
    have k2 := cell_regrown hci
    have k3 := cell_regrown hct
    have HT := Lib.hid (And.intro hT (And.intro eg er))
    clear eT ez hsn eg er hcx hT
    gi_wp2_with fail
    refine wpIn_region_below_tail 14 (by kernel_rfl) (by kernel_rfl) (by kernel_rfl) ?_
    simp only [List.take_succ_cons, List.take_zero, List.drop_succ_cons, List.drop_zero]
    repeat (first | go_big_quiet_step (fail) | quiet_step (fail))
    refine wpQuiet_nil ?_
    intro _ hw0
    obtain ⟨⟨dq, osq⟩, hw1⟩ := hw0
    subst hw1
    have hq := below_regrown W dq osq
    generalize Go.Sort.grow (redrawn W dq) osq = w1 at hq ⊢
    clear k0 k1 k2 k3
    have hcr1 := cellB hq hcr
    have hT1 := HT.out.1.below hq
    have hfz := (hT1.row i hxi).frozen j
    rw [← HT.out.2.1] at hfz
    have hgw1 := hgsw i hxi
    have hgB1 := hgsB i hxi
    rw [← HT.out.2.1] at hgw1 hgB1
    have hbW := hB.trans (hq.mono hB.size)
    have hset := hT1.set hxi hxj (b2i (r.testBit j))
    rw [← HT.out.2.1] at hset
    have HS := Lib.hid hset
    have HV := Lib.hid (shr_and (r := r) (j := j) (by omega))
    clear hset hT1
    go_wp2
    rw [HV.out]
    refine ⟨rfl, (keepsB hq).trans (KeepsOthers.setCell _ _ _), (kpB hq).t (fun v h => (World.cell?_setCell_other _ _ _ _ (by first | (simp; done) | (simp; omega))).trans h), ⟨⟨(World.cell?_setCell_other _ _ _ _ (by first | (simp; done) | (simp; omega))).trans (cellB hq h0), (World.cell?_setCell_other _ _ _ _ (by first | (simp; done) | (simp; omega))).trans (cellB hq h1)⟩, (World.cell?_setCell_other _ _ _ _ (by first | (simp; done) | (simp; omega))).trans (cellB hq o0), ?_⟩, hbW.setCell (by simp; omega) _⟩
    rw [HSN.out, show bitF ns i j = b2i (r.testBit j) by unfold bitF cell; rw [← HT.out.2.2]]
    exact HS.out
  case done =>
    rintro D xs W hD hall ⟨⟨⟨h0, h1⟩, o0, hT⟩, hB⟩ hK
    rw [hall, fold_all (fun p hp => mem_cellsL.1 hp) (fun i j h1 h2 => mem_cellsL.2 ⟨h1, h2⟩)] at hT
    have HT := Lib.hid hT
    clear hT
    gi_wp2
    refine ⟨by simp, .inl ⟨_, _, rfl, run_takeDeferred hK, ?_⟩⟩
    have hT := HT.out.kept (grownBy_putObj' _ D (.deferred none)) (fun r e => by cases e; exact ⟨_, hK, rfl⟩)
    refine ⟨.tuple #[.slice (some ⟨gT, 0, none⟩) ns.length ns.length, .bool true], by simp [results, Tryd.results34, go_sem], gT, gs, rfl, hT, by omega, fun i hi => by have := hgsw i hi; omega, ?_⟩
    exact hB.trans (belowK_b (w := w) (Nat.le_refl _) W D _ _ (Nat.le_trans hB4.size hD) hK rfl rfl)
  case stop =>
    rintro D c pre W _ _ h _
    exact h.elim
end Go.Proofs.YtbpjceffkchmbaaDoor
