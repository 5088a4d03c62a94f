/- Contracts of ImageTurn and ImageMirror. Conditions: the slice reads as a list of integers. -/
import Derived.Test.YtehoaagnpidnbaaKT
namespace Go.Proofs.Ytehoaagnpidnbaa
open Go.RowKit Go.Shelf
attribute [local go_sem] Oper.semAt_some
set_option maxRecDepth 100000 in
set_option maxHeartbeats 2000000 in
theorem ImageTurn_c (Wd : Nat) (v : Value) (ns : List Nat) (hi : VImg Wd ns) (w : World) (hv : Ints w.heap.size w v (casts ns)) :
    Calls Try.prog 24 #[.agg #[.int .i64 (Wd : Int), v]] w fun e w' => ∃ g c, e = .returned (.tuple #[.agg #[.int .i64 (ns.length : Int), .slice (some ⟨g, 0, none⟩) Wd c], .bool true]) ∧ w.heap.size ≤ g ∧ Row w' g (casts (turnL Wd ns)) ∧ Below w.heap.size w w' := by
  obtain ⟨A, cap, rfl⟩ := hv.len
  rw [length_casts] at hv ⊢
  have h6 := hi.h6
  have w6 := hi.w6
  have hvb := validB_of hi
  refine (callsIn_wide (n := 3)).1 ?_
  refine callsIn_of_wp_marks Try.func24 rfl trivial ?_ rfl
  simp only [Try.ntmps24, List.size_toArray, List.length_cons, List.length_nil, Nat.reduceAdd, Nat.reduceSub, Array.replicate_succ, Array.replicate_zero, List.push_toArray, List.append_toArray, List.nil_append, List.cons_append]
  obtain ⟨Wa, eWa⟩ : ∃ W0, W0 = (w.alloc (.cells #[.int .i64 (Wd : Int), .slice A ns.length cap] 24)).alloc (.cells #[.int .i64 0, .slice none 0 0] 24) := ⟨_, rfl⟩
  have hBa : Below w.heap.size w Wa := by rw [eWa]; go_grown
  have a0 : Wa.cell? ⟨w.heap.size, 0, none⟩ = some (.int .i64 (Wd : Int)) := by rw [eWa]; go_cell
  have a1 : Wa.cell? ⟨w.heap.size, 1, none⟩ = some (.slice A ns.length cap) := by rw [eWa]; go_cell
  have r0 : Wa.cell? ⟨w.heap.size + 1, 0, none⟩ = some (.int .i64 0) := by rw [eWa]; go_cell
  have r1 : Wa.cell? ⟨w.heap.size + 1, 1, none⟩ = some (.slice none 0 0) := by rw [eWa]; go_cell
  have rf0 : Wa.frozen? ⟨w.heap.size + 1, 0, none⟩ = false := by rw [eWa]; go_cell
  have rf1 : Wa.frozen? ⟨w.heap.size + 1, 1, none⟩ = false := by rw [eWa]; go_cell
  have hza : w.heap.size + 2 = Wa.heap.size := by rw [eWa]; simp
  have hva := (hv.below hBa).more hBa.size
  gi_wp2_with fail
  rw [← eWa]
  clear eWa
  refine ⟨trivial, ?_⟩
  refine (callsIn_wide.2 (ImageValid_c (Wd : Int) _ (casts ns) Wa hva)).mono ?_
  rintro e w1 ⟨rfl, hb1⟩
  rw [hvb]
  have d0 := cellB hb1 a0
  have d1 := cellB hb1 a1
  have q0 := cellB hb1 r0
  have q1 := cellB hb1 r1
  have qf0 := frozenB hb1 r0 rf0
  have qf1 := frozenB hb1 r1 rf1
  have hB1 := hBa.trans (hb1.mono hBa.size)
  have hz1 : w.heap.size + 2 ≤ w1.heap.size := by have := hb1.size; omega
  clear a0 a1 r0 r1 rf0 rf1 hva hza hBa hb1 hvb
  gi_wp2_with fail
  refine ⟨trivial, ?_⟩
  refine (callsIn_wide.2 (emptyImage_c Wd (ns.length : Int) w6 w1)).mono ?_
  rintro e w2 ⟨rfl, hr2, hb2⟩
  obtain ⟨g, eg⟩ : ∃ g, g = w1.heap.size + 1 := ⟨_, rfl⟩
  rw [← eg] at hr2 ⊢
  have hgw : w.heap.size + 2 < g := by omega
  have hgB : g < w2.heap.size := hr2.lt
  have a0 := cellB hb2 d0
  have a1 := cellB hb2 d1
  have r0 := cellB hb2 q0
  have r1 := cellB hb2 q1
  have rf0 := frozenB hb2 q0 qf0
  have rf1 := frozenB hb2 q1 qf1
  have hB2 := hB1.trans (hb2.mono hB1.size)
  clear eg d0 d1 q0 q1 qf0 qf1 hB1 hb2
  obtain ⟨W3, eW3⟩ : ∃ W3, W3 = w2.alloc (.cells #[.int .i64 (ns.length : Int), .slice (some ⟨g, 0, none⟩) Wd Wd] 24) := ⟨_, rfl⟩
  have hb3 : Below w2.heap.size w2 W3 := by rw [eW3]; go_grown
  have o0 : W3.cell? ⟨w2.heap.size, 0, none⟩ = some (.int .i64 (ns.length : Int)) := by rw [eW3]; go_cell
  have o1 : W3.cell? ⟨w2.heap.size, 1, none⟩ = some (.slice (some ⟨g, 0, none⟩) Wd Wd) := by rw [eW3]; go_cell
  have hz3 : W3.heap.size = w2.heap.size + 1 := by rw [eW3]; simp
  have d0 := cellB hb3 a0
  have d1 := cellB hb3 a1
  have q0 := cellB hb3 r0
  have q1 := cellB hb3 r1
  have qf0 := frozenB hb3 r0 rf0
  have qf1 := frozenB hb3 r1 rf1
  have hr3 := hr2.below hb3 hr2.lt
  have hB3 := hB2.trans (hb3.mono hB2.size)
  clear r0 r1 rf0 rf1 hr2 hB2 hb3
  have d0r := d0
  have d1r := d1
  rw [eW3] at d0r d1r
  have HE3 := Lib.hid eW3
  have HO := Lib.hid (And.intro o0 (And.intro o1 (And.intro d0 d1)))
  clear eW3 o0 o1 d0 d1
  gi_wp2_with fail
  have eW3 := HE3.out
  obtain ⟨o0, o1, d0, d1⟩ := HO.out
  clear a0 a1 d0r d1r
  rw [← eW3]
  obtain ⟨Bo, eB⟩ : ∃ Bo, Bo = w2.heap.size := ⟨_, rfl⟩
  rw [← eB] at o0 o1 hz3 hgB ⊢
  clear eW3
  have hoB : w.heap.size + 2 < Bo := by omega
  clear eB
  refine ⟨trivial, ?_⟩
  refine (callsIn_wide.2 (cells_c (Wd : Int) (.slice A ns.length cap) W3)).mono ?_
  rintro e w4 ⟨rfl, e4⟩
  have hb4 : Below W3.heap.size W3 w4 := by rw [← e4]; go_grown
  have hbn := Box2.new W3 (.int .i64 (Wd : Int)) (.slice A ns.length cap) 24
  rw [e4] at hbn
  obtain ⟨hz4, b0, b1⟩ := hbn
  clear e4
  rw [hz3] at b0 b1 hz4 ⊢
  have a0 := cellB hb4 d0
  have a1 := cellB hb4 d1
  have r0 := cellB hb4 q0
  have r1 := cellB hb4 q1
  have rf0 := frozenB hb4 q0 qf0
  have rf1 := frozenB hb4 q1 qf1
  have p0 := cellB hb4 o0
  have p1 := cellB hb4 o1
  have hr4 := hr3.below hb4 hr3.lt
  have hB4 := hB3.trans (hb4.mono hB3.size)
  clear d0 d1 q0 q1 qf0 qf1 o0 o1 hr3 hB3 hb4 hz3
  gi_wp2_with fail
  refine wpIn_rangeFunc_ownF (F := Fence.wide) rfl (by omega) (gf := 67) (lb := #[.pointer (some ⟨Bo + 1, 0, none⟩)]) rfl trivial (enters_of Try.func67 (by kernel_rfl) rfl)
    (cells_stops 2 (Bo + 1) ns.length Wd cap A h6 w6 w4 b0 b1 hz4) (fun h k => KpC.t h k) (fun W l o o' _ h hc _ => KpC.b W l o o' h hc) (Below.refl _ _) (fun _ => rfl)
    (fun pre W => ((W.cell? ⟨w.heap.size, 0, none⟩ = some (.int .i64 (Wd : Int)) ∧ W.cell? ⟨w.heap.size, 1, none⟩ = some (.slice A ns.length cap) ∧ W.cell? ⟨w.heap.size + 1, 0, none⟩ = some (.int .i64 0) ∧ W.cell? ⟨w.heap.size + 1, 1, none⟩ = some (.slice none 0 0) ∧ W.frozen? ⟨w.heap.size + 1, 0, none⟩ = false ∧ W.frozen? ⟨w.heap.size + 1, 1, none⟩ = false) ∧ W.cell? ⟨Bo, 0, none⟩ = some (.int .i64 (ns.length : Int)) ∧ W.cell? ⟨Bo, 1, none⟩ = some (.slice (some ⟨g, 0, none⟩) Wd Wd) ∧ Row W g (casts (foldT ns (T_ImageTurn Wd) Wd (pre.map (·.1))))) ∧ Below w.heap.size w W)
    (fun _ _ _ => False)
    (OwnFrom.and (Own.from (fun s A B row hs hg hr => ⟨⟨cell_kept hs.1.1 hg hr, cell_kept hs.1.2.1 hg hr, cell_kept hs.1.2.2.1 hg hr, cell_kept hs.1.2.2.2.1 hg hr, (frozen_kept hs.1.2.2.1 hg hr).trans hs.1.2.2.2.2.1, (frozen_kept hs.1.2.2.2.1 hg hr).trans hs.1.2.2.2.2.2⟩, cell_kept hs.2.1 hg hr, cell_kept hs.2.2.1 hg hr, rowKept hs.2.2.2 hg hr⟩) _) (ownFrom_below (Nat.le_refl _) (by omega)))
    (fun _ _ _ _ _ hs _ _ => hs)
    ⟨⟨⟨a0, a1, r0, r1, rf0, rf1⟩, p0, p1, by rw [show foldT ns (T_ImageTurn Wd) Wd (([] : List (Cell ns.length Wd)).map (·.1)) = List.replicate Wd 0 from rfl, casts_rep]; exact hr4⟩, hB4⟩
    (fun x => { tmps := #[.agg #[.int .i64 (Wd : Int), .slice A ns.length cap], .pointer (some ⟨w.heap.size, 0, none⟩), .pointer (some ⟨w.heap.size + 1, 0, none⟩), .bool false, .pointer (some ⟨Bo, 0, none⟩), .int .i64 (x.1.1 : Int), .int .i64 (x.1.2 : Int), .agg #[.int .i64 (Wd : Int), .slice A ns.length cap], .bool true, .bool false, undef, .pointer (some ⟨w.heap.size, 0, none⟩), .int .i64 (Wd : Int), .pointer (some ⟨w.heap.size, 1, none⟩), .slice A ns.length cap, .int .i64 (ns.length : Int), .agg #[.int .i64 (ns.length : Int), .slice (some ⟨g, 0, none⟩) Wd Wd], .agg #[.int .i64 (Wd : Int), .slice A ns.length cap], .func (.func 67) #[] #[.pointer (some ⟨Bo + 1, 0, none⟩)], .int .i64 (x.1.1 : Int), .int .i64 (x.1.2 : Int), undef, undef, undef, undef, undef, undef, undef, undef, undef], defers := [] }) ?assign ?body ?done ?stop
  case assign =>
    intro l x W K hK
    dsimp only [encC]
    gi_wp2
    exact hK
  case body =>
    rintro l pre x W ⟨⟨⟨h0, h1, s0, s1, sf0, sf1⟩, o0, o1, hrow⟩, hB⟩ hlen
    have hvW := (hv.below hB).more hB.size
    obtain ⟨⟨i, j⟩, hxi, hxj⟩ := x
    dsimp only at hxi hxj ⊢
    have hsn : foldT ns (T_ImageTurn Wd) Wd ((pre ++ [(⟨(i, j), hxi, hxj⟩ : Cell ns.length Wd)]).map (·.1)) = stepT ns (T_ImageTurn Wd) (foldT ns (T_ImageTurn Wd) Wd (pre.map (·.1))) (i, j) := by
      rw [List.map_append]
      exact foldT_snoc _ _ _ _ _
    obtain ⟨ms, ems⟩ : ∃ ms, ms = foldT ns (T_ImageTurn Wd) Wd (pre.map (·.1)) := ⟨_, rfl⟩
    have hml : ms.length = Wd := by rw [ems]; exact foldT_length _ _ _ _
    have hmlt : ∀ n ∈ ms, n < 2 ^ ns.length := by
      rw [ems]
      refine foldT_lt ns _ _ _ _ fun p hp => ?_
      obtain ⟨y, _, rfl⟩ := List.mem_map.1 hp
      exact ⟨y.2.2, y.2.1⟩
    rw [← ems] at hrow hsn
    have hm64 : ms.getD j 0 < 64 := by
      rw [List.getD_eq_getElem?_getD, List.getElem?_eq_getElem (by omega)]
      have := hmlt _ (List.getElem_mem (l := ms) (n := j) (by omega))
      have := pow6 h6
      simp only [Option.getD_some]
      omega
    have HSN := Lib.hid hsn
    have HROW := Lib.hid hrow
    have hn64 : ns.getD i 0 < 4611686018427387904 := by have := hi.get64 i; omega
    have hj62 : j ≤ 62 := by omega
    have HFL : ∀ W1 : World, Row W1 g (casts ms) → Calls Try.prog 48 #[.agg #[.int .i64 (ns.length : Int), .slice (some ⟨g, 0, none⟩) Wd Wd], .int .i64 j, .int .i64 i] W1 fun e w' => e = .returned (.tuple #[]) ∧ Row w' g (casts (putL ms j i (!cell ms j i))) ∧ W1.grownBy w' (some g) := fun W1 h => by
      have := flip_c (ns.length : Int) g Wd ms j i (by omega) (by omega) hm64 W1 h
      rw [hml] at this
      exact this
    clear hsn hrow hmlt ems hml
    gi_wp2_with (first | (refine ⟨trivial, ?_⟩; gi_at_call 47; refine (CallsIn.inRound l (callsIn_wide.2 (has_c (Wd : Int) _ ns i j hxi hj62 hn64 _ hvW))).mono ?_; rintro e W1 ⟨rfl, hb1⟩; have o0' := cellB hb1 o0; have o1' := cellB hb1 o1; have hrow1 := Row.below HROW.out hb1 (Row.lt HROW.out); have HR1 := Lib.hid hrow1; clear hrow1) | (refine ⟨trivial, ?_⟩; gi_at_call 48; refine (CallsIn.inRound l (callsIn_wide.2 (HFL W1 HR1.out))).mono ?_; rintro e W2 ⟨rfl, hr2, hg2⟩))
    · rename_i hc
      have hgA : w.heap.size ≠ g := by omega
      have hgA1 : w.heap.size + 1 ≠ g := by omega
      have hgo : Bo ≠ g := by omega
      have hgn : Bo + 1 ≠ g := by omega
      refine ⟨(keepsB hb1).trans (keepsRow HR1.out hg2), (kpB hb1).t (fun v h => cell_only hg2 h hgn), ⟨⟨cell_only hg2 (cellB hb1 h0) hgA, cell_only hg2 (cellB hb1 h1) hgA, cell_only hg2 (cellB hb1 s0) hgA1, cell_only hg2 (cellB hb1 s1) hgA1, frozen_only hg2 (cellB hb1 s0) hgA1 (frozenB hb1 s0 sf0), frozen_only hg2 (cellB hb1 s1) hgA1 (frozenB hb1 s1 sf1)⟩, cell_only hg2 o0' hgo, cell_only hg2 o1' hgo, ?_⟩, (hB.trans (hb1.mono hB.size)).grown hg2 (hB.trans (hb1.mono hB.size)).size (fun k e => by cases e; omega)⟩
      rw [HSN.out]
      unfold stepT
      rw [if_pos hc]
      exact hr2
    · rename_i hc
      refine ⟨keepsB hb1, kpB hb1, ⟨⟨cellB hb1 h0, cellB hb1 h1, cellB hb1 s0, cellB hb1 s1, frozenB hb1 s0 sf0, frozenB hb1 s1 sf1⟩, cellB hb1 o0, cellB hb1 o1, ?_⟩, hB.trans (hb1.mono hB.size)⟩
      rw [HSN.out]
      unfold stepT
      dsimp only
      rw [hc]
      exact HR1.out
  case done =>
    rintro D xs W hD hall ⟨⟨⟨h0, h1, s0, s1, sf0, sf1⟩, o0, o1, hrow⟩, hB⟩ hK
    rw [hall, fold_turn hi] at hrow
    obtain ⟨q0, q1⟩ := set2_get (x := .int .i64 (ns.length : Int)) (y := .slice (some ⟨g, 0, none⟩) Wd Wd) s0 s1
    have HR := Lib.hid hrow
    clear hrow
    gi_wp2
    refine ⟨by simp, .inl ⟨_, _, rfl, run_takeDeferred (((KeepsOthers.setCell _ _ _).trans (KeepsOthers.setCell _ _ _)).same D _ hK rfl), ?_⟩⟩
    have hK2 := ((KeepsOthers.setCell W ⟨w.heap.size + 1, 0, none⟩ (.int .i64 (ns.length : Int))).trans (KeepsOthers.setCell _ ⟨w.heap.size + 1, 1, none⟩ (.slice (some ⟨g, 0, none⟩) Wd Wd))).same D _ hK rfl
    have p0 := cell_kept q0 (grownBy_putObj' _ D (.deferred none)) (fun r e => by cases e; exact ⟨_, hK2, rfl⟩)
    have p1 := cell_kept q1 (grownBy_putObj' _ D (.deferred none)) (fun r e => by cases e; exact ⟨_, hK2, rfl⟩)
    have hb := ((hB.setCell (p := ⟨w.heap.size + 1, 0, none⟩) (by simp) (.int .i64 (ns.length : Int))).setCell (p := ⟨w.heap.size + 1, 1, none⟩) (by simp) (.slice (some ⟨g, 0, none⟩) Wd Wd))
    have hr5 := ((HR.out.far (p := ⟨w.heap.size + 1, 0, none⟩) (by simp; omega) (.int .i64 (ns.length : Int))).far (p := ⟨w.heap.size + 1, 1, none⟩) (by simp; omega) (.slice (some ⟨g, 0, none⟩) Wd Wd))
    refine ⟨_, res_img_b rfl _ _ rfl p0 p1, g, Wd, rfl, by omega, rowKept hr5 (grownBy_putObj' _ D (.deferred none)) (fun r e => by cases e; exact ⟨_, hK2, rfl⟩), ?_⟩
    exact hb.trans (belowK_b (w := w) (Nat.le_refl _) _ D _ _ (Nat.le_trans hB4.size hD) hK2 rfl rfl)
  case stop =>
    rintro D c pre W _ _ h _
    exact h.elim
end Go.Proofs.Ytehoaagnpidnbaa
