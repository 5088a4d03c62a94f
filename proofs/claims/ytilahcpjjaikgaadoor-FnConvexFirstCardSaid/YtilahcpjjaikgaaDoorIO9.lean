/- Contract of ImageNth: the image with given sums and a rank. Conditions: the slices read as lists of integers; the rank is at most 2 to the power of 40. -/
import Derived.Test.YtilahcpjjaikgaaDoorIO8
namespace Go.Proofs.YtilahcpjjaikgaaDoor
open Go Go.RowKit Go.Shelf
attribute [local go_sem] Oper.semAt_some
theorem nth_here {L pre rest : List (List Nat)} {ns : List Nat} (hL : L = pre ++ ns :: rest) : L[pre.length]? = some ns := by
  rw [hL, List.getElem?_append_right (Nat.le_refl _)]
  simp
/-- The image with a rank. -/
def nthO (rs cs : List Int) (N : Int) : Option (List Nat) := if ctB rs cs = true ∧ 0 ≤ N then (genI cs.length rs cs)[N.toNat]? else none
set_option maxHeartbeats 4000000 in
set_option maxRecDepth 100000 in
theorem ImageNth_no (u v : Value) (rs cs : List Int) (N : Int) (hr0 : rs.length ≤ 2097152) (hc0 : cs.length ≤ 2097152) (hno : ¬ (ctB rs cs = true ∧ 0 ≤ N)) (w : World) (hr : Ints w.heap.size w u rs) (hc : Ints w.heap.size w v cs) :
    Calls Tryd.prog 11 #[u, v, .int .i64 N] w (NoImg w) := by
  obtain ⟨W0, eW⟩ : ∃ V, V = (((w.alloc (.cells #[.int .i64 N] 3)).alloc (.cells #[.int .i64 0, .slice none 0 0] 27)).alloc (.cells #[.bool false] 4)) := ⟨_, rfl⟩
  have hB0 : Below w.heap.size w W0 := by rw [eW]; go_grown
  have n0 : W0.cell? ⟨w.heap.size, 0, none⟩ = some (.int .i64 N) := by rw [eW]; go_cell
  have r0 : W0.cell? ⟨w.heap.size + 1, 0, none⟩ = some (.int .i64 0) := by rw [eW]; go_cell
  have r1 : W0.cell? ⟨w.heap.size + 1, 1, none⟩ = some (.slice none 0 0) := by rw [eW]; go_cell
  have rf0 : W0.frozen? ⟨w.heap.size + 1, 0, none⟩ = false := by rw [eW]; go_cell
  have rf1 : W0.frozen? ⟨w.heap.size + 1, 1, none⟩ = false := by rw [eW]; go_cell
  have b0 : W0.cell? ⟨w.heap.size + 1 + 1, 0, none⟩ = some (.bool false) := by rw [eW]; go_cell
  have bf0 : W0.frozen? ⟨w.heap.size + 1 + 1, 0, none⟩ = false := by rw [eW]; go_cell
  have HS := countable_c u v rs cs hr0 hc0 W0 ((hr.below hB0).more hB0.size) ((hc.below hB0).more hB0.size)
  obtain ⟨A, cap, rfl⟩ := hr.len
  obtain ⟨B, cap', rfl⟩ := hc.len
  obtain ⟨s0, s1⟩ := set2_get (x := .int .i64 0) (y := .slice none 0 0) r0 r1
  have t0 := (World.cell?_setCell_other ((W0.setCell ⟨w.heap.size + 1, 0, none⟩ (.int .i64 0)).setCell ⟨w.heap.size + 1, 1, none⟩ (.slice none 0 0)) ⟨w.heap.size + 1 + 1, 0, none⟩ ⟨w.heap.size + 1, 0, none⟩ (.bool false) (by simp)).trans s0
  have t1 := (World.cell?_setCell_other ((W0.setCell ⟨w.heap.size + 1, 0, none⟩ (.int .i64 0)).setCell ⟨w.heap.size + 1, 1, none⟩ (.slice none 0 0)) ⟨w.heap.size + 1 + 1, 0, none⟩ ⟨w.heap.size + 1, 1, none⟩ (.bool false) (by simp)).trans s1
  have t2 : (((W0.setCell ⟨w.heap.size + 1, 0, none⟩ (.int .i64 0)).setCell ⟨w.heap.size + 1, 1, none⟩ (.slice none 0 0)).setCell ⟨w.heap.size + 1 + 1, 0, none⟩ (.bool false)).cell? ⟨w.heap.size + 1 + 1, 0, none⟩ = some (.bool false) := World.cell?_setCell_same' _ _ _ (by rw [World.cell?_setCell_other _ _ _ _ (by simp), World.cell?_setCell_other _ _ _ _ (by simp), b0]; rfl)
  have HB := Lib.hid (((hB0.setCell (p := ⟨w.heap.size + 1, 0, none⟩) (by simp) (.int .i64 0)).setCell (p := ⟨w.heap.size + 1, 1, none⟩) (by simp) (.slice none 0 0)).setCell (p := ⟨w.heap.size + 1 + 1, 0, none⟩) (by simp; omega) (.bool false))
  have hor : ctB rs cs = false ∨ (ctB rs cs = true ∧ N < 0) := by
    cases h : ctB rs cs with
    | false => exact .inl rfl
    | true => exact .inr ⟨rfl, by rw [h] at hno; simp at hno; omega⟩
  clear s0 s1 hB0 hno hr hc
  rcases hor with h | ⟨h, hneg⟩
  · rw [h] at HS
    clear h
    go_enter Tryd.func11, Tryd.ntmps11
    go_wp2_with fail
    rw [← eW]
    clear eW
    refine HS.mono ?_
    rintro e w' ⟨rfl, rfl⟩
    go_wp2
    refine bodyPost_ret (res_img_cc rfl _ _ rfl rfl t0 t1 t2) rfl ?_
    exact ⟨rfl, HB.out⟩
  · rw [h] at HS
    clear h
    go_enter Tryd.func11, Tryd.ntmps11
    go_wp2_with fail
    rw [← eW]
    clear eW
    refine HS.mono ?_
    rintro e w' ⟨rfl, rfl⟩
    go_wp2
    refine bodyPost_ret (res_img_cc rfl _ _ rfl rfl t0 t1 t2) rfl ?_
    exact ⟨rfl, HB.out⟩
set_option maxHeartbeats 4000000 in
set_option maxRecDepth 100000 in
theorem ImageNth_c (vr vc : Value) (rs cs : List Int) (N : Int) (hN : N ≤ 1099511627776) (hr00 : rs.length ≤ 2097152) (hc00 : cs.length ≤ 2097152) (w : World) (hr : Ints w.heap.size w vr rs) (hc : Ints w.heap.size w vc cs) :
    Calls Tryd.prog 11 #[vr, vc, .int .i64 N] w (FirstOut w cs.length (nthO rs cs N)) := by
  by_cases hct : ¬ (ctB rs cs = true ∧ 0 ≤ N)
  · have ho : nthO rs cs N = none := by unfold nthO; rw [if_neg hct]
    rw [ho]
    exact (ImageNth_no vr vc rs cs N hr00 hc00 hct w hr hc).mono fun e w' h => .inr ⟨rfl, h⟩
  replace hct : ctB rs cs = true ∧ 0 ≤ N := Classical.byContradiction hct
  have ho : nthO rs cs N = (genI cs.length rs cs)[N.toNat]? := by unfold nthO; rw [if_pos hct]
  rw [ho]
  obtain ⟨h, hrl⟩ : ∃ h, rs.length = h := ⟨_, rfl⟩
  obtain ⟨wd, hcl⟩ : ∃ n, cs.length = n := ⟨_, rfl⟩
  have hsv : svB rs cs = true := by
    have hs := hct.1
    unfold ctB at hs
    exact (Bool.and_eq_true _ _ ▸ hs).1
  have hS := svB_yes hsv
  have h1 : 1 ≤ h := by rw [← hrl]; exact hS.h1
  have h6 : h ≤ 6 := by rw [← hrl]; exact hS.h6
  have w1 : 1 ≤ wd := by rw [← hcl]; exact hS.w1
  have w6 : wd ≤ 6 := by rw [← hcl]; exact hS.w6
  have hrb : ∀ i, i < h → 0 ≤ rs.getD i 0 ∧ rs.getD i 0 ≤ 6 := fun i hi => by have := hS.r i (by omega); omega
  have hin : InR h cs := fun j hj => by rw [← hrl]; exact hS.c j hj
  have hN0 := hct.2
  have hCT := hct.1
  have HS0 : ∀ W : World, Ints W.heap.size W vr rs → Ints W.heap.size W vc cs → Calls Tryd.prog 28 #[vr, vc] W fun e w' => e = .returned (.bool true) ∧ W = w' := fun W h1 h2 => by
    have := countable_c vr vc rs cs hr00 hc00 W h1 h2
    rwa [hCT] at this
  rw [hcl]
  clear hS ho hct hCT hsv
  obtain ⟨AR, cR, rfl⟩ := hr.len
  obtain ⟨AC, cC, rfl⟩ := hc.len
  rw [hrl] at hr ⊢
  rw [hcl] at hc ⊢
  have HB := Lib.hid (And.intro hrb hin)
  have himg : ∀ ns, ns ∈ genI wd rs cs → VImg wd ns ∧ ns.length = h := fun ns hm => by
    have := gen_img (rs := rs) (cs := cs) (by omega) (by omega) (by omega) (by omega) (by rw [hcl]; exact hm)
    rw [hcl] at this
    exact ⟨this.1, this.2.2.2.trans hrl⟩
  clear hrb hin
  refine (callsIn_wide (n := 3)).1 ?_
  refine callsIn_of_wp_marks Tryd.func11 rfl trivial ?_ rfl
  simp only [Tryd.ntmps11, List.size_toArray, List.length_cons, List.length_nil, Nat.reduceAdd, Nat.reduceSub, Array.replicate_succ, Array.replicate_zero, List.push_toArray, List.append_toArray, List.nil_append, List.cons_append]
  have hb3 : Below w.heap.size w (((w.alloc (.cells #[.int .i64 N] 3)).alloc (.cells #[.int .i64 0, .slice none 0 0] 27)).alloc (.cells #[.bool false] 4)) := by go_grown
  have hr3 := (hr.below hb3).more hb3.size
  have hc3 := (hc.below hb3).more hb3.size
  have n3 : (((w.alloc (.cells #[.int .i64 N] 3)).alloc (.cells #[.int .i64 0, .slice none 0 0] 27)).alloc (.cells #[.bool false] 4)).cell? ⟨w.heap.size, 0, none⟩ = some (.int .i64 N) := by go_cell
  simp only [hrl, hcl] at HS0
  have HC := Lib.hid (HS0 _ hr3 hc3)
  clear HS0 hr3 hc3 hb3
  gi_wp2_with (first | (refine ⟨trivial, ?_⟩; gi_at_call 28; refine (callsIn_wide.2 HC.out).mono ?_; rintro e w' ⟨rfl, rfl⟩) | (refine ⟨trivial, ?_⟩; gi_at_call 34; refine (callsIn_wide.2 (imagesOf_c _ _ _ _ _ _ _)).mono ?_; rintro e w' ⟨rfl, rfl⟩))
  obtain ⟨W0, eW⟩ : ∃ V, V = (((((w.alloc (.cells #[.int .i64 N] 3)).alloc (.cells #[.int .i64 0, .slice none 0 0] 27)).alloc (.cells #[.bool false] 4)).alloc (.cells #[.slice AR h cR] 23)).alloc (.cells #[.slice AC wd cC] 23)) := ⟨_, rfl⟩
  have hB0 : Below w.heap.size w W0 := by rw [eW]; go_grown
  have f0 : W0.cell? ⟨w.heap.size, 0, none⟩ = some (.int .i64 N) := by rw [eW]; go_cell
  have nf0 : W0.frozen? ⟨w.heap.size, 0, none⟩ = false := by rw [eW]; go_cell
  have r0 : W0.cell? ⟨w.heap.size + 1, 0, none⟩ = some (.int .i64 0) := by rw [eW]; go_cell
  have r1 : W0.cell? ⟨w.heap.size + 1, 1, none⟩ = some (.slice none 0 0) := by rw [eW]; go_cell
  have rf0 : W0.frozen? ⟨w.heap.size + 1, 0, none⟩ = false := by rw [eW]; go_cell
  have rf1 : W0.frozen? ⟨w.heap.size + 1, 1, none⟩ = false := by rw [eW]; go_cell
  have b0 : W0.cell? ⟨w.heap.size + 1 + 1, 0, none⟩ = some (.bool false) := by rw [eW]; go_cell
  have bf0 : W0.frozen? ⟨w.heap.size + 1 + 1, 0, none⟩ = false := by rw [eW]; go_cell
  have f2 : W0.cell? ⟨w.heap.size + 1 + 1 + 1, 0, none⟩ = some (.slice AR h cR) := by rw [eW]; go_cell
  have f3 : W0.cell? ⟨w.heap.size + 1 + 1 + 1 + 1, 0, none⟩ = some (.slice AC wd cC) := by rw [eW]; go_cell
  have hz0 : W0.heap.size = w.heap.size + 5 := by rw [eW]; simp
  rw [← eW]
  clear eW n3 HC
  have hr0 : Ints w.heap.size W0 (.slice AR h cR) rs := hr.keep fun q hq => hB0.cell hq
  have hc0 : Ints w.heap.size W0 (.slice AC wd cC) cs := hc.keep fun q hq => hB0.cell hq
  have hDD : ∀ d, d ∈ [w.heap.size, w.heap.size + 1, w.heap.size + 1 + 1] → d = w.heap.size ∨ d = w.heap.size + 1 ∨ d = w.heap.size + 1 + 1 := fun d hd => by simpa using hd
  have hit := iter_images 2 wd h rs cs hrl hcl h1 h6 w1 w6 HB.out.1 HB.out.2 AR AC cR cC (w.heap.size + 1 + 1 + 1) (w.heap.size + 1 + 1 + 1 + 1) w.heap.size [w.heap.size, w.heap.size + 1, w.heap.size + 1 + 1] W0 f2 f3 hr0 hc0 (by omega) (fun d hd => by
    have := hDD d hd
    exact ⟨by omega, by omega, by omega⟩)
  obtain ⟨L, eL⟩ : ∃ L, L = genI wd rs cs := ⟨_, rfl⟩
  have HCN := Lib.hid (show (genI wd rs cs)[N.toNat]? = L[N.toNat]? by rw [eL])
  rw [← eL] at hit himg
  have HIM := Lib.hid himg
  clear eL himg hr0 hc0 f2 f3 hr hc HB
  refine wpIn_rangeImg (gf := 55) (lb := #[.pointer (some ⟨w.heap.size + 1 + 1 + 1, 0, none⟩), .pointer (some ⟨w.heap.size + 1 + 1 + 1 + 1, 0, none⟩)]) (wd := wd) (h := h) (D := [w.heap.size, w.heap.size + 1, w.heap.size + 1 + 1]) (L := L) (w0 := W0) rfl (enters_of Tryd.func55 (by kernel_rfl) rfl) hit (Below.refl _ _) (fun d hd => by have := hDD d hd; omega)
    (fun xs W => (xs.length : Int) ≤ N ∧ W.frozen? ⟨w.heap.size, 0, none⟩ = false ∧ W.cell? ⟨w.heap.size, 0, none⟩ = some (.int .i64 (N - xs.length)) ∧ W.cell? ⟨w.heap.size + 1, 0, none⟩ = some (.int .i64 0) ∧ W.cell? ⟨w.heap.size + 1, 1, none⟩ = some (.slice none 0 0) ∧ W.frozen? ⟨w.heap.size + 1, 0, none⟩ = false ∧ W.frozen? ⟨w.heap.size + 1, 1, none⟩ = false ∧ W.cell? ⟨w.heap.size + 1 + 1, 0, none⟩ = some (.bool false) ∧ W.frozen? ⟨w.heap.size + 1 + 1, 0, none⟩ = false ∧ Below w.heap.size w W)
    (fun c xs a W => c = .ret ∧ ∃ ns g cc, L[N.toNat]? = some ns ∧ a ≤ g ∧ w.heap.size ≤ g ∧ ns.length = h ∧ W.cell? ⟨w.heap.size + 1, 0, none⟩ = some (.int .i64 (wd : Int)) ∧ W.cell? ⟨w.heap.size + 1, 1, none⟩ = some (.slice (some ⟨g, 0, none⟩) h cc) ∧ W.cell? ⟨w.heap.size + 1 + 1, 0, none⟩ = some (.bool true) ∧ Row W g (casts ns) ∧ Below w.heap.size w W)
    (fun s A B hs e1 e2 e3 e4 e5 => by
      obtain ⟨im, inf, i0, i1, i2, i3, i4, i5, i6, i8⟩ := hs
      exact ⟨im, (frozenK e5 (by omega)).trans inf, (cellK e5 (by omega)).trans i0, (cellK e5 (by omega)).trans i1, (cellK e5 (by omega)).trans i2, (frozenK e5 (by omega)).trans i3, (frozenK e5 (by omega)).trans i4, (cellK e5 (by omega)).trans i5, (frozenK e5 (by omega)).trans i6, belowKK (by omega) i8 e1 e2 e3 e4 e5⟩)
    (fun c s a A B hs e1 e2 e3 e4 e5 => by
      obtain ⟨hc, ns, g, cc, i0, i1, i1', i2, i3, i4, i5, i6, i7⟩ := hs
      exact ⟨hc, ns, g, cc, i0, i1, i1', i2, cellX e5 i3 (by omega), cellX e5 i4 (by omega), cellX e5 i5 (by omega), i6.of_block (e5 g i6.lt (.inr i1)), belowX (by omega) i7 e1 e2 e3 e4 e5⟩)
    ⟨by simpa using hN0, nf0, by simpa using f0, r0, r1, rf0, rf1, b0, bf0, hB0⟩
    (fun g c W => W.alloc (.cells #[.int .i64 (wd : Int), .slice (some ⟨g, 0, none⟩) h c] 27))
    (fun g c W => { tmps := #[.slice AR h cR, .slice AC wd cC, .int .i64 N, undef, undef, .pointer (some ⟨w.heap.size, 0, none⟩), .pointer (some ⟨w.heap.size + 1, 0, none⟩), .pointer (some ⟨w.heap.size + 1 + 1, 0, none⟩), .pointer (some ⟨W.heap.size, 0, none⟩), .slice AR h cR, .slice AC wd cC, .bool true, .bool false, .bool false, .int .i64 N, .bool (decide (N < 0)), .bool (decide (N < 0)), undef, .slice AR h cR, .slice AC wd cC, .func (.func 55) #[] #[.pointer (some ⟨w.heap.size + 1 + 1 + 1, 0, none⟩), .pointer (some ⟨w.heap.size + 1 + 1 + 1 + 1, 0, none⟩)], .agg #[.int .i64 (wd : Int), .slice (some ⟨g, 0, none⟩) h c], undef, undef, undef, undef, undef, undef, undef], defers := [] })
    (fun g c W => (Below.refl _ W).alloc (Nat.le_refl _) _) ?assign ?body ?done ?stop
  case assign =>
    intro m l g c W K hK
    unfold imgV
    gi_wp2
    exact hK
  case body =>
    rintro m l pre ns g c W W2 ⟨im, inf, i0, i1, i2, i3, i4, i5, i6, hBW⟩ ⟨rest, hpre⟩ hg hW hrow hs2 hoth
    have hmem : ns ∈ L := by rw [hpre]; simp
    obtain ⟨hV, hnl⟩ := HIM.out ns hmem
    have hnew : ∀ o, W2.cell? ⟨W.heap.size, o, none⟩ = (W.alloc (.cells #[.int .i64 (wd : Int), .slice (some ⟨g, 0, none⟩) h c] 27)).cell? ⟨W.heap.size, o, none⟩ := fun o => by
      unfold World.cell?
      rw [hoth W.heap.size (by omega)]
    have p0 : W2.cell? ⟨W.heap.size, 0, none⟩ = some (.int .i64 (wd : Int)) := by rw [hnew]; go_cell
    have p1 : W2.cell? ⟨W.heap.size, 1, none⟩ = some (.slice (some ⟨g, 0, none⟩) h c) := by rw [hnew]; go_cell
    have hs4 : w.heap.size + 5 ≤ W2.heap.size := by have h' := hs2; rw [World.size_alloc] at h'; omega
    obtain ⟨k, ek⟩ : ∃ k, k = pre.length := ⟨_, rfl⟩
    rw [← ek] at im i0
    have HP := Lib.hid (And.intro hpre (And.intro ek hnl))
    clear hnew hoth hmem hpre hV ek hs2
    by_cases hz : N - (k : Int) = 0
    · have HFD : Hid (L[N.toNat]? = some ns) := by
        have := nth_here HP.out.1
        rw [← HP.out.2.1] at this
        rw [show N.toNat = k by omega]
        exact this
      rw [hz] at i0
      have hcl := clone_c (wd : Int) (.slice (some ⟨g, 0, none⟩) h c) (casts ns) (by rw [length_casts, hnl]; exact h1) (by rw [length_casts, hnl]; omega) W2 (hrow.intsH (h := h) (c := c) hnl)
      rw [length_casts, hnl] at hcl
      gi_wp2_with fail
      refine ⟨trivial, fun hh => by simp [Fence.wide] at hh, ?_⟩
      refine (CallsIn.inRound l (callsIn_wide.2 hcl)).mono ?_
      rintro e W4 ⟨g', c', rfl, hg', hr', hb4⟩
      have k1 := cellB hb4 i1
      have k2 := cellB hb4 i2
      have k3 := frozenB hb4 i1 i3
      have k4 := frozenB hb4 i2 i4
      have k5 := cellB hb4 i5
      have k6 := frozenB hb4 i5 i6
      have hBW4 := hBW.trans (hb4.mono hBW.size)
      obtain ⟨s0, s1⟩ := set2_get (x := .int .i64 (wd : Int)) (y := .slice (some ⟨g', 0, none⟩) h c') k1 k2
      have hKB := (((KeepBut.below (D := [w.heap.size, w.heap.size + 1, w.heap.size + 1 + 1]) hb4).trans (KeepBut.setCell W4 (p := ⟨w.heap.size + 1, 0, none⟩) (by simp) (.int .i64 (wd : Int)))).trans ((KeepBut.setCell _ (p := ⟨w.heap.size + 1, 1, none⟩) (by simp) (.slice (some ⟨g', 0, none⟩) h c')).trans (KeepBut.setCell _ (p := ⟨w.heap.size + 1 + 1, 0, none⟩) (by simp) (.bool true))))
      have t0 := (World.cell?_setCell_other ((W4.setCell ⟨w.heap.size + 1, 0, none⟩ (.int .i64 (wd : Int))).setCell ⟨w.heap.size + 1, 1, none⟩ (.slice (some ⟨g', 0, none⟩) h c')) ⟨w.heap.size + 1 + 1, 0, none⟩ ⟨w.heap.size + 1, 0, none⟩ (.bool true) (by simp)).trans s0
      have t1 := (World.cell?_setCell_other ((W4.setCell ⟨w.heap.size + 1, 0, none⟩ (.int .i64 (wd : Int))).setCell ⟨w.heap.size + 1, 1, none⟩ (.slice (some ⟨g', 0, none⟩) h c')) ⟨w.heap.size + 1 + 1, 0, none⟩ ⟨w.heap.size + 1, 1, none⟩ (.bool true) (by simp)).trans s1
      have t2 : (((W4.setCell ⟨w.heap.size + 1, 0, none⟩ (.int .i64 (wd : Int))).setCell ⟨w.heap.size + 1, 1, none⟩ (.slice (some ⟨g', 0, none⟩) h c')).setCell ⟨w.heap.size + 1 + 1, 0, none⟩ (.bool true)).cell? ⟨w.heap.size + 1 + 1, 0, none⟩ = some (.bool true) := World.cell?_setCell_same' _ _ _ (by rw [World.cell?_setCell_other _ _ _ _ (by simp), World.cell?_setCell_other _ _ _ _ (by simp), k5]; rfl)
      have hr4 := ((hr'.far (p := ⟨w.heap.size + 1, 0, none⟩) (by simp; omega) (.int .i64 (wd : Int))).far (p := ⟨w.heap.size + 1, 1, none⟩) (by simp; omega) (.slice (some ⟨g', 0, none⟩) h c')).far (p := ⟨w.heap.size + 1 + 1, 0, none⟩) (by simp; omega) (.bool true)
      have hBW5 := ((hBW4.setCell (p := ⟨w.heap.size + 1, 0, none⟩) (by simp) (.int .i64 (wd : Int))).setCell (p := ⟨w.heap.size + 1, 1, none⟩) (by simp) (.slice (some ⟨g', 0, none⟩) h c')).setCell (p := ⟨w.heap.size + 1 + 1, 0, none⟩) (by simp; omega) (.bool true)
      have HS := Lib.hid (And.intro hKB (And.intro t0 (And.intro t1 (And.intro t2 (And.intro hr4 (And.intro hBW5 (And.intro hg' hs4)))))))
      clear hKB t0 t1 t2 hr4 hBW5 s0 s1 hr' hb4 hBW4 hcl i0 i1 i2 i3 i4 i5 i6 p0 p1 hrow hBW
      gi_wp2
      exact ⟨HS.out.1, rfl, ns, g', c', HFD, by have := HS.out.2.2.2.2.2.2.1; omega, by have := HS.out.2.2.2.2.2.2; omega, HP.out.2.2, HS.out.2.1, HS.out.2.2.1, HS.out.2.2.2.1, HS.out.2.2.2.2.1, HS.out.2.2.2.2.2.1⟩
    · have hz' : (N - (k : Int) == 0) = false := by simp; exact hz
      have ew : IntKind.i64.wrap (N - (k : Int) - 1) = N - (k : Int) - 1 := IntWalk.i64_in _ ⟨by omega, by omega⟩
      have hlen : ((pre ++ [ns]).length : Int) = (k : Int) + 1 := by rw [List.length_append, ← HP.out.2.1]; simp
      have HL := Lib.hid hlen
      have n1 : (W2.setCell ⟨w.heap.size, 0, none⟩ (.int .i64 (N - (k : Int) - 1))).cell? ⟨w.heap.size, 0, none⟩ = some (.int .i64 (N - (k : Int) - 1)) := World.cell?_setCell_same' _ _ _ (by rw [i0]; rfl)
      have fr : ∀ (q : Addr) (x : Bool), W2.frozen? q = x → (W2.setCell ⟨w.heap.size, 0, none⟩ (.int .i64 (N - (k : Int) - 1))).frozen? q = x := fun q x e => by rw [World.frozen?_setCell]; exact e
      have HS := Lib.hid (And.intro (KeepBut.setCell (D := [w.heap.size, w.heap.size + 1, w.heap.size + 1 + 1]) W2 (p := ⟨w.heap.size, 0, none⟩) (by simp) (.int .i64 (N - (k : Int) - 1))) (And.intro n1 (And.intro (fr _ _ inf) (And.intro ((World.cell?_setCell_other W2 ⟨w.heap.size, 0, none⟩ ⟨w.heap.size + 1, 0, none⟩ (.int .i64 (N - (k : Int) - 1)) (by simp)).trans i1) (And.intro ((World.cell?_setCell_other W2 ⟨w.heap.size, 0, none⟩ ⟨w.heap.size + 1, 1, none⟩ (.int .i64 (N - (k : Int) - 1)) (by simp)).trans i2) (And.intro (fr _ _ i3) (And.intro (fr _ _ i4) (And.intro ((World.cell?_setCell_other W2 ⟨w.heap.size, 0, none⟩ ⟨w.heap.size + 1 + 1, 0, none⟩ (.int .i64 (N - (k : Int) - 1)) (by simp)).trans i5) (And.intro (fr _ _ i6) (hBW.setCell (p := ⟨w.heap.size, 0, none⟩) (by simp) (.int .i64 (N - (k : Int) - 1))))))))))))
      clear hlen n1 fr hrow hBW
      gi_wp2
      exact ⟨HS.out.1, by rw [HL.out]; omega, HS.out.2.2.1, by rw [HL.out, show N - ((k : Int) + 1) = N - (k : Int) - 1 by omega]; exact HS.out.2.1, HS.out.2.2.2.1, HS.out.2.2.2.2.1, HS.out.2.2.2.2.2.1, HS.out.2.2.2.2.2.2.1, HS.out.2.2.2.2.2.2.2.1, HS.out.2.2.2.2.2.2.2.2.1, HS.out.2.2.2.2.2.2.2.2.2⟩
  case done =>
    rintro D W hD ⟨im, inf, i0, i1, i2, i3, i4, i5, i6, hBW⟩ hK
    have HN := Lib.hid (HCN.out.trans (List.getElem?_eq_none (by omega)))
    obtain ⟨W', eW'⟩ : ∃ V, V = ((W.setCell ⟨w.heap.size + 1, 0, none⟩ (.int .i64 0)).setCell ⟨w.heap.size + 1, 1, none⟩ (.slice none 0 0)).setCell ⟨w.heap.size + 1 + 1, 0, none⟩ (.bool false) := ⟨_, rfl⟩
    obtain ⟨s0, s1⟩ := set2_get (x := .int .i64 0) (y := .slice none 0 0) i1 i2
    have c0 : W'.cell? ⟨w.heap.size + 1, 0, none⟩ = some (.int .i64 0) := by rw [eW', World.cell?_setCell_other _ _ _ _ (by simp)]; exact s0
    have c1 : W'.cell? ⟨w.heap.size + 1, 1, none⟩ = some (.slice none 0 0) := by rw [eW', World.cell?_setCell_other _ _ _ _ (by simp)]; exact s1
    have c2 : W'.cell? ⟨w.heap.size + 1 + 1, 0, none⟩ = some (.bool false) := by rw [eW']; exact World.cell?_setCell_same' _ _ _ (by rw [World.cell?_setCell_other _ _ _ _ (by simp), World.cell?_setCell_other _ _ _ _ (by simp), i5]; rfl)
    have hKn : W'.heap[D]? = some (.deferred (some [])) := by
      rw [eW']
      exact (Below.heap_setCell _ _ _ _ (by simp; omega)).trans ((Below.heap_setCell _ _ _ _ (by simp; omega)).trans ((Below.heap_setCell _ _ _ _ (by simp; omega)).trans hK))
    have hB' : Below w.heap.size w W' := by
      rw [eW']
      exact ((hBW.setCell (p := ⟨w.heap.size + 1, 0, none⟩) (by simp) _).setCell (p := ⟨w.heap.size + 1, 1, none⟩) (by simp) _).setCell (p := ⟨w.heap.size + 1 + 1, 0, none⟩) (by simp; omega) _
    have HS := Lib.hid (And.intro c0 (And.intro c1 (And.intro c2 (And.intro hKn hB'))))
    have HE := Lib.hid eW'
    clear s0 s1 c0 c1 c2 hKn hB' eW' hK i0 hBW
    gi_wp2
    rw [← HE.out]
    refine ⟨by simp, .inl ⟨_, _, rfl, run_takeDeferred HS.out.2.2.2.1, ?_⟩⟩
    refine ⟨_, res_img_cc rfl _ _ rfl rfl (cell_putObj HS.out.1 (by omega) _) (cell_putObj HS.out.2.1 (by omega) _) (cell_putObj HS.out.2.2.1 (by omega) _), ?_⟩
    exact .inr ⟨HN.out, rfl, HS.out.2.2.2.2.trans (belowK_b (w := w) (Nat.le_refl _) W' D _ _ (by omega) HS.out.2.2.2.1 rfl rfl)⟩
  case stop =>
    rintro D c pre aa W hD hDa ⟨rfl, ns, g, cc, i0, i1, i1', i2, i3, i4, i5, i6, i7⟩ hK
    have HN := Lib.hid (HCN.out.trans i0)
    have HS := Lib.hid (And.intro i3 (And.intro i4 (And.intro i5 (And.intro i6 i7))))
    clear i0 i3 i4 i5 i6 i7
    gi_wp2
    refine ⟨by simp, .inl ⟨_, _, rfl, run_takeDeferred hK, ?_⟩⟩
    refine ⟨_, res_img_cc rfl _ _ rfl rfl (cell_putObj HS.out.1 (by omega) _) (cell_putObj HS.out.2.1 (by omega) _) (cell_putObj HS.out.2.2.1 (by omega) _), ?_⟩
    exact .inl ⟨ns, HN.out, g, cc, by rw [i2], i1', HS.out.2.2.2.1.of_block (World.putObj_heap_other (by omega)), HS.out.2.2.2.2.trans (belowK_b (w := w) (Nat.le_refl _) W D _ _ (by omega) hK rfl rfl)⟩
end Go.Proofs.YtilahcpjjaikgaaDoor
