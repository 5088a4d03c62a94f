/- Contracts of moment, the sum of a value over the set cells. Conditions: the image is valid; the value is a function without captures whose contract is at hand. -/
import Derived.Test.YtfkmkakdkocamaaK8
import Derived.Test.YtfkmkakdkocamaaMT
namespace Go.Proofs.Ytfkmkakdkocamaa
open Go.RowKit Go.Shelf
attribute [local go_sem] Oper.semAt_some
/-- The sum so far. -/
def accum {h w : Nat} (ns : List Nat) (f : Nat → Nat → Int) (pre : List (Cell h w)) : Int := (pre.map fun x => f x.1.1 x.1.2 * b2i (cell ns x.1.1 x.1.2)).sum
theorem accum_snoc {h w : Nat} (ns : List Nat) (f : Nat → Nat → Int) (pre : List (Cell h w)) (x : Cell h w) : accum ns f (pre ++ [x]) = accum ns f pre + f x.1.1 x.1.2 * b2i (cell ns x.1.1 x.1.2) := by
  simp [accum, List.sum_append]
theorem sum_range (w : Nat) (g : Nat → Int) : ((List.range w).map g).sum = sumN w g := by
  induction w with
  | zero => rfl
  | succ w ih => rw [List.range_succ, List.map_append, List.sum_append, ih]; simp [sumN]
theorem sum_cells (h w : Nat) (g : Nat → Nat → Int) : ((cellsL h w).map fun p => g p.1 p.2).sum = sumN h fun i => sumN w fun j => g i j := by
  induction h with
  | zero => rfl
  | succ h ih =>
    rw [cellsL_succ, List.map_append, List.sum_append, ih, List.map_map]
    simp only [sumN]
    rw [← sum_range w fun j => g h j]
    rfl
theorem accum_all {w : Nat} {ns : List Nat} (f : Nat → Nat → Int) {xs : List (Cell ns.length w)} (h : xs.map (·.1) = cellsL ns.length w) : accum ns f xs = mom w ns f := by
  unfold mom
  rw [← sum_cells ns.length w fun i j => f i j * b2i (cell ns i j), ← h, List.map_map]
  rfl
theorem accum_bd {h w : Nat} (ns : List Nat) {f : Nat → Nat → Int} (hf : ∀ i j, i < h → j < w → 0 ≤ f i j ∧ f i j ≤ 25) (pre : List (Cell h w)) : 0 ≤ accum ns f pre ∧ accum ns f pre ≤ 25 * pre.length := by
  induction pre with
  | nil => simp [accum]
  | cons x pre ih =>
    have e : accum ns f (x :: pre) = f x.1.1 x.1.2 * b2i (cell ns x.1.1 x.1.2) + accum ns f pre := by simp [accum]
    have := hf x.1.1 x.1.2 x.2.1 x.2.2
    rw [e]
    cases cell ns x.1.1 x.1.2 <;> simp [b2i] <;> omega
theorem cell_lt_size {W : World} {p : Addr} {v : Value} (h : W.cell? p = some v) : p.block < W.heap.size := by
  refine Classical.byContradiction fun hn => ?_
  unfold World.cell? at h
  rw [Array.getElem?_eq_none (by omega)] at h
  cases h
theorem cell_below {W W1 : World} (hb : Below W.heap.size W W1) {p : Addr} {v : Value} (h : W.cell? p = some v) : W1.cell? p = some v := (hb.cell (cell_lt_size h)).trans h
theorem frozen_below {W W1 : World} (hb : Below W.heap.size W W1) {p : Addr} {v : Value} (h : W.cell? p = some v) {x : Bool} (hf : W.frozen? p = x) : W1.frozen? p = x := (hb.frozen (cell_lt_size h)).trans hf
theorem keeps_below {W W1 : World} (hb : Below W.heap.size W W1) : KeepsOthers W W1 := ⟨hb.size, fun k _ hk _ => (hb.block k (Array.getElem?_eq_some_iff.1 hk).1).trans hk⟩
theorem KpC.of_below {Bn : Nat} {W W1 : World} (hb : Below W.heap.size W W1) : KpC Bn W W1 := fun _ hv => cell_below hb hv
def f_MomentCross_1 (i j : Nat) : Int := (i : Int) * j
def f_MomentSquares_1 (i _j : Nat) : Int := (i : Int) * i
def f_MomentSquares_2 (_i j : Nat) : Int := (j : Int) * j
def f_MomentSums_1 (i _j : Nat) : Int := (i : Int)
def f_MomentSums_2 (_i j : Nat) : Int := (j : Int)
theorem mul_bd {i j : Nat} (hi : i < 6) (hj : j < 6) : 0 ≤ (i : Int) * j ∧ (i : Int) * j ≤ 25 := by
  have h : i * j ≤ 5 * 5 := Nat.mul_le_mul (by omega) (by omega)
  have e : (i : Int) * j = ((i * j : Nat) : Int) := by simp
  rw [e]
  omega
theorem bd_MomentCross_1 (i j : Nat) (hi : i < 6) (hj : j < 6) : 0 ≤ f_MomentCross_1 i j ∧ f_MomentCross_1 i j ≤ 25 := by
  have h1 := hi
  have h2 := hj
  unfold f_MomentCross_1
  first
    | exact mul_bd hi hj
    | exact mul_bd hi hi
    | exact mul_bd hj hj
    | omega
theorem MomentCross_1_c (i j : Nat) (hi : i < 6) (hj : j < 6) (w : World) : Calls Try.prog 23 #[.int .i64 i, .int .i64 j] w fun e w' => e = .returned (.int .i64 (f_MomentCross_1 i j)) ∧ w = w' := by
  have h1 := mul_bd hi hj
  have h2 := mul_bd hi hi
  have h3 := mul_bd hj hj
  go_enter Try.func23, Try.ntmps23
  go_wp2
  go_returns
  exact ⟨ri (by unfold f_MomentCross_1; first | rfl | exact IntWalk.i64_in _ ⟨by omega, by omega⟩), rfl⟩
set_option maxRecDepth 100000 in
set_option maxHeartbeats 2000000 in
theorem moment_MomentCross_1 (Wd : Nat) (v : Value) (ns : List Nat) (hi : VImg Wd ns) (w : World) (hv : Ints w.heap.size w v (casts ns)) :
    Calls Try.prog 18 #[.agg #[.int .i64 (Wd : Int), v], .func (.func 23) #[] #[]] w fun e w' => e = .returned (.int .i64 (mom Wd ns f_MomentCross_1)) ∧ Below w.heap.size w w' := by
  have hf : ∀ i j, i < ns.length → j < Wd → 0 ≤ f_MomentCross_1 i j ∧ f_MomentCross_1 i j ≤ 25 := fun i j h1 h2 => bd_MomentCross_1 i j (by have := hi.h6; omega) (by have := hi.w6; omega)
  obtain ⟨A, cap, rfl⟩ := hv.len
  rw [length_casts] at hv ⊢
  have h6 := hi.h6
  have w6 := hi.w6
  refine (callsIn_wide (n := 3)).1 ?_
  refine callsIn_of_wp_marks Try.func18 rfl trivial ?_ rfl
  simp only [Try.ntmps18, List.size_toArray, List.length_cons, List.length_nil, Nat.reduceAdd, Nat.reduceSub, Array.replicate_succ, Array.replicate_zero, List.push_toArray, List.append_toArray, List.nil_append, List.cons_append]
  gi_wp2_with (refine ⟨trivial, ?_⟩; gi_at_call 34; refine (callsIn_wide.2 (cells_c _ _ _)).mono ?_; rintro e w' ⟨rfl, rfl⟩)
  obtain ⟨W0, eW⟩ : ∃ W0, W0 = ((((w.alloc (.cells #[.int .i64 (Wd : Int), .slice A ns.length cap] 25)).alloc (.cells #[.func (.func 23) #[] #[]] 42)).alloc (.cells #[.int .i64 0] 3)).alloc (.cells #[.int .i64 (Wd : Int), .slice A ns.length cap] 25)) := ⟨_, rfl⟩
  have g0 : W0.heap.size = w.heap.size + 4 := by rw [eW]; simp
  have a0 : W0.cell? ⟨w.heap.size, 0, none⟩ = some (.int .i64 (Wd : Int)) := by rw [eW]; go_cell
  have a1 : W0.cell? ⟨w.heap.size, 1, none⟩ = some (.slice A ns.length cap) := by rw [eW]; go_cell
  have aF : W0.cell? ⟨w.heap.size + 1, 0, none⟩ = some (.func (.func 23) #[] #[]) := by rw [eW]; go_cell
  have aS : W0.cell? ⟨w.heap.size + 1 + 1, 0, none⟩ = some (.int .i64 0) := by rw [eW]; go_cell
  have af : W0.frozen? ⟨w.heap.size + 1 + 1, 0, none⟩ = false := by rw [eW]; go_cell
  have b0 : W0.cell? ⟨w.heap.size + 1 + 1 + 1, 0, none⟩ = some (.int .i64 (Wd : Int)) := by rw [eW]; go_cell
  have b1 : W0.cell? ⟨w.heap.size + 1 + 1 + 1, 1, none⟩ = some (.slice A ns.length cap) := by rw [eW]; go_cell
  have hB0 : Below w.heap.size w W0 := by rw [eW]; go_grown
  rw [← eW]
  clear eW
  refine wpIn_rangeFunc_ownF (F := Fence.wide) rfl (by omega) (gf := 43) (lb := #[.pointer (some ⟨w.heap.size + 1 + 1 + 1, 0, none⟩)]) rfl trivial (enters_of Try.func43 (by kernel_rfl) rfl)
    (cells_stops 2 (w.heap.size + 1 + 1 + 1) ns.length Wd cap A h6 w6 W0 b0 b1 (by omega)) (fun h k => KpC.t h k) (fun W l o o' _ h hc _ => KpC.b W l o o' h hc) (Below.refl _ _) (fun _ => rfl)
    (fun pre W => (W.cell? ⟨w.heap.size, 0, none⟩ = some (.int .i64 (Wd : Int)) ∧ W.cell? ⟨w.heap.size, 1, none⟩ = some (.slice A ns.length cap) ∧ W.cell? ⟨w.heap.size + 1, 0, none⟩ = some (.func (.func 23) #[] #[]) ∧ W.cell? ⟨w.heap.size + 1 + 1, 0, none⟩ = some (.int .i64 (accum ns f_MomentCross_1 pre)) ∧ W.frozen? ⟨w.heap.size + 1 + 1, 0, none⟩ = false) ∧ Below w.heap.size w W)
    (fun _ _ _ => False)
    (OwnFrom.and (Own.from (fun s A B row hs hg hr => ⟨cell_kept hs.1 hg hr, cell_kept hs.2.1 hg hr, cell_kept hs.2.2.1 hg hr, cell_kept hs.2.2.2.1 hg hr, (frozen_kept hs.2.2.2.1 hg hr).trans hs.2.2.2.2⟩) _) (ownFrom_below (Nat.le_refl _) (by omega)))
    (fun _ _ _ _ _ hs _ _ => hs)
    ⟨⟨a0, a1, aF, aS, af⟩, hB0⟩
    (fun x => { tmps := #[.agg #[.int .i64 (Wd : Int), .slice A ns.length cap], .func (.func 23) #[] #[], .pointer (some ⟨w.heap.size, 0, none⟩), .pointer (some ⟨w.heap.size + 1, 0, none⟩), .int .i64 0, .pointer (some ⟨w.heap.size + 1 + 1, 0, none⟩), .int .i64 (x.1.1 : Int), .int .i64 (x.1.2 : Int), .agg #[.int .i64 (Wd : Int), .slice A ns.length cap], .func (.func 43) #[] #[.pointer (some ⟨w.heap.size + 1 + 1 + 1, 0, none⟩)], .int .i64 (x.1.1 : Int), .int .i64 (x.1.2 : Int), undef, undef, undef, undef, undef, undef, undef, undef, undef, undef, undef], defers := [] }) ?assign ?body ?done ?stop
  case assign =>
    intro l x W K hK
    dsimp only [encC]
    gi_wp2
    exact hK
  case body =>
    rintro l pre x W ⟨⟨h0, h1, hF, hS, hfr⟩, hB⟩ hlen
    have hvW := (hv.below hB).more hB.size
    obtain ⟨⟨i, j⟩, hxi, hxj⟩ := x
    dsimp only at hxi hxj ⊢
    have hlt2 : pre.length ≤ 36 := by
      have : ns.length * Wd ≤ 6 * 6 := Nat.mul_le_mul h6 w6
      omega
    have hbd := accum_bd ns hf pre
    have hfx := hf i j hxi hxj
    have hsn := accum_snoc ns f_MomentCross_1 pre ⟨(i, j), hxi, hxj⟩
    dsimp only at hsn
    obtain ⟨S, eS⟩ : ∃ S, S = accum ns f_MomentCross_1 pre := ⟨_, rfl⟩
    rw [← eS] at hS hbd hsn
    have HSN := Lib.hid hsn
    clear hsn eS
    have hB36 : S ≤ 900 := by omega
    have HB36 := Lib.hid (And.intro hbd.1 hB36)
    obtain ⟨z, ez⟩ : ∃ z, z = f_MomentCross_1 i j := ⟨_, rfl⟩
    rw [← ez] at hfx
    have HZ := Lib.hid ez
    clear ez hbd hB36
    gi_wp2_with (refine ⟨trivial, ?_⟩; gi_at_call 35; refine (CallsIn.inRound l (callsIn_wide.2 (has_c (Wd : Int) _ ns i j hxi (by omega) (by have := hi.get64 i; omega) _ hvW))).mono ?_; rintro e W1 ⟨rfl, hb1⟩)
    · rename_i hc
      have h0' := cell_below hb1 h0
      have h1' := cell_below hb1 h1
      have hF' := cell_below hb1 hF
      have hS' := cell_below hb1 hS
      have hfr' := frozen_below hb1 hS hfr
      have kF := cell_regrown hF'
      have kS := cell_regrown hS'
      have hbd := HB36.out
      have ew : IntKind.i64.wrap (S + z) = S + z := IntWalk.i64_in _ ⟨by omega, by omega⟩
      have hcl : ∀ W, Calls Try.prog 23 #[.int .i64 i, .int .i64 j] W fun e w' => e = .returned (.int .i64 z) ∧ W = w' := fun W => by rw [HZ.out]; exact MomentCross_1_c i j (by omega) (by omega) W
      refine wpIn_region_below_tail 6 (by kernel_rfl) (by kernel_rfl) (by kernel_rfl) ?_
      simp only [List.take_succ_cons, List.take_zero, List.drop_succ_cons, List.drop_zero]
      repeat (first | go_big_quiet_step ((go_at_call 23; exact Calls.rgs (hcl _))) | quiet_step ((go_at_call 23; exact Calls.rgs (hcl _))))
      refine wpQuiet_nil ?_
      intro _ hw0
      obtain ⟨⟨dq, osq⟩, hw1⟩ := hw0
      subst hw1
      have hq := below_regrown W1 dq osq
      generalize Go.Sort.grow (redrawn W1 dq) osq = w2 at hq ⊢
      clear kF kS ew hcl
      have h0'' := cell_below hq h0'
      have h1'' := cell_below hq h1'
      have hF'' := cell_below hq hF'
      have hS'' := cell_below hq hS'
      have hfr'' := frozen_below hq hS' hfr'
      have hbW := hb1.trans (hq.mono hb1.size)
      have hnew := World.cell?_setCell_same' w2 ⟨w.heap.size + 1 + 1, 0, none⟩ (.int .i64 (S + z)) (by rw [hS'']; rfl)
      go_wp2
      refine ⟨rfl, (keeps_below hbW).trans (KeepsOthers.setCell _ _ _), (KpC.of_below hbW).t (fun v h => (World.cell?_setCell_other _ _ _ _ (by simp)).trans h), ⟨?_, ?_, ?_, ?_, ?_⟩, (hB.trans (hbW.mono hB.size)).setCell (by simp; omega) _⟩
      · exact (World.cell?_setCell_other _ _ _ _ (by simp)).trans h0''
      · exact (World.cell?_setCell_other _ _ _ _ (by simp)).trans h1''
      · exact (World.cell?_setCell_other _ _ _ _ (by simp)).trans hF''
      · rw [HSN.out, hc, ← HZ.out]
        simpa [b2i] using hnew
      · rw [World.frozen?_setCell]
        exact hfr''
    · rename_i hc
      refine ⟨keeps_below hb1, KpC.of_below hb1, ⟨cell_below hb1 h0, cell_below hb1 h1, cell_below hb1 hF, ?_, frozen_below hb1 hS hfr⟩, hB.trans (hb1.mono hB.size)⟩
      rw [HSN.out]
      rw [hc]
      simpa [b2i] using cell_below hb1 hS
  case done =>
    rintro D xs W hD hall ⟨⟨h0, h1, hF, hS, hfr⟩, hB⟩ hK
    gi_wp2
    refine ⟨by simp, .inl ⟨_, _, rfl, run_takeDeferred hK, ?_⟩⟩
    exact ⟨_, results_tmp rfl _ _ _, by rw [accum_all _ hall]; rfl, hB.trans (belowK_b (w := w) (Nat.le_refl _) W D _ _ (by omega) hK rfl rfl)⟩
  case stop =>
    rintro D c pre W _ _ h _
    exact h.elim
theorem bd_MomentSquares_1 (i j : Nat) (hi : i < 6) (hj : j < 6) : 0 ≤ f_MomentSquares_1 i j ∧ f_MomentSquares_1 i j ≤ 25 := by
  have h1 := hi
  have h2 := hj
  unfold f_MomentSquares_1
  first
    | exact mul_bd hi hj
    | exact mul_bd hi hi
    | exact mul_bd hj hj
    | omega
theorem MomentSquares_1_c (i j : Nat) (hi : i < 6) (hj : j < 6) (w : World) : Calls Try.prog 21 #[.int .i64 i, .int .i64 j] w fun e w' => e = .returned (.int .i64 (f_MomentSquares_1 i j)) ∧ w = w' := by
  have h1 := mul_bd hi hj
  have h2 := mul_bd hi hi
  have h3 := mul_bd hj hj
  go_enter Try.func21, Try.ntmps21
  go_wp2
  go_returns
  exact ⟨ri (by unfold f_MomentSquares_1; first | rfl | exact IntWalk.i64_in _ ⟨by omega, by omega⟩), rfl⟩
set_option maxRecDepth 100000 in
set_option maxHeartbeats 2000000 in
theorem moment_MomentSquares_1 (Wd : Nat) (v : Value) (ns : List Nat) (hi : VImg Wd ns) (w : World) (hv : Ints w.heap.size w v (casts ns)) :
    Calls Try.prog 18 #[.agg #[.int .i64 (Wd : Int), v], .func (.func 21) #[] #[]] w fun e w' => e = .returned (.int .i64 (mom Wd ns f_MomentSquares_1)) ∧ Below w.heap.size w w' := by
  have hf : ∀ i j, i < ns.length → j < Wd → 0 ≤ f_MomentSquares_1 i j ∧ f_MomentSquares_1 i j ≤ 25 := fun i j h1 h2 => bd_MomentSquares_1 i j (by have := hi.h6; omega) (by have := hi.w6; omega)
  obtain ⟨A, cap, rfl⟩ := hv.len
  rw [length_casts] at hv ⊢
  have h6 := hi.h6
  have w6 := hi.w6
  refine (callsIn_wide (n := 3)).1 ?_
  refine callsIn_of_wp_marks Try.func18 rfl trivial ?_ rfl
  simp only [Try.ntmps18, List.size_toArray, List.length_cons, List.length_nil, Nat.reduceAdd, Nat.reduceSub, Array.replicate_succ, Array.replicate_zero, List.push_toArray, List.append_toArray, List.nil_append, List.cons_append]
  gi_wp2_with (refine ⟨trivial, ?_⟩; gi_at_call 34; refine (callsIn_wide.2 (cells_c _ _ _)).mono ?_; rintro e w' ⟨rfl, rfl⟩)
  obtain ⟨W0, eW⟩ : ∃ W0, W0 = ((((w.alloc (.cells #[.int .i64 (Wd : Int), .slice A ns.length cap] 25)).alloc (.cells #[.func (.func 21) #[] #[]] 42)).alloc (.cells #[.int .i64 0] 3)).alloc (.cells #[.int .i64 (Wd : Int), .slice A ns.length cap] 25)) := ⟨_, rfl⟩
  have g0 : W0.heap.size = w.heap.size + 4 := by rw [eW]; simp
  have a0 : W0.cell? ⟨w.heap.size, 0, none⟩ = some (.int .i64 (Wd : Int)) := by rw [eW]; go_cell
  have a1 : W0.cell? ⟨w.heap.size, 1, none⟩ = some (.slice A ns.length cap) := by rw [eW]; go_cell
  have aF : W0.cell? ⟨w.heap.size + 1, 0, none⟩ = some (.func (.func 21) #[] #[]) := by rw [eW]; go_cell
  have aS : W0.cell? ⟨w.heap.size + 1 + 1, 0, none⟩ = some (.int .i64 0) := by rw [eW]; go_cell
  have af : W0.frozen? ⟨w.heap.size + 1 + 1, 0, none⟩ = false := by rw [eW]; go_cell
  have b0 : W0.cell? ⟨w.heap.size + 1 + 1 + 1, 0, none⟩ = some (.int .i64 (Wd : Int)) := by rw [eW]; go_cell
  have b1 : W0.cell? ⟨w.heap.size + 1 + 1 + 1, 1, none⟩ = some (.slice A ns.length cap) := by rw [eW]; go_cell
  have hB0 : Below w.heap.size w W0 := by rw [eW]; go_grown
  rw [← eW]
  clear eW
  refine wpIn_rangeFunc_ownF (F := Fence.wide) rfl (by omega) (gf := 43) (lb := #[.pointer (some ⟨w.heap.size + 1 + 1 + 1, 0, none⟩)]) rfl trivial (enters_of Try.func43 (by kernel_rfl) rfl)
    (cells_stops 2 (w.heap.size + 1 + 1 + 1) ns.length Wd cap A h6 w6 W0 b0 b1 (by omega)) (fun h k => KpC.t h k) (fun W l o o' _ h hc _ => KpC.b W l o o' h hc) (Below.refl _ _) (fun _ => rfl)
    (fun pre W => (W.cell? ⟨w.heap.size, 0, none⟩ = some (.int .i64 (Wd : Int)) ∧ W.cell? ⟨w.heap.size, 1, none⟩ = some (.slice A ns.length cap) ∧ W.cell? ⟨w.heap.size + 1, 0, none⟩ = some (.func (.func 21) #[] #[]) ∧ W.cell? ⟨w.heap.size + 1 + 1, 0, none⟩ = some (.int .i64 (accum ns f_MomentSquares_1 pre)) ∧ W.frozen? ⟨w.heap.size + 1 + 1, 0, none⟩ = false) ∧ Below w.heap.size w W)
    (fun _ _ _ => False)
    (OwnFrom.and (Own.from (fun s A B row hs hg hr => ⟨cell_kept hs.1 hg hr, cell_kept hs.2.1 hg hr, cell_kept hs.2.2.1 hg hr, cell_kept hs.2.2.2.1 hg hr, (frozen_kept hs.2.2.2.1 hg hr).trans hs.2.2.2.2⟩) _) (ownFrom_below (Nat.le_refl _) (by omega)))
    (fun _ _ _ _ _ hs _ _ => hs)
    ⟨⟨a0, a1, aF, aS, af⟩, hB0⟩
    (fun x => { tmps := #[.agg #[.int .i64 (Wd : Int), .slice A ns.length cap], .func (.func 21) #[] #[], .pointer (some ⟨w.heap.size, 0, none⟩), .pointer (some ⟨w.heap.size + 1, 0, none⟩), .int .i64 0, .pointer (some ⟨w.heap.size + 1 + 1, 0, none⟩), .int .i64 (x.1.1 : Int), .int .i64 (x.1.2 : Int), .agg #[.int .i64 (Wd : Int), .slice A ns.length cap], .func (.func 43) #[] #[.pointer (some ⟨w.heap.size + 1 + 1 + 1, 0, none⟩)], .int .i64 (x.1.1 : Int), .int .i64 (x.1.2 : Int), undef, undef, undef, undef, undef, undef, undef, undef, undef, undef, undef], defers := [] }) ?assign ?body ?done ?stop
  case assign =>
    intro l x W K hK
    dsimp only [encC]
    gi_wp2
    exact hK
  case body =>
    rintro l pre x W ⟨⟨h0, h1, hF, hS, hfr⟩, hB⟩ hlen
    have hvW := (hv.below hB).more hB.size
    obtain ⟨⟨i, j⟩, hxi, hxj⟩ := x
    dsimp only at hxi hxj ⊢
    have hlt2 : pre.length ≤ 36 := by
      have : ns.length * Wd ≤ 6 * 6 := Nat.mul_le_mul h6 w6
      omega
    have hbd := accum_bd ns hf pre
    have hfx := hf i j hxi hxj
    have hsn := accum_snoc ns f_MomentSquares_1 pre ⟨(i, j), hxi, hxj⟩
    dsimp only at hsn
    obtain ⟨S, eS⟩ : ∃ S, S = accum ns f_MomentSquares_1 pre := ⟨_, rfl⟩
    rw [← eS] at hS hbd hsn
    have HSN := Lib.hid hsn
    clear hsn eS
    have hB36 : S ≤ 900 := by omega
    have HB36 := Lib.hid (And.intro hbd.1 hB36)
    obtain ⟨z, ez⟩ : ∃ z, z = f_MomentSquares_1 i j := ⟨_, rfl⟩
    rw [← ez] at hfx
    have HZ := Lib.hid ez
    clear ez hbd hB36
    gi_wp2_with (refine ⟨trivial, ?_⟩; gi_at_call 35; refine (CallsIn.inRound l (callsIn_wide.2 (has_c (Wd : Int) _ ns i j hxi (by omega) (by have := hi.get64 i; omega) _ hvW))).mono ?_; rintro e W1 ⟨rfl, hb1⟩)
    · rename_i hc
      have h0' := cell_below hb1 h0
      have h1' := cell_below hb1 h1
      have hF' := cell_below hb1 hF
      have hS' := cell_below hb1 hS
      have hfr' := frozen_below hb1 hS hfr
      have kF := cell_regrown hF'
      have kS := cell_regrown hS'
      have hbd := HB36.out
      have ew : IntKind.i64.wrap (S + z) = S + z := IntWalk.i64_in _ ⟨by omega, by omega⟩
      have hcl : ∀ W, Calls Try.prog 21 #[.int .i64 i, .int .i64 j] W fun e w' => e = .returned (.int .i64 z) ∧ W = w' := fun W => by rw [HZ.out]; exact MomentSquares_1_c i j (by omega) (by omega) W
      refine wpIn_region_below_tail 6 (by kernel_rfl) (by kernel_rfl) (by kernel_rfl) ?_
      simp only [List.take_succ_cons, List.take_zero, List.drop_succ_cons, List.drop_zero]
      repeat (first | go_big_quiet_step ((go_at_call 21; exact Calls.rgs (hcl _))) | quiet_step ((go_at_call 21; exact Calls.rgs (hcl _))))
      refine wpQuiet_nil ?_
      intro _ hw0
      obtain ⟨⟨dq, osq⟩, hw1⟩ := hw0
      subst hw1
      have hq := below_regrown W1 dq osq
      generalize Go.Sort.grow (redrawn W1 dq) osq = w2 at hq ⊢
      clear kF kS ew hcl
      have h0'' := cell_below hq h0'
      have h1'' := cell_below hq h1'
      have hF'' := cell_below hq hF'
      have hS'' := cell_below hq hS'
      have hfr'' := frozen_below hq hS' hfr'
      have hbW := hb1.trans (hq.mono hb1.size)
      have hnew := World.cell?_setCell_same' w2 ⟨w.heap.size + 1 + 1, 0, none⟩ (.int .i64 (S + z)) (by rw [hS'']; rfl)
      go_wp2
      refine ⟨rfl, (keeps_below hbW).trans (KeepsOthers.setCell _ _ _), (KpC.of_below hbW).t (fun v h => (World.cell?_setCell_other _ _ _ _ (by simp)).trans h), ⟨?_, ?_, ?_, ?_, ?_⟩, (hB.trans (hbW.mono hB.size)).setCell (by simp; omega) _⟩
      · exact (World.cell?_setCell_other _ _ _ _ (by simp)).trans h0''
      · exact (World.cell?_setCell_other _ _ _ _ (by simp)).trans h1''
      · exact (World.cell?_setCell_other _ _ _ _ (by simp)).trans hF''
      · rw [HSN.out, hc, ← HZ.out]
        simpa [b2i] using hnew
      · rw [World.frozen?_setCell]
        exact hfr''
    · rename_i hc
      refine ⟨keeps_below hb1, KpC.of_below hb1, ⟨cell_below hb1 h0, cell_below hb1 h1, cell_below hb1 hF, ?_, frozen_below hb1 hS hfr⟩, hB.trans (hb1.mono hB.size)⟩
      rw [HSN.out]
      rw [hc]
      simpa [b2i] using cell_below hb1 hS
  case done =>
    rintro D xs W hD hall ⟨⟨h0, h1, hF, hS, hfr⟩, hB⟩ hK
    gi_wp2
    refine ⟨by simp, .inl ⟨_, _, rfl, run_takeDeferred hK, ?_⟩⟩
    exact ⟨_, results_tmp rfl _ _ _, by rw [accum_all _ hall]; rfl, hB.trans (belowK_b (w := w) (Nat.le_refl _) W D _ _ (by omega) hK rfl rfl)⟩
  case stop =>
    rintro D c pre W _ _ h _
    exact h.elim
theorem bd_MomentSquares_2 (i j : Nat) (hi : i < 6) (hj : j < 6) : 0 ≤ f_MomentSquares_2 i j ∧ f_MomentSquares_2 i j ≤ 25 := by
  have h1 := hi
  have h2 := hj
  unfold f_MomentSquares_2
  first
    | exact mul_bd hi hj
    | exact mul_bd hi hi
    | exact mul_bd hj hj
    | omega
theorem MomentSquares_2_c (i j : Nat) (hi : i < 6) (hj : j < 6) (w : World) : Calls Try.prog 22 #[.int .i64 i, .int .i64 j] w fun e w' => e = .returned (.int .i64 (f_MomentSquares_2 i j)) ∧ w = w' := by
  have h1 := mul_bd hi hj
  have h2 := mul_bd hi hi
  have h3 := mul_bd hj hj
  go_enter Try.func22, Try.ntmps22
  go_wp2
  go_returns
  exact ⟨ri (by unfold f_MomentSquares_2; first | rfl | exact IntWalk.i64_in _ ⟨by omega, by omega⟩), rfl⟩
set_option maxRecDepth 100000 in
set_option maxHeartbeats 2000000 in
theorem moment_MomentSquares_2 (Wd : Nat) (v : Value) (ns : List Nat) (hi : VImg Wd ns) (w : World) (hv : Ints w.heap.size w v (casts ns)) :
    Calls Try.prog 18 #[.agg #[.int .i64 (Wd : Int), v], .func (.func 22) #[] #[]] w fun e w' => e = .returned (.int .i64 (mom Wd ns f_MomentSquares_2)) ∧ Below w.heap.size w w' := by
  have hf : ∀ i j, i < ns.length → j < Wd → 0 ≤ f_MomentSquares_2 i j ∧ f_MomentSquares_2 i j ≤ 25 := fun i j h1 h2 => bd_MomentSquares_2 i j (by have := hi.h6; omega) (by have := hi.w6; omega)
  obtain ⟨A, cap, rfl⟩ := hv.len
  rw [length_casts] at hv ⊢
  have h6 := hi.h6
  have w6 := hi.w6
  refine (callsIn_wide (n := 3)).1 ?_
  refine callsIn_of_wp_marks Try.func18 rfl trivial ?_ rfl
  simp only [Try.ntmps18, List.size_toArray, List.length_cons, List.length_nil, Nat.reduceAdd, Nat.reduceSub, Array.replicate_succ, Array.replicate_zero, List.push_toArray, List.append_toArray, List.nil_append, List.cons_append]
  gi_wp2_with (refine ⟨trivial, ?_⟩; gi_at_call 34; refine (callsIn_wide.2 (cells_c _ _ _)).mono ?_; rintro e w' ⟨rfl, rfl⟩)
  obtain ⟨W0, eW⟩ : ∃ W0, W0 = ((((w.alloc (.cells #[.int .i64 (Wd : Int), .slice A ns.length cap] 25)).alloc (.cells #[.func (.func 22) #[] #[]] 42)).alloc (.cells #[.int .i64 0] 3)).alloc (.cells #[.int .i64 (Wd : Int), .slice A ns.length cap] 25)) := ⟨_, rfl⟩
  have g0 : W0.heap.size = w.heap.size + 4 := by rw [eW]; simp
  have a0 : W0.cell? ⟨w.heap.size, 0, none⟩ = some (.int .i64 (Wd : Int)) := by rw [eW]; go_cell
  have a1 : W0.cell? ⟨w.heap.size, 1, none⟩ = some (.slice A ns.length cap) := by rw [eW]; go_cell
  have aF : W0.cell? ⟨w.heap.size + 1, 0, none⟩ = some (.func (.func 22) #[] #[]) := by rw [eW]; go_cell
  have aS : W0.cell? ⟨w.heap.size + 1 + 1, 0, none⟩ = some (.int .i64 0) := by rw [eW]; go_cell
  have af : W0.frozen? ⟨w.heap.size + 1 + 1, 0, none⟩ = false := by rw [eW]; go_cell
  have b0 : W0.cell? ⟨w.heap.size + 1 + 1 + 1, 0, none⟩ = some (.int .i64 (Wd : Int)) := by rw [eW]; go_cell
  have b1 : W0.cell? ⟨w.heap.size + 1 + 1 + 1, 1, none⟩ = some (.slice A ns.length cap) := by rw [eW]; go_cell
  have hB0 : Below w.heap.size w W0 := by rw [eW]; go_grown
  rw [← eW]
  clear eW
  refine wpIn_rangeFunc_ownF (F := Fence.wide) rfl (by omega) (gf := 43) (lb := #[.pointer (some ⟨w.heap.size + 1 + 1 + 1, 0, none⟩)]) rfl trivial (enters_of Try.func43 (by kernel_rfl) rfl)
    (cells_stops 2 (w.heap.size + 1 + 1 + 1) ns.length Wd cap A h6 w6 W0 b0 b1 (by omega)) (fun h k => KpC.t h k) (fun W l o o' _ h hc _ => KpC.b W l o o' h hc) (Below.refl _ _) (fun _ => rfl)
    (fun pre W => (W.cell? ⟨w.heap.size, 0, none⟩ = some (.int .i64 (Wd : Int)) ∧ W.cell? ⟨w.heap.size, 1, none⟩ = some (.slice A ns.length cap) ∧ W.cell? ⟨w.heap.size + 1, 0, none⟩ = some (.func (.func 22) #[] #[]) ∧ W.cell? ⟨w.heap.size + 1 + 1, 0, none⟩ = some (.int .i64 (accum ns f_MomentSquares_2 pre)) ∧ W.frozen? ⟨w.heap.size + 1 + 1, 0, none⟩ = false) ∧ Below w.heap.size w W)
    (fun _ _ _ => False)
    (OwnFrom.and (Own.from (fun s A B row hs hg hr => ⟨cell_kept hs.1 hg hr, cell_kept hs.2.1 hg hr, cell_kept hs.2.2.1 hg hr, cell_kept hs.2.2.2.1 hg hr, (frozen_kept hs.2.2.2.1 hg hr).trans hs.2.2.2.2⟩) _) (ownFrom_below (Nat.le_refl _) (by omega)))
    (fun _ _ _ _ _ hs _ _ => hs)
    ⟨⟨a0, a1, aF, aS, af⟩, hB0⟩
    (fun x => { tmps := #[.agg #[.int .i64 (Wd : Int), .slice A ns.length cap], .func (.func 22) #[] #[], .pointer (some ⟨w.heap.size, 0, none⟩), .pointer (some ⟨w.heap.size + 1, 0, none⟩), .int .i64 0, .pointer (some ⟨w.heap.size + 1 + 1, 0, none⟩), .int .i64 (x.1.1 : Int), .int .i64 (x.1.2 : Int), .agg #[.int .i64 (Wd : Int), .slice A ns.length cap], .func (.func 43) #[] #[.pointer (some ⟨w.heap.size + 1 + 1 + 1, 0, none⟩)], .int .i64 (x.1.1 : Int), .int .i64 (x.1.2 : Int), undef, undef, undef, undef, undef, undef, undef, undef, undef, undef, undef], defers := [] }) ?assign ?body ?done ?stop
  case assign =>
    intro l x W K hK
    dsimp only [encC]
    gi_wp2
    exact hK
  case body =>
    rintro l pre x W ⟨⟨h0, h1, hF, hS, hfr⟩, hB⟩ hlen
    have hvW := (hv.below hB).more hB.size
    obtain ⟨⟨i, j⟩, hxi, hxj⟩ := x
    dsimp only at hxi hxj ⊢
    have hlt2 : pre.length ≤ 36 := by
      have : ns.length * Wd ≤ 6 * 6 := Nat.mul_le_mul h6 w6
      omega
    have hbd := accum_bd ns hf pre
    have hfx := hf i j hxi hxj
    have hsn := accum_snoc ns f_MomentSquares_2 pre ⟨(i, j), hxi, hxj⟩
    dsimp only at hsn
    obtain ⟨S, eS⟩ : ∃ S, S = accum ns f_MomentSquares_2 pre := ⟨_, rfl⟩
    rw [← eS] at hS hbd hsn
    have HSN := Lib.hid hsn
    clear hsn eS
    have hB36 : S ≤ 900 := by omega
    have HB36 := Lib.hid (And.intro hbd.1 hB36)
    obtain ⟨z, ez⟩ : ∃ z, z = f_MomentSquares_2 i j := ⟨_, rfl⟩
    rw [← ez] at hfx
    have HZ := Lib.hid ez
    clear ez hbd hB36
    gi_wp2_with (refine ⟨trivial, ?_⟩; gi_at_call 35; refine (CallsIn.inRound l (callsIn_wide.2 (has_c (Wd : Int) _ ns i j hxi (by omega) (by have := hi.get64 i; omega) _ hvW))).mono ?_; rintro e W1 ⟨rfl, hb1⟩)
    · rename_i hc
      have h0' := cell_below hb1 h0
      have h1' := cell_below hb1 h1
      have hF' := cell_below hb1 hF
      have hS' := cell_below hb1 hS
      have hfr' := frozen_below hb1 hS hfr
      have kF := cell_regrown hF'
      have kS := cell_regrown hS'
      have hbd := HB36.out
      have ew : IntKind.i64.wrap (S + z) = S + z := IntWalk.i64_in _ ⟨by omega, by omega⟩
      have hcl : ∀ W, Calls Try.prog 22 #[.int .i64 i, .int .i64 j] W fun e w' => e = .returned (.int .i64 z) ∧ W = w' := fun W => by rw [HZ.out]; exact MomentSquares_2_c i j (by omega) (by omega) W
      refine wpIn_region_below_tail 6 (by kernel_rfl) (by kernel_rfl) (by kernel_rfl) ?_
      simp only [List.take_succ_cons, List.take_zero, List.drop_succ_cons, List.drop_zero]
      repeat (first | go_big_quiet_step ((go_at_call 22; exact Calls.rgs (hcl _))) | quiet_step ((go_at_call 22; exact Calls.rgs (hcl _))))
      refine wpQuiet_nil ?_
      intro _ hw0
      obtain ⟨⟨dq, osq⟩, hw1⟩ := hw0
      subst hw1
      have hq := below_regrown W1 dq osq
      generalize Go.Sort.grow (redrawn W1 dq) osq = w2 at hq ⊢
      clear kF kS ew hcl
      have h0'' := cell_below hq h0'
      have h1'' := cell_below hq h1'
      have hF'' := cell_below hq hF'
      have hS'' := cell_below hq hS'
      have hfr'' := frozen_below hq hS' hfr'
      have hbW := hb1.trans (hq.mono hb1.size)
      have hnew := World.cell?_setCell_same' w2 ⟨w.heap.size + 1 + 1, 0, none⟩ (.int .i64 (S + z)) (by rw [hS'']; rfl)
      go_wp2
      refine ⟨rfl, (keeps_below hbW).trans (KeepsOthers.setCell _ _ _), (KpC.of_below hbW).t (fun v h => (World.cell?_setCell_other _ _ _ _ (by simp)).trans h), ⟨?_, ?_, ?_, ?_, ?_⟩, (hB.trans (hbW.mono hB.size)).setCell (by simp; omega) _⟩
      · exact (World.cell?_setCell_other _ _ _ _ (by simp)).trans h0''
      · exact (World.cell?_setCell_other _ _ _ _ (by simp)).trans h1''
      · exact (World.cell?_setCell_other _ _ _ _ (by simp)).trans hF''
      · rw [HSN.out, hc, ← HZ.out]
        simpa [b2i] using hnew
      · rw [World.frozen?_setCell]
        exact hfr''
    · rename_i hc
      refine ⟨keeps_below hb1, KpC.of_below hb1, ⟨cell_below hb1 h0, cell_below hb1 h1, cell_below hb1 hF, ?_, frozen_below hb1 hS hfr⟩, hB.trans (hb1.mono hB.size)⟩
      rw [HSN.out]
      rw [hc]
      simpa [b2i] using cell_below hb1 hS
  case done =>
    rintro D xs W hD hall ⟨⟨h0, h1, hF, hS, hfr⟩, hB⟩ hK
    gi_wp2
    refine ⟨by simp, .inl ⟨_, _, rfl, run_takeDeferred hK, ?_⟩⟩
    exact ⟨_, results_tmp rfl _ _ _, by rw [accum_all _ hall]; rfl, hB.trans (belowK_b (w := w) (Nat.le_refl _) W D _ _ (by omega) hK rfl rfl)⟩
  case stop =>
    rintro D c pre W _ _ h _
    exact h.elim
theorem bd_MomentSums_1 (i j : Nat) (hi : i < 6) (hj : j < 6) : 0 ≤ f_MomentSums_1 i j ∧ f_MomentSums_1 i j ≤ 25 := by
  have h1 := hi
  have h2 := hj
  unfold f_MomentSums_1
  first
    | exact mul_bd hi hj
    | exact mul_bd hi hi
    | exact mul_bd hj hj
    | omega
theorem MomentSums_1_c (i j : Nat) (hi : i < 6) (hj : j < 6) (w : World) : Calls Try.prog 19 #[.int .i64 i, .int .i64 j] w fun e w' => e = .returned (.int .i64 (f_MomentSums_1 i j)) ∧ w = w' := by
  have h1 := mul_bd hi hj
  have h2 := mul_bd hi hi
  have h3 := mul_bd hj hj
  go_enter Try.func19, Try.ntmps19
  go_wp2
  go_returns
  exact ⟨ri (by unfold f_MomentSums_1; first | rfl | exact IntWalk.i64_in _ ⟨by omega, by omega⟩), rfl⟩
set_option maxRecDepth 100000 in
set_option maxHeartbeats 2000000 in
theorem moment_MomentSums_1 (Wd : Nat) (v : Value) (ns : List Nat) (hi : VImg Wd ns) (w : World) (hv : Ints w.heap.size w v (casts ns)) :
    Calls Try.prog 18 #[.agg #[.int .i64 (Wd : Int), v], .func (.func 19) #[] #[]] w fun e w' => e = .returned (.int .i64 (mom Wd ns f_MomentSums_1)) ∧ Below w.heap.size w w' := by
  have hf : ∀ i j, i < ns.length → j < Wd → 0 ≤ f_MomentSums_1 i j ∧ f_MomentSums_1 i j ≤ 25 := fun i j h1 h2 => bd_MomentSums_1 i j (by have := hi.h6; omega) (by have := hi.w6; omega)
  obtain ⟨A, cap, rfl⟩ := hv.len
  rw [length_casts] at hv ⊢
  have h6 := hi.h6
  have w6 := hi.w6
  refine (callsIn_wide (n := 3)).1 ?_
  refine callsIn_of_wp_marks Try.func18 rfl trivial ?_ rfl
  simp only [Try.ntmps18, List.size_toArray, List.length_cons, List.length_nil, Nat.reduceAdd, Nat.reduceSub, Array.replicate_succ, Array.replicate_zero, List.push_toArray, List.append_toArray, List.nil_append, List.cons_append]
  gi_wp2_with (refine ⟨trivial, ?_⟩; gi_at_call 34; refine (callsIn_wide.2 (cells_c _ _ _)).mono ?_; rintro e w' ⟨rfl, rfl⟩)
  obtain ⟨W0, eW⟩ : ∃ W0, W0 = ((((w.alloc (.cells #[.int .i64 (Wd : Int), .slice A ns.length cap] 25)).alloc (.cells #[.func (.func 19) #[] #[]] 42)).alloc (.cells #[.int .i64 0] 3)).alloc (.cells #[.int .i64 (Wd : Int), .slice A ns.length cap] 25)) := ⟨_, rfl⟩
  have g0 : W0.heap.size = w.heap.size + 4 := by rw [eW]; simp
  have a0 : W0.cell? ⟨w.heap.size, 0, none⟩ = some (.int .i64 (Wd : Int)) := by rw [eW]; go_cell
  have a1 : W0.cell? ⟨w.heap.size, 1, none⟩ = some (.slice A ns.length cap) := by rw [eW]; go_cell
  have aF : W0.cell? ⟨w.heap.size + 1, 0, none⟩ = some (.func (.func 19) #[] #[]) := by rw [eW]; go_cell
  have aS : W0.cell? ⟨w.heap.size + 1 + 1, 0, none⟩ = some (.int .i64 0) := by rw [eW]; go_cell
  have af : W0.frozen? ⟨w.heap.size + 1 + 1, 0, none⟩ = false := by rw [eW]; go_cell
  have b0 : W0.cell? ⟨w.heap.size + 1 + 1 + 1, 0, none⟩ = some (.int .i64 (Wd : Int)) := by rw [eW]; go_cell
  have b1 : W0.cell? ⟨w.heap.size + 1 + 1 + 1, 1, none⟩ = some (.slice A ns.length cap) := by rw [eW]; go_cell
  have hB0 : Below w.heap.size w W0 := by rw [eW]; go_grown
  rw [← eW]
  clear eW
  refine wpIn_rangeFunc_ownF (F := Fence.wide) rfl (by omega) (gf := 43) (lb := #[.pointer (some ⟨w.heap.size + 1 + 1 + 1, 0, none⟩)]) rfl trivial (enters_of Try.func43 (by kernel_rfl) rfl)
    (cells_stops 2 (w.heap.size + 1 + 1 + 1) ns.length Wd cap A h6 w6 W0 b0 b1 (by omega)) (fun h k => KpC.t h k) (fun W l o o' _ h hc _ => KpC.b W l o o' h hc) (Below.refl _ _) (fun _ => rfl)
    (fun pre W => (W.cell? ⟨w.heap.size, 0, none⟩ = some (.int .i64 (Wd : Int)) ∧ W.cell? ⟨w.heap.size, 1, none⟩ = some (.slice A ns.length cap) ∧ W.cell? ⟨w.heap.size + 1, 0, none⟩ = some (.func (.func 19) #[] #[]) ∧ W.cell? ⟨w.heap.size + 1 + 1, 0, none⟩ = some (.int .i64 (accum ns f_MomentSums_1 pre)) ∧ W.frozen? ⟨w.heap.size + 1 + 1, 0, none⟩ = false) ∧ Below w.heap.size w W)
    (fun _ _ _ => False)
    (OwnFrom.and (Own.from (fun s A B row hs hg hr => ⟨cell_kept hs.1 hg hr, cell_kept hs.2.1 hg hr, cell_kept hs.2.2.1 hg hr, cell_kept hs.2.2.2.1 hg hr, (frozen_kept hs.2.2.2.1 hg hr).trans hs.2.2.2.2⟩) _) (ownFrom_below (Nat.le_refl _) (by omega)))
    (fun _ _ _ _ _ hs _ _ => hs)
    ⟨⟨a0, a1, aF, aS, af⟩, hB0⟩
    (fun x => { tmps := #[.agg #[.int .i64 (Wd : Int), .slice A ns.length cap], .func (.func 19) #[] #[], .pointer (some ⟨w.heap.size, 0, none⟩), .pointer (some ⟨w.heap.size + 1, 0, none⟩), .int .i64 0, .pointer (some ⟨w.heap.size + 1 + 1, 0, none⟩), .int .i64 (x.1.1 : Int), .int .i64 (x.1.2 : Int), .agg #[.int .i64 (Wd : Int), .slice A ns.length cap], .func (.func 43) #[] #[.pointer (some ⟨w.heap.size + 1 + 1 + 1, 0, none⟩)], .int .i64 (x.1.1 : Int), .int .i64 (x.1.2 : Int), undef, undef, undef, undef, undef, undef, undef, undef, undef, undef, undef], defers := [] }) ?assign ?body ?done ?stop
  case assign =>
    intro l x W K hK
    dsimp only [encC]
    gi_wp2
    exact hK
  case body =>
    rintro l pre x W ⟨⟨h0, h1, hF, hS, hfr⟩, hB⟩ hlen
    have hvW := (hv.below hB).more hB.size
    obtain ⟨⟨i, j⟩, hxi, hxj⟩ := x
    dsimp only at hxi hxj ⊢
    have hlt2 : pre.length ≤ 36 := by
      have : ns.length * Wd ≤ 6 * 6 := Nat.mul_le_mul h6 w6
      omega
    have hbd := accum_bd ns hf pre
    have hfx := hf i j hxi hxj
    have hsn := accum_snoc ns f_MomentSums_1 pre ⟨(i, j), hxi, hxj⟩
    dsimp only at hsn
    obtain ⟨S, eS⟩ : ∃ S, S = accum ns f_MomentSums_1 pre := ⟨_, rfl⟩
    rw [← eS] at hS hbd hsn
    have HSN := Lib.hid hsn
    clear hsn eS
    have hB36 : S ≤ 900 := by omega
    have HB36 := Lib.hid (And.intro hbd.1 hB36)
    obtain ⟨z, ez⟩ : ∃ z, z = f_MomentSums_1 i j := ⟨_, rfl⟩
    rw [← ez] at hfx
    have HZ := Lib.hid ez
    clear ez hbd hB36
    gi_wp2_with (refine ⟨trivial, ?_⟩; gi_at_call 35; refine (CallsIn.inRound l (callsIn_wide.2 (has_c (Wd : Int) _ ns i j hxi (by omega) (by have := hi.get64 i; omega) _ hvW))).mono ?_; rintro e W1 ⟨rfl, hb1⟩)
    · rename_i hc
      have h0' := cell_below hb1 h0
      have h1' := cell_below hb1 h1
      have hF' := cell_below hb1 hF
      have hS' := cell_below hb1 hS
      have hfr' := frozen_below hb1 hS hfr
      have kF := cell_regrown hF'
      have kS := cell_regrown hS'
      have hbd := HB36.out
      have ew : IntKind.i64.wrap (S + z) = S + z := IntWalk.i64_in _ ⟨by omega, by omega⟩
      have hcl : ∀ W, Calls Try.prog 19 #[.int .i64 i, .int .i64 j] W fun e w' => e = .returned (.int .i64 z) ∧ W = w' := fun W => by rw [HZ.out]; exact MomentSums_1_c i j (by omega) (by omega) W
      refine wpIn_region_below_tail 6 (by kernel_rfl) (by kernel_rfl) (by kernel_rfl) ?_
      simp only [List.take_succ_cons, List.take_zero, List.drop_succ_cons, List.drop_zero]
      repeat (first | go_big_quiet_step ((go_at_call 19; exact Calls.rgs (hcl _))) | quiet_step ((go_at_call 19; exact Calls.rgs (hcl _))))
      refine wpQuiet_nil ?_
      intro _ hw0
      obtain ⟨⟨dq, osq⟩, hw1⟩ := hw0
      subst hw1
      have hq := below_regrown W1 dq osq
      generalize Go.Sort.grow (redrawn W1 dq) osq = w2 at hq ⊢
      clear kF kS ew hcl
      have h0'' := cell_below hq h0'
      have h1'' := cell_below hq h1'
      have hF'' := cell_below hq hF'
      have hS'' := cell_below hq hS'
      have hfr'' := frozen_below hq hS' hfr'
      have hbW := hb1.trans (hq.mono hb1.size)
      have hnew := World.cell?_setCell_same' w2 ⟨w.heap.size + 1 + 1, 0, none⟩ (.int .i64 (S + z)) (by rw [hS'']; rfl)
      go_wp2
      refine ⟨rfl, (keeps_below hbW).trans (KeepsOthers.setCell _ _ _), (KpC.of_below hbW).t (fun v h => (World.cell?_setCell_other _ _ _ _ (by simp)).trans h), ⟨?_, ?_, ?_, ?_, ?_⟩, (hB.trans (hbW.mono hB.size)).setCell (by simp; omega) _⟩
      · exact (World.cell?_setCell_other _ _ _ _ (by simp)).trans h0''
      · exact (World.cell?_setCell_other _ _ _ _ (by simp)).trans h1''
      · exact (World.cell?_setCell_other _ _ _ _ (by simp)).trans hF''
      · rw [HSN.out, hc, ← HZ.out]
        simpa [b2i] using hnew
      · rw [World.frozen?_setCell]
        exact hfr''
    · rename_i hc
      refine ⟨keeps_below hb1, KpC.of_below hb1, ⟨cell_below hb1 h0, cell_below hb1 h1, cell_below hb1 hF, ?_, frozen_below hb1 hS hfr⟩, hB.trans (hb1.mono hB.size)⟩
      rw [HSN.out]
      rw [hc]
      simpa [b2i] using cell_below hb1 hS
  case done =>
    rintro D xs W hD hall ⟨⟨h0, h1, hF, hS, hfr⟩, hB⟩ hK
    gi_wp2
    refine ⟨by simp, .inl ⟨_, _, rfl, run_takeDeferred hK, ?_⟩⟩
    exact ⟨_, results_tmp rfl _ _ _, by rw [accum_all _ hall]; rfl, hB.trans (belowK_b (w := w) (Nat.le_refl _) W D _ _ (by omega) hK rfl rfl)⟩
  case stop =>
    rintro D c pre W _ _ h _
    exact h.elim
theorem bd_MomentSums_2 (i j : Nat) (hi : i < 6) (hj : j < 6) : 0 ≤ f_MomentSums_2 i j ∧ f_MomentSums_2 i j ≤ 25 := by
  have h1 := hi
  have h2 := hj
  unfold f_MomentSums_2
  first
    | exact mul_bd hi hj
    | exact mul_bd hi hi
    | exact mul_bd hj hj
    | omega
theorem MomentSums_2_c (i j : Nat) (hi : i < 6) (hj : j < 6) (w : World) : Calls Try.prog 20 #[.int .i64 i, .int .i64 j] w fun e w' => e = .returned (.int .i64 (f_MomentSums_2 i j)) ∧ w = w' := by
  have h1 := mul_bd hi hj
  have h2 := mul_bd hi hi
  have h3 := mul_bd hj hj
  go_enter Try.func20, Try.ntmps20
  go_wp2
  go_returns
  exact ⟨ri (by unfold f_MomentSums_2; first | rfl | exact IntWalk.i64_in _ ⟨by omega, by omega⟩), rfl⟩
set_option maxRecDepth 100000 in
set_option maxHeartbeats 2000000 in
theorem moment_MomentSums_2 (Wd : Nat) (v : Value) (ns : List Nat) (hi : VImg Wd ns) (w : World) (hv : Ints w.heap.size w v (casts ns)) :
    Calls Try.prog 18 #[.agg #[.int .i64 (Wd : Int), v], .func (.func 20) #[] #[]] w fun e w' => e = .returned (.int .i64 (mom Wd ns f_MomentSums_2)) ∧ Below w.heap.size w w' := by
  have hf : ∀ i j, i < ns.length → j < Wd → 0 ≤ f_MomentSums_2 i j ∧ f_MomentSums_2 i j ≤ 25 := fun i j h1 h2 => bd_MomentSums_2 i j (by have := hi.h6; omega) (by have := hi.w6; omega)
  obtain ⟨A, cap, rfl⟩ := hv.len
  rw [length_casts] at hv ⊢
  have h6 := hi.h6
  have w6 := hi.w6
  refine (callsIn_wide (n := 3)).1 ?_
  refine callsIn_of_wp_marks Try.func18 rfl trivial ?_ rfl
  simp only [Try.ntmps18, List.size_toArray, List.length_cons, List.length_nil, Nat.reduceAdd, Nat.reduceSub, Array.replicate_succ, Array.replicate_zero, List.push_toArray, List.append_toArray, List.nil_append, List.cons_append]
  gi_wp2_with (refine ⟨trivial, ?_⟩; gi_at_call 34; refine (callsIn_wide.2 (cells_c _ _ _)).mono ?_; rintro e w' ⟨rfl, rfl⟩)
  obtain ⟨W0, eW⟩ : ∃ W0, W0 = ((((w.alloc (.cells #[.int .i64 (Wd : Int), .slice A ns.length cap] 25)).alloc (.cells #[.func (.func 20) #[] #[]] 42)).alloc (.cells #[.int .i64 0] 3)).alloc (.cells #[.int .i64 (Wd : Int), .slice A ns.length cap] 25)) := ⟨_, rfl⟩
  have g0 : W0.heap.size = w.heap.size + 4 := by rw [eW]; simp
  have a0 : W0.cell? ⟨w.heap.size, 0, none⟩ = some (.int .i64 (Wd : Int)) := by rw [eW]; go_cell
  have a1 : W0.cell? ⟨w.heap.size, 1, none⟩ = some (.slice A ns.length cap) := by rw [eW]; go_cell
  have aF : W0.cell? ⟨w.heap.size + 1, 0, none⟩ = some (.func (.func 20) #[] #[]) := by rw [eW]; go_cell
  have aS : W0.cell? ⟨w.heap.size + 1 + 1, 0, none⟩ = some (.int .i64 0) := by rw [eW]; go_cell
  have af : W0.frozen? ⟨w.heap.size + 1 + 1, 0, none⟩ = false := by rw [eW]; go_cell
  have b0 : W0.cell? ⟨w.heap.size + 1 + 1 + 1, 0, none⟩ = some (.int .i64 (Wd : Int)) := by rw [eW]; go_cell
  have b1 : W0.cell? ⟨w.heap.size + 1 + 1 + 1, 1, none⟩ = some (.slice A ns.length cap) := by rw [eW]; go_cell
  have hB0 : Below w.heap.size w W0 := by rw [eW]; go_grown
  rw [← eW]
  clear eW
  refine wpIn_rangeFunc_ownF (F := Fence.wide) rfl (by omega) (gf := 43) (lb := #[.pointer (some ⟨w.heap.size + 1 + 1 + 1, 0, none⟩)]) rfl trivial (enters_of Try.func43 (by kernel_rfl) rfl)
    (cells_stops 2 (w.heap.size + 1 + 1 + 1) ns.length Wd cap A h6 w6 W0 b0 b1 (by omega)) (fun h k => KpC.t h k) (fun W l o o' _ h hc _ => KpC.b W l o o' h hc) (Below.refl _ _) (fun _ => rfl)
    (fun pre W => (W.cell? ⟨w.heap.size, 0, none⟩ = some (.int .i64 (Wd : Int)) ∧ W.cell? ⟨w.heap.size, 1, none⟩ = some (.slice A ns.length cap) ∧ W.cell? ⟨w.heap.size + 1, 0, none⟩ = some (.func (.func 20) #[] #[]) ∧ W.cell? ⟨w.heap.size + 1 + 1, 0, none⟩ = some (.int .i64 (accum ns f_MomentSums_2 pre)) ∧ W.frozen? ⟨w.heap.size + 1 + 1, 0, none⟩ = false) ∧ Below w.heap.size w W)
    (fun _ _ _ => False)
    (OwnFrom.and (Own.from (fun s A B row hs hg hr => ⟨cell_kept hs.1 hg hr, cell_kept hs.2.1 hg hr, cell_kept hs.2.2.1 hg hr, cell_kept hs.2.2.2.1 hg hr, (frozen_kept hs.2.2.2.1 hg hr).trans hs.2.2.2.2⟩) _) (ownFrom_below (Nat.le_refl _) (by omega)))
    (fun _ _ _ _ _ hs _ _ => hs)
    ⟨⟨a0, a1, aF, aS, af⟩, hB0⟩
    (fun x => { tmps := #[.agg #[.int .i64 (Wd : Int), .slice A ns.length cap], .func (.func 20) #[] #[], .pointer (some ⟨w.heap.size, 0, none⟩), .pointer (some ⟨w.heap.size + 1, 0, none⟩), .int .i64 0, .pointer (some ⟨w.heap.size + 1 + 1, 0, none⟩), .int .i64 (x.1.1 : Int), .int .i64 (x.1.2 : Int), .agg #[.int .i64 (Wd : Int), .slice A ns.length cap], .func (.func 43) #[] #[.pointer (some ⟨w.heap.size + 1 + 1 + 1, 0, none⟩)], .int .i64 (x.1.1 : Int), .int .i64 (x.1.2 : Int), undef, undef, undef, undef, undef, undef, undef, undef, undef, undef, undef], defers := [] }) ?assign ?body ?done ?stop
  case assign =>
    intro l x W K hK
    dsimp only [encC]
    gi_wp2
    exact hK
  case body =>
    rintro l pre x W ⟨⟨h0, h1, hF, hS, hfr⟩, hB⟩ hlen
    have hvW := (hv.below hB).more hB.size
    obtain ⟨⟨i, j⟩, hxi, hxj⟩ := x
    dsimp only at hxi hxj ⊢
    have hlt2 : pre.length ≤ 36 := by
      have : ns.length * Wd ≤ 6 * 6 := Nat.mul_le_mul h6 w6
      omega
    have hbd := accum_bd ns hf pre
    have hfx := hf i j hxi hxj
    have hsn := accum_snoc ns f_MomentSums_2 pre ⟨(i, j), hxi, hxj⟩
    dsimp only at hsn
    obtain ⟨S, eS⟩ : ∃ S, S = accum ns f_MomentSums_2 pre := ⟨_, rfl⟩
    rw [← eS] at hS hbd hsn
    have HSN := Lib.hid hsn
    clear hsn eS
    have hB36 : S ≤ 900 := by omega
    have HB36 := Lib.hid (And.intro hbd.1 hB36)
    obtain ⟨z, ez⟩ : ∃ z, z = f_MomentSums_2 i j := ⟨_, rfl⟩
    rw [← ez] at hfx
    have HZ := Lib.hid ez
    clear ez hbd hB36
    gi_wp2_with (refine ⟨trivial, ?_⟩; gi_at_call 35; refine (CallsIn.inRound l (callsIn_wide.2 (has_c (Wd : Int) _ ns i j hxi (by omega) (by have := hi.get64 i; omega) _ hvW))).mono ?_; rintro e W1 ⟨rfl, hb1⟩)
    · rename_i hc
      have h0' := cell_below hb1 h0
      have h1' := cell_below hb1 h1
      have hF' := cell_below hb1 hF
      have hS' := cell_below hb1 hS
      have hfr' := frozen_below hb1 hS hfr
      have kF := cell_regrown hF'
      have kS := cell_regrown hS'
      have hbd := HB36.out
      have ew : IntKind.i64.wrap (S + z) = S + z := IntWalk.i64_in _ ⟨by omega, by omega⟩
      have hcl : ∀ W, Calls Try.prog 20 #[.int .i64 i, .int .i64 j] W fun e w' => e = .returned (.int .i64 z) ∧ W = w' := fun W => by rw [HZ.out]; exact MomentSums_2_c i j (by omega) (by omega) W
      refine wpIn_region_below_tail 6 (by kernel_rfl) (by kernel_rfl) (by kernel_rfl) ?_
      simp only [List.take_succ_cons, List.take_zero, List.drop_succ_cons, List.drop_zero]
      repeat (first | go_big_quiet_step ((go_at_call 20; exact Calls.rgs (hcl _))) | quiet_step ((go_at_call 20; exact Calls.rgs (hcl _))))
      refine wpQuiet_nil ?_
      intro _ hw0
      obtain ⟨⟨dq, osq⟩, hw1⟩ := hw0
      subst hw1
      have hq := below_regrown W1 dq osq
      generalize Go.Sort.grow (redrawn W1 dq) osq = w2 at hq ⊢
      clear kF kS ew hcl
      have h0'' := cell_below hq h0'
      have h1'' := cell_below hq h1'
      have hF'' := cell_below hq hF'
      have hS'' := cell_below hq hS'
      have hfr'' := frozen_below hq hS' hfr'
      have hbW := hb1.trans (hq.mono hb1.size)
      have hnew := World.cell?_setCell_same' w2 ⟨w.heap.size + 1 + 1, 0, none⟩ (.int .i64 (S + z)) (by rw [hS'']; rfl)
      go_wp2
      refine ⟨rfl, (keeps_below hbW).trans (KeepsOthers.setCell _ _ _), (KpC.of_below hbW).t (fun v h => (World.cell?_setCell_other _ _ _ _ (by simp)).trans h), ⟨?_, ?_, ?_, ?_, ?_⟩, (hB.trans (hbW.mono hB.size)).setCell (by simp; omega) _⟩
      · exact (World.cell?_setCell_other _ _ _ _ (by simp)).trans h0''
      · exact (World.cell?_setCell_other _ _ _ _ (by simp)).trans h1''
      · exact (World.cell?_setCell_other _ _ _ _ (by simp)).trans hF''
      · rw [HSN.out, hc, ← HZ.out]
        simpa [b2i] using hnew
      · rw [World.frozen?_setCell]
        exact hfr''
    · rename_i hc
      refine ⟨keeps_below hb1, KpC.of_below hb1, ⟨cell_below hb1 h0, cell_below hb1 h1, cell_below hb1 hF, ?_, frozen_below hb1 hS hfr⟩, hB.trans (hb1.mono hB.size)⟩
      rw [HSN.out]
      rw [hc]
      simpa [b2i] using cell_below hb1 hS
  case done =>
    rintro D xs W hD hall ⟨⟨h0, h1, hF, hS, hfr⟩, hB⟩ hK
    gi_wp2
    refine ⟨by simp, .inl ⟨_, _, rfl, run_takeDeferred hK, ?_⟩⟩
    exact ⟨_, results_tmp rfl _ _ _, by rw [accum_all _ hall]; rfl, hB.trans (belowK_b (w := w) (Nat.le_refl _) W D _ _ (by omega) hK rfl rfl)⟩
  case stop =>
    rintro D c pre W _ _ h _
    exact h.elim
end Go.Proofs.Ytfkmkakdkocamaa
