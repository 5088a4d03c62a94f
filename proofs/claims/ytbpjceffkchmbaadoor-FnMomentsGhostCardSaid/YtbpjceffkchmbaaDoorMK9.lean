/- Contracts of moment, the sum of a value over the set cells. Conditions: the image is valid; the value is a function without captures whose contract is at hand. | Contracts of the moments of an image, valid or not: the sum of products, of squares, of places. Conditions: the slice reads as a list of integers. | Contracts of the moments as the specification counts them. Conditions: the slice reads as a list of integers. | Contracts of ones and ImageMany. Conditions: the row below 64; the slice reads as a list of integers. -/
import Derived.Test.YtbpjceffkchmbaaDoorK8
import Derived.Test.YtbpjceffkchmbaaDoorMT
section
namespace Go.Proofs.YtbpjceffkchmbaaDoor
open Go.RowKit Go.Shelf
attribute [local go_sem] Oper.semAt_some
/-- The sum so far. -/
def accum {h w : Nat} (ns : List Nat) (f : Nat → Nat → Int) (pre : List (Cell h w)) : Int := (pre.map fun x => f x.1.1 x.1.2 * b2i (cell ns x.1.1 x.1.2)).sum
theorem accum_snoc {h w : Nat} (ns : List Nat) (f : Nat → Nat → Int) (pre : List (Cell h w)) (x : Cell h w) : accum ns f (pre ++ [x]) = accum ns f pre + f x.1.1 x.1.2 * b2i (cell ns x.1.1 x.1.2) := by
  simp [accum, List.sum_append]
theorem sum_range (w : Nat) (g : Nat → Int) : ((List.range w).map g).sum = sumN w g := by
  induction w with
  | zero => rfl
  | succ w ih => rw [List.range_succ, List.map_append, List.sum_append, ih]; simp [sumN]
theorem sum_cells (h w : Nat) (g : Nat → Nat → Int) : ((cellsL h w).map fun p => g p.1 p.2).sum = sumN h fun i => sumN w fun j => g i j := by
  induction h with
  | zero => rfl
  | succ h ih =>
    rw [cellsL_succ, List.map_append, List.sum_append, ih, List.map_map]
    simp only [sumN]
    rw [← sum_range w fun j => g h j]
    rfl
theorem accum_all {w : Nat} {ns : List Nat} (f : Nat → Nat → Int) {xs : List (Cell ns.length w)} (h : xs.map (·.1) = cellsL ns.length w) : accum ns f xs = mom w ns f := by
  unfold mom
  rw [← sum_cells ns.length w fun i j => f i j * b2i (cell ns i j), ← h, List.map_map]
  rfl
theorem accum_bd {h w : Nat} (ns : List Nat) {f : Nat → Nat → Int} (hf : ∀ i j, i < h → j < w → 0 ≤ f i j ∧ f i j ≤ 25) (pre : List (Cell h w)) : 0 ≤ accum ns f pre ∧ accum ns f pre ≤ 25 * pre.length := by
  induction pre with
  | nil => simp [accum]
  | cons x pre ih =>
    have e : accum ns f (x :: pre) = f x.1.1 x.1.2 * b2i (cell ns x.1.1 x.1.2) + accum ns f pre := by simp [accum]
    have := hf x.1.1 x.1.2 x.2.1 x.2.2
    rw [e]
    cases cell ns x.1.1 x.1.2 <;> simp [b2i] <;> omega
theorem cell_lt_size {W : World} {p : Addr} {v : Value} (h : W.cell? p = some v) : p.block < W.heap.size := by
  refine Classical.byContradiction fun hn => ?_
  unfold World.cell? at h
  rw [Array.getElem?_eq_none (by omega)] at h
  cases h
theorem cell_below {W W1 : World} (hb : Below W.heap.size W W1) {p : Addr} {v : Value} (h : W.cell? p = some v) : W1.cell? p = some v := (hb.cell (cell_lt_size h)).trans h
theorem frozen_below {W W1 : World} (hb : Below W.heap.size W W1) {p : Addr} {v : Value} (h : W.cell? p = some v) {x : Bool} (hf : W.frozen? p = x) : W1.frozen? p = x := (hb.frozen (cell_lt_size h)).trans hf
theorem keeps_below {W W1 : World} (hb : Below W.heap.size W W1) : KeepsOthers W W1 := ⟨hb.size, fun k _ hk _ => (hb.block k (Array.getElem?_eq_some_iff.1 hk).1).trans hk⟩
theorem KpC.of_below {Bn : Nat} {W W1 : World} (hb : Below W.heap.size W W1) : KpC Bn W W1 := fun _ hv => cell_below hb hv
def f_MomentCross_1 (i j : Nat) : Int := (i : Int) * j
def f_MomentSquares_1 (i _j : Nat) : Int := (i : Int) * i
def f_MomentSquares_2 (_i j : Nat) : Int := (j : Int) * j
def f_MomentSums_1 (i _j : Nat) : Int := (i : Int)
def f_MomentSums_2 (_i j : Nat) : Int := (j : Int)
theorem mul_bd {i j : Nat} (hi : i < 6) (hj : j < 6) : 0 ≤ (i : Int) * j ∧ (i : Int) * j ≤ 25 := by
  have h : i * j ≤ 5 * 5 := Nat.mul_le_mul (by omega) (by omega)
  have e : (i : Int) * j = ((i * j : Nat) : Int) := by simp
  rw [e]
  omega
theorem bd_MomentCross_1 (i j : Nat) (hi : i < 6) (hj : j < 6) : 0 ≤ f_MomentCross_1 i j ∧ f_MomentCross_1 i j ≤ 25 := by
  have h1 := hi
  have h2 := hj
  unfold f_MomentCross_1
  first
    | exact mul_bd hi hj
    | exact mul_bd hi hi
    | exact mul_bd hj hj
    | omega
theorem MomentCross_1_c (i j : Nat) (hi : i < 6) (hj : j < 6) (w : World) : Calls Tryd.prog 46 #[.int .i64 i, .int .i64 j] w fun e w' => e = .returned (.int .i64 (f_MomentCross_1 i j)) ∧ w = w' := by
  have h1 := mul_bd hi hj
  have h2 := mul_bd hi hi
  have h3 := mul_bd hj hj
  go_enter Tryd.func46, Tryd.ntmps46
  go_wp2
  go_returns
  exact ⟨ri (by unfold f_MomentCross_1; first | rfl | exact IntWalk.i64_in _ ⟨by omega, by omega⟩), rfl⟩
set_option maxRecDepth 100000 in
set_option maxHeartbeats 2000000 in
theorem moment_MomentCross_1 (Wd : Nat) (v : Value) (ns : List Nat) (hi : VImg Wd ns) (w : World) (hv : Ints w.heap.size w v (casts ns)) :
    Calls Tryd.prog 26 #[.agg #[.int .i64 (Wd : Int), v], .func (.func 46) #[] #[]] w fun e w' => e = .returned (.int .i64 (mom Wd ns f_MomentCross_1)) ∧ Below w.heap.size w w' := by
  have hf : ∀ i j, i < ns.length → j < Wd → 0 ≤ f_MomentCross_1 i j ∧ f_MomentCross_1 i j ≤ 25 := fun i j h1 h2 => bd_MomentCross_1 i j (by have := hi.h6; omega) (by have := hi.w6; omega)
  obtain ⟨A, cap, rfl⟩ := hv.len
  rw [length_casts] at hv ⊢
  have h6 := hi.h6
  have w6 := hi.w6
  refine (callsIn_wide (n := 3)).1 ?_
  refine callsIn_of_wp_marks Tryd.func26 rfl trivial ?_ rfl
  simp only [Tryd.ntmps26, List.size_toArray, List.length_cons, List.length_nil, Nat.reduceAdd, Nat.reduceSub, Array.replicate_succ, Array.replicate_zero, List.push_toArray, List.append_toArray, List.nil_append, List.cons_append]
  gi_wp2_with (refine ⟨trivial, ?_⟩; gi_at_call 54; refine (callsIn_wide.2 (cells_c _ _ _)).mono ?_; rintro e w' ⟨rfl, rfl⟩)
  obtain ⟨W0, eW⟩ : ∃ W0, W0 = ((((w.alloc (.cells #[.int .i64 (Wd : Int), .slice A ns.length cap] 25)).alloc (.cells #[.func (.func 46) #[] #[]] 51)).alloc (.cells #[.int .i64 0] 3)).alloc (.cells #[.int .i64 (Wd : Int), .slice A ns.length cap] 25)) := ⟨_, rfl⟩
  have g0 : W0.heap.size = w.heap.size + 4 := by rw [eW]; simp
  have a0 : W0.cell? ⟨w.heap.size, 0, none⟩ = some (.int .i64 (Wd : Int)) := by rw [eW]; go_cell
  have a1 : W0.cell? ⟨w.heap.size, 1, none⟩ = some (.slice A ns.length cap) := by rw [eW]; go_cell
  have aF : W0.cell? ⟨w.heap.size + 1, 0, none⟩ = some (.func (.func 46) #[] #[]) := by rw [eW]; go_cell
  have aS : W0.cell? ⟨w.heap.size + 1 + 1, 0, none⟩ = some (.int .i64 0) := by rw [eW]; go_cell
  have af : W0.frozen? ⟨w.heap.size + 1 + 1, 0, none⟩ = false := by rw [eW]; go_cell
  have b0 : W0.cell? ⟨w.heap.size + 1 + 1 + 1, 0, none⟩ = some (.int .i64 (Wd : Int)) := by rw [eW]; go_cell
  have b1 : W0.cell? ⟨w.heap.size + 1 + 1 + 1, 1, none⟩ = some (.slice A ns.length cap) := by rw [eW]; go_cell
  have hB0 : Below w.heap.size w W0 := by rw [eW]; go_grown
  rw [← eW]
  clear eW
  refine wpIn_rangeFunc_ownF (F := Fence.wide) rfl (by omega) (gf := 79) (lb := #[.pointer (some ⟨w.heap.size + 1 + 1 + 1, 0, none⟩)]) rfl trivial (enters_of Tryd.func79 (by kernel_rfl) rfl)
    (cells_stops 2 (w.heap.size + 1 + 1 + 1) ns.length Wd cap A h6 w6 W0 b0 b1 (by omega)) (fun h k => KpC.t h k) (fun W l o o' _ h hc _ => KpC.b W l o o' h hc) (Below.refl _ _) (fun _ => rfl)
    (fun pre W => (W.cell? ⟨w.heap.size, 0, none⟩ = some (.int .i64 (Wd : Int)) ∧ W.cell? ⟨w.heap.size, 1, none⟩ = some (.slice A ns.length cap) ∧ W.cell? ⟨w.heap.size + 1, 0, none⟩ = some (.func (.func 46) #[] #[]) ∧ W.cell? ⟨w.heap.size + 1 + 1, 0, none⟩ = some (.int .i64 (accum ns f_MomentCross_1 pre)) ∧ W.frozen? ⟨w.heap.size + 1 + 1, 0, none⟩ = false) ∧ Below w.heap.size w W)
    (fun _ _ _ => False)
    (OwnFrom.and (Own.from (fun s A B row hs hg hr => ⟨cell_kept hs.1 hg hr, cell_kept hs.2.1 hg hr, cell_kept hs.2.2.1 hg hr, cell_kept hs.2.2.2.1 hg hr, (frozen_kept hs.2.2.2.1 hg hr).trans hs.2.2.2.2⟩) _) (ownFrom_below (Nat.le_refl _) (by omega)))
    (fun _ _ _ _ _ hs _ _ => hs)
    ⟨⟨a0, a1, aF, aS, af⟩, hB0⟩
    (fun x => { tmps := #[.agg #[.int .i64 (Wd : Int), .slice A ns.length cap], .func (.func 46) #[] #[], .pointer (some ⟨w.heap.size, 0, none⟩), .pointer (some ⟨w.heap.size + 1, 0, none⟩), .int .i64 0, .pointer (some ⟨w.heap.size + 1 + 1, 0, none⟩), .int .i64 (x.1.1 : Int), .int .i64 (x.1.2 : Int), .agg #[.int .i64 (Wd : Int), .slice A ns.length cap], .func (.func 79) #[] #[.pointer (some ⟨w.heap.size + 1 + 1 + 1, 0, none⟩)], .int .i64 (x.1.1 : Int), .int .i64 (x.1.2 : Int), undef, undef, undef, undef, undef, undef, undef, undef, undef, undef, undef], defers := [] }) ?assign ?body ?done ?stop
  case assign =>
    intro l x W K hK
    dsimp only [encC]
    gi_wp2
    exact hK
  case body =>
    rintro l pre x W ⟨⟨h0, h1, hF, hS, hfr⟩, hB⟩ hlen
    have hvW := (hv.below hB).more hB.size
    obtain ⟨⟨i, j⟩, hxi, hxj⟩ := x
    dsimp only at hxi hxj ⊢
    have hlt2 : pre.length ≤ 36 := by
      have : ns.length * Wd ≤ 6 * 6 := Nat.mul_le_mul h6 w6
      omega
    have hbd := accum_bd ns hf pre
    have hfx := hf i j hxi hxj
    have hsn := accum_snoc ns f_MomentCross_1 pre ⟨(i, j), hxi, hxj⟩
    dsimp only at hsn
    obtain ⟨S, eS⟩ : ∃ S, S = accum ns f_MomentCross_1 pre := ⟨_, rfl⟩
    rw [← eS] at hS hbd hsn
    have HSN := Lib.hid hsn
    clear hsn eS
    have hB36 : S ≤ 900 := by omega
    have HB36 := Lib.hid (And.intro hbd.1 hB36)
    obtain ⟨z, ez⟩ : ∃ z, z = f_MomentCross_1 i j := ⟨_, rfl⟩
    rw [← ez] at hfx
    have HZ := Lib.hid ez
    clear ez hbd hB36
    gi_wp2_with (refine ⟨trivial, ?_⟩; gi_at_call 55; refine (CallsIn.inRound l (callsIn_wide.2 (has_c (Wd : Int) _ ns i j hxi (by omega) (by have := hi.get64 i; omega) _ hvW))).mono ?_; rintro e W1 ⟨rfl, hb1⟩)
    · rename_i hc
      have h0' := cell_below hb1 h0
      have h1' := cell_below hb1 h1
      have hF' := cell_below hb1 hF
      have hS' := cell_below hb1 hS
      have hfr' := frozen_below hb1 hS hfr
      have kF := cell_regrown hF'
      have kS := cell_regrown hS'
      have hbd := HB36.out
      have ew : IntKind.i64.wrap (S + z) = S + z := IntWalk.i64_in _ ⟨by omega, by omega⟩
      have hcl : ∀ W, Calls Tryd.prog 46 #[.int .i64 i, .int .i64 j] W fun e w' => e = .returned (.int .i64 z) ∧ W = w' := fun W => by rw [HZ.out]; exact MomentCross_1_c i j (by omega) (by omega) W
      refine wpIn_region_below_tail 6 (by kernel_rfl) (by kernel_rfl) (by kernel_rfl) ?_
      simp only [List.take_succ_cons, List.take_zero, List.drop_succ_cons, List.drop_zero]
      repeat (first | go_big_quiet_step ((go_at_call 46; exact Calls.rgs (hcl _))) | quiet_step ((go_at_call 46; exact Calls.rgs (hcl _))))
      refine wpQuiet_nil ?_
      intro _ hw0
      obtain ⟨⟨dq, osq⟩, hw1⟩ := hw0
      subst hw1
      have hq := below_regrown W1 dq osq
      generalize Go.Sort.grow (redrawn W1 dq) osq = w2 at hq ⊢
      clear kF kS ew hcl
      have h0'' := cell_below hq h0'
      have h1'' := cell_below hq h1'
      have hF'' := cell_below hq hF'
      have hS'' := cell_below hq hS'
      have hfr'' := frozen_below hq hS' hfr'
      have hbW := hb1.trans (hq.mono hb1.size)
      have hnew := World.cell?_setCell_same' w2 ⟨w.heap.size + 1 + 1, 0, none⟩ (.int .i64 (S + z)) (by rw [hS'']; rfl)
      go_wp2
      refine ⟨rfl, (keeps_below hbW).trans (KeepsOthers.setCell _ _ _), (KpC.of_below hbW).t (fun v h => (World.cell?_setCell_other _ _ _ _ (by simp)).trans h), ⟨?_, ?_, ?_, ?_, ?_⟩, (hB.trans (hbW.mono hB.size)).setCell (by simp; omega) _⟩
      · exact (World.cell?_setCell_other _ _ _ _ (by simp)).trans h0''
      · exact (World.cell?_setCell_other _ _ _ _ (by simp)).trans h1''
      · exact (World.cell?_setCell_other _ _ _ _ (by simp)).trans hF''
      · rw [HSN.out, hc, ← HZ.out]
        simpa [b2i] using hnew
      · rw [World.frozen?_setCell]
        exact hfr''
    · rename_i hc
      refine ⟨keeps_below hb1, KpC.of_below hb1, ⟨cell_below hb1 h0, cell_below hb1 h1, cell_below hb1 hF, ?_, frozen_below hb1 hS hfr⟩, hB.trans (hb1.mono hB.size)⟩
      rw [HSN.out]
      rw [hc]
      simpa [b2i] using cell_below hb1 hS
  case done =>
    rintro D xs W hD hall ⟨⟨h0, h1, hF, hS, hfr⟩, hB⟩ hK
    gi_wp2
    refine ⟨by simp, .inl ⟨_, _, rfl, run_takeDeferred hK, ?_⟩⟩
    exact ⟨_, results_tmp rfl _ _ _, by rw [accum_all _ hall]; rfl, hB.trans (belowK_b (w := w) (Nat.le_refl _) W D _ _ (by omega) hK rfl rfl)⟩
  case stop =>
    rintro D c pre W _ _ h _
    exact h.elim
end Go.Proofs.YtbpjceffkchmbaaDoor
end

section
namespace Go.Proofs.YtbpjceffkchmbaaDoor
open Go.RowKit
theorem casts_toNat (ns : List Nat) : (casts ns).map Int.toNat = ns := by
  rw [casts, List.map_map]
  have : (Int.toNat ∘ fun n : Nat => (n : Int)) = id := by funext n; simp
  rw [this, List.map_id]
/-- The moment of an image of whatever numbers. -/
def mo (f : Nat → Nat → Int) (W : Int) (rows : List Int) : Int := mom W.toNat (rows.map Int.toNat) f
theorem mo_casts (f : Nat → Nat → Int) (w : Nat) (ns : List Nat) : mo f (w : Int) (casts ns) = mom w ns f := by
  unfold mo
  rw [casts_toNat]
  simp
/-- The moment of a valid image, d of another. -/
def val0 (d : Int) (f : Nat → Nat → Int) (W : Int) (rows : List Int) : Int := if validB W rows then mo f W rows else d
theorem val0_no {d : Int} {f : Nat → Nat → Int} {W : Int} {rows : List Int} (h : validB W rows = false) : val0 d f W rows = d := by unfold val0; rw [h]; rfl
theorem val0_yes {d : Int} {f : Nat → Nat → Int} {w : Nat} {ns : List Nat} (h : VImg w ns) : val0 d f (w : Int) (casts ns) = mom w ns f := by unfold val0; rw [validB_of h, mo_casts]; rfl
theorem rt3 {a b a' b' : Int} {c c' : Bool} (h1 : a = a') (h2 : b = b') (h3 : c = c') : Ending.returned (.tuple #[.int .i64 a, .int .i64 b, .bool c]) = .returned (.tuple #[.int .i64 a', .int .i64 b', .bool c']) := by rw [h1, h2, h3]
set_option maxHeartbeats 1000000 in
theorem MomentCross_c (W : Int) (v : Value) (rows : List Int) (w : World) (hv : Ints w.heap.size w v rows) :
    Calls Tryd.prog 16 #[.agg #[.int .i64 W, v]] w fun e w' => e = .returned (.int .i64 (val0 (-1) f_MomentCross_1 W rows)) ∧ Below w.heap.size w w' := by
  obtain ⟨A, cap, rfl⟩ := hv.len
  go_enter Tryd.func16, Tryd.ntmps16
  go_wp2_with fail
  refine (ImageValid_c W _ rows _ (hv.alloc (Nat.le_refl _) _ |>.more (by simp))).mono ?_
  rintro e w1 ⟨rfl, hb⟩
  have hB : Below w.heap.size w w1 := ((Below.refl w.heap.size w).alloc (Nat.le_refl _) _).trans (hb.mono (by simp))
  obtain ⟨_, h0, h1⟩ := (Box2.new w (.int .i64 W) (.slice A rows.length cap) 25).below hb (by simp)
  have hv1 := (hv.below hB).more hB.size
  cases hval : validB W rows with
  | false =>
    go_wp2
    go_returns
    exact ⟨ri (val0_no hval).symm, hB⟩
  | true =>
    obtain ⟨wd, ns, rfl, rfl, hi⟩ := validB_yes hval
    go_wp2_with fail
    refine (moment_MomentCross_1 wd _ ns hi _ hv1).mono ?_
    rintro e w2 ⟨rfl, hb2⟩
    go_wp2
    go_returns
    exact ⟨ri (val0_yes hi).symm, hB.trans (hb2.mono hB.size)⟩
end Go.Proofs.YtbpjceffkchmbaaDoor
end

section
namespace Go.Proofs.YtbpjceffkchmbaaDoor
open Go.RowKit
/-- The sum over k full rows and m cells of the next. -/
def part (ns : List Nat) (w : Nat) (f : Nat → Nat → Int) (k m : Nat) : Int := sumN k (fun i => sumN w fun j => f i j * b2i (cell ns i j)) + sumN m fun j => f k j * b2i (cell ns k j)
theorem part_step (ns : List Nat) (w : Nat) (f : Nat → Nat → Int) (k m : Nat) : part ns w f k (m + 1) = part ns w f k m + f k m * b2i (cell ns k m) := by
  simp only [part, sumN]; omega
theorem part_row (ns : List Nat) (w : Nat) (f : Nat → Nat → Int) (k : Nat) : part ns w f (k + 1) 0 = part ns w f k w := by simp only [part, sumN]; omega
theorem part_all (ns : List Nat) (w : Nat) (f : Nat → Nat → Int) : part ns w f ns.length 0 = mom w ns f := by simp [part, mom, sumN]
theorem part_bd {ns : List Nat} {w : Nat} {f : Nat → Nat → Int} (hf : ∀ i j, i < 6 → j < 6 → 0 ≤ f i j ∧ f i j ≤ 25) {k m : Nat} (hk : k ≤ 6) (hw : w ≤ 6) (hm : m ≤ w) (hkm : k < 6 ∨ m = 0) : 0 ≤ part ns w f k m ∧ part ns w f k m ≤ 1050 := by
  have hb : ∀ i j, i < 6 → j < 6 → 0 ≤ f i j * b2i (cell ns i j) ∧ f i j * b2i (cell ns i j) ≤ 25 := by
    intro i j hi hj
    have := hf i j hi hj
    cases cell ns i j <;> simp [b2i] <;> omega
  have h1 : ∀ i, i < k → 0 ≤ (sumN w fun j => f i j * b2i (cell ns i j)) ∧ (sumN w fun j => f i j * b2i (cell ns i j)) ≤ 150 := by
    intro i hi
    have := sumN_bd (n := w) (f := fun j => f i j * b2i (cell ns i j)) (c := 25) fun j hj => hb i j (by omega) (by omega)
    omega
  have h2 := sumN_bd (n := k) (f := fun i => sumN w fun j => f i j * b2i (cell ns i j)) (c := 150) h1
  have h3 : 0 ≤ (sumN m fun j => f k j * b2i (cell ns k j)) ∧ (sumN m fun j => f k j * b2i (cell ns k j)) ≤ 150 := by
    rcases hkm with hkm | rfl
    · have := sumN_bd (n := m) (f := fun j => f k j * b2i (cell ns k j)) (c := 25) fun j hj => hb k j hkm (by omega)
      omega
    · simp [sumN]
  unfold part
  omega
theorem prod_bd {p : Int} (c : Bool) (h : 0 ≤ p ∧ p ≤ 25) : 0 ≤ p * b2i c ∧ p * b2i c ≤ 25 := by cases c <;> simp [b2i] <;> omega
set_option maxHeartbeats 1000000 in
theorem sMomentCross_c (W : Int) (v : Value) (rows : List Int) (w : World) (hv : Ints w.heap.size w v rows) :
    Calls Tryd.prog 18 #[.agg #[.int .i64 W, v]] w fun e w' => e = .returned (.int .i64 (val0 (-1) f_MomentCross_1 W rows)) ∧ Below w.heap.size w w' := by
  obtain ⟨A, cap, rfl⟩ := hv.len
  go_enter Tryd.func18, Tryd.ntmps18
  go_wp2_with fail
  refine (sImageValid_c W _ rows _ (hv.alloc (Nat.le_refl _) _ |>.more (by simp))).mono ?_
  rintro e w1 ⟨rfl, hb⟩
  have hB : Below w.heap.size w w1 := ((Below.refl w.heap.size w).alloc (Nat.le_refl _) _).trans (hb.mono (by simp))
  have hbx := (Box2.new w (.int .i64 W) (.slice A rows.length cap) 25).below hb (by simp)
  cases hval : validB W rows with
  | false =>
    go_wp2
    go_returns
    exact ⟨ri (val0_no hval).symm, hB⟩
  | true =>
    obtain ⟨wd, ns, rfl, rfl, hi⟩ := validB_yes hval
    have h6 := hi.h6
    have w6 := hi.w6
    have hval0 := val0_yes (d := -1) (f := f_MomentCross_1) hi
    have HVAL := Lib.hid hval0
    have hv1 := (hv.below hB).more hB.size
    rw [length_casts] at hbx
    rw [length_casts] at hv1 ⊢
    clear hval hval0 hb hv
    have hB1 : Below w1.heap.size w1 w1 := Below.refl _ _
    obtain ⟨hlt, h0, h1⟩ := hbx
    go_wp2
    go_loopw [3, 4] (fun s i wr => ∃ k : Nat, k ≤ ns.length ∧ i = .int .i64 k ∧ s = .int .i64 (part ns wd f_MomentCross_1 k 0) ∧ Below w1.heap.size w1 wr) (fun _ i _ => ns.length - (intOf i).toNat)
    case atStart => exact ⟨0, by omega, rfl, by simp [part, sumN], hB1⟩
    case round =>
      obtain ⟨k, hk, rfl, rfl, hBk⟩ := hrel
      have g0 := cell_below hBk h0
      have g1 := cell_below hBk h1
      obtain ⟨S0, eS0⟩ : ∃ S, S = part ns wd f_MomentCross_1 k 0 := ⟨_, rfl⟩
      rw [← eS0]
      have HS0 := Lib.hid eS0
      clear eS0
      by_cases hlt' : k < ns.length
      · go_wp2
        go_loopw [3, 5] (fun s j ws => ∃ m : Nat, m ≤ wd ∧ j = .int .i64 m ∧ s = .int .i64 (part ns wd f_MomentCross_1 k m) ∧ Below w1.heap.size w1 ws) (fun _ j _ => wd - (intOf j).toNat)
        case atStart => exact ⟨0, by omega, rfl, by rw [HS0.out], hBk⟩
        case round =>
          obtain ⟨m, hm, rfl, rfl, hBm⟩ := hrel
          have e0 := cell_below hBm h0
          have e1 := cell_below hBm h1
          have hbd := part_bd (ns := ns) (w := wd) bd_MomentCross_1 (k := k) (m := m) (by omega) w6 hm (.inl (by omega))
          have hst := part_step ns wd f_MomentCross_1 k m
          have hst' := part_row ns wd f_MomentCross_1 k
          obtain ⟨S, eS⟩ : ∃ S, S = part ns wd f_MomentCross_1 k m := ⟨_, rfl⟩
          rw [← eS] at hbd hst ⊢
          have HSS := Lib.hid eS
          have HST := Lib.hid hst
          have HSR := Lib.hid hst'
          clear eS hst hst' g0 g1
          by_cases hmt : m < wd
          · have hvm := (hv1.below hBm).more hBm.size
            have hf := bd_MomentCross_1 k m (by omega) (by omega)
            have hq := prod_bd (cell ns k m) hf
            have hfv : f_MomentCross_1 k m = (k : Int) * m := rfl
            rw [hfv] at hf hq
            obtain ⟨x, ex⟩ : ∃ x, x = b2i (cell ns k m) := ⟨_, rfl⟩
            have hst := HST.out
            rw [← ex] at hq hst
            rw [hfv] at hst
            have HST := Lib.hid hst
            clear hst
            have hbS := hbd
            have ew1 : IntKind.i64.wrap ((k : Int) * m) = (k : Int) * m := IntWalk.i64_in _ ⟨by omega, by omega⟩
            have ew2 : IntKind.i64.wrap ((k : Int) * m * x) = (k : Int) * m * x := IntWalk.i64_in _ ⟨by omega, by omega⟩
            have ew3 : IntKind.i64.wrap (S + (k : Int) * m * x) = S + (k : Int) * m * x := IntWalk.i64_in _ ⟨by omega, by omega⟩
            have HX := Lib.hid ex
            clear ex hf hq hfv
            go_wp2_with fail
            refine (l11Get_c (wd : Int) _ ns k m hlt' (by omega) (by have := hi.get64 k; omega) _ hvm).mono ?_
            rintro e w3 ⟨rfl, hb3⟩
            rw [← HX.out]
            go_wp2
            go_roundw
            case rel => exact ⟨m + 1, by omega, by go_num, by rw [HST.out], hBm.trans (hb3.mono hBm.size)⟩
            case measure => simp [intOf]; omega
          · obtain rfl : m = wd := by omega
            go_wp2
            go_roundw
            case rel => exact ⟨k + 1, by omega, by go_num, by rw [HSR.out, HSS.out], hBm⟩
            case measure => simp [intOf]; omega
      · go_wp2
        go_returns
        obtain rfl : k = ns.length := by omega
        exact ⟨ri (by rw [HVAL.out, HS0.out, part_all]), hB.trans (hBk.mono hB.size)⟩
end Go.Proofs.YtbpjceffkchmbaaDoor
end

section
namespace Go.Proofs.YtbpjceffkchmbaaDoor
open Go.RowKit
theorem OnesCount_c (r : Nat) (hr : r < 64) (w : World) : Calls Tryd.prog 76 #[.int .u64 (r : Int)] w fun e w' => e = .returned (.int .i64 (pop 6 r)) ∧ w = w' := by
  go_enter Tryd.func76, Tryd.ntmps76
  go_wp2_with fail
  refine (OnesCount64_c r hr w).mono ?_
  rintro e w' ⟨rfl, rfl⟩
  go_wp2
  go_returns
  exact ⟨rfl, rfl⟩
theorem ones_c (r : Nat) (hr : r < 64) (w : World) : Calls Tryd.prog 51 #[.int .i64 (r : Int)] w fun e w' => e = .returned (.int .i64 (pop 6 r)) ∧ w = w' := by
  have ew : IntKind.u64.wrap (r : Int) = r := by simp only [IntKind.wrap_u64]; omega
  go_enter Tryd.func51, Tryd.ntmps51
  go_wp2_with fail
  refine (OnesCount_c r hr w).mono ?_
  rintro e w' ⟨rfl, rfl⟩
  go_wp2
  go_returns
  exact ⟨rfl, rfl⟩
def one (_i _j : Nat) : Int := 1
theorem one_bd (i j : Nat) (_hi : i < 6) (_hj : j < 6) : 0 ≤ one i j ∧ one i j ≤ 25 := by unfold one; omega
theorem one_step (ns : List Nat) (w : Nat) (k : Nat) : part ns w one (k + 1) 0 = part ns w one k 0 + pop w (ns.getD k 0) := by
  simp only [part, sumN, pop, one, Int.one_mul, cell]
  omega
end Go.Proofs.YtbpjceffkchmbaaDoor
end
