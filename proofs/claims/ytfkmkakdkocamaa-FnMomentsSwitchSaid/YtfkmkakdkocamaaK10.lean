/- Contracts of the moments of an image, valid or not: the sum of products, of squares, of places. Conditions: the slice reads as a list of integers. -/
import Derived.Test.YtfkmkakdkocamaaK9
namespace Go.Proofs.Ytfkmkakdkocamaa
open Go.RowKit
theorem casts_toNat (ns : List Nat) : (casts ns).map Int.toNat = ns := by
  rw [casts, List.map_map]
  have : (Int.toNat ∘ fun n : Nat => (n : Int)) = id := by funext n; simp
  rw [this, List.map_id]
/-- The moment of an image of whatever numbers. -/
def mo (f : Nat → Nat → Int) (W : Int) (rows : List Int) : Int := mom W.toNat (rows.map Int.toNat) f
theorem mo_casts (f : Nat → Nat → Int) (w : Nat) (ns : List Nat) : mo f (w : Int) (casts ns) = mom w ns f := by
  unfold mo
  rw [casts_toNat]
  simp
/-- The moment of a valid image, d of another. -/
def val0 (d : Int) (f : Nat → Nat → Int) (W : Int) (rows : List Int) : Int := if validB W rows then mo f W rows else d
theorem val0_no {d : Int} {f : Nat → Nat → Int} {W : Int} {rows : List Int} (h : validB W rows = false) : val0 d f W rows = d := by unfold val0; rw [h]; rfl
theorem val0_yes {d : Int} {f : Nat → Nat → Int} {w : Nat} {ns : List Nat} (h : VImg w ns) : val0 d f (w : Int) (casts ns) = mom w ns f := by unfold val0; rw [validB_of h, mo_casts]; rfl
theorem rt3 {a b a' b' : Int} {c c' : Bool} (h1 : a = a') (h2 : b = b') (h3 : c = c') : Ending.returned (.tuple #[.int .i64 a, .int .i64 b, .bool c]) = .returned (.tuple #[.int .i64 a', .int .i64 b', .bool c']) := by rw [h1, h2, h3]
set_option maxHeartbeats 1000000 in
theorem MomentCross_c (W : Int) (v : Value) (rows : List Int) (w : World) (hv : Ints w.heap.size w v rows) :
    Calls Try.prog 10 #[.agg #[.int .i64 W, v]] w fun e w' => e = .returned (.int .i64 (val0 (-1) f_MomentCross_1 W rows)) ∧ Below w.heap.size w w' := by
  obtain ⟨A, cap, rfl⟩ := hv.len
  go_enter Try.func10, Try.ntmps10
  go_wp2_with fail
  refine (ImageValid_c W _ rows _ (hv.alloc (Nat.le_refl _) _ |>.more (by simp))).mono ?_
  rintro e w1 ⟨rfl, hb⟩
  have hB : Below w.heap.size w w1 := ((Below.refl w.heap.size w).alloc (Nat.le_refl _) _).trans (hb.mono (by simp))
  obtain ⟨_, h0, h1⟩ := (Box2.new w (.int .i64 W) (.slice A rows.length cap) 25).below hb (by simp)
  have hv1 := (hv.below hB).more hB.size
  cases hval : validB W rows with
  | false =>
    go_wp2
    go_returns
    exact ⟨ri (val0_no hval).symm, hB⟩
  | true =>
    obtain ⟨wd, ns, rfl, rfl, hi⟩ := validB_yes hval
    go_wp2_with fail
    refine (moment_MomentCross_1 wd _ ns hi _ hv1).mono ?_
    rintro e w2 ⟨rfl, hb2⟩
    go_wp2
    go_returns
    exact ⟨ri (val0_yes hi).symm, hB.trans (hb2.mono hB.size)⟩
set_option maxHeartbeats 1000000 in
theorem MomentSums_c (W : Int) (v : Value) (rows : List Int) (w : World) (hv : Ints w.heap.size w v rows) :
    Calls Try.prog 8 #[.agg #[.int .i64 W, v]] w fun e w' => e = .returned (.tuple #[.int .i64 (val0 0 f_MomentSums_1 W rows), .int .i64 (val0 0 f_MomentSums_2 W rows), .bool (validB W rows)]) ∧ Below w.heap.size w w' := by
  obtain ⟨A, cap, rfl⟩ := hv.len
  go_enter Try.func8, Try.ntmps8
  go_wp2_with fail
  refine (ImageValid_c W _ rows _ (hv.alloc (Nat.le_refl _) _ |>.more (by simp))).mono ?_
  rintro e w1 ⟨rfl, hb⟩
  have hB : Below w.heap.size w w1 := ((Below.refl w.heap.size w).alloc (Nat.le_refl _) _).trans (hb.mono (by simp))
  obtain ⟨_, h0, h1⟩ := (Box2.new w (.int .i64 W) (.slice A rows.length cap) 25).below hb (by simp)
  have hv1 := (hv.below hB).more hB.size
  cases hval : validB W rows with
  | false =>
    go_wp2
    go_returns
    exact ⟨rt3 (val0_no hval).symm (val0_no hval).symm hval.symm, hB⟩
  | true =>
    obtain ⟨wd, ns, rfl, rfl, hi⟩ := validB_yes hval
    have k0 := cell_regrown h0
    have k1 := cell_regrown h1
    have HA := fun d os => moment_MomentSums_1 wd _ ns hi _ ((hv1.rg (Nat.le_refl _) d os).more (rg_size _ d os))
    have HB := fun d os => moment_MomentSums_2 wd _ ns hi _ ((hv1.rg (Nat.le_refl _) d os).more (rg_size _ d os))
    go_wp2_with fail
    refine wp_region_below_tail 4 (by kernel_rfl) (by kernel_rfl) ?_
    simp only [List.take_succ_cons, List.take_zero, List.drop_succ_cons, List.drop_zero]
    repeat (first | go_big_quiet_step ((go_at_call 18; first | with_reducible exact Calls.rg (HA _ _) | with_reducible exact Calls.rg (HB _ _))) | quiet_step ((go_at_call 18; first | with_reducible exact Calls.rg (HA _ _) | with_reducible exact Calls.rg (HB _ _))))
    refine wpQuiet_nil ?_
    intro _ hw0
    obtain ⟨⟨dq, osq⟩, hw1⟩ := hw0
    subst hw1
    have hq := below_regrown w1 dq osq
    generalize Go.Sort.grow (redrawn w1 dq) osq = w2 at hq ⊢
    go_wp2
    go_returns
    exact ⟨rt3 (val0_yes hi).symm (val0_yes hi).symm hval.symm, hB.trans (hq.mono hB.size)⟩
set_option maxHeartbeats 1000000 in
theorem MomentSquares_c (W : Int) (v : Value) (rows : List Int) (w : World) (hv : Ints w.heap.size w v rows) :
    Calls Try.prog 9 #[.agg #[.int .i64 W, v]] w fun e w' => e = .returned (.tuple #[.int .i64 (val0 0 f_MomentSquares_1 W rows), .int .i64 (val0 0 f_MomentSquares_2 W rows), .bool (validB W rows)]) ∧ Below w.heap.size w w' := by
  obtain ⟨A, cap, rfl⟩ := hv.len
  go_enter Try.func9, Try.ntmps9
  go_wp2_with fail
  refine (ImageValid_c W _ rows _ (hv.alloc (Nat.le_refl _) _ |>.more (by simp))).mono ?_
  rintro e w1 ⟨rfl, hb⟩
  have hB : Below w.heap.size w w1 := ((Below.refl w.heap.size w).alloc (Nat.le_refl _) _).trans (hb.mono (by simp))
  obtain ⟨_, h0, h1⟩ := (Box2.new w (.int .i64 W) (.slice A rows.length cap) 25).below hb (by simp)
  have hv1 := (hv.below hB).more hB.size
  cases hval : validB W rows with
  | false =>
    go_wp2
    go_returns
    exact ⟨rt3 (val0_no hval).symm (val0_no hval).symm hval.symm, hB⟩
  | true =>
    obtain ⟨wd, ns, rfl, rfl, hi⟩ := validB_yes hval
    have k0 := cell_regrown h0
    have k1 := cell_regrown h1
    have HA := fun d os => moment_MomentSquares_1 wd _ ns hi _ ((hv1.rg (Nat.le_refl _) d os).more (rg_size _ d os))
    have HB := fun d os => moment_MomentSquares_2 wd _ ns hi _ ((hv1.rg (Nat.le_refl _) d os).more (rg_size _ d os))
    go_wp2_with fail
    refine wp_region_below_tail 4 (by kernel_rfl) (by kernel_rfl) ?_
    simp only [List.take_succ_cons, List.take_zero, List.drop_succ_cons, List.drop_zero]
    repeat (first | go_big_quiet_step ((go_at_call 18; first | with_reducible exact Calls.rg (HA _ _) | with_reducible exact Calls.rg (HB _ _))) | quiet_step ((go_at_call 18; first | with_reducible exact Calls.rg (HA _ _) | with_reducible exact Calls.rg (HB _ _))))
    refine wpQuiet_nil ?_
    intro _ hw0
    obtain ⟨⟨dq, osq⟩, hw1⟩ := hw0
    subst hw1
    have hq := below_regrown w1 dq osq
    generalize Go.Sort.grow (redrawn w1 dq) osq = w2 at hq ⊢
    go_wp2
    go_returns
    exact ⟨rt3 (val0_yes hi).symm (val0_yes hi).symm hval.symm, hB.trans (hq.mono hB.size)⟩
end Go.Proofs.Ytfkmkakdkocamaa
