/- The exact laws of holes: implementation and specification agree at whatever image, and the image stays as it was. Conditions: the slice reads as a list of integers of length at most maxLen. -/
import Derived.Test.YtbblbdacdpokeaaPH2
import Derived.Test.YtbblbdacdpokeaaK7
import Derived.Test.YtbblbdacdpokeaaK6
namespace Go.Proofs.Ytbblbdacdpokeaa
open Go.RowKit
set_option maxHeartbeats 2000000 in
theorem exactImageHoles_walk (W : Int) (v : Value) (rows : List Int) (h6 : rows.length ≤ maxLen) (w : World) (hv : Ints w.heap.size w v rows) :
    Calls Try.prog 3 #[.agg #[.int .i64 W, v]] w fun e w' => e = .returned (.bool true) ∧ Below w.heap.size w w' := by
  have h63 : rows.length ≤ 9223372036854775807 := Nat.le_trans h6 (by decide)
  obtain ⟨A, cap, rfl⟩ := hv.len
  go_enter Try.func3, Try.ntmps3
  go_wp2_with fail
  refine (szImage_c W _ rows 1048576 (by omega) (by omega) h63 _ (hv.alloc (Nat.le_refl _) _ |>.more (by simp))).mono ?_
  rintro e w1 ⟨rfl, hb⟩
  have hB1 : Below w.heap.size w w1 := ((Below.refl w.heap.size w).alloc (Nat.le_refl _) _).trans (hb.mono (by simp))
  have hx1 := (Box2.new w (.int .i64 W) (.slice A rows.length cap) 24).below hb (by simp)
  obtain ⟨_, b0, b1⟩ := hx1
  clear hb
  by_cases hs : (1048576 : Int) < rows.length
  · rw [if_pos hs]
    go_wp2
    go_returns
    exact ⟨rfl, hB1⟩
  · rw [if_neg hs]
    have h20 : rows.length ≤ 2097152 := by omega
    have hv1 := (hv.below hB1).more hB1.size
    go_wp2_with fail
    refine (toImage_c W _ rows h20 _ hv1).mono ?_
    rintro e w2 ⟨g, c, rfl, hg, hr, hb2⟩
    have hB2 := hB1.trans (hb2.mono hB1.size)
    have c0 := cellB hb2 b0
    have c1 := cellB hb2 b1
    go_wp2_with fail
    refine (sImageHoles_c W _ rows _ (hr.ints hr.lt c)).mono ?_
    rintro e w3 ⟨rfl, hb3⟩
    have hB3 := hB2.trans (hb3.mono hB2.size)
    have d0 := cellB hb3 c0
    have d1 := cellB hb3 c1
    have hv3 := (hv.below hB3).more hB3.size
    clear b0 b1 c0 c1
    go_wp2_with fail
    refine (toImage_c W _ rows h20 _ hv3).mono ?_
    rintro e w4 ⟨g', c', rfl, hg', hr', hb4⟩
    have hB4 := hB3.trans (hb4.mono hB3.size)
    have e0 := cellB hb4 d0
    have e1 := cellB hb4 d1
    clear d0 d1
    obtain ⟨W0, eW⟩ : ∃ W0, W0 = w4.alloc (.cells #[.int .i64 W, .slice (some ⟨g', 0, none⟩) rows.length c'] 27) := ⟨_, rfl⟩
    have hx := Box2.new w4 (.int .i64 W) (.slice (some ⟨g', 0, none⟩) rows.length c') 27
    have hr0 := hr'.alloc (.cells #[.int .i64 W, .slice (some ⟨g', 0, none⟩) rows.length c'] 27)
    have hB0 : Below w4.heap.size w4 W0 := by rw [eW]; go_grown
    go_wp2_with fail
    rw [← eW] at hx hr0 ⊢
    clear eW
    obtain ⟨_, x0, x1⟩ := hx
    have f0 := cellB hB0 e0
    have f1 := cellB hB0 e1
    refine (ImageHoles_c W _ rows _ (hr0.ints hr0.lt c')).mono ?_
    rintro e w5 ⟨rfl, hb5⟩
    have hB5 := hB4.trans ((hB0.trans (hb5.mono hB0.size)).mono hB4.size)
    have p0 := cellB hb5 f0
    have p1 := cellB hb5 f1
    have q0 := cellB hb5 x0
    have q1 := cellB hb5 x1
    have hI5 := (hr0.below hb5 hr0.lt).ints (B := w5.heap.size) (Nat.lt_of_lt_of_le hr0.lt hb5.size) c'
    have hv5 := (hv.below hB5).more hB5.size
    have HB5 := Lib.hid hB5
    have HJ := hv5.drew
    clear e0 e1 x0 x1 f0 f1 hb5 hB5
    go_wp2_with fail
    go_region_held3 (fun w' : World => w'.cell? ⟨w.heap.size, 0, none⟩ = some (.int .i64 W) ∧ w'.cell? ⟨w.heap.size, 1, none⟩ = some (.slice A rows.length cap) ∧ w'.cell? ⟨w4.heap.size, 0, none⟩ = some (.int .i64 W) ∧ w'.cell? ⟨w4.heap.size, 1, none⟩ = some (.slice (some ⟨g', 0, none⟩) rows.length c')) (first | exact ⟨p0, p1, q0, q1⟩ | (refine ⟨?_, ?_, ?_, ?_⟩ <;> assumption) | go_keep) (first | (go_at_call 18; refine (toImage_c W _ rows h20 w5.drew HJ).mono ?_; rintro e w6 ⟨g6, c6, rfl, hg6, hr6, hb6'⟩; have hb6 := Below.undrew hb6'; have k0 := cellB hb6 p0; have k1 := cellB hb6 p1; have k2 := cellB hb6 q0; have k3 := cellB hb6 q1; have hI6 := (hI5.below hb6).more hb6.size; have hJ6 := hr6.ints hr6.lt c6; clear hb6') | (go_at_call 20; refine (eqImage_c W W _ _ rows rows h20 _ hI6 hJ6).mono ?_; rintro e w7 ⟨rfl, hb7⟩; have l0 := cellB hb7 k0; have l1 := cellB hb7 k1; have l2 := cellB hb7 k2; have l3 := cellB hb7 k3))
    go_wp2
    go_returns
    exact ⟨rfl, HB5.out.trans ((hb6.trans (hb7.mono hb6.size)).mono HB5.out.size)⟩
end Go.Proofs.Ytbblbdacdpokeaa
