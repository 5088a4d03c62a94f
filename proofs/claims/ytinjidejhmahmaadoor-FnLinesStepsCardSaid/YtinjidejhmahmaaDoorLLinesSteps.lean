/- The law that moments of any direction follow from three: it returns true at whatever code, where the table of the steps stands. Conditions: the code's slice can be read; the table. -/
import Derived.Test.YtinjidejhmahmaaDoorLCross
import Derived.Test.YtinjidejhmahmaaDoorMLD
namespace Go.Proofs.YtinjidejhmahmaaDoor
open Go.RowKit
theorem mul_bd2 {a b c e : Int} (h1 : -c ≤ a) (h2 : a ≤ c) (h3 : 0 ≤ b) (h4 : b ≤ e) (hc : 0 ≤ c) : -(c * e) ≤ a * b ∧ a * b ≤ c * e := by
  have g1 := Int.mul_le_mul_of_nonneg_right h2 h3
  have g2 := Int.mul_le_mul_of_nonneg_right h1 h3
  have g3 := Int.mul_le_mul_of_nonneg_left h4 hc
  rw [Int.neg_mul] at g2
  omega
theorem steps_bd : ∀ d, d < 8 → (0 ≤ dXs.getD d 0 * dXs.getD d 0 ∧ dXs.getD d 0 * dXs.getD d 0 ≤ 4) ∧ (0 ≤ dYs.getD d 0 * dYs.getD d 0 ∧ dYs.getD d 0 * dYs.getD d 0 ≤ 4) ∧ (-8 ≤ 2 * dXs.getD d 0 * dYs.getD d 0 ∧ 2 * dXs.getD d 0 * dYs.getD d 0 ≤ 8) ∧ (0 ≤ dXs.getD d 0 ∧ dXs.getD d 0 ≤ 2) := by decide +kernel
set_option maxHeartbeats 4000000 in
theorem linesSteps_walk (A : Option Addr) (len cap : Nat) (hlc : len ≤ cap) (w : World) (hc : Code8 w w.heap.size A len) (hD : Dirs w) :
    Calls Tryd.prog 5 #[.slice A len cap] w fun e w' => e = .returned (.bool true) ∧ Below w.heap.size w w' := by
  by_cases hbig : 1048576 < len
  · go_enter Tryd.func5, Tryd.ntmps5
    go_wp2
    go_returns
    exact ⟨rfl, Below.refl _ _⟩
  · go_enter Tryd.func5, Tryd.ntmps5
    go_wp2_with fail
    refine (DrawMomentLines_c A len cap hlc w hc).mono ?_
    rintro e wc ⟨W, v, rows, d, rfl, hI, hl6, hd, hW⟩
    obtain ⟨B, cp, rfl⟩ := hI.len
    obtain ⟨W1, e_W1⟩ : ∃ W0, W0 = World.alloc wc (.cells #[.int .i64 W, .slice B rows.length cp] 27) := ⟨_, rfl⟩
    have hx_W1 := Box2.new wc (.int .i64 W) (.slice B rows.length cp) 27
    have hb_W1 : Below (World.heap wc).size wc W1 := by rw [e_W1]; go_grown
    have HS_W1 := Lib.hid (show (World.heap W1).size = (World.heap wc).size + 1 by rw [e_W1]; simp)
    replace hW := hW.trans (Below.mono hb_W1 hW.size)
    replace hI := (hI.below hb_W1).more (Below.size hb_W1)
    have HE_W1 := Lib.hid e_W1
    clear e_W1
    go_wp2_with fail
    rw [← HE_W1.out] at hx_W1 ⊢
    clear HE_W1
    obtain ⟨hl_x, x0, x1⟩ := hx_W1
    obtain ⟨Bx, e_Bx⟩ : ∃ Bx, Bx = (World.heap wc).size := ⟨_, rfl⟩
    rw [← e_Bx] at hl_x x0 x1 hb_W1 HS_W1  ⊢
    have hz_Bx := hb_W1.size
    clear e_Bx hb_W1
    refine (MomentLines_c W _ rows d W1 hI (hD.below hW)).mono ?_
    rintro e wc ⟨rfl, hb⟩
    replace hW := hW.trans (Below.mono hb hW.size)
    replace hI := (hI.below hb).more (Below.size hb)
    replace x0 := cellB hb x0
    replace x1 := cellB hb x1
    go_wp2_with fail
    refine (sMomentLines_c W _ rows d _ hI).mono ?_
    rintro e wc ⟨rfl, hb⟩
    replace hW := hW.trans (Below.mono hb hW.size)
    replace hI := (hI.below hb).more (Below.size hb)
    replace x0 := cellB hb x0
    replace x1 := cellB hb x1
    cases hval : (validB W rows && dirB d) with
    | false =>
      rw [moL_no hval]
      clear hval
      go_wp2
      go_returns
      exact ⟨rfl, hW⟩
    | true =>
      rw [Bool.and_eq_true] at hval
      obtain ⟨n, ns, rfl, rfl, hV⟩ := validB_yes hval.1
      obtain ⟨k, rfl, hk⟩ := dirB_yes hval.2
      rw [moL_yes hV hk]
      have h1 := mom_sqL n ns k
      have b0 := mom_bdL hV hk
      have b1 := mom_bd25 hV (f := f_MomentCross_1) bd_MomentCross_1
      have b2 := mom_bd25 hV (f := f_MomentSquares_1) bd_MomentSquares_1
      have b3 := mom_bd25 hV (f := f_MomentSquares_2) bd_MomentSquares_2
      have c0 : val0 (-1) f_MomentCross_1 (n : Int) (casts ns) = mom n ns f_MomentCross_1 := val0_yes hV
      have c1 : val0 0 f_MomentSquares_1 (n : Int) (casts ns) = mom n ns f_MomentSquares_1 := val0_yes hV
      have c2 : val0 0 f_MomentSquares_2 (n : Int) (casts ns) = mom n ns f_MomentSquares_2 := val0_yes hV
      have HV := Lib.hid (And.intro c1 (And.intro c2 (And.intro (validB_of hV) c0)))
      rw [show crO = f_MomentCross_1 from rfl, show sqI = f_MomentSquares_1 from rfl, show sqJ = f_MomentSquares_2 from rfl] at h1
      obtain ⟨q1, q2, q3, q4⟩ := steps_bd k hk
      have HST := fun W h => DirStep_c k hk W h
      clear hval c0 c1 c2
      obtain ⟨m, em⟩ : ∃ m, m = mom n ns f_MomentCross_1 := ⟨_, rfl⟩
      obtain ⟨p, ep⟩ : ∃ m, m = mom n ns f_MomentSquares_1 := ⟨_, rfl⟩
      obtain ⟨q, eq⟩ : ∃ m, m = mom n ns f_MomentSquares_2 := ⟨_, rfl⟩
      obtain ⟨s, es⟩ : ∃ m, m = mom n ns (sqL k) := ⟨_, rfl⟩
      rw [← em] at h1 b1 HV
      rw [← ep] at h1 b2 HV
      rw [← eq] at h1 b3 HV
      rw [← es] at h1 b0 ⊢
      clear em ep eq es
      generalize dXs.getD k 0 = x at *
      generalize dYs.getD k 0 = y at *
      have r1 := mul_bd2 (a := x * x) (b := p) (c := 4) (e := 1050) (by omega) (by omega) b2.1 b2.2 (by omega)
      have r2 := mul_bd2 (a := y * y) (b := q) (c := 4) (e := 1050) (by omega) (by omega) b3.1 b3.2 (by omega)
      have r3 := mul_bd2 (a := 2 * x * y) (b := m) (c := 8) (e := 1050) (by omega) (by omega) b1.1 b1.2 (by omega)
      have ew1 : IntKind.i64.wrap (x * x) = x * x := IntWalk.i64_in _ ⟨by omega, by omega⟩
      have ew2 : IntKind.i64.wrap (x * x * p) = x * x * p := IntWalk.i64_in _ ⟨by omega, by omega⟩
      have ew3 : IntKind.i64.wrap (y * y) = y * y := IntWalk.i64_in _ ⟨by omega, by omega⟩
      have ew4 : IntKind.i64.wrap (y * y * q) = y * y * q := IntWalk.i64_in _ ⟨by omega, by omega⟩
      have ew5 : IntKind.i64.wrap (2 * x * y) = 2 * x * y := IntWalk.i64_in _ ⟨by omega, by omega⟩
      have ew6 : IntKind.i64.wrap (2 * x * y * m) = 2 * x * y * m := IntWalk.i64_in _ ⟨by omega, by omega⟩
      have ew7 : IntKind.i64.wrap (x * x * p + y * y * q) = x * x * p + y * y * q := IntWalk.i64_in _ ⟨by omega, by omega⟩
      have ew8 : IntKind.i64.wrap (x * x * p + y * y * q - 2 * x * y * m) = x * x * p + y * y * q - 2 * x * y * m := IntWalk.i64_in _ ⟨by omega, by omega⟩
      have hfin : s = x * x * p + y * y * q - 2 * x * y * m := by rw [h1, Int.mul_assoc 2 x y]
      have HS := Lib.hid hfin
      have hs0 := b0.1
      clear h1 hfin r1 r2 r3 q1 q2 q3 b0
      go_wp2_with fail
      refine (HST _ (hD.below hW)).mono ?_
      rintro e wc ⟨rfl, hb⟩
      replace hW := hW.trans (Below.mono hb hW.size)
      replace hI := (hI.below hb).more (Below.size hb)
      replace x0 := cellB hb x0
      replace x1 := cellB hb x1
      clear HST
      go_wp2_with fail
      refine (MomentSquares_c (n : Int) _ _ _ hI).mono ?_
      rintro e wc ⟨rfl, hb⟩
      replace hW := hW.trans (Below.mono hb hW.size)
      replace hI := (hI.below hb).more (Below.size hb)
      replace x0 := cellB hb x0
      replace x1 := cellB hb x1
      rw [HV.out.1, HV.out.2.1, HV.out.2.2.1]
      go_wp2_with fail
      refine (MomentCross_c (n : Int) _ _ _ hI).mono ?_
      rintro e wc ⟨rfl, hb⟩
      replace hW := hW.trans (Below.mono hb hW.size)
      replace hI := (hI.below hb).more (Below.size hb)
      replace x0 := cellB hb x0
      replace x1 := cellB hb x1
      rw [HV.out.2.2.2]
      go_wp2
      go_returns
      exact ⟨rb (by have := HS.out; simp; omega), hW⟩
end Go.Proofs.YtinjidejhmahmaaDoor
