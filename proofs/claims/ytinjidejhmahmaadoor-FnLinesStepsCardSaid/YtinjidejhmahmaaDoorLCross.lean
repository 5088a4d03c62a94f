/- The law that a diagonal tells the products: it returns true at whatever code, where the table of the steps stands. Conditions: the code's slice can be read; the table. -/
import Derived.Test.YtinjidejhmahmaaDoorML3
import Derived.Test.YtinjidejhmahmaaDoorPD
namespace Go.Proofs.YtinjidejhmahmaaDoor
open Go.RowKit
theorem mom_bd25 {n : Nat} {ns : List Nat} (hV : VImg n ns) {f : Nat → Nat → Int} (hf : ∀ i j, i < 6 → j < 6 → 0 ≤ f i j ∧ f i j ≤ 25) : 0 ≤ mom n ns f ∧ mom n ns f ≤ 1050 := by
  rw [← part_all]
  exact part_bd hf hV.h6 hV.w6 (Nat.zero_le _) (.inr rfl)
theorem mom_bdL {n : Nat} {ns : List Nat} (hV : VImg n ns) {d : Nat} (hd : d < 8) : 0 ≤ mom n ns (sqL d) ∧ mom n ns (sqL d) ≤ 9450 := by
  rw [← part_all]
  exact part_bdL (fun i j hi hj => sqL_bd hd hi hj) hV.h6 hV.w6 (Nat.zero_le _) (.inr rfl)
set_option maxHeartbeats 2000000 in
theorem cross_walk (A : Option Addr) (len cap : Nat) (hlc : len ≤ cap) (w : World) (hc : Code8 w w.heap.size A len) (hD : Dirs w) :
    Calls Tryd.prog 4 #[.slice A len cap] w fun e w' => e = .returned (.bool true) ∧ Below w.heap.size w w' := by
  by_cases hbig : 1048576 < len
  · go_enter Tryd.func4, Tryd.ntmps4
    go_wp2
    go_returns
    exact ⟨rfl, Below.refl _ _⟩
  · go_enter Tryd.func4, Tryd.ntmps4
    go_wp2_with fail
    refine (DrawMomentCross_c A len cap hlc w hc).mono ?_
    rintro e wc ⟨W, v, rows, rfl, hI, hl6, hW⟩
    obtain ⟨B, cp, rfl⟩ := hI.len
    obtain ⟨W1, e_W1⟩ : ∃ W0, W0 = World.alloc wc (.cells #[.int .i64 W, .slice B rows.length cp] 27) := ⟨_, rfl⟩
    have hx_W1 := Box2.new wc (.int .i64 W) (.slice B rows.length cp) 27
    have hb_W1 : Below (World.heap wc).size wc W1 := by rw [e_W1]; go_grown
    have HS_W1 := Lib.hid (show (World.heap W1).size = (World.heap wc).size + 1 by rw [e_W1]; simp)
    replace hW := hW.trans (Below.mono hb_W1 hW.size)
    replace hI := (hI.below hb_W1).more (Below.size hb_W1)
    have HE_W1 := Lib.hid e_W1
    clear e_W1
    go_wp2_with fail
    rw [← HE_W1.out] at hx_W1 ⊢
    clear HE_W1
    obtain ⟨hl_x, x0, x1⟩ := hx_W1
    obtain ⟨Bx, e_Bx⟩ : ∃ Bx, Bx = (World.heap wc).size := ⟨_, rfl⟩
    rw [← e_Bx] at hl_x x0 x1 hb_W1 HS_W1  ⊢
    have hz_Bx := hb_W1.size
    clear e_Bx hb_W1
    refine (MomentCross_c W _ rows W1 hI).mono ?_
    rintro e wc ⟨rfl, hb⟩
    replace hW := hW.trans (Below.mono hb hW.size)
    replace hI := (hI.below hb).more (Below.size hb)
    replace x0 := cellB hb x0
    replace x1 := cellB hb x1
    go_wp2_with fail
    refine (sMomentCross_c W _ rows _ hI).mono ?_
    rintro e wc ⟨rfl, hb⟩
    replace hW := hW.trans (Below.mono hb hW.size)
    replace hI := (hI.below hb).more (Below.size hb)
    replace x0 := cellB hb x0
    replace x1 := cellB hb x1
    cases hval : validB W rows with
    | false =>
      have e0 : val0 (-1) f_MomentCross_1 W rows = -1 := val0_no hval
      rw [e0]
      clear e0 hval
      go_wp2
      go_returns
      exact ⟨rfl, hW⟩
    | true =>
      obtain ⟨n, ns, rfl, rfl, hV⟩ := validB_yes hval
      have e0 : val0 (-1) f_MomentCross_1 (n : Int) (casts ns) = mom n ns f_MomentCross_1 := val0_yes hV
      have h1 := mom_two n ns
      have h2 := mom_three n ns
      have b1 := mom_bd25 hV (f := f_MomentCross_1) bd_MomentCross_1
      have b2 := mom_bd25 hV (f := f_MomentSquares_1) bd_MomentSquares_1
      have b3 := mom_bd25 hV (f := f_MomentSquares_2) bd_MomentSquares_2
      have b4 := mom_bdL hV (d := 2) (by omega)
      have b5 := mom_bdL hV (d := 3) (by omega)
      have c1 : val0 0 f_MomentSquares_1 (n : Int) (casts ns) = mom n ns f_MomentSquares_1 := val0_yes hV
      have c2 : val0 0 f_MomentSquares_2 (n : Int) (casts ns) = mom n ns f_MomentSquares_2 := val0_yes hV
      have G2 := fun (d : Int) w h h' => MomentLines_c (n : Int) (.slice B (casts ns).length cp) (casts ns) d w h h'
      have l2 : moL (n : Int) (casts ns) 2 = mom n ns (sqL 2) := moL_yes hV (d := 2) (by omega)
      have l3 : moL (n : Int) (casts ns) 3 = mom n ns (sqL 3) := moL_yes hV (d := 3) (by omega)
      have HV := Lib.hid (And.intro c1 (And.intro c2 (validB_of hV)))
      rw [show crO = f_MomentCross_1 from rfl, show sqI = f_MomentSquares_1 from rfl, show sqJ = f_MomentSquares_2 from rfl] at h1 h2
      rw [e0]
      clear e0 hval c1 c2
      obtain ⟨m, em⟩ : ∃ m, m = mom n ns f_MomentCross_1 := ⟨_, rfl⟩
      obtain ⟨p, ep⟩ : ∃ m, m = mom n ns f_MomentSquares_1 := ⟨_, rfl⟩
      obtain ⟨q, eq⟩ : ∃ m, m = mom n ns f_MomentSquares_2 := ⟨_, rfl⟩
      obtain ⟨s, es⟩ : ∃ m, m = mom n ns (sqL 2) := ⟨_, rfl⟩
      obtain ⟨t, et⟩ : ∃ m, m = mom n ns (sqL 3) := ⟨_, rfl⟩
      rw [← em] at h1 h2 b1 ⊢
      rw [← ep] at h1 h2 b2 HV
      rw [← eq] at h1 h2 b3 HV
      rw [← es] at h1 b4 l2
      rw [← et] at h2 b5 l3
      clear em ep eq es et
      have hs : s = p + q - 2 * m := by omega
      have ht : t = 2 * m + p + q := by omega
      have HS := Lib.hid (And.intro hs (And.intro ht (And.intro l2 l3)))
      clear h1 h2 hs ht l2 l3
      go_wp2_with fail
      refine (MomentSquares_c (n : Int) _ _ _ hI).mono ?_
      rintro e wc ⟨rfl, hb⟩
      replace hW := hW.trans (Below.mono hb hW.size)
      replace hI := (hI.below hb).more (Below.size hb)
      replace x0 := cellB hb x0
      replace x1 := cellB hb x1
      rw [HV.out.1, HV.out.2.1, HV.out.2.2]
      go_wp2_with fail
      refine (G2 2 _ hI (hD.below hW)).mono ?_
      rintro e wc ⟨rfl, hb⟩
      replace hW := hW.trans (Below.mono hb hW.size)
      replace hI := (hI.below hb).more (Below.size hb)
      replace x0 := cellB hb x0
      replace x1 := cellB hb x1
      rw [HS.out.2.2.1, HS.out.1]
      have e1 : ((2 * m == p + q - (p + q - 2 * m)) : Bool) = true := by rw [show p + q - (p + q - 2 * m) = 2 * m by omega]; exact beq_self_eq_true _
      go_wp2_with fail
      refine (G2 3 _ hI (hD.below hW)).mono ?_
      rintro e wc ⟨rfl, hb⟩
      replace hW := hW.trans (Below.mono hb hW.size)
      replace hI := (hI.below hb).more (Below.size hb)
      replace x0 := cellB hb x0
      replace x1 := cellB hb x1
      rw [HS.out.2.2.2, HS.out.2.1]
      have e2 : ((2 * m == 2 * m + p + q - p - q) : Bool) = true := by rw [show 2 * m + p + q - p - q = 2 * m by omega]; exact beq_self_eq_true _
      clear G2
      go_wp2
      go_returns
      exact ⟨rb (by simp; try omega), hW⟩
end Go.Proofs.YtinjidejhmahmaaDoor
