/- The law that a switch changes products alone: it returns true at whatever code. Conditions: the code's slice can be read. -/
import Derived.Test.YtfkmkakdkocamaaSW3
import Derived.Test.YtfkmkakdkocamaaSW6
import Derived.Test.YtfkmkakdkocamaaK6
import Derived.Test.YtfkmkakdkocamaaK11
namespace Go.Proofs.Ytfkmkakdkocamaa
open Go.RowKit
theorem mom_bdS {w : Nat} {ns : List Nat} (hi : VImg w ns) {f : Nat → Nat → Int} (hf : ∀ i j, i < 6 → j < 6 → 0 ≤ f i j ∧ f i j ≤ 25) : 0 ≤ mom w ns f ∧ mom w ns f ≤ 1050 := by
  have := part_bd (ns := ns) (w := w) hf (k := ns.length) (m := 0) hi.h6 hi.w6 (by omega) (.inr rfl)
  rwa [part_all] at this
set_option maxRecDepth 100000 in
set_option maxHeartbeats 8000000 in
theorem momentsSwitch_walk (A : Option Addr) (len cap : Nat) (hlc : len ≤ cap) (w : World) (hc : Code8 w w.heap.size A len) :
    Calls Try.prog 3 #[.slice A len cap] w fun e w' => e = .returned (.bool true) ∧ Below w.heap.size w w' := by
  by_cases hbig : 1048576 < len
  · go_enter Try.func3, Try.ntmps3
    go_wp2
    go_returns
    exact ⟨rfl, Below.refl _ _⟩
  · go_enter Try.func3, Try.ntmps3
    go_wp2_with fail
    refine (DrawSwitchDo_c A len cap hlc w hc).mono ?_
    rintro e wc ⟨W, v, rows, a, b, c, d, rfl, hO, hl6, ⟨ha, hb, hcc, hd⟩, hW⟩
    have hI := hO.ints
    obtain ⟨B, bp, rfl⟩ := hI.len
    unfold swV
    clear hO hc
    obtain ⟨W1, eW1⟩ : ∃ Wx, Wx = (wc.alloc (.cells #[.int .i64 W, .slice B rows.length bp] 25)).alloc (.cells #[.int .i64 (a : Int), .int .i64 (b : Int), .int .i64 (c : Int), .int .i64 (d : Int)] 27) := ⟨_, rfl⟩
    have hb1 : Below wc.heap.size wc W1 := by rw [eW1]; go_grown
    have x0 : W1.cell? ⟨wc.heap.size, 0, none⟩ = some (.int .i64 W) := by rw [eW1]; go_cell
    have x1 : W1.cell? ⟨wc.heap.size, 1, none⟩ = some (.slice B rows.length bp) := by rw [eW1]; go_cell
    have s0 : W1.cell? ⟨wc.heap.size + 1, 0, none⟩ = some (.int .i64 (a : Int)) := by rw [eW1]; go_cell
    have s1 : W1.cell? ⟨wc.heap.size + 1, 1, none⟩ = some (.int .i64 (b : Int)) := by rw [eW1]; go_cell
    have s2 : W1.cell? ⟨wc.heap.size + 1, 2, none⟩ = some (.int .i64 (c : Int)) := by rw [eW1]; go_cell
    have s3 : W1.cell? ⟨wc.heap.size + 1, 3, none⟩ = some (.int .i64 (d : Int)) := by rw [eW1]; go_cell
    replace hI := (hI.below hb1).more (Below.size hb1)
    replace hW := hW.trans (Below.mono hb1 hW.size)
    clear hb1
    obtain ⟨Bx, eBx⟩ : ∃ B, B = wc.heap.size := ⟨_, rfl⟩
    rw [← eBx] at x0 x1 s0 s1 s2 s3
    have HE := Lib.hid (And.intro eW1 eBx)
    clear eW1 eBx
    go_wp2_with fail
    rw [← HE.out.1, ← HE.out.2]
    clear HE
    cases hz : swZ W rows a b c d with
    | false =>
      have HK1 := fun Wx hI => SwitchDo_no W (.slice B rows.length bp) rows a b c d ha hb hcc hd hz Wx hI
      have HK2 := fun Wx hI => sSwitchDo_no W (.slice B rows.length bp) rows a b c d ha hb hcc hd hz Wx hI
      unfold swV at HK1 HK2
      clear hz
      refine (HK1 _ hI).mono ?_
      rintro e wc ⟨rfl, hb⟩
      replace hI := (hI.below hb).more (Below.size hb)
      replace hW := hW.trans (Below.mono hb hW.size)
      replace x0 := cellB hb x0
      replace x1 := cellB hb x1
      replace s0 := cellB hb s0
      replace s1 := cellB hb s1
      replace s2 := cellB hb s2
      replace s3 := cellB hb s3
      clear HK1
      obtain ⟨W3, e_W3⟩ : ∃ W0, W0 = World.alloc wc (.cells #[.int .i64 0, .slice none 0 0] 25) := ⟨_, rfl⟩
      have hx_W3 := Box2.new wc (.int .i64 0) (.slice none 0 0) 25
      have hb_W3 : Below (World.heap wc).size wc W3 := by rw [e_W3]; go_grown
      have HS_W3 := Lib.hid (show (World.heap W3).size = (World.heap wc).size + 1 by rw [e_W3]; simp)
      replace hI := (hI.below hb_W3).more (Below.size hb_W3)
      replace hW := hW.trans (Below.mono hb_W3 hW.size)
      replace x0 := cellB hb_W3 x0
      replace x1 := cellB hb_W3 x1
      replace s0 := cellB hb_W3 s0
      replace s1 := cellB hb_W3 s1
      replace s2 := cellB hb_W3 s2
      replace s3 := cellB hb_W3 s3
      have x0r := x0
      rw [e_W3] at x0r
      have x1r := x1
      rw [e_W3] at x1r
      have s0r := s0
      rw [e_W3] at s0r
      have s1r := s1
      rw [e_W3] at s1r
      have s2r := s2
      rw [e_W3] at s2r
      have s3r := s3
      rw [e_W3] at s3r
      have HE_W3 := Lib.hid e_W3
      clear e_W3
      go_wp2_with fail
      rw [← HE_W3.out] at hx_W3 ⊢
      clear x0r x1r s0r s1r s2r s3r
      clear HE_W3
      obtain ⟨hl_y, y0, y1⟩ := hx_W3
      obtain ⟨By, e_By⟩ : ∃ Bx, Bx = (World.heap wc).size := ⟨_, rfl⟩
      rw [← e_By] at hl_y y0 y1 hb_W3 HS_W3  ⊢
      have hz_By := hb_W3.size
      clear e_By hb_W3
      refine (HK2 _ hI).mono ?_
      rintro e wc ⟨rfl, hb⟩
      replace hI := (hI.below hb).more (Below.size hb)
      replace hW := hW.trans (Below.mono hb hW.size)
      replace x0 := cellB hb x0
      replace x1 := cellB hb x1
      replace s0 := cellB hb s0
      replace s1 := cellB hb s1
      replace s2 := cellB hb s2
      replace s3 := cellB hb s3
      replace y0 := cellB hb y0
      replace y1 := cellB hb y1
      clear HK2
      obtain ⟨W5, e_W5⟩ : ∃ W0, W0 = World.alloc wc (.cells #[.int .i64 0, .slice none 0 0] 25) := ⟨_, rfl⟩
      have hx_W5 := Box2.new wc (.int .i64 0) (.slice none 0 0) 25
      have hb_W5 : Below (World.heap wc).size wc W5 := by rw [e_W5]; go_grown
      have HS_W5 := Lib.hid (show (World.heap W5).size = (World.heap wc).size + 1 by rw [e_W5]; simp)
      replace hI := (hI.below hb_W5).more (Below.size hb_W5)
      replace hW := hW.trans (Below.mono hb_W5 hW.size)
      replace x0 := cellB hb_W5 x0
      replace x1 := cellB hb_W5 x1
      replace s0 := cellB hb_W5 s0
      replace s1 := cellB hb_W5 s1
      replace s2 := cellB hb_W5 s2
      replace s3 := cellB hb_W5 s3
      replace y0 := cellB hb_W5 y0
      replace y1 := cellB hb_W5 y1
      have y0r := y0
      rw [e_W5] at y0r
      have y1r := y1
      rw [e_W5] at y1r
      have HE_W5 := Lib.hid e_W5
      clear e_W5
      go_wp2_with fail
      rw [← HE_W5.out] at hx_W5 ⊢
      clear y0r y1r
      clear HE_W5
      obtain ⟨hl_z, z0, z1⟩ := hx_W5
      obtain ⟨Bz, e_Bz⟩ : ∃ Bx, Bx = (World.heap wc).size := ⟨_, rfl⟩
      rw [← e_Bz] at hl_z z0 z1 hb_W5 HS_W5  ⊢
      have hz_Bz := hb_W5.size
      clear e_Bz hb_W5
      refine (sameImage_c 0 0 _ _ [] [] (by simp) W5 (.inl ⟨rfl, none, 0, rfl⟩) (.inl ⟨rfl, none, 0, rfl⟩)).mono ?_
      rintro e wc ⟨rfl, hb⟩
      replace hI := (hI.below hb).more (Below.size hb)
      replace hW := hW.trans (Below.mono hb hW.size)
      replace x0 := cellB hb x0
      replace x1 := cellB hb x1
      replace s0 := cellB hb s0
      replace s1 := cellB hb s1
      replace s2 := cellB hb s2
      replace s3 := cellB hb s3
      replace y0 := cellB hb y0
      replace y1 := cellB hb y1
      replace z0 := cellB hb z0
      replace z1 := cellB hb z1
      simp only [decide_true, and_self]
      go_wp2_with fail
      refine (sameImage_c 0 0 _ _ [] [] (by simp) _ (.inl ⟨rfl, none, 0, rfl⟩) (.inl ⟨rfl, none, 0, rfl⟩)).mono ?_
      rintro e wc ⟨rfl, hb⟩
      replace hI := (hI.below hb).more (Below.size hb)
      replace hW := hW.trans (Below.mono hb hW.size)
      replace x0 := cellB hb x0
      replace x1 := cellB hb x1
      replace s0 := cellB hb s0
      replace s1 := cellB hb s1
      replace s2 := cellB hb s2
      replace s3 := cellB hb s3
      replace y0 := cellB hb y0
      replace y1 := cellB hb y1
      replace z0 := cellB hb z0
      replace z1 := cellB hb z1
      simp only [decide_true, and_self]
      go_wp2
      go_returns
      exact ⟨rfl, hW⟩
    | true =>
      have hva : validB W rows = true := by unfold swZ at hz; exact (Bool.and_eq_true_iff.1 hz).1
      obtain ⟨n, ns, rfl, rfl, hV⟩ := validB_yes hva
      have hsw : swB n ns a b c d = true := by unfold swZ at hz; rw [hva, casts_nat, Int.toNat_natCast] at hz; exact hz
      have hin : swIn n ns a b c d = true := by unfold swB at hsw; exact (Bool.and_eq_true_iff.1 hsw).1
      obtain ⟨c1, c2, c3, c4⟩ := swIn_iff.1 hin
      have hV2 := vimg_swL hV hin
      have h6 := hV.h6
      have w6 := hV.w6
      have hl2 := length_swL ns a b c d
      rw [length_casts] at x1 hI ⊢
      have HK1 := fun Wx hI => SwitchDo_yes n (.slice B ns.length bp) ns hV a b c d ha hb hcc hd hsw Wx hI
      have HK2 := fun Wx hI => sSwitchDo_yes n (.slice B ns.length bp) ns hV a b c d ha hb hcc hd hsw Wx hI
      unfold swV at HK1 HK2
      have hms := mom_sw hsw
      obtain ⟨ms, em⟩ : ∃ ms, ms = swL ns a b c d := ⟨_, rfl⟩
      rw [← em] at hV2 hl2 hms
      simp only [← em] at HK1 HK2
      obtain ⟨D, eD⟩ : ∃ D : Int, D = ((b : Int) - (a : Int)) * ((d : Int) - (c : Int)) := ⟨_, rfl⟩
      obtain ⟨S, eS⟩ : ∃ S : Int, S = (if cell ns a c then -1 else 1) := ⟨_, rfl⟩
      rw [← eS] at hms
      have m1 : mom n ms f_MomentSums_1 = mom n ns f_MomentSums_1 := by rw [hms]; unfold f_MomentSums_1; rw [show ((a : Int) - a - b + b) = 0 by omega]; simp
      have m2 : mom n ms f_MomentSums_2 = mom n ns f_MomentSums_2 := by rw [hms]; unfold f_MomentSums_2; rw [show ((c : Int) - d - c + d) = 0 by omega]; simp
      have m3 : mom n ms f_MomentSquares_1 = mom n ns f_MomentSquares_1 := by rw [hms]; unfold f_MomentSquares_1; rw [show ((a : Int) * a - a * a - b * b + b * b) = 0 by omega]; simp
      have m4 : mom n ms f_MomentSquares_2 = mom n ns f_MomentSquares_2 := by rw [hms]; unfold f_MomentSquares_2; rw [show ((c : Int) * c - d * d - c * c + d * d) = 0 by omega]; simp
      have key : ((a : Int) * c - a * d - b * c + b * d) = D := by
        rw [eD, Int.sub_mul, Int.mul_sub, Int.mul_sub]
        generalize (a : Int) * c = p1
        generalize (a : Int) * d = p2
        generalize (b : Int) * c = p3
        generalize (b : Int) * d = p4
        omega
      have m5 : mom n ms f_MomentCross_1 = mom n ns f_MomentCross_1 + S * D := by
        rw [hms]
        unfold f_MomentCross_1
        rw [key]
      have hDb : 0 < D ∧ D ≤ 36 := by
        rw [eD]
        refine ⟨Int.mul_pos (by omega) (by omega), ?_⟩
        exact Int.le_trans (Int.mul_le_mul (show (b : Int) - a ≤ 6 by omega) (show (d : Int) - c ≤ 6 by omega) (by omega) (by omega)) (by omega)
      have hSD : S * D = D ∨ S * D = 0 - D := by rw [eS]; cases cell ns a c <;> simp
      obtain ⟨q, eq⟩ : ∃ q, q = S * D := ⟨_, rfl⟩
      rw [← eq] at m5 hSD
      have HV2 := Lib.hid hV2
      have HM := Lib.hid (And.intro m1 (And.intro m2 (And.intro m3 (And.intro m4 m5))))
      have HLC := Lib.hid (length_casts ms)
      have HL2 := Lib.hid hl2
      have HD := Lib.hid eD
      clear key hz hva hsw hin hms em eS m1 m2 m3 m4 m5 eq eD hV2 hl2
      refine (HK1 _ hI).mono ?_
      rintro e wc ⟨g, cg, rfl, hg, hR, hb⟩
      clear hg
      replace hI := (hI.below hb).more (Below.size hb)
      replace hW := hW.trans (Below.mono hb hW.size)
      replace x0 := cellB hb x0
      replace x1 := cellB hb x1
      replace s0 := cellB hb s0
      replace s1 := cellB hb s1
      replace s2 := cellB hb s2
      replace s3 := cellB hb s3
      clear HK1
      obtain ⟨W3, e_W3⟩ : ∃ W0, W0 = World.alloc wc (.cells #[.int .i64 (n : Int), .slice (some ⟨g, 0, none⟩) ns.length cg] 25) := ⟨_, rfl⟩
      have hx_W3 := Box2.new wc (.int .i64 (n : Int)) (.slice (some ⟨g, 0, none⟩) ns.length cg) 25
      have hb_W3 : Below (World.heap wc).size wc W3 := by rw [e_W3]; go_grown
      have HS_W3 := Lib.hid (show (World.heap W3).size = (World.heap wc).size + 1 by rw [e_W3]; simp)
      replace hI := (hI.below hb_W3).more (Below.size hb_W3)
      replace hW := hW.trans (Below.mono hb_W3 hW.size)
      replace x0 := cellB hb_W3 x0
      replace x1 := cellB hb_W3 x1
      replace s0 := cellB hb_W3 s0
      replace s1 := cellB hb_W3 s1
      replace s2 := cellB hb_W3 s2
      replace s3 := cellB hb_W3 s3
      replace hR := hR.below hb_W3 hR.lt
      have x0r := x0
      rw [e_W3] at x0r
      have x1r := x1
      rw [e_W3] at x1r
      have s0r := s0
      rw [e_W3] at s0r
      have s1r := s1
      rw [e_W3] at s1r
      have s2r := s2
      rw [e_W3] at s2r
      have s3r := s3
      rw [e_W3] at s3r
      have HE_W3 := Lib.hid e_W3
      clear e_W3
      go_wp2_with fail
      rw [← HE_W3.out] at hx_W3 ⊢
      clear x0r x1r s0r s1r s2r s3r
      clear HE_W3
      obtain ⟨hl_y, y0, y1⟩ := hx_W3
      obtain ⟨By, e_By⟩ : ∃ Bx, Bx = (World.heap wc).size := ⟨_, rfl⟩
      rw [← e_By] at hl_y y0 y1 hb_W3 HS_W3  ⊢
      have hz_By := hb_W3.size
      clear e_By hb_W3
      refine (HK2 _ hI).mono ?_
      rintro e wc ⟨g2, cg2, rfl, hg, hR2, hb⟩
      clear hg
      replace hI := (hI.below hb).more (Below.size hb)
      replace hW := hW.trans (Below.mono hb hW.size)
      replace x0 := cellB hb x0
      replace x1 := cellB hb x1
      replace s0 := cellB hb s0
      replace s1 := cellB hb s1
      replace s2 := cellB hb s2
      replace s3 := cellB hb s3
      replace hR := hR.below hb hR.lt
      replace y0 := cellB hb y0
      replace y1 := cellB hb y1
      clear HK2
      obtain ⟨W5, e_W5⟩ : ∃ W0, W0 = World.alloc wc (.cells #[.int .i64 (n : Int), .slice (some ⟨g2, 0, none⟩) ns.length cg2] 25) := ⟨_, rfl⟩
      have hx_W5 := Box2.new wc (.int .i64 (n : Int)) (.slice (some ⟨g2, 0, none⟩) ns.length cg2) 25
      have hb_W5 : Below (World.heap wc).size wc W5 := by rw [e_W5]; go_grown
      have HS_W5 := Lib.hid (show (World.heap W5).size = (World.heap wc).size + 1 by rw [e_W5]; simp)
      replace hI := (hI.below hb_W5).more (Below.size hb_W5)
      replace hW := hW.trans (Below.mono hb_W5 hW.size)
      replace x0 := cellB hb_W5 x0
      replace x1 := cellB hb_W5 x1
      replace s0 := cellB hb_W5 s0
      replace s1 := cellB hb_W5 s1
      replace s2 := cellB hb_W5 s2
      replace s3 := cellB hb_W5 s3
      replace hR := hR.below hb_W5 hR.lt
      replace y0 := cellB hb_W5 y0
      replace y1 := cellB hb_W5 y1
      replace hR2 := hR2.below hb_W5 hR2.lt
      have y0r := y0
      rw [e_W5] at y0r
      have y1r := y1
      rw [e_W5] at y1r
      have HE_W5 := Lib.hid e_W5
      clear e_W5
      go_wp2_with fail
      rw [← HE_W5.out] at hx_W5 ⊢
      clear y0r y1r
      clear HE_W5
      obtain ⟨hl_z, z0, z1⟩ := hx_W5
      obtain ⟨Bz, e_Bz⟩ : ∃ Bx, Bx = (World.heap wc).size := ⟨_, rfl⟩
      rw [← e_Bz] at hl_z z0 z1 hb_W5 HS_W5  ⊢
      have hz_Bz := hb_W5.size
      clear e_Bz hb_W5
      refine (sameImage_c (n : Int) n _ _ (casts ms) (casts ms) (by rw [HLC.out, HL2.out]; omega) W5 (hR.intsH HL2.out) (hR2.intsH HL2.out)).mono ?_
      rintro e wc ⟨rfl, hb⟩
      replace hI := (hI.below hb).more (Below.size hb)
      replace hW := hW.trans (Below.mono hb hW.size)
      replace x0 := cellB hb x0
      replace x1 := cellB hb x1
      replace s0 := cellB hb s0
      replace s1 := cellB hb s1
      replace s2 := cellB hb s2
      replace s3 := cellB hb s3
      replace hR := hR.below hb hR.lt
      replace y0 := cellB hb y0
      replace y1 := cellB hb y1
      replace hR2 := hR2.below hb hR2.lt
      replace z0 := cellB hb z0
      replace z1 := cellB hb z1
      simp only [decide_true, and_self]
      clear z0 z1 hR2
      go_wp2_with fail
      refine (MomentSums_c (n : Int) _ (casts ns) _ hI).mono ?_
      rintro e wc ⟨rfl, hb⟩
      replace hI := (hI.below hb).more (Below.size hb)
      replace hW := hW.trans (Below.mono hb hW.size)
      replace x0 := cellB hb x0
      replace x1 := cellB hb x1
      replace s0 := cellB hb s0
      replace s1 := cellB hb s1
      replace s2 := cellB hb s2
      replace s3 := cellB hb s3
      replace hR := hR.below hb hR.lt
      replace y0 := cellB hb y0
      replace y1 := cellB hb y1
      go_wp2_with fail
      refine (MomentSums_c (n : Int) _ (casts ms) _ (hR.intsH HL2.out)).mono ?_
      rintro e wc ⟨rfl, hb⟩
      replace hI := (hI.below hb).more (Below.size hb)
      replace hW := hW.trans (Below.mono hb hW.size)
      replace x0 := cellB hb x0
      replace x1 := cellB hb x1
      replace s0 := cellB hb s0
      replace s1 := cellB hb s1
      replace s2 := cellB hb s2
      replace s3 := cellB hb s3
      replace hR := hR.below hb hR.lt
      replace y0 := cellB hb y0
      replace y1 := cellB hb y1
      rw [val0_yes hV, val0_yes hV, validB_of hV, val0_yes HV2.out, val0_yes HV2.out, validB_of HV2.out, HM.out.1, HM.out.2.1]
      go_wp2_with fail
      refine (MomentSquares_c (n : Int) _ (casts ns) _ hI).mono ?_
      rintro e wc ⟨rfl, hb⟩
      replace hI := (hI.below hb).more (Below.size hb)
      replace hW := hW.trans (Below.mono hb hW.size)
      replace x0 := cellB hb x0
      replace x1 := cellB hb x1
      replace s0 := cellB hb s0
      replace s1 := cellB hb s1
      replace s2 := cellB hb s2
      replace s3 := cellB hb s3
      replace hR := hR.below hb hR.lt
      replace y0 := cellB hb y0
      replace y1 := cellB hb y1
      go_wp2_with fail
      refine (MomentSquares_c (n : Int) _ (casts ms) _ (hR.intsH HL2.out)).mono ?_
      rintro e wc ⟨rfl, hb⟩
      replace hI := (hI.below hb).more (Below.size hb)
      replace hW := hW.trans (Below.mono hb hW.size)
      replace x0 := cellB hb x0
      replace x1 := cellB hb x1
      replace s0 := cellB hb s0
      replace s1 := cellB hb s1
      replace s2 := cellB hb s2
      replace s3 := cellB hb s3
      replace hR := hR.below hb hR.lt
      replace y0 := cellB hb y0
      replace y1 := cellB hb y1
      rw [val0_yes hV, val0_yes hV, validB_of hV, val0_yes HV2.out, val0_yes HV2.out, validB_of HV2.out, HM.out.2.2.1, HM.out.2.2.2.1]
      have HP := fun d os => MomentCross_c (n : Int) _ _ _ ((hI.rg (Nat.le_refl _) d os).more (rg_size _ d os))
      have HQ := fun d os => MomentCross_c (n : Int) _ _ _ (((hR.intsH (c := cg) HL2.out).rg (Nat.le_refl _) d os).more (rg_size _ d os))
      rw [val0_yes hV] at HP
      rw [val0_yes HV2.out, HM.out.2.2.2.2] at HQ
      have hcb := mom_bdS hV (f := f_MomentCross_1) bd_MomentCross_1
      obtain ⟨t, et⟩ : ∃ t, t = mom n ns f_MomentCross_1 := ⟨_, rfl⟩
      rw [← et] at hcb HP HQ
      obtain ⟨p, ep⟩ : ∃ p, p = t + q := ⟨_, rfl⟩
      rw [← ep] at HQ
      have ew : IntKind.i64.wrap (p - t) = q := by rw [show p - t = q by omega]; exact IntWalk.i64_in _ ⟨by omega, by omega⟩
      obtain ⟨t1, et1⟩ : ∃ t, t = mom n ns f_MomentSums_1 := ⟨_, rfl⟩
      obtain ⟨t2, et2⟩ : ∃ t, t = mom n ns f_MomentSums_2 := ⟨_, rfl⟩
      obtain ⟨t3, et3⟩ : ∃ t, t = mom n ns f_MomentSquares_1 := ⟨_, rfl⟩
      obtain ⟨t4, et4⟩ : ∃ t, t = mom n ns f_MomentSquares_2 := ⟨_, rfl⟩
      rw [← et1, ← et2, ← et3, ← et4]
      have k0 := cell_regrown x0
      have k1 := cell_regrown x1
      have k2 := cell_regrown y0
      have k3 := cell_regrown y1
      clear et ep et1 et2 et3 et4 HM
      go_wp2_with fail
      refine wp_region_quiet_below (by kernel_rfl) (by kernel_rfl) ?_
      repeat (first | go_big_quiet_step ((go_at_call 10; first | with_reducible exact Calls.rg (HP _ _) | with_reducible exact Calls.rg (HQ _ _))) | quiet_step ((go_at_call 10; first | with_reducible exact Calls.rg (HP _ _) | with_reducible exact Calls.rg (HQ _ _))))
      refine wpQuiet_nil ?_
      intro _ hw0
      obtain ⟨⟨dq, osq⟩, hw1⟩ := hw0
      subst hw1
      have hq := below_regrown wc dq osq
      generalize Go.Sort.grow (redrawn wc dq) osq = w9 at hq ⊢
      clear k0 k1 k2 k3 HP HQ ew
      replace hI := (hI.below hq).more (Below.size hq)
      replace hW := hW.trans (Below.mono hq hW.size)
      replace x0 := cellB hq x0
      replace x1 := cellB hq x1
      replace s0 := cellB hq s0
      replace s1 := cellB hq s1
      replace s2 := cellB hq s2
      replace s3 := cellB hq s3
      replace hR := hR.below hq hR.lt
      replace y0 := cellB hq y0
      replace y1 := cellB hq y1
      have hDD := HD.out.symm
      have ew1 : IntKind.i64.wrap ((b : Int) - (a : Int)) = (b : Int) - (a : Int) := IntWalk.i64_in _ ⟨by omega, by omega⟩
      have ew2 : IntKind.i64.wrap ((d : Int) - (c : Int)) = (d : Int) - (c : Int) := IntWalk.i64_in _ ⟨by omega, by omega⟩
      clear hq hcb
      rcases hSD with rfl | rfl
      · go_wp2
        go_returns
        exact ⟨rfl, hW⟩
      · go_wp2
        go_returns
        exact ⟨rfl, hW⟩
end Go.Proofs.Ytfkmkakdkocamaa
