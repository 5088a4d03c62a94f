/- Contracts of switched, l11Do and SwitchDo. Conditions: the switch's numbers are naturals up to 6. -/
import Derived.Test.YtfkmkakdkocamaaSW1
import Derived.Test.YtfkmkakdkocamaaK5
namespace Go.Proofs.Ytfkmkakdkocamaa
open Go.RowKit
theorem sh_pwS {j : Nat} (hj : j < 6) : wrap64 (2 ^ j) = pw j := by
  have h := pw_6 (k := j) (by omega)
  have h1 := pw_pos j
  have e : (2 : Int) ^ j = pw j := by unfold pw; simp
  rw [e]
  exact IntWalk.wrap64_in _ ⟨by omega, by omega⟩
theorem sw_val {r c d : Nat} (hr : r < 64) (hc : c < 6) (hd : d < 6) : bits .xor .i64 (r : Int) (bits .or .i64 (pw c) (pw d)) = ((r ^^^ mask2 c d : Nat) : Int) := by
  have h1 := Nat.pow_lt_pow_right (a := 2) (by omega) hc
  have h2 := Nat.pow_lt_pow_right (a := 2) (by omega) hd
  have h3 := mask2_lt hc hd
  have e : bits .or .i64 (pw c) (pw d) = ((mask2 c d : Nat) : Int) := i64_or_nat (2 ^ c) (2 ^ d) (by omega) (by omega)
  rw [e]
  exact i64_xor_nat r (mask2 c d) (by omega) (by omega)
theorem xorL_64 {ns : List Nat} {i c d : Nat} (h : ∀ j, ns.getD j 0 < 64) (hc : c < 6) (hd : d < 6) (j : Nat) : (xorL ns i (mask2 c d)).getD j 0 < 64 := by
  unfold xorL
  by_cases e : i < ns.length
  · rw [List.getD_eq_getElem?_getD]
    by_cases e2 : i = j
    · subst e2
      rw [List.getElem?_set_self e, Option.getD_some]
      exact Nat.xor_lt_two_pow (n := 6) (h i) (mask2_lt hc hd)
    · rw [List.getElem?_set_ne e2, ← List.getD_eq_getElem?_getD]
      exact h j
  · rw [List.set_eq_of_length_le (by omega)]
    exact h j
set_option maxRecDepth 100000 in
set_option maxHeartbeats 4000000 in
theorem switched_c (n : Nat) (v : Value) (ns : List Nat) (hV : VImg n ns) (a b c d : Nat) (hsw : swB n ns a b c d = true) (w : World) (hv : Ints w.heap.size w v (casts ns)) :
    Calls Try.prog 13 #[.agg #[.int .i64 (n : Int), v], swV a b c d] w fun e w' => ∃ g c', e = .returned (.agg #[.int .i64 (n : Int), .slice (some ⟨g, 0, none⟩) ns.length c']) ∧ w.heap.size ≤ g ∧ Row w' g (casts (swL ns a b c d)) ∧ Below w.heap.size w w' := by
  obtain ⟨A, cap, rfl⟩ := hv.len
  rw [length_casts] at hv ⊢
  have h6 := hV.h6
  have w6 := hV.w6
  have hr := hV.get64
  have hin : swIn n ns a b c d = true := by unfold swB at hsw; exact (Bool.and_eq_true_iff.1 hsw).1
  obtain ⟨c1, c2, c3, c4⟩ := swIn_iff.1 hin
  have hX := swX hV hsw
  have hr2 := fun j => xorL_64 (i := a) hr (show c < 6 by omega) (show d < 6 by omega) j
  have hva := sw_val (hr a) (show c < 6 by omega) (show d < 6 by omega)
  have hvb := sw_val (hr2 b) (show c < 6 by omega) (show d < 6 by omega)
  have hs1 := sh_pwS (show c < 6 by omega)
  have hs2 := sh_pwS (show d < 6 by omega)
  obtain ⟨W0, eW⟩ : ∃ W, W = ((w.alloc (.cells #[.int .i64 (n : Int), .slice A ns.length cap] 25)).alloc (.cells #[.int .i64 (a : Int), .int .i64 (b : Int), .int .i64 (c : Int), .int .i64 (d : Int)] 27)).alloc (.cells #[.int .i64 0, .slice none 0 0] 25) := ⟨_, rfl⟩
  have hW : Below w.heap.size w W0 := by rw [eW]; go_grown
  have x0 : W0.cell? ⟨w.heap.size, 0, none⟩ = some (.int .i64 (n : Int)) := by rw [eW]; go_cell
  have x1 : W0.cell? ⟨w.heap.size, 1, none⟩ = some (.slice A ns.length cap) := by rw [eW]; go_cell
  have s0 : W0.cell? ⟨w.heap.size + 1, 0, none⟩ = some (.int .i64 (a : Int)) := by rw [eW]; go_cell
  have s1 : W0.cell? ⟨w.heap.size + 1, 1, none⟩ = some (.int .i64 (b : Int)) := by rw [eW]; go_cell
  have s2 : W0.cell? ⟨w.heap.size + 1, 2, none⟩ = some (.int .i64 (c : Int)) := by rw [eW]; go_cell
  have s3 : W0.cell? ⟨w.heap.size + 1, 3, none⟩ = some (.int .i64 (d : Int)) := by rw [eW]; go_cell
  have r0 : W0.cell? ⟨w.heap.size + 1 + 1, 0, none⟩ = some (.int .i64 0) := by rw [eW]; go_cell
  have r1 : W0.cell? ⟨w.heap.size + 1 + 1, 1, none⟩ = some (.slice none 0 0) := by rw [eW]; go_cell
  have rf0 : W0.frozen? ⟨w.heap.size + 1 + 1, 0, none⟩ = false := by rw [eW]; go_cell
  have rf1 : W0.frozen? ⟨w.heap.size + 1 + 1, 1, none⟩ = false := by rw [eW]; go_cell
  have hsz : w.heap.size + 3 ≤ W0.heap.size := by rw [eW]; simp
  have hI := (Arg.new hv).below hW
  have HK := Lib.hid (And.intro hX (And.intro hva (And.intro hvb (And.intro hs1 (And.intro hs2 (And.intro hr hr2))))))
  clear hv hin hsw hX hva hvb hs1 hs2 hr hr2
  unfold swV
  go_enter Try.func13, Try.ntmps13
  go_wp2_with fail
  rw [← eW]
  clear eW
  refine (clone_c (n : Int) _ (casts ns) (by rw [length_casts]; exact hV.h1) (by rw [length_casts]; omega) W0 hI.ints).mono ?_
  rintro e wc ⟨g, cg, rfl, hg, hR, hb⟩
  rw [length_casts]
  have hgw : w.heap.size + 3 ≤ g := by omega
  have hgl := hR.lt
  clear hg
  replace x0 := cellB hb x0
  replace x1 := cellB hb x1
  replace s0 := cellB hb s0
  replace s1 := cellB hb s1
  replace s2 := cellB hb s2
  replace s3 := cellB hb s3
  replace rf0 := frozenB hb r0 rf0
  replace r0 := cellB hb r0
  replace rf1 := frozenB hb r1 rf1
  replace r1 := cellB hb r1
  replace hI := hI.below hb
  replace hW := hW.trans (Below.mono hb hW.size)
  replace hsz := Nat.le_trans hsz hb.size
  obtain ⟨W1, e_W1⟩ : ∃ W0, W0 = World.alloc wc (.cells #[.int .i64 (n : Int), .slice (some ⟨g, 0, none⟩) ns.length cg] 25) := ⟨_, rfl⟩
  have hx_W1 := Box2.new wc (.int .i64 (n : Int)) (.slice (some ⟨g, 0, none⟩) ns.length cg) 25
  have hb_W1 : Below (World.heap wc).size wc W1 := by rw [e_W1]; go_grown
  have HS_W1 := Lib.hid (show (World.heap W1).size = (World.heap wc).size + 1 by rw [e_W1]; simp)
  replace x0 := cellB hb_W1 x0
  replace x1 := cellB hb_W1 x1
  replace s0 := cellB hb_W1 s0
  replace s1 := cellB hb_W1 s1
  replace s2 := cellB hb_W1 s2
  replace s3 := cellB hb_W1 s3
  replace rf0 := frozenB hb_W1 r0 rf0
  replace r0 := cellB hb_W1 r0
  replace rf1 := frozenB hb_W1 r1 rf1
  replace r1 := cellB hb_W1 r1
  replace hI := hI.below hb_W1
  replace hW := hW.trans (Below.mono hb_W1 hW.size)
  replace hsz := Nat.le_trans hsz hb_W1.size
  replace hR := hR.below hb_W1 hR.lt
  have x0r := x0
  rw [e_W1] at x0r
  have x1r := x1
  rw [e_W1] at x1r
  have s0r := s0
  rw [e_W1] at s0r
  have s1r := s1
  rw [e_W1] at s1r
  have s2r := s2
  rw [e_W1] at s2r
  have s3r := s3
  rw [e_W1] at s3r
  have HE_W1 := Lib.hid e_W1
  clear e_W1
  go_wp2_with fail
  rw [← HE_W1.out] at hx_W1 ⊢
  clear x0r x1r s0r s1r s2r s3r
  clear HE_W1
  obtain ⟨hl_y, y0, y1⟩ := hx_W1
  obtain ⟨By, e_By⟩ : ∃ Bx, Bx = (World.heap wc).size := ⟨_, rfl⟩
  rw [← e_By] at hl_y y0 y1 hb_W1 HS_W1 hgl ⊢
  have hz_By := hb_W1.size
  clear e_By hb_W1
  have hyg : By ≠ g := by omega
  have hca := hR.cell (k := a) (by rw [length_casts]; omega)
  rw [casts_getD] at hca
  have hset := fun W (hW : Row W g (casts ns)) => hW.set (k := a) (by rw [length_casts]; omega) ((ns.getD a 0 ^^^ mask2 c d : Nat) : Int)
  simp only [casts_set] at hset
  obtain ⟨r, er⟩ : ∃ r, r = ns.getD a 0 := ⟨_, rfl⟩
  have hv1 := HK.out.2.1
  rw [← er] at hca hv1 hset
  rw [← HK.out.2.2.2.1, ← HK.out.2.2.2.2.1] at hv1
  have hms : ns.set a (r ^^^ mask2 c d) = xorL ns a (mask2 c d) := by rw [er]; rfl
  rw [hms] at hset
  have HV := Lib.hid (And.intro hv1 hset)
  have k1 := cell_regrown y1
  have k2 := cell_regrown s0
  have k3 := cell_regrown s2
  have k4 := cell_regrown s3
  have k5 := cell_regrown hca
  clear er hset hv1 hms
  refine wp_region_below_tail 15 (by kernel_rfl) (by kernel_rfl) ?_
  simp only [List.take_succ_cons, List.take_zero, List.drop_succ_cons, List.drop_zero]
  repeat (first | go_big_quiet_step (fail) | quiet_step (fail))
  refine wpQuiet_nil ?_
  intro _ hw0
  obtain ⟨⟨dq, osq⟩, hw1⟩ := hw0
  subst hw1
  have hq := below_regrown W1 dq osq
  generalize Go.Sort.grow (redrawn W1 dq) osq = w2 at hq ⊢
  clear k1 k2 k3 k4 k5
  have hca2 := cellB hq hca
  clear hca
  replace x0 := cellB hq x0
  replace x1 := cellB hq x1
  replace s0 := cellB hq s0
  replace s1 := cellB hq s1
  replace s2 := cellB hq s2
  replace s3 := cellB hq s3
  replace rf0 := frozenB hq r0 rf0
  replace r0 := cellB hq r0
  replace rf1 := frozenB hq r1 rf1
  replace r1 := cellB hq r1
  replace hI := hI.below hq
  replace hW := hW.trans (Below.mono hq hW.size)
  replace hsz := Nat.le_trans hsz hq.size
  replace hR := hR.below hq hR.lt
  replace y0 := cellB hq y0
  replace y1 := cellB hq y1
  clear hq
  have hfa := hR.frozen a
  go_wp2_with fail
  rw [HV.out.1]
  clear hfa hca2
  obtain ⟨W3, eW3⟩ : ∃ W3, W3 = w2.setCell ⟨g, a, none⟩ (.int .i64 ((r ^^^ mask2 c d : Nat) : Int)) := ⟨_, rfl⟩
  have hR3 := HV.out.2 w2 hR
  have hgr : w2.grownBy W3 (some g) := by rw [eW3]; exact only_setCell (World.grownBy.refl _ _) (.inl rfl) _
  rw [← eW3] at hR3 ⊢
  clear eW3 hR HV
  replace x0 := cell_only hgr x0 (by first | assumption | omega | (simp; omega))
  replace x1 := cell_only hgr x1 (by first | assumption | omega | (simp; omega))
  replace s0 := cell_only hgr s0 (by first | assumption | omega | (simp; omega))
  replace s1 := cell_only hgr s1 (by first | assumption | omega | (simp; omega))
  replace s2 := cell_only hgr s2 (by first | assumption | omega | (simp; omega))
  replace s3 := cell_only hgr s3 (by first | assumption | omega | (simp; omega))
  replace rf0 := frozen_only hgr r0 (by first | assumption | omega | (simp; omega)) rf0
  replace r0 := cell_only hgr r0 (by first | assumption | omega | (simp; omega))
  replace rf1 := frozen_only hgr r1 (by first | assumption | omega | (simp; omega)) rf1
  replace r1 := cell_only hgr r1 (by first | assumption | omega | (simp; omega))
  replace hI := hI.only hgr (by first | assumption | omega | (simp; omega))
  replace hW := bel_only hW hgr (by first | assumption | omega | (simp; omega))
  replace hsz := Nat.le_trans hsz hgr.size
  replace y0 := cell_only hgr y0 (by first | assumption | omega | (simp; omega))
  replace y1 := cell_only hgr y1 (by first | assumption | omega | (simp; omega))
  clear hgr
  have hcb := hR3.cell (k := b) (by rw [length_casts, length_xorL]; omega)
  rw [casts_getD] at hcb
  have hset := fun W (hW : Row W g (casts (xorL ns a (mask2 c d)))) => hW.set (k := b) (by rw [length_casts, length_xorL]; omega) (((xorL ns a (mask2 c d)).getD b 0 ^^^ mask2 c d : Nat) : Int)
  simp only [casts_set] at hset
  obtain ⟨q, eq⟩ : ∃ q, q = (xorL ns a (mask2 c d)).getD b 0 := ⟨_, rfl⟩
  have hv1 := HK.out.2.2.1
  rw [← eq] at hcb hv1 hset
  rw [← HK.out.2.2.2.1, ← HK.out.2.2.2.2.1] at hv1
  have hms : (xorL ns a (mask2 c d)).set b (q ^^^ mask2 c d) = swL ns a b c d := by rw [eq]; exact HK.out.1
  rw [hms] at hset
  have HV := Lib.hid (And.intro hv1 hset)
  have k1 := cell_regrown y1
  have k2 := cell_regrown s1
  have k3 := cell_regrown s2
  have k4 := cell_regrown s3
  have k5 := cell_regrown hcb
  clear eq hset hv1 hms
  refine wp_region_below_tail 15 (by kernel_rfl) (by kernel_rfl) ?_
  simp only [List.take_succ_cons, List.take_zero, List.drop_succ_cons, List.drop_zero]
  repeat (first | go_big_quiet_step (fail) | quiet_step (fail))
  refine wpQuiet_nil ?_
  intro _ hw0
  obtain ⟨⟨dq, osq⟩, hw1⟩ := hw0
  subst hw1
  have hq := below_regrown W3 dq osq
  generalize Go.Sort.grow (redrawn W3 dq) osq = w4 at hq ⊢
  clear k1 k2 k3 k4 k5
  have hcb2 := cellB hq hcb
  clear hcb
  replace x0 := cellB hq x0
  replace x1 := cellB hq x1
  replace s0 := cellB hq s0
  replace s1 := cellB hq s1
  replace s2 := cellB hq s2
  replace s3 := cellB hq s3
  replace rf0 := frozenB hq r0 rf0
  replace r0 := cellB hq r0
  replace rf1 := frozenB hq r1 rf1
  replace r1 := cellB hq r1
  replace hI := hI.below hq
  replace hW := hW.trans (Below.mono hq hW.size)
  replace hsz := Nat.le_trans hsz hq.size
  replace y0 := cellB hq y0
  replace y1 := cellB hq y1
  replace hR3 := hR3.below hq hR3.lt
  clear hq
  have hfb := hR3.frozen b
  have hR5 := HV.out.2 w4 hR3
  have hy0 := hR3
  obtain ⟨W5, eW5⟩ : ∃ W5, W5 = w4.setCell ⟨g, b, none⟩ (.int .i64 ((q ^^^ mask2 c d : Nat) : Int)) := ⟨_, rfl⟩
  have hgr : w4.grownBy W5 (some g) := by rw [eW5]; exact only_setCell (World.grownBy.refl _ _) (.inl rfl) _
  have z0 := cell_only hgr y0 hyg
  have z1 := cell_only hgr y1 hyg
  have zr0 := cell_only hgr r0 (show w.heap.size + 1 + 1 ≠ g by omega)
  have zr1 := cell_only hgr r1 (show w.heap.size + 1 + 1 ≠ g by omega)
  have zf0 := frozen_only hgr r0 (show w.heap.size + 1 + 1 ≠ g by omega) rf0
  have zf1 := frozen_only hgr r1 (show w.heap.size + 1 + 1 ≠ g by omega) rf1
  have hW5 := bel_only hW hgr (by omega)
  rw [← eW5] at hR5
  have eW6 := eW5
  rw [← HV.out.1] at eW6
  rw [eW6] at z0 z1 zr0 zr1 zf0 zf1
  obtain ⟨q0, q1⟩ := set2_get (x := .int .i64 (n : Int)) (y := .slice (some ⟨g, 0, none⟩) ns.length cg) zr0 zr1
  have HW6 := Lib.hid eW6
  have HO := Lib.hid (And.intro ((hR5.far (p := ⟨w.heap.size + 1 + 1, 0, none⟩) (by simp; omega) (.int .i64 (n : Int))).far (p := ⟨w.heap.size + 1 + 1, 1, none⟩) (by simp; omega) (.slice (some ⟨g, 0, none⟩) ns.length cg)) ((hW5.setCell (p := ⟨w.heap.size + 1 + 1, 0, none⟩) (by simp; omega) (.int .i64 (n : Int))).setCell (p := ⟨w.heap.size + 1 + 1, 1, none⟩) (by simp; omega) (.slice (some ⟨g, 0, none⟩) ns.length cg)))
  rw [eW6] at HO
  clear eW5 eW6 hR5 hR3 hgr hy0 hW5 hW HW6 HV hI x0 x1 s0 s1 s2 s3 y0 y1 r0 r1 rf0 rf1
  go_wp2
  refine bodyPost_ret (res_img rfl _ _ rfl q0 q1) rfl ?_
  exact ⟨g, cg, rfl, by omega, HO.out.1, HO.out.2⟩
end Go.Proofs.Ytfkmkakdkocamaa
