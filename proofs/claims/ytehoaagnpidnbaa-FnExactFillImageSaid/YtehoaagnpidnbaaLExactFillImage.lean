/- The exact law of FillImage: implementation and specification agree at whatever sums, and the arguments stay as they were. Conditions: the slices read as lists of integers of length at most maxLen. -/
import Derived.Test.YtehoaagnpidnbaaFI10
import Derived.Test.YtehoaagnpidnbaaKM
import Derived.Test.YtehoaagnpidnbaaK7
import Derived.Test.YtehoaagnpidnbaaK6
namespace Go.Proofs.Ytehoaagnpidnbaa
open Go.RowKit
theorem Row.intsI3 {w : World} {g h c : Nat} {xs : List Int} (hr : Row w g xs) (hl : xs.length = h) : Ints w.heap.size w (.slice (some ⟨g, 0, none⟩) h c) xs := by
  have := hr.ints hr.lt c
  rw [hl] at this
  exact this
set_option maxHeartbeats 8000000 in
theorem exactFillImage_walk (u : Value) (rs : List Int) (hr : rs.length ≤ maxLen) (t : Value) (cs : List Int) (hc : cs.length ≤ maxLen) (w : World) (hu : Ints w.heap.size w u rs) (ht : Ints w.heap.size w t cs) :
    Calls Try.prog 3 #[u, t] w fun e w' => e = .returned (.bool true) ∧ Below w.heap.size w w' := by
  have s63 : rs.length ≤ 9223372036854775807 := Nat.le_trans hr (by decide)
  have c63 : cs.length ≤ 9223372036854775807 := Nat.le_trans hc (by decide)
  clear hr hc
  obtain ⟨B, cap1, rfl⟩ := hu.len
  obtain ⟨C, cap2, rfl⟩ := ht.len
  by_cases hb1 : 1048576 < rs.length
  · go_enter Try.func3, Try.ntmps3
    go_wp2
    go_returns
    exact ⟨rfl, Below.refl _ _⟩
  by_cases hb2 : 1048576 < cs.length
  · go_enter Try.func3, Try.ntmps3
    go_wp2
    go_returns
    exact ⟨rfl, Below.refl _ _⟩
  have hJ := Arg.new hu
  have hK := Arg.new ht
  have hW := Below.refl w.heap.size w
  have s20 : rs.length ≤ 2097152 := by omega
  have c20 : cs.length ≤ 2097152 := by omega
  clear hu ht
  go_enter Try.func3, Try.ntmps3
  go_wp2_with fail
  clear s63 c63
  refine (toIntS_c _ rs s20 _ hJ.ints).mono ?_
  rintro e wc ⟨g1, rfl, hg, hr1, hb⟩
  clear hg
  replace hJ := hJ.below hb
  replace hK := hK.below hb
  replace hW := hW.trans (Below.mono hb hW.size)
  go_wp2_with fail
  refine (toIntS_c _ cs c20 _ hK.ints).mono ?_
  rintro e wc ⟨g2, rfl, hg, hr2, hb⟩
  clear hg
  replace hJ := hJ.below hb
  replace hK := hK.below hb
  replace hW := hW.trans (Below.mono hb hW.size)
  replace hr1 := hr1.below hb hr1.lt
  go_wp2_with fail
  cases ho : filO rs cs with
  | none =>
    have HO := Lib.hid ho
    clear ho
    refine (sFillImage_o _ _ rs cs s20 c20 _ (hr1.ints hr1.lt _) (hr2.ints hr2.lt _)).mono ?_
    intro e wc hF
    rw [HO.out] at hF
    obtain ⟨rfl, hb⟩ := hF.no
    clear hr2
    replace hJ := hJ.below hb
    replace hK := hK.below hb
    replace hW := hW.trans (Below.mono hb hW.size)
    replace hr1 := hr1.below hb hr1.lt
    clear hr1
    obtain ⟨W1, e_W1⟩ : ∃ W0, W0 = World.alloc wc (.cells #[.int .i64 0, .slice none 0 0] 24) := ⟨_, rfl⟩
    have hx_W1 := Box2.new wc (.int .i64 0) (.slice none 0 0) 24
    have hb_W1 : Below (World.heap wc).size wc W1 := by rw [e_W1]; go_grown
    have HS_W1 := Lib.hid (show (World.heap W1).size = (World.heap wc).size + 1 by rw [e_W1]; simp)
    replace hJ := hJ.below hb_W1
    replace hK := hK.below hb_W1
    replace hW := hW.trans (Below.mono hb_W1 hW.size)
    have HE_W1 := Lib.hid e_W1
    clear e_W1
    go_wp2_with fail
    rw [← HE_W1.out] at hx_W1 ⊢
    clear HE_W1
    obtain ⟨hl_y, y0, y1⟩ := hx_W1
    obtain ⟨By, e_By⟩ : ∃ Bx, Bx = (World.heap wc).size := ⟨_, rfl⟩
    rw [← e_By] at hl_y y0 y1 hb_W1 HS_W1  ⊢
    have hz_By := hb_W1.size
    clear e_By hb_W1
    have a2 := lt_of_cell y0
    have aw := hW.size
    refine (toIntS_c _ rs s20 _ hJ.ints).mono ?_
    rintro e wc ⟨g1, rfl, hg1, hr1, hb⟩
    have b2 : By < g1 := by simp at a2; omega
    have bw : w.heap.size ≤ g1 := by omega
    clear a2 aw hg1
    replace hJ := hJ.below hb
    replace hK := hK.below hb
    replace hW := hW.trans (Below.mono hb hW.size)
    replace y0 := cellB hb y0
    replace y1 := cellB hb y1
    have d1 := hr1.lt
    go_wp2_with fail
    refine (toIntS_c _ cs c20 _ hK.ints).mono ?_
    rintro e wc ⟨g2, rfl, hg2, hr2, hb⟩
    have b5 : g1 < g2 := by omega
    clear hg2 d1
    replace hJ := hJ.below hb
    replace hK := hK.below hb
    replace hW := hW.trans (Below.mono hb hW.size)
    replace y0 := cellB hb y0
    replace y1 := cellB hb y1
    replace hr1 := hr1.below hb hr1.lt
    have d2 := hr2.lt
    go_wp2_with fail
    refine (FillImage_o _ _ rs cs s20 c20 _ (hr1.ints hr1.lt _) (hr2.ints hr2.lt _)).mono ?_
    intro e wc hF
    rw [HO.out] at hF
    obtain ⟨rfl, hb⟩ := hF.no
    have d3 : g2 < wc.heap.size := Nat.lt_of_lt_of_le d2 hb.size
    clear d2
    replace hJ := hJ.below hb
    replace hK := hK.below hb
    replace hW := hW.trans (Below.mono hb hW.size)
    replace y0 := cellB hb y0
    replace y1 := cellB hb y1
    replace hr1 := hr1.below hb hr1.lt
    replace hr2 := hr2.below hb hr2.lt
    obtain ⟨W3, e_W3⟩ : ∃ W0, W0 = World.alloc wc (.cells #[.int .i64 0, .slice none 0 0] 24) := ⟨_, rfl⟩
    have hx_W3 := Box2.new wc (.int .i64 0) (.slice none 0 0) 24
    have hb_W3 : Below (World.heap wc).size wc W3 := by rw [e_W3]; go_grown
    have HS_W3 := Lib.hid (show (World.heap W3).size = (World.heap wc).size + 1 by rw [e_W3]; simp)
    replace hJ := hJ.below hb_W3
    replace hK := hK.below hb_W3
    replace hW := hW.trans (Below.mono hb_W3 hW.size)
    replace y0 := cellB hb_W3 y0
    replace y1 := cellB hb_W3 y1
    replace hr1 := hr1.below hb_W3 hr1.lt
    replace hr2 := hr2.below hb_W3 hr2.lt
    have y0r := y0
    rw [e_W3] at y0r
    have y1r := y1
    rw [e_W3] at y1r
    have HE_W3 := Lib.hid e_W3
    clear e_W3
    go_wp2_with fail
    rw [← HE_W3.out] at hx_W3 ⊢
    clear y0r y1r
    clear HE_W3
    obtain ⟨hl_u, u0, u1⟩ := hx_W3
    obtain ⟨Bu, e_Bu⟩ : ∃ Bx, Bx = (World.heap wc).size := ⟨_, rfl⟩
    rw [← e_Bu] at hl_u u0 u1 hb_W3 HS_W3 d3 ⊢
    have hz_Bu := hb_W3.size
    clear e_Bu hb_W3
    refine (eqImage_c 0 0 _ _ [] [] (by simp) _ (.inl ⟨rfl, none, 0, rfl⟩) (.inl ⟨rfl, none, 0, rfl⟩)).mono ?_
    rintro e wc ⟨rfl, hb⟩
    replace hJ := hJ.below hb
    replace hK := hK.below hb
    replace hW := hW.trans (Below.mono hb hW.size)
    replace y0 := cellB hb y0
    replace y1 := cellB hb y1
    replace hr1 := hr1.below hb hr1.lt
    replace hr2 := hr2.below hb hr2.lt
    replace u0 := cellB hb u0
    replace u1 := cellB hb u1
    simp only [decide_true, and_self]
    go_wp2_with fail
    refine (toIntS_c _ rs s20 _ hJ.ints).mono ?_
    rintro e wc ⟨g7, rfl, hg, hr7, hb⟩
    clear hg
    replace hJ := hJ.below hb
    replace hK := hK.below hb
    replace hW := hW.trans (Below.mono hb hW.size)
    replace y0 := cellB hb y0
    replace y1 := cellB hb y1
    replace hr1 := hr1.below hb hr1.lt
    replace hr2 := hr2.below hb hr2.lt
    replace u0 := cellB hb u0
    replace u1 := cellB hb u1
    go_wp2_with fail
    refine (eqIntS_c _ _ rs rs s20 _ (hr1.ints hr1.lt _) (hr7.ints hr7.lt _)).mono ?_
    rintro e wc ⟨rfl, hb⟩
    replace hJ := hJ.below hb
    replace hK := hK.below hb
    replace hW := hW.trans (Below.mono hb hW.size)
    replace y0 := cellB hb y0
    replace y1 := cellB hb y1
    replace hr1 := hr1.below hb hr1.lt
    replace hr2 := hr2.below hb hr2.lt
    replace u0 := cellB hb u0
    replace u1 := cellB hb u1
    clear hr7
    simp only [decide_true]
    go_wp2_with fail
    refine (toIntS_c _ cs c20 _ hK.ints).mono ?_
    rintro e wc ⟨g8, rfl, hg, hr7, hb⟩
    clear hg
    replace hJ := hJ.below hb
    replace hK := hK.below hb
    replace hW := hW.trans (Below.mono hb hW.size)
    replace y0 := cellB hb y0
    replace y1 := cellB hb y1
    replace hr1 := hr1.below hb hr1.lt
    replace hr2 := hr2.below hb hr2.lt
    replace u0 := cellB hb u0
    replace u1 := cellB hb u1
    go_wp2_with fail
    refine (eqIntS_c _ _ cs cs c20 _ (hr2.ints hr2.lt _) (hr7.ints hr7.lt _)).mono ?_
    rintro e wc ⟨rfl, hb⟩
    replace hJ := hJ.below hb
    replace hK := hK.below hb
    replace hW := hW.trans (Below.mono hb hW.size)
    replace y0 := cellB hb y0
    replace y1 := cellB hb y1
    replace hr1 := hr1.below hb hr1.lt
    replace hr2 := hr2.below hb hr2.lt
    replace u0 := cellB hb u0
    replace u1 := cellB hb u1
    clear hr7
    simp only [decide_true]
    go_wp2_with fail
    refine (markIntS_c g1 rs.length rs.length 1 (by omega) (by omega) rs rfl s20 _ hr1).mono ?_
    rintro e wc ⟨rfl, hr1, hg⟩
    replace hJ := hJ.only hg (by first | assumption | omega | (simp; omega))
    replace hK := hK.only hg (by first | assumption | omega | (simp; omega))
    replace hW := bel_only hW hg (by first | assumption | omega | (simp; omega))
    replace y0 := cell_only hg y0 (by first | assumption | omega | (simp; omega))
    replace y1 := cell_only hg y1 (by first | assumption | omega | (simp; omega))
    replace hr2 := hr2.only hg (by first | assumption | omega | (simp; omega))
    replace u0 := cell_only hg u0 (by first | assumption | omega | (simp; omega))
    replace u1 := cell_only hg u1 (by first | assumption | omega | (simp; omega))
    clear hr1 hg
    go_wp2_with fail
    refine (markIntS_c g2 cs.length cs.length (1 + (rs.length : Int)) (by omega) (by omega) cs rfl c20 _ hr2).mono ?_
    rintro e wc ⟨rfl, hr2, hg⟩
    replace hJ := hJ.only hg (by first | assumption | omega | (simp; omega))
    replace hK := hK.only hg (by first | assumption | omega | (simp; omega))
    replace hW := bel_only hW hg (by first | assumption | omega | (simp; omega))
    replace y0 := cell_only hg y0 (by first | assumption | omega | (simp; omega))
    replace y1 := cell_only hg y1 (by first | assumption | omega | (simp; omega))
    replace u0 := cell_only hg u0 (by first | assumption | omega | (simp; omega))
    replace u1 := cell_only hg u1 (by first | assumption | omega | (simp; omega))
    clear hr2 hg
    have hp1 : ¬ (1 : Int) + (rs.length : Int) + (cs.length : Int) < 0 := by omega
    go_wp2_with fail
    refine (eqImage_c 0 0 _ _ [] [] (by simp) _ (.inl ⟨rfl, none, 0, rfl⟩) (.inl ⟨rfl, none, 0, rfl⟩)).mono ?_
    rintro e wc ⟨rfl, hb⟩
    replace hJ := hJ.below hb
    replace hK := hK.below hb
    replace hW := hW.trans (Below.mono hb hW.size)
    replace y0 := cellB hb y0
    replace y1 := cellB hb y1
    replace u0 := cellB hb u0
    replace u1 := cellB hb u1
    simp only [decide_true, and_self]
    go_wp2_with fail
    refine (markImage_0 0 none 0 1 _).mono ?_
    rintro e wc ⟨rfl, hb⟩
    replace hJ := hJ.below hb
    replace hK := hK.below hb
    replace hW := hW.trans (Below.mono hb hW.size)
    replace y0 := cellB hb y0
    replace y1 := cellB hb y1
    replace u0 := cellB hb u0
    replace u1 := cellB hb u1
    go_wp2_with fail
    refine (heldImage_0 0 none 0 1 (by omega) (by omega) _).mono ?_
    rintro e wc ⟨rfl, hb⟩
    replace hJ := hJ.below hb
    replace hK := hK.below hb
    replace hW := hW.trans (Below.mono hb hW.size)
    replace y0 := cellB hb y0
    replace y1 := cellB hb y1
    replace u0 := cellB hb u0
    replace u1 := cellB hb u1
    go_wp2_with fail
    refine (toIntS_c _ rs s20 _ hJ.ints).mono ?_
    rintro e wc ⟨g9, rfl, hg, hr1, hb⟩
    clear hg
    replace hJ := hJ.below hb
    replace hK := hK.below hb
    replace hW := hW.trans (Below.mono hb hW.size)
    replace y0 := cellB hb y0
    replace y1 := cellB hb y1
    replace u0 := cellB hb u0
    replace u1 := cellB hb u1
    go_wp2_with fail
    refine (toIntS_c _ cs c20 _ hK.ints).mono ?_
    rintro e wc ⟨g10, rfl, hg, hr2, hb⟩
    clear hg
    replace hJ := hJ.below hb
    replace hK := hK.below hb
    replace hW := hW.trans (Below.mono hb hW.size)
    replace y0 := cellB hb y0
    replace y1 := cellB hb y1
    replace u0 := cellB hb u0
    replace u1 := cellB hb u1
    replace hr1 := hr1.below hb hr1.lt
    go_wp2_with fail
    refine (FillImage_o _ _ rs cs s20 c20 _ (hr1.ints hr1.lt _) (hr2.ints hr2.lt _)).mono ?_
    intro e wc hF
    rw [HO.out] at hF
    obtain ⟨rfl, hb⟩ := hF.no
    clear hr2
    replace hJ := hJ.below hb
    replace hK := hK.below hb
    replace hW := hW.trans (Below.mono hb hW.size)
    replace y0 := cellB hb y0
    replace y1 := cellB hb y1
    replace u0 := cellB hb u0
    replace u1 := cellB hb u1
    replace hr1 := hr1.below hb hr1.lt
    clear hr1
    obtain ⟨W5, e_W5⟩ : ∃ W0, W0 = World.alloc wc (.cells #[.int .i64 0, .slice none 0 0] 24) := ⟨_, rfl⟩
    have hx_W5 := Box2.new wc (.int .i64 0) (.slice none 0 0) 24
    have hb_W5 : Below (World.heap wc).size wc W5 := by rw [e_W5]; go_grown
    have HS_W5 := Lib.hid (show (World.heap W5).size = (World.heap wc).size + 1 by rw [e_W5]; simp)
    replace hJ := hJ.below hb_W5
    replace hK := hK.below hb_W5
    replace hW := hW.trans (Below.mono hb_W5 hW.size)
    replace y0 := cellB hb_W5 y0
    replace y1 := cellB hb_W5 y1
    replace u0 := cellB hb_W5 u0
    replace u1 := cellB hb_W5 u1
    have y0r := y0
    rw [e_W5] at y0r
    have y1r := y1
    rw [e_W5] at y1r
    have u0r := u0
    rw [e_W5] at u0r
    have u1r := u1
    rw [e_W5] at u1r
    have HE_W5 := Lib.hid e_W5
    clear e_W5
    go_wp2_with fail
    rw [← HE_W5.out] at hx_W5 ⊢
    clear y0r y1r u0r u1r
    clear HE_W5
    obtain ⟨hl_v, v0, v1⟩ := hx_W5
    obtain ⟨Bv, e_Bv⟩ : ∃ Bx, Bx = (World.heap wc).size := ⟨_, rfl⟩
    rw [← e_Bv] at hl_v v0 v1 hb_W5 HS_W5  ⊢
    have hz_Bv := hb_W5.size
    clear e_Bv hb_W5
    refine (eqImage_c 0 0 _ _ [] [] (by simp) _ (.inl ⟨rfl, none, 0, rfl⟩) (.inl ⟨rfl, none, 0, rfl⟩)).mono ?_
    rintro e wc ⟨rfl, hb⟩
    replace hJ := hJ.below hb
    replace hK := hK.below hb
    replace hW := hW.trans (Below.mono hb hW.size)
    replace y0 := cellB hb y0
    replace y1 := cellB hb y1
    replace u0 := cellB hb u0
    replace u1 := cellB hb u1
    replace v0 := cellB hb v0
    replace v1 := cellB hb v1
    simp only [decide_true, and_self]
    go_wp2_with fail
    refine (heldImage_0 0 none 0 1 (by omega) (by omega) _).mono ?_
    rintro e wc ⟨rfl, hb⟩
    replace hJ := hJ.below hb
    replace hK := hK.below hb
    replace hW := hW.trans (Below.mono hb hW.size)
    replace y0 := cellB hb y0
    replace y1 := cellB hb y1
    replace u0 := cellB hb u0
    replace u1 := cellB hb u1
    replace v0 := cellB hb v0
    replace v1 := cellB hb v1
    go_wp2
    go_returns
    exact ⟨rfl, hW⟩
  | some ns =>
    have hnl := fil_len ho
    have n20 : ns.length ≤ 2097152 := by omega
    have HLC := Lib.hid (length_casts ns)
    clear hnl
    have HO := Lib.hid ho
    clear ho
    refine (sFillImage_o _ _ rs cs s20 c20 _ (hr1.ints hr1.lt _) (hr2.ints hr2.lt _)).mono ?_
    intro e wc hF
    rw [HO.out] at hF
    obtain ⟨gw, cw, rfl, hgw, hrw, hb⟩ := hF.img
    clear hr2 hgw
    replace hJ := hJ.below hb
    replace hK := hK.below hb
    replace hW := hW.trans (Below.mono hb hW.size)
    replace hr1 := hr1.below hb hr1.lt
    clear hr1
    obtain ⟨W1, e_W1⟩ : ∃ W0, W0 = World.alloc wc (.cells #[.int .i64 (cs.length : Int), .slice (some ⟨gw, 0, none⟩) ns.length cw] 24) := ⟨_, rfl⟩
    have hx_W1 := Box2.new wc (.int .i64 (cs.length : Int)) (.slice (some ⟨gw, 0, none⟩) ns.length cw) 24
    have hb_W1 : Below (World.heap wc).size wc W1 := by rw [e_W1]; go_grown
    have HS_W1 := Lib.hid (show (World.heap W1).size = (World.heap wc).size + 1 by rw [e_W1]; simp)
    replace hJ := hJ.below hb_W1
    replace hK := hK.below hb_W1
    replace hW := hW.trans (Below.mono hb_W1 hW.size)
    replace hrw := hrw.below hb_W1 hrw.lt
    have HE_W1 := Lib.hid e_W1
    clear e_W1
    go_wp2_with fail
    rw [← HE_W1.out] at hx_W1 ⊢
    clear HE_W1
    obtain ⟨hl_y, y0, y1⟩ := hx_W1
    obtain ⟨By, e_By⟩ : ∃ Bx, Bx = (World.heap wc).size := ⟨_, rfl⟩
    rw [← e_By] at hl_y y0 y1 hb_W1 HS_W1  ⊢
    have hz_By := hb_W1.size
    clear e_By hb_W1
    have a2 := lt_of_cell y0
    have a3 := hrw.lt
    have aw := hW.size
    refine (toIntS_c _ rs s20 _ hJ.ints).mono ?_
    rintro e wc ⟨g1, rfl, hg1, hr1, hb⟩
    have b2 : By < g1 := by simp at a2; omega
    have bw : w.heap.size ≤ g1 := by omega
    have b3 : gw < g1 := by omega
    clear a3
    clear a2 aw hg1
    replace hJ := hJ.below hb
    replace hK := hK.below hb
    replace hW := hW.trans (Below.mono hb hW.size)
    replace hrw := hrw.below hb hrw.lt
    replace y0 := cellB hb y0
    replace y1 := cellB hb y1
    have d1 := hr1.lt
    go_wp2_with fail
    refine (toIntS_c _ cs c20 _ hK.ints).mono ?_
    rintro e wc ⟨g2, rfl, hg2, hr2, hb⟩
    have b5 : g1 < g2 := by omega
    clear hg2 d1
    replace hJ := hJ.below hb
    replace hK := hK.below hb
    replace hW := hW.trans (Below.mono hb hW.size)
    replace hrw := hrw.below hb hrw.lt
    replace y0 := cellB hb y0
    replace y1 := cellB hb y1
    replace hr1 := hr1.below hb hr1.lt
    have d2 := hr2.lt
    go_wp2_with fail
    refine (FillImage_o _ _ rs cs s20 c20 _ (hr1.ints hr1.lt _) (hr2.ints hr2.lt _)).mono ?_
    intro e wc hF
    rw [HO.out] at hF
    obtain ⟨gr, cr, rfl, hgr, hrr, hb⟩ := hF.img
    have b4 : g2 < gr := by omega
    clear hgr d2
    replace hJ := hJ.below hb
    replace hK := hK.below hb
    replace hW := hW.trans (Below.mono hb hW.size)
    replace hrw := hrw.below hb hrw.lt
    replace y0 := cellB hb y0
    replace y1 := cellB hb y1
    replace hr1 := hr1.below hb hr1.lt
    replace hr2 := hr2.below hb hr2.lt
    have hgl2 := hrr.lt
    obtain ⟨W3, e_W3⟩ : ∃ W0, W0 = World.alloc wc (.cells #[.int .i64 (cs.length : Int), .slice (some ⟨gr, 0, none⟩) ns.length cr] 24) := ⟨_, rfl⟩
    have hx_W3 := Box2.new wc (.int .i64 (cs.length : Int)) (.slice (some ⟨gr, 0, none⟩) ns.length cr) 24
    have hb_W3 : Below (World.heap wc).size wc W3 := by rw [e_W3]; go_grown
    have HS_W3 := Lib.hid (show (World.heap W3).size = (World.heap wc).size + 1 by rw [e_W3]; simp)
    replace hJ := hJ.below hb_W3
    replace hK := hK.below hb_W3
    replace hW := hW.trans (Below.mono hb_W3 hW.size)
    replace hrw := hrw.below hb_W3 hrw.lt
    replace y0 := cellB hb_W3 y0
    replace y1 := cellB hb_W3 y1
    replace hr1 := hr1.below hb_W3 hr1.lt
    replace hr2 := hr2.below hb_W3 hr2.lt
    replace hrr := hrr.below hb_W3 hrr.lt
    have y0r := y0
    rw [e_W3] at y0r
    have y1r := y1
    rw [e_W3] at y1r
    have HE_W3 := Lib.hid e_W3
    clear e_W3
    go_wp2_with fail
    rw [← HE_W3.out] at hx_W3 ⊢
    clear y0r y1r
    clear HE_W3
    obtain ⟨hl_u, u0, u1⟩ := hx_W3
    obtain ⟨Bu, e_Bu⟩ : ∃ Bx, Bx = (World.heap wc).size := ⟨_, rfl⟩
    rw [← e_Bu] at hl_u u0 u1 hb_W3 HS_W3 hgl2 ⊢
    have hz_Bu := hb_W3.size
    clear e_Bu hb_W3
    refine (eqImage_c (cs.length : Int) cs.length _ _ (casts ns) (casts ns) (by rw [HLC.out]; exact n20) _ (hrr.intsH rfl) (hrw.intsH rfl)).mono ?_
    rintro e wc ⟨rfl, hb⟩
    replace hJ := hJ.below hb
    replace hK := hK.below hb
    replace hW := hW.trans (Below.mono hb hW.size)
    replace hrw := hrw.below hb hrw.lt
    replace y0 := cellB hb y0
    replace y1 := cellB hb y1
    replace hr1 := hr1.below hb hr1.lt
    replace hr2 := hr2.below hb hr2.lt
    replace hrr := hrr.below hb hrr.lt
    replace u0 := cellB hb u0
    replace u1 := cellB hb u1
    simp only [decide_true, and_self]
    go_wp2_with fail
    refine (toIntS_c _ rs s20 _ hJ.ints).mono ?_
    rintro e wc ⟨g7, rfl, hg, hr7, hb⟩
    clear hg
    replace hJ := hJ.below hb
    replace hK := hK.below hb
    replace hW := hW.trans (Below.mono hb hW.size)
    replace hrw := hrw.below hb hrw.lt
    replace y0 := cellB hb y0
    replace y1 := cellB hb y1
    replace hr1 := hr1.below hb hr1.lt
    replace hr2 := hr2.below hb hr2.lt
    replace hrr := hrr.below hb hrr.lt
    replace u0 := cellB hb u0
    replace u1 := cellB hb u1
    go_wp2_with fail
    refine (eqIntS_c _ _ rs rs s20 _ (hr1.ints hr1.lt _) (hr7.ints hr7.lt _)).mono ?_
    rintro e wc ⟨rfl, hb⟩
    replace hJ := hJ.below hb
    replace hK := hK.below hb
    replace hW := hW.trans (Below.mono hb hW.size)
    replace hrw := hrw.below hb hrw.lt
    replace y0 := cellB hb y0
    replace y1 := cellB hb y1
    replace hr1 := hr1.below hb hr1.lt
    replace hr2 := hr2.below hb hr2.lt
    replace hrr := hrr.below hb hrr.lt
    replace u0 := cellB hb u0
    replace u1 := cellB hb u1
    clear hr7
    simp only [decide_true]
    go_wp2_with fail
    refine (toIntS_c _ cs c20 _ hK.ints).mono ?_
    rintro e wc ⟨g8, rfl, hg, hr7, hb⟩
    clear hg
    replace hJ := hJ.below hb
    replace hK := hK.below hb
    replace hW := hW.trans (Below.mono hb hW.size)
    replace hrw := hrw.below hb hrw.lt
    replace y0 := cellB hb y0
    replace y1 := cellB hb y1
    replace hr1 := hr1.below hb hr1.lt
    replace hr2 := hr2.below hb hr2.lt
    replace hrr := hrr.below hb hrr.lt
    replace u0 := cellB hb u0
    replace u1 := cellB hb u1
    go_wp2_with fail
    refine (eqIntS_c _ _ cs cs c20 _ (hr2.ints hr2.lt _) (hr7.ints hr7.lt _)).mono ?_
    rintro e wc ⟨rfl, hb⟩
    replace hJ := hJ.below hb
    replace hK := hK.below hb
    replace hW := hW.trans (Below.mono hb hW.size)
    replace hrw := hrw.below hb hrw.lt
    replace y0 := cellB hb y0
    replace y1 := cellB hb y1
    replace hr1 := hr1.below hb hr1.lt
    replace hr2 := hr2.below hb hr2.lt
    replace hrr := hrr.below hb hrr.lt
    replace u0 := cellB hb u0
    replace u1 := cellB hb u1
    clear hr7
    simp only [decide_true]
    go_wp2_with fail
    refine (markIntS_c g1 rs.length rs.length 1 (by omega) (by omega) rs rfl s20 _ hr1).mono ?_
    rintro e wc ⟨rfl, hr1, hg⟩
    replace hJ := hJ.only hg (by first | assumption | omega | (simp; omega))
    replace hK := hK.only hg (by first | assumption | omega | (simp; omega))
    replace hW := bel_only hW hg (by first | assumption | omega | (simp; omega))
    replace hrw := hrw.only hg (by first | assumption | omega | (simp; omega))
    replace y0 := cell_only hg y0 (by first | assumption | omega | (simp; omega))
    replace y1 := cell_only hg y1 (by first | assumption | omega | (simp; omega))
    replace hr2 := hr2.only hg (by first | assumption | omega | (simp; omega))
    replace hrr := hrr.only hg (by first | assumption | omega | (simp; omega))
    replace u0 := cell_only hg u0 (by first | assumption | omega | (simp; omega))
    replace u1 := cell_only hg u1 (by first | assumption | omega | (simp; omega))
    clear hr1 hg
    go_wp2_with fail
    refine (markIntS_c g2 cs.length cs.length (1 + (rs.length : Int)) (by omega) (by omega) cs rfl c20 _ hr2).mono ?_
    rintro e wc ⟨rfl, hr2, hg⟩
    replace hJ := hJ.only hg (by first | assumption | omega | (simp; omega))
    replace hK := hK.only hg (by first | assumption | omega | (simp; omega))
    replace hW := bel_only hW hg (by first | assumption | omega | (simp; omega))
    replace hrw := hrw.only hg (by first | assumption | omega | (simp; omega))
    replace y0 := cell_only hg y0 (by first | assumption | omega | (simp; omega))
    replace y1 := cell_only hg y1 (by first | assumption | omega | (simp; omega))
    replace hrr := hrr.only hg (by first | assumption | omega | (simp; omega))
    replace u0 := cell_only hg u0 (by first | assumption | omega | (simp; omega))
    replace u1 := cell_only hg u1 (by first | assumption | omega | (simp; omega))
    clear hr2 hg
    have hp1 : ¬ (1 : Int) + (rs.length : Int) + (cs.length : Int) < 0 := by omega
    go_wp2_with fail
    refine (eqImage_c (cs.length : Int) cs.length _ _ (casts ns) (casts ns) (by rw [HLC.out]; exact n20) _ (hrr.intsH rfl) (hrw.intsH rfl)).mono ?_
    rintro e wc ⟨rfl, hb⟩
    replace hJ := hJ.below hb
    replace hK := hK.below hb
    replace hW := hW.trans (Below.mono hb hW.size)
    replace hrw := hrw.below hb hrw.lt
    replace y0 := cellB hb y0
    replace y1 := cellB hb y1
    replace hrr := hrr.below hb hrr.lt
    replace u0 := cellB hb u0
    replace u1 := cellB hb u1
    simp only [decide_true, and_self]
    go_wp2_with fail
    refine (markImage_c (cs.length : Int) gr ns.length cr 1 (by omega) (by omega) (casts ns) HLC.out n20 _ hrr).mono ?_
    rintro e wc ⟨rfl, hrm, hg⟩
    clear hrr
    replace hJ := hJ.only hg (by first | assumption | omega | (simp; omega))
    replace hK := hK.only hg (by first | assumption | omega | (simp; omega))
    replace hW := bel_only hW hg (by first | assumption | omega | (simp; omega))
    replace hrw := hrw.only hg (by first | assumption | omega | (simp; omega))
    replace y0 := cell_only hg y0 (by first | assumption | omega | (simp; omega))
    replace y1 := cell_only hg y1 (by first | assumption | omega | (simp; omega))
    replace u0 := cell_only hg u0 (by first | assumption | omega | (simp; omega))
    replace u1 := cell_only hg u1 (by first | assumption | omega | (simp; omega))
    clear hg
    go_wp2_with fail
    refine (heldImage_c (cs.length : Int) _ ns.length 1 (by omega) (by omega) n20 _ (hrm.intsI3 (c := cr) (markL_len _ _))).mono ?_
    rintro e wc ⟨rfl, hb⟩
    replace hJ := hJ.below hb
    replace hK := hK.below hb
    replace hW := hW.trans (Below.mono hb hW.size)
    replace hrw := hrw.below hb hrw.lt
    replace y0 := cellB hb y0
    replace y1 := cellB hb y1
    replace u0 := cellB hb u0
    replace u1 := cellB hb u1
    replace hrm := hrm.below hb hrm.lt
    go_wp2_with fail
    refine (toIntS_c _ rs s20 _ hJ.ints).mono ?_
    rintro e wc ⟨g9, rfl, hg, hr1, hb⟩
    clear hg
    replace hJ := hJ.below hb
    replace hK := hK.below hb
    replace hW := hW.trans (Below.mono hb hW.size)
    replace hrw := hrw.below hb hrw.lt
    replace y0 := cellB hb y0
    replace y1 := cellB hb y1
    replace u0 := cellB hb u0
    replace u1 := cellB hb u1
    replace hrm := hrm.below hb hrm.lt
    go_wp2_with fail
    refine (toIntS_c _ cs c20 _ hK.ints).mono ?_
    rintro e wc ⟨g10, rfl, hg, hr2, hb⟩
    clear hg
    replace hJ := hJ.below hb
    replace hK := hK.below hb
    replace hW := hW.trans (Below.mono hb hW.size)
    replace hrw := hrw.below hb hrw.lt
    replace y0 := cellB hb y0
    replace y1 := cellB hb y1
    replace u0 := cellB hb u0
    replace u1 := cellB hb u1
    replace hrm := hrm.below hb hrm.lt
    replace hr1 := hr1.below hb hr1.lt
    go_wp2_with fail
    refine (FillImage_o _ _ rs cs s20 c20 _ (hr1.ints hr1.lt _) (hr2.ints hr2.lt _)).mono ?_
    intro e wc hF
    rw [HO.out] at hF
    obtain ⟨gh, ch, rfl, hgh, hrh, hb⟩ := hF.img
    clear hr2 hgh
    replace hJ := hJ.below hb
    replace hK := hK.below hb
    replace hW := hW.trans (Below.mono hb hW.size)
    replace hrw := hrw.below hb hrw.lt
    replace y0 := cellB hb y0
    replace y1 := cellB hb y1
    replace u0 := cellB hb u0
    replace u1 := cellB hb u1
    replace hrm := hrm.below hb hrm.lt
    replace hr1 := hr1.below hb hr1.lt
    clear hr1
    obtain ⟨W5, e_W5⟩ : ∃ W0, W0 = World.alloc wc (.cells #[.int .i64 (cs.length : Int), .slice (some ⟨gh, 0, none⟩) ns.length ch] 24) := ⟨_, rfl⟩
    have hx_W5 := Box2.new wc (.int .i64 (cs.length : Int)) (.slice (some ⟨gh, 0, none⟩) ns.length ch) 24
    have hb_W5 : Below (World.heap wc).size wc W5 := by rw [e_W5]; go_grown
    have HS_W5 := Lib.hid (show (World.heap W5).size = (World.heap wc).size + 1 by rw [e_W5]; simp)
    replace hJ := hJ.below hb_W5
    replace hK := hK.below hb_W5
    replace hW := hW.trans (Below.mono hb_W5 hW.size)
    replace hrw := hrw.below hb_W5 hrw.lt
    replace y0 := cellB hb_W5 y0
    replace y1 := cellB hb_W5 y1
    replace u0 := cellB hb_W5 u0
    replace u1 := cellB hb_W5 u1
    replace hrm := hrm.below hb_W5 hrm.lt
    replace hrh := hrh.below hb_W5 hrh.lt
    have y0r := y0
    rw [e_W5] at y0r
    have y1r := y1
    rw [e_W5] at y1r
    have u0r := u0
    rw [e_W5] at u0r
    have u1r := u1
    rw [e_W5] at u1r
    have HE_W5 := Lib.hid e_W5
    clear e_W5
    go_wp2_with fail
    rw [← HE_W5.out] at hx_W5 ⊢
    clear y0r y1r u0r u1r
    clear HE_W5
    obtain ⟨hl_v, v0, v1⟩ := hx_W5
    obtain ⟨Bv, e_Bv⟩ : ∃ Bx, Bx = (World.heap wc).size := ⟨_, rfl⟩
    rw [← e_Bv] at hl_v v0 v1 hb_W5 HS_W5  ⊢
    have hz_Bv := hb_W5.size
    clear e_Bv hb_W5
    refine (eqImage_c (cs.length : Int) cs.length _ _ (casts ns) (casts ns) (by rw [HLC.out]; exact n20) _ (hrh.intsH rfl) (hrw.intsH rfl)).mono ?_
    rintro e wc ⟨rfl, hb⟩
    replace hJ := hJ.below hb
    replace hK := hK.below hb
    replace hW := hW.trans (Below.mono hb hW.size)
    replace hrw := hrw.below hb hrw.lt
    replace y0 := cellB hb y0
    replace y1 := cellB hb y1
    replace u0 := cellB hb u0
    replace u1 := cellB hb u1
    replace hrm := hrm.below hb hrm.lt
    replace hrh := hrh.below hb hrh.lt
    replace v0 := cellB hb v0
    replace v1 := cellB hb v1
    simp only [decide_true, and_self]
    go_wp2_with fail
    refine (heldImage_c (cs.length : Int) _ ns.length 1 (by omega) (by omega) n20 _ (hrm.intsI3 (c := cr) (markL_len _ _))).mono ?_
    rintro e wc ⟨rfl, hb⟩
    replace hJ := hJ.below hb
    replace hK := hK.below hb
    replace hW := hW.trans (Below.mono hb hW.size)
    replace hrw := hrw.below hb hrw.lt
    replace y0 := cellB hb y0
    replace y1 := cellB hb y1
    replace u0 := cellB hb u0
    replace u1 := cellB hb u1
    replace hrm := hrm.below hb hrm.lt
    replace hrh := hrh.below hb hrh.lt
    replace v0 := cellB hb v0
    replace v1 := cellB hb v1
    go_wp2
    go_returns
    exact ⟨rfl, hW⟩
end Go.Proofs.Ytehoaagnpidnbaa
