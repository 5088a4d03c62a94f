/- The exact law of FillFits: implementation and specification agree at whatever image and sums, and the arguments stay as they were. Conditions: the slices read as lists of integers of length at most maxLen. -/
import Derived.Test.YtodofomcoolbhaaFD
import Derived.Test.YtodofomcoolbhaaK7
import Derived.Test.YtodofomcoolbhaaK6
namespace Go.Proofs.Ytodofomcoolbhaa
open Go.RowKit
set_option maxHeartbeats 4000000 in
theorem exactFillFits_walk (W : Int) (v : Value) (rows : List Int) (hrw : rows.length ≤ maxLen) (u : Value) (rs : List Int) (hr : rs.length ≤ maxLen) (t : Value) (cs : List Int) (hc : cs.length ≤ maxLen) (w : World) (hv : Ints w.heap.size w v rows) (hu : Ints w.heap.size w u rs) (ht : Ints w.heap.size w t cs) :
    Calls Try.prog 3 #[.agg #[.int .i64 W, v], u, t] w fun e w' => e = .returned (.bool true) ∧ Below w.heap.size w w' := by
  have r63 : rows.length ≤ 9223372036854775807 := Nat.le_trans hrw (by decide)
  have s63 : rs.length ≤ 9223372036854775807 := Nat.le_trans hr (by decide)
  have c63 : cs.length ≤ 9223372036854775807 := Nat.le_trans hc (by decide)
  clear hrw hr hc
  obtain ⟨A, cap, rfl⟩ := hv.len
  obtain ⟨B, cap1, rfl⟩ := hu.len
  obtain ⟨C, cap2, rfl⟩ := ht.len
  by_cases hb1 : 1048576 < rs.length
  · go_enter Try.func3, Try.ntmps3
    go_wp2
    go_returns
    exact ⟨rfl, by go_grown⟩
  by_cases hb2 : 1048576 < cs.length
  · go_enter Try.func3, Try.ntmps3
    go_wp2
    go_returns
    exact ⟨rfl, by go_grown⟩
  have hI := Arg.new hv
  have hJ := Arg.new hu
  have hK := Arg.new ht
  have hW := Below.refl w.heap.size w
  clear hv hu ht
  go_enter Try.func3, Try.ntmps3
  obtain ⟨W0, e_W0⟩ : ∃ W0, W0 = World.alloc w (.cells #[.int .i64 W, .slice A rows.length cap] 24) := ⟨_, rfl⟩
  have hx_W0 := Box2.new w (.int .i64 W) (.slice A rows.length cap) 24
  have hb_W0 : Below (World.heap w).size w W0 := by rw [e_W0]; go_grown
  have HS_W0 := Lib.hid (show (World.heap W0).size = (World.heap w).size + 1 by rw [e_W0]; simp)
  replace hI := hI.below hb_W0
  replace hJ := hJ.below hb_W0
  replace hK := hK.below hb_W0
  replace hW := hW.trans (Below.mono hb_W0 hW.size)
  have HE_W0 := Lib.hid e_W0
  clear e_W0
  go_wp2_with fail
  rw [← HE_W0.out] at hx_W0 ⊢
  clear HE_W0
  obtain ⟨hl_x, x0, x1⟩ := hx_W0
  obtain ⟨Bx, e_Bx⟩ : ∃ Bx, Bx = (World.heap w).size := ⟨_, rfl⟩
  rw [← e_Bx] at hl_x x0 x1 hb_W0 HS_W0  ⊢
  have hz_Bx := hb_W0.size
  clear e_Bx hb_W0
  refine (szImage_c W _ rows 1048576 (by omega) (by omega) r63 _ hI.ints).mono ?_
  rintro e wc ⟨rfl, hb⟩
  replace hI := hI.below hb
  replace hJ := hJ.below hb
  replace hK := hK.below hb
  replace hW := hW.trans (Below.mono hb hW.size)
  replace x0 := cellB hb x0
  replace x1 := cellB hb x1
  by_cases hs : (1048576 : Int) < rows.length
  · rw [if_pos hs]
    go_wp2
    go_returns
    exact ⟨rfl, hW⟩
  · rw [if_neg hs]
    have r20 : rows.length ≤ 2097152 := by omega
    have s20 : rs.length ≤ 2097152 := by omega
    have c20 : cs.length ≤ 2097152 := by omega
    go_wp2_with fail
    clear hs r63 s63 c63
    refine (toImage_c W _ rows r20 _ hI.ints).mono ?_
    rintro e wc ⟨g, c, rfl, hg, hr, hb⟩
    clear hg
    replace hI := hI.below hb
    replace hJ := hJ.below hb
    replace hK := hK.below hb
    replace hW := hW.trans (Below.mono hb hW.size)
    replace x0 := cellB hb x0
    replace x1 := cellB hb x1
    go_wp2_with fail
    refine (toIntS_c _ rs s20 _ hJ.ints).mono ?_
    rintro e wc ⟨g1, rfl, hg, hr1, hb⟩
    clear hg
    replace hI := hI.below hb
    replace hJ := hJ.below hb
    replace hK := hK.below hb
    replace hW := hW.trans (Below.mono hb hW.size)
    replace x0 := cellB hb x0
    replace x1 := cellB hb x1
    replace hr := hr.below hb hr.lt
    go_wp2_with fail
    refine (toIntS_c _ cs c20 _ hK.ints).mono ?_
    rintro e wc ⟨g2, rfl, hg, hr2, hb⟩
    clear hg
    replace hI := hI.below hb
    replace hJ := hJ.below hb
    replace hK := hK.below hb
    replace hW := hW.trans (Below.mono hb hW.size)
    replace x0 := cellB hb x0
    replace x1 := cellB hb x1
    replace hr := hr.below hb hr.lt
    replace hr1 := hr1.below hb hr1.lt
    go_wp2_with fail
    refine (sFillFits_c W _ _ _ rows rs cs s20 c20 r20 _ (hr.ints hr.lt c) (hr1.ints hr1.lt _) (hr2.ints hr2.lt _)).mono ?_
    rintro e wc ⟨rfl, hb⟩
    clear hr2
    replace hI := hI.below hb
    replace hJ := hJ.below hb
    replace hK := hK.below hb
    replace hW := hW.trans (Below.mono hb hW.size)
    replace x0 := cellB hb x0
    replace x1 := cellB hb x1
    replace hr := hr.below hb hr.lt
    replace hr1 := hr1.below hb hr1.lt
    clear hr hr1
    go_wp2_with fail
    refine (toImage_c W _ rows r20 _ hI.ints).mono ?_
    rintro e wc ⟨g, c, rfl, hg, hr, hb⟩
    clear hg
    replace hI := hI.below hb
    replace hJ := hJ.below hb
    replace hK := hK.below hb
    replace hW := hW.trans (Below.mono hb hW.size)
    replace x0 := cellB hb x0
    replace x1 := cellB hb x1
    obtain ⟨W3, e_W3⟩ : ∃ W0, W0 = World.alloc wc (.cells #[.int .i64 W, .slice (some ⟨g, 0, none⟩) rows.length c] 27) := ⟨_, rfl⟩
    have hx_W3 := Box2.new wc (.int .i64 W) (.slice (some ⟨g, 0, none⟩) rows.length c) 27
    have hb_W3 : Below (World.heap wc).size wc W3 := by rw [e_W3]; go_grown
    have HS_W3 := Lib.hid (show (World.heap W3).size = (World.heap wc).size + 1 by rw [e_W3]; simp)
    replace hI := hI.below hb_W3
    replace hJ := hJ.below hb_W3
    replace hK := hK.below hb_W3
    replace hW := hW.trans (Below.mono hb_W3 hW.size)
    replace x0 := cellB hb_W3 x0
    replace x1 := cellB hb_W3 x1
    replace hr := hr.below hb_W3 hr.lt
    have x0r := x0
    rw [e_W3] at x0r
    have x1r := x1
    rw [e_W3] at x1r
    have HE_W3 := Lib.hid e_W3
    clear e_W3
    go_wp2_with fail
    rw [← HE_W3.out] at hx_W3 ⊢
    clear x0r x1r
    clear HE_W3
    obtain ⟨hl_y, y0, y1⟩ := hx_W3
    obtain ⟨By, e_By⟩ : ∃ Bx, Bx = (World.heap wc).size := ⟨_, rfl⟩
    rw [← e_By] at hl_y y0 y1 hb_W3 HS_W3  ⊢
    have hz_By := hb_W3.size
    clear e_By hb_W3
    refine (toIntS_c _ rs s20 _ hJ.ints).mono ?_
    rintro e wc ⟨g1, rfl, hg, hr1, hb⟩
    clear hg
    replace hI := hI.below hb
    replace hJ := hJ.below hb
    replace hK := hK.below hb
    replace hW := hW.trans (Below.mono hb hW.size)
    replace x0 := cellB hb x0
    replace x1 := cellB hb x1
    replace hr := hr.below hb hr.lt
    replace y0 := cellB hb y0
    replace y1 := cellB hb y1
    go_wp2_with fail
    refine (toIntS_c _ cs c20 _ hK.ints).mono ?_
    rintro e wc ⟨g2, rfl, hg, hr2, hb⟩
    clear hg
    replace hI := hI.below hb
    replace hJ := hJ.below hb
    replace hK := hK.below hb
    replace hW := hW.trans (Below.mono hb hW.size)
    replace x0 := cellB hb x0
    replace x1 := cellB hb x1
    replace hr := hr.below hb hr.lt
    replace y0 := cellB hb y0
    replace y1 := cellB hb y1
    replace hr1 := hr1.below hb hr1.lt
    go_wp2_with fail
    refine (FillFits_c W _ _ _ rows rs cs s20 c20 r20 _ (hr.ints hr.lt c) (hr1.ints hr1.lt _) (hr2.ints hr2.lt _)).mono ?_
    rintro e wc ⟨rfl, hb⟩
    replace hI := hI.below hb
    replace hJ := hJ.below hb
    replace hK := hK.below hb
    replace hW := hW.trans (Below.mono hb hW.size)
    replace x0 := cellB hb x0
    replace x1 := cellB hb x1
    replace hr := hr.below hb hr.lt
    replace y0 := cellB hb y0
    replace y1 := cellB hb y1
    replace hr1 := hr1.below hb hr1.lt
    replace hr2 := hr2.below hb hr2.lt
    generalize ffB W rows rs cs = ok
    have HJ := hI.ints.drew
    have hIg := hr.ints (B := wc.heap.size) hr.lt c
    have hne : Bx ≠ By ∨ True := .inr trivial
    clear hne
    have hz := lt_of_cell x0
    have hzy := lt_of_cell y0
    have HH := Lib.hid (And.intro hW (And.intro hJ (And.intro hK (And.intro hr1 hr2))))
    have hWd := hW
    clear hW hI hJ hK hr1 hr2 hr hz hzy hWd
    go_wp2_with fail
    go_region_held3 (fun w' : World => w'.cell? ⟨Bx, 0, none⟩ = some (.int .i64 W) ∧ w'.cell? ⟨Bx, 1, none⟩ = some (.slice A rows.length cap) ∧ w'.cell? ⟨By, 0, none⟩ = some (.int .i64 W) ∧ w'.cell? ⟨By, 1, none⟩ = some (.slice (some ⟨g, 0, none⟩) rows.length c)) (first | exact ⟨x0, x1, y0, y1⟩ | (refine ⟨?_, ?_, ?_, ?_⟩ <;> assumption) | go_keep) (first | (go_at_call 17; refine (toImage_c W _ rows r20 wc.drew HJ).mono ?_; rintro e w6 ⟨g6, c6, rfl, hg6, hr6, hb6'⟩; have hb6 := Below.undrew hb6'; have k0 := cellB hb6 x0; have k1 := cellB hb6 x1; have k2 := cellB hb6 y0; have k3 := cellB hb6 y1; have hI6 := (hIg.below hb6).more hb6.size; have hJ6 := hr6.ints hr6.lt c6; clear hb6') | (go_at_call 20; refine (eqImage_c W W _ _ rows rows r20 _ hI6 hJ6).mono ?_; rintro e w7 ⟨rfl, hb7⟩; have l0 := cellB hb7 k0; have l1 := cellB hb7 k1; have l2 := cellB hb7 k2; have l3 := cellB hb7 k3))
    obtain ⟨hW, hJ, hK, hr1, hr2⟩ := HH.out
    have hb := hb6.trans (hb7.mono hb6.size)
    replace x0 := cellB hb x0
    replace x1 := cellB hb x1
    replace y0 := cellB hb y0
    replace y1 := cellB hb y1
    replace hJ := hJ.below hb
    replace hK := hK.below hb
    replace hW := hW.trans (Below.mono hb hW.size)
    replace hr1 := hr1.below hb hr1.lt
    replace hr2 := hr2.below hb hr2.lt
    clear HJ hIg x0 x1 y0 y1 k0 k1 k2 k3 l0 l1 l2 l3 hI6 hJ6 hb6 hb7 hr6 hb
    go_wp2_with fail
    refine (toIntS_c _ rs s20 _ hJ.ints).mono ?_
    rintro e wc ⟨g7, rfl, hg, hr7, hb⟩
    clear hg
    replace hJ := hJ.below hb
    replace hK := hK.below hb
    replace hW := hW.trans (Below.mono hb hW.size)
    replace hr1 := hr1.below hb hr1.lt
    replace hr2 := hr2.below hb hr2.lt
    go_wp2_with fail
    refine (eqIntS_c _ _ rs rs s20 _ (hr1.ints hr1.lt _) (hr7.ints hr7.lt _)).mono ?_
    rintro e wc ⟨rfl, hb⟩
    replace hJ := hJ.below hb
    replace hK := hK.below hb
    replace hW := hW.trans (Below.mono hb hW.size)
    replace hr1 := hr1.below hb hr1.lt
    replace hr2 := hr2.below hb hr2.lt
    clear hr7
    simp only [decide_true]
    go_wp2_with fail
    refine (toIntS_c _ cs c20 _ hK.ints).mono ?_
    rintro e wc ⟨g8, rfl, hg, hr8, hb⟩
    clear hg
    replace hJ := hJ.below hb
    replace hK := hK.below hb
    replace hW := hW.trans (Below.mono hb hW.size)
    replace hr1 := hr1.below hb hr1.lt
    replace hr2 := hr2.below hb hr2.lt
    go_wp2_with fail
    refine (eqIntS_c _ _ cs cs c20 _ (hr2.ints hr2.lt _) (hr8.ints hr8.lt _)).mono ?_
    rintro e wc ⟨rfl, hb⟩
    replace hJ := hJ.below hb
    replace hK := hK.below hb
    replace hW := hW.trans (Below.mono hb hW.size)
    replace hr1 := hr1.below hb hr1.lt
    replace hr2 := hr2.below hb hr2.lt
    clear hr8
    simp only [decide_true]
    go_wp2
    go_returns
    exact ⟨rfl, hW⟩
end Go.Proofs.Ytodofomcoolbhaa
