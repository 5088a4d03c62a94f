/- The law that ImagePoly of the program and of the reference agree: it returns true at whatever image. Conditions: the slice reads as a list of integers of length at most maxLen; the table. -/
import Derived.Test.YtmhbcfnakhgihaaDoorCX5
import Derived.Test.YtmhbcfnakhgihaaDoorK7
import Derived.Test.YtmhbcfnakhgihaaDoorK6
namespace Go.Proofs.YtmhbcfnakhgihaaDoor
open Go.RowKit
set_option maxHeartbeats 2000000 in
theorem exactImagePoly_walk (W : Int) (v : Value) (rows : List Int) (h6 : rows.length ≤ maxLen) (w : World) (hv : Ints w.heap.size w v rows) (hT : Tab w) :
    Calls Tryd.prog 3 #[.agg #[.int .i64 W, v]] w fun e w' => e = .returned (.bool true) ∧ Below w.heap.size w w' := by
  have h63 : rows.length ≤ 9223372036854775807 := Nat.le_trans h6 (by decide)
  obtain ⟨A, cap, rfl⟩ := hv.len
  have hI := Arg.new hv
  have hW := Below.refl w.heap.size w
  go_enter Tryd.func3, Tryd.ntmps3
  obtain ⟨W1, e_W1⟩ : ∃ W0, W0 = World.alloc w (.cells #[.int .i64 W, .slice A rows.length cap] 24) := ⟨_, rfl⟩
  have hx_W1 := Box2.new w (.int .i64 W) (.slice A rows.length cap) 24
  have hb_W1 : Below (World.heap w).size w W1 := by rw [e_W1]; go_grown
  have HS_W1 := Lib.hid (show (World.heap W1).size = (World.heap w).size + 1 by rw [e_W1]; simp)
  replace hI := hI.below hb_W1
  replace hW := hW.trans (Below.mono hb_W1 hW.size)
  have HE_W1 := Lib.hid e_W1
  clear e_W1
  go_wp2_with fail
  rw [← HE_W1.out] at hx_W1 ⊢
  clear HE_W1
  obtain ⟨hl_a, a0, a1⟩ := hx_W1
  obtain ⟨Ba, e_Ba⟩ : ∃ Bx, Bx = (World.heap w).size := ⟨_, rfl⟩
  rw [← e_Ba] at hl_a a0 a1 hb_W1 HS_W1  ⊢
  have hz_Ba := hb_W1.size
  clear e_Ba hb_W1
  clear hv
  refine (szImage_c W _ rows 1048576 (by omega) (by omega) h63 _ hI.ints).mono ?_
  rintro e wc ⟨rfl, hb⟩
  replace hI := hI.below hb
  replace hW := hW.trans (Below.mono hb hW.size)
  replace a0 := cellB hb a0
  replace a1 := cellB hb a1
  by_cases hs : (1048576 : Int) < rows.length
  · rw [if_pos hs]
    go_wp2
    go_returns
    exact ⟨rfl, hW⟩
  · rw [if_neg hs]
    have h20 : rows.length ≤ 2097152 := by omega
    go_wp2_with fail
    refine (toImage_c W _ rows h20 _ hI.ints).mono ?_
    rintro e wc ⟨g, c, rfl, hg, hr, hb⟩
    replace hI := hI.below hb
    replace hW := hW.trans (Below.mono hb hW.size)
    replace a0 := cellB hb a0
    replace a1 := cellB hb a1
    go_wp2_with fail
    refine (sImagePoly_c W _ rows _ (hr.ints hr.lt c)).mono ?_
    rintro e wc ⟨rfl, hb⟩
    replace hI := hI.below hb
    replace hW := hW.trans (Below.mono hb hW.size)
    replace a0 := cellB hb a0
    replace a1 := cellB hb a1
    clear hr
    obtain ⟨z, ez⟩ : ∃ z, z = polyO W rows := ⟨_, rfl⟩
    rw [← ez]
    have HZ := Lib.hid ez
    clear ez
    go_wp2_with fail
    refine (toImage_c W _ rows h20 _ hI.ints).mono ?_
    rintro e wc ⟨g', c', rfl, hg', hr', hb⟩
    replace hI := hI.below hb
    replace hW := hW.trans (Below.mono hb hW.size)
    replace a0 := cellB hb a0
    replace a1 := cellB hb a1
    obtain ⟨W3, e_W3⟩ : ∃ W0, W0 = World.alloc wc (.cells #[.int .i64 W, .slice (some ⟨g', 0, none⟩) rows.length c'] 27) := ⟨_, rfl⟩
    have hx_W3 := Box2.new wc (.int .i64 W) (.slice (some ⟨g', 0, none⟩) rows.length c') 27
    have hb_W3 : Below (World.heap wc).size wc W3 := by rw [e_W3]; go_grown
    have HS_W3 := Lib.hid (show (World.heap W3).size = (World.heap wc).size + 1 by rw [e_W3]; simp)
    replace hI := hI.below hb_W3
    replace hW := hW.trans (Below.mono hb_W3 hW.size)
    replace a0 := cellB hb_W3 a0
    replace a1 := cellB hb_W3 a1
    replace hr' := hr'.below hb_W3 hr'.lt
    have a0r := a0
    rw [e_W3] at a0r
    have a1r := a1
    rw [e_W3] at a1r
    have HE_W3 := Lib.hid e_W3
    clear e_W3
    go_wp2_with fail
    rw [← HE_W3.out] at hx_W3 ⊢
    clear a0r a1r
    clear HE_W3
    obtain ⟨hl_x, x0, x1⟩ := hx_W3
    obtain ⟨Bx, e_Bx⟩ : ∃ Bx, Bx = (World.heap wc).size := ⟨_, rfl⟩
    rw [← e_Bx] at hl_x x0 x1 hb_W3 HS_W3  ⊢
    have hz_Bx := hb_W3.size
    clear e_Bx hb_W3
    refine (ImagePoly_c W _ rows _ (hr'.ints hr'.lt c') (hT.below hW)).mono ?_
    rintro e wc ⟨rfl, hb⟩
    rw [← HZ.out]
    replace hI := hI.below hb
    replace hW := hW.trans (Below.mono hb hW.size)
    replace a0 := cellB hb a0
    replace a1 := cellB hb a1
    replace hr' := hr'.below hb hr'.lt
    replace x0 := cellB hb x0
    replace x1 := cellB hb x1
    have HW := Lib.hid hW
    have hI5 := hr'.ints hr'.lt c'
    have HJ := hI.ints.drew
    clear hb hW hr' hT
    go_wp2_with fail
    go_region_held3 (fun w' : World => w'.cell? ⟨Ba, 0, none⟩ = some (.int .i64 W) ∧ w'.cell? ⟨Ba, 1, none⟩ = some (.slice A rows.length cap) ∧ w'.cell? ⟨Bx, 0, none⟩ = some (.int .i64 W) ∧ w'.cell? ⟨Bx, 1, none⟩ = some (.slice (some ⟨g', 0, none⟩) rows.length c')) (first | exact ⟨a0, a1, x0, x1⟩ | (refine ⟨?_, ?_, ?_, ?_⟩ <;> assumption) | go_keep) (first | (go_at_call 9; refine (toImage_c W _ rows h20 wc.drew HJ).mono ?_; rintro e w6 ⟨g6, c6, rfl, hg6, hr6, hb6'⟩; have hb6 := Below.undrew hb6'; have k0 := cellB hb6 a0; have k1 := cellB hb6 a1; have k2 := cellB hb6 x0; have k3 := cellB hb6 x1; have hI6 := (hI5.below hb6).more hb6.size; have hJ6 := hr6.ints hr6.lt c6; clear hb6') | (go_at_call 11; refine (eqImage_c W W _ _ rows rows h20 _ hI6 hJ6).mono ?_; rintro e w7 ⟨rfl, hb7⟩; have l0 := cellB hb7 k0; have l1 := cellB hb7 k1; have l2 := cellB hb7 k2; have l3 := cellB hb7 k3))
    go_wp2
    go_returns
    exact ⟨rfl, HW.out.trans ((hb6.trans (hb7.mono hb6.size)).mono HW.out.size)⟩
end Go.Proofs.YtmhbcfnakhgihaaDoor
