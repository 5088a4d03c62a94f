/- The law that turning keeps parts and holes: it returns true at whatever code. Conditions: the code's slice can be read. -/
import Derived.Test.YtbblbdacdpokeaaET
import Derived.Test.YtbblbdacdpokeaaPD2
import Derived.Test.YtbblbdacdpokeaaKU
import Derived.Test.YtbblbdacdpokeaaKV
import Derived.Test.YtbblbdacdpokeaaLPartsPut
namespace Go.Proofs.Ytbblbdacdpokeaa
open Go.RowKit
open Gr
set_option maxRecDepth 100000 in
set_option maxHeartbeats 4000000 in
theorem eulerTurn_walk (A : Option Addr) (len cap : Nat) (hlc : len ≤ cap) (w : World) (hc : Code8 w w.heap.size A len) :
    Calls Try.prog 10 #[.slice A len cap] w fun e w' => e = .returned (.bool true) ∧ Below w.heap.size w w' := by
  by_cases hbig : 1048576 < len
  · go_enter Try.func10, Try.ntmps10
    go_wp2
    go_returns
    exact ⟨rfl, Below.refl _ _⟩
  · go_enter Try.func10, Try.ntmps10
    go_wp2_with fail
    refine (DrawImageParts_c A len cap hlc w hc).mono ?_
    rintro e wc ⟨W, v, rows, rfl, hI, hl6, hW⟩
    obtain ⟨B, cp, rfl⟩ := hI.len
    obtain ⟨W1, e_W1⟩ : ∃ W0, W0 = World.alloc wc (.cells #[.int .i64 W, .slice B rows.length cp] 27) := ⟨_, rfl⟩
    have hx_W1 := Box2.new wc (.int .i64 W) (.slice B rows.length cp) 27
    have hb_W1 : Below (World.heap wc).size wc W1 := by rw [e_W1]; go_grown
    replace hW := hW.trans (Below.mono hb_W1 hW.size)
    replace hI := (hI.below hb_W1).more (Below.size hb_W1)
    have HE_W1 := Lib.hid e_W1
    clear e_W1
    go_wp2_with fail
    rw [← HE_W1.out] at hx_W1 ⊢
    clear HE_W1
    obtain ⟨hl_x, x0, x1⟩ := hx_W1
    obtain ⟨Bx, e_Bx⟩ : ∃ Bx, Bx = (World.heap wc).size := ⟨_, rfl⟩
    rw [← e_Bx] at hl_x x0 x1 hb_W1  ⊢
    have hz_Bx := hb_W1.size
    clear e_Bx hb_W1
    refine (ImageParts_c W _ rows W1 hI).mono ?_
    rintro e wc ⟨rfl, hb⟩
    replace hW := hW.trans (Below.mono hb hW.size)
    replace hI := (hI.below hb).more (Below.size hb)
    replace x0 := cellB hb x0
    replace x1 := cellB hb x1
    go_wp2_with fail
    refine (sImageParts_c W _ rows _ hI).mono ?_
    rintro e wc ⟨rfl, hb⟩
    replace hW := hW.trans (Below.mono hb hW.size)
    replace hI := (hI.below hb).more (Below.size hb)
    replace x0 := cellB hb x0
    replace x1 := cellB hb x1
    have hob := onParts_bd W rows
    obtain ⟨a, ea⟩ : ∃ a, a = onImg (-1) partsN W rows := ⟨_, rfl⟩
    rw [← ea] at hob ⊢
    by_cases hneg : a < 0
    · clear ea
      go_wp2
      go_returns
      exact ⟨rfl, hW⟩
    · have hval : validB W rows = true := by
        cases hv : validB W rows with
        | true => rfl
        | false => rw [onImg_no hv] at ea; omega
      obtain ⟨n, ns, rfl, rfl, hV⟩ := validB_yes hval
      rw [onImg_yes hV] at ea
      rw [length_casts] at x1 hI ⊢
      have HE := Lib.hid ea
      clear ea hval
      go_wp2_with fail
      refine (ImageTurn_c n _ ns hV _ hI).mono ?_
      rintro e wc ⟨g, c, rfl, hg, hr, hb⟩
      replace hW := hW.trans (Below.mono hb hW.size)
      replace hI := (hI.below hb).more (Below.size hb)
      replace x0 := cellB hb x0
      replace x1 := cellB hb x1
      obtain ⟨W3, e_W3⟩ : ∃ W0, W0 = World.alloc wc (.cells #[.int .i64 (ns.length : Int), .slice (some ⟨g, 0, none⟩) n c] 27) := ⟨_, rfl⟩
      have hx_W3 := Box2.new wc (.int .i64 (ns.length : Int)) (.slice (some ⟨g, 0, none⟩) n c) 27
      have hb_W3 : Below (World.heap wc).size wc W3 := by rw [e_W3]; go_grown
      replace hW := hW.trans (Below.mono hb_W3 hW.size)
      replace hI := (hI.below hb_W3).more (Below.size hb_W3)
      replace x0 := cellB hb_W3 x0
      replace x1 := cellB hb_W3 x1
      replace hr := hr.below hb_W3 hr.lt
      have x0r := x0
      rw [e_W3] at x0r
      have x1r := x1
      rw [e_W3] at x1r
      have HE_W3 := Lib.hid e_W3
      clear e_W3
      go_wp2_with fail
      rw [← HE_W3.out] at hx_W3 ⊢
      clear x0r x1r
      clear HE_W3
      obtain ⟨hl_y, y0, y1⟩ := hx_W3
      obtain ⟨By, e_By⟩ : ∃ Bx, Bx = (World.heap wc).size := ⟨_, rfl⟩
      rw [← e_By] at hl_y y0 y1 hb_W3  ⊢
      have hz_By := hb_W3.size
      clear e_By hb_W3
      refine (ImageMirror_c n _ ns hV _ hI).mono ?_
      rintro e wc ⟨g', c', rfl, hg', hr', hb⟩
      replace hW := hW.trans (Below.mono hb hW.size)
      replace hI := (hI.below hb).more (Below.size hb)
      replace x0 := cellB hb x0
      replace x1 := cellB hb x1
      replace hr := hr.below hb hr.lt
      replace y0 := cellB hb y0
      replace y1 := cellB hb y1
      obtain ⟨W5, e_W5⟩ : ∃ W0, W0 = World.alloc wc (.cells #[.int .i64 (n : Int), .slice (some ⟨g', 0, none⟩) ns.length c'] 27) := ⟨_, rfl⟩
      have hx_W5 := Box2.new wc (.int .i64 (n : Int)) (.slice (some ⟨g', 0, none⟩) ns.length c') 27
      have hb_W5 : Below (World.heap wc).size wc W5 := by rw [e_W5]; go_grown
      replace hW := hW.trans (Below.mono hb_W5 hW.size)
      replace hI := (hI.below hb_W5).more (Below.size hb_W5)
      replace x0 := cellB hb_W5 x0
      replace x1 := cellB hb_W5 x1
      replace hr := hr.below hb_W5 hr.lt
      replace y0 := cellB hb_W5 y0
      replace y1 := cellB hb_W5 y1
      replace hr' := hr'.below hb_W5 hr'.lt
      have x0r := x0
      rw [e_W5] at x0r
      have x1r := x1
      rw [e_W5] at x1r
      have y0r := y0
      rw [e_W5] at y0r
      have y1r := y1
      rw [e_W5] at y1r
      have HE_W5 := Lib.hid e_W5
      clear e_W5
      go_wp2_with fail
      rw [← HE_W5.out] at hx_W5 ⊢
      clear x0r x1r y0r y1r
      clear HE_W5
      obtain ⟨hl_z, z0, z1⟩ := hx_W5
      obtain ⟨Bz, e_Bz⟩ : ∃ Bx, Bx = (World.heap wc).size := ⟨_, rfl⟩
      rw [← e_Bz] at hl_z z0 z1 hb_W5  ⊢
      have hz_Bz := hb_W5.size
      clear e_Bz hb_W5
      have P1 := fun d os => ImageParts_c (ns.length : Int) _ _ _ (((hr.intsH (c := c) len_turnL).rg (Nat.le_refl _) d os).more (rg_size _ d os))
      have P2 := fun d os => ImageParts_c (n : Int) _ _ _ (((hr'.intsH (c := c') len_mirL).rg (Nat.le_refl _) d os).more (rg_size _ d os))
      have H1 := fun d os => ImageHoles_c (ns.length : Int) _ _ _ (((hr.intsH (c := c) len_turnL).rg (Nat.le_refl _) d os).more (rg_size _ d os))
      have H2 := fun d os => ImageHoles_c (n : Int) _ _ _ (((hr'.intsH (c := c') len_mirL).rg (Nat.le_refl _) d os).more (rg_size _ d os))
      have H0 := fun d os => ImageHoles_c (n : Int) _ _ _ ((hI.rg (Nat.le_refl _) d os).more (rg_size _ d os))
      simp only [onImg_yes (vimg_turn hV), turn_parts hV, ← HE.out] at P1
      simp only [onImg_yes (vimg_mir hV), mir_parts hV, ← HE.out] at P2
      simp only [onImg_yes (vimg_turn hV), turn_holes hV] at H1
      simp only [onImg_yes (vimg_mir hV), mir_holes hV] at H2
      simp only [onImg_yes hV] at H0
      obtain ⟨hn, eh⟩ : ∃ h, h = holesN n ns := ⟨_, rfl⟩
      simp only [← eh] at H0 H1 H2
      have k0 := cell_regrown x0
      have k1 := cell_regrown x1
      have k2 := cell_regrown y0
      have k3 := cell_regrown y1
      have k4 := cell_regrown z0
      have k5 := cell_regrown z1
      clear eh
      refine wp_region_quiet_below (by kernel_rfl) (by kernel_rfl) ?_
      repeat (first | go_big_quiet_step (first | (go_at_call 22; first | with_reducible exact Calls.rg (P1 _ _) | with_reducible exact Calls.rg (P2 _ _)) | (go_at_call 19; first | with_reducible exact Calls.rg (H0 _ _) | with_reducible exact Calls.rg (H1 _ _) | with_reducible exact Calls.rg (H2 _ _))) | quiet_step (first | (go_at_call 22; first | with_reducible exact Calls.rg (P1 _ _) | with_reducible exact Calls.rg (P2 _ _)) | (go_at_call 19; first | with_reducible exact Calls.rg (H0 _ _) | with_reducible exact Calls.rg (H1 _ _) | with_reducible exact Calls.rg (H2 _ _))))
      refine wpQuiet_nil ?_
      intro _ hw0
      obtain ⟨⟨dq, osq⟩, hw1⟩ := hw0
      subst hw1
      have hq := below_regrown W5 dq osq
      generalize Go.Sort.grow (redrawn W5 dq) osq = w9 at hq ⊢
      have hW := hW.trans (hq.mono hW.size)
      clear k0 k1 k2 k3 k4 k5 hI hr hr' P1 P2 H0 H1 H2
      go_wp2
      go_returns
      exact ⟨rfl, hW⟩
end Go.Proofs.Ytbblbdacdpokeaa
