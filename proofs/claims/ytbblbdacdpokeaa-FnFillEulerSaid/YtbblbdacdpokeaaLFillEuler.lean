/- The law that a filled image has its parts as its number: it returns true at whatever code. Conditions: the code's slice can be read. -/
import Derived.Test.YtbblbdacdpokeaaEU
import Derived.Test.YtbblbdacdpokeaaPE2
import Derived.Test.YtbblbdacdpokeaaPF2
import Derived.Test.YtbblbdacdpokeaaPF3
import Derived.Test.YtbblbdacdpokeaaPD2
import Derived.Test.YtbblbdacdpokeaaK6
namespace Go.Proofs.Ytbblbdacdpokeaa
open Go.RowKit
open Gr
set_option maxRecDepth 100000 in
set_option maxHeartbeats 4000000 in
theorem fillEuler_walk (A : Option Addr) (len cap : Nat) (hlc : len ≤ cap) (w : World) (hc : Code8 w w.heap.size A len) :
    Calls Try.prog 15 #[.slice A len cap] w fun e w' => e = .returned (.bool true) ∧ Below w.heap.size w w' := by
  by_cases hbig : 1048576 < len
  · go_enter Try.func15, Try.ntmps15
    go_wp2
    go_returns
    exact ⟨rfl, Below.refl _ _⟩
  · go_enter Try.func15, Try.ntmps15
    go_wp2_with fail
    refine (DrawImageFill_c A len cap hlc w hc).mono ?_
    rintro e wc ⟨W, v, rows, rfl, hI, hl6, hW⟩
    obtain ⟨B, cp, rfl⟩ := hI.len
    obtain ⟨W1, e_W1⟩ : ∃ W0, W0 = World.alloc wc (.cells #[.int .i64 W, .slice B rows.length cp] 27) := ⟨_, rfl⟩
    have hx_W1 := Box2.new wc (.int .i64 W) (.slice B rows.length cp) 27
    have hb_W1 : Below (World.heap wc).size wc W1 := by rw [e_W1]; go_grown
    replace hW := hW.trans (Below.mono hb_W1 hW.size)
    replace hI := (hI.below hb_W1).more (Below.size hb_W1)
    have HE_W1 := Lib.hid e_W1
    clear e_W1
    go_wp2_with fail
    rw [← HE_W1.out] at hx_W1 ⊢
    clear HE_W1
    obtain ⟨hl_x, x0, x1⟩ := hx_W1
    obtain ⟨Bx, e_Bx⟩ : ∃ Bx, Bx = (World.heap wc).size := ⟨_, rfl⟩
    rw [← e_Bx] at hl_x x0 x1 hb_W1  ⊢
    have hz_Bx := hb_W1.size
    clear e_Bx hb_W1
    cases hval : validB W rows with
    | false =>
      refine (ImageFill_no W _ rows hval W1 hI).mono ?_
      rintro e wc ⟨rfl, hb⟩
      replace hW := hW.trans (Below.mono hb hW.size)
      replace hI := (hI.below hb).more (Below.size hb)
      replace x0 := cellB hb x0
      replace x1 := cellB hb x1
      obtain ⟨W3, e_W3⟩ : ∃ W0, W0 = World.alloc wc (.cells #[.int .i64 0, .slice none 0 0] 27) := ⟨_, rfl⟩
      have hx_W3 := Box2.new wc (.int .i64 0) (.slice none 0 0) 27
      have hb_W3 : Below (World.heap wc).size wc W3 := by rw [e_W3]; go_grown
      replace hW := hW.trans (Below.mono hb_W3 hW.size)
      replace hI := (hI.below hb_W3).more (Below.size hb_W3)
      replace x0 := cellB hb_W3 x0
      replace x1 := cellB hb_W3 x1
      have x0r := x0
      rw [e_W3] at x0r
      have x1r := x1
      rw [e_W3] at x1r
      have HE_W3 := Lib.hid e_W3
      clear e_W3
      go_wp2_with fail
      rw [← HE_W3.out] at hx_W3 ⊢
      clear x0r x1r
      clear HE_W3
      obtain ⟨hl_y, y0, y1⟩ := hx_W3
      obtain ⟨By, e_By⟩ : ∃ Bx, Bx = (World.heap wc).size := ⟨_, rfl⟩
      rw [← e_By] at hl_y y0 y1 hb_W3  ⊢
      have hz_By := hb_W3.size
      clear e_By hb_W3
      refine (sImageFill_no W _ rows hval W3 hI).mono ?_
      rintro e wc ⟨rfl, hb⟩
      replace hW := hW.trans (Below.mono hb hW.size)
      replace hI := (hI.below hb).more (Below.size hb)
      replace x0 := cellB hb x0
      replace x1 := cellB hb x1
      replace y0 := cellB hb y0
      replace y1 := cellB hb y1
      clear hval
      obtain ⟨W5, e_W5⟩ : ∃ W0, W0 = World.alloc wc (.cells #[.int .i64 0, .slice none 0 0] 27) := ⟨_, rfl⟩
      have hx_W5 := Box2.new wc (.int .i64 0) (.slice none 0 0) 27
      have hb_W5 : Below (World.heap wc).size wc W5 := by rw [e_W5]; go_grown
      replace hW := hW.trans (Below.mono hb_W5 hW.size)
      replace hI := (hI.below hb_W5).more (Below.size hb_W5)
      replace x0 := cellB hb_W5 x0
      replace x1 := cellB hb_W5 x1
      replace y0 := cellB hb_W5 y0
      replace y1 := cellB hb_W5 y1
      have y0r := y0
      rw [e_W5] at y0r
      have y1r := y1
      rw [e_W5] at y1r
      have HE_W5 := Lib.hid e_W5
      clear e_W5
      go_wp2_with fail
      rw [← HE_W5.out] at hx_W5 ⊢
      clear y0r y1r
      clear HE_W5
      obtain ⟨hl_z, z0, z1⟩ := hx_W5
      obtain ⟨Bz, e_Bz⟩ : ∃ Bx, Bx = (World.heap wc).size := ⟨_, rfl⟩
      rw [← e_Bz] at hl_z z0 z1 hb_W5  ⊢
      have hz_Bz := hb_W5.size
      clear e_Bz hb_W5
      refine (sameImage_c 0 0 _ _ [] [] (by simp) W5 (.inl ⟨rfl, none, 0, rfl⟩) (.inl ⟨rfl, none, 0, rfl⟩)).mono ?_
      rintro e wc ⟨rfl, hb⟩
      replace hW := hW.trans (Below.mono hb hW.size)
      replace hI := (hI.below hb).more (Below.size hb)
      replace x0 := cellB hb x0
      replace x1 := cellB hb x1
      replace y0 := cellB hb y0
      replace y1 := cellB hb y1
      replace z0 := cellB hb z0
      replace z1 := cellB hb z1
      simp only [decide_true, and_self]
      go_wp2_with fail
      refine (sameImage_c 0 0 _ _ [] [] (by simp) _ (.inl ⟨rfl, none, 0, rfl⟩) (.inl ⟨rfl, none, 0, rfl⟩)).mono ?_
      rintro e wc ⟨rfl, hb⟩
      replace hW := hW.trans (Below.mono hb hW.size)
      replace hI := (hI.below hb).more (Below.size hb)
      replace x0 := cellB hb x0
      replace x1 := cellB hb x1
      replace y0 := cellB hb y0
      replace y1 := cellB hb y1
      replace z0 := cellB hb z0
      replace z1 := cellB hb z1
      simp only [decide_true, and_self]
      go_wp2
      go_returns
      exact ⟨rfl, hW⟩
    | true =>
      obtain ⟨n, ns, rfl, rfl, hV⟩ := validB_yes hval
      rw [length_casts] at x1 hI ⊢
      have h1 := hV.h1
      have h6 := hV.h6
      have w1 := hV.w1
      have w6 := hV.w6
      have hms : VImg n (fillL n ns) := vimg_fill hV
      have hml : (fillL n ns).length = ns.length := length_fill
      have HF := Lib.hid (fill_fill hV)
      have HH := Lib.hid (fill_holes hV)
      have HCF := Lib.hid (fun i j => cell_fill (n := n) (ns := ns) i j)
      refine (ImageFill_yes n _ ns hV W1 hI).mono ?_
      rintro e wc ⟨g, c, rfl, hg, hr, hb⟩
      rw [hml]
      clear hval
      replace hW := hW.trans (Below.mono hb hW.size)
      replace hI := (hI.below hb).more (Below.size hb)
      replace x0 := cellB hb x0
      replace x1 := cellB hb x1
      obtain ⟨W3, e_W3⟩ : ∃ W0, W0 = World.alloc wc (.cells #[.int .i64 (n : Int), .slice (some ⟨g, 0, none⟩) ns.length c] 27) := ⟨_, rfl⟩
      have hx_W3 := Box2.new wc (.int .i64 (n : Int)) (.slice (some ⟨g, 0, none⟩) ns.length c) 27
      have hb_W3 : Below (World.heap wc).size wc W3 := by rw [e_W3]; go_grown
      replace hW := hW.trans (Below.mono hb_W3 hW.size)
      replace hI := (hI.below hb_W3).more (Below.size hb_W3)
      replace x0 := cellB hb_W3 x0
      replace x1 := cellB hb_W3 x1
      replace hr := hr.below hb_W3 hr.lt
      have x0r := x0
      rw [e_W3] at x0r
      have x1r := x1
      rw [e_W3] at x1r
      have HE_W3 := Lib.hid e_W3
      clear e_W3
      go_wp2_with fail
      rw [← HE_W3.out] at hx_W3 ⊢
      clear x0r x1r
      clear HE_W3
      obtain ⟨hl_y, y0, y1⟩ := hx_W3
      obtain ⟨By, e_By⟩ : ∃ Bx, Bx = (World.heap wc).size := ⟨_, rfl⟩
      rw [← e_By] at hl_y y0 y1 hb_W3  ⊢
      have hz_By := hb_W3.size
      clear e_By hb_W3
      refine (sImageFill_yes n _ ns hV W3 hI).mono ?_
      rintro e wc ⟨g', c', rfl, hg', hr', hb⟩
      rw [hml]
      replace hW := hW.trans (Below.mono hb hW.size)
      replace hI := (hI.below hb).more (Below.size hb)
      replace x0 := cellB hb x0
      replace x1 := cellB hb x1
      replace hr := hr.below hb hr.lt
      replace y0 := cellB hb y0
      replace y1 := cellB hb y1
      obtain ⟨W5, e_W5⟩ : ∃ W0, W0 = World.alloc wc (.cells #[.int .i64 (n : Int), .slice (some ⟨g', 0, none⟩) ns.length c'] 27) := ⟨_, rfl⟩
      have hx_W5 := Box2.new wc (.int .i64 (n : Int)) (.slice (some ⟨g', 0, none⟩) ns.length c') 27
      have hb_W5 : Below (World.heap wc).size wc W5 := by rw [e_W5]; go_grown
      replace hW := hW.trans (Below.mono hb_W5 hW.size)
      replace hI := (hI.below hb_W5).more (Below.size hb_W5)
      replace x0 := cellB hb_W5 x0
      replace x1 := cellB hb_W5 x1
      replace hr := hr.below hb_W5 hr.lt
      replace y0 := cellB hb_W5 y0
      replace y1 := cellB hb_W5 y1
      replace hr' := hr'.below hb_W5 hr'.lt
      have x0r := x0
      rw [e_W5] at x0r
      have x1r := x1
      rw [e_W5] at x1r
      have y0r := y0
      rw [e_W5] at y0r
      have y1r := y1
      rw [e_W5] at y1r
      have HE_W5 := Lib.hid e_W5
      clear e_W5
      go_wp2_with fail
      rw [← HE_W5.out] at hx_W5 ⊢
      clear x0r x1r y0r y1r
      clear HE_W5
      obtain ⟨hl_z, z0, z1⟩ := hx_W5
      obtain ⟨Bz, e_Bz⟩ : ∃ Bx, Bx = (World.heap wc).size := ⟨_, rfl⟩
      rw [← e_Bz] at hl_z z0 z1 hb_W5  ⊢
      have hz_Bz := hb_W5.size
      clear e_Bz hb_W5
      refine (sameImage_c (n : Int) n _ _ (casts (fillL n ns)) (casts (fillL n ns)) (by rw [length_casts, hml]; omega) W5 (hr.intsH hml) (hr'.intsH hml)).mono ?_
      rintro e wc ⟨rfl, hb⟩
      replace hW := hW.trans (Below.mono hb hW.size)
      replace hI := (hI.below hb).more (Below.size hb)
      replace x0 := cellB hb x0
      replace x1 := cellB hb x1
      replace hr := hr.below hb hr.lt
      replace y0 := cellB hb y0
      replace y1 := cellB hb y1
      replace hr' := hr'.below hb hr'.lt
      replace z0 := cellB hb z0
      replace z1 := cellB hb z1
      simp only [decide_true, and_self]
      clear hr' z0 z1
      have HE := eul_parts (vimg_fill hV)
      rw [HH.out, Int.sub_zero] at HE
      have hle := fill_parts hV
      have hpos := (fill_some hV).trans (many_iff hV).symm
      have G1 := fun w h => ImageParts_c (n : Int) (.slice (some ⟨g, 0, none⟩) ns.length c) (casts (fillL n ns)) w h
      have G2 := fun w h => ImageEuler_yes n (.slice (some ⟨g, 0, none⟩) ns.length c) (fillL n ns) hms w h
      have G3 := fun w h => ImageParts_c (n : Int) (.slice B ns.length cp) (casts ns) w h
      have G4 := fun w h => ImageMany_c (n : Int) (.slice B ns.length cp) (casts ns) w h
      simp only [onImg_yes hms] at G1
      simp only [onImg_yes hV] at G3
      simp only [val0_yes hV] at G4
      rw [HE] at G2
      obtain ⟨m, em⟩ : ∃ m, m = partsN n (fillL n ns) := ⟨_, rfl⟩
      obtain ⟨p, ep⟩ : ∃ p, p = partsN n ns := ⟨_, rfl⟩
      obtain ⟨q, eq⟩ : ∃ q, q = mom n ns one := ⟨_, rfl⟩
      simp only [← em] at G1 G2 hle hpos
      simp only [← ep] at G3 hle
      simp only [← eq] at G4 hpos
      clear em ep eq HE
      have HP := Lib.hid hpos
      clear hpos
      go_wp2_with fail
      refine (G1 _ (hr.intsH (c := c) hml)).mono ?_
      rintro e wc ⟨rfl, hb⟩
      replace hW := hW.trans (Below.mono hb hW.size)
      replace hI := (hI.below hb).more (Below.size hb)
      replace x0 := cellB hb x0
      replace x1 := cellB hb x1
      replace hr := hr.below hb hr.lt
      replace y0 := cellB hb y0
      replace y1 := cellB hb y1
      go_wp2_with fail
      refine (G2 _ (hr.intsH (c := c) hml)).mono ?_
      rintro e wc ⟨rfl, hb⟩
      replace hW := hW.trans (Below.mono hb hW.size)
      replace hI := (hI.below hb).more (Below.size hb)
      replace x0 := cellB hb x0
      replace x1 := cellB hb x1
      replace hr := hr.below hb hr.lt
      replace y0 := cellB hb y0
      replace y1 := cellB hb y1
      go_wp2_with fail
      refine (G3 _ hI).mono ?_
      rintro e wc ⟨rfl, hb⟩
      replace hW := hW.trans (Below.mono hb hW.size)
      replace hI := (hI.below hb).more (Below.size hb)
      replace x0 := cellB hb x0
      replace x1 := cellB hb x1
      replace hr := hr.below hb hr.lt
      replace y0 := cellB hb y0
      replace y1 := cellB hb y1
      by_cases hm0 : 0 < m
      · have hq := HP.out.1 hm0
        go_wp2_with fail
        refine (G4 _ hI).mono ?_
        rintro e wc ⟨rfl, hb⟩
        replace hW := hW.trans (Below.mono hb hW.size)
        replace hI := (hI.below hb).more (Below.size hb)
        replace x0 := cellB hb x0
        replace x1 := cellB hb x1
        replace hr := hr.below hb hr.lt
        replace y0 := cellB hb y0
        replace y1 := cellB hb y1
        go_wp2
        go_returns
        exact ⟨rb (by simp [hm0, hq]), hW⟩
      · have hq : ¬ 0 < q := fun h => hm0 (HP.out.2 h)
        go_wp2_with fail
        refine (G4 _ hI).mono ?_
        rintro e wc ⟨rfl, hb⟩
        replace hW := hW.trans (Below.mono hb hW.size)
        replace hI := (hI.below hb).more (Below.size hb)
        replace x0 := cellB hb x0
        replace x1 := cellB hb x1
        replace hr := hr.below hb hr.lt
        replace y0 := cellB hb y0
        replace y1 := cellB hb y1
        go_wp2
        go_returns
        exact ⟨rb (show (decide (0 < m) == decide (0 < q)) = true by simp; omega), hW⟩
end Go.Proofs.Ytbblbdacdpokeaa
