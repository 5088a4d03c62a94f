/- The law that a polyomino is convex in one part: it returns true at whatever code, where the table of math/bits stands. Conditions: the code's slice can be read; the table. -/
import Derived.Test.YtmhbcfnakhgihaaDoorCP1
import Derived.Test.YtmhbcfnakhgihaaDoorCX5
import Derived.Test.YtmhbcfnakhgihaaDoorCX7
import Derived.Test.YtmhbcfnakhgihaaDoorEU
import Derived.Test.YtmhbcfnakhgihaaDoorKV
namespace Go.Proofs.YtmhbcfnakhgihaaDoor
open Go.RowKit
open Gr
set_option maxRecDepth 100000 in
set_option maxHeartbeats 4000000 in
theorem poly_walk (A : Option Addr) (len cap : Nat) (hlc : len ≤ cap) (w : World) (hc : Code8 w w.heap.size A len) (hT : Tab w) :
    Calls Tryd.prog 5 #[.slice A len cap] w fun e w' => e = .returned (.bool true) ∧ Below w.heap.size w w' := by
  by_cases hbig : 1048576 < len
  · go_enter Tryd.func5, Tryd.ntmps5
    go_wp2
    go_returns
    exact ⟨rfl, Below.refl _ _⟩
  · go_enter Tryd.func5, Tryd.ntmps5
    go_wp2_with fail
    refine (DrawImagePoly_c A len cap hlc w hc).mono ?_
    rintro e wc ⟨W, v, rows, rfl, hI, hl6, hW⟩
    obtain ⟨B, cp, rfl⟩ := hI.len
    obtain ⟨W1, e_W1⟩ : ∃ W0, W0 = World.alloc wc (.cells #[.int .i64 W, .slice B rows.length cp] 27) := ⟨_, rfl⟩
    have hx_W1 := Box2.new wc (.int .i64 W) (.slice B rows.length cp) 27
    have hb_W1 : Below (World.heap wc).size wc W1 := by rw [e_W1]; go_grown
    have HS_W1 := Lib.hid (show (World.heap W1).size = (World.heap wc).size + 1 by rw [e_W1]; simp)
    replace hW := hW.trans (Below.mono hb_W1 hW.size)
    replace hI := (hI.below hb_W1).more (Below.size hb_W1)
    have HE_W1 := Lib.hid e_W1
    clear e_W1
    go_wp2_with fail
    rw [← HE_W1.out] at hx_W1 ⊢
    clear HE_W1
    obtain ⟨hl_x, x0, x1⟩ := hx_W1
    obtain ⟨Bx, e_Bx⟩ : ∃ Bx, Bx = (World.heap wc).size := ⟨_, rfl⟩
    rw [← e_Bx] at hl_x x0 x1 hb_W1 HS_W1  ⊢
    have hz_Bx := hb_W1.size
    clear e_Bx hb_W1
    refine (ImagePoly_c W _ rows W1 hI (hT.below hW)).mono ?_
    rintro e wc ⟨rfl, hb⟩
    replace hW := hW.trans (Below.mono hb hW.size)
    replace hI := (hI.below hb).more (Below.size hb)
    replace x0 := cellB hb x0
    replace x1 := cellB hb x1
    go_wp2_with fail
    refine (sImagePoly_c W _ rows _ hI).mono ?_
    rintro e wc ⟨rfl, hb⟩
    replace hW := hW.trans (Below.mono hb hW.size)
    replace hI := (hI.below hb).more (Below.size hb)
    replace x0 := cellB hb x0
    replace x1 := cellB hb x1
    cases hpo : polyO W rows with
    | false =>
      clear hpo
      go_wp2
      go_returns
      exact ⟨rfl, hW⟩
    | true =>
      obtain ⟨n, ns, rfl, rfl, hV, hcx, hpt⟩ := polyO_valid hpo
      rw [length_casts] at x1 hI ⊢
      have hh := cvx_holes hV hcx
      have he := cvx_euler hV hcx
      rw [hpt] at he
      have hl1 : (turnL n ns).length = n := len_turnL
      have hl2 : (mirL n ns).length = ns.length := len_mirL
      have p1 : polyO (ns.length : Int) (casts (turnL n ns)) = true := polyO_of (vimg_turn hV) (cvx_turn hV hcx) (by rw [turn_parts hV]; exact hpt)
      have p2 : polyO (n : Int) (casts (mirL n ns)) = true := polyO_of (vimg_mir hV) (cvx_mir hV hcx) (by rw [mir_parts hV]; exact hpt)
      have c1 : cvxO (n : Int) (casts ns) = true := (cvxO_yes hV).trans hcx
      have HP := Lib.hid (And.intro p1 (And.intro p2 (And.intro c1 (And.intro hh (And.intro he hpt)))))
      have HL := Lib.hid (And.intro hl1 hl2)
      clear hpo hcx hpt hh he hl1 hl2 p1 p2 c1
      go_wp2_with fail
      refine (ImageTurn_c n _ ns hV _ hI).mono ?_
      rintro e wc ⟨g, c, rfl, hg, hr, hb⟩
      replace hW := hW.trans (Below.mono hb hW.size)
      replace hI := (hI.below hb).more (Below.size hb)
      replace x0 := cellB hb x0
      replace x1 := cellB hb x1
      obtain ⟨W3, e_W3⟩ : ∃ W0, W0 = World.alloc wc (.cells #[.int .i64 (ns.length : Int), .slice (some ⟨g, 0, none⟩) n c] 27) := ⟨_, rfl⟩
      have hx_W3 := Box2.new wc (.int .i64 (ns.length : Int)) (.slice (some ⟨g, 0, none⟩) n c) 27
      have hb_W3 : Below (World.heap wc).size wc W3 := by rw [e_W3]; go_grown
      have HS_W3 := Lib.hid (show (World.heap W3).size = (World.heap wc).size + 1 by rw [e_W3]; simp)
      replace hW := hW.trans (Below.mono hb_W3 hW.size)
      replace hI := (hI.below hb_W3).more (Below.size hb_W3)
      replace x0 := cellB hb_W3 x0
      replace x1 := cellB hb_W3 x1
      replace hr := hr.below hb_W3 hr.lt
      have x0r := x0
      rw [e_W3] at x0r
      have x1r := x1
      rw [e_W3] at x1r
      have HE_W3 := Lib.hid e_W3
      clear e_W3
      go_wp2_with fail
      rw [← HE_W3.out] at hx_W3 ⊢
      clear x0r x1r
      clear HE_W3
      obtain ⟨hl_y, y0, y1⟩ := hx_W3
      obtain ⟨By, e_By⟩ : ∃ Bx, Bx = (World.heap wc).size := ⟨_, rfl⟩
      rw [← e_By] at hl_y y0 y1 hb_W3 HS_W3  ⊢
      have hz_By := hb_W3.size
      clear e_By hb_W3
      refine (ImageMirror_c n _ ns hV _ hI).mono ?_
      rintro e wc ⟨g', c', rfl, hg', hr', hb⟩
      replace hW := hW.trans (Below.mono hb hW.size)
      replace hI := (hI.below hb).more (Below.size hb)
      replace x0 := cellB hb x0
      replace x1 := cellB hb x1
      replace hr := hr.below hb hr.lt
      replace y0 := cellB hb y0
      replace y1 := cellB hb y1
      obtain ⟨W5, e_W5⟩ : ∃ W0, W0 = World.alloc wc (.cells #[.int .i64 (n : Int), .slice (some ⟨g', 0, none⟩) ns.length c'] 27) := ⟨_, rfl⟩
      have hx_W5 := Box2.new wc (.int .i64 (n : Int)) (.slice (some ⟨g', 0, none⟩) ns.length c') 27
      have hb_W5 : Below (World.heap wc).size wc W5 := by rw [e_W5]; go_grown
      have HS_W5 := Lib.hid (show (World.heap W5).size = (World.heap wc).size + 1 by rw [e_W5]; simp)
      replace hW := hW.trans (Below.mono hb_W5 hW.size)
      replace hI := (hI.below hb_W5).more (Below.size hb_W5)
      replace x0 := cellB hb_W5 x0
      replace x1 := cellB hb_W5 x1
      replace hr := hr.below hb_W5 hr.lt
      replace y0 := cellB hb_W5 y0
      replace y1 := cellB hb_W5 y1
      replace hr' := hr'.below hb_W5 hr'.lt
      have x0r := x0
      rw [e_W5] at x0r
      have x1r := x1
      rw [e_W5] at x1r
      have y0r := y0
      rw [e_W5] at y0r
      have y1r := y1
      rw [e_W5] at y1r
      have HE_W5 := Lib.hid e_W5
      clear e_W5
      go_wp2_with fail
      rw [← HE_W5.out] at hx_W5 ⊢
      clear x0r x1r y0r y1r
      clear HE_W5
      obtain ⟨hl_z, z0, z1⟩ := hx_W5
      obtain ⟨Bz, e_Bz⟩ : ∃ Bx, Bx = (World.heap wc).size := ⟨_, rfl⟩
      rw [← e_Bz] at hl_z z0 z1 hb_W5 HS_W5  ⊢
      have hz_Bz := hb_W5.size
      clear e_Bz hb_W5
      refine (ImageConvex_c (n : Int) _ (casts ns) _ hI (hT.below hW)).mono ?_
      rintro e wc ⟨rfl, hb⟩
      replace hW := hW.trans (Below.mono hb hW.size)
      replace hI := (hI.below hb).more (Below.size hb)
      replace x0 := cellB hb x0
      replace x1 := cellB hb x1
      replace hr := hr.below hb hr.lt
      replace y0 := cellB hb y0
      replace y1 := cellB hb y1
      replace hr' := hr'.below hb hr'.lt
      replace z0 := cellB hb z0
      replace z1 := cellB hb z1
      rw [HP.out.2.2.1]
      go_wp2_with fail
      refine (ImageParts_c (n : Int) _ (casts ns) _ hI).mono ?_
      rintro e wc ⟨rfl, hb⟩
      replace hW := hW.trans (Below.mono hb hW.size)
      replace hI := (hI.below hb).more (Below.size hb)
      replace x0 := cellB hb x0
      replace x1 := cellB hb x1
      replace hr := hr.below hb hr.lt
      replace y0 := cellB hb y0
      replace y1 := cellB hb y1
      replace hr' := hr'.below hb hr'.lt
      replace z0 := cellB hb z0
      replace z1 := cellB hb z1
      rw [onImg_yes hV, HP.out.2.2.2.2.2]
      go_wp2_with fail
      refine (ImageHoles_c (n : Int) _ (casts ns) _ hI).mono ?_
      rintro e wc ⟨rfl, hb⟩
      replace hW := hW.trans (Below.mono hb hW.size)
      replace hI := (hI.below hb).more (Below.size hb)
      replace x0 := cellB hb x0
      replace x1 := cellB hb x1
      replace hr := hr.below hb hr.lt
      replace y0 := cellB hb y0
      replace y1 := cellB hb y1
      replace hr' := hr'.below hb hr'.lt
      replace z0 := cellB hb z0
      replace z1 := cellB hb z1
      rw [onImg_yes hV, HP.out.2.2.2.1]
      go_wp2_with fail
      refine (ImageEuler_yes n _ ns hV _ hI).mono ?_
      rintro e wc ⟨rfl, hb⟩
      replace hW := hW.trans (Below.mono hb hW.size)
      replace hI := (hI.below hb).more (Below.size hb)
      replace x0 := cellB hb x0
      replace x1 := cellB hb x1
      replace hr := hr.below hb hr.lt
      replace y0 := cellB hb y0
      replace y1 := cellB hb y1
      replace hr' := hr'.below hb hr'.lt
      replace z0 := cellB hb z0
      replace z1 := cellB hb z1
      rw [HP.out.2.2.2.2.1]
      go_wp2_with fail
      refine (ImagePoly_c (ns.length : Int) _ (casts (turnL n ns)) _ (hr.intsH (c := c) HL.out.1) (hT.below hW)).mono ?_
      rintro e wc ⟨rfl, hb⟩
      replace hW := hW.trans (Below.mono hb hW.size)
      replace hI := (hI.below hb).more (Below.size hb)
      replace x0 := cellB hb x0
      replace x1 := cellB hb x1
      replace hr := hr.below hb hr.lt
      replace y0 := cellB hb y0
      replace y1 := cellB hb y1
      replace hr' := hr'.below hb hr'.lt
      replace z0 := cellB hb z0
      replace z1 := cellB hb z1
      rw [HP.out.1]
      go_wp2_with fail
      refine (ImagePoly_c (n : Int) _ (casts (mirL n ns)) _ (hr'.intsH (c := c') HL.out.2) (hT.below hW)).mono ?_
      rintro e wc ⟨rfl, hb⟩
      replace hW := hW.trans (Below.mono hb hW.size)
      replace hI := (hI.below hb).more (Below.size hb)
      replace x0 := cellB hb x0
      replace x1 := cellB hb x1
      replace hr := hr.below hb hr.lt
      replace y0 := cellB hb y0
      replace y1 := cellB hb y1
      replace hr' := hr'.below hb hr'.lt
      replace z0 := cellB hb z0
      replace z1 := cellB hb z1
      rw [HP.out.2.1]
      go_wp2
      go_returns
      exact ⟨rfl, hW⟩
end Go.Proofs.YtmhbcfnakhgihaaDoor
