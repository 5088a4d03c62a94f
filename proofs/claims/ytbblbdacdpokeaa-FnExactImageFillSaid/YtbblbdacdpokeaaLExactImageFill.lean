/- The exact law of ImageFill: implementation and specification agree at whatever image, the image stays as it was, and the result lies in memory of its own. Conditions: the slice reads as a list of integers of length at most maxLen. -/
import Derived.Test.YtbblbdacdpokeaaPF2
import Derived.Test.YtbblbdacdpokeaaPF3
import Derived.Test.YtbblbdacdpokeaaPF4
import Derived.Test.YtbblbdacdpokeaaKM
import Derived.Test.YtbblbdacdpokeaaK7
import Derived.Test.YtbblbdacdpokeaaK6
namespace Go.Proofs.Ytbblbdacdpokeaa
open Go.RowKit
theorem Row.intsI3 {w : World} {g h c : Nat} {xs : List Int} (hr : Row w g xs) (hl : xs.length = h) : Ints w.heap.size w (.slice (some ⟨g, 0, none⟩) h c) xs := by
  have := hr.ints hr.lt c
  rw [hl] at this
  exact this
set_option maxRecDepth 100000 in
set_option maxHeartbeats 8000000 in
theorem exactImageFill_walk (W : Int) (v : Value) (rows : List Int) (hrw : rows.length ≤ maxLen) (w : World) (hv : Ints w.heap.size w v rows) :
    Calls Try.prog 7 #[.agg #[.int .i64 W, v]] w fun e w' => e = .returned (.bool true) ∧ Below w.heap.size w w' := by
  have r63 : rows.length ≤ 9223372036854775807 := Nat.le_trans hrw (by decide)
  clear hrw
  obtain ⟨A, cap, rfl⟩ := hv.len
  have hI := Arg.new hv
  have hW := Below.refl w.heap.size w
  clear hv
  go_enter Try.func7, Try.ntmps7
  obtain ⟨W0, e_W0⟩ : ∃ W0, W0 = World.alloc w (.cells #[.int .i64 W, .slice A rows.length cap] 24) := ⟨_, rfl⟩
  have hx_W0 := Box2.new w (.int .i64 W) (.slice A rows.length cap) 24
  have hb_W0 : Below (World.heap w).size w W0 := by rw [e_W0]; go_grown
  have HS_W0 := Lib.hid (show (World.heap W0).size = (World.heap w).size + 1 by rw [e_W0]; simp)
  replace hI := hI.below hb_W0
  replace hW := hW.trans (Below.mono hb_W0 hW.size)
  have HE_W0 := Lib.hid e_W0
  clear e_W0
  go_wp2_with fail
  rw [← HE_W0.out] at hx_W0 ⊢
  clear HE_W0
  obtain ⟨hl_x, x0, x1⟩ := hx_W0
  obtain ⟨Bx, e_Bx⟩ : ∃ Bx, Bx = (World.heap w).size := ⟨_, rfl⟩
  rw [← e_Bx] at hl_x x0 x1 hb_W0 HS_W0  ⊢
  have hz_Bx := hb_W0.size
  clear e_Bx hb_W0
  refine (szImage_c W _ rows 1048576 (by omega) (by omega) r63 _ hI.ints).mono ?_
  rintro e wc ⟨rfl, hb⟩
  replace hI := hI.below hb
  replace hW := hW.trans (Below.mono hb hW.size)
  replace x0 := cellB hb x0
  replace x1 := cellB hb x1
  by_cases hs : (1048576 : Int) < rows.length
  · rw [if_pos hs]
    go_wp2
    go_returns
    exact ⟨rfl, hW⟩
  · rw [if_neg hs]
    have r20 : rows.length ≤ 2097152 := by omega
    go_wp2_with fail
    clear hs r63
    refine (toImage_c W _ rows r20 _ hI.ints).mono ?_
    rintro e wc ⟨g, c, rfl, hg, hr, hb⟩
    clear hg
    replace hI := hI.below hb
    replace hW := hW.trans (Below.mono hb hW.size)
    replace x0 := cellB hb x0
    replace x1 := cellB hb x1
    cases hval : validB W rows with
    | false =>
      have HVAL := Lib.hid hval
      clear hval
      go_wp2_with fail
      refine (sImageFill_no W _ rows HVAL.out _ (hr.ints hr.lt c)).mono ?_
      rintro e wc ⟨rfl, hb⟩
      clear hr
      replace hI := hI.below hb
      replace hW := hW.trans (Below.mono hb hW.size)
      replace x0 := cellB hb x0
      replace x1 := cellB hb x1
      obtain ⟨W1, e_W1⟩ : ∃ W0, W0 = World.alloc wc (.cells #[.int .i64 0, .slice none 0 0] 27) := ⟨_, rfl⟩
      have hx_W1 := Box2.new wc (.int .i64 0) (.slice none 0 0) 27
      have hb_W1 : Below (World.heap wc).size wc W1 := by rw [e_W1]; go_grown
      have HS_W1 := Lib.hid (show (World.heap W1).size = (World.heap wc).size + 1 by rw [e_W1]; simp)
      replace hI := hI.below hb_W1
      replace hW := hW.trans (Below.mono hb_W1 hW.size)
      replace x0 := cellB hb_W1 x0
      replace x1 := cellB hb_W1 x1
      have x0r := x0
      rw [e_W1] at x0r
      have x1r := x1
      rw [e_W1] at x1r
      have HE_W1 := Lib.hid e_W1
      clear e_W1
      go_wp2_with fail
      rw [← HE_W1.out] at hx_W1 ⊢
      clear x0r x1r
      clear HE_W1
      obtain ⟨hl_y, y0, y1⟩ := hx_W1
      obtain ⟨By, e_By⟩ : ∃ Bx, Bx = (World.heap wc).size := ⟨_, rfl⟩
      rw [← e_By] at hl_y y0 y1 hb_W1 HS_W1  ⊢
      have hz_By := hb_W1.size
      clear e_By hb_W1
      have a1 := lt_of_cell x0
      have a2 := lt_of_cell y0
      have aw := hW.size
      refine (toImage_c W _ rows (by first | exact r20 | (rw [HLC.out]; exact r20)) _ hI.ints).mono ?_
      rintro e wc ⟨gx, cx, rfl, hgx, hrx, hb⟩
      have b1 : Bx < gx := by simp at a1; omega
      have b2 : By < gx := by simp at a2; omega
      have bw : w.heap.size ≤ gx := by omega
      clear a1 a2 aw hgx
      replace hI := hI.below hb
      replace hW := hW.trans (Below.mono hb hW.size)
      replace x0 := cellB hb x0
      replace x1 := cellB hb x1
      replace y0 := cellB hb y0
      replace y1 := cellB hb y1
      have hgl := hrx.lt
      obtain ⟨W2, e_W2⟩ : ∃ W0, W0 = World.alloc wc (.cells #[.int .i64 W, .slice (some ⟨gx, 0, none⟩) rows.length cx] 27) := ⟨_, rfl⟩
      have hx_W2 := Box2.new wc (.int .i64 W) (.slice (some ⟨gx, 0, none⟩) rows.length cx) 27
      have hb_W2 : Below (World.heap wc).size wc W2 := by rw [e_W2]; go_grown
      have HS_W2 := Lib.hid (show (World.heap W2).size = (World.heap wc).size + 1 by rw [e_W2]; simp)
      replace hI := hI.below hb_W2
      replace hW := hW.trans (Below.mono hb_W2 hW.size)
      replace x0 := cellB hb_W2 x0
      replace x1 := cellB hb_W2 x1
      replace y0 := cellB hb_W2 y0
      replace y1 := cellB hb_W2 y1
      replace hrx := hrx.below hb_W2 hrx.lt
      have x0r := x0
      rw [e_W2] at x0r
      have x1r := x1
      rw [e_W2] at x1r
      have y0r := y0
      rw [e_W2] at y0r
      have y1r := y1
      rw [e_W2] at y1r
      have HE_W2 := Lib.hid e_W2
      clear e_W2
      go_wp2_with fail
      rw [← HE_W2.out] at hx_W2 ⊢
      clear x0r x1r y0r y1r
      clear HE_W2
      obtain ⟨hl_z, z0, z1⟩ := hx_W2
      obtain ⟨Bz, e_Bz⟩ : ∃ Bx, Bx = (World.heap wc).size := ⟨_, rfl⟩
      rw [← e_Bz] at hl_z z0 z1 hb_W2 HS_W2 hgl ⊢
      have hz_Bz := hb_W2.size
      clear e_Bz hb_W2
      refine (ImageFill_no W _ rows HVAL.out _ (hrx.ints hrx.lt cx)).mono ?_
      rintro e wc ⟨rfl, hb⟩
      replace hI := hI.below hb
      replace hW := hW.trans (Below.mono hb hW.size)
      replace x0 := cellB hb x0
      replace x1 := cellB hb x1
      replace y0 := cellB hb y0
      replace y1 := cellB hb y1
      replace hrx := hrx.below hb hrx.lt
      replace z0 := cellB hb z0
      replace z1 := cellB hb z1
      have hgl2 := lt_of_cell z0
      simp at hgl2
      obtain ⟨W3, e_W3⟩ : ∃ W0, W0 = World.alloc wc (.cells #[.int .i64 0, .slice none 0 0] 27) := ⟨_, rfl⟩
      have hx_W3 := Box2.new wc (.int .i64 0) (.slice none 0 0) 27
      have hb_W3 : Below (World.heap wc).size wc W3 := by rw [e_W3]; go_grown
      have HS_W3 := Lib.hid (show (World.heap W3).size = (World.heap wc).size + 1 by rw [e_W3]; simp)
      replace hI := hI.below hb_W3
      replace hW := hW.trans (Below.mono hb_W3 hW.size)
      replace x0 := cellB hb_W3 x0
      replace x1 := cellB hb_W3 x1
      replace y0 := cellB hb_W3 y0
      replace y1 := cellB hb_W3 y1
      replace hrx := hrx.below hb_W3 hrx.lt
      replace z0 := cellB hb_W3 z0
      replace z1 := cellB hb_W3 z1
      have x0r := x0
      rw [e_W3] at x0r
      have x1r := x1
      rw [e_W3] at x1r
      have y0r := y0
      rw [e_W3] at y0r
      have y1r := y1
      rw [e_W3] at y1r
      have z0r := z0
      rw [e_W3] at z0r
      have z1r := z1
      rw [e_W3] at z1r
      have HE_W3 := Lib.hid e_W3
      clear e_W3
      go_wp2_with fail
      rw [← HE_W3.out] at hx_W3 ⊢
      clear x0r x1r y0r y1r z0r z1r
      clear HE_W3
      obtain ⟨hl_u, u0, u1⟩ := hx_W3
      obtain ⟨Bu, e_Bu⟩ : ∃ Bx, Bx = (World.heap wc).size := ⟨_, rfl⟩
      rw [← e_Bu] at hl_u u0 u1 hb_W3 HS_W3 hgl2 ⊢
      have hz_Bu := hb_W3.size
      clear e_Bu hb_W3
      refine (eqImage_c 0 0 _ _ [] [] (by simp) _ (.inl ⟨rfl, none, 0, rfl⟩) (.inl ⟨rfl, none, 0, rfl⟩)).mono ?_
      rintro e wc ⟨rfl, hb⟩
      replace hI := hI.below hb
      replace hW := hW.trans (Below.mono hb hW.size)
      replace x0 := cellB hb x0
      replace x1 := cellB hb x1
      replace y0 := cellB hb y0
      replace y1 := cellB hb y1
      replace hrx := hrx.below hb hrx.lt
      replace z0 := cellB hb z0
      replace z1 := cellB hb z1
      replace u0 := cellB hb u0
      replace u1 := cellB hb u1
      simp only [decide_true, and_self]
      have HJ := hI.ints.drew
      have hIg := hrx.ints (B := wc.heap.size) hrx.lt cx
      have HH := Lib.hid (And.intro hW (And.intro hI (And.intro hrx (And.intro y0 (And.intro y1 (And.intro u0 u1))))))
      clear hW hI hrx y0 y1 u0 u1
      go_wp2_with fail
      go_region_held3 (fun w' : World => w'.cell? ⟨Bx, 0, none⟩ = some (.int .i64 W) ∧ w'.cell? ⟨Bx, 1, none⟩ = some (.slice A rows.length cap) ∧ w'.cell? ⟨Bz, 0, none⟩ = some (.int .i64 W) ∧ w'.cell? ⟨Bz, 1, none⟩ = some (.slice (some ⟨gx, 0, none⟩) rows.length cx)) (first | exact ⟨x0, x1, z0, z1⟩ | (refine ⟨?_, ?_, ?_, ?_⟩ <;> assumption) | go_keep) (first | (go_at_call 18; refine (toImage_c W _ rows (by first | exact r20 | (rw [HLC.out]; exact r20)) wc.drew HJ).mono ?_; rintro e w6 ⟨g6, c6, rfl, hg6, hr6, hb6'⟩; have hb6 := Below.undrew hb6'; have k0 := cellB hb6 x0; have k1 := cellB hb6 x1; have k2 := cellB hb6 z0; have k3 := cellB hb6 z1; have hI6 := (hIg.below hb6).more hb6.size; have hJ6 := hr6.ints hr6.lt c6; clear hb6') | (go_at_call 20; refine (eqImage_c W W _ _ rows rows (by first | exact r20 | (rw [HLC.out]; exact r20)) _ hI6 hJ6).mono ?_; rintro e w7 ⟨rfl, hb7⟩; have l0 := cellB hb7 k0; have l1 := cellB hb7 k1; have l2 := cellB hb7 k2; have l3 := cellB hb7 k3))
      obtain ⟨hW, hI, hrx, y0, y1, u0, u1⟩ := HH.out
      have hb := hb6.trans (hb7.mono hb6.size)
      clear x0 x1 z0 z1 k0 k1 k2 k3 HJ hIg hI6 hJ6 hr6 hg6
      obtain ⟨x0, x1, z0, z1⟩ := And.intro l0 (And.intro l1 (And.intro l2 l3))
      clear l0 l1 l2 l3
      replace hI := hI.below hb
      replace hW := hW.trans (Below.mono hb hW.size)
      replace hrx := hrx.below hb hrx.lt
      replace y0 := cellB hb y0
      replace y1 := cellB hb y1
      replace u0 := cellB hb u0
      replace u1 := cellB hb u1
      clear hb hb6 hb7 HH
      go_wp2_with fail
      refine (markImage_c W gx rows.length cx 1 (by omega) (by omega) rows rfl r20 _ hrx).mono ?_
      rintro e wc ⟨rfl, hrx, hg⟩
      replace hI := hI.only hg (by first | assumption | omega | (simp; omega))
      replace hW := bel_only hW hg (by first | assumption | omega | (simp; omega))
      replace y0 := cell_only hg y0 (by first | assumption | omega | (simp; omega))
      replace y1 := cell_only hg y1 (by first | assumption | omega | (simp; omega))
      replace u0 := cell_only hg u0 (by first | assumption | omega | (simp; omega))
      replace u1 := cell_only hg u1 (by first | assumption | omega | (simp; omega))
      replace x0 := cell_only hg x0 (by first | assumption | omega | (simp; omega))
      replace x1 := cell_only hg x1 (by first | assumption | omega | (simp; omega))
      replace z0 := cell_only hg z0 (by first | assumption | omega | (simp; omega))
      replace z1 := cell_only hg z1 (by first | assumption | omega | (simp; omega))
      clear hrx hg
      have hp1 : ¬ (1 : Int) + (rows.length : Int) < 0 := by omega
      go_wp2_with fail
      refine (eqImage_c 0 0 _ _ [] [] (by simp) _ (.inl ⟨rfl, none, 0, rfl⟩) (.inl ⟨rfl, none, 0, rfl⟩)).mono ?_
      rintro e wc ⟨rfl, hb⟩
      replace hI := hI.below hb
      replace hW := hW.trans (Below.mono hb hW.size)
      replace y0 := cellB hb y0
      replace y1 := cellB hb y1
      replace u0 := cellB hb u0
      replace u1 := cellB hb u1
      replace x0 := cellB hb x0
      replace x1 := cellB hb x1
      replace z0 := cellB hb z0
      replace z1 := cellB hb z1
      simp only [decide_true, and_self]
      go_wp2_with fail
      refine (markImage_0 0 none 0 1 _).mono ?_
      rintro e wc ⟨rfl, hb⟩
      replace hI := hI.below hb
      replace hW := hW.trans (Below.mono hb hW.size)
      replace y0 := cellB hb y0
      replace y1 := cellB hb y1
      replace u0 := cellB hb u0
      replace u1 := cellB hb u1
      replace x0 := cellB hb x0
      replace x1 := cellB hb x1
      replace z0 := cellB hb z0
      replace z1 := cellB hb z1
      go_wp2_with fail
      refine (heldImage_0 0 none 0 1 (by omega) (by omega) _).mono ?_
      rintro e wc ⟨rfl, hb⟩
      replace hI := hI.below hb
      replace hW := hW.trans (Below.mono hb hW.size)
      replace y0 := cellB hb y0
      replace y1 := cellB hb y1
      replace u0 := cellB hb u0
      replace u1 := cellB hb u1
      replace x0 := cellB hb x0
      replace x1 := cellB hb x1
      replace z0 := cellB hb z0
      replace z1 := cellB hb z1
      go_wp2_with fail
      refine (toImage_c W _ rows (by first | exact r20 | (rw [HLC.out]; exact r20)) _ hI.ints).mono ?_
      rintro e wc ⟨g, c, rfl, hg, hr, hb⟩
      clear hg
      replace hI := hI.below hb
      replace hW := hW.trans (Below.mono hb hW.size)
      replace y0 := cellB hb y0
      replace y1 := cellB hb y1
      replace u0 := cellB hb u0
      replace u1 := cellB hb u1
      replace x0 := cellB hb x0
      replace x1 := cellB hb x1
      replace z0 := cellB hb z0
      replace z1 := cellB hb z1
      go_wp2_with fail
      refine (ImageFill_no W _ rows HVAL.out _ (hr.ints hr.lt c)).mono ?_
      rintro e wc ⟨rfl, hb⟩
      replace hI := hI.below hb
      replace hW := hW.trans (Below.mono hb hW.size)
      replace y0 := cellB hb y0
      replace y1 := cellB hb y1
      replace u0 := cellB hb u0
      replace u1 := cellB hb u1
      replace x0 := cellB hb x0
      replace x1 := cellB hb x1
      replace z0 := cellB hb z0
      replace z1 := cellB hb z1
      replace hr := hr.below hb hr.lt
      obtain ⟨W5, e_W5⟩ : ∃ W0, W0 = World.alloc wc (.cells #[.int .i64 0, .slice none 0 0] 27) := ⟨_, rfl⟩
      have hx_W5 := Box2.new wc (.int .i64 0) (.slice none 0 0) 27
      have hb_W5 : Below (World.heap wc).size wc W5 := by rw [e_W5]; go_grown
      have HS_W5 := Lib.hid (show (World.heap W5).size = (World.heap wc).size + 1 by rw [e_W5]; simp)
      replace hI := hI.below hb_W5
      replace hW := hW.trans (Below.mono hb_W5 hW.size)
      replace y0 := cellB hb_W5 y0
      replace y1 := cellB hb_W5 y1
      replace u0 := cellB hb_W5 u0
      replace u1 := cellB hb_W5 u1
      replace x0 := cellB hb_W5 x0
      replace x1 := cellB hb_W5 x1
      replace z0 := cellB hb_W5 z0
      replace z1 := cellB hb_W5 z1
      replace hr := hr.below hb_W5 hr.lt
      have y0r := y0
      rw [e_W5] at y0r
      have y1r := y1
      rw [e_W5] at y1r
      have u0r := u0
      rw [e_W5] at u0r
      have u1r := u1
      rw [e_W5] at u1r
      have HE_W5 := Lib.hid e_W5
      clear e_W5
      go_wp2_with fail
      rw [← HE_W5.out] at hx_W5 ⊢
      clear y0r y1r u0r u1r
      clear HE_W5
      obtain ⟨hl_v, v0, v1⟩ := hx_W5
      obtain ⟨Bv, e_Bv⟩ : ∃ Bx, Bx = (World.heap wc).size := ⟨_, rfl⟩
      rw [← e_Bv] at hl_v v0 v1 hb_W5 HS_W5  ⊢
      have hz_Bv := hb_W5.size
      clear e_Bv hb_W5
      refine (eqImage_c 0 0 _ _ [] [] (by simp) _ (.inl ⟨rfl, none, 0, rfl⟩) (.inl ⟨rfl, none, 0, rfl⟩)).mono ?_
      rintro e wc ⟨rfl, hb⟩
      replace hI := hI.below hb
      replace hW := hW.trans (Below.mono hb hW.size)
      replace y0 := cellB hb y0
      replace y1 := cellB hb y1
      replace u0 := cellB hb u0
      replace u1 := cellB hb u1
      replace x0 := cellB hb x0
      replace x1 := cellB hb x1
      replace z0 := cellB hb z0
      replace z1 := cellB hb z1
      replace hr := hr.below hb hr.lt
      replace v0 := cellB hb v0
      replace v1 := cellB hb v1
      simp only [decide_true, and_self]
      go_wp2_with fail
      refine (heldImage_0 0 none 0 1 (by omega) (by omega) _).mono ?_
      rintro e wc ⟨rfl, hb⟩
      replace hI := hI.below hb
      replace hW := hW.trans (Below.mono hb hW.size)
      replace y0 := cellB hb y0
      replace y1 := cellB hb y1
      replace u0 := cellB hb u0
      replace u1 := cellB hb u1
      replace x0 := cellB hb x0
      replace x1 := cellB hb x1
      replace z0 := cellB hb z0
      replace z1 := cellB hb z1
      replace hr := hr.below hb hr.lt
      replace v0 := cellB hb v0
      replace v1 := cellB hb v1
      go_wp2
      go_returns
      exact ⟨rfl, hW⟩
    | true =>
      obtain ⟨n, ns, rfl, rfl, hV⟩ := validB_yes hval
      clear hval
      have HLC := Lib.hid (length_casts ns)
      rw [length_casts] at hI r20 x1 ⊢
      have h6 := hV.h6
      have h1 := hV.h1
      have hml : (fillL n ns).length = ns.length := length_fill
      have HML := Lib.hid hml
      clear hml
      have G1 := fun w h => sImageFill_yes n (.slice (some ⟨g, 0, none⟩) ns.length c) ns hV w h
      go_wp2_with fail
      refine (G1 _ (hr.intsH (c := c) rfl)).mono ?_
      clear G1
      rintro e wc ⟨gw, cw, rfl, hgw, hrw, hb⟩
      rw [HML.out]
      clear hr hgw
      replace hI := hI.below hb
      replace hW := hW.trans (Below.mono hb hW.size)
      replace x0 := cellB hb x0
      replace x1 := cellB hb x1
      obtain ⟨W1, e_W1⟩ : ∃ W0, W0 = World.alloc wc (.cells #[.int .i64 (n : Int), .slice (some ⟨gw, 0, none⟩) ns.length cw] 27) := ⟨_, rfl⟩
      have hx_W1 := Box2.new wc (.int .i64 (n : Int)) (.slice (some ⟨gw, 0, none⟩) ns.length cw) 27
      have hb_W1 : Below (World.heap wc).size wc W1 := by rw [e_W1]; go_grown
      have HS_W1 := Lib.hid (show (World.heap W1).size = (World.heap wc).size + 1 by rw [e_W1]; simp)
      replace hI := hI.below hb_W1
      replace hW := hW.trans (Below.mono hb_W1 hW.size)
      replace x0 := cellB hb_W1 x0
      replace x1 := cellB hb_W1 x1
      replace hrw := hrw.below hb_W1 hrw.lt
      have x0r := x0
      rw [e_W1] at x0r
      have x1r := x1
      rw [e_W1] at x1r
      have HE_W1 := Lib.hid e_W1
      clear e_W1
      go_wp2_with fail
      rw [← HE_W1.out] at hx_W1 ⊢
      clear x0r x1r
      clear HE_W1
      obtain ⟨hl_y, y0, y1⟩ := hx_W1
      obtain ⟨By, e_By⟩ : ∃ Bx, Bx = (World.heap wc).size := ⟨_, rfl⟩
      rw [← e_By] at hl_y y0 y1 hb_W1 HS_W1  ⊢
      have hz_By := hb_W1.size
      clear e_By hb_W1
      have a1 := lt_of_cell x0
      have a2 := lt_of_cell y0
      have a3 := hrw.lt
      have aw := hW.size
      refine (toImage_c (n : Int) _ (casts ns) (by first | exact r20 | (rw [HLC.out]; exact r20)) _ hI.ints).mono ?_
      rintro e wc ⟨gx, cx, rfl, hgx, hrx, hb⟩
      rw [HLC.out]
      have b1 : Bx < gx := by simp at a1; omega
      have b2 : By < gx := by simp at a2; omega
      have bw : w.heap.size ≤ gx := by omega
      have b3 : gw < gx := by omega
      clear a1 a2 aw hgx a3
      replace hI := hI.below hb
      replace hW := hW.trans (Below.mono hb hW.size)
      replace x0 := cellB hb x0
      replace x1 := cellB hb x1
      replace hrw := hrw.below hb hrw.lt
      replace y0 := cellB hb y0
      replace y1 := cellB hb y1
      have hgl := hrx.lt
      obtain ⟨W2, e_W2⟩ : ∃ W0, W0 = World.alloc wc (.cells #[.int .i64 (n : Int), .slice (some ⟨gx, 0, none⟩) ns.length cx] 27) := ⟨_, rfl⟩
      have hx_W2 := Box2.new wc (.int .i64 (n : Int)) (.slice (some ⟨gx, 0, none⟩) ns.length cx) 27
      have hb_W2 : Below (World.heap wc).size wc W2 := by rw [e_W2]; go_grown
      have HS_W2 := Lib.hid (show (World.heap W2).size = (World.heap wc).size + 1 by rw [e_W2]; simp)
      replace hI := hI.below hb_W2
      replace hW := hW.trans (Below.mono hb_W2 hW.size)
      replace x0 := cellB hb_W2 x0
      replace x1 := cellB hb_W2 x1
      replace hrw := hrw.below hb_W2 hrw.lt
      replace y0 := cellB hb_W2 y0
      replace y1 := cellB hb_W2 y1
      replace hrx := hrx.below hb_W2 hrx.lt
      have x0r := x0
      rw [e_W2] at x0r
      have x1r := x1
      rw [e_W2] at x1r
      have y0r := y0
      rw [e_W2] at y0r
      have y1r := y1
      rw [e_W2] at y1r
      have HE_W2 := Lib.hid e_W2
      clear e_W2
      go_wp2_with fail
      rw [← HE_W2.out] at hx_W2 ⊢
      clear x0r x1r y0r y1r
      clear HE_W2
      obtain ⟨hl_z, z0, z1⟩ := hx_W2
      obtain ⟨Bz, e_Bz⟩ : ∃ Bx, Bx = (World.heap wc).size := ⟨_, rfl⟩
      rw [← e_Bz] at hl_z z0 z1 hb_W2 HS_W2 hgl ⊢
      have hz_Bz := hb_W2.size
      clear e_Bz hb_W2
      have G1 := fun w h => ImageFill_yes n (.slice (some ⟨gx, 0, none⟩) ns.length cx) ns hV w h
      refine (G1 _ (hrx.intsH (c := cx) rfl)).mono ?_
      clear G1
      rintro e wc ⟨gr, cr, rfl, hgr, hrr, hb⟩
      rw [HML.out]
      have b4 : Bz < gr := by omega
      clear hgr
      replace hI := hI.below hb
      replace hW := hW.trans (Below.mono hb hW.size)
      replace x0 := cellB hb x0
      replace x1 := cellB hb x1
      replace hrw := hrw.below hb hrw.lt
      replace y0 := cellB hb y0
      replace y1 := cellB hb y1
      replace hrx := hrx.below hb hrx.lt
      replace z0 := cellB hb z0
      replace z1 := cellB hb z1
      have hgl2 := hrr.lt
      obtain ⟨W3, e_W3⟩ : ∃ W0, W0 = World.alloc wc (.cells #[.int .i64 (n : Int), .slice (some ⟨gr, 0, none⟩) ns.length cr] 27) := ⟨_, rfl⟩
      have hx_W3 := Box2.new wc (.int .i64 (n : Int)) (.slice (some ⟨gr, 0, none⟩) ns.length cr) 27
      have hb_W3 : Below (World.heap wc).size wc W3 := by rw [e_W3]; go_grown
      have HS_W3 := Lib.hid (show (World.heap W3).size = (World.heap wc).size + 1 by rw [e_W3]; simp)
      replace hI := hI.below hb_W3
      replace hW := hW.trans (Below.mono hb_W3 hW.size)
      replace x0 := cellB hb_W3 x0
      replace x1 := cellB hb_W3 x1
      replace hrw := hrw.below hb_W3 hrw.lt
      replace y0 := cellB hb_W3 y0
      replace y1 := cellB hb_W3 y1
      replace hrx := hrx.below hb_W3 hrx.lt
      replace z0 := cellB hb_W3 z0
      replace z1 := cellB hb_W3 z1
      replace hrr := hrr.below hb_W3 hrr.lt
      have x0r := x0
      rw [e_W3] at x0r
      have x1r := x1
      rw [e_W3] at x1r
      have y0r := y0
      rw [e_W3] at y0r
      have y1r := y1
      rw [e_W3] at y1r
      have z0r := z0
      rw [e_W3] at z0r
      have z1r := z1
      rw [e_W3] at z1r
      have HE_W3 := Lib.hid e_W3
      clear e_W3
      go_wp2_with fail
      rw [← HE_W3.out] at hx_W3 ⊢
      clear x0r x1r y0r y1r z0r z1r
      clear HE_W3
      obtain ⟨hl_u, u0, u1⟩ := hx_W3
      obtain ⟨Bu, e_Bu⟩ : ∃ Bx, Bx = (World.heap wc).size := ⟨_, rfl⟩
      rw [← e_Bu] at hl_u u0 u1 hb_W3 HS_W3 hgl2 ⊢
      have hz_Bu := hb_W3.size
      clear e_Bu hb_W3
      refine (eqImage_c (n : Int) n _ _ (casts (fillL n ns)) (casts (fillL n ns)) (by rw [length_casts, HML.out]; exact r20) _ (hrr.intsH HML.out) (hrw.intsH HML.out)).mono ?_
      rintro e wc ⟨rfl, hb⟩
      replace hI := hI.below hb
      replace hW := hW.trans (Below.mono hb hW.size)
      replace x0 := cellB hb x0
      replace x1 := cellB hb x1
      replace hrw := hrw.below hb hrw.lt
      replace y0 := cellB hb y0
      replace y1 := cellB hb y1
      replace hrx := hrx.below hb hrx.lt
      replace z0 := cellB hb z0
      replace z1 := cellB hb z1
      replace hrr := hrr.below hb hrr.lt
      replace u0 := cellB hb u0
      replace u1 := cellB hb u1
      simp only [decide_true, and_self]
      have HJ := hI.ints.drew
      have hIg := hrx.ints (B := wc.heap.size) hrx.lt cx
      rw [HLC.out] at hIg
      have HH := Lib.hid (And.intro hW (And.intro hI (And.intro hrx (And.intro y0 (And.intro y1 (And.intro u0 (And.intro u1 (And.intro hrw hrr))))))))
      clear hW hI hrx y0 y1 u0 u1 hrw hrr
      go_wp2_with fail
      go_region_held3 (fun w' : World => w'.cell? ⟨Bx, 0, none⟩ = some (.int .i64 (n : Int)) ∧ w'.cell? ⟨Bx, 1, none⟩ = some (.slice A ns.length cap) ∧ w'.cell? ⟨Bz, 0, none⟩ = some (.int .i64 (n : Int)) ∧ w'.cell? ⟨Bz, 1, none⟩ = some (.slice (some ⟨gx, 0, none⟩) ns.length cx)) (first | exact ⟨x0, x1, z0, z1⟩ | (refine ⟨?_, ?_, ?_, ?_⟩ <;> assumption) | go_keep) (first | (go_at_call 18; refine (toImage_c (n : Int) _ (casts ns) (by first | exact r20 | (rw [HLC.out]; exact r20)) wc.drew HJ).mono ?_; rintro e w6 ⟨g6, c6, rfl, hg6, hr6, hb6'⟩; have hb6 := Below.undrew hb6'; have k0 := cellB hb6 x0; have k1 := cellB hb6 x1; have k2 := cellB hb6 z0; have k3 := cellB hb6 z1; have hI6 := (hIg.below hb6).more hb6.size; have hJ6 := hr6.ints hr6.lt c6; rw [HLC.out] at hJ6 ⊢; clear hb6') | (go_at_call 20; refine (eqImage_c (n : Int) (n : Int) _ _ (casts ns) (casts ns) (by first | exact r20 | (rw [HLC.out]; exact r20)) _ hI6 hJ6).mono ?_; rintro e w7 ⟨rfl, hb7⟩; have l0 := cellB hb7 k0; have l1 := cellB hb7 k1; have l2 := cellB hb7 k2; have l3 := cellB hb7 k3))
      obtain ⟨hW, hI, hrx, y0, y1, u0, u1, hrw, hrr⟩ := HH.out
      have hb := hb6.trans (hb7.mono hb6.size)
      clear x0 x1 z0 z1 k0 k1 k2 k3 HJ hIg hI6 hJ6 hr6 hg6
      obtain ⟨x0, x1, z0, z1⟩ := And.intro l0 (And.intro l1 (And.intro l2 l3))
      clear l0 l1 l2 l3
      replace hI := hI.below hb
      replace hW := hW.trans (Below.mono hb hW.size)
      replace hrx := hrx.below hb hrx.lt
      replace hrw := hrw.below hb hrw.lt
      replace hrr := hrr.below hb hrr.lt
      replace y0 := cellB hb y0
      replace y1 := cellB hb y1
      replace u0 := cellB hb u0
      replace u1 := cellB hb u1
      clear hb hb6 hb7 HH
      go_wp2_with fail
      refine (markImage_c (n : Int) gx ns.length cx 1 (by omega) (by omega) (casts ns) HLC.out r20 _ hrx).mono ?_
      rintro e wc ⟨rfl, hrx, hg⟩
      replace hI := hI.only hg (by first | assumption | omega | (simp; omega))
      replace hW := bel_only hW hg (by first | assumption | omega | (simp; omega))
      replace hrw := hrw.only hg (by first | assumption | omega | (simp; omega))
      replace hrr := hrr.only hg (by first | assumption | omega | (simp; omega))
      replace y0 := cell_only hg y0 (by first | assumption | omega | (simp; omega))
      replace y1 := cell_only hg y1 (by first | assumption | omega | (simp; omega))
      replace u0 := cell_only hg u0 (by first | assumption | omega | (simp; omega))
      replace u1 := cell_only hg u1 (by first | assumption | omega | (simp; omega))
      replace x0 := cell_only hg x0 (by first | assumption | omega | (simp; omega))
      replace x1 := cell_only hg x1 (by first | assumption | omega | (simp; omega))
      replace z0 := cell_only hg z0 (by first | assumption | omega | (simp; omega))
      replace z1 := cell_only hg z1 (by first | assumption | omega | (simp; omega))
      clear hrx hg
      have hp1 : ¬ (1 : Int) + (ns.length : Int) < 0 := by omega
      go_wp2_with fail
      refine (eqImage_c (n : Int) n _ _ (casts (fillL n ns)) (casts (fillL n ns)) (by rw [length_casts, HML.out]; exact r20) _ (hrr.intsH HML.out) (hrw.intsH HML.out)).mono ?_
      rintro e wc ⟨rfl, hb⟩
      replace hI := hI.below hb
      replace hW := hW.trans (Below.mono hb hW.size)
      replace hrw := hrw.below hb hrw.lt
      replace hrr := hrr.below hb hrr.lt
      replace y0 := cellB hb y0
      replace y1 := cellB hb y1
      replace u0 := cellB hb u0
      replace u1 := cellB hb u1
      replace x0 := cellB hb x0
      replace x1 := cellB hb x1
      replace z0 := cellB hb z0
      replace z1 := cellB hb z1
      simp only [decide_true, and_self]
      go_wp2_with fail
      refine (markImage_c (n : Int) gr ns.length cr 1 (by omega) (by omega) (casts (fillL n ns)) (by rw [length_casts, HML.out]) r20 _ hrr).mono ?_
      rintro e wc ⟨rfl, hrm, hg⟩
      clear hrr
      replace hI := hI.only hg (by first | assumption | omega | (simp; omega))
      replace hW := bel_only hW hg (by first | assumption | omega | (simp; omega))
      replace hrw := hrw.only hg (by first | assumption | omega | (simp; omega))
      replace y0 := cell_only hg y0 (by first | assumption | omega | (simp; omega))
      replace y1 := cell_only hg y1 (by first | assumption | omega | (simp; omega))
      replace u0 := cell_only hg u0 (by first | assumption | omega | (simp; omega))
      replace u1 := cell_only hg u1 (by first | assumption | omega | (simp; omega))
      replace x0 := cell_only hg x0 (by first | assumption | omega | (simp; omega))
      replace x1 := cell_only hg x1 (by first | assumption | omega | (simp; omega))
      replace z0 := cell_only hg z0 (by first | assumption | omega | (simp; omega))
      replace z1 := cell_only hg z1 (by first | assumption | omega | (simp; omega))
      clear hg
      go_wp2_with fail
      refine (heldImage_c (n : Int) _ ns.length 1 (by omega) (by omega) r20 _ (hrm.intsI3 (c := cr) (markL_len _ _))).mono ?_
      rintro e wc ⟨rfl, hb⟩
      replace hI := hI.below hb
      replace hW := hW.trans (Below.mono hb hW.size)
      replace hrw := hrw.below hb hrw.lt
      replace y0 := cellB hb y0
      replace y1 := cellB hb y1
      replace u0 := cellB hb u0
      replace u1 := cellB hb u1
      replace x0 := cellB hb x0
      replace x1 := cellB hb x1
      replace z0 := cellB hb z0
      replace z1 := cellB hb z1
      replace hrm := hrm.below hb hrm.lt
      go_wp2_with fail
      refine (toImage_c (n : Int) _ (casts ns) (by first | exact r20 | (rw [HLC.out]; exact r20)) _ hI.ints).mono ?_
      rintro e wc ⟨g, c, rfl, hg, hr, hb⟩
      rw [HLC.out]
      clear hg
      replace hI := hI.below hb
      replace hW := hW.trans (Below.mono hb hW.size)
      replace hrw := hrw.below hb hrw.lt
      replace y0 := cellB hb y0
      replace y1 := cellB hb y1
      replace u0 := cellB hb u0
      replace u1 := cellB hb u1
      replace x0 := cellB hb x0
      replace x1 := cellB hb x1
      replace z0 := cellB hb z0
      replace z1 := cellB hb z1
      replace hrm := hrm.below hb hrm.lt
      go_wp2_with fail
      have G1 := fun w h => ImageFill_yes n (.slice (some ⟨g, 0, none⟩) ns.length c) ns hV w h
      refine (G1 _ (hr.intsH (c := c) rfl)).mono ?_
      clear G1
      rintro e wc ⟨gh, ch, rfl, hgh, hrh, hb⟩
      rw [HML.out]
      clear hgh
      replace hI := hI.below hb
      replace hW := hW.trans (Below.mono hb hW.size)
      replace hrw := hrw.below hb hrw.lt
      replace y0 := cellB hb y0
      replace y1 := cellB hb y1
      replace u0 := cellB hb u0
      replace u1 := cellB hb u1
      replace x0 := cellB hb x0
      replace x1 := cellB hb x1
      replace z0 := cellB hb z0
      replace z1 := cellB hb z1
      replace hrm := hrm.below hb hrm.lt
      replace hr := hr.below hb hr.lt
      obtain ⟨W5, e_W5⟩ : ∃ W0, W0 = World.alloc wc (.cells #[.int .i64 (n : Int), .slice (some ⟨gh, 0, none⟩) ns.length ch] 27) := ⟨_, rfl⟩
      have hx_W5 := Box2.new wc (.int .i64 (n : Int)) (.slice (some ⟨gh, 0, none⟩) ns.length ch) 27
      have hb_W5 : Below (World.heap wc).size wc W5 := by rw [e_W5]; go_grown
      have HS_W5 := Lib.hid (show (World.heap W5).size = (World.heap wc).size + 1 by rw [e_W5]; simp)
      replace hI := hI.below hb_W5
      replace hW := hW.trans (Below.mono hb_W5 hW.size)
      replace hrw := hrw.below hb_W5 hrw.lt
      replace y0 := cellB hb_W5 y0
      replace y1 := cellB hb_W5 y1
      replace u0 := cellB hb_W5 u0
      replace u1 := cellB hb_W5 u1
      replace x0 := cellB hb_W5 x0
      replace x1 := cellB hb_W5 x1
      replace z0 := cellB hb_W5 z0
      replace z1 := cellB hb_W5 z1
      replace hrm := hrm.below hb_W5 hrm.lt
      replace hr := hr.below hb_W5 hr.lt
      replace hrh := hrh.below hb_W5 hrh.lt
      have y0r := y0
      rw [e_W5] at y0r
      have y1r := y1
      rw [e_W5] at y1r
      have u0r := u0
      rw [e_W5] at u0r
      have u1r := u1
      rw [e_W5] at u1r
      have HE_W5 := Lib.hid e_W5
      clear e_W5
      go_wp2_with fail
      rw [← HE_W5.out] at hx_W5 ⊢
      clear y0r y1r u0r u1r
      clear HE_W5
      obtain ⟨hl_v, v0, v1⟩ := hx_W5
      obtain ⟨Bv, e_Bv⟩ : ∃ Bx, Bx = (World.heap wc).size := ⟨_, rfl⟩
      rw [← e_Bv] at hl_v v0 v1 hb_W5 HS_W5  ⊢
      have hz_Bv := hb_W5.size
      clear e_Bv hb_W5
      refine (eqImage_c (n : Int) n _ _ (casts (fillL n ns)) (casts (fillL n ns)) (by rw [length_casts, HML.out]; exact r20) _ (hrh.intsH HML.out) (hrw.intsH HML.out)).mono ?_
      rintro e wc ⟨rfl, hb⟩
      replace hI := hI.below hb
      replace hW := hW.trans (Below.mono hb hW.size)
      replace hrw := hrw.below hb hrw.lt
      replace y0 := cellB hb y0
      replace y1 := cellB hb y1
      replace u0 := cellB hb u0
      replace u1 := cellB hb u1
      replace x0 := cellB hb x0
      replace x1 := cellB hb x1
      replace z0 := cellB hb z0
      replace z1 := cellB hb z1
      replace hrm := hrm.below hb hrm.lt
      replace hr := hr.below hb hr.lt
      replace hrh := hrh.below hb hrh.lt
      replace v0 := cellB hb v0
      replace v1 := cellB hb v1
      simp only [decide_true, and_self]
      go_wp2_with fail
      refine (heldImage_c (n : Int) _ ns.length 1 (by omega) (by omega) r20 _ (hrm.intsI3 (c := cr) (markL_len _ _))).mono ?_
      rintro e wc ⟨rfl, hb⟩
      replace hI := hI.below hb
      replace hW := hW.trans (Below.mono hb hW.size)
      replace hrw := hrw.below hb hrw.lt
      replace y0 := cellB hb y0
      replace y1 := cellB hb y1
      replace u0 := cellB hb u0
      replace u1 := cellB hb u1
      replace x0 := cellB hb x0
      replace x1 := cellB hb x1
      replace z0 := cellB hb z0
      replace z1 := cellB hb z1
      replace hrm := hrm.below hb hrm.lt
      replace hr := hr.below hb hr.lt
      replace hrh := hrh.below hb hrh.lt
      replace v0 := cellB hb v0
      replace v1 := cellB hb v1
      go_wp2
      go_returns
      exact ⟨rfl, hW⟩
end Go.Proofs.Ytbblbdacdpokeaa
