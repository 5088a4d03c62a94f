/- The law that each cell of a part has this part: it returns true at whatever codes. Conditions: the codes' slices can be read. -/
import Derived.Test.YtbblbdacdpokeaaLPart
import Derived.Test.YtbblbdacdpokeaaKW
namespace Go.Proofs.Ytbblbdacdpokeaa
open Go.RowKit
open Gr
theorem sumN_one {n J : Nat} {f : Nat → Int} (h0 : ∀ k, k < n → 0 ≤ f k) (hJ : J < n) : f J ≤ sumN n f := by
  induction n with
  | zero => omega
  | succ n ih =>
    simp only [sumN]
    have h1 := h0 n (by omega)
    by_cases e : J = n
    · subst e
      have := sumN_nonneg (n := J) (f := f) fun k hk => h0 k (by omega)
      omega
    · have := ih (fun k hk => h0 k (by omega)) (by omega)
      omega
theorem many_pos {w : Nat} {ns : List Nat} {i j : Nat} (hV : VImg w ns) (hc : cell ns i j = true) : 0 < mom w ns one := by
  have hin := hV.cell_in hc
  unfold mom
  have h1 := sumN_one (n := w) (J := j) (f := fun j => one i j * b2i (cell ns i j)) (fun k _ => by unfold one; have := b2i_bd (cell ns i k); omega) hin.2
  have h2 := sumN_one (n := ns.length) (J := i) (f := fun i => sumN w fun j => one i j * b2i (cell ns i j)) (fun k _ => sumN_nonneg fun l _ => by unfold one; have := b2i_bd (cell ns k l); omega) hin.1
  have e : one i j * b2i (cell ns i j) = 1 := by rw [hc]; rfl
  have h1' : one i j * b2i (cell ns i j) ≤ sumN w fun j => one i j * b2i (cell ns i j) := h1
  have h2' : (sumN w fun j => one i j * b2i (cell ns i j)) ≤ sumN ns.length fun i => sumN w fun j => one i j * b2i (cell ns i j) := h2
  omega
set_option maxRecDepth 100000 in
set_option maxHeartbeats 4000000 in
theorem partSame_walk (A : Option Addr) (len cap : Nat) (hlc : len ≤ cap) (A' : Option Addr) (len' cap' : Nat) (w : World) (hc : Code8 w w.heap.size A len) :
    Calls Try.prog 14 #[.slice A len cap, .slice A' len' cap'] w fun e w' => e = .returned (.bool true) ∧ Below w.heap.size w w' := by
  by_cases hbig : 1048576 < len ∨ 1048576 < len'
  · by_cases hb1 : 1048576 < len
    · go_enter Try.func14, Try.ntmps14
      go_wp2
      go_returns
      exact ⟨rfl, Below.refl _ _⟩
    · have hb2 : 1048576 < len' := by omega
      go_enter Try.func14, Try.ntmps14
      go_wp2
      go_returns
      exact ⟨rfl, Below.refl _ _⟩
  · have hb1 : ¬ 1048576 < len := by omega
    have hb2 : ¬ 1048576 < len' := by omega
    have hl2 : len' ≤ 1048576 := by omega
    clear hbig
    go_enter Try.func14, Try.ntmps14
    go_wp2_with fail
    refine (DrawImagePart_c A len cap hlc w hc).mono ?_
    rintro e wc ⟨W, v, rows, i, j, rfl, hI, hl6, hW⟩
    obtain ⟨B, cp, rfl⟩ := hI.len
    obtain ⟨W1, e_W1⟩ : ∃ W0, W0 = World.alloc wc (.cells #[.int .i64 W, .slice B rows.length cp] 27) := ⟨_, rfl⟩
    have hx_W1 := Box2.new wc (.int .i64 W) (.slice B rows.length cp) 27
    have hb_W1 : Below (World.heap wc).size wc W1 := by rw [e_W1]; go_grown
    replace hW := hW.trans (Below.mono hb_W1 hW.size)
    replace hI := (hI.below hb_W1).more (Below.size hb_W1)
    have HE_W1 := Lib.hid e_W1
    clear e_W1
    go_wp2_with fail
    rw [← HE_W1.out] at hx_W1 ⊢
    clear HE_W1
    obtain ⟨hl_x, x0, x1⟩ := hx_W1
    obtain ⟨Bx, e_Bx⟩ : ∃ Bx, Bx = (World.heap wc).size := ⟨_, rfl⟩
    rw [← e_Bx] at hl_x x0 x1 hb_W1  ⊢
    have hz_Bx := hb_W1.size
    clear e_Bx hb_W1
    cases hhas : hasZ W rows i j with
    | false =>
      refine (ImagePart_no W _ rows i j hhas W1 hI).mono ?_
      rintro e wc ⟨rfl, hb⟩
      replace hW := hW.trans (Below.mono hb hW.size)
      replace hI := (hI.below hb).more (Below.size hb)
      replace x0 := cellB hb x0
      replace x1 := cellB hb x1
      obtain ⟨W3, e_W3⟩ : ∃ W0, W0 = World.alloc wc (.cells #[.int .i64 0, .slice none 0 0] 27) := ⟨_, rfl⟩
      have hx_W3 := Box2.new wc (.int .i64 0) (.slice none 0 0) 27
      have hb_W3 : Below (World.heap wc).size wc W3 := by rw [e_W3]; go_grown
      replace hW := hW.trans (Below.mono hb_W3 hW.size)
      replace hI := (hI.below hb_W3).more (Below.size hb_W3)
      replace x0 := cellB hb_W3 x0
      replace x1 := cellB hb_W3 x1
      have x0r := x0
      rw [e_W3] at x0r
      have x1r := x1
      rw [e_W3] at x1r
      have HE_W3 := Lib.hid e_W3
      clear e_W3
      go_wp2_with fail
      rw [← HE_W3.out] at hx_W3 ⊢
      clear x0r x1r
      clear HE_W3
      obtain ⟨hl_y, y0, y1⟩ := hx_W3
      obtain ⟨By, e_By⟩ : ∃ Bx, Bx = (World.heap wc).size := ⟨_, rfl⟩
      rw [← e_By] at hl_y y0 y1 hb_W3  ⊢
      have hz_By := hb_W3.size
      clear e_By hb_W3
      refine (sImagePart_no W _ rows i j hhas W3 hI).mono ?_
      rintro e wc ⟨rfl, hb⟩
      replace hW := hW.trans (Below.mono hb hW.size)
      replace hI := (hI.below hb).more (Below.size hb)
      replace x0 := cellB hb x0
      replace x1 := cellB hb x1
      replace y0 := cellB hb y0
      replace y1 := cellB hb y1
      clear hhas
      obtain ⟨W5, e_W5⟩ : ∃ W0, W0 = World.alloc wc (.cells #[.int .i64 0, .slice none 0 0] 27) := ⟨_, rfl⟩
      have hx_W5 := Box2.new wc (.int .i64 0) (.slice none 0 0) 27
      have hb_W5 : Below (World.heap wc).size wc W5 := by rw [e_W5]; go_grown
      replace hW := hW.trans (Below.mono hb_W5 hW.size)
      replace hI := (hI.below hb_W5).more (Below.size hb_W5)
      replace x0 := cellB hb_W5 x0
      replace x1 := cellB hb_W5 x1
      replace y0 := cellB hb_W5 y0
      replace y1 := cellB hb_W5 y1
      have y0r := y0
      rw [e_W5] at y0r
      have y1r := y1
      rw [e_W5] at y1r
      have HE_W5 := Lib.hid e_W5
      clear e_W5
      go_wp2_with fail
      rw [← HE_W5.out] at hx_W5 ⊢
      clear y0r y1r
      clear HE_W5
      obtain ⟨hl_z, z0, z1⟩ := hx_W5
      obtain ⟨Bz, e_Bz⟩ : ∃ Bx, Bx = (World.heap wc).size := ⟨_, rfl⟩
      rw [← e_Bz] at hl_z z0 z1 hb_W5  ⊢
      have hz_Bz := hb_W5.size
      clear e_Bz hb_W5
      refine (sameImage_c 0 0 _ _ [] [] (by simp) W5 (.inl ⟨rfl, none, 0, rfl⟩) (.inl ⟨rfl, none, 0, rfl⟩)).mono ?_
      rintro e wc ⟨rfl, hb⟩
      replace hW := hW.trans (Below.mono hb hW.size)
      replace hI := (hI.below hb).more (Below.size hb)
      replace x0 := cellB hb x0
      replace x1 := cellB hb x1
      replace y0 := cellB hb y0
      replace y1 := cellB hb y1
      replace z0 := cellB hb z0
      replace z1 := cellB hb z1
      simp only [decide_true, and_self]
      go_wp2_with fail
      refine (sameImage_c 0 0 _ _ [] [] (by simp) _ (.inl ⟨rfl, none, 0, rfl⟩) (.inl ⟨rfl, none, 0, rfl⟩)).mono ?_
      rintro e wc ⟨rfl, hb⟩
      replace hW := hW.trans (Below.mono hb hW.size)
      replace hI := (hI.below hb).more (Below.size hb)
      replace x0 := cellB hb x0
      replace x1 := cellB hb x1
      replace y0 := cellB hb y0
      replace y1 := cellB hb y1
      replace z0 := cellB hb z0
      replace z1 := cellB hb z1
      simp only [decide_true, and_self]
      go_wp2
      go_returns
      exact ⟨rfl, hW⟩
    | true =>
      obtain ⟨n, ns, a, b, rfl, rfl, rfl, rfl, hV, ha, hb', hc'⟩ := hasZ_yes hhas
      rw [length_casts] at x1 hI ⊢
      have h1 := hV.h1
      have h6 := hV.h6
      have w1 := hV.w1
      have w6 := hV.w6
      have hms : VImg n (compL (cell ns) false ns.length n (a, b)) := Sized.vimg sized_mk h1 h6 w1 w6
      have hml : (compL (cell ns) false ns.length n (a, b)).length = ns.length := length_comp _
      have HC := Lib.hid hc'
      have G1 := ImagePart_yes n _ ns hV a b hc' W1 hI
      have G2 := fun W h => sImagePart_yes n (.slice B ns.length cp) ns hV a b hc' W h
      obtain ⟨ms, em⟩ : ∃ ms, ms = compL (cell ns) false ns.length n (a, b) := ⟨_, rfl⟩
      rw [← em] at hms hml G1
      simp only [← em] at G2
      have HM := Lib.hid em
      have HML := Lib.hid hml
      clear hhas hc' em hml
      refine G1.mono ?_
      rintro e wc ⟨g, c, rfl, hg, hr, hb⟩
      rw [HML.out]
      clear G1
      replace hW := hW.trans (Below.mono hb hW.size)
      replace hI := (hI.below hb).more (Below.size hb)
      replace x0 := cellB hb x0
      replace x1 := cellB hb x1
      obtain ⟨W3, e_W3⟩ : ∃ W0, W0 = World.alloc wc (.cells #[.int .i64 (n : Int), .slice (some ⟨g, 0, none⟩) ns.length c] 27) := ⟨_, rfl⟩
      have hx_W3 := Box2.new wc (.int .i64 (n : Int)) (.slice (some ⟨g, 0, none⟩) ns.length c) 27
      have hb_W3 : Below (World.heap wc).size wc W3 := by rw [e_W3]; go_grown
      replace hW := hW.trans (Below.mono hb_W3 hW.size)
      replace hI := (hI.below hb_W3).more (Below.size hb_W3)
      replace x0 := cellB hb_W3 x0
      replace x1 := cellB hb_W3 x1
      replace hr := hr.below hb_W3 hr.lt
      have x0r := x0
      rw [e_W3] at x0r
      have x1r := x1
      rw [e_W3] at x1r
      have HE_W3 := Lib.hid e_W3
      clear e_W3
      go_wp2_with fail
      rw [← HE_W3.out] at hx_W3 ⊢
      clear x0r x1r
      clear HE_W3
      obtain ⟨hl_y, y0, y1⟩ := hx_W3
      obtain ⟨By, e_By⟩ : ∃ Bx, Bx = (World.heap wc).size := ⟨_, rfl⟩
      rw [← e_By] at hl_y y0 y1 hb_W3  ⊢
      have hz_By := hb_W3.size
      clear e_By hb_W3
      refine (G2 W3 hI).mono ?_
      rintro e wc ⟨g', c', rfl, hg', hr', hb⟩
      rw [HML.out]
      clear G2
      replace hW := hW.trans (Below.mono hb hW.size)
      replace hI := (hI.below hb).more (Below.size hb)
      replace x0 := cellB hb x0
      replace x1 := cellB hb x1
      replace hr := hr.below hb hr.lt
      replace y0 := cellB hb y0
      replace y1 := cellB hb y1
      obtain ⟨W5, e_W5⟩ : ∃ W0, W0 = World.alloc wc (.cells #[.int .i64 (n : Int), .slice (some ⟨g', 0, none⟩) ns.length c'] 27) := ⟨_, rfl⟩
      have hx_W5 := Box2.new wc (.int .i64 (n : Int)) (.slice (some ⟨g', 0, none⟩) ns.length c') 27
      have hb_W5 : Below (World.heap wc).size wc W5 := by rw [e_W5]; go_grown
      replace hW := hW.trans (Below.mono hb_W5 hW.size)
      replace hI := (hI.below hb_W5).more (Below.size hb_W5)
      replace x0 := cellB hb_W5 x0
      replace x1 := cellB hb_W5 x1
      replace hr := hr.below hb_W5 hr.lt
      replace y0 := cellB hb_W5 y0
      replace y1 := cellB hb_W5 y1
      replace hr' := hr'.below hb_W5 hr'.lt
      have y0r := y0
      rw [e_W5] at y0r
      have y1r := y1
      rw [e_W5] at y1r
      have HE_W5 := Lib.hid e_W5
      clear e_W5
      go_wp2_with fail
      rw [← HE_W5.out] at hx_W5 ⊢
      clear y0r y1r
      clear HE_W5
      obtain ⟨hl_z, z0, z1⟩ := hx_W5
      obtain ⟨Bz, e_Bz⟩ : ∃ Bx, Bx = (World.heap wc).size := ⟨_, rfl⟩
      rw [← e_Bz] at hl_z z0 z1 hb_W5  ⊢
      have hz_Bz := hb_W5.size
      clear e_Bz hb_W5
      refine (sameImage_c (n : Int) n _ _ (casts ms) (casts ms) (by rw [length_casts, HML.out]; omega) W5 (hr.intsH HML.out) (hr'.intsH HML.out)).mono ?_
      rintro e wc ⟨rfl, hb⟩
      replace hW := hW.trans (Below.mono hb hW.size)
      replace hI := (hI.below hb).more (Below.size hb)
      replace x0 := cellB hb x0
      replace x1 := cellB hb x1
      replace hr := hr.below hb hr.lt
      replace y0 := cellB hb y0
      replace y1 := cellB hb y1
      replace hr' := hr'.below hb hr'.lt
      replace z0 := cellB hb z0
      replace z1 := cellB hb z1
      simp only [decide_true, and_self]
      clear hg hg' hb' hr' z0 z1
      obtain ⟨i, ei⟩ : ∃ i, i = len' % ns.length := ⟨_, rfl⟩
      obtain ⟨q, eq⟩ : ∃ q, q = len' / ns.length := ⟨_, rfl⟩
      obtain ⟨j, ej⟩ : ∃ j, j = q % n := ⟨_, rfl⟩
      have hxi : i < ns.length := by rw [ei]; exact Nat.mod_lt _ (by omega)
      have hxj : j < n := by rw [ej]; exact Nat.mod_lt _ (by omega)
      have hq : q ≤ 1048576 := by rw [eq]; exact Nat.le_trans (Nat.div_le_self _ _) hl2
      have ei' : (len' : Int) % (ns.length : Int) = (i : Int) := by rw [ei]; simp
      have eq' : (len' : Int).tdiv (ns.length : Int) = (q : Int) := by rw [Int.tdiv_eq_ediv_of_nonneg (by omega), eq]; simp
      have ej' : (q : Int).tmod (n : Int) = (j : Int) := by rw [Int.tmod_eq_emod_of_nonneg (by omega), ej]; simp
      have ew : IntKind.i64.wrap (q : Int) = (q : Int) := IntWalk.i64_in _ ⟨by omega, by omega⟩
      have hn0 : ¬ (ns.length : Int) = 0 := by omega
      have hw0 : ¬ (n : Int) = 0 := by omega
      have k0 := cell_regrown x0
      have k1 := cell_regrown x1
      clear ei eq ej
      go_wp2_with fail
      try rw [ei']
      refine wp_region_quiet_below (by kernel_rfl) (by kernel_rfl) ?_
      repeat (first | go_big_quiet_step (fail) | quiet_step (fail))
      refine wpQuiet_nil ?_
      intro _ hw0
      obtain ⟨⟨dq, osq⟩, hw1⟩ := hw0
      subst hw1
      have hq2 := below_regrown wc dq osq
      generalize Go.Sort.grow (redrawn wc dq) osq = w2 at hq2 ⊢
      clear ei' eq' ej' ew hn0 hw0 k0 k1
      replace hW := hW.trans (Below.mono hq2 hW.size)
      replace hI := (hI.below hq2).more (Below.size hq2)
      replace x0 := cellB hq2 x0
      replace x1 := cellB hq2 x1
      replace hr := hr.below hq2 hr.lt
      replace y0 := cellB hq2 y0
      replace y1 := cellB hq2 y1
      go_wp2_with fail
      refine (ImageHas_v n _ ms hms i j _ (hr.intsH (c := c) HML.out)).mono ?_
      rintro e wc ⟨rfl, hb⟩
      replace hW := hW.trans (Below.mono hb hW.size)
      replace hI := (hI.below hb).more (Below.size hb)
      replace x0 := cellB hb x0
      replace x1 := cellB hb x1
      replace hr := hr.below hb hr.lt
      replace y0 := cellB hb y0
      replace y1 := cellB hb y1
      rw [cellZ_nat]
      cases hcell : cell ms i j with
      | false =>
        clear hcell
        go_wp2_with fail
        refine (ImageMany_c (n : Int) _ (casts ms) _ (hr.intsH (c := c) HML.out)).mono ?_
        rintro e wc ⟨rfl, hb⟩
        replace hW := hW.trans (Below.mono hb hW.size)
        replace hI := (hI.below hb).more (Below.size hb)
        replace x0 := cellB hb x0
        replace x1 := cellB hb x1
        replace hr := hr.below hb hr.lt
        replace y0 := cellB hb y0
        replace y1 := cellB hb y1
        rw [val0_yes hms]
        have hpos := many_pos hms (i := a) (j := b) (by have := part_here hV HC.out HM.out; rwa [cellZ_nat] at this)
        go_wp2
        go_returns
        exact ⟨rfl, hW⟩
      | true =>
        have hreach : Gr.Reach (cell ns) false a b i j := by
          have h2 := hcell
          rw [HM.out] at h2
          exact (cell_comp (sized_img hV).inside (c := (a, b)) HC.out).1 h2
        have hcn : cell ns i j = true := hreach.mem HC.out
        have hsame : compL (cell ns) false ns.length n (i, j) = ms := by
          rw [HM.out]
          exact (comp_same (sized_img hV).inside (a := (a, b)) (b := (i, j)) HC.out hreach).symm
        have G3 := ImagePart_yes n _ ns hV i j hcn _ hI
        rw [hsame] at G3
        clear hcell hreach hcn hsame
        go_wp2_with fail
        refine G3.mono ?_
        rintro e wc ⟨g3, c3, rfl, hg3, hr3, hb⟩
        rw [HML.out]
        clear G3
        replace hW := hW.trans (Below.mono hb hW.size)
        replace hI := (hI.below hb).more (Below.size hb)
        replace x0 := cellB hb x0
        replace x1 := cellB hb x1
        replace hr := hr.below hb hr.lt
        replace y0 := cellB hb y0
        replace y1 := cellB hb y1
        obtain ⟨W7, e_W7⟩ : ∃ W0, W0 = World.alloc wc (.cells #[.int .i64 (n : Int), .slice (some ⟨g3, 0, none⟩) ns.length c3] 27) := ⟨_, rfl⟩
        have hx_W7 := Box2.new wc (.int .i64 (n : Int)) (.slice (some ⟨g3, 0, none⟩) ns.length c3) 27
        have hb_W7 : Below (World.heap wc).size wc W7 := by rw [e_W7]; go_grown
        replace hW := hW.trans (Below.mono hb_W7 hW.size)
        replace hI := (hI.below hb_W7).more (Below.size hb_W7)
        replace x0 := cellB hb_W7 x0
        replace x1 := cellB hb_W7 x1
        replace hr := hr.below hb_W7 hr.lt
        replace y0 := cellB hb_W7 y0
        replace y1 := cellB hb_W7 y1
        replace hr3 := hr3.below hb_W7 hr3.lt
        have y0r := y0
        rw [e_W7] at y0r
        have y1r := y1
        rw [e_W7] at y1r
        have HE_W7 := Lib.hid e_W7
        clear e_W7
        go_wp2_with fail
        rw [← HE_W7.out] at hx_W7 ⊢
        clear y0r y1r
        clear HE_W7
        obtain ⟨hl_u, u0, u1⟩ := hx_W7
        obtain ⟨Bu, e_Bu⟩ : ∃ Bx, Bx = (World.heap wc).size := ⟨_, rfl⟩
        rw [← e_Bu] at hl_u u0 u1 hb_W7  ⊢
        have hz_Bu := hb_W7.size
        clear e_Bu hb_W7
        refine (sameImage_c (n : Int) n _ _ (casts ms) (casts ms) (by rw [length_casts, HML.out]; omega) W7 (hr3.intsH HML.out) (hr.intsH HML.out)).mono ?_
        rintro e wc ⟨rfl, hb⟩
        replace hW := hW.trans (Below.mono hb hW.size)
        replace hI := (hI.below hb).more (Below.size hb)
        replace x0 := cellB hb x0
        replace x1 := cellB hb x1
        replace hr := hr.below hb hr.lt
        replace y0 := cellB hb y0
        replace y1 := cellB hb y1
        replace hr3 := hr3.below hb hr3.lt
        replace u0 := cellB hb u0
        replace u1 := cellB hb u1
        simp only [decide_true, and_self]
        go_wp2
        go_returns
        exact ⟨rfl, hW⟩
end Go.Proofs.Ytbblbdacdpokeaa
