/- Contracts of holes and ImageHoles. Conditions: the slice reads as a list of integers. -/
import Derived.Test.YtmhbcfnakhgihaaDoorPH1
namespace Go.Proofs.YtmhbcfnakhgihaaDoor
open Go.RowKit
open Gr
theorem groups_o (n : Nat) (v : Value) (ns : List Nat) (hV : VImg n ns) (w : World) (hv : Ints w.heap.size w v (casts (otherL n ns))) :
    Calls Tryd.prog 32 #[.agg #[.int .i64 (n : Int), v], .bool true] w fun e w' => ∃ v' gs, e = .returned v' ∧ Imgs w.heap.size w'.heap.size w'.heap.size w' n ns.length v' (allL (coT n ns) true ns.length n) gs ∧ Below w.heap.size w w' := by
  have h := groups_v true n v (otherL n ns) (vimg_other hV) w hv
  rw [length_other, show cell (otherL n ns) = coT n ns from funext fun i => funext fun j => cell_other (sized_img hV) i j] at h
  exact h
theorem sides_val {n : Nat} (h1 : 1 ≤ n) (h6 : n ≤ 6) : bits .or .i64 1 (wrap64 (2 ^ (n - 1))) = ((1 ||| 2 ^ (n - 1) : Nat) : Int) ∧ 1 ||| 2 ^ (n - 1) < 64 := by
  have hp : 2 ^ (n - 1) < 2 ^ 6 := Nat.pow_lt_pow_right (by omega) (by omega)
  have e := mask_val (w := n - 1) (by omega)
  rw [e]
  refine ⟨i64_or_nat 1 (2 ^ (n - 1)) (by omega) (by omega), Nat.or_lt_two_pow (n := 6) (by omega) hp⟩
set_option maxHeartbeats 4000000 in
theorem holes_c (n : Nat) (v : Value) (ns : List Nat) (hV : VImg n ns) (w : World) (hv : Ints w.heap.size w v (casts ns)) :
    Calls Tryd.prog 41 #[.agg #[.int .i64 (n : Int), v]] w fun e w' => ∃ v' gs, e = .returned v' ∧ Imgs w.heap.size w'.heap.size w'.heap.size w' n ns.length v' (holesI n ns) gs ∧ Below w.heap.size w w' := by
  obtain ⟨A, cap, rfl⟩ := hv.len
  rw [length_casts] at hv ⊢
  have h1 := hV.h1
  have h6 := hV.h6
  have w1 := hV.w1
  have w6 := hV.w6
  have hI := Arg.new hv
  have hW := Below.refl w.heap.size w
  go_enter Tryd.func41, Tryd.ntmps41
  obtain ⟨W0, e_W0⟩ : ∃ W0, W0 = World.alloc w (.cells #[.int .i64 (n : Int), .slice A ns.length cap] 27) := ⟨_, rfl⟩
  have hx_W0 := Box2.new w (.int .i64 (n : Int)) (.slice A ns.length cap) 27
  have hb_W0 : Below (World.heap w).size w W0 := by rw [e_W0]; go_grown
  have HS_W0 := Lib.hid (show (World.heap W0).size = (World.heap w).size + 1 by rw [e_W0]; simp)
  replace hI := hI.below hb_W0
  replace hW := hW.trans (Below.mono hb_W0 hW.size)
  have HE_W0 := Lib.hid e_W0
  clear e_W0
  go_wp2_with fail
  rw [← HE_W0.out] at hx_W0 ⊢
  clear HE_W0
  obtain ⟨hl_x, x0, x1⟩ := hx_W0
  obtain ⟨Bx, e_Bx⟩ : ∃ Bx, Bx = (World.heap w).size := ⟨_, rfl⟩
  rw [← e_Bx] at hl_x x0 x1 hb_W0 HS_W0  ⊢
  have hz_Bx := hb_W0.size
  clear e_Bx hb_W0
  refine (ImageOther_c n _ ns hV _ hI.ints).mono ?_
  rintro e wc ⟨g, c, rfl, hg, hr, hb⟩
  rw [length_other] at *
  replace hI := hI.below hb
  replace hW := hW.trans (Below.mono hb hW.size)
  replace x0 := cellB hb x0
  replace x1 := cellB hb x1
  obtain ⟨W1, e_W1⟩ : ∃ W0, W0 = World.alloc wc (.cells #[.int .i64 (n : Int), .slice (some ⟨g, 0, none⟩) ns.length c] 27) := ⟨_, rfl⟩
  have hx_W1 := Box2.new wc (.int .i64 (n : Int)) (.slice (some ⟨g, 0, none⟩) ns.length c) 27
  have hb_W1 : Below (World.heap wc).size wc W1 := by rw [e_W1]; go_grown
  have HS_W1 := Lib.hid (show (World.heap W1).size = (World.heap wc).size + 1 by rw [e_W1]; simp)
  replace hI := hI.below hb_W1
  replace hW := hW.trans (Below.mono hb_W1 hW.size)
  replace x0 := cellB hb_W1 x0
  replace x1 := cellB hb_W1 x1
  replace hr := hr.below hb_W1 hr.lt
  have x0r := x0
  rw [e_W1] at x0r
  have x1r := x1
  rw [e_W1] at x1r
  have HE_W1 := Lib.hid e_W1
  clear e_W1
  go_wp2_with fail
  rw [← HE_W1.out] at hx_W1 ⊢
  clear x0r x1r
  clear HE_W1
  obtain ⟨hl_o, o0, o1⟩ := hx_W1
  obtain ⟨Bo, e_Bo⟩ : ∃ Bx, Bx = (World.heap wc).size := ⟨_, rfl⟩
  rw [← e_Bo] at hl_o o0 o1 hb_W1 HS_W1  ⊢
  have hz_Bo := hb_W1.size
  clear e_Bo hb_W1
  refine (groups_o n _ ns hV _ (hr.intsH (c := c) (length_other _ _))).mono ?_
  rintro e w2 ⟨v', gs, rfl, him, hb⟩
  obtain ⟨ao, co, rfl⟩ := him.form
  have hsb := hW.size
  obtain ⟨L, eL⟩ : ∃ L, L = allL (coT n ns) true ns.length n := ⟨_, rfl⟩
  have hlen := firsts_len_le (T := coT n ns) (near := true) (h := ns.length) (w := n)
  rw [← allL_len, ← eL] at hlen
  have hm36 : ns.length * n ≤ 6 * 6 := Nat.mul_le_mul h6 w6
  have hl36 : L.length ≤ 36 := by omega
  rw [← eL] at him
  have HL := Lib.hid eL
  have hBx := lt_of_cell x0
  obtain ⟨base, eB⟩ : ∃ b, b = W1.heap.size := ⟨_, rfl⟩
  rw [← eB] at him hsb hBx
  obtain ⟨top, eT⟩ : ∃ b, b = w2.heap.size := ⟨_, rfl⟩
  rw [← eT] at him
  replace hI := hI.below hb
  replace hW := hW.trans (Below.mono hb hW.size)
  replace x0 := cellB hb x0
  replace x1 := cellB hb x1
  replace hr := hr.below hb hr.lt
  replace o0 := cellB hb o0
  replace o1 := cellB hb o1
  have htop : top ≤ w2.heap.size := by omega
  have hbt : base ≤ top := by have := hb.size; omega
  rw [← HL.out]
  clear eL hlen hm36 eB eT hb o0 o1 hr hI
  go_wp2_with fail
  go_loopw [5, 20] (fun s q wr => ∃ (k : Nat) (vo : Value) (go : List (Nat × Nat)), k ≤ L.length ∧ s = vo ∧ q = .int .i64 k ∧ Below w.heap.size w wr ∧ Imgs base top top wr n ns.length (.slice ao L.length co) L gs ∧ top ≤ wr.heap.size ∧ wr.cell? ⟨Bx, 0, none⟩ = some (.int .i64 (n : Int)) ∧ (∃ tp, tp ≤ wr.heap.size ∧ Imgs base tp Bx wr n ns.length vo ((L.take k).filter (insideOf n)) go) ∧ (∀ b, vo.ownBlock = some b → top ≤ b)) (fun _ q _ => L.length - (intOf q).toNat)
  case atStart => exact ⟨0, _, [], by omega, rfl, rfl, hW, him, htop, x0, ⟨0, Nat.zero_le _, Imgs.nil _ _ _ _ _ _⟩, fun b hb => by simp [Value.ownBlock] at hb⟩
  case round =>
    clear hW him htop x0 x1
    obtain ⟨k, vo, go, hk, rfl, rfl, hW, him, htop, x0, ⟨tp, htp, hout⟩, hob⟩ := hrel
    obtain ⟨av, cv, rfl⟩ := hout.form
    by_cases hkl : k < L.length
    · obtain ⟨bb, cc, e, hb1, hb2, hb3, c0, c1⟩ := him.get hkl
      injection e with e1 e2 e3
      subst e1 e3
      obtain ⟨hrow, hg1, hg2, hg3⟩ := him.rows k hkl
      obtain ⟨gg, eg⟩ : ∃ g, g = (gs.getD k (0, 0)).1 := ⟨_, rfl⟩
      obtain ⟨cg, ec⟩ : ∃ c, c = (gs.getD k (0, 0)).2 := ⟨_, rfl⟩
      rw [← eg] at hrow hg1 hg2 hg3 c1
      rw [← ec] at c1
      clear eg ec e2
      have hsz : Sized ns.length n (L.getD k []) := by rw [HL.out] at hkl ⊢; exact allL_sized hkl
      have hsn := filter_snoc (p := insideOf n) hkl
      obtain ⟨ms, em⟩ : ∃ ms, ms = L.getD k [] := ⟨_, rfl⟩
      rw [← em] at hrow hsz hsn
      have HSN := Lib.hid hsn
      clear hsn em
      have hms := hsz.vimg h1 h6 w1 w6
      have hlm := hsz.1
      have hms64 := hms.get64
      obtain ⟨Wk, e_Wk⟩ : ∃ W0, W0 = World.alloc wr (.cells #[.int .i64 (n : Int), .slice (some ⟨gg, 0, none⟩) ns.length cg] 27) := ⟨_, rfl⟩
      have hx_Wk := Box2.new wr (.int .i64 (n : Int)) (.slice (some ⟨gg, 0, none⟩) ns.length cg) 27
      have hb_Wk : Below (World.heap wr).size wr Wk := by rw [e_Wk]; go_grown
      have HS_Wk := Lib.hid (show (World.heap Wk).size = (World.heap wr).size + 1 by rw [e_Wk]; simp)
      replace hW := hW.trans (Below.mono hb_Wk hW.size)
      replace him := him.below hb_Wk
      replace hout := hout.below hb_Wk
      replace htop := Nat.le_trans htop hb_Wk.size
      replace htp := Nat.le_trans htp hb_Wk.size
      replace x0 := cellB hb_Wk x0
      replace hrow := hrow.below hb_Wk hrow.lt
      have x0r := x0
      rw [e_Wk] at x0r
      have HE_Wk := Lib.hid e_Wk
      clear e_Wk
      go_wp2_with fail
      rw [← HE_Wk.out] at hx_Wk ⊢
      clear x0r
      clear HE_Wk
      obtain ⟨hl_y, y0, y1⟩ := hx_Wk
      obtain ⟨Bk, e_Bk⟩ : ∃ Bx, Bx = (World.heap wr).size := ⟨_, rfl⟩
      rw [← e_Bk] at hl_y y0 y1 hb_Wk HS_Wk  ⊢
      have hz_Bk := hb_Wk.size
      clear e_Bk hb_Wk
      obtain ⟨hsd, hs64⟩ := sides_val w1 w6
      obtain ⟨S, eS⟩ : ∃ S, S = 1 ||| 2 ^ (n - 1) := ⟨_, rfl⟩
      rw [← eS] at hsd hs64
      have HS := Lib.hid eS
      clear eS
      have q0 := hrow.cell (k := 0) (by rw [length_casts]; omega)
      have q1 := hrow.cell (k := ns.length - 1) (by rw [length_casts]; omega)
      rw [casts_getD] at q0 q1
      have et : ((ns.length : Int) - 1).toNat = ns.length - 1 := by omega
      have ew : IntKind.i64.wrap ((ns.length : Int) - 1) = (ns.length : Int) - 1 := IntWalk.i64_in _ ⟨by omega, by omega⟩
      have hx := i64_or_nat (ms.getD 0 0) (ms.getD (ns.length - 1) 0) (by have := hms64 0; omega) (by have := hms64 (ns.length - 1); omega)
      have e0 : ms.getD 0 0 ||| ms.getD (ns.length - 1) 0 = orTo ms S 0 := by unfold orTo; rw [hlm]
      rw [e0] at hx
      have hq64 := hms64 0
      have hr64 := hms64 (ns.length - 1)
      obtain ⟨r0, er0⟩ : ∃ r, r = ms.getD 0 0 := ⟨_, rfl⟩
      obtain ⟨r1, er1⟩ : ∃ r, r = ms.getD (ns.length - 1) 0 := ⟨_, rfl⟩
      rw [← er0] at q0 hx hq64
      rw [← er1] at q1 hx hr64
      have k0 := cell_regrown y1
      have k1 := cell_regrown q0
      have k2 := cell_regrown q1
      clear er0 er1 e0
      rw [hsd]
      clear hsd
      refine wp_region_quiet_below (by kernel_rfl) (by kernel_rfl) ?_
      repeat (first | go_big_quiet_step (fail) | quiet_step (fail))
      refine wpQuiet_nil ?_
      intro _ hw0
      obtain ⟨⟨dq, osq⟩, hw1⟩ := hw0
      subst hw1
      have hq := below_regrown Wk dq osq
      generalize Go.Sort.grow (redrawn Wk dq) osq = w3 at hq ⊢
      clear k0 k1 k2 q0 q1
      replace hW := hW.trans (Below.mono hq hW.size)
      replace him := him.below hq
      replace hout := hout.below hq
      replace htop := Nat.le_trans htop hq.size
      replace htp := Nat.le_trans htp hq.size
      replace x0 := cellB hq x0
      replace hrow := hrow.below hq hrow.lt
      replace y0 := cellB hq y0
      replace y1 := cellB hq y1
      have hor := fun k => orTo_lt (s := S) hms64 k
      have hand : ∀ k, ms.getD k 0 &&& S < 64 := fun k => Nat.lt_of_le_of_lt Nat.and_le_left (hms64 k)
      have hstep : ∀ k, orTo ms S (k + 1) = orTo ms S k ||| (ms.getD k 0 &&& S) := fun k => rfl
      have HO := Lib.hid (And.intro hor (And.intro hand hstep))
      have HMS := Lib.hid hms64
      clear hor hand hstep hms64 ew et hx
      go_wp2_with fail
      go_loopw [9, 45] (fun s q wi => ∃ m : Nat, m ≤ ns.length ∧ s = .int .i64 (orTo ms S m : Nat) ∧ q = .int .i64 m ∧ wi = w3) (fun _ q _ => ns.length - (intOf q).toNat)
      case atStart => exact ⟨0, by omega, rfl, rfl, rfl⟩
      case round =>
        obtain ⟨m, hm, rfl, rfl, rfl⟩ := hrel
        by_cases hml : m < ns.length
        · have hcm := hrow.cell (k := m) (by rw [length_casts]; omega)
          rw [casts_getD] at hcm
          have o1 := HO.out.1 m
          have o2 := HO.out.2.1 m
          have o3 := HO.out.2.2 m
          have hr64 := HMS.out m
          obtain ⟨r, er⟩ : ∃ r, r = ms.getD m 0 := ⟨_, rfl⟩
          rw [← er] at hcm o2 o3 hr64
          have ha := i64_and_nat r S (by omega) (by omega)
          have ho := i64_or_nat (orTo ms S m) (r &&& S) (by omega) (by omega)
          rw [← o3] at ho
          clear er o1 o2 o3
          go_wp2
          go_roundw
          case rel => exact ⟨m + 1, by omega, rfl, by go_num, trivial⟩
          case measure => simp [intOf]; omega
        · obtain rfl : m = ns.length := by omega
          have hfin := orTo_inside n ms
          rw [hlm, ← HS.out] at hfin
          obtain ⟨Z, eZ⟩ : ∃ Z, Z = orTo ms S ns.length := ⟨_, rfl⟩
          rw [← eZ] at hfin ⊢
          clear eZ
          by_cases hz : Z = 0
          · subst hz
            have hin : insideOf n ms = true := by rw [← hfin]; rfl
            have HIN := Lib.hid hin
            clear hin hfin
            have hb5 : Below wr.heap.size wr (wr.alloc (.cells #[.int .i64 (n : Int), .slice (some ⟨gg, 0, none⟩) ns.length cg] 27)) := by go_grown
            have HH := Lib.hid (And.intro (hout.below hb5) (And.intro hb5 hob))
            have hbs5 : base ≤ wr.heap.size := by omega
            have hgl36 : go.length ≤ 1048576 := by
              have h2 := hout.len
              have h3 := List.length_filter_le (insideOf n) (L.take k)
              rw [List.length_take] at h3
              omega
            clear hb5 hob
            go_wp2_with (at_builtin; go_loud (refine wpList_appP (v := .slice av ((L.take k).filter (insideOf n)).length cv) (x := .int .i64 (n : Int)) (y := .slice (some ⟨gg, 0, none⟩) ns.length cg) rfl (.tmp 57) (.tmp 59) rfl rfl HH.out.1.own rfl rfl rfl (by go_cell) (by go_cell) (by rw [List.length_map]; exact hgl36) (by simp; omega) ?_; intro v6 w6 hown6 hgr6 hob6; obtain ⟨a6, n6, c6, rfl⟩ := OwnP.form hown6))
            obtain ⟨hout5, hb5, hob⟩ := HH.out
            have hne : ∀ q, q < top → ∀ b, (Value.slice av ((L.take k).filter (insideOf n)).length cv).ownBlock = some b → q ≠ b := fun q hq b hb => by have := hob b hb; omega
            have hB6 := (hW.trans (hb5.mono hW.size)).grown hgr6 (Nat.le_trans hW.size hb5.size) (fun b e => by have := hob b e; omega)
            have h6s := hgr6.size
            have h5s := hb5.size
            have him6 := (him.below hb5).turn (w' := w6) fun b hb1 hb2 hb3 _ _ => hgr6.block b hb1 (fun e => hne b hb3 b e.symm rfl)
            have hrow5 := hrow.below hb5 hrow.lt
            have hout6 := Imgs.snocA hout5 hown6 hgr6 hob6 hrow5 hg1 (hne gg hg2) (by omega) (by simp; omega)
            have hsn := HSN.out
            rw [if_pos HIN.out] at hsn
            rw [← hsn] at hout6
            refine ⟨⟨k + 1, _, _, by omega, rfl, by go_num, hB6, him6, by omega, cell_grown (cellB hb5 x0) hgr6 (hne Bx (by omega)), ⟨_, Nat.le_refl _, hout6⟩, fun b hb => ?_⟩, by simp [intOf]; omega⟩
            rcases hob6 with e | e
            · exact hob b (e ▸ hb)
            · rw [e] at hb
              injection hb with hb
              omega
          · have hz1 : ((Z : Int) == 0) = false := by simp; omega
            have hin : insideOf n ms = false := by rw [← hfin]; simp [hz]
            have HIN := Lib.hid hin
            clear hin hfin
            go_wp2
            have hsn := HSN.out
            rw [if_neg (by rw [HIN.out]; simp), List.append_nil] at hsn
            refine ⟨⟨k + 1, _, go, by omega, rfl, by go_num, hW, him, htop, x0, ⟨tp, htp, ?_⟩, hob⟩, by simp [intOf]; omega⟩
            rw [hsn]
            exact hout
    · obtain rfl : k = L.length := by omega
      rw [List.take_of_length_le (Nat.le_refl _)] at hout ⊢
      have hfin : holesI n ns = L.filter (insideOf n) := by rw [HL.out]; rfl
      have HF := Lib.hid hfin
      have hfo := (hout.up htp).lower (base' := w.heap.size) hsb (gl' := wr.heap.size) (Nat.le_refl _)
      rw [← hfin] at hfo
      have HFO := Lib.hid hfo
      clear hout hfo hfin
      go_wp2
      go_returns
      refine ⟨.slice av (L.filter (insideOf n)).length cv, go, rfl, ?_, hW⟩
      have hfo := HFO.out
      rw [HF.out] at hfo ⊢
      exact hfo
set_option maxHeartbeats 1000000 in
theorem ImageHoles_c (W : Int) (v : Value) (rows : List Int) (w : World) (hv : Ints w.heap.size w v rows) :
    Calls Tryd.prog 20 #[.agg #[.int .i64 W, v]] w fun e w' => e = .returned (.int .i64 (onImg (-1) holesN W rows)) ∧ Below w.heap.size w w' := by
  obtain ⟨A, cap, rfl⟩ := hv.len
  have hI := Arg.new hv
  have hW := Below.refl w.heap.size w
  go_enter Tryd.func20, Tryd.ntmps20
  obtain ⟨W0, e_W0⟩ : ∃ W0, W0 = World.alloc w (.cells #[.int .i64 W, .slice A rows.length cap] 27) := ⟨_, rfl⟩
  have hx_W0 := Box2.new w (.int .i64 W) (.slice A rows.length cap) 27
  have hb_W0 : Below (World.heap w).size w W0 := by rw [e_W0]; go_grown
  have HS_W0 := Lib.hid (show (World.heap W0).size = (World.heap w).size + 1 by rw [e_W0]; simp)
  replace hI := hI.below hb_W0
  replace hW := hW.trans (Below.mono hb_W0 hW.size)
  have HE_W0 := Lib.hid e_W0
  clear e_W0
  go_wp2_with fail
  rw [← HE_W0.out] at hx_W0 ⊢
  clear HE_W0
  obtain ⟨hl_x, x0, x1⟩ := hx_W0
  obtain ⟨Bx, e_Bx⟩ : ∃ Bx, Bx = (World.heap w).size := ⟨_, rfl⟩
  rw [← e_Bx] at hl_x x0 x1 hb_W0 HS_W0  ⊢
  have hz_Bx := hb_W0.size
  clear e_Bx hb_W0
  refine (ImageValid_c W _ rows _ hI.ints).mono ?_
  rintro e wc ⟨rfl, hb⟩
  replace hI := hI.below hb
  replace hW := hW.trans (Below.mono hb hW.size)
  replace x0 := cellB hb x0
  replace x1 := cellB hb x1
  cases hval : validB W rows with
  | false =>
    go_wp2
    go_returns
    exact ⟨ri (onImg_no hval).symm, hW⟩
  | true =>
    obtain ⟨n, ns, rfl, rfl, hV⟩ := validB_yes hval
    rw [length_casts] at hI x1 ⊢
    clear hval hv
    go_wp2_with fail
    refine (holes_c n _ ns hV _ hI.ints).mono ?_
    rintro e wc ⟨v', gs, rfl, him, hb⟩
    replace hI := hI.below hb
    replace hW := hW.trans (Below.mono hb hW.size)
    replace x0 := cellB hb x0
    replace x1 := cellB hb x1
    obtain ⟨ao, co, rfl⟩ := him.form
    rw [holesI_len hV]
    go_wp2
    go_returns
    exact ⟨ri (by rw [onImg_yes hV]; rfl), hW⟩
end Go.Proofs.YtmhbcfnakhgihaaDoor
