/- Contract of TableImage of the reference. Conditions: a valid table of one to six rows and columns. -/
import Derived.Test.YtbpjceffkchmbaaDoorTG11
import Derived.Test.YtbpjceffkchmbaaDoorTW
namespace Go.Proofs.YtbpjceffkchmbaaDoor
open Go.RowKit
theorem TI.grown {w W W' : World} {Rb R Bo n h : Nat} {ns ms : List Nat} (t : TI w W Rb R Bo n h ns) (h1 : Rb ≠ R) (h2 : Bo ≠ R) (h3 : w.heap.size ≤ R) (hr : Row W' R (casts ms)) (hg : W.grownBy W' (some R)) : TI w W' Rb R Bo n h ms :=
  ⟨cell_only hg t.r0 h1, cell_only hg t.r1 h1, frozen_only hg t.r0 h1 t.f0, frozen_only hg t.r1 h1 t.f1, cell_only hg t.b0 h2, cell_only hg t.b1 h2, hr, t.bel.grown hg t.bel.size (fun k e => by cases e; exact h3)⟩
theorem inR_bit {n k : Nat} {T : List (List Int)} (hw : (T.getD k []).length = n) (hr : inR 0 1 (T.getD k []) = true) : ∀ b, b < n → bitE T k b = true := by
  intro b hb
  by_cases hx : (T.getD k []).getD b 0 < 0 ∨ 1 < (T.getD k []).getD b 0
  · rw [inR_false (by rw [hw]; exact hb) hx] at hr
    cases hr
  · unfold bitE ent
    rw [decide_eq_true (by omega), decide_eq_true (by omega)]
    rfl
theorem inR_bit_no {h n k : Nat} {T : List (List Int)} (hk : k < h) (hw : (T.getD k []).length = n) (hr : inR 0 1 (T.getD k []) = false) : bitsB h n T = false := by
  cases hc : bitsB h n T with
  | false => rfl
  | true =>
    rw [inR_true fun j hj => ?_] at hr
    · cases hr
    · have := bitsB_at hc hk (show j < n by rw [← hw]; exact hj)
      unfold ent at this
      omega
set_option maxRecDepth 100000 in
set_option maxHeartbeats 8000000 in
theorem sTableImage_c (gT h n cp : Nat) (gs : List Nat) (T : List (List Int)) (h1 : 1 ≤ h) (h6 : h ≤ 6) (n1 : 1 ≤ n) (n6 : n ≤ 6) (hV : tvB h n T = true) (w : World) (t : Tbl w gT h n gs T) :
    Calls Tryd.prog 44 #[.slice (some ⟨gT, 0, none⟩) h cp] w fun e w' => TimOut w (bitsB h n T) n h (imgT T h n) w' e := by
  obtain ⟨W0, eW⟩ : ∃ W, W = w.alloc (.cells #[.int .i64 0, .slice none 0 0] 25) := ⟨_, rfl⟩
  have hb0 : Below w.heap.size w W0 := by rw [eW]; go_grown
  have r0 : W0.cell? ⟨w.heap.size, 0, none⟩ = some (.int .i64 0) := by rw [eW]; go_cell
  have r1 : W0.cell? ⟨w.heap.size, 1, none⟩ = some (.slice none 0 0) := by rw [eW]; go_cell
  have f0 : W0.frozen? ⟨w.heap.size, 0, none⟩ = false := by rw [eW]; go_cell
  have f1 : W0.frozen? ⟨w.heap.size, 1, none⟩ = false := by rw [eW]; go_cell
  have t0 := t.below hb0
  have hc0 := t0.cell (i := 0) (by omega)
  obtain ⟨g0, eg0⟩ : ∃ g, g = gs.getD 0 0 := ⟨_, rfl⟩
  rw [← eg0] at hc0
  unfold rowV at hc0
  have HVA := sTableValid_c gT h cp n gs T h1 (by omega) n1 (by omega) W0 t0
  rw [hV] at HVA
  have HEI := fun (W : World) => l1Blank_c h (n : Int) (by omega) W
  have hlt : w.heap.size < W0.heap.size := lt_of_cell r0
  have HT := Lib.hid (And.intro t eg0)
  have HEW := Lib.hid eW
  have g1 : ¬ (6 : Int) < (h : Int) := by omega
  have g2 : ¬ (6 : Int) < (n : Int) := by omega
  clear t t0 eW hV eg0
  go_enter Tryd.func44, Tryd.ntmps44
  go_wp2_with fail
  rw [← HEW.out]
  refine HVA.mono ?_
  rintro e w1 ⟨rfl, hbv⟩
  have s0 := cellB hbv r0
  have s1 := cellB hbv r1
  have u0 := frozenB hbv r0 f0
  have u1 := frozenB hbv r1 f1
  have hc1 := cellB hbv hc0
  have hb01 := hb0.trans (hbv.mono hb0.size)
  have hlt1 : w.heap.size < w1.heap.size := lt_of_cell s0
  clear HVA r0 r1 f0 f1 hb0 hbv hlt hc0
  go_wp2_with fail
  refine (HEI w1).mono ?_
  rintro e w2 ⟨rfl, hr2, hb2⟩
  obtain ⟨R, eR⟩ : ∃ R, R = w1.heap.size + 1 := ⟨_, rfl⟩
  rw [← eR] at hr2 ⊢
  have hRw : w.heap.size < R := by omega
  have q0 := cellB hb2 s0
  have q1 := cellB hb2 s1
  have p0 := frozenB hb2 s0 u0
  have p1 := frozenB hb2 s1 u1
  have hbB := hb01.trans (hb2.mono hb01.size)
  obtain ⟨W3, eW3⟩ : ∃ W, W = w2.alloc (.cells #[.int .i64 (n : Int), .slice (some ⟨R, 0, none⟩) h h] 25) := ⟨_, rfl⟩
  have hb3 : Below w2.heap.size w2 W3 := by rw [eW3]; go_grown
  have hRl : R < w2.heap.size := hr2.lt
  have hTI := Lib.hid (show TI w W3 w.heap.size R w2.heap.size n h (imgP T h n 0 0) from ⟨cellB hb3 q0, cellB hb3 q1, frozenB hb3 q0 p0, frozenB hb3 q1 p1, by rw [eW3]; go_cell, by rw [eW3]; go_cell, by
    rw [imgP_zero h1 h6 n1 n6]
    have := hr2.below hb3 hRl
    rwa [show casts (List.replicate h 0) = List.replicate h (0 : Int) by simp [casts]], hbB.trans (hb3.mono hbB.size)⟩)
  have hBl := hbB.size
  have HE3 := Lib.hid eW3
  clear eR hr2 hb2 s0 s1 u0 u1 q0 q1 p0 p1 hbB hb3 eW3 hb01 HEI hlt1
  go_wp2_with fail
  rw [← HE3.out]
  obtain ⟨Bo, eBo⟩ : ∃ B, B = w2.heap.size := ⟨_, rfl⟩
  rw [← eBo] at hTI hRl hBl ⊢
  have hBow : w.heap.size ≠ R := by omega
  have hBoR : Bo ≠ R := by omega
  clear eBo HE3 hc1
  go_wp2_with fail
  go_loopw [5] (fun q wr => ∃ k : Nat, k ≤ h ∧ q = .int .i64 (k : Int) ∧ (∀ a b, a < k → b < n → bitE T a b = true) ∧ TI w wr w.heap.size R Bo n h (imgP T h n k 0)) (fun q _ => h - (intOf q).toNat)
  case atStart => exact ⟨0, Nat.zero_le _, rfl, fun a b ha => by omega, hTI.out⟩
  case round =>
    clear hTI
    obtain ⟨k, hk, rfl, hok, hI⟩ := hrel
    by_cases hkl : k < h
    · have hki : (k : Int) < (h : Int) := by omega
      have tr := HT.out.1.below hI.bel
      have hck := tr.cell hkl
      obtain ⟨g, eg⟩ : ∃ g, g = gs.getD k 0 := ⟨_, rfl⟩
      rw [← eg] at hck
      unfold rowV at hck
      have HL := l2Each_c (.slice (some ⟨g, 0, none⟩) n n) (T.getD k []) 0 1 (by rw [tr.wid k hkl]; omega) wr (by rw [eg]; exact (tr.row k hkl).intsT (c := n) (tr.wid k hkl))
      have hw := tr.wid k hkl
      have hc0 := tr.cell (i := 0) (by omega)
      rw [← HT.out.2] at hc0
      unfold rowV at hc0
      cases hr : inR 0 1 (T.getD k []) with
      | false =>
        rw [hr] at HL
        have HN := Lib.hid (inR_bit_no hkl hw hr)
        have HM := Lib.hid hI
        have r0 := hI.r0
        have r1 := hI.r1
        have f0 := hI.f0
        have f1 := hI.f1
        obtain ⟨q0, q1⟩ := set2_get (x := .int .i64 0) (y := .slice none 0 0) r0 r1
        clear tr hI hok eg hw hr
        go_wp2_with fail
        refine HL.mono ?_
        rintro e w5 ⟨rfl, rfl⟩
        clear HL
        go_wp2
        refine bodyPost_ret (res_img_b rfl _ _ rfl q0 q1) rfl ?_
        exact .inr ⟨HN.out, rfl, (HM.out.bel.setCell (Nat.le_refl _) _).setCell (Nat.le_refl _) _⟩
      | true =>
        rw [hr] at HL
        have HR := Lib.hid (And.intro hI (And.intro hok (And.intro eg (inR_bit hw hr))))
        clear tr hI hok eg hw hr
        go_wp2_with fail
        refine HL.mono ?_
        rintro e w5 ⟨rfl, rfl⟩
        clear HL hck hc0
        go_wp2_with fail
        go_loopw [6] (fun q wr => ∃ l : Nat, l ≤ n ∧ q = .int .i64 (l : Int) ∧ TI w wr w.heap.size R Bo n h (imgP T h n k l)) (fun q _ => n - (intOf q).toNat)
        case atStart => exact ⟨0, Nat.zero_le _, rfl, HR.out.1⟩
        case round =>
          obtain ⟨l, hl, rfl, hI⟩ := hrel
          have tr := HT.out.1.below hI.bel
          have hc0 := tr.cell (i := 0) (by omega)
          rw [← HT.out.2] at hc0
          unfold rowV at hc0
          by_cases hll : l < n
          · have hli : (l : Int) < (n : Int) := by omega
            have hck := tr.cell hkl
            have hcl := (tr.row k hkl).cell (k := l) (by rw [tr.wid k hkl]; exact hll)
            rw [← HR.out.2.2.1] at hcl hck
            unfold rowV at hck
            have hst := imgP_step (T := T) h1 h6 n1 n6 hkl hll
            have hv6 := (imgP_vimg (T := T) (k := k) (l := l) h1 h6 n1 n6).get64 k
            have hent : (T.getD k []).getD l 0 = ent T k l := rfl
            rw [hent] at hcl
            obtain ⟨z, ez⟩ : ∃ z, z = ent T k l := ⟨_, rfl⟩
            rw [← ez] at hcl hst
            obtain ⟨s, es⟩ : ∃ s, s = decide (z = 1) := ⟨_, rfl⟩
            have hze : (z == 1) = s := by rw [es]; rfl
            rw [← es] at hst
            have b0 := hI.b0
            have b1 := hI.b1
            have k1 := cell_regrown hcl
            have k2 := cell_regrown hck
            have k3 := cell_regrown b0
            have k4 := cell_regrown b1
            have HP := fun (W : World) (hW : Below wr.heap.size wr W) => l1Put_h (n : Int) R h h (imgP T h n k l) (imgP_len ..) k l hkl (by omega) hv6 s W ((hI.below hW).row)
            rw [hst] at HP
            have HS := Lib.hid (And.intro hI hBow)
            clear tr hI hst hv6 hent ez es
            go_wp2_with fail
            refine wp_region_below_tail 11 (by kernel_rfl) (by kernel_rfl) ?_
            simp only [List.take_succ_cons, List.take_zero, List.drop_succ_cons, List.drop_zero]
            repeat (first | go_big_quiet_step (fail) | quiet_step (fail))
            refine wpQuiet_nil ?_
            intro _ hw0
            obtain ⟨⟨dq, osq⟩, hw1⟩ := hw0
            subst hw1
            have hq := below_regrown wr dq osq
            generalize Go.Sort.grow (redrawn wr dq) osq = w5 at hq ⊢
            clear k1 k2 k3 k4 hcl hck b0 b1 hc0
            have HQ := HP w5 hq
            have HI5 := Lib.hid (HS.out.1.below hq)
            clear HP hq
            go_wp2_with fail
            refine HQ.mono ?_
            rintro e w6 ⟨rfl, hr6, hg6⟩
            have HN := Lib.hid (HI5.out.grown hBow hBoR (by omega) hr6 hg6)
            clear HQ hr6 hg6
            go_wp2_with fail
            go_roundw
            case rel => exact ⟨l + 1, by omega, by go_num, HN.out⟩
            case measure => simp [intOf]; omega
          · have hli : ¬ ((l : Int) < (n : Int)) := by omega
            have hln : l = n := by omega
            rw [hln, imgP_row] at hI
            have HN := Lib.hid (And.intro (show ∀ a b, a < k + 1 → b < n → bitE T a b = true from fun a b ha hb => by
              by_cases e : a = k
              · subst e; exact HR.out.2.2.2 b hb
              · exact HR.out.2.1 a b (by omega) hb) hI)
            clear hI hln tr
            go_wp2
            exact ⟨⟨k + 1, by omega, by go_num, HN.out⟩, by simp [intOf]; omega⟩
    · have hki : ¬ ((k : Int) < (h : Int)) := by omega
      have hkh : k = h := by omega
      rw [hkh] at hI
      have hby := bitsB_yes (h := h) (n := n) (T := T) fun a b ha hb => hok a b (by omega) hb
      have HBY := Lib.hid hby
      have HM := Lib.hid hI
      have r0 := hI.r0
      have r1 := hI.r1
      have f0 := hI.f0
      have f1 := hI.f1
      have b0 := hI.b0
      have b1 := hI.b1
      obtain ⟨q0, q1⟩ := set2_get (x := .int .i64 (n : Int)) (y := .slice (some ⟨R, 0, none⟩) h h) r0 r1
      clear hI hok hkh hby
      go_wp2
      refine bodyPost_ret (res_img_b rfl _ _ rfl q0 q1) rfl ?_
      exact .inl ⟨HBY.out, R, h, rfl, by omega, (HM.out.row.far (by simp; omega) _).far (by simp; omega) _, (HM.out.bel.setCell (Nat.le_refl _) _).setCell (Nat.le_refl _) _⟩
end Go.Proofs.YtbpjceffkchmbaaDoor
