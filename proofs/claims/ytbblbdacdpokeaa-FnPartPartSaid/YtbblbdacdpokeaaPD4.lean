/- Contract of the draw of an image and a cell of it. Conditions: the code's slice can be read. -/
import Derived.Test.YtbblbdacdpokeaaPD3
namespace Go.Proofs.Ytbblbdacdpokeaa
open Go.RowKit
set_option maxRecDepth 100000 in
set_option maxHeartbeats 4000000 in
theorem DrawImagePart_c (A : Option Addr) (len cap : Nat) (hlc : len ≤ cap) (w : World) (hc : Code8 w w.heap.size A len) :
    Calls Try.prog 26 #[.slice A len cap] w fun e w' => ∃ (W : Int) (v : Value) (rows : List Int) (i j : Int), e = .returned (.tuple #[.agg #[.int .i64 W, v], .int .i64 i, .int .i64 j]) ∧ Ints w'.heap.size w' v rows ∧ rows.length ≤ 6 ∧ Below w.heap.size w w' := by
  obtain ⟨W0, eW⟩ : ∃ W0, W0 = w.alloc (.cells #[.int .i64 0, .slice none 0 0] 27) := ⟨_, rfl⟩
  have hB0 : Below w.heap.size w W0 := by rw [eW]; go_grown
  have r0 : W0.cell? ⟨w.heap.size, 0, none⟩ = some (.int .i64 0) := by rw [eW]; go_cell
  have r1 : W0.cell? ⟨w.heap.size, 1, none⟩ = some (.slice none 0 0) := by rw [eW]; go_cell
  have rf0 : W0.frozen? ⟨w.heap.size, 0, none⟩ = false := by rw [eW]; go_cell
  have rf1 : W0.frozen? ⟨w.heap.size, 1, none⟩ = false := by rw [eW]; go_cell
  have hz0 : w.heap.size + 1 = W0.heap.size := by rw [eW]; simp
  have hc0 := code_below hB0 hc
  go_enter Try.func26, Try.ntmps26
  go_wp2_with fail
  rw [← eW]
  clear eW hc
  refine (l6Open_c A len cap hlc _ hc0).mono ?_
  rintro e wc ⟨rfl, hR, hb⟩
  obtain ⟨R, eR⟩ : ∃ R, R = W0.heap.size := ⟨_, rfl⟩
  rw [← eR] at hR ⊢
  have hwR : w.heap.size + 1 = R := by omega
  replace rf0 := frozenB hb r0 rf0
  replace r0 := cellB hb r0
  replace rf1 := frozenB hb r1 rf1
  replace r1 := cellB hb r1
  replace hB0 := hB0.trans (Below.mono hb hB0.size)
  clear eR hb hz0 hc0
  have hsz : w.heap.size + 1 ≤ wc.heap.size := by have h2 : w.heap.size < wc.heap.size := lt_of_cell r0; omega
  go_wp2_with fail
  refine (l91At_c R 0 36 (by omega) (by omega) (by omega) _ hR).mono ?_
  obtain ⟨lo, elo⟩ : ∃ b, b = wc.heap.size + 1 := ⟨_, rfl⟩
  rw [← elo]
  have hRl := hR.1
  rintro e wc ⟨⟨W, v, rows, i, j, rfl, hI, hl6⟩, hg, hR2⟩
  have hI : DRows (R + 1) wc v rows := by
    rcases hI with h | ⟨g, c, h, h2, h3⟩
    · exact .inl h
    · exact .inr ⟨g, c, h, h2, by omega⟩
  replace rf0 := frozen_only hg r0 (by first | assumption | omega | (simp; omega)) rf0
  replace r0 := cell_only hg r0 (by first | assumption | omega | (simp; omega))
  replace rf1 := frozen_only hg r1 (by first | assumption | omega | (simp; omega)) rf1
  replace r1 := cell_only hg r1 (by first | assumption | omega | (simp; omega))
  replace hB0 := bel_only hB0 hg (by first | assumption | omega | (simp; omega))
  clear hg hR elo
  obtain ⟨ao, co, rfl⟩ := DRows.form hI
  have hRw := hR2.1
  have hgl : ∀ g c, Value.slice ao rows.length co = .slice (some ⟨g, 0, none⟩) rows.length c → rows ≠ [] → g < wc.heap.size := fun g c h hne => by
    rcases hI with ⟨h2, _⟩ | ⟨g', c', hr, h2, _⟩
    · exact (hne h2).elim
    · rw [h2] at h
      injection h with h3
      injection h3 with h3
      injection h3 with h3
      rw [← h3]
      exact hr.lt
  obtain ⟨W1, e_W1⟩ : ∃ W0, W0 = World.alloc wc (.cells #[.int .i64 W, .slice ao rows.length co] 27) := ⟨_, rfl⟩
  have hx_W1 := Box2.new wc (.int .i64 W) (.slice ao rows.length co) 27
  have hb_W1 : Below (World.heap wc).size wc W1 := by rw [e_W1]; go_grown
  replace rf0 := frozenB hb_W1 r0 rf0
  replace r0 := cellB hb_W1 r0
  replace rf1 := frozenB hb_W1 r1 rf1
  replace r1 := cellB hb_W1 r1
  replace hB0 := hB0.trans (Below.mono hb_W1 hB0.size)
  replace hR2 := hR2.below hb_W1 hR2.1
  replace hI := DRows.below hI hb_W1
  have HE_W1 := Lib.hid e_W1
  clear e_W1
  go_wp2_with fail
  rw [← HE_W1.out] at hx_W1 ⊢
  clear HE_W1
  obtain ⟨hl_x, x0, x1⟩ := hx_W1
  obtain ⟨Bx, e_Bx⟩ : ∃ Bx, Bx = (World.heap wc).size := ⟨_, rfl⟩
  rw [← e_Bx] at hl_x x0 x1 hb_W1 hRw hgl ⊢
  have hz_Bx := hb_W1.size
  clear e_Bx hb_W1
  refine (sImageValid_c W _ rows _ (DRows.ints hI)).mono ?_
  rintro e wc ⟨rfl, hb⟩
  replace rf0 := frozenB hb r0 rf0
  replace r0 := cellB hb r0
  replace rf1 := frozenB hb r1 rf1
  replace r1 := cellB hb r1
  replace hB0 := hB0.trans (Below.mono hb hB0.size)
  replace hR2 := hR2.below hb hR2.1
  replace hI := DRows.below hI hb
  replace x0 := cellB hb x0
  replace x1 := cellB hb x1
  cases hval : validB W rows with
  | false =>
    clear hval
    obtain ⟨q0, q1⟩ := set2_get (x := .int .i64 W) (y := .slice ao rows.length co) r0 r1
    have HE := Lib.hid (part_fin (W := W) (i := i) (j := j) hB0 hI (by omega) hl6)
    clear hI hR2
    go_wp2
    refine bodyPost_ret (res_img_2 rfl _ _ rfl q0 q1) rfl ?_
    exact HE.out
  | true =>
    obtain ⟨n, ns, rfl, rfl, hV⟩ := validB_yes hval
    clear hval
    have w6 := hV.w6
    have h6 := hV.h6
    go_wp2_with fail
    refine (l1Cell_c n _ ns hV i j _ (DRows.ints hI)).mono ?_
    rintro e wc ⟨rfl, hb⟩
    replace rf0 := frozenB hb r0 rf0
    replace r0 := cellB hb r0
    replace rf1 := frozenB hb r1 rf1
    replace r1 := cellB hb r1
    replace hB0 := hB0.trans (Below.mono hb hB0.size)
    replace hR2 := hR2.below hb hR2.1
    replace hI := DRows.below hI hb
    replace x0 := cellB hb x0
    replace x1 := cellB hb x1
    by_cases hin : 0 ≤ i ∧ i < ns.length ∧ 0 ≤ j ∧ j < n
    · rw [inC_yes hin]
      obtain ⟨a, rfl⟩ := Int.eq_ofNat_of_zero_le hin.1
      obtain ⟨b, rfl⟩ := Int.eq_ofNat_of_zero_le hin.2.2.1
      go_wp2_with fail
      refine (pick_c R (0 + 20) 3 (by omega) (by omega) (by omega) _ hR2).mono ?_
      rintro e wc ⟨⟨x, rfl, hx⟩, hR3, hg⟩
      clear hR2
      replace rf0 := frozen_only hg r0 (by first | assumption | omega | (simp; omega)) rf0
      replace r0 := cell_only hg r0 (by first | assumption | omega | (simp; omega))
      replace rf1 := frozen_only hg r1 (by first | assumption | omega | (simp; omega)) rf1
      replace r1 := cell_only hg r1 (by first | assumption | omega | (simp; omega))
      replace hB0 := bel_only hB0 hg (by first | assumption | omega | (simp; omega))
      replace hI := DRows.only hI hg (by first | assumption | omega | (simp; omega))
      replace x0 := cell_only hg x0 (by first | assumption | omega | (simp; omega))
      replace x1 := cell_only hg x1 (by first | assumption | omega | (simp; omega))
      by_cases hx0 : 0 < x
      · have hxb : (0 : Int) < (x : Int) := by omega
        obtain ⟨g, c, hr, hform, hlg⟩ : ∃ g c, Row wc g (casts ns) ∧ Value.slice ao (casts ns).length co = .slice (some ⟨g, 0, none⟩) (casts ns).length c ∧ R + 1 ≤ g := by
          rcases hI with ⟨h, _⟩ | h
          · rw [h] at hl6
            have h2 : (casts ns).length = 0 := by rw [h]; rfl
            rw [length_casts] at h2
            have := hV.h1
            omega
          · exact h
        have hgB := hgl g c hform (by intro e; have h2 : (casts ns).length = 0 := (by rw [e]; rfl); rw [length_casts] at h2; have := hV.h1; omega)
        injection hform with e1 e2 e3
        subst e1 e3
        clear hI e2 hgl
        rw [length_casts] at x1 ⊢
        have hgw : w.heap.size < g := by omega
        go_wp2_with fail
        refine (l1Put_c (n : Int) g co ns a b (by omega) (by omega) (hV.get64 a) true _ hr).mono ?_
        rintro e wc ⟨rfl, hr', hg⟩
        clear hr
        replace rf0 := frozen_only hg r0 (by first | assumption | omega | (simp; omega)) rf0
        replace r0 := cell_only hg r0 (by first | assumption | omega | (simp; omega))
        replace rf1 := frozen_only hg r1 (by first | assumption | omega | (simp; omega)) rf1
        replace r1 := cell_only hg r1 (by first | assumption | omega | (simp; omega))
        replace hB0 := bel_only hB0 hg (by first | assumption | omega | (simp; omega))
        replace x0 := cell_only hg x0 (by first | assumption | omega | (simp; omega))
        replace x1 := cell_only hg x1 (by first | assumption | omega | (simp; omega))
        obtain ⟨q0, q1⟩ := set2_get (x := .int .i64 (n : Int)) (y := .slice (some ⟨g, 0, none⟩) ns.length co) r0 r1
        have HE := Lib.hid (part_fin (W := (n : Int)) (i := (a : Int)) (j := (b : Int)) hB0 (.inr ⟨g, co, hr', by rw [length_casts, length_putL], by omega⟩ : DRows (R + 1) wc (.slice (some ⟨g, 0, none⟩) ns.length co) (casts (putL ns a b true))) (by omega) (by rw [length_casts, length_putL]; exact h6))
        clear hr' hg
        go_wp2
        refine bodyPost_ret (res_img_2 rfl _ _ rfl q0 q1) rfl ?_
        exact HE.out
      · have hxb : ¬ (0 : Int) < (x : Int) := by omega
        clear hg
        obtain ⟨q0, q1⟩ := set2_get (x := .int .i64 (n : Int)) (y := .slice ao (casts ns).length co) r0 r1
        have HE := Lib.hid (part_fin (W := (n : Int)) (i := (a : Int)) (j := (b : Int)) hB0 hI (by omega) hl6)
        clear hI
        go_wp2
        refine bodyPost_ret (res_img_2 rfl _ _ rfl q0 q1) rfl ?_
        exact HE.out
    · rw [inC_no hin]
      obtain ⟨q0, q1⟩ := set2_get (x := .int .i64 (n : Int)) (y := .slice ao (casts ns).length co) r0 r1
      have HE := Lib.hid (part_fin (W := (n : Int)) (i := i) (j := j) hB0 hI (by omega) hl6)
      clear hI hR2
      go_wp2
      refine bodyPost_ret (res_img_2 rfl _ _ rfl q0 q1) rfl ?_
      exact HE.out
end Go.Proofs.Ytbblbdacdpokeaa
