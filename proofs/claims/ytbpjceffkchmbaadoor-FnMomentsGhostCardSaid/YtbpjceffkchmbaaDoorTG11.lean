/- Contract of TableImage of the package. Conditions: a valid table of one to six rows and columns. -/
import Derived.Test.YtbpjceffkchmbaaDoorTG6
import Derived.Test.YtbpjceffkchmbaaDoorK3
import Derived.Test.YtbpjceffkchmbaaDoorApp
namespace Go.Proofs.YtbpjceffkchmbaaDoor
open Go.RowKit
/-- An image of the call's own and true, or the empty image and false. -/
def TimOut (w : World) (b : Bool) (n h : Nat) (ns : List Nat) (w' : World) (e : Ending) : Prop :=
  (b = true ∧ ∃ g c, e = .returned (.tuple #[.agg #[.int .i64 (n : Int), .slice (some ⟨g, 0, none⟩) h c], .bool true]) ∧ w.heap.size ≤ g ∧ Row w' g (casts ns) ∧ Below w.heap.size w w') ∨ (b = false ∧ e = .returned (.tuple #[.agg #[.int .i64 0, .slice none 0 0], .bool false]) ∧ Below w.heap.size w w')
theorem or_bit : ∀ r, r < 64 → ∀ j, j < 6 → r.testBit j = false → r ||| 2 ^ j = setBit r j true := by decide +kernel
theorem or_one {r j : Nat} (hr : r < 64) (hj : j < 6) (hb : r.testBit j = false) : bits .or .i64 (r : Int) (wrap64 (2 ^ j)) = ((setBit r j true : Nat) : Int) := by
  have e : wrap64 ((2 : Int) ^ j) = ((2 ^ j : Nat) : Int) := by
    have h1 := pw_6 (k := j) (by omega)
    have h2 := pw_pos j
    have e : (2 : Int) ^ j = pw j := by unfold pw; simp
    rw [e]
    exact IntWalk.wrap64_in _ ⟨by omega, by omega⟩
  have h2 : 2 ^ j < 64 := by
    rcases (show j = 0 ∨ j = 1 ∨ j = 2 ∨ j = 3 ∨ j = 4 ∨ j = 5 by omega) with rfl | rfl | rfl | rfl | rfl | rfl <;> decide
  rw [e, i64_or_nat r (2 ^ j) (by omega) (by omega), or_bit r hr j hj hb]
theorem or_zero {r j : Nat} (hr : r < 64) (hb : r.testBit j = false) : bits .or .i64 (r : Int) 0 = ((setBit r j false : Nat) : Int) := by
  have := i64_or_nat r 0 (by omega) (by omega)
  rw [Nat.or_zero] at this
  unfold setBit
  rw [if_pos hb]
  exact this
/-- The memory of a function that makes an image out of a table: its result's box Rb, the image's box Bo, its rows R. -/
structure TI (w W : World) (Rb R Bo n h : Nat) (ns : List Nat) : Prop where
  r0 : W.cell? ⟨Rb, 0, none⟩ = some (.int .i64 0)
  r1 : W.cell? ⟨Rb, 1, none⟩ = some (.slice none 0 0)
  f0 : W.frozen? ⟨Rb, 0, none⟩ = false
  f1 : W.frozen? ⟨Rb, 1, none⟩ = false
  b0 : W.cell? ⟨Bo, 0, none⟩ = some (.int .i64 (n : Int))
  b1 : W.cell? ⟨Bo, 1, none⟩ = some (.slice (some ⟨R, 0, none⟩) h h)
  row : Row W R (casts ns)
  bel : Below w.heap.size w W
theorem TI.below {w W W' : World} {Rb R Bo n h : Nat} {ns : List Nat} (t : TI w W Rb R Bo n h ns) (hb : Below W.heap.size W W') : TI w W' Rb R Bo n h ns :=
  ⟨cellB hb t.r0, cellB hb t.r1, frozenB hb t.r0 t.f0, frozenB hb t.r1 t.f1, cellB hb t.b0, cellB hb t.b1, t.row.below hb t.row.lt, t.bel.trans (hb.mono t.bel.size)⟩
theorem frz_far {w : World} {p q : Addr} {u : Value} (hne : q.block ≠ p.block) : (w.setCell p u).frozen? q = w.frozen? q := by
  unfold World.frozen?
  rw [Below.heap_setCell w p u q.block hne]
theorem TI.put {w W : World} {Rb R Bo n h : Nat} {ns : List Nat} (t : TI w W Rb R Bo n h ns) (h1 : Rb ≠ R) (h2 : Bo ≠ R) (h3 : w.heap.size ≤ R) {k l : Nat} (hk : k < ns.length) (s : Bool) : TI w (W.setCell ⟨R, k, none⟩ (.int .i64 ((setBit (ns.getD k 0) l s : Nat) : Int))) Rb R Bo n h (putL ns k l s) := by
  have c : ∀ {b o : Nat} {v : Value}, b ≠ R → W.cell? ⟨b, o, none⟩ = some v → (W.setCell ⟨R, k, none⟩ (.int .i64 ((setBit (ns.getD k 0) l s : Nat) : Int))).cell? ⟨b, o, none⟩ = some v := fun hb hc => (World.cell?_setCell_other _ _ _ _ (fun e => hb (congrArg Addr.block e).symm)).trans hc
  refine ⟨c h1 t.r0, c h1 t.r1, (frz_far h1).trans t.f0, (frz_far h1).trans t.f1, c h2 t.b0, c h2 t.b1, ?_, t.bel.setCell h3 _⟩
  have := t.row.set (k := k) (by rw [length_casts]; exact hk) ((setBit (ns.getD k 0) l s : Nat) : Int)
  rw [casts_set] at this
  exact this
theorem imgP_bit (T : List (List Int)) (h n k l : Nat) : ((imgP T h n k l).getD k 0).testBit l = false := by
  show cell (imgP T h n k l) k l = false
  unfold imgP
  rw [cell_mk, decide_eq_false (p := k < k ∨ (k = k ∧ l < l)) (by omega)]
  simp
set_option maxRecDepth 100000 in
set_option maxHeartbeats 8000000 in
theorem TableImage_c (gT h n : Nat) (gs : List Nat) (T : List (List Int)) (h1 : 1 ≤ h) (h6 : h ≤ 6) (n1 : 1 ≤ n) (n6 : n ≤ 6) (hV : tvB h n T = true) (w : World) (t : Tbl w gT h n gs T) :
    Calls Tryd.prog 41 #[.slice (some ⟨gT, 0, none⟩) h h] w fun e w' => TimOut w (bitsB h n T) n h (imgT T h n) w' e := by
  obtain ⟨W0, eW⟩ : ∃ W, W = w.alloc (.cells #[.int .i64 0, .slice none 0 0] 25) := ⟨_, rfl⟩
  have hb0 : Below w.heap.size w W0 := by rw [eW]; go_grown
  have r0 : W0.cell? ⟨w.heap.size, 0, none⟩ = some (.int .i64 0) := by rw [eW]; go_cell
  have r1 : W0.cell? ⟨w.heap.size, 1, none⟩ = some (.slice none 0 0) := by rw [eW]; go_cell
  have f0 : W0.frozen? ⟨w.heap.size, 0, none⟩ = false := by rw [eW]; go_cell
  have f1 : W0.frozen? ⟨w.heap.size, 1, none⟩ = false := by rw [eW]; go_cell
  have t0 := t.below hb0
  have hc0 := t0.cell (i := 0) (by omega)
  obtain ⟨g0, eg0⟩ : ∃ g, g = gs.getD 0 0 := ⟨_, rfl⟩
  rw [← eg0] at hc0
  unfold rowV at hc0
  have HVA := TableValid_c gT h n gs T h1 (by omega) n1 (by omega) W0 t0
  rw [hV] at HVA
  have HEI := fun (W : World) => emptyImage_c h (n : Int) (by omega) W
  have hlt : w.heap.size < W0.heap.size := lt_of_cell r0
  have HT := Lib.hid (And.intro t eg0)
  have HEW := Lib.hid eW
  have g1 : ¬ (6 : Int) < (h : Int) := by omega
  have g2 : ¬ (6 : Int) < (n : Int) := by omega
  clear t t0 eW hV eg0
  go_enter Tryd.func41, Tryd.ntmps41
  go_wp2_with fail
  rw [← HEW.out]
  refine HVA.mono ?_
  rintro e w' ⟨rfl, rfl⟩
  clear HVA
  go_wp2_with fail
  refine (HEI W0).mono ?_
  rintro e w2 ⟨rfl, hr2, hb2⟩
  obtain ⟨R, eR⟩ : ∃ R, R = W0.heap.size + 1 := ⟨_, rfl⟩
  rw [← eR] at hr2 ⊢
  have hRw : w.heap.size < R := by omega
  have q0 := cellB hb2 r0
  have q1 := cellB hb2 r1
  have p0 := frozenB hb2 r0 f0
  have p1 := frozenB hb2 r1 f1
  have hbB := hb0.trans (hb2.mono hb0.size)
  obtain ⟨W3, eW3⟩ : ∃ W, W = w2.alloc (.cells #[.int .i64 (n : Int), .slice (some ⟨R, 0, none⟩) h h] 25) := ⟨_, rfl⟩
  have hb3 : Below w2.heap.size w2 W3 := by rw [eW3]; go_grown
  have hRl : R < w2.heap.size := hr2.lt
  have hTI := Lib.hid (show TI w W3 w.heap.size R w2.heap.size n h (imgP T h n 0 0) from ⟨cellB hb3 q0, cellB hb3 q1, frozenB hb3 q0 p0, frozenB hb3 q1 p1, by rw [eW3]; go_cell, by rw [eW3]; go_cell, by
    rw [imgP_zero h1 h6 n1 n6]
    have := hr2.below hb3 hRl
    rwa [show casts (List.replicate h 0) = List.replicate h (0 : Int) by simp [casts]], hbB.trans (hb3.mono hbB.size)⟩)
  have hBl := hbB.size
  have HE3 := Lib.hid eW3
  clear eR hr2 hb2 r0 r1 f0 f1 q0 q1 p0 p1 hbB hb3 eW3 hb0 HEI hlt
  go_wp2_with fail
  rw [← HE3.out]
  obtain ⟨Bo, eBo⟩ : ∃ B, B = w2.heap.size := ⟨_, rfl⟩
  rw [← eBo] at hTI hRl hBl ⊢
  have hBow : w.heap.size ≠ R := by omega
  have hBoR : Bo ≠ R := by omega
  clear eBo HE3 hc0
  go_loopw [34] (fun q wr => ∃ k : Nat, k ≤ h ∧ q = .int .i64 (k : Int) ∧ (∀ a b, a < k → b < n → bitE T a b = true) ∧ TI w wr w.heap.size R Bo n h (imgP T h n k 0)) (fun q _ => h - (intOf q).toNat)
  case atStart => exact ⟨0, Nat.zero_le _, rfl, fun a b ha => by omega, hTI.out⟩
  case round =>
    clear hTI
    obtain ⟨k, hk, rfl, hok, hI⟩ := hrel
    by_cases hkl : k < h
    · have hki : (k : Int) < (h : Int) := by omega
      have tr := HT.out.1.below hI.bel
      have hck := tr.cell hkl
      obtain ⟨g, eg⟩ : ∃ g, g = gs.getD k 0 := ⟨_, rfl⟩
      rw [← eg] at hck
      unfold rowV at hck
      have HR := Lib.hid (And.intro hI (And.intro hok eg))
      clear tr hI hok eg
      go_wp2_with fail
      go_loopw [41] (fun q wr => ∃ l : Nat, l ≤ n ∧ q = .int .i64 (l : Int) ∧ (∀ b, b < l → bitE T k b = true) ∧ TI w wr w.heap.size R Bo n h (imgP T h n k l)) (fun q _ => n - (intOf q).toNat)
      case atStart => exact ⟨0, Nat.zero_le _, rfl, fun b hb => by omega, HR.out.1⟩
      case round =>
        obtain ⟨l, hl, rfl, hokl, hI⟩ := hrel
        by_cases hll : l < n
        · have hli : (l : Int) < (n : Int) := by omega
          have tr := HT.out.1.below hI.bel
          have hcl := (tr.row k hkl).cell (k := l) (by rw [tr.wid k hkl]; exact hll)
          rw [← HR.out.2.2] at hcl
          have hbe : bitE T k l = (decide (0 ≤ ent T k l) && decide (ent T k l ≤ 1)) := rfl
          have hst := imgP_step (T := T) h1 h6 n1 n6 hkl hll
          have hbit := imgP_bit T h n k l
          have hv6 := (imgP_vimg (T := T) (k := k) (l := l) h1 h6 n1 n6).get64 k
          have hent : (T.getD k []).getD l 0 = ent T k l := rfl
          rw [hent] at hcl
          obtain ⟨z, ez⟩ : ∃ z, z = ent T k l := ⟨_, rfl⟩
          rw [← ez] at hcl hbe hst
          clear tr hck ez hent
          by_cases hz : z = 0 ∨ z = 1
          · have hbt : bitE T k l = true := by rw [hbe, decide_eq_true (by omega), decide_eq_true (by omega)]; rfl
            have hput := fun (W : World) (hW : Below wr.heap.size wr W) => (hI.below hW).put (k := k) (l := l) hBow hBoR (by omega) (by rw [imgP_len]; exact hkl) (decide (z = 1))
            rw [hst] at hput
            have hcr := hI.row.cell (k := k) (by rw [length_casts, imgP_len]; exact hkl)
            rw [casts_getD] at hcr
            have hfr := fun (W : World) (hW : Below wr.heap.size wr W) => ((hI.below hW).row.frozen k)
            have b1 := hI.b1
            obtain ⟨r, er⟩ : ∃ r, r = (imgP T h n k l).getD k 0 := ⟨_, rfl⟩
            simp only [← er] at hput hcr hbit hv6
            have hokn : ∀ b, b < l + 1 → bitE T k b = true := fun b hb => by
              by_cases e : b = l
              · subst e; exact hbt
              · exact hokl b (by omega)
            have hor1 := or_one (r := r) (j := l) hv6 (by omega) hbit
            have hor0 := or_zero (r := r) (j := l) hv6 hbit
            have k1 := cell_regrown hcl
            have k2 := cell_regrown hcr
            have k3 := cell_regrown b1
            have HS := Lib.hid (And.intro hput (And.intro hokn (And.intro hor1 hor0)))
            have HF := Lib.hid (And.intro hfr hcr)
            clear hI hbe hst hbit hokl er hput hokn hfr hor1 hor0 hbt
            rcases hz with rfl | rfl
            · go_wp2_with fail
              refine wp_region_below_tail 10 (by kernel_rfl) (by kernel_rfl) ?_
              simp only [List.take_succ_cons, List.take_zero, List.drop_succ_cons, List.drop_zero]
              repeat (first | go_big_quiet_step (fail) | quiet_step (fail))
              refine wpQuiet_nil ?_
              intro _ hw0
              obtain ⟨⟨dq, osq⟩, hw1⟩ := hw0
              subst hw1
              have hq := below_regrown wr dq osq
              generalize Go.Sort.grow (redrawn wr dq) osq = w5 at hq ⊢
              clear k1 k2 k3
              have hfe := HF.out.1 w5 hq
              have hce5 := cellB hq HF.out.2
              go_wp2_with fail
              rw [HS.out.2.2.2]
              go_roundw
              case rel => exact ⟨l + 1, by omega, by go_num, HS.out.2.1, HS.out.1 w5 hq⟩
              case measure => simp [intOf]; omega
            · go_wp2_with fail
              refine wp_region_below_tail 10 (by kernel_rfl) (by kernel_rfl) ?_
              simp only [List.take_succ_cons, List.take_zero, List.drop_succ_cons, List.drop_zero]
              repeat (first | go_big_quiet_step (fail) | quiet_step (fail))
              refine wpQuiet_nil ?_
              intro _ hw0
              obtain ⟨⟨dq, osq⟩, hw1⟩ := hw0
              subst hw1
              have hq := below_regrown wr dq osq
              generalize Go.Sort.grow (redrawn wr dq) osq = w5 at hq ⊢
              clear k1 k2 k3
              have hfe := HF.out.1 w5 hq
              have hce5 := cellB hq HF.out.2
              go_wp2_with fail
              rw [HS.out.2.2.1]
              go_roundw
              case rel => exact ⟨l + 1, by omega, by go_num, HS.out.2.1, HS.out.1 w5 hq⟩
              case measure => simp [intOf]; omega
          · have hz0 : ¬ z = 0 := fun e => hz (.inl e)
            have hz1 : ¬ z = 1 := fun e => hz (.inr e)
            have hb1 : (z != 0) = true := by simp [hz0]
            have hb2 : (z != 1) = true := by simp [hz1]
            have HN := Lib.hid (bitsB_no (T := T) hkl hll (by
              rw [hbe]
              by_cases h0 : 0 ≤ z
              · rw [decide_eq_false (p := z ≤ 1) (by omega), Bool.and_false]
              · rw [decide_eq_false h0, Bool.false_and]))
            have HM := Lib.hid hI
            have r0 := hI.r0
            have r1 := hI.r1
            have f0 := hI.f0
            have f1 := hI.f1
            clear hI hbe hst hbit hokl hz
            obtain ⟨q0, q1⟩ := set2_get (x := .int .i64 0) (y := .slice none 0 0) r0 r1
            go_wp2
            refine bodyPost_ret (res_img_b rfl _ _ rfl q0 q1) rfl ?_
            exact .inr ⟨HN.out, rfl, (HM.out.bel.setCell (Nat.le_refl _) _).setCell (Nat.le_refl _) _⟩
        · have hli : ¬ ((l : Int) < (n : Int)) := by omega
          have hln : l = n := by omega
          rw [hln, imgP_row] at hI
          have HN := Lib.hid (And.intro (show ∀ a b, a < k + 1 → b < n → bitE T a b = true from fun a b ha hb => by
            by_cases e : a = k
            · subst e; exact hokl b (by omega)
            · exact HR.out.2.1 a b (by omega) hb) hI)
          clear hI hokl hln
          go_wp2
          exact ⟨⟨k + 1, by omega, by go_num, HN.out⟩, by simp [intOf]; omega⟩
    · have hki : ¬ ((k : Int) < (h : Int)) := by omega
      have hkh : k = h := by omega
      rw [hkh] at hI
      have hby := bitsB_yes (h := h) (n := n) (T := T) fun a b ha hb => hok a b (by omega) hb
      have HBY := Lib.hid hby
      have HM := Lib.hid hI
      have r0 := hI.r0
      have r1 := hI.r1
      have f0 := hI.f0
      have f1 := hI.f1
      have b0 := hI.b0
      have b1 := hI.b1
      obtain ⟨q0, q1⟩ := set2_get (x := .int .i64 (n : Int)) (y := .slice (some ⟨R, 0, none⟩) h h) r0 r1
      clear hI hok hkh hby
      go_wp2
      refine bodyPost_ret (res_img_b rfl _ _ rfl q0 q1) rfl ?_
      exact .inl ⟨HBY.out, R, h, rfl, by omega, (HM.out.row.far (by simp; omega) _).far (by simp; omega) _, (HM.out.bel.setCell (Nat.le_refl _) _).setCell (Nat.le_refl _) _⟩
end Go.Proofs.YtbpjceffkchmbaaDoor
