/- Contracts of the drawing of an image: l6Open, l91Shape. Conditions: the reader's place below 2 to the power of 19. -/
import Derived.Test.YtldmilpohappiaaPK
namespace Go.Proofs.Ytldmilpohappiaa
open Go.RowKit
section
variable {w w' : World} {R : Nat} {p : Addr} {v : Value}
theorem lt_of_cell (h : w.cell? p = some v) : p.block < w.heap.size := by
  refine Classical.byContradiction fun hn => ?_
  unfold World.cell? at h
  rw [Array.getElem?_eq_none (by omega)] at h
  cases h
theorem cellB (hb : Below w.heap.size w w') (h : w.cell? p = some v) : w'.cell? p = some v := (hb.cell (lt_of_cell h)).trans h
theorem frozenB (hb : Below w.heap.size w w') (h : w.cell? p = some v) {x : Bool} (hf : w.frozen? p = x) : w'.frozen? p = x := (hb.frozen (lt_of_cell h)).trans hf
theorem cell_only (hg : w.grownBy w' (some R)) (h : w.cell? p = some v) (hne : p.block ≠ R) : w'.cell? p = some v := by
  have hb := hg.block p.block (lt_of_cell h) (fun e => by cases e; exact hne rfl)
  rw [← h]
  unfold World.cell?
  rw [hb]
theorem frozen_only (hg : w.grownBy w' (some R)) (h : w.cell? p = some v) (hne : p.block ≠ R) {x : Bool} (hf : w.frozen? p = x) : w'.frozen? p = x := by
  have hb := hg.block p.block (lt_of_cell h) (fun e => by cases e; exact hne rfl)
  rw [← hf]
  unfold World.frozen?
  rw [hb]
theorem Row.only {b : Nat} {xs : List Int} (h : Row w b xs) (hg : w.grownBy w' (some R)) (hne : b ≠ R) : Row w' b xs := h.grown hg (fun e => by cases e; exact hne rfl)
end
theorem grown_undrew {w w' : World} {row : Option Nat} (h : w.drew.grownBy w' row) : w.grownBy w' row := ⟨h.os, h.tape, h.output, h.size, h.block⟩
set_option maxHeartbeats 1000000 in
theorem l6Open_c (A : Option Addr) (len cap : Nat) (hlc : len ≤ cap) (w : World) (hc : Code8 w w.heap.size A len) :
    Calls Try.prog 17 #[.slice A len cap] w fun e w' => e = .returned (.pointer (some ⟨w.heap.size, 0, none⟩)) ∧ Rd w' w.heap.size 0 ∧ Below w.heap.size w w' := by
  by_cases h : len ≤ 2000
  · have hc2 : ∀ o, Code8 (w.alloc o) w.heap.size A len := fun o => hc.keep fun p hp => World.cell?_alloc_lt w o p hp
    have HC := Lib.hid hc2
    clear hc hc2
    go_enter Try.func17, Try.ntmps17
    go_wp2
    go_returns
    refine ⟨rfl, ⟨by simp, by go_cell, A, len, cap, 0, by go_cell, by go_cell, by omega, h, HC.out _⟩, by go_grown⟩
  · obtain ⟨b, off, rfl, hb, z, hz⟩ := hc.resolve_left (by omega)
    have hc2 : ∀ o, Code8 (w.alloc o) w.heap.size (some ⟨b, off, none⟩) 2000 := fun o => .inr ⟨b, off, rfl, hb, z, fun i hi => ⟨(World.cell?_alloc_lt w o ⟨b, off + i, none⟩ hb).trans (hz i (by omega)).1, (hz i (by omega)).2⟩⟩
    have HC := Lib.hid hc2
    clear hc hc2 hz
    go_enter Try.func17, Try.ntmps17
    go_wp2
    go_returns
    refine ⟨rfl, ⟨by simp, by go_cell, (some ⟨b, off, none⟩), 2000, cap, 0, by go_cell, by go_cell, by omega, by omega, HC.out _⟩, by go_grown⟩
/-- An image of the call's own: w columns, rows ns, in block g. -/
structure Drawn (a w : World) (R K : Nat) (e : Ending) : Prop where
  img : ∃ (g c wd : Nat) (ns : List Nat), e = .returned (.agg #[.int .i64 (wd : Int), .slice (some ⟨g, 0, none⟩) ns.length c]) ∧ VImg wd ns ∧ Row w g (casts ns) ∧ a.heap.size ≤ g
  rd : Rd w R K
  only : a.grownBy w (some R)
theorem casts_rep (h : Nat) : casts (List.replicate h 0) = List.replicate h 0 := by simp [casts]
set_option maxHeartbeats 2000000 in
theorem l91Shape_c (R K cells : Nat) (hcl : 1 ≤ cells) (hc6 : cells ≤ 1000) (hK : K ≤ 900000) (w : World) (hR : Rd w R K) :
    Calls Try.prog 55 #[.pointer (some ⟨R, 0, none⟩), .int .i64 cells] w fun e w' => Drawn w w' R (K + 8) e := by
  have hlt := hR.1
  go_enter Try.func55, Try.ntmps55
  go_wp2_with fail
  have hB0 : Below w.heap.size w (w.alloc (.cells #[.int .i64 0, .slice none 0 0] 25)) := by go_grown
  refine (pick_c R K 6 (by omega) (by omega) (by omega) _ (hR.below hB0 hlt)).mono ?_
  rintro e w1 ⟨⟨h0, rfl, hh0⟩, hR1, hg1⟩
  have r0 : w1.cell? ⟨w.heap.size, 0, none⟩ = some (.int .i64 0) := cell_only hg1 (by go_cell) (by simp; omega)
  have r1 : w1.cell? ⟨w.heap.size, 1, none⟩ = some (.slice none 0 0) := cell_only hg1 (by go_cell) (by simp; omega)
  have rf0 : w1.frozen? ⟨w.heap.size, 0, none⟩ = false := frozen_only hg1 (v := .int .i64 0) (by go_cell) (by simp; omega) (by go_cell)
  have rf1 : w1.frozen? ⟨w.heap.size, 1, none⟩ = false := frozen_only hg1 (v := .slice none 0 0) (by go_cell) (by simp; omega) (by go_cell)
  have hW1 : w.grownBy w1 (some R) := only_trans (only_of_below hB0 _) hg1
  go_wp2_with fail
  refine (pick_c R (K + 1) 6 (by omega) (by omega) (by omega) _ hR1).mono ?_
  rintro e w2 ⟨⟨w0, rfl, hw0⟩, hR2, hg2⟩
  have s0 := cell_only hg2 r0 (by simp; omega)
  have s1 := cell_only hg2 r1 (by simp; omega)
  have sf0 := frozen_only hg2 r0 (by simp; omega) rf0
  have sf1 := frozen_only hg2 r1 (by simp; omega) rf1
  have hW2 := only_trans hW1 hg2
  clear r0 r1 rf0 rf1
  go_wp2_with fail
  go_loop [5, 6] (fun a b => ∃ h v : Nat, 1 ≤ h ∧ h ≤ 6 ∧ 1 ≤ v ∧ v ≤ 6 ∧ a = .int .i64 h ∧ b = .int .i64 v) (fun a b => (intOf a).toNat + (intOf b).toNat)
  case atStart => exact ⟨h0 + 1, w0 + 1, by omega, by omega, by omega, by omega, by go_num, by go_num⟩
  case round =>
    obtain ⟨h, v, hh1, hh6, hv1, hv6, rfl, rfl⟩ := hrel
    have hm : h * v ≤ 6 * 6 := Nat.mul_le_mul hh6 hv6
    obtain ⟨m, em⟩ : ∃ m, m = h * v := ⟨_, rfl⟩
    have em2 : (h : Int) * (v : Int) = (m : Int) := by rw [em]; simp
    have em3 : IntKind.i64.wrap ((h : Int) * (v : Int)) = (m : Int) := by rw [em2]; exact IntWalk.i64_in _ ⟨by omega, by omega⟩
    rw [← em] at hm
    clear em2
    have EM := Lib.hid em
    clear em
    by_cases hbig : cells < m
    · by_cases hhv : v < h
      · go_wp2
        go_round
        case rel => exact ⟨h - 1, v, by omega, by omega, by omega, by omega, by go_num, rfl⟩
        case measure => simp [intOf]; omega
      · have hv2 : 2 ≤ v := by
          refine Classical.byContradiction fun hn => ?_
          obtain rfl : v = 1 := by omega
          obtain rfl : h = 1 := by omega
          have em := EM.out
          simp at em
          omega
        go_wp2
        go_round
        case rel => exact ⟨h, v - 1, by omega, by omega, by omega, by omega, rfl, by go_num⟩
        case measure => simp [intOf]; omega
    · go_wp2_with fail
      refine (l1Blank_c h v hh6 _).mono ?_
      rintro e w3 ⟨rfl, hr3, hb3⟩
      have t0 := cellB hb3 s0
      have t1 := cellB hb3 s1
      have tf0 := frozenB hb3 s0 sf0
      have tf1 := frozenB hb3 s1 sf1
      have hR3 := hR2.below hb3 hR2.1
      have hW3 := only_trans hW2 (only_of_below hb3 _)
      have hsz2 := hW2.size
      obtain ⟨g, eg⟩ : ∃ g, g = w2.heap.size + 1 := ⟨_, rfl⟩
      rw [← eg] at hr3 ⊢
      have hgw : w.heap.size < g := by omega
      clear eg
      obtain ⟨W4, eW⟩ : ∃ W4, W4 = w3.alloc (.cells #[.int .i64 v, .slice (some ⟨g, 0, none⟩) h h] 25) := ⟨_, rfl⟩
      have hx := Box2.new w3 (.int .i64 v) (.slice (some ⟨g, 0, none⟩) h h) 25
      have hb4 : Below w3.heap.size w3 W4 := by rw [eW]; go_grown
      rw [← eW] at hx
      obtain ⟨_, x0, x1⟩ := hx
      have hr4 := hr3.below hb4 hr3.lt
      have hgB : g < w3.heap.size := hr3.lt
      have hR4 := hR3.below hb4 hR3.1
      have hW4 := only_trans hW3 (only_of_below hb4 _)
      have u0 := cellB hb4 t0
      have u1 := cellB hb4 t1
      have uf0 := frozenB hb4 t0 tf0
      have uf1 := frozenB hb4 t1 tf1
      go_wp2_with fail
      rw [← eW]
      obtain ⟨Bx, eB⟩ : ∃ Bx, Bx = w3.heap.size := ⟨_, rfl⟩
      rw [← eB] at x0 x1 hgB ⊢
      have hBw : w.heap.size < Bx := by omega
      clear eB
      clear t0 t1 tf0 tf1 s0 s1 sf0 sf1 hR1 hR2 hR3 hr3 hW1 hW2 hW3 hg1 hg2 hb3 hb4 hB0 hR eW
      go_loopw [8] (fun i wr => ∃ (k : Nat) (ns : List Nat), k ≤ h ∧ i = .int .i64 k ∧ ns.length = h ∧ (∀ n ∈ ns, n < 2 ^ v) ∧ Row wr g (casts ns) ∧ Rd wr R (K + 2 + k) ∧ w.grownBy wr (some R) ∧ (wr.cell? ⟨w.heap.size, 0, none⟩ = some (.int .i64 0) ∧ wr.cell? ⟨w.heap.size, 1, none⟩ = some (.slice none 0 0) ∧ wr.frozen? ⟨w.heap.size, 0, none⟩ = false ∧ wr.frozen? ⟨w.heap.size, 1, none⟩ = false) ∧ wr.cell? ⟨Bx, 0, none⟩ = some (.int .i64 v) ∧ wr.cell? ⟨Bx, 1, none⟩ = some (.slice (some ⟨g, 0, none⟩) h h)) (fun i _ => h - (intOf i).toNat)
      case atStart => exact ⟨0, List.replicate h 0, by omega, rfl, by simp, fun n hn => by obtain ⟨_, rfl⟩ := List.mem_replicate.1 hn; exact Nat.two_pow_pos v, by rw [casts_rep]; exact hr4, hR4, hW4, ⟨u0, u1, uf0, uf1⟩, x0, x1⟩
      case round =>
        obtain ⟨k, ns, hk, rfl, hlen, hall, hrow, hRd, hOn, ⟨a0, a1, af0, af1⟩, y0, y1⟩ := hrel
        clear hr4 hR4 hW4 u0 u1 uf0 uf1 x0 x1
        by_cases hkh : k < h
        · have hpw : (pw v : Int) = ((2 ^ v : Nat) : Int) := rfl
          have hp1 : 1 ≤ 2 ^ v := Nat.two_pow_pos v
          have hp64 := pow6 hv6
          have HP := pick_c R (K + 2 + k) (2 ^ v) hp1 hp64 (by omega) wr.drew hRd
          rw [← hpw] at HP
          have hv62 : v ≤ 62 := by omega
          have hBR : Bx ≠ R := by omega
          have hgR : g ≠ R := by omega
          have hwR : w.heap.size ≠ R := by omega
          have hS0 : ∀ (W : World) (u : Value), (W.setCell ⟨g, k, none⟩ u).cell? ⟨Bx, 0, none⟩ = W.cell? ⟨Bx, 0, none⟩ := fun W u => World.cell?_setCell_other _ _ _ _ (by simp <;> omega)
          have hS1 : ∀ (W : World) (u : Value), (W.setCell ⟨g, k, none⟩ u).cell? ⟨Bx, 1, none⟩ = W.cell? ⟨Bx, 1, none⟩ := fun W u => World.cell?_setCell_other _ _ _ _ (by simp <;> omega)
          have hkc : k < (casts ns).length := by rw [length_casts]; omega
          have hk8 : Hid (k < (casts ns).length) := hkc
          have HA := Lib.hid hall
          clear hpw hall hp1 hp64
          go_wp2_with fail
          go_region_held3 (fun w' : World => w'.cell? ⟨Bx, 0, none⟩ = some (.int .i64 v) ∧ w'.cell? ⟨Bx, 1, none⟩ = some (.slice (some ⟨g, 0, none⟩) h h)) (first | exact ⟨y0, y1⟩ | (refine ⟨?_, ?_⟩ <;> assumption) | (refine ⟨(hS0 _ _).trans ?_, (hS1 _ _).trans ?_⟩ <;> assumption) | go_keep) (first | (go_at_call 41; refine (l1Power_c v hv62 _).mono ?_; rintro e w9 ⟨rfl, rfl⟩) | (go_at_call 21; refine HP.mono ?_; rintro e w9 ⟨⟨x, rfl, hx⟩, hR9, hg9'⟩; have hg9 := grown_undrew hg9'; have z0 := cell_only hg9 y0 hBR; have z1 := cell_only hg9 y1 hBR; have hrow9 := Row.only hrow hg9 hgR; have hc9 := Row.cell hrow9 hk8; have hf9 := Row.frozen hrow9 k; clear hg9'))
          have hset := Row.set hrow9 hk8 (x : Int)
          rw [casts_set] at hset
          have n0 := cell_only hg9 a0 hwR
          have n1 := cell_only hg9 a1 hwR
          have nf0 := frozen_only hg9 a0 hwR af0
          have nf1 := frozen_only hg9 a1 hwR af1
          have HS := Lib.hid hset
          have HF := Lib.hid (And.intro n0 (And.intro n1 (And.intro nf0 nf1)))
          have HZ := Lib.hid (And.intro z0 z1)
          clear hset n0 n1 nf0 nf1 a0 a1 af0 af1
          go_wp2
          go_roundw
          case rel =>
            refine ⟨k + 1, ns.set k x, by omega, by go_num, by simp [hlen], fun n hn => ?_, HS.out, ?_, only_setCell (only_trans hOn hg9) (.inr (by simp; omega)) _, ⟨?_, ?_, ?_, ?_⟩, (hS0 _ _).trans HZ.out.1, (hS1 _ _).trans HZ.out.2⟩
            · rcases List.mem_or_eq_of_mem_set hn with hn | rfl
              · exact HA.out n hn
              · exact hx
            · exact (hR9.below (B := R + 1) ((Below.refl (R + 1) w9).setCell (by simp; omega) _) (by omega)).more (by omega)
            · exact (World.cell?_setCell_other _ _ _ _ (by simp <;> omega)).trans HF.out.1
            · exact (World.cell?_setCell_other _ _ _ _ (by simp <;> omega)).trans HF.out.2.1
            · rw [World.frozen?_setCell]; exact HF.out.2.2.1
            · rw [World.frozen?_setCell]; exact HF.out.2.2.2
          case measure => simp [intOf]; omega
        · obtain ⟨q0, q1⟩ := set2_get (x := .int .i64 v) (y := .slice (some ⟨g, 0, none⟩) h h) a0 a1
          go_wp2
          refine bodyPost_ret (res_img rfl _ _ rfl q0 q1) rfl ?_
          refine ⟨⟨g, h, v, ns, by rw [hlen], ⟨hv1, hv6, by omega, by omega, hall⟩, (hrow.far (by simp; omega) _).far (by simp; omega) _, by omega⟩, ?_, only_setCell (only_setCell hOn (.inr (by simp)) _) (.inr (by simp)) _⟩
          exact (hRd.below (B := R + 1) (((Below.refl (R + 1) wr).setCell (by simp; omega) _).setCell (by simp; omega) _) (by omega)).more (by omega)
end Go.Proofs.Ytldmilpohappiaa
