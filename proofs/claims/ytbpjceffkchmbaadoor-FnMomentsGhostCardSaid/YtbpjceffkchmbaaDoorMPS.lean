/- Contract of pick, the reader of a code: a number below n, the place one on. Conditions: n from 1 to 64; the place below 2 to the power of 20. | Contracts of the drawing of an image: l6Open, l91Shape. Conditions: the reader's place below 2 to the power of 19. | Contracts of the drawing of an image: l91Nested, l91Image, l91Wrong. Conditions: the reader's place below 2 to the power of 19. | Contracts of the drawing of an image: l91Image, l91Wrong, and the draws that open the code and draw one image. Conditions: the code's slice can be read. -/
import Derived.Test.YtbpjceffkchmbaaDoorK4
import Derived.Deep.RegionHeld3
section
namespace Go.Proofs.YtbpjceffkchmbaaDoor
open Go.RowKit
/-- Bytes that can be read. -/
def Code8 (w : World) (R : Nat) (A : Option Addr) (len : Nat) : Prop := len = 0 ∨ ∃ b off, A = some ⟨b, off, none⟩ ∧ b < R ∧ ∃ z : Nat → Int, ∀ i, i < len → w.cell? ⟨b, off + i, none⟩ = some (.int .u8 (z i)) ∧ 0 ≤ z i ∧ z i ≤ 255
/-- The reader in block R, its place at most K. -/
def Rd (w : World) (R K : Nat) : Prop := R < w.heap.size ∧ w.frozen? ⟨R, 1, none⟩ = false ∧ ∃ (A : Option Addr) (len cap k : Nat), w.cell? ⟨R, 0, none⟩ = some (.slice A len cap) ∧ w.cell? ⟨R, 1, none⟩ = some (.int .i64 k) ∧ k ≤ K ∧ len ≤ 2000 ∧ Code8 w R A len
theorem Code8.keep {w w' : World} {R : Nat} {A : Option Addr} {len : Nat} (h : Code8 w R A len) (hk : ∀ p : Addr, p.block < R → w'.cell? p = w.cell? p) : Code8 w' R A len := by
  rcases h with h | ⟨b, off, e, hb, z, hz⟩
  · exact .inl h
  · exact .inr ⟨b, off, e, hb, z, fun i hi => ⟨(hk _ hb).trans (hz i hi).1, (hz i hi).2⟩⟩
theorem Rd.below {w w' : World} {R K B : Nat} (h : Rd w R K) (hb : Below B w w') (hB : R < B) : Rd w' R K := by
  obtain ⟨hl, hf, A, len, cap, k, h0, h1, hk, hlen, hc⟩ := h
  exact ⟨Nat.lt_of_lt_of_le hl hb.size, (hb.frozen (p := ⟨R, 1, none⟩) hB).trans hf, A, len, cap, k, (hb.cell (p := ⟨R, 0, none⟩) hB).trans h0, (hb.cell (p := ⟨R, 1, none⟩) hB).trans h1, hk, hlen, hc.keep fun p hp => hb.cell (Nat.lt_trans hp hB)⟩
theorem Rd.more {w : World} {R K K' : Nat} (h : Rd w R K) (hK : K ≤ K') : Rd w R K' := by
  obtain ⟨hl, hf, A, len, cap, k, h0, h1, hk, hlen, hc⟩ := h
  exact ⟨hl, hf, A, len, cap, k, h0, h1, Nat.le_trans hk hK, hlen, hc⟩
/-- What a pick keeps: all but the reader. -/
theorem Rd.only {w w' : World} {R K g : Nat} (h : Rd w R K) (hg : w.grownBy w' (some g)) (hne : R < g) : Rd w' R K := by
  obtain ⟨hl, hf, A, len, cap, k, h0, h1, hk, hlen, hc⟩ := h
  have hb : ∀ b, b ≤ R → w'.heap[b]? = w.heap[b]? := fun b hb => hg.block b (by omega) (fun e => by cases e; omega)
  have hcell : ∀ p : Addr, p.block ≤ R → w'.cell? p = w.cell? p := fun p hp => by
    unfold World.cell?
    rw [hb _ hp]
  refine ⟨Nat.lt_of_lt_of_le hl hg.size, ?_, A, len, cap, k, (hcell ⟨R, 0, none⟩ (Nat.le_refl _)).trans h0, (hcell ⟨R, 1, none⟩ (Nat.le_refl _)).trans h1, hk, hlen, hc.keep fun p hp => hcell p (Nat.le_of_lt hp)⟩
  rw [← hf]
  unfold World.frozen?
  rw [hb _ (Nat.le_refl _)]
/-- A number from 0 to below n. -/
def Num (n : Nat) (e : Ending) : Prop := ∃ x : Nat, e = .returned (.int .i64 x) ∧ x < n
theorem num_mod {n : Nat} (hn : 1 ≤ n) {a : Int} {v : Int} (hv : v = a % n) : Num n (.returned (.int .i64 v)) := by
  have h2 := Int.emod_nonneg a (b := (n : Int)) (by omega)
  have h3 := Int.emod_lt_of_pos a (b := (n : Int)) (by omega)
  refine ⟨v.toNat, ?_, by omega⟩
  have : ((v.toNat : Nat) : Int) = v := by omega
  rw [this]
set_option maxHeartbeats 2000000 in
theorem pick_c (R K n : Nat) (hn : 1 ≤ n) (hn6 : n ≤ 64) (hK : K ≤ 1000000) (w : World) (hR : Rd w R K) :
    Calls Tryd.prog 36 #[.pointer (some ⟨R, 0, none⟩), .int .i64 n] w fun e w' => Num n e ∧ Rd w' R (K + 1) ∧ w.grownBy w' (some R) := by
  obtain ⟨hlt, hf, A, len, cap, k, h0, h1, hk, hlen, hc⟩ := hR
  have ew : IntKind.i64.wrap ((k : Int) + 1) = (k : Int) + 1 := IntWalk.i64_in _ ⟨by omega, by omega⟩
  obtain ⟨w1, eW⟩ : ∃ w1, w1 = w.setCell ⟨R, 1, none⟩ (.int .i64 ((k : Int) + 1)) := ⟨_, rfl⟩
  have c0 : w1.cell? ⟨R, 0, none⟩ = some (.slice A len cap) := by rw [eW]; exact (World.cell?_setCell_other _ _ _ _ (by simp)).trans h0
  have c1 : w1.cell? ⟨R, 1, none⟩ = some (.int .i64 ((k : Int) + 1)) := by rw [eW]; exact World.cell?_setCell_same' _ _ _ (by rw [h1]; rfl)
  have c1' : w1.cell? ⟨R, 1, none⟩ = some (.int .i64 ((k + 1 : Nat) : Int)) := c1
  have hc1 : Code8 w1 R A len := hc.keep fun p hp => by rw [eW]; exact World.cell?_setCell_other _ _ _ _ (fun e => by subst e; simp at hp)
  have hg1 : w.grownBy w1 (some R) := by rw [eW]; exact only_setCell (World.grownBy.refl w _) (.inl rfl) _
  have hR1 : Rd w1 R (K + 1) := ⟨by rw [eW]; simpa using hlt, by rw [eW, World.frozen?_setCell]; exact hf, A, len, cap, k + 1, c0, c1', by omega, hlen, hc1⟩
  have HG := Lib.hid (And.intro hR1 hg1)
  clear hg1 hR1 c1'
  have hn0 : ((n : Int) == 0) = false := by simp; omega
  by_cases hl0 : len = 0
  · subst hl0
    go_enter Tryd.func36, Tryd.ntmps36
    go_wp2_with fail
    rw [← eW]
    go_returns
    exact ⟨⟨0, rfl, by omega⟩, HG.out⟩
  · obtain ⟨b, off, rfl, hb, z, hz⟩ := hc1.resolve_left hl0
    have hpos : ((len : Int) == 0) = false := by simp; omega
    have HZ := Lib.hid hz
    have HEW := Lib.hid eW
    clear hz hc hc1
    by_cases hkl : k < len
    · have hzk := HZ.out k hkl
      obtain ⟨x, ex⟩ : ∃ x, x = z k := ⟨_, rfl⟩
      rw [← ex] at hzk
      obtain ⟨hx, hx0, hx1⟩ := hzk
      clear ex
      rw [eW] at hx c0 c1
      have ew3 : IntKind.i64.wrap x = x := IntWalk.i64_in _ ⟨by omega, by omega⟩
      clear eW
      go_enter Tryd.func36, Tryd.ntmps36
      go_wp2
      rw [← HEW.out]
      go_returns
      exact ⟨num_mod hn rfl, HG.out⟩
    · obtain ⟨q1, e1⟩ : ∃ q1, q1 = k % len := ⟨_, rfl⟩
      obtain ⟨q2, e2⟩ : ∃ q2, q2 = (k * 7 + 3) % len := ⟨_, rfl⟩
      have hq1 : q1 < len := by rw [e1]; exact Nat.mod_lt _ (by omega)
      have hq2 : q2 < len := by rw [e2]; exact Nat.mod_lt _ (by omega)
      have m1 : (k : Int).tmod (len : Int) = (q1 : Int) := by rw [Int.tmod_eq_emod_of_nonneg (by omega), e1]; simp
      have m2 : ((k : Int) * 7 + 3).tmod (len : Int) = (q2 : Int) := by rw [Int.tmod_eq_emod_of_nonneg (by omega), e2]; simp
      obtain ⟨q3, e3⟩ : ∃ q3, q3 = k / len := ⟨_, rfl⟩
      have m3 : (k : Int).tdiv (len : Int) = (q3 : Int) := by rw [Int.tdiv_eq_ediv_of_nonneg (by omega), e3]; simp
      have w3 : IntKind.i64.wrap (q3 : Int) = q3 := IntWalk.i64_in _ ⟨by omega, by have : q3 ≤ 1000000 := (by rw [e3]; exact Nat.le_trans (Nat.div_le_self _ _) (by omega)); omega⟩
      have hq3 : q3 ≤ 1000000 := by rw [e3]; exact Nat.le_trans (Nat.div_le_self _ _) (by omega)
      have hz1 := HZ.out q1 hq1
      have hz2 := HZ.out q2 hq2
      obtain ⟨x, ex⟩ : ∃ x, x = z q1 := ⟨_, rfl⟩
      obtain ⟨y, ey⟩ : ∃ y, y = z q2 := ⟨_, rfl⟩
      rw [← ex] at hz1
      rw [← ey] at hz2
      obtain ⟨hx, hx0, hx1⟩ := hz1
      obtain ⟨hy, hy0, hy1⟩ := hz2
      clear ex ey e1 e2 e3
      have k0 := cell_regrown c0
      have k1 := cell_regrown c1
      have k2 := cell_regrown hx
      have k3 := cell_regrown hy
      rw [eW] at c0 c1
      clear eW hx hy
      go_enter Tryd.func36, Tryd.ntmps36
      go_wp2_with fail
      rw [← HEW.out]
      have x1 : IntKind.i64.wrap x = x := IntWalk.i64_in _ ⟨by omega, by omega⟩
      have x2 : IntKind.i64.wrap (x * 131) = x * 131 := IntWalk.i64_in _ ⟨by omega, by omega⟩
      have y1 : IntKind.i64.wrap y = y := IntWalk.i64_in _ ⟨by omega, by omega⟩
      have y2 : IntKind.i64.wrap (y * 1117) = y * 1117 := IntWalk.i64_in _ ⟨by omega, by omega⟩
      have z1 : IntKind.i64.wrap ((k : Int) * 7) = (k : Int) * 7 := IntWalk.i64_in _ ⟨by omega, by omega⟩
      have z2 : IntKind.i64.wrap ((k : Int) * 7 + 3) = (k : Int) * 7 + 3 := IntWalk.i64_in _ ⟨by omega, by omega⟩
      have z3 : IntKind.i64.wrap ((k : Int) * 29) = (k : Int) * 29 := IntWalk.i64_in _ ⟨by omega, by omega⟩
      have z4 : IntKind.i64.wrap ((q3 : Int) * 53) = (q3 : Int) * 53 := IntWalk.i64_in _ ⟨by omega, by omega⟩
      have s1 : IntKind.i64.wrap (x * 131 + y * 1117) = x * 131 + y * 1117 := IntWalk.i64_in _ ⟨by omega, by omega⟩
      have s2 : IntKind.i64.wrap (x * 131 + y * 1117 + (k : Int) * 29) = x * 131 + y * 1117 + (k : Int) * 29 := IntWalk.i64_in _ ⟨by omega, by omega⟩
      have s3 : IntKind.i64.wrap (x * 131 + y * 1117 + (k : Int) * 29 + (q3 : Int) * 53) = x * 131 + y * 1117 + (k : Int) * 29 + (q3 : Int) * 53 := IntWalk.i64_in _ ⟨by omega, by omega⟩
      obtain ⟨S, eS⟩ : ∃ S : Nat, (S : Int) = x * 131 + y * 1117 + (k : Int) * 29 + (q3 : Int) * 53 := ⟨(x * 131 + y * 1117 + (k : Int) * 29 + (q3 : Int) * 53).toNat, by omega⟩
      have hSb : S < 4611686018427387904 := by omega
      have s3' := s3.trans eS.symm
      clear s3
      have hS64 : (S : Int) / 64 = ((S / 64 : Nat) : Int) := by simp
      have hxor := i64_xor_nat S (S / 64) (by omega) (by omega)
      rw [← hS64] at hxor
      obtain ⟨X, eX⟩ : ∃ X : Nat, X = S ^^^ S / 64 := ⟨_, rfl⟩
      rw [← eX] at hxor
      have HES := Lib.hid eS
      have HXO := Lib.hid (And.intro hxor (And.intro hS64 hSb))
      clear eX hS64 hxor hSb eS
      refine wp_region_quiet_below (by kernel_rfl) (by kernel_rfl) ?_
      repeat (first | go_big_quiet_step (fail) | quiet_step (fail))
      refine wpQuiet_nil ?_
      intro _ hw0
      obtain ⟨⟨dq, osq⟩, hw1⟩ := hw0
      subst hw1
      have hq := below_regrown w1 dq osq
      generalize Go.Sort.grow (redrawn w1 dq) osq = w2 at hq ⊢
      have hxor := HXO.out.1
      have hSb := HXO.out.2.2
      clear k0 k1 k2 k3 m1 m2 m3 w3 x1 x2 y1 y2 z1 z2 z3 z4 s1 s2 s3'
      go_wp2
      go_returns
      exact ⟨num_mod hn rfl, HG.out.1.below hq (by exact HG.out.1.1), only_trans HG.out.2 (only_of_below hq _)⟩
end Go.Proofs.YtbpjceffkchmbaaDoor
end

section
namespace Go.Proofs.YtbpjceffkchmbaaDoor
open Go.RowKit
section
variable {w w' : World} {R : Nat} {p : Addr} {v : Value}
theorem lt_of_cell (h : w.cell? p = some v) : p.block < w.heap.size := by
  refine Classical.byContradiction fun hn => ?_
  unfold World.cell? at h
  rw [Array.getElem?_eq_none (by omega)] at h
  cases h
theorem cellB (hb : Below w.heap.size w w') (h : w.cell? p = some v) : w'.cell? p = some v := (hb.cell (lt_of_cell h)).trans h
theorem frozenB (hb : Below w.heap.size w w') (h : w.cell? p = some v) {x : Bool} (hf : w.frozen? p = x) : w'.frozen? p = x := (hb.frozen (lt_of_cell h)).trans hf
theorem cell_only (hg : w.grownBy w' (some R)) (h : w.cell? p = some v) (hne : p.block ≠ R) : w'.cell? p = some v := by
  have hb := hg.block p.block (lt_of_cell h) (fun e => by cases e; exact hne rfl)
  rw [← h]
  unfold World.cell?
  rw [hb]
theorem frozen_only (hg : w.grownBy w' (some R)) (h : w.cell? p = some v) (hne : p.block ≠ R) {x : Bool} (hf : w.frozen? p = x) : w'.frozen? p = x := by
  have hb := hg.block p.block (lt_of_cell h) (fun e => by cases e; exact hne rfl)
  rw [← hf]
  unfold World.frozen?
  rw [hb]
theorem Row.only {b : Nat} {xs : List Int} (h : Row w b xs) (hg : w.grownBy w' (some R)) (hne : b ≠ R) : Row w' b xs := h.grown hg (fun e => by cases e; exact hne rfl)
end
theorem grown_undrew {w w' : World} {row : Option Nat} (h : w.drew.grownBy w' row) : w.grownBy w' row := ⟨h.os, h.tape, h.output, h.size, h.block⟩
set_option maxHeartbeats 1000000 in
theorem l6Open_c (A : Option Addr) (len cap : Nat) (hlc : len ≤ cap) (w : World) (hc : Code8 w w.heap.size A len) :
    Calls Tryd.prog 22 #[.slice A len cap] w fun e w' => e = .returned (.pointer (some ⟨w.heap.size, 0, none⟩)) ∧ Rd w' w.heap.size 0 ∧ Below w.heap.size w w' := by
  by_cases h : len ≤ 2000
  · have hc2 : ∀ o, Code8 (w.alloc o) w.heap.size A len := fun o => hc.keep fun p hp => World.cell?_alloc_lt w o p hp
    have HC := Lib.hid hc2
    clear hc hc2
    go_enter Tryd.func22, Tryd.ntmps22
    go_wp2
    go_returns
    refine ⟨rfl, ⟨by simp, by go_cell, A, len, cap, 0, by go_cell, by go_cell, by omega, h, HC.out _⟩, by go_grown⟩
  · obtain ⟨b, off, rfl, hb, z, hz⟩ := hc.resolve_left (by omega)
    have hc2 : ∀ o, Code8 (w.alloc o) w.heap.size (some ⟨b, off, none⟩) 2000 := fun o => .inr ⟨b, off, rfl, hb, z, fun i hi => ⟨(World.cell?_alloc_lt w o ⟨b, off + i, none⟩ hb).trans (hz i (by omega)).1, (hz i (by omega)).2⟩⟩
    have HC := Lib.hid hc2
    clear hc hc2 hz
    go_enter Tryd.func22, Tryd.ntmps22
    go_wp2
    go_returns
    refine ⟨rfl, ⟨by simp, by go_cell, (some ⟨b, off, none⟩), 2000, cap, 0, by go_cell, by go_cell, by omega, by omega, HC.out _⟩, by go_grown⟩
/-- An image of the call's own: w columns, rows ns, in block g. -/
structure Drawn (a w : World) (R K : Nat) (e : Ending) : Prop where
  img : ∃ (g c wd : Nat) (ns : List Nat), e = .returned (.agg #[.int .i64 (wd : Int), .slice (some ⟨g, 0, none⟩) ns.length c]) ∧ VImg wd ns ∧ Row w g (casts ns) ∧ a.heap.size ≤ g
  rd : Rd w R K
  only : a.grownBy w (some R)
theorem casts_rep (h : Nat) : casts (List.replicate h 0) = List.replicate h 0 := by simp [casts]
set_option maxHeartbeats 2000000 in
theorem l91Shape_c (R K cells : Nat) (hcl : 1 ≤ cells) (hc6 : cells ≤ 1000) (hK : K ≤ 900000) (w : World) (hR : Rd w R K) :
    Calls Tryd.prog 78 #[.pointer (some ⟨R, 0, none⟩), .int .i64 cells] w fun e w' => Drawn w w' R (K + 8) e := by
  have hlt := hR.1
  go_enter Tryd.func78, Tryd.ntmps78
  go_wp2_with fail
  have hB0 : Below w.heap.size w (w.alloc (.cells #[.int .i64 0, .slice none 0 0] 25)) := by go_grown
  refine (pick_c R K 6 (by omega) (by omega) (by omega) _ (hR.below hB0 hlt)).mono ?_
  rintro e w1 ⟨⟨h0, rfl, hh0⟩, hR1, hg1⟩
  have r0 : w1.cell? ⟨w.heap.size, 0, none⟩ = some (.int .i64 0) := cell_only hg1 (by go_cell) (by simp; omega)
  have r1 : w1.cell? ⟨w.heap.size, 1, none⟩ = some (.slice none 0 0) := cell_only hg1 (by go_cell) (by simp; omega)
  have rf0 : w1.frozen? ⟨w.heap.size, 0, none⟩ = false := frozen_only hg1 (v := .int .i64 0) (by go_cell) (by simp; omega) (by go_cell)
  have rf1 : w1.frozen? ⟨w.heap.size, 1, none⟩ = false := frozen_only hg1 (v := .slice none 0 0) (by go_cell) (by simp; omega) (by go_cell)
  have hW1 : w.grownBy w1 (some R) := only_trans (only_of_below hB0 _) hg1
  go_wp2_with fail
  refine (pick_c R (K + 1) 6 (by omega) (by omega) (by omega) _ hR1).mono ?_
  rintro e w2 ⟨⟨w0, rfl, hw0⟩, hR2, hg2⟩
  have s0 := cell_only hg2 r0 (by simp; omega)
  have s1 := cell_only hg2 r1 (by simp; omega)
  have sf0 := frozen_only hg2 r0 (by simp; omega) rf0
  have sf1 := frozen_only hg2 r1 (by simp; omega) rf1
  have hW2 := only_trans hW1 hg2
  clear r0 r1 rf0 rf1
  go_wp2_with fail
  go_loop [5, 6] (fun a b => ∃ h v : Nat, 1 ≤ h ∧ h ≤ 6 ∧ 1 ≤ v ∧ v ≤ 6 ∧ a = .int .i64 h ∧ b = .int .i64 v) (fun a b => (intOf a).toNat + (intOf b).toNat)
  case atStart => exact ⟨h0 + 1, w0 + 1, by omega, by omega, by omega, by omega, by go_num, by go_num⟩
  case round =>
    obtain ⟨h, v, hh1, hh6, hv1, hv6, rfl, rfl⟩ := hrel
    have hm : h * v ≤ 6 * 6 := Nat.mul_le_mul hh6 hv6
    obtain ⟨m, em⟩ : ∃ m, m = h * v := ⟨_, rfl⟩
    have em2 : (h : Int) * (v : Int) = (m : Int) := by rw [em]; simp
    have em3 : IntKind.i64.wrap ((h : Int) * (v : Int)) = (m : Int) := by rw [em2]; exact IntWalk.i64_in _ ⟨by omega, by omega⟩
    rw [← em] at hm
    clear em2
    have EM := Lib.hid em
    clear em
    by_cases hbig : cells < m
    · by_cases hhv : v < h
      · go_wp2
        go_round
        case rel => exact ⟨h - 1, v, by omega, by omega, by omega, by omega, by go_num, rfl⟩
        case measure => simp [intOf]; omega
      · have hv2 : 2 ≤ v := by
          refine Classical.byContradiction fun hn => ?_
          obtain rfl : v = 1 := by omega
          obtain rfl : h = 1 := by omega
          have em := EM.out
          simp at em
          omega
        go_wp2
        go_round
        case rel => exact ⟨h, v - 1, by omega, by omega, by omega, by omega, rfl, by go_num⟩
        case measure => simp [intOf]; omega
    · go_wp2_with fail
      refine (l1Blank_c h v hh6 _).mono ?_
      rintro e w3 ⟨rfl, hr3, hb3⟩
      have t0 := cellB hb3 s0
      have t1 := cellB hb3 s1
      have tf0 := frozenB hb3 s0 sf0
      have tf1 := frozenB hb3 s1 sf1
      have hR3 := hR2.below hb3 hR2.1
      have hW3 := only_trans hW2 (only_of_below hb3 _)
      have hsz2 := hW2.size
      obtain ⟨g, eg⟩ : ∃ g, g = w2.heap.size + 1 := ⟨_, rfl⟩
      rw [← eg] at hr3 ⊢
      have hgw : w.heap.size < g := by omega
      clear eg
      obtain ⟨W4, eW⟩ : ∃ W4, W4 = w3.alloc (.cells #[.int .i64 v, .slice (some ⟨g, 0, none⟩) h h] 25) := ⟨_, rfl⟩
      have hx := Box2.new w3 (.int .i64 v) (.slice (some ⟨g, 0, none⟩) h h) 25
      have hb4 : Below w3.heap.size w3 W4 := by rw [eW]; go_grown
      rw [← eW] at hx
      obtain ⟨_, x0, x1⟩ := hx
      have hr4 := hr3.below hb4 hr3.lt
      have hgB : g < w3.heap.size := hr3.lt
      have hR4 := hR3.below hb4 hR3.1
      have hW4 := only_trans hW3 (only_of_below hb4 _)
      have u0 := cellB hb4 t0
      have u1 := cellB hb4 t1
      have uf0 := frozenB hb4 t0 tf0
      have uf1 := frozenB hb4 t1 tf1
      go_wp2_with fail
      rw [← eW]
      obtain ⟨Bx, eB⟩ : ∃ Bx, Bx = w3.heap.size := ⟨_, rfl⟩
      rw [← eB] at x0 x1 hgB ⊢
      have hBw : w.heap.size < Bx := by omega
      clear eB
      clear t0 t1 tf0 tf1 s0 s1 sf0 sf1 hR1 hR2 hR3 hr3 hW1 hW2 hW3 hg1 hg2 hb3 hb4 hB0 hR eW
      go_loopw [8] (fun i wr => ∃ (k : Nat) (ns : List Nat), k ≤ h ∧ i = .int .i64 k ∧ ns.length = h ∧ (∀ n ∈ ns, n < 2 ^ v) ∧ Row wr g (casts ns) ∧ Rd wr R (K + 2 + k) ∧ w.grownBy wr (some R) ∧ (wr.cell? ⟨w.heap.size, 0, none⟩ = some (.int .i64 0) ∧ wr.cell? ⟨w.heap.size, 1, none⟩ = some (.slice none 0 0) ∧ wr.frozen? ⟨w.heap.size, 0, none⟩ = false ∧ wr.frozen? ⟨w.heap.size, 1, none⟩ = false) ∧ wr.cell? ⟨Bx, 0, none⟩ = some (.int .i64 v) ∧ wr.cell? ⟨Bx, 1, none⟩ = some (.slice (some ⟨g, 0, none⟩) h h)) (fun i _ => h - (intOf i).toNat)
      case atStart => exact ⟨0, List.replicate h 0, by omega, rfl, by simp, fun n hn => by obtain ⟨_, rfl⟩ := List.mem_replicate.1 hn; exact Nat.two_pow_pos v, by rw [casts_rep]; exact hr4, hR4, hW4, ⟨u0, u1, uf0, uf1⟩, x0, x1⟩
      case round =>
        obtain ⟨k, ns, hk, rfl, hlen, hall, hrow, hRd, hOn, ⟨a0, a1, af0, af1⟩, y0, y1⟩ := hrel
        clear hr4 hR4 hW4 u0 u1 uf0 uf1 x0 x1
        by_cases hkh : k < h
        · have hpw : (pw v : Int) = ((2 ^ v : Nat) : Int) := rfl
          have hp1 : 1 ≤ 2 ^ v := Nat.two_pow_pos v
          have hp64 := pow6 hv6
          have HP := pick_c R (K + 2 + k) (2 ^ v) hp1 hp64 (by omega) wr.drew hRd
          rw [← hpw] at HP
          have hv62 : v ≤ 62 := by omega
          have hBR : Bx ≠ R := by omega
          have hgR : g ≠ R := by omega
          have hwR : w.heap.size ≠ R := by omega
          have hS0 : ∀ (W : World) (u : Value), (W.setCell ⟨g, k, none⟩ u).cell? ⟨Bx, 0, none⟩ = W.cell? ⟨Bx, 0, none⟩ := fun W u => World.cell?_setCell_other _ _ _ _ (by simp <;> omega)
          have hS1 : ∀ (W : World) (u : Value), (W.setCell ⟨g, k, none⟩ u).cell? ⟨Bx, 1, none⟩ = W.cell? ⟨Bx, 1, none⟩ := fun W u => World.cell?_setCell_other _ _ _ _ (by simp <;> omega)
          have hkc : k < (casts ns).length := by rw [length_casts]; omega
          have hk8 : Hid (k < (casts ns).length) := hkc
          have HA := Lib.hid hall
          clear hpw hall hp1 hp64
          go_wp2_with fail
          go_region_held3 (fun w' : World => w'.cell? ⟨Bx, 0, none⟩ = some (.int .i64 v) ∧ w'.cell? ⟨Bx, 1, none⟩ = some (.slice (some ⟨g, 0, none⟩) h h)) (first | exact ⟨y0, y1⟩ | (refine ⟨?_, ?_⟩ <;> assumption) | (refine ⟨(hS0 _ _).trans ?_, (hS1 _ _).trans ?_⟩ <;> assumption) | go_keep) (first | (go_at_call 53; refine (l1Power_c v hv62 _).mono ?_; rintro e w9 ⟨rfl, rfl⟩) | (go_at_call 36; refine HP.mono ?_; rintro e w9 ⟨⟨x, rfl, hx⟩, hR9, hg9'⟩; have hg9 := grown_undrew hg9'; have z0 := cell_only hg9 y0 hBR; have z1 := cell_only hg9 y1 hBR; have hrow9 := Row.only hrow hg9 hgR; have hc9 := Row.cell hrow9 hk8; have hf9 := Row.frozen hrow9 k; clear hg9'))
          have hset := Row.set hrow9 hk8 (x : Int)
          rw [casts_set] at hset
          have n0 := cell_only hg9 a0 hwR
          have n1 := cell_only hg9 a1 hwR
          have nf0 := frozen_only hg9 a0 hwR af0
          have nf1 := frozen_only hg9 a1 hwR af1
          have HS := Lib.hid hset
          have HF := Lib.hid (And.intro n0 (And.intro n1 (And.intro nf0 nf1)))
          have HZ := Lib.hid (And.intro z0 z1)
          clear hset n0 n1 nf0 nf1 a0 a1 af0 af1
          go_wp2
          go_roundw
          case rel =>
            refine ⟨k + 1, ns.set k x, by omega, by go_num, by simp [hlen], fun n hn => ?_, HS.out, ?_, only_setCell (only_trans hOn hg9) (.inr (by simp; omega)) _, ⟨?_, ?_, ?_, ?_⟩, (hS0 _ _).trans HZ.out.1, (hS1 _ _).trans HZ.out.2⟩
            · rcases List.mem_or_eq_of_mem_set hn with hn | rfl
              · exact HA.out n hn
              · exact hx
            · exact (hR9.below (B := R + 1) ((Below.refl (R + 1) w9).setCell (by simp; omega) _) (by omega)).more (by omega)
            · exact (World.cell?_setCell_other _ _ _ _ (by simp <;> omega)).trans HF.out.1
            · exact (World.cell?_setCell_other _ _ _ _ (by simp <;> omega)).trans HF.out.2.1
            · rw [World.frozen?_setCell]; exact HF.out.2.2.1
            · rw [World.frozen?_setCell]; exact HF.out.2.2.2
          case measure => simp [intOf]; omega
        · obtain ⟨q0, q1⟩ := set2_get (x := .int .i64 v) (y := .slice (some ⟨g, 0, none⟩) h h) a0 a1
          go_wp2
          refine bodyPost_ret (res_img rfl _ _ rfl q0 q1) rfl ?_
          refine ⟨⟨g, h, v, ns, by rw [hlen], ⟨hv1, hv6, by omega, by omega, hall⟩, (hrow.far (by simp; omega) _).far (by simp; omega) _, by omega⟩, ?_, only_setCell (only_setCell hOn (.inr (by simp)) _) (.inr (by simp)) _⟩
          exact (hRd.below (B := R + 1) (((Below.refl (R + 1) wr).setCell (by simp; omega) _).setCell (by simp; omega) _) (by omega)).more (by omega)
end Go.Proofs.YtbpjceffkchmbaaDoor
end

section
namespace Go.Proofs.YtbpjceffkchmbaaDoor
open Go.RowKit
theorem only_new {a w w' : World} {R g : Nat} (h : a.grownBy w (some R)) (k : w.grownBy w' (some g)) (hg : a.heap.size ≤ g) : a.grownBy w' (some R) :=
  ⟨k.os.trans h.os, k.tape.trans h.tape, k.output.trans h.output, Nat.le_trans h.size k.size, fun i hi hne => (k.block i (Nat.lt_of_lt_of_le hi h.size) (fun e => by cases e; omega)).trans (h.block i hi hne)⟩
set_option maxHeartbeats 2000000 in
theorem l91Nested_c (R K cells : Nat) (hcl : 1 ≤ cells) (hc6 : cells ≤ 1000) (hK : K ≤ 800000) (w : World) (hR : Rd w R K) :
    Calls Tryd.prog 77 #[.pointer (some ⟨R, 0, none⟩), .int .i64 cells] w fun e w' => Drawn w w' R (K + 9) e := by
  have hlt := hR.1
  go_enter Tryd.func77, Tryd.ntmps77
  go_wp2_with fail
  obtain ⟨W0, eW⟩ : ∃ W0, W0 = w.alloc (.cells #[.int .i64 0, .slice none 0 0] 25) := ⟨_, rfl⟩
  have hB0 : Below w.heap.size w W0 := by rw [eW]; go_grown
  have i0 : W0.cell? ⟨w.heap.size, 0, none⟩ = some (.int .i64 0) := by rw [eW]; go_cell
  have i1 : W0.cell? ⟨w.heap.size, 1, none⟩ = some (.slice none 0 0) := by rw [eW]; go_cell
  have if0 : W0.frozen? ⟨w.heap.size, 0, none⟩ = false := by rw [eW]; go_cell
  have if1 : W0.frozen? ⟨w.heap.size, 1, none⟩ = false := by rw [eW]; go_cell
  have hz0 : w.heap.size < W0.heap.size := by rw [eW]; simp
  rw [← eW]
  clear eW
  refine (l91Shape_c R K cells hcl hc6 (by omega) _ (hR.below hB0 hlt)).mono ?_
  rintro e w1 ⟨⟨g, c, v, ns, rfl, hV, hrow1, hgw⟩, hR1, hg1⟩
  have hwR : w.heap.size ≠ R := by omega
  have hO1 : w.grownBy w1 (some R) := only_trans (only_of_below hB0 _) hg1
  have hwg : w.heap.size < g := Nat.lt_of_lt_of_le hz0 hgw
  have j0 := cell_only hg1 i0 hwR
  have j1 := cell_only hg1 i1 hwR
  have jf0 := frozen_only hg1 i0 hwR if0
  have jf1 := frozen_only hg1 i1 hwR if1
  obtain ⟨h, eh⟩ : ∃ h, h = ns.length := ⟨_, rfl⟩
  have hh6 := hV.h6
  have hh1 := hV.h1
  have hv1 := hV.w1
  have hv6 := hV.w6
  have hall := hV.hi
  rw [← eh] at hh1 hh6 ⊢
  obtain ⟨W2, eW⟩ : ∃ W2, W2 = w1.alloc (.cells #[.int .i64 v, .slice (some ⟨g, 0, none⟩) h c] 25) := ⟨_, rfl⟩
  have hx := Box2.new w1 (.int .i64 v) (.slice (some ⟨g, 0, none⟩) h c) 25
  have hB2 : Below w1.heap.size w1 W2 := by rw [eW]; go_grown
  have hgB : g < w1.heap.size := hrow1.lt
  rw [← eW] at hx
  obtain ⟨_, x0, x1⟩ := hx
  have hrow2 := hrow1.below hB2 hrow1.lt
  have hR2 := hR1.below hB2 hR1.1
  have hO2 := only_trans hO1 (only_of_below hB2 _)
  have k0 := cellB hB2 j0
  have k1 := cellB hB2 j1
  have kf0 := frozenB hB2 j0 jf0
  have kf1 := frozenB hB2 j1 jf1
  have EH := Lib.hid eh
  clear i0 i1 if0 if1 j0 j1 jf0 jf1 eh
  go_wp2_with fail
  rw [← eW]
  obtain ⟨Bx, eB⟩ : ∃ Bx, Bx = w1.heap.size := ⟨_, rfl⟩
  rw [← eB] at x0 x1 hgB ⊢
  have hBw : w.heap.size < Bx := by omega
  have hBR : Bx ≠ R := by omega
  clear eB eW hB2
  refine (pick_c R (K + 8) v hv1 (by omega) (by omega) _ hR2).mono ?_
  rintro e w3 ⟨⟨sh, rfl, hsh⟩, hR3, hg3⟩
  have y0 := cell_only hg3 x0 hBR
  have y1 := cell_only hg3 x1 hBR
  have hrow3 := hrow2.only hg3 (by omega)
  have hO3 := only_trans hO2 hg3
  have l0 := cell_only hg3 k0 hwR
  have l1 := cell_only hg3 k1 hwR
  have lf0 := frozen_only hg3 k0 hwR kf0
  have lf1 := frozen_only hg3 k1 hwR kf1
  clear x0 x1 k0 k1 kf0 kf1 hrow1 hrow2 hR1 hR2 hO1 hO2 hg1 hg3 hR hV
  obtain ⟨Inv, eI⟩ : ∃ Inv : World → Prop, Inv = fun wr => (∃ ms : List Nat, ms.length = h ∧ (∀ n ∈ ms, n < 2 ^ v) ∧ Row wr g (casts ms)) ∧ Rd wr R (K + 9) ∧ w.grownBy wr (some R) ∧ (wr.cell? ⟨w.heap.size, 0, none⟩ = some (.int .i64 0) ∧ wr.cell? ⟨w.heap.size, 1, none⟩ = some (.slice none 0 0) ∧ wr.frozen? ⟨w.heap.size, 0, none⟩ = false ∧ wr.frozen? ⟨w.heap.size, 1, none⟩ = false) ∧ wr.cell? ⟨Bx, 0, none⟩ = some (.int .i64 v) ∧ wr.cell? ⟨Bx, 1, none⟩ = some (.slice (some ⟨g, 0, none⟩) h c) := ⟨_, rfl⟩
  have hI0 : Inv w3 := by rw [eI]; exact ⟨⟨ns, EH.out.symm, hall, hrow3⟩, hR3, hO3, ⟨l0, l1, lf0, lf1⟩, y0, y1⟩
  have hIe : ∀ wr, Inv wr ↔ _ := fun wr => by rw [eI]
  have EI := Lib.hid eI
  clear eI hIe hrow3 hR3 hO3 l0 l1 lf0 lf1
  go_wp2
  go_loopw [7] (fun i wr => ∃ k : Nat, k ≤ h ∧ i = .int .i64 k ∧ Inv wr) (fun i _ => h - (intOf i).toNat)
  case atStart => exact ⟨0, by omega, rfl, hI0⟩
  case round =>
    obtain ⟨k, hk, rfl, hI⟩ := hrel
    have hI' := hI
    rw [EI.out] at hI'
    obtain ⟨⟨ms, hlen, hall2, hrow⟩, hRd, hOn, ⟨a0, a1, af0, af1⟩, z0, z1⟩ := hI'
    by_cases hkh : k < h
    · have hkc : Hid (k < (casts ms).length) := by show k < (casts ms).length; rw [length_casts]; omega
      have hcell := Row.cell hrow hkc
      rw [casts_getD] at hcell
      have hfz := Row.frozen hrow k
      have hr64 : ms.getD k 0 < 64 := by
        rw [List.getD_eq_getElem?_getD, List.getElem?_eq_getElem (by omega)]
        have := hall2 _ (List.getElem_mem (l := ms) (n := k) (by omega))
        have := pow6 hv6
        simp only [Option.getD_some]
        omega
      obtain ⟨r, er⟩ : ∃ r, r = ms.getD k 0 := ⟨_, rfl⟩
      rw [← er] at hcell hr64
      have hpop := pop_bd 6 r
      obtain ⟨n, en⟩ : ∃ n : Nat, (n : Int) = pop 6 r := ⟨(pop 6 r).toNat, by omega⟩
      have hn6 : n ≤ 6 := by omega
      have hset := Row.set hrow hkc ((0 : Nat) : Int)
      rw [casts_set] at hset
      have hwg0 : w.heap.size < Bx := hBw
      have hIset : Inv (wr.setCell ⟨g, k, none⟩ (.int .i64 0)) := by
        rw [EI.out]
        refine ⟨⟨ms.set k 0, by simp [hlen], fun m hm => ?_, hset⟩, hRd.below (B := R + 1) ((Below.refl (R + 1) wr).setCell (by simp; omega) _) (by omega), only_setCell hOn (.inr (by simp; omega)) _, ⟨?_, ?_, ?_, ?_⟩, ?_, ?_⟩
        · rcases List.mem_or_eq_of_mem_set hm with hm | rfl
          · exact hall2 m hm
          · exact Nat.two_pow_pos v
        · exact (World.cell?_setCell_other _ _ _ _ (by simp <;> omega)).trans a0
        · exact (World.cell?_setCell_other _ _ _ _ (by simp <;> omega)).trans a1
        · rw [World.frozen?_setCell]; exact af0
        · rw [World.frozen?_setCell]; exact af1
        · exact (World.cell?_setCell_other _ _ _ _ (by simp <;> omega)).trans z0
        · exact (World.cell?_setCell_other _ _ _ _ (by simp <;> omega)).trans z1
      have hHI := Lib.hid hIset
      have hEN := Lib.hid en
      clear hset hIset hrow hRd hOn a0 a1 af0 af1 hall2 er hI en
      go_wp2_with fail
      refine (l15Count_c r hr64 _).mono ?_
      rintro e w9 ⟨rfl, rfl⟩
      rw [← hEN.out]
      go_wp2_with fail
      go_loopw [9] (fun i wr => ∃ j : Nat, j ≤ n ∧ i = .int .i64 j ∧ Inv wr) (fun i _ => n - (intOf i).toNat)
      case atStart => exact ⟨0, by omega, rfl, hHI.out⟩
      case round =>
        obtain ⟨j, hj, rfl, hJ⟩ := hrel
        by_cases hjn : j < n
        · have hJ' := hJ
          rw [EI.out] at hJ'
          obtain ⟨⟨ms, hlen, hall2, hrow⟩, hRd, hOn, ⟨a0, a1, af0, af1⟩, z0, z1⟩ := hJ'
          have k0 := cell_regrown z0
          have k1 := cell_regrown z1
          have ew : IntKind.i64.wrap ((j : Int) + sh) = (j : Int) + sh := IntWalk.i64_in _ ⟨by omega, by omega⟩
          obtain ⟨q, eq⟩ : ∃ q, q = (j + sh) % v := ⟨_, rfl⟩
          have hqv : q < v := by rw [eq]; exact Nat.mod_lt _ (by omega)
          have em : ((j : Int) + sh).tmod (v : Int) = (q : Int) := by rw [Int.tmod_eq_emod_of_nonneg (by omega), eq]; simp
          have ewq : IntKind.i64.wrap (q : Int) = q := IntWalk.i64_in _ ⟨by omega, by omega⟩
          have hv0 : ((v : Int) == 0) = false := by simp; omega
          have hvz : ¬ v = 0 := by omega
          have HL := Lib.hid (And.intro hlen hall2)
          have HR := Lib.hid (And.intro hrow (And.intro hRd hOn))
          clear eq hlen hall2 hrow hRd hOn hJ
          go_wp2_with fail
          refine wp_region_below_tail 8 (by kernel_rfl) (by kernel_rfl) ?_
          simp only [List.take_succ_cons, List.take_zero, List.drop_succ_cons, List.drop_zero]
          repeat (first | go_big_quiet_step (fail) | quiet_step (fail))
          refine wpQuiet_nil ?_
          intro _ hw0
          obtain ⟨⟨dq, osq⟩, hw1⟩ := hw0
          subst hw1
          have hq := below_regrown wr dq osq
          generalize Go.Sort.grow (redrawn wr dq) osq = w4 at hq ⊢
          clear k0 k1 ew em ewq hv0 hvz
          have hr2 := HR.out.1.below hq HR.out.1.lt
          have hR2 := HR.out.2.1.below hq HR.out.2.1.1
          have hO2 := only_trans HR.out.2.2 (only_of_below hq _)
          have b0 := cellB hq a0
          have b1 := cellB hq a1
          have bf0 := frozenB hq a0 af0
          have bf1 := frozenB hq a1 af1
          have y0 := cellB hq z0
          have y1 := cellB hq z1
          have hlen := HL.out.1
          have hall2 := HL.out.2
          have hkm : k < ms.length := by omega
          have hms64 : ms.getD k 0 < 64 := by
            rw [List.getD_eq_getElem?_getD, List.getElem?_eq_getElem hkm]
            have := hall2 _ (List.getElem_mem hkm)
            have := pow6 hv6
            simp only [Option.getD_some]
            omega
          have HP := l1Put_c v g c ms k q hkm (by omega) hms64 true w4 hr2
          rw [hlen] at HP
          have hgne : g ≠ R := by omega
          clear hr2 a0 a1 af0 af1 z0 z1
          go_wp2_with (go_at_call 38; refine HP.mono ?_; rintro e w5 ⟨rfl, hr5, hg5⟩)
          go_roundw
          case rel =>
            refine ⟨j + 1, by omega, by go_num, ?_⟩
            rw [EI.out]
            exact ⟨⟨putL ms k q true, by rw [length_putL]; exact hlen, putL_lt hall2 hkm hqv true, hr5⟩, hR2.only hg5 (by omega), only_new hO2 hg5 (by omega), ⟨cell_only hg5 b0 (by simp; omega), cell_only hg5 b1 (by simp; omega), frozen_only hg5 b0 (by simp; omega) bf0, frozen_only hg5 b1 (by simp; omega) bf1⟩, cell_only hg5 y0 (by simp; omega), cell_only hg5 y1 (by simp; omega)⟩
          case measure => simp [intOf]; omega
        · go_wp2
          go_roundw
          case rel => exact ⟨k + 1, by omega, by go_num, hJ⟩
          case measure => simp [intOf]; omega
    · obtain ⟨q0, q1⟩ := set2_get (x := .int .i64 v) (y := .slice (some ⟨g, 0, none⟩) h c) a0 a1
      go_wp2
      refine bodyPost_ret (res_img rfl _ _ rfl q0 q1) rfl ?_
      refine ⟨⟨g, c, v, ms, by rw [hlen], ⟨hv1, hv6, by omega, by omega, hall2⟩, (hrow.far (by simp; omega) _).far (by simp; omega) _, by omega⟩, ?_, only_setCell (only_setCell hOn (.inr (by simp)) _) (.inr (by simp)) _⟩
      exact hRd.below (B := R + 1) (((Below.refl (R + 1) wr).setCell (by simp; omega) _).setCell (by simp; omega) _) (by omega)
end Go.Proofs.YtbpjceffkchmbaaDoor
end

section
namespace Go.Proofs.YtbpjceffkchmbaaDoor
open Go.RowKit
set_option maxHeartbeats 2000000 in
theorem l91Image_c (R K cells : Nat) (hcl : 1 ≤ cells) (hc6 : cells ≤ 1000) (hK : K ≤ 700000) (w : World) (hR : Rd w R K) :
    Calls Tryd.prog 52 #[.pointer (some ⟨R, 0, none⟩), .int .i64 cells] w fun e w' => Drawn w w' R (K + 10) e := by
  have hlt := hR.1
  go_enter Tryd.func52, Tryd.ntmps52
  go_wp2_with fail
  obtain ⟨W0, eW⟩ : ∃ W0, W0 = w.alloc (.cells #[.int .i64 0, .slice none 0 0] 25) := ⟨_, rfl⟩
  have hB0 : Below w.heap.size w W0 := by rw [eW]; go_grown
  have i0 : W0.cell? ⟨w.heap.size, 0, none⟩ = some (.int .i64 0) := by rw [eW]; go_cell
  have i1 : W0.cell? ⟨w.heap.size, 1, none⟩ = some (.slice none 0 0) := by rw [eW]; go_cell
  have if0 : W0.frozen? ⟨w.heap.size, 0, none⟩ = false := by rw [eW]; go_cell
  have if1 : W0.frozen? ⟨w.heap.size, 1, none⟩ = false := by rw [eW]; go_cell
  have hz0 : w.heap.size < W0.heap.size := by rw [eW]; simp
  rw [← eW]
  clear eW
  have hwR : w.heap.size ≠ R := by omega
  refine (pick_c R K 4 (by omega) (by omega) (by omega) _ (hR.below hB0 hlt)).mono ?_
  rintro e w1 ⟨⟨x, rfl, hx⟩, hR1, hg1⟩
  have j0 := cell_only hg1 i0 hwR
  have j1 := cell_only hg1 i1 hwR
  have jf0 := frozen_only hg1 i0 hwR if0
  have jf1 := frozen_only hg1 i1 hwR if1
  have hO1 : w.grownBy w1 (some R) := only_trans (only_of_below hB0 _) hg1
  have hz1 := Nat.lt_of_lt_of_le hz0 hg1.size
  clear i0 i1 if0 if1 hg1 hB0 hR
  have fin : ∀ (e : Ending) (w2 : World), Drawn w1 w2 R (K + 10) e → ∃ (g c v h : Nat) (ns : List Nat), e = .returned (.agg #[.int .i64 v, .slice (some ⟨g, 0, none⟩) h c]) ∧ (w2.cell? ⟨w.heap.size, 0, none⟩ = some (.int .i64 0) ∧ w2.cell? ⟨w.heap.size, 1, none⟩ = some (.slice none 0 0) ∧ w2.frozen? ⟨w.heap.size, 0, none⟩ = false ∧ w2.frozen? ⟨w.heap.size, 1, none⟩ = false) ∧ ∀ e', e' = .returned (.agg #[.int .i64 v, .slice (some ⟨g, 0, none⟩) h c]) → Drawn w ((w2.setCell ⟨w.heap.size, 0, none⟩ (.int .i64 v)).setCell ⟨w.heap.size, 1, none⟩ (.slice (some ⟨g, 0, none⟩) h c)) R (K + 10) e' := by
    rintro e w2 ⟨⟨g, c, v, ns, rfl, hV, hrow, hgw⟩, hR2, hg2⟩
    refine ⟨g, c, v, ns.length, ns, rfl, ⟨cell_only hg2 j0 hwR, cell_only hg2 j1 hwR, frozen_only hg2 j0 hwR jf0, frozen_only hg2 j1 hwR jf1⟩, ?_⟩
    rintro e' rfl
    exact ⟨⟨g, c, v, ns, rfl, hV, (hrow.far (by simp; omega) _).far (by simp; omega) _, by omega⟩, hR2.below (B := R + 1) (((Below.refl (R + 1) w2).setCell (by simp; omega) _).setCell (by simp; omega) _) (by omega), only_setCell (only_setCell (only_trans hO1 hg2) (.inr (by simp)) _) (.inr (by simp)) _⟩
  have HF := Lib.hid fin
  clear fin j0 j1 jf0 jf1
  by_cases hx0 : x = 0
  · subst hx0
    go_wp2_with fail
    refine (l91Nested_c R (K + 1) cells hcl hc6 (by omega) _ hR1).mono ?_
    intro e w2 hd
    obtain ⟨g, c, v, h, ns, rfl, ⟨c0, c1, cf0, cf1⟩, hend⟩ := HF.out e w2 hd
    obtain ⟨q0, q1⟩ := set2_get (x := .int .i64 v) (y := .slice (some ⟨g, 0, none⟩) h c) c0 c1
    have HE := Lib.hid hend
    clear hend hd
    go_wp2
    refine bodyPost_ret (res_img rfl _ _ rfl q0 q1) rfl ?_
    exact HE.out _ rfl
  · have hxi : ((x : Int) == 0) = false := by simp; omega
    go_wp2_with fail
    refine (l91Shape_c R (K + 1) cells hcl hc6 (by omega) _ hR1).mono ?_
    intro e w2 hd
    have hd' : Drawn w1 w2 R (K + 10) e := ⟨hd.img, hd.rd.more (by omega), hd.only⟩
    obtain ⟨g, c, v, h, ns, rfl, ⟨c0, c1, cf0, cf1⟩, hend⟩ := HF.out e w2 hd'
    obtain ⟨q0, q1⟩ := set2_get (x := .int .i64 v) (y := .slice (some ⟨g, 0, none⟩) h c) c0 c1
    have HE := Lib.hid hend
    clear hend hd hd'
    go_wp2
    refine bodyPost_ret (res_img rfl _ _ rfl q0 q1) rfl ?_
    exact HE.out _ rfl
/-- An image of whatever numbers, six rows at most. -/
def Wrong (lo : Nat) (w' : World) (e : Ending) : Prop := ∃ (W : Int) (v : Value) (rows : List Int), e = .returned (.agg #[.int .i64 W, v]) ∧ ((rows = [] ∧ ∃ A c, v = .slice A 0 c) ∨ ∃ g c, Row w' g rows ∧ v = .slice (some ⟨g, 0, none⟩) rows.length c ∧ lo ≤ g) ∧ rows.length ≤ 6
/-- What the end of l91Wrong needs of the world: the result's box, the image's box, the row. -/
structure WEnd (w w4 : World) (R K g Bx h c : Nat) (W : Int) (sl : Value) (rows : List Int) : Prop where
  c0 : w4.cell? ⟨w.heap.size, 0, none⟩ = some (.int .i64 0)
  c1 : w4.cell? ⟨w.heap.size, 1, none⟩ = some (.slice none 0 0)
  f0 : w4.frozen? ⟨w.heap.size, 0, none⟩ = false
  f1 : w4.frozen? ⟨w.heap.size, 1, none⟩ = false
  b0 : w4.cell? ⟨Bx, 0, none⟩ = some (.int .i64 W)
  b1 : w4.cell? ⟨Bx, 1, none⟩ = some sl
  on : w.grownBy w4 (some R)
  rd : Rd w4 R K
  lt : R < w.heap.size
  row : (rows = [] ∧ ∃ A c, sl = .slice A 0 c) ∨ (Row w4 g rows ∧ rows.length = h ∧ sl = .slice (some ⟨g, 0, none⟩) h c)
theorem WEnd.fin {w w4 : World} {R K g Bx h c : Nat} {W : Int} {sl : Value} {rows : List Int} (H : WEnd w w4 R K g Bx h c W sl rows) (hwg : w.heap.size < g) (hl : rows.length ≤ 6) : Wrong w.heap.size ((w4.setCell ⟨w.heap.size, 0, none⟩ (.int .i64 W)).setCell ⟨w.heap.size, 1, none⟩ sl) (.returned (.agg #[.int .i64 W, sl])) ∧ w.grownBy ((w4.setCell ⟨w.heap.size, 0, none⟩ (.int .i64 W)).setCell ⟨w.heap.size, 1, none⟩ sl) (some R) ∧ Rd ((w4.setCell ⟨w.heap.size, 0, none⟩ (.int .i64 W)).setCell ⟨w.heap.size, 1, none⟩ sl) R K := by
  have hlt := H.lt
  refine ⟨⟨W, sl, rows, rfl, ?_, hl⟩, only_setCell (only_setCell H.on (.inr (by simp)) _) (.inr (by simp)) _, H.rd.below (B := R + 1) (((Below.refl (R + 1) w4).setCell (by simp; omega) _).setCell (by simp; omega) _) (by omega)⟩
  rcases H.row with ⟨rfl, A, c, rfl⟩ | ⟨hrow, rfl, rfl⟩
  · exact .inl ⟨rfl, _, _, rfl⟩
  · have hr := ((hrow.far (p := ⟨w.heap.size, 0, none⟩) (by simp; omega) (.int .i64 W)).far (p := ⟨w.heap.size, 1, none⟩) (by simp; omega) (.slice (some ⟨g, 0, none⟩) rows.length c))
    exact .inr ⟨g, c, hr, rfl, by omega⟩
theorem WEnd.setRow {w w4 : World} {R K g Bx h c : Nat} {W : Int} {rows : List Int} (H : WEnd w w4 R K g Bx h c W (.slice (some ⟨g, 0, none⟩) h c) rows) (hrow : Row w4 g rows) (hl : rows.length = h) (hpos : 0 < h) (hwg : w.heap.size < g) (hgB : g < Bx) (z : Int) : WEnd w (w4.setCell ⟨g, 0, none⟩ (.int .i64 z)) R K g Bx h c W (.slice (some ⟨g, 0, none⟩) h c) (rows.set 0 z) :=
  ⟨(World.cell?_setCell_other _ _ _ _ (by simp <;> omega)).trans H.c0, (World.cell?_setCell_other _ _ _ _ (by simp)).trans H.c1, by rw [World.frozen?_setCell]; exact H.f0, by rw [World.frozen?_setCell]; exact H.f1,
   (World.cell?_setCell_other _ _ _ _ (by simp <;> omega)).trans H.b0, (World.cell?_setCell_other _ _ _ _ (by simp)).trans H.b1, only_setCell H.on (.inr (by simp; omega)) _, H.rd.below (B := R + 1) ((Below.refl (R + 1) w4).setCell (by have := H.lt; simp; omega) _) (by omega), H.lt, .inr ⟨hrow.set (by omega) z, by simp [hl], rfl⟩⟩
theorem WEnd.below {w w4 w5 : World} {R K g Bx h c : Nat} {W : Int} {rows : List Int} (H : WEnd w w4 R K g Bx h c W (.slice (some ⟨g, 0, none⟩) h c) rows) (hb : Below w4.heap.size w4 w5) (hrow : Row w4 g rows) (hl : rows.length = h) : WEnd w w5 R K g Bx h c W (.slice (some ⟨g, 0, none⟩) h c) rows :=
  ⟨cellB hb H.c0, cellB hb H.c1, frozenB hb H.c0 H.f0, frozenB hb H.c1 H.f1, cellB hb H.b0, cellB hb H.b1, only_trans H.on (only_of_below hb _), H.rd.below hb H.rd.1, H.lt, .inr ⟨hrow.below hb hrow.lt, hl, rfl⟩⟩
theorem WEnd.only {w w4 w5 : World} {R K g Bx h c : Nat} {W : Int} {rows : List Int} (H : WEnd w w4 R K g Bx h c W (.slice (some ⟨g, 0, none⟩) h c) rows) (hb : w4.grownBy w5 (some R)) (hrow : Row w4 g rows) (hl : rows.length = h) (hwR : w.heap.size ≠ R) (hgR : g ≠ R) (hBR : Bx ≠ R) (hrd : Rd w5 R K) : WEnd w w5 R K g Bx h c W (.slice (some ⟨g, 0, none⟩) h c) rows :=
  ⟨cell_only hb H.c0 hwR, cell_only hb H.c1 hwR, frozen_only hb H.c0 hwR H.f0, frozen_only hb H.c1 hwR H.f1, cell_only hb H.b0 hBR, cell_only hb H.b1 hBR, only_trans H.on hb, hrd, H.lt, .inr ⟨hrow.only hb hgR, hl, rfl⟩⟩
set_option maxHeartbeats 2000000 in
theorem l91Wrong_r (R K cells : Nat) (hcl : 1 ≤ cells) (hc6 : cells ≤ 1000) (hK : K ≤ 600000) (w : World) (hR : Rd w R K) :
    Calls Tryd.prog 23 #[.pointer (some ⟨R, 0, none⟩), .int .i64 cells] w fun e w' => Wrong w.heap.size w' e ∧ w.grownBy w' (some R) ∧ Rd w' R (K + 12) := by
  have hlt := hR.1
  go_enter Tryd.func23, Tryd.ntmps23
  go_wp2_with fail
  obtain ⟨W0, eW⟩ : ∃ W0, W0 = w.alloc (.cells #[.int .i64 0, .slice none 0 0] 25) := ⟨_, rfl⟩
  have hB0 : Below w.heap.size w W0 := by rw [eW]; go_grown
  have i0 : W0.cell? ⟨w.heap.size, 0, none⟩ = some (.int .i64 0) := by rw [eW]; go_cell
  have i1 : W0.cell? ⟨w.heap.size, 1, none⟩ = some (.slice none 0 0) := by rw [eW]; go_cell
  have if0 : W0.frozen? ⟨w.heap.size, 0, none⟩ = false := by rw [eW]; go_cell
  have if1 : W0.frozen? ⟨w.heap.size, 1, none⟩ = false := by rw [eW]; go_cell
  have hz0 : w.heap.size < W0.heap.size := by rw [eW]; simp
  rw [← eW]
  clear eW
  have hwR : w.heap.size ≠ R := by omega
  refine (l91Image_c R K cells hcl hc6 (by omega) _ (hR.below hB0 hlt)).mono ?_
  rintro e w1 ⟨⟨g, c, v, ns, rfl, hV, hrow1, hgw⟩, hR1, hg1⟩
  have hO1 : w.grownBy w1 (some R) := only_trans (only_of_below hB0 _) hg1
  have hwg : w.heap.size < g := Nat.lt_of_lt_of_le hz0 hgw
  have j0 := cell_only hg1 i0 hwR
  have j1 := cell_only hg1 i1 hwR
  have jf0 := frozen_only hg1 i0 hwR if0
  have jf1 := frozen_only hg1 i1 hwR if1
  obtain ⟨h, eh⟩ : ∃ h, h = ns.length := ⟨_, rfl⟩
  have hh6 := hV.h6
  have hh1 := hV.h1
  have hv1 := hV.w1
  have hv6 := hV.w6
  rw [← eh] at hh1 hh6 ⊢
  obtain ⟨W2, eW⟩ : ∃ W2, W2 = w1.alloc (.cells #[.int .i64 v, .slice (some ⟨g, 0, none⟩) h c] 25) := ⟨_, rfl⟩
  have hx := Box2.new w1 (.int .i64 v) (.slice (some ⟨g, 0, none⟩) h c) 25
  have hfx : W2.frozen? ⟨w1.heap.size, 0, none⟩ = false ∧ W2.frozen? ⟨w1.heap.size, 1, none⟩ = false := by rw [eW]; exact ⟨by go_cell, by go_cell⟩
  have hB2 : Below w1.heap.size w1 W2 := by rw [eW]; go_grown
  have hgB : g < w1.heap.size := hrow1.lt
  rw [← eW] at hx
  obtain ⟨_, x0, x1⟩ := hx
  obtain ⟨xf0, xf1⟩ := hfx
  have hrow2 := hrow1.below hB2 hrow1.lt
  have hR2 := hR1.below hB2 hR1.1
  have hO2 := only_trans hO1 (only_of_below hB2 _)
  have k0 := cellB hB2 j0
  have k1 := cellB hB2 j1
  have kf0 := frozenB hB2 j0 jf0
  have kf1 := frozenB hB2 j1 jf1
  have EH := Lib.hid eh
  clear i0 i1 if0 if1 j0 j1 jf0 jf1 eh
  go_wp2_with fail
  rw [← eW]
  obtain ⟨Bx, eB⟩ : ∃ Bx, Bx = w1.heap.size := ⟨_, rfl⟩
  rw [← eB] at x0 x1 xf0 xf1 hgB ⊢
  have hBw : w.heap.size < Bx := by omega
  have hBR : Bx ≠ R := by omega
  clear eB eW hB2
  refine (pick_c R (K + 10) 40 (by omega) (by omega) (by omega) _ hR2).mono ?_
  rintro e w3 ⟨⟨x, rfl, hx⟩, hR3, hg3⟩
  have y0 := cell_only hg3 x0 hBR
  have y1 := cell_only hg3 x1 hBR
  have yf0 := frozen_only hg3 x0 hBR xf0
  have yf1 := frozen_only hg3 x1 hBR xf1
  have hrow3 := hrow2.only hg3 (by omega)
  have hO3 := only_trans hO2 hg3
  have l0 := cell_only hg3 k0 hwR
  have l1 := cell_only hg3 k1 hwR
  have lf0 := frozen_only hg3 k0 hwR kf0
  have lf1 := frozen_only hg3 k1 hwR kf1
  clear x0 x1 xf0 xf1 k0 k1 kf0 kf1 hrow1 hrow2 hR1 hR2 hO1 hO2 hg1 hg3 hR hV hB0
  have HW3 : WEnd w w3 R (K + 12) g Bx h c v (.slice (some ⟨g, 0, none⟩) h c) (casts ns) := ⟨l0, l1, lf0, lf1, y0, y1, hO3, hR3.more (by omega), hlt, .inr ⟨hrow3, by rw [length_casts, ← EH.out], rfl⟩⟩
  have hlc : (casts ns).length = h := by rw [length_casts, ← EH.out]
  have HW := Lib.hid HW3
  have HRW := Lib.hid (And.intro hrow3 hR3)
  have HLC := Lib.hid hlc
  clear HW3 hlc hrow3 hO3 hR3
  by_cases e0 : x = 0
  · subst e0
    have k0 := cell_regrown y0
    have k1 := cell_regrown y1
    have hv62 : v ≤ 62 := by omega
    go_wp2_with fail
    refine wp_region_below_tail 5 (by kernel_rfl) (by kernel_rfl) ?_
    simp only [List.take_succ_cons, List.take_zero, List.drop_succ_cons, List.drop_zero]
    repeat (first | go_big_quiet_step ((go_at_call 53; exact Calls.rgs (l1Power_c v hv62 _))) | quiet_step ((go_at_call 53; exact Calls.rgs (l1Power_c v hv62 _))))
    refine wpQuiet_nil ?_
    intro _ hw0
    obtain ⟨⟨dq, osq⟩, hw1⟩ := hw0
    subst hw1
    have hq := below_regrown w3 dq osq
    generalize Go.Sort.grow (redrawn w3 dq) osq = w4 at hq ⊢
    clear k0 k1 y0 y1 yf0 yf1 l0 l1 lf0 lf1
    have hr4 := HRW.out.1.below hq HRW.out.1.lt
    have H4 := HW.out.below hq HRW.out.1 HLC.out
    have H5 := H4.setRow hr4 HLC.out (by omega) hwg hgB (pw v)
    have hc4 := hr4.cell (k := 0) (by rw [HLC.out]; omega)
    have hf4 := hr4.frozen 0
    obtain ⟨q0, q1⟩ := set2_get (x := .int .i64 v) (y := .slice (some ⟨g, 0, none⟩) h c) H5.c0 H5.c1
    have c0 := H5.c0
    have c1 := H5.c1
    have f0 := H5.f0
    have f1 := H5.f1
    have b0 := H5.b0
    have b1 := H5.b1
    have HE := Lib.hid (H5.fin hwg (by rw [List.length_set, HLC.out]; omega))
    clear H4 H5 hr4
    go_wp2
    refine bodyPost_ret (res_img rfl _ _ rfl q0 q1) rfl ?_
    exact HE.out
  · by_cases e1 : x = 1
    · subst e1
      have hgR : g ≠ R := by omega
      obtain ⟨W5, e5⟩ : ∃ W5, W5 = w3.alloc (.cells #[.int .i64 0, .int .i64 7] 3) := ⟨_, rfl⟩
      have hb5 : Below w3.heap.size w3 W5 := by rw [e5]; go_grown
      have s0 : W5.cell? ⟨w3.heap.size, 0, none⟩ = some (.int .i64 0) := by rw [e5]; go_cell
      have s1 : W5.cell? ⟨w3.heap.size, 1, none⟩ = some (.int .i64 7) := by rw [e5]; go_cell
      have hrow5 := HRW.out.1.below hb5 HRW.out.1.lt
      have hR5 := HRW.out.2.below hb5 HRW.out.2.1
      have H5 := HW.out.below hb5 HRW.out.1 HLC.out
      have yf0' := frozenB hb5 y0 yf0
      have hw3 : w3.heap.size ≠ R := by have := HRW.out.2.1; omega
      have HH := Lib.hid (And.intro H5 hrow5)
      have b05 := H5.b0
      clear H5 hrow5 hb5 l0 l1 lf0 lf1 y0 y1 yf0 yf1
      go_wp2_with fail
      rw [← e5]
      clear e5
      refine (pick_c R (K + 10 + 1) 2 (by omega) (by omega) (by omega) _ hR5).mono ?_
      rintro e w6 ⟨⟨x, rfl, hx⟩, hR6, hg6⟩
      have t0 := cell_only hg6 s0 hw3
      have t1 := cell_only hg6 s1 hw3
      have yf6 := frozen_only hg6 b05 hBR yf0'
      have H6 := HH.out.1.only hg6 HH.out.2 HLC.out hwR hgR hBR (hR6.more (by omega))
      have b06 := H6.b0
      obtain ⟨z, hz⟩ : ∃ z : Int, w6.cell? ⟨w3.heap.size, x, none⟩ = some (.int .i64 z) := by
        have : x = 0 ∨ x = 1 := by omega
        rcases this with rfl | rfl
        · exact ⟨_, t0⟩
        · exact ⟨_, t1⟩
      have H7 : WEnd w (w6.setCell ⟨Bx, 0, none⟩ (.int .i64 z)) R (K + 12) g Bx h c z (.slice (some ⟨g, 0, none⟩) h c) (casts ns) :=
        ⟨(World.cell?_setCell_other _ _ _ _ (by simp <;> omega)).trans H6.c0, (World.cell?_setCell_other _ _ _ _ (by simp)).trans H6.c1, by rw [World.frozen?_setCell]; exact H6.f0, by rw [World.frozen?_setCell]; exact H6.f1,
         World.cell?_setCell_same' _ _ _ (by rw [b06]; rfl), (World.cell?_setCell_other _ _ _ _ (by simp)).trans H6.b1, only_setCell H6.on (.inr (by simp; omega)) _, H6.rd.below (B := R + 1) ((Below.refl (R + 1) w6).setCell (by simp; omega) _) (by omega), hlt, .inr ⟨(HH.out.2.only hg6 hgR).far (by simp; omega) _, HLC.out, rfl⟩⟩
      obtain ⟨q0, q1⟩ := set2_get (x := .int .i64 z) (y := .slice (some ⟨g, 0, none⟩) h c) H7.c0 H7.c1
      have c0 := H7.c0
      have c1 := H7.c1
      have f0 := H7.f0
      have f1 := H7.f1
      have b0 := H7.b0
      have b1 := H7.b1
      have HE := Lib.hid (H7.fin hwg (by rw [HLC.out]; omega))
      clear H6 H7 t0 t1 s0 s1
      go_wp2
      refine bodyPost_ret (res_img rfl _ _ rfl q0 q1) rfl ?_
      exact HE.out
    · by_cases e2 : x = 2
      · subst e2
        obtain ⟨W5, e5⟩ : ∃ W5, W5 = w3.alloc (.cells #[] 3) := ⟨_, rfl⟩
        have hb5 : Below w3.heap.size w3 W5 := by rw [e5]; go_grown
        have H5 := HW.out.below hb5 HRW.out.1 HLC.out
        have yf1' := frozenB hb5 y1 yf1
        have b15 := H5.b1
        have b05 := H5.b0
        have H7 : WEnd w (W5.setCell ⟨Bx, 1, none⟩ (.slice (some ⟨w3.heap.size, 0, none⟩) 0 0)) R (K + 12) g Bx h c v (.slice (some ⟨w3.heap.size, 0, none⟩) 0 0) [] :=
          ⟨(World.cell?_setCell_other _ _ _ _ (by simp)).trans H5.c0, (World.cell?_setCell_other _ _ _ _ (by simp <;> omega)).trans H5.c1, by rw [World.frozen?_setCell]; exact H5.f0, by rw [World.frozen?_setCell]; exact H5.f1,
           (World.cell?_setCell_other _ _ _ _ (by simp)).trans H5.b0, World.cell?_setCell_same' _ _ _ (by rw [b15]; rfl), only_setCell H5.on (.inr (by simp; omega)) _, H5.rd.below (B := R + 1) ((Below.refl (R + 1) W5).setCell (by simp; omega) _) (by omega), hlt, .inl ⟨rfl, _, _, rfl⟩⟩
        obtain ⟨q0, q1⟩ := set2_get (x := .int .i64 v) (y := .slice (some ⟨w3.heap.size, 0, none⟩) 0 0) H7.c0 H7.c1
        have c0 := H7.c0
        have c1 := H7.c1
        have f0 := H7.f0
        have f1 := H7.f1
        have b0 := H7.b0
        have b1 := H7.b1
        have HE := Lib.hid (H7.fin hwg (by simp))
        clear H5 H7 hb5
        rw [e5] at q0 q1 c0 c1 f0 f1 b0 b1 yf1' b15 b05
        have HEW := Lib.hid e5
        clear e5 l0 l1 lf0 lf1
        go_wp2
        refine bodyPost_ret (res_img rfl _ _ rfl q0 q1) rfl ?_
        rw [← HEW.out]
        exact HE.out
      · by_cases e3 : x = 3
        · subst e3
          have H5 := HW.out.setRow HRW.out.1 HLC.out (by omega) hwg hgB (-1)
          have hc4 := HRW.out.1.cell (k := 0) (by rw [HLC.out]; omega)
          have hf4 := HRW.out.1.frozen 0
          obtain ⟨q0, q1⟩ := set2_get (x := .int .i64 v) (y := .slice (some ⟨g, 0, none⟩) h c) H5.c0 H5.c1
          have c0 := H5.c0
          have c1 := H5.c1
          have f0 := H5.f0
          have f1 := H5.f1
          have b0 := H5.b0
          have b1 := H5.b1
          have HE := Lib.hid (H5.fin hwg (by rw [List.length_set, HLC.out]; omega))
          clear H5
          go_wp2
          refine bodyPost_ret (res_img rfl _ _ rfl q0 q1) rfl ?_
          exact HE.out
        · have n0 : ((x : Int) == 0) = false := by simp; omega
          have n1 : ((x : Int) == 1) = false := by simp; omega
          have n2 : ((x : Int) == 2) = false := by simp; omega
          have n3 : ((x : Int) == 3) = false := by simp; omega
          obtain ⟨q0, q1⟩ := set2_get (x := .int .i64 v) (y := .slice (some ⟨g, 0, none⟩) h c) l0 l1
          have HE := Lib.hid (HW.out.fin hwg (by rw [HLC.out]; omega))
          go_wp2
          refine bodyPost_ret (res_img rfl _ _ rfl q0 q1) rfl ?_
          exact HE.out
theorem l91Wrong_c (R K cells : Nat) (hcl : 1 ≤ cells) (hc6 : cells ≤ 1000) (hK : K ≤ 600000) (w : World) (hR : Rd w R K) :
    Calls Tryd.prog 23 #[.pointer (some ⟨R, 0, none⟩), .int .i64 cells] w fun e w' => Wrong w.heap.size w' e ∧ w.grownBy w' (some R) :=
  (l91Wrong_r R K cells hcl hc6 hK w hR).mono fun _ _ ⟨h1, h2, _⟩ => ⟨h1, h2⟩
end Go.Proofs.YtbpjceffkchmbaaDoor
end
