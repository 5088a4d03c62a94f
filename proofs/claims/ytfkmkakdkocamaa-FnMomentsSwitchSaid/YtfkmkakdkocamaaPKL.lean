/- Contract of pick for numbers up to 4096. Conditions: the reader lies in block R; the code's slice can be read. -/
import Derived.Test.YtfkmkakdkocamaaMPS
namespace Go.Proofs.Ytfkmkakdkocamaa
open Go.RowKit
set_option maxHeartbeats 2000000 in
theorem pick_l (R K n : Nat) (hn : 1 ≤ n) (hn6 : n ≤ 4096) (hK : K ≤ 1000000) (w : World) (hR : Rd w R K) :
    Calls Try.prog 37 #[.pointer (some ⟨R, 0, none⟩), .int .i64 n] w fun e w' => Num n e ∧ Rd w' R (K + 1) ∧ w.grownBy w' (some R) := by
  obtain ⟨hlt, hf, A, len, cap, k, h0, h1, hk, hlen, hc⟩ := hR
  have ew : IntKind.i64.wrap ((k : Int) + 1) = (k : Int) + 1 := IntWalk.i64_in _ ⟨by omega, by omega⟩
  obtain ⟨w1, eW⟩ : ∃ w1, w1 = w.setCell ⟨R, 1, none⟩ (.int .i64 ((k : Int) + 1)) := ⟨_, rfl⟩
  have c0 : w1.cell? ⟨R, 0, none⟩ = some (.slice A len cap) := by rw [eW]; exact (World.cell?_setCell_other _ _ _ _ (by simp)).trans h0
  have c1 : w1.cell? ⟨R, 1, none⟩ = some (.int .i64 ((k : Int) + 1)) := by rw [eW]; exact World.cell?_setCell_same' _ _ _ (by rw [h1]; rfl)
  have c1' : w1.cell? ⟨R, 1, none⟩ = some (.int .i64 ((k + 1 : Nat) : Int)) := c1
  have hc1 : Code8 w1 R A len := hc.keep fun p hp => by rw [eW]; exact World.cell?_setCell_other _ _ _ _ (fun e => by subst e; simp at hp)
  have hg1 : w.grownBy w1 (some R) := by rw [eW]; exact only_setCell (World.grownBy.refl w _) (.inl rfl) _
  have hR1 : Rd w1 R (K + 1) := ⟨by rw [eW]; simpa using hlt, by rw [eW, World.frozen?_setCell]; exact hf, A, len, cap, k + 1, c0, c1', by omega, hlen, hc1⟩
  have HG := Lib.hid (And.intro hR1 hg1)
  clear hg1 hR1 c1'
  have hn0 : ((n : Int) == 0) = false := by simp; omega
  by_cases hl0 : len = 0
  · subst hl0
    go_enter Try.func37, Try.ntmps37
    go_wp2_with fail
    rw [← eW]
    go_returns
    exact ⟨⟨0, rfl, by omega⟩, HG.out⟩
  · obtain ⟨b, off, rfl, hb, z, hz⟩ := hc1.resolve_left hl0
    have hpos : ((len : Int) == 0) = false := by simp; omega
    have HZ := Lib.hid hz
    have HEW := Lib.hid eW
    clear hz hc hc1
    by_cases hkl : k < len
    · have hzk := HZ.out k hkl
      obtain ⟨x, ex⟩ : ∃ x, x = z k := ⟨_, rfl⟩
      rw [← ex] at hzk
      obtain ⟨hx, hx0, hx1⟩ := hzk
      clear ex
      rw [eW] at hx c0 c1
      have ew3 : IntKind.i64.wrap x = x := IntWalk.i64_in _ ⟨by omega, by omega⟩
      clear eW
      go_enter Try.func37, Try.ntmps37
      go_wp2
      rw [← HEW.out]
      go_returns
      exact ⟨num_mod hn rfl, HG.out⟩
    · obtain ⟨q1, e1⟩ : ∃ q1, q1 = k % len := ⟨_, rfl⟩
      obtain ⟨q2, e2⟩ : ∃ q2, q2 = (k * 7 + 3) % len := ⟨_, rfl⟩
      have hq1 : q1 < len := by rw [e1]; exact Nat.mod_lt _ (by omega)
      have hq2 : q2 < len := by rw [e2]; exact Nat.mod_lt _ (by omega)
      have m1 : (k : Int).tmod (len : Int) = (q1 : Int) := by rw [Int.tmod_eq_emod_of_nonneg (by omega), e1]; simp
      have m2 : ((k : Int) * 7 + 3).tmod (len : Int) = (q2 : Int) := by rw [Int.tmod_eq_emod_of_nonneg (by omega), e2]; simp
      obtain ⟨q3, e3⟩ : ∃ q3, q3 = k / len := ⟨_, rfl⟩
      have m3 : (k : Int).tdiv (len : Int) = (q3 : Int) := by rw [Int.tdiv_eq_ediv_of_nonneg (by omega), e3]; simp
      have w3 : IntKind.i64.wrap (q3 : Int) = q3 := IntWalk.i64_in _ ⟨by omega, by have : q3 ≤ 1000000 := (by rw [e3]; exact Nat.le_trans (Nat.div_le_self _ _) (by omega)); omega⟩
      have hq3 : q3 ≤ 1000000 := by rw [e3]; exact Nat.le_trans (Nat.div_le_self _ _) (by omega)
      have hz1 := HZ.out q1 hq1
      have hz2 := HZ.out q2 hq2
      obtain ⟨x, ex⟩ : ∃ x, x = z q1 := ⟨_, rfl⟩
      obtain ⟨y, ey⟩ : ∃ y, y = z q2 := ⟨_, rfl⟩
      rw [← ex] at hz1
      rw [← ey] at hz2
      obtain ⟨hx, hx0, hx1⟩ := hz1
      obtain ⟨hy, hy0, hy1⟩ := hz2
      clear ex ey e1 e2 e3
      have k0 := cell_regrown c0
      have k1 := cell_regrown c1
      have k2 := cell_regrown hx
      have k3 := cell_regrown hy
      rw [eW] at c0 c1
      clear eW hx hy
      go_enter Try.func37, Try.ntmps37
      go_wp2_with fail
      rw [← HEW.out]
      have x1 : IntKind.i64.wrap x = x := IntWalk.i64_in _ ⟨by omega, by omega⟩
      have x2 : IntKind.i64.wrap (x * 131) = x * 131 := IntWalk.i64_in _ ⟨by omega, by omega⟩
      have y1 : IntKind.i64.wrap y = y := IntWalk.i64_in _ ⟨by omega, by omega⟩
      have y2 : IntKind.i64.wrap (y * 1117) = y * 1117 := IntWalk.i64_in _ ⟨by omega, by omega⟩
      have z1 : IntKind.i64.wrap ((k : Int) * 7) = (k : Int) * 7 := IntWalk.i64_in _ ⟨by omega, by omega⟩
      have z2 : IntKind.i64.wrap ((k : Int) * 7 + 3) = (k : Int) * 7 + 3 := IntWalk.i64_in _ ⟨by omega, by omega⟩
      have z3 : IntKind.i64.wrap ((k : Int) * 29) = (k : Int) * 29 := IntWalk.i64_in _ ⟨by omega, by omega⟩
      have z4 : IntKind.i64.wrap ((q3 : Int) * 53) = (q3 : Int) * 53 := IntWalk.i64_in _ ⟨by omega, by omega⟩
      have s1 : IntKind.i64.wrap (x * 131 + y * 1117) = x * 131 + y * 1117 := IntWalk.i64_in _ ⟨by omega, by omega⟩
      have s2 : IntKind.i64.wrap (x * 131 + y * 1117 + (k : Int) * 29) = x * 131 + y * 1117 + (k : Int) * 29 := IntWalk.i64_in _ ⟨by omega, by omega⟩
      have s3 : IntKind.i64.wrap (x * 131 + y * 1117 + (k : Int) * 29 + (q3 : Int) * 53) = x * 131 + y * 1117 + (k : Int) * 29 + (q3 : Int) * 53 := IntWalk.i64_in _ ⟨by omega, by omega⟩
      obtain ⟨S, eS⟩ : ∃ S : Nat, (S : Int) = x * 131 + y * 1117 + (k : Int) * 29 + (q3 : Int) * 53 := ⟨(x * 131 + y * 1117 + (k : Int) * 29 + (q3 : Int) * 53).toNat, by omega⟩
      have hSb : S < 4611686018427387904 := by omega
      have s3' := s3.trans eS.symm
      clear s3
      have hS64 : (S : Int) / 64 = ((S / 64 : Nat) : Int) := by simp
      have hxor := i64_xor_nat S (S / 64) (by omega) (by omega)
      rw [← hS64] at hxor
      obtain ⟨X, eX⟩ : ∃ X : Nat, X = S ^^^ S / 64 := ⟨_, rfl⟩
      rw [← eX] at hxor
      have HES := Lib.hid eS
      have HXO := Lib.hid (And.intro hxor (And.intro hS64 hSb))
      clear eX hS64 hxor hSb eS
      refine wp_region_quiet_below (by kernel_rfl) (by kernel_rfl) ?_
      repeat (first | go_big_quiet_step (fail) | quiet_step (fail))
      refine wpQuiet_nil ?_
      intro _ hw0
      obtain ⟨⟨dq, osq⟩, hw1⟩ := hw0
      subst hw1
      have hq := below_regrown w1 dq osq
      generalize Go.Sort.grow (redrawn w1 dq) osq = w2 at hq ⊢
      have hxor := HXO.out.1
      have hSb := HXO.out.2.2
      clear k0 k1 k2 k3 m1 m2 m3 w3 x1 x2 y1 y2 z1 z2 z3 z4 s1 s2 s3'
      go_wp2
      go_returns
      exact ⟨num_mod hn rfl, HG.out.1.below hq (by exact HG.out.1.1), only_trans HG.out.2 (only_of_below hq _)⟩
end Go.Proofs.Ytfkmkakdkocamaa
