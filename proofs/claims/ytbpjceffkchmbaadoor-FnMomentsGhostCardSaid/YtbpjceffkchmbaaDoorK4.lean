/- Contracts of the functions that change one cell of an image in place. Conditions: those that each theorem names. -/
import Derived.Test.YtbpjceffkchmbaaDoorK3
namespace Go.Proofs.YtbpjceffkchmbaaDoor
open Go.RowKit
theorem put_sub {r j : Nat} (hr : r < 64) (hj : j < 6) : 0 ≤ (r : Int) - b2i (r.testBit j) * pw j ∧ b2i (r.testBit j) * pw j ≤ r ∧ 0 ≤ b2i (r.testBit j) * pw j := by
  have h := setBit_le r hr j hj
  have e : b2i (r.testBit j) * pw j = (((r.testBit j).toNat * 2 ^ j : Nat) : Int) := by
    unfold pw
    cases r.testBit j <;> simp [b2i]
  rw [e]
  omega
theorem put_val {r j : Nat} (hr : r < 64) (hj : j < 6) (s : Bool) : (r : Int) - b2i (r.testBit j) * pw j + (if s then pw j else 0) = ((setBit r j s : Nat) : Int) := by
  have h := setBit_le r hr j hj
  have h2 := setBit_sum r hr j hj s
  have e : b2i (r.testBit j) * pw j = (((r.testBit j).toNat * 2 ^ j : Nat) : Int) := by
    unfold pw
    cases r.testBit j <;> simp [b2i]
  rw [e, ← h2]
  cases s with
  | false =>
    simp only [Bool.false_eq_true, if_false] at h2 ⊢
    omega
  | true =>
    simp only [if_true] at h2 ⊢
    unfold pw
    omega
theorem put_no {r j : Nat} (hr : r < 64) (hj : j < 6) : (r : Int) - b2i (r.testBit j) * pw j = ((setBit r j false : Nat) : Int) := by
  have := put_val hr hj false
  simp only [Bool.false_eq_true, if_false] at this
  omega
theorem put_yes {r j : Nat} (hr : r < 64) (hj : j < 6) : (r : Int) - b2i (r.testBit j) * pw j + pw j = ((setBit r j true : Nat) : Int) := by
  have := put_val hr hj true
  simp only [if_true] at this
  omega
set_option maxHeartbeats 1000000 in
theorem l1Put_c (W : Int) (b cap : Nat) (ns : List Nat) (i j : Nat) (hi : i < ns.length) (hj : j < 6) (hr : ns.getD i 0 < 64) (s : Bool) (w : World) (hR : Row w b (casts ns)) :
    Calls Tryd.prog 38 #[.agg #[.int .i64 W, .slice (some ⟨b, 0, none⟩) ns.length cap], .int .i64 i, .int .i64 j, .bool s] w fun e w' => e = .returned (.tuple #[]) ∧ Row w' b (casts (putL ns i j s)) ∧ w.grownBy w' (some b) := by
  have hlt := hR.lt
  have hci := hR.cell (k := i) (by rw [length_casts]; omega)
  rw [casts_getD] at hci
  have HR := Lib.hid hR
  clear hR
  have hno := put_no hr hj
  have hyes := put_yes hr hj
  have hsub := put_sub hr hj
  obtain ⟨r, er⟩ : ∃ r, r = ns.getD i 0 := ⟨_, rfl⟩
  rw [← er] at hci hr hno hyes hsub
  have HE := Lib.hid er
  clear er
  obtain ⟨p, ep⟩ : ∃ p, p = b2i (r.testBit j) * pw j := ⟨_, rfl⟩
  rw [← ep] at hsub hno hyes
  have HN := Lib.hid hno
  have HY := Lib.hid hyes
  clear hno hyes
  obtain ⟨W0, eW⟩ : ∃ W0, W0 = w.alloc (.cells #[.int .i64 W, .slice (some ⟨b, 0, none⟩) ns.length cap] 25) := ⟨_, rfl⟩
  have hbx := Box2.new w (.int .i64 W) (.slice (some ⟨b, 0, none⟩) ns.length cap) 25
  rw [← eW] at hbx
  have hB0 : Below w.heap.size w W0 := by rw [eW]; go_grown
  have hz0 : W0.heap.size = w.heap.size + 1 := by rw [eW]; simp
  obtain ⟨hbl, hb0, hb1⟩ := hbx
  have hp1 := pw_pos j
  have hp6 := pw_6 (k := j) (by omega)
  have k1 := cell_regrown hb1
  have k2 := cell_regrown ((hB0.cell (p := ⟨b, i, none⟩) hlt).trans hci)
  have ew1 : IntKind.i64.wrap (b2i (r.testBit j) * pw j) = p := by rw [← ep]; exact IntWalk.i64_in _ ⟨by omega, by omega⟩
  have ew2 : IntKind.i64.wrap ((r : Int) - p) = (r : Int) - p := IntWalk.i64_in _ ⟨by omega, by omega⟩
  have HZ := Lib.hid hz0
  have HP := Lib.hid ep
  clear hz0 ep
  go_enter Tryd.func38, Tryd.ntmps38
  go_wp2_with fail
  rw [← eW]
  have HW := Lib.hid eW
  clear eW
  refine wp_region_below_tail 20 (by kernel_rfl) (by kernel_rfl) ?_
  simp only [List.take_succ_cons, List.take_zero, List.drop_succ_cons, List.drop_zero]
  repeat (first | go_big_quiet_step (first | (go_at_call 59; exact Calls.rgs (l1Bit_c r j (by omega) (by omega) _)) | (go_at_call 53; exact Calls.rgs (l1Power_c j (by omega) _))) | quiet_step (first | (go_at_call 59; exact Calls.rgs (l1Bit_c r j (by omega) (by omega) _)) | (go_at_call 53; exact Calls.rgs (l1Power_c j (by omega) _))))
  refine wpQuiet_nil ?_
  intro _ hw0
  obtain ⟨⟨dq, osq⟩, hw1⟩ := hw0
  subst hw1
  have hq := below_regrown W0 dq osq
  generalize Go.Sort.grow (redrawn W0 dq) osq = w1 at hq ⊢
  clear k1 k2 ew1 ew2
  have hc1 : w1.cell? ⟨b, i, none⟩ = some (.int .i64 (r : Int)) := (hq.cell (p := ⟨b, i, none⟩) (Nat.lt_of_lt_of_le hlt hB0.size)).trans ((hB0.cell (p := ⟨b, i, none⟩) hlt).trans hci)
  have hR1 : Row w1 b (casts ns) := (HR.out.below hB0 hlt).below hq (Nat.lt_of_lt_of_le hlt hB0.size)
  have hf1 := hR1.frozen i
  have hn1 : w1.cell? ⟨w.heap.size, 1, none⟩ = some (.slice (some ⟨b, 0, none⟩) ns.length cap) := (hq.cell (p := ⟨w.heap.size, 1, none⟩) hbl).trans hb1
  have hg1 : w.grownBy w1 (some b) := only_of_below (hB0.trans (hq.mono hB0.size)) _
  have HR1 := Lib.hid hR1
  have HG1 := Lib.hid hg1
  clear hR1 hg1
  have hset : ∀ z : Int, Row (w1.setCell ⟨b, i, none⟩ (.int .i64 z)) b ((casts ns).set i z) := fun z => HR1.out.set (by rw [length_casts]; exact hi) z
  have HS := Lib.hid hset
  clear hset
  cases s with
  | false =>
    go_wp2
    go_end0
    refine ⟨rfl, ?_, only_setCell HG1.out (.inl rfl) _⟩
    rw [HN.out]
    have := HS.out ((setBit r j false : Nat) : Int)
    rw [casts_set] at this
    unfold putL
    rw [← HE.out]
    exact this
  | true =>
    go_wp2_with fail
    have hc2 : (w1.setCell ⟨b, i, none⟩ (.int .i64 ((r : Int) - p))).cell? ⟨b, i, none⟩ = some (.int .i64 ((r : Int) - p)) := World.cell?_setCell_same' _ _ _ (by rw [hc1]; rfl)
    have hn2 : (w1.setCell ⟨b, i, none⟩ (.int .i64 ((r : Int) - p))).cell? ⟨w.heap.size, 1, none⟩ = some (.slice (some ⟨b, 0, none⟩) ns.length cap) := (World.cell?_setCell_other _ _ _ _ (by simp)).trans hn1
    have hR2 := HS.out ((r : Int) - p)
    have hg2 := only_setCell HG1.out (p := ⟨b, i, none⟩) (.inl rfl) (.int .i64 ((r : Int) - p))
    obtain ⟨w2, e2⟩ : ∃ w2, w2 = w1.setCell ⟨b, i, none⟩ (.int .i64 ((r : Int) - p)) := ⟨_, rfl⟩
    rw [← e2] at hc2 hn2 hR2 hg2 ⊢
    have HR2 := Lib.hid hR2
    have HG2 := Lib.hid hg2
    clear e2 hR2 hg2 hc1 hf1 hn1
    have k1 := cell_regrown hn2
    have k2 := cell_regrown hc2
    have ew3 : IntKind.i64.wrap ((r : Int) - p + pw j) = (r : Int) - p + pw j := IntWalk.i64_in _ ⟨by omega, by omega⟩
    refine wp_region_below_tail 12 (by kernel_rfl) (by kernel_rfl) ?_
    simp only [List.take_succ_cons, List.take_zero, List.drop_succ_cons, List.drop_zero]
    repeat (first | go_big_quiet_step ((go_at_call 53; exact Calls.rgs (l1Power_c j (by omega) _))) | quiet_step ((go_at_call 53; exact Calls.rgs (l1Power_c j (by omega) _))))
    refine wpQuiet_nil ?_
    intro _ hw0
    obtain ⟨⟨dq, osq⟩, hw1⟩ := hw0
    subst hw1
    have hq3 := below_regrown w2 dq osq
    generalize Go.Sort.grow (redrawn w2 dq) osq = w3 at hq3 ⊢
    clear k1 k2 ew3
    have hlt2 := HR2.out.lt
    have hR3 : Row w3 b ((casts ns).set i ((r : Int) - p)) := HR2.out.below hq3 hlt2
    have hg3 : w.grownBy w3 (some b) := only_trans HG2.out (only_of_below hq3 _)
    have hc3 : w3.cell? ⟨b, i, none⟩ = some (.int .i64 ((r : Int) - p)) := (hq3.cell (p := ⟨b, i, none⟩) hlt2).trans hc2
    have hf3 := hR3.frozen i
    have hset := hR3.set (k := i) (by rw [List.length_set, length_casts]; exact hi) ((r : Int) - p + pw j)
    have HS3 := Lib.hid hset
    have HG3 := Lib.hid hg3
    clear hset hg3 hR3
    go_wp2
    go_end0
    refine ⟨rfl, ?_, only_setCell HG3.out (.inl rfl) _⟩
    have := HS3.out
    rw [List.set_set, HY.out, casts_set] at this
    rw [HY.out]
    unfold putL
    rw [← HE.out]
    exact this
end Go.Proofs.YtbpjceffkchmbaaDoor
