/- Contracts of the functions that read one cell, and that make an empty image. Conditions: those that each theorem names. -/
import Derived.Test.YtbpjceffkchmbaaDoorK2
import Derived.Test.YtbpjceffkchmbaaDoorMT
import Derived.Test.YtbpjceffkchmbaaDoorApp
import Derived.Laws.BitsAllLaws
import Derived.Laws.BitsLemmas
namespace Go.Proofs.YtbpjceffkchmbaaDoor
open Go.RowKit
theorem ofInt_i64 (a : Nat) (ha : a < 9223372036854775808) : (BitVec.ofInt 64 (a : Int)).toNat = a := by
  rw [BitVec.ofInt_natCast, BitVec.toNat_ofNat]; exact Nat.mod_eq_of_lt (by omega)
theorem i64_and_nat (a b : Nat) (ha : a < 9223372036854775808) (hb : b < 9223372036854775808) : bits .and .i64 (a : Int) (b : Int) = ((a &&& b : Nat) : Int) := by
  have hx : a &&& b < 2 ^ 63 := Nat.and_lt_two_pow _ (by omega)
  show IntKind.i64.wrap ((BitVec.ofInt 64 (a : Int) &&& BitVec.ofInt 64 (b : Int)).toNat : Int) = _
  rw [BitVec.toNat_and, ofInt_i64 a ha, ofInt_i64 b hb, IntKind.wrap_i64]
  omega
theorem i64_or_nat (a b : Nat) (ha : a < 9223372036854775808) (hb : b < 9223372036854775808) : bits .or .i64 (a : Int) (b : Int) = ((a ||| b : Nat) : Int) := by
  have hx : a ||| b < 2 ^ 63 := Nat.or_lt_two_pow (by omega) (by omega)
  show IntKind.i64.wrap ((BitVec.ofInt 64 (a : Int) ||| BitVec.ofInt 64 (b : Int)).toNat : Int) = _
  rw [BitVec.toNat_or, ofInt_i64 a ha, ofInt_i64 b hb, IntKind.wrap_i64]
  omega
theorem i64_xor_nat (a b : Nat) (ha : a < 9223372036854775808) (hb : b < 9223372036854775808) : bits .xor .i64 (a : Int) (b : Int) = ((a ^^^ b : Nat) : Int) := by
  have hx : a ^^^ b < 2 ^ 63 := Nat.xor_lt_two_pow (by omega) (by omega)
  show IntKind.i64.wrap ((BitVec.ofInt 64 (a : Int) ^^^ BitVec.ofInt 64 (b : Int)).toNat : Int) = _
  rw [BitVec.toNat_xor, ofInt_i64 a ha, ofInt_i64 b hb, IntKind.wrap_i64]
  omega
/-- 'row >> j & 1' is a bit. -/
theorem shr_and {r j : Nat} (hr : r < 4611686018427387904) : bits .and .i64 ((r : Int) / 2 ^ j) 1 = b2i (r.testBit j) := by
  have h1 : r / 2 ^ j ≤ r := Nat.div_le_self _ _
  have e : (r : Int) / 2 ^ j = ((r / 2 ^ j : Nat) : Int) := by rw [Int.natCast_ediv]; simp
  rw [e, Nat.testBit_eq_decide_div_mod_eq]
  clear e
  generalize r / 2 ^ j = q at h1
  have := i64_and_nat q 1 (by omega) (by omega)
  rw [show ((1 : Nat) : Int) = 1 from rfl] at this
  rw [this, Nat.and_one_is_mod]
  have : q % 2 = 0 ∨ q % 2 = 1 := by omega
  rcases this with h | h <;> simp [h, b2i]
theorem b2i_one (b : Bool) : (b2i b == 1) = b := by cases b <;> rfl

theorem madeCells_one (n : Nat) (z : Value) : madeCells #[z] n = Array.replicate n z := by
  unfold madeCells
  apply Array.ext
  · simp
  · intro i h1 h2
    have e : i % 1 = 0 := Nat.mod_one i
    simp [e]
theorem mk_ints (n : Nat) (hn : n ≤ 1099511627776) (W : World) : (Instr.makeSlice 23 (.int .i64 (n : Int)) (.int .i64 (n : Int))).run Tryd.prog W = .ok (.slice (some ⟨W.heap.size, 0, none⟩) n n) (W.alloc (.cells (Array.replicate n (.int .i64 0)) 3)) := by
  obtain ⟨i0, hi, hz0, hz1, hz2⟩ := info_parts int_info
  have hr := run_make (P := Tryd.prog) W 23 3 i0 (.int .i64 0) Tryd.underlying23 hi hz0 .i64 .i64 n n (by omega) (by omega) (by rw [hz2]; omega) (by omega)
  simp only [Int.toNat_natCast, hz1, Nat.mul_one] at hr
  rw [hr, ← madeCells_one]
  rfl
theorem Row.made (w : World) (n : Nat) : Row (w.alloc (.cells (Array.replicate n (.int .i64 0)) 3)) w.heap.size (List.replicate n 0) := by
  refine ⟨[], ?_⟩
  rw [heap_alloc_new]
  simp
set_option maxHeartbeats 400000 in
theorem has_c (W : Int) (v : Value) (ns : List Nat) (i j : Nat) (hi : i < ns.length) (hj : j ≤ 62) (hr : ns.getD i 0 < 4611686018427387904) (w : World) (hv : Ints w.heap.size w v (casts ns)) :
    Calls Tryd.prog 55 #[.agg #[.int .i64 W, v], .int .i64 i, .int .i64 j] w fun e w' => e = .returned (.bool (cell ns i j)) ∧ Below w.heap.size w w' := by
  obtain ⟨b, off, cap, rfl, hlt, hc⟩ := hv.row (by rw [length_casts]; omega)
  rw [length_casts] at hc
  have hci := hc i hi
  rw [casts_getD] at hci
  rw [length_casts]
  clear hc hv
  obtain ⟨r, er⟩ : ∃ r, r = ns.getD i 0 := ⟨_, rfl⟩
  rw [← er] at hci hr
  have HR := Lib.hid er
  clear er
  go_enter Tryd.func55, Tryd.ntmps55
  go_wp2
  go_returns
  exact ⟨rb (by rw [shr_and hr, b2i_one]; unfold cell; rw [← HR.out]), by go_grown⟩
set_option maxHeartbeats 400000 in
theorem l11Get_c (W : Int) (v : Value) (ns : List Nat) (i j : Nat) (hi : i < ns.length) (hj : j ≤ 62) (hr : ns.getD i 0 < 4611686018427387904) (w : World) (hv : Ints w.heap.size w v (casts ns)) :
    Calls Tryd.prog 32 #[.agg #[.int .i64 W, v], .int .i64 i, .int .i64 j] w fun e w' => e = .returned (.int .i64 (b2i (cell ns i j))) ∧ Below w.heap.size w w' := by
  obtain ⟨b, off, cap, rfl, hlt, hc⟩ := hv.row (by rw [length_casts]; omega)
  rw [length_casts] at hc
  have hci := hc i hi
  rw [casts_getD] at hci
  rw [length_casts]
  clear hc hv
  obtain ⟨r, er⟩ : ∃ r, r = ns.getD i 0 := ⟨_, rfl⟩
  rw [← er] at hci hr
  have HR := Lib.hid er
  clear er
  go_enter Tryd.func32, Tryd.ntmps32
  go_wp2_with (go_at_call 59; refine (l1Bit_c r j hr hj _).mono ?_; rintro e w' ⟨rfl, rfl⟩)
  go_returns
  exact ⟨ri (by unfold cell; rw [← HR.out]), by go_grown⟩
/-- Whether there is such a cell. -/
def inB (W : Int) (rows : List Int) (i j : Int) : Bool := decide (0 ≤ i) && decide (i < rows.length) && decide (0 ≤ j) && decide (j < W)
set_option maxHeartbeats 400000 in
theorem l1Blank_c (h : Nat) (n : Int) (hh : h ≤ 6) (w : World) :
    Calls Tryd.prog 70 #[.int .i64 h, .int .i64 n] w fun e w' => e = .returned (.agg #[.int .i64 n, .slice (some ⟨w.heap.size + 1, 0, none⟩) h h]) ∧ Row w' (w.heap.size + 1) (List.replicate h 0) ∧ Below w.heap.size w w' := by
  have hmk := mk_ints h (by omega)
  go_enter Tryd.func70, Tryd.ntmps70
  go_wp2
  go_returns
  have hr := Row.made (w.alloc (.cells #[.int .i64 n, .slice (some ⟨w.heap.size + 1, 0, none⟩) h h] 25)) h
  rw [World.size_alloc] at hr
  exact ⟨rfl, hr, by go_grown⟩
set_option maxHeartbeats 400000 in
theorem emptyImage_c (h : Nat) (n : Int) (hh : h ≤ 6) (w : World) :
    Calls Tryd.prog 67 #[.int .i64 h, .int .i64 n] w fun e w' => e = .returned (.agg #[.int .i64 n, .slice (some ⟨w.heap.size + 1, 0, none⟩) h h]) ∧ Row w' (w.heap.size + 1) (List.replicate h 0) ∧ Below w.heap.size w w' := by
  have hmk := mk_ints h (by omega)
  go_enter Tryd.func67, Tryd.ntmps67
  go_wp2
  go_returns
  have hr := Row.made (w.alloc (.cells #[.int .i64 n, .slice (some ⟨w.heap.size + 1, 0, none⟩) h h] 25)) h
  rw [World.size_alloc] at hr
  exact ⟨rfl, hr, by go_grown⟩
end Go.Proofs.YtbpjceffkchmbaaDoor
