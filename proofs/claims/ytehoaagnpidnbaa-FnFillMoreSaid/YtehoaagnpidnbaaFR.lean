/- Contract of slices.Repeat of one number -1. Conditions: the number of repetitions is between 1 and 100; the cell can be read. -/
import Derived.Test.YtehoaagnpidnbaaMPS
import Derived.Laws.CopyOwn
import Derived.Laws.CopyRow
namespace Go.Proofs.Ytehoaagnpidnbaa
open Go.RowKit
theorem maskU (n : Nat) (h : n ≤ 100) : bits .and .u64 (n : Int) 4294967295 = (n : Int) := by
  have hh := bits_and_u64_nat n 4294967295 (by omega) (by omega)
  have e : n &&& 4294967295 = n := by rw [show (4294967295 : Nat) = 2 ^ 32 - 1 by rfl, Nat.and_two_pow_sub_one_eq_mod]; exact Nat.mod_eq_of_lt (by omega)
  rw [e] at hh
  exact hh
set_option maxHeartbeats 1000000 in
theorem Mul64_one (n : Nat) (h : n ≤ 100) (w : World) : Calls Try.prog 75 #[.int .u64 1, .int .u64 (n : Int)] w fun e w' => e = .returned (.tuple #[.int .u64 0, .int .u64 (n : Int)]) ∧ w = w' := by
  have e1 := maskU n h
  have e2 : bits .and .u64 1 4294967295 = 1 := maskU 1 (by omega)
  have e3 : (n : Int) / 4294967296 = 0 := by omega
  have e4 : IntKind.u64.wrap (n : Int) = (n : Int) := by rw [IntKind.wrap_u64]; omega
  have e5 : bits .and .u64 0 4294967295 = 0 := maskU 0 (by omega)
  go_enter Try.func75, Try.ntmps75
  go_wp2
  refine bodyPost_ret (v := .tuple #[.int .u64 0, .int .u64 (n : Int)]) (by simp [results, Try.results75, go_sem]) rfl ?_
  exact ⟨rfl, rfl⟩
set_option maxHeartbeats 1000000 in
theorem Mul_one (n : Nat) (h : n ≤ 100) (w : World) : Calls Try.prog 68 #[.int .u64 1, .int .u64 (n : Int)] w fun e w' => e = .returned (.tuple #[.int .u64 0, .int .u64 (n : Int)]) ∧ w = w' := by
  go_enter Try.func68, Try.ntmps68
  go_wp2_with (go_at_call 75; refine (Mul64_one n h _).mono ?_; rintro e w' ⟨rfl, rfl⟩)
  refine bodyPost_ret (v := .tuple #[.int .u64 0, .int .u64 (n : Int)]) (by simp [results, Try.results68, go_sem]) rfl ?_
  exact ⟨rfl, rfl⟩
/-- The cells when k of n are written. -/
def repC (n k : Nat) : List Value := List.replicate k (.int .i64 (-1)) ++ List.replicate (n - k) (.int .i64 0)
theorem repC_len {n k : Nat} (h : k ≤ n) : (repC n k).length = n := by simp [repC]; omega
theorem repC_step {n k m : Nat} (h : k + m ≤ n) : splice (repC n k) k (List.replicate m (.int .i64 (-1))) = repC n (k + m) := by
  unfold splice repC
  rw [List.take_left' (by simp), List.length_replicate, List.drop_append, List.drop_of_length_le (by simp), List.nil_append, List.length_replicate, List.drop_replicate, ← List.append_assoc, List.replicate_append_replicate]
  congr 2
  omega
theorem repC_get {n k j : Nat} (h : j < k) : (repC n k)[j]? = some (.int .i64 (-1)) := by
  unfold repC
  rw [List.getElem?_append_left (by simpa using h)]
  simp [h]
theorem repC_all (n : Nat) : repC n n = (List.replicate n (-1 : Int)).map (Value.int .i64) := by simp [repC]
theorem copy_rep (W : World) {n k m g dLen dCap sLen sCap : Nat} {src : Addr} (hg : W.heap[g]? = some (.cells (repC n k).toArray 3 (0, 0))) (hm : m = Nat.min sLen dLen) (hs : ∀ j, j < m → W.cell? (src.add j) = some (.int .i64 (-1))) (hfit : k + m ≤ n) {B : Nat} (hB : B ≤ g) :
    ∃ W', (∀ ty, (Builtin.copy_ #[22, 22] ty #[.slice (some ⟨g, k, none⟩) dLen dCap, .slice (some src) sLen sCap]).run Try.prog W = .ok (.int .i64 (m : Int)) W') ∧ W'.heap[g]? = some (.cells (repC n (k + m)).toArray 3 (0, 0)) ∧ Below B W W' := by
  have hsz : (Try.prog.info? 3).map (·.size) = some 1 := by kernel_rfl
  have hrun := fun ty => run_copy_row Try.prog W 22 22 ty 3 g k dLen dCap src sLen sCap (repC n k).toArray 3 (List.replicate m (.int .i64 (-1))) Try.underlying22 hsz hg (by rw [List.length_replicate]; exact hm)
    (fun j v hj => by
      rw [List.getElem?_replicate] at hj
      split at hj
      · cases hj; exact hs j (by assumption)
      · cases hj)
    (by rw [List.length_replicate, List.size_toArray, repC_len (by omega)]; exact hfit) (fun v hv => by rw [(List.mem_replicate.1 hv).2]; rfl)
  refine ⟨_, fun ty => by rw [hrun ty, List.length_replicate]; rfl, ?_, below_setRow (Below.refl B W) hB _⟩
  rw [setRow_heap W g _ _ 3 _ hg, ← repC_step hfit]
  unfold splice
  simp only [List.append_assoc, List.length_replicate]
set_option maxRecDepth 100000 in
set_option maxHeartbeats 4000000 in
theorem Repeat_c (n : Nat) (h1 : 1 ≤ n) (hn : n ≤ 100) (b c : Nat) (w : World) (hx : w.cell? ⟨b, 0, none⟩ = some (.int .i64 (-1))) :
    Calls Try.prog 57 #[.slice (some ⟨b, 0, none⟩) 1 c, .int .i64 (n : Int)] w fun e w' => ∃ g, e = .returned (.slice (some ⟨g, 0, none⟩) n n) ∧ w.heap.size ≤ g ∧ Row w' g (List.replicate n (-1)) ∧ Below w.heap.size w w' := by
  have hm := mk_ints n (by omega) w
  have hng : ¬ (n : Int) < 0 := by omega
  have e4 : IntKind.u64.wrap (n : Int) = (n : Int) := by rw [IntKind.wrap_u64]; omega
  have e5 : IntKind.i64.wrap (n : Int) = (n : Int) := IntWalk.i64_in _ ⟨by omega, by omega⟩
  have e6 : IntKind.u64.wrap 1 = 1 := by rw [IntKind.wrap_u64]; omega
  have hg0 : (w.alloc (.cells (Array.replicate n (.int .i64 0)) 3)).heap[w.heap.size]? = some (.cells (repC n 0).toArray 3 (0, 0)) := by rw [heap_alloc_new]; simp [repC]
  have hb0 : Below w.heap.size w (w.alloc (.cells (Array.replicate n (.int .i64 0)) 3)) := by go_grown
  have hx0 := cellB hb0 hx
  obtain ⟨w3, hrun, hg3, hb3⟩ := copy_rep (w.alloc (.cells (Array.replicate n (.int .i64 0)) 3)) (n := n) (k := 0) (m := 1) (g := w.heap.size) (dLen := n) (dCap := n) (sLen := 1) (sCap := c) (src := ⟨b, 0, none⟩) hg0 (Nat.min_eq_left h1).symm (fun j hj => by
    obtain rfl : j = 0 := by omega
    rw [Go.WideShapes.add_plain]
    exact hx0) (by omega) (B := w.heap.size) (Nat.le_refl _)
  rw [Nat.zero_add] at hg3
  have HG := Lib.hid (And.intro hg3 (hb0.trans hb3))
  clear hg0 hx0 hg3 hb3
  go_enter Try.func57, Try.ntmps57
  go_wp2_with (go_at_call 68; refine (Mul_one n hn _).mono ?_; rintro e w' ⟨rfl, rfl⟩)
  clear hrun hm
  go_loopw [8] (fun q wr => ∃ k : Nat, 1 ≤ k ∧ k ≤ n ∧ q = .int .i64 (k : Int) ∧ wr.heap[w.heap.size]? = some (.cells (repC n k).toArray 3 (0, 0)) ∧ Below w.heap.size w wr) (fun q _ => n - (intOf q).toNat)
  case atStart => exact ⟨1, Nat.le_refl _, h1, rfl, HG.out.1, HG.out.2⟩
  case round =>
    clear HG
    obtain ⟨k, hk1, hk, rfl, hg, hb⟩ := hrel
    by_cases hlt : k < n
    · have hki : (k : Int) < (n : Int) := by omega
      obtain ⟨m, em⟩ : ∃ m, m = Nat.min k (n - k) := ⟨_, rfl⟩
      have hmk : 1 ≤ m ∧ k + m ≤ n ∧ m ≤ k := by
        have e : Nat.min k (n - k) = min k (n - k) := rfl
        rw [em, e]
        omega
      obtain ⟨w3, hrun, hg3, hb3⟩ := copy_rep wr.drew (n := n) (k := k) (m := m) (g := w.heap.size) (dLen := n - k) (dCap := n - k) (sLen := k) (sCap := n) (src := ⟨w.heap.size, 0, none⟩) hg em (fun j hj => by
        rw [Go.WideShapes.add_plain, Nat.zero_add]
        show wr.cell? _ = _
        have := repC_get (n := n) (k := k) (j := j) (by omega)
        simp [World.cell?, hg, this]) hmk.2.1 (B := w.heap.size) (Nat.le_refl _)
      have ew : IntKind.i64.wrap ((k : Int) + (m : Int)) = (k : Int) + (m : Int) := IntWalk.i64_in _ ⟨by omega, by omega⟩
      have HF := Lib.hid (And.intro hg3 (hb.trans (show Below w.heap.size wr w3 from ⟨hb3.os, hb3.tape, hb3.output, hb3.size, hb3.block⟩)))
      clear em hg hb hg3 hb3
      go_wp2_with fail
      go_region_held3 (fun _ : World => True) (first | exact trivial) (fail)
      clear hrun ew
      go_wp2
      go_roundw
      case rel => exact ⟨k + m, by omega, hmk.2.1, by go_num, HF.out.1, HF.out.2⟩
      case measure => simp [intOf]; omega
    · obtain rfl : k = n := by omega
      have hki : ¬ ((k : Int) < (k : Int)) := by omega
      rw [repC_all] at hg
      have HE := Lib.hid (show Row wr w.heap.size (List.replicate k (-1)) ∧ Below w.heap.size w wr from ⟨⟨[], by rw [List.append_nil]; exact hg⟩, hb⟩)
      clear hg hb
      go_wp2
      go_returns
      exact ⟨w.heap.size, rfl, Nat.le_refl _, HE.out.1, HE.out.2⟩
end Go.Proofs.Ytehoaagnpidnbaa
