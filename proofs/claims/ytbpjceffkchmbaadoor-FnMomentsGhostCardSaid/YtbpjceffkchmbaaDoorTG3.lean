/- Contracts of slices.Contains and l23Twice on a list of integers. Conditions: the slice reads as a list; its length. -/
import Derived.Test.YtbpjceffkchmbaaDoorFA
import Derived.Test.YtbpjceffkchmbaaDoorK5
namespace Go.Proofs.YtbpjceffkchmbaaDoor
open Go.RowKit
/-- Whether a number of the list behind k places is z. -/
def mm (xs : List Int) (k : Nat) (z : Int) : Bool := (xs.take k).contains z
theorem mm_zero (xs : List Int) (z : Int) : mm xs 0 z = false := rfl
theorem mm_succ {xs : List Int} {k : Nat} (hk : k < xs.length) (z : Int) : mm xs (k + 1) z = (mm xs k z || decide (z = xs.getD k 0)) := by
  unfold mm
  rw [List.take_add_one, List.getElem?_eq_getElem hk, List.getD_eq_getElem?_getD, List.getElem?_eq_getElem hk]
  simp only [List.contains_eq_mem, Option.toList_some, List.mem_append, List.mem_singleton, Option.getD_some]
  by_cases h1 : z ∈ List.take k xs <;> by_cases h2 : z = xs[k] <;> simp [h1, h2]
theorem mm_all (xs : List Int) (z : Int) : mm xs xs.length z = xs.contains z := by unfold mm; rw [List.take_length]
theorem mm_more {xs : List Int} {z : Int} {k : Nat} (h : mm xs k z = true) : xs.contains z = true := by
  unfold mm at h
  rw [List.contains_eq_mem, decide_eq_true_eq] at h ⊢
  exact List.mem_of_mem_take h
theorem mm_up {xs : List Int} {z : Int} {k : Nat} (h : mm xs k z = true) : mm xs xs.length z = true := by rw [mm_all]; exact mm_more h
theorem mm_take (xs : List Int) (k : Nat) (z : Int) : mm (xs.take k) (xs.take k).length z = mm xs k z := by rw [mm_all]; rfl
/-- What Index gives. -/
def IdxOut (xs : List Int) (z : Int) (e : Ending) : Prop := ∃ r : Int, e = .returned (.int .i64 r) ∧ (mm xs xs.length z = true → 0 ≤ r) ∧ (mm xs xs.length z = false → r = -1)
set_option maxHeartbeats 1000000 in
theorem Index_c (v : Value) (xs : List Int) (z : Int) (h20 : xs.length ≤ 2097152) (w : World) (hv : Ints w.heap.size w v xs) :
    Calls Tryd.prog 80 #[v, .int .i64 z] w fun e w' => IdxOut xs z e ∧ w = w' := by
  obtain ⟨A, cap, rfl⟩ := hv.len
  go_enter Tryd.func80, Tryd.ntmps80
  go_wp2
  go_loop [8] (fun i => ∃ k : Nat, k ≤ xs.length ∧ i = .int .i64 k ∧ mm xs k z = false) (fun i => xs.length - (intOf i).toNat)
  case atStart => exact ⟨0, by omega, rfl, mm_zero _ _⟩
  case round =>
    obtain ⟨k, hk, rfl, hall⟩ := hrel
    by_cases hlt : k < xs.length
    · obtain ⟨b, off, cap', e, hbl, hc⟩ := hv.row (by omega)
      injection e with e1 _ e3
      subst e1 e3
      have hs := mm_succ hlt z
      rw [hall, Bool.false_or] at hs
      have hck := hc k hlt
      have hki : (k : Int) < (xs.length : Int) := by omega
      obtain ⟨r, er⟩ : ∃ r, r = xs.getD k 0 := ⟨_, rfl⟩
      rw [← er] at hs hck
      clear hc hv hall er
      by_cases hr : z = r
      · subst hr
        rw [decide_eq_true rfl] at hs
        have HS := Lib.hid (mm_up hs)
        clear hs
        go_wp2
        go_returns
        exact ⟨⟨_, rfl, fun _ => by omega, fun h => (by rw [HS.out] at h; cases h)⟩, rfl⟩
      · rw [decide_eq_false hr] at hs
        have HS := Lib.hid hs
        have hrb : (z == r) = false := beq_eq_false_iff_ne.2 hr
        clear hs
        go_wp2
        go_round
        case rel => exact ⟨k + 1, by omega, by go_num, HS.out⟩
        case measure => simp [intOf]; omega
    · obtain rfl : k = xs.length := by omega
      have HS := Lib.hid hall
      clear hall
      go_wp2
      go_returns
      exact ⟨⟨_, rfl, fun h => (by rw [HS.out] at h; cases h), fun _ => rfl⟩, rfl⟩
theorem Contains_c (v : Value) (xs : List Int) (z : Int) (h20 : xs.length ≤ 2097152) (w : World) (hv : Ints w.heap.size w v xs) :
    Calls Tryd.prog 65 #[v, .int .i64 z] w fun e w' => e = .returned (.bool (mm xs xs.length z)) ∧ w = w' := by
  have HI := Index_c v xs z h20 w hv
  clear hv
  cases hx : mm xs xs.length z with
  | true =>
    go_enter Tryd.func65, Tryd.ntmps65
    go_wp2_with fail
    refine HI.mono ?_
    rintro e w' ⟨⟨r, rfl, h1, _⟩, rfl⟩
    have hr := h1 hx
    have hr2 : ¬ r < 0 := by omega
    go_wp2
    go_returns
    first | exact ⟨trivial, rfl⟩ | exact ⟨rfl, rfl⟩ | exact ⟨rb (decide_eq_true hr), rfl⟩
  | false =>
    go_enter Tryd.func65, Tryd.ntmps65
    go_wp2_with fail
    refine HI.mono ?_
    rintro e w' ⟨⟨r, rfl, _, h1⟩, rfl⟩
    have hr := h1 hx
    subst hr
    go_wp2
    go_returns
    first | exact ⟨trivial, rfl⟩ | exact ⟨rfl, rfl⟩
/-- Whether the first k numbers are all different. -/
def dif (xs : List Int) (k : Nat) : Bool := (List.range k).all fun q => !mm xs q (xs.getD q 0)
theorem dif_zero (xs : List Int) : dif xs 0 = true := rfl
theorem dif_succ (xs : List Int) (k : Nat) : dif xs (k + 1) = (dif xs k && !mm xs k (xs.getD k 0)) := by
  unfold dif
  rw [List.range_succ, List.all_append]
  simp
theorem dif_no {xs : List Int} {k : Nat} (hk : k < xs.length) (h : mm xs k (xs.getD k 0) = true) : dif xs xs.length = false := by
  cases hc : dif xs xs.length with
  | false => rfl
  | true =>
    unfold dif at hc
    rw [List.all_eq_true] at hc
    have := hc k (List.mem_range.2 hk)
    rw [h] at this
    cases this
set_option maxRecDepth 100000 in
set_option maxHeartbeats 2000000 in
theorem l23Twice_c (v : Value) (xs : List Int) (h20 : xs.length ≤ 2097152) (w : World) (hv : Ints w.heap.size w v xs) :
    Calls Tryd.prog 63 #[v] w fun e w' => e = .returned (.bool (!dif xs xs.length)) ∧ Below w.heap.size w w' := by
  obtain ⟨A, cap, rfl⟩ := hv.len
  have HV := Lib.hid hv
  clear hv
  go_enter Tryd.func63, Tryd.ntmps63
  go_wp2_with fail
  go_loopw [3] (fun q wr => ∃ k : Nat, k ≤ xs.length ∧ q = .int .i64 (k : Int) ∧ dif xs k = true ∧ Below w.heap.size w wr) (fun q _ => xs.length - (intOf q).toNat)
  case atStart => exact ⟨0, Nat.zero_le _, rfl, dif_zero _, Below.refl _ _⟩
  case round =>
    obtain ⟨k, hk, rfl, hd, hb⟩ := hrel
    by_cases hkl : k < xs.length
    · have hki : (k : Int) < (xs.length : Int) := by omega
      have HK := Lib.hid (And.intro hd hb)
      clear hd hb
      go_wp2_with fail
      go_loopw [4] (fun q wr => ∃ l : Nat, l ≤ k ∧ q = .int .i64 (l : Int) ∧ mm xs l (xs.getD k 0) = false ∧ Below w.heap.size w wr) (fun q _ => k - (intOf q).toNat)
      case atStart => exact ⟨0, Nat.zero_le _, rfl, mm_zero _ _, HK.out.2⟩
      case round =>
        obtain ⟨l, hl, rfl, hm, hb⟩ := hrel
        by_cases hlk : l < k
        · have hli : (l : Int) < (k : Int) := by omega
          have hll : (l : Int) < (xs.length : Int) := by omega
          obtain ⟨b, off, cap', e, hbl, hc⟩ := (HV.out.below hb).row (by omega)
          injection e with e1 _ e3
          subst e1 e3
          have h1 := hc k hkl
          have h2 := hc l (by omega)
          have hs := mm_succ (xs := xs) (k := l) (by omega) (xs.getD k 0)
          rw [hm, Bool.false_or] at hs
          have hno := dif_no (xs := xs) hkl
          obtain ⟨y, ey⟩ : ∃ y, y = xs.getD k 0 := ⟨_, rfl⟩
          obtain ⟨z, ez⟩ : ∃ z, z = xs.getD l 0 := ⟨_, rfl⟩
          rw [← ey] at h1 hs hno
          rw [← ez] at h2 hs
          have k1 := cell_regrown h1
          have k2 := cell_regrown h2
          clear hm hc
          by_cases hr : y = z
          · subst hr
            rw [decide_eq_true rfl] at hs
            have HS := Lib.hid (And.intro (hno (by
              unfold mm at hs ⊢
              rw [List.contains_eq_mem, decide_eq_true_eq] at hs ⊢
              exact (List.take_subset_take_left xs (by omega)) hs)) hb)
            clear hs hno hb ey ez
            go_wp2_with fail
            refine wp_region_quiet_below (by kernel_rfl) (by kernel_rfl) ?_
            repeat (first | go_big_quiet_step (fail) | quiet_step (fail))
            refine wpQuiet_nil ?_
            intro _ hw0
            obtain ⟨⟨dq, osq⟩, hw1⟩ := hw0
            subst hw1
            have hq := below_regrown wr dq osq
            generalize Go.Sort.grow (redrawn wr dq) osq = w1 at hq ⊢
            go_wp2
            go_returns
            exact ⟨rb (by rw [HS.out.1]; rfl), HS.out.2.trans (hq.mono HS.out.2.size)⟩
          · rw [decide_eq_false hr] at hs
            have HS := Lib.hid (And.intro hs (And.intro hb ey))
            have hrb : (y == z) = false := beq_eq_false_iff_ne.2 hr
            clear hs hno hb ez ey
            go_wp2_with fail
            refine wp_region_quiet_below (by kernel_rfl) (by kernel_rfl) ?_
            repeat (first | go_big_quiet_step (fail) | quiet_step (fail))
            refine wpQuiet_nil ?_
            intro _ hw0
            obtain ⟨⟨dq, osq⟩, hw1⟩ := hw0
            subst hw1
            have hq := below_regrown wr dq osq
            generalize Go.Sort.grow (redrawn wr dq) osq = w1 at hq ⊢
            go_wp2
            go_roundw
            case rel => exact ⟨l + 1, by omega, by go_num, by rw [← HS.out.2.2]; exact HS.out.1, HS.out.2.1.trans (hq.mono HS.out.2.1.size)⟩
            case measure => simp [intOf]; omega
        · have hli : ¬ ((l : Int) < (k : Int)) := by omega
          have hlk2 : l = k := by omega
          rw [hlk2] at hm
          have HS := Lib.hid (And.intro (show dif xs (k + 1) = true by rw [dif_succ, HK.out.1, hm]; rfl) hb)
          clear hm hb hlk2
          go_wp2_with fail
          exact ⟨⟨k + 1, by omega, by go_num, HS.out⟩, by simp [intOf]; omega⟩
    · have hki : ¬ ((k : Int) < (xs.length : Int)) := by omega
      have hkh : k = xs.length := by omega
      rw [hkh] at hd
      have HS := Lib.hid (And.intro hd hb)
      clear hd hb hkh
      go_wp2
      go_returns
      exact ⟨rb (by rw [HS.out.1]; rfl), HS.out.2⟩
end Go.Proofs.YtbpjceffkchmbaaDoor
