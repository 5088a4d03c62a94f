/- Contracts of total and l3Sum. Conditions: one to six numbers from 0 to 6. -/
import Derived.Test.YtldmilpohappiaaFB
namespace Go.Proofs.Ytldmilpohappiaa
open Go.RowKit
/-- One to six numbers from 0 to 6. -/
structure Small (xs : List Int) : Prop where
  h1 : 1 ≤ xs.length
  h6 : xs.length ≤ 6
  bd : ∀ x ∈ xs, 0 ≤ x ∧ x ≤ 6
theorem Small.at {xs : List Int} (h : Small xs) {k : Nat} (hk : k < xs.length) : 0 ≤ xs.getD k 0 ∧ xs.getD k 0 ≤ 6 := h.bd _ (by rw [List.getD_eq_getElem?_getD, List.getElem?_eq_getElem hk]; exact List.getElem_mem hk)
theorem Sums.sr {rs cs : List Int} (h : Sums rs cs) : Small rs := ⟨h.h1, h.h6, fun x hx => by have := h.rm x hx; have := h.w6; omega⟩
theorem Sums.sc {rs cs : List Int} (h : Sums rs cs) : Small cs := h.turn.sr
theorem take_sum {xs : List Int} {k : Nat} (hk : k < xs.length) : (xs.take (k + 1)).sum = (xs.take k).sum + xs.getD k 0 := by
  rw [take_snoc_i hk, List.sum_append]
  simp
theorem take_bd {xs : List Int} (hb : ∀ x ∈ xs, 0 ≤ x ∧ x ≤ 6) : ∀ k, 0 ≤ (xs.take k).sum ∧ (xs.take k).sum ≤ 6 * k := by
  intro k
  induction k generalizing xs with
  | zero => simp
  | succ k ih =>
    cases xs with
    | nil => simp; omega
    | cons x l =>
      have h1 := hb x (List.mem_cons_self ..)
      have h2 := ih (xs := l) fun z hz => hb z (List.mem_cons_of_mem _ hz)
      rw [List.take_succ_cons, List.sum_cons]
      omega
theorem Row.intsI2 {w : World} {g h c : Nat} {xs : List Int} (hr : Row w g xs) (hl : xs.length = h) : Ints w.heap.size w (.slice (some ⟨g, 0, none⟩) h c) xs := by
  have := hr.ints hr.lt c
  rw [hl] at this
  exact this
set_option maxHeartbeats 1000000 in
theorem total_c (v : Value) (xs : List Int) (h6 : xs.length ≤ 6) (hb : ∀ x ∈ xs, 0 ≤ x ∧ x ≤ 6) (w : World) (hv : Ints w.heap.size w v xs) :
    Calls Try.prog 33 #[v] w fun e w' => e = .returned (.int .i64 xs.sum) ∧ w = w' := by
  obtain ⟨A, cap, rfl⟩ := hv.len
  have HB := Lib.hid hb
  clear hb
  go_enter Try.func33, Try.ntmps33
  go_wp2
  go_loop [3, 8] (fun s i => ∃ k : Nat, k ≤ xs.length ∧ i = .int .i64 k ∧ s = .int .i64 (xs.take k).sum) (fun _ i => xs.length - (intOf i).toNat)
  case atStart => exact ⟨0, by omega, rfl, rfl⟩
  case round =>
    obtain ⟨k, hk, rfl, rfl⟩ := hrel
    have hbd := take_bd HB.out k
    by_cases hlt : k < xs.length
    · obtain ⟨b, off, cap', e, hbl, hc⟩ := hv.row (by omega)
      injection e with e1 _ e3
      subst e1 e3
      have hst := take_sum hlt
      have hat : 0 ≤ xs.getD k 0 ∧ xs.getD k 0 ≤ 6 := HB.out _ (by rw [List.getD_eq_getElem?_getD, List.getElem?_eq_getElem hlt]; exact List.getElem_mem hlt)
      have hcr := hc k hlt
      obtain ⟨r, er⟩ : ∃ r, r = xs.getD k 0 := ⟨_, rfl⟩
      rw [← er] at hst hat hcr
      obtain ⟨S, eS⟩ : ∃ S, S = (xs.take k).sum := ⟨_, rfl⟩
      rw [← eS] at hst hbd ⊢
      have HST := Lib.hid hst
      clear hst er eS hc hv
      go_wp2
      go_round
      case rel => exact ⟨k + 1, by omega, by go_num, by rw [HST.out]⟩
      case measure => simp [intOf]; omega
    · obtain rfl : k = xs.length := by omega
      go_wp2
      go_returns
      exact ⟨ri (by simp), rfl⟩
set_option maxHeartbeats 1000000 in
theorem l3Sum_c (v : Value) (xs : List Int) (t : Nat) (h6 : xs.length ≤ 6) (ht : t ≤ 1000) (hb : ∀ x ∈ xs, 0 ≤ x ∧ x ≤ 6) (w : World) (hv : Ints w.heap.size w v xs) :
    Calls Try.prog 36 #[v, .int .i64 (t : Int)] w fun e w' => e = .returned (.int .i64 (xs.take t).sum) ∧ w = w' := by
  obtain ⟨A, cap, rfl⟩ := hv.len
  have HB := Lib.hid hb
  clear hb
  go_enter Try.func36, Try.ntmps36
  go_wp2
  go_loop [5, 6] (fun s i => ∃ k : Nat, k ≤ xs.length ∧ k ≤ t ∧ i = .int .i64 k ∧ s = .int .i64 (xs.take k).sum) (fun _ i => xs.length - (intOf i).toNat)
  case atStart => exact ⟨0, by omega, by omega, rfl, rfl⟩
  case round =>
    obtain ⟨k, hk, hkt, rfl, rfl⟩ := hrel
    have hbd := take_bd HB.out k
    by_cases hlt : k < xs.length
    · by_cases hlt2 : k < t
      · obtain ⟨b, off, cap', e, hbl, hc⟩ := hv.row (by omega)
        injection e with e1 _ e3
        subst e1 e3
        have hst := take_sum hlt
        have hat : 0 ≤ xs.getD k 0 ∧ xs.getD k 0 ≤ 6 := HB.out _ (by rw [List.getD_eq_getElem?_getD, List.getElem?_eq_getElem hlt]; exact List.getElem_mem hlt)
        have hcr := hc k hlt
        obtain ⟨r, er⟩ : ∃ r, r = xs.getD k 0 := ⟨_, rfl⟩
        rw [← er] at hst hat hcr
        obtain ⟨S, eS⟩ : ∃ S, S = (xs.take k).sum := ⟨_, rfl⟩
        rw [← eS] at hst hbd ⊢
        have HST := Lib.hid hst
        clear hst er eS hc hv
        go_wp2
        go_round
        case rel => exact ⟨k + 1, by omega, by omega, by go_num, by rw [HST.out]⟩
        case measure => simp [intOf]; omega
      · obtain rfl : k = t := by omega
        go_wp2
        go_returns
        exact ⟨rfl, rfl⟩
    · obtain rfl : k = xs.length := by omega
      go_wp2
      go_returns
      exact ⟨ri (by rw [List.take_of_length_le hkt]), rfl⟩
end Go.Proofs.Ytldmilpohappiaa
