/- Contracts of the functions that check sums: sumsInRange, SumsValid, l2Each, noneAbove, total, l3Sum. Conditions: the slices read as lists of integers, their lengths at most 2 to the power of 21. -/
import Derived.Test.YtbpjceffkchmbaaDoorK3
import Derived.Test.YtbpjceffkchmbaaDoorMA
namespace Go.Proofs.YtbpjceffkchmbaaDoor
open Go.RowKit
/-- All numbers are in a range. -/
def inR (a b : Int) (xs : List Int) : Bool := xs.all fun x => decide (a ≤ x) && decide (x ≤ b)
def len6 (xs : List Int) : Bool := decide (1 ≤ xs.length) && decide (xs.length ≤ 6)
theorem inR_true {a b : Int} {xs : List Int} (h : ∀ j, j < xs.length → a ≤ xs.getD j 0 ∧ xs.getD j 0 ≤ b) : inR a b xs = true := by
  simp only [inR, List.all_eq_true, Bool.and_eq_true, decide_eq_true_eq]
  intro x hx
  obtain ⟨i, hi, rfl⟩ := List.getElem_of_mem hx
  have := h i hi
  rwa [List.getD_eq_getElem?_getD, List.getElem?_eq_getElem hi] at this
theorem inR_at {a b : Int} {xs : List Int} (h : inR a b xs = true) {j : Nat} (hj : j < xs.length) : a ≤ xs.getD j 0 ∧ xs.getD j 0 ≤ b := by
  simp only [inR, List.all_eq_true, Bool.and_eq_true, decide_eq_true_eq] at h
  have := h (xs.getD j 0) (by rw [List.getD_eq_getElem?_getD, List.getElem?_eq_getElem hj]; exact List.getElem_mem hj)
  exact this
theorem inR_mem {a b : Int} {xs : List Int} (h : inR a b xs = true) {x : Int} (hx : x ∈ xs) : a ≤ x ∧ x ≤ b := by
  simp only [inR, List.all_eq_true, Bool.and_eq_true, decide_eq_true_eq] at h
  exact h x hx
theorem inR_false {a b : Int} {xs : List Int} {k : Nat} (hk : k < xs.length) (h : xs.getD k 0 < a ∨ b < xs.getD k 0) : inR a b xs = false := by
  rw [← Bool.not_eq_true]
  intro hv
  have := inR_at hv hk
  omega
theorem len6_yes {xs : List Int} (h1 : 1 ≤ xs.length) (h6 : xs.length ≤ 6) : len6 xs = true := by simp [len6]; omega
theorem len6_no {xs : List Int} (h : ¬ (1 ≤ xs.length ∧ xs.length ≤ 6)) : len6 xs = false := by
  rw [← Bool.not_eq_true]
  intro hv
  simp only [len6, Bool.and_eq_true, decide_eq_true_eq] at hv
  exact h hv
/-- Whether lists can be row sums and column sums. -/
def svB (rs cs : List Int) : Bool := len6 rs && len6 cs && inR 0 cs.length rs && inR 0 rs.length cs
structure Sums (rs cs : List Int) : Prop where
  h1 : 1 ≤ rs.length
  h6 : rs.length ≤ 6
  w1 : 1 ≤ cs.length
  w6 : cs.length ≤ 6
  r : ∀ j, j < rs.length → 0 ≤ rs.getD j 0 ∧ rs.getD j 0 ≤ cs.length
  c : ∀ j, j < cs.length → 0 ≤ cs.getD j 0 ∧ cs.getD j 0 ≤ rs.length
theorem svB_yes {rs cs : List Int} (h : svB rs cs = true) : Sums rs cs := by
  simp only [svB, len6, Bool.and_eq_true, decide_eq_true_eq] at h
  obtain ⟨⟨⟨⟨h1, h2⟩, h3, h4⟩, h5⟩, h6⟩ := h
  exact ⟨h1, h2, h3, h4, fun j hj => inR_at h5 hj, fun j hj => inR_at h6 hj⟩
theorem svB_of {rs cs : List Int} (h : Sums rs cs) : svB rs cs = true := by
  simp only [svB, len6, Bool.and_eq_true, decide_eq_true_eq]
  exact ⟨⟨⟨⟨h.h1, h.h6⟩, h.w1, h.w6⟩, inR_true h.r⟩, inR_true h.c⟩
theorem Sums.turn {rs cs : List Int} (h : Sums rs cs) : Sums cs rs := ⟨h.w1, h.w6, h.h1, h.h6, h.c, h.r⟩
theorem getD_mem {xs : List Int} {x : Int} (hx : x ∈ xs) : ∃ j, j < xs.length ∧ x = xs.getD j 0 := by
  obtain ⟨i, hi, rfl⟩ := List.getElem_of_mem hx
  exact ⟨i, hi, by rw [List.getD_eq_getElem?_getD, List.getElem?_eq_getElem hi]; rfl⟩
theorem Sums.rm {rs cs : List Int} (h : Sums rs cs) : ∀ x ∈ rs, 0 ≤ x ∧ x ≤ cs.length := fun x hx => by
  obtain ⟨j, hj, rfl⟩ := getD_mem hx
  exact h.r j hj
theorem Sums.cm {rs cs : List Int} (h : Sums rs cs) : ∀ x ∈ cs, 0 ≤ x ∧ x ≤ rs.length := h.turn.rm
set_option maxHeartbeats 1000000 in
theorem sumsInRange_c (v : Value) (xs : List Int) (m : Int) (h20 : xs.length ≤ 2097152) (w : World) (hv : Ints w.heap.size w v xs) :
    Calls Tryd.prog 91 #[v, .int .i64 m] w fun e w' => e = .returned (.bool (inR 0 m xs && len6 xs)) ∧ w = w' := by
  obtain ⟨A, cap, rfl⟩ := hv.len
  go_enter Tryd.func91, Tryd.ntmps91
  go_wp2
  go_loop [9] (fun i => ∃ k : Nat, k ≤ xs.length ∧ i = .int .i64 k ∧ ∀ j, j < k → 0 ≤ xs.getD j 0 ∧ xs.getD j 0 ≤ m) (fun i => xs.length - (intOf i).toNat)
  case atStart => exact ⟨0, by omega, rfl, fun j hj => by omega⟩
  case round =>
    obtain ⟨k, hk, rfl, hall⟩ := hrel
    have HA := Lib.hid hall
    clear hall
    by_cases hlt : k < xs.length
    · obtain ⟨b, off, cap', e, hbl, hc⟩ := hv.row (by omega)
      injection e with e1 _ e3
      subst e1 e3
      obtain ⟨r, e_r⟩ : ∃ r : Int, r = xs.getD k 0 := ⟨_, rfl⟩
      have hc_r := hc k hlt
      rw [← e_r] at hc_r
      have H_r := Lib.hid e_r
      clear e_r
      clear hc hv
      by_cases hr1 : r < 0
      · go_wp2
        go_returns
        exact ⟨rb (by rw [inR_false hlt (.inl (by rw [← H_r.out]; exact hr1))]; rfl), rfl⟩
      · by_cases hr2 : m < r
        · go_wp2
          go_returns
          exact ⟨rb (by rw [inR_false hlt (.inr (by rw [← H_r.out]; exact hr2))]; rfl), rfl⟩
        · go_wp2
          go_round
          case rel =>
            refine ⟨k + 1, by omega, by go_num, fun j hj => ?_⟩
            by_cases e : j = k
            · subst e; rw [← H_r.out]; omega
            · exact HA.out j (by omega)
          case measure => simp [intOf]; omega
    · obtain rfl : k = xs.length := by omega
      have hin : Hid (inR 0 m xs = true) := Lib.hid (inR_true HA.out)
      by_cases h1 : 1 ≤ xs.length
      · by_cases h6 : xs.length ≤ 6
        · go_wp2
          go_returns
          exact ⟨rb (by rw [hin.out, len6_yes h1 h6]; (try rfl); (try simp); (try omega)), rfl⟩
        · go_wp2
          go_returns
          exact ⟨rb (by rw [hin.out, len6_no (by omega)]; (try rfl); (try simp); (try omega)), rfl⟩
      · go_wp2
        go_returns
        exact ⟨rb (by rw [hin.out, len6_no (by omega)]; (try rfl); (try simp); (try omega)), rfl⟩
set_option maxHeartbeats 1000000 in
theorem SumsValid_c (u v : Value) (rs cs : List Int) (hr : rs.length ≤ 2097152) (hc : cs.length ≤ 2097152) (w : World) (hu : Ints w.heap.size w u rs) (hv : Ints w.heap.size w v cs) :
    Calls Tryd.prog 81 #[u, v] w fun e w' => e = .returned (.bool (svB rs cs)) ∧ w = w' := by
  obtain ⟨A, cap, rfl⟩ := hu.len
  obtain ⟨B, cap', rfl⟩ := hv.len
  have h1 := sumsInRange_c (.slice A rs.length cap) rs cs.length hr w hu
  have h2 := sumsInRange_c (.slice B cs.length cap') cs rs.length hc w hv
  have he : svB rs cs = ((inR 0 cs.length rs && len6 rs) && (inR 0 rs.length cs && len6 cs)) := by
    unfold svB
    cases len6 rs <;> cases len6 cs <;> cases inR 0 cs.length rs <;> cases inR 0 rs.length cs <;> rfl
  generalize (inR 0 cs.length rs && len6 rs) = a at h1 he
  generalize (inR 0 rs.length cs && len6 cs) = b at h2 he
  have HE := Lib.hid he
  clear he
  go_enter Tryd.func81, Tryd.ntmps81
  go_wp2_with fail
  refine h1.mono ?_
  rintro e w' ⟨rfl, rfl⟩
  cases a with
  | false =>
    go_wp2
    go_returns
    exact ⟨rb (by rw [HE.out]; rfl), rfl⟩
  | true =>
    go_wp2_with fail
    refine h2.mono ?_
    rintro e w' ⟨rfl, rfl⟩
    go_wp2
    go_returns
    exact ⟨rb (by rw [HE.out]; rfl), rfl⟩
set_option maxHeartbeats 1000000 in
theorem l2Each_c (v : Value) (xs : List Int) (a m : Int) (h20 : xs.length ≤ 2097152) (w : World) (hv : Ints w.heap.size w v xs) :
    Calls Tryd.prog 62 #[v, .int .i64 a, .int .i64 m] w fun e w' => e = .returned (.bool (inR a m xs)) ∧ w = w' := by
  obtain ⟨A, cap, rfl⟩ := hv.len
  go_enter Tryd.func62, Tryd.ntmps62
  go_wp2
  go_loop [7] (fun i => ∃ k : Nat, k ≤ xs.length ∧ i = .int .i64 k ∧ ∀ j, j < k → a ≤ xs.getD j 0 ∧ xs.getD j 0 ≤ m) (fun i => xs.length - (intOf i).toNat)
  case atStart => exact ⟨0, by omega, rfl, fun j hj => by omega⟩
  case round =>
    obtain ⟨k, hk, rfl, hall⟩ := hrel
    have HA := Lib.hid hall
    clear hall
    by_cases hlt : k < xs.length
    · obtain ⟨b, off, cap', e, hbl, hc⟩ := hv.row (by omega)
      injection e with e1 _ e3
      subst e1 e3
      obtain ⟨r, e_r⟩ : ∃ r : Int, r = xs.getD k 0 := ⟨_, rfl⟩
      have hc_r := hc k hlt
      rw [← e_r] at hc_r
      have H_r := Lib.hid e_r
      clear e_r
      clear hc hv
      by_cases hr : a ≤ r ∧ r ≤ m
      · go_wp2_with (go_at_call 56; refine (l6In_yes _ _ _ hr _).mono ?_; rintro e w' ⟨rfl, rfl⟩)
        go_round
        case rel =>
          refine ⟨k + 1, by omega, by go_num, fun j hj => ?_⟩
          by_cases e : j = k
          · subst e; rw [← H_r.out]; exact hr
          · exact HA.out j (by omega)
        case measure => simp [intOf]; omega
      · go_wp2_with (go_at_call 56; refine (l6In_no _ _ _ (by omega) _).mono ?_; rintro e w' ⟨rfl, rfl⟩)
        go_returns
        exact ⟨rb (inR_false hlt (by rw [← H_r.out]; omega)).symm, rfl⟩
    · obtain rfl : k = xs.length := by omega
      go_wp2
      go_returns
      exact ⟨rb (inR_true HA.out).symm, rfl⟩
/-- No number of a list exceeds that of another one. -/
def naB (xs ys : List Int) : Bool := (List.range xs.length).all fun i => decide (xs.getD i 0 ≤ ys.getD i 0)
theorem naB_iff {xs ys : List Int} : naB xs ys = true ↔ ∀ i, i < xs.length → xs.getD i 0 ≤ ys.getD i 0 := by simp [naB]
theorem naB_no {xs ys : List Int} {k : Nat} (hk : k < xs.length) (h : ys.getD k 0 < xs.getD k 0) : naB xs ys = false := by
  rw [← Bool.not_eq_true, naB_iff]
  intro hv
  have := hv k hk
  omega
end Go.Proofs.YtbpjceffkchmbaaDoor
