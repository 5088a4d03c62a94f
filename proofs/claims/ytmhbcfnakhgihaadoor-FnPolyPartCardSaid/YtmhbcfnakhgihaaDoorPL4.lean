/- Contracts of l32First, l32Inside, l32Hole of the reference. Conditions: the image is valid; the cell is there. -/
import Derived.Test.YtmhbcfnakhgihaaDoorPL3
namespace Go.Proofs.YtmhbcfnakhgihaaDoor
open Go.RowKit
open Gr
theorem cell_none {ns : List Nat} {k : Nat} : ns.getD k 0 = 0 ↔ ∀ l, cell ns k l = false := by
  constructor
  · intro h l; unfold cell; rw [h]; simp
  · intro h
    apply Nat.eq_of_testBit_eq
    intro l
    have := h l
    unfold cell at this
    rw [this]
    simp
/-- No set cell ahead of (i, j). -/
def firstOf (os : List Nat) (i j : Nat) : Bool := (List.range i).all (fun k => decide (os.getD k 0 = 0)) && decide (os.getD i 0 % 2 ^ j = 0)
theorem mod_pow_zero (r j : Nat) : r % 2 ^ j = 0 ↔ ∀ l, l < j → r.testBit l = false := by
  constructor
  · intro h l hl
    have := Nat.testBit_mod_two_pow r j l
    rw [h] at this
    simpa [hl] using this.symm
  · intro h
    apply Nat.eq_of_testBit_eq
    intro l
    rw [Nat.testBit_mod_two_pow]
    by_cases hl : l < j
    · simp [hl, h l hl]
    · simp [hl]
theorem firstOf_iff {os : List Nat} {i j : Nat} : firstOf os i j = true ↔ ∀ k l, Earlier k l i j → cell os k l = false := by
  simp only [firstOf, Bool.and_eq_true, List.all_eq_true, List.mem_range, decide_eq_true_eq, mod_pow_zero, cell_none]
  constructor
  · rintro ⟨h1, h2⟩ k l he
    rcases he with he | ⟨rfl, he⟩
    · exact h1 k he l
    · exact h2 l he
  · intro h
    exact ⟨fun k hk l => h k l (.inl hk), fun l hl => h i l (.inr ⟨rfl, hl⟩)⟩
theorem firstOf_comp {T : Nat → Nat → Bool} {c : Bool} {h n i j : Nat} (hS : Inside h n T) (ht : T i j = true) : firstOf (compL T c h n (i, j)) i j = firstB T c h n (i, j) := by
  rw [Bool.eq_iff_iff, firstOf_iff, firstB_iff hS]
  constructor
  · intro hh
    refine ⟨ht, fun k l he hk hr => ?_⟩
    have := hh k l he
    rw [← Bool.not_eq_true, cell_comp hS ht] at this
    exact this hr
  · rintro ⟨_, hh⟩ k l he
    rw [← Bool.not_eq_true, cell_comp hS ht]
    intro hr
    exact hh k l he (hr.mem ht) hr
/-- No set cell in the first or last row or column. -/
def insideOf (n : Nat) (os : List Nat) : Bool := (List.range os.length).all (fun k => !cell os k 0 && !cell os k (n - 1)) && decide (os.getD 0 0 = 0) && decide (os.getD (os.length - 1) 0 = 0)
theorem insideOf_iff {os : List Nat} {n : Nat} (hz : Sized os.length n os) (hn : 1 ≤ n) (h1 : 1 ≤ os.length) : insideOf n os = true ↔ ∀ k l, cell os k l = true → 1 ≤ k ∧ k + 1 < os.length ∧ 1 ≤ l ∧ l + 1 < n := by
  simp only [insideOf, Bool.and_eq_true, List.all_eq_true, List.mem_range, decide_eq_true_eq, Bool.not_eq_true', cell_none]
  constructor
  · rintro ⟨⟨h1, h2⟩, h3⟩ k l hc
    have hb := hz.cell_in hc
    have e1 : k ≠ 0 := by rintro rfl; rw [h2 l] at hc; cases hc
    have e2 : k ≠ os.length - 1 := by rintro rfl; rw [h3 l] at hc; cases hc
    have e3 : l ≠ 0 := by rintro rfl; rw [(h1 k hb.1).1] at hc; cases hc
    have e4 : l ≠ n - 1 := by rintro rfl; rw [(h1 k hb.1).2] at hc; cases hc
    omega
  · intro hh
    refine ⟨⟨fun k hk => ⟨?_, ?_⟩, fun l => ?_⟩, fun l => ?_⟩
    · rw [← Bool.not_eq_true]; intro hc; have := hh _ _ hc; omega
    · rw [← Bool.not_eq_true]; intro hc; have := hh _ _ hc; omega
    · rw [← Bool.not_eq_true]; intro hc; have := hh _ _ hc; omega
    · rw [← Bool.not_eq_true]; intro hc; have := hh _ _ hc; omega
theorem insideOf_comp {T : Nat → Nat → Bool} {h n : Nat} {c : Nat × Nat} (hS : Inside h n T) (ht : T c.1 c.2 = true) (hn : 1 ≤ n) (h1 : 1 ≤ h) : insideOf n (compL T true h n c) = innerB T h n c := by
  rw [Bool.eq_iff_iff, insideOf_iff (by rw [length_comp]; exact sized_mk) hn (by rw [length_comp]; exact h1), innerB_iff hS ht, length_comp]
  constructor
  · intro hh k l hr
    exact hh k l ((cell_comp hS ht).2 hr)
  · intro hh k l hc
    exact hh k l ((cell_comp hS ht).1 hc)
theorem firstOf_no {os : List Nat} {i j k : Nat} (hk : k < i) (h : os.getD k 0 ≠ 0) : firstOf os i j = false := by
  rw [← Bool.not_eq_true]
  intro hh
  simp only [firstOf, Bool.and_eq_true, List.all_eq_true, List.mem_range, decide_eq_true_eq] at hh
  exact h (hh.1 k hk)
theorem firstOf_last {os : List Nat} {i j : Nat} (h : ∀ k, k < i → os.getD k 0 = 0) : firstOf os i j = decide (os.getD i 0 % 2 ^ j = 0) := by
  have : (List.range i).all (fun k => decide (os.getD k 0 = 0)) = true := by
    simp only [List.all_eq_true, List.mem_range, decide_eq_true_eq]
    exact h
  unfold firstOf
  rw [this, Bool.true_and]
set_option maxHeartbeats 1000000 in
theorem l32First_c (n : Nat) (v : Value) (os : List Nat) (hV : VImg n os) (i j : Nat) (hi : i < os.length) (hj : j < n) (w : World) (hv : Ints w.heap.size w v (casts os)) :
    Calls Tryd.prog 47 #[.agg #[.int .i64 (n : Int), v], .int .i64 (i : Int), .int .i64 (j : Int)] w fun e w' => e = .returned (.bool (firstOf os i j)) ∧ Below w.heap.size w w' := by
  obtain ⟨b, off, cap, rfl, hlt, hc⟩ := hv.row (by rw [length_casts]; omega)
  rw [length_casts] at hc ⊢
  have h6 := hV.h6
  have w6 := hV.w6
  have HC := Lib.hid hc
  clear hc hv
  go_enter Tryd.func47, Tryd.ntmps47
  go_wp2
  go_loop [7] (fun s => ∃ k : Nat, k ≤ i ∧ s = .int .i64 k ∧ ∀ a, a < k → os.getD a 0 = 0) (fun s => i - (intOf s).toNat)
  case atStart => exact ⟨0, by omega, rfl, fun a ha => by omega⟩
  case round =>
    obtain ⟨k, hk, rfl, hall⟩ := hrel
    have HA := Lib.hid hall
    clear hall
    by_cases hki : k < i
    · have hck := HC.out k (by omega)
      rw [casts_getD] at hck
      obtain ⟨r, er⟩ : ∃ r, r = os.getD k 0 := ⟨_, rfl⟩
      rw [← er] at hck
      have HR := Lib.hid er
      clear er
      by_cases hr : 0 < r
      · go_wp2
        go_returns
        exact ⟨rb (firstOf_no hki (by rw [← HR.out]; omega)).symm, by go_grown⟩
      · go_wp2
        go_round
        case rel =>
          refine ⟨k + 1, by omega, by go_num, fun a ha => ?_⟩
          by_cases e : a = k
          · subst e; rw [← HR.out]; omega
          · exact HA.out a (by omega)
        case measure => simp [intOf]; omega
    · obtain rfl : k = i := by omega
      have hck := HC.out k hi
      rw [casts_getD] at hck
      have hr64 := hV.get64 k
      obtain ⟨r, er⟩ : ∃ r, r = os.getD k 0 := ⟨_, rfl⟩
      rw [← er] at hck hr64
      have hp := pw_pos j
      obtain ⟨q, eq⟩ : ∃ q : Nat, q = r % 2 ^ j := ⟨_, rfl⟩
      have em : (r : Int).tmod (pw j) = (q : Int) := by
        rw [Int.tmod_eq_emod_of_nonneg (by omega), eq]
        unfold pw
        simp
      have hf : firstOf os k j = decide (q = 0) := by rw [firstOf_last HA.out, eq, er]
      have hp0 : ¬ pw j = 0 := by omega
      obtain ⟨W1, eW⟩ : ∃ W1, W1 = w.alloc (.cells #[.int .i64 (n : Int), .slice (some ⟨b, off, none⟩) os.length cap] 27) := ⟨_, rfl⟩
      have hB1 : Below w.heap.size w W1 := by rw [eW]; go_grown
      have hx := Box2.new w (.int .i64 (n : Int)) (.slice (some ⟨b, off, none⟩) os.length cap) 27
      rw [← eW] at hx
      obtain ⟨_, x0, x1⟩ := hx
      have hck1 := cellB hB1 hck
      have k1 := cell_regrown x1
      have k2 := cell_regrown hck1
      have HF := Lib.hid hf
      clear er eq hf x0 x1 hck1
      have HE := Lib.hid eW
      clear eW
      go_wp2_with fail
      rw [← HE.out]
      refine wp_region_quiet_below (by kernel_rfl) (by kernel_rfl) ?_
      repeat (first | go_big_quiet_step ((go_at_call 50; exact Calls.rgs (l1Power_c j (by omega) _))) | quiet_step ((go_at_call 50; exact Calls.rgs (l1Power_c j (by omega) _))))
      refine wpQuiet_nil ?_
      intro _ hw0
      obtain ⟨⟨dq, osq⟩, hw1⟩ := hw0
      subst hw1
      have hq := below_regrown W1 dq osq
      generalize Go.Sort.grow (redrawn W1 dq) osq = w2 at hq ⊢
      go_wp2
      go_returns
      exact ⟨rb (by rw [HF.out]; rw [Bool.eq_iff_iff]; simp), hB1.trans (hq.mono hB1.size)⟩
end Go.Proofs.YtmhbcfnakhgihaaDoor
