/- Contract of TableValid. Conditions: a table of one to eight rows and columns. -/
import Derived.Test.YtbpjceffkchmbaaDoorTB1
import Derived.Test.YtbpjceffkchmbaaDoorTBP
namespace Go.Proofs.YtbpjceffkchmbaaDoor
open Go.RowKit
/-- Whether a number fits into a table. -/
def okE (T : List (List Int)) (i j : Nat) : Bool := decide (-999 ≤ ent T i j) && decide (ent T i j ≤ 999)
def tvB (h n : Nat) (T : List (List Int)) : Bool := (List.range h).all fun i => (List.range n).all fun j => okE T i j
theorem tvB_yes {h n : Nat} {T : List (List Int)} (ha : ∀ i j, i < h → j < n → okE T i j = true) : tvB h n T = true := by
  unfold tvB
  rw [List.all_eq_true]
  intro i hi
  rw [List.all_eq_true]
  intro j hj
  exact ha i j (List.mem_range.1 hi) (List.mem_range.1 hj)
theorem tvB_no {h n i j : Nat} {T : List (List Int)} (hi : i < h) (hj : j < n) (hb : okE T i j = false) : tvB h n T = false := by
  cases hc : tvB h n T with
  | false => rfl
  | true =>
    unfold tvB at hc
    rw [List.all_eq_true] at hc
    have h1 := hc i (List.mem_range.2 hi)
    rw [List.all_eq_true] at h1
    have h2 := h1 j (List.mem_range.2 hj)
    rw [hb] at h2
    cases h2
theorem tvB_at {h n i j : Nat} {T : List (List Int)} (ht : tvB h n T = true) (hi : i < h) (hj : j < n) : -999 ≤ ent T i j ∧ ent T i j ≤ 999 := by
  cases hc : okE T i j with
  | false => rw [tvB_no hi hj hc] at ht; cases ht
  | true =>
    unfold okE at hc
    rw [Bool.and_eq_true, decide_eq_true_eq, decide_eq_true_eq] at hc
    exact hc
set_option maxRecDepth 100000 in
set_option maxHeartbeats 4000000 in
theorem TableValid_c (gT h n : Nat) (gs : List Nat) (T : List (List Int)) (h1 : 1 ≤ h) (h8 : h ≤ 8) (n1 : 1 ≤ n) (n8 : n ≤ 8) (w : World) (t : Tbl w gT h n gs T) :
    Calls Tryd.prog 61 #[.slice (some ⟨gT, 0, none⟩) h h] w fun e w' => e = .returned (.bool (tvB h n T)) ∧ w = w' := by
  have hc0 := t.cell (i := 0) (by omega)
  obtain ⟨g0, eg0⟩ : ∃ g, g = gs.getD 0 0 := ⟨_, rfl⟩
  rw [← eg0] at hc0
  unfold rowV at hc0
  have HT := Lib.hid t
  clear t eg0
  go_enter Tryd.func61, Tryd.ntmps61
  go_wp2_with fail
  go_loop [31] (fun i => ∃ k : Nat, k ≤ h ∧ i = .int .i64 (k : Int) ∧ ∀ a b, a < k → b < n → okE T a b = true) (fun i => h - (intOf i).toNat)
  case atStart => exact ⟨0, Nat.zero_le _, rfl, fun a b ha => by omega⟩
  case round =>
    obtain ⟨k, hk, rfl, hok⟩ := hrel
    by_cases hkl : k < h
    · have hki : (k : Int) < (h : Int) := by omega
      have hck := HT.out.cell hkl
      have hrow : ∀ j, j < n → w.cell? ⟨gs.getD k 0, j, none⟩ = some (.int .i64 ((T.getD k []).getD j 0)) := fun j hj => (HT.out.row k hkl).cell (k := j) (by rw [HT.out.wid k hkl]; exact hj)
      obtain ⟨g, eg⟩ : ∃ g, g = gs.getD k 0 := ⟨_, rfl⟩
      rw [← eg] at hck hrow
      unfold rowV at hck
      have HR := Lib.hid (And.intro hrow hok)
      clear eg hok hrow
      go_wp2_with fail
      go_loop [44] (fun i => ∃ l : Nat, l ≤ n ∧ i = .int .i64 (l : Int) ∧ ∀ b, b < l → okE T k b = true) (fun i => n - (intOf i).toNat)
      case atStart => exact ⟨0, Nat.zero_le _, rfl, fun b hb => by omega⟩
      case round =>
        obtain ⟨l, hl, rfl, hok⟩ := hrel
        by_cases hll : l < n
        · have hli : (l : Int) < (n : Int) := by omega
          have hcl := HR.out.1 l hll
          have heq : okE T k l = (decide (-999 ≤ (T.getD k []).getD l 0) && decide ((T.getD k []).getD l 0 ≤ 999)) := rfl
          obtain ⟨z, ez⟩ : ∃ z, z = (T.getD k []).getD l 0 := ⟨_, rfl⟩
          rw [← ez] at hcl heq
          clear ez
          by_cases z1 : z < -999
          · have HN := Lib.hid (tvB_no (T := T) hkl hll (by rw [heq, decide_eq_false (by omega)]; rfl))
            clear heq hok
            go_wp2
            go_returns
            exact ⟨rb HN.out.symm, rfl⟩
          by_cases z2 : 999 < z
          · have z1' : ¬ z < -999 := z1
            have HN := Lib.hid (tvB_no (T := T) hkl hll (by rw [heq, decide_eq_false (p := z ≤ 999) (by omega), Bool.and_false]))
            clear heq hok
            go_wp2
            go_returns
            exact ⟨rb HN.out.symm, rfl⟩
          · have hokz : okE T k l = true := by rw [heq, decide_eq_true (by omega), decide_eq_true (by omega)]; rfl
            have HF := Lib.hid (show ∀ b, b < l + 1 → okE T k b = true from fun b hb => by
              by_cases e : b = l
              · subst e; exact hokz
              · exact hok b (by omega))
            clear heq hok hokz
            go_wp2
            go_round
            case rel => exact ⟨l + 1, by omega, by go_num, HF.out⟩
            case measure => simp [intOf]; omega
        · have hli : ¬ ((l : Int) < (n : Int)) := by omega
          have HF := Lib.hid (show ∀ a b, a < k + 1 → b < n → okE T a b = true from fun a b ha hb => by
            by_cases e : a = k
            · subst e; exact hok b (by omega)
            · exact HR.out.2 a b (by omega) hb)
          clear hok
          go_wp2
          exact ⟨⟨k + 1, by omega, by go_num, HF.out⟩, by simp [intOf]; omega⟩
    · have hki : ¬ ((k : Int) < (h : Int)) := by omega
      have HF := Lib.hid (tvB_yes (h := h) (n := n) (T := T) fun a b ha hb => hok a b (by omega) hb)
      clear hok
      go_wp2
      go_returns
      exact ⟨rb HF.out.symm, rfl⟩
end Go.Proofs.YtbpjceffkchmbaaDoor
