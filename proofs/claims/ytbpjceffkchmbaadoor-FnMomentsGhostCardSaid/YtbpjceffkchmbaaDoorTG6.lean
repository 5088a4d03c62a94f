/- Contracts of TableValid and TableAdd of the reference. Conditions: tables of one to eight rows and columns; for TableAdd: valid ones, the factor 1 or -1, the second one lies within the first. -/
import Derived.Test.YtbpjceffkchmbaaDoorTG5
import Derived.Test.YtbpjceffkchmbaaDoorFA
import Derived.Test.YtbpjceffkchmbaaDoorKX
namespace Go.Proofs.YtbpjceffkchmbaaDoor
open Go.RowKit
theorem Row.intsT {w : World} {g h c : Nat} {xs : List Int} (hr : Row w g xs) (hl : xs.length = h) : Ints w.heap.size w (.slice (some ⟨g, 0, none⟩) h c) xs := by
  have := hr.ints hr.lt c
  rw [hl] at this
  exact this
theorem inR_row {n k : Nat} {T : List (List Int)} (hw : (T.getD k []).length = n) (hr : inR (-999) 999 (T.getD k []) = true) : ∀ b, b < n → okE T k b = true := by
  intro b hb
  by_cases hx : (T.getD k []).getD b 0 < -999 ∨ 999 < (T.getD k []).getD b 0
  · rw [inR_false (by rw [hw]; exact hb) hx] at hr
    cases hr
  · unfold okE ent
    rw [decide_eq_true (by omega), decide_eq_true (by omega)]
    rfl
theorem inR_row_no {h n k : Nat} {T : List (List Int)} (hk : k < h) (hw : (T.getD k []).length = n) (hr : inR (-999) 999 (T.getD k []) = false) : tvB h n T = false := by
  cases hc : tvB h n T with
  | false => rfl
  | true =>
    rw [inR_true fun j hj => ?_] at hr
    · cases hr
    · exact tvB_at hc hk (by rw [← hw]; exact hj)
set_option maxRecDepth 100000 in
set_option maxHeartbeats 4000000 in
theorem sTableValid_c (gT h cp n : Nat) (gs : List Nat) (T : List (List Int)) (h1 : 1 ≤ h) (h8 : h ≤ 8) (n1 : 1 ≤ n) (n8 : n ≤ 8) (w : World) (t : Tbl w gT h n gs T) :
    Calls Tryd.prog 69 #[.slice (some ⟨gT, 0, none⟩) h cp] w fun e w' => e = .returned (.bool (tvB h n T)) ∧ Below w.heap.size w w' := by
  have hc0 := t.cell (i := 0) (by omega)
  obtain ⟨g0, eg0⟩ : ∃ g, g = gs.getD 0 0 := ⟨_, rfl⟩
  rw [← eg0] at hc0
  unfold rowV at hc0
  have HT := Lib.hid (And.intro t hc0)
  clear t eg0
  go_enter Tryd.func69, Tryd.ntmps69
  go_wp2_with (go_at_call 56; refine (l6In_yes _ _ _ (by omega) _).mono ?_; rintro e w' ⟨rfl, rfl⟩)
  clear hc0
  go_loopw [3] (fun q wr => ∃ k : Nat, k ≤ h ∧ q = .int .i64 (k : Int) ∧ (∀ a b, a < k → b < n → okE T a b = true) ∧ Below w.heap.size w wr) (fun q _ => h - (intOf q).toNat)
  case atStart => exact ⟨0, Nat.zero_le _, rfl, fun a b ha => by omega, Below.refl _ _⟩
  case round =>
    obtain ⟨k, hk, rfl, hok, hb⟩ := hrel
    by_cases hkl : k < h
    · have hki : (k : Int) < (h : Int) := by omega
      have t := HT.out.1.below hb
      have hck := t.cell hkl
      have hc0 := cellB hb HT.out.2
      have HL := fun (d : Nat) (os : Array Obj) => l2Each_c (.slice (some ⟨gs.getD k 0, 0, none⟩) n n) (T.getD k []) (-999) 999 (by rw [t.wid k hkl]; omega) _ (((t.rg d os).row k hkl).intsT (c := n) (t.wid k hkl))
      obtain ⟨g, eg⟩ : ∃ g, g = gs.getD k 0 := ⟨_, rfl⟩
      rw [← eg] at hck HL
      unfold rowV at hck
      have k0 := cell_regrown hck
      have k1 := cell_regrown hc0
      have hw := t.wid k hkl
      have hneb : ((n : Int) != (n : Int)) = false := by simp
      have HR := Lib.hid (And.intro hok (And.intro hb hw))
      cases hr : inR (-999) 999 (T.getD k []) with
      | true =>
        rw [hr] at HL
        have HN := Lib.hid (inR_row hw hr)
        clear t hok hb eg hr hw
        go_wp2_with fail
        refine wp_region_quiet_below (by kernel_rfl) (by kernel_rfl) ?_
        repeat (first | go_big_quiet_step ((go_at_call 62; with_reducible exact Calls.rgs (HL _ _))) | quiet_step ((go_at_call 62; with_reducible exact Calls.rgs (HL _ _))))
        refine wpQuiet_nil ?_
        intro _ hw0
        obtain ⟨⟨dq, osq⟩, hw1⟩ := hw0
        subst hw1
        have hq := below_regrown wr dq osq
        generalize Go.Sort.grow (redrawn wr dq) osq = w1 at hq ⊢
        clear k0 k1 HL
        have HF := Lib.hid (And.intro (show ∀ a b, a < k + 1 → b < n → okE T a b = true from fun a b ha hb => by
          by_cases e : a = k
          · subst e; exact HN.out b hb
          · exact HR.out.1 a b (by omega) hb) (HR.out.2.1.trans (hq.mono HR.out.2.1.size)))
        go_wp2
        go_roundw
        case rel => exact ⟨k + 1, by omega, by go_num, HF.out⟩
        case measure => simp [intOf]; omega
      | false =>
        rw [hr] at HL
        have HN := Lib.hid (inR_row_no hkl hw hr)
        clear t hok hb eg hr hw
        go_wp2_with fail
        refine wp_region_quiet_below (by kernel_rfl) (by kernel_rfl) ?_
        repeat (first | go_big_quiet_step ((go_at_call 62; with_reducible exact Calls.rgs (HL _ _))) | quiet_step ((go_at_call 62; with_reducible exact Calls.rgs (HL _ _))))
        refine wpQuiet_nil ?_
        intro _ hw0
        obtain ⟨⟨dq, osq⟩, hw1⟩ := hw0
        subst hw1
        have hq := below_regrown wr dq osq
        generalize Go.Sort.grow (redrawn wr dq) osq = w1 at hq ⊢
        clear k0 k1 HL
        go_wp2
        go_returns
        exact ⟨rb HN.out.symm, HR.out.2.1.trans (hq.mono HR.out.2.1.size)⟩
    · have hki : ¬ ((k : Int) < (h : Int)) := by omega
      have HF := Lib.hid (And.intro (tvB_yes (h := h) (n := n) (T := T) fun a b ha hb => hok a b (by omega) hb) hb)
      clear hok hb
      go_wp2
      go_returns
      exact ⟨rb HF.out.1.symm, HF.out.2⟩
end Go.Proofs.YtbpjceffkchmbaaDoor
