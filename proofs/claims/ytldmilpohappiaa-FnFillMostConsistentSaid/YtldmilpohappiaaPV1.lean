/- Contracts of inParts, slices.IsSortedFunc, PartValid where a partition is given. Conditions: one to six numbers from 0 to 6 in descending order. -/
import Derived.Test.YtldmilpohappiaaFE0
import Derived.Test.YtldmilpohappiaaFA
namespace Go.Proofs.Ytldmilpohappiaa
open Go Go.RowKit
/-- One to six numbers from 0 to 6, none smaller than the next. -/
structure Part (xs : List Int) : Prop where
  sm : Small xs
  ds : ∀ k, k + 1 < xs.length → xs.getD (k + 1) 0 ≤ xs.getD k 0
theorem cmp_c (x y : Int) (hx : 0 ≤ x ∧ x ≤ 6) (hy : 0 ≤ y ∧ y ≤ 6) (w : World) :
    Calls Try.prog 61 #[.int .i64 x, .int .i64 y] w fun e w' => e = .returned (.int .i64 (y - x)) ∧ w = w' := by
  have ew : IntKind.i64.wrap (y - x) = y - x := IntWalk.i64_in _ ⟨by omega, by omega⟩
  go_enter Try.func61, Try.ntmps61
  go_wp2
  go_returns
  exact ⟨rfl, rfl⟩
theorem inParts_c (v : Value) (xs : List Int) (hp : Small xs) (w : World) (hv : Ints w.heap.size w v xs) :
    Calls Try.prog 59 #[v] w fun e w' => e = .returned (.bool true) ∧ w = w' := by
  obtain ⟨A, cap, rfl⟩ := hv.len
  have h1 := hp.h1
  have h6 := hp.h6
  have hr : (inR 0 6 xs && len6 xs) = true := by
    unfold inR len6
    rw [Bool.and_eq_true, List.all_eq_true]
    exact ⟨fun x hx => by have := hp.bd x hx; simp; omega, by simp; omega⟩
  have HS := sumsInRange_c (.slice A xs.length cap) xs 6 (by omega) w hv
  rw [hr] at HS
  have hne : ((xs.length : Int) == 0) = false := by rw [beq_eq_false_iff_ne]; omega
  go_enter Try.func59, Try.ntmps59
  go_wp2_with fail
  refine HS.mono ?_
  rintro e w' ⟨rfl, rfl⟩
  go_wp2
  go_returns
  exact ⟨rfl, rfl⟩
set_option maxHeartbeats 1000000 in
theorem isSorted_c (v : Value) (xs : List Int) (hp : Part xs) (w : World) (hv : Ints w.heap.size w v xs) :
    Calls Try.prog 60 #[v, .func (.func 61) #[] #[]] w fun e w' => e = .returned (.bool true) ∧ Below w.heap.size w w' := by
  obtain ⟨b, off, cap, rfl, hbl, hc⟩ := hv.row hp.sm.h1
  have h1 := hp.sm.h1
  have h6 := hp.sm.h6
  have HP := Lib.hid hp
  have HC := Lib.hid hc
  have eg : ∀ args w, (callFunc 61 args).run Try.prog w = .ok (.enter 61 args) w := enters_of Try.func61 (by kernel_rfl) rfl
  clear hp hc hv
  go_enter Try.func60, Try.ntmps60
  go_wp2_with fail
  go_loopw [5] (fun q wr => ∃ k : Nat, k < xs.length ∧ q = .int .i64 (k : Int) ∧ Below w.heap.size w wr) (fun q _ => (intOf q).toNat)
  case atStart => exact ⟨xs.length - 1, by omega, by go_num, Below.refl _ _⟩
  case round =>
    obtain ⟨k, hk, rfl, hbr⟩ := hrel
    cases k with
    | zero =>
      go_wp2
      go_returns
      exact ⟨rfl, hbr⟩
    | succ j =>
      have hds := HP.out.ds j hk
      have b1 := HP.out.sm.at hk
      have b2 := HP.out.sm.at (show j < xs.length by omega)
      have c1 := (hbr.cell hbl).trans (HC.out (j + 1) hk)
      have c2 := (hbr.cell hbl).trans (HC.out j (by omega))
      obtain ⟨x, ex⟩ : ∃ x, x = xs.getD (j + 1) 0 := ⟨_, rfl⟩
      obtain ⟨y, ey⟩ : ∃ y, y = xs.getD j 0 := ⟨_, rfl⟩
      rw [← ex] at hds b1 c1
      rw [← ey] at hds b2 c2
      have hyx : ¬ y - x < 0 := by omega
      have hj : ((j + 1 : Nat) : Int) = (j : Int) + 1 := by omega
      have HCMP := fun W => cmp_c x y b1 b2 W
      have HBR := Lib.hid hbr
      clear ex ey hbr
      rw [hj]
      have k1 := cell_regrown c1
      have k2 := cell_regrown c2
      have ek : IntKind.i64.wrap ((j : Int) + 1 - 1) = (j : Int) := by rw [show (j : Int) + 1 - 1 = (j : Int) by omega]; exact IntWalk.i64_in _ ⟨by omega, by omega⟩
      go_wp2_with fail
      refine wp_region_quiet_below (by kernel_rfl) (by kernel_rfl) ?_
      repeat (first | go_big_quiet_step ((go_at_call 61; with_reducible exact Calls.rgs (HCMP _))) | quiet_step ((go_at_call 61; with_reducible exact Calls.rgs (HCMP _))))
      refine wpQuiet_nil ?_
      intro _ hw0
      obtain ⟨⟨dq, osq⟩, hw1⟩ := hw0
      subst hw1
      have hq := below_regrown wr dq osq
      generalize Go.Sort.grow (redrawn wr dq) osq = w1 at hq ⊢
      have HF := Lib.hid (HBR.out.trans (hq.mono HBR.out.size))
      clear hq k1 k2 ek
      go_wp2
      go_roundw
      case rel => exact ⟨j, by omega, by go_num, HF.out⟩
      case measure => simp [intOf]
end Go.Proofs.Ytldmilpohappiaa
