/- Contracts of ones and ImageMany. Conditions: the row below 64; the slice reads as a list of integers. -/
import Derived.Test.YtehoaagnpidnbaaK11
namespace Go.Proofs.Ytehoaagnpidnbaa
open Go.RowKit
theorem OnesCount_c (r : Nat) (hr : r < 64) (w : World) : Calls Try.prog 65 #[.int .u64 (r : Int)] w fun e w' => e = .returned (.int .i64 (pop 6 r)) ∧ w = w' := by
  go_enter Try.func65, Try.ntmps65
  go_wp2_with fail
  refine (OnesCount64_c r hr w).mono ?_
  rintro e w' ⟨rfl, rfl⟩
  go_wp2
  go_returns
  exact ⟨rfl, rfl⟩
theorem ones_c (r : Nat) (hr : r < 64) (w : World) : Calls Try.prog 43 #[.int .i64 (r : Int)] w fun e w' => e = .returned (.int .i64 (pop 6 r)) ∧ w = w' := by
  have ew : IntKind.u64.wrap (r : Int) = r := by simp only [IntKind.wrap_u64]; omega
  go_enter Try.func43, Try.ntmps43
  go_wp2_with fail
  refine (OnesCount_c r hr w).mono ?_
  rintro e w' ⟨rfl, rfl⟩
  go_wp2
  go_returns
  exact ⟨rfl, rfl⟩
def one (_i _j : Nat) : Int := 1
theorem one_bd (i j : Nat) (_hi : i < 6) (_hj : j < 6) : 0 ≤ one i j ∧ one i j ≤ 25 := by unfold one; omega
theorem one_step (ns : List Nat) (w : Nat) (k : Nat) : part ns w one (k + 1) 0 = part ns w one k 0 + pop w (ns.getD k 0) := by
  simp only [part, sumN, pop, one, Int.one_mul, cell]
  omega
set_option maxHeartbeats 1000000 in
theorem ImageMany_c (W : Int) (v : Value) (rows : List Int) (w : World) (hv : Ints w.heap.size w v rows) :
    Calls Try.prog 18 #[.agg #[.int .i64 W, v]] w fun e w' => e = .returned (.int .i64 (val0 (-1) one W rows)) ∧ Below w.heap.size w w' := by
  obtain ⟨A, cap, rfl⟩ := hv.len
  go_enter Try.func18, Try.ntmps18
  go_wp2_with fail
  refine (ImageValid_c W _ rows _ (hv.alloc (Nat.le_refl _) _ |>.more (by simp))).mono ?_
  rintro e w1 ⟨rfl, hb⟩
  have hB : Below w.heap.size w w1 := ((Below.refl w.heap.size w).alloc (Nat.le_refl _) _).trans (hb.mono (by simp))
  have hbx := (Box2.new w (.int .i64 W) (.slice A rows.length cap) 24).below hb (by simp)
  cases hval : validB W rows with
  | false =>
    go_wp2
    go_returns
    exact ⟨ri (val0_no hval).symm, hB⟩
  | true =>
    obtain ⟨wd, ns, rfl, rfl, hi⟩ := validB_yes hval
    have h6 := hi.h6
    have w6 := hi.w6
    have HVAL := Lib.hid (val0_yes (d := -1) (f := one) hi)
    have hv1 := (hv.below hB).more hB.size
    obtain ⟨b, off, cp, e, hbl, hc⟩ := hv1.row (by rw [length_casts]; have := hi.h1; omega)
    injection e with e1 e2 e3
    subst e1 e3
    have HC := Lib.hid hc
    rw [length_casts] at hbx
    rw [length_casts]
    clear hval hb hv hc hv1 e2
    obtain ⟨hlt, h0, h1⟩ := hbx
    go_wp2
    go_loop [3, 12] (fun s i => ∃ k : Nat, k ≤ ns.length ∧ i = .int .i64 k ∧ s = .int .i64 (part ns wd one k 0)) (fun _ i => ns.length - (intOf i).toNat)
    case atStart => exact ⟨0, by omega, rfl, by simp [part, sumN]⟩
    case round =>
      obtain ⟨k, hk, rfl, rfl⟩ := hrel
      have hbd := part_bd (ns := ns) (w := wd) one_bd (k := k) (m := 0) (by omega) w6 (by omega) (.inr rfl)
      have hst := one_step ns wd k
      obtain ⟨S, eS⟩ : ∃ S, S = part ns wd one k 0 := ⟨_, rfl⟩
      rw [← eS] at hbd hst ⊢
      have HS := Lib.hid eS
      clear eS
      by_cases hlt' : k < ns.length
      · have hcell := HC.out k (by rw [length_casts]; exact hlt')
        rw [casts_getD] at hcell
        have hr64 := hi.get64 k
        have hpm : pop 6 (ns.getD k 0) = pop wd (ns.getD k 0) := pop_more (hi.get k) w6
        rw [← hpm] at hst
        have hpb := pop_bd 6 (ns.getD k 0)
        obtain ⟨r, er⟩ : ∃ r, r = ns.getD k 0 := ⟨_, rfl⟩
        rw [← er] at hcell hr64 hst hpb
        obtain ⟨p, ep⟩ : ∃ p, p = pop 6 r := ⟨_, rfl⟩
        rw [← ep] at hst hpb
        have HST := Lib.hid hst
        have HP := Lib.hid ep
        clear er ep hst hpm
        have ew : IntKind.i64.wrap (S + p) = S + p := IntWalk.i64_in _ ⟨by omega, by omega⟩
        go_wp2_with fail
        refine (ones_c r hr64 _).mono ?_
        rintro e w3 ⟨rfl, rfl⟩
        rw [← HP.out]
        go_wp2
        go_round
        case rel => exact ⟨k + 1, by omega, by go_num, by rw [HST.out]⟩
        case measure => simp [intOf]; omega
      · go_wp2
        go_returns
        obtain rfl : k = ns.length := by omega
        exact ⟨ri (by rw [HVAL.out, HS.out, part_all]), hB⟩
end Go.Proofs.Ytehoaagnpidnbaa
