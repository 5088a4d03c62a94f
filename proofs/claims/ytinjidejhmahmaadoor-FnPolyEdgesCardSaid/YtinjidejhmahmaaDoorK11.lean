/- Contracts of the moments as the specification counts them. Conditions: the slice reads as a list of integers. -/
import Derived.Test.YtinjidejhmahmaaDoorK10
namespace Go.Proofs.YtinjidejhmahmaaDoor
open Go.RowKit
/-- The sum over k full rows and m cells of the next. -/
def part (ns : List Nat) (w : Nat) (f : Nat → Nat → Int) (k m : Nat) : Int := sumN k (fun i => sumN w fun j => f i j * b2i (cell ns i j)) + sumN m fun j => f k j * b2i (cell ns k j)
theorem part_step (ns : List Nat) (w : Nat) (f : Nat → Nat → Int) (k m : Nat) : part ns w f k (m + 1) = part ns w f k m + f k m * b2i (cell ns k m) := by
  simp only [part, sumN]; omega
theorem part_row (ns : List Nat) (w : Nat) (f : Nat → Nat → Int) (k : Nat) : part ns w f (k + 1) 0 = part ns w f k w := by simp only [part, sumN]; omega
theorem part_all (ns : List Nat) (w : Nat) (f : Nat → Nat → Int) : part ns w f ns.length 0 = mom w ns f := by simp [part, mom, sumN]
theorem part_bd {ns : List Nat} {w : Nat} {f : Nat → Nat → Int} (hf : ∀ i j, i < 6 → j < 6 → 0 ≤ f i j ∧ f i j ≤ 25) {k m : Nat} (hk : k ≤ 6) (hw : w ≤ 6) (hm : m ≤ w) (hkm : k < 6 ∨ m = 0) : 0 ≤ part ns w f k m ∧ part ns w f k m ≤ 1050 := by
  have hb : ∀ i j, i < 6 → j < 6 → 0 ≤ f i j * b2i (cell ns i j) ∧ f i j * b2i (cell ns i j) ≤ 25 := by
    intro i j hi hj
    have := hf i j hi hj
    cases cell ns i j <;> simp [b2i] <;> omega
  have h1 : ∀ i, i < k → 0 ≤ (sumN w fun j => f i j * b2i (cell ns i j)) ∧ (sumN w fun j => f i j * b2i (cell ns i j)) ≤ 150 := by
    intro i hi
    have := sumN_bd (n := w) (f := fun j => f i j * b2i (cell ns i j)) (c := 25) fun j hj => hb i j (by omega) (by omega)
    omega
  have h2 := sumN_bd (n := k) (f := fun i => sumN w fun j => f i j * b2i (cell ns i j)) (c := 150) h1
  have h3 : 0 ≤ (sumN m fun j => f k j * b2i (cell ns k j)) ∧ (sumN m fun j => f k j * b2i (cell ns k j)) ≤ 150 := by
    rcases hkm with hkm | rfl
    · have := sumN_bd (n := m) (f := fun j => f k j * b2i (cell ns k j)) (c := 25) fun j hj => hb k j hkm (by omega)
      omega
    · simp [sumN]
  unfold part
  omega
theorem prod_bd {p : Int} (c : Bool) (h : 0 ≤ p ∧ p ≤ 25) : 0 ≤ p * b2i c ∧ p * b2i c ≤ 25 := by cases c <;> simp [b2i] <;> omega
set_option maxHeartbeats 1000000 in
theorem sMomentCross_c (W : Int) (v : Value) (rows : List Int) (w : World) (hv : Ints w.heap.size w v rows) :
    Calls Tryd.prog 17 #[.agg #[.int .i64 W, v]] w fun e w' => e = .returned (.int .i64 (val0 (-1) f_MomentCross_1 W rows)) ∧ Below w.heap.size w w' := by
  obtain ⟨A, cap, rfl⟩ := hv.len
  go_enter Tryd.func17, Tryd.ntmps17
  go_wp2_with fail
  refine (sImageValid_c W _ rows _ (hv.alloc (Nat.le_refl _) _ |>.more (by simp))).mono ?_
  rintro e w1 ⟨rfl, hb⟩
  have hB : Below w.heap.size w w1 := ((Below.refl w.heap.size w).alloc (Nat.le_refl _) _).trans (hb.mono (by simp))
  have hbx := (Box2.new w (.int .i64 W) (.slice A rows.length cap) 27).below hb (by simp)
  cases hval : validB W rows with
  | false =>
    go_wp2
    go_returns
    exact ⟨ri (val0_no hval).symm, hB⟩
  | true =>
    obtain ⟨wd, ns, rfl, rfl, hi⟩ := validB_yes hval
    have h6 := hi.h6
    have w6 := hi.w6
    have hval0 := val0_yes (d := -1) (f := f_MomentCross_1) hi
    have HVAL := Lib.hid hval0
    have hv1 := (hv.below hB).more hB.size
    rw [length_casts] at hbx
    rw [length_casts] at hv1 ⊢
    clear hval hval0 hb hv
    have hB1 : Below w1.heap.size w1 w1 := Below.refl _ _
    obtain ⟨hlt, h0, h1⟩ := hbx
    go_wp2
    go_loopw [3, 4] (fun s i wr => ∃ k : Nat, k ≤ ns.length ∧ i = .int .i64 k ∧ s = .int .i64 (part ns wd f_MomentCross_1 k 0) ∧ Below w1.heap.size w1 wr) (fun _ i _ => ns.length - (intOf i).toNat)
    case atStart => exact ⟨0, by omega, rfl, by simp [part, sumN], hB1⟩
    case round =>
      obtain ⟨k, hk, rfl, rfl, hBk⟩ := hrel
      have g0 := cell_below hBk h0
      have g1 := cell_below hBk h1
      obtain ⟨S0, eS0⟩ : ∃ S, S = part ns wd f_MomentCross_1 k 0 := ⟨_, rfl⟩
      rw [← eS0]
      have HS0 := Lib.hid eS0
      clear eS0
      by_cases hlt' : k < ns.length
      · go_wp2
        go_loopw [3, 5] (fun s j ws => ∃ m : Nat, m ≤ wd ∧ j = .int .i64 m ∧ s = .int .i64 (part ns wd f_MomentCross_1 k m) ∧ Below w1.heap.size w1 ws) (fun _ j _ => wd - (intOf j).toNat)
        case atStart => exact ⟨0, by omega, rfl, by rw [HS0.out], hBk⟩
        case round =>
          obtain ⟨m, hm, rfl, rfl, hBm⟩ := hrel
          have e0 := cell_below hBm h0
          have e1 := cell_below hBm h1
          have hbd := part_bd (ns := ns) (w := wd) bd_MomentCross_1 (k := k) (m := m) (by omega) w6 hm (.inl (by omega))
          have hst := part_step ns wd f_MomentCross_1 k m
          have hst' := part_row ns wd f_MomentCross_1 k
          obtain ⟨S, eS⟩ : ∃ S, S = part ns wd f_MomentCross_1 k m := ⟨_, rfl⟩
          rw [← eS] at hbd hst ⊢
          have HSS := Lib.hid eS
          have HST := Lib.hid hst
          have HSR := Lib.hid hst'
          clear eS hst hst' g0 g1
          by_cases hmt : m < wd
          · have hvm := (hv1.below hBm).more hBm.size
            have hf := bd_MomentCross_1 k m (by omega) (by omega)
            have hq := prod_bd (cell ns k m) hf
            have hfv : f_MomentCross_1 k m = (k : Int) * m := rfl
            rw [hfv] at hf hq
            obtain ⟨x, ex⟩ : ∃ x, x = b2i (cell ns k m) := ⟨_, rfl⟩
            have hst := HST.out
            rw [← ex] at hq hst
            rw [hfv] at hst
            have HST := Lib.hid hst
            clear hst
            have hbS := hbd
            have ew1 : IntKind.i64.wrap ((k : Int) * m) = (k : Int) * m := IntWalk.i64_in _ ⟨by omega, by omega⟩
            have ew2 : IntKind.i64.wrap ((k : Int) * m * x) = (k : Int) * m * x := IntWalk.i64_in _ ⟨by omega, by omega⟩
            have ew3 : IntKind.i64.wrap (S + (k : Int) * m * x) = S + (k : Int) * m * x := IntWalk.i64_in _ ⟨by omega, by omega⟩
            have HX := Lib.hid ex
            clear ex hf hq hfv
            go_wp2_with fail
            refine (l11Get_c (wd : Int) _ ns k m hlt' (by omega) (by have := hi.get64 k; omega) _ hvm).mono ?_
            rintro e w3 ⟨rfl, hb3⟩
            rw [← HX.out]
            go_wp2
            go_roundw
            case rel => exact ⟨m + 1, by omega, by go_num, by rw [HST.out], hBm.trans (hb3.mono hBm.size)⟩
            case measure => simp [intOf]; omega
          · obtain rfl : m = wd := by omega
            go_wp2
            go_roundw
            case rel => exact ⟨k + 1, by omega, by go_num, by rw [HSR.out, HSS.out], hBm⟩
            case measure => simp [intOf]; omega
      · go_wp2
        go_returns
        obtain rfl : k = ns.length := by omega
        exact ⟨ri (by rw [HVAL.out, HS0.out, part_all]), hB.trans (hBk.mono hB.size)⟩
end Go.Proofs.YtinjidejhmahmaaDoor
