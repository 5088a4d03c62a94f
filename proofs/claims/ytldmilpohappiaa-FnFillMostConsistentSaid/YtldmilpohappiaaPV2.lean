/- Contracts of PartValid, PartSum, PartBelow where partitions are given. Conditions: one to six numbers from 0 to 6 in descending order. -/
import Derived.Test.YtldmilpohappiaaPV1
namespace Go.Proofs.Ytldmilpohappiaa
open Go Go.RowKit
theorem PartValid_c (v : Value) (xs : List Int) (hp : Part xs) (w : World) (hv : Ints w.heap.size w v xs) :
    Calls Try.prog 50 #[v] w fun e w' => e = .returned (.bool true) ∧ Below w.heap.size w w' := by
  have H1 := inParts_c v xs hp.sm w hv
  have H2 := isSorted_c v xs hp w hv
  obtain ⟨A, cap, rfl⟩ := hv.len
  go_enter Try.func50, Try.ntmps50
  go_wp2_with fail
  refine H1.mono ?_
  rintro e w' ⟨rfl, rfl⟩
  go_wp2_with fail
  refine H2.mono ?_
  rintro e w' ⟨rfl, hb⟩
  go_wp2
  go_returns
  exact ⟨rfl, hb⟩
theorem Ints.takeI {B b off cap m : Nat} {w : World} {xs : List Int} (hb : b < B) (hc : ∀ k, k < xs.length → w.cell? ⟨b, off + k, none⟩ = some (.int .i64 (xs.getD k 0))) (hm : m ≤ xs.length) : Ints B w (.slice (some ⟨b, off, none⟩) m cap) (xs.take m) := by
  refine .inr ⟨b, off, cap, by rw [List.length_take, Nat.min_eq_left hm], hb, fun k hk => ?_⟩
  rw [List.length_take, Nat.min_eq_left hm] at hk
  rw [hc k (by omega)]
  simp only [List.getD_eq_getElem?_getD, List.getElem?_take, if_pos hk]
set_option maxHeartbeats 1000000 in
theorem PartSum_c (A : Option Addr) (cap : Nat) (xs : List Int) (hcap : xs.length ≤ cap) (k : Nat) (hk : k ≤ 6) (hp : Part xs) (w : World) (hv : Ints w.heap.size w (.slice A xs.length cap) xs) :
    Calls Try.prog 51 #[.slice A xs.length cap, .int .i64 (k : Int)] w fun e w' => e = .returned (.int .i64 (xs.take k).sum) ∧ Below w.heap.size w w' := by
  have H1 := PartValid_c _ xs hp w hv
  obtain ⟨b, off, cap', e, hbl, hc⟩ := hv.row hp.sm.h1
  injection e with e1 e2 e3
  subst e1 e3
  have h6 := hp.sm.h6
  have hk0 : ¬ (k : Int) < 0 := by omega
  by_cases hkl : k ≤ xs.length
  · have HT := fun (W : World) (hb : Below w.heap.size w W) => total_c (.slice (some ⟨b, off, none⟩) k cap) (xs.take k) (by rw [List.length_take]; omega) (fun x hx => hp.sm.bd x (List.mem_of_mem_take hx)) W (Ints.takeI (Nat.lt_of_lt_of_le hbl hb.size) (fun i hi => (hb.cell hbl).trans (hc i hi)) hkl)
    have hki : (k : Int) ≤ (xs.length : Int) := by omega
    have hkc : k ≤ cap := by omega
    clear hc hv hp
    go_enter Try.func51, Try.ntmps51
    go_wp2_with fail
    refine H1.mono ?_
    rintro e w' ⟨rfl, hb⟩
    go_wp2_with fail
    with_reducible refine (HT w' hb).mono ?_
    rintro e w'' ⟨rfl, rfl⟩
    go_wp2
    go_returns
    exact ⟨rfl, hb⟩
  · have htk : (xs.take k).sum = xs.sum := by rw [List.take_of_length_le (by omega)]
    have HT := fun (W : World) (hb : Below w.heap.size w W) => total_c (.slice (some ⟨b, off, none⟩) xs.length cap) xs h6 hp.sm.bd W ((hv.below hb).more hb.size)
    rw [htk]
    have hki : ¬ (k : Int) ≤ (xs.length : Int) := by omega
    clear hc hv hp htk
    go_enter Try.func51, Try.ntmps51
    go_wp2_with fail
    refine H1.mono ?_
    rintro e w' ⟨rfl, hb⟩
    go_wp2_with fail
    with_reducible refine (HT w' hb).mono ?_
    rintro e w'' ⟨rfl, rfl⟩
    go_wp2
    go_returns
    exact ⟨rfl, hb⟩
set_option maxHeartbeats 2000000 in
theorem PartBelow_c (A A' : Option Addr) (cap cap' : Nat) (xs ys : List Int) (hcap : xs.length ≤ cap) (hcap' : ys.length ≤ cap') (hp : Part xs) (hq : Part ys) (w : World) (hu : Ints w.heap.size w (.slice A xs.length cap) xs) (hv : Ints w.heap.size w (.slice A' ys.length cap') ys) :
    Calls Try.prog 37 #[.slice A xs.length cap, .slice A' ys.length cap'] w fun e w' => e = .returned (.bool (decide (xs.sum = ys.sum) && (List.range 6).all fun k => decide ((xs.take k).sum ≤ (ys.take k).sum))) ∧ Below w.heap.size w w' := by
  have hP := Lib.hid (And.intro hp hq)
  have hI := hu
  have hJ := hv
  have hW := Below.refl w.heap.size w
  clear hu hv
  have b1 := hp.sm.bd
  have b2 := hq.sm.bd
  have h61 := hp.sm.h6
  have h62 := hq.sm.h6
  have HB := Lib.hid (And.intro b1 b2)
  clear hp hq b1 b2
  go_enter Try.func37, Try.ntmps37
  go_wp2_with fail
  refine (PartValid_c _ xs hP.out.1 _ hI).mono ?_
  rintro e wc ⟨rfl, hb⟩
  replace hW := hW.trans (Below.mono hb hW.size)
  replace hI := (hI.below hb).more (Below.size hb)
  replace hJ := (hJ.below hb).more (Below.size hb)
  go_wp2_with fail
  refine (PartValid_c _ ys hP.out.2 _ hJ).mono ?_
  rintro e wc ⟨rfl, hb⟩
  replace hW := hW.trans (Below.mono hb hW.size)
  replace hI := (hI.below hb).more (Below.size hb)
  replace hJ := (hJ.below hb).more (Below.size hb)
  go_wp2_with fail
  refine (total_c _ xs h61 HB.out.1 _ hI).mono ?_
  rintro e w' ⟨rfl, rfl⟩
  go_wp2_with fail
  refine (total_c _ ys h62 HB.out.2 _ hJ).mono ?_
  rintro e w' ⟨rfl, rfl⟩
  by_cases hs : xs.sum = ys.sum
  · have HD := Lib.hid (show decide (xs.sum = ys.sum) = true by simp [hs])
    rw [hs]
    have hse : (ys.sum == ys.sum) = true := by simp
    have HX := Lib.hid (And.intro hI (And.intro hJ hW))
    clear hI hJ hW hs
    obtain ⟨wb, ewb⟩ : ∃ W, W = wc := ⟨_, rfl⟩
    subst ewb
    obtain ⟨S, eS⟩ : ∃ S, S = ys.sum := ⟨_, rfl⟩
    rw [← eS]
    clear eS hse
    go_wp2_with fail
    go_loopw [21] (fun q wr => ∃ k : Nat, k ≤ 6 ∧ q = .int .i64 (k : Int) ∧ (∀ j, j < k → (xs.take j).sum ≤ (ys.take j).sum) ∧ Below wb.heap.size wb wr) (fun q _ => 6 - (intOf q).toNat)
    case atStart => exact ⟨0, by omega, rfl, fun j hj => absurd hj (Nat.not_lt_zero _), Below.refl _ _⟩
    case round =>
      obtain ⟨k, hk, rfl, hall, hbr⟩ := hrel
      have HA := Lib.hid hall
      have hI := (HX.out.1.below hbr).more hbr.size
      have hJ := (HX.out.2.1.below hbr).more hbr.size
      have hW := HX.out.2.2.trans (hbr.mono HX.out.2.2.size)
      clear hall
      by_cases hlt : k < 6
      · have hki : (k : Int) < 6 := by omega
        go_wp2_with fail
        refine (PartSum_c A cap xs hcap k hk hP.out.1 _ hI).mono ?_
        rintro e wc ⟨rfl, hb⟩
        replace hW := hW.trans (Below.mono hb hW.size)
        replace hbr := hbr.trans (Below.mono hb hbr.size)
        replace hI := (hI.below hb).more (Below.size hb)
        replace hJ := (hJ.below hb).more (Below.size hb)
        go_wp2_with fail
        refine (PartSum_c A' cap' ys hcap' k hk hP.out.2 _ hJ).mono ?_
        rintro e wc ⟨rfl, hb⟩
        replace hW := hW.trans (Below.mono hb hW.size)
        replace hbr := hbr.trans (Below.mono hb hbr.size)
        replace hI := (hI.below hb).more (Below.size hb)
        replace hJ := (hJ.below hb).more (Below.size hb)
        by_cases hle : (xs.take k).sum ≤ (ys.take k).sum
        · have hng : ¬ (ys.take k).sum < (xs.take k).sum := by omega
          have HF := Lib.hid (And.intro (show ∀ j, j < k + 1 → (xs.take j).sum ≤ (ys.take j).sum from fun j hj => by
            by_cases h : j = k
            · rw [h]; exact hle
            · exact HA.out j (by omega)) hbr)
          clear hle hbr
          obtain ⟨s1, es1⟩ : ∃ s, s = (xs.take k).sum := ⟨_, rfl⟩
          obtain ⟨s2, es2⟩ : ∃ s, s = (ys.take k).sum := ⟨_, rfl⟩
          rw [← es1, ← es2] at hng
          rw [← es1, ← es2]
          clear es1 es2
          go_wp2
          go_roundw
          case rel => exact ⟨k + 1, by omega, by go_num, HF.out.1, HF.out.2⟩
          case measure => simp [intOf]; omega
        · have hg : (ys.take k).sum < (xs.take k).sum := by omega
          have HF := Lib.hid (show ((List.range 6).all fun k => decide ((xs.take k).sum ≤ (ys.take k).sum)) = false by
            rw [List.all_eq_false]
            exact ⟨k, List.mem_range.2 hlt, by simp; omega⟩)
          obtain ⟨s1, es1⟩ : ∃ s, s = (xs.take k).sum := ⟨_, rfl⟩
          obtain ⟨s2, es2⟩ : ∃ s, s = (ys.take k).sum := ⟨_, rfl⟩
          rw [← es1, ← es2] at hg
          rw [← es1, ← es2]
          clear es1 es2 hle
          go_wp2
          go_returns
          exact ⟨rb (by rw [HD.out, HF.out]; rfl), hW⟩
      · obtain rfl : k = 6 := by omega
        have HF := Lib.hid (show ((List.range 6).all fun k => decide ((xs.take k).sum ≤ (ys.take k).sum)) = true by
          rw [List.all_eq_true]
          exact fun j hj => by rw [decide_eq_true_eq]; exact HA.out j (List.mem_range.1 hj))
        clear hbr
        go_wp2
        go_returns
        exact ⟨rb (by rw [HD.out, HF.out]; rfl), hW⟩
  · have HD := Lib.hid (show decide (xs.sum = ys.sum) = false by simp [hs])
    obtain ⟨s1, es1⟩ : ∃ s, s = xs.sum := ⟨_, rfl⟩
    obtain ⟨s2, es2⟩ : ∃ s, s = ys.sum := ⟨_, rfl⟩
    rw [← es1, ← es2] at hs
    rw [← es1, ← es2]
    clear es1 es2
    have hse : (s1 == s2) = false := by simp [hs]
    go_wp2
    go_returns
    exact ⟨rb (by rw [HD.out]; rfl), hW⟩
end Go.Proofs.Ytldmilpohappiaa
