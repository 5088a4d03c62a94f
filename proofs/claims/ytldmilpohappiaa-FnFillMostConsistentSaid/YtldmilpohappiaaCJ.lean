/- Contract of conjugate: how many of the numbers are greater than k, for each k. Conditions: at most six numbers from 0 to n, n at most 6. -/
import Derived.Test.YtldmilpohappiaaPV2
import Derived.Test.YtldmilpohappiaaFQ
namespace Go.Proofs.Ytldmilpohappiaa
open Go Go.RowKit
/-- The counts of the first i numbers, the first k of them one more. -/
def conjK (xs : List Int) (n i k : Nat) : List Int := (List.range n).map fun p : Nat => ((above (p : Int) (xs.take i) : Nat) : Int) + (if p < k then 1 else 0)
theorem length_conjK (xs : List Int) (n i k : Nat) : (conjK xs n i k).length = n := by simp [conjK]
theorem conjK_at {xs : List Int} {n i k p : Nat} (h : p < n) : (conjK xs n i k).getD p 0 = ((above (p : Int) (xs.take i) : Nat) : Int) + (if p < k then 1 else 0) := by
  simp [conjK, List.getD_eq_getElem?_getD, h]
theorem above_nil (t : Int) : above t [] = 0 := rfl
theorem conjK_zero (xs : List Int) (n : Nat) : conjK xs n 0 0 = List.replicate n 0 := by
  apply List.ext_getElem
  · simp [conjK]
  · intro p h1 h2
    simp [conjK, above_nil]
theorem conjK_step {xs : List Int} {n i k : Nat} (hk : k < n) : (conjK xs n i k).set k ((conjK xs n i k).getD k 0 + 1) = conjK xs n i (k + 1) := by
  apply List.ext_getElem
  · simp [conjK]
  · intro p h1 h2
    rw [List.getElem_set]
    by_cases e : k = p
    · subst e
      rw [if_pos rfl, conjK_at hk]
      simp [conjK]
    · rw [if_neg e]
      have : p < k + 1 ↔ p < k := by omega
      simp [conjK, this]
theorem above_snoc (t x : Int) (xs : List Int) : above t (xs ++ [x]) = above t xs + (if t < x then 1 else 0) := by
  unfold above
  rw [List.filter_append, List.length_append]
  by_cases h : t < x <;> simp [h]
theorem conjK_next {xs : List Int} {n i m : Nat} (hi : i < xs.length) (hx : xs.getD i 0 = (m : Int)) : conjK xs n i m = conjK xs n (i + 1) 0 := by
  have ht : xs.take (i + 1) = xs.take i ++ [(m : Int)] := by rw [← hx]; exact take_snoc_i hi
  apply List.ext_getElem
  · simp [conjK]
  · intro p h1 h2
    simp only [conjK, List.getElem_map, List.getElem_range]
    rw [ht, above_snoc]
    by_cases h : p < m
    · have h' : (p : Int) < (m : Int) := by omega
      simp [h]
    · have h' : ¬ (p : Int) < (m : Int) := by omega
      simp [h]
theorem conjK_all (xs : List Int) (n : Nat) : conjK xs n xs.length 0 = conjL xs n := by
  apply List.ext_getElem
  · simp [conjK, conjL]
  · intro p h1 h2
    simp [conjK, conjL]
set_option maxHeartbeats 2000000 in
theorem conjugate_c (v : Value) (xs : List Int) (n : Nat) (hn : n ≤ 6) (h6 : xs.length ≤ 6) (hx : ∀ x ∈ xs, 0 ≤ x ∧ x ≤ n) (w : World) (hv : Ints w.heap.size w v xs) :
    Calls Try.prog 39 #[v, .int .i64 (n : Int)] w fun e w' => ∃ g, e = .returned (.slice (some ⟨g, 0, none⟩) n n) ∧ w.heap.size ≤ g ∧ Row w' g (conjL xs n) ∧ Below w.heap.size w w' := by
  obtain ⟨A, cap, rfl⟩ := hv.len
  have hmk := mk_ints n (by omega)
  have hrow := Row.made w n
  have HXX := Lib.hid hx
  clear hx
  go_enter Try.func39, Try.ntmps39
  go_wp2
  go_loopw [13] (fun q wr => ∃ i : Nat, i ≤ xs.length ∧ q = .int .i64 (i : Int) ∧ Row wr w.heap.size (conjK xs n i 0) ∧ Below w.heap.size w wr) (fun q _ => xs.length - (intOf q).toNat)
  case atStart => exact ⟨0, by omega, rfl, by rw [conjK_zero]; exact hrow, by go_grown⟩
  case round =>
    obtain ⟨i, hi, rfl, hR, hB⟩ := hrel
    clear hmk hrow
    by_cases hlt : i < xs.length
    · have hii : (i : Int) < (xs.length : Int) := by omega
      obtain ⟨b, off, cap', e, hbl, hc⟩ := hv.row (by omega)
      injection e with e1 _ e3
      subst e1 e3
      have hcx := (hB.cell (p := ⟨b, off + i, none⟩) hbl).trans (hc i hlt)
      have hxm : xs.getD i 0 ∈ xs := by rw [List.getD_eq_getElem?_getD, List.getElem?_eq_getElem hlt]; exact List.getElem_mem hlt
      have hxb := HXX.out _ hxm
      obtain ⟨m, em⟩ : ∃ m : Nat, xs.getD i 0 = (m : Int) := ⟨(xs.getD i 0).toNat, by omega⟩
      rw [em] at hcx hxb
      have hmn : m ≤ n := by omega
      have HNX := Lib.hid (conjK_next (n := n) hlt em)
      have HR := Lib.hid (And.intro hR hB)
      clear hxm hxb em hc hv hR
      go_wp2
      go_loopw [18] (fun q wr => ∃ k : Nat, k ≤ m ∧ q = .int .i64 (k : Int) ∧ Row wr w.heap.size (conjK xs n i k) ∧ Below w.heap.size w wr) (fun q _ => m - (intOf q).toNat)
      case atStart => exact ⟨0, by omega, rfl, HR.out.1, HR.out.2⟩
      case round =>
        obtain ⟨k, hk, rfl, hR2, hB2⟩ := hrel
        by_cases hkm : k < m
        · have hki : (k : Int) < (m : Int) := by omega
          have hkn : k < (conjK xs n i k).length := by rw [length_conjK]; omega
          have hcell := hR2.cell hkn
          have hat := conjK_at (xs := xs) (i := i) (k := k) (show k < n by omega)
          have hal := above_le (k : Int) (xs.take i)
          have hal2 : (xs.take i).length ≤ 6 := by rw [List.length_take]; omega
          have hstep := conjK_step (xs := xs) (i := i) (show k < n by omega)
          have hset := hR2.set hkn ((conjK xs n i k).getD k 0 + 1)
          rw [hstep] at hset
          have hfr := hR2.frozen k
          obtain ⟨y, ey⟩ : ∃ y, y = (conjK xs n i k).getD k 0 := ⟨_, rfl⟩
          rw [← ey] at hcell hset hat
          have hy : 0 ≤ y ∧ y ≤ 7 := by rw [hat]; split <;> omega
          have hkn' : (k : Int) < (n : Int) := by omega
          have HS := Lib.hid (And.intro hset (hB2.setCell (p := ⟨w.heap.size, k, none⟩) (Nat.le_refl _) (.int .i64 (y + 1))))
          clear hat hal hal2 hstep hset ey hR2 hB2 hkn
          go_wp2
          go_roundw
          case rel => exact ⟨k + 1, by omega, by go_num, HS.out.1, HS.out.2⟩
          case measure => simp [intOf]; omega
        · obtain rfl : k = m := by omega
          have hki : ¬ ((k : Int) < (k : Int)) := by omega
          rw [HNX.out] at hR2
          have HS := Lib.hid (And.intro hR2 hB2)
          clear hR2 hB2
          go_wp2
          go_roundw
          case rel => exact ⟨i + 1, by omega, by go_num, HS.out.1, HS.out.2⟩
          case measure => simp [intOf]; omega
    · obtain rfl : i = xs.length := by omega
      have hii : ¬ ((xs.length : Int) < (xs.length : Int)) := by omega
      rw [conjK_all] at hR
      go_wp2
      go_returns
      exact ⟨w.heap.size, rfl, Nat.le_refl _, hR, hB⟩
end Go.Proofs.Ytldmilpohappiaa
