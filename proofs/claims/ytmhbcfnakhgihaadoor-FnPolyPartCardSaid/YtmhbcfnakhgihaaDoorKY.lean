/- Contract of ColSums. Conditions: the image is valid. -/
import Derived.Test.YtmhbcfnakhgihaaDoorKX
namespace Go.Proofs.YtmhbcfnakhgihaaDoor
open Go.RowKit
def colRow (ns : List Nat) (wd k m : Nat) : List Int := (List.range wd).map fun j => sumN (if j < m then k + 1 else k) fun i => b2i (cell ns i j)
theorem colRow_len (ns : List Nat) (wd k m : Nat) : (colRow ns wd k m).length = wd := by simp [colRow]
theorem colRow_at {ns : List Nat} {wd k m j : Nat} (hj : j < wd) : (colRow ns wd k m).getD j 0 = sumN (if j < m then k + 1 else k) fun i => b2i (cell ns i j) := by
  simp only [colRow, List.getD_eq_getElem?_getD, List.getElem?_map, List.getElem?_range hj, Option.map_some, Option.getD_some]
theorem colRow_set {ns : List Nat} {wd k m : Nat} (hm : m < wd) : (colRow ns wd k m).set m ((colRow ns wd k m).getD m 0 + b2i (cell ns k m)) = colRow ns wd k (m + 1) := by
  rw [colRow_at hm, if_neg (Nat.lt_irrefl m)]
  apply List.ext_getElem
  · simp [colRow]
  · intro j h1 h2
    have hj : j < wd := by simpa [colRow] using h2
    rw [List.getElem_set]
    by_cases e : m = j
    · subst e
      simp only [if_true, colRow, List.getElem_map, List.getElem_range, Nat.lt_succ_self, sumN]
    · rw [if_neg e]
      simp only [colRow, List.getElem_map, List.getElem_range]
      by_cases hlt : j < m
      · rw [if_pos hlt, if_pos (by omega)]
      · rw [if_neg hlt, if_neg (by omega)]
theorem colRow_next (ns : List Nat) (wd k : Nat) : colRow ns wd k wd = colRow ns wd (k + 1) 0 := by
  unfold colRow
  refine List.map_congr_left fun j hj => ?_
  rw [if_pos (List.mem_range.1 hj), if_neg (Nat.not_lt_zero j)]
theorem colRow_start (ns : List Nat) (wd : Nat) : colRow ns wd 0 0 = List.replicate wd 0 := by
  apply List.ext_getElem
  · simp [colRow]
  · intro j h1 h2
    simp [colRow, sumN]
theorem colRow_end (ns : List Nat) (wd : Nat) : colRow ns wd ns.length 0 = colSums wd ns := by
  unfold colRow colSums colSum
  refine List.map_congr_left fun j _ => ?_
  rw [if_neg (Nat.not_lt_zero j)]
theorem colRow_bd {ns : List Nat} {wd k m j : Nat} (hk : k < 6) (hj : j < wd) : 0 ≤ (colRow ns wd k m).getD j 0 ∧ (colRow ns wd k m).getD j 0 ≤ 6 := by
  rw [colRow_at hj]
  have := sumN_bd (n := if j < m then k + 1 else k) (f := fun i => b2i (cell ns i j)) (c := 1) fun i _ => b2i_bd _
  have h2 : (if j < m then k + 1 else k) ≤ 6 := by split <;> omega
  omega
end Go.Proofs.YtmhbcfnakhgihaaDoor
