/- Plain laws: the lists with which the search begins, made place by place. No condition beyond those that the theorems name. -/
import Derived.Test.YtehoaagnpidnbaaFPC
namespace Go.Proofs.Ytehoaagnpidnbaa
/-- The places known after k rows, of all places. -/
def parI (n : Nat) (ns : List Nat) (rs : List Int) (m k : Nat) : List Int := (List.range m).map fun q => if q < k ∧ rootB n ns rs q = true then (q : Int) else -1
/-- The queue after k places. -/
def workI (n : Nat) (ns : List Nat) (rs : List Int) (k : Nat) : List Nat := (List.range k).filter (rootB n ns rs)
theorem parI_len (n : Nat) (ns : List Nat) (rs : List Int) (m k : Nat) : (parI n ns rs m k).length = m := by simp [parI]
theorem parI_at {n : Nat} {ns : List Nat} {rs : List Int} {m k q : Nat} (hq : q < m) : (parI n ns rs m k).getD q 0 = if q < k ∧ rootB n ns rs q = true then (q : Int) else -1 := by
  simp only [parI, List.getD_eq_getElem?_getD, List.getElem?_map, List.getElem?_range hq, Option.map_some, Option.getD_some]
theorem parI_zero (n : Nat) (ns : List Nat) (rs : List Int) (m : Nat) : parI n ns rs m 0 = List.replicate m (-1) := by
  apply List.ext_getElem
  · simp [parI]
  · intro j h1 h2
    simp [parI]
theorem parI_no {n : Nat} {ns : List Nat} {rs : List Int} {m k : Nat} (h : rootB n ns rs k = false) : parI n ns rs m (k + 1) = parI n ns rs m k := by
  unfold parI
  refine List.map_congr_left fun q _ => ?_
  by_cases e : q = k
  · subst e
    rw [h, if_neg (fun h => by cases h.2), if_neg (fun h => by cases h.2)]
  · by_cases e2 : q < k ∧ rootB n ns rs q = true
    · rw [if_pos e2, if_pos ⟨by omega, e2.2⟩]
    · rw [if_neg e2, if_neg (fun h => e2 ⟨by omega, h.2⟩)]
theorem parI_yes {n : Nat} {ns : List Nat} {rs : List Int} {m k : Nat} (hk : k < m) (h : rootB n ns rs k = true) : (parI n ns rs m k).set k (k : Int) = parI n ns rs m (k + 1) := by
  apply List.ext_getElem
  · simp [parI]
  · intro j h1 h2
    have hj : j < m := by simpa [parI] using h2
    rw [List.getElem_set]
    by_cases e : k = j
    · subst e
      rw [if_pos rfl]
      simp only [parI, List.getElem_map, List.getElem_range]
      rw [if_pos ⟨by omega, h⟩]
    · rw [if_neg e]
      simp only [parI, List.getElem_map, List.getElem_range]
      by_cases e2 : j < k ∧ rootB n ns rs j = true
      · rw [if_pos e2, if_pos ⟨by omega, e2.2⟩]
      · rw [if_neg e2, if_neg (fun h => e2 ⟨by omega, h.2⟩)]
theorem parI_end (n : Nat) (ns : List Nat) (rs : List Int) : parI n ns rs (ns.length + n) ns.length = par0 n ns rs := by
  unfold parI par0
  refine List.map_congr_left fun q _ => ?_
  by_cases e : rootB n ns rs q = true
  · have : q < ns.length := by
      simp only [rootB, Bool.and_eq_true, decide_eq_true_eq] at e
      exact e.1
    rw [if_pos ⟨this, e⟩, if_pos e]
  · rw [if_neg (fun h => e h.2), if_neg e]
theorem workI_zero (n : Nat) (ns : List Nat) (rs : List Int) : workI n ns rs 0 = [] := rfl
theorem workI_yes {n : Nat} {ns : List Nat} {rs : List Int} {k : Nat} (h : rootB n ns rs k = true) : workI n ns rs (k + 1) = workI n ns rs k ++ [k] := by
  unfold workI
  rw [List.range_succ, List.filter_append, List.filter_cons_of_pos h, List.filter_nil]
theorem workI_no {n : Nat} {ns : List Nat} {rs : List Int} {k : Nat} (h : rootB n ns rs k = false) : workI n ns rs (k + 1) = workI n ns rs k := by
  unfold workI
  rw [List.range_succ, List.filter_append, List.filter_cons_of_neg (by rw [h]; decide), List.filter_nil, List.append_nil]
theorem rootB_big {n : Nat} {ns : List Nat} {rs : List Int} {q : Nat} (h : ns.length ≤ q) : rootB n ns rs q = false := by
  unfold rootB
  rw [decide_eq_false (by omega)]
  rfl
theorem workI_more (n : Nat) (ns : List Nat) (rs : List Int) : ∀ k, workI n ns rs (ns.length + k) = workI n ns rs ns.length
  | 0 => rfl
  | k + 1 => by rw [← Nat.add_assoc, workI_no (rootB_big (by omega)), workI_more n ns rs k]
theorem workI_end (n : Nat) (ns : List Nat) (rs : List Int) : workI n ns rs ns.length = work0 n ns rs := (workI_more n ns rs n).symm
theorem workI_len (n : Nat) (ns : List Nat) (rs : List Int) (k : Nat) : (workI n ns rs k).length ≤ k := by
  unfold workI
  exact Nat.le_trans (List.length_filter_le _ _) (by simp)
theorem workI_lt {n : Nat} {ns : List Nat} {rs : List Int} {k q : Nat} (h : q ∈ workI n ns rs k) : q < k := List.mem_range.1 (List.mem_filter.1 h).1
/-- The places known after k places, without those behind them. -/
def parS (n : Nat) (ns : List Nat) (rs : List Int) (k : Nat) : List Int := (List.range k).map fun q => if rootB n ns rs q = true then (q : Int) else -1
theorem parS_len (n : Nat) (ns : List Nat) (rs : List Int) (k : Nat) : (parS n ns rs k).length = k := by simp [parS]
theorem parS_no {n : Nat} {ns : List Nat} {rs : List Int} {k : Nat} (h : rootB n ns rs k = false) : parS n ns rs k ++ [-1] = parS n ns rs (k + 1) := by
  unfold parS
  rw [List.range_succ, List.map_append, List.map_singleton, if_neg (by rw [h]; decide)]
theorem parS_yes {n : Nat} {ns : List Nat} {rs : List Int} {k : Nat} (h : rootB n ns rs k = true) : (parS n ns rs k ++ [-1]).set k (k : Int) = parS n ns rs (k + 1) := by
  unfold parS
  rw [List.range_succ, List.map_append, List.map_singleton, if_pos h]
  rw [List.set_append_right _ _ (by simp)]
  simp
theorem parS_end (n : Nat) (ns : List Nat) (rs : List Int) : parS n ns rs (ns.length + n) = par0 n ns rs := rfl
theorem rootB_val {n : Nat} {ns : List Nat} {rs : List Int} {q : Nat} (h : q < ns.length) : rootB n ns rs q = decide ((rowSums n ns).getD q 0 < rs.getD q 0) := by
  unfold rootB
  rw [decide_eq_true h]
  rfl
theorem goalB_val {n : Nat} {ns : List Nat} {cs : List Int} {q : Nat} (h : ns.length ≤ q) : goalB n ns cs q = decide ((colSums n ns).getD (q - ns.length) 0 < cs.getD (q - ns.length) 0) := by
  unfold goalB
  rw [decide_eq_true h]
  rfl
theorem goalB_row {n : Nat} {ns : List Nat} {cs : List Int} {q : Nat} (h : q < ns.length) : goalB n ns cs q = false := by
  unfold goalB
  rw [decide_eq_false (by omega)]
  rfl
/-- The list of the queue as integers. -/
theorem casts_drop (l : List Nat) (k : Nat) : casts (l.drop k) = (casts l).drop k := by simp [casts, List.map_drop]
theorem casts_snoc (l : List Nat) (k : Nat) : casts (l ++ [k]) = casts l ++ [(k : Int)] := by simp [casts]
theorem drop_cons {l : List Nat} {k : Nat} (h : k < l.length) : l.drop k = l.getD k 0 :: l.drop (k + 1) := by
  rw [List.getD_eq_getElem?_getD, List.getElem?_eq_getElem h, Option.getD_some, List.drop_eq_getElem_cons h]
theorem drop_snoc {l : List Nat} {k q : Nat} (h : k ≤ l.length) : (l ++ [q]).drop k = l.drop k ++ [q] := List.drop_append_of_le_length h
end Go.Proofs.Ytehoaagnpidnbaa
