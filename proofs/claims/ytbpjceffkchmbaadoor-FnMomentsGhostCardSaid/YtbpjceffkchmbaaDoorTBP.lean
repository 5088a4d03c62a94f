/- Plain laws of tables: a table made cell by cell. No condition beyond those that the theorems name. -/
import Derived.Test.YtbpjceffkchmbaaDoorKT
namespace Go.Proofs.YtbpjceffkchmbaaDoor
/-- A number of a table. -/
def ent (T : List (List Int)) (i j : Nat) : Int := (T.getD i []).getD j 0
/-- One number written. -/
def putT (T : List (List Int)) (i j : Nat) (z : Int) : List (List Int) := T.set i ((T.getD i []).set j z)
/-- A table of so many rows and columns. -/
structure Szd (h n : Nat) (T : List (List Int)) : Prop where
  len : T.length = h
  wid : ∀ i, i < h → (T.getD i []).length = n
theorem putT_getD {T : List (List Int)} {i : Nat} (hi : i < T.length) (j : Nat) (z : Int) (k : Nat) : (putT T i j z).getD k [] = if k = i then (T.getD i []).set j z else T.getD k [] := by
  unfold putT
  by_cases e : k = i
  · subst e; rw [if_pos rfl, List.getD_eq_getElem?_getD, List.getElem?_set_self hi]; rfl
  · rw [if_neg e, List.getD_eq_getElem?_getD, List.getElem?_set_ne (fun e2 => e e2.symm), List.getD_eq_getElem?_getD]
theorem setD_same {l : List Int} {i : Nat} {z : Int} (hi : i < l.length) : (l.set i z).getD i 0 = z := by
  rw [List.getD_eq_getElem?_getD, List.getElem?_set_self hi]
  rfl
theorem setD_far {l : List Int} {i j : Nat} {z : Int} (h : j ≠ i) : (l.set i z).getD j 0 = l.getD j 0 := by
  rw [List.getD_eq_getElem?_getD, List.getElem?_set_ne (fun e => h e.symm), List.getD_eq_getElem?_getD]
theorem Szd.put {h n : Nat} {T : List (List Int)} (hs : Szd h n T) (i j : Nat) (z : Int) : Szd h n (putT T i j z) := by
  refine ⟨by unfold putT; rw [List.length_set]; exact hs.len, fun k hk => ?_⟩
  by_cases hi : i < T.length
  · rw [putT_getD hi]
    split
    · rw [List.length_set]; exact hs.wid i (by rw [← hs.len]; exact hi)
    · exact hs.wid k hk
  · unfold putT
    rw [List.set_eq_of_length_le (by omega)]
    exact hs.wid k hk
theorem ent_put {h n : Nat} {T : List (List Int)} (hs : Szd h n T) {i j : Nat} (hi : i < h) (hj : j < n) (z : Int) (a b : Nat) : ent (putT T i j z) a b = if a = i ∧ b = j then z else ent T a b := by
  unfold ent
  rw [putT_getD (by rw [hs.len]; exact hi)]
  by_cases e : a = i
  · subst e
    rw [if_pos rfl]
    by_cases e2 : b = j
    · subst e2
      rw [if_pos ⟨rfl, rfl⟩, setD_same (by rw [hs.wid a hi]; exact hj)]
    · rw [if_neg (fun h => e2 h.2), setD_far e2]
  · rw [if_neg e, if_neg (fun h => e h.1)]
theorem szd_ext {h n : Nat} {T U : List (List Int)} (hT : Szd h n T) (hU : Szd h n U) (he : ∀ i j, i < h → j < n → ent T i j = ent U i j) : T = U := by
  apply List.ext_getElem (by rw [hT.len, hU.len])
  intro i h1 h2
  have hi : i < h := by rw [← hT.len]; exact h1
  have t1 := hT.wid i hi
  have u1 := hU.wid i hi
  rw [List.getD_eq_getElem?_getD, List.getElem?_eq_getElem h1, Option.getD_some] at t1
  rw [List.getD_eq_getElem?_getD, List.getElem?_eq_getElem h2, Option.getD_some] at u1
  apply List.ext_getElem (by rw [t1, u1])
  intro j k1 k2
  have := he i j hi (by rw [← t1]; exact k1)
  unfold ent at this
  rw [List.getD_eq_getElem?_getD (l := T), List.getElem?_eq_getElem h1, List.getD_eq_getElem?_getD (l := U), List.getElem?_eq_getElem h2, Option.getD_some, Option.getD_some, List.getD_eq_getElem?_getD, List.getElem?_eq_getElem k1, List.getD_eq_getElem?_getD, List.getElem?_eq_getElem k2] at this
  exact this
def tabF (f : Nat → Nat → Int) (h n : Nat) : List (List Int) := (List.range h).map fun i => (List.range n).map fun j => f i j
theorem tabF_row {f : Nat → Nat → Int} {h n i : Nat} (hi : i < h) : (tabF f h n).getD i [] = (List.range n).map fun j => f i j := by
  unfold tabF
  rw [List.getD_eq_getElem?_getD, List.getElem?_map, List.getElem?_range hi]
  rfl
theorem szd_tabF (f : Nat → Nat → Int) (h n : Nat) : Szd h n (tabF f h n) := ⟨by simp [tabF], fun i hi => by rw [tabF_row hi]; simp⟩
theorem ent_tabF {f : Nat → Nat → Int} {h n i j : Nat} (hi : i < h) (hj : j < n) : ent (tabF f h n) i j = f i j := by
  unfold ent
  rw [tabF_row hi, List.getD_eq_getElem?_getD, List.getElem?_map, List.getElem?_range hj]
  rfl
def zeroT (h n : Nat) : List (List Int) := List.replicate h (List.replicate n 0)
theorem szd_zeroT (h n : Nat) : Szd h n (zeroT h n) := ⟨by simp [zeroT], fun i hi => by simp [zeroT, List.getD_eq_getElem?_getD, List.getElem?_replicate, hi]⟩
theorem ent_zeroT (h n i j : Nat) : ent (zeroT h n) i j = 0 := by
  unfold ent zeroT
  by_cases hi : i < h
  · by_cases hj : j < n <;> simp [List.getD_eq_getElem?_getD, List.getElem?_replicate, hi, hj]
  · simp [List.getD_eq_getElem?_getD, List.getElem?_replicate, hi]
/-- A table written cell by cell. -/
def foldTb (f : Nat → Nat → Int) (h n : Nat) (ps : List (Nat × Nat)) : List (List Int) := ps.foldl (fun T p => putT T p.1 p.2 (f p.1 p.2)) (zeroT h n)
theorem foldTb_snoc (f : Nat → Nat → Int) (h n : Nat) (ps : List (Nat × Nat)) (p : Nat × Nat) : foldTb f h n (ps ++ [p]) = putT (foldTb f h n ps) p.1 p.2 (f p.1 p.2) := by simp [foldTb, List.foldl_append]
theorem szd_fold (f : Nat → Nat → Int) (h n : Nat) (ps : List (Nat × Nat)) : Szd h n (foldTb f h n ps) := by
  induction ps using snoc_ind with
  | h0 => exact szd_zeroT h n
  | h1 l x ih => rw [foldTb_snoc]; exact ih.put _ _ _
theorem ent_fold {f : Nat → Nat → Int} {h n : Nat} (ps : List (Nat × Nat)) (hp : ∀ p ∈ ps, p.1 < h ∧ p.2 < n) (i j : Nat) : ent (foldTb f h n ps) i j = if (i, j) ∈ ps then f i j else 0 := by
  induction ps using snoc_ind with
  | h0 => simp [foldTb, ent_zeroT]
  | h1 l x ih =>
    have ih' := ih fun p hq => hp p (List.mem_append_left _ hq)
    have hx := hp x (by simp)
    rw [foldTb_snoc, ent_put (szd_fold f h n l) hx.1 hx.2, ih']
    by_cases e : i = x.1 ∧ j = x.2
    · rw [if_pos e, if_pos (by rw [e.1, e.2]; simp), e.1, e.2]
    · rw [if_neg e]
      have : (i, j) ∈ l ++ [x] ↔ (i, j) ∈ l := by
        rw [List.mem_append, List.mem_singleton]
        exact ⟨fun h => h.resolve_right (fun e2 => e (by rw [← e2]; exact ⟨rfl, rfl⟩)), .inl⟩
      simp only [this]
theorem fold_all {f : Nat → Nat → Int} {h n : Nat} {ps : List (Nat × Nat)} (hp : ∀ p ∈ ps, p.1 < h ∧ p.2 < n) (ha : ∀ i j, i < h → j < n → (i, j) ∈ ps) : foldTb f h n ps = tabF f h n :=
  szd_ext (szd_fold f h n ps) (szd_tabF f h n) fun i j hi hj => by rw [ent_fold ps hp, if_pos (ha i j hi hj), ent_tabF hi hj]
end Go.Proofs.YtbpjceffkchmbaaDoor
