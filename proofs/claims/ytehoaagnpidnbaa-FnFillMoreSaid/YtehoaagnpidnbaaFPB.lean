/- Plain laws: the search for a place that is not filled yet, the way back from it, and what is left when there is none. No condition beyond those that the theorems name. -/
import Derived.Test.YtehoaagnpidnbaaMA
namespace Go.Proofs.Ytehoaagnpidnbaa
/-- Whether a place is reached from another one: rows come first, columns behind them. -/
def arrB (ns : List Nat) (h p q : Nat) : Bool := if p < h ∧ h ≤ q then !cell ns p (q - h) else if h ≤ p ∧ q < h then cell ns q (p - h) else false
/-- A column whose sum is not reached yet. -/
def goalB (n : Nat) (ns : List Nat) (cs : List Int) (q : Nat) : Bool := decide (ns.length ≤ q) && decide ((colSums n ns).getD (q - ns.length) 0 < cs.getD (q - ns.length) 0)
/-- A row whose sum is not reached yet. -/
def rootB (n : Nat) (ns : List Nat) (rs : List Int) (q : Nat) : Bool := decide (q < ns.length) && decide ((rowSums n ns).getD q 0 < rs.getD q 0)
/-- The search from a state on. -/
def srch (A : Nat → Nat → Bool) (G : Nat → Bool) (many : Nat) : Nat → Nat → Nat → List Int → List Nat → List Int × Option Nat
  | 0, _, _, par, _ => (par, none)
  | f + 1, at_, k, par, work =>
    if at_ < work.length then
      if k < many then
        if 0 ≤ par.getD k 0 ∨ A (work.getD at_ 0) k = false then srch A G many f at_ (k + 1) par work
        else if G k then (par.set k (work.getD at_ 0 : Nat), some k) else srch A G many f at_ (k + 1) (par.set k (work.getD at_ 0 : Nat)) (work ++ [k])
      else srch A G many f (at_ + 1) 0 par work
    else (par, none)
def fuelS (many at_ k : Nat) : Nat := (many - at_) * (many + 1) + (many - k) + 1
theorem fuel_k {many at_ k : Nat} (h : k < many) : fuelS many at_ k = fuelS many at_ (k + 1) + 1 := by unfold fuelS; omega
theorem fuel_at {many at_ : Nat} (h : at_ < many) : fuelS many at_ many = fuelS many (at_ + 1) 0 + 1 := by
  unfold fuelS
  have e : many - at_ = (many - (at_ + 1)) + 1 := by omega
  rw [e, Nat.add_mul]
  omega
/-- What is known of a state of the search. -/
structure SInv (A : Nat → Nat → Bool) (G R : Nat → Bool) (many at_ k : Nat) (par : List Int) (work : List Nat) : Prop where
  len : par.length = many
  nodup : work.Nodup
  lt : ∀ q ∈ work, q < many
  mem : ∀ q, q < many → (0 ≤ par.getD q 0 ↔ q ∈ work)
  bd : ∀ q, q < many → -1 ≤ par.getD q 0 ∧ par.getD q 0 < many
  up : ∀ q ∈ work, (par.getD q 0 = q ∧ R q = true) ∨ ∃ p, p ∈ work ∧ par.getD q 0 = (p : Nat) ∧ work.idxOf p < work.idxOf q ∧ A p q = true
  root : ∀ q, q < many → R q = true → q ∈ work
  goal : ∀ q ∈ work, R q = true ∨ G q = false
  kle : k ≤ many
  atle : at_ ≤ work.length
  done : ∀ a, a < at_ → ∀ q, q < many → A (work.getD a 0) q = true → q ∈ work
  now : at_ < work.length → ∀ q, q < k → A (work.getD at_ 0) q = true → q ∈ work
section
variable {A : Nat → Nat → Bool} {G R : Nat → Bool} {many at_ k : Nat} {par : List Int} {work : List Nat}
theorem getD_memB {l : List Nat} {i : Nat} (h : i < l.length) : l.getD i 0 ∈ l := by
  rw [List.getD_eq_getElem?_getD, List.getElem?_eq_getElem h]
  exact List.getElem_mem h
theorem nodup_len {l : List Nat} {m : Nat} (hn : l.Nodup) (hl : ∀ q ∈ l, q < m) : l.length ≤ m := by
  have h := List.Nodup.length_le_of_subset hn (l₂ := List.range m) (fun q hq => List.mem_range.2 (hl q hq))
  simpa using h
theorem SInv.wlen (h : SInv A G R many at_ k par work) : work.length ≤ many := nodup_len h.nodup h.lt
/-- A place that is there already, or to which nothing leads. -/
theorem SInv.skip (h : SInv A G R many at_ k par work) (hk : k < many) (ha : at_ < work.length) (hs : 0 ≤ par.getD k 0 ∨ A (work.getD at_ 0) k = false) : SInv A G R many at_ (k + 1) par work :=
  { h with
    kle := hk
    now := fun _ q hq hA => by
      by_cases e : q = k
      · subst e
        rcases hs with hs | hs
        · exact (h.mem q hk).1 hs
        · rw [hs] at hA; cases hA
      · exact h.now ha q (by omega) hA }
theorem SInv.next (h : SInv A G R many at_ many par work) (ha : at_ < work.length) : SInv A G R many (at_ + 1) 0 par work :=
  { h with
    kle := Nat.zero_le _
    atle := ha
    done := fun a haa q hq hA => by
      by_cases e : a = at_
      · subst e; exact h.now ha q hq hA
      · exact h.done a (by omega) q hq hA
    now := fun _ q hq _ => by omega }
theorem getD_set_i {l : List Int} {i j : Nat} {z : Int} (hi : i < l.length) : (l.set i z).getD j 0 = if j = i then z else l.getD j 0 := by
  by_cases e : j = i
  · subst e; rw [List.getD_eq_getElem?_getD, List.getElem?_set_self hi]; simp
  · rw [List.getD_eq_getElem?_getD, List.getElem?_set_ne (fun h => e h.symm), if_neg e, List.getD_eq_getElem?_getD]
theorem idxOf_snoc {l : List Nat} {q k : Nat} (h : q ∈ l) : (l ++ [k]).idxOf q = l.idxOf q := by rw [List.idxOf_append, if_pos h]
theorem idxOf_new {l : List Nat} {k : Nat} (h : k ∉ l) : (l ++ [k]).idxOf k = l.length := by rw [List.idxOf_append, if_neg h]; simp
/-- One place more. -/
theorem SInv.push (h : SInv A G R many at_ k par work) (hk : k < many) (ha : at_ < work.length) (hp : ¬ 0 ≤ par.getD k 0) (hA : A (work.getD at_ 0) k = true) (hG : G k = false ∨ True) :
    (∀ q, q < many → (0 ≤ (par.set k (work.getD at_ 0 : Nat)).getD q 0 ↔ q ∈ work ++ [k])) ∧ (∀ q ∈ work ++ [k], ((par.set k (work.getD at_ 0 : Nat)).getD q 0 = q ∧ R q = true) ∨ ∃ p, p ∈ work ++ [k] ∧ (par.set k (work.getD at_ 0 : Nat)).getD q 0 = (p : Nat) ∧ (work ++ [k]).idxOf p < (work ++ [k]).idxOf q ∧ A p q = true) ∧ k ∉ work := by
  have hnk : k ∉ work := fun hm => hp ((h.mem k hk).2 hm)
  have hlp : k < par.length := by rw [h.len]; exact hk
  have hw := getD_memB ha
  refine ⟨fun q hq => ?_, fun q hq => ?_, hnk⟩
  · rw [getD_set_i hlp, List.mem_append, List.mem_singleton]
    by_cases e : q = k
    · rw [if_pos e]
      exact ⟨fun _ => .inr e, fun _ => by omega⟩
    · rw [if_neg e, h.mem q hq]
      exact ⟨.inl, fun h => h.resolve_right e⟩
  · rw [getD_set_i hlp]
    by_cases e : q = k
    · subst e
      rw [if_pos rfl]
      refine .inr ⟨_, List.mem_append.2 (.inl hw), rfl, ?_, hA⟩
      rw [idxOf_snoc hw, idxOf_new hnk]
      exact List.idxOf_lt_length_iff.2 hw
    · rw [if_neg e]
      have hqw : q ∈ work := (List.mem_append.1 hq).resolve_right (fun h => e (List.mem_singleton.1 h))
      rcases h.up q hqw with hu | ⟨p, hpw, h1, h2, h3⟩
      · exact .inl hu
      · exact .inr ⟨p, List.mem_append.2 (.inl hpw), h1, by rw [idxOf_snoc hpw, idxOf_snoc hqw]; exact h2, h3⟩
theorem SInv.add (h : SInv A G R many at_ k par work) (hk : k < many) (ha : at_ < work.length) (hp : ¬ 0 ≤ par.getD k 0) (hA : A (work.getD at_ 0) k = true) (hG : G k = false) : SInv A G R many at_ (k + 1) (par.set k (work.getD at_ 0 : Nat)) (work ++ [k]) := by
  obtain ⟨h1, h2, h3⟩ := h.push hk ha hp hA (.inl hG)
  have hlp : k < par.length := by rw [h.len]; exact hk
  have hget : ∀ a, a < work.length → (work ++ [k]).getD a 0 = work.getD a 0 := fun a haa => by
    rw [List.getD_eq_getElem?_getD, List.getElem?_append_left haa, List.getD_eq_getElem?_getD]
  refine { len := by rw [List.length_set, h.len], nodup := ?_, lt := ?_, mem := h1, bd := ?_, up := h2, root := fun q hq hr => List.mem_append.2 (.inl (h.root q hq hr)), goal := ?_, kle := hk, atle := ?_, done := ?_, now := ?_ }
  · rw [List.nodup_append]
    refine ⟨h.nodup, by simp, fun a ha b hb e => ?_⟩
    rw [List.mem_singleton] at hb
    subst e hb
    exact h3 ha
  · intro q hq
    rcases List.mem_append.1 hq with hq | hq
    · exact h.lt q hq
    · rw [List.mem_singleton.1 hq]; exact hk
  · intro q hq
    rw [getD_set_i hlp]
    by_cases e : q = k
    · rw [if_pos e]
      have := h.lt _ (getD_memB ha)
      omega
    · rw [if_neg e]; exact h.bd q hq
  · intro q hq
    rcases List.mem_append.1 hq with hq | hq
    · exact h.goal q hq
    · rw [List.mem_singleton.1 hq]; exact .inr hG
  · rw [List.length_append]; omega
  · intro a haa q hq hAq
    rw [hget a (by omega)] at hAq
    exact List.mem_append.2 (.inl (h.done a haa q hq hAq))
  · intro _ q hq hAq
    rw [hget _ ha] at hAq
    by_cases e : q = k
    · subst e; exact List.mem_append.2 (.inr (by simp))
    · exact List.mem_append.2 (.inl (h.now ha q (by omega) hAq))
/-! ### One step of the search -/
theorem srch_end (h : SInv A G R many at_ k par work) (ha : ¬ at_ < work.length) : srch A G many (fuelS many at_ k) at_ k par work = (par, none) := by
  unfold fuelS srch
  rw [if_neg ha]
theorem srch_next (h : SInv A G R many at_ many par work) (ha : at_ < work.length) : srch A G many (fuelS many at_ many) at_ many par work = srch A G many (fuelS many (at_ + 1) 0) (at_ + 1) 0 par work := by
  rw [fuel_at (Nat.lt_of_lt_of_le ha h.wlen), srch, if_pos ha, if_neg (Nat.lt_irrefl _)]
theorem srch_skip (hk : k < many) (ha : at_ < work.length) (hs : 0 ≤ par.getD k 0 ∨ A (work.getD at_ 0) k = false) : srch A G many (fuelS many at_ k) at_ k par work = srch A G many (fuelS many at_ (k + 1)) at_ (k + 1) par work := by
  rw [fuel_k hk, srch, if_pos ha, if_pos hk, if_pos hs]
theorem srch_add (hk : k < many) (ha : at_ < work.length) (hp : ¬ 0 ≤ par.getD k 0) (hA : A (work.getD at_ 0) k = true) (hG : G k = false) : srch A G many (fuelS many at_ k) at_ k par work = srch A G many (fuelS many at_ (k + 1)) at_ (k + 1) (par.set k (work.getD at_ 0 : Nat)) (work ++ [k]) := by
  rw [fuel_k hk, srch, if_pos ha, if_pos hk, if_neg (fun h => h.elim hp (fun h => by rw [hA] at h; cases h)), if_neg (by rw [hG]; decide)]
theorem srch_goal (hk : k < many) (ha : at_ < work.length) (hp : ¬ 0 ≤ par.getD k 0) (hA : A (work.getD at_ 0) k = true) (hG : G k = true) : srch A G many (fuelS many at_ k) at_ k par work = (par.set k (work.getD at_ 0 : Nat), some k) := by
  rw [fuel_k hk, srch, if_pos ha, if_pos hk, if_neg (fun h => h.elim hp (fun h => by rw [hA] at h; cases h)), if_pos hG]
/-! ### What the search gives -/
/-- A forest: each place that was reached leads back to a root. -/
structure Forest (A : Nat → Nat → Bool) (R : Nat → Bool) (many : Nat) (par : List Int) (rank : Nat → Nat) (g : Nat) : Prop where
  len : par.length = many
  bd : ∀ q, q < many → -1 ≤ par.getD q 0 ∧ par.getD q 0 < many
  here : g < many ∧ 0 ≤ par.getD g 0
  up : ∀ q, q < many → 0 ≤ par.getD q 0 → rank q ≤ many ∧ ((par.getD q 0 = q ∧ R q = true) ∨ ∃ p, p < many ∧ 0 ≤ par.getD p 0 ∧ par.getD q 0 = (p : Nat) ∧ rank p < rank q ∧ A p q = true)
/-- What is left when no goal was reached. -/
structure Shut (A : Nat → Nat → Bool) (G R : Nat → Bool) (many : Nat) (work : List Nat) : Prop where
  root : ∀ q, q < many → R q = true → q ∈ work
  goal : ∀ q ∈ work, R q = true ∨ G q = false
  lt : ∀ q ∈ work, q < many
  shut : ∀ p ∈ work, ∀ q, q < many → A p q = true → q ∈ work
theorem SInv.shut (h : SInv A G R many at_ k par work) (ha : ¬ at_ < work.length) : Shut A G R many work :=
  ⟨h.root, h.goal, h.lt, fun p hp q hq hA => by
    obtain ⟨a, hal, e⟩ := List.getElem_of_mem hp
    refine h.done a (by omega) q hq ?_
    rw [List.getD_eq_getElem?_getD, List.getElem?_eq_getElem hal]
    rw [← e] at hA
    exact hA⟩
theorem SInv.forest (h : SInv A G R many at_ k par work) (hk : k < many) (ha : at_ < work.length) (hp : ¬ 0 ≤ par.getD k 0) (hA : A (work.getD at_ 0) k = true) : ∃ rank, Forest A R many (par.set k (work.getD at_ 0 : Nat)) rank k := by
  obtain ⟨h1, h2, h3⟩ := h.push hk ha hp hA (.inr trivial)
  have hlp : k < par.length := by rw [h.len]; exact hk
  have hlt : ∀ q ∈ work ++ [k], q < many := fun q hq => by
    rcases List.mem_append.1 hq with hq | hq
    · exact h.lt q hq
    · rw [List.mem_singleton.1 hq]; exact hk
  refine ⟨(work ++ [k]).idxOf, by rw [List.length_set, h.len], fun q hq => ?_, ⟨hk, (h1 k hk).2 (by simp)⟩, fun q hq h0 => ?_⟩
  · rw [getD_set_i hlp]
    by_cases e : q = k
    · rw [if_pos e]
      have := h.lt _ (getD_memB ha)
      omega
    · rw [if_neg e]; exact h.bd q hq
  · have hm := (h1 q hq).1 h0
    refine ⟨?_, ?_⟩
    · have e1 := List.idxOf_lt_length_iff.2 hm
      have e2 : (work ++ [k]).length ≤ many := nodup_len (by
        rw [List.nodup_append]
        refine ⟨h.nodup, by simp, fun a ha b hb e => ?_⟩
        rw [List.mem_singleton] at hb
        subst e hb
        exact h3 ha) hlt
      omega
    · rcases h2 q hm with hu | ⟨p, hpw, e1, e2, e3⟩
      · exact .inl hu
      · exact .inr ⟨p, hlt p hpw, (h1 p (hlt p hpw)).2 hpw, e1, e2, e3⟩
theorem srch_out : ∀ (f at_ k : Nat) (par : List Int) (work : List Nat), SInv A G R many at_ k par work → f = fuelS many at_ k →
    (∃ par' work', srch A G many f at_ k par work = (par', none) ∧ Shut A G R many work') ∨ ∃ par' g rank, srch A G many f at_ k par work = (par', some g) ∧ Forest A R many par' rank g ∧ G g = true
  | 0, at_, k, par, work, _, hf => by unfold fuelS at hf; omega
  | f + 1, at_, k, par, work, h, hf => by
    by_cases ha : at_ < work.length
    · by_cases hk : k < many
      · by_cases hs : 0 ≤ par.getD k 0 ∨ A (work.getD at_ 0) k = false
        · rw [hf, srch_skip hk ha hs]
          exact srch_out f _ _ _ _ (h.skip hk ha hs) (by rw [fuel_k hk] at hf; omega) |>.imp (fun ⟨a, b, c⟩ => ⟨a, b, by rw [← c.1]; congr 1; rw [fuel_k hk] at hf; omega, c.2⟩) (fun ⟨a, b, c, d⟩ => ⟨a, b, c, by rw [← d.1]; congr 1; rw [fuel_k hk] at hf; omega, d.2⟩)
        · have hp : ¬ 0 ≤ par.getD k 0 := fun h => hs (.inl h)
          have hA : A (work.getD at_ 0) k = true := by
            cases hh : A (work.getD at_ 0) k with
            | true => rfl
            | false => exact (hs (.inr hh)).elim
          cases hG : G k with
          | true =>
            rw [hf, srch_goal hk ha hp hA hG]
            obtain ⟨rank, hF⟩ := h.forest hk ha hp hA
            exact .inr ⟨_, _, rank, rfl, hF, hG⟩
          | false =>
            rw [hf, srch_add hk ha hp hA hG]
            have e : fuelS many at_ (k + 1) = f := by rw [fuel_k hk] at hf; omega
            rw [e]
            exact srch_out f _ _ _ _ (h.add hk ha hp hA hG) e.symm
      · obtain rfl : many = k := by have := h.kle; omega
        have e : fuelS many (at_ + 1) 0 = f := by rw [fuel_at (Nat.lt_of_lt_of_le ha h.wlen)] at hf; omega
        rw [hf, srch_next h ha, e]
        exact srch_out f _ _ _ _ (h.next ha) e.symm
    · rw [hf, srch_end h ha]
      exact .inl ⟨par, work, rfl, h.shut ha⟩
end
end Go.Proofs.Ytehoaagnpidnbaa
