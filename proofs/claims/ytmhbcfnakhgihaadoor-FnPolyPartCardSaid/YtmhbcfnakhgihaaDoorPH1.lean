/- What holes come to, cell by cell: plain laws. Conditions: those that each theorem names. -/
import Derived.Test.YtmhbcfnakhgihaaDoorMI
namespace Go.Proofs.YtmhbcfnakhgihaaDoor
open Go.RowKit
open Gr
/-- First row, last row, and both sides of the first k rows. -/
def orTo (ms : List Nat) (s : Nat) : Nat → Nat
  | 0 => ms.getD 0 0 ||| ms.getD (ms.length - 1) 0
  | k + 1 => orTo ms s k ||| (ms.getD k 0 &&& s)
theorem orTo_lt {ms : List Nat} {s : Nat} (h : ∀ k, ms.getD k 0 < 64) : ∀ k, orTo ms s k < 64
  | 0 => Nat.or_lt_two_pow (n := 6) (h _) (h _)
  | k + 1 => Nat.or_lt_two_pow (n := 6) (orTo_lt h k) (Nat.lt_of_le_of_lt Nat.and_le_left (h k))
theorem orTo_zero {ms : List Nat} {s : Nat} : ∀ k, orTo ms s k = 0 ↔ ms.getD 0 0 = 0 ∧ ms.getD (ms.length - 1) 0 = 0 ∧ ∀ a, a < k → ms.getD a 0 &&& s = 0
  | 0 => by
    unfold orTo
    rw [Nat.or_eq_zero_iff]
    exact ⟨fun h => ⟨h.1, h.2, fun a ha => by omega⟩, fun h => ⟨h.1, h.2.1⟩⟩
  | k + 1 => by
    unfold orTo
    rw [Nat.or_eq_zero_iff, orTo_zero k]
    refine ⟨fun h => ⟨h.1.1, h.1.2.1, fun a ha => ?_⟩, fun h => ⟨⟨h.1, h.2.1, fun a ha => h.2.2 a (by omega)⟩, h.2.2 k (by omega)⟩⟩
    by_cases e : a = k
    · rw [e]; exact h.2
    · exact h.1.2.2 a (by omega)
theorem and_sides (r n : Nat) : r &&& (1 ||| 2 ^ (n - 1)) = 0 ↔ r.testBit 0 = false ∧ r.testBit (n - 1) = false := by
  constructor
  · intro h
    have h0 := congrArg (fun x => Nat.testBit x 0) h
    have h1 := congrArg (fun x => Nat.testBit x (n - 1)) h
    simp only [Nat.testBit_and, Nat.testBit_or, Nat.zero_testBit] at h0 h1
    rw [show Nat.testBit 1 0 = true from rfl, Bool.true_or, Bool.and_true] at h0
    rw [Nat.testBit_two_pow_self, Bool.or_true, Bool.and_true] at h1
    exact ⟨h0, h1⟩
  · rintro ⟨h0, h1⟩
    apply Nat.eq_of_testBit_eq
    intro i
    rw [Nat.testBit_and, Nat.testBit_or, Nat.zero_testBit, show (1 : Nat) = 2 ^ 0 from rfl, Nat.testBit_two_pow, Nat.testBit_two_pow]
    cases hi : r.testBit i with
    | false => rfl
    | true =>
      have n0 : ¬ 0 = i := fun e => by rw [← e, h0] at hi; cases hi
      have n1 : ¬ n - 1 = i := fun e => by rw [← e, h1] at hi; cases hi
      simp [n0, n1]
theorem orTo_inside (n : Nat) (ms : List Nat) : decide (orTo ms (1 ||| 2 ^ (n - 1)) ms.length = 0) = insideOf n ms := by
  rw [Bool.eq_iff_iff, decide_eq_true_eq, orTo_zero]
  simp only [insideOf, Bool.and_eq_true, List.all_eq_true, List.mem_range, decide_eq_true_eq, Bool.not_eq_true', and_sides]
  exact ⟨fun h => ⟨⟨fun k hk => h.2.2 k hk, h.1⟩, h.2.1⟩, fun h => ⟨h.1.2, h.2, fun a ha => h.1.1 a ha⟩⟩
theorem filter_snoc {p : List Nat → Bool} {L : List (List Nat)} {k : Nat} (hk : k < L.length) : (L.take (k + 1)).filter p = (L.take k).filter p ++ (if p (L.getD k []) = true then [L.getD k []] else []) := by
  rw [List.take_succ_eq_append_getElem hk, List.filter_append, List.getD_eq_getElem?_getD, List.getElem?_eq_getElem hk]
  simp [List.filter_cons]
/-- All holes, as images, in order. -/
def holesI (n : Nat) (ns : List Nat) : List (List Nat) := (allL (coT n ns) true ns.length n).filter (insideOf n)
theorem holesI_len {n : Nat} {ns : List Nat} (hV : VImg n ns) : (holesI n ns).length = (holesL n ns).length := by
  unfold holesI holesL allL
  rw [List.filter_map, List.length_map]
  congr 1
  refine List.filter_congr fun c hc => ?_
  have hf := (mem_firsts coT_in).1 hc
  exact insideOf_comp coT_in hf.1 hV.w1 hV.h1
/-- One image more, of rows that lie anywhere of the call's own. -/
theorem Imgs.snocA {base top gl n h : Nat} {w w' : World} {v : Value} {L : List (List Nat)} {gs : List (Nat × Nat)} {v' : Value} {g c : Nat} {ms : List Nat} (hi : Imgs base top gl w n h v L gs) (hown : OwnP w' base v' ((gs.map fun p => (.int .i64 (n : Int), .slice (some ⟨p.1, 0, none⟩) h p.2)) ++ [(.int .i64 (n : Int), .slice (some ⟨g, 0, none⟩) h c)]))
    (hg : w.grownBy w' v.ownBlock) (hob : v'.ownBlock = v.ownBlock ∨ v'.ownBlock = some w.heap.size) (hr : Row w g (casts ms)) (hgb : base ≤ g) (hgn : ∀ b, v.ownBlock = some b → g ≠ b) (hgl : g ≠ gl) (hgll : gl < w.heap.size) : Imgs base w'.heap.size gl w' n h v' (L ++ [ms]) (gs ++ [(g, c)]) := by
  have hl := hi.len
  refine ⟨by simp [hl], by simpa using hown, fun k hk => ?_, fun b hb => ?_, fun k b hk hb => ?_⟩
  · by_cases e : k < L.length
    · obtain ⟨h1, h2, h3, h4⟩ := hi.rows k e
      have e1 : (gs ++ [(g, c)]).getD k (0, 0) = gs.getD k (0, 0) := by simp [List.getD_eq_getElem?_getD, List.getElem?_append, hl, e]
      have e2 : (L ++ [ms]).getD k [] = L.getD k [] := by simp [List.getD_eq_getElem?_getD, List.getElem?_append, e]
      rw [e1, e2]
      exact ⟨h1.grown hg (fun e3 => hi.dis k _ e e3.symm rfl), h2, Nat.lt_of_lt_of_le h1.lt hg.size, h4⟩
    · have hk2 : k = L.length := by simp at hk; omega
      subst hk2
      have e1 : (gs ++ [(g, c)]).getD L.length (0, 0) = (g, c) := by rw [← hl]; simp [List.getD_eq_getElem?_getD]
      have e2 : (L ++ [ms]).getD L.length [] = ms := by simp [List.getD_eq_getElem?_getD]
      rw [e1, e2]
      exact ⟨hr.grown hg (fun e3 => hgn _ e3.symm rfl), hgb, Nat.lt_of_lt_of_le hr.lt hg.size, hgl⟩
  · have hlt := World.ownsRow.lt hown b hb
    refine ⟨hlt.1, hlt.2, ?_⟩
    rcases hob with hob | hob
    · exact (hi.blk b (hob ▸ hb)).2.2
    · rw [hob] at hb
      injection hb with hb
      omega
  · by_cases e : k < L.length
    · have e1 : (gs ++ [(g, c)]).getD k (0, 0) = gs.getD k (0, 0) := by simp [List.getD_eq_getElem?_getD, List.getElem?_append, hl, e]
      rw [e1]
      rcases hob with hob | hob
      · exact hi.dis k b e (hob ▸ hb)
      · rw [hob] at hb
        injection hb with hb
        have := (hi.rows k e).1.lt
        omega
    · have hk2 : k = L.length := by simp at hk; omega
      subst hk2
      have e1 : (gs ++ [(g, c)]).getD L.length (0, 0) = (g, c) := by rw [← hl]; simp [List.getD_eq_getElem?_getD]
      rw [e1]
      rcases hob with hob | hob
      · exact hgn b (hob ▸ hb)
      · rw [hob] at hb
        injection hb with hb
        have := hr.lt
        show g ≠ b
        omega
end Go.Proofs.YtmhbcfnakhgihaaDoor
