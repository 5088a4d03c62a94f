/- Contracts of l93Any, DrawFillMost, DrawFillImage. Conditions: the reader lies in block R; the code's slice can be read. -/
import Derived.Test.YtilahcpjjaikgaaDoorFI
namespace Go.Proofs.YtilahcpjjaikgaaDoor
open Go.RowKit
theorem grn_own {w a b : World} {R : Nat} {v : Value} (h : w.grownBy a (some R)) (hg : a.grownBy b v.ownBlock) (hv : ∀ k, v.ownBlock = some k → w.heap.size ≤ k) : w.grownBy b (some R) :=
  ⟨hg.os.trans h.os, hg.tape.trans h.tape, hg.output.trans h.output, Nat.le_trans h.size hg.size, fun k hk hne => (hg.block k (Nat.lt_of_lt_of_le hk h.size) (fun e => by have := hv k e.symm; omega)).trans (h.block k hk hne)⟩
theorem Rd.own {w w' : World} {R K : Nat} {v : Value} (h : Rd w R K) (hg : w.grownBy w' v.ownBlock) (hv : ∀ k, v.ownBlock = some k → R < k) : Rd w' R K := by
  cases e : v.ownBlock with
  | none =>
    rw [e] at hg
    exact h.below (B := w.heap.size) ⟨hg.os, hg.tape, hg.output, hg.size, fun i hi => hg.block i hi (by simp)⟩ h.1
  | some k => rw [e] at hg; exact h.only hg (hv k e)
/-- One number more, out of a draw. -/
theorem draw_app {w wc w6 : World} {R base : Nat} {ao : Option Addr} {k co : Nat} {xs : List Int} {z : Int} {v6 : Value} {u : Value} {us : List Int}
    (hb : w.heap.size ≤ base) (hRw : R < w.heap.size) (hon : w.grownBy wc (some R)) (hox : OwnI wc base (.slice ao k co) xs) (hou : OwnI wc base u us) (hne : ∀ a b, (Value.slice ao k co).ownBlock = some a → u.ownBlock = some b → a ≠ b)
    (hown6 : OwnI w6 base v6 (xs ++ [z])) (hgr6 : (wc.alloc (.cells #[.int .i64 z] 3)).grownBy w6 (Value.slice ao k co).ownBlock) (hat : v6.ownBlock = (Value.slice ao k co).ownBlock ∨ v6.ownBlock = some (wc.alloc (.cells #[.int .i64 z] 3)).heap.size)
    {K : Nat} (hrd : Rd wc R K) : OwnI w6 base u us ∧ (∀ a b, v6.ownBlock = some a → u.ownBlock = some b → a ≠ b) ∧ w.grownBy w6 (some R) ∧ Rd w6 R K := by
  refine ⟨(hou.alloc _).grown hgr6 fun b hu he => ?_, fun a b ha hbq => ?_, grn_own (only_alloc hon _) hgr6 fun q hq => ?_, ?_⟩
  · exact hne b b he.symm hu rfl
  · rcases hat with h | h
    · exact hne a b (by rw [← h]; exact ha) hbq
    · have := (hou.own_lt b hbq).2
      rw [h] at ha
      simp at ha
      omega
  · have := (hox.own_lt q hq).1; omega
  · refine Rd.own (v := .slice ao k co) (hrd.below (B := wc.heap.size) ((Below.refl _ _).alloc (Nat.le_refl _) _) hrd.1) hgr6 fun q hq => ?_
    have := (hox.own_lt q hq).1
    omega
/-- Two drawn lists. -/
def TwoInts (w : World) (e : Ending) (w' : World) : Prop := ∃ (u v : Value) (rs cs : List Int), e = .returned (.tuple #[u, v]) ∧ Ints w'.heap.size w' u rs ∧ Ints w'.heap.size w' v cs ∧ rs.length ≤ 12 ∧ cs.length ≤ 12 ∧ Below w.heap.size w w'
end Go.Proofs.YtilahcpjjaikgaaDoor
