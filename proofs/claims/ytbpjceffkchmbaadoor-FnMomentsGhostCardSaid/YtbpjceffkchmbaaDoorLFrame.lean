/- The frame of a law of one argument: how an argument that came in is opened, and handed back. No condition. -/
import Derived.Test.YtbpjceffkchmbaaDoorRows
import Derived.Test.YtbpjceffkchmbaaDoorBase
import Derived.ProofKit
import Derived.OpenShut
import Derived.ChangeOld
import Derived.ChangeSame
import Derived.JoinedOf
import Derived.JoinedAt
import Derived.RowKit3
import Derived.Carry
import Derived.Lib.SmallJoins
namespace Go.Proofs.YtbpjceffkchmbaaDoor
open Go.ChangeShapes Go.WideShapes Go.ChangeAt Go.RowKit Go.Joins
theorem own_knob : ownKnob Tryd.prog.godebug = none := by kernel_rfl
theorem laid_out : laidOutB Tryd.prog = true := by kernel_rfl
theorem open_row {H : Type} {enc : TypeId × Value → H} {W : World} {fuel : Nat} {t e : TypeId} {v : Value} {x : DataW H × List MemPlace} (ht : Tryd.prog.underlying t = some (.slice e)) (he : Tryd.prog.underlying e = some (.int .i64)) (hc : Tryd.prog.cellsOf e = 1)
    (hf : DataW.trod enc Tryd.prog W 0 (fun _ => true) true fuel t [v] = some x) : ∃ xs : List Int, Ints W.heap.size W v xs ∧ xs.length ≤ maxLen := by
  rcases open_ints ht he hc hf with ⟨hcs, _⟩ | ⟨a, l, c, zs, hcs, _, hl, hm, hz, _, hcell, _⟩
  · simp at hcs
    subst hcs
    exact ⟨[], .inl ⟨rfl, _, _, rfl⟩, by simp⟩
  · simp at hcs
    subst hcs
    have hzc : zs.length = c := by simpa using hz
    refine ⟨zs.take l, ?_, by simp; omega⟩
    have hlen : (zs.take l).length = l := by simp; omega
    by_cases h0 : l = 0
    · subst h0
      exact .inl ⟨by simp, _, _, rfl⟩
    · obtain ⟨b, off, spot⟩ := a
      have h00 := hcell 0 (by omega)
      obtain rfl : spot = none := by simpa [Addr.add] using World.cell?_spot h00
      refine .inr ⟨b, off, c, by rw [hlen], ?_, fun k hk => ?_⟩
      · unfold World.cell? at h00
        refine Classical.byContradiction fun hn => ?_
        rw [Array.getElem?_eq_none (by simp [Addr.add]; omega)] at h00
        cases h00
      · rw [hlen] at hk
        have := hcell k (by omega)
        rw [Go.WideShapes.add_plain] at this
        rw [this, List.getD_eq_getElem?_getD, List.getD_eq_getElem?_getD, List.getElem?_take, if_pos hk]
end Go.Proofs.YtbpjceffkchmbaaDoor
