/- The frame of a law of one code: how a code that came in is opened. No condition. -/
import Derived.Test.YtbpjceffkchmbaaDoorLFrame
import Derived.Test.YtbpjceffkchmbaaDoorMPS
namespace Go.Proofs.YtbpjceffkchmbaaDoor
open Go.ChangeShapes Go.WideShapes Go.ChangeAt Go.RowKit Go.Joins
theorem u8_bd {n : Int} (h : (Lit.int .u8 n).wf = true) : 0 ≤ n ∧ n ≤ 255 := by
  simp [Lit.wf, IntKind.min, IntKind.max, IntKind.signed, IntKind.bits] at h
  omega
theorem open_code {H : Type} {enc : TypeId × Value → H} {W : World} {fuel : Nat} {t e : TypeId} {v : Value} {x : DataW H × List MemPlace} (ht : Tryd.prog.underlying t = some (.slice e)) (he : Tryd.prog.underlying e = some (.int .u8)) (hc : Tryd.prog.cellsOf e = 1)
    (hf : DataW.trod enc Tryd.prog W 0 (fun _ => true) true fuel t [v] = some x) : ∃ A len cap, v = .slice A len cap ∧ len ≤ cap ∧ Code8 W W.heap.size A len := by
  rcases open_ints ht he hc hf with ⟨hcs, _⟩ | ⟨a, l, c, zs, hcs, _, hl, hm, hz, _, hcell, hwf⟩
  · simp at hcs
    subst hcs
    exact ⟨none, 0, 0, rfl, Nat.le_refl _, .inl rfl⟩
  · simp at hcs
    subst hcs
    have hzc : zs.length = c := by simpa using hz
    refine ⟨some a, l, c, rfl, hl, ?_⟩
    by_cases h0 : l = 0
    · exact .inl h0
    · obtain ⟨b, off, spot⟩ := a
      have h00 := hcell 0 (by omega)
      obtain rfl : spot = none := by simpa [Addr.add] using World.cell?_spot h00
      refine .inr ⟨b, off, rfl, ?_, fun i => zs.getD i 0, fun i hi => ?_⟩
      · unfold World.cell? at h00
        refine Classical.byContradiction fun hn => ?_
        rw [Array.getElem?_eq_none (by simp [Addr.add]; omega)] at h00
        cases h00
      · have := hcell i (by omega)
        rw [Go.WideShapes.add_plain] at this
        refine ⟨this, u8_bd (hwf _ ?_)⟩
        show zs.getD i 0 ∈ zs
        rw [List.getD_eq_getElem?_getD, List.getElem?_eq_getElem (by omega)]
        exact List.getElem_mem _
end Go.Proofs.YtbpjceffkchmbaaDoor
