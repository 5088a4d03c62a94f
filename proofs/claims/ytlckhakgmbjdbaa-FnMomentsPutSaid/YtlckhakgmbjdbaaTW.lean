/- Words for what a call keeps, used by the walks of the laws. No condition. -/
import Derived.Test.YtlckhakgmbjdbaaPS
namespace Go.Proofs.Ytlckhakgmbjdbaa
open Go.RowKit
theorem bel_only {a w w' : World} {g : Nat} (h : Below a.heap.size a w) (hg : w.grownBy w' (some g)) (hl : a.heap.size ≤ g) : Below a.heap.size a w' :=
  h.grown hg h.size (fun k e => by cases e; exact hl)
theorem code_below {w w' : World} {A : Option Addr} {len : Nat} (hb : Below w.heap.size w w') (h : Code8 w w.heap.size A len) : Code8 w' w'.heap.size A len := by
  rcases h with h | ⟨b, off, e, hbl, z, hz⟩
  · exact .inl h
  · exact .inr ⟨b, off, e, Nat.lt_of_lt_of_le hbl hb.size, z, fun i hi => ⟨cellB hb (hz i hi).1, (hz i hi).2⟩⟩
end Go.Proofs.Ytlckhakgmbjdbaa
