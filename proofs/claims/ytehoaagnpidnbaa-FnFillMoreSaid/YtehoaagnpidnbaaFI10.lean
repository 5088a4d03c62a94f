/- Both contracts of FillImage in one form: an image, or none. Conditions: the sums' slices read as lists, not longer than 2097152. -/
import Derived.Test.YtehoaagnpidnbaaFI9
namespace Go.Proofs.Ytehoaagnpidnbaa
open Go.RowKit
/-- The image that fills, where the sums are valid. -/
def filO (rs cs : List Int) : Option (List Nat) := if svB rs cs = true then some (fillO rs cs) else none
/-- An image of the call's own, and true; or none. -/
def FilImg (w : World) (wd : Nat) (ns : List Nat) (e : Ending) (w' : World) : Prop :=
  ∃ g c, e = .returned (.tuple #[.agg #[.int .i64 (wd : Int), .slice (some ⟨g, 0, none⟩) ns.length c], .bool true]) ∧ w.heap.size ≤ g ∧ Row w' g (casts ns) ∧ Below w.heap.size w w'
def FilNo (w : World) (e : Ending) (w' : World) : Prop := e = .returned (.tuple #[.agg #[.int .i64 0, .slice none 0 0], .bool false]) ∧ Below w.heap.size w w'
def FilEnd (w : World) (wd : Nat) (o : Option (List Nat)) (e : Ending) (w' : World) : Prop := (∃ ns, o = some ns ∧ FilImg w wd ns e w') ∨ (o = none ∧ FilNo w e w')
theorem FilEnd.img {w : World} {wd : Nat} {ns : List Nat} {e : Ending} {w' : World} (h : FilEnd w wd (some ns) e w') : FilImg w wd ns e w' := by
  rcases h with ⟨ms, e1, h⟩ | ⟨e1, _⟩
  · injection e1 with e1; rw [e1]; exact h
  · cases e1
theorem FilEnd.no {w : World} {wd : Nat} {e : Ending} {w' : World} (h : FilEnd w wd none e w') : FilNo w e w' := by
  rcases h with ⟨ms, e1, h⟩ | ⟨_, h⟩
  · cases e1
  · exact h
theorem FilOut.end {w : World} {rs cs : List Int} {e : Ending} {w' : World} (h : FilOut w rs cs e w') : FilEnd w cs.length (filO rs cs) e w' := by
  rcases h with ⟨h1, h2⟩ | ⟨h1, h2⟩
  · exact .inl ⟨_, by unfold filO; rw [if_pos h1], h2⟩
  · exact .inr ⟨by unfold filO; rw [h1]; rfl, h2⟩
theorem fil_len {rs cs : List Int} {ns : List Nat} (h : filO rs cs = some ns) : ns.length = rs.length := by
  unfold filO at h
  by_cases hs : svB rs cs = true
  · rw [if_pos hs] at h
    injection h with h
    rw [← h]
    exact (fillO_fit (svB_yes hs)).1.len
  · rw [if_neg hs] at h; cases h
theorem FillImage_o (u v : Value) (rs cs : List Int) (hr : rs.length ≤ 2097152) (hc : cs.length ≤ 2097152) (w : World) (hu : Ints w.heap.size w u rs) (hv : Ints w.heap.size w v cs) :
    Calls Try.prog 9 #[u, v] w (FilEnd w cs.length (filO rs cs)) := (FillImage_c u v rs cs hr hc w hu hv).mono fun _ _ h => h.end
theorem sFillImage_o (u v : Value) (rs cs : List Int) (hr : rs.length ≤ 2097152) (hc : cs.length ≤ 2097152) (w : World) (hu : Ints w.heap.size w u rs) (hv : Ints w.heap.size w v cs) :
    Calls Try.prog 7 #[u, v] w (FilEnd w cs.length (filO rs cs)) := (sFillImage_c u v rs cs hr hc w hu hv).mono fun _ _ h => h.end
end Go.Proofs.Ytehoaagnpidnbaa
