/- Contracts of the draws of the laws of parts: an image out of a code, often with holes. Conditions: the code's slice can be read. -/
import Derived.Test.YtbpjceffkchmbaaDoorMPS
import Derived.Test.YtbpjceffkchmbaaDoorTW
import Derived.Test.YtbpjceffkchmbaaDoorML
namespace Go.Proofs.YtbpjceffkchmbaaDoor
open Go.RowKit
theorem wrong_fin {w w4 : World} {R : Nat} {W : Int} {sl : Value} {rows : List Int} (hon : w.grownBy w4 (some R)) (hrow : (rows = [] ∧ ∃ A c, sl = .slice A 0 c) ∨ ∃ g c, Row w4 g rows ∧ sl = .slice (some ⟨g, 0, none⟩) rows.length c ∧ w.heap.size < g) (hl : rows.length ≤ 6) :
    Wrong w.heap.size ((w4.setCell ⟨w.heap.size, 0, none⟩ (.int .i64 W)).setCell ⟨w.heap.size, 1, none⟩ sl) (.returned (.agg #[.int .i64 W, sl])) ∧ w.grownBy ((w4.setCell ⟨w.heap.size, 0, none⟩ (.int .i64 W)).setCell ⟨w.heap.size, 1, none⟩ sl) (some R) := by
  refine ⟨⟨W, sl, rows, rfl, ?_, hl⟩, only_setCell (only_setCell hon (.inr (by simp)) _) (.inr (by simp)) _⟩
  rcases hrow with ⟨rfl, A, c, rfl⟩ | ⟨g, c, hrow, rfl, hg⟩
  · exact .inl ⟨rfl, _, _, rfl⟩
  · have hr := ((hrow.far (p := ⟨w.heap.size, 0, none⟩) (by simp; omega) (.int .i64 W)).far (p := ⟨w.heap.size, 1, none⟩) (by simp; omega) (.slice (some ⟨g, 0, none⟩) rows.length c))
    exact .inr ⟨g, c, hr, rfl, by omega⟩
theorem below_grown {w w' : World} {R : Nat} (h : w.grownBy w' (some R)) (hR : w.heap.size ≤ R) : Below w.heap.size w w' :=
  ⟨h.os, h.tape, h.output, h.size, fun i hi => h.block i hi (fun e => by cases e; omega)⟩
/-- DRows that a draw has made: none, or a block of the call's own. -/
def DRows (lo : Nat) (w : World) (v : Value) (rows : List Int) : Prop := (rows = [] ∧ ∃ A c, v = .slice A 0 c) ∨ ∃ g c, Row w g rows ∧ v = .slice (some ⟨g, 0, none⟩) rows.length c ∧ lo ≤ g
theorem DRows.ints {lo : Nat} {w : World} {v : Value} {rows : List Int} (h : DRows lo w v rows) : Ints w.heap.size w v rows := by
  rcases h with ⟨e, A, c, h⟩ | ⟨g, c, hr, h, _⟩
  · exact .inl ⟨e, A, c, h⟩
  · rw [h]; exact hr.ints hr.lt c
theorem DRows.below {lo : Nat} {w w' : World} {v : Value} {rows : List Int} (h : DRows lo w v rows) (hb : Below w.heap.size w w') : DRows lo w' v rows := by
  rcases h with h | ⟨g, c, hr, h, hl⟩
  · exact .inl h
  · exact .inr ⟨g, c, hr.below hb hr.lt, h, hl⟩
theorem DRows.only {lo R : Nat} {w w' : World} {v : Value} {rows : List Int} (h : DRows lo w v rows) (hg : w.grownBy w' (some R)) (hR : R < lo) : DRows lo w' v rows := by
  rcases h with h | ⟨g, c, hr, h, hl⟩
  · exact .inl h
  · exact .inr ⟨g, c, hr.only hg (by omega), h, hl⟩
theorem DRows.form {lo : Nat} {w : World} {v : Value} {rows : List Int} (h : DRows lo w v rows) : ∃ A c, v = .slice A rows.length c := by
  rcases h with ⟨rfl, A, c, h⟩ | ⟨g, c, _, h, _⟩
  · exact ⟨_, _, h⟩
  · exact ⟨_, _, h⟩
theorem DRows.fin {lo a : Nat} {w : World} {v : Value} {rows : List Int} (h : DRows lo w v rows) (hl : a < lo) : (rows = [] ∧ ∃ A c, v = .slice A 0 c) ∨ ∃ g c, Row w g rows ∧ v = .slice (some ⟨g, 0, none⟩) rows.length c ∧ a < g := by
  rcases h with h | ⟨g, c, hr, h, hl⟩
  · exact .inl h
  · exact .inr ⟨g, c, hr, h, by omega⟩
theorem two_bd {x : Nat} {p : Int} (hx : x < 2) (hp : 0 ≤ p) : 0 ≤ (x : Int) * p ∧ (x : Int) * p ≤ p := by
  have : x = 0 ∨ x = 1 := by omega
  rcases this with rfl | rfl
  · simp; exact hp
  · simp; exact hp
/-- The memory of l93Parts while it changes rows. -/
structure PMem (w W : World) (R K Bx g h co n : Nat) (rows : List Int) : Prop where
  r0 : W.cell? ⟨w.heap.size, 0, none⟩ = some (.int .i64 0)
  r1 : W.cell? ⟨w.heap.size, 1, none⟩ = some (.slice none 0 0)
  rf0 : W.frozen? ⟨w.heap.size, 0, none⟩ = false
  rf1 : W.frozen? ⟨w.heap.size, 1, none⟩ = false
  x0 : W.cell? ⟨Bx, 0, none⟩ = some (.int .i64 (n : Int))
  x1 : W.cell? ⟨Bx, 1, none⟩ = some (.slice (some ⟨g, 0, none⟩) h co)
  row : Row W g rows
  len : rows.length = h
  on : w.grownBy W (some R)
  rd : Rd W R K
theorem PMem.step {w W w9 : World} {R K K' Bx g h co n : Nat} {rows : List Int} (hm : PMem w W R K Bx g h co n rows) (hg : W.grownBy w9 (some R)) (hr : Rd w9 R K') (n1 : w.heap.size ≠ R) (n2 : Bx ≠ R) (n3 : R < g) (n4 : w.heap.size ≠ g) (n5 : Bx ≠ g) (n6 : w.heap.size ≤ g) (k : Nat) (hk : k < h) (z : Int) :
    PMem w (w9.setCell ⟨g, k, none⟩ (.int .i64 z)) R K' Bx g h co n (rows.set k z) :=
  ⟨(World.cell?_setCell_other _ _ _ _ (by simp <;> omega)).trans (cell_only hg hm.r0 n1), (World.cell?_setCell_other _ _ _ _ (by simp <;> omega)).trans (cell_only hg hm.r1 n1), by rw [World.frozen?_setCell]; exact frozen_only hg hm.r0 n1 hm.rf0, by rw [World.frozen?_setCell]; exact frozen_only hg hm.r1 n1 hm.rf1,
   (World.cell?_setCell_other _ _ _ _ (by simp <;> omega)).trans (cell_only hg hm.x0 n2), (World.cell?_setCell_other _ _ _ _ (by simp <;> omega)).trans (cell_only hg hm.x1 n2), (hm.row.only hg (by omega)).set (by rw [hm.len]; exact hk) z, by rw [List.length_set]; exact hm.len, only_setCell (only_trans hm.on hg) (.inr n6) _, hr.below (B := R + 1) ((Below.refl (R + 1) w9).setCell (p := ⟨g, k, none⟩) (by simp; omega) _) (by omega)⟩
theorem PMem.fin {w W : World} {R K Bx g h co n : Nat} {rows : List Int} (hm : PMem w W R K Bx g h co n rows) (hg : w.heap.size < g) (hh : h ≤ 6) : Wrong w.heap.size ((W.setCell ⟨w.heap.size, 0, none⟩ (.int .i64 (n : Int))).setCell ⟨w.heap.size, 1, none⟩ (.slice (some ⟨g, 0, none⟩) h co)) (.returned (.agg #[.int .i64 (n : Int), .slice (some ⟨g, 0, none⟩) h co])) ∧ w.grownBy ((W.setCell ⟨w.heap.size, 0, none⟩ (.int .i64 (n : Int))).setCell ⟨w.heap.size, 1, none⟩ (.slice (some ⟨g, 0, none⟩) h co)) (some R) := by
  have := hm.len
  subst this
  exact wrong_fin hm.on (.inr ⟨g, co, hm.row, rfl, hg⟩) hh
end Go.Proofs.YtbpjceffkchmbaaDoor
