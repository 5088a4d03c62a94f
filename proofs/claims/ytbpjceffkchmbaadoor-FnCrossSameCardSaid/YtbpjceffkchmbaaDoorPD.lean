/- Contracts of the draws of the moments' laws: one image out of a code. Conditions: the code's slice can be read. -/
import Derived.Test.YtbpjceffkchmbaaDoorMPS
namespace Go.Proofs.YtbpjceffkchmbaaDoor
open Go.RowKit
theorem below_of_only {w w' : World} {R : Nat} (h : w.grownBy w' (some R)) (hR : w.heap.size ≤ R) : Below w.heap.size w w' :=
  ⟨h.os, h.tape, h.output, h.size, fun i hi => h.block i hi (fun e => by cases e; omega)⟩
set_option maxHeartbeats 1000000 in
theorem DrawMomentCross_c (A : Option Addr) (len cap : Nat) (hlc : len ≤ cap) (w : World) (hc : Code8 w w.heap.size A len) :
    Calls Tryd.prog 17 #[.slice A len cap] w fun e w' => ∃ (W : Int) (v : Value) (rows : List Int), e = .returned (.agg #[.int .i64 W, v]) ∧ Ints w'.heap.size w' v rows ∧ rows.length ≤ 6 ∧ Below w.heap.size w w' := by
  obtain ⟨W0, eW⟩ : ∃ W0, W0 = w.alloc (.cells #[.int .i64 0, .slice none 0 0] 25) := ⟨_, rfl⟩
  have hB0 : Below w.heap.size w W0 := by rw [eW]; go_grown
  have i0 : W0.cell? ⟨w.heap.size, 0, none⟩ = some (.int .i64 0) := by rw [eW]; go_cell
  have i1 : W0.cell? ⟨w.heap.size, 1, none⟩ = some (.slice none 0 0) := by rw [eW]; go_cell
  have if0 : W0.frozen? ⟨w.heap.size, 0, none⟩ = false := by rw [eW]; go_cell
  have if1 : W0.frozen? ⟨w.heap.size, 1, none⟩ = false := by rw [eW]; go_cell
  have hz0 : w.heap.size < W0.heap.size := by rw [eW]; simp
  have hc0 : Code8 W0 W0.heap.size A len := by
    rcases hc with h | ⟨b, off, e, hb, z, hz⟩
    · exact .inl h
    · exact .inr ⟨b, off, e, by omega, z, fun i hi => ⟨cellB hB0 (hz i hi).1, (hz i hi).2⟩⟩
  go_enter Tryd.func17, Tryd.ntmps17
  go_wp2_with fail
  rw [← eW]
  clear eW hc
  refine (l6Open_c A len cap hlc _ hc0).mono ?_
  rintro e w1 ⟨rfl, hR1, hb1⟩
  go_wp2_with fail
  refine (l91Wrong_c W0.heap.size 0 36 (by omega) (by omega) (by omega) _ hR1).mono ?_
  rintro e w2 ⟨⟨W, v, rows, rfl, hI, hl⟩, hg2⟩
  have hne : w.heap.size ≠ W0.heap.size := by omega
  have c0 := cell_only hg2 (cellB hb1 i0) hne
  have c1 := cell_only hg2 (cellB hb1 i1) hne
  have f0 := frozen_only hg2 (cellB hb1 i0) hne (frozenB hb1 i0 if0)
  have f1 := frozen_only hg2 (cellB hb1 i1) hne (frozenB hb1 i1 if1)
  have hB2 : Below w.heap.size w w2 := by
    have h1 : W0.grownBy w2 (some W0.heap.size) := only_trans (only_of_below hb1 _) hg2
    exact hB0.trans ((below_of_only h1 (Nat.le_refl _)).mono hB0.size)
  obtain ⟨q0, q1⟩ := set2_get (x := .int .i64 W) (y := v) c0 c1
  have hI2 : Ints ((w2.setCell ⟨w.heap.size, 0, none⟩ (.int .i64 W)).setCell ⟨w.heap.size, 1, none⟩ v).heap.size ((w2.setCell ⟨w.heap.size, 0, none⟩ (.int .i64 W)).setCell ⟨w.heap.size, 1, none⟩ v) v rows := by
    rcases hI with ⟨e, A, c, h⟩ | ⟨g, c, hr, h, hlo⟩
    · exact .inl ⟨e, A, c, h⟩
    · have hz1 := hb1.size
      have hr' := ((hr.far (p := ⟨w.heap.size, 0, none⟩) (by simp; omega) (.int .i64 W)).far (p := ⟨w.heap.size, 1, none⟩) (by simp; omega) v)
      have := hr'.ints hr'.lt c
      rw [← h] at this
      exact this
  have HE := Lib.hid (And.intro hI2 ((hB2.setCell (p := ⟨w.heap.size, 0, none⟩) (Nat.le_refl _) (.int .i64 W)).setCell (p := ⟨w.heap.size, 1, none⟩) (Nat.le_refl _) v))
  have hvs : ∃ A n c, v = .slice A n c := by
    rcases hI with ⟨_, A, c, h⟩ | ⟨g, c, _, h, _⟩
    · exact ⟨_, _, _, h⟩
    · exact ⟨_, _, _, h⟩
  obtain ⟨A', n', c', rfl⟩ := hvs
  clear hI hI2 hB2
  go_wp2
  refine bodyPost_ret (res_img rfl _ _ rfl q0 q1) rfl ?_
  exact ⟨W, _, rows, rfl, HE.out.1, hl, HE.out.2⟩
end Go.Proofs.YtbpjceffkchmbaaDoor
