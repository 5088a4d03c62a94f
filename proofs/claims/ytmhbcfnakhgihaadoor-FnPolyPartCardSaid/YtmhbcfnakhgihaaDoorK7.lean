/- Contract of toImage: a copy of an image. Conditions: the slice reads as a list of integers; length below 2 to the power of 21. -/
import Derived.Test.YtmhbcfnakhgihaaDoorK5
namespace Go.Proofs.YtmhbcfnakhgihaaDoor
open Go.RowKit
set_option maxHeartbeats 1000000 in
theorem toImage_c (W : Int) (v : Value) (xs : List Int) (h6 : xs.length ≤ 2097152) (w : World) (hv : Ints w.heap.size w v xs) :
    Calls Tryd.prog 9 #[.agg #[.int .i64 W, v]] w fun e w' => ∃ g c, e = .returned (.agg #[.int .i64 W, .slice (some ⟨g, 0, none⟩) xs.length c]) ∧ w.heap.size ≤ g ∧ Row w' g xs ∧ Below w.heap.size w w' := by
  obtain ⟨A, cap, rfl⟩ := hv.len
  go_enter Tryd.func9, Tryd.ntmps9
  go_wp2_with fail
  refine (toIntS_c _ xs h6 _ ?hv).mono ?_
  case hv => exact (hv.below (by go_grown)).more (by simp; omega)
  rintro e w1 ⟨g, rfl, hg, hr, hq⟩
  have hB0 : Below w.heap.size w w1 := by
    refine Below.trans ?_ (hq.mono (by simp; omega))
    go_grown
  have f10 : w1.cell? ⟨w.heap.size + 1, 0, none⟩ = some (.int .i64 0) := (hq.cell (p := ⟨w.heap.size + 1, 0, none⟩) (by simp)).trans (by go_cell)
  have f11 : w1.cell? ⟨w.heap.size + 1, 1, none⟩ = some (.slice none 0 0) := (hq.cell (p := ⟨w.heap.size + 1, 1, none⟩) (by simp)).trans (by go_cell)
  have f20 : w1.cell? ⟨w.heap.size + 1 + 1, 0, none⟩ = some (.int .i64 W) := (hq.cell (p := ⟨w.heap.size + 1 + 1, 0, none⟩) (by simp)).trans (by go_cell)
  have f21 : w1.cell? ⟨w.heap.size + 1 + 1, 1, none⟩ = some (.slice none 0 0) := (hq.cell (p := ⟨w.heap.size + 1 + 1, 1, none⟩) (by simp)).trans (by go_cell)
  have z10 : w1.frozen? ⟨w.heap.size + 1, 0, none⟩ = false := (hq.frozen (p := ⟨w.heap.size + 1, 0, none⟩) (by simp)).trans (by go_cell)
  have z11 : w1.frozen? ⟨w.heap.size + 1, 1, none⟩ = false := (hq.frozen (p := ⟨w.heap.size + 1, 1, none⟩) (by simp)).trans (by go_cell)
  have z21 : w1.frozen? ⟨w.heap.size + 1 + 1, 1, none⟩ = false := (hq.frozen (p := ⟨w.heap.size + 1 + 1, 1, none⟩) (by simp)).trans (by go_cell)
  have hg' : w.heap.size + 3 ≤ g := by simpa using hg
  obtain ⟨q0, q1⟩ := set2_get (w := w1.setCell ⟨w.heap.size + 1 + 1, 1, none⟩ (.slice (some ⟨g, 0, none⟩) xs.length xs.length)) (x := .int .i64 W) (y := .slice (some ⟨g, 0, none⟩) xs.length xs.length) ((World.cell?_setCell_other _ _ _ _ (by simp)).trans f10) ((World.cell?_setCell_other _ _ _ _ (by simp)).trans f11)
  clear hq hg
  go_wp2
  refine bodyPost_ret (res_img rfl _ _ rfl q0 q1) rfl ?_
  refine ⟨g, _, rfl, by omega, ((hr.far (by simp; omega) _).far (by simp; omega) _).far (by simp; omega) _, ?_⟩
  exact ((hB0.setCell (by simp; omega) _).setCell (by simp) _).setCell (by simp) _
end Go.Proofs.YtmhbcfnakhgihaaDoor
