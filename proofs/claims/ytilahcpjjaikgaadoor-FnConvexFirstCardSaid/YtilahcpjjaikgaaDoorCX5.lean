/- Contracts of ImagePoly of the program and of the reference. Conditions: the slice reads as a list of integers; the library's table stands in its block. -/
import Derived.Test.YtilahcpjjaikgaaDoorMX
import Derived.Test.YtilahcpjjaikgaaDoorMI
import Derived.Test.YtilahcpjjaikgaaDoorML
namespace Go.Proofs.YtilahcpjjaikgaaDoor
open Go.RowKit
open Gr
/-- Whether an image is a convex polyomino. -/
def polyO (W : Int) (rows : List Int) : Bool := cvxO W rows && (onImg (-1) partsN W rows == 1)
theorem polyO_no {W : Int} {rows : List Int} (h : cvxO W rows = false) : polyO W rows = false := by unfold polyO; rw [h]; rfl
theorem polyO_cvx {W : Int} {rows : List Int} (h : cvxO W rows = true) : polyO W rows = (onImg (-1) partsN W rows == 1) := by unfold polyO; rw [h]; rfl
set_option maxHeartbeats 1000000 in
theorem ImagePoly_c (W : Int) (v : Value) (rows : List Int) (w : World) (hv : Ints w.heap.size w v rows) (hT : Tab w) :
    Calls Tryd.prog 24 #[.agg #[.int .i64 W, v]] w fun e w' => e = .returned (.bool (polyO W rows)) ∧ Below w.heap.size w w' := by
  obtain ⟨A, cap, rfl⟩ := hv.len
  have hI := Arg.new hv
  have hW := Below.refl w.heap.size w
  go_enter Tryd.func24, Tryd.ntmps24
  obtain ⟨W0, e_W0⟩ : ∃ W0, W0 = World.alloc w (.cells #[.int .i64 W, .slice A rows.length cap] 27) := ⟨_, rfl⟩
  have hx_W0 := Box2.new w (.int .i64 W) (.slice A rows.length cap) 27
  have hb_W0 : Below (World.heap w).size w W0 := by rw [e_W0]; go_grown
  have HS_W0 := Lib.hid (show (World.heap W0).size = (World.heap w).size + 1 by rw [e_W0]; simp)
  replace hI := hI.below hb_W0
  replace hW := hW.trans (Below.mono hb_W0 hW.size)
  have HE_W0 := Lib.hid e_W0
  clear e_W0
  go_wp2_with fail
  rw [← HE_W0.out] at hx_W0 ⊢
  clear HE_W0
  obtain ⟨hl_x, x0, x1⟩ := hx_W0
  obtain ⟨Bx, e_Bx⟩ : ∃ Bx, Bx = (World.heap w).size := ⟨_, rfl⟩
  rw [← e_Bx] at hl_x x0 x1 hb_W0 HS_W0  ⊢
  have hz_Bx := hb_W0.size
  clear e_Bx hb_W0
  clear hv
  refine (ImageConvex_c W _ rows _ hI.ints (hT.below hW)).mono ?_
  rintro e wc ⟨rfl, hb⟩
  replace hI := hI.below hb
  replace hW := hW.trans (Below.mono hb hW.size)
  replace x0 := cellB hb x0
  replace x1 := cellB hb x1
  cases hc : cvxO W rows with
  | false =>
    have HM := Lib.hid (polyO_no hc)
    clear hc
    go_wp2
    go_returns
    exact ⟨rb HM.out.symm, hW⟩
  | true =>
    have HM := Lib.hid (polyO_cvx hc)
    clear hc
    go_wp2_with fail
    refine (ImageParts_c W _ rows _ hI.ints).mono ?_
    rintro e wc ⟨rfl, hb⟩
    replace hI := hI.below hb
    replace hW := hW.trans (Below.mono hb hW.size)
    replace x0 := cellB hb x0
    replace x1 := cellB hb x1
    go_wp2
    go_returns
    exact ⟨rb HM.out.symm, hW⟩
theorem polyO_valid {W : Int} {rows : List Int} (h : polyO W rows = true) : ∃ (n : Nat) (ns : List Nat), W = n ∧ rows = casts ns ∧ VImg n ns ∧ cvxB n ns = true ∧ partsN n ns = 1 := by
  unfold polyO at h
  rw [Bool.and_eq_true] at h
  have hv : validB W rows = true := by
    cases hh : validB W rows with
    | true => rfl
    | false => rw [cvxO_no hh] at h; cases h.1
  obtain ⟨n, ns, rfl, rfl, hV⟩ := validB_yes hv
  rw [cvxO_yes hV, onImg_yes hV] at h
  exact ⟨n, ns, rfl, rfl, hV, h.1, by simpa using h.2⟩
theorem polyO_of {n : Nat} {ns : List Nat} (hV : VImg n ns) (h1 : cvxB n ns = true) (h2 : partsN n ns = 1) : polyO (n : Int) (casts ns) = true := by
  unfold polyO
  rw [cvxO_yes hV, onImg_yes hV, h1, h2]
  rfl
end Go.Proofs.YtilahcpjjaikgaaDoor
