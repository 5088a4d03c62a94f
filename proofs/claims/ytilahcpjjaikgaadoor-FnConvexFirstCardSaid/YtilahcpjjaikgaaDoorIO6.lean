/- Contracts of ConvexCount and PolyCount: how many images with the sums are convex, and convex polyominoes. Conditions: the slices read as lists of integers; the library's table stands in its block. -/
import Derived.Test.YtilahcpjjaikgaaDoorMIO
import Derived.Test.YtilahcpjjaikgaaDoorCX5
namespace Go.Proofs.YtilahcpjjaikgaaDoor
open Go Go.RowKit
/-- The count, or -1. -/
def nConvexCount (rs cs : List Int) : Int := if ctB rs cs = true then (cntI cs.length rs cs (cvxB cs.length) : Nat) else -1
set_option maxHeartbeats 2000000 in
theorem ConvexCount_c (u v : Value) (rs cs : List Int) (hr : rs.length ≤ 2097152) (hc : cs.length ≤ 2097152) (w : World) (hu : Ints w.heap.size w u rs) (hv : Ints w.heap.size w v cs) (hT : Tab w) :
    Calls Tryd.prog 14 #[u, v] w fun e w' => e = .returned (.int .i64 (nConvexCount rs cs)) ∧ Below w.heap.size w w' := by
  have HS := countable_c u v rs cs hr hc w hu hv
  unfold nConvexCount
  cases hs : ctB rs cs with
  | false =>
    rw [hs] at HS
    obtain ⟨A, cap, rfl⟩ := hu.len
    obtain ⟨B, cap', rfl⟩ := hv.len
    clear hs
    go_enter Tryd.func14, Tryd.ntmps14
    go_wp2_with (go_at_call 28; refine HS.mono ?_; rintro e w' ⟨rfl, rfl⟩)
    go_returns
    exact ⟨by simp, Below.refl _ _⟩
  | true =>
    rw [hs] at HS
    have hsv : svB rs cs = true := by
      unfold ctB at hs
      exact (Bool.and_eq_true _ _ ▸ hs).1
    have hS := svB_yes hsv
    have HC := countImages_c (cvxB cs.length) 30 cs.length rs.length rs cs rfl rfl hS.h1 hS.h6 hS.w1 hS.w6 (fun i hi => by have := hS.r i hi; have := hS.w6; omega) hS.c u v w hu hv (enters_of Tryd.func30 (by kernel_rfl) rfl)
      (fun ns g c W hV hnl hb hrow => by
        have hI := hrow.intsH (h := rs.length) (c := c) hnl
        exact convex_c cs.length _ ns hV W hI (hT.below hb))
    obtain ⟨A, cap, rfl⟩ := hu.len
    obtain ⟨B, cap', rfl⟩ := hv.len
    clear hs hsv hS
    go_enter Tryd.func14, Tryd.ntmps14
    go_wp2_with (go_at_call 28; refine HS.mono ?_; rintro e w' ⟨rfl, rfl⟩)
    refine HC.mono ?_
    rintro e w' ⟨rfl, hb⟩
    go_wp2
    go_returns
    exact ⟨by simp, hb⟩
/-- Whether a valid image is a convex polyomino. -/
def polyB (n : Nat) (ns : List Nat) : Bool := cvxB n ns && (partsN n ns == 1)
theorem poly_img {n : Nat} {ns : List Nat} (hV : VImg n ns) : polyO (n : Int) (casts ns) = polyB n ns := by
  unfold polyB
  cases h : polyO (n : Int) (casts ns) with
  | true =>
    obtain ⟨m, ms, e1, e2, hV', h1, h2⟩ := polyO_valid h
    obtain rfl : n = m := by omega
    obtain rfl : ns = ms := by
      have back : ∀ xs : List Nat, (casts xs).map Int.toNat = xs := fun xs => by
        unfold casts
        rw [List.map_map]
        exact (List.map_congr_left fun x _ => by simp).trans (List.map_id xs)
      rw [← back ns, e2, back]
    simp [h1, h2]
  | false =>
    cases h1 : cvxB n ns with
    | false => rfl
    | true =>
      by_cases h2 : partsN n ns = 1
      · rw [polyO_of hV h1 h2] at h
        cases h
      · simp [h2]
/-- The count, or -1. -/
def nPolyCount (rs cs : List Int) : Int := if ctB rs cs = true then (cntI cs.length rs cs (polyB cs.length) : Nat) else -1
set_option maxHeartbeats 2000000 in
theorem PolyCount_c (u v : Value) (rs cs : List Int) (hr : rs.length ≤ 2097152) (hc : cs.length ≤ 2097152) (w : World) (hu : Ints w.heap.size w u rs) (hv : Ints w.heap.size w v cs) (hT : Tab w) :
    Calls Tryd.prog 25 #[u, v] w fun e w' => e = .returned (.int .i64 (nPolyCount rs cs)) ∧ Below w.heap.size w w' := by
  have HS := countable_c u v rs cs hr hc w hu hv
  unfold nPolyCount
  cases hs : ctB rs cs with
  | false =>
    rw [hs] at HS
    obtain ⟨A, cap, rfl⟩ := hu.len
    obtain ⟨B, cap', rfl⟩ := hv.len
    clear hs
    go_enter Tryd.func25, Tryd.ntmps25
    go_wp2_with (go_at_call 28; refine HS.mono ?_; rintro e w' ⟨rfl, rfl⟩)
    go_returns
    exact ⟨by simp, Below.refl _ _⟩
  | true =>
    rw [hs] at HS
    have hsv : svB rs cs = true := by
      unfold ctB at hs
      exact (Bool.and_eq_true _ _ ▸ hs).1
    have hS := svB_yes hsv
    have HC := countImages_c (polyB cs.length) 24 cs.length rs.length rs cs rfl rfl hS.h1 hS.h6 hS.w1 hS.w6 (fun i hi => by have := hS.r i hi; have := hS.w6; omega) hS.c u v w hu hv (enters_of Tryd.func24 (by kernel_rfl) rfl)
      (fun ns g c W hV hnl hb hrow => by
        have hI := hrow.intsH (h := rs.length) (c := c) hnl
        refine (ImagePoly_c (cs.length : Int) _ (casts ns) W hI (hT.below hb)).mono ?_
        rintro e w' ⟨rfl, h⟩
        exact ⟨by rw [poly_img hV], h⟩)
    obtain ⟨A, cap, rfl⟩ := hu.len
    obtain ⟨B, cap', rfl⟩ := hv.len
    clear hs hsv hS
    go_enter Tryd.func25, Tryd.ntmps25
    go_wp2_with (go_at_call 28; refine HS.mono ?_; rintro e w' ⟨rfl, rfl⟩)
    refine HC.mono ?_
    rintro e w' ⟨rfl, hb⟩
    go_wp2
    go_returns
    exact ⟨by simp, hb⟩
end Go.Proofs.YtilahcpjjaikgaaDoor
