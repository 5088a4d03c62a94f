/- Contracts of ConvexCount and PolyCount of the reference. Conditions: the slices read as lists of integers. -/
import Derived.Test.YtilahcpjjaikgaaDoorSC3
namespace Go.Proofs.YtilahcpjjaikgaaDoor
open Go Go.RowKit
set_option maxHeartbeats 2000000 in
theorem sConvexCount_c (u v : Value) (rs cs : List Int) (hr : rs.length ≤ 2097152) (hc : cs.length ≤ 2097152) (w : World) (hu : Ints w.heap.size w u rs) (hv : Ints w.heap.size w v cs) :
    Calls Tryd.prog 22 #[u, v] w fun e w' => e = .returned (.int .i64 (nConvexCount rs cs)) ∧ Below w.heap.size w w' := by
  have HS := l15Ok_c u v rs cs hr hc w hu hv
  unfold nConvexCount
  cases hs : ctB rs cs with
  | false =>
    rw [hs] at HS
    obtain ⟨A, cap, rfl⟩ := hu.len
    obtain ⟨B, cap', rfl⟩ := hv.len
    clear hs
    go_enter Tryd.func22, Tryd.ntmps22
    go_wp2_with (go_at_call 42; refine HS.mono ?_; rintro e w' ⟨rfl, rfl⟩)
    go_returns
    exact ⟨by simp, Below.refl _ _⟩
  | true =>
    rw [hs] at HS
    have h16 : rs.length * cs.length ≤ 16 := by
      unfold ctB at hs
      rw [Bool.and_eq_true, decide_eq_true_eq] at hs
      exact hs.2
    have hsv : svB rs cs = true := by
      unfold ctB at hs
      exact (Bool.and_eq_true _ _ ▸ hs).1
    have HC := l34Convex_c rs cs (svB_yes hsv) h16 u v w hu hv
    have hcn : cntI cs.length rs cs (cvxB cs.length) = ((genI cs.length rs cs).filter (cvxB cs.length)).length := rfl
    obtain ⟨A, cap, rfl⟩ := hu.len
    obtain ⟨B, cap', rfl⟩ := hv.len
    obtain ⟨M, eM⟩ : ∃ M, M = (genI cs.length rs cs).filter (cvxB cs.length) := ⟨_, rfl⟩
    rw [← eM] at HC hcn
    rw [hcn]
    obtain ⟨n, en⟩ : ∃ n, n = M.length := ⟨_, rfl⟩
    rw [← en]
    clear hs hsv eM hcn h16
    go_enter Tryd.func22, Tryd.ntmps22
    go_wp2_with (go_at_call 42; refine HS.mono ?_; rintro e w' ⟨rfl, rfl⟩)
    refine HC.mono ?_
    rintro e w' ⟨b, c, gs, rfl, him, hb⟩
    rw [← en]
    clear him
    go_wp2
    go_returns
    exact ⟨by simp, hb⟩
end Go.Proofs.YtilahcpjjaikgaaDoor
