/- Plain laws of the image that fills: it fits, also turned; one cell more does not fit; greater sums are filled, too. No condition beyond those that the theorems name. -/
import Derived.Test.YtehoaagnpidnbaaFP2
import Derived.Test.YtehoaagnpidnbaaFI10
namespace Go.Proofs.Ytehoaagnpidnbaa
theorem FitI.fits {n : Nat} {ns : List Nat} {rs cs : List Int} (h : FitI n rs cs ns) (hS : Sums rs cs) : Fits n ns rs cs :=
  ⟨h.img hS, hS, h.len, h.w, fun i hi => by rw [rowS_at hi]; exact h.r i hi, fun j hj => by rw [colS_at hj]; exact h.c j hj⟩
theorem fil_fits {rs cs : List Int} (hS : Sums rs cs) : Fits cs.length (fillO rs cs) rs cs := (fillO_fit hS).1.fits hS
theorem many_cnt (n : Nat) (ns : List Nat) : mom n ns one = cnt n ns := many_sum n ns
theorem fil_many {rs cs : List Int} (hS : Sums rs cs) : mom cs.length (fillO rs cs) one = fm rs cs := by rw [many_cnt]; exact (fillO_fit hS).2
theorem cell_mkT (n : Nat) (ns : List Nat) {i j : Nat} (hi : i < n) (hj : j < ns.length) : cell (turnL n ns) i j = cell ns j i := by
  unfold turnL
  rw [cell_mk]
  simp [hi, hj]
theorem len_mkT (n : Nat) (ns : List Nat) : (turnL n ns).length = n := by unfold turnL; exact length_mk _ _ _
theorem Fits.turn {n : Nat} {ns : List Nat} {rs cs : List Int} (h : Fits n ns rs cs) : Fits ns.length (turnL n ns) cs rs := by
  have hl := len_mkT n ns
  refine ⟨vimg_turn h.V, h.S.turn, by rw [hl]; exact h.w, h.h, fun i hi => ?_, fun j hj => ?_⟩
  · rw [hl] at hi
    have h1 := h.c i hi
    rw [colSums_getD hi] at h1
    rw [rowSums_getD (by rw [hl]; exact hi)]
    have e : (sumN ns.length fun j => b2i (cell (turnL n ns) i j)) = sumN ns.length fun j => b2i (cell ns j i) := sumN_congr fun j hj => by rw [cell_mkT n ns hi hj]
    rw [e]
    exact h1
  · have h1 := h.r j hj
    rw [rowSums_getD hj] at h1
    rw [colSums_getD hj, hl]
    have e : (sumN n fun i => b2i (cell (turnL n ns) i j)) = sumN n fun i => b2i (cell ns j i) := sumN_congr fun i hi => by rw [cell_mkT n ns hi hj]
    rw [e]
    exact h1
/-- One cell more does not fit. -/
theorem fil_other {rs cs : List Int} (hS : Sums rs cs) {i j : Nat} (hi : i < (fillO rs cs).length) (hj : j < cs.length) (hc : cell (fillO rs cs) i j = false) : ffB (cs.length : Int) (casts (putL (fillO rs cs) i j true)) rs cs = false := by
  cases hff : ffB (cs.length : Int) (casts (putL (fillO rs cs) i j true)) rs cs with
  | false => rfl
  | true =>
    exfalso
    obtain ⟨n, ms, e1, e2, hF⟩ := ff_open hff
    have e3 : n = cs.length := by omega
    have e4 : ms = putL (fillO rs cs) i j true := by
      have := congrArg (List.map Int.toNat) e2
      rw [casts_back, casts_back] at this
      exact this.symm
    subst e3 e4
    have h1 := hF.many
    have h2 := mom_set (w := cs.length) (ns := fillO rs cs) (ms := putL (fillO rs cs) i j true) (length_putL ..) hi hj hc (fun a b ha hb => by
      rw [cell_putL hi]
      by_cases e : a = i ∧ b = j
      · rw [if_pos e]; simp [e.1, e.2]
      · rw [if_neg e]
        have : (decide (a = i) && decide (b = j)) = false := by simpa using fun h1 h2 => e ⟨h1, h2⟩
        rw [this, Bool.or_false]) one
    rw [fil_many hS] at h2
    have : one i j = 1 := rfl
    omega
/-- Sums with one greater row are filled, too. -/
theorem Fits.more {n : Nat} {ns : List Nat} {rs cs : List Int} (h : Fits n ns rs cs) {k : Nat} (hk : k < rs.length) {z : Int} (hz : z = min (cs.length : Int) (rs.getD k 0 + 1)) : Fits n ns (rs.set k z) cs := by
  have hb := h.S.r k hk
  have hw : (n : Int) = cs.length := by have := h.w; omega
  have hget : ∀ i, (rs.set k z).getD i 0 = if i = k then z else rs.getD i 0 := fun i => getD_set_i hk
  refine ⟨h.V, ⟨by simpa using h.S.h1, by simpa using h.S.h6, h.S.w1, h.S.w6, fun j hj => ?_, fun j hj => by simpa using h.S.c j hj⟩, by simpa using h.h, h.w, fun i hi => ?_, h.c⟩
  · rw [hget]
    have hj' : j < rs.length := by simpa using hj
    split
    · omega
    · exact h.S.r j hj'
  · rw [hget]
    have h1 := h.r i hi
    split
    · rename_i e
      subst e
      omega
    · exact h1
end Go.Proofs.Ytehoaagnpidnbaa
