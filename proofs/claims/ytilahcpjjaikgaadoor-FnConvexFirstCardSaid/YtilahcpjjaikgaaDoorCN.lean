/- Plain laws of the numbers of images with given sums: turned and mirrored sums have as many; a convex polyomino has no empty row between others. No condition beyond those that the theorems name. -/
import Derived.Test.YtilahcpjjaikgaaDoorIO6
import Derived.Test.YtilahcpjjaikgaaDoorMPH
import Derived.Test.YtilahcpjjaikgaaDoorFC
namespace Go.Proofs.YtilahcpjjaikgaaDoor
open Gr
section
variable {n : Nat} {ns : List Nat}
theorem row_turn (hV : VImg n ns) : rowSums ns.length (turnL n ns) = colSums n ns := by
  have hl : (turnL n ns).length = n := len_turnL
  refine list_ext_i (by rw [rowSums_len, hl, colSums_len]) fun j hj => ?_
  rw [rowSums_len, hl] at hj
  rw [rowSums_getD (by rw [hl]; exact hj), colSums_getD hj]
  exact sumN_congr fun k _ => by rw [cell_turnL hV]
theorem col_turn (hV : VImg n ns) : colSums ns.length (turnL n ns) = rowSums n ns := by
  have hl : (turnL n ns).length = n := len_turnL
  refine list_ext_i (by rw [rowSums_len, colSums_len]) fun j hj => ?_
  rw [colSums_len] at hj
  rw [rowSums_getD hj, colSums_getD hj, hl]
  exact sumN_congr fun k _ => by rw [cell_turnL hV]
theorem row_mir (hV : VImg n ns) : rowSums n (mirL n ns) = rowSums n ns := by
  have hl : (mirL n ns).length = ns.length := len_mirL
  refine list_ext_i (by rw [rowSums_len, rowSums_len, hl]) fun j hj => ?_
  rw [rowSums_len, hl] at hj
  rw [rowSums_getD (by rw [hl]; exact hj), rowSums_getD hj, ← sumN_rev n fun k => b2i (cell ns j k)]
  exact sumN_congr fun k hk => by rw [cell_mirL j k hV, decide_eq_true hk, Bool.true_and]
theorem col_mir (hV : VImg n ns) : colSums n (mirL n ns) = (colSums n ns).reverse := by
  have hl : (mirL n ns).length = ns.length := len_mirL
  refine list_ext_i (by rw [colSums_len, List.length_reverse, colSums_len]) fun j hj => ?_
  rw [colSums_len] at hj
  rw [colSums_getD hj, List.getD_eq_getElem?_getD, List.getElem?_reverse (by rw [colSums_len]; exact hj), ← List.getD_eq_getElem?_getD, colSums_len, colSums_getD (by omega), hl]
  exact sumN_congr fun k hk => by rw [cell_mirL k j hV, decide_eq_true hj, Bool.true_and]
theorem mir_mir (hV : VImg n ns) : mirL n (mirL n ns) = ns := by
  have h2 := vimg_mir (vimg_mir hV)
  refine img_ext (by rw [len_mirL, len_mirL]) h2.hi hV.hi fun i j _ hj => ?_
  rw [cell_mirL i j (vimg_mir hV), decide_eq_true hj, Bool.true_and, cell_mirL i _ hV, decide_eq_true (by omega : n - 1 - j < n), Bool.true_and, show n - 1 - (n - 1 - j) = j by omega]
end
section
variable {rs cs : List Int}
theorem cnt_turn_le (hS : Sums rs cs) {p p' : List Nat → Bool} (hp : ∀ x, VImg cs.length x → x.length = rs.length → p x = true → p' (turnL cs.length x) = true) : cntI cs.length rs cs p ≤ cntI rs.length cs rs p' := by
  refine cnt_le (turnL cs.length) (fun x hx h => ?_) fun x y hx hy e => ?_
  · obtain ⟨hV, hr, hc, hl⟩ := gen_img hS.h1 hS.h6 hS.w1 hS.w6 hx
    refine ⟨?_, hp x hV hl h⟩
    have := img_gen (vimg_turn hV)
    rw [row_turn hV, col_turn hV, hr, hc, hl] at this
    exact this
  · obtain ⟨hV, _, _, hl⟩ := gen_img hS.h1 hS.h6 hS.w1 hS.w6 hx
    obtain ⟨hV', _, _, hl'⟩ := gen_img hS.h1 hS.h6 hS.w1 hS.w6 hy
    have := congrArg (turnL rs.length) e
    rw [← hl, turn_turn hV, hl, ← hl', turn_turn hV'] at this
    exact this
theorem cnt_mir_le (hS : Sums rs cs) {p p' : List Nat → Bool} (hp : ∀ x, VImg cs.length x → x.length = rs.length → p x = true → p' (mirL cs.length x) = true) : cntI cs.length rs cs p ≤ cntI cs.length rs cs.reverse p' := by
  refine cnt_le (mirL cs.length) (fun x hx h => ?_) fun x y hx hy e => ?_
  · obtain ⟨hV, hr, hc, hl⟩ := gen_img hS.h1 hS.h6 hS.w1 hS.w6 hx
    refine ⟨?_, hp x hV hl h⟩
    have := img_gen (vimg_mir hV)
    rw [row_mir hV, col_mir hV, hr, hc] at this
    exact this
  · obtain ⟨hV, _, _, hl⟩ := gen_img hS.h1 hS.h6 hS.w1 hS.w6 hx
    obtain ⟨hV', _, _, hl'⟩ := gen_img hS.h1 hS.h6 hS.w1 hS.w6 hy
    have := congrArg (mirL cs.length) e
    rw [mir_mir hV, mir_mir hV'] at this
    exact this
theorem getD_rev {xs : List Int} {j : Nat} (hj : j < xs.length) : xs.reverse.getD j 0 = xs.getD (xs.length - 1 - j) 0 := by
  rw [List.getD_eq_getElem?_getD, List.getElem?_reverse hj, ← List.getD_eq_getElem?_getD]
theorem Sums.mir (h : Sums rs cs) : Sums rs cs.reverse :=
  ⟨h.h1, h.h6, by rw [List.length_reverse]; exact h.w1, by rw [List.length_reverse]; exact h.w6, by rw [List.length_reverse]; exact h.r, fun j hj => by
    rw [List.length_reverse] at hj
    rw [getD_rev hj]
    exact h.c _ (by omega)⟩
theorem ct_sums (h : ctB rs cs = true) : Sums rs cs ∧ rs.length * cs.length ≤ 16 := by
  unfold ctB at h
  rw [Bool.and_eq_true, decide_eq_true_eq] at h
  exact ⟨svB_yes h.1, h.2⟩
theorem ct_of (h : Sums rs cs) (hm : rs.length * cs.length ≤ 16) : ctB rs cs = true := by
  unfold ctB
  rw [svB_of h, decide_eq_true hm]
  rfl
theorem poly_turn {n : Nat} {ns : List Nat} (hV : VImg n ns) (h : polyB n ns = true) : polyB ns.length (turnL n ns) = true := by
  unfold polyB at *
  rw [Bool.and_eq_true] at *
  exact ⟨cvx_turn hV h.1, by rw [turn_parts hV]; exact h.2⟩
theorem nConvexCount_yes (h : ctB rs cs = true) : nConvexCount rs cs = (cntI cs.length rs cs (cvxB cs.length) : Nat) := by unfold nConvexCount; rw [if_pos h]
theorem nPolyCount_yes (h : ctB rs cs = true) : nPolyCount rs cs = (cntI cs.length rs cs (polyB cs.length) : Nat) := by unfold nPolyCount; rw [if_pos h]
theorem nConvexCount_ct (h : 0 ≤ nConvexCount rs cs) : ctB rs cs = true := by
  unfold nConvexCount at h
  by_cases e : ctB rs cs = true
  · exact e
  · rw [if_neg e] at h; omega
theorem nPolyCount_ct (h : 0 ≤ nPolyCount rs cs) : ctB rs cs = true := by
  unfold nPolyCount at h
  by_cases e : ctB rs cs = true
  · exact e
  · rw [if_neg e] at h; omega
theorem ct_turn (h : ctB rs cs = true) : ctB cs rs = true := by
  obtain ⟨hS, hm⟩ := ct_sums h
  exact ct_of hS.turn (by rw [Nat.mul_comm]; exact hm)
theorem ct_mir (h : ctB rs cs = true) : ctB rs cs.reverse = true := by
  obtain ⟨hS, hm⟩ := ct_sums h
  exact ct_of hS.mir (by rw [List.length_reverse]; exact hm)
theorem convex_turn (h : ctB rs cs = true) : nConvexCount cs rs = nConvexCount rs cs := by
  have h' := ct_turn h
  obtain ⟨hS, _⟩ := ct_sums h
  rw [nConvexCount_yes h, nConvexCount_yes h']
  have h1 := cnt_turn_le hS (p := cvxB cs.length) (p' := cvxB rs.length) fun x hV hl hp => by have := cvx_turn hV hp; rwa [hl] at this
  have h2 := cnt_turn_le hS.turn (p := cvxB rs.length) (p' := cvxB cs.length) fun x hV hl hp => by have := cvx_turn hV hp; rwa [hl] at this
  omega
theorem poly_count_turn (h : ctB rs cs = true) : nPolyCount cs rs = nPolyCount rs cs := by
  have h' := ct_turn h
  obtain ⟨hS, _⟩ := ct_sums h
  rw [nPolyCount_yes h, nPolyCount_yes h']
  have h1 := cnt_turn_le hS (p := polyB cs.length) (p' := polyB rs.length) fun x hV hl hp => by have := poly_turn hV hp; rwa [hl] at this
  have h2 := cnt_turn_le hS.turn (p := polyB rs.length) (p' := polyB cs.length) fun x hV hl hp => by have := poly_turn hV hp; rwa [hl] at this
  omega
theorem convex_mir (h : ctB rs cs = true) : nConvexCount rs cs.reverse = nConvexCount rs cs := by
  have h' := ct_mir h
  obtain ⟨hS, _⟩ := ct_sums h
  rw [nConvexCount_yes h, nConvexCount_yes h', List.length_reverse]
  have h1 := cnt_mir_le hS (p := cvxB cs.length) (p' := cvxB cs.length) fun x hV hl hp => cvx_mir hV hp
  have h2 := cnt_mir_le hS.mir (p := cvxB cs.length) (p' := cvxB cs.length) fun x hV hl hp => by
    rw [List.length_reverse] at hV ⊢
    exact cvx_mir hV hp
  rw [List.length_reverse, List.reverse_reverse] at h2
  omega
theorem poly_le (rs cs : List Int) : nPolyCount rs cs ≤ nConvexCount rs cs := by
  unfold nPolyCount nConvexCount
  split
  · have := cnt_sub (w := cs.length) (rs := rs) (cs := cs) (p := polyB cs.length) (q := cvxB cs.length) fun x h => by
      unfold polyB at h
      rw [Bool.and_eq_true] at h
      exact h.1
    omega
  · omega
end
section
variable {n : Nat} {ns : List Nat}
theorem row_none {i : Nat} (hi : i < ns.length) (h : (rowSums n ns).getD i 0 = 0) {j : Nat} (hj : j < n) : cell ns i j = false := by
  rw [rowSums_getD hi] at h
  have h1 : ∀ m, sumN m (fun j => b2i (cell ns i j)) = 0 → ∀ j, j < m → cell ns i j = false := fun m => by
    induction m with
    | zero => intro _ j hj; omega
    | succ m ih =>
      intro h j hj
      rw [sumN] at h
      have g1 : 0 ≤ sumN m (fun j => b2i (cell ns i j)) := sumN_nonneg fun _ _ => (b2i_bd _).1
      have g2 := b2i_bd (cell ns i m)
      by_cases e : j = m
      · subst e
        cases hb : cell ns i j with
        | false => rfl
        | true =>
          rw [hb] at h g2
          have : b2i true = 1 := rfl
          omega
      · exact ih (by omega) j (by omega)
  exact h1 n h j hj
theorem row_some {i : Nat} (hi : i < ns.length) (h : 0 < (rowSums n ns).getD i 0) : ∃ j, j < n ∧ cell ns i j = true := by
  refine Classical.byContradiction fun hn => ?_
  rw [rowSums_getD hi] at h
  have : sumN n (fun j => b2i (cell ns i j)) = sumN n fun _ => 0 := sumN_congr fun k hk => by
    cases hb : cell ns i k with
    | false => rfl
    | true => exact absurd ⟨k, hk, hb⟩ hn
  rw [this, sumN_zero] at h
  omega
theorem reach_up {i a b k l : Nat} (hz : ∀ j, cell ns i j = false) (ha : a < i) (h : Gr.Reach (cell ns) false a b k l) : k < i := by
  induction h with
  | refl => exact ha
  | step h ad t ih =>
    rename_i k' l' m' n'
    have h1 := ad
    unfold Adj at h1
    by_cases e : m' = i
    · subst e
      rw [hz] at t
      cases t
    · simp only [Bool.false_eq_true] at h1
      omega
theorem poly_gap (hV : VImg n ns) (h : polyB n ns = true) {i : Nat} (h1 : 1 ≤ i) (hi : i + 1 < ns.length) (hz : (rowSums n ns).getD i 0 = 0) (ha : 0 < (rowSums n ns).getD (i - 1) 0) (hb : 0 < (rowSums n ns).getD (i + 1) 0) : False := by
  unfold polyB at h
  rw [Bool.and_eq_true] at h
  have hp : partsN n ns = 1 := eq_of_beq h.2
  obtain ⟨a, _, ca⟩ := row_some (by omega) ha
  obtain ⟨b, _, cb⟩ := row_some hi hb
  have hc := one_comp hV hp ca
  have hr := (cell_comp (near := false) (sized_img hV).inside (c := (i - 1, a)) ca (k := i + 1) (l := b)).1 (by rw [hc]; exact cb)
  have hzz : ∀ j, cell ns i j = false := fun j => by
    by_cases hj : j < n
    · exact row_none (by omega) hz hj
    · cases hb' : cell ns i j with
      | false => rfl
      | true => exact absurd (hV.cell_in hb').2 hj
  have := reach_up hzz (by omega) hr
  omega
theorem gap_zero {rs cs : List Int} (h : ctB rs cs = true) {i : Nat} (h1 : 1 ≤ i) (hi : i + 1 < rs.length) (hz : rs.getD i 0 = 0) (ha : 0 < rs.getD (i - 1) 0) (hb : 0 < rs.getD (i + 1) 0) : nPolyCount rs cs = 0 := by
  obtain ⟨hS, _⟩ := ct_sums h
  rw [nPolyCount_yes h]
  have : cntI cs.length rs cs (polyB cs.length) = 0 := by
    unfold cntI
    rw [List.length_eq_zero_iff, List.filter_eq_nil_iff]
    intro x hx hp
    obtain ⟨hV, hr, _, hl⟩ := gen_img hS.h1 hS.h6 hS.w1 hS.w6 hx
    exact poly_gap hV hp h1 (by omega) (by rw [hr]; exact hz) (by rw [hr]; exact ha) (by rw [hr]; exact hb)
  rw [this]
  rfl
end
theorem sums_img {n : Nat} {ns : List Nat} (hV : VImg n ns) : Sums (rowSums n ns) (colSums n ns) := by
  have b := fun (m : Nat) (p : Nat → Bool) => sumN_bd (n := m) (f := fun k => b2i (p k)) (c := 1) fun k _ => b2i_bd _
  refine ⟨by rw [rowSums_len]; exact hV.h1, by rw [rowSums_len]; exact hV.h6, by rw [colSums_len]; exact hV.w1, by rw [colSums_len]; exact hV.w6, fun j hj => ?_, fun j hj => ?_⟩
  · rw [rowSums_len] at hj
    rw [rowSums_getD hj, colSums_len]
    have := b n (cell ns j)
    omega
  · rw [colSums_len] at hj
    rw [colSums_getD hj, rowSums_len]
    have := b ns.length fun i => cell ns i j
    omega
/-- An image of few cells is counted among those with its sums. -/
theorem poly_has {n : Nat} {ns : List Nat} (hV : VImg n ns) (h : polyB n ns = true) (hm : ns.length * n ≤ 16) : 0 < nPolyCount (rowSums n ns) (colSums n ns) := by
  rw [nPolyCount_yes (ct_of (sums_img hV) (by rw [rowSums_len, colSums_len]; exact hm)), colSums_len]
  have := cnt_pos (img_gen hV) h
  omega
theorem convex_has {n : Nat} {ns : List Nat} (hV : VImg n ns) (h : cvxB n ns = true) (hm : ns.length * n ≤ 16) : 0 < nConvexCount (rowSums n ns) (colSums n ns) := by
  rw [nConvexCount_yes (ct_of (sums_img hV) (by rw [rowSums_len, colSums_len]; exact hm)), colSums_len]
  have := cnt_pos (img_gen hV) h
  omega
theorem ct_big {n : Nat} {ns : List Nat} (hm : ¬ ns.length * n ≤ 16) : ctB (rowSums n ns) (colSums n ns) = false := by
  rw [← Bool.not_eq_true]
  intro h
  have := (ct_sums h).2
  rw [rowSums_len, colSums_len] at this
  exact hm this
end Go.Proofs.YtilahcpjjaikgaaDoor
