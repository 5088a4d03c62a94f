/- Contracts of excess, PartOf. Conditions: one to six numbers from 0 to 6. -/
import Derived.Test.YtldmilpohappiaaFS1
import Derived.Test.YtldmilpohappiaaFE0
namespace Go.Proofs.Ytldmilpohappiaa
open Go.RowKit
theorem Desc.len {xs ys : List Int} (h : Desc xs ys) : ys.length = xs.length := h.perm.length_eq
theorem Desc.bd {xs ys : List Int} (h : Desc xs ys) (hb : ∀ x ∈ xs, 0 ≤ x ∧ x ≤ 6) : ∀ y ∈ ys, 0 ≤ y ∧ y ≤ 6 := fun y hy => hb y (h.perm.mem_iff.1 hy)
theorem Desc.top {xs ys : List Int} (h : Desc xs ys) (hb : ∀ x ∈ xs, 0 ≤ x ∧ x ≤ 6) (t : Nat) : (ys.take t).sum = top xs t := by
  rw [← top_desc h.desc (fun y hy => (h.bd hb y hy).1) t]
  exact top_perm h.perm t
theorem perm_sum {xs ys : List Int} (h : xs.Perm ys) : xs.sum = ys.sum := by
  induction h with
  | nil => rfl
  | cons x _ ih => rw [List.sum_cons, List.sum_cons, ih]
  | swap x y l => simp only [List.sum_cons]; omega
  | trans _ _ h1 h2 => exact h1.trans h2
theorem Desc.sum {xs ys : List Int} (h : Desc xs ys) : ys.sum = xs.sum := perm_sum h.perm
theorem minS_take {t : Int} {cs : List Int} {k : Nat} (hk : k < cs.length) : minS t (cs.take (k + 1)) = minS t (cs.take k) + min (cs.getD k 0) t := by
  rw [take_snoc_i hk]
  simp [minS]
theorem minS_bd {t : Nat} {cs : List Int} (hb : ∀ x ∈ cs, 0 ≤ x ∧ x ≤ 6) : ∀ k, 0 ≤ minS t (cs.take k) ∧ minS t (cs.take k) ≤ 6 * k := by
  intro k
  induction k generalizing cs with
  | zero => simp [minS]
  | succ k ih =>
    cases cs with
    | nil => simp [minS]; omega
    | cons x l =>
      have h1 := hb x (List.mem_cons_self ..)
      have h2 := ih (cs := l) fun z hz => hb z (List.mem_cons_of_mem _ hz)
      rw [List.take_succ_cons, minS_cons]
      omega
theorem Ints.cut {B : Nat} {w : World} {b off n c : Nat} {xs : List Int} (h : Ints B w (.slice (some ⟨b, off, none⟩) n c) xs) (hn : xs.length = n) {t : Nat} (ht : t ≤ n) : Ints B w (.slice (some ⟨b, off, none⟩) t c) (xs.take t) := by
  by_cases h0 : t = 0
  · subst h0
    exact .inl ⟨by simp, _, _, rfl⟩
  · obtain ⟨b', off', cap', e, hb, hc⟩ := h.row (by omega)
    injection e with e1 e2 e3
    injection e1 with e1
    injection e1 with e4 e5
    subst e4 e5 e3
    refine .inr ⟨b, off, c, by rw [len_take (by omega)], hb, fun k hk => ?_⟩
    rw [len_take (by omega)] at hk
    rw [hc k (by omega), List.getD_eq_getElem?_getD, List.getD_eq_getElem?_getD, List.getElem?_take, if_pos hk]
set_option maxHeartbeats 1000000 in
theorem excess_c (u v : Value) (rs cs : List Int) (hr : Small rs) (hc : Small cs) (t : Nat) (ht : t ≤ rs.length) (w : World) (hu : Ints w.heap.size w u rs) (hv : Ints w.heap.size w v cs) :
    Calls Try.prog 34 #[u, v, .int .i64 (t : Int)] w fun e w' => e = .returned (.int .i64 (top rs t - minS t cs)) ∧ Below w.heap.size w w' := by
  obtain ⟨A, cap, rfl⟩ := hu.len
  obtain ⟨B, cap1, rfl⟩ := hv.len
  have h1 := hr.h1
  have h6 := hr.h6
  have g1 := hc.h1
  have g6 := hc.h6
  have hJ := Arg.new hu
  have hK := Arg.new hv
  have hW := Below.refl w.heap.size w
  clear hu hv
  go_enter Try.func34, Try.ntmps34
  go_wp2_with fail
  refine (sorted_c _ rs h1 h6 hr.bd _ hJ.ints).mono ?_
  rintro e wc ⟨g, c, ys, rfl, hcp, hg, hrw, hd, hb⟩
  replace hJ := hJ.below hb
  replace hK := hK.below hb
  replace hW := hW.trans (Below.mono hb hW.size)
  have hys := hrw.intsI2 (c := c) hd.len
  have hcut := hys.cut hd.len ht
  have ht0 : (0 : Int) ≤ (t : Int) := by omega
  have ht1 : (t : Int) ≤ (c : Int) := by omega
  have hlen : (ys.take t).length = t := len_take (by rw [hd.len]; exact ht)
  have hyb : ∀ y ∈ ys.take t, 0 ≤ y ∧ y ≤ 6 := fun y hy => hd.bd hr.bd y (List.mem_of_mem_take hy)
  have HT := total_c (.slice (some ⟨g, 0, none⟩) t c) (ys.take t) (by omega) hyb wc hcut
  rw [hd.top hr.bd t] at HT
  have htb : 0 ≤ top rs t ∧ top rs t ≤ 36 := by rw [← hd.top hr.bd t]; have := take_bd (hd.bd hr.bd) t; omega
  obtain ⟨P, eP⟩ : ∃ P, P = top rs t := ⟨_, rfl⟩
  rw [← eP] at HT htb
  have HP := Lib.hid eP
  have HHT := Lib.hid HT
  clear eP hcut hys hrw hlen hyb hd HT hJ
  go_wp2_with fail
  refine HHT.out.mono ?_
  rintro e wc ⟨rfl, rfl⟩
  have hIn := hK.ints
  obtain ⟨b, off, cap', e, hbl, hcc⟩ := hIn.row (by omega)
  injection e with e1 _ e3
  subst e1 e3
  have HC := Lib.hid hcc
  clear hcc hIn hK HHT
  go_wp2_with fail
  go_loop [7, 17] (fun s i => ∃ k : Nat, k ≤ cs.length ∧ i = .int .i64 k ∧ s = .int .i64 (P - minS t (cs.take k))) (fun _ i => cs.length - (intOf i).toNat)
  case atStart => exact ⟨0, by omega, rfl, by simp [minS]⟩
  case round =>
    obtain ⟨k, hk, rfl, rfl⟩ := hrel
    have hbd := minS_bd (t := t) hc.bd k
    by_cases hlt : k < cs.length
    · have hst := minS_take (t := (t : Int)) hlt
      have hat := hc.at hlt
      have hcr := HC.out k hlt
      obtain ⟨r, er⟩ : ∃ r, r = cs.getD k 0 := ⟨_, rfl⟩
      rw [← er] at hst hat hcr
      obtain ⟨S, eS⟩ : ∃ S, S = minS t (cs.take k) := ⟨_, rfl⟩
      rw [← eS] at hst hbd ⊢
      obtain ⟨m, em⟩ : ∃ m, m = min r (t : Int) := ⟨_, rfl⟩
      have em2 : (if r < (t : Int) then r else (t : Int)) = m := by split <;> omega
      rw [← em] at hst
      have hm : 0 ≤ m ∧ m ≤ 6 := by omega
      have HST := Lib.hid hst
      clear hst er eS em
      go_wp2
      go_round
      case rel => exact ⟨k + 1, by omega, by go_num, by rw [HST.out]; first | rfl | (simp only [Value.int.injEq, true_and]; omega)⟩
      case measure => simp [intOf]; omega
    · obtain rfl : k = cs.length := by omega
      go_wp2
      go_returns
      exact ⟨ri (by rw [HP.out]), hW⟩
end Go.Proofs.Ytldmilpohappiaa
