/- Contracts of the functions that mark a list and look for the marks. Conditions: the slice lies in a block of its own, its length at most 2 to the power of 21. -/
import Derived.Test.YtehoaagnpidnbaaTW
import Derived.Test.YtehoaagnpidnbaaK5
namespace Go.Proofs.Ytehoaagnpidnbaa
open Go.RowKit
/-- k, k + 1, .. -/
def markL (k : Int) (n : Nat) : List Int := (List.range n).map fun i : Nat => k + (i : Int)
theorem markL_len (k : Int) (n : Nat) : (markL k n).length = n := by simp [markL]
theorem markL_at {k : Int} {n i : Nat} (h : i < n) : (markL k n).getD i 0 = k + i := by
  simp only [markL, List.getD_eq_getElem?_getD, List.getElem?_map, List.getElem?_range h, Option.map_some, Option.getD_some]
/-- The first i numbers of xs, the others of ys. -/
def mixI (xs ys : List Int) (i : Nat) : List Int := xs.take i ++ ys.drop i
theorem mixI_zero (xs ys : List Int) : mixI xs ys 0 = ys := by simp [mixI]
theorem mixI_all {xs ys : List Int} (h : xs.length = ys.length) : mixI xs ys ys.length = xs := by
  unfold mixI
  rw [List.take_of_length_le (by omega)]
  simp
theorem mixI_len {xs ys : List Int} (h : xs.length = ys.length) {k : Nat} (hk : k ≤ ys.length) : (mixI xs ys k).length = ys.length := by
  unfold mixI
  rw [List.length_append, List.length_take, List.length_drop]
  omega
theorem mixI_step {xs ys : List Int} (h : xs.length = ys.length) {k : Nat} (hk : k < ys.length) : (mixI xs ys k).set k (xs.getD k 0) = mixI xs ys (k + 1) := by
  unfold mixI
  have hl : (xs.take k).length = k := by rw [List.length_take]; omega
  rw [List.set_append_right _ _ (by omega), hl, Nat.sub_self]
  have e : ys.drop k = ys[k] :: ys.drop (k + 1) := List.drop_eq_getElem_cons hk
  rw [e, List.set_cons_zero, List.take_succ_eq_append_getElem (by omega), List.append_assoc]
  congr 1
  simp [List.getD_eq_getElem?_getD, List.getElem?_eq_getElem (show k < xs.length by omega)]
set_option maxHeartbeats 1000000 in
theorem markIntS_c (g n c : Nat) (k : Int) (hk0 : 0 ≤ k) (hk : k ≤ 4194304) (xs : List Int) (hl : xs.length = n) (h20 : n ≤ 2097152) (w : World) (hr : Row w g xs) :
    Calls Try.prog 12 #[.slice (some ⟨g, 0, none⟩) n c, .int .i64 k] w fun e w' => e = .returned (.int .i64 (k + n)) ∧ Row w' g (markL k n) ∧ w.grownBy w' (some g) := by
  have hml : (markL k n).length = xs.length := by rw [markL_len, hl]
  have hm0 := mixI_zero (markL k n) xs
  have HM0 := Lib.hid hm0
  have HML := Lib.hid hml
  have HL := Lib.hid hl
  clear hm0 hml hl
  go_enter Try.func12, Try.ntmps12
  go_wp2
  go_loopw [1, 5] (fun q s wr => ∃ i : Nat, i ≤ n ∧ s = .int .i64 i ∧ q = .int .i64 (k + i) ∧ Row wr g (mixI (markL k n) xs i) ∧ w.grownBy wr (some g)) (fun _ s _ => n - (intOf s).toNat)
  case atStart => exact ⟨0, by omega, rfl, by simp, by rw [HM0.out]; exact hr, only_of_below (Below.refl _ _) _⟩
  case round =>
    clear hr
    obtain ⟨i, hi, rfl, rfl, hr, hg⟩ := hrel
    by_cases hin : i < n
    · have hlen : i < (mixI (markL k n) xs i).length := by rw [mixI_len HML.out (by rw [HL.out]; exact hi), HL.out]; exact hin
      have hc := hr.cell hlen
      have hf := hr.frozen i
      have hst := mixI_step HML.out (k := i) (by rw [HL.out]; exact hin)
      rw [markL_at hin] at hst
      have hset := hr.set hlen (k + i)
      rw [hst] at hset
      have HS := Lib.hid hset
      obtain ⟨y, ey⟩ : ∃ y, y = (mixI (markL k n) xs i).getD i 0 := ⟨_, rfl⟩
      rw [← ey] at hc
      clear ey hst hset hr hlen
      go_wp2
      go_roundw
      case rel => exact ⟨i + 1, by omega, by go_num, by simp only [Value.int.injEq, true_and]; omega, HS.out, only_setCell hg (.inl rfl) _⟩
      case measure => simp [intOf]; omega
    · obtain rfl : i = n := by omega
      have he : mixI (markL k i) xs i = markL k i := by
        have := mixI_all HML.out
        rwa [HL.out] at this
      rw [he] at hr
      clear he
      go_wp2
      go_returns
      exact ⟨rfl, hr, hg⟩
theorem markIntS_0 (A : Option Addr) (c : Nat) (k : Int) (w : World) : Calls Try.prog 12 #[.slice A 0 c, .int .i64 k] w fun e w' => e = .returned (.int .i64 k) ∧ w = w' := by
  go_enter Try.func12, Try.ntmps12
  go_wp2
  go_loop [1, 5] (fun q s => q = .int .i64 k ∧ s = .int .i64 0) (fun _ _ => 0)
  case atStart => exact ⟨rfl, rfl⟩
  case round =>
    obtain ⟨rfl, rfl⟩ := hrel
    go_wp2
    go_returns
    exact ⟨rfl, rfl⟩
set_option maxHeartbeats 1000000 in
theorem heldIntS_c (v : Value) (n : Nat) (k : Int) (hk0 : 0 ≤ k) (hk : k ≤ 4194304) (h20 : n ≤ 2097152) (w : World) (hv : Ints w.heap.size w v (markL k n)) :
    Calls Try.prog 32 #[v, .int .i64 k] w fun e w' => e = .returned (.int .i64 (k + n)) ∧ w = w' := by
  obtain ⟨A, cap, rfl⟩ := hv.len
  rw [markL_len]
  go_enter Try.func32, Try.ntmps32
  go_wp2
  go_loop [1, 5] (fun q s => ∃ i : Nat, i ≤ n ∧ s = .int .i64 i ∧ q = .int .i64 (k + i)) (fun _ s => n - (intOf s).toNat)
  case atStart => exact ⟨0, by omega, rfl, by simp⟩
  case round =>
    obtain ⟨i, hi, rfl, rfl⟩ := hrel
    by_cases hin : i < n
    · obtain ⟨b, off, cap', e, hbl, hc⟩ := hv.row (by rw [markL_len]; omega)
      rw [markL_len] at e hc
      injection e with e1 _ e3
      subst e1 e3
      have hcr := hc i hin
      rw [markL_at hin] at hcr
      clear hc hv
      go_wp2
      go_round
      case rel => exact ⟨i + 1, by omega, by go_num, by simp only [Value.int.injEq, true_and]; omega⟩
      case measure => simp [intOf]; omega
    · obtain rfl : i = n := by omega
      go_wp2
      go_returns
      exact ⟨rfl, rfl⟩
set_option maxHeartbeats 1000000 in
theorem markImage_c (W : Int) (g n c : Nat) (k : Int) (hk0 : 0 ≤ k) (hk : k ≤ 4194304) (xs : List Int) (hl : xs.length = n) (h20 : n ≤ 2097152) (w : World) (hr : Row w g xs) :
    Calls Try.prog 13 #[.agg #[.int .i64 W, .slice (some ⟨g, 0, none⟩) n c], .int .i64 k] w fun e w' => e = .returned (.int .i64 (k + n)) ∧ Row w' g (markL k n) ∧ w.grownBy w' (some g) := by
  have hW : w.grownBy w (some g) := only_of_below (Below.refl _ _) _
  have hgl := hr.lt
  go_enter Try.func13, Try.ntmps13
  obtain ⟨W0, e_W0⟩ : ∃ W0, W0 = World.alloc w (.cells #[.int .i64 W, .slice (some ⟨g, 0, none⟩) n c] 24) := ⟨_, rfl⟩
  have hx_W0 := Box2.new w (.int .i64 W) (.slice (some ⟨g, 0, none⟩) n c) 24
  have hb_W0 : Below (World.heap w).size w W0 := by rw [e_W0]; go_grown
  have HS_W0 := Lib.hid (show (World.heap W0).size = (World.heap w).size + 1 by rw [e_W0]; simp)
  replace hr := hr.below hb_W0 hr.lt
  replace hW := only_trans hW (only_of_below hb_W0 _)
  have HE_W0 := Lib.hid e_W0
  clear e_W0
  go_wp2_with fail
  rw [← HE_W0.out] at hx_W0 ⊢
  clear HE_W0
  obtain ⟨hl_x, x0, x1⟩ := hx_W0
  obtain ⟨Bx, e_Bx⟩ : ∃ Bx, Bx = (World.heap w).size := ⟨_, rfl⟩
  rw [← e_Bx] at hl_x x0 x1 hb_W0 HS_W0  ⊢
  have hz_Bx := hb_W0.size
  clear e_Bx hb_W0
  refine (markIntS_c g n c k hk0 hk xs hl h20 _ hr).mono ?_
  rintro e wc ⟨rfl, hr2, hg⟩
  go_wp2
  go_returns
  exact ⟨rfl, hr2, only_trans hW hg⟩
set_option maxHeartbeats 1000000 in
theorem markImage_0 (W : Int) (A : Option Addr) (c : Nat) (k : Int) (w : World) :
    Calls Try.prog 13 #[.agg #[.int .i64 W, .slice A 0 c], .int .i64 k] w fun e w' => e = .returned (.int .i64 k) ∧ Below w.heap.size w w' := by
  have hW := Below.refl w.heap.size w
  go_enter Try.func13, Try.ntmps13
  obtain ⟨W0, e_W0⟩ : ∃ W0, W0 = World.alloc w (.cells #[.int .i64 W, .slice A 0 c] 24) := ⟨_, rfl⟩
  have hx_W0 := Box2.new w (.int .i64 W) (.slice A 0 c) 24
  have hb_W0 : Below (World.heap w).size w W0 := by rw [e_W0]; go_grown
  have HS_W0 := Lib.hid (show (World.heap W0).size = (World.heap w).size + 1 by rw [e_W0]; simp)
  replace hW := hW.trans (Below.mono hb_W0 hW.size)
  have HE_W0 := Lib.hid e_W0
  clear e_W0
  go_wp2_with fail
  rw [← HE_W0.out] at hx_W0 ⊢
  clear HE_W0
  obtain ⟨hl_x, x0, x1⟩ := hx_W0
  obtain ⟨Bx, e_Bx⟩ : ∃ Bx, Bx = (World.heap w).size := ⟨_, rfl⟩
  rw [← e_Bx] at hl_x x0 x1 hb_W0 HS_W0  ⊢
  have hz_Bx := hb_W0.size
  clear e_Bx hb_W0
  refine (markIntS_0 A c k _).mono ?_
  rintro e wc ⟨rfl, rfl⟩
  go_wp2
  go_returns
  exact ⟨rfl, hW⟩
set_option maxHeartbeats 1000000 in
theorem heldImage_c (W : Int) (v : Value) (n : Nat) (k : Int) (hk0 : 0 ≤ k) (hk : k ≤ 4194304) (h20 : n ≤ 2097152) (w : World) (hv : Ints w.heap.size w v (markL k n)) :
    Calls Try.prog 14 #[.agg #[.int .i64 W, v], .int .i64 k] w fun e w' => e = .returned (.int .i64 (k + n)) ∧ Below w.heap.size w w' := by
  obtain ⟨A, cap, rfl⟩ := hv.len
  rw [markL_len] at hv ⊢
  have hI := Arg.new hv
  have hW := Below.refl w.heap.size w
  clear hv
  go_enter Try.func14, Try.ntmps14
  obtain ⟨W0, e_W0⟩ : ∃ W0, W0 = World.alloc w (.cells #[.int .i64 W, .slice A n cap] 24) := ⟨_, rfl⟩
  have hx_W0 := Box2.new w (.int .i64 W) (.slice A n cap) 24
  have hb_W0 : Below (World.heap w).size w W0 := by rw [e_W0]; go_grown
  have HS_W0 := Lib.hid (show (World.heap W0).size = (World.heap w).size + 1 by rw [e_W0]; simp)
  replace hI := hI.below hb_W0
  replace hW := hW.trans (Below.mono hb_W0 hW.size)
  have HE_W0 := Lib.hid e_W0
  clear e_W0
  go_wp2_with fail
  rw [← HE_W0.out] at hx_W0 ⊢
  clear HE_W0
  obtain ⟨hl_x, x0, x1⟩ := hx_W0
  obtain ⟨Bx, e_Bx⟩ : ∃ Bx, Bx = (World.heap w).size := ⟨_, rfl⟩
  rw [← e_Bx] at hl_x x0 x1 hb_W0 HS_W0  ⊢
  have hz_Bx := hb_W0.size
  clear e_Bx hb_W0
  refine (heldIntS_c _ n k hk0 hk h20 _ hI.ints).mono ?_
  rintro e wc ⟨rfl, rfl⟩
  go_wp2
  go_returns
  exact ⟨rfl, hW⟩
theorem heldImage_0 (W : Int) (A : Option Addr) (c : Nat) (k : Int) (hk0 : 0 ≤ k) (hk : k ≤ 4194304) (w : World) :
    Calls Try.prog 14 #[.agg #[.int .i64 W, .slice A 0 c], .int .i64 k] w fun e w' => e = .returned (.int .i64 k) ∧ Below w.heap.size w w' :=
  (heldImage_c W (.slice A 0 c) 0 k hk0 hk (by omega) w (.inl ⟨rfl, _, _, rfl⟩)).mono fun _ _ ⟨he, hw⟩ => ⟨he.trans (ri (by simp)), hw⟩
end Go.Proofs.Ytehoaagnpidnbaa
