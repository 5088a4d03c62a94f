/- Contracts of TrailingZeros64, runsOf. Conditions: the library's table stands in its block. -/
import Derived.Test.YtilahcpjjaikgaaDoorK3
import Derived.Test.YtilahcpjjaikgaaDoorTW
namespace Go.Proofs.YtilahcpjjaikgaaDoor
open Go.RowKit
def tab64 : List Int := [0, 1, 56, 2, 57, 49, 28, 3, 61, 58, 42, 50, 38, 29, 17, 4, 62, 47, 59, 36, 45, 43, 51, 22, 53, 39, 33, 30, 24, 18, 12, 5, 63, 55, 48, 27, 60, 41, 37, 16, 46, 35, 44, 21, 52, 32, 23, 11, 54, 26, 40, 15, 34, 20, 31, 10, 25, 14, 19, 9, 13, 8, 7, 6]
/-- The place in the table. -/
def tzI (x : Int) : Int := IntKind.u64.wrap (bits BinOp.and IntKind.u64 x (IntKind.u64.wrap (-x)) * 285870213051353865) / 288230376151711744
/-- How many bits at the end of a row are not set. -/
def tzN : Nat → Nat → Nat
  | 0, _ => 0
  | f + 1, r => if r % 2 = 1 then 0 else 1 + tzN f (r / 2)
theorem tz_row : ∀ r : Nat, r < 64 → 0 < r → 0 ≤ tzI r ∧ tzI r < 64 ∧ tab64.getD (tzI r).toNat 0 = tzN 6 r := by decide +kernel
/-- The same of the opposite of a row. -/
theorem tz_not : ∀ r : Nat, r < 64 → 0 ≤ tzI (18446744073709551615 - (r : Int)) ∧ tzI (18446744073709551615 - (r : Int)) < 64 ∧ tab64.getD (tzI (18446744073709551615 - (r : Int))).toNat 0 = tzN 7 (127 - r) := by decide +kernel
/-- The library's table. -/
def Tab (w : World) : Prop := 1 < w.heap.size ∧ ∀ k, k < 64 → w.cell? ⟨1, k, none⟩ = some (.int .u8 (tab64.getD k 0))
theorem Tab.below {w w' : World} (h : Tab w) (hb : Below w.heap.size w w') : Tab w' := ⟨Nat.lt_of_lt_of_le h.1 hb.size, fun k hk => (hb.cell h.1).trans (h.2 k hk)⟩
theorem tab_bd : ∀ k : Nat, k < 64 → 0 ≤ tab64.getD k 0 ∧ tab64.getD k 0 ≤ 63 := by decide +kernel
set_option maxHeartbeats 1000000 in
theorem TrailingZeros64_c (x : Int) (h0 : 0 < x) (h1 : x < 18446744073709551616) (hi : 0 ≤ tzI x ∧ tzI x < 64) (w : World) (hT : Tab w) : Calls Tryd.prog 91 #[.int .u64 x] w fun e w' => e = .returned (.int .i64 (tab64.getD (tzI x).toNat 0)) ∧ w = w' := by
  obtain ⟨k, ek⟩ := Int.eq_ofNat_of_zero_le hi.1
  have hk : k < 64 := by omega
  have hc := hT.2 k hk
  have hb := tab_bd k hk
  rw [ek, Int.toNat_natCast]
  obtain ⟨z, ez⟩ : ∃ z, z = tab64.getD k 0 := ⟨_, rfl⟩
  rw [← ez] at hc hb ⊢
  unfold tzI at ek
  have hx0 : ¬ x = 0 := by omega
  clear ez hi
  go_enter Tryd.func91, Tryd.ntmps91
  go_wp2
  go_returns
  exact ⟨rfl, rfl⟩
theorem TrailingZeros_c (x : Int) (h0 : 0 < x) (h1 : x < 18446744073709551616) (hi : 0 ≤ tzI x ∧ tzI x < 64) (w : World) (hT : Tab w) : Calls Tryd.prog 76 #[.int .u64 x] w fun e w' => e = .returned (.int .i64 (tab64.getD (tzI x).toNat 0)) ∧ w = w' := by
  have H := TrailingZeros64_c x h0 h1 hi w hT
  generalize tab64.getD (tzI x).toNat 0 = z at H ⊢
  go_enter Tryd.func76, Tryd.ntmps76
  go_wp2_with fail
  refine H.mono ?_
  rintro e w' ⟨rfl, rfl⟩
  go_wp2
  go_returns
  exact ⟨rfl, rfl⟩
end Go.Proofs.YtilahcpjjaikgaaDoor
