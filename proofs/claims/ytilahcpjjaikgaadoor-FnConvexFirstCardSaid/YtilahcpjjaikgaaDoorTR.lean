/- Contract of runsOf: how many runs a row has. Conditions: the row has six cells; the library's table stands in its block. -/
import Derived.Test.YtilahcpjjaikgaaDoorTZ
namespace Go.Proofs.YtilahcpjjaikgaaDoor
open Go.RowKit
theorem not_row : ∀ r : Nat, r < 64 → bits BinOp.xor IntKind.u64 IntKind.u64.max (r : Int) = 18446744073709551615 - (r : Int) := by decide +kernel
/-- How many runs of set bits. -/
def runsC (r : Nat) : Nat := ((List.range 6).filter fun j => r.testBit j && !(decide (0 < j) && r.testBit (j - 1))).length
theorem runs_step : ∀ r : Nat, r < 64 → 0 < r → r / 2 ^ tzN 6 r < 64 ∧ r / 2 ^ tzN 6 r / 2 ^ tzN 7 (127 - r / 2 ^ tzN 6 r) < r ∧ runsC r = 1 + runsC (r / 2 ^ tzN 6 r / 2 ^ tzN 7 (127 - r / 2 ^ tzN 6 r)) ∧ tzN 6 r ≤ 6 ∧ tzN 7 (127 - r / 2 ^ tzN 6 r) ≤ 7 := by decide +kernel
theorem runs_le : ∀ r : Nat, r < 64 → runsC r ≤ 6 := by decide +kernel
theorem runs_zero : runsC 0 = 0 := by decide
theorem tz_row_c (r : Nat) (h0 : 0 < r) (hr : r < 64) (w : World) (hT : Tab w) : Calls Tryd.prog 76 #[.int .u64 (r : Int)] w fun e w' => e = .returned (.int .i64 ((tzN 6 r : Nat) : Int)) ∧ w = w' := by
  obtain ⟨h1, h2, h3⟩ := tz_row r hr h0
  rw [← h3]
  exact TrailingZeros_c (r : Int) (by omega) (by omega) ⟨h1, h2⟩ w hT
theorem tz_not_c (r : Nat) (hr : r < 64) (w : World) (hT : Tab w) : Calls Tryd.prog 76 #[.int .u64 (18446744073709551615 - (r : Int))] w fun e w' => e = .returned (.int .i64 ((tzN 7 (127 - r) : Nat) : Int)) ∧ w = w' := by
  obtain ⟨h1, h2, h3⟩ := tz_not r hr
  rw [← h3]
  exact TrailingZeros_c (18446744073709551615 - (r : Int)) (by omega) (by omega) ⟨h1, h2⟩ w hT
/-- A list of so many numbers. -/
def RunsOut (w : World) (n : Nat) (e : Ending) (w' : World) : Prop := ∃ ao co xs, e = .returned (.slice ao n co) ∧ xs.length = n ∧ OwnI w' w.heap.size (.slice ao n co) xs ∧ Below w.heap.size w w'
set_option maxHeartbeats 2000000 in
theorem runsOf_c (r0 : Nat) (hr0 : r0 < 64) (w : World) (hT : Tab w) : Calls Tryd.prog 52 #[.int .i64 (r0 : Int)] w (RunsOut w (runsC r0)) := by
  have hW := Below.refl w.heap.size w
  have hn := OwnI.nil w w.heap.size
  have HTB := Lib.hid hT.1
  go_enter Tryd.func52, Tryd.ntmps52
  go_wp2
  go_loopw [0, 3] (fun q s wr => ∃ (r k : Nat) (ao : Option Addr) (co : Nat) (xs : List Int), r < 64 ∧ q = .int .i64 (r : Int) ∧ s = .slice ao k co ∧ xs.length = k ∧ k + runsC r = runsC r0 ∧ OwnI wr w.heap.size (.slice ao k co) xs ∧ Below w.heap.size w wr ∧ Tab wr) (fun q _ _ => (intOf q).toNat)
  case atStart => exact ⟨r0, 0, none, 0, [], hr0, rfl, rfl, rfl, by omega, hn, hW, hT⟩
  case round =>
    clear hn hW hT
    obtain ⟨r, k, ao, co, xs, hr, rfl, rfl, hxl, hk, hown, hW, hT⟩ := hrel
    have HX := Lib.hid hxl
    have HK := Lib.hid hk
    have hk6 : k ≤ 6 := by have := runs_le r0 hr0; omega
    clear hxl hk
    by_cases h0 : 0 < r
    · obtain ⟨s1, s2, s3, s4, s5⟩ := runs_step r hr h0
      have H1 := tz_row_c r h0 hr wr hT
      have H2 := tz_not_c (r / 2 ^ tzN 6 r) s1 wr hT
      obtain ⟨a, ea⟩ : ∃ a, a = tzN 6 r := ⟨_, rfl⟩
      rw [← ea] at H1 H2 s1 s2 s3 s4 s5
      obtain ⟨r1, er1⟩ : ∃ r1, r1 = r / 2 ^ a := ⟨_, rfl⟩
      rw [← er1] at H2 s1 s2 s3 s5
      obtain ⟨b, eb⟩ : ∃ b, b = tzN 7 (127 - r1) := ⟨_, rfl⟩
      rw [← eb] at H2 s2 s3 s5
      obtain ⟨r2, er2⟩ : ∃ r2, r2 = r1 / 2 ^ b := ⟨_, rfl⟩
      rw [← er2] at s2 s3
      have e1 : (r : Int) / 2 ^ a = (r1 : Int) := by rw [er1, Int.natCast_ediv]; simp
      have e2 : (r1 : Int) / 2 ^ b = (r2 : Int) := by rw [er2, Int.natCast_ediv]; simp
      have ew1 : IntKind.u64.wrap (r : Int) = r := by simp only [IntKind.wrap_u64]; omega
      have ew2 : IntKind.u64.wrap (r1 : Int) = r1 := by simp only [IntKind.wrap_u64]; omega
      have HS3 := Lib.hid s3
      clear ea er1 eb er2 s3
      go_wp2_with fail
      refine H1.mono ?_
      rintro e w' ⟨rfl, rfl⟩
      go_wp2_with fail
      rw [not_row r1 s1]
      refine H2.mono ?_
      rintro e w' ⟨rfl, rfl⟩
      have hown2 := hown.alloc (.cells #[.int .i64 (b : Int)] 3)
      have hb3 : Below w.heap.size wr (wr.alloc (.cells #[.int .i64 (b : Int)] 3)) := (Below.refl _ wr).alloc hW.size _
      have hbs : w.heap.size ≤ (wr.alloc (.cells #[.int .i64 (b : Int)] 3)).heap.size := Nat.le_trans hW.size hb3.size
      have hlen : xs.length + ([(b : Int)] : List Int).length ≤ 16777216 := by rw [HX.out]; simp; omega
      have hone := Ints.one wr (b : Int) 3
      have hTl := hT.1
      have HH := Lib.hid (And.intro hown2 (And.intro hbs (And.intro hlen (And.intro hone (And.intro hb3 (And.intro hW (And.intro hown hT)))))))
      clear hown2 hbs hlen hone hb3 hW hown hT H1 H2
      go_wp2_with (at_builtin; refine wpList_app (v := .slice ao k co) (ys := [(b : Int)]) rfl (.tmp 16) (.tmp 18) rfl rfl HH.out.1 rfl HH.out.2.2.2.1 HH.out.2.2.1 HH.out.2.1 ?_; intro v6 w6 hown6 hgr6 _ _)
      obtain ⟨hown2, hbs, hlen, hone, hb3, hW, hown, hT⟩ := HH.out
      have hl6 : (xs ++ [(b : Int)]).length = k + 1 := by rw [List.length_append, HX.out]; rfl
      have hbe := Below.app (hW.trans hb3) hown2 hgr6 (Nat.le_refl _) hbs
      have hT6 : Tab w6 := ⟨Nat.lt_of_lt_of_le hT.1 (Nat.le_trans (by simp) hgr6.size), fun j hj => by
        have h1 : (wr.alloc (.cells #[.int .i64 (b : Int)] 3)).cell? ⟨1, j, none⟩ = some (.int .u8 (tab64.getD j 0)) := (World.cell?_alloc_lt _ _ _ hT.1).trans (hT.2 j hj)
        rw [← h1]
        unfold World.cell?
        rw [hgr6.block _ (Nat.lt_of_lt_of_le hT.1 (by simp)) (fun e => by have := (hown2.own_lt _ e.symm).1; have := HTB.out; omega)]⟩
      obtain ⟨a6, c6, e6⟩ := hown6.ints.len
      rw [hl6] at e6
      subst e6
      have HR := Lib.hid (And.intro hl6 (And.intro hown6 (And.intro hbe hT6)))
      clear hl6 hown6 hbe hT6 hown2 hbs hlen hone hb3 hW hown hT hgr6 HH
      go_wp2
      go_roundw
      case rel => exact ⟨r2, k + 1, a6, c6, _, by omega, rfl, rfl, HR.out.1, by have := HS3.out; have := HK.out; omega, HR.out.2.1, HR.out.2.2.1, HR.out.2.2.2⟩
      case measure => simp [intOf]; omega
    · obtain rfl : r = 0 := by omega
      have hkk : k = runsC r0 := by have := HK.out; rw [runs_zero] at this; omega
      have HP := Lib.hid (show RunsOut w (runsC r0) (.returned (.slice ao k co)) wr from ⟨ao, co, xs, by rw [hkk], by rw [HX.out, hkk], by rw [← hkk]; exact hown, hW⟩)
      clear hown hW hT hkk
      go_wp2
      go_returns
      exact HP.out
end Go.Proofs.YtilahcpjjaikgaaDoor
