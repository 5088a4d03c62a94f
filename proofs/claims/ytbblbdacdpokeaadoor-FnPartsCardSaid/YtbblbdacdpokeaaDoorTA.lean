/- Contracts of TrailingZeros64, runsOf, RunsMany, and the law that parts are no more than runs. Conditions: the slice reads as a list of integers; the library's table stands in its block. -/
import Derived.Test.YtbblbdacdpokeaaDoorK3
import Derived.Test.YtbblbdacdpokeaaDoorTW
import Derived.Test.YtbblbdacdpokeaaDoorPE2
namespace Go.Proofs.YtbblbdacdpokeaaDoor
section
open Go.RowKit
def tab64 : List Int := [0, 1, 56, 2, 57, 49, 28, 3, 61, 58, 42, 50, 38, 29, 17, 4, 62, 47, 59, 36, 45, 43, 51, 22, 53, 39, 33, 30, 24, 18, 12, 5, 63, 55, 48, 27, 60, 41, 37, 16, 46, 35, 44, 21, 52, 32, 23, 11, 54, 26, 40, 15, 34, 20, 31, 10, 25, 14, 19, 9, 13, 8, 7, 6]
/-- The place in the table. -/
def tzI (x : Int) : Int := IntKind.u64.wrap (bits BinOp.and IntKind.u64 x (IntKind.u64.wrap (-x)) * 285870213051353865) / 288230376151711744
/-- How many bits at the end of a row are not set. -/
def tzN : Nat → Nat → Nat
  | 0, _ => 0
  | f + 1, r => if r % 2 = 1 then 0 else 1 + tzN f (r / 2)
theorem tz_row : ∀ r : Nat, r < 64 → 0 < r → 0 ≤ tzI r ∧ tzI r < 64 ∧ tab64.getD (tzI r).toNat 0 = tzN 6 r := by decide +kernel
/-- The same of the opposite of a row. -/
theorem tz_not : ∀ r : Nat, r < 64 → 0 ≤ tzI (18446744073709551615 - (r : Int)) ∧ tzI (18446744073709551615 - (r : Int)) < 64 ∧ tab64.getD (tzI (18446744073709551615 - (r : Int))).toNat 0 = tzN 7 (127 - r) := by decide +kernel
/-- The library's table. -/
def Tab (w : World) : Prop := 1 < w.heap.size ∧ ∀ k, k < 64 → w.cell? ⟨1, k, none⟩ = some (.int .u8 (tab64.getD k 0))
theorem Tab.below {w w' : World} (h : Tab w) (hb : Below w.heap.size w w') : Tab w' := ⟨Nat.lt_of_lt_of_le h.1 hb.size, fun k hk => (hb.cell h.1).trans (h.2 k hk)⟩
theorem tab_bd : ∀ k : Nat, k < 64 → 0 ≤ tab64.getD k 0 ∧ tab64.getD k 0 ≤ 63 := by decide +kernel
set_option maxHeartbeats 1000000 in
theorem TrailingZeros64_c (x : Int) (h0 : 0 < x) (h1 : x < 18446744073709551616) (hi : 0 ≤ tzI x ∧ tzI x < 64) (w : World) (hT : Tab w) : Calls Tryd.prog 64 #[.int .u64 x] w fun e w' => e = .returned (.int .i64 (tab64.getD (tzI x).toNat 0)) ∧ w = w' := by
  obtain ⟨k, ek⟩ := Int.eq_ofNat_of_zero_le hi.1
  have hk : k < 64 := by omega
  have hc := hT.2 k hk
  have hb := tab_bd k hk
  rw [ek, Int.toNat_natCast]
  obtain ⟨z, ez⟩ : ∃ z, z = tab64.getD k 0 := ⟨_, rfl⟩
  rw [← ez] at hc hb ⊢
  unfold tzI at ek
  have hx0 : ¬ x = 0 := by omega
  clear ez hi
  go_enter Tryd.func64, Tryd.ntmps64
  go_wp2
  go_returns
  exact ⟨rfl, rfl⟩
theorem TrailingZeros_c (x : Int) (h0 : 0 < x) (h1 : x < 18446744073709551616) (hi : 0 ≤ tzI x ∧ tzI x < 64) (w : World) (hT : Tab w) : Calls Tryd.prog 47 #[.int .u64 x] w fun e w' => e = .returned (.int .i64 (tab64.getD (tzI x).toNat 0)) ∧ w = w' := by
  have H := TrailingZeros64_c x h0 h1 hi w hT
  generalize tab64.getD (tzI x).toNat 0 = z at H ⊢
  go_enter Tryd.func47, Tryd.ntmps47
  go_wp2_with fail
  refine H.mono ?_
  rintro e w' ⟨rfl, rfl⟩
  go_wp2
  go_returns
  exact ⟨rfl, rfl⟩
end
section
open Go.RowKit
theorem not_row : ∀ r : Nat, r < 64 → bits BinOp.xor IntKind.u64 IntKind.u64.max (r : Int) = 18446744073709551615 - (r : Int) := by decide +kernel
/-- How many runs of set bits. -/
def runsC (r : Nat) : Nat := ((List.range 6).filter fun j => r.testBit j && !(decide (0 < j) && r.testBit (j - 1))).length
theorem runs_step : ∀ r : Nat, r < 64 → 0 < r → r / 2 ^ tzN 6 r < 64 ∧ r / 2 ^ tzN 6 r / 2 ^ tzN 7 (127 - r / 2 ^ tzN 6 r) < r ∧ runsC r = 1 + runsC (r / 2 ^ tzN 6 r / 2 ^ tzN 7 (127 - r / 2 ^ tzN 6 r)) ∧ tzN 6 r ≤ 6 ∧ tzN 7 (127 - r / 2 ^ tzN 6 r) ≤ 7 := by decide +kernel
theorem runs_le : ∀ r : Nat, r < 64 → runsC r ≤ 6 := by decide +kernel
theorem runs_zero : runsC 0 = 0 := by decide
theorem tz_row_c (r : Nat) (h0 : 0 < r) (hr : r < 64) (w : World) (hT : Tab w) : Calls Tryd.prog 47 #[.int .u64 (r : Int)] w fun e w' => e = .returned (.int .i64 ((tzN 6 r : Nat) : Int)) ∧ w = w' := by
  obtain ⟨h1, h2, h3⟩ := tz_row r hr h0
  rw [← h3]
  exact TrailingZeros_c (r : Int) (by omega) (by omega) ⟨h1, h2⟩ w hT
theorem tz_not_c (r : Nat) (hr : r < 64) (w : World) (hT : Tab w) : Calls Tryd.prog 47 #[.int .u64 (18446744073709551615 - (r : Int))] w fun e w' => e = .returned (.int .i64 ((tzN 7 (127 - r) : Nat) : Int)) ∧ w = w' := by
  obtain ⟨h1, h2, h3⟩ := tz_not r hr
  rw [← h3]
  exact TrailingZeros_c (18446744073709551615 - (r : Int)) (by omega) (by omega) ⟨h1, h2⟩ w hT
/-- A list of so many numbers. -/
def RunsOut (w : World) (n : Nat) (e : Ending) (w' : World) : Prop := ∃ ao co xs, e = .returned (.slice ao n co) ∧ xs.length = n ∧ OwnI w' w.heap.size (.slice ao n co) xs ∧ Below w.heap.size w w'
set_option maxHeartbeats 2000000 in
theorem runsOf_c (r0 : Nat) (hr0 : r0 < 64) (w : World) (hT : Tab w) : Calls Tryd.prog 24 #[.int .i64 (r0 : Int)] w (RunsOut w (runsC r0)) := by
  have hW := Below.refl w.heap.size w
  have hn := OwnI.nil w w.heap.size
  have HTB := Lib.hid hT.1
  go_enter Tryd.func24, Tryd.ntmps24
  go_wp2
  go_loopw [0, 3] (fun q s wr => ∃ (r k : Nat) (ao : Option Addr) (co : Nat) (xs : List Int), r < 64 ∧ q = .int .i64 (r : Int) ∧ s = .slice ao k co ∧ xs.length = k ∧ k + runsC r = runsC r0 ∧ OwnI wr w.heap.size (.slice ao k co) xs ∧ Below w.heap.size w wr ∧ Tab wr) (fun q _ _ => (intOf q).toNat)
  case atStart => exact ⟨r0, 0, none, 0, [], hr0, rfl, rfl, rfl, by omega, hn, hW, hT⟩
  case round =>
    clear hn hW hT
    obtain ⟨r, k, ao, co, xs, hr, rfl, rfl, hxl, hk, hown, hW, hT⟩ := hrel
    have HX := Lib.hid hxl
    have HK := Lib.hid hk
    have hk6 : k ≤ 6 := by have := runs_le r0 hr0; omega
    clear hxl hk
    by_cases h0 : 0 < r
    · obtain ⟨s1, s2, s3, s4, s5⟩ := runs_step r hr h0
      have H1 := tz_row_c r h0 hr wr hT
      have H2 := tz_not_c (r / 2 ^ tzN 6 r) s1 wr hT
      obtain ⟨a, ea⟩ : ∃ a, a = tzN 6 r := ⟨_, rfl⟩
      rw [← ea] at H1 H2 s1 s2 s3 s4 s5
      obtain ⟨r1, er1⟩ : ∃ r1, r1 = r / 2 ^ a := ⟨_, rfl⟩
      rw [← er1] at H2 s1 s2 s3 s5
      obtain ⟨b, eb⟩ : ∃ b, b = tzN 7 (127 - r1) := ⟨_, rfl⟩
      rw [← eb] at H2 s2 s3 s5
      obtain ⟨r2, er2⟩ : ∃ r2, r2 = r1 / 2 ^ b := ⟨_, rfl⟩
      rw [← er2] at s2 s3
      have e1 : (r : Int) / 2 ^ a = (r1 : Int) := by rw [er1, Int.natCast_ediv]; simp
      have e2 : (r1 : Int) / 2 ^ b = (r2 : Int) := by rw [er2, Int.natCast_ediv]; simp
      have ew1 : IntKind.u64.wrap (r : Int) = r := by simp only [IntKind.wrap_u64]; omega
      have ew2 : IntKind.u64.wrap (r1 : Int) = r1 := by simp only [IntKind.wrap_u64]; omega
      have HS3 := Lib.hid s3
      clear ea er1 eb er2 s3
      go_wp2_with fail
      refine H1.mono ?_
      rintro e w' ⟨rfl, rfl⟩
      go_wp2_with fail
      rw [not_row r1 s1]
      refine H2.mono ?_
      rintro e w' ⟨rfl, rfl⟩
      have hown2 := hown.alloc (.cells #[.int .i64 (b : Int)] 3)
      have hb3 : Below w.heap.size wr (wr.alloc (.cells #[.int .i64 (b : Int)] 3)) := (Below.refl _ wr).alloc hW.size _
      have hbs : w.heap.size ≤ (wr.alloc (.cells #[.int .i64 (b : Int)] 3)).heap.size := Nat.le_trans hW.size hb3.size
      have hlen : xs.length + ([(b : Int)] : List Int).length ≤ 16777216 := by rw [HX.out]; simp; omega
      have hone := Ints.one wr (b : Int) 3
      have hTl := hT.1
      have HH := Lib.hid (And.intro hown2 (And.intro hbs (And.intro hlen (And.intro hone (And.intro hb3 (And.intro hW (And.intro hown hT)))))))
      clear hown2 hbs hlen hone hb3 hW hown hT H1 H2
      go_wp2_with (at_builtin; refine wpList_app (v := .slice ao k co) (ys := [(b : Int)]) rfl (.tmp 16) (.tmp 18) rfl rfl HH.out.1 rfl HH.out.2.2.2.1 HH.out.2.2.1 HH.out.2.1 ?_; intro v6 w6 hown6 hgr6 _ _)
      obtain ⟨hown2, hbs, hlen, hone, hb3, hW, hown, hT⟩ := HH.out
      have hl6 : (xs ++ [(b : Int)]).length = k + 1 := by rw [List.length_append, HX.out]; rfl
      have hbe := Below.app (hW.trans hb3) hown2 hgr6 (Nat.le_refl _) hbs
      have hT6 : Tab w6 := ⟨Nat.lt_of_lt_of_le hT.1 (Nat.le_trans (by simp) hgr6.size), fun j hj => by
        have h1 : (wr.alloc (.cells #[.int .i64 (b : Int)] 3)).cell? ⟨1, j, none⟩ = some (.int .u8 (tab64.getD j 0)) := (World.cell?_alloc_lt _ _ _ hT.1).trans (hT.2 j hj)
        rw [← h1]
        unfold World.cell?
        rw [hgr6.block _ (Nat.lt_of_lt_of_le hT.1 (by simp)) (fun e => by have := (hown2.own_lt _ e.symm).1; have := HTB.out; omega)]⟩
      obtain ⟨a6, c6, e6⟩ := hown6.ints.len
      rw [hl6] at e6
      subst e6
      have HR := Lib.hid (And.intro hl6 (And.intro hown6 (And.intro hbe hT6)))
      clear hl6 hown6 hbe hT6 hown2 hbs hlen hone hb3 hW hown hT hgr6 HH
      go_wp2
      go_roundw
      case rel => exact ⟨r2, k + 1, a6, c6, _, by omega, rfl, rfl, HR.out.1, by have := HS3.out; have := HK.out; omega, HR.out.2.1, HR.out.2.2.1, HR.out.2.2.2⟩
      case measure => simp [intOf]; omega
    · obtain rfl : r = 0 := by omega
      have hkk : k = runsC r0 := by have := HK.out; rw [runs_zero] at this; omega
      have HP := Lib.hid (show RunsOut w (runsC r0) (.returned (.slice ao k co)) wr from ⟨ao, co, xs, by rw [hkk], by rw [HX.out, hkk], by rw [← hkk]; exact hown, hW⟩)
      clear hown hW hT hkk
      go_wp2
      go_returns
      exact HP.out
end
section
open Go.RowKit
open Gr
/-- How many runs all rows have. -/
def runsS (ns : List Nat) : Nat → Nat
  | 0 => 0
  | k + 1 => runsS ns k + runsC (ns.getD k 0)
theorem runsS_le {n : Nat} {ns : List Nat} (hV : VImg n ns) : ∀ k, runsS ns k ≤ 6 * k
  | 0 => Nat.le_refl _
  | k + 1 => by
    have h1 := runsS_le hV k
    have h2 := runs_le _ (hV.get64 k)
    show runsS ns k + runsC (ns.getD k 0) ≤ 6 * (k + 1)
    omega
/-- A cell at which a run begins. -/
def runB (ns : List Nat) (c : Nat × Nat) : Bool := cell ns c.1 c.2 && !(decide (0 < c.2) && cell ns c.1 (c.2 - 1))
theorem runs_row {n : Nat} {ns : List Nat} (hV : VImg n ns) (i : Nat) : ((List.range n).filter fun j => runB ns (i, j)).length = runsC (ns.getD i 0) := by
  have w6 := hV.w6
  have e : ((List.range 6).filter fun j => runB ns (i, j)) = (List.range n).filter fun j => runB ns (i, j) := by
    have h : ∀ d, ((List.range (n + d)).filter fun j => runB ns (i, j)) = (List.range n).filter fun j => runB ns (i, j) := by
      intro d
      induction d with
      | zero => rfl
      | succ d ih =>
        rw [← Nat.add_assoc, List.range_succ, List.filter_append, ih]
        have : runB ns (i, n + d) = false := by
          have : cell ns i (n + d) = false := by
            rw [← Bool.not_eq_true]
            intro h
            have := (hV.cell_in h).2
            omega
          simp [runB, this]
        simp [this]
    have := h (6 - n)
    rwa [show n + (6 - n) = 6 by omega] at this
  unfold runsC
  rw [← e]
  rfl
theorem runs_cells {n : Nat} {ns : List Nat} (hV : VImg n ns) : ∀ k, ((cellsL k n).filter (runB ns)).length = runsS ns k
  | 0 => rfl
  | k + 1 => by
    rw [cellsL_succ, List.filter_append, List.length_append, runs_cells hV k, List.filter_map, List.length_map]
    show _ = runsS ns k + runsC (ns.getD k 0)
    rw [← runs_row hV k]
    rfl
/-- A part's first cell begins a run. -/
theorem parts_runs {n : Nat} {ns : List Nat} (hV : VImg n ns) : partsN n ns ≤ (runsS ns ns.length : Nat) := by
  have hS := (sized_img hV).inside
  rw [← runs_cells hV ns.length]
  unfold partsN partsL firsts
  rw [← List.countP_eq_length_filter, ← List.countP_eq_length_filter]
  refine Int.ofNat_le.2 (List.countP_mono_left fun c hc h => ?_)
  have hf := (firstB_iff hS c).1 h
  unfold runB
  rw [hf.1]
  cases hcl : (decide (0 < c.2) && cell ns c.1 (c.2 - 1)) with
  | false => rfl
  | true =>
    simp only [Bool.and_eq_true, decide_eq_true_eq] at hcl
    exact (hf.2 c.1 (c.2 - 1) (.inr ⟨rfl, by omega⟩) hcl.2 (Gr.Reach.step .refl ⟨by omega, by omega, by omega, by omega, .inr (.inl rfl)⟩ hcl.2)).elim
theorem parts_many {n : Nat} {ns : List Nat} (hV : VImg n ns) : partsN n ns ≤ mom n ns one := by
  have hS := (sized_img hV).inside
  have e : mom n ns one = (((cellsL ns.length n).filter fun c => cell ns c.1 c.2).length : Int) := by
    unfold mom
    rw [← sum_cells ns.length n fun i j => one i j * b2i (cell ns i j), ← sum_b2i]
    congr 1
    refine List.map_congr_left fun c _ => ?_
    unfold one
    omega
  rw [e]
  unfold partsN partsL firsts
  rw [← List.countP_eq_length_filter, ← List.countP_eq_length_filter]
  refine Int.ofNat_le.2 (List.countP_mono_left fun c hc h => ?_)
  exact ((firstB_iff hS c).1 h).1
set_option maxHeartbeats 2000000 in
theorem RunsMany_c (n : Nat) (v : Value) (ns : List Nat) (hV : VImg n ns) (w : World) (hv : Ints w.heap.size w v (casts ns)) (hT : Tab w) :
    Calls Tryd.prog 9 #[.agg #[.int .i64 (n : Int), v]] w fun e w' => e = .returned (.int .i64 (runsS ns ns.length : Nat)) ∧ Below w.heap.size w w' := by
  obtain ⟨A, cap, rfl⟩ := hv.len
  rw [length_casts] at hv ⊢
  have h1 := hV.h1
  have h6 := hV.h6
  have hI := Arg.new hv
  have hW := Below.refl w.heap.size w
  clear hv
  go_enter Tryd.func9, Tryd.ntmps9
  obtain ⟨W0, e_W0⟩ : ∃ W0, W0 = World.alloc w (.cells #[.int .i64 (n : Int), .slice A ns.length cap] 25) := ⟨_, rfl⟩
  have hx_W0 := Box2.new w (.int .i64 (n : Int)) (.slice A ns.length cap) 25
  have hb_W0 : Below (World.heap w).size w W0 := by rw [e_W0]; go_grown
  have HS_W0 := Lib.hid (show (World.heap W0).size = (World.heap w).size + 1 by rw [e_W0]; simp)
  replace hI := hI.below hb_W0
  replace hW := hW.trans (Below.mono hb_W0 hW.size)
  have HE_W0 := Lib.hid e_W0
  clear e_W0
  go_wp2_with fail
  rw [← HE_W0.out] at hx_W0 ⊢
  clear HE_W0
  obtain ⟨hl_x, x0, x1⟩ := hx_W0
  obtain ⟨Bx, e_Bx⟩ : ∃ Bx, Bx = (World.heap w).size := ⟨_, rfl⟩
  rw [← e_Bx] at hl_x x0 x1 hb_W0 HS_W0  ⊢
  have hz_Bx := hb_W0.size
  clear e_Bx hb_W0
  refine (ImageValid_c (n : Int) _ (casts ns) _ hI.ints).mono ?_
  rintro e wc ⟨rfl, hb⟩
  replace hI := hI.below hb
  replace hW := hW.trans (Below.mono hb hW.size)
  replace x0 := cellB hb x0
  replace x1 := cellB hb x1
  rw [validB_of hV]
  go_wp2_with fail
  go_loopw [3, 12] (fun s q wr => ∃ k : Nat, k ≤ ns.length ∧ q = .int .i64 k ∧ s = .int .i64 (runsS ns k : Nat) ∧ Arg w.heap.size wr (.slice A ns.length cap) (casts ns) ∧ Below w.heap.size w wr) (fun _ q _ => ns.length - (intOf q).toNat)
  case atStart => exact ⟨0, by omega, rfl, rfl, hI, hW⟩
  case round =>
    clear hI hW x0 x1
    obtain ⟨k, hk, rfl, rfl, hI, hW⟩ := hrel
    have hbd := runsS_le hV k
    have hst : runsS ns (k + 1) = runsS ns k + runsC (ns.getD k 0) := rfl
    by_cases hkl : k < ns.length
    · have hIn := hI.ints
      obtain ⟨b, off, cap', e, hbl, hc⟩ := hIn.row (by rw [length_casts]; omega)
      rw [length_casts] at e hc
      injection e with e1 _ e3
      subst e1 e3
      have hcr := hc k hkl
      rw [casts_getD] at hcr
      have hr64 := hV.get64 k
      have hrl := runs_le _ hr64
      have HR := runsOf_c (ns.getD k 0) hr64
      obtain ⟨r, er⟩ : ∃ r, r = ns.getD k 0 := ⟨_, rfl⟩
      rw [← er] at hcr hr64 hrl hst
      simp only [← er] at HR
      obtain ⟨m, em⟩ : ∃ m, m = runsC r := ⟨_, rfl⟩
      rw [← em] at hrl hst
      simp only [← em] at HR
      obtain ⟨S, eS⟩ : ∃ S, S = runsS ns k := ⟨_, rfl⟩
      rw [← eS] at hbd hst ⊢
      have HST := Lib.hid hst
      clear hst er em eS hc hIn
      go_wp2_with fail
      refine (HR _ (hT.below hW)).mono ?_
      rintro e wc ⟨ao, co, xs, rfl, hxl, _, hb⟩
      replace hI := hI.below hb
      replace hW := hW.trans (Below.mono hb hW.size)
      clear HR
      go_wp2
      go_roundw
      case rel => exact ⟨k + 1, by omega, by go_num, by rw [HST.out]; go_num, hI, hW⟩
      case measure => simp [intOf]; omega
    · obtain rfl : k = ns.length := by omega
      go_wp2
      go_returns
      exact ⟨rfl, hW⟩
end
end Go.Proofs.YtbblbdacdpokeaaDoor
