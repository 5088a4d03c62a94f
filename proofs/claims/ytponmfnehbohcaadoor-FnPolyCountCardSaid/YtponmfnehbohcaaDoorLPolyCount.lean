/- The law that polyominoes are some of the convex images: it returns true at whatever code, where the table of math/bits stands. Conditions: the code's slice can be read; the table. -/
import Derived.Test.YtponmfnehbohcaaDoorCN
import Derived.Test.YtponmfnehbohcaaDoorDS
import Derived.Test.YtponmfnehbohcaaDoorSC4
namespace Go.Proofs.YtponmfnehbohcaaDoor
open Go.RowKit
/-- An empty row between others. -/
def gapAt (rs : List Int) (i : Nat) : Prop := 1 ≤ i ∧ i + 1 < rs.length ∧ rs.getD i 0 = 0 ∧ 0 < rs.getD (i - 1) 0 ∧ 0 < rs.getD (i + 1) 0
set_option maxRecDepth 100000 in
set_option maxHeartbeats 4000000 in
theorem polyCount_walk (A : Option Addr) (len cap : Nat) (hlc : len ≤ cap) (w : World) (hc : Code8 w w.heap.size A len) (hT : Tab w) :
    Calls Tryd.prog 3 #[.slice A len cap] w fun e w' => e = .returned (.bool true) ∧ Below w.heap.size w w' := by
  by_cases hbig : 1048576 < len
  · go_enter Tryd.func3, Tryd.ntmps3
    go_wp2
    go_returns
    exact ⟨rfl, Below.refl _ _⟩
  · go_enter Tryd.func3, Tryd.ntmps3
    go_wp2_with fail
    refine (DrawPolyCount_c A len cap hlc w hc).mono ?_
    rintro e wc ⟨u, v, rs, cs, rfl, hI, hJ, hr12, hc12, hW⟩
    obtain ⟨B, bp, rfl⟩ := hI.len
    obtain ⟨C, cp, rfl⟩ := hJ.len
    go_wp2_with fail
    refine (PolyCount_c _ _ rs cs (by omega) (by omega) _ hI hJ (hT.below hW)).mono ?_
    rintro e wc ⟨rfl, hb⟩
    replace hW := hW.trans (Below.mono hb hW.size)
    replace hI := (hI.below hb).more (Below.size hb)
    replace hJ := (hJ.below hb).more (Below.size hb)
    go_wp2_with fail
    refine (sPolyCount_c _ _ rs cs (by omega) (by omega) _ hI hJ).mono ?_
    rintro e wc ⟨rfl, hb⟩
    replace hW := hW.trans (Below.mono hb hW.size)
    replace hI := (hI.below hb).more (Below.size hb)
    replace hJ := (hJ.below hb).more (Below.size hb)
    obtain ⟨N, eN⟩ : ∃ N, N = nPolyCount rs cs := ⟨_, rfl⟩
    rw [← eN]
    by_cases hneg : N < 0
    · clear eN
      go_wp2
      go_returns
      exact ⟨rfl, hW⟩
    · have hct : ctB rs cs = true := nPolyCount_ct (by rw [← eN]; omega)
      have hle := poly_le rs cs
      have htu := poly_count_turn hct
      have hgz : ∀ i, gapAt rs i → N = 0 := fun i h => by rw [eN]; exact gap_zero hct h.1 h.2.1 h.2.2.1 h.2.2.2.1 h.2.2.2.2
      rw [← eN] at hle htu
      obtain ⟨M, eM⟩ : ∃ M, M = nConvexCount rs cs := ⟨_, rfl⟩
      rw [← eM] at hle
      have HN := Lib.hid (And.intro eM (And.intro htu hgz))
      have hS := (ct_sums hct).1
      have h1 := hS.h1
      have h6 := hS.h6
      clear eN hct htu hgz eM hS
      go_wp2_with fail
      go_loop [7, 8] (fun s q => ∃ (k : Nat) (b : Bool), 1 ≤ k ∧ k ≤ rs.length ∧ s = .bool b ∧ q = .int .i64 (k : Int) ∧ (b = true → ∃ i, gapAt rs i)) (fun _ q => rs.length - (intOf q).toNat)
      case atStart => exact ⟨1, false, Nat.le_refl _, h1, rfl, rfl, fun h => by cases h⟩
      case round =>
        obtain ⟨k, b, hk1, hk, rfl, rfl, hb⟩ := hrel
        have HB := Lib.hid hb
        clear hb
        by_cases hlt : k + 1 < rs.length
        · have hki : (k : Int) + 1 < (rs.length : Int) := by omega
          have hIn := hI
          obtain ⟨bb, off, cap', e, hbl, hcx⟩ := hIn.row (by omega)
          injection e with e1 _ e3
          subst e1 e3
          have c0 := hcx k (by omega)
          have c1 := hcx (k - 1) (by omega)
          have c2 := hcx (k + 1) (by omega)
          have hix : ((k : Int) - 1).toNat = k - 1 := by omega
          have hgp : ∀ x y z, x = rs.getD k 0 → y = rs.getD (k - 1) 0 → z = rs.getD (k + 1) 0 → x = 0 → 0 < y → 0 < z → gapAt rs k := fun x y z e1 e2 e3 h1 h2 h3 => ⟨hk1, hlt, by rw [← e1]; exact h1, by rw [← e2]; exact h2, by rw [← e3]; exact h3⟩
          obtain ⟨x, ex⟩ : ∃ x, x = rs.getD k 0 := ⟨_, rfl⟩
          obtain ⟨y, ey⟩ : ∃ y, y = rs.getD (k - 1) 0 := ⟨_, rfl⟩
          obtain ⟨z, ez⟩ : ∃ z, z = rs.getD (k + 1) 0 := ⟨_, rfl⟩
          rw [← ex] at c0
          rw [← ey] at c1
          rw [← ez] at c2
          have HG := Lib.hid (hgp x y z ex ey ez)
          clear ex ey ez hgp hcx hIn hbl
          cases b with
          | true =>
            go_wp2
            go_round
            case rel => exact ⟨k + 1, true, by omega, by omega, rfl, by go_num, HB.out⟩
            case measure => simp [intOf]; omega
          | false =>
            by_cases hx : x = 0
            · by_cases hy : 0 < y
              · by_cases hz : 0 < z
                · have HGG := Lib.hid (HG.out hx hy hz)
                  subst hx
                  go_wp2
                  go_round
                  case rel => exact ⟨k + 1, true, by omega, by omega, rfl, by go_num, fun _ => ⟨k, HGG.out⟩⟩
                  case measure => simp [intOf]; omega
                · subst hx
                  go_wp2
                  go_round
                  case rel => exact ⟨k + 1, false, by omega, by omega, rfl, by go_num, fun h => by cases h⟩
                  case measure => simp [intOf]; omega
              · subst hx
                go_wp2
                go_round
                case rel => exact ⟨k + 1, false, by omega, by omega, rfl, by go_num, fun h => by cases h⟩
                case measure => simp [intOf]; omega
            · have hx' : (x == 0) = false := by simp; exact hx
              go_wp2
              go_round
              case rel => exact ⟨k + 1, false, by omega, by omega, rfl, by go_num, fun h => by cases h⟩
              case measure => simp [intOf]; omega
        · have hki : ¬ (k : Int) + 1 < (rs.length : Int) := by omega
          go_wp2_with fail
          refine (ConvexCount_c _ _ rs cs (by omega) (by omega) _ hI hJ (hT.below hW)).mono ?_
          rintro e wc ⟨rfl, hb⟩
          replace hW := hW.trans (Below.mono hb hW.size)
          replace hI := (hI.below hb).more (Below.size hb)
          replace hJ := (hJ.below hb).more (Below.size hb)
          rw [← HN.out.1]
          go_wp2_with fail
          refine (PolyCount_c _ _ cs rs (by omega) (by omega) _ hJ hI (hT.below hW)).mono ?_
          rintro e wc ⟨rfl, hb⟩
          replace hW := hW.trans (Below.mono hb hW.size)
          replace hI := (hI.below hb).more (Below.size hb)
          replace hJ := (hJ.below hb).more (Below.size hb)
          rw [HN.out.2.1]
          cases b with
          | false =>
            go_wp2
            go_returns
            exact ⟨rfl, hW⟩
          | true =>
            obtain ⟨i, hi⟩ := HB.out rfl
            have hN0 := HN.out.2.2 i hi
            subst hN0
            clear hi
            go_wp2
            go_returns
            exact ⟨rfl, hW⟩
end Go.Proofs.YtponmfnehbohcaaDoor
