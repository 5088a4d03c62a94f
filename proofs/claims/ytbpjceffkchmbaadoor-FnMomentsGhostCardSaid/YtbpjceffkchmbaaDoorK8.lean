/- Contracts of cells, the iterator over all cells of an image, row by row. Conditions: the box that it reads holds a width and a slice of as many rows. -/
import Derived.RangeFuncNested
import Derived.RangeFuncBound
import Derived.RangeFuncCalls
import Derived.RangeFuncLeaves
import Derived.RangeFuncOne
import Derived.Shelf.Abstract
import Derived.OwnWalkIn
import Derived.TacticsInMore
import Derived.LoopNIn
import Derived.LoopIn
import Derived.Test.YtbpjceffkchmbaaDoorK3
namespace Go.Proofs.YtbpjceffkchmbaaDoor
open Go.RowKit Go.Shelf
attribute [local go_sem] Oper.semAt_some
set_option maxHeartbeats 400000 in
theorem cells_c (W : Int) (v : Value) (w : World) : Calls Tryd.prog 54 #[.agg #[.int .i64 W, v]] w fun e w' => e = .returned (.func (.func 79) #[] #[.pointer (some ⟨w.heap.size, 0, none⟩)]) ∧ w.alloc (.cells #[.int .i64 W, v] 25) = w' := by
  go_enter Tryd.func54, Tryd.ntmps54
  go_wp2
  go_returns
  exact ⟨rfl, rfl⟩
/-- A cell that is there. -/
abbrev Cell (h w : Nat) := { p : Nat × Nat // p.1 < h ∧ p.2 < w }
def encC {h w : Nat} (x : Cell h w) : Array Value := #[.int .i64 (x.1.1 : Int), .int .i64 (x.1.2 : Int)]
/-- What a round must keep: the width in the box. -/
def KpC (Bn : Nat) (A B : World) : Prop := ∀ v, A.cell? ⟨Bn, 0, none⟩ = some v → B.cell? ⟨Bn, 0, none⟩ = some v
theorem KpC.t {Bn : Nat} {A B C : World} (h : KpC Bn A B) (k : KpC Bn B C) : KpC Bn A C := fun v hv => k v (h v hv)
theorem KpC.b {Bn : Nat} (W : World) (l : Nat) (o o' : Obj) (h : W.heap[l]? = some o) (hc : o.isCells = false) : KpC Bn W (W.putObj l o') :=
  fun _ hv => cell_kept hv (grownBy_putObj' W l o') (fun r e => by cases e; exact ⟨o, h, hc⟩)
theorem KpC.below {Bn B : Nat} {W W' : World} (hb : Below B W W') (h : Bn < B) : KpC Bn W W' := fun _ hv => (hb.cell (p := ⟨Bn, 0, none⟩) h).trans hv
set_option maxHeartbeats 1000000 in
theorem cells_stops (n Bn h Wd cap : Nat) (A : Option Addr) (h6 : h ≤ 6) (w6 : Wd ≤ 6) (w : World) (h0 : w.cell? ⟨Bn, 0, none⟩ = some (.int .i64 (Wd : Int))) (h1 : w.cell? ⟨Bn, 1, none⟩ = some (.slice A h cap)) (hBn : Bn < w.heap.size) :
    SeqStopsK Fence.wide n Tryd.prog 79 #[.pointer (some ⟨Bn, 0, none⟩)] (encC (h := h) (w := Wd)) (KpC Bn) (fun xs => xs.map (·.1) = cellsL h Wd) (fun _ => True) (h * Wd) w := fun l J Jx W hW hJ hJx hY hJ0 => by
  have g0 := (hW.cell (p := ⟨Bn, 0, none⟩) hBn).trans h0
  have g1 := (hW.cell (p := ⟨Bn, 1, none⟩) hBn).trans h1
  clear h0 h1
  refine callsIn_of_wp Tryd.func79 rfl trivial ?_ rfl
  simp only [Tryd.ntmps79, List.size_toArray, List.length_cons, List.length_nil, Nat.reduceAdd, Nat.reduceSub, Array.replicate_succ, Array.replicate_zero, List.push_toArray, List.append_toArray, List.nil_append, List.cons_append]
  gi_wp2
  gi_loopw [8] (fun i wr => ∃ (k : Nat) (pre : List (Cell h Wd)), k ≤ h ∧ i = .int .i64 (k : Int) ∧ pre.map (·.1) = cellsL k Wd ∧ J pre wr ∧ wr.cell? ⟨Bn, 0, none⟩ = some (.int .i64 (Wd : Int))) (fun i _ => h - (intOf i).toNat)
  case atStart => exact ⟨0, [], by omega, rfl, rfl, hJ0, g0⟩
  case round =>
    obtain ⟨k, pre, hk, rfl, hpre, hJp, hc0⟩ := hrel
    have HP := Lib.hid hpre
    clear hpre
    by_cases hlt : k < h
    · gi_wp2
      gi_loopw [13] (fun j wr => ∃ (m : Nat) (pre : List (Cell h Wd)), m ≤ Wd ∧ j = .int .i64 (m : Int) ∧ pre.map (·.1) = cellsL k Wd ++ (List.range m).map (fun j => (k, j)) ∧ J pre wr ∧ wr.cell? ⟨Bn, 0, none⟩ = some (.int .i64 (Wd : Int))) (fun j _ => Wd - (intOf j).toNat)
      case atStart => exact ⟨0, pre, by omega, rfl, by simpa using HP.out, hJp, hc0⟩
      case round =>
        obtain ⟨m, pre2, hm, rfl, hpre2, hJp2, hc2⟩ := hrel
        have HP2 := Lib.hid hpre2
        have hlen : pre2.length = k * Wd + m := by
          have := congrArg List.length hpre2
          simpa [length_cellsL] using this
        have HL := Lib.hid hlen
        clear hpre2 hlen hc0 hJp
        by_cases hmt : m < Wd
        · have hin : pre2.length < h * Wd := by
            have h1 := HL.out
            have h2 : (k + 1) * Wd ≤ h * Wd := Nat.mul_le_mul_right _ hlt
            rw [Nat.add_mul] at h2
            omega
          obtain ⟨fn, tmps, assign, body, hy, hR⟩ := hY pre2 ⟨(k, m), hlt, hmt⟩ wr hJp2 hin
          clear hin
          dsimp only [encC] at hy
          gi_wp2
          refine ⟨fun hh => by simp [Fence.wide] at hh, hR.mono ?_⟩
          rintro e W3 (⟨rfl, hJ3, hk3⟩ | ⟨rfl, hJx3⟩)
          · have hc3 := hk3 _ hc2
            gi_wp2
            go_roundw
            case rel =>
              refine ⟨m + 1, pre2 ++ [⟨(k, m), hlt, hmt⟩], by omega, by go_num, ?_, hJ3, hc3⟩
              rw [List.map_append, HP2.out, List.range_succ, List.map_append, List.append_assoc]
              rfl
            case measure => simp [intOf]; omega
          · gi_wp2
            refine bodyPost_ret (results_none rfl _ _ _) rfl ?_
            exact ⟨⟨_, rfl⟩, .inr ⟨_, trivial, hJx3⟩⟩
        · obtain rfl : m = Wd := by omega
          gi_wp2
          go_roundw
          case rel => exact ⟨k + 1, pre2, by omega, by go_num, by rw [HP2.out, cellsL_succ], hJp2, hc2⟩
          case measure => simp [intOf]; omega
    · obtain rfl : k = h := by omega
      gi_wp2
      go_end0
      exact ⟨⟨_, rfl⟩, .inl ⟨pre, HP.out, hJp⟩⟩
end Go.Proofs.YtbpjceffkchmbaaDoor
