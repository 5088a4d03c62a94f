/- Contracts of l32Hole, ImageParts, ImageHoles of the reference. Conditions: the slice reads as a list of integers. -/
import Derived.Test.YtmhbcfnakhgihaaDoorPL4
namespace Go.Proofs.YtmhbcfnakhgihaaDoor
open Go.RowKit
open Gr
/-- A value of a valid image, d of another. -/
def onImg {α : Type} (d : α) (f : Nat → List Nat → α) (W : Int) (rows : List Int) : α := if validB W rows then f W.toNat (rows.map Int.toNat) else d
theorem onImg_no {α : Type} {d : α} {f : Nat → List Nat → α} {W : Int} {rows : List Int} (h : validB W rows = false) : onImg d f W rows = d := by unfold onImg; rw [h]; rfl
theorem onImg_yes {α : Type} {d : α} {f : Nat → List Nat → α} {w : Nat} {ns : List Nat} (h : VImg w ns) : onImg d f (w : Int) (casts ns) = f w ns := by
  have e : (casts ns).map Int.toNat = ns := by simp [casts, Function.comp_def]
  unfold onImg
  rw [validB_of h, e]
  simp
/-- The cells that are there and not set. -/
def coT (w : Nat) (ns : List Nat) : Nat → Nat → Bool := Co ns.length w (cell ns)
theorem coT_in {w : Nat} {ns : List Nat} : Inside ns.length w (coT w ns) := fun _ _ h => ⟨(co_iff.1 h).1, (co_iff.1 h).2.1⟩
/-- The cell is one of a hole. -/
def holeB (w : Nat) (ns : List Nat) (c : Nat × Nat) : Bool := !cell ns c.1 c.2 && innerB (coT w ns) ns.length w c
/-- The first cells of the parts, of the holes. -/
def partsL (w : Nat) (ns : List Nat) : List (Nat × Nat) := firsts (cell ns) false ns.length w
def holesL (w : Nat) (ns : List Nat) : List (Nat × Nat) := (firsts (coT w ns) true ns.length w).filter (innerB (coT w ns) ns.length w)
def partsN (w : Nat) (ns : List Nat) : Int := (partsL w ns).length
def holesN (w : Nat) (ns : List Nat) : Int := (holesL w ns).length
theorem holesL_eq (w : Nat) (ns : List Nat) : holesL w ns = (cellsL ns.length w).filter fun c => holeB w ns c && firstB (coT w ns) true ns.length w c := by
  unfold holesL firsts
  rw [List.filter_filter]
  refine List.filter_congr fun c _ => ?_
  cases hf : firstB (coT w ns) true ns.length w c with
  | false => simp
  | true =>
    have := ((firstB_iff coT_in c).1 hf).1
    have := (co_iff.1 this).2.2
    simp [holeB, this]
/-- How many of the cells ahead of (k, l) have a property. -/
def cntTo (p : Nat × Nat → Bool) (w k l : Nat) : Nat := ((cellsL k w).filter p).length + ((List.range l).filter fun j => p (k, j)).length
theorem cntTo_zero (p : Nat × Nat → Bool) (w k : Nat) : cntTo p w k 0 = ((cellsL k w).filter p).length := by simp [cntTo]
theorem cntTo_yes {p : Nat × Nat → Bool} {w k l : Nat} (h : p (k, l) = true) : cntTo p w k (l + 1) = cntTo p w k l + 1 := by
  unfold cntTo
  rw [List.range_succ, List.filter_append, List.length_append]
  simp [h]
  omega
theorem cntTo_no {p : Nat × Nat → Bool} {w k l : Nat} (h : p (k, l) = false) : cntTo p w k (l + 1) = cntTo p w k l := by
  unfold cntTo
  rw [List.range_succ, List.filter_append, List.length_append]
  simp [h]
theorem cntTo_row (p : Nat × Nat → Bool) (w k : Nat) : cntTo p w k w = cntTo p w (k + 1) 0 := by
  unfold cntTo
  rw [cellsL_succ, List.filter_append, List.length_append, List.filter_map, List.length_map]
  simp [Function.comp_def]
theorem cntTo_le (p : Nat × Nat → Bool) (w k l : Nat) : cntTo p w k l ≤ k * w + l := by
  unfold cntTo
  have h1 := List.length_filter_le p (cellsL k w)
  have h2 := List.length_filter_le (fun j => p (k, j)) (List.range l)
  rw [length_cellsL] at h1
  rw [List.length_range] at h2
  omega
theorem cntTo_bd {p : Nat × Nat → Bool} {w k l : Nat} (hk : k ≤ 6) (hw : w ≤ 6) (hl : l ≤ 6) : cntTo p w k l ≤ 42 := by
  have h1 := cntTo_le p w k l
  have h2 : k * w ≤ 6 * 6 := Nat.mul_le_mul hk hw
  omega
theorem firstB_no {T : Nat → Nat → Bool} {c : Bool} {h w i j : Nat} (ht : T i j = false) : firstB T c h w (i, j) = false := by
  unfold firstB
  rw [ht]
  rfl
set_option maxRecDepth 100000 in
set_option maxHeartbeats 2000000 in
theorem sImageParts_c (W : Int) (v : Value) (rows : List Int) (w : World) (hv : Ints w.heap.size w v rows) :
    Calls Tryd.prog 25 #[.agg #[.int .i64 W, v]] w fun e w' => e = .returned (.int .i64 (onImg (-1) partsN W rows)) ∧ Below w.heap.size w w' := by
  obtain ⟨A, cap, rfl⟩ := hv.len
  have hI := Arg.new hv
  have hW := Below.refl w.heap.size w
  go_enter Tryd.func25, Tryd.ntmps25
  obtain ⟨W0, e_W0⟩ : ∃ W0, W0 = World.alloc w (.cells #[.int .i64 W, .slice A rows.length cap] 27) := ⟨_, rfl⟩
  have hx_W0 := Box2.new w (.int .i64 W) (.slice A rows.length cap) 27
  have hb_W0 : Below (World.heap w).size w W0 := by rw [e_W0]; go_grown
  have HS_W0 := Lib.hid (show (World.heap W0).size = (World.heap w).size + 1 by rw [e_W0]; simp)
  replace hI := hI.below hb_W0
  replace hW := hW.trans (Below.mono hb_W0 hW.size)
  have HE_W0 := Lib.hid e_W0
  clear e_W0
  go_wp2_with fail
  rw [← HE_W0.out] at hx_W0 ⊢
  clear HE_W0
  obtain ⟨hl_x, x0, x1⟩ := hx_W0
  obtain ⟨Bx, e_Bx⟩ : ∃ Bx, Bx = (World.heap w).size := ⟨_, rfl⟩
  rw [← e_Bx] at hl_x x0 x1 hb_W0 HS_W0  ⊢
  have hz_Bx := hb_W0.size
  clear e_Bx hb_W0
  refine (sImageValid_c W _ rows _ hI.ints).mono ?_
  rintro e wc ⟨rfl, hb⟩
  replace hI := hI.below hb
  replace hW := hW.trans (Below.mono hb hW.size)
  replace x0 := cellB hb x0
  replace x1 := cellB hb x1
  cases hval : validB W rows with
  | false =>
    go_wp2
    go_returns
    exact ⟨ri (onImg_no hval).symm, hW⟩
  | true =>
    obtain ⟨n, ns, rfl, rfl, hV⟩ := validB_yes hval
    rw [length_casts] at hI x1 ⊢
    have h1 := hV.h1
    have w1 := hV.w1
    have w6 := hV.w6
    have h6 := hV.h6
    have HVL := Lib.hid hval
    clear hval hv
    go_wp2_with fail
    go_loopw [3, 4] (fun s q wr => ∃ k : Nat, k ≤ ns.length ∧ s = .int .i64 (cntTo (firstB (cell ns) false ns.length n) n k 0 : Nat) ∧ q = .int .i64 k ∧ Below w.heap.size w wr ∧ Arg w.heap.size wr (.slice A ns.length cap) (casts ns) ∧ wr.cell? ⟨Bx, 0, none⟩ = some (.int .i64 (n : Int)) ∧ wr.cell? ⟨Bx, 1, none⟩ = some (.slice A ns.length cap)) (fun _ q _ => ns.length - (intOf q).toNat)
    case atStart => exact ⟨0, by omega, by simp [cntTo_zero, cellsL], rfl, hW, hI, x0, x1⟩
    case round =>
      clear hW hI x0 x1
      obtain ⟨k, hk, rfl, rfl, hW, hI, x0, x1⟩ := hrel
      by_cases hkl : k < ns.length
      · go_wp2_with fail
        go_loopw [3, 5] (fun s q wr => ∃ l : Nat, l ≤ n ∧ s = .int .i64 (cntTo (firstB (cell ns) false ns.length n) n k l : Nat) ∧ q = .int .i64 l ∧ Below w.heap.size w wr ∧ Arg w.heap.size wr (.slice A ns.length cap) (casts ns) ∧ wr.cell? ⟨Bx, 0, none⟩ = some (.int .i64 (n : Int)) ∧ wr.cell? ⟨Bx, 1, none⟩ = some (.slice A ns.length cap)) (fun _ q _ => n - (intOf q).toNat)
        case atStart => exact ⟨0, by omega, rfl, rfl, hW, hI, x0, x1⟩
        case round =>
          clear hW hI x0 x1
          obtain ⟨l, hl, rfl, rfl, hW, hI, x0, x1⟩ := hrel
          by_cases hll : l < n
          · have hcb := cntTo_bd (p := firstB (cell ns) false ns.length n) (w := n) (k := k) (l := l) (by omega) (by omega) (by omega)
            have h64 := hV.get64 k
            go_wp2_with fail
            refine (l11Get_c n _ ns k l hkl (by omega) (by omega) _ hI.ints).mono ?_
            rintro e wc ⟨rfl, hb⟩
            replace hI := hI.below hb
            replace hW := hW.trans (Below.mono hb hW.size)
            replace x0 := cellB hb x0
            replace x1 := cellB hb x1
            cases hc : cell ns k l with
            | false =>
              have e0 : b2i false = 0 := rfl
              rw [e0]
              have hst := cntTo_no (w := n) (firstB_no (c := false) (h := ns.length) (w := n) hc)
              have HST := Lib.hid hst
              clear hc hst e0 h64
              go_wp2
              go_roundw
              case rel => exact ⟨l + 1, by omega, by rw [HST.out], by go_num, hW, hI, x0, x1⟩
              case measure => simp [intOf]; omega
            | true =>
              have e1 : b2i true = 1 := rfl
              rw [e1]
              have H1 := l32Group_c n _ ns hV k l false hkl hll _ hI.ints
              rw [sameT_set (sized_img hV) hc] at H1
              have hfo : firstOf (compL (cell ns) false ns.length n (k, l)) k l = firstB (cell ns) false ns.length n (k, l) := firstOf_comp (sized_img hV).inside hc
              have hz : Sized ns.length n (compL (cell ns) false ns.length n (k, l)) := sized_mk
              obtain ⟨os, eo⟩ : ∃ os, os = compL (cell ns) false ns.length n (k, l) := ⟨_, rfl⟩
              rw [← eo] at hz H1 hfo
              have HF := Lib.hid hfo
              clear hc e1 eo hfo h64
              go_wp2_with fail
              refine H1.mono ?_
              rintro e wc ⟨g, cp, rfl, hg, hr, hb⟩
              clear H1
              replace hI := hI.below hb
              replace hW := hW.trans (Below.mono hb hW.size)
              replace x0 := cellB hb x0
              replace x1 := cellB hb x1
              go_wp2_with fail
              refine (l32First_c n _ os (hz.vimg h1 h6 w1 w6) k l (by rw [hz.1]; exact hkl) hll _ (hr.intsH hz.1)).mono ?_
              rintro e wc ⟨rfl, hb⟩
              replace hI := hI.below hb
              replace hW := hW.trans (Below.mono hb hW.size)
              replace x0 := cellB hb x0
              replace x1 := cellB hb x1
              rw [HF.out]
              cases hfb : firstB (cell ns) false ns.length n (k, l) with
              | true =>
                have hst := cntTo_yes (w := n) hfb
                have HST := Lib.hid hst
                clear hfb hst
                go_wp2
                go_roundw
                case rel => exact ⟨l + 1, by omega, by rw [HST.out]; go_num, by go_num, hW, hI, x0, x1⟩
                case measure => simp [intOf]; omega
              | false =>
                have hst := cntTo_no (w := n) hfb
                have HST := Lib.hid hst
                clear hfb hst
                go_wp2
                go_roundw
                case rel => exact ⟨l + 1, by omega, by rw [HST.out], by go_num, hW, hI, x0, x1⟩
                case measure => simp [intOf]; omega
          · obtain rfl : l = n := by omega
            go_wp2
            go_roundw
            case rel => exact ⟨k + 1, by omega, by rw [cntTo_row], by go_num, hW, hI, x0, x1⟩
            case measure => simp [intOf]; omega
      · obtain rfl : k = ns.length := by omega
        go_wp2
        go_returns
        exact ⟨ri (by rw [onImg_yes hV, cntTo_zero]; rfl), hW⟩
end Go.Proofs.YtmhbcfnakhgihaaDoor
