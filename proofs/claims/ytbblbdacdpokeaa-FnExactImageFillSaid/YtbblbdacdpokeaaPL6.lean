/- Contracts of ImageHoles, ImageHas, ImagePart, ImageFill of the reference. Conditions: the slice reads as a list of integers. -/
import Derived.Test.YtbblbdacdpokeaaPL5
import Derived.Test.YtbblbdacdpokeaaK5
namespace Go.Proofs.Ytbblbdacdpokeaa
open Go.RowKit
open Gr
set_option maxRecDepth 100000 in
set_option maxHeartbeats 2000000 in
theorem sImageHoles_c (W : Int) (v : Value) (rows : List Int) (w : World) (hv : Ints w.heap.size w v rows) :
    Calls Try.prog 17 #[.agg #[.int .i64 W, v]] w fun e w' => e = .returned (.int .i64 (onImg (-1) holesN W rows)) ∧ Below w.heap.size w w' := by
  obtain ⟨A, cap, rfl⟩ := hv.len
  have hI := Arg.new hv
  have hW := Below.refl w.heap.size w
  go_enter Try.func17, Try.ntmps17
  obtain ⟨W0, e_W0⟩ : ∃ W0, W0 = World.alloc w (.cells #[.int .i64 W, .slice A rows.length cap] 27) := ⟨_, rfl⟩
  have hx_W0 := Box2.new w (.int .i64 W) (.slice A rows.length cap) 27
  have hb_W0 : Below (World.heap w).size w W0 := by rw [e_W0]; go_grown
  have HS_W0 := Lib.hid (show (World.heap W0).size = (World.heap w).size + 1 by rw [e_W0]; simp)
  replace hI := hI.below hb_W0
  replace hW := hW.trans (Below.mono hb_W0 hW.size)
  have HE_W0 := Lib.hid e_W0
  clear e_W0
  go_wp2_with fail
  rw [← HE_W0.out] at hx_W0 ⊢
  clear HE_W0
  obtain ⟨hl_x, x0, x1⟩ := hx_W0
  obtain ⟨Bx, e_Bx⟩ : ∃ Bx, Bx = (World.heap w).size := ⟨_, rfl⟩
  rw [← e_Bx] at hl_x x0 x1 hb_W0 HS_W0  ⊢
  have hz_Bx := hb_W0.size
  clear e_Bx hb_W0
  refine (sImageValid_c W _ rows _ hI.ints).mono ?_
  rintro e wc ⟨rfl, hb⟩
  replace hI := hI.below hb
  replace hW := hW.trans (Below.mono hb hW.size)
  replace x0 := cellB hb x0
  replace x1 := cellB hb x1
  cases hval : validB W rows with
  | false =>
    go_wp2
    go_returns
    exact ⟨ri (onImg_no hval).symm, hW⟩
  | true =>
    obtain ⟨n, ns, rfl, rfl, hV⟩ := validB_yes hval
    rw [length_casts] at hI x1 ⊢
    have h1 := hV.h1
    have w1 := hV.w1
    have w6 := hV.w6
    have h6 := hV.h6
    have HVL := Lib.hid hval
    clear hval hv
    go_wp2_with fail
    go_loopw [3, 4] (fun s q wr => ∃ k : Nat, k ≤ ns.length ∧ s = .int .i64 (cntTo (fun c => holeB n ns c && firstB (coT n ns) true ns.length n c) n k 0 : Nat) ∧ q = .int .i64 k ∧ Below w.heap.size w wr ∧ Arg w.heap.size wr (.slice A ns.length cap) (casts ns) ∧ wr.cell? ⟨Bx, 0, none⟩ = some (.int .i64 (n : Int)) ∧ wr.cell? ⟨Bx, 1, none⟩ = some (.slice A ns.length cap)) (fun _ q _ => ns.length - (intOf q).toNat)
    case atStart => exact ⟨0, by omega, by simp [cntTo_zero, cellsL], rfl, hW, hI, x0, x1⟩
    case round =>
      clear hW hI x0 x1
      obtain ⟨k, hk, rfl, rfl, hW, hI, x0, x1⟩ := hrel
      by_cases hkl : k < ns.length
      · go_wp2_with fail
        go_loopw [3, 5] (fun s q wr => ∃ l : Nat, l ≤ n ∧ s = .int .i64 (cntTo (fun c => holeB n ns c && firstB (coT n ns) true ns.length n c) n k l : Nat) ∧ q = .int .i64 l ∧ Below w.heap.size w wr ∧ Arg w.heap.size wr (.slice A ns.length cap) (casts ns) ∧ wr.cell? ⟨Bx, 0, none⟩ = some (.int .i64 (n : Int)) ∧ wr.cell? ⟨Bx, 1, none⟩ = some (.slice A ns.length cap)) (fun _ q _ => n - (intOf q).toNat)
        case atStart => exact ⟨0, by omega, rfl, rfl, hW, hI, x0, x1⟩
        case round =>
          clear hW hI x0 x1
          obtain ⟨l, hl, rfl, rfl, hW, hI, x0, x1⟩ := hrel
          by_cases hll : l < n
          · have hcb := cntTo_bd (p := (fun c => holeB n ns c && firstB (coT n ns) true ns.length n c)) (w := n) (k := k) (l := l) (by omega) (by omega) (by omega)
            have h64 := hV.get64 k
            go_wp2_with fail
            refine (l32Hole_c n _ ns hV k l hkl hll _ hI.ints).mono ?_
            rintro e wc ⟨rfl, hb⟩
            replace hI := hI.below hb
            replace hW := hW.trans (Below.mono hb hW.size)
            replace x0 := cellB hb x0
            replace x1 := cellB hb x1
            cases hc : holeB n ns (k, l) with
            | false =>
              have hst := cntTo_no (p := fun c => holeB n ns c && firstB (coT n ns) true ns.length n c) (w := n) (k := k) (l := l) (by rw [hc]; rfl)
              have HST := Lib.hid hst
              clear hc hst h64
              go_wp2
              go_roundw
              case rel => exact ⟨l + 1, by omega, by rw [HST.out], by go_num, hW, hI, x0, x1⟩
              case measure => simp [intOf]; omega
            | true =>
              have hcf : cell ns k l = false := by
                have h2 := hc
                unfold holeB at h2
                simp only [Bool.and_eq_true, Bool.not_eq_true'] at h2
                exact h2.1
              have ht : coT n ns k l = true := co_iff.2 ⟨hkl, hll, hcf⟩
              have H1 := l32Group_c n _ ns hV k l true hkl hll _ hI.ints
              rw [sameT_not hcf] at H1
              have hfo : firstOf (compL (coT n ns) true ns.length n (k, l)) k l = firstB (coT n ns) true ns.length n (k, l) := firstOf_comp coT_in ht
              have hz : Sized ns.length n (compL (coT n ns) true ns.length n (k, l)) := sized_mk
              change Calls Try.prog 44 _ _ (fun e w' => ∃ g cp, e = .returned (.agg #[.int .i64 (n : Int), .slice (some ⟨g, 0, none⟩) ns.length cp]) ∧ _ ≤ g ∧ Row w' g (casts (compL (coT n ns) true ns.length n (k, l))) ∧ Below _ _ w') at H1
              obtain ⟨os, eo⟩ : ∃ os, os = compL (coT n ns) true ns.length n (k, l) := ⟨_, rfl⟩
              rw [← eo] at hz H1 hfo
              have HF := Lib.hid hfo
              have HC := Lib.hid hc
              clear hc eo hfo h64 hcf ht
              go_wp2_with fail
              refine H1.mono ?_
              rintro e wc ⟨g, cp, rfl, hg, hr, hb⟩
              clear H1
              replace hI := hI.below hb
              replace hW := hW.trans (Below.mono hb hW.size)
              replace x0 := cellB hb x0
              replace x1 := cellB hb x1
              go_wp2_with fail
              refine (l32First_c n _ os (hz.vimg h1 h6 w1 w6) k l (by rw [hz.1]; exact hkl) hll _ (hr.intsH hz.1)).mono ?_
              rintro e wc ⟨rfl, hb⟩
              replace hI := hI.below hb
              replace hW := hW.trans (Below.mono hb hW.size)
              replace x0 := cellB hb x0
              replace x1 := cellB hb x1
              rw [HF.out]
              cases hfb : firstB (coT n ns) true ns.length n (k, l) with
              | true =>
                have hst := cntTo_yes (p := fun c => holeB n ns c && firstB (coT n ns) true ns.length n c) (w := n) (k := k) (l := l) (by rw [HC.out, hfb]; rfl)
                have HST := Lib.hid hst
                clear hfb hst
                go_wp2
                go_roundw
                case rel => exact ⟨l + 1, by omega, by rw [HST.out]; go_num, by go_num, hW, hI, x0, x1⟩
                case measure => simp [intOf]; omega
              | false =>
                have hst := cntTo_no (p := fun c => holeB n ns c && firstB (coT n ns) true ns.length n c) (w := n) (k := k) (l := l) (by rw [hfb, Bool.and_false])
                have HST := Lib.hid hst
                clear hfb hst
                go_wp2
                go_roundw
                case rel => exact ⟨l + 1, by omega, by rw [HST.out], by go_num, hW, hI, x0, x1⟩
                case measure => simp [intOf]; omega
          · obtain rfl : l = n := by omega
            go_wp2
            go_roundw
            case rel => exact ⟨k + 1, by omega, by rw [cntTo_row], by go_num, hW, hI, x0, x1⟩
            case measure => simp [intOf]; omega
      · obtain rfl : k = ns.length := by omega
        go_wp2
        go_returns
        exact ⟨ri (by rw [onImg_yes hV, cntTo_zero]; unfold holesN; rw [holesL_eq]), hW⟩
/-- Whether an image of whatever numbers is valid and has the cell. -/
def hasZ (W : Int) (rows : List Int) (i j : Int) : Bool := validB W rows && inB W rows i j && cell (rows.map Int.toNat) i.toNat j.toNat
theorem hasZ_yes {W : Int} {rows : List Int} {i j : Int} (h : hasZ W rows i j = true) : ∃ (n : Nat) (ns : List Nat) (a b : Nat), W = n ∧ rows = casts ns ∧ i = a ∧ j = b ∧ VImg n ns ∧ a < ns.length ∧ b < n ∧ cell ns a b = true := by
  simp only [hasZ, Bool.and_eq_true, inB, decide_eq_true_eq] at h
  obtain ⟨⟨h1, ⟨⟨h2, h3⟩, h4⟩, h5⟩, h6⟩ := h
  obtain ⟨n, ns, rfl, rfl, hV⟩ := validB_yes h1
  have e : (casts ns).map Int.toNat = ns := by simp [casts, Function.comp_def]
  rw [e] at h6
  have := hV.cell_in h6
  exact ⟨n, ns, i.toNat, j.toNat, rfl, rfl, by omega, by omega, hV, this.1, this.2, h6⟩
theorem hasZ_of {n : Nat} {ns : List Nat} (hV : VImg n ns) (i j : Int) : hasZ (n : Int) (casts ns) i j = cellZ ns i j := by
  have e : (casts ns).map Int.toNat = ns := by simp [casts, Function.comp_def]
  unfold hasZ
  rw [validB_of hV, e, Bool.eq_iff_iff]
  simp only [inB, cellZ, Bool.and_eq_true, decide_eq_true_eq, length_casts, true_and]
  constructor
  · rintro ⟨⟨⟨⟨a, _⟩, b⟩, _⟩, c⟩; exact ⟨⟨a, b⟩, c⟩
  · rintro ⟨⟨a, b⟩, c⟩
    have := hV.cell_in c
    exact ⟨⟨⟨⟨a, by omega⟩, b⟩, by omega⟩, c⟩
set_option maxHeartbeats 2000000 in
theorem sImageHas_c (W : Int) (v : Value) (rows : List Int) (i j : Int) (w : World) (hv : Ints w.heap.size w v rows) :
    Calls Try.prog 61 #[.agg #[.int .i64 W, v], .int .i64 i, .int .i64 j] w fun e w' => e = .returned (.bool (hasZ W rows i j)) ∧ Below w.heap.size w w' := by
  obtain ⟨A, cap, rfl⟩ := hv.len
  have hI := Arg.new hv
  have hW := Below.refl w.heap.size w
  go_enter Try.func61, Try.ntmps61
  obtain ⟨W0, e_W0⟩ : ∃ W0, W0 = World.alloc w (.cells #[.int .i64 W, .slice A rows.length cap] 27) := ⟨_, rfl⟩
  have hx_W0 := Box2.new w (.int .i64 W) (.slice A rows.length cap) 27
  have hb_W0 : Below (World.heap w).size w W0 := by rw [e_W0]; go_grown
  have HS_W0 := Lib.hid (show (World.heap W0).size = (World.heap w).size + 1 by rw [e_W0]; simp)
  replace hI := hI.below hb_W0
  replace hW := hW.trans (Below.mono hb_W0 hW.size)
  have HE_W0 := Lib.hid e_W0
  clear e_W0
  go_wp2_with fail
  rw [← HE_W0.out] at hx_W0 ⊢
  clear HE_W0
  obtain ⟨hl_x, x0, x1⟩ := hx_W0
  obtain ⟨Bx, e_Bx⟩ : ∃ Bx, Bx = (World.heap w).size := ⟨_, rfl⟩
  rw [← e_Bx] at hl_x x0 x1 hb_W0 HS_W0  ⊢
  have hz_Bx := hb_W0.size
  clear e_Bx hb_W0
  refine (sImageValid_c W _ rows _ hI.ints).mono ?_
  rintro e wc ⟨rfl, hb⟩
  replace hI := hI.below hb
  replace hW := hW.trans (Below.mono hb hW.size)
  replace x0 := cellB hb x0
  replace x1 := cellB hb x1
  cases hval : validB W rows with
  | false =>
    have hh : hasZ W rows i j = false := by unfold hasZ; rw [hval]; rfl
    have HH := Lib.hid hh
    clear hval hh
    go_wp2
    go_returns
    exact ⟨rb HH.out.symm, hW⟩
  | true =>
    obtain ⟨n, ns, rfl, rfl, hV⟩ := validB_yes hval
    rw [length_casts] at hI x1 ⊢
    have w6 := hV.w6
    have h6 := hV.h6
    clear hval hv
    go_wp2_with fail
    refine (l1Cell_c n _ ns hV i j _ hI.ints).mono ?_
    rintro e wc ⟨rfl, hb⟩
    replace hI := hI.below hb
    replace hW := hW.trans (Below.mono hb hW.size)
    replace x0 := cellB hb x0
    replace x1 := cellB hb x1
    by_cases hin : 0 ≤ i ∧ i < ns.length ∧ 0 ≤ j ∧ j < n
    · obtain ⟨a, rfl⟩ := Int.eq_ofNat_of_zero_le hin.1
      obtain ⟨b, rfl⟩ := Int.eq_ofNat_of_zero_le hin.2.2.1
      rw [inC_yes hin]
      obtain ⟨bb, off, cp, e, hbl, hcell⟩ := hI.at_.row (by rw [length_casts]; omega)
      injection e with e1 e2 e3
      subst e1 e3
      have hca := hcell a (by rw [length_casts]; omega)
      rw [casts_getD] at hca
      have h64 := hV.get64 a
      obtain ⟨r, er⟩ : ∃ r, r = ns.getD a 0 := ⟨_, rfl⟩
      rw [← er] at hca h64
      have hh : hasZ (n : Int) (casts ns) a b = r.testBit b := by rw [hasZ_of hV]; simp [cellZ, cell, er]
      have HH := Lib.hid hh
      clear hcell er hh e2
      have H1 := l1Bit_c r b (by omega) (by omega) wc
      cases ht : r.testBit b with
      | true =>
        have e1 : b2i true = 1 := rfl
        rw [ht, e1] at H1
        have HT := Lib.hid ht
        clear ht e1
        go_wp2_with (go_at_call 78; refine H1.mono ?_; rintro e w' ⟨rfl, rfl⟩)
        go_returns
        exact ⟨rb (by rw [HH.out, HT.out]), hW⟩
      | false =>
        have e1 : b2i false = 0 := rfl
        rw [ht, e1] at H1
        have HT := Lib.hid ht
        clear ht e1
        go_wp2_with (go_at_call 78; refine H1.mono ?_; rintro e w' ⟨rfl, rfl⟩)
        go_returns
        exact ⟨rb (by rw [HH.out, HT.out]), hW⟩
    · rw [inC_no hin]
      have hh : hasZ (n : Int) (casts ns) i j = false := by
        rw [hasZ_of hV, ← Bool.not_eq_true]
        intro hc
        simp only [cellZ, Bool.and_eq_true, decide_eq_true_eq] at hc
        have := hV.cell_in hc.2
        omega
      have HH := Lib.hid hh
      clear hh
      go_wp2
      go_returns
      exact ⟨rb HH.out.symm, hW⟩
/-- An image of the call's own, and true. -/
def ImgOut (w : World) (wd : Nat) (ns : List Nat) (e : Ending) (w' : World) : Prop :=
  ∃ g c, e = .returned (.tuple #[.agg #[.int .i64 (wd : Int), .slice (some ⟨g, 0, none⟩) ns.length c], .bool true]) ∧ w.heap.size ≤ g ∧ Row w' g (casts ns) ∧ Below w.heap.size w w'
/-- No image. -/
def NoImg (w : World) (e : Ending) (w' : World) : Prop := e = .returned (.tuple #[.agg #[.int .i64 0, .slice none 0 0], .bool false]) ∧ Below w.heap.size w w'
set_option maxHeartbeats 2000000 in
theorem sImagePart_no (W : Int) (v : Value) (rows : List Int) (i j : Int) (hn : hasZ W rows i j = false) (w : World) (hv : Ints w.heap.size w v rows) :
    Calls Try.prog 28 #[.agg #[.int .i64 W, v], .int .i64 i, .int .i64 j] w (NoImg w) := by
  obtain ⟨A, cap, rfl⟩ := hv.len
  obtain ⟨W0, e_W0⟩ : ∃ W1, W1 = (w.alloc (.cells #[.int .i64 W, .slice A rows.length cap] 27)).alloc (.cells #[.int .i64 0, .slice none 0 0] 27) := ⟨_, rfl⟩
  have hW : Below w.heap.size w W0 := by rw [e_W0]; go_grown
  have x0 : W0.cell? ⟨w.heap.size, 0, none⟩ = some (.int .i64 W) := by rw [e_W0]; go_cell
  have x1 : W0.cell? ⟨w.heap.size, 1, none⟩ = some (.slice A rows.length cap) := by rw [e_W0]; go_cell
  have r0 : W0.cell? ⟨w.heap.size + 1, 0, none⟩ = some (.int .i64 0) := by rw [e_W0]; go_cell
  have r1 : W0.cell? ⟨w.heap.size + 1, 1, none⟩ = some (.slice none 0 0) := by rw [e_W0]; go_cell
  have rf0 : W0.frozen? ⟨w.heap.size + 1, 0, none⟩ = false := by rw [e_W0]; go_cell
  have rf1 : W0.frozen? ⟨w.heap.size + 1, 1, none⟩ = false := by rw [e_W0]; go_cell
  have hs : w.heap.size + 2 ≤ W0.heap.size := by rw [e_W0]; simp
  go_enter Try.func28, Try.ntmps28
  go_wp2_with fail
  rw [← e_W0]
  clear e_W0
  have hI := (Arg.new hv).below hW
  refine (sImageHas_c W _ rows i j _ hI.ints).mono ?_
  rintro e wc ⟨rfl, hb⟩
  replace x0 := cellB hb x0
  replace x1 := cellB hb x1
  replace rf0 := frozenB hb r0 rf0
  replace r0 := cellB hb r0
  replace rf1 := frozenB hb r1 rf1
  replace r1 := cellB hb r1
  replace hW := hW.trans (Below.mono hb hW.size)
  replace hs := Nat.le_trans hs hb.size
  replace hI := hI.below hb
  rw [hn]
  obtain ⟨q0, q1⟩ := set2_get (x := .int .i64 0) (y := .slice none 0 0) r0 r1
  clear hn hv
  go_wp2
  refine bodyPost_ret (res_img_b rfl _ _ rfl q0 q1) rfl ?_
  exact ⟨rfl, (hW.setCell (by simp) _).setCell (by simp) _⟩
set_option maxHeartbeats 2000000 in
theorem sImagePart_yes (n : Nat) (v : Value) (ns : List Nat) (hV : VImg n ns) (i j : Nat) (hc : cell ns i j = true) (w : World) (hv : Ints w.heap.size w v (casts ns)) :
    Calls Try.prog 28 #[.agg #[.int .i64 (n : Int), v], .int .i64 (i : Int), .int .i64 (j : Int)] w (ImgOut w n (compL (cell ns) false ns.length n (i, j))) := by
  obtain ⟨A, cap, rfl⟩ := hv.len
  rw [length_casts] at hv ⊢
  have hin := hV.cell_in hc
  obtain ⟨W0, e_W0⟩ : ∃ W1, W1 = (w.alloc (.cells #[.int .i64 (n : Int), .slice A ns.length cap] 27)).alloc (.cells #[.int .i64 0, .slice none 0 0] 27) := ⟨_, rfl⟩
  have hW : Below w.heap.size w W0 := by rw [e_W0]; go_grown
  have x0 : W0.cell? ⟨w.heap.size, 0, none⟩ = some (.int .i64 (n : Int)) := by rw [e_W0]; go_cell
  have x1 : W0.cell? ⟨w.heap.size, 1, none⟩ = some (.slice A ns.length cap) := by rw [e_W0]; go_cell
  have r0 : W0.cell? ⟨w.heap.size + 1, 0, none⟩ = some (.int .i64 0) := by rw [e_W0]; go_cell
  have r1 : W0.cell? ⟨w.heap.size + 1, 1, none⟩ = some (.slice none 0 0) := by rw [e_W0]; go_cell
  have rf0 : W0.frozen? ⟨w.heap.size + 1, 0, none⟩ = false := by rw [e_W0]; go_cell
  have rf1 : W0.frozen? ⟨w.heap.size + 1, 1, none⟩ = false := by rw [e_W0]; go_cell
  have hs : w.heap.size + 2 ≤ W0.heap.size := by rw [e_W0]; simp
  go_enter Try.func28, Try.ntmps28
  go_wp2_with fail
  rw [← e_W0]
  clear e_W0
  have hI := (Arg.new hv).below hW
  refine (sImageHas_c (n : Int) _ (casts ns) i j _ hI.ints).mono ?_
  rintro e wc ⟨rfl, hb⟩
  replace x0 := cellB hb x0
  replace x1 := cellB hb x1
  replace rf0 := frozenB hb r0 rf0
  replace r0 := cellB hb r0
  replace rf1 := frozenB hb r1 rf1
  replace r1 := cellB hb r1
  replace hW := hW.trans (Below.mono hb hW.size)
  replace hs := Nat.le_trans hs hb.size
  replace hI := hI.below hb
  rw [hasZ_of hV, show cellZ ns (i : Int) (j : Int) = cell ns i j by simp [cellZ], hc]
  have H1 := l32Group_c n _ ns hV i j false hin.1 hin.2 _ hI.ints
  rw [sameT_set (sized_img hV) hc] at H1
  clear hv hc
  go_wp2_with fail
  refine H1.mono ?_
  rintro e wc ⟨g, c, rfl, hg, hr, hb⟩
  clear H1
  have hz : w.heap.size + 1 < g := by omega
  replace x0 := cellB hb x0
  replace x1 := cellB hb x1
  replace rf0 := frozenB hb r0 rf0
  replace r0 := cellB hb r0
  replace rf1 := frozenB hb r1 rf1
  replace r1 := cellB hb r1
  replace hW := hW.trans (Below.mono hb hW.size)
  replace hs := Nat.le_trans hs hb.size
  replace hI := hI.below hb
  obtain ⟨q0, q1⟩ := set2_get (x := .int .i64 (n : Int)) (y := .slice (some ⟨g, 0, none⟩) ns.length c) r0 r1
  have HR := Lib.hid hr
  clear hr
  go_wp2
  refine bodyPost_ret (res_img_b rfl _ _ rfl q0 q1) rfl ?_
  exact ⟨g, c, by rw [length_comp]; rfl, by omega, (HR.out.far (by simp; omega) _).far (by simp; omega) _, (hW.setCell (by simp) _).setCell (by simp) _⟩
end Go.Proofs.Ytbblbdacdpokeaa
