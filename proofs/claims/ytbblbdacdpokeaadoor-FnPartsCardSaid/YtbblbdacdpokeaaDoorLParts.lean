/- The law that parts are between the bounds: it returns true at whatever code, where the table of math/bits stands. Conditions: the code's slice can be read; the table. -/
import Derived.Test.YtbblbdacdpokeaaDoorPE2
import Derived.Test.YtbblbdacdpokeaaDoorPD2
import Derived.Test.YtbblbdacdpokeaaDoorKW
import Derived.Test.YtbblbdacdpokeaaDoorTA
import Derived.Test.YtbblbdacdpokeaaDoorLPartsPut
namespace Go.Proofs.YtbblbdacdpokeaaDoor
open Go.RowKit
open Gr
theorem mom1_bd {n : Nat} {ns : List Nat} (hV : VImg n ns) : 0 ≤ mom n ns one ∧ mom n ns one ≤ 1050 := by
  have := part_bd (ns := ns) (w := n) one_bd (k := ns.length) (m := 0) hV.h6 hV.w6 (by omega) (.inr rfl)
  unfold mom
  unfold part at this
  simpa [sumN] using this
set_option maxRecDepth 100000 in
set_option maxHeartbeats 4000000 in
theorem parts_walk (A : Option Addr) (len cap : Nat) (hlc : len ≤ cap) (w : World) (hc : Code8 w w.heap.size A len) (hT : Tab w) :
    Calls Tryd.prog 3 #[.slice A len cap] w fun e w' => e = .returned (.bool true) ∧ Below w.heap.size w w' := by
  by_cases hbig : 1048576 < len
  · go_enter Tryd.func3, Tryd.ntmps3
    go_wp2
    go_returns
    exact ⟨rfl, Below.refl _ _⟩
  · go_enter Tryd.func3, Tryd.ntmps3
    go_wp2_with fail
    refine (DrawImageParts_c A len cap hlc w hc).mono ?_
    rintro e wc ⟨W, v, rows, rfl, hI, hl6, hW⟩
    obtain ⟨B, cp, rfl⟩ := hI.len
    obtain ⟨W1, e_W1⟩ : ∃ W0, W0 = World.alloc wc (.cells #[.int .i64 W, .slice B rows.length cp] 25) := ⟨_, rfl⟩
    have hx_W1 := Box2.new wc (.int .i64 W) (.slice B rows.length cp) 25
    have hb_W1 : Below (World.heap wc).size wc W1 := by rw [e_W1]; go_grown
    have HS_W1 := Lib.hid (show (World.heap W1).size = (World.heap wc).size + 1 by rw [e_W1]; simp)
    replace hW := hW.trans (Below.mono hb_W1 hW.size)
    replace hI := (hI.below hb_W1).more (Below.size hb_W1)
    have HE_W1 := Lib.hid e_W1
    clear e_W1
    go_wp2_with fail
    rw [← HE_W1.out] at hx_W1 ⊢
    clear HE_W1
    obtain ⟨hl_x, x0, x1⟩ := hx_W1
    obtain ⟨Bx, e_Bx⟩ : ∃ Bx, Bx = (World.heap wc).size := ⟨_, rfl⟩
    rw [← e_Bx] at hl_x x0 x1 hb_W1 HS_W1  ⊢
    have hz_Bx := hb_W1.size
    clear e_Bx hb_W1
    refine (ImageParts_c W _ rows W1 hI).mono ?_
    rintro e wc ⟨rfl, hb⟩
    replace hW := hW.trans (Below.mono hb hW.size)
    replace hI := (hI.below hb).more (Below.size hb)
    replace x0 := cellB hb x0
    replace x1 := cellB hb x1
    go_wp2_with fail
    refine (sImageParts_c W _ rows _ hI).mono ?_
    rintro e wc ⟨rfl, hb⟩
    replace hW := hW.trans (Below.mono hb hW.size)
    replace hI := (hI.below hb).more (Below.size hb)
    replace x0 := cellB hb x0
    replace x1 := cellB hb x1
    have hob := onParts_bd W rows
    obtain ⟨a, ea⟩ : ∃ a, a = onImg (-1) partsN W rows := ⟨_, rfl⟩
    rw [← ea] at hob ⊢
    by_cases hneg : a < 0
    · clear ea
      go_wp2
      go_returns
      exact ⟨rfl, hW⟩
    · have hval : validB W rows = true := by
        cases hv : validB W rows with
        | true => rfl
        | false => rw [onImg_no hv] at ea; omega
      obtain ⟨n, ns, rfl, rfl, hV⟩ := validB_yes hval
      rw [onImg_yes hV] at ea
      rw [length_casts] at x1 hI ⊢
      have hm1 := parts_many hV
      have hm2 := parts_runs hV
      have hm3 := (parts_pos hV).trans (many_iff hV).symm
      have hm4 := runsS_le hV ns.length
      have h6 := hV.h6
      have hmb := mom1_bd hV
      obtain ⟨m, em⟩ : ∃ m, m = mom n ns one := ⟨_, rfl⟩
      have HE := Lib.hid em
      rw [← ea] at hm1 hm2 hm3
      rw [← em] at hm1 hm3 hmb
      obtain ⟨r, er⟩ : ∃ r, r = runsS ns ns.length := ⟨_, rfl⟩
      have HR := Lib.hid er
      rw [← er] at hm2 hm4
      clear ea em er
      have emx : (if (r : Int) > 0 then (r : Int) else 0) = r := by split <;> omega
      have HX := Lib.hid emx
      have ha0 : 0 ≤ a := by omega
      have hmn := hmb.1
      clear emx hob hmb
      by_cases hz : a = 0
      · have hm0 : m = 0 := by omega
        subst hz
        subst hm0
        by_cases hr : r = 0
        · subst hr
          go_wp2_with fail
          refine (ImageMany_c (n : Int) _ _ _ hI).mono ?_
          rintro e wc ⟨rfl, hb⟩
          replace hW := hW.trans (Below.mono hb hW.size)
          replace hI := (hI.below hb).more (Below.size hb)
          replace x0 := cellB hb x0
          replace x1 := cellB hb x1
          rw [val0_yes hV, ← HE.out]
          go_wp2_with fail
          refine (RunsMany_c n _ ns hV _ hI (hT.below hW)).mono ?_
          rintro e wc ⟨rfl, hb⟩
          replace hW := hW.trans (Below.mono hb hW.size)
          replace hI := (hI.below hb).more (Below.size hb)
          replace x0 := cellB hb x0
          replace x1 := cellB hb x1
          rw [← HR.out]
          have emx := HX.out
          go_wp2_with fail
          refine (ImageMany_c (n : Int) _ _ _ hI).mono ?_
          rintro e wc ⟨rfl, hb⟩
          replace hW := hW.trans (Below.mono hb hW.size)
          replace hI := (hI.below hb).more (Below.size hb)
          replace x0 := cellB hb x0
          replace x1 := cellB hb x1
          rw [val0_yes hV, ← HE.out]
          clear hm3 emx
          go_wp2
          go_returns
          exact ⟨rb (by simp), hW⟩
        · have hr0 : 0 < r := by omega
          go_wp2_with fail
          refine (ImageMany_c (n : Int) _ _ _ hI).mono ?_
          rintro e wc ⟨rfl, hb⟩
          replace hW := hW.trans (Below.mono hb hW.size)
          replace hI := (hI.below hb).more (Below.size hb)
          replace x0 := cellB hb x0
          replace x1 := cellB hb x1
          rw [val0_yes hV, ← HE.out]
          go_wp2_with fail
          refine (RunsMany_c n _ ns hV _ hI (hT.below hW)).mono ?_
          rintro e wc ⟨rfl, hb⟩
          replace hW := hW.trans (Below.mono hb hW.size)
          replace hI := (hI.below hb).more (Below.size hb)
          replace x0 := cellB hb x0
          replace x1 := cellB hb x1
          rw [← HR.out]
          have emx := HX.out
          go_wp2_with fail
          refine (ImageMany_c (n : Int) _ _ _ hI).mono ?_
          rintro e wc ⟨rfl, hb⟩
          replace hW := hW.trans (Below.mono hb hW.size)
          replace hI := (hI.below hb).more (Below.size hb)
          replace x0 := cellB hb x0
          replace x1 := cellB hb x1
          rw [val0_yes hV, ← HE.out]
          clear hm3 emx
          go_wp2
          go_returns
          exact ⟨rb (by simp), hW⟩
      · have hm0 : ¬ m = 0 := by omega
        go_wp2_with fail
        refine (ImageMany_c (n : Int) _ _ _ hI).mono ?_
        rintro e wc ⟨rfl, hb⟩
        replace hW := hW.trans (Below.mono hb hW.size)
        replace hI := (hI.below hb).more (Below.size hb)
        replace x0 := cellB hb x0
        replace x1 := cellB hb x1
        rw [val0_yes hV, ← HE.out]
        go_wp2_with fail
        refine (RunsMany_c n _ ns hV _ hI (hT.below hW)).mono ?_
        rintro e wc ⟨rfl, hb⟩
        replace hW := hW.trans (Below.mono hb hW.size)
        replace hI := (hI.below hb).more (Below.size hb)
        replace x0 := cellB hb x0
        replace x1 := cellB hb x1
        rw [← HR.out]
        have emx := HX.out
        go_wp2_with fail
        refine (ImageMany_c (n : Int) _ _ _ hI).mono ?_
        rintro e wc ⟨rfl, hb⟩
        replace hW := hW.trans (Below.mono hb hW.size)
        replace hI := (hI.below hb).more (Below.size hb)
        replace x0 := cellB hb x0
        replace x1 := cellB hb x1
        rw [val0_yes hV, ← HE.out]
        clear hm3 emx
        go_wp2
        go_returns
        exact ⟨rb (by have e1 : (a == 0) = false := (by simpa using hz); have e2 : (m == 0) = false := (by simpa using hm0); simp [e1, e2]), hW⟩
end Go.Proofs.YtbblbdacdpokeaaDoor
