/- The law that a filled image has no holes: it returns true at whatever code. Conditions: the code's slice can be read. -/
import Derived.Test.YtbblbdacdpokeaaPF2
import Derived.Test.YtbblbdacdpokeaaPF3
import Derived.Test.YtbblbdacdpokeaaPF4
import Derived.Test.YtbblbdacdpokeaaLPart
namespace Go.Proofs.Ytbblbdacdpokeaa
open Go.RowKit
open Gr
set_option maxRecDepth 100000 in
set_option maxHeartbeats 4000000 in
theorem fill_walk (A : Option Addr) (len cap : Nat) (hlc : len ≤ cap) (w : World) (hc : Code8 w w.heap.size A len) :
    Calls Try.prog 11 #[.slice A len cap] w fun e w' => e = .returned (.bool true) ∧ Below w.heap.size w w' := by
  by_cases hbig : 1048576 < len
  · go_enter Try.func11, Try.ntmps11
    go_wp2
    go_returns
    exact ⟨rfl, Below.refl _ _⟩
  · go_enter Try.func11, Try.ntmps11
    go_wp2_with fail
    refine (DrawImageFill_c A len cap hlc w hc).mono ?_
    rintro e wc ⟨W, v, rows, rfl, hI, hl6, hW⟩
    obtain ⟨B, cp, rfl⟩ := hI.len
    obtain ⟨W1, e_W1⟩ : ∃ W0, W0 = World.alloc wc (.cells #[.int .i64 W, .slice B rows.length cp] 27) := ⟨_, rfl⟩
    have hx_W1 := Box2.new wc (.int .i64 W) (.slice B rows.length cp) 27
    have hb_W1 : Below (World.heap wc).size wc W1 := by rw [e_W1]; go_grown
    replace hW := hW.trans (Below.mono hb_W1 hW.size)
    replace hI := (hI.below hb_W1).more (Below.size hb_W1)
    have HE_W1 := Lib.hid e_W1
    clear e_W1
    go_wp2_with fail
    rw [← HE_W1.out] at hx_W1 ⊢
    clear HE_W1
    obtain ⟨hl_x, x0, x1⟩ := hx_W1
    obtain ⟨Bx, e_Bx⟩ : ∃ Bx, Bx = (World.heap wc).size := ⟨_, rfl⟩
    rw [← e_Bx] at hl_x x0 x1 hb_W1  ⊢
    have hz_Bx := hb_W1.size
    clear e_Bx hb_W1
    cases hval : validB W rows with
    | false =>
      refine (ImageFill_no W _ rows hval W1 hI).mono ?_
      rintro e wc ⟨rfl, hb⟩
      replace hW := hW.trans (Below.mono hb hW.size)
      replace hI := (hI.below hb).more (Below.size hb)
      replace x0 := cellB hb x0
      replace x1 := cellB hb x1
      obtain ⟨W3, e_W3⟩ : ∃ W0, W0 = World.alloc wc (.cells #[.int .i64 0, .slice none 0 0] 27) := ⟨_, rfl⟩
      have hx_W3 := Box2.new wc (.int .i64 0) (.slice none 0 0) 27
      have hb_W3 : Below (World.heap wc).size wc W3 := by rw [e_W3]; go_grown
      replace hW := hW.trans (Below.mono hb_W3 hW.size)
      replace hI := (hI.below hb_W3).more (Below.size hb_W3)
      replace x0 := cellB hb_W3 x0
      replace x1 := cellB hb_W3 x1
      have x0r := x0
      rw [e_W3] at x0r
      have x1r := x1
      rw [e_W3] at x1r
      have HE_W3 := Lib.hid e_W3
      clear e_W3
      go_wp2_with fail
      rw [← HE_W3.out] at hx_W3 ⊢
      clear x0r x1r
      clear HE_W3
      obtain ⟨hl_y, y0, y1⟩ := hx_W3
      obtain ⟨By, e_By⟩ : ∃ Bx, Bx = (World.heap wc).size := ⟨_, rfl⟩
      rw [← e_By] at hl_y y0 y1 hb_W3  ⊢
      have hz_By := hb_W3.size
      clear e_By hb_W3
      refine (sImageFill_no W _ rows hval W3 hI).mono ?_
      rintro e wc ⟨rfl, hb⟩
      replace hW := hW.trans (Below.mono hb hW.size)
      replace hI := (hI.below hb).more (Below.size hb)
      replace x0 := cellB hb x0
      replace x1 := cellB hb x1
      replace y0 := cellB hb y0
      replace y1 := cellB hb y1
      clear hval
      obtain ⟨W5, e_W5⟩ : ∃ W0, W0 = World.alloc wc (.cells #[.int .i64 0, .slice none 0 0] 27) := ⟨_, rfl⟩
      have hx_W5 := Box2.new wc (.int .i64 0) (.slice none 0 0) 27
      have hb_W5 : Below (World.heap wc).size wc W5 := by rw [e_W5]; go_grown
      replace hW := hW.trans (Below.mono hb_W5 hW.size)
      replace hI := (hI.below hb_W5).more (Below.size hb_W5)
      replace x0 := cellB hb_W5 x0
      replace x1 := cellB hb_W5 x1
      replace y0 := cellB hb_W5 y0
      replace y1 := cellB hb_W5 y1
      have y0r := y0
      rw [e_W5] at y0r
      have y1r := y1
      rw [e_W5] at y1r
      have HE_W5 := Lib.hid e_W5
      clear e_W5
      go_wp2_with fail
      rw [← HE_W5.out] at hx_W5 ⊢
      clear y0r y1r
      clear HE_W5
      obtain ⟨hl_z, z0, z1⟩ := hx_W5
      obtain ⟨Bz, e_Bz⟩ : ∃ Bx, Bx = (World.heap wc).size := ⟨_, rfl⟩
      rw [← e_Bz] at hl_z z0 z1 hb_W5  ⊢
      have hz_Bz := hb_W5.size
      clear e_Bz hb_W5
      refine (sameImage_c 0 0 _ _ [] [] (by simp) W5 (.inl ⟨rfl, none, 0, rfl⟩) (.inl ⟨rfl, none, 0, rfl⟩)).mono ?_
      rintro e wc ⟨rfl, hb⟩
      replace hW := hW.trans (Below.mono hb hW.size)
      replace hI := (hI.below hb).more (Below.size hb)
      replace x0 := cellB hb x0
      replace x1 := cellB hb x1
      replace y0 := cellB hb y0
      replace y1 := cellB hb y1
      replace z0 := cellB hb z0
      replace z1 := cellB hb z1
      simp only [decide_true, and_self]
      go_wp2_with fail
      refine (sameImage_c 0 0 _ _ [] [] (by simp) _ (.inl ⟨rfl, none, 0, rfl⟩) (.inl ⟨rfl, none, 0, rfl⟩)).mono ?_
      rintro e wc ⟨rfl, hb⟩
      replace hW := hW.trans (Below.mono hb hW.size)
      replace hI := (hI.below hb).more (Below.size hb)
      replace x0 := cellB hb x0
      replace x1 := cellB hb x1
      replace y0 := cellB hb y0
      replace y1 := cellB hb y1
      replace z0 := cellB hb z0
      replace z1 := cellB hb z1
      simp only [decide_true, and_self]
      go_wp2
      go_returns
      exact ⟨rfl, hW⟩
    | true =>
      obtain ⟨n, ns, rfl, rfl, hV⟩ := validB_yes hval
      rw [length_casts] at x1 hI ⊢
      have h1 := hV.h1
      have h6 := hV.h6
      have w1 := hV.w1
      have w6 := hV.w6
      have hms : VImg n (fillL n ns) := vimg_fill hV
      have hml : (fillL n ns).length = ns.length := length_fill
      have HF := Lib.hid (fill_fill hV)
      have HH := Lib.hid (fill_holes hV)
      have HCF := Lib.hid (fun i j => cell_fill (n := n) (ns := ns) i j)
      refine (ImageFill_yes n _ ns hV W1 hI).mono ?_
      rintro e wc ⟨g, c, rfl, hg, hr, hb⟩
      rw [hml]
      clear hval
      replace hW := hW.trans (Below.mono hb hW.size)
      replace hI := (hI.below hb).more (Below.size hb)
      replace x0 := cellB hb x0
      replace x1 := cellB hb x1
      obtain ⟨W3, e_W3⟩ : ∃ W0, W0 = World.alloc wc (.cells #[.int .i64 (n : Int), .slice (some ⟨g, 0, none⟩) ns.length c] 27) := ⟨_, rfl⟩
      have hx_W3 := Box2.new wc (.int .i64 (n : Int)) (.slice (some ⟨g, 0, none⟩) ns.length c) 27
      have hb_W3 : Below (World.heap wc).size wc W3 := by rw [e_W3]; go_grown
      replace hW := hW.trans (Below.mono hb_W3 hW.size)
      replace hI := (hI.below hb_W3).more (Below.size hb_W3)
      replace x0 := cellB hb_W3 x0
      replace x1 := cellB hb_W3 x1
      replace hr := hr.below hb_W3 hr.lt
      have x0r := x0
      rw [e_W3] at x0r
      have x1r := x1
      rw [e_W3] at x1r
      have HE_W3 := Lib.hid e_W3
      clear e_W3
      go_wp2_with fail
      rw [← HE_W3.out] at hx_W3 ⊢
      clear x0r x1r
      clear HE_W3
      obtain ⟨hl_y, y0, y1⟩ := hx_W3
      obtain ⟨By, e_By⟩ : ∃ Bx, Bx = (World.heap wc).size := ⟨_, rfl⟩
      rw [← e_By] at hl_y y0 y1 hb_W3  ⊢
      have hz_By := hb_W3.size
      clear e_By hb_W3
      refine (sImageFill_yes n _ ns hV W3 hI).mono ?_
      rintro e wc ⟨g', c', rfl, hg', hr', hb⟩
      rw [hml]
      replace hW := hW.trans (Below.mono hb hW.size)
      replace hI := (hI.below hb).more (Below.size hb)
      replace x0 := cellB hb x0
      replace x1 := cellB hb x1
      replace hr := hr.below hb hr.lt
      replace y0 := cellB hb y0
      replace y1 := cellB hb y1
      obtain ⟨W5, e_W5⟩ : ∃ W0, W0 = World.alloc wc (.cells #[.int .i64 (n : Int), .slice (some ⟨g', 0, none⟩) ns.length c'] 27) := ⟨_, rfl⟩
      have hx_W5 := Box2.new wc (.int .i64 (n : Int)) (.slice (some ⟨g', 0, none⟩) ns.length c') 27
      have hb_W5 : Below (World.heap wc).size wc W5 := by rw [e_W5]; go_grown
      replace hW := hW.trans (Below.mono hb_W5 hW.size)
      replace hI := (hI.below hb_W5).more (Below.size hb_W5)
      replace x0 := cellB hb_W5 x0
      replace x1 := cellB hb_W5 x1
      replace hr := hr.below hb_W5 hr.lt
      replace y0 := cellB hb_W5 y0
      replace y1 := cellB hb_W5 y1
      replace hr' := hr'.below hb_W5 hr'.lt
      have x0r := x0
      rw [e_W5] at x0r
      have x1r := x1
      rw [e_W5] at x1r
      have y0r := y0
      rw [e_W5] at y0r
      have y1r := y1
      rw [e_W5] at y1r
      have HE_W5 := Lib.hid e_W5
      clear e_W5
      go_wp2_with fail
      rw [← HE_W5.out] at hx_W5 ⊢
      clear x0r x1r y0r y1r
      clear HE_W5
      obtain ⟨hl_z, z0, z1⟩ := hx_W5
      obtain ⟨Bz, e_Bz⟩ : ∃ Bx, Bx = (World.heap wc).size := ⟨_, rfl⟩
      rw [← e_Bz] at hl_z z0 z1 hb_W5  ⊢
      have hz_Bz := hb_W5.size
      clear e_Bz hb_W5
      refine (sameImage_c (n : Int) n _ _ (casts (fillL n ns)) (casts (fillL n ns)) (by rw [length_casts, hml]; omega) W5 (hr.intsH hml) (hr'.intsH hml)).mono ?_
      rintro e wc ⟨rfl, hb⟩
      replace hW := hW.trans (Below.mono hb hW.size)
      replace hI := (hI.below hb).more (Below.size hb)
      replace x0 := cellB hb x0
      replace x1 := cellB hb x1
      replace hr := hr.below hb hr.lt
      replace y0 := cellB hb y0
      replace y1 := cellB hb y1
      replace hr' := hr'.below hb hr'.lt
      replace z0 := cellB hb z0
      replace z1 := cellB hb z1
      simp only [decide_true, and_self]
      clear hr' z0 z1
      go_wp2_with fail
      go_loopw [8] (fun s wr => ∃ k : Nat, k ≤ ns.length ∧ s = .int .i64 k ∧ Below w.heap.size w wr ∧ Ints wr.heap.size wr (.slice B ns.length cp) (casts ns) ∧ Row wr g (casts (fillL n ns)) ∧ (wr.cell? ⟨Bx, 0, none⟩ = some (.int .i64 (n : Int)) ∧ wr.cell? ⟨Bx, 1, none⟩ = some (.slice B ns.length cp)) ∧ wr.cell? ⟨By, 0, none⟩ = some (.int .i64 (n : Int)) ∧ wr.cell? ⟨By, 1, none⟩ = some (.slice (some ⟨g, 0, none⟩) ns.length c)) (fun s _ => ns.length - (intOf s).toNat)
      case atStart => exact ⟨0, by omega, rfl, hW, hI, hr, ⟨x0, x1⟩, y0, y1⟩
      case round =>
        clear hW hI hr x0 x1 y0 y1
        obtain ⟨k, hk, rfl, hW, hI, hr, ⟨x0, x1⟩, y0, y1⟩ := hrel
        by_cases hkl : k < ns.length
        · have hki : ((k : Int) < (ns.length : Int)) := by omega
          go_wp2_with fail
          go_loopw [9] (fun s wr => ∃ l : Nat, l ≤ n ∧ s = .int .i64 l ∧ Below w.heap.size w wr ∧ Ints wr.heap.size wr (.slice B ns.length cp) (casts ns) ∧ Row wr g (casts (fillL n ns)) ∧ (wr.cell? ⟨Bx, 0, none⟩ = some (.int .i64 (n : Int)) ∧ wr.cell? ⟨Bx, 1, none⟩ = some (.slice B ns.length cp)) ∧ wr.cell? ⟨By, 0, none⟩ = some (.int .i64 (n : Int)) ∧ wr.cell? ⟨By, 1, none⟩ = some (.slice (some ⟨g, 0, none⟩) ns.length c)) (fun s _ => n - (intOf s).toNat)
          case atStart => exact ⟨0, by omega, rfl, hW, hI, hr, ⟨x0, x1⟩, y0, y1⟩
          case round =>
            clear hW hI hr x0 x1 y0 y1
            obtain ⟨l, hl, rfl, hW, hI, hr, ⟨x0, x1⟩, y0, y1⟩ := hrel
            by_cases hll : l < n
            · skip
              have hcf := HCF.out k l
              simp only [hkl, hll, decide_true, Bool.true_and] at hcf
              go_wp2_with fail
              refine (ImageHas_v n _ ns hV k l _ hI).mono ?_
              rintro e wc ⟨rfl, hb⟩
              replace hW := hW.trans (Below.mono hb hW.size)
              replace hI := (hI.below hb).more (Below.size hb)
              replace hr := hr.below hb hr.lt
              replace x0 := cellB hb x0
              replace x1 := cellB hb x1
              replace y0 := cellB hb y0
              replace y1 := cellB hb y1
              rw [cellZ_nat]
              cases hcc : cell ns k l with
              | false =>
                clear hcf hcc
                go_wp2
                go_roundw
                case rel => exact ⟨l + 1, by omega, by go_num, hW, hI, hr, ⟨x0, x1⟩, y0, y1⟩
                case measure => simp [intOf]; omega
              | true =>
                rw [hcc, Bool.true_or] at hcf
                have HC := Lib.hid hcf
                clear hcf hcc
                go_wp2_with fail
                refine (ImageHas_v n _ (fillL n ns) hms k l _ (hr.intsH (c := c) hml)).mono ?_
                rintro e wc ⟨rfl, hb⟩
                replace hW := hW.trans (Below.mono hb hW.size)
                replace hI := (hI.below hb).more (Below.size hb)
                replace hr := hr.below hb hr.lt
                replace x0 := cellB hb x0
                replace x1 := cellB hb x1
                replace y0 := cellB hb y0
                replace y1 := cellB hb y1
                rw [cellZ_nat, HC.out]
                go_wp2
                go_roundw
                case rel => exact ⟨l + 1, by omega, by go_num, hW, hI, hr, ⟨x0, x1⟩, y0, y1⟩
                case measure => simp [intOf]; omega
            · go_wp2
              go_roundw
              case rel => exact ⟨k + 1, by omega, by go_num, hW, hI, hr, ⟨x0, x1⟩, y0, y1⟩
              case measure => simp [intOf]; omega
        · skip
          go_wp2_with fail
          refine (ImageFill_yes n _ (fillL n ns) hms _ (hr.intsH (c := c) hml)).mono ?_
          rintro e wc ⟨g2, c2, rfl, hg2, hr2, hb⟩
          rw [HF.out] at hr2 ⊢
          rw [hml]
          replace hW := hW.trans (Below.mono hb hW.size)
          replace hI := (hI.below hb).more (Below.size hb)
          replace hr := hr.below hb hr.lt
          replace x0 := cellB hb x0
          replace x1 := cellB hb x1
          replace y0 := cellB hb y0
          replace y1 := cellB hb y1
          obtain ⟨W6, e_W6⟩ : ∃ W0, W0 = World.alloc wc (.cells #[.int .i64 (n : Int), .slice (some ⟨g2, 0, none⟩) ns.length c2] 27) := ⟨_, rfl⟩
          have hx_W6 := Box2.new wc (.int .i64 (n : Int)) (.slice (some ⟨g2, 0, none⟩) ns.length c2) 27
          have hb_W6 : Below (World.heap wc).size wc W6 := by rw [e_W6]; go_grown
          replace hW := hW.trans (Below.mono hb_W6 hW.size)
          replace hI := (hI.below hb_W6).more (Below.size hb_W6)
          replace hr := hr.below hb_W6 hr.lt
          replace x0 := cellB hb_W6 x0
          replace x1 := cellB hb_W6 x1
          replace y0 := cellB hb_W6 y0
          replace y1 := cellB hb_W6 y1
          replace hr2 := hr2.below hb_W6 hr2.lt
          have y0r := y0
          rw [e_W6] at y0r
          have y1r := y1
          rw [e_W6] at y1r
          have HE_W6 := Lib.hid e_W6
          clear e_W6
          go_wp2_with fail
          rw [← HE_W6.out] at hx_W6 ⊢
          clear y0r y1r
          clear HE_W6
          obtain ⟨hl_u, u0, u1⟩ := hx_W6
          obtain ⟨Bu, e_Bu⟩ : ∃ Bx, Bx = (World.heap wc).size := ⟨_, rfl⟩
          rw [← e_Bu] at hl_u u0 u1 hb_W6  ⊢
          have hz_Bu := hb_W6.size
          clear e_Bu hb_W6
          refine (sameImage_c (n : Int) n _ _ (casts (fillL n ns)) (casts (fillL n ns)) (by rw [length_casts, hml]; omega) W6 (hr2.intsH hml) (hr.intsH hml)).mono ?_
          rintro e wc ⟨rfl, hb⟩
          replace hW := hW.trans (Below.mono hb hW.size)
          replace hI := (hI.below hb).more (Below.size hb)
          replace hr := hr.below hb hr.lt
          replace x0 := cellB hb x0
          replace x1 := cellB hb x1
          replace y0 := cellB hb y0
          replace y1 := cellB hb y1
          replace hr2 := hr2.below hb hr2.lt
          replace u0 := cellB hb u0
          replace u1 := cellB hb u1
          simp only [decide_true, and_self]
          go_wp2_with fail
          refine (ImageHoles_c (n : Int) _ (casts (fillL n ns)) _ (hr.intsH (c := c) hml)).mono ?_
          rintro e wc ⟨rfl, hb⟩
          replace hW := hW.trans (Below.mono hb hW.size)
          replace hI := (hI.below hb).more (Below.size hb)
          replace hr := hr.below hb hr.lt
          replace x0 := cellB hb x0
          replace x1 := cellB hb x1
          replace y0 := cellB hb y0
          replace y1 := cellB hb y1
          replace hr2 := hr2.below hb hr2.lt
          replace u0 := cellB hb u0
          replace u1 := cellB hb u1
          rw [onImg_yes hms, HH.out]
          go_wp2
          go_returns
          exact ⟨rfl, hW⟩
end Go.Proofs.Ytbblbdacdpokeaa
