/- The law that a part is one part: it returns true at whatever code. Conditions: the code's slice can be read. -/
import Derived.Test.YtbblbdacdpokeaaPI3
import Derived.Test.YtbblbdacdpokeaaPD4
import Derived.Test.YtbblbdacdpokeaaPartsLaw
import Derived.Test.YtbblbdacdpokeaaK6
namespace Go.Proofs.Ytbblbdacdpokeaa
open Go.RowKit
open Gr
theorem cellZ_set {ns : List Nat} {i j : Int} (h : cellZ ns i j = true) : ∃ a b : Nat, i = a ∧ j = b ∧ cell ns a b = true := by
  simp only [cellZ, Bool.and_eq_true, decide_eq_true_eq] at h
  exact ⟨i.toNat, j.toNat, by omega, by omega, h.2⟩
/-- A part is closed: beside a cell of it no other set cell. -/
theorem part_closed {n : Nat} {ns ms : List Nat} (hV : VImg n ns) {a b : Nat} (hc : cell ns a b = true) (hm : ms = compL (cell ns) false ns.length n (a, b)) {k l : Nat} {k' l' : Int} (hadj : (k' = k ∧ l' = l + 1) ∨ (k' = k + 1 ∧ l' = l)) (h1 : cellZ ns k l = true) (h2 : cellZ ns k' l' = true) : cellZ ms k' l' = cellZ ms k l := by
  obtain ⟨x, y, rfl, rfl, h2⟩ := cellZ_set h2
  rw [cellZ_nat] at h1
  rw [cellZ_nat, cellZ_nat, hm, Bool.eq_iff_iff, cell_comp (sized_img hV).inside hc, cell_comp (sized_img hV).inside hc]
  have ha : Adj false k l x y := by
    unfold Adj
    rcases hadj with ⟨e1, e2⟩ | ⟨e1, e2⟩
    · exact ⟨by omega, by omega, by omega, by omega, .inr (.inl (by omega))⟩
    · exact ⟨by omega, by omega, by omega, by omega, .inr (.inr (by omega))⟩
  exact ⟨fun h => h.step ha.symm h1, fun h => h.step ha h2⟩
theorem part_sub {n : Nat} {ns ms : List Nat} (hV : VImg n ns) {a b : Nat} (hc : cell ns a b = true) (hm : ms = compL (cell ns) false ns.length n (a, b)) {k l : Nat} (h : cellZ ms k l = true) : cellZ ns k l = true := by
  rw [cellZ_nat] at h ⊢
  rw [hm, cell_comp (sized_img hV).inside hc] at h
  exact h.mem hc
/-- What the cells beside (k, l) can be. -/
theorem part_cases {n : Nat} {ns ms : List Nat} (hV : VImg n ns) {a b : Nat} (hc : cell ns a b = true) (hm : ms = compL (cell ns) false ns.length n (a, b)) (k l : Nat) :
    (cellZ ms k l = false ∧ cellZ ns k l = false) ∨ (cellZ ms k l = false ∧ cellZ ns k l = true ∧ cellZ ms k ((l : Int) + 1) = false ∧ cellZ ms ((k : Int) + 1) l = false) ∨
    (cellZ ms k l = true ∧ cellZ ns k l = true ∧ (cellZ ms k ((l : Int) + 1) = true ∨ (cellZ ms k ((l : Int) + 1) = false ∧ cellZ ns k ((l : Int) + 1) = false)) ∧ (cellZ ms ((k : Int) + 1) l = true ∨ (cellZ ms ((k : Int) + 1) l = false ∧ cellZ ns ((k : Int) + 1) l = false))) := by
  have c1 := part_closed (k := k) (l := l) (k' := (k : Int)) (l' := (l : Int) + 1) hV hc hm (.inl ⟨rfl, rfl⟩)
  have c2 := part_closed (k := k) (l := l) (k' := (k : Int) + 1) (l' := (l : Int)) hV hc hm (.inr ⟨rfl, rfl⟩)
  have s0 := part_sub (k := k) (l := l) hV hc hm
  have s1 := part_sub (k := k) (l := l + 1) hV hc hm
  have s2 := part_sub (k := k + 1) (l := l) hV hc hm
  rw [show ((l + 1 : Nat) : Int) = (l : Int) + 1 from rfl] at s1
  rw [show ((k + 1 : Nat) : Int) = (k : Int) + 1 from rfl] at s2
  generalize cellZ ms k l = p at *
  generalize cellZ ns k l = q at *
  generalize cellZ ms k ((l : Int) + 1) = r at *
  generalize cellZ ns k ((l : Int) + 1) = s at *
  generalize cellZ ms ((k : Int) + 1) l = t at *
  generalize cellZ ns ((k : Int) + 1) l = u at *
  clear hV hc hm
  clear ns ms a b k l n
  cases p <;> cases q <;> cases r <;> cases s <;> cases t <;> cases u <;> first | (exfalso; simp at c1 c2 s0 s1 s2; done) | simp
theorem part_here {n : Nat} {ns ms : List Nat} (hV : VImg n ns) {a b : Nat} (hc : cell ns a b = true) (hm : ms = compL (cell ns) false ns.length n (a, b)) : cellZ ms a b = true := by
  rw [cellZ_nat, hm, cell_comp (sized_img hV).inside hc]
  exact .refl
theorem part_one {n : Nat} {ns ms : List Nat} (hV : VImg n ns) {a b : Nat} (hc : cell ns a b = true) (hm : ms = compL (cell ns) false ns.length n (a, b)) : partsN n ms = 1 := by
  have := firsts_comp (near := false) (sized_img hV).inside (c := (a, b)) hc
  unfold partsN partsL
  rw [hm, length_comp, this]
  rfl
set_option maxRecDepth 100000 in
set_option maxHeartbeats 4000000 in
theorem part_walk (A : Option Addr) (len cap : Nat) (hlc : len ≤ cap) (w : World) (hc : Code8 w w.heap.size A len) :
    Calls Try.prog 5 #[.slice A len cap] w fun e w' => e = .returned (.bool true) ∧ Below w.heap.size w w' := by
  by_cases hbig : 1048576 < len
  · go_enter Try.func5, Try.ntmps5
    go_wp2
    go_returns
    exact ⟨rfl, Below.refl _ _⟩
  · go_enter Try.func5, Try.ntmps5
    go_wp2_with fail
    refine (DrawImagePart_c A len cap hlc w hc).mono ?_
    rintro e wc ⟨W, v, rows, i, j, rfl, hI, hl6, hW⟩
    obtain ⟨B, cp, rfl⟩ := hI.len
    obtain ⟨W1, e_W1⟩ : ∃ W0, W0 = World.alloc wc (.cells #[.int .i64 W, .slice B rows.length cp] 27) := ⟨_, rfl⟩
    have hx_W1 := Box2.new wc (.int .i64 W) (.slice B rows.length cp) 27
    have hb_W1 : Below (World.heap wc).size wc W1 := by rw [e_W1]; go_grown
    replace hW := hW.trans (Below.mono hb_W1 hW.size)
    replace hI := (hI.below hb_W1).more (Below.size hb_W1)
    have HE_W1 := Lib.hid e_W1
    clear e_W1
    go_wp2_with fail
    rw [← HE_W1.out] at hx_W1 ⊢
    clear HE_W1
    obtain ⟨hl_x, x0, x1⟩ := hx_W1
    obtain ⟨Bx, e_Bx⟩ : ∃ Bx, Bx = (World.heap wc).size := ⟨_, rfl⟩
    rw [← e_Bx] at hl_x x0 x1 hb_W1  ⊢
    have hz_Bx := hb_W1.size
    clear e_Bx hb_W1
    cases hhas : hasZ W rows i j with
    | false =>
      refine (ImagePart_no W _ rows i j hhas W1 hI).mono ?_
      rintro e wc ⟨rfl, hb⟩
      replace hW := hW.trans (Below.mono hb hW.size)
      replace hI := (hI.below hb).more (Below.size hb)
      replace x0 := cellB hb x0
      replace x1 := cellB hb x1
      obtain ⟨W3, e_W3⟩ : ∃ W0, W0 = World.alloc wc (.cells #[.int .i64 0, .slice none 0 0] 27) := ⟨_, rfl⟩
      have hx_W3 := Box2.new wc (.int .i64 0) (.slice none 0 0) 27
      have hb_W3 : Below (World.heap wc).size wc W3 := by rw [e_W3]; go_grown
      replace hW := hW.trans (Below.mono hb_W3 hW.size)
      replace hI := (hI.below hb_W3).more (Below.size hb_W3)
      replace x0 := cellB hb_W3 x0
      replace x1 := cellB hb_W3 x1
      have x0r := x0
      rw [e_W3] at x0r
      have x1r := x1
      rw [e_W3] at x1r
      have HE_W3 := Lib.hid e_W3
      clear e_W3
      go_wp2_with fail
      rw [← HE_W3.out] at hx_W3 ⊢
      clear x0r x1r
      clear HE_W3
      obtain ⟨hl_y, y0, y1⟩ := hx_W3
      obtain ⟨By, e_By⟩ : ∃ Bx, Bx = (World.heap wc).size := ⟨_, rfl⟩
      rw [← e_By] at hl_y y0 y1 hb_W3  ⊢
      have hz_By := hb_W3.size
      clear e_By hb_W3
      refine (sImagePart_no W _ rows i j hhas W3 hI).mono ?_
      rintro e wc ⟨rfl, hb⟩
      replace hW := hW.trans (Below.mono hb hW.size)
      replace hI := (hI.below hb).more (Below.size hb)
      replace x0 := cellB hb x0
      replace x1 := cellB hb x1
      replace y0 := cellB hb y0
      replace y1 := cellB hb y1
      clear hhas
      obtain ⟨W5, e_W5⟩ : ∃ W0, W0 = World.alloc wc (.cells #[.int .i64 0, .slice none 0 0] 27) := ⟨_, rfl⟩
      have hx_W5 := Box2.new wc (.int .i64 0) (.slice none 0 0) 27
      have hb_W5 : Below (World.heap wc).size wc W5 := by rw [e_W5]; go_grown
      replace hW := hW.trans (Below.mono hb_W5 hW.size)
      replace hI := (hI.below hb_W5).more (Below.size hb_W5)
      replace x0 := cellB hb_W5 x0
      replace x1 := cellB hb_W5 x1
      replace y0 := cellB hb_W5 y0
      replace y1 := cellB hb_W5 y1
      have y0r := y0
      rw [e_W5] at y0r
      have y1r := y1
      rw [e_W5] at y1r
      have HE_W5 := Lib.hid e_W5
      clear e_W5
      go_wp2_with fail
      rw [← HE_W5.out] at hx_W5 ⊢
      clear y0r y1r
      clear HE_W5
      obtain ⟨hl_z, z0, z1⟩ := hx_W5
      obtain ⟨Bz, e_Bz⟩ : ∃ Bx, Bx = (World.heap wc).size := ⟨_, rfl⟩
      rw [← e_Bz] at hl_z z0 z1 hb_W5  ⊢
      have hz_Bz := hb_W5.size
      clear e_Bz hb_W5
      refine (sameImage_c 0 0 _ _ [] [] (by simp) W5 (.inl ⟨rfl, none, 0, rfl⟩) (.inl ⟨rfl, none, 0, rfl⟩)).mono ?_
      rintro e wc ⟨rfl, hb⟩
      replace hW := hW.trans (Below.mono hb hW.size)
      replace hI := (hI.below hb).more (Below.size hb)
      replace x0 := cellB hb x0
      replace x1 := cellB hb x1
      replace y0 := cellB hb y0
      replace y1 := cellB hb y1
      replace z0 := cellB hb z0
      replace z1 := cellB hb z1
      simp only [decide_true, and_self]
      go_wp2_with fail
      refine (sameImage_c 0 0 _ _ [] [] (by simp) _ (.inl ⟨rfl, none, 0, rfl⟩) (.inl ⟨rfl, none, 0, rfl⟩)).mono ?_
      rintro e wc ⟨rfl, hb⟩
      replace hW := hW.trans (Below.mono hb hW.size)
      replace hI := (hI.below hb).more (Below.size hb)
      replace x0 := cellB hb x0
      replace x1 := cellB hb x1
      replace y0 := cellB hb y0
      replace y1 := cellB hb y1
      replace z0 := cellB hb z0
      replace z1 := cellB hb z1
      simp only [decide_true, and_self]
      go_wp2
      go_returns
      exact ⟨rfl, hW⟩
    | true =>
      obtain ⟨n, ns, a, b, rfl, rfl, rfl, rfl, hV, ha, hb', hc'⟩ := hasZ_yes hhas
      rw [length_casts] at x1 hI ⊢
      have h1 := hV.h1
      have h6 := hV.h6
      have w1 := hV.w1
      have w6 := hV.w6
      have hms : VImg n (compL (cell ns) false ns.length n (a, b)) := Sized.vimg sized_mk h1 h6 w1 w6
      have hml : (compL (cell ns) false ns.length n (a, b)).length = ns.length := length_comp _
      have HC := Lib.hid hc'
      have G1 := ImagePart_yes n _ ns hV a b hc' W1 hI
      have G2 := fun W h => sImagePart_yes n (.slice B ns.length cp) ns hV a b hc' W h
      obtain ⟨ms, em⟩ : ∃ ms, ms = compL (cell ns) false ns.length n (a, b) := ⟨_, rfl⟩
      rw [← em] at hms hml G1
      simp only [← em] at G2
      have HM := Lib.hid em
      have HML := Lib.hid hml
      clear hhas hc' em hml
      refine G1.mono ?_
      rintro e wc ⟨g, c, rfl, hg, hr, hb⟩
      rw [HML.out]
      clear G1
      replace hW := hW.trans (Below.mono hb hW.size)
      replace hI := (hI.below hb).more (Below.size hb)
      replace x0 := cellB hb x0
      replace x1 := cellB hb x1
      obtain ⟨W3, e_W3⟩ : ∃ W0, W0 = World.alloc wc (.cells #[.int .i64 (n : Int), .slice (some ⟨g, 0, none⟩) ns.length c] 27) := ⟨_, rfl⟩
      have hx_W3 := Box2.new wc (.int .i64 (n : Int)) (.slice (some ⟨g, 0, none⟩) ns.length c) 27
      have hb_W3 : Below (World.heap wc).size wc W3 := by rw [e_W3]; go_grown
      replace hW := hW.trans (Below.mono hb_W3 hW.size)
      replace hI := (hI.below hb_W3).more (Below.size hb_W3)
      replace x0 := cellB hb_W3 x0
      replace x1 := cellB hb_W3 x1
      replace hr := hr.below hb_W3 hr.lt
      have x0r := x0
      rw [e_W3] at x0r
      have x1r := x1
      rw [e_W3] at x1r
      have HE_W3 := Lib.hid e_W3
      clear e_W3
      go_wp2_with fail
      rw [← HE_W3.out] at hx_W3 ⊢
      clear x0r x1r
      clear HE_W3
      obtain ⟨hl_y, y0, y1⟩ := hx_W3
      obtain ⟨By, e_By⟩ : ∃ Bx, Bx = (World.heap wc).size := ⟨_, rfl⟩
      rw [← e_By] at hl_y y0 y1 hb_W3  ⊢
      have hz_By := hb_W3.size
      clear e_By hb_W3
      refine (G2 W3 hI).mono ?_
      rintro e wc ⟨g', c', rfl, hg', hr', hb⟩
      rw [HML.out]
      clear G2
      replace hW := hW.trans (Below.mono hb hW.size)
      replace hI := (hI.below hb).more (Below.size hb)
      replace x0 := cellB hb x0
      replace x1 := cellB hb x1
      replace hr := hr.below hb hr.lt
      replace y0 := cellB hb y0
      replace y1 := cellB hb y1
      obtain ⟨W5, e_W5⟩ : ∃ W0, W0 = World.alloc wc (.cells #[.int .i64 (n : Int), .slice (some ⟨g', 0, none⟩) ns.length c'] 27) := ⟨_, rfl⟩
      have hx_W5 := Box2.new wc (.int .i64 (n : Int)) (.slice (some ⟨g', 0, none⟩) ns.length c') 27
      have hb_W5 : Below (World.heap wc).size wc W5 := by rw [e_W5]; go_grown
      replace hW := hW.trans (Below.mono hb_W5 hW.size)
      replace hI := (hI.below hb_W5).more (Below.size hb_W5)
      replace x0 := cellB hb_W5 x0
      replace x1 := cellB hb_W5 x1
      replace hr := hr.below hb_W5 hr.lt
      replace y0 := cellB hb_W5 y0
      replace y1 := cellB hb_W5 y1
      replace hr' := hr'.below hb_W5 hr'.lt
      have y0r := y0
      rw [e_W5] at y0r
      have y1r := y1
      rw [e_W5] at y1r
      have HE_W5 := Lib.hid e_W5
      clear e_W5
      go_wp2_with fail
      rw [← HE_W5.out] at hx_W5 ⊢
      clear y0r y1r
      clear HE_W5
      obtain ⟨hl_z, z0, z1⟩ := hx_W5
      obtain ⟨Bz, e_Bz⟩ : ∃ Bx, Bx = (World.heap wc).size := ⟨_, rfl⟩
      rw [← e_Bz] at hl_z z0 z1 hb_W5  ⊢
      have hz_Bz := hb_W5.size
      clear e_Bz hb_W5
      refine (sameImage_c (n : Int) n _ _ (casts ms) (casts ms) (by rw [length_casts, HML.out]; omega) W5 (hr.intsH HML.out) (hr'.intsH HML.out)).mono ?_
      rintro e wc ⟨rfl, hb⟩
      replace hW := hW.trans (Below.mono hb hW.size)
      replace hI := (hI.below hb).more (Below.size hb)
      replace x0 := cellB hb x0
      replace x1 := cellB hb x1
      replace hr := hr.below hb hr.lt
      replace y0 := cellB hb y0
      replace y1 := cellB hb y1
      replace hr' := hr'.below hb hr'.lt
      replace z0 := cellB hb z0
      replace z1 := cellB hb z1
      simp only [decide_true, and_self]
      clear hg hg' hb' hr' z0 z1
      have hcs := part_cases hV HC.out HM.out
      have hhere := part_here hV HC.out HM.out
      have hone := part_one hV HC.out HM.out
      have HS := Lib.hid (And.intro hcs (And.intro hhere hone))
      clear hcs hhere hone
      go_wp2_with fail
      go_loopw [10] (fun s wr => ∃ k : Nat, k ≤ ns.length ∧ s = .int .i64 k ∧ Below w.heap.size w wr ∧ Ints wr.heap.size wr (.slice B ns.length cp) (casts ns) ∧ Row wr g (casts ms) ∧ (wr.cell? ⟨Bx, 0, none⟩ = some (.int .i64 (n : Int)) ∧ wr.cell? ⟨Bx, 1, none⟩ = some (.slice B ns.length cp)) ∧ wr.cell? ⟨By, 0, none⟩ = some (.int .i64 (n : Int)) ∧ wr.cell? ⟨By, 1, none⟩ = some (.slice (some ⟨g, 0, none⟩) ns.length c)) (fun s _ => ns.length - (intOf s).toNat)
      case atStart => exact ⟨0, by omega, rfl, hW, hI, hr, ⟨x0, x1⟩, y0, y1⟩
      case round =>
        clear hW hI hr x0 x1 y0 y1
        obtain ⟨k, hk, rfl, hW, hI, hr, ⟨x0, x1⟩, y0, y1⟩ := hrel
        by_cases hkl : k < ns.length
        · go_wp2_with fail
          go_loopw [11] (fun s wr => ∃ l : Nat, l ≤ n ∧ s = .int .i64 l ∧ Below w.heap.size w wr ∧ Ints wr.heap.size wr (.slice B ns.length cp) (casts ns) ∧ Row wr g (casts ms) ∧ (wr.cell? ⟨Bx, 0, none⟩ = some (.int .i64 (n : Int)) ∧ wr.cell? ⟨Bx, 1, none⟩ = some (.slice B ns.length cp)) ∧ wr.cell? ⟨By, 0, none⟩ = some (.int .i64 (n : Int)) ∧ wr.cell? ⟨By, 1, none⟩ = some (.slice (some ⟨g, 0, none⟩) ns.length c)) (fun s _ => n - (intOf s).toNat)
          case atStart => exact ⟨0, by omega, rfl, hW, hI, hr, ⟨x0, x1⟩, y0, y1⟩
          case round =>
            clear hW hI hr x0 x1 y0 y1
            obtain ⟨l, hl, rfl, hW, hI, hr, ⟨x0, x1⟩, y0, y1⟩ := hrel
            by_cases hll : l < n
            · skip
              have hk6 : k < 6 := by omega
              have hl6' : l < 6 := by omega
              rcases HS.out.1 k l with ⟨hp, hq⟩ | ⟨hp, hq, hr1, ht1⟩ | ⟨hp, hq, hr1, ht1⟩
              · cases hr1 : cellZ ms (k : Int) ((l : Int) + 1) <;> cases ht1 : cellZ ms ((k : Int) + 1) (l : Int)
                all_goals
                  go_wp2_with (first | (go_at_call 25; (with_reducible refine (ImageHas_v n _ ms hms _ _ _ (hr.intsH (c := c) HML.out)).mono ?_); rintro e wc ⟨rfl, hb⟩; replace hW := hW.trans (Below.mono hb hW.size); replace hI := (hI.below hb).more (Below.size hb); replace hr := hr.below hb hr.lt; replace x0 := cellB hb x0; replace x1 := cellB hb x1; replace y0 := cellB hb y0; replace y1 := cellB hb y1; clear hb) | (go_at_call 25; (with_reducible refine (ImageHas_v n _ ns hV _ _ _ hI).mono ?_); rintro e wc ⟨rfl, hb⟩; replace hW := hW.trans (Below.mono hb hW.size); replace hI := (hI.below hb).more (Below.size hb); replace hr := hr.below hb hr.lt; replace x0 := cellB hb x0; replace x1 := cellB hb x1; replace y0 := cellB hb y0; replace y1 := cellB hb y1; clear hb))
                  go_roundw
                  case rel => exact ⟨l + 1, by omega, by go_num, hW, hI, hr, ⟨x0, x1⟩, y0, y1⟩
                  case measure => simp [intOf]; omega
              · skip
                go_wp2_with (first | (go_at_call 25; (with_reducible refine (ImageHas_v n _ ms hms _ _ _ (hr.intsH (c := c) HML.out)).mono ?_); rintro e wc ⟨rfl, hb⟩; replace hW := hW.trans (Below.mono hb hW.size); replace hI := (hI.below hb).more (Below.size hb); replace hr := hr.below hb hr.lt; replace x0 := cellB hb x0; replace x1 := cellB hb x1; replace y0 := cellB hb y0; replace y1 := cellB hb y1; clear hb) | (go_at_call 25; (with_reducible refine (ImageHas_v n _ ns hV _ _ _ hI).mono ?_); rintro e wc ⟨rfl, hb⟩; replace hW := hW.trans (Below.mono hb hW.size); replace hI := (hI.below hb).more (Below.size hb); replace hr := hr.below hb hr.lt; replace x0 := cellB hb x0; replace x1 := cellB hb x1; replace y0 := cellB hb y0; replace y1 := cellB hb y1; clear hb))
                go_roundw
                case rel => exact ⟨l + 1, by omega, by go_num, hW, hI, hr, ⟨x0, x1⟩, y0, y1⟩
                case measure => simp [intOf]; omega
              · rcases hr1 with hr1 | ⟨hr1, hs1⟩ <;> rcases ht1 with ht1 | ⟨ht1, hu1⟩
                all_goals
                  go_wp2_with (first | (go_at_call 25; (with_reducible refine (ImageHas_v n _ ms hms _ _ _ (hr.intsH (c := c) HML.out)).mono ?_); rintro e wc ⟨rfl, hb⟩; replace hW := hW.trans (Below.mono hb hW.size); replace hI := (hI.below hb).more (Below.size hb); replace hr := hr.below hb hr.lt; replace x0 := cellB hb x0; replace x1 := cellB hb x1; replace y0 := cellB hb y0; replace y1 := cellB hb y1; clear hb) | (go_at_call 25; (with_reducible refine (ImageHas_v n _ ns hV _ _ _ hI).mono ?_); rintro e wc ⟨rfl, hb⟩; replace hW := hW.trans (Below.mono hb hW.size); replace hI := (hI.below hb).more (Below.size hb); replace hr := hr.below hb hr.lt; replace x0 := cellB hb x0; replace x1 := cellB hb x1; replace y0 := cellB hb y0; replace y1 := cellB hb y1; clear hb))
                  go_roundw
                  case rel => exact ⟨l + 1, by omega, by go_num, hW, hI, hr, ⟨x0, x1⟩, y0, y1⟩
                  case measure => simp [intOf]; omega
            · go_wp2
              go_roundw
              case rel => exact ⟨k + 1, by omega, by go_num, hW, hI, hr, ⟨x0, x1⟩, y0, y1⟩
              case measure => simp [intOf]; omega
        · skip
          go_wp2_with fail
          refine (ImageParts_c (n : Int) _ (casts ms) _ (hr.intsH (c := c) HML.out)).mono ?_
          rintro e wc ⟨rfl, hb⟩
          replace hW := hW.trans (Below.mono hb hW.size)
          replace hI := (hI.below hb).more (Below.size hb)
          replace hr := hr.below hb hr.lt
          replace x0 := cellB hb x0
          replace x1 := cellB hb x1
          replace y0 := cellB hb y0
          replace y1 := cellB hb y1
          rw [onImg_yes hms, HS.out.2.2]
          go_wp2_with fail
          refine (ImageHas_v n _ ms hms a b _ (hr.intsH (c := c) HML.out)).mono ?_
          rintro e wc ⟨rfl, hb⟩
          replace hW := hW.trans (Below.mono hb hW.size)
          replace hI := (hI.below hb).more (Below.size hb)
          replace hr := hr.below hb hr.lt
          replace x0 := cellB hb x0
          replace x1 := cellB hb x1
          replace y0 := cellB hb y0
          replace y1 := cellB hb y1
          rw [HS.out.2.1]
          go_wp2
          go_returns
          exact ⟨rfl, hW⟩
end Go.Proofs.Ytbblbdacdpokeaa
