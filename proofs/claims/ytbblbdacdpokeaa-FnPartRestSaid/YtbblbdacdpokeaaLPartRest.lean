/- The law that without a part there is one part less: it returns true at whatever code. Conditions: the code's slice can be read. -/
import Derived.Test.YtbblbdacdpokeaaLPart
namespace Go.Proofs.Ytbblbdacdpokeaa
open Go.RowKit
open Gr
/-- The rows without those of a part. -/
theorem rest_row {n : Nat} {ns ms : List Nat} (hV : VImg n ns) (hms : VImg n ms) {a b : Nat} (hc : cell ns a b = true) (hm : ms = compL (cell ns) false ns.length n (a, b)) {k : Nat} : (restL (cell ns) false ns.length n (a, b)).getD k 0 = ns.getD k 0 - ms.getD k 0 ∧ ms.getD k 0 ≤ ns.getD k 0 := by
  have hsub : ∀ l, (ms.getD k 0).testBit l = true → (ns.getD k 0).testBit l = true := fun l h => by
    have h2 : cell ms k l = true := h
    rw [hm, cell_comp (sized_img hV).inside hc] at h2
    exact h2.mem hc
  have h1 := fun l => sub_row (hV.get64 k) (hms.get64 k) hsub l
  refine ⟨?_, (h1 0).2⟩
  apply Nat.eq_of_testBit_eq
  intro l
  rw [(h1 l).1]
  show cell (restL (cell ns) false ns.length n (a, b)) k l = (cell ns k l && !cell ms k l)
  rw [Bool.eq_iff_iff, cell_rest (sized_img hV).inside (c := (a, b)) hc, hm, Bool.and_eq_true, Bool.not_eq_true', ← Bool.not_eq_true, cell_comp (sized_img hV).inside (c := (a, b)) hc]
theorem take_snoc {xs : List Nat} {k : Nat} (hk : k < xs.length) : casts (xs.take (k + 1)) = casts (xs.take k) ++ [((xs.getD k 0 : Nat) : Int)] := by
  rw [List.take_succ_eq_append_getElem hk, List.getD_eq_getElem?_getD, List.getElem?_eq_getElem hk]
  unfold casts
  rw [List.map_append]
  rfl
theorem parts_rest {n : Nat} {ns : List Nat} (hV : VImg n ns) {a b : Nat} (hc : cell ns a b = true) : partsN n (restL (cell ns) false ns.length n (a, b)) = partsN n ns - 1 := by
  have := firsts_rest (near := false) (sized_img hV).inside (c := (a, b)) hc
  have hl : (restL (cell ns) false ns.length n (a, b)).length = ns.length := length_mk _ _ _
  unfold partsN partsL
  rw [hl]
  omega
theorem partsN_le {n : Nat} {ns : List Nat} (hV : VImg n ns) : 0 ≤ partsN n ns ∧ partsN n ns ≤ 36 := by
  have h1 : (firsts (cell ns) false ns.length n).length ≤ (cellsL ns.length n).length := List.length_filter_le _ _
  rw [length_cellsL] at h1
  have h6 := hV.h6
  have w6 := hV.w6
  have h2 : ns.length * n ≤ 6 * 6 := Nat.mul_le_mul h6 w6
  unfold partsN partsL
  omega
set_option maxRecDepth 100000 in
set_option maxHeartbeats 4000000 in
theorem partRest_walk (A : Option Addr) (len cap : Nat) (hlc : len ≤ cap) (w : World) (hc : Code8 w w.heap.size A len) :
    Calls Try.prog 6 #[.slice A len cap] w fun e w' => e = .returned (.bool true) ∧ Below w.heap.size w w' := by
  by_cases hbig : 1048576 < len
  · go_enter Try.func6, Try.ntmps6
    go_wp2
    go_returns
    exact ⟨rfl, Below.refl _ _⟩
  · go_enter Try.func6, Try.ntmps6
    go_wp2_with fail
    refine (DrawImagePart_c A len cap hlc w hc).mono ?_
    rintro e wc ⟨W, v, rows, i, j, rfl, hI, hl6, hW⟩
    obtain ⟨B, cp, rfl⟩ := hI.len
    obtain ⟨W1, e_W1⟩ : ∃ W0, W0 = World.alloc wc (.cells #[.int .i64 W, .slice B rows.length cp] 27) := ⟨_, rfl⟩
    have hx_W1 := Box2.new wc (.int .i64 W) (.slice B rows.length cp) 27
    have hb_W1 : Below (World.heap wc).size wc W1 := by rw [e_W1]; go_grown
    replace hW := hW.trans (Below.mono hb_W1 hW.size)
    replace hI := (hI.below hb_W1).more (Below.size hb_W1)
    have HE_W1 := Lib.hid e_W1
    clear e_W1
    go_wp2_with fail
    rw [← HE_W1.out] at hx_W1 ⊢
    clear HE_W1
    obtain ⟨hl_x, x0, x1⟩ := hx_W1
    obtain ⟨Bx, e_Bx⟩ : ∃ Bx, Bx = (World.heap wc).size := ⟨_, rfl⟩
    rw [← e_Bx] at hl_x x0 x1 hb_W1  ⊢
    have hz_Bx := hb_W1.size
    clear e_Bx hb_W1
    cases hhas : hasZ W rows i j with
    | false =>
      refine (ImagePart_no W _ rows i j hhas W1 hI).mono ?_
      rintro e wc ⟨rfl, hb⟩
      replace hW := hW.trans (Below.mono hb hW.size)
      replace hI := (hI.below hb).more (Below.size hb)
      replace x0 := cellB hb x0
      replace x1 := cellB hb x1
      obtain ⟨W3, e_W3⟩ : ∃ W0, W0 = World.alloc wc (.cells #[.int .i64 0, .slice none 0 0] 27) := ⟨_, rfl⟩
      have hx_W3 := Box2.new wc (.int .i64 0) (.slice none 0 0) 27
      have hb_W3 : Below (World.heap wc).size wc W3 := by rw [e_W3]; go_grown
      replace hW := hW.trans (Below.mono hb_W3 hW.size)
      replace hI := (hI.below hb_W3).more (Below.size hb_W3)
      replace x0 := cellB hb_W3 x0
      replace x1 := cellB hb_W3 x1
      have x0r := x0
      rw [e_W3] at x0r
      have x1r := x1
      rw [e_W3] at x1r
      have HE_W3 := Lib.hid e_W3
      clear e_W3
      go_wp2_with fail
      rw [← HE_W3.out] at hx_W3 ⊢
      clear x0r x1r
      clear HE_W3
      obtain ⟨hl_y, y0, y1⟩ := hx_W3
      obtain ⟨By, e_By⟩ : ∃ Bx, Bx = (World.heap wc).size := ⟨_, rfl⟩
      rw [← e_By] at hl_y y0 y1 hb_W3  ⊢
      have hz_By := hb_W3.size
      clear e_By hb_W3
      refine (sImagePart_no W _ rows i j hhas W3 hI).mono ?_
      rintro e wc ⟨rfl, hb⟩
      replace hW := hW.trans (Below.mono hb hW.size)
      replace hI := (hI.below hb).more (Below.size hb)
      replace x0 := cellB hb x0
      replace x1 := cellB hb x1
      replace y0 := cellB hb y0
      replace y1 := cellB hb y1
      clear hhas
      obtain ⟨W5, e_W5⟩ : ∃ W0, W0 = World.alloc wc (.cells #[.int .i64 0, .slice none 0 0] 27) := ⟨_, rfl⟩
      have hx_W5 := Box2.new wc (.int .i64 0) (.slice none 0 0) 27
      have hb_W5 : Below (World.heap wc).size wc W5 := by rw [e_W5]; go_grown
      replace hW := hW.trans (Below.mono hb_W5 hW.size)
      replace hI := (hI.below hb_W5).more (Below.size hb_W5)
      replace x0 := cellB hb_W5 x0
      replace x1 := cellB hb_W5 x1
      replace y0 := cellB hb_W5 y0
      replace y1 := cellB hb_W5 y1
      have y0r := y0
      rw [e_W5] at y0r
      have y1r := y1
      rw [e_W5] at y1r
      have HE_W5 := Lib.hid e_W5
      clear e_W5
      go_wp2_with fail
      rw [← HE_W5.out] at hx_W5 ⊢
      clear y0r y1r
      clear HE_W5
      obtain ⟨hl_z, z0, z1⟩ := hx_W5
      obtain ⟨Bz, e_Bz⟩ : ∃ Bx, Bx = (World.heap wc).size := ⟨_, rfl⟩
      rw [← e_Bz] at hl_z z0 z1 hb_W5  ⊢
      have hz_Bz := hb_W5.size
      clear e_Bz hb_W5
      refine (sameImage_c 0 0 _ _ [] [] (by simp) W5 (.inl ⟨rfl, none, 0, rfl⟩) (.inl ⟨rfl, none, 0, rfl⟩)).mono ?_
      rintro e wc ⟨rfl, hb⟩
      replace hW := hW.trans (Below.mono hb hW.size)
      replace hI := (hI.below hb).more (Below.size hb)
      replace x0 := cellB hb x0
      replace x1 := cellB hb x1
      replace y0 := cellB hb y0
      replace y1 := cellB hb y1
      replace z0 := cellB hb z0
      replace z1 := cellB hb z1
      simp only [decide_true, and_self]
      go_wp2_with fail
      refine (sameImage_c 0 0 _ _ [] [] (by simp) _ (.inl ⟨rfl, none, 0, rfl⟩) (.inl ⟨rfl, none, 0, rfl⟩)).mono ?_
      rintro e wc ⟨rfl, hb⟩
      replace hW := hW.trans (Below.mono hb hW.size)
      replace hI := (hI.below hb).more (Below.size hb)
      replace x0 := cellB hb x0
      replace x1 := cellB hb x1
      replace y0 := cellB hb y0
      replace y1 := cellB hb y1
      replace z0 := cellB hb z0
      replace z1 := cellB hb z1
      simp only [decide_true, and_self]
      go_wp2
      go_returns
      exact ⟨rfl, hW⟩
    | true =>
      obtain ⟨n, ns, a, b, rfl, rfl, rfl, rfl, hV, ha, hb', hc'⟩ := hasZ_yes hhas
      rw [length_casts] at x1 hI ⊢
      have h1 := hV.h1
      have h6 := hV.h6
      have w1 := hV.w1
      have w6 := hV.w6
      have hms : VImg n (compL (cell ns) false ns.length n (a, b)) := Sized.vimg sized_mk h1 h6 w1 w6
      have hml : (compL (cell ns) false ns.length n (a, b)).length = ns.length := length_comp _
      have HC := Lib.hid hc'
      have G1 := ImagePart_yes n _ ns hV a b hc' W1 hI
      have G2 := fun W h => sImagePart_yes n (.slice B ns.length cp) ns hV a b hc' W h
      obtain ⟨ms, em⟩ : ∃ ms, ms = compL (cell ns) false ns.length n (a, b) := ⟨_, rfl⟩
      rw [← em] at hms hml G1
      simp only [← em] at G2
      have HM := Lib.hid em
      have HML := Lib.hid hml
      clear hhas hc' em hml
      refine G1.mono ?_
      rintro e wc ⟨g, c, rfl, hg, hr, hb⟩
      rw [HML.out]
      clear G1
      replace hW := hW.trans (Below.mono hb hW.size)
      replace hI := (hI.below hb).more (Below.size hb)
      replace x0 := cellB hb x0
      replace x1 := cellB hb x1
      obtain ⟨W3, e_W3⟩ : ∃ W0, W0 = World.alloc wc (.cells #[.int .i64 (n : Int), .slice (some ⟨g, 0, none⟩) ns.length c] 27) := ⟨_, rfl⟩
      have hx_W3 := Box2.new wc (.int .i64 (n : Int)) (.slice (some ⟨g, 0, none⟩) ns.length c) 27
      have hb_W3 : Below (World.heap wc).size wc W3 := by rw [e_W3]; go_grown
      replace hW := hW.trans (Below.mono hb_W3 hW.size)
      replace hI := (hI.below hb_W3).more (Below.size hb_W3)
      replace x0 := cellB hb_W3 x0
      replace x1 := cellB hb_W3 x1
      replace hr := hr.below hb_W3 hr.lt
      have x0r := x0
      rw [e_W3] at x0r
      have x1r := x1
      rw [e_W3] at x1r
      have HE_W3 := Lib.hid e_W3
      clear e_W3
      go_wp2_with fail
      rw [← HE_W3.out] at hx_W3 ⊢
      clear x0r x1r
      clear HE_W3
      obtain ⟨hl_y, y0, y1⟩ := hx_W3
      obtain ⟨By, e_By⟩ : ∃ Bx, Bx = (World.heap wc).size := ⟨_, rfl⟩
      rw [← e_By] at hl_y y0 y1 hb_W3  ⊢
      have hz_By := hb_W3.size
      clear e_By hb_W3
      refine (G2 W3 hI).mono ?_
      rintro e wc ⟨g', c', rfl, hg', hr', hb⟩
      rw [HML.out]
      clear G2
      replace hW := hW.trans (Below.mono hb hW.size)
      replace hI := (hI.below hb).more (Below.size hb)
      replace x0 := cellB hb x0
      replace x1 := cellB hb x1
      replace hr := hr.below hb hr.lt
      replace y0 := cellB hb y0
      replace y1 := cellB hb y1
      obtain ⟨W5, e_W5⟩ : ∃ W0, W0 = World.alloc wc (.cells #[.int .i64 (n : Int), .slice (some ⟨g', 0, none⟩) ns.length c'] 27) := ⟨_, rfl⟩
      have hx_W5 := Box2.new wc (.int .i64 (n : Int)) (.slice (some ⟨g', 0, none⟩) ns.length c') 27
      have hb_W5 : Below (World.heap wc).size wc W5 := by rw [e_W5]; go_grown
      replace hW := hW.trans (Below.mono hb_W5 hW.size)
      replace hI := (hI.below hb_W5).more (Below.size hb_W5)
      replace x0 := cellB hb_W5 x0
      replace x1 := cellB hb_W5 x1
      replace hr := hr.below hb_W5 hr.lt
      replace y0 := cellB hb_W5 y0
      replace y1 := cellB hb_W5 y1
      replace hr' := hr'.below hb_W5 hr'.lt
      have y0r := y0
      rw [e_W5] at y0r
      have y1r := y1
      rw [e_W5] at y1r
      have HE_W5 := Lib.hid e_W5
      clear e_W5
      go_wp2_with fail
      rw [← HE_W5.out] at hx_W5 ⊢
      clear y0r y1r
      clear HE_W5
      obtain ⟨hl_z, z0, z1⟩ := hx_W5
      obtain ⟨Bz, e_Bz⟩ : ∃ Bx, Bx = (World.heap wc).size := ⟨_, rfl⟩
      rw [← e_Bz] at hl_z z0 z1 hb_W5  ⊢
      have hz_Bz := hb_W5.size
      clear e_Bz hb_W5
      refine (sameImage_c (n : Int) n _ _ (casts ms) (casts ms) (by rw [length_casts, HML.out]; omega) W5 (hr.intsH HML.out) (hr'.intsH HML.out)).mono ?_
      rintro e wc ⟨rfl, hb⟩
      replace hW := hW.trans (Below.mono hb hW.size)
      replace hI := (hI.below hb).more (Below.size hb)
      replace x0 := cellB hb x0
      replace x1 := cellB hb x1
      replace hr := hr.below hb hr.lt
      replace y0 := cellB hb y0
      replace y1 := cellB hb y1
      replace hr' := hr'.below hb hr'.lt
      replace z0 := cellB hb z0
      replace z1 := cellB hb z1
      simp only [decide_true, and_self]
      clear hg hg' hb' hr' z0 z1
      have hrest := fun (k : Nat) => rest_row (k := k) hV hms HC.out HM.out
      have hpr := parts_rest hV HC.out
      have hvr : VImg n (restL (cell ns) false ns.length n (a, b)) := Sized.vimg sized_mk h1 h6 w1 w6
      have hlr : (restL (cell ns) false ns.length n (a, b)).length = ns.length := length_mk _ _ _
      obtain ⟨rs, ers⟩ : ∃ rs, rs = restL (cell ns) false ns.length n (a, b) := ⟨_, rfl⟩
      rw [← ers] at hpr hvr hlr
      simp only [← ers] at hrest
      have HR := Lib.hid (And.intro hrest (And.intro hpr hlr))
      have hb6 : Below wc.heap.size wc (wc.alloc (.cells #[] 3)) := by go_grown
      have hown := OwnI.empty wc (Nat.le_refl _)
      have hx0 := lt_of_cell x0
      have hx1 := lt_of_cell x1
      have hy1 := lt_of_cell y1
      have hgl := hr.lt
      have hIb := hI
      obtain ⟨W6, e6⟩ : ∃ W, W = wc.alloc (.cells #[] 3) := ⟨_, rfl⟩
      obtain ⟨base, ebase⟩ : ∃ b, b = wc.heap.size := ⟨_, rfl⟩
      rw [← e6] at hb6 hown
      rw [← ebase] at hx0 hx1 hy1 hgl hIb hown
      have HOWN := Lib.hid hown
      have HB6 := Lib.hid hb6
      have HE6 := Lib.hid e6
      have HEB := Lib.hid ebase
      have x0r := cellB hb6 x0
      have x1r := cellB hb6 x1
      have y1r := cellB hb6 y1
      have hWl := Lib.hid (And.intro x0 (And.intro x1 (And.intro y1 (And.intro hr (And.intro hIb hW)))))
      clear hrest hpr hlr ers e6 ebase hown hb6 x0r x1r y1r hI hr hIb y0 y1 x0 x1
      go_wp2_with fail
      rw [← HE6.out, ← HEB.out]
      go_loopw [10, 11] (fun s q wr => ∃ (k : Nat) (ao : Option Addr) (co : Nat), k ≤ ns.length ∧ s = .slice ao k co ∧ q = .int .i64 k ∧ OwnI wr base (.slice ao k co) (casts (rs.take k)) ∧ Below base wc wr) (fun _ q _ => ns.length - (intOf q).toNat)
      case atStart => exact ⟨0, _, _, by omega, rfl, rfl, by simpa [casts] using HOWN.out, by rw [HEB.out]; exact HB6.out⟩
      case round =>
        obtain ⟨k, ao, co, hk, rfl, rfl, hown, hbb⟩ := hrel
        obtain ⟨x0, x1, y1, hr, hI, hW⟩ := hWl.out
        have hx0' : wr.cell? ⟨Bx, 0, none⟩ = some (.int .i64 (n : Int)) := (hbb.cell (p := ⟨Bx, 0, none⟩) hx0).trans x0
        have hx1' : wr.cell? ⟨Bx, 1, none⟩ = some (.slice B ns.length cp) := (hbb.cell (p := ⟨Bx, 1, none⟩) hx1).trans x1
        have hy1' : wr.cell? ⟨By, 1, none⟩ = some (.slice (some ⟨g, 0, none⟩) ns.length c) := (hbb.cell (p := ⟨By, 1, none⟩) hy1).trans y1
        have hIr : Ints base wr (.slice B ns.length cp) (casts ns) := hI.keep fun p hp => hbb.cell hp
        have hrr : Row wr g (casts ms) := hr.below hbb hgl
        have hbs : base ≤ wr.heap.size := by have h2 := hbb.size; have h3 := HEB.out; omega
        have hWr : Below w.heap.size w wr := hW.trans (hbb.mono (by have h2 := hW.size; have h3 := HEB.out; omega))
        clear x0 x1 y1 hr hI hW
        by_cases hkl : k < ns.length
        · obtain ⟨bb, off, cc, e, hbl, hcell⟩ := hIr.row (by rw [length_casts]; omega)
          rw [length_casts] at e
          injection e with e1 e2 e3
          subst e1 e3
          have hca := hcell k (by rw [length_casts]; omega)
          rw [casts_getD] at hca
          have hcm := hrr.cell (k := k) (by rw [length_casts, HML.out]; omega)
          rw [casts_getD] at hcm
          obtain ⟨hz1, hz2⟩ := HR.out.1 k
          have hr64 := hV.get64 k
          obtain ⟨r, er⟩ : ∃ r, r = ns.getD k 0 := ⟨_, rfl⟩
          obtain ⟨m, em⟩ : ∃ m, m = ms.getD k 0 := ⟨_, rfl⟩
          rw [← er] at hca hz1 hz2 hr64
          rw [← em] at hcm hz1 hz2
          have ew : IntKind.i64.wrap ((r : Int) - (m : Int)) = ((r - m : Nat) : Int) := by rw [show ((r - m : Nat) : Int) = (r : Int) - m by omega]; exact IntWalk.i64_in _ ⟨by omega, by omega⟩
          have hts := take_snoc (xs := rs) (k := k) (by rw [HR.out.2.2]; exact hkl)
          rw [hz1] at hts
          have HTS := Lib.hid hts
          have HL6 : Hid ((casts (rs.take (k + 1))).length = k + 1) := Lib.hid (by rw [length_casts, List.length_take, HR.out.2.2]; omega)
          clear hts hz1 hz2 er em e2 hcell
          have hwd : Below base wr wr.drew := (Below.refl base wr).drew
          have hown2 := (hown.drew).alloc (.cells #[.int .i64 ((r - m : Nat) : Int)] 3)
          have hbs2 : base ≤ wr.drew.heap.size := hbs
          have hb3 : Below base wr.drew (wr.drew.alloc (.cells #[.int .i64 ((r - m : Nat) : Int)] 3)) := (Below.refl base wr.drew).alloc hbs2 _
          have hb2 := (hbb.trans hwd).trans hb3
          have HBW := Lib.hid (hwd.trans hb3)
          have hbs3 : base ≤ (wr.drew.alloc (.cells #[.int .i64 ((r - m : Nat) : Int)] 3)).heap.size := Nat.le_trans hbs2 hb3.size
          have hlen : (casts (rs.take k)).length + ([((r - m : Nat) : Int)] : List Int).length ≤ 16777216 := by rw [length_casts, List.length_take]; simp; omega
          have hone := Ints.one wr.drew ((r - m : Nat) : Int) 3
          have HH := Lib.hid (And.intro hown2 (And.intro hb2 (And.intro hbs3 (And.intro hlen hone))))
          clear hown2 hb2 hb3 hbs2 hbs3 hlen hone hown
          go_wp2_with fail
          go_region_held3 (fun w' : World => w'.cell? ⟨Bx, 1, none⟩ = some (.slice (some ⟨bb, off, none⟩) ns.length cp) ∧ w'.cell? ⟨bb, off + k, none⟩ = some (.int .i64 (r : Int)) ∧ w'.cell? ⟨By, 1, none⟩ = some (.slice (some ⟨g, 0, none⟩) ns.length c) ∧ w'.cell? ⟨g, k, none⟩ = some (.int .i64 (m : Int))) (first | exact ⟨hx1', hca, hy1', hcm⟩ | (refine ⟨?_, ?_, ?_, ?_⟩ <;> assumption) | go_keep) ((refine step_app (v := .slice ao k co) (ys := [((r - m : Nat) : Int)]) rfl (.tmp 64) (.tmp 76) rfl rfl HH.out.1 rfl HH.out.2.2.2.2 HH.out.2.2.2.1 HH.out.2.2.1 ?_; intro v6 w6 hown6 hgr6 hnn6 _; rw [← HTS.out] at hown6; obtain ⟨a6, c6, hv6⟩ := hown6.ints.len; rw [HL6.out] at hv6; subst hv6; have hq6 := Below.app HBW.out HH.out.1 hgr6 (Nat.le_refl _) HH.out.2.2.1; have k0 := (hq6.cell (p := ⟨Bx, 1, none⟩) hx1).trans hx1'; have k1 := (hq6.cell (p := ⟨bb, off + k, none⟩) hbl).trans hca; have k2 := (hq6.cell (p := ⟨By, 1, none⟩) hy1).trans hy1'; have k3 := (hq6.cell (p := ⟨g, k, none⟩) hgl).trans hcm))
          go_wp2_with fail
          go_roundw
          · exact ⟨k + 1, a6, c6, by omega, rfl, rfl, hown6, Below.app HH.out.2.1 HH.out.1 hgr6 (Nat.le_refl _) HH.out.2.2.1⟩
          · simp [intOf]; omega
        · obtain rfl : k = ns.length := by omega
          rw [List.take_of_length_le (Nat.le_of_eq HR.out.2.2)] at hown
          have hJ := hown.ints
          have hI := hIr.more hbs
          have hW := hWr
          have x0 := hx0'
          have x1 := hx1'
          obtain ⟨hp0, hp36⟩ := partsN_le hV
          have G1 := fun d os => ImageParts_c (n : Int) _ _ _ ((hJ.rg (Nat.le_refl _) d os).more (rg_size _ d os))
          have G2 := fun d os => ImageParts_c (n : Int) _ _ _ ((hI.rg (Nat.le_refl _) d os).more (rg_size _ d os))
          simp only [onImg_yes hvr, HR.out.2.1] at G1
          simp only [onImg_yes hV] at G2
          obtain ⟨P, eP⟩ : ∃ P, P = partsN n ns := ⟨_, rfl⟩
          rw [← eP] at hp0 hp36
          simp only [← eP] at G1 G2
          have ew : IntKind.i64.wrap (P - 1) = P - 1 := IntWalk.i64_in _ ⟨by omega, by omega⟩
          clear hown hIr hWr hx0' hx1' hy1' hrr hbb eP hp0 hp36 hWl
          have k0 := cell_regrown x0
          have k1 := cell_regrown x1
          go_wp2_with fail
          refine wp_region_quiet_below (by kernel_rfl) (by kernel_rfl) ?_
          repeat (first | go_big_quiet_step ((go_at_call 22; first | with_reducible exact Calls.rg (G1 _ _) | with_reducible exact Calls.rg (G2 _ _))) | quiet_step ((go_at_call 22; first | with_reducible exact Calls.rg (G1 _ _) | with_reducible exact Calls.rg (G2 _ _))))
          refine wpQuiet_nil ?_
          intro _ hw0
          obtain ⟨⟨dq, osq⟩, hw1⟩ := hw0
          subst hw1
          have hq := below_regrown wr dq osq
          generalize Go.Sort.grow (redrawn wr dq) osq = w9 at hq ⊢
          have hW := hW.trans (hq.mono hW.size)
          clear k0 k1 hI hJ x0 x1
          go_wp2
          go_returns
          exact ⟨rfl, hW⟩
end Go.Proofs.Ytbblbdacdpokeaa
