/- The law that parts have all set cells: it returns true at whatever code. Conditions: the code's slice can be read. -/
import Derived.Test.YtbblbdacdpokeaaPD2
import Derived.Test.YtbblbdacdpokeaaPI3
import Derived.Test.YtbblbdacdpokeaaLPartsPut
import Derived.Test.YtbblbdacdpokeaaKW
import Derived.Test.YtbblbdacdpokeaaPE2
namespace Go.Proofs.Ytbblbdacdpokeaa
open Go.RowKit
open Gr
/-- The rows without those of a part. -/
theorem rest_row2 {n : Nat} {ns ms : List Nat} (hV : VImg n ns) (hms : VImg n ms) {a b : Nat} (hc : cell ns a b = true) (hm : ms = compL (cell ns) false ns.length n (a, b)) {k : Nat} : (restL (cell ns) false ns.length n (a, b)).getD k 0 = ns.getD k 0 - ms.getD k 0 ∧ ms.getD k 0 ≤ ns.getD k 0 := by
  have hsub : ∀ l, (ms.getD k 0).testBit l = true → (ns.getD k 0).testBit l = true := fun l h => by
    have h2 : cell ms k l = true := h
    rw [hm, cell_comp (sized_img hV).inside hc] at h2
    exact h2.mem hc
  have h1 := fun l => sub_row (hV.get64 k) (hms.get64 k) hsub l
  refine ⟨?_, (h1 0).2⟩
  apply Nat.eq_of_testBit_eq
  intro l
  rw [(h1 l).1]
  show cell (restL (cell ns) false ns.length n (a, b)) k l = (cell ns k l && !cell ms k l)
  rw [Bool.eq_iff_iff, cell_rest (sized_img hV).inside (c := (a, b)) hc, hm, Bool.and_eq_true, Bool.not_eq_true', ← Bool.not_eq_true, cell_comp (sized_img hV).inside (c := (a, b)) hc]
theorem parts_rest2 {n : Nat} {ns : List Nat} (hV : VImg n ns) {a b : Nat} (hc : cell ns a b = true) : partsN n (restL (cell ns) false ns.length n (a, b)) = partsN n ns - 1 := by
  have := firsts_rest (near := false) (sized_img hV).inside (c := (a, b)) hc
  have hl : (restL (cell ns) false ns.length n (a, b)).length = ns.length := length_mk _ _ _
  unfold partsN partsL
  rw [hl]
  omega
theorem partsN_le2 {n : Nat} {ns : List Nat} (hV : VImg n ns) : 0 ≤ partsN n ns ∧ partsN n ns ≤ 36 := by
  have h1 : (firsts (cell ns) false ns.length n).length ≤ (cellsL ns.length n).length := List.length_filter_le _ _
  rw [length_cellsL] at h1
  have h6 := hV.h6
  have w6 := hV.w6
  have h2 : ns.length * n ≤ 6 * 6 := Nat.mul_le_mul h6 w6
  unfold partsN partsL
  omega
/-- The first k rows of xs, the others of ys. -/
def mixTo (xs ys : List Nat) (k : Nat) : List Nat := xs.take k ++ ys.drop k
theorem mixTo_zero (xs ys : List Nat) : mixTo xs ys 0 = ys := by simp [mixTo]
theorem mixTo_all {xs ys : List Nat} (h : xs.length = ys.length) : mixTo xs ys ys.length = xs := by
  unfold mixTo
  rw [List.take_of_length_le (by omega)]
  simp
theorem length_mixTo {xs ys : List Nat} (h : xs.length = ys.length) {k : Nat} (hk : k ≤ ys.length) : (mixTo xs ys k).length = ys.length := by
  unfold mixTo
  rw [List.length_append, List.length_take, List.length_drop]
  omega
theorem mixTo_get {xs ys : List Nat} (h : xs.length = ys.length) {k : Nat} (hk : k < ys.length) : (mixTo xs ys k).getD k 0 = ys.getD k 0 := by
  unfold mixTo
  rw [List.getD_eq_getElem?_getD, List.getElem?_append_right (by rw [List.length_take]; omega), List.length_take, Nat.min_eq_left (by omega), Nat.sub_self, List.getElem?_drop, List.getD_eq_getElem?_getD]
  rfl
theorem mixTo_step {xs ys : List Nat} (h : xs.length = ys.length) {k : Nat} (hk : k < ys.length) : (mixTo xs ys k).set k (xs.getD k 0) = mixTo xs ys (k + 1) := by
  unfold mixTo
  have hl : (xs.take k).length = k := by rw [List.length_take]; omega
  rw [List.set_append_right _ _ (by omega), hl, Nat.sub_self]
  have e : ys.drop k = ys[k] :: ys.drop (k + 1) := List.drop_eq_getElem_cons hk
  rw [e, List.set_cons_zero, List.take_succ_eq_append_getElem (by omega), List.append_assoc]
  congr 1
  simp [List.getD_eq_getElem?_getD, List.getElem?_eq_getElem (show k < xs.length by omega)]
theorem row_nz {n : Nat} {bs : List Nat} (hV : VImg n bs) (hp : 0 < partsN n bs) {i : Nat} (hz : ∀ t, t < i → bs.getD t 0 = 0) (hend : i + 1 = bs.length ∨ bs.getD i 0 ≠ 0) : bs.getD i 0 ≠ 0 := by
  rcases hend with hend | hend
  · intro h0
    obtain ⟨a, b, hc⟩ := (parts_pos hV).1 hp
    have hin := hV.cell_in hc
    have hr : bs.getD a 0 = 0 := by
      by_cases e : a = i
      · rw [e]; exact h0
      · exact hz a (by omega)
    unfold cell at hc
    rw [hr] at hc
    simp at hc
  · exact hend
theorem cell_nz {n : Nat} {bs : List Nat} (hV : VImg n bs) {i j : Nat} (h : bs.getD i 0 ≠ 0) (hz : ∀ t, t < j → cell bs i t = false) (hend : j + 1 = n ∨ cell bs i j = true) : cell bs i j = true := by
  rcases hend with hend | hend
  · obtain ⟨b, hb⟩ : ∃ b, (bs.getD i 0).testBit b = true := Nat.exists_testBit_of_ne_zero h
    have hc : cell bs i b = true := hb
    have hin := hV.cell_in hc
    by_cases e : b = j
    · rw [← e]; exact hc
    · rw [hz b (by omega)] at hc
      cases hc
  · exact hend
theorem rest_parts {n : Nat} {bs ms rs : List Nat} (hV : VImg n bs) {a b : Nat} (hc : cell bs a b = true) (hm : ms = compL (cell bs) false bs.length n (a, b)) (hr : rs = restL (cell bs) false bs.length n (a, b)) :
    VImg n ms ∧ VImg n rs ∧ ms.length = bs.length ∧ rs.length = bs.length ∧ partsN n rs = partsN n bs - 1 ∧ ∀ k, rs.getD k 0 = bs.getD k 0 - ms.getD k 0 ∧ ms.getD k 0 ≤ bs.getD k 0 := by
  have hms : VImg n ms := by rw [hm]; exact Sized.vimg sized_mk hV.h1 hV.h6 hV.w1 hV.w6
  refine ⟨hms, by rw [hr]; exact Sized.vimg sized_mk hV.h1 hV.h6 hV.w1 hV.w6, by rw [hm]; exact length_comp _, by rw [hr]; exact length_mk _ _ _, by rw [hr]; exact parts_rest2 hV hc, fun k => ?_⟩
  rw [hr]
  exact rest_row2 hV hms hc hm
theorem none_many {n : Nat} {bs : List Nat} (hV : VImg n bs) (h : partsN n bs = 0) : mom n bs one = 0 := by
  have h1 := (parts_pos hV)
  have h2 := many_iff hV
  have h3 : ¬ 0 < mom n bs one := fun h3 => by
    have := h1.2 (h2.1 h3)
    omega
  have h4 : 0 ≤ mom n bs one := by
    unfold mom
    exact sumN_nonneg fun i _ => sumN_nonneg fun j _ => by unfold one; have := b2i_bd (cell bs i j); omega
  omega
theorem keep_set2 {w : World} {b k : Nat} {o : Nat} {v1 v2 v : Value} (h : w.cell? ⟨k, o, none⟩ = some v) (hne : ¬ k = b) : ((w.setCell ⟨b, 0, none⟩ v1).setCell ⟨b, 1, none⟩ v2).cell? ⟨k, o, none⟩ = some v :=
  (World.cell?_setCell_other _ _ _ _ (by simp [hne])).trans ((World.cell?_setCell_other _ _ _ _ (by simp [hne])).trans h)
theorem keep_set1 {w : World} {b k m : Nat} {o : Nat} {v1 v : Value} (h : w.cell? ⟨k, o, none⟩ = some v) (hne : ¬ k = b) : (w.setCell ⟨b, m, none⟩ v1).cell? ⟨k, o, none⟩ = some v :=
  (World.cell?_setCell_other _ _ _ _ (by simp [hne])).trans h
theorem keep_alloc {w : World} {p : Addr} {v : Value} {o : Obj} (h : w.cell? p = some v) : (w.alloc o).cell? p = some v := (World.cell?_alloc_lt w o p (lt_of_cell h)).trans h
set_option maxRecDepth 100000 in
set_option maxHeartbeats 8000000 in
theorem partsSum_walk (A : Option Addr) (len cap : Nat) (hlc : len ≤ cap) (w : World) (hc : Code8 w w.heap.size A len) :
    Calls Try.prog 13 #[.slice A len cap] w fun e w' => e = .returned (.bool true) ∧ Below w.heap.size w w' := by
  by_cases hbig : 1048576 < len
  · go_enter Try.func13, Try.ntmps13
    go_wp2
    go_returns
    exact ⟨rfl, Below.refl _ _⟩
  · go_enter Try.func13, Try.ntmps13
    go_wp2_with fail
    refine (DrawImageParts_c A len cap hlc w hc).mono ?_
    rintro e wc ⟨W, v, rows, rfl, hI, hl6, hW⟩
    obtain ⟨B, cp, rfl⟩ := hI.len
    obtain ⟨W1, e_W1⟩ : ∃ W0, W0 = World.alloc wc (.cells #[.int .i64 W, .slice B rows.length cp] 27) := ⟨_, rfl⟩
    have hx_W1 := Box2.new wc (.int .i64 W) (.slice B rows.length cp) 27
    have hb_W1 : Below (World.heap wc).size wc W1 := by rw [e_W1]; go_grown
    have HS_W1 := Lib.hid (show (World.heap W1).size = (World.heap wc).size + 1 by rw [e_W1]; simp)
    replace hW := hW.trans (Below.mono hb_W1 hW.size)
    replace hI := (hI.below hb_W1).more (Below.size hb_W1)
    have HE_W1 := Lib.hid e_W1
    clear e_W1
    go_wp2_with fail
    rw [← HE_W1.out] at hx_W1 ⊢
    clear HE_W1
    obtain ⟨hl_x, x0, x1⟩ := hx_W1
    obtain ⟨Bx, e_Bx⟩ : ∃ Bx, Bx = (World.heap wc).size := ⟨_, rfl⟩
    rw [← e_Bx] at hl_x x0 x1 hb_W1 HS_W1  ⊢
    have hz_Bx := hb_W1.size
    clear e_Bx hb_W1
    refine (ImageParts_c W _ rows W1 hI).mono ?_
    rintro e wc ⟨rfl, hb⟩
    replace hW := hW.trans (Below.mono hb hW.size)
    replace hI := (hI.below hb).more (Below.size hb)
    replace x0 := cellB hb x0
    replace x1 := cellB hb x1
    go_wp2_with fail
    refine (sImageParts_c W _ rows _ hI).mono ?_
    rintro e wc ⟨rfl, hb⟩
    replace hW := hW.trans (Below.mono hb hW.size)
    replace hI := (hI.below hb).more (Below.size hb)
    replace x0 := cellB hb x0
    replace x1 := cellB hb x1
    have hob := onParts_bd W rows
    obtain ⟨a, ea⟩ : ∃ a, a = onImg (-1) partsN W rows := ⟨_, rfl⟩
    rw [← ea] at hob ⊢
    by_cases hneg : a < 0
    · clear ea
      go_wp2
      go_returns
      exact ⟨rfl, hW⟩
    · have hval : validB W rows = true := by
        cases hv : validB W rows with
        | true => rfl
        | false => rw [onImg_no hv] at ea; omega
      obtain ⟨n, ns, rfl, rfl, hV⟩ := validB_yes hval
      rw [onImg_yes hV] at ea
      rw [length_casts] at x1 hI ⊢
      have h1 := hV.h1
      have h6 := hV.h6
      have w1 := hV.w1
      have w6 := hV.w6
      have EA := Lib.hid ea
      clear ea hval
      obtain ⟨Z, eZ⟩ : ∃ Z, Z = wc.heap.size := ⟨_, rfl⟩
      have hIZ : Ints Z wc (.slice B ns.length cp) (casts ns) := by rw [eZ]; exact hI
      have hxl : Bx < Z := by rw [eZ]; exact lt_of_cell x0
      obtain ⟨box, ebox⟩ : ∃ o, o = Obj.cells #[.int .i64 0, .slice none 0 0] 27 := ⟨_, rfl⟩
      have o1 := OwnI.empty (base := Z) wc.drew (by rw [eZ]; exact Nat.le_refl _)
      have o2 := o1.alloc (.cells #[.int .i64 0, .slice none 0 0] 27)
      have o3 : OwnI ((wc.drew.alloc (.cells #[.int .i64 0, .slice none 0 0] 27)).alloc (.cells #[] 3)) Z (.slice (some ⟨wc.heap.size + 1, 0, none⟩) 0 0) [] := by
        have := OwnI.empty (base := Z) (wc.drew.alloc (.cells #[.int .i64 0, .slice none 0 0] 27)) (by rw [eZ]; simp)
        rwa [show (World.heap (wc.drew.alloc (.cells #[.int .i64 0, .slice none 0 0] 27))).size = wc.heap.size + 1 by simp] at this
      have i1 := hIZ.drew.alloc (w := wc.drew) (by rw [eZ]; exact Nat.le_refl _) (.cells #[] 3)
      have i2 := i1.alloc (by rw [eZ]; simp) (.cells #[.int .i64 0, .slice none 0 0] 27)
      have i3 := (hIZ.drew.alloc (w := wc.drew) (by rw [eZ]; exact Nat.le_refl _) (.cells #[.int .i64 0, .slice none 0 0] 27)).alloc (by rw [eZ]; simp) (.cells #[] 3)
      have hl : ([] : List Int).length + (casts ns).length ≤ 16777216 := by rw [length_casts]; simp; omega
      have HN : Hid (casts ns ≠ []) := Lib.hid (by intro e; have := congrArg List.length e; rw [length_casts, List.length_nil] at this; omega)
      have HO1 := Lib.hid o1
      have HO2 := Lib.hid o2
      have HO3 := Lib.hid o3
      have HI1 := Lib.hid i1
      have HI2 := Lib.hid i2
      have HI3 := Lib.hid i3
      have HL := Lib.hid hl
      have HS1 : Hid (Z ≤ (wc.drew.alloc (.cells #[] 3)).heap.size) := Lib.hid (by rw [eZ]; simp)
      have HS2 : Hid (Z ≤ ((wc.drew.alloc (.cells #[] 3)).alloc (.cells #[.int .i64 0, .slice none 0 0] 27)).heap.size) := Lib.hid (by rw [eZ]; simp; omega)
      have HS3 : Hid (Z ≤ ((wc.drew.alloc (.cells #[.int .i64 0, .slice none 0 0] 27)).alloc (.cells #[] 3)).heap.size) := Lib.hid (by rw [eZ]; simp; omega)
      have HB1 : Hid (Below Z wc (wc.drew.alloc (.cells #[] 3))) := Lib.hid (Below.undrew ((Below.refl Z wc.drew).alloc (by rw [eZ]; exact Nat.le_refl _) _))
      have HB2 : Hid (Below Z wc ((wc.drew.alloc (.cells #[] 3)).alloc (.cells #[.int .i64 0, .slice none 0 0] 27))) := Lib.hid (Below.undrew (((Below.refl Z wc.drew).alloc (by rw [eZ]; exact Nat.le_refl _) _).alloc (by rw [eZ]; simp) _))
      have HB3 : Hid (Below Z wc ((wc.drew.alloc (.cells #[.int .i64 0, .slice none 0 0] 27)).alloc (.cells #[] 3))) := Lib.hid (Below.undrew (((Below.refl Z wc.drew).alloc (by rw [eZ]; exact Nat.le_refl _) _).alloc (by rw [eZ]; simp) _))
      have HC2 : Hid ((((wc.drew.alloc (.cells #[] 3)).alloc (.cells #[.int .i64 0, .slice none 0 0] 27)).cell? ⟨wc.heap.size + 1, 0, none⟩ = some (.int .i64 0)) ∧ (((wc.drew.alloc (.cells #[] 3)).alloc (.cells #[.int .i64 0, .slice none 0 0] 27)).cell? ⟨wc.heap.size + 1, 1, none⟩ = some (.slice none 0 0)) ∧ (((wc.drew.alloc (.cells #[] 3)).alloc (.cells #[.int .i64 0, .slice none 0 0] 27)).frozen? ⟨wc.heap.size + 1, 0, none⟩ = false) ∧ (((wc.drew.alloc (.cells #[] 3)).alloc (.cells #[.int .i64 0, .slice none 0 0] 27)).frozen? ⟨wc.heap.size + 1, 1, none⟩ = false)) := Lib.hid ⟨by go_cell, by go_cell, by go_cell, by go_cell⟩
      have HC3 : Hid ((((wc.drew.alloc (.cells #[.int .i64 0, .slice none 0 0] 27)).alloc (.cells #[] 3)).cell? ⟨wc.heap.size, 0, none⟩ = some (.int .i64 0)) ∧ (((wc.drew.alloc (.cells #[.int .i64 0, .slice none 0 0] 27)).alloc (.cells #[] 3)).cell? ⟨wc.heap.size, 1, none⟩ = some (.slice none 0 0)) ∧ (((wc.drew.alloc (.cells #[.int .i64 0, .slice none 0 0] 27)).alloc (.cells #[] 3)).frozen? ⟨wc.heap.size, 0, none⟩ = false) ∧ (((wc.drew.alloc (.cells #[.int .i64 0, .slice none 0 0] 27)).alloc (.cells #[] 3)).frozen? ⟨wc.heap.size, 1, none⟩ = false)) := Lib.hid ⟨by go_cell, by go_cell, by go_cell, by go_cell⟩
      have hne1 : ¬ Bx = wc.heap.size := by omega
      have hne2 : ¬ Bx = wc.heap.size + 1 := by omega
      have EZ := Lib.hid eZ
      clear o1 o2 o3 i1 i2 i3 hl eZ hIZ ebox
      go_wp2_with fail
      go_region_held3 (fun w' : World => w'.cell? ⟨Bx, 0, none⟩ = some (.int .i64 (n : Int)) ∧ w'.cell? ⟨Bx, 1, none⟩ = some (.slice B ns.length cp)) (first | exact ⟨x0, x1⟩ | (refine ⟨?_, ?_⟩ <;> assumption) | go_keep | (refine ⟨keep_set2 (by assumption) (by assumption), keep_set2 (by assumption) (by assumption)⟩) | (refine ⟨keep_alloc (by assumption), keep_alloc (by assumption)⟩)) (((first
        | (refine step_app (v := .slice (some ⟨wc.heap.size, 0, none⟩) 0 0) rfl (.tmp 34) (.tmp 36) rfl rfl HO1.out rfl HI1.out HL.out HS1.out ?_; intro v6 w6 hown6 hgr6 hnn6 hat6; have hq6 := Below.app HB1.out HO1.out hgr6 (Nat.le_refl _) HS1.out)
        | (refine step_app (v := .slice (some ⟨wc.heap.size, 0, none⟩) 0 0) rfl (.tmp 34) (.tmp 36) rfl rfl HO2.out rfl HI2.out HL.out HS2.out ?_; intro v6 w6 hown6 hgr6 hnn6 hat6; have hq6 := Below.app HB2.out HO2.out hgr6 (Nat.le_refl _) HS2.out; have c0 := cell_only hgr6 HC2.out.1 (by simp); have c1 := cell_only hgr6 HC2.out.2.1 (by simp); have c2 := frozen_only hgr6 HC2.out.1 (by simp) HC2.out.2.2.1; have c3 := frozen_only hgr6 HC2.out.2.1 (by simp) HC2.out.2.2.2)
        | (refine step_app (v := .slice (some ⟨wc.heap.size + 1, 0, none⟩) 0 0) rfl (.tmp 34) (.tmp 36) rfl rfl HO3.out rfl HI3.out HL.out HS3.out ?_; intro v6 w6 hown6 hgr6 hnn6 hat6; have hq6 := Below.app HB3.out HO3.out hgr6 (Nat.le_refl _) HS3.out; have c0 := cell_only hgr6 HC3.out.1 (by simp); have c1 := cell_only hgr6 HC3.out.2.1 (by simp); have c2 := frozen_only hgr6 HC3.out.1 (by simp) HC3.out.2.2.1; have c3 := frozen_only hgr6 HC3.out.2.1 (by simp) HC3.out.2.2.2)); obtain ⟨g, c, rfl, hg, hr⟩ := hown6.row (hnn6 (.inr HN.out)); have k0 := (hq6.cell (p := ⟨Bx, 0, none⟩) hxl).trans x0; have k1 := (hq6.cell (p := ⟨Bx, 1, none⟩) hxl).trans x1; have hne3 : ¬ Bx = w6.heap.size := Nat.ne_of_lt (lt_of_cell k0)))
      all_goals first
        | (obtain ⟨W6, e6⟩ : ∃ W, W = w6.alloc (.cells #[.int .i64 (n : Int), .slice (some ⟨g, 0, none⟩) (casts ns).length c] 27) := ⟨_, rfl⟩
           obtain ⟨By, eB⟩ : ∃ b, b = w6.heap.size := ⟨_, rfl⟩
           have y0 : W6.cell? ⟨w6.heap.size, 0, none⟩ = some (.int .i64 (n : Int)) := by rw [e6]; go_cell
           have y1 : W6.cell? ⟨w6.heap.size, 1, none⟩ = some (.slice (some ⟨g, 0, none⟩) (casts ns).length c) := by rw [e6]; go_cell
           have hb6 : Below Z w6 W6 := by rw [e6]; exact (Below.refl _ _).alloc (by have h2 := hq6.size; have h3 := EZ.out; omega) _
           have hr6 : Row W6 g ([] ++ casts ns) := by rw [e6]; exact hr.alloc _
           rw [← eB] at y0 y1
           have hgB : ¬ g = By := by have := hr.lt; omega
           have hBZ : Z ≤ By := by have h2 := hq6.size; have h3 := EZ.out; omega
           rw [← e6, ← eB]
           clear e6 eB)
        | (obtain ⟨W6, e6⟩ : ∃ W, W = (w6.setCell ⟨wc.heap.size + 1, 0, none⟩ (.int .i64 (n : Int))).setCell ⟨wc.heap.size + 1, 1, none⟩ (.slice (some ⟨g, 0, none⟩) (casts ns).length c) := ⟨_, rfl⟩
           obtain ⟨By, eB⟩ : ∃ b, b = wc.heap.size + 1 := ⟨_, rfl⟩
           obtain ⟨y0, y1⟩ := set2_get (x := .int .i64 (n : Int)) (y := .slice (some ⟨g, 0, none⟩) (casts ns).length c) c0 c1
           have hob : g = wc.heap.size ∨ wc.heap.size + 2 ≤ g := by
             rcases hat6 with e | e <;> simp [Value.ownBlock] at e <;> omega
           have hb6 : Below Z w6 W6 := by rw [e6]; exact ((Below.refl _ _).setCell (by have := EZ.out; simp; omega) _).setCell (by have := EZ.out; simp; omega) _
           have hr6 : Row W6 g ([] ++ casts ns) := by rw [e6]; exact (hr.far (by simp; omega) _).far (by simp; omega) _
           rw [← e6, ← eB] at y0 y1
           have hgB : ¬ g = By := by omega
           have hBZ : Z ≤ By := by have h3 := EZ.out; omega
           rw [← e6, ← eB]
           clear e6 eB hob c0 c1 c2 c3)
        | (obtain ⟨W6, e6⟩ : ∃ W, W = (w6.setCell ⟨wc.heap.size, 0, none⟩ (.int .i64 (n : Int))).setCell ⟨wc.heap.size, 1, none⟩ (.slice (some ⟨g, 0, none⟩) (casts ns).length c) := ⟨_, rfl⟩
           obtain ⟨By, eB⟩ : ∃ b, b = wc.heap.size := ⟨_, rfl⟩
           obtain ⟨y0, y1⟩ := set2_get (x := .int .i64 (n : Int)) (y := .slice (some ⟨g, 0, none⟩) (casts ns).length c) c0 c1
           have hob : wc.heap.size + 1 ≤ g := by
             rcases hat6 with e | e <;> simp [Value.ownBlock] at e <;> omega
           have hb6 : Below Z w6 W6 := by rw [e6]; exact ((Below.refl _ _).setCell (by have := EZ.out; simp; omega) _).setCell (by have := EZ.out; simp; omega) _
           have hr6 : Row W6 g ([] ++ casts ns) := by rw [e6]; exact (hr.far (by simp; omega) _).far (by simp; omega) _
           rw [← e6, ← eB] at y0 y1
           have hgB : ¬ g = By := by omega
           have hBZ : Z ≤ By := by have h3 := EZ.out; omega
           rw [← e6, ← eB]
           clear e6 eB hob c0 c1 c2 c3)
      all_goals
        rw [List.nil_append] at hr6
        rw [length_casts] at y1
        have hW6 : Below w.heap.size w W6 := hW.trans ((hq6.trans hb6).mono (by have := hW.size; have := EZ.out; omega))
        have hgw : w.heap.size ≤ g := by have := hW.size; have := EZ.out; omega
        have hBw : w.heap.size ≤ By := by have := hW.size; have := EZ.out; omega
        obtain ⟨P, eP⟩ : ∃ P : Nat, a = P := ⟨(partsL n ns).length, by rw [EA.out]; rfl⟩
        subst eP
        have hEA := EA.out
        clear hq6 hb6 hr hgr6 hown6 hnn6 hat6 k0 k1 hW hI x0 x1 HO1 HO2 HO3 HI1 HI2 HI3 HS1 HS2 HS3 HB1 HB2 HB3 HC2 HC3 HL HN hne1 hne2 hne3 hxl hBZ hg EZ EA hob
        have hP36 : P ≤ 36 := by have := (partsN_le2 hV).2; omega
        have hstart : partsN n ns = (P : Int) - (0 : Nat) := by omega
        have HST := Lib.hid hstart
        clear hEA hstart
        go_wp2_with fail
        go_loopw [7] (fun s wr => ∃ (k : Nat) (bs : List Nat), s = .int .i64 k ∧ k ≤ P ∧ VImg n bs ∧ bs.length = ns.length ∧ partsN n bs = (P : Int) - k ∧ Row wr g (casts bs) ∧ Below w.heap.size w wr ∧ wr.cell? ⟨By, 0, none⟩ = some (.int .i64 (n : Int)) ∧ wr.cell? ⟨By, 1, none⟩ = some (.slice (some ⟨g, 0, none⟩) ns.length c)) (fun s _ => P - (intOf s).toNat)
        case atStart => exact ⟨0, ns, rfl, by omega, hV, rfl, HST.out, hr6, hW6, y0, y1⟩
        case round =>
          clear hr6 hW6 y0 y1
          obtain ⟨k, bs, rfl, hk, hVb, hbl, hpb, hr6, hW6, y0, y1⟩ := hrel
          have HPB := Lib.hid hpb
          have HBL := Lib.hid hbl
          clear hpb hbl
          by_cases hkP : k < P
          · have hpos : 0 < partsN n bs := by have := HPB.out; omega
            go_wp2_with fail
            go_loop [8] (fun s => ∃ i : Nat, s = .int .i64 i ∧ i < ns.length ∧ ∀ t, t < i → bs.getD t 0 = 0) (fun s => ns.length - (intOf s).toNat)
            case atStart => exact ⟨0, rfl, by omega, fun t ht => by omega⟩
            case round =>
              obtain ⟨i, rfl, hi, hz⟩ := hrel
              have HZ := Lib.hid hz
              clear hz
              have hci := hr6.cell (k := i) (by rw [length_casts, HBL.out]; exact hi)
              rw [casts_getD] at hci
              obtain ⟨r, er⟩ : ∃ r, r = bs.getD i 0 := ⟨_, rfl⟩
              rw [← er] at hci
              have HR := Lib.hid er
              clear er
              by_cases hgo : i + 1 < ns.length ∧ r = 0
              · obtain ⟨hg1, rfl⟩ := hgo
                have hlt : (i : Int) < (ns.length : Int) - 1 := by omega
                go_wp2
                go_round
                case rel =>
                  refine ⟨i + 1, by go_num, by omega, fun t ht => ?_⟩
                  by_cases e : t = i
                  · rw [e]; exact HR.out.symm
                  · exact HZ.out t (by omega)
                case measure => simp [intOf]; omega
              · have hnz : bs.getD i 0 ≠ 0 := row_nz hVb hpos HZ.out (by rw [← HR.out, HBL.out]; omega)
                have HNZ := Lib.hid hnz
                clear hnz
                have hsp : ¬ (i : Int) < (ns.length : Int) - 1 ∨ ((i : Int) < (ns.length : Int) - 1 ∧ ¬ r = 0) := by omega
                clear hgo
                rcases hsp with hlt | ⟨hlt, hr0⟩
                all_goals
                  go_wp2_with fail
                  go_loopw [9] (fun s wr => ∃ j : Nat, s = .int .i64 j ∧ j < n ∧ (∀ t, t < j → cell bs i t = false) ∧ Row wr g (casts bs) ∧ Below w.heap.size w wr ∧ wr.cell? ⟨By, 0, none⟩ = some (.int .i64 (n : Int)) ∧ wr.cell? ⟨By, 1, none⟩ = some (.slice (some ⟨g, 0, none⟩) ns.length c)) (fun s _ => n - (intOf s).toNat)
                  case atStart => exact ⟨0, rfl, by omega, fun t ht => by omega, hr6, hW6, y0, y1⟩
                  case round =>
                    clear hr6 hW6 y0 y1 hci hlt
                    try clear hr0
                    obtain ⟨j, rfl, hj, hz, hr6, hW6, y0, y1⟩ := hrel
                    have HZJ := Lib.hid hz
                    clear hz
                    by_cases hjl : (j : Int) < (n : Int) - 1
                    · cases hcc : cell bs i j with
                      | false =>
                        have HCC := Lib.hid hcc
                        clear hcc
                        go_wp2_with fail
                        refine (ImageHas_v n _ bs hVb i j _ (hr6.intsH (c := c) HBL.out)).mono ?_
                        rintro e wc ⟨rfl, hb⟩
                        rw [cellZ_nat, HCC.out]
                        replace hr6 := hr6.below hb hr6.lt
                        replace hW6 := hW6.trans (Below.mono hb hW6.size)
                        replace y0 := cellB hb y0
                        replace y1 := cellB hb y1
                        go_wp2
                        go_roundw
                        case rel =>
                          refine ⟨j + 1, by go_num, by omega, fun t ht => ?_, hr6, hW6, y0, y1⟩
                          by_cases e : t = j
                          · rw [e]; exact HCC.out
                          · exact HZJ.out t (by omega)
                        case measure => simp [intOf]; omega
                      | true =>
                        have HCC := Lib.hid hcc
                        clear hcc
                        go_wp2_with fail
                        refine (ImageHas_v n _ bs hVb i j _ (hr6.intsH (c := c) HBL.out)).mono ?_
                        rintro e wc ⟨rfl, hb⟩
                        rw [cellZ_nat, HCC.out]
                        replace hr6 := hr6.below hb hr6.lt
                        replace hW6 := hW6.trans (Below.mono hb hW6.size)
                        replace y0 := cellB hb y0
                        replace y1 := cellB hb y1
                        obtain ⟨ms, em⟩ : ∃ ms, ms = compL (cell bs) false bs.length n (i, j) := ⟨_, rfl⟩
                        obtain ⟨rs, er⟩ : ∃ rs, rs = restL (cell bs) false bs.length n (i, j) := ⟨_, rfl⟩
                        obtain ⟨hms, hrs, hml, hrl, hpr, hrow⟩ := rest_parts hVb HCC.out em er
                        have G := ImagePart_yes n _ bs hVb i j HCC.out _ (hr6.intsH (c := c) HBL.out)
                        rw [← em] at G
                        have HPR := Lib.hid (And.intro hpr (And.intro hrow (And.intro hrl hml)))
                        clear em er hpr hrow hrl hml
                        go_wp2_with fail
                        have hgl0 := hr6.lt
                        refine G.mono ?_
                        rintro e wc ⟨g2, c2, rfl, hg2, hr2, hb⟩
                        clear G
                        replace hr6 := hr6.below hb hr6.lt
                        replace hW6 := hW6.trans (Below.mono hb hW6.size)
                        replace y0 := cellB hb y0
                        replace y1 := cellB hb y1
                        have hne2 : ¬ g2 = g := by omega
                        rw [HPR.out.2.2.2, HBL.out]
                        have hgl := hr6.lt
                        obtain ⟨W7, e_W7⟩ : ∃ W0, W0 = World.alloc wc (.cells #[.int .i64 (n : Int), .slice (some ⟨g2, 0, none⟩) ns.length c2] 27) := ⟨_, rfl⟩
                        have hx_W7 := Box2.new wc (.int .i64 (n : Int)) (.slice (some ⟨g2, 0, none⟩) ns.length c2) 27
                        have hb_W7 : Below (World.heap wc).size wc W7 := by rw [e_W7]; go_grown
                        have HS_W7 := Lib.hid (show (World.heap W7).size = (World.heap wc).size + 1 by rw [e_W7]; simp)
                        replace hr6 := hr6.below hb_W7 hr6.lt
                        replace hW6 := hW6.trans (Below.mono hb_W7 hW6.size)
                        replace y0 := cellB hb_W7 y0
                        replace y1 := cellB hb_W7 y1
                        replace hr2 := hr2.below hb_W7 hr2.lt
                        have y0r := y0
                        rw [e_W7] at y0r
                        have y1r := y1
                        rw [e_W7] at y1r
                        have HE_W7 := Lib.hid e_W7
                        clear e_W7
                        go_wp2_with fail
                        rw [← HE_W7.out] at hx_W7 ⊢
                        clear y0r y1r
                        clear HE_W7
                        obtain ⟨hl_u, u0, u1⟩ := hx_W7
                        obtain ⟨Bu, e_Bu⟩ : ∃ Bx, Bx = (World.heap wc).size := ⟨_, rfl⟩
                        rw [← e_Bu] at hl_u u0 u1 hb_W7 HS_W7 hgl ⊢
                        have hz_Bu := hb_W7.size
                        clear e_Bu hb_W7
                        have hm0 := mixTo_zero rs bs
                        have HM0 := Lib.hid hm0
                        clear hm0
                        go_wp2_with fail
                        go_loopw [12] (fun s wr => ∃ m : Nat, s = .int .i64 m ∧ m ≤ ns.length ∧ Row wr g (casts (mixTo rs bs m)) ∧ Row wr g2 (casts ms) ∧ Below w.heap.size w wr ∧ wr.cell? ⟨By, 0, none⟩ = some (.int .i64 (n : Int)) ∧ wr.cell? ⟨By, 1, none⟩ = some (.slice (some ⟨g, 0, none⟩) ns.length c) ∧ wr.cell? ⟨Bu, 1, none⟩ = some (.slice (some ⟨g2, 0, none⟩) ns.length c2)) (fun s _ => ns.length - (intOf s).toNat)
                        case atStart => exact ⟨0, rfl, by omega, by rw [HM0.out]; exact hr6, hr2, hW6, y0, y1, u1⟩
                        case round =>
                          clear hr6 hr2 hW6 y0 y1 u0 u1
                          obtain ⟨m, rfl, hm, hr6, hr2, hW6, y0, y1, u1⟩ := hrel
                          obtain ⟨hpr, hrow, hrl, hml⟩ := HPR.out
                          have hrb : rs.length = bs.length := hrl
                          by_cases hmn : m < ns.length
                          · have hq1 := hr6.cell (k := m) (by rw [length_casts, length_mixTo hrb (by rw [HBL.out]; exact hm), HBL.out]; exact hmn)
                            have hq2 := hr2.cell (k := m) (by rw [length_casts, hml, HBL.out]; exact hmn)
                            have hqf := hr6.frozen m
                            rw [casts_getD, mixTo_get hrb (by rw [HBL.out]; exact hmn)] at hq1
                            rw [casts_getD] at hq2
                            obtain ⟨hz1, hz2⟩ := hrow m
                            have hst := mixTo_step hrb (k := m) (by rw [HBL.out]; exact hmn)
                            have hlen : m < (casts (mixTo rs bs m)).length := by rw [length_casts, length_mixTo hrb (by rw [HBL.out]; exact hm), HBL.out]; exact hmn
                            have hr64 := hVb.get64 m
                            obtain ⟨x, ex⟩ : ∃ x, x = bs.getD m 0 := ⟨_, rfl⟩
                            obtain ⟨y, ey⟩ : ∃ y, y = ms.getD m 0 := ⟨_, rfl⟩
                            rw [← ex] at hq1 hz1 hz2 hr64
                            rw [← ey] at hq2 hz1 hz2
                            have HL := Lib.hid hlen
                            have HST := Lib.hid hst
                            have HZ1 := Lib.hid hz1
                            have ew : IntKind.i64.wrap ((x : Int) - y) = (x : Int) - y := IntWalk.i64_in _ ⟨by omega, by omega⟩
                            have k0 := cell_regrown y1
                            have k1 := cell_regrown u1
                            have k2 := cell_regrown hq1
                            have k3 := cell_regrown hq2
                            clear ex ey hst hlen hz1 hpr hrow hrl hml hrb
                            go_wp2_with fail
                            refine wp_region_below_tail 15 (by kernel_rfl) (by kernel_rfl) ?_
                            simp only [List.take_succ_cons, List.take_zero, List.drop_succ_cons, List.drop_zero]
                            repeat (first | go_big_quiet_step (fail) | quiet_step (fail))
                            refine wpQuiet_nil ?_
                            intro _ hw0
                            obtain ⟨⟨dq, osq⟩, hw1⟩ := hw0
                            subst hw1
                            have hq := below_regrown wr dq osq
                            generalize Go.Sort.grow (redrawn wr dq) osq = w2 at hq ⊢
                            clear k0 k1 k2 k3 ew
                            replace hr6 := hr6.below hq hr6.lt
                            replace hr2 := hr2.below hq hr2.lt
                            replace hW6 := hW6.trans (Below.mono hq hW6.size)
                            replace y0 := cellB hq y0
                            replace y1 := cellB hq y1
                            replace u1 := cellB hq u1
                            replace hq1 := cellB hq hq1
                            replace hqf := hr6.frozen m
                            have hset := hr6.set (k := m) HL.out ((rs.getD m 0 : Nat) : Int)
                            rw [casts_set, HST.out, HZ1.out, show ((x - y : Nat) : Int) = (x : Int) - y by omega] at hset
                            have hr2' := hr2.far (p := ⟨g, m, none⟩) hne2 (.int .i64 ((x : Int) - y))
                            have HS := Lib.hid (And.intro hset (And.intro hr2' hW6))
                            clear hset hr2' hr6 hr2 hW6
                            go_wp2
                            go_roundw
                            case rel => exact ⟨m + 1, by go_num, by omega, HS.out.1, HS.out.2.1, HS.out.2.2.setCell (by simp; omega) _, keep_set1 y0 (by omega), keep_set1 y1 (by omega), keep_set1 u1 (by omega)⟩
                            case measure => simp [intOf]; omega
                          · obtain rfl : m = ns.length := by omega
                            rw [← HBL.out, mixTo_all hrb] at hr6
                            have HS := Lib.hid (And.intro hr6 (And.intro hW6 hrs))
                            clear hr6 hW6 hr2 hpr hrow hrl hml hrb
                            go_wp2
                            go_roundw
                            case rel => exact ⟨k + 1, rs, by go_num, by omega, HS.out.2.2, by rw [HPR.out.2.2.1, HBL.out], by have h2 := HPR.out.1; have h3 := HPB.out; omega, HS.out.1, HS.out.2.1, y0, y1⟩
                            case measure => simp [intOf]; omega
                    · have HCC := Lib.hid (cell_nz hVb HNZ.out HZJ.out (.inl (by omega)))
                      obtain ⟨ms, em⟩ : ∃ ms, ms = compL (cell bs) false bs.length n (i, j) := ⟨_, rfl⟩
                      obtain ⟨rs, er⟩ : ∃ rs, rs = restL (cell bs) false bs.length n (i, j) := ⟨_, rfl⟩
                      obtain ⟨hms, hrs, hml, hrl, hpr, hrow⟩ := rest_parts hVb HCC.out em er
                      have G := ImagePart_yes n _ bs hVb i j HCC.out _ (hr6.intsH (c := c) HBL.out)
                      rw [← em] at G
                      have HPR := Lib.hid (And.intro hpr (And.intro hrow (And.intro hrl hml)))
                      clear em er hpr hrow hrl hml
                      go_wp2_with fail
                      have hgl0 := hr6.lt
                      refine G.mono ?_
                      rintro e wc ⟨g2, c2, rfl, hg2, hr2, hb⟩
                      clear G
                      replace hr6 := hr6.below hb hr6.lt
                      replace hW6 := hW6.trans (Below.mono hb hW6.size)
                      replace y0 := cellB hb y0
                      replace y1 := cellB hb y1
                      have hne2 : ¬ g2 = g := by omega
                      rw [HPR.out.2.2.2, HBL.out]
                      have hgl := hr6.lt
                      obtain ⟨W7, e_W7⟩ : ∃ W0, W0 = World.alloc wc (.cells #[.int .i64 (n : Int), .slice (some ⟨g2, 0, none⟩) ns.length c2] 27) := ⟨_, rfl⟩
                      have hx_W7 := Box2.new wc (.int .i64 (n : Int)) (.slice (some ⟨g2, 0, none⟩) ns.length c2) 27
                      have hb_W7 : Below (World.heap wc).size wc W7 := by rw [e_W7]; go_grown
                      have HS_W7 := Lib.hid (show (World.heap W7).size = (World.heap wc).size + 1 by rw [e_W7]; simp)
                      replace hr6 := hr6.below hb_W7 hr6.lt
                      replace hW6 := hW6.trans (Below.mono hb_W7 hW6.size)
                      replace y0 := cellB hb_W7 y0
                      replace y1 := cellB hb_W7 y1
                      replace hr2 := hr2.below hb_W7 hr2.lt
                      have y0r := y0
                      rw [e_W7] at y0r
                      have y1r := y1
                      rw [e_W7] at y1r
                      have HE_W7 := Lib.hid e_W7
                      clear e_W7
                      go_wp2_with fail
                      rw [← HE_W7.out] at hx_W7 ⊢
                      clear y0r y1r
                      clear HE_W7
                      obtain ⟨hl_u, u0, u1⟩ := hx_W7
                      obtain ⟨Bu, e_Bu⟩ : ∃ Bx, Bx = (World.heap wc).size := ⟨_, rfl⟩
                      rw [← e_Bu] at hl_u u0 u1 hb_W7 HS_W7 hgl ⊢
                      have hz_Bu := hb_W7.size
                      clear e_Bu hb_W7
                      have hm0 := mixTo_zero rs bs
                      have HM0 := Lib.hid hm0
                      clear hm0
                      go_wp2_with fail
                      go_loopw [12] (fun s wr => ∃ m : Nat, s = .int .i64 m ∧ m ≤ ns.length ∧ Row wr g (casts (mixTo rs bs m)) ∧ Row wr g2 (casts ms) ∧ Below w.heap.size w wr ∧ wr.cell? ⟨By, 0, none⟩ = some (.int .i64 (n : Int)) ∧ wr.cell? ⟨By, 1, none⟩ = some (.slice (some ⟨g, 0, none⟩) ns.length c) ∧ wr.cell? ⟨Bu, 1, none⟩ = some (.slice (some ⟨g2, 0, none⟩) ns.length c2)) (fun s _ => ns.length - (intOf s).toNat)
                      case atStart => exact ⟨0, rfl, by omega, by rw [HM0.out]; exact hr6, hr2, hW6, y0, y1, u1⟩
                      case round =>
                        clear hr6 hr2 hW6 y0 y1 u0 u1
                        obtain ⟨m, rfl, hm, hr6, hr2, hW6, y0, y1, u1⟩ := hrel
                        obtain ⟨hpr, hrow, hrl, hml⟩ := HPR.out
                        have hrb : rs.length = bs.length := hrl
                        by_cases hmn : m < ns.length
                        · have hq1 := hr6.cell (k := m) (by rw [length_casts, length_mixTo hrb (by rw [HBL.out]; exact hm), HBL.out]; exact hmn)
                          have hq2 := hr2.cell (k := m) (by rw [length_casts, hml, HBL.out]; exact hmn)
                          have hqf := hr6.frozen m
                          rw [casts_getD, mixTo_get hrb (by rw [HBL.out]; exact hmn)] at hq1
                          rw [casts_getD] at hq2
                          obtain ⟨hz1, hz2⟩ := hrow m
                          have hst := mixTo_step hrb (k := m) (by rw [HBL.out]; exact hmn)
                          have hlen : m < (casts (mixTo rs bs m)).length := by rw [length_casts, length_mixTo hrb (by rw [HBL.out]; exact hm), HBL.out]; exact hmn
                          have hr64 := hVb.get64 m
                          obtain ⟨x, ex⟩ : ∃ x, x = bs.getD m 0 := ⟨_, rfl⟩
                          obtain ⟨y, ey⟩ : ∃ y, y = ms.getD m 0 := ⟨_, rfl⟩
                          rw [← ex] at hq1 hz1 hz2 hr64
                          rw [← ey] at hq2 hz1 hz2
                          have HL := Lib.hid hlen
                          have HST := Lib.hid hst
                          have HZ1 := Lib.hid hz1
                          have ew : IntKind.i64.wrap ((x : Int) - y) = (x : Int) - y := IntWalk.i64_in _ ⟨by omega, by omega⟩
                          have k0 := cell_regrown y1
                          have k1 := cell_regrown u1
                          have k2 := cell_regrown hq1
                          have k3 := cell_regrown hq2
                          clear ex ey hst hlen hz1 hpr hrow hrl hml hrb
                          go_wp2_with fail
                          refine wp_region_below_tail 15 (by kernel_rfl) (by kernel_rfl) ?_
                          simp only [List.take_succ_cons, List.take_zero, List.drop_succ_cons, List.drop_zero]
                          repeat (first | go_big_quiet_step (fail) | quiet_step (fail))
                          refine wpQuiet_nil ?_
                          intro _ hw0
                          obtain ⟨⟨dq, osq⟩, hw1⟩ := hw0
                          subst hw1
                          have hq := below_regrown wr dq osq
                          generalize Go.Sort.grow (redrawn wr dq) osq = w2 at hq ⊢
                          clear k0 k1 k2 k3 ew
                          replace hr6 := hr6.below hq hr6.lt
                          replace hr2 := hr2.below hq hr2.lt
                          replace hW6 := hW6.trans (Below.mono hq hW6.size)
                          replace y0 := cellB hq y0
                          replace y1 := cellB hq y1
                          replace u1 := cellB hq u1
                          replace hq1 := cellB hq hq1
                          replace hqf := hr6.frozen m
                          have hset := hr6.set (k := m) HL.out ((rs.getD m 0 : Nat) : Int)
                          rw [casts_set, HST.out, HZ1.out, show ((x - y : Nat) : Int) = (x : Int) - y by omega] at hset
                          have hr2' := hr2.far (p := ⟨g, m, none⟩) hne2 (.int .i64 ((x : Int) - y))
                          have HS := Lib.hid (And.intro hset (And.intro hr2' hW6))
                          clear hset hr2' hr6 hr2 hW6
                          go_wp2
                          go_roundw
                          case rel => exact ⟨m + 1, by go_num, by omega, HS.out.1, HS.out.2.1, HS.out.2.2.setCell (by simp; omega) _, keep_set1 y0 (by omega), keep_set1 y1 (by omega), keep_set1 u1 (by omega)⟩
                          case measure => simp [intOf]; omega
                        · obtain rfl : m = ns.length := by omega
                          rw [← HBL.out, mixTo_all hrb] at hr6
                          have HS := Lib.hid (And.intro hr6 (And.intro hW6 hrs))
                          clear hr6 hW6 hr2 hpr hrow hrl hml hrb
                          go_wp2
                          go_roundw
                          case rel => exact ⟨k + 1, rs, by go_num, by omega, HS.out.2.2, by rw [HPR.out.2.2.1, HBL.out], by have h2 := HPR.out.1; have h3 := HPB.out; omega, HS.out.1, HS.out.2.1, y0, y1⟩
                          case measure => simp [intOf]; omega
          · skip
            have h0 : partsN n bs = 0 := by have := HPB.out; omega
            have G := ImageMany_c (n : Int) _ (casts bs) wr (hr6.intsH (c := c) HBL.out)
            rw [val0_yes hVb, none_many hVb h0] at G
            clear h0
            go_wp2_with fail
            refine G.mono ?_
            rintro e wc ⟨rfl, hb⟩
            replace hr6 := hr6.below hb hr6.lt
            replace hW6 := hW6.trans (Below.mono hb hW6.size)
            replace y0 := cellB hb y0
            replace y1 := cellB hb y1
            go_wp2
            go_returns
            exact ⟨rfl, hW6⟩
end Go.Proofs.Ytbblbdacdpokeaa
