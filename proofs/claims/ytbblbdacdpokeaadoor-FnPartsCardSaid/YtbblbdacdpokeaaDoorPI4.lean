/- Contracts of count, ImageOther. Conditions: the image is valid. -/
import Derived.Test.YtbblbdacdpokeaaDoorPI3
namespace Go.Proofs.YtbblbdacdpokeaaDoor
open Go.RowKit
open Gr
theorem count_c (b : Bool) (w : World) : Calls Tryd.prog 35 #[.bool b] w fun e w' => e = .returned (.int .i64 (b2i b)) ∧ w = w' := by
  cases b with
  | true =>
    go_enter Tryd.func35, Tryd.ntmps35
    go_wp2
    go_returns
    exact ⟨rfl, rfl⟩
  | false =>
    go_enter Tryd.func35, Tryd.ntmps35
    go_wp2
    go_returns
    exact ⟨rfl, rfl⟩
/-- The image whose cells are set where those of an image are not. -/
def otherL (w : Nat) (ns : List Nat) : List Nat := ns.map fun r => r ^^^ (2 ^ w - 1)
theorem length_other (w : Nat) (ns : List Nat) : (otherL w ns).length = ns.length := by simp [otherL]
theorem mask_bit (w l : Nat) : (2 ^ w - 1).testBit l = decide (l < w) := by simp [Nat.testBit_two_pow_sub_one]
theorem other_lt {w : Nat} {ns : List Nat} (h : ∀ n ∈ ns, n < 2 ^ w) : ∀ n ∈ otherL w ns, n < 2 ^ w := by
  intro n hn
  obtain ⟨r, hr, rfl⟩ := List.mem_map.1 hn
  have := Nat.two_pow_pos w
  exact Nat.xor_lt_two_pow (h r hr) (by omega)
theorem cell_other {w : Nat} {ns : List Nat} (hz : Sized ns.length w ns) (i j : Nat) : cell (otherL w ns) i j = Co ns.length w (cell ns) i j := by
  unfold Co
  by_cases hi : i < ns.length
  · unfold cell otherL
    rw [List.getD_eq_getElem?_getD, List.getElem?_map, List.getD_eq_getElem?_getD, List.getElem?_eq_getElem hi]
    simp only [Option.map_some, Option.getD_some, Nat.testBit_xor, mask_bit, hi, decide_true, Bool.true_and]
    by_cases hj : j < w
    · simp [hj]
    · have : (ns[i]).testBit j = false := by
        have h1 := hz.2 _ (List.getElem_mem hi)
        exact Nat.testBit_lt_two_pow (Nat.lt_of_lt_of_le h1 (Nat.pow_le_pow_right (by omega) (by omega)))
      simp [hj, this]
  · have e : cell (otherL w ns) i j = false := by
      unfold cell otherL
      rw [List.getD_eq_getElem?_getD, List.getElem?_eq_none (by simpa using hi)]
      simp
    rw [e]
    simp [hi]
theorem vimg_other {w : Nat} {ns : List Nat} (h : VImg w ns) : VImg w (otherL w ns) := ⟨h.w1, h.w6, by rw [length_other]; exact h.h1, by rw [length_other]; exact h.h6, other_lt h.hi⟩
/-- The first k rows changed. -/
def otherTo (w : Nat) (ns : List Nat) (k : Nat) : List Nat := (otherL w ns).take k ++ ns.drop k
theorem otherTo_zero (w : Nat) (ns : List Nat) : otherTo w ns 0 = ns := by simp [otherTo]
theorem otherTo_all (w : Nat) (ns : List Nat) : otherTo w ns ns.length = otherL w ns := by
  unfold otherTo
  rw [List.take_of_length_le (by rw [length_other]; omega)]
  simp
theorem length_otherTo (w : Nat) (ns : List Nat) {k : Nat} (hk : k ≤ ns.length) : (otherTo w ns k).length = ns.length := by
  unfold otherTo
  rw [List.length_append, List.length_take, List.length_drop, length_other]
  omega
theorem otherTo_get (w : Nat) (ns : List Nat) {k : Nat} (hk : k < ns.length) : (otherTo w ns k).getD k 0 = ns.getD k 0 := by
  unfold otherTo
  rw [List.getD_eq_getElem?_getD, List.getElem?_append_right (by rw [List.length_take, length_other]; omega), List.length_take, length_other, Nat.min_eq_left (by omega), Nat.sub_self, List.getElem?_drop, List.getD_eq_getElem?_getD]
  rfl
theorem otherTo_step (w : Nat) (ns : List Nat) {k : Nat} (hk : k < ns.length) : (otherTo w ns k).set k (ns.getD k 0 ^^^ (2 ^ w - 1)) = otherTo w ns (k + 1) := by
  unfold otherTo
  have hl : ((otherL w ns).take k).length = k := by rw [List.length_take, length_other]; omega
  rw [List.set_append_right _ _ (by omega), hl, Nat.sub_self]
  have e : ns.drop k = ns[k] :: ns.drop (k + 1) := List.drop_eq_getElem_cons hk
  rw [e, List.set_cons_zero, List.take_succ_eq_append_getElem (by rw [length_other]; exact hk), List.append_assoc]
  congr 1
  simp [otherL, List.getD_eq_getElem?_getD, List.getElem?_eq_getElem hk]
theorem mask_val {w : Nat} (h : w ≤ 6) : wrap64 (2 ^ w) = pw w := by
  have h1 := pw_6 h
  have h2 := pw_pos w
  have e : (2 : Int) ^ w = pw w := by unfold pw; simp
  rw [e]
  exact IntWalk.wrap64_in _ ⟨by omega, by omega⟩
/-- The memory of a function that changes a copy of an image: the copy in block g, boxed at Bo. -/
structure IMem (w wr : World) (n h g c Bo cap : Nat) (A : Option Addr) (ms : List Nat) : Prop where
  row : Row wr g (casts ms)
  bel : Below w.heap.size w wr
  x0 : wr.cell? ⟨w.heap.size, 0, none⟩ = some (.int .i64 (n : Int))
  x1 : wr.cell? ⟨w.heap.size, 1, none⟩ = some (.slice A h cap)
  r0 : wr.cell? ⟨w.heap.size + 1, 0, none⟩ = some (.int .i64 0)
  r1 : wr.cell? ⟨w.heap.size + 1, 1, none⟩ = some (.slice none 0 0)
  rf0 : wr.frozen? ⟨w.heap.size + 1, 0, none⟩ = false
  rf1 : wr.frozen? ⟨w.heap.size + 1, 1, none⟩ = false
  o0 : wr.cell? ⟨Bo, 0, none⟩ = some (.int .i64 (n : Int))
  o1 : wr.cell? ⟨Bo, 1, none⟩ = some (.slice (some ⟨g, 0, none⟩) h c)
theorem IMem.below {w wr w2 : World} {n h g c Bo cap : Nat} {A : Option Addr} {ms : List Nat} (hm : IMem w wr n h g c Bo cap A ms) (hb : Below wr.heap.size wr w2) : IMem w w2 n h g c Bo cap A ms :=
  ⟨hm.row.below hb hm.row.lt, hm.bel.trans (hb.mono hm.bel.size), cellB hb hm.x0, cellB hb hm.x1, cellB hb hm.r0, cellB hb hm.r1, frozenB hb hm.r0 hm.rf0, frozenB hb hm.r1 hm.rf1, cellB hb hm.o0, cellB hb hm.o1⟩
theorem IMem.set {w wr : World} {n h g c Bo cap : Nat} {A : Option Addr} {ms : List Nat} (hm : IMem w wr n h g c Bo cap A ms) (hg : w.heap.size + 2 ≤ g) (hgB : g < Bo) {k : Nat} (hk : k < ms.length) (z : Nat) : IMem w (wr.setCell ⟨g, k, none⟩ (.int .i64 (z : Int))) n h g c Bo cap A (ms.set k z) := by
  have hs := hm.row.set (k := k) (by rw [length_casts]; exact hk) (z : Int)
  rw [casts_set] at hs
  exact ⟨hs, hm.bel.setCell (by simp; omega) _, (World.cell?_setCell_other _ _ _ _ (by simp <;> omega)).trans hm.x0, (World.cell?_setCell_other _ _ _ _ (by simp <;> omega)).trans hm.x1, (World.cell?_setCell_other _ _ _ _ (by simp <;> omega)).trans hm.r0, (World.cell?_setCell_other _ _ _ _ (by simp <;> omega)).trans hm.r1,
   by rw [World.frozen?_setCell]; exact hm.rf0, by rw [World.frozen?_setCell]; exact hm.rf1, (World.cell?_setCell_other _ _ _ _ (by simp <;> omega)).trans hm.o0, (World.cell?_setCell_other _ _ _ _ (by simp <;> omega)).trans hm.o1⟩
theorem IMem.only {w wr w2 : World} {n h g c Bo cap : Nat} {A : Option Addr} {ms ms' : List Nat} (hm : IMem w wr n h g c Bo cap A ms) (hg : wr.grownBy w2 (some g)) (hr : Row w2 g (casts ms')) (hgw : w.heap.size + 2 ≤ g) (hgB : g < Bo) : IMem w w2 n h g c Bo cap A ms' :=
  ⟨hr, bel_only hm.bel hg (by omega), cell_only hg hm.x0 (by simp; omega), cell_only hg hm.x1 (by simp; omega), cell_only hg hm.r0 (by simp; omega), cell_only hg hm.r1 (by simp; omega), frozen_only hg hm.r0 (by simp; omega) hm.rf0, frozen_only hg hm.r1 (by simp; omega) hm.rf1, cell_only hg hm.o0 (by simp; omega), cell_only hg hm.o1 (by simp; omega)⟩
theorem IMem.fin {w wr : World} {n h g c Bo cap : Nat} {A : Option Addr} {ms : List Nat} (hm : IMem w wr n h g c Bo cap A ms) (hg : w.heap.size + 2 ≤ g) (hl : ms.length = h) : ImgOut w n ms (.returned (.tuple #[.agg #[.int .i64 (n : Int), .slice (some ⟨g, 0, none⟩) h c], .bool true])) ((wr.setCell ⟨w.heap.size + 1, 0, none⟩ (.int .i64 (n : Int))).setCell ⟨w.heap.size + 1, 1, none⟩ (.slice (some ⟨g, 0, none⟩) h c)) :=
  ⟨g, c, by rw [hl], by omega, (hm.row.far (by simp; omega) _).far (by simp; omega) _, (hm.bel.setCell (by simp) _).setCell (by simp) _⟩
set_option maxRecDepth 100000 in
set_option maxHeartbeats 2000000 in
theorem ImageOther_c (n : Nat) (v : Value) (ns : List Nat) (hV : VImg n ns) (w : World) (hv : Ints w.heap.size w v (casts ns)) :
    Calls Tryd.prog 55 #[.agg #[.int .i64 (n : Int), v]] w (ImgOut w n (otherL n ns)) := by
  obtain ⟨A, cap, rfl⟩ := hv.len
  rw [length_casts] at hv ⊢
  have h1 := hV.h1
  have h6 := hV.h6
  have w1 := hV.w1
  have w6 := hV.w6
  obtain ⟨W0, e_W0⟩ : ∃ W1, W1 = (w.alloc (.cells #[.int .i64 (n : Int), .slice A ns.length cap] 25)).alloc (.cells #[.int .i64 0, .slice none 0 0] 25) := ⟨_, rfl⟩
  have hW : Below w.heap.size w W0 := by rw [e_W0]; go_grown
  have x0 : W0.cell? ⟨w.heap.size, 0, none⟩ = some (.int .i64 (n : Int)) := by rw [e_W0]; go_cell
  have x1 : W0.cell? ⟨w.heap.size, 1, none⟩ = some (.slice A ns.length cap) := by rw [e_W0]; go_cell
  have r0 : W0.cell? ⟨w.heap.size + 1, 0, none⟩ = some (.int .i64 0) := by rw [e_W0]; go_cell
  have r1 : W0.cell? ⟨w.heap.size + 1, 1, none⟩ = some (.slice none 0 0) := by rw [e_W0]; go_cell
  have rf0 : W0.frozen? ⟨w.heap.size + 1, 0, none⟩ = false := by rw [e_W0]; go_cell
  have rf1 : W0.frozen? ⟨w.heap.size + 1, 1, none⟩ = false := by rw [e_W0]; go_cell
  have hs : w.heap.size + 2 ≤ W0.heap.size := by rw [e_W0]; simp
  go_enter Tryd.func55, Tryd.ntmps55
  go_wp2_with fail
  rw [← e_W0]
  clear e_W0
  have hI := (Arg.new hv).below hW
  refine (ImageValid_c (n : Int) _ (casts ns) _ hI.ints).mono ?_
  rintro e wc ⟨rfl, hb⟩
  replace x0 := cellB hb x0
  replace x1 := cellB hb x1
  replace rf0 := frozenB hb r0 rf0
  replace r0 := cellB hb r0
  replace rf1 := frozenB hb r1 rf1
  replace r1 := cellB hb r1
  replace hW := hW.trans (Below.mono hb hW.size)
  replace hs := Nat.le_trans hs hb.size
  replace hI := hI.below hb
  rw [validB_of hV]
  clear hv
  go_wp2_with fail
  refine (clone_c (n : Int) _ (casts ns) (by rw [length_casts]; exact h1) (by rw [length_casts]; omega) _ hI.ints).mono ?_
  rintro e wc ⟨g, c, rfl, hg, hr, hb⟩
  rw [length_casts]
  have hgw : w.heap.size + 2 ≤ g := by omega
  have hgB : g < wc.heap.size := hr.lt
  replace x0 := cellB hb x0
  replace x1 := cellB hb x1
  replace rf0 := frozenB hb r0 rf0
  replace r0 := cellB hb r0
  replace rf1 := frozenB hb r1 rf1
  replace r1 := cellB hb r1
  replace hW := hW.trans (Below.mono hb hW.size)
  replace hs := Nat.le_trans hs hb.size
  replace hI := hI.below hb
  obtain ⟨W1, e_W1⟩ : ∃ W0, W0 = World.alloc wc (.cells #[.int .i64 (n : Int), .slice (some ⟨g, 0, none⟩) ns.length c] 25) := ⟨_, rfl⟩
  have hx_W1 := Box2.new wc (.int .i64 (n : Int)) (.slice (some ⟨g, 0, none⟩) ns.length c) 25
  have hb_W1 : Below (World.heap wc).size wc W1 := by rw [e_W1]; go_grown
  have HS_W1 := Lib.hid (show (World.heap W1).size = (World.heap wc).size + 1 by rw [e_W1]; simp)
  replace x0 := cellB hb_W1 x0
  replace x1 := cellB hb_W1 x1
  replace rf0 := frozenB hb_W1 r0 rf0
  replace r0 := cellB hb_W1 r0
  replace rf1 := frozenB hb_W1 r1 rf1
  replace r1 := cellB hb_W1 r1
  replace hW := hW.trans (Below.mono hb_W1 hW.size)
  replace hs := Nat.le_trans hs hb_W1.size
  replace hI := hI.below hb_W1
  replace hr := hr.below hb_W1 hr.lt
  have x0r := x0
  rw [e_W1] at x0r
  have x1r := x1
  rw [e_W1] at x1r
  have HE_W1 := Lib.hid e_W1
  clear e_W1
  go_wp2_with fail
  rw [← HE_W1.out] at hx_W1 ⊢
  clear x0r x1r
  clear HE_W1
  obtain ⟨hl_o, o0, o1⟩ := hx_W1
  obtain ⟨Bo, e_Bo⟩ : ∃ Bx, Bx = (World.heap wc).size := ⟨_, rfl⟩
  rw [← e_Bo] at hl_o o0 o1 hb_W1 HS_W1 hgB ⊢
  have hz_Bo := hb_W1.size
  clear e_Bo hb_W1
  go_loopw [15] (fun s wr => ∃ k : Nat, k ≤ ns.length ∧ s = .int .i64 k ∧ IMem w wr n ns.length g c Bo cap A (otherTo n ns k)) (fun s _ => ns.length - (intOf s).toNat)
  case atStart => exact ⟨0, by omega, rfl, by rw [otherTo_zero]; exact hr, hW, x0, x1, r0, r1, rf0, rf1, o0, o1⟩
  case round =>
    clear hr hW x0 x1 r0 r1 rf0 rf1 o0 o1 hI hs
    obtain ⟨k, hk, rfl, hm⟩ := hrel
    by_cases hkl : k < ns.length
    · have hlen := length_otherTo n ns hk
      have hcell := hm.row.cell (k := k) (by rw [length_casts, hlen]; exact hkl)
      rw [casts_getD, otherTo_get n ns hkl] at hcell
      have hr64 := hV.get64 k
      have hstep := otherTo_step n ns hkl
      obtain ⟨r, er⟩ : ∃ r, r = ns.getD k 0 := ⟨_, rfl⟩
      rw [← er] at hcell hr64 hstep
      have HST := Lib.hid hstep
      clear er hstep
      have hmv := mask_val w6
      have hp1 := pw_pos n
      have hp6 := pw_6 w6
      have ep : ((2 ^ n - 1 : Nat) : Int) = pw n - 1 := by have := Nat.two_pow_pos n; unfold pw; omega
      have hx := i64_xor_nat r (2 ^ n - 1) (by omega) (by have := pow6 w6; omega)
      rw [ep] at hx
      have ew : IntKind.i64.wrap (pw n - 1) = pw n - 1 := IntWalk.i64_in _ ⟨by omega, by omega⟩
      have x0 := hm.x0
      have o1 := hm.o1
      have k0 := cell_regrown x0
      have k1 := cell_regrown o1
      have k2 := cell_regrown hcell
      have HLEN := Lib.hid hlen
      clear hlen ep
      go_wp2_with fail
      refine wp_region_below_tail 11 (by kernel_rfl) (by kernel_rfl) ?_
      simp only [List.take_succ_cons, List.take_zero, List.drop_succ_cons, List.drop_zero]
      repeat (first | go_big_quiet_step (fail) | quiet_step (fail))
      refine wpQuiet_nil ?_
      intro _ hw0
      obtain ⟨⟨dq, osq⟩, hw1⟩ := hw0
      subst hw1
      have hq := below_regrown wr dq osq
      generalize Go.Sort.grow (redrawn wr dq) osq = w2 at hq ⊢
      clear k0 k1 k2 ew
      have hm2 := hm.below hq
      have hcell := cellB hq hcell
      have hf := hm2.row.frozen k
      have hm3 := hm2.set hgw hgB (k := k) (by rw [HLEN.out]; exact hkl) (r ^^^ (2 ^ n - 1))
      rw [HST.out] at hm3
      have HS := Lib.hid hm3
      clear hm2 hm3 hm x0 o1
      go_wp2
      go_roundw
      case rel => exact ⟨k + 1, by omega, by go_num, HS.out⟩
      case measure => simp [intOf]; omega
    · obtain rfl : k = ns.length := by omega
      rw [otherTo_all] at hm
      have o0 := hm.o0
      have o1 := hm.o1
      have r0 := hm.r0
      have r1 := hm.r1
      have rf0 := hm.rf0
      have rf1 := hm.rf1
      obtain ⟨q0, q1⟩ := set2_get (x := .int .i64 (n : Int)) (y := .slice (some ⟨g, 0, none⟩) ns.length c) r0 r1
      have HE := Lib.hid (hm.fin hgw (length_other n ns))
      clear hm
      go_wp2
      refine bodyPost_ret (res_img_b rfl _ _ rfl q0 q1) rfl ?_
      exact HE.out
end Go.Proofs.YtbblbdacdpokeaaDoor
