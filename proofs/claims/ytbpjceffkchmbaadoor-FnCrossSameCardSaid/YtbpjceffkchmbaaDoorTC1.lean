/- Contracts of the functions that tell whether an image has given sums in the direction 2, of ThreeCount and ThreeFirst. Conditions: the slices read as lists; the table of the steps stands. -/
import Derived.Test.YtbpjceffkchmbaaDoorIOC
import Derived.Test.YtbpjceffkchmbaaDoorEQ
import Derived.Test.YtbpjceffkchmbaaDoorTB6
namespace Go.Proofs.YtbpjceffkchmbaaDoor
open Go.RowKit
/-- Whether an image has given sums in the direction 2. -/
def pfD (n : Nat) (dg : List Int) (ns : List Nat) : Bool := decide (dirO 2 n ns = dg)
set_option maxRecDepth 100000 in
set_option maxHeartbeats 4000000 in
theorem thr_ThreeCount_1_c (Bd n h g c : Nat) (D : Option Addr) (dl dc : Nat) (dg : List Int) (hdl : dg.length ≤ 2097152) (ns : List Nat) (hV : VImg n ns) (hnl : ns.length = h) (w : World) (hR : Row w g (casts ns)) (hB : w.cell? ⟨Bd, 0, none⟩ = some (.slice D dl dc)) (hd : Ints w.heap.size w (.slice D dl dc) dg) (hD : Dirs w) :
    Calls Tryd.prog 73 #[imgV n h g c, .pointer (some ⟨Bd, 0, none⟩)] w fun e w' => e = .returned (.bool (pfD n dg ns)) ∧ Below w.heap.size w w' := by
  unfold imgV
  subst hnl
  have h6 := hV.h6
  have w6 := hV.w6
  have hI : Ints w.heap.size w (.slice (some ⟨g, 0, none⟩) ns.length c) (casts ns) := hR.intsH rfl
  have hW := Below.refl w.heap.size w
  clear hR
  go_enter Tryd.func73, Tryd.ntmps73
  obtain ⟨W0, e_W0⟩ : ∃ W0, W0 = World.alloc w (.cells #[.int .i64 (n : Int), .slice (some ⟨g, 0, none⟩) ns.length c] 25) := ⟨_, rfl⟩
  have hx_W0 := Box2.new w (.int .i64 (n : Int)) (.slice (some ⟨g, 0, none⟩) ns.length c) 25
  have hb_W0 : Below (World.heap w).size w W0 := by rw [e_W0]; go_grown
  have HS_W0 := Lib.hid (show (World.heap W0).size = (World.heap w).size + 1 by rw [e_W0]; simp)
  replace hI := (hI.below hb_W0).more (Below.size hb_W0)
  replace hd := (hd.below hb_W0).more (Below.size hb_W0)
  replace hB := cellB hb_W0 hB
  replace hW := hW.trans (Below.mono hb_W0 hW.size)
  have HE_W0 := Lib.hid e_W0
  clear e_W0
  go_wp2_with fail
  rw [← HE_W0.out] at hx_W0 ⊢
  clear HE_W0
  obtain ⟨hl_x, x0, x1⟩ := hx_W0
  obtain ⟨Bx, e_Bx⟩ : ∃ Bx, Bx = (World.heap w).size := ⟨_, rfl⟩
  rw [← e_Bx] at hl_x x0 x1 hb_W0 HS_W0  ⊢
  have hz_Bx := hb_W0.size
  clear e_Bx hb_W0
  have hDW := hD.below hW
  have hDd : Dirs W0.drew := ⟨hDW.lt, hDW.x, hDW.y⟩
  have HDS := DirSums_c 2 n (by omega) _ ns hV W0.drew hI.drew hDd
  rw [show ((2 : Nat) : Int) = 2 from rfl] at HDS
  have hdl2 := dirO_len 2 n ns
  have hLN := (lnN_eq (d := 2) (h := ns.length) (n := n) (by omega) (by omega) (by omega)).2
  obtain ⟨L, eL⟩ : ∃ L, L = lnN 2 ns.length n := ⟨_, rfl⟩
  rw [← eL] at HDS hdl2 hLN
  have HX := Lib.hid (And.intro hd (And.intro hW (And.intro hdl2 hdl)))
  clear eL hDW hDd hI hdl2 hd hdl
  go_region_held3 (fun w' : World => w'.cell? ⟨Bx, 0, none⟩ = some (.int .i64 (n : Int)) ∧ w'.cell? ⟨Bx, 1, none⟩ = some (.slice (some ⟨g, 0, none⟩) ns.length c) ∧ w'.cell? ⟨Bd, 0, none⟩ = some (.slice D dl dc)) (first | exact ⟨x0, x1, hB⟩ | (refine ⟨?_, ?_, ?_⟩ <;> assumption) | go_keep) (first | (go_at_call 10; (with_reducible refine HDS.mono ?_); rintro e wp ⟨gd, rfl, hgd, hRp, hbp'⟩; have hbp := Below.undrew hbp'; have p0 := cellB hbp x0; have p1 := cellB hbp x1; have p2 := cellB hbp hB; have hRI := hRp.ints hRp.lt L; rw [HX.out.2.2.1] at hRI; have hdp := (Ints.below HX.out.1 hbp).more hbp.size; clear hbp') | (go_at_call 50; (refine (sliceEq_c _ _ (dirO 2 n ns) dg (by rw [HX.out.2.2.1]; omega) wp hRI hdp).mono ?_); rintro e wq ⟨rfl, hbq⟩; have q0 := cellB hbq p0; have q1 := cellB hbq p1; have q2 := cellB hbq p2))
  all_goals
    have HB := Lib.hid (HX.out.2.1.trans ((hbp.trans (hbq.mono hbp.size)).mono HX.out.2.1.size))
    clear hbp hbq hRI hdp hRp p0 p1 p2 q0 q1 q2 x0 x1 hB HDS
    go_wp2
    go_returns
    exact ⟨rfl, HB.out⟩
set_option maxRecDepth 100000 in
set_option maxHeartbeats 4000000 in
theorem thr_ThreeFirst_1_c (Bd n h g c : Nat) (D : Option Addr) (dl dc : Nat) (dg : List Int) (hdl : dg.length ≤ 2097152) (ns : List Nat) (hV : VImg n ns) (hnl : ns.length = h) (w : World) (hR : Row w g (casts ns)) (hB : w.cell? ⟨Bd, 0, none⟩ = some (.slice D dl dc)) (hd : Ints w.heap.size w (.slice D dl dc) dg) (hD : Dirs w) :
    Calls Tryd.prog 49 #[imgV n h g c, .pointer (some ⟨Bd, 0, none⟩)] w fun e w' => e = .returned (.bool (pfD n dg ns)) ∧ Below w.heap.size w w' := by
  unfold imgV
  subst hnl
  have h6 := hV.h6
  have w6 := hV.w6
  have hI : Ints w.heap.size w (.slice (some ⟨g, 0, none⟩) ns.length c) (casts ns) := hR.intsH rfl
  have hW := Below.refl w.heap.size w
  clear hR
  go_enter Tryd.func49, Tryd.ntmps49
  obtain ⟨W0, e_W0⟩ : ∃ W0, W0 = World.alloc w (.cells #[.int .i64 (n : Int), .slice (some ⟨g, 0, none⟩) ns.length c] 25) := ⟨_, rfl⟩
  have hx_W0 := Box2.new w (.int .i64 (n : Int)) (.slice (some ⟨g, 0, none⟩) ns.length c) 25
  have hb_W0 : Below (World.heap w).size w W0 := by rw [e_W0]; go_grown
  have HS_W0 := Lib.hid (show (World.heap W0).size = (World.heap w).size + 1 by rw [e_W0]; simp)
  replace hI := (hI.below hb_W0).more (Below.size hb_W0)
  replace hd := (hd.below hb_W0).more (Below.size hb_W0)
  replace hB := cellB hb_W0 hB
  replace hW := hW.trans (Below.mono hb_W0 hW.size)
  have HE_W0 := Lib.hid e_W0
  clear e_W0
  go_wp2_with fail
  rw [← HE_W0.out] at hx_W0 ⊢
  clear HE_W0
  obtain ⟨hl_x, x0, x1⟩ := hx_W0
  obtain ⟨Bx, e_Bx⟩ : ∃ Bx, Bx = (World.heap w).size := ⟨_, rfl⟩
  rw [← e_Bx] at hl_x x0 x1 hb_W0 HS_W0  ⊢
  have hz_Bx := hb_W0.size
  clear e_Bx hb_W0
  have hDW := hD.below hW
  have hDd : Dirs W0.drew := ⟨hDW.lt, hDW.x, hDW.y⟩
  have HDS := DirSums_c 2 n (by omega) _ ns hV W0.drew hI.drew hDd
  rw [show ((2 : Nat) : Int) = 2 from rfl] at HDS
  have hdl2 := dirO_len 2 n ns
  have hLN := (lnN_eq (d := 2) (h := ns.length) (n := n) (by omega) (by omega) (by omega)).2
  obtain ⟨L, eL⟩ : ∃ L, L = lnN 2 ns.length n := ⟨_, rfl⟩
  rw [← eL] at HDS hdl2 hLN
  have HX := Lib.hid (And.intro hd (And.intro hW (And.intro hdl2 hdl)))
  clear eL hDW hDd hI hdl2 hd hdl
  go_region_held3 (fun w' : World => w'.cell? ⟨Bx, 0, none⟩ = some (.int .i64 (n : Int)) ∧ w'.cell? ⟨Bx, 1, none⟩ = some (.slice (some ⟨g, 0, none⟩) ns.length c) ∧ w'.cell? ⟨Bd, 0, none⟩ = some (.slice D dl dc)) (first | exact ⟨x0, x1, hB⟩ | (refine ⟨?_, ?_, ?_⟩ <;> assumption) | go_keep) (first | (go_at_call 10; (with_reducible refine HDS.mono ?_); rintro e wp ⟨gd, rfl, hgd, hRp, hbp'⟩; have hbp := Below.undrew hbp'; have p0 := cellB hbp x0; have p1 := cellB hbp x1; have p2 := cellB hbp hB; have hRI := hRp.ints hRp.lt L; rw [HX.out.2.2.1] at hRI; have hdp := (Ints.below HX.out.1 hbp).more hbp.size; clear hbp') | (go_at_call 50; (refine (sliceEq_c _ _ (dirO 2 n ns) dg (by rw [HX.out.2.2.1]; omega) wp hRI hdp).mono ?_); rintro e wq ⟨rfl, hbq⟩; have q0 := cellB hbq p0; have q1 := cellB hbq p1; have q2 := cellB hbq p2))
  all_goals
    have HB := Lib.hid (HX.out.2.1.trans ((hbp.trans (hbq.mono hbp.size)).mono HX.out.2.1.size))
    clear hbp hbq hRI hdp hRp p0 p1 p2 q0 q1 q2 x0 x1 hB HDS
    go_wp2
    go_returns
    exact ⟨rfl, HB.out⟩
/-- How many images there are. -/
def thrN (rs cs dg : List Int) : Int := if ctB rs cs = true ∧ dg.length = rs.length + cs.length - 1 then (cntI cs.length rs cs (pfD cs.length dg) : Int) else -1
set_option maxRecDepth 100000 in
set_option maxHeartbeats 4000000 in
theorem ThreeCount_c (u v t : Value) (rs cs dg : List Int) (hr : rs.length ≤ 2097152) (hc : cs.length ≤ 2097152) (hdl : dg.length ≤ 2097152) (w : World) (hu : Ints w.heap.size w u rs) (hv : Ints w.heap.size w v cs) (ht : Ints w.heap.size w t dg) (hD : Dirs w) :
    Calls Tryd.prog 47 #[u, v, t] w fun e w' => e = .returned (.int .i64 (thrN rs cs dg)) ∧ Below w.heap.size w w' := by
  obtain ⟨A, cap, rfl⟩ := hu.len
  obtain ⟨B, cap', rfl⟩ := hv.len
  obtain ⟨E, cap2, rfl⟩ := ht.len
  obtain ⟨W0, eW⟩ : ∃ W0, W0 = w.alloc (.cells #[.slice E dg.length cap2] 23) := ⟨_, rfl⟩
  have hB0 : Below w.heap.size w W0 := by rw [eW]; go_grown
  have d0 : W0.cell? ⟨w.heap.size, 0, none⟩ = some (.slice E dg.length cap2) := by rw [eW]; go_cell
  have hu0 := (hu.below hB0).more hB0.size
  have hv0 := (hv.below hB0).more hB0.size
  have ht0 := (ht.below hB0).more hB0.size
  have hD0 := hD.below hB0
  have HC := countable_c _ _ rs cs hr hc W0 hu0 hv0
  have HB := Lib.hid hB0
  clear hu hv ht hD
  cases hct : ctB rs cs with
  | false =>
    have hN : thrN rs cs dg = -1 := by unfold thrN; rw [if_neg (by rw [hct]; simp)]
    rw [hct] at HC
    rw [hN]
    clear hN hct hu0 hv0 ht0 hD0 hB0
    go_enter Tryd.func47, Tryd.ntmps47
    go_wp2_with fail
    rw [← eW]
    clear eW
    refine HC.mono ?_
    rintro e w' ⟨rfl, rfl⟩
    clear HC
    go_wp2
    go_returns
    exact ⟨rfl, HB.out⟩
  | true =>
    rw [hct] at HC
    have hsv : svB rs cs = true := by unfold ctB at hct; exact (Bool.and_eq_true_iff.1 hct).1
    have hS := svB_yes hsv
    by_cases hl : dg.length = rs.length + cs.length - 1
    · have hN : thrN rs cs dg = (cntI cs.length rs cs (pfD cs.length dg) : Int) := by unfold thrN; rw [if_pos ⟨hct, hl⟩]
      rw [hN]
      have HCI := countImages_p w.heap.size (pfD cs.length dg) 73 cs.length rs.length rs cs rfl rfl hS.h1 hS.h6 hS.w1 hS.w6 (fun i hi => by have := hS.r i hi; have := hS.w6; omega) hS.c _ _ W0 hu0 hv0 (enters_of Tryd.func73 (by kernel_rfl) rfl)
        (fun ns g c W hV hnl hb hrow => thr_ThreeCount_1_c w.heap.size cs.length rs.length g c E dg.length cap2 dg hdl ns hV hnl W hrow (cellB hb d0) ((ht0.below hb).more hb.size) (hD0.below hb))
      have h1 := hS.h1
      have w1 := hS.w1
      have h6 := hS.h6
      have w6 := hS.w6
      have hli : (dg.length : Int) = (rs.length : Int) + (cs.length : Int) - 1 := by omega
      obtain ⟨l, el⟩ : ∃ l, l = dg.length := ⟨_, rfl⟩
      rw [← el] at hli d0 eW ⊢
      obtain ⟨N, eN⟩ : ∃ N : Nat, N = cntI cs.length rs cs (pfD cs.length dg) := ⟨_, rfl⟩
      rw [← eN] at HCI ⊢
      clear hN hct hsv hS hu0 hv0 ht0 hD0 hB0 hl el eN
      go_enter Tryd.func47, Tryd.ntmps47
      go_wp2_with fail
      rw [← eW]
      clear eW
      refine HC.mono ?_
      rintro e w' ⟨rfl, rfl⟩
      clear HC
      go_wp2_with fail
      refine HCI.mono ?_
      rintro e w' ⟨rfl, hb⟩
      have HB2 := Lib.hid (HB.out.trans (hb.mono HB.out.size))
      clear HCI hb
      go_wp2
      go_returns
      exact ⟨rfl, HB2.out⟩
    · have hN : thrN rs cs dg = -1 := by unfold thrN; rw [if_neg (fun h => hl h.2)]
      rw [hN]
      have h1 := hS.h1
      have w1 := hS.w1
      have h6 := hS.h6
      have w6 := hS.w6
      have hli : ¬ (dg.length : Int) = (rs.length : Int) + (cs.length : Int) - 1 := by omega
      obtain ⟨l, el⟩ : ∃ l, l = dg.length := ⟨_, rfl⟩
      rw [← el] at hli hdl d0 eW ⊢
      clear hN hct hsv hS hu0 hv0 ht0 hD0 hB0 hl el
      go_enter Tryd.func47, Tryd.ntmps47
      go_wp2_with fail
      rw [← eW]
      clear eW
      refine HC.mono ?_
      rintro e w' ⟨rfl, rfl⟩
      clear HC
      go_wp2
      go_returns
      exact ⟨rfl, HB.out⟩
/-- The first such image. -/
def thrO (rs cs dg : List Int) : Option (List Nat) := if thrN rs cs dg < 1 then none else (genI cs.length rs cs).find? (pfD cs.length dg)
set_option maxRecDepth 100000 in
set_option maxHeartbeats 4000000 in
theorem ThreeFirst_c (u v t : Value) (rs cs dg : List Int) (hr : rs.length ≤ 2097152) (hc : cs.length ≤ 2097152) (hdl : dg.length ≤ 2097152) (w : World) (hu : Ints w.heap.size w u rs) (hv : Ints w.heap.size w v cs) (ht : Ints w.heap.size w t dg) (hD : Dirs w) :
    Calls Tryd.prog 19 #[u, v, t] w (FirstOut w cs.length (thrO rs cs dg)) := by
  obtain ⟨A, cap, rfl⟩ := hu.len
  obtain ⟨B, cap', rfl⟩ := hv.len
  obtain ⟨E, cap2, rfl⟩ := ht.len
  obtain ⟨W0, eW⟩ : ∃ W0, W0 = (w.alloc (.cells #[.slice E dg.length cap2] 23)).alloc (.cells #[.int .i64 0, .slice none 0 0] 25) := ⟨_, rfl⟩
  have hB0 : Below w.heap.size w W0 := by rw [eW]; go_grown
  have d0 : W0.cell? ⟨w.heap.size, 0, none⟩ = some (.slice E dg.length cap2) := by rw [eW]; go_cell
  have i0 : W0.cell? ⟨w.heap.size + 1, 0, none⟩ = some (.int .i64 0) := by rw [eW]; go_cell
  have i1 : W0.cell? ⟨w.heap.size + 1, 1, none⟩ = some (.slice none 0 0) := by rw [eW]; go_cell
  have f0 : W0.frozen? ⟨w.heap.size + 1, 0, none⟩ = false := by rw [eW]; go_cell
  have f1 : W0.frozen? ⟨w.heap.size + 1, 1, none⟩ = false := by rw [eW]; go_cell
  have hz0 : w.heap.size + 2 = W0.heap.size := by rw [eW]; simp
  have hu0 := (hu.below hB0).more hB0.size
  have hv0 := (hv.below hB0).more hB0.size
  have ht0 := (ht.below hB0).more hB0.size
  have hD0 := hD.below hB0
  have HC := ThreeCount_c _ _ _ rs cs dg hr hc hdl W0 hu0 hv0 ht0 hD0
  have HB := Lib.hid hB0
  have HZ := Lib.hid hz0
  clear hu hv ht hD hz0
  obtain ⟨N, eN⟩ : ∃ N, N = thrN rs cs dg := ⟨_, rfl⟩
  rw [← eN] at HC
  by_cases hN : N < 1
  · have hO : thrO rs cs dg = none := by unfold thrO; rw [if_pos (by rw [← eN]; exact hN)]
    rw [hO]
    clear hO eN hu0 hv0 ht0 hD0 hB0
    go_enter Tryd.func19, Tryd.ntmps19
    go_wp2_with fail
    rw [← eW]
    clear eW
    refine HC.mono ?_
    rintro e wc ⟨rfl, hb⟩
    have k0 := cellB hb i0
    have k1 := cellB hb i1
    have kf0 := frozenB hb i0 f0
    have kf1 := frozenB hb i1 f1
    obtain ⟨q0, q1⟩ := set2_get (x := .int .i64 0) (y := .slice none 0 0) k0 k1
    have HO := Lib.hid (((HB.out.trans (hb.mono HB.out.size)).setCell (p := ⟨w.heap.size + 1, 0, none⟩) (by simp) (.int .i64 0)).setCell (p := ⟨w.heap.size + 1, 1, none⟩) (by simp) (.slice none 0 0))
    clear HC hb
    go_wp2
    refine bodyPost_ret (res_img_b rfl _ _ rfl q0 q1) rfl ?_
    exact .inr ⟨rfl, rfl, HO.out⟩
  · have hO : thrO rs cs dg = (genI cs.length rs cs).find? (pfD cs.length dg) := by unfold thrO; rw [if_neg (by rw [← eN]; exact hN)]
    have hct : ctB rs cs = true := by
      cases h : ctB rs cs with
      | true => rfl
      | false => rw [eN] at hN; unfold thrN at hN; rw [if_neg (by rw [h]; simp)] at hN; omega
    have hsv : svB rs cs = true := by unfold ctB at hct; exact (Bool.and_eq_true_iff.1 hct).1
    have hS := svB_yes hsv
    have HFI := fun (W : World) (hbW : Below W0.heap.size W0 W) => firstImage_p w.heap.size (pfD cs.length dg) 49 cs.length rs.length rs cs rfl rfl hS.h1 hS.h6 hS.w1 hS.w6 (fun i hi => by have := hS.r i hi; have := hS.w6; omega) hS.c (.slice A rs.length cap) (.slice B cs.length cap') W ((hu0.below hbW).more hbW.size) ((hv0.below hbW).more hbW.size) (enters_of Tryd.func49 (by kernel_rfl) rfl)
      (fun ns g c Wx hV hnl hb hrow => thr_ThreeFirst_1_c w.heap.size cs.length rs.length g c E dg.length cap2 dg hdl ns hV hnl Wx hrow (cellB hb (cellB hbW d0)) ((((ht0.below hbW).more hbW.size).below hb).more hb.size) ((hD0.below hbW).below hb))
    rw [hO]
    obtain ⟨o, eo⟩ : ∃ o, o = (genI cs.length rs cs).find? (pfD cs.length dg) := ⟨_, rfl⟩
    rw [← eo] at HFI ⊢
    clear hO eN hct hsv hS hu0 hv0 ht0 hD0 hB0 eo
    go_enter Tryd.func19, Tryd.ntmps19
    go_wp2_with fail
    rw [← eW]
    clear eW
    refine HC.mono ?_
    rintro e wc ⟨rfl, hb⟩
    have HFW := HFI wc hb
    have k0 := cellB hb i0
    have k1 := cellB hb i1
    have kf0 := frozenB hb i0 f0
    have kf1 := frozenB hb i1 f1
    have hbc := HB.out.trans (hb.mono HB.out.size)
    have hsc : w.heap.size + 2 ≤ wc.heap.size := by have := hb.size; have := HZ.out; omega
    have HBC := Lib.hid hbc
    clear HC hb HFI hbc i0 i1 f0 f1
    go_wp2_with fail
    refine HFW.mono ?_
    clear HFW
    rintro e w1 (⟨ns, rfl, g, c, rfl, hg, hrow, hb⟩ | ⟨rfl, rfl, hb⟩)
    · have k0 := cellB hb k0
      have k1 := cellB hb k1
      have kf0 := frozenB hb (by assumption) kf0
      have kf1 := frozenB hb (by assumption) kf1
      obtain ⟨q0, q1⟩ := set2_get (x := .int .i64 (cs.length : Int)) (y := .slice (some ⟨g, 0, none⟩) ns.length c) k0 k1
      have HO := Lib.hid (And.intro ((hrow.far (p := ⟨w.heap.size + 1, 0, none⟩) (by simp; omega) (.int .i64 (cs.length : Int))).far (p := ⟨w.heap.size + 1, 1, none⟩) (by simp; omega) (.slice (some ⟨g, 0, none⟩) ns.length c)) (((HBC.out.trans (hb.mono HBC.out.size)).setCell (p := ⟨w.heap.size + 1, 0, none⟩) (by simp) (.int .i64 (cs.length : Int))).setCell (p := ⟨w.heap.size + 1, 1, none⟩) (by simp) (.slice (some ⟨g, 0, none⟩) ns.length c)))
      clear hrow hb
      go_wp2
      refine bodyPost_ret (res_img_b rfl _ _ rfl q0 q1) rfl ?_
      exact .inl ⟨ns, rfl, g, c, rfl, by omega, HO.out.1, HO.out.2⟩
    · have k0 := cellB hb k0
      have k1 := cellB hb k1
      have kf0 := frozenB hb (by assumption) kf0
      have kf1 := frozenB hb (by assumption) kf1
      obtain ⟨q0, q1⟩ := set2_get (x := .int .i64 0) (y := .slice none 0 0) k0 k1
      have HO := Lib.hid (((HBC.out.trans (hb.mono HBC.out.size)).setCell (p := ⟨w.heap.size + 1, 0, none⟩) (by simp) (.int .i64 0)).setCell (p := ⟨w.heap.size + 1, 1, none⟩) (by simp) (.slice none 0 0))
      clear hb
      go_wp2
      refine bodyPost_ret (res_img_b rfl _ _ rfl q0 q1) rfl ?_
      exact .inr ⟨rfl, rfl, HO.out⟩
end Go.Proofs.YtbpjceffkchmbaaDoor
