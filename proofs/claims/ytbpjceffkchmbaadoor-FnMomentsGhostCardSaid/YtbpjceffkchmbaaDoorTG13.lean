/- Contracts of GhostMove of the package and of the reference. Conditions: a valid image; one to five directions below 4 whose tables on the way are valid; the factor 1 or -1; the ghost lies within the image where there is one; for the package: the table of the steps stands. -/
import Derived.Test.YtbpjceffkchmbaaDoorTG9
import Derived.Test.YtbpjceffkchmbaaDoorTG10
import Derived.Test.YtbpjceffkchmbaaDoorTG12
namespace Go.Proofs.YtbpjceffkchmbaaDoor
open Go.RowKit
/-- The moved image's table, whether it is one, and the image. -/
def mvT (n : Nat) (ns ds : List Nat) (c : Int) (i j : Nat) : List (List Int) := addT (tabF (bitF ns) ns.length n) (gh ds).2.2 c i j ns.length n (gh ds).1 (gh ds).2.1
def mvB (n : Nat) (ns ds : List Nat) (c : Int) (i j : Nat) : Bool := dif (casts ds) ds.length && tvB ns.length n (mvT n ns ds c i j) && bitsB ns.length n (mvT n ns ds c i j)
def mvL (n : Nat) (ns ds : List Nat) (c : Int) (i j : Nat) : List Nat := imgT (mvT n ns ds c i j) ns.length n
theorem tv_bits (ns : List Nat) (h n : Nat) : tvB h n (tabF (bitF ns) h n) = true := tvB_yes fun i j hi hj => by
  unfold okE
  rw [ent_tabF hi hj]
  have := b2i_bd (cell ns i j)
  unfold bitF
  rw [decide_eq_true (by omega), decide_eq_true (by omega)]
  rfl
theorem TimOut.trans {w w1 w' : World} {b : Bool} {n h : Nat} {ns : List Nat} {e : Ending} (hb : Below w.heap.size w w1) (ho : TimOut w1 b n h ns w' e) : TimOut w b n h ns w' e := by
  rcases ho with ⟨h1, g, c, e1, hg, hr, hb'⟩ | ⟨h1, e1, hb'⟩
  · exact .inl ⟨h1, g, c, e1, Nat.le_trans hb.size hg, hr, hb.trans (hb'.mono hb.size)⟩
  · exact .inr ⟨h1, e1, hb.trans (hb'.mono hb.size)⟩
theorem Row.far2 {W : World} {g b : Nat} {xs : List Int} (hr : Row W g xs) (hne : g ≠ b) (u v : Value) : Row ((W.setCell ⟨b, 0, none⟩ u).setCell ⟨b, 1, none⟩ v) g xs := (hr.far hne _).far hne _
set_option maxRecDepth 100000 in
set_option maxHeartbeats 8000000 in
theorem GhostMove_c (n : Nat) (v : Value) (ns : List Nat) (hV : VImg n ns) (ds : List Nat) (h1 : 1 ≤ ds.length) (h5 : ds.length ≤ 5) (h4 : ∀ k, k < ds.length → ds.getD k 0 < 4) (hG : gOk ds = true) (c : Int) (hc : c = 1 ∨ c = -1) (i j : Nat) (hfit : dif (casts ds) ds.length = true → i + (gh ds).1 ≤ ns.length ∧ j + (gh ds).2.1 ≤ n) (A : Option Addr) (cap : Nat) (hcap : ds.length ≤ cap) (w : World) (hv : Ints w.heap.size w v (casts ns)) (hd : Ints w.heap.size w (.slice A ds.length cap) (casts ds)) (hD : Dirs w) :
    Calls Tryd.prog 12 #[.agg #[.int .i64 (n : Int), v], .slice A ds.length cap, .int .i64 c, .int .i64 (i : Int), .int .i64 (j : Int)] w fun e w' => TimOut w (mvB n ns ds c i j) n ns.length (mvL n ns ds c i j) w' e := by
  obtain ⟨B, cb, rfl⟩ := hv.len
  rw [length_casts] at hv ⊢
  have h6 := hV.h6
  have w6 := hV.w6
  have hh1 := hV.h1
  have w1 := hV.w1
  obtain ⟨W0, eW⟩ : ∃ W, W = (w.alloc (.cells #[.int .i64 (n : Int), .slice B ns.length cb] 25)).alloc (.cells #[.int .i64 0, .slice none 0 0] 25) := ⟨_, rfl⟩
  have hb0 : Below w.heap.size w W0 := by rw [eW]; go_grown
  have x0 : W0.cell? ⟨w.heap.size, 0, none⟩ = some (.int .i64 (n : Int)) := by rw [eW]; go_cell
  have x1 : W0.cell? ⟨w.heap.size, 1, none⟩ = some (.slice B ns.length cb) := by rw [eW]; go_cell
  have r0 : W0.cell? ⟨w.heap.size + 1, 0, none⟩ = some (.int .i64 0) := by rw [eW]; go_cell
  have r1 : W0.cell? ⟨w.heap.size + 1, 1, none⟩ = some (.slice none 0 0) := by rw [eW]; go_cell
  have f0 : W0.frozen? ⟨w.heap.size + 1, 0, none⟩ = false := by rw [eW]; go_cell
  have f1 : W0.frozen? ⟨w.heap.size + 1, 1, none⟩ = false := by rw [eW]; go_cell
  have hv0 := (hv.below hb0).more hb0.size
  have hd0 := (hd.below hb0).more hb0.size
  have hD0 := hD.below hb0
  have HTO := TableOf_c n (.slice B ns.length cb) ns hV W0 hv0
  have HEW := Lib.hid eW
  have hlt : w.heap.size + 1 < W0.heap.size := lt_of_cell r0
  clear hv hv0 hd eW
  go_enter Tryd.func12, Tryd.ntmps12
  go_wp2_with fail
  rw [← HEW.out]
  refine HTO.mono ?_
  rintro e wa ⟨gT, gs, rfl, hT, hgT, hgs, hb1⟩
  clear HTO x0 x1
  have hB1 := hb0.trans (hb1.mono hb0.size)
  have s0 := cellB hb1 r0
  have s1 := cellB hb1 r1
  have u0 := frozenB hb1 r0 f0
  have u1 := frozenB hb1 r1 f1
  have hd1 := (hd0.below hb1).more hb1.size
  have hD1 := hD0.below hb1
  have HGO := GhostOf_c ds h1 h5 h4 hG A cap hcap wa hd1 hD1
  clear r0 r1 f0 f1 hd0 hd1 hb0 hb1
  cases hdf : dif (casts ds) ds.length with
  | false =>
    rw [hdf] at HGO
    have HN := Lib.hid (show mvB n ns ds c i j = false by unfold mvB; rw [hdf]; rfl)
    clear hdf hfit
    go_wp2_with fail
    refine HGO.mono ?_
    intro e wb ho
    obtain ⟨v2, rfl, hb2⟩ := ho.no rfl
    clear HGO ho
    have hB2 := hB1.trans (hb2.mono hB1.size)
    have r0 := cellB hb2 s0
    have r1 := cellB hb2 s1
    have f0 := frozenB hb2 s0 u0
    have f1 := frozenB hb2 s1 u1
    obtain ⟨q0, q1⟩ := set2_get (x := .int .i64 0) (y := .slice none 0 0) r0 r1
    clear s0 s1 u0 u1 hb2 hB1
    go_wp2
    refine bodyPost_ret (res_img_b rfl _ _ rfl q0 q1) rfl ?_
    exact .inr ⟨HN.out, rfl, (hB2.setCell (by simp) _).setCell (by simp) _⟩
  | true =>
    rw [hdf] at HGO
    obtain ⟨hfi, hfj⟩ := hfit hdf
    have hgok := gOk_s hG (Nat.le_refl ds.length)
    rw [List.take_length] at hgok
    have hmv : mvB n ns ds c i j = (tvB ns.length n (mvT n ns ds c i j) && bitsB ns.length n (mvT n ns ds c i j)) := by unfold mvB; rw [hdf]; rfl
    have HMV := Lib.hid hmv
    clear hdf hfit hmv
    go_wp2_with fail
    refine HGO.mono ?_
    intro e wb ho
    obtain ⟨gG, cG, gsG, rfl, hTG, hgG, hgsG, hcG, hb2⟩ := ho.yes rfl
    obtain rfl := hcG.2 rfl
    clear HGO ho
    have hB2 := hB1.trans (hb2.mono hB1.size)
    have r0 := cellB hb2 s0
    have r1 := cellB hb2 s1
    have f0 := frozenB hb2 s0 u0
    have f1 := frozenB hb2 s1 u1
    have hT2 := hT.below hb2
    have HTA := TableAdd_c gT gG ns.length n (gh ds).1 (gh ds).2.1 i j c gs gsG (tabF (bitF ns) ns.length n) (gh ds).2.2 hh1 (by omega) w1 (by omega) hgok.1.1 hgok.1.2.2.1 hfi hfj hc (tv_bits ..) hgok.2 wb hT2 hTG
    rw [show addT (tabF (bitF ns) ns.length n) (gh ds).2.2 c i j ns.length n (gh ds).1 (gh ds).2.1 = mvT n ns ds c i j from rfl] at HTA
    clear s0 s1 u0 u1 hb2 hB1 hT hT2 hTG hgG hgsG hcG
    obtain ⟨hg, eg⟩ : ∃ g, g = (gh ds).1 := ⟨_, rfl⟩
    rw [← eg] at HTA ⊢
    have HEG := Lib.hid eg
    clear eg hfi hfj hgok
    cases htv : tvB ns.length n (mvT n ns ds c i j) with
    | false =>
      rw [htv] at HTA
      have HN := Lib.hid (show mvB n ns ds c i j = false by rw [HMV.out, htv]; rfl)
      clear htv
      go_wp2_with fail
      refine HTA.mono ?_
      intro e wc ho
      obtain ⟨v2, rfl, hb3⟩ := ho.no rfl
      clear HTA ho
      have hB3 := hB2.trans (hb3.mono hB2.size)
      have s0 := cellB hb3 r0
      have s1 := cellB hb3 r1
      have u0 := frozenB hb3 r0 f0
      have u1 := frozenB hb3 r1 f1
      obtain ⟨q0, q1⟩ := set2_get (x := .int .i64 0) (y := .slice none 0 0) s0 s1
      clear r0 r1 f0 f1 hb3 hB2
      go_wp2
      refine bodyPost_ret (res_img_b rfl _ _ rfl q0 q1) rfl ?_
      exact .inr ⟨HN.out, rfl, (hB3.setCell (by simp) _).setCell (by simp) _⟩
    | true =>
      rw [htv] at HTA
      have HN := Lib.hid (show mvB n ns ds c i j = bitsB ns.length n (mvT n ns ds c i j) by rw [HMV.out, htv]; rfl)
      have HTV := Lib.hid htv
      clear htv
      go_wp2_with fail
      refine HTA.mono ?_
      intro e wc ho
      obtain ⟨gS, cS, gsS, rfl, hTS, hgS, hgsS, hcS, hb3⟩ := ho.yes rfl
      obtain rfl := hcS.2 rfl
      clear HTA ho
      have hB3 := hB2.trans (hb3.mono hB2.size)
      have s0 := cellB hb3 r0
      have s1 := cellB hb3 r1
      have u0 := frozenB hb3 r0 f0
      have u1 := frozenB hb3 r1 f1
      have HTI := TableImage_c gS ns.length n gsS _ hh1 h6 w1 w6 HTV.out wc hTS
      clear r0 r1 f0 f1 hb3 hB2 hTS hgS hgsS hcS
      go_wp2_with fail
      refine HTI.mono ?_
      intro e wd ho
      clear HTI
      rcases ho with ⟨hbt, g, cc, rfl, hgc, hrw, hb4⟩ | ⟨hbt, rfl, hb4⟩
      · have hB4 := hB3.trans (hb4.mono hB3.size)
        have r0 := cellB hb4 s0
        have r1 := cellB hb4 s1
        have f0 := frozenB hb4 s0 u0
        have f1 := frozenB hb4 s1 u1
        obtain ⟨q0, q1⟩ := set2_get (x := .int .i64 (n : Int)) (y := .slice (some ⟨g, 0, none⟩) ns.length cc) r0 r1
        have hgl : w.heap.size + 1 < g := by have := lt_of_cell s0; show w.heap.size + 1 < g; exact Nat.lt_of_lt_of_le this hgc
        have HR := Lib.hid (And.intro hrw hbt)
        clear s0 s1 u0 u1 hb4 hB3 hrw hbt hgc
        go_wp2
        refine bodyPost_ret (res_img_b rfl _ _ rfl q0 q1) rfl ?_
        exact .inl ⟨HN.out.trans HR.out.2, g, cc, rfl, by omega, HR.out.1.far2 (by omega) _ _, (hB4.setCell (by simp) _).setCell (by simp) _⟩
      · have hB4 := hB3.trans (hb4.mono hB3.size)
        have r0 := cellB hb4 s0
        have r1 := cellB hb4 s1
        have f0 := frozenB hb4 s0 u0
        have f1 := frozenB hb4 s1 u1
        obtain ⟨q0, q1⟩ := set2_get (x := .int .i64 0) (y := .slice none 0 0) r0 r1
        have HR := Lib.hid hbt
        clear s0 s1 u0 u1 hb4 hB3 hbt
        go_wp2
        refine bodyPost_ret (res_img_b rfl _ _ rfl q0 q1) rfl ?_
        exact .inr ⟨HN.out.trans HR.out, rfl, (hB4.setCell (by simp) _).setCell (by simp) _⟩
set_option maxRecDepth 100000 in
set_option maxHeartbeats 8000000 in
theorem sGhostMove_c (n : Nat) (v : Value) (ns : List Nat) (hV : VImg n ns) (ds : List Nat) (h1 : 1 ≤ ds.length) (h5 : ds.length ≤ 5) (h4 : ∀ k, k < ds.length → ds.getD k 0 < 4) (hG : gOk ds = true) (c : Int) (hc : c = 1 ∨ c = -1) (i j : Nat) (hfit : dif (casts ds) ds.length = true → i + (gh ds).1 ≤ ns.length ∧ j + (gh ds).2.1 ≤ n) (A : Option Addr) (cap : Nat) (w : World) (hv : Ints w.heap.size w v (casts ns)) (hd : Ints w.heap.size w (.slice A ds.length cap) (casts ds)) :
    Calls Tryd.prog 13 #[.agg #[.int .i64 (n : Int), v], .slice A ds.length cap, .int .i64 c, .int .i64 (i : Int), .int .i64 (j : Int)] w fun e w' => TimOut w (mvB n ns ds c i j) n ns.length (mvL n ns ds c i j) w' e := by
  obtain ⟨B, cb, rfl⟩ := hv.len
  rw [length_casts] at hv ⊢
  have h6 := hV.h6
  have w6 := hV.w6
  have hh1 := hV.h1
  have w1 := hV.w1
  obtain ⟨W0, eW⟩ : ∃ W, W = (w.alloc (.cells #[.int .i64 (n : Int), .slice B ns.length cb] 25)).alloc (.cells #[.int .i64 0, .slice none 0 0] 25) := ⟨_, rfl⟩
  have hb0 : Below w.heap.size w W0 := by rw [eW]; go_grown
  have x0 : W0.cell? ⟨w.heap.size, 0, none⟩ = some (.int .i64 (n : Int)) := by rw [eW]; go_cell
  have x1 : W0.cell? ⟨w.heap.size, 1, none⟩ = some (.slice B ns.length cb) := by rw [eW]; go_cell
  have r0 : W0.cell? ⟨w.heap.size + 1, 0, none⟩ = some (.int .i64 0) := by rw [eW]; go_cell
  have r1 : W0.cell? ⟨w.heap.size + 1, 1, none⟩ = some (.slice none 0 0) := by rw [eW]; go_cell
  have f0 : W0.frozen? ⟨w.heap.size + 1, 0, none⟩ = false := by rw [eW]; go_cell
  have f1 : W0.frozen? ⟨w.heap.size + 1, 1, none⟩ = false := by rw [eW]; go_cell
  have hv0 := (hv.below hb0).more hb0.size
  have hd0 := (hd.below hb0).more hb0.size
  have HTO := sTableOf_c n (.slice B ns.length cb) ns hV W0 hv0
  have HEW := Lib.hid eW
  have hlt : w.heap.size + 1 < W0.heap.size := lt_of_cell r0
  clear hv hv0 hd eW
  go_enter Tryd.func13, Tryd.ntmps13
  go_wp2_with fail
  rw [← HEW.out]
  refine HTO.mono ?_
  intro e wa ho
  obtain ⟨gT, cT, gs, rfl, hT, hgT, hgs, hcT, hb1⟩ := ho.yes rfl
  clear ho
  clear HTO x0 x1
  have hB1 := hb0.trans (hb1.mono hb0.size)
  have s0 := cellB hb1 r0
  have s1 := cellB hb1 r1
  have u0 := frozenB hb1 r0 f0
  have u1 := frozenB hb1 r1 f1
  have hd1 := (hd0.below hb1).more hb1.size
  have HGO := sGhostOf_c ds h1 h5 h4 hG A cap wa hd1
  clear r0 r1 f0 f1 hd0 hd1 hb0 hb1
  cases hdf : dif (casts ds) ds.length with
  | false =>
    rw [hdf] at HGO
    have HN := Lib.hid (show mvB n ns ds c i j = false by unfold mvB; rw [hdf]; rfl)
    clear hdf hfit
    go_wp2_with fail
    refine HGO.mono ?_
    intro e wb ho
    obtain ⟨v2, rfl, hb2⟩ := ho.no rfl
    clear HGO ho
    have hB2 := hB1.trans (hb2.mono hB1.size)
    have r0 := cellB hb2 s0
    have r1 := cellB hb2 s1
    have f0 := frozenB hb2 s0 u0
    have f1 := frozenB hb2 s1 u1
    obtain ⟨q0, q1⟩ := set2_get (x := .int .i64 0) (y := .slice none 0 0) r0 r1
    clear s0 s1 u0 u1 hb2 hB1
    go_wp2
    refine bodyPost_ret (res_img_b rfl _ _ rfl q0 q1) rfl ?_
    exact .inr ⟨HN.out, rfl, (hB2.setCell (by simp) _).setCell (by simp) _⟩
  | true =>
    rw [hdf] at HGO
    obtain ⟨hfi, hfj⟩ := hfit hdf
    have hgok := gOk_s hG (Nat.le_refl ds.length)
    rw [List.take_length] at hgok
    have hmv : mvB n ns ds c i j = (tvB ns.length n (mvT n ns ds c i j) && bitsB ns.length n (mvT n ns ds c i j)) := by unfold mvB; rw [hdf]; rfl
    have HMV := Lib.hid hmv
    clear hdf hfit hmv
    go_wp2_with fail
    refine HGO.mono ?_
    intro e wb ho
    obtain ⟨gG, cG, gsG, rfl, hTG, hgG, hgsG, hcG, hb2⟩ := ho.yes rfl
    clear HGO ho
    have hB2 := hB1.trans (hb2.mono hB1.size)
    have r0 := cellB hb2 s0
    have r1 := cellB hb2 s1
    have f0 := frozenB hb2 s0 u0
    have f1 := frozenB hb2 s1 u1
    have hT2 := hT.below hb2
    have HTA := sTableAdd_c gT gG ns.length n (gh ds).1 (gh ds).2.1 i j cT cG c gs gsG (tabF (bitF ns) ns.length n) (gh ds).2.2 hh1 (by omega) w1 (by omega) hgok.1.1 hgok.1.2.2.1 hfi hfj hc (tv_bits ..) hgok.2 wb hT2 hTG
    rw [show addT (tabF (bitF ns) ns.length n) (gh ds).2.2 c i j ns.length n (gh ds).1 (gh ds).2.1 = mvT n ns ds c i j from rfl] at HTA
    clear s0 s1 u0 u1 hb2 hB1 hT hT2 hTG hgG hgsG hcG
    obtain ⟨hg, eg⟩ : ∃ g, g = (gh ds).1 := ⟨_, rfl⟩
    rw [← eg] at HTA ⊢
    have HEG := Lib.hid eg
    clear eg hfi hfj hgok
    cases htv : tvB ns.length n (mvT n ns ds c i j) with
    | false =>
      rw [htv] at HTA
      have HN := Lib.hid (show mvB n ns ds c i j = false by rw [HMV.out, htv]; rfl)
      clear htv
      go_wp2_with fail
      refine HTA.mono ?_
      intro e wc ho
      obtain ⟨v2, rfl, hb3⟩ := ho.no rfl
      clear HTA ho
      have hB3 := hB2.trans (hb3.mono hB2.size)
      have s0 := cellB hb3 r0
      have s1 := cellB hb3 r1
      have u0 := frozenB hb3 r0 f0
      have u1 := frozenB hb3 r1 f1
      obtain ⟨q0, q1⟩ := set2_get (x := .int .i64 0) (y := .slice none 0 0) s0 s1
      clear r0 r1 f0 f1 hb3 hB2
      go_wp2
      refine bodyPost_ret (res_img_b rfl _ _ rfl q0 q1) rfl ?_
      exact .inr ⟨HN.out, rfl, (hB3.setCell (by simp) _).setCell (by simp) _⟩
    | true =>
      rw [htv] at HTA
      have HN := Lib.hid (show mvB n ns ds c i j = bitsB ns.length n (mvT n ns ds c i j) by rw [HMV.out, htv]; rfl)
      have HTV := Lib.hid htv
      clear htv
      go_wp2_with fail
      refine HTA.mono ?_
      intro e wc ho
      obtain ⟨gS, cS, gsS, rfl, hTS, hgS, hgsS, hcS, hb3⟩ := ho.yes rfl
      clear HTA ho
      have hB3 := hB2.trans (hb3.mono hB2.size)
      have s0 := cellB hb3 r0
      have s1 := cellB hb3 r1
      have u0 := frozenB hb3 r0 f0
      have u1 := frozenB hb3 r1 f1
      have HTI := sTableImage_c gS ns.length n cS gsS _ hh1 h6 w1 w6 HTV.out wc hTS
      clear r0 r1 f0 f1 hb3 hB2 hTS hgS hgsS hcS
      go_wp2_with fail
      refine HTI.mono ?_
      intro e wd ho
      clear HTI
      rcases ho with ⟨hbt, g, cc, rfl, hgc, hrw, hb4⟩ | ⟨hbt, rfl, hb4⟩
      · have hB4 := hB3.trans (hb4.mono hB3.size)
        have r0 := cellB hb4 s0
        have r1 := cellB hb4 s1
        have f0 := frozenB hb4 s0 u0
        have f1 := frozenB hb4 s1 u1
        obtain ⟨q0, q1⟩ := set2_get (x := .int .i64 (n : Int)) (y := .slice (some ⟨g, 0, none⟩) ns.length cc) r0 r1
        have hgl : w.heap.size + 1 < g := by have := lt_of_cell s0; show w.heap.size + 1 < g; exact Nat.lt_of_lt_of_le this hgc
        have HR := Lib.hid (And.intro hrw hbt)
        clear s0 s1 u0 u1 hb4 hB3 hrw hbt hgc
        go_wp2
        refine bodyPost_ret (res_img_b rfl _ _ rfl q0 q1) rfl ?_
        exact .inl ⟨HN.out.trans HR.out.2, g, cc, rfl, by omega, HR.out.1.far2 (by omega) _ _, (hB4.setCell (by simp) _).setCell (by simp) _⟩
      · have hB4 := hB3.trans (hb4.mono hB3.size)
        have r0 := cellB hb4 s0
        have r1 := cellB hb4 s1
        have f0 := frozenB hb4 s0 u0
        have f1 := frozenB hb4 s1 u1
        obtain ⟨q0, q1⟩ := set2_get (x := .int .i64 0) (y := .slice none 0 0) r0 r1
        have HR := Lib.hid hbt
        clear s0 s1 u0 u1 hb4 hB3 hbt
        go_wp2
        refine bodyPost_ret (res_img_b rfl _ _ rfl q0 q1) rfl ?_
        exact .inr ⟨HN.out.trans HR.out, rfl, (hB4.setCell (by simp) _).setCell (by simp) _⟩
end Go.Proofs.YtbpjceffkchmbaaDoor
