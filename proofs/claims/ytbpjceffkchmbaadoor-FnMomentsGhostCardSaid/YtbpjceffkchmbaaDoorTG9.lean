/- Contract of GhostOf of the reference. Conditions: one to five directions below 4; the tables on the way are valid. -/
import Derived.Test.YtbpjceffkchmbaaDoorTG4
import Derived.Test.YtbpjceffkchmbaaDoorTG8
namespace Go.Proofs.YtbpjceffkchmbaaDoor
open Go.RowKit
theorem STbl.trans {w wr w' : World} {h n : Nat} {T : List (List Int)} {v : Value} (hb : Below w.heap.size w wr) (ho : STbl wr h n T w' v) : STbl w h n T w' v := by
  obtain ⟨gT, cp, gs, e, hcp, hT, hg, hgs, hb'⟩ := ho
  exact ⟨gT, cp, gs, e, hcp, hT, Nat.le_trans hb.size hg, fun i hi => Nat.le_trans hb.size (hgs i hi), hb.trans (hb'.mono hb.size)⟩
theorem STbl.below {w wr w' : World} {h n : Nat} {T : List (List Int)} {v : Value} (ho : STbl w h n T wr v) (hb : Below wr.heap.size wr w') : STbl w h n T w' v := by
  obtain ⟨gT, cp, gs, e, hcp, hT, hg, hgs, hb'⟩ := ho
  exact ⟨gT, cp, gs, e, hcp, hT.below hb, hg, hgs, hb'.trans (hb.mono hb'.size)⟩
theorem STbl.tad {w w' : World} {h n : Nat} {T : List (List Int)} {v : Value} (ho : STbl w h n T w' v) : TadOut w false true h n T w' (.returned (.tuple #[v, .bool true])) := by
  obtain ⟨gT, cp, gs, e, hcp, hT, hg, hgs, hb'⟩ := ho
  exact .inl ⟨rfl, gT, cp, gs, by rw [e], hT, hg, hgs, ⟨hcp, fun h => by cases h⟩, hb'⟩
set_option maxRecDepth 100000 in
set_option maxHeartbeats 8000000 in
theorem sGhostOf_c (ds : List Nat) (h1 : 1 ≤ ds.length) (h5 : ds.length ≤ 5) (h4 : ∀ k, k < ds.length → ds.getD k 0 < 4) (hG : gOk ds = true) (A : Option Addr) (cap : Nat) (w : World) (hv : Ints w.heap.size w (.slice A ds.length cap) (casts ds)) :
    Calls Tryd.prog 37 #[.slice A ds.length cap] w fun e w' => TadOut w false (dif (casts ds) ds.length) (gh ds).1 (gh ds).2.1 (gh ds).2.2 w' e := by
  obtain ⟨W0, eW⟩ : ∃ W, W = (w.alloc (.cells #[.int .i64 1] 3)).alloc (.cells #[.slice (some ⟨w.heap.size, 0, none⟩) 1 1] 23) := ⟨_, rfl⟩
  have hb0 : Below w.heap.size w W0 := by rw [eW]; go_grown
  have hS0 : STbl w 1 1 [[1]] W0 (.slice (some ⟨w.heap.size + 1, 0, none⟩) 1 1) := ⟨w.heap.size + 1, 1, [w.heap.size], rfl, Nat.le_refl _, by rw [eW]; exact one_tbl w, by omega, fun i hi => by
    obtain rfl : i = 0 := by omega
    exact Nat.le_refl _, hb0⟩
  have hv0 := (hv.below hb0).more hb0.size
  have hr : inR 0 7 (casts ds) = true := inR_true fun j hj => by
    rw [length_casts] at hj
    rw [casts_getD]
    have := h4 j hj
    omega
  have HE := l2Each_c (.slice A ds.length cap) (casts ds) 0 7 (by rw [length_casts]; omega) W0 hv0
  rw [hr] at HE
  have HTw := l23Twice_c (.slice A ds.length cap) (casts ds) (by rw [length_casts]; omega) W0 hv0
  rw [length_casts] at HTw
  have HT := Lib.hid (And.intro hv (And.intro h4 (And.intro hG (And.intro hb0 hS0))))
  have hl1 : (1 : Int) ≤ (ds.length : Int) ∧ (ds.length : Int) ≤ 5 := by omega
  have HEW := Lib.hid eW
  clear hv hv0 h4 hG hr hb0 hS0 eW
  cases hd : dif (casts ds) ds.length with
  | false =>
    rw [hd] at HTw
    clear hd
    go_enter Tryd.func37, Tryd.ntmps37
    go_wp2_with (go_at_call 56; refine (l6In_yes _ _ _ hl1 _).mono ?_; rintro e w' ⟨rfl, rfl⟩)
    rw [← HEW.out]
    refine HE.mono ?_
    rintro e w' ⟨rfl, rfl⟩
    clear HE
    go_wp2_with fail
    refine HTw.mono ?_
    rintro e w' ⟨rfl, hb⟩
    clear HTw
    have hbb := HT.out.2.2.2.1.trans (hb.mono HT.out.2.2.2.1.size)
    go_wp2
    go_returns
    exact .inr ⟨rfl, ⟨_, rfl⟩, hbb.alloc hbb.size _⟩
  | true =>
    rw [hd] at HTw
    clear hd
    go_enter Tryd.func37, Tryd.ntmps37
    go_wp2_with (go_at_call 56; refine (l6In_yes _ _ _ hl1 _).mono ?_; rintro e w' ⟨rfl, rfl⟩)
    rw [← HEW.out]
    refine HE.mono ?_
    rintro e w' ⟨rfl, rfl⟩
    clear HE
    go_wp2_with fail
    refine HTw.mono ?_
    rintro e w1 ⟨rfl, hb⟩
    clear HTw
    have HS := Lib.hid (show STbl w (gh (ds.take 0)).1 (gh (ds.take 0)).2.1 (gh (ds.take 0)).2.2 w1 (.slice (some ⟨w.heap.size + 1, 0, none⟩) 1 1) from HT.out.2.2.2.2.below hb)
    clear hb
    go_wp2_with fail
    go_loopw [4, 5] (fun s q wr => ∃ k : Nat, k ≤ ds.length ∧ q = .int .i64 (k : Int) ∧ STbl w (gh (ds.take k)).1 (gh (ds.take k)).2.1 (gh (ds.take k)).2.2 wr s) (fun _ q _ => ds.length - (intOf q).toNat)
    case atStart => exact ⟨0, Nat.zero_le _, rfl, HS.out⟩
    case round =>
      clear HS
      obtain ⟨k, hk, rfl, hST⟩ := hrel
      obtain ⟨gT, cp, gs, rfl, hcp, hT, hgT, hgs, hb⟩ := hST
      by_cases hkl : k < ds.length
      · have hki : (k : Int) < (ds.length : Int) := by omega
        have hsu := gh_succ hkl
        have hok := gOk_s HT.out.2.2.1 hk
        have hmk := gOk_m HT.out.2.2.1 hkl
        have hok2 := gOk_s HT.out.2.2.1 (show k + 1 ≤ ds.length by omega)
        rw [hsu] at hok2
        obtain ⟨b, off, cp', ev, hbl, hcx⟩ := (HT.out.1.below hb).row (by rw [length_casts]; omega)
        injection ev with e1 e2 e3
        subst e1 e3
        clear e2
        have hck := hcx k (by rw [length_casts]; exact hkl)
        rw [casts_getD] at hck
        have hd4 := HT.out.2.1 k hkl
        obtain ⟨d, ed⟩ : ∃ d, d = ds.getD k 0 := ⟨_, rfl⟩
        rw [← ed] at hck hd4 hmk hsu hok2
        have HP := l23Step_c d gT (gh (ds.take k)).1 (gh (ds.take k)).2.1 cp hd4 gs (gh (ds.take k)).2.2 hok.1.1 hok.1.2.1 hok.1.2.2.1 hok.1.2.2.2 hok.2 hmk hok2.2 wr hT
        have HW := Lib.hid (And.intro hb hsu)
        clear hcx ed hmk hok hok2 hsu hT hgT hgs hb hcp
        go_wp2_with fail
        refine HP.mono ?_
        rintro e w5 ⟨v, rfl, ho⟩
        clear HP hck
        have ho' := ho.trans HW.out.1
        obtain ⟨g5, c5, gs5, rfl, _⟩ := ho
        have HN := Lib.hid (show STbl w (gh (ds.take (k + 1))).1 (gh (ds.take (k + 1))).2.1 (gh (ds.take (k + 1))).2.2 w5 _ from by rw [HW.out.2]; exact ho')
        clear ho'
        go_wp2_with fail
        go_roundw
        case rel => exact ⟨k + 1, by omega, by go_num, HN.out⟩
        case measure => simp [intOf]; omega
      · have hki : ¬ ((k : Int) < (ds.length : Int)) := by omega
        have hkh : k = ds.length := by omega
        subst hkh
        rw [List.take_length] at hT hgs ⊢
        have HN := Lib.hid (show STbl w (gh ds).1 (gh ds).2.1 (gh ds).2.2 wr (.slice (some ⟨gT, 0, none⟩) (gh ds).1 cp) from ⟨gT, cp, gs, rfl, by rw [List.take_length] at hcp; exact hcp, hT, hgT, hgs, hb⟩)
        clear hT hgT hgs hb hcp
        go_wp2
        go_returns
        exact HN.out.tad
end Go.Proofs.YtbpjceffkchmbaaDoor
