/- Contract of the program's FillImage. Conditions: the sums' slices read as lists, not longer than 2097152. -/
import Derived.Test.YtehoaagnpidnbaaFI6
import Derived.Test.YtehoaagnpidnbaaFA
namespace Go.Proofs.Ytehoaagnpidnbaa
open Go.RowKit
/-- The image that fills, or none. -/
def FilOut (w : World) (rs cs : List Int) (e : Ending) (w' : World) : Prop :=
  (svB rs cs = true ∧ ∃ g c, e = .returned (.tuple #[.agg #[.int .i64 (cs.length : Int), .slice (some ⟨g, 0, none⟩) (fillO rs cs).length c], .bool true]) ∧ w.heap.size ≤ g ∧ Row w' g (casts (fillO rs cs)) ∧ Below w.heap.size w w') ∨
  (svB rs cs = false ∧ e = .returned (.tuple #[.agg #[.int .i64 0, .slice none 0 0], .bool false]) ∧ Below w.heap.size w w')
theorem Sums.pos {rs cs : List Int} (h : Sums rs cs) : (∀ x ∈ rs, 0 ≤ x) ∧ ∀ x ∈ cs, 0 ≤ x := by
  have key : ∀ (l : List Int), (∀ j, j < l.length → 0 ≤ l.getD j 0) → ∀ x ∈ l, 0 ≤ x := fun l h x hx => by
    obtain ⟨i, hi, e⟩ := List.getElem_of_mem hx
    have := h i hi
    rw [List.getD_eq_getElem?_getD, List.getElem?_eq_getElem hi, Option.getD_some, e] at this
    exact this
  exact ⟨key rs fun j hj => (h.r j hj).1, key cs fun j hj => (h.c j hj).1⟩
theorem FitI.img {n : Nat} {rs cs : List Int} {ns : List Nat} (h : FitI n rs cs ns) (hS : Sums rs cs) : VImg n ns :=
  ⟨by rw [h.w]; exact hS.w1, by rw [h.w]; exact hS.w6, by rw [h.len]; exact hS.h1, by rw [h.len]; exact hS.h6, h.lt⟩
theorem fillO_fit {rs cs : List Int} (hS : Sums rs cs) : FitI cs.length rs cs (fillO rs cs) ∧ cnt cs.length (fillO rs cs) = fm rs cs := fillO_out hS.pos.1 hS.pos.2
/-- The rounds that are left. -/
def cntM (g h n : Nat) (w : World) : Nat := h * n - (cnt n ((parOf g h w).map Int.toNat)).toNat
theorem casts_back (ms : List Nat) : (casts ms).map Int.toNat = ms := by simp [casts, List.map_map, Function.comp_def]
theorem cntM_at {g n : Nat} {ms : List Nat} {w : World} (hr : Row w g (casts ms)) : cntM g ms.length n w = ms.length * n - (cnt n ms).toNat := by
  unfold cntM
  have e := parOf_row hr
  rw [length_casts] at e
  rw [e, casts_back]
theorem cnt_pos {n : Nat} (ns : List Nat) : 0 ≤ cnt n ns := by
  refine (sumN_bd (n := ns.length) (f := fun i => rS (cell ns) n i) (c := n) fun i _ => ?_).1
  have := sumN_bd (n := n) (f := fun j => b2i (cell ns i j)) (c := 1) fun j _ => b2i_bd _
  unfold rS
  omega
/-- What a round of the loop keeps. -/
structure FLoop (n h f : Nat) (rs cs : List Int) (ms : List Nat) : Prop where
  fit : FitI n rs cs ms
  cnt_ : cnt n ms + f = (h * n : Nat)
  out : fillN n rs cs f ms = fillO rs cs
theorem FLoop.start {rs cs : List Int} (hS : Sums rs cs) : FLoop cs.length rs.length (rs.length * cs.length) rs cs (List.replicate rs.length 0) := by
  obtain ⟨h1, h2⟩ := fit_zero hS.pos.1 hS.pos.2
  exact ⟨h1, by rw [h2]; simp, rfl⟩
theorem FLoop.stop {n h f : Nat} {rs cs : List Int} {ms : List Nat} {par : List Int} (hF : FLoop n h f rs cs ms) (he : srchI n ms rs cs = (par, none)) : ms = fillO rs cs := by
  rw [← hF.out, fillN_end he]
theorem FLoop.next {n h f q : Nat} {rs cs : List Int} {ms : List Nat} {par : List Int} (hF : FLoop n h f rs cs ms) (hh : rs.length = h) (he : srchI n ms rs cs = (par, some q)) :
    ∃ f', f = f' + 1 ∧ FLoop n h f' rs cs (back par ms.length (ms.length + n + 1) q ms) ∧ cnt n (back par ms.length (ms.length + n + 1) q ms) = cnt n ms + 1 ∧ (back par ms.length (ms.length + n + 1) q ms).length = ms.length := by
  rcases srchI_out n ms rs cs with ⟨p, wk, h', _⟩ | ⟨par', g, rank, h', hFo, hG⟩
  · rw [he] at h'; cases h'
  · rw [he] at h'
    injection h' with e1 e2
    injection e2 with e2
    subst e1 e2
    obtain ⟨h1, h2⟩ := back_fit hF.fit hFo hG
    have h3 := cnt_le (n := n) (back par ms.length (ms.length + n + 1) q ms)
    have h4 : (back par ms.length (ms.length + n + 1) q ms).length = ms.length := by rw [h1.len, hF.fit.len]
    have h5 := hF.cnt_
    have h7 : (ms.length : Int) = (h : Int) := by rw [hF.fit.len, hh]
    rw [h4, h7] at h3
    have h6 : ((h * n : Nat) : Int) = (h : Int) * (n : Int) := by simp
    cases f with
    | zero => omega
    | succ f => exact ⟨f, rfl, ⟨h1, by omega, by rw [← hF.out, fillN_step he]⟩, h2, h4⟩
set_option maxRecDepth 100000 in
set_option maxHeartbeats 4000000 in
theorem FillImage_c (u v : Value) (rs cs : List Int) (hr : rs.length ≤ 2097152) (hc : cs.length ≤ 2097152) (w : World) (hu : Ints w.heap.size w u rs) (hv : Ints w.heap.size w v cs) :
    Calls Try.prog 9 #[u, v] w (FilOut w rs cs) := by
  obtain ⟨Wi, eW⟩ : ∃ Wi, Wi = w.alloc (.cells #[.int .i64 0, .slice none 0 0] 24) := ⟨_, rfl⟩
  have hB0 : Below w.heap.size w Wi := by rw [eW]; go_grown
  have i0 : Wi.cell? ⟨w.heap.size, 0, none⟩ = some (.int .i64 0) := by rw [eW]; go_cell
  have i1 : Wi.cell? ⟨w.heap.size, 1, none⟩ = some (.slice none 0 0) := by rw [eW]; go_cell
  have f0 : Wi.frozen? ⟨w.heap.size, 0, none⟩ = false := by rw [eW]; go_cell
  have f1 : Wi.frozen? ⟨w.heap.size, 1, none⟩ = false := by rw [eW]; go_cell
  have hz0 : Wi.heap.size = w.heap.size + 1 := by rw [eW]; simp
  have hu0 := (hu.below hB0).more hB0.size
  have hv0 := (hv.below hB0).more hB0.size
  have HS := SumsValid_c u v rs cs hr hc Wi hu0 hv0
  obtain ⟨A, cap, rfl⟩ := hu.len
  obtain ⟨B, cap', rfl⟩ := hv.len
  cases hs : svB rs cs with
  | false =>
    rw [hs] at HS
    obtain ⟨q0, q1⟩ := set2_get (x := .int .i64 0) (y := .slice none 0 0) i0 i1
    have HB := Lib.hid ((hB0.setCell (p := ⟨w.heap.size, 0, none⟩) (by simp) (.int .i64 0)).setCell (p := ⟨w.heap.size, 1, none⟩) (by simp) (.slice none 0 0))
    have HSV := Lib.hid hs
    clear hs hu hv hu0 hv0 hB0 hz0
    go_enter Try.func9, Try.ntmps9
    go_wp2_with fail
    rw [← eW]
    clear eW
    refine HS.mono ?_
    rintro e w' ⟨rfl, rfl⟩
    go_wp2
    refine bodyPost_ret (res_img_b rfl _ _ rfl q0 q1) rfl ?_
    exact .inr ⟨HSV.out, rfl, HB.out⟩
  | true =>
    rw [hs] at HS
    have hS := svB_yes hs
    have hJ0 := Arg.new hu0
    have hK0 := Arg.new hv0
    obtain ⟨h, eh⟩ : ∃ h, h = rs.length := ⟨_, rfl⟩
    obtain ⟨n, en⟩ : ∃ n, n = cs.length := ⟨_, rfl⟩
    have hh6 : h ≤ 6 := by rw [eh]; exact hS.h6
    have hst := FLoop.start hS
    rw [← eh, ← en] at hst
    rw [← eh] at HS hJ0 ⊢
    rw [← en] at HS hK0 ⊢
    have HH := Lib.hid (And.intro hB0 (And.intro hS (And.intro hs (And.intro eh (And.intro en hst)))))
    have HZ0 := Lib.hid hz0
    clear hs hu hv hu0 hv0 hB0 hz0 eh en hst hS
    go_enter Try.func9, Try.ntmps9
    go_wp2_with fail
    rw [← eW]
    clear eW
    refine HS.mono ?_
    rintro e w' ⟨rfl, rfl⟩
    clear HS
    go_wp2_with fail
    refine (emptyImage_c h (n : Int) hh6 _).mono ?_
    obtain ⟨gg, egg⟩ : ∃ g, g = Wi.heap.size + 1 := ⟨_, rfl⟩
    rw [← egg]
    rintro e wc ⟨rfl, hrg, hb⟩
    have hgW : Wi.heap.size ≤ gg := by omega
    have k0 := cellB hb i0
    have k1 := cellB hb i1
    have kf0 := frozenB hb i0 f0
    have kf1 := frozenB hb i1 f1
    have hJ := hJ0.below hb
    have hK := hK0.below hb
    have hbb := HH.out.1.trans (hb.mono HH.out.1.size)
    have hgl := hrg.lt
    rw [egg] at hrg hgl hgW
    clear hb hJ0 hK0 i0 i1 f0 f1
    obtain ⟨W1, e_W1⟩ : ∃ W0, W0 = World.alloc wc (.cells #[.int .i64 (n : Int), .slice (some ⟨Wi.heap.size + 1, 0, none⟩) h h] 24) := ⟨_, rfl⟩
    have hx_W1 := Box2.new wc (.int .i64 (n : Int)) (.slice (some ⟨Wi.heap.size + 1, 0, none⟩) h h) 24
    have hb_W1 : Below (World.heap wc).size wc W1 := by rw [e_W1]; go_grown
    have HS_W1 := Lib.hid (show (World.heap W1).size = (World.heap wc).size + 1 by rw [e_W1]; simp)
    replace kf0 := frozenB hb_W1 k0 kf0
    replace k0 := cellB hb_W1 k0
    replace kf1 := frozenB hb_W1 k1 kf1
    replace k1 := cellB hb_W1 k1
    replace hJ := hJ.below hb_W1
    replace hK := hK.below hb_W1
    replace hrg := hrg.below hb_W1 hrg.lt
    replace hbb := hbb.trans (Below.mono hb_W1 hbb.size)
    have HE_W1 := Lib.hid e_W1
    clear e_W1
    go_wp2_with fail
    rw [← HE_W1.out] at hx_W1 ⊢
    clear HE_W1
    obtain ⟨hl_y, y0, y1⟩ := hx_W1
    obtain ⟨By, e_By⟩ : ∃ Bx, Bx = (World.heap wc).size := ⟨_, rfl⟩
    rw [← e_By] at hl_y y0 y1 hb_W1 HS_W1 hgl ⊢
    have hz_By := hb_W1.size
    clear e_By hb_W1
    rw [← egg] at y1 hrg hgl hgW ⊢
    have hyg : By ≠ gg := by omega
    rw [← casts_rep] at hrg
    have HF := Lib.hid (And.intro hJ (And.intro hK (And.intro hrg (And.intro hbb (And.intro k0 (And.intro k1 (And.intro kf0 (And.intro kf1 (And.intro y0 y1)))))))))
    clear hJ hK hrg hbb k0 k1 kf0 kf1 y0 y1 egg
    go_loopw [] (fun wr => ∃ (ms : List Nat) (f : Nat), FLoop n h f rs cs ms ∧ Row wr gg (casts ms) ∧ Arg Wi.heap.size wr (.slice A h cap) rs ∧ Arg Wi.heap.size wr (.slice B n cap') cs ∧ Below w.heap.size w wr ∧ (wr.cell? ⟨By, 0, none⟩ = some (.int .i64 (n : Int)) ∧ wr.cell? ⟨By, 1, none⟩ = some (.slice (some ⟨gg, 0, none⟩) h h)) ∧ (wr.cell? ⟨w.heap.size, 0, none⟩ = some (.int .i64 0) ∧ wr.cell? ⟨w.heap.size, 1, none⟩ = some (.slice none 0 0)) ∧ wr.frozen? ⟨w.heap.size, 0, none⟩ = false ∧ wr.frozen? ⟨w.heap.size, 1, none⟩ = false) (fun wr => cntM gg h n wr)
    case atStart =>
      obtain ⟨hJ, hK, hrg, hbb, k0, k1, kf0, kf1, y0, y1⟩ := HF.out
      exact ⟨List.replicate h 0, h * n, HH.out.2.2.2.2.2, hrg, hJ, hK, hbb, ⟨y0, y1⟩, ⟨k0, k1⟩, kf0, kf1⟩
    case round =>
      clear HF
      obtain ⟨ms, f, hL, hR, hJ, hK, hbb, ⟨y0, y1⟩, ⟨k0, k1⟩, kf0, kf1⟩ := hrel
      have hml : ms.length = h := by rw [hL.fit.len]; exact HH.out.2.2.2.1.symm
      have hV := hL.fit.img HH.out.2.1
      have hIM := improve_c n gg h Wi.heap.size (.slice A h cap) (.slice B n cap') ms hV rs cs (by rw [hml]; exact HH.out.2.2.2.1.symm) HH.out.2.2.2.2.1.symm wr hR hJ hK hgW
      rw [hml] at hIM
      have HLL := Lib.hid (And.intro hL (And.intro hml hR))
      clear hml hL hV hR
      have HK0 := Lib.hid (And.intro k0 k1)
      have hgw : w.heap.size ≠ gg := by have := HZ0.out; omega
      have hgw2 : w.heap.size ≤ gg := by have := HZ0.out; omega
      go_wp2_with fail
      refine hIM.mono ?_
      rintro e wd (⟨par, he, rfl, hR, hg⟩ | ⟨par, q, he, rfl, hR, hg⟩)
      · have e1 := HLL.out.1.stop he
        have k0 := cell_only hg k0 hgw
        have k1 := cell_only hg k1 hgw
        have kf0 := frozen_only hg HK0.out.1 hgw kf0
        have kf1 := frozen_only hg HK0.out.2 hgw kf1
        have y0 := cell_only hg y0 hyg
        have y1 := cell_only hg y1 hyg
        obtain ⟨q0, q1⟩ := set2_get (x := .int .i64 (n : Int)) (y := .slice (some ⟨gg, 0, none⟩) h h) k0 k1
        rw [e1] at hR
        have hhl : (fillO rs cs).length = h := by rw [← e1]; exact HLL.out.2.1
        have HO := Lib.hid (And.intro ((hR.far (p := ⟨w.heap.size, 0, none⟩) (by simp; omega) (.int .i64 (n : Int))).far (p := ⟨w.heap.size, 1, none⟩) (by simp; omega) (.slice (some ⟨gg, 0, none⟩) h h)) (And.intro (((bel_only hbb hg hgw2).setCell (p := ⟨w.heap.size, 0, none⟩) (by simp) (.int .i64 (n : Int))).setCell (p := ⟨w.heap.size, 1, none⟩) (by simp) (.slice (some ⟨gg, 0, none⟩) h h)) hhl))
        clear hR hg hJ hK hbb e1 hIM hhl he
        go_wp2
        refine bodyPost_ret (res_img_b rfl _ _ rfl q0 q1) rfl ?_
        refine .inl ⟨HH.out.2.2.1, gg, h, ?_, hgw2, HO.out.1, HO.out.2.1⟩
        rw [HO.out.2.2, ← HH.out.2.2.2.2.1]
        rfl
      · obtain ⟨f', e1, hL', hcn, hbl⟩ := HLL.out.1.next HH.out.2.2.2.1.symm he
        have hm1 := cntM_at (n := n) HLL.out.2.2
        have hm2 := cntM_at (n := n) hR
        rw [hbl] at hm2
        rw [HLL.out.2.1] at hm1 hm2
        rw [HLL.out.2.1] at hcn
        have hp := cnt_pos (n := n) ms
        have hc1 := HLL.out.1.cnt_
        have hmes : cntM gg h n wd < cntM gg h n wr := by
          rw [hm1, hm2, hcn]
          generalize h * n = HN at hc1
          omega
        have k0 := cell_only hg HK0.out.1 hgw
        have k1 := cell_only hg HK0.out.2 hgw
        have kf0 := frozen_only hg HK0.out.1 hgw kf0
        have kf1 := frozen_only hg HK0.out.2 hgw kf1
        have y0 := cell_only hg y0 hyg
        have y1 := cell_only hg y1 hyg
        have HO := Lib.hid (show _ ∧ _ from ⟨(⟨_, f', hL', hR, hJ.only hg hgW, hK.only hg hgW, bel_only hbb hg hgw2, ⟨y0, y1⟩, ⟨k0, k1⟩, kf0, kf1⟩ : ∃ (ms : List Nat) (f : Nat), FLoop n h f rs cs ms ∧ Row wd gg (casts ms) ∧ Arg Wi.heap.size wd (.slice A h cap) rs ∧ Arg Wi.heap.size wd (.slice B n cap') cs ∧ Below w.heap.size w wd ∧ (wd.cell? ⟨By, 0, none⟩ = some (.int .i64 (n : Int)) ∧ wd.cell? ⟨By, 1, none⟩ = some (.slice (some ⟨gg, 0, none⟩) h h)) ∧ (wd.cell? ⟨w.heap.size, 0, none⟩ = some (.int .i64 0) ∧ wd.cell? ⟨w.heap.size, 1, none⟩ = some (.slice none 0 0)) ∧ wd.frozen? ⟨w.heap.size, 0, none⟩ = false ∧ wd.frozen? ⟨w.heap.size, 1, none⟩ = false), hmes⟩)
        clear hR hg hJ hK hbb e1 hIM he hL' hcn hbl hm1 hm2 hp hc1 hmes k0 k1 kf0 kf1 y0 y1
        go_wp2
        exact HO.out
end Go.Proofs.Ytehoaagnpidnbaa
