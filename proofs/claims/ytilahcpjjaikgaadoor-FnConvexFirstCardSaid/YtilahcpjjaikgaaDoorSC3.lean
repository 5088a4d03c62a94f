/- Contracts of l34Convex, ConvexCount and PolyCount of the reference. Conditions: the slices read as lists of integers; for the list: sums of at most 16 cells. -/
import Derived.Test.YtilahcpjjaikgaaDoorMSC
import Derived.Test.YtilahcpjjaikgaaDoorIO6
import Derived.Test.YtilahcpjjaikgaaDoorMPH
namespace Go.Proofs.YtilahcpjjaikgaaDoor
open Go Go.RowKit
theorem len_take_l {α : Type} {xs : List α} {k : Nat} (hk : k ≤ xs.length) : (xs.take k).length = k := by rw [List.length_take]; omega
theorem gen_len_ct {rs cs : List Int} (h : rs.length * cs.length ≤ 16) : (genI cs.length rs cs).length ≤ 65536 := gen_len16 (by rw [Nat.mul_comm]; exact h)
set_option maxHeartbeats 4000000 in
set_option maxRecDepth 100000 in
theorem l34Convex_c (rs cs : List Int) (hS : Sums rs cs) (h16 : rs.length * cs.length ≤ 16) (vr vc : Value) (w : World) (hr : Ints w.heap.size w vr rs) (hc : Ints w.heap.size w vc cs) :
    Calls Tryd.prog 31 #[vr, vc] w (AllOut w cs.length rs.length ((genI cs.length rs cs).filter (cvxB cs.length))) := by
  obtain ⟨AR, cR, rfl⟩ := hr.len
  obtain ⟨AC, cC, rfl⟩ := hc.len
  have h1 := hS.h1
  have h6 := hS.h6
  have w1 := hS.w1
  have w6 := hS.w6
  have hlo : LeftOk cs.length cs := ⟨rfl, fun j hj => by have := hS.c j hj; omega⟩
  have hb0 : Below w.heap.size w (w.alloc (.cells #[] 3)) := by go_grown
  have ho0 := OwnI.empty (base := w.heap.size) w (Nat.le_refl _)
  have hr0 := (hr.below hb0).more hb0.size
  have hc0 := (hc.below hb0).more hb0.size
  have hg : (genI cs.length (rs.drop 0) cs).map (([] : List Nat) ++ ·) = genI cs.length rs cs := by rw [List.drop_zero]; simp
  have ho0i : Ints (w.alloc (.cells #[] 3)).heap.size (w.alloc (.cells #[] 3)) (.slice (some ⟨w.heap.size, 0, none⟩) 0 0) (casts []) := ho0.ints
  have HA := l34All_c cs.length rs.length w1 w6 h1 h6 h16 rs rfl rs.length 0 [] cs (.slice (some ⟨w.heap.size, 0, none⟩) 0 0) (.slice AR rs.length cR) (.slice AC cs.length cC) (w.alloc (.cells #[] 3)) (Nat.zero_add _) rfl hlo ho0i hr0 hc0
  rw [hg] at HA
  have himg : ∀ ns, ns ∈ genI cs.length rs cs → VImg cs.length ns ∧ ns.length = rs.length := fun ns hm => by
    have := gen_img h1 h6 w1 w6 hm
    exact ⟨this.1, this.2.2.2⟩
  have hlen := gen_len_ct h16
  obtain ⟨L, eL⟩ : ∃ L, L = genI cs.length rs cs := ⟨_, rfl⟩
  rw [← eL] at HA himg hlen ⊢
  have HIM := Lib.hid himg
  have HB0 := Lib.hid hb0
  clear hb0 ho0 ho0i hr0 hc0 hr hc hlo hg himg eL
  obtain ⟨wd, ewd⟩ : ∃ n, n = cs.length := ⟨_, rfl⟩
  obtain ⟨h, eh⟩ : ∃ n, n = rs.length := ⟨_, rfl⟩
  have hS' := hS
  clear hS hS'
  rw [← ewd] at w1 w6 h16 HIM HA ⊢
  rw [← eh] at h1 h6 h16 HIM HA ⊢
  clear ewd eh
  go_enter Tryd.func31, Tryd.ntmps31
  go_wp2_with fail
  refine HA.mono ?_
  rintro e w9 ⟨b9, c9, gs9, rfl, him9, hb9⟩
  obtain ⟨LM, eLM⟩ : ∃ n, n = L.length := ⟨_, rfl⟩
  rw [← eLM] at him9 hlen ⊢
  have hbw9 : Below w.heap.size w w9 := HB0.out.trans (hb9.mono HB0.out.size)
  have him9' := him9.lower HB0.out.size
  have hi0 := ImgL.none (base := w.heap.size) w9 hbw9.size wd h
  have hb0 : Below w9.heap.size w9 (w9.alloc (.cells #[] 27)) := by go_grown
  obtain ⟨W0, eW⟩ : ∃ W, W = w9.alloc (.cells #[] 27) := ⟨_, rfl⟩
  rw [← eW] at hi0 hb0
  have HI := Lib.hid (And.intro hi0 hb0)
  have H9 := Lib.hid (And.intro him9' (And.intro hbw9 eLM))
  clear HA him9 him9' hb9 hbw9 HB0 hi0 hb0 eLM
  go_wp2_with fail
  rw [← eW]
  clear eW
  go_loopw [6, 7] (fun s q wr => ∃ (k b c n : Nat) (gs : List (Nat × Nat)), k ≤ LM ∧ s = .slice (some ⟨b, 0, none⟩) n c ∧ q = .int .i64 (k : Int) ∧ n = ((L.take k).filter (cvxB wd)).length ∧ w9.heap.size ≤ b ∧ ImgL w.heap.size wr wd h (.slice (some ⟨b, 0, none⟩) n c) ((L.take k).filter (cvxB wd)) gs ∧ Below w9.heap.size w9 wr) (fun _ q _ => LM - (intOf q).toNat)
  case atStart => exact ⟨0, _, _, 0, [], Nat.zero_le _, rfl, rfl, rfl, Nat.le_refl _, HI.out.1, HI.out.2⟩
  case round =>
    clear HI
    obtain ⟨k, b, c, n, gs, hk, rfl, rfl, hn, hb, him, hbr⟩ := hrel
    have HN := Lib.hid hn
    clear hn
    by_cases hlt : k < LM
    · have hkL : k < L.length := by rw [← H9.out.2.2]; exact hlt
      have hki : (k : Int) < (LM : Int) := by omega
      have hl := H9.out.1.below hbr (Nat.le_refl _)
      obtain ⟨bb, cc, e, hb1, hb2, c0, c1⟩ := hl.get hkL
      injection e with e1 e2 e3
      injection e1 with e1
      injection e1 with e1
      subst e1 e3
      obtain ⟨hrow, hg1⟩ := hl.rows k hkL
      have hglt := (H9.out.1.rows k hkL).1.lt
      have hsn := filter_snoc (p := cvxB wd) hkL
      have hmem : L.getD k [] ∈ L := by rw [List.getD_eq_getElem?_getD, List.getElem?_eq_getElem hkL]; exact List.getElem_mem hkL
      obtain ⟨hV, hnl⟩ := HIM.out _ hmem
      obtain ⟨gg, eg⟩ : ∃ g, g = (gs9.getD k (0, 0)).1 := ⟨_, rfl⟩
      obtain ⟨cg, ec⟩ : ∃ c, c = (gs9.getD k (0, 0)).2 := ⟨_, rfl⟩
      rw [← eg] at hrow hg1 c1 hglt
      rw [← ec] at c1
      obtain ⟨ms, em⟩ : ∃ ms, ms = L.getD k [] := ⟨_, rfl⟩
      rw [← em] at hrow hsn hV hnl
      have hcv := cvxO_yes hV
      have HC := sImageConvex_c (wd : Int) (.slice (some ⟨gg, 0, none⟩) h cg) (casts ms) wr (hrow.intsH (h := h) (c := cg) hnl)
      rw [hcv] at HC
      have hlf : ((L.take k).filter (cvxB wd)).length ≤ 65536 := by
        have a1 := List.length_filter_le (cvxB wd) (L.take k)
        rw [len_take_l (by omega : k ≤ L.length)] at a1
        omega
      have HK := Lib.hid (And.intro him (And.intro hbr (And.intro hrow (And.intro hg1 (And.intro hglt (And.intro hsn hlf))))))
      clear hl him hbr hrow hg1 hglt hsn hV hnl hmem em eg ec hb1 hb2 e2 hcv hlf
      go_wp2_with fail
      refine HC.mono ?_
      rintro e wc ⟨rfl, hb2⟩
      obtain ⟨him, hbr, hrow, hg1, hglt, hsn, hlf⟩ := HK.out
      have himc := him.below hb2 (Nat.le_refl _)
      have hbrc := hbr.trans (hb2.mono hbr.size)
      have hrc := hrow.below hb2 hrow.lt
      have d0 := cellB hb2 c0
      have d1 := cellB hb2 c1
      cases hp : cvxB wd ms with
      | false =>
        rw [hp, if_neg (by simp), List.append_nil] at hsn
        have HF := Lib.hid (And.intro himc (And.intro hbrc hsn))
        clear hp hsn him hbr hrow himc hbrc hrc d0 d1 c0 c1 HC HK hb2
        go_wp2
        go_roundw
        case rel => exact ⟨k + 1, b, c, n, gs, by omega, rfl, by go_num, by rw [HF.out.2.2]; exact HN.out, hb, by rw [HF.out.2.2]; exact HF.out.1, HF.out.2.1⟩
        case measure => simp [intOf]; omega
      | true =>
        rw [hp, if_pos rfl] at hsn
        have hal : Below wc.heap.size wc (wc.alloc (.cells #[.int .i64 (wd : Int), .slice (some ⟨gg, 0, none⟩) h cg] 27)) := by go_grown
        have hima := himc.below hal (Nat.le_refl _)
        have hbra := hbrc.trans (hal.mono hbrc.size)
        have hra := hrc.below hal hrc.lt
        have hwsz : w.heap.size ≤ (wc.alloc (.cells #[.int .i64 (wd : Int), .slice (some ⟨gg, 0, none⟩) h cg] 27)).heap.size := Nat.le_trans H9.out.2.1.size hbra.size
        have t0 : (wc.alloc (.cells #[.int .i64 (wd : Int), .slice (some ⟨gg, 0, none⟩) h cg] 27)).cell? ⟨wc.heap.size, 0, none⟩ = some (.int .i64 (wd : Int)) := by go_cell
        have t1 : (wc.alloc (.cells #[.int .i64 (wd : Int), .slice (some ⟨gg, 0, none⟩) h cg] 27)).cell? ⟨wc.heap.size, 1, none⟩ = some (.slice (some ⟨gg, 0, none⟩) h cg) := by go_cell
        have hlg : (gs.map (imgC wd h)).length ≤ 1048576 := by rw [List.length_map, himc.len]; omega
        have HA := Lib.hid (And.intro hima (And.intro hbra (And.intro hra (And.intro hwsz (And.intro t0 (And.intro t1 (And.intro hlg hsn)))))))
        clear hp hsn him hbr hrow himc hbrc hrc c0 c1 HC HK hb2 hal hima hbra hra hwsz t0 t1 hlg
        go_wp2_with (at_builtin; refine wpList_appP (v := .slice (some ⟨b, 0, none⟩) n c) (x := .int .i64 (wd : Int)) (y := .slice (some ⟨gg, 0, none⟩) h cg) rfl (.tmp 24) (.tmp 29) rfl rfl HA.out.1.own rfl rfl rfl HA.out.2.2.2.2.1 HA.out.2.2.2.2.2.1 HA.out.2.2.2.2.2.2.1 HA.out.2.2.2.1 ?_; intro v10 w10 hown10 hgr10 hat10)
        have hnm : gs.map (imgC wd h) ++ [((.int .i64 (wd : Int) : Value), (.slice (some ⟨gg, 0, none⟩) h cg : Value))] = gs.map (imgC wd h) ++ [(gg, cg)].map (imgC wd h) := rfl
        rw [hnm] at hown10
        have hnew := HA.out.1.app (M := [ms]) (gs2 := [(gg, cg)]) (fun j hj => by
          obtain rfl : j = 0 := by simpa using hj
          exact ⟨HA.out.2.2.1, hg1⟩) rfl (fun j b' hj hb' => by
          obtain rfl : j = 0 := by simpa using hj
          simp [Value.ownBlock] at hb'
          show gg ≠ b'
          omega) hown10 hgr10 hat10
        rw [← HA.out.2.2.2.2.2.2.2] at hnew
        have hbn : Below w9.heap.size w9 w10 := HA.out.2.1.grown hgr10 HA.out.2.1.size fun j e => by cases e; exact hb
        have hb10 : ∀ q, v10.ownBlock = some q → w9.heap.size ≤ q := fun q hq => by
          have := HA.out.2.1.size
          rcases hat10 with h' | h'
          · rw [h'] at hq; cases hq; exact hb
          · rw [h'] at hq; cases hq; exact this
        obtain ⟨b10, c10, ev10, _, _⟩ := hnew.form
        subst ev10
        have hb10' := hb10 b10 rfl
        obtain ⟨n10, en10⟩ : ∃ n, n = ((L.take (k + 1)).filter (cvxB wd)).length := ⟨_, rfl⟩
        rw [← en10] at hnew ⊢
        have HF := Lib.hid (And.intro hnew (And.intro hbn en10))
        clear hnew hbn en10 hb10 hown10 hgr10 hat10 HA d0 d1
        go_wp2
        go_roundw
        case rel => exact ⟨k + 1, b10, c10, n10, gs ++ [(gg, cg)], by omega, rfl, by go_num, HF.out.2.2, hb10', HF.out.1, HF.out.2.1⟩
        case measure => simp [intOf]; omega
    · obtain rfl : k = LM := by omega
      have hki : ¬ ((k : Int) < (k : Int)) := by omega
      have hall : L.take k = L := List.take_of_length_le (by rw [← H9.out.2.2]; exact Nat.le_refl _)
      have HE := Lib.hid (show AllOut w wd h (L.filter (cvxB wd)) (.returned (.slice (some ⟨b, 0, none⟩) n c)) wr from by
        have hn := HN.out
        rw [hall] at hn him
        exact ⟨b, c, gs, by rw [hn], by rw [← hn]; exact him, H9.out.2.1.trans (hbr.mono H9.out.2.1.size)⟩)
      clear him hbr
      go_wp2
      go_returns
      exact HE.out
end Go.Proofs.YtilahcpjjaikgaaDoor
