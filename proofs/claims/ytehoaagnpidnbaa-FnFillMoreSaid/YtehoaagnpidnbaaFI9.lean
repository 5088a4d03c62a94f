/- Contract of the reference's FillImage. Conditions: the sums' slices read as lists, not longer than 2097152. -/
import Derived.Test.YtehoaagnpidnbaaFI7
import Derived.Test.YtehoaagnpidnbaaFI8
import Derived.Test.YtehoaagnpidnbaaFI3
namespace Go.Proofs.Ytehoaagnpidnbaa
open Go.RowKit
theorem srch_forest {n q : Nat} {ms : List Nat} {rs cs par : List Int} (he : srchI n ms rs cs = (par, some q)) : ∃ rank, Forest (arrB ms ms.length) (rootB n ms rs) (ms.length + n) par rank q := by
  rcases srchI_out n ms rs cs with ⟨p, wk, h', _⟩ | ⟨par', g, rank, h', hFo, hG⟩
  · rw [he] at h'; cases h'
  · rw [he] at h'
    injection h' with e1 e2
    injection e2 with e2
    subst e1 e2
    exact ⟨rank, hFo⟩
theorem l13Turn_c (n h g cap : Nat) (ns : List Nat) (hl : ns.length = h) (hm : ∀ x ∈ ns, x < 2 ^ n) (h6 : h ≤ 6) (w6 : n ≤ 6) (p q : Nat) (hc : (p < h ∧ h ≤ q ∧ q < h + n) ∨ (q < h ∧ h ≤ p ∧ p < h + n)) (w : World) (hR : Row w g (casts ns)) :
    Calls Try.prog 28 #[.agg #[.int .i64 (n : Int), .slice (some ⟨g, 0, none⟩) h cap], .int .i64 (p : Int), .int .i64 (q : Int)] w fun e w' => e = .returned (.tuple #[]) ∧ Row w' g (casts (turnAt ns h p q)) ∧ w.grownBy w' (some g) := by
  rcases hc with ⟨c1, c2, c3⟩ | ⟨c1, c2, c3⟩
  · exact l13Turn_a n h g cap ns hl hm h6 w6 p q c1 c2 c3 w hR
  · exact l13Turn_b n h g cap ns hl hm h6 w6 p q c1 c2 c3 w hR
set_option maxRecDepth 100000 in
set_option maxHeartbeats 4000000 in
theorem sFillImage_c (u v : Value) (rs cs : List Int) (hr : rs.length ≤ 2097152) (hc : cs.length ≤ 2097152) (w : World) (hu : Ints w.heap.size w u rs) (hv : Ints w.heap.size w v cs) :
    Calls Try.prog 7 #[u, v] w (FilOut w rs cs) := by
  obtain ⟨Wi, eW⟩ : ∃ Wi, Wi = w.alloc (.cells #[.int .i64 0, .slice none 0 0] 24) := ⟨_, rfl⟩
  have hB0 : Below w.heap.size w Wi := by rw [eW]; go_grown
  have i0 : Wi.cell? ⟨w.heap.size, 0, none⟩ = some (.int .i64 0) := by rw [eW]; go_cell
  have i1 : Wi.cell? ⟨w.heap.size, 1, none⟩ = some (.slice none 0 0) := by rw [eW]; go_cell
  have f0 : Wi.frozen? ⟨w.heap.size, 0, none⟩ = false := by rw [eW]; go_cell
  have f1 : Wi.frozen? ⟨w.heap.size, 1, none⟩ = false := by rw [eW]; go_cell
  have hz0 : Wi.heap.size = w.heap.size + 1 := by rw [eW]; simp
  have hu0 := (hu.below hB0).more hB0.size
  have hv0 := (hv.below hB0).more hB0.size
  have HS := sSumsValid_c u v rs cs hr hc Wi hu0 hv0
  obtain ⟨A, cap, rfl⟩ := hu.len
  obtain ⟨B, cap', rfl⟩ := hv.len
  cases hs : svB rs cs with
  | false =>
    rw [hs] at HS
    obtain ⟨q0, q1⟩ := set2_get (x := .int .i64 0) (y := .slice none 0 0) i0 i1
    have HB := Lib.hid ((hB0.setCell (p := ⟨w.heap.size, 0, none⟩) (by simp) (.int .i64 0)).setCell (p := ⟨w.heap.size, 1, none⟩) (by simp) (.slice none 0 0))
    have HSV := Lib.hid hs
    clear hs hu hv hu0 hv0 hB0 hz0
    go_enter Try.func7, Try.ntmps7
    go_wp2_with fail
    rw [← eW]
    clear eW
    refine HS.mono ?_
    rintro e w' ⟨rfl, rfl⟩
    go_wp2
    refine bodyPost_ret (res_img_b rfl _ _ rfl q0 q1) rfl ?_
    exact .inr ⟨HSV.out, rfl, HB.out⟩
  | true =>
    rw [hs] at HS
    have hS := svB_yes hs
    have hJ0 := Arg.new hu0
    have hK0 := Arg.new hv0
    obtain ⟨h, eh⟩ : ∃ h, h = rs.length := ⟨_, rfl⟩
    obtain ⟨n, en⟩ : ∃ n, n = cs.length := ⟨_, rfl⟩
    have hh6 : h ≤ 6 := by rw [eh]; exact hS.h6
    have hn6 : n ≤ 6 := by rw [en]; exact hS.w6
    have hst := FLoop.start hS
    rw [← eh, ← en] at hst
    rw [← eh] at HS hJ0 ⊢
    rw [← en] at HS hK0 ⊢
    have HH := Lib.hid (And.intro hB0 (And.intro hS (And.intro hs (And.intro eh (And.intro en hst)))))
    have HZ0 := Lib.hid hz0
    clear hs hu hv hu0 hv0 hB0 hz0 eh en hst hS
    go_enter Try.func7, Try.ntmps7
    go_wp2_with fail
    rw [← eW]
    clear eW
    refine HS.mono ?_
    rintro e w' ⟨rfl, rfl⟩
    clear HS
    go_wp2_with fail
    refine (l1Blank_c h (n : Int) hh6 _).mono ?_
    obtain ⟨gg, egg⟩ : ∃ g, g = Wi.heap.size + 1 := ⟨_, rfl⟩
    rw [← egg]
    rintro e wc ⟨rfl, hrg, hb⟩
    have hgW : Wi.heap.size ≤ gg := by omega
    have k0 := cellB hb i0
    have k1 := cellB hb i1
    have kf0 := frozenB hb i0 f0
    have kf1 := frozenB hb i1 f1
    have hJ := hJ0.below hb
    have hK := hK0.below hb
    have hbb := HH.out.1.trans (hb.mono HH.out.1.size)
    have hgl := hrg.lt
    rw [egg] at hrg hgl hgW
    clear hb hJ0 hK0 i0 i1 f0 f1
    obtain ⟨W1, e_W1⟩ : ∃ W0, W0 = World.alloc wc (.cells #[.int .i64 (n : Int), .slice (some ⟨Wi.heap.size + 1, 0, none⟩) h h] 24) := ⟨_, rfl⟩
    have hx_W1 := Box2.new wc (.int .i64 (n : Int)) (.slice (some ⟨Wi.heap.size + 1, 0, none⟩) h h) 24
    have hb_W1 : Below (World.heap wc).size wc W1 := by rw [e_W1]; go_grown
    have HS_W1 := Lib.hid (show (World.heap W1).size = (World.heap wc).size + 1 by rw [e_W1]; simp)
    replace kf0 := frozenB hb_W1 k0 kf0
    replace k0 := cellB hb_W1 k0
    replace kf1 := frozenB hb_W1 k1 kf1
    replace k1 := cellB hb_W1 k1
    replace hJ := hJ.below hb_W1
    replace hK := hK.below hb_W1
    replace hrg := hrg.below hb_W1 hrg.lt
    replace hbb := hbb.trans (Below.mono hb_W1 hbb.size)
    have HE_W1 := Lib.hid e_W1
    clear e_W1
    go_wp2_with fail
    rw [← HE_W1.out] at hx_W1 ⊢
    clear HE_W1
    obtain ⟨hl_y, y0, y1⟩ := hx_W1
    obtain ⟨By, e_By⟩ : ∃ Bx, Bx = (World.heap wc).size := ⟨_, rfl⟩
    rw [← e_By] at hl_y y0 y1 hb_W1 HS_W1 hgl ⊢
    have hz_By := hb_W1.size
    clear e_By hb_W1
    rw [← egg] at y1 hrg hgl hgW ⊢
    have hyg : By ≠ gg := by omega
    rw [← casts_rep] at hrg
    have HF := Lib.hid (And.intro hJ (And.intro hK (And.intro hrg (And.intro hbb (And.intro k0 (And.intro k1 (And.intro kf0 (And.intro kf1 (And.intro y0 y1)))))))))
    clear hJ hK hrg hbb k0 k1 kf0 kf1 y0 y1 egg
    have hgw : w.heap.size ≠ gg := by have := HZ0.out; omega
    have hgw2 : w.heap.size ≤ gg := by have := HZ0.out; omega
    have hmul : h * n ≤ 36 := Nat.mul_le_mul hh6 hn6
    have hcm : (h : Int) * (n : Int) = ((h * n : Nat) : Int) := by simp
    obtain ⟨HN, eHN⟩ : ∃ HN, HN = h * n := ⟨_, rfl⟩
    rw [← eHN] at hmul hcm
    have HHN := Lib.hid eHN
    clear eHN
    have hwr : IntKind.i64.wrap ((h : Int) * (n : Int)) = (HN : Int) := by rw [hcm]; exact IntWalk.i64_in _ ⟨by omega, by omega⟩
    go_loopw [7] (fun i wr => ∃ (r : Nat) (ms : List Nat) (f : Nat), r + f = HN ∧ i = .int .i64 (r : Int) ∧ FLoop n h f rs cs ms ∧ Row wr gg (casts ms) ∧ Arg Wi.heap.size wr (.slice A h cap) rs ∧ Arg Wi.heap.size wr (.slice B n cap') cs ∧ Below w.heap.size w wr ∧ (wr.cell? ⟨By, 0, none⟩ = some (.int .i64 (n : Int)) ∧ wr.cell? ⟨By, 1, none⟩ = some (.slice (some ⟨gg, 0, none⟩) h h)) ∧ (wr.cell? ⟨w.heap.size, 0, none⟩ = some (.int .i64 0) ∧ wr.cell? ⟨w.heap.size, 1, none⟩ = some (.slice none 0 0)) ∧ wr.frozen? ⟨w.heap.size, 0, none⟩ = false ∧ wr.frozen? ⟨w.heap.size, 1, none⟩ = false) (fun i _ => HN - (intOf i).toNat)
    case atStart =>
      obtain ⟨hJ, hK, hrg, hbb, k0, k1, kf0, kf1, y0, y1⟩ := HF.out
      exact ⟨0, List.replicate h 0, h * n, by rw [HHN.out]; omega, rfl, HH.out.2.2.2.2.2, hrg, hJ, hK, hbb, ⟨y0, y1⟩, ⟨k0, k1⟩, kf0, kf1⟩
    case round =>
      clear HF
      obtain ⟨r, ms, f, hrf, rfl, hL, hR, hJ, hK, hbb, ⟨y0, y1⟩, ⟨k0, k1⟩, kf0, kf1⟩ := hrel
      have hml : ms.length = h := by rw [hL.fit.len]; exact HH.out.2.2.2.1.symm
      by_cases hrn : r < HN
      · have hri : (r : Int) < (HN : Int) := by omega
        have hV := hL.fit.img HH.out.2.1
        have HSR := l41Search_c n (.slice (some ⟨gg, 0, none⟩) h h) (.slice A h cap) (.slice B n cap') ms hV rs cs (by rw [hml]; exact HH.out.2.2.2.1.symm) HH.out.2.2.2.2.1.symm wr (hR.intsH hml) hJ.ints hK.ints
        clear hV
        go_wp2_with fail
        refine HSR.mono ?_
        rintro e wd ⟨vp, par, o, he, rfl, hown, hb⟩
        have hgl2 := hR.lt
        have y0 := cellB hb y0
        have y1 := cellB hb y1
        have kf0 := frozenB hb k0 kf0
        have kf1 := frozenB hb k1 kf1
        have k0 := cellB hb k0
        have k1 := cellB hb k1
        replace hR := hR.below hb hR.lt
        replace hJ := hJ.below hb
        replace hK := hK.below hb
        replace hbb := hbb.trans (hb.mono hbb.size)
        clear HSR hb
        cases o with
        | none =>
          have e1 := hL.stop he
          obtain ⟨q0, q1⟩ := set2_get (x := .int .i64 (n : Int)) (y := .slice (some ⟨gg, 0, none⟩) h h) k0 k1
          rw [e1] at hR
          have hhl : (fillO rs cs).length = h := by rw [← e1]; exact hml
          have HO := Lib.hid (And.intro ((hR.far (p := ⟨w.heap.size, 0, none⟩) (by simp; omega) (.int .i64 (n : Int))).far (p := ⟨w.heap.size, 1, none⟩) (by simp; omega) (.slice (some ⟨gg, 0, none⟩) h h)) (And.intro ((hbb.setCell (p := ⟨w.heap.size, 0, none⟩) (by simp) (.int .i64 (n : Int))).setCell (p := ⟨w.heap.size, 1, none⟩) (by simp) (.slice (some ⟨gg, 0, none⟩) h h)) hhl))
          clear hR hJ hK hbb e1 hhl hml hL hown he hrf
          go_wp2
          refine bodyPost_ret (res_img_b rfl _ _ rfl q0 q1) rfl ?_
          refine .inl ⟨HH.out.2.2.1, gg, h, ?_, hgw2, HO.out.1, HO.out.2.1⟩
          rw [HO.out.2.2, ← HH.out.2.2.2.2.1]
          rfl
        | some q =>
          obtain ⟨rank, hFo⟩ := srch_forest he
          obtain ⟨f', ef, hL', _, hbl⟩ := hL.next HH.out.2.2.2.1.symm he
          rw [hml] at hFo hL' hbl
          obtain ⟨gp, cp, evp, hgp, hP⟩ := hown.form (by rw [hFo.len]; have := hFo.here.1; omega)
          rw [hFo.len] at evp
          subst evp
          have hpg : gg ≠ gp := by omega
          have hlt := hL.fit.lt
          obtain ⟨Zb, eZb⟩ : ∃ Z, Z = back par h (h + n + 1) q ms := ⟨_, rfl⟩
          rw [← eZb] at hL' hbl
          have hBM : BM n h (h + n) gg gp par wd wd ms := ⟨hml, hlt, hR, hP, World.grownBy.refl wd _⟩
          have HM := Lib.hid (And.intro hFo (And.intro hL' (And.intro hbl (And.intro eZb hBM))))
          have HO := Lib.hid (And.intro hJ (And.intro hK (And.intro hbb (And.intro (And.intro y0 y1) (And.intro (And.intro k0 k1) (And.intro kf0 (And.intro kf1 (And.intro ef hrf))))))))
          have hq0 : ¬ (q : Int) < 0 := by omega
          have hqz : atZ (some q) = (q : Int) := rfl
          rw [hqz]
          clear hFo hL' hbl eZb hBM hJ hK hbb y0 y1 k0 k1 kf0 kf1 hown hP hgp hlt he ef hrf hL hml hR hqz
          go_wp2_with fail
          clear hq0
          go_loopw [9] (fun s wr => ∃ (p f : Nat) (ms : List Nat), s = .int .i64 (p : Int) ∧ p < h + n ∧ 0 ≤ par.getD p 0 ∧ rank p < f ∧ back par h f p ms = Zb ∧ BM n h (h + n) gg gp par wd wr ms) (fun s _ => rank (intOf s).toNat)
          case atStart => exact ⟨q, h + n + 1, ms, rfl, HM.out.1.here.1, HM.out.1.here.2, by have := (HM.out.1.up q HM.out.1.here.1 HM.out.1.here.2).1; omega, HM.out.2.2.2.1.symm, HM.out.2.2.2.2⟩
          case round =>
            obtain ⟨p, f2, ms2, rfl, hp, hp0, hf, hbk, hm⟩ := hrel
            have hcp := hm.par.cell (k := p) (by rw [HM.out.1.len]; exact hp)
            have hup := (HM.out.1.up p hp hp0).2
            obtain ⟨f3, rfl⟩ : ∃ f3, f2 = f3 + 1 := ⟨f2 - 1, by omega⟩
            have hbk' := hbk
            rw [back] at hbk'
            have hpi : (p : Int) < (h : Int) + (n : Int) := by omega
            have hcast : (((h + n : Nat)) : Int) = (h : Int) + (n : Int) := by omega
            rcases hup with ⟨hr, _⟩ | ⟨t, ht, ht0, hpt, hrk, hA⟩
            · rw [if_pos hr] at hbk'
              rw [hr] at hcp
              obtain ⟨hJ, hK, hbb, ⟨y0, y1⟩, ⟨k0, k1⟩, kf0, kf1, ef, hrf⟩ := HO.out
              have hg := hm.grn
              have HY := Lib.hid (show ∃ (r' : Nat) (ms : List Nat) (f : Nat), r' + f = HN ∧ (.int .i64 ((r : Int) + 1) : Value) = .int .i64 (r' : Int) ∧ FLoop n h f rs cs ms ∧ Row wr gg (casts ms) ∧ Arg Wi.heap.size wr (.slice A h cap) rs ∧ Arg Wi.heap.size wr (.slice B n cap') cs ∧ Below w.heap.size w wr ∧ (wr.cell? ⟨By, 0, none⟩ = some (.int .i64 (n : Int)) ∧ wr.cell? ⟨By, 1, none⟩ = some (.slice (some ⟨gg, 0, none⟩) h h)) ∧ (wr.cell? ⟨w.heap.size, 0, none⟩ = some (.int .i64 0) ∧ wr.cell? ⟨w.heap.size, 1, none⟩ = some (.slice none 0 0)) ∧ wr.frozen? ⟨w.heap.size, 0, none⟩ = false ∧ wr.frozen? ⟨w.heap.size, 1, none⟩ = false from
                ⟨r + 1, Zb, f', by omega, by go_num, HM.out.2.1, by rw [← hbk']; exact hm.row, hJ.only hg hgW, hK.only hg hgW, bel_only hbb hg hgw2, ⟨cell_only hg y0 hyg, cell_only hg y1 hyg⟩, ⟨cell_only hg k0 hgw, cell_only hg k1 hgw⟩, frozen_only hg k0 hgw kf0, frozen_only hg k1 hgw kf1⟩)
              clear hm hbk hbk' hr hp0 hJ hK hbb y0 y1 k0 k1 kf0 kf1 hg ef hrf
              go_wp2
              exact ⟨HY.out, by simp [intOf]; omega⟩
            · have hne2 : ¬ (t : Int) = (p : Int) := by
                intro e
                have : t = p := by omega
                subst this
                omega
              have hne4 : ¬ (p : Int) = (t : Int) := fun e => hne2 e.symm
              rw [hpt, if_neg hne2, Int.toNat_natCast] at hbk'
              rw [hpt] at hcp
              have hc : (t < h ∧ h ≤ p ∧ p < h + n) ∨ (p < h ∧ h ≤ t ∧ t < h + n) := by
                rcases arr_cases hA with ⟨c1, c2, _⟩ | ⟨c1, c2, _⟩
                · exact .inl ⟨c1, c2, hp⟩
                · exact .inr ⟨c2, c1, ht⟩
              have HFL := l13Turn_c n h gg h ms2 hm.len hm.lt hh6 hn6 t p hc wr.drew hm.row
              have hlt' : ∀ x ∈ turnAt ms2 h t p, x < 2 ^ n := by
                rcases hc with ⟨c1, c2, c3⟩ | ⟨c1, c2, c3⟩
                · rw [turn_a c1 c2]; exact put_bd hm.len hm.lt c1 (by omega)
                · rw [turn_b c1 c2]; exact put_bd hm.len hm.lt c1 (by omega)
              have hlen' : (turnAt ms2 h t p).length = h := by
                rcases hc with ⟨c1, c2, c3⟩ | ⟨c1, c2, c3⟩
                · rw [turn_a c1 c2, length_putL]; exact hm.len
                · rw [turn_b c1 c2, length_putL]; exact hm.len
              have x0 := cell_only hm.grn HO.out.2.2.2.1.1 hyg
              have x1 := cell_only hm.grn HO.out.2.2.2.1.2 hyg
              have HR := Lib.hid (And.intro hm (And.intro hbk' (And.intro hrk (And.intro ht0 (And.intro hlt' hlen')))))
              clear hbk hbk' hm hpt hrk ht0 hA hc hlt' hlen' hcast
              go_wp2_with fail
              go_region_held3 (fun w' : World => w'.cell? ⟨By, 0, none⟩ = some (.int .i64 (n : Int)) ∧ w'.cell? ⟨By, 1, none⟩ = some (.slice (some ⟨gg, 0, none⟩) h h) ∧ w'.cell? ⟨gp, p, none⟩ = some (.int .i64 (t : Int))) (first | exact ⟨x0, x1, hcp⟩ | (refine ⟨?_, ?_, ?_⟩ <;> assumption) | go_keep) ((go_at_call 28; (with_reducible refine HFL.mono ?_); rintro e w9 ⟨rfl, hr9, hg9'⟩; have hg9 := grown_undrew hg9'; have y0 := cell_only hg9 x0 hyg; have y1 := cell_only hg9 x1 hyg; have y2 := cell_only hg9 hcp (Ne.symm hpg); clear hg9'))
              all_goals (have HF := Lib.hid (show back par h f3 t (turnAt ms2 h t p) = Zb ∧ BM n h (h + n) gg gp par wd w9 (turnAt ms2 h t p) from ⟨HR.out.2.1, ⟨HR.out.2.2.2.2.2, HR.out.2.2.2.2.1, hr9, HR.out.1.par.only hg9 (Ne.symm hpg), only_trans HR.out.1.grn hg9⟩⟩))
              all_goals (try (clear hr9 hg9 x0 x1 hcp HFL; go_wp2))
              all_goals (exact ⟨⟨t, f3, turnAt ms2 h t p, rfl, ht, HR.out.2.2.2.1, by have := HR.out.2.2.1; omega, HF.out.1, HF.out.2⟩, by have := HR.out.2.2.1; simp [intOf]; omega⟩)
      · obtain rfl : r = HN := by omega
        have hri : ¬ (r : Int) < (r : Int) := by omega
        obtain rfl : f = 0 := by omega
        have e1 : ms = fillO rs cs := hL.out
        obtain ⟨q0, q1⟩ := set2_get (x := .int .i64 (n : Int)) (y := .slice (some ⟨gg, 0, none⟩) h h) k0 k1
        rw [e1] at hR
        have hhl : (fillO rs cs).length = h := by rw [← e1]; exact hml
        have HO := Lib.hid (And.intro ((hR.far (p := ⟨w.heap.size, 0, none⟩) (by simp; omega) (.int .i64 (n : Int))).far (p := ⟨w.heap.size, 1, none⟩) (by simp; omega) (.slice (some ⟨gg, 0, none⟩) h h)) (And.intro ((hbb.setCell (p := ⟨w.heap.size, 0, none⟩) (by simp) (.int .i64 (n : Int))).setCell (p := ⟨w.heap.size, 1, none⟩) (by simp) (.slice (some ⟨gg, 0, none⟩) h h)) hhl))
        clear hR hJ hK hbb e1 hhl hml hL hrf
        go_wp2
        refine bodyPost_ret (res_img_b rfl _ _ rfl q0 q1) rfl ?_
        refine .inl ⟨HH.out.2.2.1, gg, h, ?_, hgw2, HO.out.1, HO.out.2.1⟩
        rw [HO.out.2.2, ← HH.out.2.2.2.2.1]
        rfl
end Go.Proofs.Ytehoaagnpidnbaa
