/- Contract of TableAdd of the reference. Conditions: valid tables of one to eight rows and columns, the factor 1 or -1, the second one lies within the first. -/
import Derived.Test.YtbpjceffkchmbaaDoorTG6
namespace Go.Proofs.YtbpjceffkchmbaaDoor
open Go.RowKit
set_option maxRecDepth 100000 in
set_option maxHeartbeats 8000000 in
theorem sTableAdd_c (gA gB h n h2 n2 i j cA cB : Nat) (c : Int) (gsA gsB : List Nat) (A B : List (List Int)) (h1 : 1 ≤ h) (h8 : h ≤ 8) (n1 : 1 ≤ n) (n8 : n ≤ 8) (h21 : 1 ≤ h2) (n21 : 1 ≤ n2) (hih : i + h2 ≤ h) (hjn : j + n2 ≤ n) (hc : c = 1 ∨ c = -1) (hA : tvB h n A = true) (hB : tvB h2 n2 B = true) (w : World) (tA : Tbl w gA h n gsA A) (tB : Tbl w gB h2 n2 gsB B) :
    Calls Tryd.prog 43 #[.slice (some ⟨gA, 0, none⟩) h cA, .slice (some ⟨gB, 0, none⟩) h2 cB, .int .i64 c, .int .i64 (i : Int), .int .i64 (j : Int)] w fun e w' => TadOut w false (tvB h n (addT A B c i j h n h2 n2)) h n (addT A B c i j h n h2 n2) w' e := by
  have HVA := sTableValid_c gA h cA n gsA A h1 h8 n1 n8 w tA
  rw [hA] at HVA
  obtain ⟨ga, ega⟩ : ∃ g, g = gsA.getD 0 0 := ⟨_, rfl⟩
  obtain ⟨gb, egb⟩ : ∃ g, g = gsB.getD 0 0 := ⟨_, rfl⟩
  have HT := Lib.hid (And.intro tA (And.intro tB (And.intro (tv_bd hA) (And.intro (tv_bd hB) (And.intro ega (And.intro egb hB))))))
  have hcc : -999 ≤ c ∧ c ≤ 999 := by omega
  have hl1 : (0 : Int) ≤ (i : Int) ∧ (i : Int) ≤ (h : Int) - (h2 : Int) := by omega
  have hl2 : (0 : Int) ≤ (j : Int) ∧ (j : Int) ≤ (n : Int) - (n2 : Int) := by omega
  have ew1 : IntKind.i64.wrap ((h : Int) - (h2 : Int)) = (h : Int) - (h2 : Int) := IntWalk.i64_in _ ⟨by omega, by omega⟩
  have ew2 : IntKind.i64.wrap ((n : Int) - (n2 : Int)) = (n : Int) - (n2 : Int) := IntWalk.i64_in _ ⟨by omega, by omega⟩
  clear tA tB hA hB ega egb
  go_enter Tryd.func43, Tryd.ntmps43
  go_wp2_with fail
  refine HVA.mono ?_
  rintro e w1 ⟨rfl, hb1⟩
  have HVB := sTableValid_c gB h2 cB n2 gsB B h21 (by omega) n21 (by omega) w1 (HT.out.2.1.below hb1)
  rw [HT.out.2.2.2.2.2.2] at HVB
  clear HVA
  go_wp2_with fail
  refine HVB.mono ?_
  rintro e w2 ⟨rfl, hb2⟩
  clear HVB
  have hb := hb1.trans (hb2.mono hb1.size)
  have hcA := (HT.out.1.below hb).cell (i := 0) (by omega)
  have hcB := (HT.out.2.1.below hb).cell (i := 0) (by omega)
  rw [← HT.out.2.2.2.2.1] at hcA
  rw [← HT.out.2.2.2.2.2.1] at hcB
  unfold rowV at hcA hcB
  have kA := cell_regrown hcA
  have kB := cell_regrown hcB
  have HB2 := Lib.hid hb
  clear hb1 hb2 hb
  go_wp2_with (go_at_call 56; refine (l6In_yes _ _ _ hcc _).mono ?_; rintro e w' ⟨rfl, rfl⟩)
  refine wp_region_quiet_below (by kernel_rfl) (by kernel_rfl) ?_
  repeat (first | go_big_quiet_step ((go_at_call 56; first | with_reducible exact Calls.rgs (l6In_yes _ _ _ hl1 _) | with_reducible exact Calls.rgs (l6In_yes _ _ _ hl2 _))) | quiet_step ((go_at_call 56; first | with_reducible exact Calls.rgs (l6In_yes _ _ _ hl1 _) | with_reducible exact Calls.rgs (l6In_yes _ _ _ hl2 _))))
  refine wpQuiet_nil ?_
  intro _ hw0
  obtain ⟨⟨dq, osq⟩, hw1⟩ := hw0
  subst hw1
  have hq := below_regrown w2 dq osq
  generalize Go.Sort.grow (redrawn w2 dq) osq = w3 at hq ⊢
  have hcA3 := cellB hq hcA
  have hb3 := HB2.out.trans (hq.mono HB2.out.size)
  have HE := l22Blank_c h n (by omega) (by omega) w3
  clear kA kB hcA hcB ew1 ew2
  go_wp2_with fail
  refine HE.mono ?_
  rintro e w4 ⟨v, rfl, gT, cp, gs, rfl, hcp, hT, hgT, hgs, hb4⟩
  clear HE hcA3
  have h0 : Tbl w4 gT h n gs (filT (ent A) h n 0 0) := by rw [filT_zero]; exact hT
  have HX := Lib.hid (And.intro h0 (And.intro (Nat.le_trans hb3.size hgT) (And.intro (fun i hi => Nat.le_trans hb3.size (hgs i hi) : ∀ i, i < h → w.heap.size ≤ gs.getD i 0) (hb3.trans (hb4.mono hb3.size)))))
  clear h0 hT hgT hgs hb4 hb3 hq
  go_wp2_with fail
  go_loopw [13] (fun q wr => ∃ k : Nat, k ≤ h ∧ q = .int .i64 (k : Int) ∧ Tbl wr gT h n gs (filT (ent A) h n k 0) ∧ Below w.heap.size w wr) (fun q _ => h - (intOf q).toNat)
  case atStart => exact ⟨0, Nat.zero_le _, rfl, HX.out.1, HX.out.2.2.2⟩
  case round =>
    obtain ⟨k, hk, rfl, hT, hb⟩ := hrel
    by_cases hkl : k < h
    · have hki : (k : Int) < (h : Int) := by omega
      have HK := Lib.hid (And.intro hT hb)
      clear hT hb
      go_wp2_with fail
      go_loopw [14] (fun q wr => ∃ l : Nat, l ≤ n ∧ q = .int .i64 (l : Int) ∧ Tbl wr gT h n gs (filT (ent A) h n k l) ∧ Below w.heap.size w wr) (fun q _ => n - (intOf q).toNat)
      case atStart => exact ⟨0, Nat.zero_le _, rfl, HK.out.1, HK.out.2⟩
      case round =>
        clear HK
        obtain ⟨l, hl, rfl, hT, hb⟩ := hrel
        have tA := HT.out.1.below hb
        have hcA := tA.cell (i := 0) (by omega)
        rw [← HT.out.2.2.2.2.1] at hcA
        unfold rowV at hcA
        by_cases hll : l < n
        · have hli : (l : Int) < (n : Int) := by omega
          have hca := tA.cell hkl
          have hce := (tA.row k hkl).cell (k := l) (by rw [tA.wid k hkl]; exact hll)
          have hct := hT.cell hkl
          have hst := filT_step (f := ent A) hkl hll
          have hent : ent A k l = (A.getD k []).getD l 0 := rfl
          rw [hent] at hst
          obtain ⟨z, ez⟩ : ∃ z, z = (A.getD k []).getD l 0 := ⟨_, rfl⟩
          rw [← ez] at hce hst
          obtain ⟨g, eg⟩ : ∃ g, g = gsA.getD k 0 := ⟨_, rfl⟩
          rw [← eg] at hca hce
          have hset := fun (W : World) (hW : Below wr.heap.size wr W) => (hT.below hW).set hkl hll z
          have hfe := fun (W : World) (hW : Below wr.heap.size wr W) => ((hT.below hW).row k hkl).frozen l
          have hcl := fun (W : World) (hW : Below wr.heap.size wr W) => ((hT.below hW).row k hkl).cell (k := l) (by rw [hT.wid k hkl]; exact hll)
          have hge := HX.out.2.2.1 k hkl
          obtain ⟨gt, egt⟩ : ∃ g, g = gs.getD k 0 := ⟨_, rfl⟩
          rw [← egt] at hct hge
          simp only [← egt] at hset hfe hcl
          unfold rowV at hca hct
          have k1 := cell_regrown hca
          have k2 := cell_regrown hce
          have k3 := cell_regrown hct
          have HS := Lib.hid (And.intro hset (And.intro hst hb))
          have HF := Lib.hid (And.intro hfe hcl)
          clear hT hb tA hst ez eg egt hent hset hfe hcl
          go_wp2_with fail
          refine wp_region_below_tail 13 (by kernel_rfl) (by kernel_rfl) ?_
          simp only [List.take_succ_cons, List.take_zero, List.drop_succ_cons, List.drop_zero]
          repeat (first | go_big_quiet_step (fail) | quiet_step (fail))
          refine wpQuiet_nil ?_
          intro _ hw0
          obtain ⟨⟨dq, osq⟩, hw1⟩ := hw0
          subst hw1
          have hq := below_regrown wr dq osq
          generalize Go.Sort.grow (redrawn wr dq) osq = w5 at hq ⊢
          clear k1 k2 k3
          have hfe := HF.out.1 w5 hq
          have hcl := HF.out.2 w5 hq
          have hset := HS.out.1 w5 hq
          rw [show (filT (ent A) h n k l).set k (((filT (ent A) h n k l).getD k []).set l z) = filT (ent A) h n k (l + 1) from HS.out.2.1] at hset
          have hbb := (HS.out.2.2.trans (hq.mono HS.out.2.2.size)).setCell (p := ⟨gt, l, none⟩) hge (.int .i64 z)
          have HN := Lib.hid (And.intro hset hbb)
          clear hset hbb hq
          go_wp2_with fail
          go_roundw
          case rel => exact ⟨l + 1, by omega, by go_num, HN.out⟩
          case measure => simp [intOf]; omega
        · have hli : ¬ ((l : Int) < (n : Int)) := by omega
          have hln : l = n := by omega
          rw [hln, filT_row] at hT
          have HN := Lib.hid (And.intro hT hb)
          clear hT hb hln tA
          go_wp2
          exact ⟨⟨k + 1, by omega, by go_num, HN.out⟩, by simp [intOf]; omega⟩
    · have hki : ¬ ((k : Int) < (h : Int)) := by omega
      have hkh : k = h := by omega
      have hT' : Tbl wr gT h n gs (addS A B c i j h n n2 0 0) := by
        rw [hkh, filT_ent HT.out.1.szd] at hT
        rw [addS_zero HT.out.1.szd]
        exact hT
      have HN := Lib.hid (And.intro hT' hb)
      clear hT hb hT' hkh
      go_wp2_with fail
      go_loopw [15] (fun q wr => ∃ k : Nat, k ≤ h2 ∧ q = .int .i64 (k : Int) ∧ Tbl wr gT h n gs (addS A B c i j h n n2 k 0) ∧ Below w.heap.size w wr) (fun q _ => h2 - (intOf q).toNat)
      case atStart => exact ⟨0, Nat.zero_le _, rfl, HN.out⟩
      case round =>
        clear HN hki hkl hk
        obtain ⟨k, hk, rfl, hT, hb⟩ := hrel
        by_cases hkl : k < h2
        · have hki : (k : Int) < (h2 : Int) := by omega
          have HK := Lib.hid (And.intro hT hb)
          clear hT hb
          go_wp2_with fail
          go_loopw [16] (fun q wr => ∃ l : Nat, l ≤ n2 ∧ q = .int .i64 (l : Int) ∧ Tbl wr gT h n gs (addS A B c i j h n n2 k l) ∧ Below w.heap.size w wr) (fun q _ => n2 - (intOf q).toNat)
          case atStart => exact ⟨0, Nat.zero_le _, rfl, HK.out.1, HK.out.2⟩
          case round =>
            clear HK
            obtain ⟨l, hl, rfl, hT, hb⟩ := hrel
            have tB := HT.out.2.1.below hb
            have hcB := tB.cell (i := 0) (by omega)
            rw [← HT.out.2.2.2.2.2.1] at hcB
            unfold rowV at hcB
            by_cases hll : l < n2
            · have hli : (l : Int) < (n2 : Int) := by omega
              have hp1 : (i : Int) + (k : Int) = ((i + k : Nat) : Int) := by omega
              have hp2 : (j : Int) + (l : Int) = ((j + l : Nat) : Int) := by omega
              have hpl : i + k < h := by omega
              have hql : j + l < n := by omega
              have hcb := tB.cell hkl
              have hcz := (tB.row k hkl).cell (k := l) (by rw [tB.wid k hkl]; exact hll)
              have hct := hT.cell hpl
              have hce := (hT.row _ hpl).cell (k := j + l) (by rw [hT.wid _ hpl]; exact hql)
              have hst := addS_step (A := A) (B := B) (c := c) hpl hql hll
              have hz := HT.out.2.2.2.1 k l hkl hll
              have ha := HT.out.2.2.1 _ _ hpl hql
              have hent : ent B k l = (B.getD k []).getD l 0 := rfl
              have hent2 : ((addS A B c i j h n n2 k l).getD (i + k) []).getD (j + l) 0 = ent A (i + k) (j + l) := addS_at hpl hql
              have hwid := hT.wid _ hpl
              rw [hent2] at hce
              rw [hent] at hz hst
              obtain ⟨z, ez⟩ : ∃ z, z = (B.getD k []).getD l 0 := ⟨_, rfl⟩
              rw [← ez] at hcz hz hst
              obtain ⟨y, ey⟩ : ∃ z, z = ent A (i + k) (j + l) := ⟨_, rfl⟩
              rw [← ey] at hce ha hst
              have hm := mulB (a := c) (b := z) (c := 999) (e := 999) (by omega) (by omega) (by omega) (by omega)
              obtain ⟨m, em⟩ : ∃ m, m = c * z := ⟨_, rfl⟩
              rw [← em] at hm hst
              have em2 : c * z = m := em.symm
              have ew1 : IntKind.i64.wrap m = m := IntWalk.i64_in _ ⟨by omega, by omega⟩
              have ew2 : IntKind.i64.wrap (y + m) = y + m := IntWalk.i64_in _ ⟨by omega, by omega⟩
              have hset := fun (W : World) (hW : Below wr.heap.size wr W) => (hT.below hW).set hpl hql (y + m)
              have hfe := fun (W : World) (hW : Below wr.heap.size wr W) => ((hT.below hW).row _ hpl).frozen (j + l)
              have hge := HX.out.2.2.1 _ hpl
              obtain ⟨p, ep⟩ : ∃ p, p = i + k := ⟨_, rfl⟩
              obtain ⟨q, eq⟩ : ∃ p, p = j + l := ⟨_, rfl⟩
              rw [← ep] at hp1 hct hce hge hpl
              rw [← eq] at hp2 hce hql
              simp only [← ep, ← eq] at hset hfe hst hwid
              obtain ⟨g, eg⟩ : ∃ g, g = gsB.getD k 0 := ⟨_, rfl⟩
              rw [← eg] at hcb hcz
              obtain ⟨gp, egp⟩ : ∃ g, g = gs.getD p 0 := ⟨_, rfl⟩
              rw [← egp] at hct hce hge
              simp only [← egp] at hset hfe
              unfold rowV at hct hcb
              have k1 := cell_regrown hcb
              have k2 := cell_regrown hcz
              have k3 := cell_regrown hct
              have k4 := cell_regrown hce
              have HS := Lib.hid (And.intro hset (And.intro hst hb))
              have HF := Lib.hid (And.intro hfe hce)
              clear hT hb tB hst ez ey em eg egp hent hent2 hset hfe hwid ep eq
              go_wp2_with fail
              refine wp_region_below_tail 31 (by kernel_rfl) (by kernel_rfl) ?_
              simp only [List.take_succ_cons, List.take_zero, List.drop_succ_cons, List.drop_zero]
              repeat (first | go_big_quiet_step (fail) | quiet_step (fail))
              refine wpQuiet_nil ?_
              intro _ hw0
              obtain ⟨⟨dq, osq⟩, hw1⟩ := hw0
              subst hw1
              have hq := below_regrown wr dq osq
              generalize Go.Sort.grow (redrawn wr dq) osq = w5 at hq ⊢
              clear k1 k2 k3 k4
              have hfe := HF.out.1 w5 hq
              have hce5 := cellB hq HF.out.2
              have hset := HS.out.1 w5 hq
              rw [show (addS A B c i j h n n2 k l).set p (((addS A B c i j h n n2 k l).getD p []).set q (y + m)) = addS A B c i j h n n2 k (l + 1) from HS.out.2.1] at hset
              have hbb := (HS.out.2.2.trans (hq.mono HS.out.2.2.size)).setCell (p := ⟨gp, q, none⟩) hge (.int .i64 (y + m))
              have HN := Lib.hid (And.intro hset hbb)
              clear hset hbb hq hce hct hcb hcz
              go_wp2_with fail
              go_roundw
              case rel => exact ⟨l + 1, by omega, by go_num, HN.out⟩
              case measure => simp [intOf]; omega
            · have hli : ¬ ((l : Int) < (n2 : Int)) := by omega
              have hln : l = n2 := by omega
              rw [hln, addS_row] at hT
              have HN := Lib.hid (And.intro hT hb)
              clear hT hb hln tB
              go_wp2
              exact ⟨⟨k + 1, by omega, by go_num, HN.out⟩, by simp [intOf]; omega⟩
        · have hki : ¬ ((k : Int) < (h2 : Int)) := by omega
          have hkh : k = h2 := by omega
          rw [hkh] at hT
          have hT' : Tbl wr gT h n gs (addT A B c i j h n h2 n2) := hT
          have HV := sTableValid_c gT h cp n gs _ h1 h8 n1 n8 wr hT'
          have HN := Lib.hid (And.intro hT' hb)
          clear hT hb hkh hT'
          obtain ⟨T, eT⟩ : ∃ T, T = addT A B c i j h n h2 n2 := ⟨_, rfl⟩
          have HTT := Lib.hid eT
          rw [← eT] at HV
          clear eT
          cases hv : tvB h n T with
          | false =>
            rw [hv] at HV
            have HVV := Lib.hid hv
            clear hv
            go_wp2_with fail
            refine HV.mono ?_
            rintro e w6 ⟨rfl, hb6⟩
            have hb7 := HN.out.2.trans (hb6.mono HN.out.2.size)
            go_wp2
            go_returns
            exact .inr ⟨by rw [← HTT.out]; exact HVV.out, ⟨_, rfl⟩, hb7.alloc hb7.size _⟩
          | true =>
            rw [hv] at HV
            have HVV := Lib.hid hv
            clear hv
            go_wp2_with fail
            refine HV.mono ?_
            rintro e w6 ⟨rfl, hb6⟩
            have hb7 := HN.out.2.trans (hb6.mono HN.out.2.size)
            have HN6 := Lib.hid (HN.out.1.below hb6)
            clear HV hb6
            go_wp2
            go_returns
            exact .inl ⟨by rw [← HTT.out]; exact HVV.out, gT, cp, gs, rfl, HN6.out, HX.out.2.1, HX.out.2.2.1, ⟨hcp, fun e => by cases e⟩, hb7⟩
end Go.Proofs.YtbpjceffkchmbaaDoor
