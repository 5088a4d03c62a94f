/- Contracts of FillFits, the program's and the reference's. Conditions: the slices read as lists of integers, their lengths at most 2 to the power of 21. -/
import Derived.Test.YtehoaagnpidnbaaFC
namespace Go.Proofs.Ytehoaagnpidnbaa
open Go.RowKit
theorem Row.intsI {w : World} {g h c : Nat} {xs : List Int} (hr : Row w g xs) (hl : xs.length = h) : Ints w.heap.size w (.slice (some ⟨g, 0, none⟩) h c) xs := by
  have := hr.ints hr.lt c
  rw [hl] at this
  exact this
/-- An image fills sums. -/
def ffB (W : Int) (rows rs cs : List Int) : Bool := svB rs cs && (validB W rows && (decide ((rows.length : Int) = rs.length) && (decide (W = cs.length) && (naB (rsOf W rows) rs && naB (csOf W rows) cs))))
theorem ffB_sv {W : Int} {rows rs cs : List Int} (h : svB rs cs = false) : ffB W rows rs cs = false := by unfold ffB; rw [h]; rfl
theorem ffB_va {W : Int} {rows rs cs : List Int} (h : validB W rows = false) : ffB W rows rs cs = false := by unfold ffB; rw [h]; simp
theorem ffB_h {W : Int} {rows rs cs : List Int} (h : ¬ rows.length = rs.length) : ffB W rows rs cs = false := by unfold ffB; rw [decide_eq_false (by omega : ¬ (rows.length : Int) = rs.length)]; simp
theorem ffB_w {W : Int} {rows rs cs : List Int} (h : ¬ W = cs.length) : ffB W rows rs cs = false := by unfold ffB; rw [decide_eq_false h]; simp
theorem ffB_yes {n : Nat} {ns : List Nat} {rs cs : List Int} (hV : VImg n ns) (hs : svB rs cs = true) (hl : ns.length = rs.length) (hw : n = cs.length) : ffB n (casts ns) rs cs = (naB (rowSums n ns) rs && naB (colSums n ns) cs) := by
  unfold ffB
  rw [hs, validB_of hV, rsOf_yes hV, csOf_yes hV, length_casts, hl, hw]
  simp
set_option maxHeartbeats 2000000 in
theorem FillFits_c (W : Int) (v u t : Value) (rows rs cs : List Int) (hr : rs.length ≤ 2097152) (hc : cs.length ≤ 2097152) (hrw : rows.length ≤ 2097152) (w : World) (hv : Ints w.heap.size w v rows) (hu : Ints w.heap.size w u rs) (ht : Ints w.heap.size w t cs) :
    Calls Try.prog 16 #[.agg #[.int .i64 W, v], u, t] w fun e w' => e = .returned (.bool (ffB W rows rs cs)) ∧ Below w.heap.size w w' := by
  obtain ⟨A, cap, rfl⟩ := hv.len
  obtain ⟨B, cap1, rfl⟩ := hu.len
  obtain ⟨C, cap2, rfl⟩ := ht.len
  have hI := Arg.new hv
  have hJ := Arg.new hu
  have hK := Arg.new ht
  have hW := Below.refl w.heap.size w
  clear hv hu ht
  go_enter Try.func16, Try.ntmps16
  obtain ⟨W0, e_W0⟩ : ∃ W0, W0 = World.alloc w (.cells #[.int .i64 W, .slice A rows.length cap] 24) := ⟨_, rfl⟩
  have hx_W0 := Box2.new w (.int .i64 W) (.slice A rows.length cap) 24
  have hb_W0 : Below (World.heap w).size w W0 := by rw [e_W0]; go_grown
  have HS_W0 := Lib.hid (show (World.heap W0).size = (World.heap w).size + 1 by rw [e_W0]; simp)
  replace hI := hI.below hb_W0
  replace hJ := hJ.below hb_W0
  replace hK := hK.below hb_W0
  replace hW := hW.trans (Below.mono hb_W0 hW.size)
  have HE_W0 := Lib.hid e_W0
  clear e_W0
  go_wp2_with fail
  rw [← HE_W0.out] at hx_W0 ⊢
  clear HE_W0
  obtain ⟨hl_x, x0, x1⟩ := hx_W0
  obtain ⟨Bx, e_Bx⟩ : ∃ Bx, Bx = (World.heap w).size := ⟨_, rfl⟩
  rw [← e_Bx] at hl_x x0 x1 hb_W0 HS_W0  ⊢
  have hz_Bx := hb_W0.size
  clear e_Bx hb_W0
  refine (SumsValid_c _ _ rs cs hr hc _ hJ.ints hK.ints).mono ?_
  rintro e wc ⟨rfl, rfl⟩
  cases hs : svB rs cs with
  | false =>
    have HF := Lib.hid (ffB_sv (W := W) (rows := rows) hs)
    clear hs
    go_wp2
    go_returns
    exact ⟨rb HF.out.symm, hW⟩
  | true =>
    have HSV := Lib.hid hs
    clear hs
    go_wp2_with fail
    refine (ImageValid_c W _ rows _ hI.ints).mono ?_
    rintro e wc ⟨rfl, hb⟩
    replace hI := hI.below hb
    replace hJ := hJ.below hb
    replace hK := hK.below hb
    replace hW := hW.trans (Below.mono hb hW.size)
    replace x0 := cellB hb x0
    replace x1 := cellB hb x1
    cases hval : validB W rows with
    | false =>
      have HF := Lib.hid (ffB_va (rs := rs) (cs := cs) hval)
      clear hval
      go_wp2
      go_returns
      exact ⟨rb HF.out.symm, hW⟩
    | true =>
      obtain ⟨n, ns, rfl, rfl, hV⟩ := validB_yes hval
      clear hval
      rw [length_casts] at hI hrw x1 ⊢
      have h1 := hV.h1
      have h6 := hV.h6
      by_cases hl : ns.length = rs.length
      · by_cases hw : n = cs.length
        · have HF := Lib.hid (ffB_yes hV HSV.out hl hw)
          have R1 := fun w h => RowSums_c n (.slice A ns.length cap) ns hV w h
          have R2 := fun w h => ColSums_c n (.slice A ns.length cap) ns hV w h
          have hrl := rowSums_len n ns
          have hcl := colSums_len n ns
          obtain ⟨xs, ex⟩ : ∃ xs, xs = rowSums n ns := ⟨_, rfl⟩
          obtain ⟨ys, ey⟩ : ∃ ys, ys = colSums n ns := ⟨_, rfl⟩
          rw [← ex] at R1 HF hrl
          rw [← ey] at R2 HF hcl
          have HX := Lib.hid (And.intro hrl hcl)
          have HLW := Lib.hid (And.intro hl hw)
          have hl1 : (ns.length : Int) = (rs.length : Int) := by omega
          have hw1 : (n : Int) = (cs.length : Int) := by omega
          rw [← hl] at hr hJ ⊢
          rw [← hw] at hc hK ⊢
          clear ex ey hrl hcl hl hw hl1 hw1
          go_wp2_with fail
          refine (R1 _ hI.ints).mono ?_
          rintro e wc ⟨g, rfl, hg, hrr, hb⟩
          clear R1
          replace hI := hI.below hb
          replace hJ := hJ.below hb
          replace hK := hK.below hb
          replace hW := hW.trans (Below.mono hb hW.size)
          replace x0 := cellB hb x0
          replace x1 := cellB hb x1
          have hNA1 := noneAbove_c _ (.slice B ns.length cap1) xs rs (by rw [HX.out.1]; omega) (by rw [HX.out.1, HLW.out.1]) wc (hrr.intsI (c := ns.length) HX.out.1) hJ.ints
          obtain ⟨b1, e1⟩ : ∃ b, b = naB xs rs := ⟨_, rfl⟩
          rw [← e1] at hNA1 HF
          go_wp2_with fail
          refine hNA1.mono ?_
          rintro e wc ⟨rfl, rfl⟩
          clear hNA1 e1
          cases b1 with
          | false =>
            go_wp2
            go_returns
            exact ⟨rb (by rw [HF.out]; rfl), hW⟩
          | true =>
            go_wp2_with fail
            refine (R2 _ hI.ints).mono ?_
            rintro e wc ⟨g, rfl, hg, hrr, hb⟩
            clear R2
            replace hI := hI.below hb
            replace hJ := hJ.below hb
            replace hK := hK.below hb
            replace hW := hW.trans (Below.mono hb hW.size)
            replace x0 := cellB hb x0
            replace x1 := cellB hb x1
            have hNA1 := noneAbove_c _ (.slice C n cap2) ys cs (by rw [HX.out.2]; have := hV.w6; omega) (by rw [HX.out.2, HLW.out.2]) wc (hrr.intsI (c := n) HX.out.2) hK.ints
            obtain ⟨b1, e1⟩ : ∃ b, b = naB ys cs := ⟨_, rfl⟩
            rw [← e1] at hNA1 HF
            clear e1
            go_wp2_with fail
            refine hNA1.mono ?_
            rintro e wc ⟨rfl, rfl⟩
            go_wp2
            go_returns
            exact ⟨rb (by rw [HF.out]; rfl), hW⟩
        · have HF := Lib.hid (ffB_w (W := (n : Int)) (rows := casts ns) (rs := rs) (cs := cs) (by omega))
          rw [← hl] at hJ ⊢
          go_wp2
          go_returns
          exact ⟨rb HF.out.symm, hW⟩
      · have HF := Lib.hid (ffB_h (W := (n : Int)) (rows := casts ns) (rs := rs) (cs := cs) (by rw [length_casts]; exact hl))
        go_wp2
        go_returns
        exact ⟨rb HF.out.symm, hW⟩
theorem naB_true {xs ys : List Int} {m : Nat} (hm : xs.length = m) (h : ∀ i, i < m → xs.getD i 0 ≤ ys.getD i 0) : naB xs ys = true := naB_iff.2 fun i hi => h i (by omega)
set_option maxHeartbeats 4000000 in
theorem sFillFits_c (W : Int) (v u t : Value) (rows rs cs : List Int) (hr : rs.length ≤ 2097152) (hc : cs.length ≤ 2097152) (hrw : rows.length ≤ 2097152) (w : World) (hv : Ints w.heap.size w v rows) (hu : Ints w.heap.size w u rs) (ht : Ints w.heap.size w t cs) :
    Calls Try.prog 17 #[.agg #[.int .i64 W, v], u, t] w fun e w' => e = .returned (.bool (ffB W rows rs cs)) ∧ Below w.heap.size w w' := by
  obtain ⟨A, cap, rfl⟩ := hv.len
  obtain ⟨B, cap1, rfl⟩ := hu.len
  obtain ⟨C, cap2, rfl⟩ := ht.len
  have hI := Arg.new hv
  have hJ := Arg.new hu
  have hK := Arg.new ht
  have hW := Below.refl w.heap.size w
  clear hv hu ht
  go_enter Try.func17, Try.ntmps17
  obtain ⟨W0, e_W0⟩ : ∃ W0, W0 = World.alloc w (.cells #[.int .i64 W, .slice A rows.length cap] 24) := ⟨_, rfl⟩
  have hx_W0 := Box2.new w (.int .i64 W) (.slice A rows.length cap) 24
  have hb_W0 : Below (World.heap w).size w W0 := by rw [e_W0]; go_grown
  have HS_W0 := Lib.hid (show (World.heap W0).size = (World.heap w).size + 1 by rw [e_W0]; simp)
  replace hI := hI.below hb_W0
  replace hJ := hJ.below hb_W0
  replace hK := hK.below hb_W0
  replace hW := hW.trans (Below.mono hb_W0 hW.size)
  have HE_W0 := Lib.hid e_W0
  clear e_W0
  go_wp2_with fail
  rw [← HE_W0.out] at hx_W0 ⊢
  clear HE_W0
  obtain ⟨hl_x, x0, x1⟩ := hx_W0
  obtain ⟨Bx, e_Bx⟩ : ∃ Bx, Bx = (World.heap w).size := ⟨_, rfl⟩
  rw [← e_Bx] at hl_x x0 x1 hb_W0 HS_W0  ⊢
  have hz_Bx := hb_W0.size
  clear e_Bx hb_W0
  refine (sSumsValid_c _ _ rs cs hr hc _ hJ.ints hK.ints).mono ?_
  rintro e wc ⟨rfl, rfl⟩
  cases hs : svB rs cs with
  | false =>
    have HF := Lib.hid (ffB_sv (W := W) (rows := rows) hs)
    clear hs
    go_wp2
    go_returns
    exact ⟨rb HF.out.symm, hW⟩
  | true =>
    have HSV := Lib.hid hs
    clear hs
    go_wp2_with fail
    refine (sImageValid_c W _ rows _ hI.ints).mono ?_
    rintro e wc ⟨rfl, hb⟩
    replace hI := hI.below hb
    replace hJ := hJ.below hb
    replace hK := hK.below hb
    replace hW := hW.trans (Below.mono hb hW.size)
    replace x0 := cellB hb x0
    replace x1 := cellB hb x1
    cases hval : validB W rows with
    | false =>
      have HF := Lib.hid (ffB_va (rs := rs) (cs := cs) hval)
      clear hval
      go_wp2
      go_returns
      exact ⟨rb HF.out.symm, hW⟩
    | true =>
      obtain ⟨n, ns, rfl, rfl, hV⟩ := validB_yes hval
      clear hval
      rw [length_casts] at hI hrw x1 ⊢
      have h1 := hV.h1
      have h6 := hV.h6
      have w1 := hV.w1
      have w6 := hV.w6
      by_cases hl : ns.length = rs.length
      · by_cases hw : n = cs.length
        · have HF := Lib.hid (ffB_yes hV HSV.out hl hw)
          have R1 := fun w h => sRowSums_yes n (.slice A ns.length cap) ns hV w h
          have R2 := fun w h => sColSums_yes n (.slice A ns.length cap) ns hV w h
          have hrl := rowSums_len n ns
          have hcl := colSums_len n ns
          obtain ⟨xs, ex⟩ : ∃ xs, xs = rowSums n ns := ⟨_, rfl⟩
          obtain ⟨ys, ey⟩ : ∃ ys, ys = colSums n ns := ⟨_, rfl⟩
          rw [← ex] at R1 HF hrl
          rw [← ey] at R2 HF hcl
          have HX := Lib.hid (And.intro hrl hcl)
          have HLW := Lib.hid (And.intro hl hw)
          rw [← hl] at hr hJ ⊢
          rw [← hw] at hc hK ⊢
          clear ex ey hrl hcl hl hw
          go_wp2_with fail
          refine (R1 _ hI.ints).mono ?_
          rintro e wc ⟨vx, rfl, hox, hb⟩
          clear R1
          replace hI := hI.below hb
          replace hJ := hJ.below hb
          replace hK := hK.below hb
          replace hW := hW.trans (Below.mono hb hW.size)
          replace x0 := cellB hb x0
          replace x1 := cellB hb x1
          have hX := Arg.new hox.ints
          clear hox
          obtain ⟨Ax, cx, rfl⟩ := hX.ints.len
          rw [HX.out.1] at hX ⊢
          go_wp2_with fail
          refine (R2 _ hI.ints).mono ?_
          rintro e wc ⟨vy, rfl, hoy, hb⟩
          clear R2
          replace hI := hI.below hb
          replace hJ := hJ.below hb
          replace hK := hK.below hb
          replace hW := hW.trans (Below.mono hb hW.size)
          replace x0 := cellB hb x0
          replace x1 := cellB hb x1
          replace hX := hX.below hb
          have hY := hoy.ints
          clear hoy
          obtain ⟨Ay, cy, rfl⟩ := hY.len
          rw [HX.out.2] at hY ⊢
          have hXi := hX.ints
          have hJi := hJ.ints
          have hKi := hK.ints
          obtain ⟨bx, ox, cx', e, hblx, hcx⟩ := hXi.row (by rw [HX.out.1]; omega)
          rw [HX.out.1] at e hcx
          injection e with e1 _ e3
          subst e1 e3
          obtain ⟨bj, oj, cj', e, hblj, hcj⟩ := hJi.row (by rw [← HLW.out.1]; omega)
          rw [← HLW.out.1] at e hcj
          injection e with e1 _ e3
          subst e1 e3
          obtain ⟨by', oy, cy', e, hbly, hcy⟩ := hY.row (by rw [HX.out.2]; omega)
          rw [HX.out.2] at e hcy
          injection e with e1 _ e3
          subst e1 e3
          obtain ⟨bk, ok, ck', e, hblk, hck⟩ := hKi.row (by rw [← HLW.out.2]; omega)
          rw [← HLW.out.2] at e hck
          injection e with e1 _ e3
          subst e1 e3
          have HC := Lib.hid (And.intro hcx (And.intro hcj (And.intro hcy hck)))
          clear hcx hcj hcy hck hX hXi hJ hJi hK hKi hY hI
          go_wp2_with fail
          go_loopw [9] (fun s wr => ∃ k : Nat, k ≤ ns.length ∧ s = .int .i64 k ∧ (∀ i, i < k → xs.getD i 0 ≤ rs.getD i 0) ∧ Below wc.heap.size wc wr) (fun s _ => ns.length - (intOf s).toNat)
          case atStart => exact ⟨0, by omega, rfl, fun i hi => by omega, Below.refl _ _⟩
          case round =>
            obtain ⟨k, hk, rfl, hall, hbb⟩ := hrel
            have HA := Lib.hid hall
            clear hall
            by_cases hkl : k < ns.length
            · have hc1 := cellB hbb (HC.out.1 k hkl)
              have hc2 := cellB hbb (HC.out.2.1 k hkl)
              obtain ⟨p, ep⟩ : ∃ p, p = xs.getD k 0 := ⟨_, rfl⟩
              obtain ⟨q, eq⟩ : ∃ q, q = rs.getD k 0 := ⟨_, rfl⟩
              rw [← ep] at hc1
              rw [← eq] at hc2
              have HPQ := Lib.hid (And.intro ep eq)
              have k0 := cell_regrown hc1
              have k1 := cell_regrown hc2
              have ek : (0 : Int) ≤ (k : Int) := by omega
              have ek2 : (k : Int) < (ns.length : Int) := by omega
              have hWr := hW.trans (hbb.mono hW.size)
              clear ep eq
              go_wp2_with fail
              refine wp_region_quiet_below (by kernel_rfl) (by kernel_rfl) ?_
              repeat (first | go_big_quiet_step (fail) | quiet_step (fail))
              refine wpQuiet_nil ?_
              intro _ hw0
              obtain ⟨⟨dq, osq⟩, hw1⟩ := hw0
              subst hw1
              have hq := below_regrown wr dq osq
              generalize Go.Sort.grow (redrawn wr dq) osq = w9 at hq ⊢
              clear k0 k1
              have hW9 := hWr.trans (hq.mono hWr.size)
              by_cases hpq : q < p
              · have hna : naB xs rs = false := naB_no (k := k) (by rw [HX.out.1]; exact hkl) (by rw [← HPQ.out.1, ← HPQ.out.2]; exact hpq)
                have HN := Lib.hid hna
                clear hna hWr
                go_wp2
                go_returns
                exact ⟨rb (by rw [HF.out, HN.out]; rfl), hW9⟩
              · go_wp2
                go_roundw
                case rel =>
                  refine ⟨k + 1, by omega, by go_num, fun i hi => ?_, hbb.trans (hq.mono hbb.size)⟩
                  by_cases e : i = k
                  · rw [e, ← HPQ.out.1, ← HPQ.out.2]; omega
                  · exact HA.out i (by omega)
                case measure => simp [intOf]; omega
            · obtain rfl : k = ns.length := by omega
              have hna1 := naB_true HX.out.1 HA.out
              have HN1 := Lib.hid hna1
              clear hna1
              go_wp2_with fail
              go_loopw [10] (fun s wr => ∃ k : Nat, k ≤ n ∧ s = .int .i64 k ∧ (∀ i, i < k → ys.getD i 0 ≤ cs.getD i 0) ∧ Below wc.heap.size wc wr) (fun s _ => n - (intOf s).toNat)
              case atStart => exact ⟨0, by omega, rfl, fun i hi => by omega, hbb⟩
              case round =>
                clear hbb
                obtain ⟨k, hk, rfl, hall, hbb⟩ := hrel
                have HB := Lib.hid hall
                clear hall
                have hWr := hW.trans (hbb.mono hW.size)
                by_cases hkl : k < n
                · have hc1 := cellB hbb (HC.out.2.2.1 k hkl)
                  have hc2 := cellB hbb (HC.out.2.2.2 k hkl)
                  obtain ⟨p, ep⟩ : ∃ p, p = ys.getD k 0 := ⟨_, rfl⟩
                  obtain ⟨q, eq⟩ : ∃ q, q = cs.getD k 0 := ⟨_, rfl⟩
                  rw [← ep] at hc1
                  rw [← eq] at hc2
                  have HPQ := Lib.hid (And.intro ep eq)
                  have k0 := cell_regrown hc1
                  have k1 := cell_regrown hc2
                  have ek : (0 : Int) ≤ (k : Int) := by omega
                  have ek2 : (k : Int) < (n : Int) := by omega
                  clear ep eq
                  go_wp2_with fail
                  refine wp_region_quiet_below (by kernel_rfl) (by kernel_rfl) ?_
                  repeat (first | go_big_quiet_step (fail) | quiet_step (fail))
                  refine wpQuiet_nil ?_
                  intro _ hw0
                  obtain ⟨⟨dq, osq⟩, hw1⟩ := hw0
                  subst hw1
                  have hq := below_regrown wr dq osq
                  generalize Go.Sort.grow (redrawn wr dq) osq = w9 at hq ⊢
                  clear k0 k1
                  have hW9 := hWr.trans (hq.mono hWr.size)
                  by_cases hpq : q < p
                  · have hna : naB ys cs = false := naB_no (k := k) (by rw [HX.out.2]; exact hkl) (by rw [← HPQ.out.1, ← HPQ.out.2]; exact hpq)
                    have HN := Lib.hid hna
                    clear hna hWr
                    go_wp2
                    go_returns
                    exact ⟨rb (by rw [HF.out, HN.out, HN1.out]; rfl), hW9⟩
                  · go_wp2
                    go_roundw
                    case rel =>
                      refine ⟨k + 1, by omega, by go_num, fun i hi => ?_, hbb.trans (hq.mono hbb.size)⟩
                      by_cases e : i = k
                      · rw [e, ← HPQ.out.1, ← HPQ.out.2]; omega
                      · exact HB.out i (by omega)
                    case measure => simp [intOf]; omega
                · obtain rfl : k = n := by omega
                  have hna2 := naB_true HX.out.2 HB.out
                  have HN2 := Lib.hid hna2
                  clear hna2
                  go_wp2
                  go_returns
                  exact ⟨rb (by rw [HF.out, HN1.out, HN2.out]; rfl), hWr⟩
        · have HF := Lib.hid (ffB_w (W := (n : Int)) (rows := casts ns) (rs := rs) (cs := cs) (by omega))
          rw [← hl] at hJ ⊢
          go_wp2
          go_returns
          exact ⟨rb HF.out.symm, hW⟩
      · have HF := Lib.hid (ffB_h (W := (n : Int)) (rows := casts ns) (rs := rs) (cs := cs) (by rw [length_casts]; exact hl))
        go_wp2
        go_returns
        exact ⟨rb HF.out.symm, hW⟩
end Go.Proofs.Ytehoaagnpidnbaa
