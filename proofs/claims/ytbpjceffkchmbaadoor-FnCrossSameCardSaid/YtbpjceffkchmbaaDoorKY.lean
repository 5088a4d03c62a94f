/- Contract of ColSums. Conditions: the image is valid. -/
import Derived.Test.YtbpjceffkchmbaaDoorKX
namespace Go.Proofs.YtbpjceffkchmbaaDoor
open Go.RowKit
def colRow (ns : List Nat) (wd k m : Nat) : List Int := (List.range wd).map fun j => sumN (if j < m then k + 1 else k) fun i => b2i (cell ns i j)
theorem colRow_len (ns : List Nat) (wd k m : Nat) : (colRow ns wd k m).length = wd := by simp [colRow]
theorem colRow_at {ns : List Nat} {wd k m j : Nat} (hj : j < wd) : (colRow ns wd k m).getD j 0 = sumN (if j < m then k + 1 else k) fun i => b2i (cell ns i j) := by
  simp only [colRow, List.getD_eq_getElem?_getD, List.getElem?_map, List.getElem?_range hj, Option.map_some, Option.getD_some]
theorem colRow_set {ns : List Nat} {wd k m : Nat} (hm : m < wd) : (colRow ns wd k m).set m ((colRow ns wd k m).getD m 0 + b2i (cell ns k m)) = colRow ns wd k (m + 1) := by
  rw [colRow_at hm, if_neg (Nat.lt_irrefl m)]
  apply List.ext_getElem
  · simp [colRow]
  · intro j h1 h2
    have hj : j < wd := by simpa [colRow] using h2
    rw [List.getElem_set]
    by_cases e : m = j
    · subst e
      simp only [if_true, colRow, List.getElem_map, List.getElem_range, Nat.lt_succ_self, sumN]
    · rw [if_neg e]
      simp only [colRow, List.getElem_map, List.getElem_range]
      by_cases hlt : j < m
      · rw [if_pos hlt, if_pos (by omega)]
      · rw [if_neg hlt, if_neg (by omega)]
theorem colRow_next (ns : List Nat) (wd k : Nat) : colRow ns wd k wd = colRow ns wd (k + 1) 0 := by
  unfold colRow
  refine List.map_congr_left fun j hj => ?_
  rw [if_pos (List.mem_range.1 hj), if_neg (Nat.not_lt_zero j)]
theorem colRow_start (ns : List Nat) (wd : Nat) : colRow ns wd 0 0 = List.replicate wd 0 := by
  apply List.ext_getElem
  · simp [colRow]
  · intro j h1 h2
    simp [colRow, sumN]
theorem colRow_end (ns : List Nat) (wd : Nat) : colRow ns wd ns.length 0 = colSums wd ns := by
  unfold colRow colSums colSum
  refine List.map_congr_left fun j _ => ?_
  rw [if_neg (Nat.not_lt_zero j)]
theorem colRow_bd {ns : List Nat} {wd k m j : Nat} (hk : k < 6) (hj : j < wd) : 0 ≤ (colRow ns wd k m).getD j 0 ∧ (colRow ns wd k m).getD j 0 ≤ 6 := by
  rw [colRow_at hj]
  have := sumN_bd (n := if j < m then k + 1 else k) (f := fun i => b2i (cell ns i j)) (c := 1) fun i _ => b2i_bd _
  have h2 : (if j < m then k + 1 else k) ≤ 6 := by split <;> omega
  omega
set_option maxHeartbeats 2000000 in
theorem ColSums_c (wd : Nat) (v : Value) (ns : List Nat) (hi : VImg wd ns) (w : World) (hv : Ints w.heap.size w v (casts ns)) :
    Calls Tryd.prog 21 #[.agg #[.int .i64 (wd : Int), v]] w fun e w' => ∃ g, e = .returned (.slice (some ⟨g, 0, none⟩) wd wd) ∧ w.heap.size ≤ g ∧ Row w' g (colSums wd ns) ∧ Below w.heap.size w w' := by
  obtain ⟨A, cap, rfl⟩ := hv.len
  have h6 := hi.h6
  have w6 := hi.w6
  have hmk := mk_ints wd (by omega)
  go_enter Tryd.func21, Tryd.ntmps21
  go_wp2_with fail
  refine (ImageValid_c (wd : Int) _ (casts ns) _ (hv.alloc (Nat.le_refl _) _ |>.more (by simp))).mono ?_
  rintro e w1 ⟨rfl, hb⟩
  have hB : Below w.heap.size w w1 := ((Below.refl w.heap.size w).alloc (Nat.le_refl _) _).trans (hb.mono (by simp))
  have hbx := (Box2.new w (.int .i64 (wd : Int)) (.slice A (casts ns).length cap) 25).below hb (by simp)
  have hv1 := (hv.below hB).more hB.size
  obtain ⟨b, off, cp, e, hbl, hc⟩ := hv1.row (by rw [length_casts]; have := hi.h1; omega)
  injection e with e1 e2 e3
  subst e1 e3
  rw [validB_of hi]
  rw [length_casts] at hbx ⊢
  obtain ⟨hlt, h0, h1⟩ := hbx
  obtain ⟨W0, eW⟩ : ∃ W0, W0 = w1.alloc (.cells (Array.replicate wd (.int .i64 0)) 3) := ⟨_, rfl⟩
  have hrow := Row.made w1 wd
  rw [← eW] at hrow
  have hB0 : Below w1.heap.size w1 W0 := by rw [eW]; go_grown
  have hc0 : ∀ k, k < ns.length → W0.cell? ⟨b, off + k, none⟩ = some (.int .i64 ((casts ns).getD k 0)) := fun k hk => cell_below hB0 (hc k (by rw [length_casts]; exact hk))
  have y1 := cell_below hB0 h1
  have y1r := y1
  rw [eW] at y1r
  have HC := Lib.hid hc0
  have HE := Lib.hid eW
  have HR := Lib.hid hrow
  clear hc hc0 hv hv1 hb e2 eW hrow
  go_wp2_with fail
  have eW := HE.out
  rw [← eW]
  clear eW HE y1r
  obtain ⟨g, eg⟩ : ∃ g, g = w1.heap.size := ⟨_, rfl⟩
  have hrow := HR.out
  have hbg : b < g := by rw [eg]; exact hbl
  have hgw : w.heap.size ≤ g := by rw [eg]; exact hB.size
  have hW0 := hB.trans (hB0.mono hB.size)
  rw [← eg] at hrow ⊢
  clear eg hB0 hbl h0 h1 HR hmk
  rw [← colRow_start ns wd] at hrow
  go_loopw [16] (fun i wr => ∃ k : Nat, k ≤ ns.length ∧ i = .int .i64 k ∧ Row wr g (colRow ns wd k 0) ∧ Below w.heap.size w wr ∧ ∀ k, k < ns.length → wr.cell? ⟨b, off + k, none⟩ = some (.int .i64 ((casts ns).getD k 0))) (fun i _ => ns.length - (intOf i).toNat)
  case atStart => exact ⟨0, by omega, rfl, hrow, hW0, HC.out⟩
  case round =>
    obtain ⟨k, hk, rfl, hR, hBk, hck⟩ := hrel
    clear hrow
    by_cases hlt' : k < ns.length
    · have hcell := hck k hlt'
      rw [casts_getD] at hcell
      have hr64 := hi.get64 k
      have hbits : ∀ m, cell ns k m = (ns.getD k 0).testBit m := fun m => rfl
      obtain ⟨r, er⟩ : ∃ r, r = ns.getD k 0 := ⟨_, rfl⟩
      rw [← er] at hcell hr64 hbits
      have HB := Lib.hid hbits
      have HK := Lib.hid hck
      have HR := Lib.hid hR
      clear hbits er hck hR
      go_wp2_with fail
      go_loopw [22] (fun j ws => ∃ m : Nat, m ≤ wd ∧ j = .int .i64 m ∧ Row ws g (colRow ns wd k m) ∧ Below w.heap.size w ws ∧ ∀ k, k < ns.length → ws.cell? ⟨b, off + k, none⟩ = some (.int .i64 ((casts ns).getD k 0))) (fun j _ => wd - (intOf j).toNat)
      case atStart => exact ⟨0, by omega, rfl, HR.out, hBk, HK.out⟩
      case round =>
        obtain ⟨m, hm, rfl, hRm, hBm, hcm⟩ := hrel
        by_cases hmt : m < wd
        · have hkl : Hid (m < (colRow ns wd k m).length) := by show _ < _; rw [colRow_len]; exact hmt
          have hcg := Row.cell hRm hkl
          have hbd := colRow_bd (ns := ns) (wd := wd) (k := k) (m := m) (j := m) (by omega) hmt
          have hst := colRow_set (ns := ns) (wd := wd) (k := k) (m := m) hmt
          obtain ⟨S, eS⟩ : ∃ S, S = (colRow ns wd k m).getD m 0 := ⟨_, rfl⟩
          rw [← eS] at hcg hbd hst
          rw [HB.out] at hst
          have hb01 := b2i_bd (r.testBit m)
          have hsh := shr_and (r := r) (j := m) (by omega)
          obtain ⟨x, ex⟩ : ∃ x, x = b2i (r.testBit m) := ⟨_, rfl⟩
          rw [← ex] at hst hb01 hsh
          have ew : IntKind.i64.wrap (S + x) = S + x := IntWalk.i64_in _ ⟨by omega, by omega⟩
          have HST := Lib.hid hst
          have HRM := Lib.hid hRm
          have HCM := Lib.hid hcm
          have k0 := cell_regrown hcg
          clear eS ex hst hRm hcm
          go_wp2_with fail
          refine wp_region_below_tail 9 (by kernel_rfl) (by kernel_rfl) ?_
          simp only [List.take_succ_cons, List.take_zero, List.drop_succ_cons, List.drop_zero]
          repeat (first | go_big_quiet_step (fail) | quiet_step (fail))
          refine wpQuiet_nil ?_
          intro _ hw0
          obtain ⟨⟨dq, osq⟩, hw1⟩ := hw0
          subst hw1
          have hq := below_regrown wr dq osq
          generalize Go.Sort.grow (redrawn wr dq) osq = w4 at hq ⊢
          clear k0
          have hR4 := HRM.out.below hq HRM.out.lt
          have hset := Row.set hR4 hkl (S + x)
          rw [HST.out] at hset
          have hcg4 := cell_below hq hcg
          have hfg4 := Row.frozen hR4 m
          have HS := Lib.hid hset
          clear hset hR4 hcg
          go_wp2
          go_roundw
          case rel => exact ⟨m + 1, by omega, by go_num, HS.out, (hBm.trans (hq.mono hBm.size)).setCell (by simp; omega) _, fun j hj => (World.cell?_setCell_other _ _ _ _ (by simp <;> omega)).trans (cell_below hq (HCM.out j hj))⟩
          case measure => simp [intOf]; omega
        · obtain rfl : m = wd := by omega
          go_wp2
          go_roundw
          case rel => exact ⟨k + 1, by omega, by go_num, by rw [← colRow_next]; exact hRm, hBm, hcm⟩
          case measure => simp [intOf]; omega
    · go_wp2
      go_returns
      obtain rfl : k = ns.length := by omega
      rw [colRow_end] at hR
      exact ⟨g, rfl, hgw, hR, hBk⟩
end Go.Proofs.YtbpjceffkchmbaaDoor
