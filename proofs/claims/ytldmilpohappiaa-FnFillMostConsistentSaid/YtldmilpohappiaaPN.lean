/- Contracts of the drawing of an image: l91Nested, l91Image, l91Wrong. Conditions: the reader's place below 2 to the power of 19. -/
import Derived.Test.YtldmilpohappiaaPS
namespace Go.Proofs.Ytldmilpohappiaa
open Go.RowKit
theorem only_new {a w w' : World} {R g : Nat} (h : a.grownBy w (some R)) (k : w.grownBy w' (some g)) (hg : a.heap.size ≤ g) : a.grownBy w' (some R) :=
  ⟨k.os.trans h.os, k.tape.trans h.tape, k.output.trans h.output, Nat.le_trans h.size k.size, fun i hi hne => (k.block i (Nat.lt_of_lt_of_le hi h.size) (fun e => by cases e; omega)).trans (h.block i hi hne)⟩
set_option maxHeartbeats 2000000 in
theorem l91Nested_c (R K cells : Nat) (hcl : 1 ≤ cells) (hc6 : cells ≤ 1000) (hK : K ≤ 800000) (w : World) (hR : Rd w R K) :
    Calls Try.prog 54 #[.pointer (some ⟨R, 0, none⟩), .int .i64 cells] w fun e w' => Drawn w w' R (K + 9) e := by
  have hlt := hR.1
  go_enter Try.func54, Try.ntmps54
  go_wp2_with fail
  obtain ⟨W0, eW⟩ : ∃ W0, W0 = w.alloc (.cells #[.int .i64 0, .slice none 0 0] 25) := ⟨_, rfl⟩
  have hB0 : Below w.heap.size w W0 := by rw [eW]; go_grown
  have i0 : W0.cell? ⟨w.heap.size, 0, none⟩ = some (.int .i64 0) := by rw [eW]; go_cell
  have i1 : W0.cell? ⟨w.heap.size, 1, none⟩ = some (.slice none 0 0) := by rw [eW]; go_cell
  have if0 : W0.frozen? ⟨w.heap.size, 0, none⟩ = false := by rw [eW]; go_cell
  have if1 : W0.frozen? ⟨w.heap.size, 1, none⟩ = false := by rw [eW]; go_cell
  have hz0 : w.heap.size < W0.heap.size := by rw [eW]; simp
  rw [← eW]
  clear eW
  refine (l91Shape_c R K cells hcl hc6 (by omega) _ (hR.below hB0 hlt)).mono ?_
  rintro e w1 ⟨⟨g, c, v, ns, rfl, hV, hrow1, hgw⟩, hR1, hg1⟩
  have hwR : w.heap.size ≠ R := by omega
  have hO1 : w.grownBy w1 (some R) := only_trans (only_of_below hB0 _) hg1
  have hwg : w.heap.size < g := Nat.lt_of_lt_of_le hz0 hgw
  have j0 := cell_only hg1 i0 hwR
  have j1 := cell_only hg1 i1 hwR
  have jf0 := frozen_only hg1 i0 hwR if0
  have jf1 := frozen_only hg1 i1 hwR if1
  obtain ⟨h, eh⟩ : ∃ h, h = ns.length := ⟨_, rfl⟩
  have hh6 := hV.h6
  have hh1 := hV.h1
  have hv1 := hV.w1
  have hv6 := hV.w6
  have hall := hV.hi
  rw [← eh] at hh1 hh6 ⊢
  obtain ⟨W2, eW⟩ : ∃ W2, W2 = w1.alloc (.cells #[.int .i64 v, .slice (some ⟨g, 0, none⟩) h c] 25) := ⟨_, rfl⟩
  have hx := Box2.new w1 (.int .i64 v) (.slice (some ⟨g, 0, none⟩) h c) 25
  have hB2 : Below w1.heap.size w1 W2 := by rw [eW]; go_grown
  have hgB : g < w1.heap.size := hrow1.lt
  rw [← eW] at hx
  obtain ⟨_, x0, x1⟩ := hx
  have hrow2 := hrow1.below hB2 hrow1.lt
  have hR2 := hR1.below hB2 hR1.1
  have hO2 := only_trans hO1 (only_of_below hB2 _)
  have k0 := cellB hB2 j0
  have k1 := cellB hB2 j1
  have kf0 := frozenB hB2 j0 jf0
  have kf1 := frozenB hB2 j1 jf1
  have EH := Lib.hid eh
  clear i0 i1 if0 if1 j0 j1 jf0 jf1 eh
  go_wp2_with fail
  rw [← eW]
  obtain ⟨Bx, eB⟩ : ∃ Bx, Bx = w1.heap.size := ⟨_, rfl⟩
  rw [← eB] at x0 x1 hgB ⊢
  have hBw : w.heap.size < Bx := by omega
  have hBR : Bx ≠ R := by omega
  clear eB eW hB2
  refine (pick_c R (K + 8) v hv1 (by omega) (by omega) _ hR2).mono ?_
  rintro e w3 ⟨⟨sh, rfl, hsh⟩, hR3, hg3⟩
  have y0 := cell_only hg3 x0 hBR
  have y1 := cell_only hg3 x1 hBR
  have hrow3 := hrow2.only hg3 (by omega)
  have hO3 := only_trans hO2 hg3
  have l0 := cell_only hg3 k0 hwR
  have l1 := cell_only hg3 k1 hwR
  have lf0 := frozen_only hg3 k0 hwR kf0
  have lf1 := frozen_only hg3 k1 hwR kf1
  clear x0 x1 k0 k1 kf0 kf1 hrow1 hrow2 hR1 hR2 hO1 hO2 hg1 hg3 hR hV
  obtain ⟨Inv, eI⟩ : ∃ Inv : World → Prop, Inv = fun wr => (∃ ms : List Nat, ms.length = h ∧ (∀ n ∈ ms, n < 2 ^ v) ∧ Row wr g (casts ms)) ∧ Rd wr R (K + 9) ∧ w.grownBy wr (some R) ∧ (wr.cell? ⟨w.heap.size, 0, none⟩ = some (.int .i64 0) ∧ wr.cell? ⟨w.heap.size, 1, none⟩ = some (.slice none 0 0) ∧ wr.frozen? ⟨w.heap.size, 0, none⟩ = false ∧ wr.frozen? ⟨w.heap.size, 1, none⟩ = false) ∧ wr.cell? ⟨Bx, 0, none⟩ = some (.int .i64 v) ∧ wr.cell? ⟨Bx, 1, none⟩ = some (.slice (some ⟨g, 0, none⟩) h c) := ⟨_, rfl⟩
  have hI0 : Inv w3 := by rw [eI]; exact ⟨⟨ns, EH.out.symm, hall, hrow3⟩, hR3, hO3, ⟨l0, l1, lf0, lf1⟩, y0, y1⟩
  have hIe : ∀ wr, Inv wr ↔ _ := fun wr => by rw [eI]
  have EI := Lib.hid eI
  clear eI hIe hrow3 hR3 hO3 l0 l1 lf0 lf1
  go_wp2
  go_loopw [7] (fun i wr => ∃ k : Nat, k ≤ h ∧ i = .int .i64 k ∧ Inv wr) (fun i _ => h - (intOf i).toNat)
  case atStart => exact ⟨0, by omega, rfl, hI0⟩
  case round =>
    obtain ⟨k, hk, rfl, hI⟩ := hrel
    have hI' := hI
    rw [EI.out] at hI'
    obtain ⟨⟨ms, hlen, hall2, hrow⟩, hRd, hOn, ⟨a0, a1, af0, af1⟩, z0, z1⟩ := hI'
    by_cases hkh : k < h
    · have hkc : Hid (k < (casts ms).length) := by show k < (casts ms).length; rw [length_casts]; omega
      have hcell := Row.cell hrow hkc
      rw [casts_getD] at hcell
      have hfz := Row.frozen hrow k
      have hr64 : ms.getD k 0 < 64 := by
        rw [List.getD_eq_getElem?_getD, List.getElem?_eq_getElem (by omega)]
        have := hall2 _ (List.getElem_mem (l := ms) (n := k) (by omega))
        have := pow6 hv6
        simp only [Option.getD_some]
        omega
      obtain ⟨r, er⟩ : ∃ r, r = ms.getD k 0 := ⟨_, rfl⟩
      rw [← er] at hcell hr64
      have hpop := pop_bd 6 r
      obtain ⟨n, en⟩ : ∃ n : Nat, (n : Int) = pop 6 r := ⟨(pop 6 r).toNat, by omega⟩
      have hn6 : n ≤ 6 := by omega
      have hset := Row.set hrow hkc ((0 : Nat) : Int)
      rw [casts_set] at hset
      have hwg0 : w.heap.size < Bx := hBw
      have hIset : Inv (wr.setCell ⟨g, k, none⟩ (.int .i64 0)) := by
        rw [EI.out]
        refine ⟨⟨ms.set k 0, by simp [hlen], fun m hm => ?_, hset⟩, hRd.below (B := R + 1) ((Below.refl (R + 1) wr).setCell (by simp; omega) _) (by omega), only_setCell hOn (.inr (by simp; omega)) _, ⟨?_, ?_, ?_, ?_⟩, ?_, ?_⟩
        · rcases List.mem_or_eq_of_mem_set hm with hm | rfl
          · exact hall2 m hm
          · exact Nat.two_pow_pos v
        · exact (World.cell?_setCell_other _ _ _ _ (by simp <;> omega)).trans a0
        · exact (World.cell?_setCell_other _ _ _ _ (by simp <;> omega)).trans a1
        · rw [World.frozen?_setCell]; exact af0
        · rw [World.frozen?_setCell]; exact af1
        · exact (World.cell?_setCell_other _ _ _ _ (by simp <;> omega)).trans z0
        · exact (World.cell?_setCell_other _ _ _ _ (by simp <;> omega)).trans z1
      have hHI := Lib.hid hIset
      have hEN := Lib.hid en
      clear hset hIset hrow hRd hOn a0 a1 af0 af1 hall2 er hI en
      go_wp2_with fail
      refine (l15Count_c r hr64 _).mono ?_
      rintro e w9 ⟨rfl, rfl⟩
      rw [← hEN.out]
      go_wp2_with fail
      go_loopw [9] (fun i wr => ∃ j : Nat, j ≤ n ∧ i = .int .i64 j ∧ Inv wr) (fun i _ => n - (intOf i).toNat)
      case atStart => exact ⟨0, by omega, rfl, hHI.out⟩
      case round =>
        obtain ⟨j, hj, rfl, hJ⟩ := hrel
        by_cases hjn : j < n
        · have hJ' := hJ
          rw [EI.out] at hJ'
          obtain ⟨⟨ms, hlen, hall2, hrow⟩, hRd, hOn, ⟨a0, a1, af0, af1⟩, z0, z1⟩ := hJ'
          have k0 := cell_regrown z0
          have k1 := cell_regrown z1
          have ew : IntKind.i64.wrap ((j : Int) + sh) = (j : Int) + sh := IntWalk.i64_in _ ⟨by omega, by omega⟩
          obtain ⟨q, eq⟩ : ∃ q, q = (j + sh) % v := ⟨_, rfl⟩
          have hqv : q < v := by rw [eq]; exact Nat.mod_lt _ (by omega)
          have em : ((j : Int) + sh).tmod (v : Int) = (q : Int) := by rw [Int.tmod_eq_emod_of_nonneg (by omega), eq]; simp
          have ewq : IntKind.i64.wrap (q : Int) = q := IntWalk.i64_in _ ⟨by omega, by omega⟩
          have hv0 : ((v : Int) == 0) = false := by simp; omega
          have hvz : ¬ v = 0 := by omega
          have HL := Lib.hid (And.intro hlen hall2)
          have HR := Lib.hid (And.intro hrow (And.intro hRd hOn))
          clear eq hlen hall2 hrow hRd hOn hJ
          go_wp2_with fail
          refine wp_region_below_tail 8 (by kernel_rfl) (by kernel_rfl) ?_
          simp only [List.take_succ_cons, List.take_zero, List.drop_succ_cons, List.drop_zero]
          repeat (first | go_big_quiet_step (fail) | quiet_step (fail))
          refine wpQuiet_nil ?_
          intro _ hw0
          obtain ⟨⟨dq, osq⟩, hw1⟩ := hw0
          subst hw1
          have hq := below_regrown wr dq osq
          generalize Go.Sort.grow (redrawn wr dq) osq = w4 at hq ⊢
          clear k0 k1 ew em ewq hv0 hvz
          have hr2 := HR.out.1.below hq HR.out.1.lt
          have hR2 := HR.out.2.1.below hq HR.out.2.1.1
          have hO2 := only_trans HR.out.2.2 (only_of_below hq _)
          have b0 := cellB hq a0
          have b1 := cellB hq a1
          have bf0 := frozenB hq a0 af0
          have bf1 := frozenB hq a1 af1
          have y0 := cellB hq z0
          have y1 := cellB hq z1
          have hlen := HL.out.1
          have hall2 := HL.out.2
          have hkm : k < ms.length := by omega
          have hms64 : ms.getD k 0 < 64 := by
            rw [List.getD_eq_getElem?_getD, List.getElem?_eq_getElem hkm]
            have := hall2 _ (List.getElem_mem hkm)
            have := pow6 hv6
            simp only [Option.getD_some]
            omega
          have HP := l1Put_c v g c ms k q hkm (by omega) hms64 true w4 hr2
          rw [hlen] at HP
          have hgne : g ≠ R := by omega
          clear hr2 a0 a1 af0 af1 z0 z1
          go_wp2_with (go_at_call 65; refine HP.mono ?_; rintro e w5 ⟨rfl, hr5, hg5⟩)
          go_roundw
          case rel =>
            refine ⟨j + 1, by omega, by go_num, ?_⟩
            rw [EI.out]
            exact ⟨⟨putL ms k q true, by rw [length_putL]; exact hlen, putL_lt hall2 hkm hqv true, hr5⟩, hR2.only hg5 (by omega), only_new hO2 hg5 (by omega), ⟨cell_only hg5 b0 (by simp; omega), cell_only hg5 b1 (by simp; omega), frozen_only hg5 b0 (by simp; omega) bf0, frozen_only hg5 b1 (by simp; omega) bf1⟩, cell_only hg5 y0 (by simp; omega), cell_only hg5 y1 (by simp; omega)⟩
          case measure => simp [intOf]; omega
        · go_wp2
          go_roundw
          case rel => exact ⟨k + 1, by omega, by go_num, hJ⟩
          case measure => simp [intOf]; omega
    · obtain ⟨q0, q1⟩ := set2_get (x := .int .i64 v) (y := .slice (some ⟨g, 0, none⟩) h c) a0 a1
      go_wp2
      refine bodyPost_ret (res_img rfl _ _ rfl q0 q1) rfl ?_
      refine ⟨⟨g, c, v, ms, by rw [hlen], ⟨hv1, hv6, by omega, by omega, hall2⟩, (hrow.far (by simp; omega) _).far (by simp; omega) _, by omega⟩, ?_, only_setCell (only_setCell hOn (.inr (by simp)) _) (.inr (by simp)) _⟩
      exact hRd.below (B := R + 1) (((Below.refl (R + 1) wr).setCell (by simp; omega) _).setCell (by simp; omega) _) (by omega)
end Go.Proofs.Ytldmilpohappiaa
