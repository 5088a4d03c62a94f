/- Contracts of the drawing of an image that often is convex: l93Convex. Conditions: the reader lies in block R. -/
import Derived.Test.YtilahcpjjaikgaaDoorMPS
import Derived.Test.YtilahcpjjaikgaaDoorTW
import Derived.Deep.RegionWith
namespace Go.Proofs.YtilahcpjjaikgaaDoor
open Go.RowKit
theorem pow_sub_lt {lo hi v : Nat} (h1 : lo ≤ hi) (h2 : hi ≤ v) : 2 ^ hi - 2 ^ lo < 2 ^ v := by
  have := Nat.pow_le_pow_right (n := 2) (by omega) h2
  have := Nat.two_pow_pos lo
  have := Nat.two_pow_pos v
  omega
set_option maxRecDepth 100000 in
set_option maxHeartbeats 4000000 in
theorem l93Convex_c (R K cells : Nat) (hcl : 1 ≤ cells) (hc6 : cells ≤ 1000) (hK : K ≤ 800000) (w : World) (hR : Rd w R K) :
    Calls Tryd.prog 45 #[.pointer (some ⟨R, 0, none⟩), .int .i64 cells] w fun e w' => Drawn w w' R (K + 20) e := by
  have hlt := hR.1
  obtain ⟨W0, eW⟩ : ∃ W0, W0 = w.alloc (.cells #[.int .i64 0, .slice none 0 0] 27) := ⟨_, rfl⟩
  have hB0 : Below w.heap.size w W0 := by rw [eW]; go_grown
  have r0 : W0.cell? ⟨w.heap.size, 0, none⟩ = some (.int .i64 0) := by rw [eW]; go_cell
  have r1 : W0.cell? ⟨w.heap.size, 1, none⟩ = some (.slice none 0 0) := by rw [eW]; go_cell
  have rf0 : W0.frozen? ⟨w.heap.size, 0, none⟩ = false := by rw [eW]; go_cell
  have rf1 : W0.frozen? ⟨w.heap.size, 1, none⟩ = false := by rw [eW]; go_cell
  have hs : w.heap.size < W0.heap.size := by rw [eW]; simp
  have hR0 := hR.below hB0 hlt
  go_enter Tryd.func45, Tryd.ntmps45
  go_wp2_with fail
  rw [← eW]
  clear eW
  have hwR : w.heap.size ≠ R := by omega
  refine (l91Shape_c R K cells hcl hc6 (by omega) _ hR0).mono ?_
  rintro e w3 ⟨⟨g, c, v, ns0, rfl, hV, hr3, hgw⟩, hR3, hg3⟩
  have t0 := cell_only hg3 r0 hwR
  have t1 := cell_only hg3 r1 hwR
  have tf0 := frozen_only hg3 r0 hwR rf0
  have tf1 := frozen_only hg3 r1 hwR rf1
  have hO3 := only_trans (only_of_below hB0 (some R)) hg3
  have hh1 := hV.h1
  have hh6 := hV.h6
  have hv1 := hV.w1
  have hv6 := hV.w6
  have hns := hV.hi
  obtain ⟨h, eh⟩ : ∃ h, h = ns0.length := ⟨_, rfl⟩
  rw [← eh] at hh1 hh6 ⊢
  have EH := Lib.hid eh
  clear r0 r1 rf0 rf1 hg3 hR0 eh hV hB0
  obtain ⟨W4, eW⟩ : ∃ W4, W4 = w3.alloc (.cells #[.int .i64 v, .slice (some ⟨g, 0, none⟩) h c] 27) := ⟨_, rfl⟩
  have hx := Box2.new w3 (.int .i64 v) (.slice (some ⟨g, 0, none⟩) h c) 27
  have hb4 : Below w3.heap.size w3 W4 := by rw [eW]; go_grown
  rw [← eW] at hx
  obtain ⟨_, x0, x1⟩ := hx
  have hr4 := hr3.below hb4 hr3.lt
  have hgB : g < w3.heap.size := hr3.lt
  have hR4 := hR3.below hb4 hR3.1
  have hW4 := only_trans hO3 (only_of_below hb4 _)
  have u0 := cellB hb4 t0
  have u1 := cellB hb4 t1
  have uf0 := frozenB hb4 t0 tf0
  have uf1 := frozenB hb4 t1 tf1
  have hgw' : w.heap.size < g := by omega
  obtain ⟨Bx, eB⟩ : ∃ Bx, Bx = w3.heap.size := ⟨_, rfl⟩
  have EB := Lib.hid eB
  rw [← eB] at x0 x1 hgB
  have hBw : w.heap.size < Bx := by omega
  clear eB hgw hs
  go_wp2_with fail
  rw [← eW, ← EB.out]
  clear t0 t1 tf0 tf1 hR3 hr3 hO3 hb4 hR eW EB
  go_loopw [6, 8] (fun q i wr => ∃ (k lo : Nat) (ns : List Nat), k ≤ h ∧ q = .int .i64 lo ∧ lo ≤ v ∧ i = .int .i64 k ∧ ns.length = h ∧ (∀ n ∈ ns, n < 2 ^ v) ∧ Row wr g (casts ns) ∧ Rd wr R (K + 8 + 2 * k) ∧ w.grownBy wr (some R) ∧ (wr.cell? ⟨w.heap.size, 0, none⟩ = some (.int .i64 0) ∧ wr.cell? ⟨w.heap.size, 1, none⟩ = some (.slice none 0 0) ∧ wr.frozen? ⟨w.heap.size, 0, none⟩ = false ∧ wr.frozen? ⟨w.heap.size, 1, none⟩ = false) ∧ wr.cell? ⟨Bx, 0, none⟩ = some (.int .i64 v) ∧ wr.cell? ⟨Bx, 1, none⟩ = some (.slice (some ⟨g, 0, none⟩) h c)) (fun _ i _ => h - (intOf i).toNat)
  case atStart => exact ⟨0, 0, ns0, by omega, rfl, by omega, rfl, EH.out.symm, hns, hr4, hR4, hW4, ⟨u0, u1, uf0, uf1⟩, x0, x1⟩
  case round =>
    obtain ⟨k, lo, ns, hk, rfl, hlo, rfl, hlen, hall, hrow, hRd, hOn, ⟨a0, a1, af0, af1⟩, y0, y1⟩ := hrel
    clear hr4 hR4 hW4 u0 u1 uf0 uf1 x0 x1 EH hns
    have hBR : Bx ≠ R := by omega
    have hgR : g ≠ R := by omega
    by_cases hkh : k < h
    · have hkc : k < (casts ns).length := by rw [length_casts]; omega
      have hk8 : Hid (k < (casts ns).length) := hkc
      have hrd' : Rd wr.drew R (K + 8 + 2 * k) := hRd
      have HP : Calls Tryd.prog 44 #[.pointer (some ⟨R, 0, none⟩), .int .i64 3] wr.drew fun e w' => Num 3 e ∧ Rd w' R (K + 8 + 2 * k + 1) ∧ wr.drew.grownBy w' (some R) := pick_c R (K + 8 + 2 * k) 3 (by omega) (by omega) (by omega) wr.drew hrd'
      have HA := Lib.hid hall
      clear hall hkc hrd' hRd
      go_wp2_with fail
      go_region_held3 (fun w' : World => w'.cell? ⟨Bx, 0, none⟩ = some (.int .i64 v) ∧ w'.cell? ⟨Bx, 1, none⟩ = some (.slice (some ⟨g, 0, none⟩) h c)) (first | exact ⟨y0, y1⟩ | (refine ⟨?_, ?_⟩ <;> assumption) | go_keep) (first | (go_at_call 44; (with_reducible refine HP.mono ?_); rintro e w9 ⟨⟨x, rfl, hx⟩, hR9, hg9'⟩; have hg9 := grown_undrew hg9'; have z0 := cell_only hg9 y0 hBR; have z1 := cell_only hg9 y1 hBR; clear hg9'))
      have e1 : IntKind.i64.wrap ((lo : Int) + (x : Int)) = (lo : Int) + x := IntWalk.i64_in _ ⟨by omega, by omega⟩
      have e2 : IntKind.i64.wrap ((lo : Int) + (x : Int) - 1) = (lo : Int) + x - 1 := IntWalk.i64_in _ ⟨by omega, by omega⟩
      simp only [e1, e2]
      generalize hm : (ite ((lo : Int) + (x : Int) - 1 < (v : Int)) ((lo : Int) + (x : Int) - 1) (v : Int)) = m
      generalize hz : (ite ((0 : Int) < m) m (0 : Int)) = z
      have hzb : 0 ≤ z ∧ z ≤ v := by
        have hmv : m ≤ v := by rw [← hm]; split <;> omega
        rw [← hz]
        split <;> omega
      clear hm
      obtain ⟨l2, rfl⟩ := Int.eq_ofNat_of_zero_le hzb.1
      have hl2 : l2 ≤ v := by omega
      have b0 := cell_only hg9 a0 hwR
      have b1 := cell_only hg9 a1 hwR
      have bf0 := frozen_only hg9 a0 hwR af0
      have bf1 := frozen_only hg9 a1 hwR af1
      have hrow9 := Row.only hrow hg9 hgR
      have hOn9 := only_trans hOn hg9
      clear hz hzb e1 e2 a0 a1 af0 af1 hrow hOn hg9 y0 y1 HP
      have hrd9 : Rd w9.drew R (K + 8 + 2 * k + 1) := hR9
      have HP : Calls Tryd.prog 44 #[.pointer (some ⟨R, 0, none⟩), .int .i64 4] w9.drew fun e w' => Num 4 e ∧ Rd w' R (K + 8 + 2 * k + 1 + 1) ∧ w9.drew.grownBy w' (some R) := pick_c R (K + 8 + 2 * k + 1) 4 (by omega) (by omega) (by omega) w9.drew hrd9
      clear hrd9 hR9
      go_wp2_with fail
      go_region_held3 (fun w' : World => w'.cell? ⟨Bx, 0, none⟩ = some (.int .i64 v) ∧ w'.cell? ⟨Bx, 1, none⟩ = some (.slice (some ⟨g, 0, none⟩) h c)) (first | exact ⟨z0, z1⟩ | (refine ⟨?_, ?_⟩ <;> assumption) | go_keep) (first | (go_at_call 44; (with_reducible refine HP.mono ?_); rintro e wa ⟨⟨q, rfl, hq⟩, hRa, hga'⟩; have hga := grown_undrew hga'; have u0 := cell_only hga z0 hBR; have u1 := cell_only hga z1 hBR; clear hga'))
      have e1 : IntKind.i64.wrap ((l2 : Int) + (q : Int)) = (l2 : Int) + q := IntWalk.i64_in _ ⟨by omega, by omega⟩
      simp only [e1]
      generalize hm : (ite ((l2 : Int) + (q : Int) < (v : Int)) ((l2 : Int) + (q : Int)) (v : Int)) = m2
      generalize hz : (ite ((l2 : Int) < m2) m2 (l2 : Int)) = z
      have hzb : (l2 : Int) ≤ z ∧ z ≤ v := by
        have hmv : m2 ≤ v := by rw [← hm]; split <;> omega
        rw [← hz]
        split <;> omega
      clear hm
      obtain ⟨hi, rfl⟩ := Int.eq_ofNat_of_zero_le (show 0 ≤ z by omega)
      have hh1 : l2 ≤ hi := by omega
      have hh2 : hi ≤ v := by omega
      have c0 := cell_only hga b0 hwR
      have c1 := cell_only hga b1 hwR
      have cf0 := frozen_only hga b0 hwR bf0
      have cf1 := frozen_only hga b1 hwR bf1
      have hrowa := Row.only hrow9 hga hgR
      have hOna := only_trans hOn9 hga
      clear hz hzb e1 b0 b1 bf0 bf1 hrow9 hOn9 hga z0 z1 HP
      have hS0 : ∀ (W : World) (u : Value), (W.setCell ⟨g, k, none⟩ u).cell? ⟨Bx, 0, none⟩ = W.cell? ⟨Bx, 0, none⟩ := fun W u => World.cell?_setCell_other _ _ _ _ (by simp <;> omega)
      have hS1 : ∀ (W : World) (u : Value), (W.setCell ⟨g, k, none⟩ u).cell? ⟨Bx, 1, none⟩ = W.cell? ⟨Bx, 1, none⟩ := fun W u => World.cell?_setCell_other _ _ _ _ (by simp <;> omega)
      have hp1 := pw_6 (k := hi) (by omega)
      have hp2 := pw_6 (k := l2) (by omega)
      have hp3 := pw_mono hh1
      have hp4 := pw_pos l2
      have PX : ((2 ^ hi - 2 ^ l2 : Nat) : Int) = pw hi - pw l2 := by
        have : 2 ^ l2 ≤ 2 ^ hi := Nat.pow_le_pow_right (by omega) hh1
        unfold pw
        omega
      have HPX := Lib.hid PX
      have HLT := Lib.hid (pow_sub_lt hh1 hh2)
      have hc9 := Row.cell hrowa hk8
      have hf9 := Row.frozen hrowa k
      have H1 := l1Power_c hi (by omega)
      have H2 := l1Power_c l2 (by omega)
      have ew : IntKind.i64.wrap (pw hi - pw l2) = pw hi - pw l2 := IntWalk.i64_in _ ⟨by omega, by omega⟩
      have HRO := Lib.hid (And.intro hrowa (And.intro hOna hRa))
      clear PX hrowa hOna hRa
      go_wp2_with fail
      go_region_held3 (fun w' : World => w'.cell? ⟨Bx, 0, none⟩ = some (.int .i64 v) ∧ w'.cell? ⟨Bx, 1, none⟩ = some (.slice (some ⟨g, 0, none⟩) h c)) (first | exact ⟨u0, u1⟩ | (refine ⟨?_, ?_⟩ <;> assumption) | (refine ⟨(hS0 _ _).trans ?_, (hS1 _ _).trans ?_⟩ <;> assumption) | go_keep) (first | (go_at_call 66; (with_reducible refine (H1 _).mono ?_); rintro e wb ⟨rfl, rfl⟩) | (go_at_call 66; (with_reducible refine (H2 _).mono ?_); rintro e wb ⟨rfl, rfl⟩))
      rw [← HPX.out]
      have hset := Row.set HRO.out.1 hk8 ((2 ^ hi - 2 ^ l2 : Nat) : Int)
      rw [casts_set] at hset
      have HS := Lib.hid hset
      have HF := Lib.hid (And.intro c0 (And.intro c1 (And.intro cf0 cf1)))
      have HZ := Lib.hid (And.intro u0 u1)
      clear hset c0 c1 cf0 cf1
      go_wp2
      go_roundw
      case rel =>
        refine ⟨k + 1, l2, ns.set k (2 ^ hi - 2 ^ l2), by omega, rfl, hl2, by go_num, by simp [hlen], fun n hn => ?_, HS.out, ?_, only_drew (only_setCell HRO.out.2.1 (.inr (by simp; omega)) _), ⟨?_, ?_, ?_, ?_⟩, (hS0 _ _).trans HZ.out.1, (hS1 _ _).trans HZ.out.2⟩
        · rcases List.mem_or_eq_of_mem_set hn with hn | rfl
          · exact HA.out n hn
          · exact HLT.out
        · exact (HRO.out.2.2.below (B := R + 1) ((Below.refl (R + 1) _).setCell (by simp; omega) _) (by omega)).more (by omega)
        · exact (World.cell?_setCell_other _ _ _ _ (by simp <;> omega)).trans HF.out.1
        · exact (World.cell?_setCell_other _ _ _ _ (by simp <;> omega)).trans HF.out.2.1
        · exact (World.frozen?_setCell wa ⟨g, k, none⟩ _ _).trans HF.out.2.2.1
        · exact (World.frozen?_setCell wa ⟨g, k, none⟩ _ _).trans HF.out.2.2.2
      case measure => simp [intOf]; omega
    · obtain ⟨q0, q1⟩ := set2_get (x := .int .i64 v) (y := .slice (some ⟨g, 0, none⟩) h c) a0 a1
      go_wp2
      refine bodyPost_ret (res_img rfl _ _ rfl q0 q1) rfl ?_
      refine ⟨⟨g, c, v, ns, by rw [hlen], ⟨hv1, hv6, by omega, by omega, hall⟩, (hrow.far (by simp; omega) _).far (by simp; omega) _, by omega⟩, ?_, only_setCell (only_setCell hOn (.inr (by simp)) _) (.inr (by simp)) _⟩
      exact (hRd.below (B := R + 1) (((Below.refl (R + 1) wr).setCell (by simp; omega) _).setCell (by simp; omega) _) (by omega)).more (by omega)
end Go.Proofs.YtilahcpjjaikgaaDoor
