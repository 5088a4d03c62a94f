/- Contract of ImagePut at a valid image and a cell of it. Conditions: those that the theorem names. -/
import Derived.Test.YtehoaagnpidnbaaKT
import Derived.Test.YtehoaagnpidnbaaK5
namespace Go.Proofs.Ytehoaagnpidnbaa
open Go.RowKit
set_option maxHeartbeats 1000000 in
theorem ImagePut_c (wd : Nat) (v : Value) (ns : List Nat) (hi : VImg wd ns) (i j : Nat) (hxi : i < ns.length) (hxj : j < wd) (s : Bool) (w : World) (hv : Ints w.heap.size w v (casts ns)) :
    Calls Try.prog 21 #[.agg #[.int .i64 (wd : Int), v], .int .i64 i, .int .i64 j, .bool s] w fun e w' => ∃ g c, e = .returned (.tuple #[.agg #[.int .i64 (wd : Int), .slice (some ⟨g, 0, none⟩) ns.length c], .bool true]) ∧ w.heap.size ≤ g ∧ Row w' g (casts (putL ns i j s)) ∧ Below w.heap.size w w' := by
  obtain ⟨A, cap, rfl⟩ := hv.len
  obtain ⟨Wa, eWa⟩ : ∃ W0, W0 = (w.alloc (.cells #[.int .i64 (wd : Int), .slice A (casts ns).length cap] 24)).alloc (.cells #[.int .i64 0, .slice none 0 0] 24) := ⟨_, rfl⟩
  have hBa : Below w.heap.size w Wa := by rw [eWa]; go_grown
  have hva := (hv.below hBa).more hBa.size
  have hin : (validB (wd : Int) (casts ns) && inB (wd : Int) (casts ns) i j) = true := by
    rw [validB_of hi]
    simp [inB, length_casts]
    omega
  have a0 : Wa.cell? ⟨w.heap.size, 0, none⟩ = some (.int .i64 (wd : Int)) := by rw [eWa]; go_cell
  have a1 : Wa.cell? ⟨w.heap.size, 1, none⟩ = some (.slice A (casts ns).length cap) := by rw [eWa]; go_cell
  have r0 : Wa.cell? ⟨w.heap.size + 1, 0, none⟩ = some (.int .i64 0) := by rw [eWa]; go_cell
  have r1 : Wa.cell? ⟨w.heap.size + 1, 1, none⟩ = some (.slice none 0 0) := by rw [eWa]; go_cell
  have rf0 : Wa.frozen? ⟨w.heap.size + 1, 0, none⟩ = false := by rw [eWa]; go_cell
  have rf1 : Wa.frozen? ⟨w.heap.size + 1, 1, none⟩ = false := by rw [eWa]; go_cell
  have hza : w.heap.size + 2 = Wa.heap.size := by rw [eWa]; simp
  have HZA := Lib.hid hza
  clear hza
  go_enter Try.func21, Try.ntmps21
  go_wp2_with fail
  rw [← eWa]
  refine (hasCell_c (wd : Int) _ (casts ns) i j Wa hva).mono ?_
  rintro e w1 ⟨rfl, hb1⟩
  rw [hin]
  have d0 := cellB hb1 a0
  have d1 := cellB hb1 a1
  have q0 := cellB hb1 r0
  have q1 := cellB hb1 r1
  have qf0 := frozenB hb1 r0 rf0
  have qf1 := frozenB hb1 r1 rf1
  have hv1 := (hva.below hb1).more hb1.size
  have hB1 := hBa.trans (hb1.mono hBa.size)
  have hz1 := hb1.size
  clear eWa a0 a1 r0 r1 rf0 rf1 hva hb1 hin
  go_wp2_with fail
  refine (clone_c (wd : Int) _ (casts ns) (by rw [length_casts]; exact hi.h1) (by rw [length_casts]; have := hi.h6; omega) w1 hv1).mono ?_
  rintro e w2 ⟨g, c, rfl, hg, hr, hb2⟩
  have a0 := cellB hb2 q0
  have a1 := cellB hb2 q1
  have af0 := frozenB hb2 q0 qf0
  have af1 := frozenB hb2 q1 qf1
  have hB2 := hB1.trans (hb2.mono hB1.size)
  have hza := HZA.out
  have hgw : w.heap.size + 1 < g := by omega
  rw [length_casts]
  obtain ⟨W3, eW⟩ : ∃ W3, W3 = w2.alloc (.cells #[.int .i64 (wd : Int), .slice (some ⟨g, 0, none⟩) ns.length c] 24) := ⟨_, rfl⟩
  have hx := Box2.new w2 (.int .i64 (wd : Int)) (.slice (some ⟨g, 0, none⟩) ns.length c) 24
  have hB3 : Below w2.heap.size w2 W3 := by rw [eW]; go_grown
  have r0 := cellB hB3 a0
  have r1 := cellB hB3 a1
  have rf0 := frozenB hB3 a0 af0
  have rf1 := frozenB hB3 a1 af1
  have hr3 := hr.below hB3 hr.lt
  have hgB : g < w2.heap.size := hr.lt
  have hW3 := hB2.trans (hB3.mono hB2.size)
  have hI3 := hr3.ints hr3.lt c
  rw [length_casts] at hI3
  have hn64 : ns.getD i 0 < 64 := hi.get64 i
  have hn62 : ns.getD i 0 < 4611686018427387904 := by omega
  have hj6 : j < 6 := by have := hi.w6; omega
  have hj62 : j ≤ 62 := by omega
  clear d0 d1 q0 q1 qf0 qf1 a0 a1 af0 af1 hv1 hB1 hB2 hb2 hr hza hv
  have HE := Lib.hid eW
  clear eW
  go_wp2_with fail
  rw [← HE.out]
  rw [← HE.out] at hx
  obtain ⟨_, x0, x1⟩ := hx
  obtain ⟨Bx, eB⟩ : ∃ Bx, Bx = w2.heap.size := ⟨_, rfl⟩
  rw [← eB] at x0 x1 hgB ⊢
  clear eB HE hB3
  refine (has_c (wd : Int) _ ns i j hxi hj62 hn62 W3 hI3).mono ?_
  rintro e w4 ⟨rfl, hb4⟩
  have k0 := cellB hb4 r0
  have k1 := cellB hb4 r1
  have kf0 := frozenB hb4 r0 rf0
  have kf1 := frozenB hb4 r1 rf1
  have y0 := cellB hb4 x0
  have y1 := cellB hb4 x1
  have hr4 := hr3.below hb4 hr3.lt
  have hW4 := hW3.trans (hb4.mono hW3.size)
  clear r0 r1 rf0 rf1 x0 x1 hr3 hW3 hI3
  by_cases hcs : cell ns i j = s
  · have hsame := putL_same hxi hcs
    rw [hcs]
    obtain ⟨q0, q1⟩ := set2_get (x := .int .i64 (wd : Int)) (y := .slice (some ⟨g, 0, none⟩) ns.length c) k0 k1
    have HR := Lib.hid hr4
    have HS := Lib.hid hsame
    clear hr4 hsame hcs
    go_wp2
    refine bodyPost_ret (res_img_b rfl _ _ rfl q0 q1) rfl ?_
    refine ⟨g, c, rfl, by omega, ?_, (hW4.setCell (by simp) _).setCell (by simp) _⟩
    rw [HS.out]
    exact (HR.out.far (by simp; omega) _).far (by simp; omega) _
  · have hns : (!cell ns i j) = s := by
      cases hcc : cell ns i j <;> cases s <;> simp_all
    have HF := flip_c (wd : Int) g c ns i j hxi hj6 hn64 w4 hr4
    rw [hns] at HF
    have ht : cell ns i j = !s := by rw [← hns, Bool.not_not]
    rw [ht]
    have hne : ((!s) == s) = false := by cases s <;> rfl
    have hne2 : (!(!s) == s) = true := by cases s <;> rfl
    clear hcs hns ht
    go_wp2_with (go_at_call 48; refine HF.mono ?_; rintro e w5 ⟨rfl, hr5, hg5⟩; have l0 := cell_only hg5 k0 (by simp; omega); have l1 := cell_only hg5 k1 (by simp; omega); have lf0 := frozen_only hg5 k0 (by simp; omega) kf0; have lf1 := frozen_only hg5 k1 (by simp; omega) kf1; have z0 := cell_only hg5 y0 (by simp; omega); have z1 := cell_only hg5 y1 (by simp; omega))
    obtain ⟨q0, q1⟩ := set2_get (x := .int .i64 (wd : Int)) (y := .slice (some ⟨g, 0, none⟩) ns.length c) l0 l1
    refine bodyPost_ret (res_img_b rfl _ _ rfl q0 q1) rfl ?_
    refine ⟨g, c, rfl, by omega, (hr5.far (by simp; omega) _).far (by simp; omega) _, ?_⟩
    exact ((hW4.grown hg5 hW4.size (fun k e => by cases e; omega)).setCell (by simp) _).setCell (by simp) _
end Go.Proofs.Ytehoaagnpidnbaa
