/- Contracts of arrow and l41Arrow: whether a place is reached from another one. Conditions: a valid image; places of it; the slice reads as a list of integers. -/
import Derived.Test.YtehoaagnpidnbaaFPC
import Derived.Test.YtehoaagnpidnbaaTW
namespace Go.Proofs.Ytehoaagnpidnbaa
open Go.RowKit
set_option maxRecDepth 100000 in
set_option maxHeartbeats 2000000 in
theorem arrow_c (n : Nat) (v : Value) (ns : List Nat) (hV : VImg n ns) (p q : Nat) (hp : p < ns.length + n) (hq : q < ns.length + n) (w : World) (hv : Ints w.heap.size w v (casts ns)) :
    Calls Try.prog 58 #[.agg #[.int .i64 (n : Int), v], .int .i64 (q : Int), .int .i64 (p : Int)] w fun e w' => e = .returned (.bool (arrB ns ns.length p q)) ∧ Below w.heap.size w w' := by
  obtain ⟨A, cap, rfl⟩ := hv.len
  rw [length_casts] at hv ⊢
  have h6 := hV.h6
  have w6 := hV.w6
  have hr := hV.get64
  have hI := hv
  have hW := Below.refl w.heap.size w
  clear hv
  go_enter Try.func58, Try.ntmps58
  by_cases h1 : q < ns.length
  · by_cases h2 : ns.length ≤ p
    · have HA : Hid (arrB ns ns.length p q = cell ns q (p - ns.length)) := by unfold arrB; rw [if_neg (by omega), if_pos ⟨h2, h1⟩]; rfl
      have ew : IntKind.i64.wrap ((p : Int) - (ns.length : Int)) = (p : Int) - (ns.length : Int) := IntWalk.i64_in _ ⟨by omega, by omega⟩
      have c1 : (q : Int) < (ns.length : Int) := by omega
      have c2 : (ns.length : Int) ≤ (p : Int) := by omega
      obtain ⟨W0, e_W0⟩ : ∃ W0, W0 = World.alloc w (.cells #[.int .i64 (n : Int), .slice A ns.length cap] 24) := ⟨_, rfl⟩
      have hx_W0 := Box2.new w (.int .i64 (n : Int)) (.slice A ns.length cap) 24
      have hb_W0 : Below (World.heap w).size w W0 := by rw [e_W0]; go_grown
      have HS_W0 := Lib.hid (show (World.heap W0).size = (World.heap w).size + 1 by rw [e_W0]; simp)
      replace hI := (hI.below hb_W0).more (Below.size hb_W0)
      replace hW := hW.trans (Below.mono hb_W0 hW.size)
      have HE_W0 := Lib.hid e_W0
      clear e_W0
      go_wp2_with fail
      rw [← HE_W0.out] at hx_W0 ⊢
      clear HE_W0
      obtain ⟨hl_x, x0, x1⟩ := hx_W0
      obtain ⟨Bx, e_Bx⟩ : ∃ Bx, Bx = (World.heap w).size := ⟨_, rfl⟩
      rw [← e_Bx] at hl_x x0 x1 hb_W0 HS_W0  ⊢
      have hz_Bx := hb_W0.size
      clear e_Bx hb_W0
      have HH := has_c (n : Int) (.slice A ns.length cap) ns q (p - ns.length) h1 (by omega) (by have := hr q; omega) W0 hI
      have e1 : ((p - ns.length : Nat) : Int) = (p : Int) - (ns.length : Int) := by omega
      rw [e1] at HH
      clear e1
      refine HH.mono ?_
      rintro e wc ⟨rfl, hb⟩
      replace hI := (hI.below hb).more (Below.size hb)
      replace hW := hW.trans (Below.mono hb hW.size)
      replace x0 := cellB hb x0
      replace x1 := cellB hb x1
      go_wp2
      go_returns
      exact ⟨rb HA.out.symm, hW⟩
    · have HA : Hid (arrB ns ns.length p q = false) := by unfold arrB; rw [if_neg (by omega), if_neg (by omega)]; rfl
      have c1 : (q : Int) < (ns.length : Int) := by omega
      have c2 : ¬ (ns.length : Int) ≤ (p : Int) := by omega
      have c3 : ¬ (ns.length : Int) ≤ (q : Int) := by omega
      go_wp2
      go_returns
      exact ⟨rb HA.out.symm, by go_grown⟩
  · by_cases h2 : p < ns.length
    · have HA : Hid (arrB ns ns.length p q = !cell ns p (q - ns.length)) := by unfold arrB; rw [if_pos ⟨h2, by omega⟩]; rfl
      have ew : IntKind.i64.wrap ((q : Int) - (ns.length : Int)) = (q : Int) - (ns.length : Int) := IntWalk.i64_in _ ⟨by omega, by omega⟩
      have c1 : ¬ (q : Int) < (ns.length : Int) := by omega
      have c2 : (ns.length : Int) ≤ (q : Int) := by omega
      have c3 : (p : Int) < (ns.length : Int) := by omega
      obtain ⟨W0, e_W0⟩ : ∃ W0, W0 = World.alloc w (.cells #[.int .i64 (n : Int), .slice A ns.length cap] 24) := ⟨_, rfl⟩
      have hx_W0 := Box2.new w (.int .i64 (n : Int)) (.slice A ns.length cap) 24
      have hb_W0 : Below (World.heap w).size w W0 := by rw [e_W0]; go_grown
      have HS_W0 := Lib.hid (show (World.heap W0).size = (World.heap w).size + 1 by rw [e_W0]; simp)
      replace hI := (hI.below hb_W0).more (Below.size hb_W0)
      replace hW := hW.trans (Below.mono hb_W0 hW.size)
      have HE_W0 := Lib.hid e_W0
      clear e_W0
      go_wp2_with fail
      rw [← HE_W0.out] at hx_W0 ⊢
      clear HE_W0
      obtain ⟨hl_x, x0, x1⟩ := hx_W0
      obtain ⟨Bx, e_Bx⟩ : ∃ Bx, Bx = (World.heap w).size := ⟨_, rfl⟩
      rw [← e_Bx] at hl_x x0 x1 hb_W0 HS_W0  ⊢
      have hz_Bx := hb_W0.size
      clear e_Bx hb_W0
      have HH := has_c (n : Int) (.slice A ns.length cap) ns p (q - ns.length) h2 (by omega) (by have := hr p; omega) W0 hI
      have e1 : ((q - ns.length : Nat) : Int) = (q : Int) - (ns.length : Int) := by omega
      rw [e1] at HH
      clear e1
      refine HH.mono ?_
      rintro e wc ⟨rfl, hb⟩
      replace hI := (hI.below hb).more (Below.size hb)
      replace hW := hW.trans (Below.mono hb hW.size)
      replace x0 := cellB hb x0
      replace x1 := cellB hb x1
      go_wp2
      go_returns
      exact ⟨rb HA.out.symm, hW⟩
    · have HA : Hid (arrB ns ns.length p q = false) := by unfold arrB; rw [if_neg (by omega), if_neg (by omega)]; rfl
      have c1 : ¬ (q : Int) < (ns.length : Int) := by omega
      have c2 : (ns.length : Int) ≤ (q : Int) := by omega
      have c3 : ¬ (p : Int) < (ns.length : Int) := by omega
      go_wp2
      go_returns
      exact ⟨rb HA.out.symm, by go_grown⟩
set_option maxRecDepth 100000 in
set_option maxHeartbeats 2000000 in
theorem l41Arrow_c (n : Nat) (v : Value) (ns : List Nat) (hV : VImg n ns) (p q : Nat) (hp : p < ns.length + n) (hq : q < ns.length + n) (w : World) (hv : Ints w.heap.size w v (casts ns)) :
    Calls Try.prog 52 #[.agg #[.int .i64 (n : Int), v], .int .i64 (p : Int), .int .i64 (q : Int)] w fun e w' => e = .returned (.bool (arrB ns ns.length p q)) ∧ Below w.heap.size w w' := by
  obtain ⟨A, cap, rfl⟩ := hv.len
  rw [length_casts] at hv ⊢
  have h6 := hV.h6
  have w6 := hV.w6
  have hr := hV.get64
  have hI := hv
  have hW := Below.refl w.heap.size w
  clear hv
  go_enter Try.func52, Try.ntmps52
  by_cases h1 : q < ns.length
  · by_cases h2 : ns.length ≤ p
    · have HA : Hid (arrB ns ns.length p q = cell ns q (p - ns.length)) := by unfold arrB; rw [if_neg (by omega), if_pos ⟨h2, h1⟩]; rfl
      have ew : IntKind.i64.wrap ((p : Int) - (ns.length : Int)) = (p : Int) - (ns.length : Int) := IntWalk.i64_in _ ⟨by omega, by omega⟩
      have c1 : (q : Int) < (ns.length : Int) := by omega
      have c2 : (ns.length : Int) ≤ (p : Int) := by omega
      have c3 : ¬ (p : Int) < (ns.length : Int) := by omega
      obtain ⟨W0, e_W0⟩ : ∃ W0, W0 = World.alloc w (.cells #[.int .i64 (n : Int), .slice A ns.length cap] 24) := ⟨_, rfl⟩
      have hx_W0 := Box2.new w (.int .i64 (n : Int)) (.slice A ns.length cap) 24
      have hb_W0 : Below (World.heap w).size w W0 := by rw [e_W0]; go_grown
      have HS_W0 := Lib.hid (show (World.heap W0).size = (World.heap w).size + 1 by rw [e_W0]; simp)
      replace hI := (hI.below hb_W0).more (Below.size hb_W0)
      replace hW := hW.trans (Below.mono hb_W0 hW.size)
      have HE_W0 := Lib.hid e_W0
      clear e_W0
      go_wp2_with fail
      rw [← HE_W0.out] at hx_W0 ⊢
      clear HE_W0
      obtain ⟨hl_x, x0, x1⟩ := hx_W0
      obtain ⟨Bx, e_Bx⟩ : ∃ Bx, Bx = (World.heap w).size := ⟨_, rfl⟩
      rw [← e_Bx] at hl_x x0 x1 hb_W0 HS_W0  ⊢
      have hz_Bx := hb_W0.size
      clear e_Bx hb_W0
      have HH := l11Get_c (n : Int) (.slice A ns.length cap) ns q (p - ns.length) h1 (by omega) (by have := hr q; omega) W0 hI
      have e1 : ((p - ns.length : Nat) : Int) = (p : Int) - (ns.length : Int) := by omega
      rw [e1] at HH
      clear e1
      refine HH.mono ?_
      rintro e wc ⟨rfl, hb⟩
      replace hI := (hI.below hb).more (Below.size hb)
      replace hW := hW.trans (Below.mono hb hW.size)
      replace x0 := cellB hb x0
      replace x1 := cellB hb x1
      cases hc : cell ns q (p - ns.length) with
      | true =>
        rw [hc] at HA
        clear hc
        go_wp2
        go_returns
        exact ⟨rb HA.out.symm, hW⟩
      | false =>
        rw [hc] at HA
        clear hc
        go_wp2
        go_returns
        exact ⟨rb HA.out.symm, hW⟩
    · have HA : Hid (arrB ns ns.length p q = false) := by unfold arrB; rw [if_neg (by omega), if_neg (by omega)]; rfl
      have c1 : ¬ (ns.length : Int) ≤ (q : Int) := by omega
      have c2 : ¬ (ns.length : Int) ≤ (p : Int) := by omega
      have c3 : (p : Int) < (ns.length : Int) := by omega
      go_wp2
      go_returns
      exact ⟨rb HA.out.symm, by go_grown⟩
  · by_cases h2 : p < ns.length
    · have HA : Hid (arrB ns ns.length p q = !cell ns p (q - ns.length)) := by unfold arrB; rw [if_pos ⟨h2, by omega⟩]; rfl
      have ew : IntKind.i64.wrap ((q : Int) - (ns.length : Int)) = (q : Int) - (ns.length : Int) := IntWalk.i64_in _ ⟨by omega, by omega⟩
      have c1 : (p : Int) < (ns.length : Int) := by omega
      have c2 : (ns.length : Int) ≤ (q : Int) := by omega
      obtain ⟨W0, e_W0⟩ : ∃ W0, W0 = World.alloc w (.cells #[.int .i64 (n : Int), .slice A ns.length cap] 24) := ⟨_, rfl⟩
      have hx_W0 := Box2.new w (.int .i64 (n : Int)) (.slice A ns.length cap) 24
      have hb_W0 : Below (World.heap w).size w W0 := by rw [e_W0]; go_grown
      have HS_W0 := Lib.hid (show (World.heap W0).size = (World.heap w).size + 1 by rw [e_W0]; simp)
      replace hI := (hI.below hb_W0).more (Below.size hb_W0)
      replace hW := hW.trans (Below.mono hb_W0 hW.size)
      have HE_W0 := Lib.hid e_W0
      clear e_W0
      go_wp2_with fail
      rw [← HE_W0.out] at hx_W0 ⊢
      clear HE_W0
      obtain ⟨hl_x, x0, x1⟩ := hx_W0
      obtain ⟨Bx, e_Bx⟩ : ∃ Bx, Bx = (World.heap w).size := ⟨_, rfl⟩
      rw [← e_Bx] at hl_x x0 x1 hb_W0 HS_W0  ⊢
      have hz_Bx := hb_W0.size
      clear e_Bx hb_W0
      have HH := l11Get_c (n : Int) (.slice A ns.length cap) ns p (q - ns.length) h2 (by omega) (by have := hr p; omega) W0 hI
      have e1 : ((q - ns.length : Nat) : Int) = (q : Int) - (ns.length : Int) := by omega
      rw [e1] at HH
      clear e1
      refine HH.mono ?_
      rintro e wc ⟨rfl, hb⟩
      replace hI := (hI.below hb).more (Below.size hb)
      replace hW := hW.trans (Below.mono hb hW.size)
      replace x0 := cellB hb x0
      replace x1 := cellB hb x1
      cases hc : cell ns p (q - ns.length) with
      | true =>
        rw [hc] at HA
        clear hc
        go_wp2
        go_returns
        exact ⟨rb HA.out.symm, hW⟩
      | false =>
        rw [hc] at HA
        clear hc
        go_wp2
        go_returns
        exact ⟨rb HA.out.symm, hW⟩
    · have HA : Hid (arrB ns ns.length p q = false) := by unfold arrB; rw [if_neg (by omega), if_neg (by omega)]; rfl
      have c1 : ¬ (p : Int) < (ns.length : Int) := by omega
      have c2 : ¬ (q : Int) < (ns.length : Int) := by omega
      have c3 : (ns.length : Int) ≤ (p : Int) := by omega
      go_wp2
      go_returns
      exact ⟨rb HA.out.symm, by go_grown⟩
end Go.Proofs.Ytehoaagnpidnbaa
