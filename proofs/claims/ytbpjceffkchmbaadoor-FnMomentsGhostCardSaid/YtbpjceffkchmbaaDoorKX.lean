/- Contracts of RowSums and ColSums. Conditions: the image is valid. -/
import Derived.Test.YtbpjceffkchmbaaDoorMK9
import Derived.Test.YtbpjceffkchmbaaDoorK5
import Derived.Test.YtbpjceffkchmbaaDoorMA
namespace Go.Proofs.YtbpjceffkchmbaaDoor
open Go.RowKit
theorem rowSums_len (w : Nat) (ns : List Nat) : (rowSums w ns).length = ns.length := by simp [rowSums]
theorem rowSums_at {w : Nat} {ns : List Nat} {k : Nat} (hk : k < ns.length) : (rowSums w ns).getD k 0 = pop w (ns.getD k 0) := by
  simp only [rowSums, List.getD_eq_getElem?_getD, List.getElem?_map, List.getElem?_eq_getElem hk, Option.map_some, Option.getD_some]
set_option maxHeartbeats 1000000 in
theorem RowSums_c (wd : Nat) (v : Value) (ns : List Nat) (hi : VImg wd ns) (w : World) (hv : Ints w.heap.size w v (casts ns)) :
    Calls Tryd.prog 20 #[.agg #[.int .i64 (wd : Int), v]] w fun e w' => ∃ g, e = .returned (.slice (some ⟨g, 0, none⟩) ns.length ns.length) ∧ w.heap.size ≤ g ∧ Row w' g (rowSums wd ns) ∧ Below w.heap.size w w' := by
  obtain ⟨A, cap, rfl⟩ := hv.len
  have h6 := hi.h6
  have w6 := hi.w6
  have hmk := mk_ints ns.length (by omega)
  go_enter Tryd.func20, Tryd.ntmps20
  go_wp2_with fail
  refine (ImageValid_c (wd : Int) _ (casts ns) _ (hv.alloc (Nat.le_refl _) _ |>.more (by simp))).mono ?_
  rintro e w1 ⟨rfl, hb⟩
  have hB : Below w.heap.size w w1 := ((Below.refl w.heap.size w).alloc (Nat.le_refl _) _).trans (hb.mono (by simp))
  have hbx := (Box2.new w (.int .i64 (wd : Int)) (.slice A (casts ns).length cap) 25).below hb (by simp)
  have hv1 := (hv.below hB).more hB.size
  obtain ⟨b, off, cp, e, hbl, hc⟩ := hv1.row (by rw [length_casts]; have := hi.h1; omega)
  injection e with e1 e2 e3
  subst e1 e3
  rw [validB_of hi]
  rw [length_casts] at hbx ⊢
  obtain ⟨hlt, h0, h1⟩ := hbx
  obtain ⟨W0, eW⟩ : ∃ W0, W0 = w1.alloc (.cells (Array.replicate ns.length (.int .i64 0)) 3) := ⟨_, rfl⟩
  have hrow := Row.made w1 ns.length
  rw [← eW] at hrow
  have hB0 : Below w1.heap.size w1 W0 := by rw [eW]; go_grown
  have hc0 : ∀ k, k < ns.length → W0.cell? ⟨b, off + k, none⟩ = some (.int .i64 ((casts ns).getD k 0)) := fun k hk => cell_below hB0 (hc k (by rw [length_casts]; exact hk))
  have y1 := cell_below hB0 h1
  have y1r := y1
  rw [eW] at y1r
  have HC := Lib.hid hc0
  have HE := Lib.hid eW
  have HR := Lib.hid hrow
  clear hc hc0 hv hv1 hb e2 eW hrow
  go_wp2_with fail
  have eW := HE.out
  rw [← eW]
  clear eW HE y1r
  obtain ⟨g, eg⟩ : ∃ g, g = w1.heap.size := ⟨_, rfl⟩
  have hrow := HR.out
  have hbg : b < g := by rw [eg]; exact hbl
  have hgw : w.heap.size ≤ g := by rw [eg]; exact hB.size
  have hW0 := hB.trans (hB0.mono hB.size)
  rw [← eg] at hrow ⊢
  clear eg hB0 hbl h0 h1 HR hmk
  go_loopw [16] (fun i wr => ∃ k : Nat, k ≤ ns.length ∧ i = .int .i64 k ∧ Row wr g ((rowSums wd ns).take k ++ List.replicate ((rowSums wd ns).length - k) 0) ∧ Below w.heap.size w wr ∧ ∀ k, k < ns.length → wr.cell? ⟨b, off + k, none⟩ = some (.int .i64 ((casts ns).getD k 0))) (fun i _ => ns.length - (intOf i).toNat)
  case atStart => exact ⟨0, by omega, rfl, by rw [rowSums_len]; simpa using hrow, hW0, HC.out⟩
  case round =>
    obtain ⟨k, hk, rfl, hR, hBk, hck⟩ := hrel
    by_cases hlt' : k < ns.length
    · have hcell := hck k hlt'
      rw [casts_getD] at hcell
      have hr64 := hi.get64 k
      have hat := rowSums_at (w := wd) hlt'
      rw [← pop_more (hi.get k) w6] at hat
      have hkr : k < (rowSums wd ns).length := by rw [rowSums_len]; exact hlt'
      have hkl : Hid (k < ((rowSums wd ns).take k ++ List.replicate ((rowSums wd ns).length - k) 0).length) := by show _ < _; simp; omega
      have hset := Row.set hR hkl ((rowSums wd ns).getD k 0)
      rw [fill_set _ hkr] at hset
      have hcg := Row.cell hR hkl
      have hfg := Row.frozen hR k
      obtain ⟨r, er⟩ : ∃ r, r = ns.getD k 0 := ⟨_, rfl⟩
      rw [← er] at hcell hr64 hat
      rw [hat] at hset
      obtain ⟨y, ey⟩ : ∃ y, y = ((rowSums wd ns).take k ++ List.replicate ((rowSums wd ns).length - k) 0).getD k 0 := ⟨_, rfl⟩
      rw [← ey] at hcg
      have HS := Lib.hid hset
      have HK := Lib.hid hck
      clear er ey hset hR hat hck hrow
      go_wp2_with fail
      refine (ones_c r hr64 _).mono ?_
      rintro e w3 ⟨rfl, rfl⟩
      go_wp2
      go_roundw
      case rel => exact ⟨k + 1, by omega, by go_num, HS.out, hBk.setCell (by simp; omega) _, fun j hj => (World.cell?_setCell_other _ _ _ _ (by simp <;> omega)).trans (HK.out j hj)⟩
      case measure => simp [intOf]; omega
    · clear hrow
      go_wp2
      go_returns
      obtain rfl : k = ns.length := by omega
      refine ⟨g, rfl, hgw, ?_, hBk⟩
      have h2 : (rowSums wd ns).take ns.length ++ List.replicate ((rowSums wd ns).length - ns.length) 0 = rowSums wd ns := by
        rw [rowSums_len, Nat.sub_self, ← rowSums_len wd ns, List.take_length]
        simp
      rw [h2] at hR
      exact hR
end Go.Proofs.YtbpjceffkchmbaaDoor
