/- Contracts of the functions that copy and compare lists and images. Conditions: the slices read as lists of integers; lengths below 2 to the power of 21. -/
import Derived.Test.YtbpjceffkchmbaaDoorK3
import Derived.Deep.RegionHeld3
namespace Go.Proofs.YtbpjceffkchmbaaDoor
open Go.RowKit
theorem fill_set (xs : List Int) {k : Nat} (hk : k < xs.length) : (xs.take k ++ List.replicate (xs.length - k) 0).set k (xs.getD k 0) = xs.take (k + 1) ++ List.replicate (xs.length - (k + 1)) 0 := by
  have hl : (xs.take k).length = k := by simp; omega
  rw [List.set_append_right _ _ (by omega), hl, Nat.sub_self]
  obtain ⟨d, hd⟩ : ∃ d, xs.length - k = d + 1 := ⟨xs.length - k - 1, by omega⟩
  rw [hd, List.replicate_succ, List.set_cons_zero, show xs.length - (k + 1) = d from by omega, List.getD_eq_getElem?_getD, List.getElem?_eq_getElem hk, List.take_succ_eq_append_getElem hk, List.append_assoc]
  rfl
set_option maxHeartbeats 1000000 in
theorem Clone_c (v : Value) (xs : List Int) (h1 : 1 ≤ xs.length) (h6 : xs.length ≤ 2097152) (w : World) (hv : Ints w.heap.size w v xs) :
    Calls Tryd.prog 83 #[v] w fun e w' => ∃ g c, e = .returned (.slice (some ⟨g, 0, none⟩) xs.length c) ∧ w.heap.size ≤ g ∧ Row w' g xs ∧ Below w.heap.size w w' := by
  obtain ⟨b, off, cap, rfl, hlt, hc⟩ := hv.row (by omega)
  have hnil := fun (W : World) => Lib.run_eql_slice_nil (P := Tryd.prog) W 23 3 (some ⟨b, off, none⟩) xs.length cap 0 0 Tryd.underlying23
  have hown := OwnI.empty w (Nat.le_refl _)
  have hva := hv.alloc (Nat.le_refl _) (.cells #[] 3)
  have HV := Lib.hid hva
  clear hc hva hv
  go_enter Tryd.func83, Tryd.ntmps83
  go_wp2_with (at_builtin; refine wpList_app (v := .slice (some ⟨w.heap.size, 0, none⟩) 0 0) rfl (.tmp 5) (.tmp 6) rfl rfl hown rfl HV.out (by first | omega | (simp; omega)) (by simp) ?_; intro v' w' hown' hgrow hnn _)
  go_returns
  rw [List.nil_append] at hown'
  obtain ⟨g, c, rfl, hg, hr⟩ := hown'.row (hnn (.inl (by simp)))
  refine ⟨g, c, rfl, hg, hr, ?_⟩
  exact Below.app ((Below.refl _ _).alloc (Nat.le_refl _) _) hown hgrow (Nat.le_refl _) (by simp)
set_option maxHeartbeats 1000000 in
theorem clone_c (W : Int) (v : Value) (xs : List Int) (h1 : 1 ≤ xs.length) (h6 : xs.length ≤ 2097152) (w : World) (hv : Ints w.heap.size w v xs) :
    Calls Tryd.prog 75 #[.agg #[.int .i64 W, v]] w fun e w' => ∃ g c, e = .returned (.agg #[.int .i64 W, .slice (some ⟨g, 0, none⟩) xs.length c]) ∧ w.heap.size ≤ g ∧ Row w' g xs ∧ Below w.heap.size w w' := by
  obtain ⟨A, cap, rfl⟩ := hv.len
  have hv2 := ((hv.alloc (Nat.le_refl _) (.cells #[.int .i64 W, .slice A xs.length cap] 25)).alloc (by simp) (.cells #[.int .i64 0, .slice none 0 0] 25))
  have hbx := Box2.new w (.int .i64 W) (.slice A xs.length cap) 25
  have hb2 := hbx.below (((Below.refl (w.heap.size + 1) _).alloc (by simp) (.cells #[.int .i64 0, .slice none 0 0] 25))) (by omega)
  obtain ⟨W0, eW⟩ : ∃ W0, W0 = (w.alloc (.cells #[.int .i64 W, .slice A xs.length cap] 25)).alloc (.cells #[.int .i64 0, .slice none 0 0] 25) := ⟨_, rfl⟩
  have hB0 : Below w.heap.size w W0 := by rw [eW]; go_grown
  rw [← eW] at hv2 hb2
  obtain ⟨hbl, h0, h1'⟩ := hb2
  go_enter Tryd.func75, Tryd.ntmps75
  go_wp2_with fail
  rw [← eW]
  have hz0 : w.heap.size + 2 = W0.heap.size := by rw [eW]; simp
  have hs : Box2 W0 (w.heap.size + 1) (.int .i64 0) (.slice none 0 0) := by
    have := Box2.new (w.alloc (.cells #[.int .i64 W, .slice A xs.length cap] 25)) (.int .i64 0) (.slice none 0 0) 25
    rw [World.size_alloc, ← eW] at this
    exact this
  have hsf : W0.frozen? ⟨w.heap.size + 1, 0, none⟩ = false ∧ W0.frozen? ⟨w.heap.size + 1, 1, none⟩ = false := by rw [eW]; simp
  have HZ := Lib.hid hz0
  clear eW hz0
  go_region_held3 (fun w' : World => w'.cell? ⟨w.heap.size, 0, none⟩ = some (.int .i64 W) ∧ w'.cell? ⟨w.heap.size, 1, none⟩ = some (.slice A xs.length cap)) (first | exact ⟨h0, h1'⟩ | (refine ⟨?_, ?_⟩ <;> assumption) | go_keep) ((go_at_call 83; refine (Clone_c _ xs h1 h6 W0.drew (hv2.drew.more (by exact hB0.size))).mono ?_; rintro e w1 ⟨g, c, rfl, hg, hr, hb0⟩; have hb := Below.undrew hb0; have kb := HZ.out; obtain ⟨_, hs0, hs1⟩ := hs.below (w' := w1) hb (by first | omega | (simp; omega)); obtain ⟨_, k0, k1⟩ := Box2.below (w' := w1) ⟨hbl, h0, h1'⟩ hb (by first | omega | (simp; omega)); have hf0 := (hb.frozen (p := ⟨w.heap.size + 1, 0, none⟩) (by first | omega | (simp; omega))).trans hsf.1; have hf1 := (hb.frozen (p := ⟨w.heap.size + 1, 1, none⟩) (by first | omega | (simp; omega))).trans hsf.2; clear kb))
  obtain ⟨q0, q1⟩ := set2_get (x := .int .i64 W) (y := .slice (some ⟨g, 0, none⟩) xs.length c) hs0 hs1
  go_wp2
  refine bodyPost_ret (res_img rfl _ _ rfl q0 q1) rfl ?_
  have kz := HZ.out
  have hg' : W0.heap.size ≤ g := hg
  refine ⟨g, c, rfl, by omega, (hr.far (by simp; omega) _).far (by simp; omega) _, ?_⟩
  exact ((hB0.trans (hb.mono (by simp; omega))).setCell (by simp) _).setCell (by simp) _
end Go.Proofs.YtbpjceffkchmbaaDoor
