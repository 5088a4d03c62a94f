/- Contract of l13Turn: the cell between two places is changed. Conditions: a row and a column of the image; its rows lie in a block of their own. -/
import Derived.Test.YtehoaagnpidnbaaFI2
import Derived.Test.YtehoaagnpidnbaaK3
namespace Go.Proofs.Ytehoaagnpidnbaa
open Go.RowKit
theorem Row.intsI4 {w : World} {g h c : Nat} {ns : List Nat} (hr : Row w g (casts ns)) (hl : ns.length = h) : Ints w.heap.size w (.slice (some ⟨g, 0, none⟩) h c) (casts ns) := by
  have := hr.ints hr.lt c
  rw [length_casts, hl] at this
  exact this
set_option maxRecDepth 100000 in
set_option maxHeartbeats 4000000 in
theorem l13Turn_a (n h g cap : Nat) (ns : List Nat) (hl : ns.length = h) (hm : ∀ x ∈ ns, x < 2 ^ n) (h6 : h ≤ 6) (w6 : n ≤ 6) (p q : Nat) (c1 : p < h) (c2 : h ≤ q) (c3 : q < h + n) (w : World) (hR : Row w g (casts ns)) :
    Calls Try.prog 28 #[.agg #[.int .i64 (n : Int), .slice (some ⟨g, 0, none⟩) h cap], .int .i64 (p : Int), .int .i64 (q : Int)] w fun e w' => e = .returned (.tuple #[]) ∧ Row w' g (casts (turnAt ns h p q)) ∧ w.grownBy w' (some g) := by
  have hlg := hR.lt
  have hgB : w.heap.size ≠ g := by omega
  obtain ⟨W0, eW⟩ : ∃ W0, W0 = w.alloc (.cells #[.int .i64 (n : Int), .slice (some ⟨g, 0, none⟩) h cap] 24) := ⟨_, rfl⟩
  have hB0 : Below w.heap.size w W0 := by rw [eW]; go_grown
  have x0 : W0.cell? ⟨w.heap.size, 0, none⟩ = some (.int .i64 (n : Int)) := by rw [eW]; go_cell
  have x1 : W0.cell? ⟨w.heap.size, 1, none⟩ = some (.slice (some ⟨g, 0, none⟩) h cap) := by rw [eW]; go_cell
  have hr64 := get64 w6 hm
  have hR0 := hR.below hB0 hR.lt
  have e1 : ((q - h : Nat) : Int) = (q : Int) - (h : Int) := by omega
  have ew : IntKind.i64.wrap ((q : Int) - (h : Int)) = (q : Int) - (h : Int) := IntWalk.i64_in _ ⟨by omega, by omega⟩
  have HP := fun (s : Bool) (V : World) (hV : Row V g (casts ns)) => l1Put_h (n : Int) g cap h ns hl p (q - h) c1 (by omega) (hr64 p) s V hV
  have HG := l11Get_c (n : Int) (.slice (some ⟨g, 0, none⟩) h cap) ns p (q - h) (by omega) (by omega) (by have := hr64 p; omega) W0.drew (hR0.intsI4 hl).drew
  have hta : turnAt ns h p q = putL ns p (q - h) (!cell ns p (q - h)) := turn_a c1 c2
  rw [hta]
  rw [e1] at HG
  simp only [e1] at HP
  have hn1 : p < q := by omega
  have hn2 : ¬ q < p := by omega
  have hi1 : (p : Int) < (q : Int) := by omega
  have hi2 : ¬ (q : Int) < (p : Int) := by omega
  have HB := Lib.hid (And.intro hB0 hR0)
  cases hc : cell ns p (q - h) with
  | true =>
    have HPP := HP false
    rw [hc] at HG
    simp only [Bool.not_true, Bool.not_false]
    have hb : b2i true = 1 := rfl
    rw [hb] at HG
    clear hb hc HP hta hm hr64 hB0 hR0 e1
    go_enter Try.func28, Try.ntmps28
    go_wp2_with fail
    rw [← eW]
    clear eW
    go_region_held3 (fun w' : World => w'.cell? ⟨w.heap.size, 0, none⟩ = some (.int .i64 (n : Int)) ∧ w'.cell? ⟨w.heap.size, 1, none⟩ = some (.slice (some ⟨g, 0, none⟩) h cap)) (first | exact ⟨x0, x1⟩ | (refine ⟨?_, ?_⟩ <;> assumption) | go_keep) (first | (go_at_call 55; (with_reducible refine HG.mono ?_); rintro e wp ⟨rfl, hbp'⟩; have hbp := Below.undrew hbp'; have p0 := cellB hbp x0; have p1 := cellB hbp x1; have hRp := HB.out.2.below hbp HB.out.2.lt; clear hbp') | (go_at_call 54; (refine (HPP wp hRp).mono ?_); rintro e wq ⟨rfl, hrq, hgq⟩; have q0 := cell_only hgq p0 hgB; have q1 := cell_only hgq p1 hgB))
    all_goals (first | (go_end0; exact ⟨rfl, hrq, only_trans (only_of_below (HB.out.1.trans (hbp.mono HB.out.1.size)) _) hgq⟩) | (go_wp2; go_end0; exact ⟨rfl, hrq, only_trans (only_of_below (HB.out.1.trans (hbp.mono HB.out.1.size)) _) hgq⟩))
  | false =>
    have HPP := HP true
    rw [hc] at HG
    simp only [Bool.not_true, Bool.not_false]
    have hb : b2i false = 0 := rfl
    rw [hb] at HG
    clear hb hc HP hta hm hr64 hB0 hR0 e1
    go_enter Try.func28, Try.ntmps28
    go_wp2_with fail
    rw [← eW]
    clear eW
    go_region_held3 (fun w' : World => w'.cell? ⟨w.heap.size, 0, none⟩ = some (.int .i64 (n : Int)) ∧ w'.cell? ⟨w.heap.size, 1, none⟩ = some (.slice (some ⟨g, 0, none⟩) h cap)) (first | exact ⟨x0, x1⟩ | (refine ⟨?_, ?_⟩ <;> assumption) | go_keep) (first | (go_at_call 55; (with_reducible refine HG.mono ?_); rintro e wp ⟨rfl, hbp'⟩; have hbp := Below.undrew hbp'; have p0 := cellB hbp x0; have p1 := cellB hbp x1; have hRp := HB.out.2.below hbp HB.out.2.lt; clear hbp') | (go_at_call 54; (refine (HPP wp hRp).mono ?_); rintro e wq ⟨rfl, hrq, hgq⟩; have q0 := cell_only hgq p0 hgB; have q1 := cell_only hgq p1 hgB))
    all_goals (first | (go_end0; exact ⟨rfl, hrq, only_trans (only_of_below (HB.out.1.trans (hbp.mono HB.out.1.size)) _) hgq⟩) | (go_wp2; go_end0; exact ⟨rfl, hrq, only_trans (only_of_below (HB.out.1.trans (hbp.mono HB.out.1.size)) _) hgq⟩))
set_option maxRecDepth 100000 in
set_option maxHeartbeats 4000000 in
theorem l13Turn_b (n h g cap : Nat) (ns : List Nat) (hl : ns.length = h) (hm : ∀ x ∈ ns, x < 2 ^ n) (h6 : h ≤ 6) (w6 : n ≤ 6) (p q : Nat) (c1 : q < h) (c2 : h ≤ p) (c3 : p < h + n) (w : World) (hR : Row w g (casts ns)) :
    Calls Try.prog 28 #[.agg #[.int .i64 (n : Int), .slice (some ⟨g, 0, none⟩) h cap], .int .i64 (p : Int), .int .i64 (q : Int)] w fun e w' => e = .returned (.tuple #[]) ∧ Row w' g (casts (turnAt ns h p q)) ∧ w.grownBy w' (some g) := by
  have hlg := hR.lt
  have hgB : w.heap.size ≠ g := by omega
  obtain ⟨W0, eW⟩ : ∃ W0, W0 = w.alloc (.cells #[.int .i64 (n : Int), .slice (some ⟨g, 0, none⟩) h cap] 24) := ⟨_, rfl⟩
  have hB0 : Below w.heap.size w W0 := by rw [eW]; go_grown
  have x0 : W0.cell? ⟨w.heap.size, 0, none⟩ = some (.int .i64 (n : Int)) := by rw [eW]; go_cell
  have x1 : W0.cell? ⟨w.heap.size, 1, none⟩ = some (.slice (some ⟨g, 0, none⟩) h cap) := by rw [eW]; go_cell
  have hr64 := get64 w6 hm
  have hR0 := hR.below hB0 hR.lt
  have e1 : ((p - h : Nat) : Int) = (p : Int) - (h : Int) := by omega
  have ew : IntKind.i64.wrap ((p : Int) - (h : Int)) = (p : Int) - (h : Int) := IntWalk.i64_in _ ⟨by omega, by omega⟩
  have HP := fun (s : Bool) (V : World) (hV : Row V g (casts ns)) => l1Put_h (n : Int) g cap h ns hl q (p - h) c1 (by omega) (hr64 q) s V hV
  have HG := l11Get_c (n : Int) (.slice (some ⟨g, 0, none⟩) h cap) ns q (p - h) (by omega) (by omega) (by have := hr64 q; omega) W0.drew (hR0.intsI4 hl).drew
  have hta : turnAt ns h p q = putL ns q (p - h) (!cell ns q (p - h)) := turn_b c1 c2
  rw [hta]
  rw [e1] at HG
  simp only [e1] at HP
  have hn1 : q < p := by omega
  have hn2 : ¬ p < q := by omega
  have hi1 : (q : Int) < (p : Int) := by omega
  have hi2 : ¬ (p : Int) < (q : Int) := by omega
  have HB := Lib.hid (And.intro hB0 hR0)
  cases hc : cell ns q (p - h) with
  | true =>
    have HPP := HP false
    rw [hc] at HG
    simp only [Bool.not_true, Bool.not_false]
    have hb : b2i true = 1 := rfl
    rw [hb] at HG
    clear hb hc HP hta hm hr64 hB0 hR0 e1
    go_enter Try.func28, Try.ntmps28
    go_wp2_with fail
    rw [← eW]
    clear eW
    go_region_held3 (fun w' : World => w'.cell? ⟨w.heap.size, 0, none⟩ = some (.int .i64 (n : Int)) ∧ w'.cell? ⟨w.heap.size, 1, none⟩ = some (.slice (some ⟨g, 0, none⟩) h cap)) (first | exact ⟨x0, x1⟩ | (refine ⟨?_, ?_⟩ <;> assumption) | go_keep) (first | (go_at_call 55; (with_reducible refine HG.mono ?_); rintro e wp ⟨rfl, hbp'⟩; have hbp := Below.undrew hbp'; have p0 := cellB hbp x0; have p1 := cellB hbp x1; have hRp := HB.out.2.below hbp HB.out.2.lt; clear hbp') | (go_at_call 54; (refine (HPP wp hRp).mono ?_); rintro e wq ⟨rfl, hrq, hgq⟩; have q0 := cell_only hgq p0 hgB; have q1 := cell_only hgq p1 hgB))
    all_goals (first | (go_end0; exact ⟨rfl, hrq, only_trans (only_of_below (HB.out.1.trans (hbp.mono HB.out.1.size)) _) hgq⟩) | (go_wp2; go_end0; exact ⟨rfl, hrq, only_trans (only_of_below (HB.out.1.trans (hbp.mono HB.out.1.size)) _) hgq⟩))
  | false =>
    have HPP := HP true
    rw [hc] at HG
    simp only [Bool.not_true, Bool.not_false]
    have hb : b2i false = 0 := rfl
    rw [hb] at HG
    clear hb hc HP hta hm hr64 hB0 hR0 e1
    go_enter Try.func28, Try.ntmps28
    go_wp2_with fail
    rw [← eW]
    clear eW
    go_region_held3 (fun w' : World => w'.cell? ⟨w.heap.size, 0, none⟩ = some (.int .i64 (n : Int)) ∧ w'.cell? ⟨w.heap.size, 1, none⟩ = some (.slice (some ⟨g, 0, none⟩) h cap)) (first | exact ⟨x0, x1⟩ | (refine ⟨?_, ?_⟩ <;> assumption) | go_keep) (first | (go_at_call 55; (with_reducible refine HG.mono ?_); rintro e wp ⟨rfl, hbp'⟩; have hbp := Below.undrew hbp'; have p0 := cellB hbp x0; have p1 := cellB hbp x1; have hRp := HB.out.2.below hbp HB.out.2.lt; clear hbp') | (go_at_call 54; (refine (HPP wp hRp).mono ?_); rintro e wq ⟨rfl, hrq, hgq⟩; have q0 := cell_only hgq p0 hgB; have q1 := cell_only hgq p1 hgB))
    all_goals (first | (go_end0; exact ⟨rfl, hrq, only_trans (only_of_below (HB.out.1.trans (hbp.mono HB.out.1.size)) _) hgq⟩) | (go_wp2; go_end0; exact ⟨rfl, hrq, only_trans (only_of_below (HB.out.1.trans (hbp.mono HB.out.1.size)) _) hgq⟩))
end Go.Proofs.Ytehoaagnpidnbaa
