/- Contracts of changeBack and l13Turn: the cells on the way back are changed. Conditions: a forest of a valid image; its list and the image's rows lie in blocks of their own. -/
import Derived.Test.YtehoaagnpidnbaaFI1
import Derived.Test.YtehoaagnpidnbaaKT
namespace Go.Proofs.Ytehoaagnpidnbaa
open Go.RowKit
theorem turn_a {ns : List Nat} {h p q : Nat} (h1 : p < h) (h2 : h ≤ q) : turnAt ns h p q = putL ns p (q - h) (!cell ns p (q - h)) := by
  unfold turnAt
  rw [Nat.min_eq_left (by omega), Nat.max_eq_right (by omega)]
theorem turn_b {ns : List Nat} {h p q : Nat} (h1 : q < h) (h2 : h ≤ p) : turnAt ns h p q = putL ns q (p - h) (!cell ns q (p - h)) := by
  unfold turnAt
  rw [Nat.min_eq_right (by omega), Nat.max_eq_left (by omega)]
/-- The memory of the way back. -/
structure BM (n h many g gp : Nat) (par : List Int) (w W : World) (ms : List Nat) : Prop where
  len : ms.length = h
  lt : ∀ x ∈ ms, x < 2 ^ n
  row : Row W g (casts ms)
  par : Row W gp par
  grn : w.grownBy W (some g)
theorem put_bd {n h i j : Nat} {ms : List Nat} (hl : ms.length = h) (hm : ∀ x ∈ ms, x < 2 ^ n) (hi : i < h) (hj : j < n) : ∀ x ∈ putL ms i j (!cell ms i j), x < 2 ^ n := putL_lt hm (by omega) hj _
theorem get64 {n : Nat} {ms : List Nat} (w6 : n ≤ 6) (hm : ∀ x ∈ ms, x < 2 ^ n) (i : Nat) : ms.getD i 0 < 64 := by
  have hp := pow6 w6
  by_cases h : i < ms.length
  · rw [List.getD_eq_getElem?_getD, List.getElem?_eq_getElem h]
    have := hm _ (List.getElem_mem h)
    simp only [Option.getD_some]
    omega
  · rw [List.getD_eq_getElem?_getD, List.getElem?_eq_none (by omega)]
    simp
set_option maxRecDepth 100000 in
set_option maxHeartbeats 4000000 in
theorem changeBack_c (n h g cap gp cp g0 : Nat) (ns : List Nat) (hl : ns.length = h) (hlt : ∀ x ∈ ns, x < 2 ^ n) (h6 : h ≤ 6) (w6 : n ≤ 6) (par : List Int) (rank : Nat → Nat) (R : Nat → Bool) (hF : Forest (arrB ns h) R (h + n) par rank g0) (hne : g ≠ gp) (w : World) (hR : Row w g (casts ns)) (hP : Row w gp par) :
    Calls Try.prog 59 #[.agg #[.int .i64 (n : Int), .slice (some ⟨g, 0, none⟩) h cap], .slice (some ⟨gp, 0, none⟩) (h + n) cp, .int .i64 (g0 : Int)] w fun e w' => e = .returned (.tuple #[]) ∧ Row w' g (casts (back par h (h + n + 1) g0 ns)) ∧ w.grownBy w' (some g) := by
  have hlg := hR.lt
  have hlp := hP.lt
  obtain ⟨W0, eW⟩ : ∃ W0, W0 = w.alloc (.cells #[.int .i64 (n : Int), .slice (some ⟨g, 0, none⟩) h cap] 24) := ⟨_, rfl⟩
  have hB0 : Below w.heap.size w W0 := by rw [eW]; go_grown
  have x0 : W0.cell? ⟨w.heap.size, 0, none⟩ = some (.int .i64 (n : Int)) := by rw [eW]; go_cell
  have x1 : W0.cell? ⟨w.heap.size, 1, none⟩ = some (.slice (some ⟨g, 0, none⟩) h cap) := by rw [eW]; go_cell
  have hm0 : BM n h (h + n) g gp par w W0 ns := ⟨hl, hlt, hR.below hB0 hR.lt, hP.below hB0 hP.lt, only_of_below hB0 _⟩
  obtain ⟨Bx, eB⟩ : ∃ b, b = w.heap.size := ⟨_, rfl⟩
  have HM := Lib.hid (And.intro hm0 (And.intro hF (And.intro eB hlt)))
  rw [← eB] at x0 x1 hlg hlp
  have HE := Lib.hid eW
  have hgB : Bx ≠ g := by omega
  have hfin : ∃ Z, Z = back par h (h + n + 1) g0 ns := ⟨_, rfl⟩
  obtain ⟨Z, eZ⟩ := hfin
  rw [← eZ]
  have HZ := Lib.hid eZ
  clear hR hP hF hm0 hB0 eW eZ hl hlt
  go_enter Try.func59, Try.ntmps59
  go_wp2_with fail
  rw [← HE.out, ← HM.out.2.2.1]
  clear HE eB
  go_loopw [2] (fun q wr => ∃ (p f : Nat) (ms : List Nat), q = .int .i64 (p : Int) ∧ p < h + n ∧ 0 ≤ par.getD p 0 ∧ rank p < f ∧ back par h f p ms = Z ∧ BM n h (h + n) g gp par w wr ms ∧ wr.cell? ⟨Bx, 0, none⟩ = some (.int .i64 (n : Int)) ∧ wr.cell? ⟨Bx, 1, none⟩ = some (.slice (some ⟨g, 0, none⟩) h cap)) (fun q _ => rank (intOf q).toNat)
  case atStart => exact ⟨g0, h + n + 1, ns, rfl, HM.out.2.1.here.1, HM.out.2.1.here.2, by have := (HM.out.2.1.up g0 HM.out.2.1.here.1 HM.out.2.1.here.2).1; omega, HZ.out.symm, HM.out.1, x0, x1⟩
  case round =>
    clear x0 x1 HZ
    obtain ⟨p, f, ms, rfl, hp, hp0, hf, hbk, hm, x0, x1⟩ := hrel
    have hcp := hm.par.cell (k := p) (by rw [HM.out.2.1.len]; exact hp)
    have hup := (HM.out.2.1.up p hp hp0).2
    obtain ⟨f', rfl⟩ : ∃ f', f = f' + 1 := ⟨f - 1, by omega⟩
    have hbk' := hbk
    rw [back] at hbk'
    have hpi : (p : Int) < (h : Int) + (n : Int) := by omega
    have hcast : (((h + n : Nat)) : Int) = (h : Int) + (n : Int) := by omega
    rcases hup with ⟨hr, _⟩ | ⟨t, ht, ht0, hpt, hrk, hA⟩
    · rw [if_pos hr] at hbk'
      rw [hr] at hcp
      have HF := Lib.hid (show Row wr g (casts Z) ∧ w.grownBy wr (some g) from ⟨by rw [← hbk']; exact hm.row, hm.grn⟩)
      clear hm hbk hbk' hr hp0
      go_wp2
      go_end0
      exact ⟨rfl, HF.out⟩
    · have hne2 : ¬ (t : Int) = (p : Int) := by
        intro e
        have : t = p := by omega
        subst this
        omega
      rw [hpt, if_neg hne2, Int.toNat_natCast] at hbk'
      rw [hpt] at hcp
      have hne3 : ((t : Int) == (p : Int)) = false := by simp; omega
      have hr64 := get64 w6 hm.lt
      have HR := Lib.hid (And.intro hm (And.intro hbk' (And.intro hrk ht0)))
      have hrow : Row wr.drew g (casts ms) := hm.row
      have hl := hm.len
      clear hbk hbk' hm hpt hrk ht0
      rcases arr_cases hA with ⟨c1, c2, _⟩ | ⟨c1, c2, _⟩
      · have hj : p - h < n := by omega
        have HFL := flip_h (n : Int) g cap h ms hl t (p - h) c1 (by omega) (hr64 t) wr.drew hrow
        have e1 : ((p - h : Nat) : Int) = (p : Int) - (h : Int) := by omega
        rw [e1] at HFL
        have ew : IntKind.i64.wrap ((p : Int) - (h : Int)) = (p : Int) - (h : Int) := IntWalk.i64_in _ ⟨by omega, by omega⟩
        have hlt1 : (t : Int) < (p : Int) := by omega
        have hlt2 : ¬ (p : Int) < (t : Int) := by omega
        have hlt3 : ¬ p < t := by omega
        have hlt4 : t < p := by omega
        have hta := turn_a (ns := ms) c1 c2
        have hlt' := put_bd hl HR.out.1.lt c1 hj
        have HT := Lib.hid (And.intro hta hlt')
        clear hA hta hlt' e1 hr64 hrow
        go_wp2_with fail
        go_region_held3 (fun w' : World => w'.cell? ⟨Bx, 0, none⟩ = some (.int .i64 (n : Int)) ∧ w'.cell? ⟨Bx, 1, none⟩ = some (.slice (some ⟨g, 0, none⟩) h cap) ∧ w'.cell? ⟨gp, p, none⟩ = some (.int .i64 (t : Int))) (first | exact ⟨x0, x1, hcp⟩ | (refine ⟨?_, ?_, ?_⟩ <;> assumption) | go_keep) ((go_at_call 48; (with_reducible refine HFL.mono ?_); rintro e w9 ⟨rfl, hr9, hg9'⟩; have hg9 := grown_undrew hg9'; have y0 := cell_only hg9 x0 hgB; have y1 := cell_only hg9 x1 hgB; have y2 := cell_only hg9 hcp (Ne.symm hne); clear hg9'))
        all_goals (have HF := Lib.hid (show back par h f' t (turnAt ms h t p) = Z ∧ BM n h (h + n) g gp par w w9 (turnAt ms h t p) from ⟨HR.out.2.1, ⟨by rw [HT.out.1, length_putL]; exact hl, by rw [HT.out.1]; exact HT.out.2, by rw [HT.out.1]; exact hr9, HR.out.1.par.only hg9 (Ne.symm hne), only_trans HR.out.1.grn hg9⟩⟩))
        all_goals (try (clear hr9 hg9 x0 x1 hcp HFL; go_wp2))
        all_goals (exact ⟨⟨t, f', turnAt ms h t p, rfl, ht, HR.out.2.2.2, by have := HR.out.2.2.1; omega, HF.out.1, HF.out.2, y0, y1⟩, by have := HR.out.2.2.1; simp [intOf]; omega⟩)
      · have hj : t - h < n := by omega
        have HFL := flip_h (n : Int) g cap h ms hl p (t - h) c2 (by omega) (hr64 p) wr.drew hrow
        have e1 : ((t - h : Nat) : Int) = (t : Int) - (h : Int) := by omega
        rw [e1] at HFL
        have ew : IntKind.i64.wrap ((t : Int) - (h : Int)) = (t : Int) - (h : Int) := IntWalk.i64_in _ ⟨by omega, by omega⟩
        have hlt1 : (p : Int) < (t : Int) := by omega
        have hlt2 : ¬ (t : Int) < (p : Int) := by omega
        have hlt3 : ¬ t < p := by omega
        have hlt4 : p < t := by omega
        have hta := turn_b (ns := ms) c2 c1
        have hlt' := put_bd hl HR.out.1.lt c2 hj
        have HT := Lib.hid (And.intro hta hlt')
        clear hA hta hlt' e1 hr64 hrow
        go_wp2_with fail
        go_region_held3 (fun w' : World => w'.cell? ⟨Bx, 0, none⟩ = some (.int .i64 (n : Int)) ∧ w'.cell? ⟨Bx, 1, none⟩ = some (.slice (some ⟨g, 0, none⟩) h cap) ∧ w'.cell? ⟨gp, p, none⟩ = some (.int .i64 (t : Int))) (first | exact ⟨x0, x1, hcp⟩ | (refine ⟨?_, ?_, ?_⟩ <;> assumption) | go_keep) ((go_at_call 48; (with_reducible refine HFL.mono ?_); rintro e w9 ⟨rfl, hr9, hg9'⟩; have hg9 := grown_undrew hg9'; have y0 := cell_only hg9 x0 hgB; have y1 := cell_only hg9 x1 hgB; have y2 := cell_only hg9 hcp (Ne.symm hne); clear hg9'))
        all_goals (have HF := Lib.hid (show back par h f' t (turnAt ms h t p) = Z ∧ BM n h (h + n) g gp par w w9 (turnAt ms h t p) from ⟨HR.out.2.1, ⟨by rw [HT.out.1, length_putL]; exact hl, by rw [HT.out.1]; exact HT.out.2, by rw [HT.out.1]; exact hr9, HR.out.1.par.only hg9 (Ne.symm hne), only_trans HR.out.1.grn hg9⟩⟩))
        all_goals (try (clear hr9 hg9 x0 x1 hcp HFL; go_wp2))
        all_goals (exact ⟨⟨t, f', turnAt ms h t p, rfl, ht, HR.out.2.2.2, by have := HR.out.2.2.1; omega, HF.out.1, HF.out.2, y0, y1⟩, by have := HR.out.2.2.1; simp [intOf]; omega⟩)
end Go.Proofs.Ytehoaagnpidnbaa
