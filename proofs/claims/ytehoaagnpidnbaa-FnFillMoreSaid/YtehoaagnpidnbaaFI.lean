/- Contracts of l91SumsWrong, l93Any, DrawFillMost, DrawFillImage. Conditions: the reader lies in block R; the code's slice can be read. -/
import Derived.Test.YtehoaagnpidnbaaFH
import Derived.Test.YtehoaagnpidnbaaMPS
namespace Go.Proofs.Ytehoaagnpidnbaa
open Go.RowKit
theorem Two.only {lo R : Nat} {w w' : World} {u v : Value} {rs cs : List Int} (h : Two lo w u v rs cs) (hg : w.grownBy w' (some R)) (hR : R < lo) : Two lo w' u v rs cs := ⟨h.r.only hg hR, h.c.only hg hR, h.ne⟩
theorem Two.below {lo : Nat} {w w' : World} {u v : Value} {rs cs : List Int} (h : Two lo w u v rs cs) (hb : Below w.heap.size w w') : Two lo w' u v rs cs := ⟨h.r.below hb (Nat.le_refl _), h.c.below hb (Nat.le_refl _), h.ne⟩
theorem Row.fresh (w : World) (xs : List Int) : Row (w.alloc (.cells (xs.map (Value.int .i64)).toArray 3)) w.heap.size xs := ⟨[], by rw [heap_alloc_new]; simp⟩
theorem six_ints (w : World) : Ints (w.heap.size + 1) (w.alloc (.cells #[.int .i64 0, .int .i64 0, .int .i64 0, .int .i64 0, .int .i64 0, .int .i64 0] 3)) (.slice (some ⟨w.heap.size, 0, none⟩) 6 6) [0, 0, 0, 0, 0, 0] :=
  (Row.fresh w [0, 0, 0, 0, 0, 0]).ints (by omega) 6
set_option maxRecDepth 100000 in
set_option maxHeartbeats 4000000 in
theorem l91SumsWrong_c (R K cells : Nat) (hcl : 1 ≤ cells) (hc6 : cells ≤ 1000) (hK : K ≤ 500000) (w : World) (hR : Rd w R K) :
    Calls Try.prog 64 #[.pointer (some ⟨R, 0, none⟩), .int .i64 cells] w fun e w' => TwoOut w.heap.size 0 12 12 w' e ∧ w.grownBy w' (some R) ∧ Rd w' R (K + 14) := by
  have hlt := hR.1
  go_enter Try.func64, Try.ntmps64
  go_wp2_with fail
  refine (l91Sums_c R K cells hcl hc6 (by omega) w hR).mono ?_
  rintro e wc ⟨⟨u, v, rs, cs, rfl, hT, ⟨hr1, hc1⟩, hr6, hc6'⟩, hon, hrd⟩
  obtain ⟨g1, c1, rfl, hg1, _⟩ := hT.r.form (by omega)
  obtain ⟨g2, c2, rfl, hg2, _⟩ := hT.c.form (by omega)
  have hne : g1 ≠ g2 := hT.ne g1 g2 rfl rfl
  go_wp2_with fail
  refine (pick_c R (K + 13) 30 (by omega) (by omega) (by omega) _ hrd).mono ?_
  rintro e w3 ⟨⟨x, rfl, hx⟩, hrd3, hg⟩
  replace hT := hT.only hg hlt
  replace hon := only_trans hon hg
  clear hrd hg
  by_cases e0 : x = 0
  · subst e0
    obtain ⟨gg, cc, e, _, hrow⟩ := hT.r.form (by omega)
    injection e with e1 _ e3
    injection e1 with e1
    injection e1 with e1
    subst e1 e3
    have q0 := hrow.cell (k := 0) (by omega)
    have q1 := hrow.frozen 0
    obtain ⟨y, ey⟩ : ∃ y, y = rs.getD 0 0 := ⟨_, rfl⟩
    rw [← ey] at q0
    have o1 := hT.r.set (k := 0) (by omega) (-1)
    have o2 := hT.c.far (p := ⟨g1, 0, none⟩) (by simp [Value.ownBlock]; omega) (.int .i64 (-1))
    have hon2 := only_setCell (p := ⟨g1, 0, none⟩) hon (.inr (by simpa using hg1)) (.int .i64 (-1))
    have hrd4 := hrd3.below (B := R + 1) ((Below.refl (R + 1) w3).setCell (p := ⟨g1, 0, none⟩) (by simp; omega) (.int .i64 (-1))) (by omega)
    have hlen : (rs.set 0 (-1)).length = rs.length := List.length_set
    have HM := Lib.hid (show TwoOut w.heap.size 0 12 12 (w3.setCell ⟨g1, 0, none⟩ (.int .i64 (-1))) (.returned (.tuple #[.slice (some ⟨g1, 0, none⟩) rs.length c1, .slice (some ⟨g2, 0, none⟩) cs.length c2])) ∧ w.grownBy (w3.setCell ⟨g1, 0, none⟩ (.int .i64 (-1))) (some R) ∧ Rd (w3.setCell ⟨g1, 0, none⟩ (.int .i64 (-1))) R (K + 14) from ⟨⟨_, _, _, _, rfl, ⟨o1, o2, hT.ne⟩, ⟨by omega, by omega⟩, by omega, by omega⟩, hon2, hrd4⟩)
    clear hT hrow ey o1 o2 hon2 hrd4 hlen
    go_wp2
    refine bodyPost_ret (v := .tuple #[.slice (some ⟨g1, 0, none⟩) rs.length c1, .slice (some ⟨g2, 0, none⟩) cs.length c2]) (by simp [results, Try.results64, go_sem]) rfl ?_
    exact HM.out
  · by_cases e1 : x = 1
    · subst e1
      have o1 := OwnI.empty (base := w.heap.size) w3 hon.size
      have o2 := hT.c.alloc (.cells #[] 3)
      have hg2l := (hT.c.own_lt g2 rfl).2
      have hon2 := only_alloc hon (.cells #[] 3)
      have hrd4 := hrd3.below (B := R + 1) ((Below.refl (R + 1) w3).alloc (by have := hrd3.1; omega) (.cells #[] 3)) (by omega)
      have HM := Lib.hid (show TwoOut w.heap.size 0 12 12 (w3.alloc (.cells #[] 3)) (.returned (.tuple #[.slice (some ⟨w3.heap.size, 0, none⟩) 0 0, .slice (some ⟨g2, 0, none⟩) cs.length c2])) ∧ w.grownBy (w3.alloc (.cells #[] 3)) (some R) ∧ Rd (w3.alloc (.cells #[] 3)) R (K + 14) from ⟨⟨_, _, _, _, rfl, ⟨o1, o2, fun a b ha hb => by simp [Value.ownBlock] at ha hb; omega⟩, ⟨by omega, by omega⟩, by simp, by omega⟩, hon2, hrd4⟩)
      clear hT o1 o2 hon2 hrd4
      go_wp2
      refine bodyPost_ret (v := .tuple #[.slice (some ⟨w3.heap.size, 0, none⟩) 0 0, .slice (some ⟨g2, 0, none⟩) cs.length c2]) (by simp [results, Try.results64, go_sem]) rfl ?_
      exact HM.out
    · by_cases e2 : x = 2
      · subst e2
        have hown2 := hT.c.alloc (.cells #[.int .i64 0, .int .i64 0, .int .i64 0, .int .i64 0, .int .i64 0, .int .i64 0] 3)
        have hr2 := hT.r.alloc (.cells #[.int .i64 0, .int .i64 0, .int .i64 0, .int .i64 0, .int .i64 0, .int .i64 0] 3)
        have hg1l := (hT.r.own_lt g1 rfl).2
        have hsz := hon.size
        have hon2 := only_alloc hon (.cells #[.int .i64 0, .int .i64 0, .int .i64 0, .int .i64 0, .int .i64 0, .int .i64 0] 3)
        have hrd4 := hrd3.below (B := R + 1) ((Below.refl (R + 1) w3).alloc (by have := hrd3.1; omega) (.cells #[.int .i64 0, .int .i64 0, .int .i64 0, .int .i64 0, .int .i64 0, .int .i64 0] 3)) (by omega)
        have hbs : w.heap.size ≤ (w3.alloc (.cells #[.int .i64 0, .int .i64 0, .int .i64 0, .int .i64 0, .int .i64 0, .int .i64 0] 3)).heap.size := hon2.size
        have hlen : cs.length + ([0, 0, 0, 0, 0, 0] : List Int).length ≤ 16777216 := by simp; omega
        have hone := six_ints w3
        have HH := Lib.hid (And.intro hown2 (And.intro hbs (And.intro hlen (And.intro hone (And.intro hr2 (And.intro hon2 hrd4))))))
        clear hown2 hbs hlen hone hr2 hon2 hrd4 hT hon hrd3
        go_wp2_with (at_builtin; refine wpList_app (v := .slice (some ⟨g2, 0, none⟩) cs.length c2) (ys := [0, 0, 0, 0, 0, 0]) rfl (.tmp 25) (.tmp 26) rfl rfl HH.out.1 rfl HH.out.2.2.2.1 HH.out.2.2.1 HH.out.2.1 ?_; intro v6 w6 hown6 hgr6 _ hat6)
        obtain ⟨hown2, hbs, hlen, hone, hr2, hon2, hrd4⟩ := HH.out
        have hr6' := hr2.grown hgr6 (fun b hb => by simp [Value.ownBlock] at hb ⊢; omega)
        have hR2 : R < g2 := by omega
        have hrd6 := hrd4.only (g := g2) hgr6 hR2
        have hon6 : w.grownBy w6 (some R) := ⟨hgr6.os.trans hon2.os, hgr6.tape.trans hon2.tape, hgr6.output.trans hon2.output, Nat.le_trans hon2.size hgr6.size, fun k hk hne => (hgr6.block k (Nat.lt_of_lt_of_le hk hon2.size) (by simp [Value.ownBlock]; omega)).trans (hon2.block k hk hne)⟩
        have HM := Lib.hid (show TwoOut w.heap.size 0 12 12 w6 (.returned (.tuple #[.slice (some ⟨g1, 0, none⟩) rs.length c1, v6])) ∧ w.grownBy w6 (some R) ∧ Rd w6 R (K + 14) from ⟨⟨_, _, _, _, rfl, ⟨hr6', hown6, fun a b ha hb => by
          simp only [Value.ownBlock, Option.some.injEq] at ha
          subst ha
          rcases hat6 with h | h
          · rw [h] at hb; simp [Value.ownBlock] at hb; omega
          · rw [h] at hb; simp at hb; omega⟩, ⟨by omega, by omega⟩, by omega, by simp; omega⟩, hon6, hrd6⟩)
        clear hown6 hgr6 hat6 hr6' hrd6 hon6 hown2 hbs hlen hone hr2 hon2 hrd4
        go_wp2
        refine bodyPost_ret (v := .tuple #[.slice (some ⟨g1, 0, none⟩) rs.length c1, v6]) (by simp [results, Try.results64, go_sem]) rfl ?_
        exact HM.out
      · have f0 : ((x : Int) == 0) = false := by simp; omega
        have f1 : ((x : Int) == 1) = false := by simp; omega
        have f2 : ((x : Int) == 2) = false := by simp; omega
        have HM := Lib.hid (show TwoOut w.heap.size 0 12 12 w3 (.returned (.tuple #[.slice (some ⟨g1, 0, none⟩) rs.length c1, .slice (some ⟨g2, 0, none⟩) cs.length c2])) ∧ w.grownBy w3 (some R) ∧ Rd w3 R (K + 14) from ⟨⟨_, _, _, _, rfl, hT, ⟨by omega, by omega⟩, by omega, by omega⟩, hon, hrd3⟩)
        clear hT hon hrd3
        go_wp2
        refine bodyPost_ret (v := .tuple #[.slice (some ⟨g1, 0, none⟩) rs.length c1, .slice (some ⟨g2, 0, none⟩) cs.length c2]) (by simp [results, Try.results64, go_sem]) rfl ?_
        exact HM.out
end Go.Proofs.Ytehoaagnpidnbaa
