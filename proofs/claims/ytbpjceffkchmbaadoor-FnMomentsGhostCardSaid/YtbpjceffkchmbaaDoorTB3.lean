/- Contracts of linesOf and DirLines: the least and the greatest line of an image. Conditions: a direction; at most 8 rows and columns; the table of the steps stands. -/
import Derived.Test.YtbpjceffkchmbaaDoorML1
import Derived.Test.YtbpjceffkchmbaaDoorTBP
namespace Go.Proofs.YtbpjceffkchmbaaDoor
open Go.RowKit
/-- The least and the greatest line. -/
def lnLo (d h n : Nat) : Int := min (min (min 0 (lnO d (h - 1) 0)) (lnO d 0 (n - 1))) (lnO d (h - 1) (n - 1))
def lnHi (d h n : Nat) : Int := max (max (max 0 (lnO d (h - 1) 0)) (lnO d 0 (n - 1))) (lnO d (h - 1) (n - 1))
theorem line_in {d h n i j : Nat} (hd : d < 8) (hi : i < h) (hj : j < n) : lnLo d h n ≤ lnO d i j ∧ lnO d i j ≤ lnHi d h n := by
  have h1 : ((h - 1 : Nat) : Int) = (h : Int) - 1 := by omega
  have h2 : ((n - 1 : Nat) : Int) = (n : Int) - 1 := by omega
  unfold lnLo lnHi lnO
  rw [h1, h2]
  rcases nat8 hd with rfl | rfl | rfl | rfl | rfl | rfl | rfl | rfl
  all_goals (simp [dXs, dYs]; omega)
theorem line_bd {d h n : Nat} (hd : d < 8) (hh : h ≤ 8) (hn : n ≤ 8) : -100 ≤ lnLo d h n ∧ lnLo d h n ≤ 0 ∧ 0 ≤ lnHi d h n ∧ lnHi d h n ≤ 100 := by
  unfold lnLo lnHi lnO
  rcases nat8 hd with rfl | rfl | rfl | rfl | rfl | rfl | rfl | rfl
  all_goals (simp [dXs, dYs]; omega)
theorem mn4 (T : Array TypeId) (t : TypeId) (x a b c : Int) (w : World) : (Builtin.min_ T t #[.int .i64 x, .int .i64 a, .int .i64 b, .int .i64 c]).run Tryd.prog w = .ok (.int .i64 (min (min (min x a) b) c)) w := by
  have e : ∀ x y : Int, (if y < x then y else x) = min x y := fun x y => by split <;> omega
  simp [Builtin.min_, Builtin.min2, go_sem, e]
theorem mx4 (T : Array TypeId) (t : TypeId) (x a b c : Int) (w : World) : (Builtin.max_ T t #[.int .i64 x, .int .i64 a, .int .i64 b, .int .i64 c]).run Tryd.prog w = .ok (.int .i64 (max (max (max x a) b) c)) w := by
  have e : ∀ x y : Int, (if x < y then y else x) = max x y := fun x y => by split <;> omega
  simp [Builtin.max_, Builtin.max2, go_sem, e]
set_option maxHeartbeats 2000000 in
theorem linesOf_c (d h n : Nat) (hd : d < 8) (h1 : 1 ≤ h) (hh : h ≤ 8) (n1 : 1 ≤ n) (hn : n ≤ 8) (w : World) (hD : Dirs w) :
    Calls Tryd.prog 33 #[.int .i64 (d : Int), .int .i64 (h : Int), .int .i64 (n : Int)] w fun e w' => e = .returned (.tuple #[.int .i64 (lnLo d h n), .int .i64 (lnHi d h n)]) ∧ Below w.heap.size w w' := by
  have e1 : ((h - 1 : Nat) : Int) = (h : Int) - 1 := by omega
  have e2 : ((n - 1 : Nat) : Int) = (n : Int) - 1 := by omega
  have H1 := fun W hW => lineOf_c d (h - 1) 0 hd (by omega) (by omega) W hW
  have H2 := fun W hW => lineOf_c d 0 (n - 1) hd (by omega) (by omega) W hW
  have H3 := fun W hW => lineOf_c d (h - 1) (n - 1) hd (by omega) (by omega) W hW
  simp only [e1, e2, show ((0 : Nat) : Int) = 0 from rfl] at H1 H2 H3
  unfold lnLo lnHi
  obtain ⟨a, ea⟩ : ∃ a, a = lnO d (h - 1) 0 := ⟨_, rfl⟩
  obtain ⟨b, eb⟩ : ∃ a, a = lnO d 0 (n - 1) := ⟨_, rfl⟩
  obtain ⟨c, ec⟩ : ∃ a, a = lnO d (h - 1) (n - 1) := ⟨_, rfl⟩
  rw [← ea, ← eb, ← ec]
  rw [← ea] at H1
  rw [← eb] at H2
  rw [← ec] at H3
  have hmn := fun w => mn4 #[3, 3, 3, 3] 3 0 a b c w
  have hmx := fun w => mx4 #[3, 3, 3, 3] 3 0 a b c w
  obtain ⟨L, eL⟩ : ∃ L : Int, L = min (min (min 0 a) b) c := ⟨_, rfl⟩
  obtain ⟨M, eM⟩ : ∃ M : Int, M = max (max (max 0 a) b) c := ⟨_, rfl⟩
  rw [← eL, ← eM]
  simp only [← eL] at hmn
  simp only [← eM] at hmx
  clear eL eM
  have hW := Below.refl w.heap.size w
  clear ea eb ec e1 e2
  go_enter Tryd.func33, Tryd.ntmps33
  go_wp2_with fail
  refine (H1 _ hD).mono ?_
  rintro e w1 ⟨rfl, hb1⟩
  go_wp2_with fail
  refine (H2 _ (hD.below hb1)).mono ?_
  rintro e w2 ⟨rfl, hb2⟩
  go_wp2_with fail
  refine (H3 _ ((hD.below hb1).below hb2)).mono ?_
  rintro e w3 ⟨rfl, hb3⟩
  have HB := Lib.hid ((hb1.trans (hb2.mono hb1.size)).trans (hb3.mono (Nat.le_trans hb1.size hb2.size)))
  clear hb1 hb2 hb3 H1 H2 H3
  go_wp2
  refine bodyPost_ret (v := .tuple #[.int .i64 L, .int .i64 M]) (by simp [results, Tryd.results33, go_sem]) rfl ?_
  exact ⟨rfl, HB.out⟩
set_option maxHeartbeats 2000000 in
theorem DirLines_c (d h n : Nat) (hd : d < 8) (h1 : 1 ≤ h) (hh : h ≤ 6) (n1 : 1 ≤ n) (hn : n ≤ 6) (w : World) (hD : Dirs w) :
    Calls Tryd.prog 9 #[.int .i64 (d : Int), .int .i64 (h : Int), .int .i64 (n : Int)] w fun e w' => e = .returned (.tuple #[.int .i64 (lnLo d h n), .int .i64 (lnHi d h n), .bool true]) ∧ Below w.heap.size w w' := by
  have HK := isDir_c (d : Int) w
  rw [dirB_of hd] at HK
  have HL := linesOf_c d h n hd h1 (by omega) n1 (by omega) w hD
  obtain ⟨L, eL⟩ : ∃ L : Int, L = lnLo d h n := ⟨_, rfl⟩
  obtain ⟨M, eM⟩ : ∃ M : Int, M = lnHi d h n := ⟨_, rfl⟩
  rw [← eL, ← eM] at HL ⊢
  clear eL eM
  go_enter Tryd.func9, Tryd.ntmps9
  go_wp2_with fail
  refine HK.mono ?_
  rintro e w' ⟨rfl, rfl⟩
  clear HK
  go_wp2_with fail
  refine HL.mono ?_
  rintro e w' ⟨rfl, hb⟩
  have HB := Lib.hid hb
  clear HL hb
  go_wp2
  refine bodyPost_ret (v := .tuple #[.int .i64 L, .int .i64 M, .bool true]) (by simp [results, Tryd.results9, go_sem]) rfl ?_
  exact ⟨rfl, HB.out⟩
end Go.Proofs.YtbpjceffkchmbaaDoor
