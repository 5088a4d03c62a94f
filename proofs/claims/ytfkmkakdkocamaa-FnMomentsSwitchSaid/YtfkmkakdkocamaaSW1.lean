/- Contracts of switchOk and SwitchOk. Conditions: the switch's numbers are naturals up to 6. -/
import Derived.Test.YtfkmkakdkocamaaSWP
import Derived.Test.YtfkmkakdkocamaaKT
import Derived.Test.YtfkmkakdkocamaaTW
namespace Go.Proofs.Ytfkmkakdkocamaa
open Go.RowKit
/-- The value of a switch. -/
def swV (a b c d : Nat) : Value := .agg #[.int .i64 (a : Int), .int .i64 (b : Int), .int .i64 (c : Int), .int .i64 (d : Int)]
theorem swB_in {n a b c d : Nat} {ns : List Nat} (h : swIn n ns a b c d = false) : swB n ns a b c d = false := by unfold swB; rw [h]; rfl
theorem swB_c {n a b c d : Nat} {ns : List Nat} (h : swIn n ns a b c d = true) : swB n ns a b c d = swC ns a b c d := by unfold swB; rw [h]; rfl
/-- Whether an image is valid and has a switch. -/
def swZ (W : Int) (rows : List Int) (a b c d : Nat) : Bool := validB W rows && swB W.toNat (rows.map Int.toNat) a b c d
theorem casts_nat (ms : List Nat) : (casts ms).map Int.toNat = ms := by simp [casts, List.map_map, Function.comp_def]
/-- The memory of a function that keeps an image and a switch. -/
structure BoxS (w W : World) (B : Nat) (x y : Value) (a b c d : Nat) : Prop where
  x0 : W.cell? ⟨B, 0, none⟩ = some x
  x1 : W.cell? ⟨B, 1, none⟩ = some y
  s0 : W.cell? ⟨B + 1, 0, none⟩ = some (.int .i64 (a : Int))
  s1 : W.cell? ⟨B + 1, 1, none⟩ = some (.int .i64 (b : Int))
  s2 : W.cell? ⟨B + 1, 2, none⟩ = some (.int .i64 (c : Int))
  s3 : W.cell? ⟨B + 1, 3, none⟩ = some (.int .i64 (d : Int))
  bel : Below w.heap.size w W
  le : w.heap.size ≤ B
theorem BoxS.new (w : World) (x y : Value) (a b c d : Nat) : BoxS w ((w.alloc (.cells #[x, y] 25)).alloc (.cells #[.int .i64 (a : Int), .int .i64 (b : Int), .int .i64 (c : Int), .int .i64 (d : Int)] 27)) w.heap.size x y a b c d :=
  ⟨by go_cell, by go_cell, by go_cell, by go_cell, by go_cell, by go_cell, by go_grown, Nat.le_refl _⟩
theorem BoxS.below {w W W' : World} {B : Nat} {x y : Value} {a b c d : Nat} (h : BoxS w W B x y a b c d) (hb : Below W.heap.size W W') : BoxS w W' B x y a b c d :=
  ⟨cellB hb h.x0, cellB hb h.x1, cellB hb h.s0, cellB hb h.s1, cellB hb h.s2, cellB hb h.s3, h.bel.trans (hb.mono h.bel.size), h.le⟩
set_option maxRecDepth 100000 in
set_option maxHeartbeats 4000000 in
theorem switchOk_c (n : Nat) (v : Value) (ns : List Nat) (hV : VImg n ns) (a b c d : Nat) (ha : a ≤ 6) (hb : b ≤ 6) (hc : c ≤ 6) (hd : d ≤ 6) (w : World) (hv : Ints w.heap.size w v (casts ns)) :
    Calls Try.prog 27 #[.agg #[.int .i64 (n : Int), v], swV a b c d] w fun e w' => e = .returned (.bool (swB n ns a b c d)) ∧ Below w.heap.size w w' := by
  obtain ⟨A, cap, rfl⟩ := hv.len
  rw [length_casts] at hv ⊢
  have h6 := hV.h6
  have w6 := hV.w6
  have hr := hV.get64
  have hB := BoxS.new w (.int .i64 (n : Int)) (.slice A ns.length cap) a b c d
  obtain ⟨W0, eW⟩ : ∃ W, W = (w.alloc (.cells #[.int .i64 (n : Int), .slice A ns.length cap] 25)).alloc (.cells #[.int .i64 (a : Int), .int .i64 (b : Int), .int .i64 (c : Int), .int .i64 (d : Int)] 27) := ⟨_, rfl⟩
  rw [← eW] at hB
  have hI := (Arg.new hv).below hB.bel
  clear hv
  have hn1 : ¬ (a : Int) < 0 := by omega
  have hn2 : ¬ (c : Int) < 0 := by omega
  unfold swV
  cases hin : swIn n ns a b c d with
  | false =>
    rw [swB_in hin]
    have hno : ¬ (a < b ∧ b < ns.length ∧ c < d ∧ d < n) := by intro h; rw [swIn_iff.2 h] at hin; cases hin
    clear hin
    by_cases c1 : b ≤ a
    · have c1i : (b : Int) ≤ (a : Int) := by omega
      go_enter Try.func27, Try.ntmps27
      go_wp2
      go_returns
      exact ⟨rfl, by go_grown⟩
    by_cases c2 : ns.length ≤ b
    · have c1i : ¬ (b : Int) ≤ (a : Int) := by omega
      have c2i : (ns.length : Int) ≤ (b : Int) := by omega
      go_enter Try.func27, Try.ntmps27
      go_wp2
      go_returns
      exact ⟨rfl, by go_grown⟩
    by_cases c3 : d ≤ c
    · have c1i : ¬ (b : Int) ≤ (a : Int) := by omega
      have c2i : ¬ (ns.length : Int) ≤ (b : Int) := by omega
      have c3i : (d : Int) ≤ (c : Int) := by omega
      go_enter Try.func27, Try.ntmps27
      go_wp2
      go_returns
      exact ⟨rfl, by go_grown⟩
    · have c4 : n ≤ d := by omega
      have c1i : ¬ (b : Int) ≤ (a : Int) := by omega
      have c2i : ¬ (ns.length : Int) ≤ (b : Int) := by omega
      have c3i : ¬ (d : Int) ≤ (c : Int) := by omega
      have c4i : (n : Int) ≤ (d : Int) := by omega
      go_enter Try.func27, Try.ntmps27
      go_wp2
      go_returns
      exact ⟨rfl, by go_grown⟩
  | true =>
    rw [swB_c hin]
    obtain ⟨c1, c2, c3, c4⟩ := swIn_iff.1 hin
    clear hin
    have c1i : ¬ (b : Int) ≤ (a : Int) := by omega
    have c2i : ¬ (ns.length : Int) ≤ (b : Int) := by omega
    have c3i : ¬ (d : Int) ≤ (c : Int) := by omega
    have c4i : ¬ (n : Int) ≤ (d : Int) := by omega
    have H := fun i j hi hj W hI => has_c (n : Int) (.slice A ns.length cap) ns i j hi hj (by have := hr i; omega) W hI
    have HX := fun W hI => H a c (by omega) (by omega) W hI
    have HY := fun W hI => H b d (by omega) (by omega) W hI
    have HZ := fun W hI => H a d (by omega) (by omega) W hI
    have HU := fun W hI => H b c (by omega) (by omega) W hI
    clear H
    unfold swC
    obtain ⟨X, eX⟩ : ∃ X, X = cell ns a c := ⟨_, rfl⟩
    obtain ⟨Y, eY⟩ : ∃ X, X = cell ns b d := ⟨_, rfl⟩
    obtain ⟨Z, eZ⟩ : ∃ X, X = cell ns a d := ⟨_, rfl⟩
    obtain ⟨U, eU⟩ : ∃ X, X = cell ns b c := ⟨_, rfl⟩
    rw [← eX, ← eY, ← eZ, ← eU]
    rw [← eX] at HX
    rw [← eY] at HY
    rw [← eZ] at HZ
    rw [← eU] at HU
    obtain ⟨x0, x1, s0, s1, s2, s3, hW, hle⟩ := hB
    clear eX eY eZ eU hle hr
    go_enter Try.func27, Try.ntmps27
    go_wp2_with fail
    rw [← eW]
    clear eW
    refine (HX _ hI.ints).mono ?_
    rintro e wc ⟨rfl, hb1⟩
    replace x0 := cellB hb1 x0
    replace x1 := cellB hb1 x1
    replace s0 := cellB hb1 s0
    replace s1 := cellB hb1 s1
    replace s2 := cellB hb1 s2
    replace s3 := cellB hb1 s3
    replace hI := hI.below hb1
    replace hW := hW.trans (Below.mono hb1 hW.size)
    go_wp2_with fail
    refine (HY _ hI.ints).mono ?_
    rintro e wc ⟨rfl, hb1⟩
    replace x0 := cellB hb1 x0
    replace x1 := cellB hb1 x1
    replace s0 := cellB hb1 s0
    replace s1 := cellB hb1 s1
    replace s2 := cellB hb1 s2
    replace s3 := cellB hb1 s3
    replace hI := hI.below hb1
    replace hW := hW.trans (Below.mono hb1 hW.size)
    cases X with
    | false =>
      cases Y with
      | false =>
        go_wp2_with fail
        refine (HZ _ hI.ints).mono ?_
        rintro e wc ⟨rfl, hb1⟩
        replace x0 := cellB hb1 x0
        replace x1 := cellB hb1 x1
        replace s0 := cellB hb1 s0
        replace s1 := cellB hb1 s1
        replace s2 := cellB hb1 s2
        replace s3 := cellB hb1 s3
        replace hI := hI.below hb1
        replace hW := hW.trans (Below.mono hb1 hW.size)
        cases Z with
        | false =>
          go_wp2
          go_returns
          exact ⟨rfl, hW⟩
        | true =>
          go_wp2_with fail
          refine (HU _ hI.ints).mono ?_
          rintro e wc ⟨rfl, hb1⟩
          replace x0 := cellB hb1 x0
          replace x1 := cellB hb1 x1
          replace s0 := cellB hb1 s0
          replace s1 := cellB hb1 s1
          replace s2 := cellB hb1 s2
          replace s3 := cellB hb1 s3
          replace hI := hI.below hb1
          replace hW := hW.trans (Below.mono hb1 hW.size)
          cases U with
          | false =>
            go_wp2
            go_returns
            exact ⟨rfl, hW⟩
          | true =>
            go_wp2
            go_returns
            exact ⟨rfl, hW⟩
      | true =>
        go_wp2
        go_returns
        exact ⟨rfl, hW⟩
    | true =>
      cases Y with
      | false =>
        go_wp2
        go_returns
        exact ⟨rfl, hW⟩
      | true =>
        go_wp2_with fail
        refine (HZ _ hI.ints).mono ?_
        rintro e wc ⟨rfl, hb1⟩
        replace x0 := cellB hb1 x0
        replace x1 := cellB hb1 x1
        replace s0 := cellB hb1 s0
        replace s1 := cellB hb1 s1
        replace s2 := cellB hb1 s2
        replace s3 := cellB hb1 s3
        replace hI := hI.below hb1
        replace hW := hW.trans (Below.mono hb1 hW.size)
        cases Z with
        | false =>
          go_wp2_with fail
          refine (HU _ hI.ints).mono ?_
          rintro e wc ⟨rfl, hb1⟩
          replace x0 := cellB hb1 x0
          replace x1 := cellB hb1 x1
          replace s0 := cellB hb1 s0
          replace s1 := cellB hb1 s1
          replace s2 := cellB hb1 s2
          replace s3 := cellB hb1 s3
          replace hI := hI.below hb1
          replace hW := hW.trans (Below.mono hb1 hW.size)
          cases U with
          | false =>
            go_wp2
            go_returns
            exact ⟨rfl, hW⟩
          | true =>
            go_wp2
            go_returns
            exact ⟨rfl, hW⟩
        | true =>
          go_wp2
          go_returns
          exact ⟨rfl, hW⟩
set_option maxRecDepth 100000 in
set_option maxHeartbeats 4000000 in
theorem l11Ok_c (n : Nat) (v : Value) (ns : List Nat) (hV : VImg n ns) (a b c d : Nat) (ha : a ≤ 6) (hb : b ≤ 6) (hc : c ≤ 6) (hd : d ≤ 6) (w : World) (hv : Ints w.heap.size w v (casts ns)) :
    Calls Try.prog 30 #[.agg #[.int .i64 (n : Int), v], swV a b c d] w fun e w' => e = .returned (.bool (swB n ns a b c d)) ∧ Below w.heap.size w w' := by
  obtain ⟨A, cap, rfl⟩ := hv.len
  rw [length_casts] at hv ⊢
  have h6 := hV.h6
  have w6 := hV.w6
  have hr := hV.get64
  have hB := BoxS.new w (.int .i64 (n : Int)) (.slice A ns.length cap) a b c d
  obtain ⟨W0, eW⟩ : ∃ W, W = (w.alloc (.cells #[.int .i64 (n : Int), .slice A ns.length cap] 25)).alloc (.cells #[.int .i64 (a : Int), .int .i64 (b : Int), .int .i64 (c : Int), .int .i64 (d : Int)] 27) := ⟨_, rfl⟩
  rw [← eW] at hB
  have hI := (Arg.new hv).below hB.bel
  clear hv
  unfold swV
  cases hin : swIn n ns a b c d with
  | false =>
    rw [swB_in hin]
    have hno : ¬ (a < b ∧ b < ns.length ∧ c < d ∧ d < n) := by intro h; rw [swIn_iff.2 h] at hin; cases hin
    obtain ⟨x0, x1, s0, s1, s2, s3, hW, hle⟩ := hB
    clear hin hle hr
    by_cases c2 : ns.length ≤ b
    · go_enter Try.func30, Try.ntmps30
      go_wp2_with (go_at_call 41; refine (l6In_no _ _ _ (by omega) _).mono ?_; rintro e w' ⟨rfl, rfl⟩)
      go_returns
      exact ⟨rfl, by go_grown⟩
    by_cases c4 : n ≤ d
    · go_enter Try.func30, Try.ntmps30
      go_wp2_with (go_at_call 41; first | (refine (l6In_no _ _ _ (by omega) _).mono ?_; rintro e w' ⟨rfl, rfl⟩) | (refine (l6In_yes _ _ _ (by omega) _).mono ?_; rintro e w' ⟨rfl, rfl⟩))
      go_returns
      exact ⟨rfl, by go_grown⟩
    by_cases c1 : b ≤ a
    · go_enter Try.func30, Try.ntmps30
      go_wp2_with (go_at_call 41; first | (refine (l6In_no _ _ _ (by omega) _).mono ?_; rintro e w' ⟨rfl, rfl⟩) | (refine (l6In_yes _ _ _ (by omega) _).mono ?_; rintro e w' ⟨rfl, rfl⟩))
      go_returns
      exact ⟨rfl, by go_grown⟩
    · have c3 : d ≤ c := by omega
      go_enter Try.func30, Try.ntmps30
      go_wp2_with (go_at_call 41; first | (refine (l6In_no _ _ _ (by omega) _).mono ?_; rintro e w' ⟨rfl, rfl⟩) | (refine (l6In_yes _ _ _ (by omega) _).mono ?_; rintro e w' ⟨rfl, rfl⟩))
      go_returns
      exact ⟨rfl, by go_grown⟩
  | true =>
    rw [swB_c hin]
    obtain ⟨c1, c2, c3, c4⟩ := swIn_iff.1 hin
    clear hin
    have H := fun i j hi hj W hI => l11Get_c (n : Int) (.slice A ns.length cap) ns i j hi hj (by have := hr i; omega) W hI
    have HX := fun W hI => H a c (by omega) (by omega) W hI
    have HY := fun W hI => H b d (by omega) (by omega) W hI
    have HZ := fun W hI => H a d (by omega) (by omega) W hI
    have HU := fun W hI => H b c (by omega) (by omega) W hI
    clear H
    unfold swC
    obtain ⟨X, eX⟩ : ∃ X, X = cell ns a c := ⟨_, rfl⟩
    obtain ⟨Y, eY⟩ : ∃ X, X = cell ns b d := ⟨_, rfl⟩
    obtain ⟨Z, eZ⟩ : ∃ X, X = cell ns a d := ⟨_, rfl⟩
    obtain ⟨U, eU⟩ : ∃ X, X = cell ns b c := ⟨_, rfl⟩
    rw [← eX, ← eY, ← eZ, ← eU]
    rw [← eX] at HX
    rw [← eY] at HY
    rw [← eZ] at HZ
    rw [← eU] at HU
    obtain ⟨x0, x1, s0, s1, s2, s3, hW, hle⟩ := hB
    clear eX eY eZ eU hle hr
    have hbt : b2i true = 1 := rfl
    have hbf : b2i false = 0 := rfl
    go_enter Try.func30, Try.ntmps30
    go_wp2_with (go_at_call 41; refine (l6In_yes _ _ _ (by omega) _).mono ?_; rintro e w' ⟨rfl, rfl⟩)
    rw [← eW]
    clear eW
    refine (HX _ hI.ints).mono ?_
    rintro e wc ⟨rfl, hb1⟩
    replace x0 := cellB hb1 x0
    replace x1 := cellB hb1 x1
    replace s0 := cellB hb1 s0
    replace s1 := cellB hb1 s1
    replace s2 := cellB hb1 s2
    replace s3 := cellB hb1 s3
    replace hI := hI.below hb1
    replace hW := hW.trans (Below.mono hb1 hW.size)
    go_wp2_with fail
    refine (HY _ hI.ints).mono ?_
    rintro e wc ⟨rfl, hb1⟩
    replace x0 := cellB hb1 x0
    replace x1 := cellB hb1 x1
    replace s0 := cellB hb1 s0
    replace s1 := cellB hb1 s1
    replace s2 := cellB hb1 s2
    replace s3 := cellB hb1 s3
    replace hI := hI.below hb1
    replace hW := hW.trans (Below.mono hb1 hW.size)
    cases X with
    | false =>
      cases Y with
      | false =>
        go_wp2_with fail
        refine (HZ _ hI.ints).mono ?_
        rintro e wc ⟨rfl, hb1⟩
        replace x0 := cellB hb1 x0
        replace x1 := cellB hb1 x1
        replace s0 := cellB hb1 s0
        replace s1 := cellB hb1 s1
        replace s2 := cellB hb1 s2
        replace s3 := cellB hb1 s3
        replace hI := hI.below hb1
        replace hW := hW.trans (Below.mono hb1 hW.size)
        cases Z with
        | false =>
          go_wp2
          go_returns
          exact ⟨rfl, hW⟩
        | true =>
          go_wp2_with fail
          refine (HU _ hI.ints).mono ?_
          rintro e wc ⟨rfl, hb1⟩
          replace x0 := cellB hb1 x0
          replace x1 := cellB hb1 x1
          replace s0 := cellB hb1 s0
          replace s1 := cellB hb1 s1
          replace s2 := cellB hb1 s2
          replace s3 := cellB hb1 s3
          replace hI := hI.below hb1
          replace hW := hW.trans (Below.mono hb1 hW.size)
          cases U with
          | false =>
            go_wp2
            go_returns
            exact ⟨rfl, hW⟩
          | true =>
            go_wp2
            go_returns
            exact ⟨rfl, hW⟩
      | true =>
        go_wp2
        go_returns
        exact ⟨rfl, hW⟩
    | true =>
      cases Y with
      | false =>
        go_wp2
        go_returns
        exact ⟨rfl, hW⟩
      | true =>
        go_wp2_with fail
        refine (HZ _ hI.ints).mono ?_
        rintro e wc ⟨rfl, hb1⟩
        replace x0 := cellB hb1 x0
        replace x1 := cellB hb1 x1
        replace s0 := cellB hb1 s0
        replace s1 := cellB hb1 s1
        replace s2 := cellB hb1 s2
        replace s3 := cellB hb1 s3
        replace hI := hI.below hb1
        replace hW := hW.trans (Below.mono hb1 hW.size)
        cases Z with
        | false =>
          go_wp2_with fail
          refine (HU _ hI.ints).mono ?_
          rintro e wc ⟨rfl, hb1⟩
          replace x0 := cellB hb1 x0
          replace x1 := cellB hb1 x1
          replace s0 := cellB hb1 s0
          replace s1 := cellB hb1 s1
          replace s2 := cellB hb1 s2
          replace s3 := cellB hb1 s3
          replace hI := hI.below hb1
          replace hW := hW.trans (Below.mono hb1 hW.size)
          cases U with
          | false =>
            go_wp2
            go_returns
            exact ⟨rfl, hW⟩
          | true =>
            go_wp2
            go_returns
            exact ⟨rfl, hW⟩
        | true =>
          go_wp2
          go_returns
          exact ⟨rfl, hW⟩
set_option maxRecDepth 100000 in
set_option maxHeartbeats 4000000 in
theorem SwitchOk_c (W : Int) (v : Value) (rows : List Int) (a b c d : Nat) (ha : a ≤ 6) (hb : b ≤ 6) (hc : c ≤ 6) (hd : d ≤ 6) (w : World) (hv : Ints w.heap.size w v rows) :
    Calls Try.prog 12 #[.agg #[.int .i64 W, v], swV a b c d] w fun e w' => e = .returned (.bool (swZ W rows a b c d)) ∧ Below w.heap.size w w' := by
  obtain ⟨A, cap, rfl⟩ := hv.len
  have hB := BoxS.new w (.int .i64 W) (.slice A rows.length cap) a b c d
  obtain ⟨W0, eW⟩ : ∃ Wx, Wx = (w.alloc (.cells #[.int .i64 W, .slice A rows.length cap] 25)).alloc (.cells #[.int .i64 (a : Int), .int .i64 (b : Int), .int .i64 (c : Int), .int .i64 (d : Int)] 27) := ⟨_, rfl⟩
  rw [← eW] at hB
  have hI := (Arg.new hv).below hB.bel
  clear hv
  unfold swV
  obtain ⟨x0, x1, s0, s1, s2, s3, hW, hle⟩ := hB
  clear hle
  cases hva : validB W rows with
  | false =>
    have hz : swZ W rows a b c d = false := by unfold swZ; rw [hva]; rfl
    rw [hz]
    have HV := ImageValid_c W (.slice A rows.length cap) rows W0 hI.ints
    rw [hva] at HV
    clear hz hva
    go_enter Try.func12, Try.ntmps12
    go_wp2_with fail
    rw [← eW]
    clear eW
    refine HV.mono ?_
    rintro e wc ⟨rfl, hb1⟩
    replace x0 := cellB hb1 x0
    replace x1 := cellB hb1 x1
    replace s0 := cellB hb1 s0
    replace s1 := cellB hb1 s1
    replace s2 := cellB hb1 s2
    replace s3 := cellB hb1 s3
    replace hI := hI.below hb1
    replace hW := hW.trans (Below.mono hb1 hW.size)
    go_wp2
    go_returns
    exact ⟨rfl, hW⟩
  | true =>
    have HV := ImageValid_c W (.slice A rows.length cap) rows W0 hI.ints
    rw [hva] at HV
    obtain ⟨n, ns, rfl, rfl, hV⟩ := validB_yes hva
    have hz : swZ (n : Int) (casts ns) a b c d = swB n ns a b c d := by unfold swZ; rw [hva, casts_nat, Int.toNat_natCast]; rfl
    rw [hz]
    clear hz hva
    have HK := fun Wx hI => switchOk_c n (.slice A (casts ns).length cap) ns hV a b c d ha hb hc hd Wx hI
    unfold swV at HK
    go_enter Try.func12, Try.ntmps12
    go_wp2_with fail
    rw [← eW]
    clear eW
    refine HV.mono ?_
    rintro e wc ⟨rfl, hb1⟩
    replace x0 := cellB hb1 x0
    replace x1 := cellB hb1 x1
    replace s0 := cellB hb1 s0
    replace s1 := cellB hb1 s1
    replace s2 := cellB hb1 s2
    replace s3 := cellB hb1 s3
    replace hI := hI.below hb1
    replace hW := hW.trans (Below.mono hb1 hW.size)
    go_wp2_with fail
    refine (HK _ hI.ints).mono ?_
    rintro e wc ⟨rfl, hb1⟩
    replace x0 := cellB hb1 x0
    replace x1 := cellB hb1 x1
    replace s0 := cellB hb1 s0
    replace s1 := cellB hb1 s1
    replace s2 := cellB hb1 s2
    replace s3 := cellB hb1 s3
    replace hI := hI.below hb1
    replace hW := hW.trans (Below.mono hb1 hW.size)
    go_wp2
    go_returns
    exact ⟨rfl, hW⟩
set_option maxRecDepth 100000 in
set_option maxHeartbeats 4000000 in
theorem sSwitchOk_c (W : Int) (v : Value) (rows : List Int) (a b c d : Nat) (ha : a ≤ 6) (hb : b ≤ 6) (hc : c ≤ 6) (hd : d ≤ 6) (w : World) (hv : Ints w.heap.size w v rows) :
    Calls Try.prog 14 #[.agg #[.int .i64 W, v], swV a b c d] w fun e w' => e = .returned (.bool (swZ W rows a b c d)) ∧ Below w.heap.size w w' := by
  obtain ⟨A, cap, rfl⟩ := hv.len
  have hB := BoxS.new w (.int .i64 W) (.slice A rows.length cap) a b c d
  obtain ⟨W0, eW⟩ : ∃ Wx, Wx = (w.alloc (.cells #[.int .i64 W, .slice A rows.length cap] 25)).alloc (.cells #[.int .i64 (a : Int), .int .i64 (b : Int), .int .i64 (c : Int), .int .i64 (d : Int)] 27) := ⟨_, rfl⟩
  rw [← eW] at hB
  have hI := (Arg.new hv).below hB.bel
  clear hv
  unfold swV
  obtain ⟨x0, x1, s0, s1, s2, s3, hW, hle⟩ := hB
  clear hle
  cases hva : validB W rows with
  | false =>
    have hz : swZ W rows a b c d = false := by unfold swZ; rw [hva]; rfl
    rw [hz]
    have HV := sImageValid_c W (.slice A rows.length cap) rows W0 hI.ints
    rw [hva] at HV
    clear hz hva
    go_enter Try.func14, Try.ntmps14
    go_wp2_with fail
    rw [← eW]
    clear eW
    refine HV.mono ?_
    rintro e wc ⟨rfl, hb1⟩
    replace x0 := cellB hb1 x0
    replace x1 := cellB hb1 x1
    replace s0 := cellB hb1 s0
    replace s1 := cellB hb1 s1
    replace s2 := cellB hb1 s2
    replace s3 := cellB hb1 s3
    replace hI := hI.below hb1
    replace hW := hW.trans (Below.mono hb1 hW.size)
    go_wp2
    go_returns
    exact ⟨rfl, hW⟩
  | true =>
    have HV := sImageValid_c W (.slice A rows.length cap) rows W0 hI.ints
    rw [hva] at HV
    obtain ⟨n, ns, rfl, rfl, hV⟩ := validB_yes hva
    have hz : swZ (n : Int) (casts ns) a b c d = swB n ns a b c d := by unfold swZ; rw [hva, casts_nat, Int.toNat_natCast]; rfl
    rw [hz]
    clear hz hva
    have HK := fun Wx hI => l11Ok_c n (.slice A (casts ns).length cap) ns hV a b c d ha hb hc hd Wx hI
    unfold swV at HK
    go_enter Try.func14, Try.ntmps14
    go_wp2_with fail
    rw [← eW]
    clear eW
    refine HV.mono ?_
    rintro e wc ⟨rfl, hb1⟩
    replace x0 := cellB hb1 x0
    replace x1 := cellB hb1 x1
    replace s0 := cellB hb1 s0
    replace s1 := cellB hb1 s1
    replace s2 := cellB hb1 s2
    replace s3 := cellB hb1 s3
    replace hI := hI.below hb1
    replace hW := hW.trans (Below.mono hb1 hW.size)
    go_wp2_with fail
    refine (HK _ hI.ints).mono ?_
    rintro e wc ⟨rfl, hb1⟩
    replace x0 := cellB hb1 x0
    replace x1 := cellB hb1 x1
    replace s0 := cellB hb1 s0
    replace s1 := cellB hb1 s1
    replace s2 := cellB hb1 s2
    replace s3 := cellB hb1 s3
    replace hI := hI.below hb1
    replace hW := hW.trans (Below.mono hb1 hW.size)
    go_wp2
    go_returns
    exact ⟨rfl, hW⟩
end Go.Proofs.Ytfkmkakdkocamaa
