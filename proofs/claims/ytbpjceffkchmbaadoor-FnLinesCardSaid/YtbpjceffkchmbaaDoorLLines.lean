/- The law that moments of lines are those of line sums: it returns true at whatever code, where the table of the steps stands. Conditions: the code's slice can be read; the table. -/
import Derived.Test.YtbpjceffkchmbaaDoorTB6
import Derived.Test.YtbpjceffkchmbaaDoorML3
import Derived.Test.YtbpjceffkchmbaaDoorMLD
namespace Go.Proofs.YtbpjceffkchmbaaDoor
open Go.RowKit
set_option maxRecDepth 100000 in
set_option maxHeartbeats 4000000 in
theorem lines_walk (A : Option Addr) (len cap : Nat) (hlc : len ≤ cap) (w : World) (hc : Code8 w w.heap.size A len) (hD : Dirs w) :
    Calls Tryd.prog 3 #[.slice A len cap] w fun e w' => e = .returned (.bool true) ∧ Below w.heap.size w w' := by
  by_cases hbig : 1048576 < len
  · go_enter Tryd.func3, Tryd.ntmps3
    go_wp2
    go_returns
    exact ⟨rfl, Below.refl _ _⟩
  · go_enter Tryd.func3, Tryd.ntmps3
    go_wp2_with fail
    refine (DrawMomentLines_c A len cap hlc w hc).mono ?_
    rintro e wc ⟨W, v, rows, d, rfl, hI, hl6, hd, hW⟩
    obtain ⟨B, cp, rfl⟩ := hI.len
    obtain ⟨W1, e_W1⟩ : ∃ W0, W0 = World.alloc wc (.cells #[.int .i64 W, .slice B rows.length cp] 25) := ⟨_, rfl⟩
    have hx_W1 := Box2.new wc (.int .i64 W) (.slice B rows.length cp) 25
    have hb_W1 : Below (World.heap wc).size wc W1 := by rw [e_W1]; go_grown
    have HS_W1 := Lib.hid (show (World.heap W1).size = (World.heap wc).size + 1 by rw [e_W1]; simp)
    replace hW := hW.trans (Below.mono hb_W1 hW.size)
    replace hI := (hI.below hb_W1).more (Below.size hb_W1)
    have HE_W1 := Lib.hid e_W1
    clear e_W1
    go_wp2_with fail
    rw [← HE_W1.out] at hx_W1 ⊢
    clear HE_W1
    obtain ⟨hl_x, x0, x1⟩ := hx_W1
    obtain ⟨Bx, e_Bx⟩ : ∃ Bx, Bx = (World.heap wc).size := ⟨_, rfl⟩
    rw [← e_Bx] at hl_x x0 x1 hb_W1 HS_W1  ⊢
    have hz_Bx := hb_W1.size
    clear e_Bx hb_W1
    refine (MomentLines_c W _ rows d W1 hI (hD.below hW)).mono ?_
    rintro e wc ⟨rfl, hb⟩
    replace hW := hW.trans (Below.mono hb hW.size)
    replace hI := (hI.below hb).more (Below.size hb)
    replace x0 := cellB hb x0
    replace x1 := cellB hb x1
    go_wp2_with fail
    refine (sMomentLines_c W _ rows d _ hI).mono ?_
    rintro e wc ⟨rfl, hb⟩
    replace hW := hW.trans (Below.mono hb hW.size)
    replace hI := (hI.below hb).more (Below.size hb)
    replace x0 := cellB hb x0
    replace x1 := cellB hb x1
    cases hval : (validB W rows && dirB d) with
    | false =>
      rw [moL_no hval]
      clear hval
      go_wp2
      go_returns
      exact ⟨rfl, hW⟩
    | true =>
      rw [Bool.and_eq_true] at hval
      obtain ⟨n, ns, rfl, rfl, hV⟩ := validB_yes hval.1
      obtain ⟨k, rfl, hk⟩ := dirB_yes hval.2
      rw [moL_yes hV hk]
      rw [length_casts] at x1 hI ⊢
      have h6 := hV.h6
      have w6 := hV.w6
      have h1 := hV.h1
      have w1 := hV.w1
      have hm := lines_mom hk hV
      have h0 : 0 ≤ mom n ns (sqL k) := by
        have r : ∀ i, i < ns.length → 0 ≤ (sumN n fun j => sqL k i j * b2i (cell ns i j)) ∧ (sumN n fun j => sqL k i j * b2i (cell ns i j)) ≤ 1350 := fun i hi => by
          have := sumN_bd (n := n) (f := fun j => sqL k i j * b2i (cell ns i j)) (c := 225) fun j hj => by
            have h1 := sqL_bd (d := k) (i := i) (j := j) hk (by omega) (by omega)
            cases cell ns i j <;> simp [b2i] <;> omega
          omega
        exact (sumN_bd (n := ns.length) (f := fun i => sumN n fun j => sqL k i j * b2i (cell ns i j)) (c := 1350) r).1
      have hTB := fun q hq => lnT_bd (d := k) (q := q) hk hV hq
      have hTS := fun m hm => lnT_sum (d := k) hk hV m hm
      have hLN := (lnN_eq (d := k) (h := ns.length) (n := n) hk (by omega) (by omega)).2
      have hDL := fun W hD => DirLines_c k ns.length n hk h1 h6 w1 w6 W hD
      have hDS := fun W hI hD => DirSums_c k n hk (.slice B ns.length cp) ns hV W hI hD
      have hTq : ∀ q, lnT k n ns q = (dirO k n ns).getD q 0 * (lnLo k ns.length n + q) * (lnLo k ns.length n + q) := fun q => rfl
      have hdl := dirO_len k n ns
      obtain ⟨M, eM⟩ : ∃ M, M = mom n ns (sqL k) := ⟨_, rfl⟩
      obtain ⟨L, eL⟩ : ∃ L, L = lnN k ns.length n := ⟨_, rfl⟩
      obtain ⟨lo, elo⟩ : ∃ L, L = lnLo k ns.length n := ⟨_, rfl⟩
      rw [← eM] at hm h0 ⊢
      rw [← eL] at hm hLN hdl
      simp only [← elo] at hTB hDL hTq
      simp only [← eL] at hTB hTS hDS
      have HX := Lib.hid (And.intro hm (And.intro hTB (And.intro hTS (And.intro hTq hdl))))
      clear hval eM eL elo hm hTB hTS hTq hdl
      go_wp2_with fail
      refine (hDL _ (hD.below hW)).mono ?_
      rintro e wc ⟨rfl, hb⟩
      replace hW := hW.trans (Below.mono hb hW.size)
      replace hI := (hI.below hb).more (Below.size hb)
      replace x0 := cellB hb x0
      replace x1 := cellB hb x1
      clear hDL
      go_wp2_with fail
      refine (hDS _ hI (hD.below hW)).mono ?_
      rintro e wc ⟨g, rfl, hg, hR, hb⟩
      replace hW := hW.trans (Below.mono hb hW.size)
      replace hI := (hI.below hb).more (Below.size hb)
      replace x0 := cellB hb x0
      replace x1 := cellB hb x1
      have HR := Lib.hid (And.intro hR hW)
      clear hDS hg hR hW hI x0 x1
      go_wp2_with fail
      go_loop [11, 12] (fun s i => ∃ q : Nat, q ≤ L ∧ s = .int .i64 (sumN q (lnT k n ns)) ∧ i = .int .i64 (q : Int)) (fun _ i => L - (intOf i).toNat)
      case atStart => exact ⟨0, Nat.zero_le _, rfl, rfl⟩
      case round =>
        obtain ⟨q, hq, rfl, rfl⟩ := hrel
        have hsb := HX.out.2.2.1 q hq
        by_cases hql : q < L
        · have hqi : (q : Int) < (L : Int) := by omega
          have hcq := HR.out.1.cell (k := q) (by rw [HX.out.2.2.2.2]; exact hql)
          obtain ⟨b1, b2, b3, b4⟩ := HX.out.2.1 q hql
          have hTq := HX.out.2.2.2.1 q
          have hst : sumN (q + 1) (lnT k n ns) = sumN q (lnT k n ns) + lnT k n ns q := rfl
          obtain ⟨S, eS⟩ : ∃ S, S = sumN q (lnT k n ns) := ⟨_, rfl⟩
          obtain ⟨y, ey⟩ : ∃ y, y = (dirO k n ns).getD q 0 := ⟨_, rfl⟩
          obtain ⟨t, et⟩ : ∃ t, t = lnT k n ns q := ⟨_, rfl⟩
          rw [← eS] at hst hsb ⊢
          rw [← ey] at hcq b1 b3 hTq
          rw [← et] at b4 hTq hst
          obtain ⟨u, eu⟩ : ∃ u, u = lo + (q : Int) := ⟨_, rfl⟩
          rw [← eu] at b2 b3 hTq
          obtain ⟨v, ev⟩ : ∃ v, v = y * u := ⟨_, rfl⟩
          rw [← ev] at b3 hTq
          have eu' := eu.symm
          have ev' := ev.symm
          have et' := hTq.symm
          have HST := Lib.hid hst
          clear hst eS ey et eu ev hTq
          go_wp2
          go_round
          case rel => exact ⟨q + 1, by omega, by rw [HST.out], by go_num⟩
          case measure => simp [intOf]; omega
        · have hqi : ¬ ((q : Int) < (L : Int)) := by omega
          have hqL : q = L := by omega
          rw [hqL, HX.out.1]
          clear hsb hqL
          go_wp2
          go_returns
          exact ⟨rfl, HR.out.2⟩
end Go.Proofs.YtbpjceffkchmbaaDoor
