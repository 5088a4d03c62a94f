/- Contracts of TableSums and DirSums: the sums of the lines. Conditions: a valid table of numbers 0 and 1; a direction; the table of the steps stands. -/
import Derived.Test.YtbpjceffkchmbaaDoorTB2
import Derived.Test.YtbpjceffkchmbaaDoorTB3
import Derived.Test.YtbpjceffkchmbaaDoorTB4
namespace Go.Proofs.YtbpjceffkchmbaaDoor
open Go.RowKit
theorem Dirs.only {w w' : World} {g : Nat} (h : Dirs w) (hg : w.grownBy w' (some g)) (hne : 0 ≠ g) : Dirs w' :=
  ⟨Nat.lt_of_lt_of_le h.lt hg.size, fun d hd => cell_only hg (h.x d hd) hne, fun d hd => cell_only hg (h.y d hd) hne⟩
/-- What a cell gives to the line q. -/
def lnI (d : Nat) (lo : Int) (T : List (List Int)) (q i j : Nat) : Int := if lnO d i j - lo = (q : Int) then ent T i j else 0
/-- The sums behind k rows and l numbers of the next one. -/
def lnP (d n : Nat) (lo : Int) (T : List (List Int)) (k l q : Nat) : Int := sumN k (fun i => sumN n fun j => lnI d lo T q i j) + sumN l fun j => lnI d lo T q k j
def lnS (d n L : Nat) (lo : Int) (T : List (List Int)) (k l : Nat) : List Int := (List.range L).map fun q => lnP d n lo T k l q
theorem lnS_len (d n L : Nat) (lo : Int) (T : List (List Int)) (k l : Nat) : (lnS d n L lo T k l).length = L := by simp [lnS]
theorem lnS_at {d n L : Nat} {lo : Int} {T : List (List Int)} {k l q : Nat} (hq : q < L) : (lnS d n L lo T k l).getD q 0 = lnP d n lo T k l q := by
  unfold lnS
  rw [List.getD_eq_getElem?_getD, List.getElem?_map, List.getElem?_range hq]
  rfl
theorem lnS_zero (d n L : Nat) (lo : Int) (T : List (List Int)) : lnS d n L lo T 0 0 = List.replicate L 0 := by
  apply List.ext_getElem
  · simp [lnS]
  · intro j h1 h2
    simp [lnS, lnP, sumN]
theorem lnS_next (d n L : Nat) (lo : Int) (T : List (List Int)) (k : Nat) : lnS d n L lo T k n = lnS d n L lo T (k + 1) 0 := by
  unfold lnS lnP
  refine List.map_congr_left fun q _ => ?_
  simp only [sumN]
  omega
theorem lnS_step {d n L : Nat} {lo : Int} {T : List (List Int)} {k l p : Nat} (hp : p < L) (e : lnO d k l - lo = (p : Int)) : (lnS d n L lo T k l).set p ((lnS d n L lo T k l).getD p 0 + ent T k l) = lnS d n L lo T k (l + 1) := by
  have key : ∀ q, lnP d n lo T k (l + 1) q = lnP d n lo T k l q + if q = p then ent T k l else 0 := fun q => by
    unfold lnP
    simp only [sumN]
    have : lnI d lo T q k l = if q = p then ent T k l else 0 := by
      unfold lnI
      by_cases e2 : q = p
      · subst e2; rw [if_pos e, if_pos rfl]
      · rw [if_neg (by omega), if_neg e2]
    rw [this]
    omega
  apply List.ext_getElem
  · simp [lnS]
  · intro j h1 h2
    have hj : j < L := by simpa [lnS] using h2
    rw [List.getElem_set]
    by_cases e2 : p = j
    · subst e2
      rw [if_pos rfl, lnS_at hp]
      simp only [lnS, List.getElem_map, List.getElem_range]
      rw [key, if_pos rfl]
    · rw [if_neg e2]
      simp only [lnS, List.getElem_map, List.getElem_range]
      rw [key, if_neg (fun h => e2 h.symm)]
      omega
theorem lnP_bd {d n : Nat} {lo : Int} {T : List (List Int)} {k l q h : Nat} (hb : ∀ i j, i < h → j < n → 0 ≤ ent T i j ∧ ent T i j ≤ 1) (hk : k < h) (h8 : h ≤ 8) (hl : l ≤ n) (n8 : n ≤ 8) : 0 ≤ lnP d n lo T k l q ∧ lnP d n lo T k l q ≤ 72 := by
  have hi : ∀ i j, i < h → j < n → 0 ≤ lnI d lo T q i j ∧ lnI d lo T q i j ≤ 1 := fun i j h1 h2 => by
    unfold lnI
    have := hb i j h1 h2
    split <;> omega
  have r1 : ∀ i, i < k → 0 ≤ sumN n (fun j => lnI d lo T q i j) ∧ sumN n (fun j => lnI d lo T q i j) ≤ 8 := fun i h1 => by
    have := sumN_bd (n := n) (f := fun j => lnI d lo T q i j) (c := 1) fun j hj => hi i j (by omega) hj
    omega
  have r2 := sumN_bd (n := k) (f := fun i => sumN n fun j => lnI d lo T q i j) (c := 8) r1
  have r3 := sumN_bd (n := l) (f := fun j => lnI d lo T q k j) (c := 1) fun j hj => hi k j hk (by omega)
  unfold lnP
  omega
/-- How many lines there are. -/
def lnN (d h n : Nat) : Nat := (lnHi d h n - lnLo d h n + 1).toNat
theorem lnN_eq {d h n : Nat} (hd : d < 8) (hh : h ≤ 8) (hn : n ≤ 8) : lnHi d h n - lnLo d h n + 1 = (lnN d h n : Int) ∧ lnN d h n ≤ 201 := by
  have := line_bd hd hh hn
  unfold lnN
  omega
theorem lnP_in {d h n i j : Nat} (hd : d < 8) (hh : h ≤ 8) (hn : n ≤ 8) (hi : i < h) (hj : j < n) : ∃ p : Nat, lnO d i j - lnLo d h n = (p : Int) ∧ p < lnN d h n := by
  have h1 := line_in hd hi hj
  have h2 := (lnN_eq hd hh hn).1
  exact ⟨(lnO d i j - lnLo d h n).toNat, by omega, by omega⟩
set_option maxRecDepth 100000 in
set_option maxHeartbeats 8000000 in
theorem TableSums_c (d gT h n : Nat) (hd : d < 8) (gs : List Nat) (T : List (List Int)) (h1 : 1 ≤ h) (h8 : h ≤ 8) (n1 : 1 ≤ n) (n8 : n ≤ 8) (hb : ∀ i j, i < h → j < n → 0 ≤ ent T i j ∧ ent T i j ≤ 1) (w : World) (t : Tbl w gT h n gs T) (hD : Dirs w) :
    Calls Tryd.prog 35 #[.slice (some ⟨gT, 0, none⟩) h h, .int .i64 (d : Int)] w fun e w' => ∃ g, e = .returned (.slice (some ⟨g, 0, none⟩) (lnN d h n) (lnN d h n)) ∧ w.heap.size ≤ g ∧ Row w' g (lnS d n (lnN d h n) (lnLo d h n) T h 0) ∧ Below w.heap.size w w' := by
  have hc0 := t.cell (i := 0) (by omega)
  obtain ⟨g0, eg0⟩ : ∃ g, g = gs.getD 0 0 := ⟨_, rfl⟩
  rw [← eg0] at hc0
  unfold rowV at hc0
  have HV := TableValid_c gT h n gs T h1 h8 n1 n8 w t
  have htv : tvB h n T = true := tvB_yes fun i j hi hj => by
    have := hb i j hi hj
    unfold okE
    rw [decide_eq_true (by omega), decide_eq_true (by omega)]
    rfl
  rw [htv] at HV
  have HK := isDir_c (d : Int) w
  rw [dirB_of hd] at HK
  have HL := linesOf_c d h n hd h1 h8 n1 n8 w hD
  have hbd := line_bd hd h8 n8
  obtain ⟨hLe, hLb⟩ := lnN_eq hd h8 n8
  have hin := fun i j hi hj => lnP_in (d := d) (i := i) (j := j) hd h8 n8 hi hj
  obtain ⟨lo, elo⟩ : ∃ L : Int, L = lnLo d h n := ⟨_, rfl⟩
  obtain ⟨hi, ehi⟩ : ∃ M : Int, M = lnHi d h n := ⟨_, rfl⟩
  obtain ⟨L, eL⟩ : ∃ M, M = lnN d h n := ⟨_, rfl⟩
  rw [← elo, ← ehi] at HL hbd hLe
  rw [← eL] at hLe hLb
  rw [← elo, ← eL]
  simp only [← elo, ← eL] at hin
  have hmk := mk_ints L (by omega)
  have HT := Lib.hid (And.intro t (And.intro hD (And.intro hb hin)))
  clear htv eg0 elo ehi eL t hD hb hin
  go_enter Tryd.func35, Tryd.ntmps35
  go_wp2_with fail
  refine HV.mono ?_
  rintro e w' ⟨rfl, rfl⟩
  clear HV
  go_wp2_with fail
  refine HK.mono ?_
  rintro e w' ⟨rfl, rfl⟩
  clear HK
  go_wp2_with fail
  refine HL.mono ?_
  rintro e w2 ⟨rfl, hb2⟩
  have hmk2 := hmk w2
  obtain ⟨go, ego⟩ : ∃ g, g = w2.heap.size := ⟨_, rfl⟩
  have hR3 := Row.made w2 L
  rw [← lnS_zero d n L lo T, ← ego] at hR3
  have hb3 : Below w2.heap.size w2 (w2.alloc (.cells (Array.replicate L (.int .i64 0)) 3)) := by go_grown
  have ht3 := (HT.out.1.below hb2).below hb3
  have hD3 := (HT.out.2.1.below hb2).below hb3
  have hW3 := hb2.trans (hb3.mono hb2.size)
  have hgw : w.heap.size ≤ go := by rw [ego]; exact hb2.size
  have hgT : gT ≠ go := by have := HT.out.1.lt; omega
  have hgs : ∀ i, i < h → gs.getD i 0 ≠ go := fun i hi => by have := (HT.out.1.row i hi).lt; omega
  have hgd : 0 ≠ go := by have := HT.out.2.1.lt; omega
  have hc2 := cellB hb2 hc0
  clear HL
  go_wp2_with fail
  rw [← ego]
  obtain ⟨W3, eW3⟩ : ∃ W, W = w2.alloc (.cells (Array.replicate L (.int .i64 0)) 3) := ⟨_, rfl⟩
  rw [← eW3] at hR3 ht3 hD3 hW3 ⊢
  have HX := Lib.hid (And.intro ht3 (And.intro hD3 hW3))
  clear hmk hmk2 eW3 ego ht3 hD3 hW3 hb2 hb3 hc2 hc0
  go_loopw [38] (fun i wr => ∃ k : Nat, k ≤ h ∧ i = .int .i64 (k : Int) ∧ Row wr go (lnS d n L lo T k 0) ∧ W3.grownBy wr (some go)) (fun i _ => h - (intOf i).toNat)
  case atStart => exact ⟨0, Nat.zero_le _, rfl, hR3, World.grownBy.refl _ _⟩
  case round =>
    clear hR3
    obtain ⟨k, hk, rfl, hR, hg⟩ := hrel
    by_cases hkl : k < h
    · have hki : (k : Int) < (h : Int) := by omega
      have tk := HX.out.1.only hg hgT hgs
      have hck := tk.cell hkl
      obtain ⟨g, eg⟩ : ∃ g, g = gs.getD k 0 := ⟨_, rfl⟩
      rw [← eg] at hck
      unfold rowV at hck
      have HR := Lib.hid (And.intro hR (And.intro hg eg))
      clear tk eg hR hg
      go_wp2_with fail
      go_loopw [45] (fun i wr => ∃ l : Nat, l ≤ n ∧ i = .int .i64 (l : Int) ∧ Row wr go (lnS d n L lo T k l) ∧ W3.grownBy wr (some go)) (fun i _ => n - (intOf i).toNat)
      case atStart => exact ⟨0, Nat.zero_le _, rfl, HR.out.1, HR.out.2.1⟩
      case round =>
        obtain ⟨l, hl, rfl, hR, hg⟩ := hrel
        by_cases hll : l < n
        · have hli : (l : Int) < (n : Int) := by omega
          have tk := HX.out.1.only hg hgT hgs
          have hDk := HX.out.2.1.only hg hgd
          have hcl := (tk.row k hkl).cell (k := l) (by rw [tk.wid k hkl]; exact hll)
          rw [← HR.out.2.2] at hcl
          have hz := HT.out.2.2.1 k l hkl hll
          obtain ⟨p, hp1, hp2⟩ := HT.out.2.2.2 k l hkl hll
          have hst := lnS_step (n := n) (T := T) hp2 hp1
          have hLI := lineOf_c d k l hd (by omega) (by omega) wr hDk
          have hpb := lnP_bd (d := d) (lo := lo) (q := p) HT.out.2.2.1 hkl h8 hl n8
          rw [← lnS_at (L := L) hp2] at hpb
          have hgr : g ≠ go := by rw [HR.out.2.2]; exact hgs k hkl
          have hent : ent T k l = (T.getD k []).getD l 0 := rfl
          obtain ⟨z, ez⟩ : ∃ z, z = (T.getD k []).getD l 0 := ⟨_, rfl⟩
          rw [← ez] at hcl hent
          rw [hent] at hz hst
          obtain ⟨x, ex⟩ : ∃ x, x = lnO d k l := ⟨_, rfl⟩
          rw [← ex] at hp1 hLI
          have HS := Lib.hid (And.intro hst (And.intro hR hg))
          clear tk hDk ez ex hst hR hg hent
          go_wp2_with fail
          refine hLI.mono ?_
          rintro e w5 ⟨rfl, hb5⟩
          have hR5 := HS.out.2.1.below hb5 HS.out.2.1.lt
          have hcp := hR5.cell (k := p) (by rw [lnS_len]; exact hp2)
          have hfp := hR5.frozen p
          obtain ⟨y, ey⟩ : ∃ y, y = (lnS d n L lo T k l).getD p 0 := ⟨_, rfl⟩
          have hset := hR5.set (k := p) (by rw [lnS_len]; exact hp2) (y + z)
          have hst := HS.out.1
          rw [← ey] at hcp hpb hst
          rw [hst] at hset
          have hgg := only_setCell (only_trans HS.out.2.2 (only_of_below hb5 (some go))) (p := ⟨go, p, none⟩) (.inl rfl) (.int .i64 (y + z))
          have HN := Lib.hid (And.intro hset hgg)
          clear hst hset hgg hR5 hLI hb5 ey
          go_wp2
          go_roundw
          case rel => exact ⟨l + 1, by omega, by go_num, HN.out.1, HN.out.2⟩
          case measure => simp [intOf]; omega
        · have hli : ¬ ((l : Int) < (n : Int)) := by omega
          have hln : l = n := by omega
          rw [hln, lnS_next] at hR
          have HN := Lib.hid (And.intro hR hg)
          clear hR hg hln
          go_wp2
          exact ⟨⟨k + 1, by omega, by go_num, HN.out⟩, by simp [intOf]; omega⟩
    · have hki : ¬ ((k : Int) < (h : Int)) := by omega
      have hkh : k = h := by omega
      rw [hkh] at hR
      have HN := Lib.hid (And.intro hR hg)
      clear hR hg hkh
      go_wp2
      go_returns
      exact ⟨go, rfl, hgw, HN.out.1, HX.out.2.2.grown HN.out.2 HX.out.2.2.size (fun k e => by cases e; exact hgw)⟩
theorem bitF_bd (ns : List Nat) (h n : Nat) : ∀ i j, i < h → j < n → 0 ≤ ent (tabF (bitF ns) h n) i j ∧ ent (tabF (bitF ns) h n) i j ≤ 1 := fun i j hi hj => by
  rw [ent_tabF hi hj]
  exact b2i_bd _
/-- The line sums of an image. -/
def dirO (d n : Nat) (ns : List Nat) : List Int := lnS d n (lnN d ns.length n) (lnLo d ns.length n) (tabF (bitF ns) ns.length n) ns.length 0
set_option maxRecDepth 100000 in
set_option maxHeartbeats 4000000 in
theorem DirSums_c (d n : Nat) (hd : d < 8) (v : Value) (ns : List Nat) (hV : VImg n ns) (w : World) (hv : Ints w.heap.size w v (casts ns)) (hD : Dirs w) :
    Calls Tryd.prog 10 #[.agg #[.int .i64 (n : Int), v], .int .i64 (d : Int)] w fun e w' => ∃ g, e = .returned (.slice (some ⟨g, 0, none⟩) (lnN d ns.length n) (lnN d ns.length n)) ∧ w.heap.size ≤ g ∧ Row w' g (dirO d n ns) ∧ Below w.heap.size w w' := by
  obtain ⟨A, cap, rfl⟩ := hv.len
  rw [length_casts] at hv ⊢
  have h6 := hV.h6
  have w6 := hV.w6
  have h1 := hV.h1
  have w1 := hV.w1
  have hI := hv
  have hW := Below.refl w.heap.size w
  clear hv
  go_enter Tryd.func10, Tryd.ntmps10
  obtain ⟨W0, e_W0⟩ : ∃ W0, W0 = World.alloc w (.cells #[.int .i64 (n : Int), .slice A ns.length cap] 25) := ⟨_, rfl⟩
  have hx_W0 := Box2.new w (.int .i64 (n : Int)) (.slice A ns.length cap) 25
  have hb_W0 : Below (World.heap w).size w W0 := by rw [e_W0]; go_grown
  have HS_W0 := Lib.hid (show (World.heap W0).size = (World.heap w).size + 1 by rw [e_W0]; simp)
  replace hI := (hI.below hb_W0).more (Below.size hb_W0)
  replace hW := hW.trans (Below.mono hb_W0 hW.size)
  have HE_W0 := Lib.hid e_W0
  clear e_W0
  go_wp2_with fail
  rw [← HE_W0.out] at hx_W0 ⊢
  clear HE_W0
  obtain ⟨hl_x, x0, x1⟩ := hx_W0
  obtain ⟨Bx, e_Bx⟩ : ∃ Bx, Bx = (World.heap w).size := ⟨_, rfl⟩
  rw [← e_Bx] at hl_x x0 x1 hb_W0 HS_W0  ⊢
  have hz_Bx := hb_W0.size
  clear e_Bx hb_W0
  refine (TableOf_c n _ ns hV W0 hI).mono ?_
  rintro e wc ⟨gT, gs, rfl, hT, hgT, hgs, hb⟩
  have hD2 := (hD.below hW).below hb
  replace hI := (hI.below hb).more (Below.size hb)
  replace hW := hW.trans (Below.mono hb hW.size)
  replace x0 := cellB hb x0
  replace x1 := cellB hb x1
  clear hgs
  go_wp2_with fail
  refine (TableSums_c d gT ns.length n hd gs _ h1 (by omega) w1 (by omega) (bitF_bd ns _ _) wc hT hD2).mono ?_
  rintro e wd ⟨g, rfl, hg, hR, hb⟩
  have hgw : w.heap.size ≤ g := Nat.le_trans hW.size hg
  replace hI := (hI.below hb).more (Below.size hb)
  replace hW := hW.trans (Below.mono hb hW.size)
  replace x0 := cellB hb x0
  replace x1 := cellB hb x1
  have HR := Lib.hid hR
  clear hR hT hD2
  go_wp2
  go_returns
  exact ⟨g, rfl, hgw, HR.out, hW⟩
end Go.Proofs.YtbpjceffkchmbaaDoor
