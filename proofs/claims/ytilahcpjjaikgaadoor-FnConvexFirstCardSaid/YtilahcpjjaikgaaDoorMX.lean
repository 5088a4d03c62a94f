/- Contracts of the library's Grow of nothing and Concat of two lists, by their own text. Conditions: the slices read as lists of integers, each of one to six. | Contracts of convex and ImageConvex: no row and no column has two runs. Conditions: the slice reads as a list of integers; the library's table stands in its block. | Contracts of l31Runs, l31Row, l31Col, RowRuns, ColRuns and ImageConvex of the reference. Conditions: the slice reads as a list of integers. | Contracts of l31Row, l31Col, RowRuns, ColRuns and ImageConvex of the reference. Conditions: the slice reads as a list of integers. -/
import Derived.Test.YtilahcpjjaikgaaDoorFB
import Derived.Lib.AppendZerosOnto
import Derived.Lib.Walk
import Derived.Test.YtilahcpjjaikgaaDoorKU
import Derived.Test.YtilahcpjjaikgaaDoorTR
section
namespace Go.Proofs.YtilahcpjjaikgaaDoor
open Go.RowKit
set_option maxHeartbeats 2000000 in
set_option maxRecDepth 100000 in
theorem Grow_c (n : Nat) (h1 : 1 ≤ n) (hn : n ≤ 1000) (w : World) :
    Calls Tryd.prog 75 #[.slice none 0 0, .int .i64 (n : Int)] w fun e w' => ∃ g c, e = .returned (.slice (some ⟨g, 0, none⟩) 0 c) ∧ OwnI w' w.heap.size (.slice (some ⟨g, 0, none⟩) 0 c) [] ∧ Below w.heap.size w w' := by
  obtain ⟨i0, hi, hz0, hz1, hz2⟩ := info_parts int_info
  have hold : (Builtin.firstCells i0.size 0 (.slice none 0 0)).run Tryd.prog w.drew = .ok ([] : List Value).toArray w.drew := run_firstCells_none w.drew i0.size 0 0 0
  have hrz : ∀ ty, (Builtin.append_ #[23, 3] ty #[.slice none 0 0, .int .i64 (n : Int)]).run Tryd.prog w = .ok (.slice (some ⟨w.heap.size, 0, none⟩) n (grownCap w n 0 3)) (w.drew.alloc (.cells (#[] ++ Builtin.zeroCells (Value.int .i64 0).cells n ++ Builtin.zeroCells (Value.int .i64 0).cells (grownCap w n 0 3 - n)) 3)) := fun ty => by
    have h := Lib.run_append_grow_zeros w 23 3 ty 3 i0 (.int .i64 0) .i64 .i64 Tryd.underlying23 Tryd.underlying3 hi hz0 none 0 0 [] hold n (by omega) (by omega) (by omega) (by omega) (by rw [hz2]; omega)
      (by rw [Nat.zero_add]; exact growslice_fits (by omega) (by rw [hz2]; omega))
    simpa only [Nat.zero_add] using h
  have hGn : n ≤ grownCap w n 0 3 := grownCap_ge w _ _ _
  have hGm := grownCap_le_maxLen w n 0 3 (by unfold maxLen; omega)
  obtain ⟨G, hG⟩ : ∃ G, G = grownCap w n 0 3 := ⟨_, rfl⟩
  rw [← hG] at hGn hGm
  simp only [← hG] at hrz
  have hG63 : G ≤ 9223372036854775807 := by unfold maxLen at hGm; omega
  have HG := Lib.hid hGm
  obtain ⟨cs, ecs⟩ : ∃ cs : Array Value, cs = #[] ++ Builtin.zeroCells (Value.int .i64 0).cells n ++ Builtin.zeroCells (Value.int .i64 0).cells (G - n) := ⟨_, rfl⟩
  simp only [← ecs] at hrz
  have hsz : cs.size = G := by
    rw [ecs]
    simp [Builtin.zeroCells, Value.cells]
    omega
  have HS := Lib.hid hsz
  clear hold hG hGm ecs hsz hi hz0 hz1 hz2
  go_enter Tryd.func75, Tryd.ntmps75
  go_wp2_with (at_builtin; refine Lib.wpList_append_run _ rfl _ _ _ _ rfl _ _ rfl rfl _ _ (hrz _) ?_)
  all_goals
    go_returns
    refine ⟨w.heap.size, G, rfl, ⟨rfl, .inr ⟨w.heap.size, G, cs, rfl, Nat.le_refl _, ?_, Nat.zero_le _, HG.out, by rw [HS.out]; omega, by simp⟩⟩, ?_⟩
    · exact heap_alloc_new w.drew _
    · exact ((Below.refl w.heap.size w).drew).alloc (by simp) _
set_option maxHeartbeats 4000000 in
set_option maxRecDepth 100000 in
theorem Concat_c (b : Nat) (u v : Value) (xs ys : List Int) (hx : 1 ≤ xs.length ∧ xs.length ≤ 6) (hy : 1 ≤ ys.length ∧ ys.length ≤ 6) (w : World) (c0 : w.cell? ⟨b, 0, none⟩ = some u) (c1 : w.cell? ⟨b, 1, none⟩ = some v) (hu : Ints w.heap.size w u xs) (hv : Ints w.heap.size w v ys) :
    Calls Tryd.prog 51 #[.slice (some ⟨b, 0, none⟩) 2 2] w (OwnOut w (xs ++ ys)) := by
  obtain ⟨A, ac, rfl⟩ := hu.len
  obtain ⟨B, bc, rfl⟩ := hv.len
  obtain ⟨x1, x6⟩ := hx
  obtain ⟨y1, y6⟩ := hy
  have hI := Arg.new hu
  have hJ := Arg.new hv
  have hW := Below.refl w.heap.size w
  clear hu hv
  go_enter Tryd.func51, Tryd.ntmps51
  go_wp2_with fail
  go_loop [3, 11] (fun s q => (s = .int .i64 0 ∧ q = .int .i64 0) ∨ (s = .int .i64 (xs.length : Int) ∧ q = .int .i64 1) ∨ (s = .int .i64 ((xs.length + ys.length : Nat) : Int) ∧ q = .int .i64 2)) (fun _ q => 2 - (intOf q).toNat)
  case atStart => exact .inl ⟨rfl, rfl⟩
  case round =>
    rcases hrel with ⟨rfl, rfl⟩ | ⟨rfl, rfl⟩ | ⟨rfl, rfl⟩
    · have hn : ¬ ((xs.length : Int) < 0) := by omega
      go_wp2
      go_round
      case rel => exact .inr (.inl ⟨by go_num, by go_num⟩)
      case measure => simp [intOf]
    · have hn : ¬ ((xs.length : Int) + (ys.length : Int) < 0) := by omega
      go_wp2
      go_round
      case rel => exact .inr (.inr ⟨by go_num, by go_num⟩)
      case measure => simp [intOf]
    · go_wp2_with fail
      refine (Grow_c (xs.length + ys.length) (by omega) (by omega) _).mono ?_
      rintro e wc ⟨g, c, rfl, hown, hb⟩
      replace hown := hown
      have hb0 := hb
      clear hW
      have HX := Lib.hid (And.intro c0 (And.intro c1 (And.intro hI hJ)))
      clear c0 c1 hI hJ hb
      go_wp2_with fail
      go_loopw [6, 27] (fun s q wr => ∃ (zs : List Int) (ao : Option Addr) (co m : Nat), s = .slice ao m co ∧ zs.length = m ∧ OwnI wr w.heap.size (.slice ao m co) zs ∧ Below w.heap.size w wr ∧ ((q = .int .i64 0 ∧ [] = zs) ∨ (q = .int .i64 1 ∧ xs = zs) ∨ (q = .int .i64 2 ∧ xs ++ ys = zs))) (fun _ q _ => 2 - (intOf q).toNat)
      case atStart => exact ⟨[], _, _, 0, rfl, rfl, hown, hb0, .inl ⟨rfl, rfl⟩⟩
      case round =>
        clear hown hb0
        obtain ⟨zs, ao, co, m, rfl, hzl, hown, hW, hq⟩ := hrel
        have c0 := cellB hW HX.out.1
        have c1 := cellB hW HX.out.2.1
        have hI := (HX.out.2.2.1.below hW).ints
        have hJ := (HX.out.2.2.2.below hW).ints
        have hws := hW.size
        have HZ := Lib.hid hzl
        rcases hq with ⟨rfl, rfl⟩ | ⟨rfl, rfl⟩ | ⟨rfl, rfl⟩
        · have hlen : ([] : List Int).length + xs.length ≤ 16777216 := by simp; omega
          have hz0 : m = 0 := by simpa using hzl.symm
          subst hz0
          have HH := Lib.hid (And.intro hown (And.intro hI (And.intro hlen (And.intro hws hW))))
          clear hown hI hlen hws hW hJ hzl
          go_wp2_with (at_builtin; refine wpList_app (v := .slice ao 0 co) rfl (.tmp 31) (.tmp 32) rfl rfl HH.out.1 rfl HH.out.2.1 HH.out.2.2.1 HH.out.2.2.2.1 ?_; intro v6 w6 hown6 hgr6 _ _; rw [List.nil_append] at hown6)
          have hbe := Below.app HH.out.2.2.2.2 HH.out.1 hgr6 (Nat.le_refl _) HH.out.2.2.2.1
          obtain ⟨a6, c6, rfl⟩ := hown6.ints.len
          have HR := Lib.hid (And.intro hown6 hbe)
          clear hown6 hbe hgr6 HH
          go_wp2
          go_roundw
          case rel => exact ⟨xs, a6, c6, xs.length, rfl, rfl, HR.out.1, HR.out.2, .inr (.inl ⟨by go_num, rfl⟩)⟩
          case measure => simp [intOf]
        · have hlen : xs.length + ys.length ≤ 16777216 := by omega
          subst hzl
          have HH := Lib.hid (And.intro hown (And.intro hJ (And.intro hlen (And.intro hws hW))))
          clear hown hI hlen hws hW hJ
          go_wp2_with (at_builtin; refine wpList_app (v := .slice ao xs.length co) rfl (.tmp 31) (.tmp 32) rfl rfl HH.out.1 rfl HH.out.2.1 HH.out.2.2.1 HH.out.2.2.2.1 ?_; intro v6 w6 hown6 hgr6 _ _)
          have hbe := Below.app HH.out.2.2.2.2 HH.out.1 hgr6 (Nat.le_refl _) HH.out.2.2.2.1
          obtain ⟨a6, c6, rfl⟩ := hown6.ints.len
          have HR := Lib.hid (And.intro hown6 hbe)
          clear hown6 hbe hgr6 HH
          go_wp2
          go_roundw
          case rel => exact ⟨xs ++ ys, a6, c6, _, rfl, rfl, HR.out.1, HR.out.2, .inr (.inr ⟨by go_num, rfl⟩)⟩
          case measure => simp [intOf]
        · have HR := Lib.hid (show OwnOut w (xs ++ ys) (.returned (.slice ao m co)) wr from ⟨_, rfl, hown, hW⟩)
          clear hown hW hI hJ c0 c1 hzl
          go_wp2
          go_returns
          exact HR.out
end Go.Proofs.YtilahcpjjaikgaaDoor
end

section
namespace Go.Proofs.YtilahcpjjaikgaaDoor
open Go.RowKit
/-- Whether no row of a list has two runs. -/
def oneRun (l : List Nat) : Bool := l.all fun r => decide (runsC r ≤ 1)
/-- Whether an image is convex. -/
def cvxB (n : Nat) (ns : List Nat) : Bool := oneRun (ns ++ turnL n ns)
theorem oneRun_no {l : List Nat} {k : Nat} (hk : k < l.length) (h : 1 < runsC (l.getD k 0)) : oneRun l = false := by
  rw [← Bool.not_eq_true]
  intro ha
  have := List.all_eq_true.1 ha (l.getD k 0) (by rw [List.getD_eq_getElem?_getD, List.getElem?_eq_getElem hk]; exact List.getElem_mem hk)
  have := of_decide_eq_true this
  omega
theorem oneRun_yes {l : List Nat} (h : ∀ k, k < l.length → runsC (l.getD k 0) ≤ 1) : oneRun l = true := by
  refine List.all_eq_true.2 fun r hr => ?_
  obtain ⟨k, hk, e⟩ := List.getElem_of_mem hr
  have := h k hk
  rw [List.getD_eq_getElem?_getD, List.getElem?_eq_getElem hk, Option.getD_some, e] at this
  exact decide_eq_true this
theorem getD_app_l {xs ys : List Nat} {k : Nat} (h : k < xs.length) : (xs ++ ys).getD k 0 = xs.getD k 0 := by
  rw [List.getD_eq_getElem?_getD, List.getElem?_append_left h, List.getD_eq_getElem?_getD]
theorem getD_app_r {xs ys : List Nat} {k : Nat} (h : xs.length ≤ k) : (xs ++ ys).getD k 0 = ys.getD (k - xs.length) 0 := by
  rw [List.getD_eq_getElem?_getD, List.getElem?_append_right h, List.getD_eq_getElem?_getD]
theorem cvx_64 {n : Nat} {ns : List Nat} (hV : VImg n ns) (k : Nat) : (ns ++ turnL n ns).getD k 0 < 64 := by
  by_cases h : k < ns.length
  · rw [getD_app_l h]; exact hV.get64 k
  · rw [getD_app_r (by omega)]; exact (vimg_turn hV).get64 _
theorem casts_app (xs ys : List Nat) : casts (xs ++ ys) = casts xs ++ casts ys := by simp [casts]
set_option maxHeartbeats 4000000 in
theorem convex_c (n : Nat) (v : Value) (ns : List Nat) (hV : VImg n ns) (w : World) (hv : Ints w.heap.size w v (casts ns)) (hT : Tab w) :
    Calls Tryd.prog 30 #[.agg #[.int .i64 (n : Int), v]] w fun e w' => e = .returned (.bool (cvxB n ns)) ∧ Below w.heap.size w w' := by
  obtain ⟨A, cap, rfl⟩ := hv.len
  rw [length_casts] at hv ⊢
  have h1 := hV.h1
  have h6 := hV.h6
  have w1 := hV.w1
  have w6 := hV.w6
  have hI := Arg.new hv
  have hW := Below.refl w.heap.size w
  go_enter Tryd.func30, Tryd.ntmps30
  obtain ⟨W0, e_W0⟩ : ∃ W0, W0 = World.alloc w (.cells #[.int .i64 (n : Int), .slice A ns.length cap] 27) := ⟨_, rfl⟩
  have hx_W0 := Box2.new w (.int .i64 (n : Int)) (.slice A ns.length cap) 27
  have hb_W0 : Below (World.heap w).size w W0 := by rw [e_W0]; go_grown
  have HS_W0 := Lib.hid (show (World.heap W0).size = (World.heap w).size + 1 by rw [e_W0]; simp)
  replace hI := hI.below hb_W0
  replace hW := hW.trans (Below.mono hb_W0 hW.size)
  have HE_W0 := Lib.hid e_W0
  clear e_W0
  go_wp2_with fail
  rw [← HE_W0.out] at hx_W0 ⊢
  clear HE_W0
  obtain ⟨hl_x, x0, x1⟩ := hx_W0
  obtain ⟨Bx, e_Bx⟩ : ∃ Bx, Bx = (World.heap w).size := ⟨_, rfl⟩
  rw [← e_Bx] at hl_x x0 x1 hb_W0 HS_W0  ⊢
  have hz_Bx := hb_W0.size
  clear e_Bx hb_W0
  refine (ImageTurn_c n _ ns hV _ hI.ints).mono ?_
  rintro e wc ⟨g, c, rfl, hg, hr, hb⟩
  replace hI := hI.below hb
  replace hW := hW.trans (Below.mono hb hW.size)
  replace x0 := cellB hb x0
  replace x1 := cellB hb x1
  clear hv
  obtain ⟨W1, e_W1⟩ : ∃ W0, W0 = World.alloc wc (.cells #[.int .i64 (ns.length : Int), .slice (some ⟨g, 0, none⟩) n c] 27) := ⟨_, rfl⟩
  have hx_W1 := Box2.new wc (.int .i64 (ns.length : Int)) (.slice (some ⟨g, 0, none⟩) n c) 27
  have hb_W1 : Below (World.heap wc).size wc W1 := by rw [e_W1]; go_grown
  have HS_W1 := Lib.hid (show (World.heap W1).size = (World.heap wc).size + 1 by rw [e_W1]; simp)
  replace hI := hI.below hb_W1
  replace hW := hW.trans (Below.mono hb_W1 hW.size)
  replace x0 := cellB hb_W1 x0
  replace x1 := cellB hb_W1 x1
  replace hr := hr.below hb_W1 hr.lt
  have x0r := x0
  rw [e_W1] at x0r
  have x1r := x1
  rw [e_W1] at x1r
  have HE_W1 := Lib.hid e_W1
  clear e_W1
  go_wp2_with fail
  rw [← HE_W1.out] at hx_W1 ⊢
  clear x0r x1r
  clear HE_W1
  obtain ⟨hl_y, y0, y1⟩ := hx_W1
  obtain ⟨By, e_By⟩ : ∃ Bx, Bx = (World.heap wc).size := ⟨_, rfl⟩
  rw [← e_By] at hl_y y0 y1 hb_W1 HS_W1  ⊢
  have hz_By := hb_W1.size
  clear e_By hb_W1
  obtain ⟨W2, eW⟩ : ∃ W, W = W1.alloc (.cells #[.slice A ns.length cap, .slice (some ⟨g, 0, none⟩) n c] 23) := ⟨_, rfl⟩
  have hb : Below W1.heap.size W1 W2 := by rw [eW]; go_grown
  have z0 : W2.cell? ⟨W1.heap.size, 0, none⟩ = some (.slice A ns.length cap) := by rw [eW]; go_cell
  have z1 : W2.cell? ⟨W1.heap.size, 1, none⟩ = some (.slice (some ⟨g, 0, none⟩) n c) := by rw [eW]; go_cell
  rw [HS_W1.out] at z0 z1
  replace hI := hI.below hb
  replace hW := hW.trans (Below.mono hb hW.size)
  replace x0 := cellB hb x0
  replace x1 := cellB hb x1
  replace hr := hr.below hb hr.lt
  replace y0 := cellB hb y0
  replace y1 := cellB hb y1
  rw [← eW]
  clear eW
  have htl : (turnL n ns).length = n := length_mk _ _ _
  have hJ : Ints W2.heap.size W2 (.slice (some ⟨g, 0, none⟩) n c) (casts (turnL n ns)) := hr.intsH htl
  refine (Concat_c _ _ _ (casts ns) (casts (turnL n ns)) (by rw [length_casts]; omega) (by rw [length_casts, htl]; omega) W2 z0 z1 hI.ints hJ).mono ?_
  rintro e wc ⟨u, rfl, hown, hb⟩
  replace hI := hI.below hb
  replace hW := hW.trans (Below.mono hb hW.size)
  replace x0 := cellB hb x0
  replace x1 := cellB hb x1
  replace hr := hr.below hb hr.lt
  replace y0 := cellB hb y0
  replace y1 := cellB hb y1
  rw [← casts_app] at hown
  obtain ⟨L, eL⟩ : ∃ L, L = ns ++ turnL n ns := ⟨_, rfl⟩
  have hLl : L.length = ns.length + n := by rw [eL, List.length_append, htl]
  have h64 : ∀ k, L.getD k 0 < 64 := fun k => by rw [eL]; exact cvx_64 hV k
  have HE := Lib.hid (show cvxB n ns = oneRun L by rw [eL]; rfl)
  rw [← eL] at hown
  have hLL := hown.ints
  obtain ⟨ao, co, rfl⟩ := hLL.len
  rw [length_casts] at hLL ⊢
  have hK := Arg.new hLL
  obtain ⟨N, eN⟩ : ∃ N, N = L.length := ⟨_, rfl⟩
  have hN12 : N ≤ 12 := by omega
  have H64 := Lib.hid h64
  have HN := Lib.hid eN
  have hbw := Below.refl wc.heap.size wc
  have HW := Lib.hid (And.intro hW (And.intro hT hK))
  rw [← eN]
  clear hW hT hI hr hJ z0 z1 x0 x1 y0 y1 hown hLL hb eL hLl htl eN h64 hK
  go_wp2_with fail
  go_loopw [19] (fun q wr => ∃ k : Nat, k ≤ N ∧ q = .int .i64 k ∧ (∀ i, i < k → runsC (L.getD i 0) ≤ 1) ∧ Below wc.heap.size wc wr) (fun q _ => N - (intOf q).toNat)
  case atStart => exact ⟨0, by omega, rfl, fun i hi => by omega, hbw⟩
  case round =>
    clear hbw
    obtain ⟨k, hk, rfl, hall, hbw⟩ := hrel
    have HA := Lib.hid hall
    clear hall
    have hWr := HW.out.1.trans (hbw.mono HW.out.1.size)
    by_cases hkl : k < N
    · have hIn := (HW.out.2.2.below hbw).ints
      obtain ⟨b, off, cap', e, hbl, hc⟩ := hIn.row (by rw [length_casts, ← HN.out]; omega)
      rw [length_casts, ← HN.out] at e hc
      injection e with e1 _ e3
      subst e1 e3
      have hcr := hc k hkl
      rw [casts_getD] at hcr
      have hr64 := H64.out k
      have HR := runsOf_c (L.getD k 0) hr64
      obtain ⟨r, er⟩ : ∃ r, r = L.getD k 0 := ⟨_, rfl⟩
      rw [← er] at hcr hr64
      simp only [← er] at HR
      have hrl := runs_le r hr64
      have ER := Lib.hid er
      obtain ⟨m, em⟩ : ∃ m, m = runsC r := ⟨_, rfl⟩
      simp only [← em] at HR
      rw [← em] at hrl
      have EM := Lib.hid em
      clear er em hIn hc
      go_wp2_with fail
      refine (HR _ (HW.out.2.1.below hWr)).mono ?_
      rintro e wd ⟨ao, co, xs, rfl, hxl, _, hb⟩
      have hW9 := hWr.trans (hb.mono hWr.size)
      clear HR hxl
      by_cases hm : 1 < m
      · have HF := Lib.hid (oneRun_no (l := L) (k := k) (by rw [← HN.out]; exact hkl) (by rw [← ER.out, ← EM.out]; exact hm))
        go_wp2
        go_returns
        exact ⟨rb (by rw [HE.out, HF.out]), hW9⟩
      · go_wp2
        go_roundw
        case rel =>
          refine ⟨k + 1, by omega, by go_num, fun i hi => ?_, hbw.trans (hb.mono hbw.size)⟩
          by_cases e : i = k
          · subst e; rw [← ER.out, ← EM.out]; omega
          · exact HA.out i (by omega)
        case measure => simp [intOf]; omega
    · have HF := Lib.hid (oneRun_yes (l := L) fun i hi => HA.out i (by have := HN.out; omega))
      go_wp2
      go_returns
      exact ⟨rb (by rw [HE.out, HF.out]), hWr⟩
/-- Whether an image is valid and convex. -/
def cvxO (W : Int) (rows : List Int) : Bool := validB W rows && cvxB W.toNat (rows.map Int.toNat)
theorem cvxO_no {W : Int} {rows : List Int} (h : validB W rows = false) : cvxO W rows = false := by unfold cvxO; rw [h]; rfl
theorem cvxO_yes {n : Nat} {ns : List Nat} (hV : VImg n ns) : cvxO (n : Int) (casts ns) = cvxB n ns := by
  unfold cvxO
  rw [validB_of hV, casts_toNat]
  rfl
set_option maxHeartbeats 1000000 in
theorem ImageConvex_c (W : Int) (v : Value) (rows : List Int) (w : World) (hv : Ints w.heap.size w v rows) (hT : Tab w) :
    Calls Tryd.prog 12 #[.agg #[.int .i64 W, v]] w fun e w' => e = .returned (.bool (cvxO W rows)) ∧ Below w.heap.size w w' := by
  obtain ⟨A, cap, rfl⟩ := hv.len
  have hI := Arg.new hv
  have hW := Below.refl w.heap.size w
  go_enter Tryd.func12, Tryd.ntmps12
  obtain ⟨W0, e_W0⟩ : ∃ W0, W0 = World.alloc w (.cells #[.int .i64 W, .slice A rows.length cap] 27) := ⟨_, rfl⟩
  have hx_W0 := Box2.new w (.int .i64 W) (.slice A rows.length cap) 27
  have hb_W0 : Below (World.heap w).size w W0 := by rw [e_W0]; go_grown
  have HS_W0 := Lib.hid (show (World.heap W0).size = (World.heap w).size + 1 by rw [e_W0]; simp)
  replace hI := hI.below hb_W0
  replace hW := hW.trans (Below.mono hb_W0 hW.size)
  have HE_W0 := Lib.hid e_W0
  clear e_W0
  go_wp2_with fail
  rw [← HE_W0.out] at hx_W0 ⊢
  clear HE_W0
  obtain ⟨hl_x, x0, x1⟩ := hx_W0
  obtain ⟨Bx, e_Bx⟩ : ∃ Bx, Bx = (World.heap w).size := ⟨_, rfl⟩
  rw [← e_Bx] at hl_x x0 x1 hb_W0 HS_W0  ⊢
  have hz_Bx := hb_W0.size
  clear e_Bx hb_W0
  clear hv
  refine (ImageValid_c W _ rows _ hI.ints).mono ?_
  rintro e wc ⟨rfl, hb⟩
  replace hI := hI.below hb
  replace hW := hW.trans (Below.mono hb hW.size)
  replace x0 := cellB hb x0
  replace x1 := cellB hb x1
  cases hval : validB W rows with
  | false =>
    have HM := Lib.hid (cvxO_no hval)
    clear hval
    go_wp2
    go_returns
    exact ⟨rb HM.out.symm, hW⟩
  | true =>
    obtain ⟨n, ns, rfl, rfl, hV⟩ := validB_yes hval
    have HM := Lib.hid (cvxO_yes hV)
    clear hval
    go_wp2_with fail
    refine (convex_c n _ ns hV _ hI.ints (hT.below hW)).mono ?_
    rintro e wc ⟨rfl, hb⟩
    replace hI := hI.below hb
    replace hW := hW.trans (Below.mono hb hW.size)
    replace x0 := cellB hb x0
    replace x1 := cellB hb x1
    go_wp2
    go_returns
    exact ⟨rb HM.out.symm, hW⟩
end Go.Proofs.YtilahcpjjaikgaaDoor
end

section
namespace Go.Proofs.YtilahcpjjaikgaaDoor
open Go.RowKit
/-- How many groups the first m have. -/
def runsB (p : Nat → Bool) (m : Nat) : Nat := ((List.range m).filter fun j => p j && !(decide (0 < j) && p (j - 1))).length
theorem runsB_succ (p : Nat → Bool) (m : Nat) : runsB p (m + 1) = runsB p m + if (p m && !(decide (0 < m) && p (m - 1))) = true then 1 else 0 := by
  unfold runsB
  rw [List.range_succ, List.filter_append, List.length_append]
  congr 1
  simp only [List.filter_cons, List.filter_nil]
  split <;> rfl
theorem runsB_le (p : Nat → Bool) : ∀ m, runsB p m ≤ m
  | 0 => Nat.le_refl _
  | m + 1 => by
    have := runsB_le p m
    rw [runsB_succ]
    split <;> omega
theorem runsB_pos (p : Nat → Bool) : ∀ m, p m = true → 1 ≤ runsB p (m + 1)
  | 0, h => by rw [runsB_succ]; simp [h]
  | m + 1, h => by
    rw [runsB_succ]
    cases hm : p m with
    | true => have := runsB_pos p m hm; omega
    | false => simp [h, hm]
/-- The cells of a line, as numbers. -/
def bitsL (p : Nat → Bool) (m : Nat) : List Int := (List.range m).map fun j => b2i (p j)
theorem length_bits (p : Nat → Bool) (m : Nat) : (bitsL p m).length = m := by simp [bitsL]
theorem bits_at {p : Nat → Bool} {m j : Nat} (h : j < m) : (bitsL p m).getD j 0 = b2i (p j) := by
  simp [bitsL, List.getD_eq_getElem?_getD, h]
theorem bits_succ (p : Nat → Bool) (m : Nat) : bitsL p (m + 1) = bitsL p m ++ [b2i (p m)] := by simp [bitsL, List.range_succ]
/-- A list of the call's own of so many numbers. -/
def LenOut (w : World) (n : Nat) (e : Ending) (w' : World) : Prop := ∃ ao co xs, e = .returned (.slice ao n co) ∧ xs.length = n ∧ OwnI w' w.heap.size (.slice ao n co) xs ∧ Below w.heap.size w w'
theorem own_form {w : World} {base : Nat} {v : Value} {xs : List Int} (h : OwnI w base v xs) (hl : 0 < xs.length) : ∃ g c, v = .slice (some ⟨g, 0, none⟩) xs.length c ∧ base ≤ g ∧ Row w g xs :=
  h.row fun e => by
    subst e
    rcases h.2 with ⟨_, e2⟩ | ⟨g, cap, cur, e, _⟩
    · omega
    · injection e with e1; cases e1
theorem own_set {w : World} {base : Nat} {xs : List Int} {g n c k : Nat} (h : OwnI w base (.slice (some ⟨g, 0, none⟩) n c) xs) (hk : k < xs.length) (z : Int) : OwnI (w.setCell ⟨g, k, none⟩ (.int .i64 z)) base (.slice (some ⟨g, 0, none⟩) n c) (xs.set k z) := by
  refine ⟨by simp, ?_⟩
  rcases h.2 with ⟨e, _⟩ | ⟨g', cap, cur, e, hgb, hh, hnc, hcm, hsz, ht⟩
  · cases e
  · injection e with e1 e2 e3
    injection e1 with e1
    injection e1 with e1
    subst e1 e2 e3
    have hkc : k < cur.size := by have := h.1; rw [hsz]; simp at hnc ⊢; omega
    refine .inr ⟨g, c, cur.set k (.int .i64 z) hkc, by simp, hgb, ?_, by simpa using hnc, hcm, by simpa using hsz, ?_⟩
    · simp only [World.setCell, Array.getElem?_modify, if_true, hh, Option.map_some]
      simp [hkc, Array.setIfInBounds]
    · simp only [List.length_set, Nat.mul_one, Array.toList_set, List.map_set] at ht ⊢
      rw [List.take_set, ht]
set_option maxHeartbeats 4000000 in
theorem l31Runs_c (p : Nat → Bool) (m : Nat) (h1 : 1 ≤ m) (hm : m ≤ 6) (v : Value) (w : World) (hv : Ints w.heap.size w v (bitsL p m)) :
    Calls Tryd.prog 92 #[v] w (LenOut w (runsB p m)) := by
  have hI := Arg.new hv
  have hW := Below.refl w.heap.size w
  obtain ⟨b, off, cap, rfl, hbl, hc⟩ := hv.row (by rw [length_bits]; exact h1)
  rw [length_bits] at hc hI ⊢
  have HC := Lib.hid hc
  have hown := OwnI.empty (base := w.heap.size) w (Nat.le_refl _)
  have hb2 : Below w.heap.size w (w.alloc (.cells #[] 3)) := by go_grown
  have HB := Lib.hid hbl
  clear hv hc hI hW
  go_enter Tryd.func92, Tryd.ntmps92
  go_wp2_with fail
  obtain ⟨W2, eW2⟩ : ∃ W2, W2 = w.alloc (.cells #[] 3) := ⟨_, rfl⟩
  rw [← eW2] at hown hb2 ⊢
  clear eW2
  go_loopw [3, 4] (fun s q wr => ∃ (k l : Nat) (ao : Option Addr) (co : Nat) (zs : List Int), k ≤ m ∧ s = .slice ao l co ∧ q = .int .i64 k ∧ zs.length = l ∧ l = runsB p k ∧ OwnI wr w.heap.size (.slice ao l co) zs ∧ Below w.heap.size w wr) (fun _ q _ => m - (intOf q).toNat)
  case atStart => exact ⟨0, 0, _, _, [], by omega, rfl, rfl, rfl, rfl, hown, hb2⟩
  case round =>
    clear hown hb2
    obtain ⟨k, l, ao, co, zs, hk, rfl, rfl, hzl, hl, hown, hW⟩ := hrel
    have hsz := hW.size
    by_cases hlt : k < m
    · have hck : ∀ W, Below w.heap.size w W → W.cell? ⟨b, off + k, none⟩ = some (.int .i64 (b2i (p k))) := fun W h => by
        have := HC.out k hlt
        rw [bits_at hlt] at this
        exact (h.cell (p := ⟨b, off + k, none⟩) HB.out).trans this
      have hcr := hck _ hW
      have hst := runsB_succ p k
      rw [← hl] at hst
      have hpos := runsB_pos p k
      have hle := runsB_le p k
      rw [← hl] at hle
      cases hp : p k with
      | false =>
        rw [hp] at hcr hst
        simp only [Bool.false_and, Bool.false_eq_true, if_false, Nat.add_zero, b2i] at hst hcr
        have HS := Lib.hid (And.intro hst (And.intro hzl (And.intro hown hW)))
        clear hst hzl hown hW hck hpos hl
        go_wp2
        go_roundw
        case rel => exact ⟨k + 1, l, ao, co, zs, by omega, rfl, by go_num, HS.out.2.1, HS.out.1.symm, HS.out.2.2.1, HS.out.2.2.2⟩
        case measure => simp [intOf]; omega
      | true =>
        rw [hp] at hcr hst
        simp only [b2i, if_true] at hcr
        have hp1 := hpos hp
        -- the second step: the last number one more
        have fin : ∀ (W : World) (ao : Option Addr) (co L : Nat) (zs : List Int), L = runsB p (k + 1) → zs.length = L → OwnI W w.heap.size (.slice ao L co) zs → Below w.heap.size w W → ∃ (g : Nat) (z : Int), ao = some ⟨g, 0, none⟩ ∧ 1 ≤ L ∧ L ≤ 7 ∧ W.cell? ⟨g, L - 1, none⟩ = some (.int .i64 z) ∧ W.frozen? ⟨g, L - 1, none⟩ = false ∧ ∀ z', OwnI (W.setCell ⟨g, L - 1, none⟩ (.int .i64 z')) w.heap.size (.slice ao L co) (zs.set (L - 1) z') ∧ Below w.heap.size w (W.setCell ⟨g, L - 1, none⟩ (.int .i64 z')) := by
          intro W ao co L zs eL hzl ho hb
          have hle7 := runsB_le p (k + 1)
          obtain ⟨g, c, e, hg, hrow⟩ := own_form ho (by omega)
          injection e with e1 _ e3
          subst e1
          exact ⟨g, zs.getD (L - 1) 0, rfl, by omega, by omega, hrow.cell (by omega), hrow.frozen _, fun z' => ⟨own_set ho (by omega) z', hb.setCell (by simpa using hg) _⟩⟩
        by_cases hnew : (!(decide (0 < k) && p (k - 1))) = true
        · rw [hnew] at hst
          simp only [Bool.and_self, if_true] at hst
          have hown2 := hown.alloc (.cells #[.int .i64 0] 3)
          have hb3 : Below w.heap.size wr (wr.alloc (.cells #[.int .i64 0] 3)) := (Below.refl _ wr).alloc hsz _
          have hbs : w.heap.size ≤ (wr.alloc (.cells #[.int .i64 0] 3)).heap.size := Nat.le_trans hsz hb3.size
          have hlen : zs.length + ([0] : List Int).length ≤ 16777216 := by rw [hzl]; simp; omega
          have hone := Ints.one wr 0 3
          have HF := Lib.hid (And.intro fin (And.intro hst hzl))
          have HH := Lib.hid (And.intro hown2 (And.intro hbs (And.intro hlen (And.intro hone (And.intro hb3 hW)))))
          have HCK := Lib.hid hck
          clear hown2 hbs hlen hone hb3 hown fin hst hzl hl hpos hp1 hck hsz
          by_cases hk0 : k = 0
          · subst hk0
            rw [Nat.add_zero] at hcr
            clear hnew hW
            go_wp2_with (at_builtin; refine wpList_app (v := .slice ao l co) (ys := [0]) rfl (.tmp 29) (.tmp 30) rfl rfl HH.out.1 rfl HH.out.2.2.2.1 HH.out.2.2.1 HH.out.2.1 ?_; intro v6 w6 hown6 hgr6 _ _; have hbe := Below.app (HH.out.2.2.2.2.2.trans HH.out.2.2.2.2.1) HH.out.1 hgr6 (Nat.le_refl _) HH.out.2.1; have hl6 : (zs ++ [(0 : Int)]).length = l + 1 := (by rw [List.length_append, HF.out.2.2]; rfl); obtain ⟨a6, c6, e6⟩ := hown6.ints.len; rw [hl6] at e6; subst e6; have hck6 := HCK.out _ hbe; rw [hp] at hck6; simp only [b2i, if_true] at hck6; (try rw [Nat.add_zero] at hck6); obtain ⟨g, z, rfl, hL1, hL7, hz, hzf, hset⟩ := HF.out.1 w6 a6 c6 (l + 1) _ HF.out.2.1.symm hl6 hown6 hbe; rw [show l + 1 - 1 = l by omega] at hz hzf hset; have HR := Lib.hid (And.intro hset hl6); clear hset hl6 hown6 hbe hgr6)
            go_roundw
            case rel => exact ⟨0 + 1, l + 1, _, c6, _, by omega, rfl, by go_num, by rw [List.length_set, HR.out.2], HF.out.2.1.symm, (HR.out.1 _).1, (HR.out.1 _).2⟩
            case measure => simp [intOf]; omega

          · obtain ⟨j, rfl⟩ : ∃ j, k = j + 1 := ⟨k - 1, by omega⟩
            have hpj : p j = false := by simpa using hnew
            have hcj : wr.cell? ⟨b, off + j, none⟩ = some (.int .i64 0) := by
              have := HC.out j (by omega)
              rw [bits_at (by omega), hpj] at this
              exact (hW.cell (p := ⟨b, off + j, none⟩) HB.out).trans this
            have ej : IntKind.i64.wrap (((j + 1 : Nat) : Int) - 1) = (j : Int) := by rw [IntWalk.i64_in _ ⟨by omega, by omega⟩]; omega
            clear hnew hk0 hW
            go_wp2_with (at_builtin; refine wpList_app (v := .slice ao l co) (ys := [0]) rfl (.tmp 29) (.tmp 30) rfl rfl HH.out.1 rfl HH.out.2.2.2.1 HH.out.2.2.1 HH.out.2.1 ?_; intro v6 w6 hown6 hgr6 _ _; have hbe := Below.app (HH.out.2.2.2.2.2.trans HH.out.2.2.2.2.1) HH.out.1 hgr6 (Nat.le_refl _) HH.out.2.1; have hl6 : (zs ++ [(0 : Int)]).length = l + 1 := (by rw [List.length_append, HF.out.2.2]; rfl); obtain ⟨a6, c6, e6⟩ := hown6.ints.len; rw [hl6] at e6; subst e6; have hck6 := HCK.out _ hbe; rw [hp] at hck6; simp only [b2i, if_true] at hck6; (try rw [Nat.add_zero] at hck6); obtain ⟨g, z, rfl, hL1, hL7, hz, hzf, hset⟩ := HF.out.1 w6 a6 c6 (l + 1) _ HF.out.2.1.symm hl6 hown6 hbe; rw [show l + 1 - 1 = l by omega] at hz hzf hset; have HR := Lib.hid (And.intro hset hl6); clear hset hl6 hown6 hbe hgr6)
            go_roundw
            case rel => exact ⟨(j + 1) + 1, l + 1, _, c6, _, by omega, rfl, by go_num, by rw [List.length_set, HR.out.2], HF.out.2.1.symm, (HR.out.1 _).1, (HR.out.1 _).2⟩
            case measure => simp [intOf]; omega

        · have hnew' : (!(decide (0 < k) && p (k - 1))) = false := Bool.eq_false_iff.2 hnew
          rw [hnew'] at hst
          simp only [Bool.and_false, Bool.false_eq_true, if_false, Nat.add_zero] at hst
          obtain ⟨j, rfl⟩ : ∃ j, k = j + 1 := ⟨k - 1, by have : k ≠ 0 := (fun e => by subst e; simp at hnew'); omega⟩
          have hpj : p j = true := by simpa using hnew'
          have hcj : wr.cell? ⟨b, off + j, none⟩ = some (.int .i64 1) := by
            have := HC.out j (by omega)
            rw [bits_at (by omega), hpj] at this
            exact (hW.cell (p := ⟨b, off + j, none⟩) HB.out).trans this
          have ej : IntKind.i64.wrap (((j + 1 : Nat) : Int) - 1) = (j : Int) := by rw [IntWalk.i64_in _ ⟨by omega, by omega⟩]; omega
          obtain ⟨g, z, rfl, hL1, hL7, hz, hzf, hset⟩ := fin wr ao co l zs hst.symm hzl hown hW
          obtain ⟨l', rfl⟩ : ∃ l', l = l' + 1 := ⟨l - 1, by omega⟩
          rw [show l' + 1 - 1 = l' by omega] at hz hzf hset
          have HR := Lib.hid (And.intro hset (And.intro hzl hst))
          clear hset hzl hst hown hW fin hl hpos hp1 hck hsz hnew hnew'
          go_wp2
          go_roundw
          case rel => exact ⟨j + 1 + 1, l' + 1, _, co, _, by omega, rfl, by go_num, by rw [List.length_set, HR.out.2.1], HR.out.2.2.symm, (HR.out.1 _).1, (HR.out.1 _).2⟩
          case measure => simp [intOf]; omega
    · obtain rfl : k = m := by omega
      have HR := Lib.hid (show LenOut w (runsB p k) (.returned (.slice ao l co)) wr from ⟨ao, co, zs, by rw [hl], by rw [hzl, hl], by rw [← hl]; exact hown, hW⟩)
      clear hown hW hl hzl
      go_wp2
      go_returns
      exact HR.out
end Go.Proofs.YtilahcpjjaikgaaDoor
end

section
namespace Go.Proofs.YtilahcpjjaikgaaDoor
open Go.RowKit
set_option maxHeartbeats 4000000 in
theorem l31Row_c (n : Nat) (v : Value) (ns : List Nat) (hV : VImg n ns) (x : Nat) (hx : x < ns.length) (w : World) (hv : Ints w.heap.size w v (casts ns)) :
    Calls Tryd.prog 93 #[.agg #[.int .i64 (n : Int), v], .int .i64 (x : Int)] w (OwnOut w (bitsL (fun k => cell ns x k) n)) := by
  obtain ⟨A, cap, rfl⟩ := hv.len
  rw [length_casts] at hv ⊢
  have h6 := hV.h6
  have w6 := hV.w6
  have h64 := hV.get64
  have hI := Arg.new hv
  have hW := Below.refl w.heap.size w
  go_enter Tryd.func93, Tryd.ntmps93
  obtain ⟨W0, e_W0⟩ : ∃ W0, W0 = World.alloc w (.cells #[.int .i64 (n : Int), .slice A ns.length cap] 27) := ⟨_, rfl⟩
  have hx_W0 := Box2.new w (.int .i64 (n : Int)) (.slice A ns.length cap) 27
  have hb_W0 : Below (World.heap w).size w W0 := by rw [e_W0]; go_grown
  have HS_W0 := Lib.hid (show (World.heap W0).size = (World.heap w).size + 1 by rw [e_W0]; simp)
  replace hI := hI.below hb_W0
  replace hW := hW.trans (Below.mono hb_W0 hW.size)
  have HE_W0 := Lib.hid e_W0
  clear e_W0
  go_wp2_with fail
  rw [← HE_W0.out] at hx_W0 ⊢
  clear HE_W0
  obtain ⟨hl_x, x0, x1⟩ := hx_W0
  obtain ⟨Bx, e_Bx⟩ : ∃ Bx, Bx = (World.heap w).size := ⟨_, rfl⟩
  rw [← e_Bx] at hl_x x0 x1 hb_W0 HS_W0  ⊢
  have hz_Bx := hb_W0.size
  clear e_Bx hb_W0
  have hown : OwnI (W0.alloc (.cells #[] 3)) W0.heap.size (.slice (some ⟨Bx + 1, 0, none⟩) 0 0) [] := by
    have := OwnI.empty (base := W0.heap.size) W0 (Nat.le_refl _)
    rwa [show (some (Addr.mk W0.heap.size 0 none)) = some ⟨Bx + 1, 0, none⟩ by rw [HS_W0.out]] at this
  have hb2 : Below W0.heap.size W0 (W0.alloc (.cells #[] 3)) := by go_grown
  obtain ⟨W2, eW2⟩ : ∃ W2, W2 = W0.alloc (.cells #[] 3) := ⟨_, rfl⟩
  rw [← eW2] at hown hb2 ⊢
  have hb0 := hb2
  have HX := Lib.hid (And.intro x0 (And.intro x1 (And.intro hI hW)))
  have h0 : bitsL (fun k => cell ns x k) 0 = [] := rfl
  clear eW2 hv x0 x1 hI hW hb2
  go_loopw [5, 6] (fun s q wr => ∃ (k : Nat) (ao : Option Addr) (co : Nat), k ≤ n ∧ s = .slice ao k co ∧ q = .int .i64 k ∧ OwnI wr W0.heap.size (.slice ao k co) (bitsL (fun k => cell ns x k) k) ∧ Below W0.heap.size W0 wr) (fun _ q _ => n - (intOf q).toNat)
  case atStart => exact ⟨0, _, _, by omega, rfl, rfl, by rw [h0]; exact hown, hb0⟩
  case round =>
    clear hown hb0
    obtain ⟨k, ao, co, hk, rfl, rfl, hown, hbb⟩ := hrel
    obtain ⟨x0, x1, hI, hW⟩ := HX.out
    replace x0 := cellB hbb x0
    replace x1 := cellB hbb x1
    replace hI := hI.below hbb
    replace hW := hW.trans (Below.mono hbb hW.size)
    by_cases hlt : k < n
    · have hki : x < ns.length := by omega
      have hkj : k ≤ 62 := by omega
      have hlM : ((ns.length : Nat) : Int) = (ns.length : Nat) := rfl
      have HG := l11Get_c (n : Int) (.slice A ns.length cap) ns x k hki hkj (by have := h64 x; omega) _ hI.ints
      have ez0 : b2i (cell ns x k) = b2i ((fun k => cell ns x k) k) := rfl
      rw [ez0] at HG
      have hts := bits_succ (fun k => cell ns x k) k
      obtain ⟨z, ez⟩ : ∃ z, z = b2i ((fun k => cell ns x k) k) := ⟨_, rfl⟩
      rw [← ez] at HG hts
      have hki2 : (k : Int) < (n : Int) := by omega
      clear ez0 ez hki hkj
      go_wp2_with fail
      refine HG.mono ?_
      rintro e wc ⟨rfl, hb⟩
      replace hbb := hbb.trans (hb.mono hbb.size)
      replace x0 := cellB hb x0
      replace x1 := cellB hb x1
      replace hI := hI.below hb
      replace hW := hW.trans (Below.mono hb hW.size)
      replace hown := hown.below hb (Nat.le_refl _)
      have hown2 := hown.alloc (.cells #[.int .i64 z] 3)
      have hb3 : Below W0.heap.size wc (wc.alloc (.cells #[.int .i64 z] 3)) := (Below.refl _ wc).alloc hbb.size _
      have hbs : W0.heap.size ≤ (wc.alloc (.cells #[.int .i64 z] 3)).heap.size := Nat.le_trans hbb.size hb3.size
      have hlen : (bitsL (fun k => cell ns x k) k).length + ([z] : List Int).length ≤ 16777216 := by rw [length_bits]; simp; omega
      have hone := Ints.one wc z 3
      have HH := Lib.hid (And.intro hown2 (And.intro hbs (And.intro hlen (And.intro hone (And.intro hb3 (And.intro hbb hts))))))
      clear hown2 hbs hlen hone hb3 hbb hts hown HG
      go_wp2_with (at_builtin; refine wpList_app (v := .slice ao k co) (ys := [z]) rfl (.tmp 14) (.tmp 19) rfl rfl HH.out.1 rfl HH.out.2.2.2.1 HH.out.2.2.1 HH.out.2.1 ?_; intro v6 w6 hown6 hgr6 _ _)
      obtain ⟨hown2, hbs, hlen, hone, hb3, hbb, hts⟩ := HH.out
      rw [← hts] at hown6
      obtain ⟨a6, c6, rfl⟩ : ∃ a c, v6 = .slice a (k + 1) c := by
        obtain ⟨a, c, e⟩ := hown6.ints.len
        rw [length_bits] at e
        exact ⟨a, c, e⟩
      refine ⟨⟨k + 1, a6, c6, by omega, rfl, by go_num, hown6, Below.app (hbb.trans hb3) hown2 hgr6 (Nat.le_refl _) hbs⟩, by simp [intOf]; omega⟩
    · have ek : k = n := by omega
      rw [ek] at hown ⊢
      have EK := Lib.hid ek
      clear ek
      have hsz : w.heap.size ≤ W0.heap.size := by have h1 := HX.out.2.2.2.size; omega
      have HO := Lib.hid (hown.more hsz)
      clear hown
      go_wp2
      go_returns
      exact ⟨_, rfl, HO.out, hW⟩
set_option maxHeartbeats 4000000 in
theorem l31Col_c (n : Nat) (v : Value) (ns : List Nat) (hV : VImg n ns) (x : Nat) (hx : x < n) (w : World) (hv : Ints w.heap.size w v (casts ns)) :
    Calls Tryd.prog 94 #[.agg #[.int .i64 (n : Int), v], .int .i64 (x : Int)] w (OwnOut w (bitsL (fun k => cell ns k x) ns.length)) := by
  obtain ⟨A, cap, rfl⟩ := hv.len
  rw [length_casts] at hv ⊢
  have h6 := hV.h6
  have w6 := hV.w6
  have h64 := hV.get64
  have hI := Arg.new hv
  have hW := Below.refl w.heap.size w
  go_enter Tryd.func94, Tryd.ntmps94
  obtain ⟨W0, e_W0⟩ : ∃ W0, W0 = World.alloc w (.cells #[.int .i64 (n : Int), .slice A ns.length cap] 27) := ⟨_, rfl⟩
  have hx_W0 := Box2.new w (.int .i64 (n : Int)) (.slice A ns.length cap) 27
  have hb_W0 : Below (World.heap w).size w W0 := by rw [e_W0]; go_grown
  have HS_W0 := Lib.hid (show (World.heap W0).size = (World.heap w).size + 1 by rw [e_W0]; simp)
  replace hI := hI.below hb_W0
  replace hW := hW.trans (Below.mono hb_W0 hW.size)
  have HE_W0 := Lib.hid e_W0
  clear e_W0
  go_wp2_with fail
  rw [← HE_W0.out] at hx_W0 ⊢
  clear HE_W0
  obtain ⟨hl_x, x0, x1⟩ := hx_W0
  obtain ⟨Bx, e_Bx⟩ : ∃ Bx, Bx = (World.heap w).size := ⟨_, rfl⟩
  rw [← e_Bx] at hl_x x0 x1 hb_W0 HS_W0  ⊢
  have hz_Bx := hb_W0.size
  clear e_Bx hb_W0
  have hown : OwnI (W0.alloc (.cells #[] 3)) W0.heap.size (.slice (some ⟨Bx + 1, 0, none⟩) 0 0) [] := by
    have := OwnI.empty (base := W0.heap.size) W0 (Nat.le_refl _)
    rwa [show (some (Addr.mk W0.heap.size 0 none)) = some ⟨Bx + 1, 0, none⟩ by rw [HS_W0.out]] at this
  have hb2 : Below W0.heap.size W0 (W0.alloc (.cells #[] 3)) := by go_grown
  obtain ⟨W2, eW2⟩ : ∃ W2, W2 = W0.alloc (.cells #[] 3) := ⟨_, rfl⟩
  rw [← eW2] at hown hb2 ⊢
  have hb0 := hb2
  have HX := Lib.hid (And.intro x0 (And.intro x1 (And.intro hI hW)))
  have h0 : bitsL (fun k => cell ns k x) 0 = [] := rfl
  clear eW2 hv x0 x1 hI hW hb2
  go_loopw [5, 6] (fun s q wr => ∃ (k : Nat) (ao : Option Addr) (co : Nat), k ≤ ns.length ∧ s = .slice ao k co ∧ q = .int .i64 k ∧ OwnI wr W0.heap.size (.slice ao k co) (bitsL (fun k => cell ns k x) k) ∧ Below W0.heap.size W0 wr) (fun _ q _ => ns.length - (intOf q).toNat)
  case atStart => exact ⟨0, _, _, by omega, rfl, rfl, by rw [h0]; exact hown, hb0⟩
  case round =>
    clear hown hb0
    obtain ⟨k, ao, co, hk, rfl, rfl, hown, hbb⟩ := hrel
    obtain ⟨x0, x1, hI, hW⟩ := HX.out
    replace x0 := cellB hbb x0
    replace x1 := cellB hbb x1
    replace hI := hI.below hbb
    replace hW := hW.trans (Below.mono hbb hW.size)
    by_cases hlt : k < ns.length
    · have hki : k < ns.length := by omega
      have hkj : x ≤ 62 := by omega
      have hlM : ((n : Nat) : Int) = (n : Nat) := rfl
      have HG := l11Get_c (n : Int) (.slice A ns.length cap) ns k x hki hkj (by have := h64 k; omega) _ hI.ints
      have ez0 : b2i (cell ns k x) = b2i ((fun k => cell ns k x) k) := rfl
      rw [ez0] at HG
      have hts := bits_succ (fun k => cell ns k x) k
      obtain ⟨z, ez⟩ : ∃ z, z = b2i ((fun k => cell ns k x) k) := ⟨_, rfl⟩
      rw [← ez] at HG hts
      have hki2 : (k : Int) < (ns.length : Int) := by omega
      clear ez0 ez hki hkj
      go_wp2_with fail
      refine HG.mono ?_
      rintro e wc ⟨rfl, hb⟩
      replace hbb := hbb.trans (hb.mono hbb.size)
      replace x0 := cellB hb x0
      replace x1 := cellB hb x1
      replace hI := hI.below hb
      replace hW := hW.trans (Below.mono hb hW.size)
      replace hown := hown.below hb (Nat.le_refl _)
      have hown2 := hown.alloc (.cells #[.int .i64 z] 3)
      have hb3 : Below W0.heap.size wc (wc.alloc (.cells #[.int .i64 z] 3)) := (Below.refl _ wc).alloc hbb.size _
      have hbs : W0.heap.size ≤ (wc.alloc (.cells #[.int .i64 z] 3)).heap.size := Nat.le_trans hbb.size hb3.size
      have hlen : (bitsL (fun k => cell ns k x) k).length + ([z] : List Int).length ≤ 16777216 := by rw [length_bits]; simp; omega
      have hone := Ints.one wc z 3
      have HH := Lib.hid (And.intro hown2 (And.intro hbs (And.intro hlen (And.intro hone (And.intro hb3 (And.intro hbb hts))))))
      clear hown2 hbs hlen hone hb3 hbb hts hown HG
      go_wp2_with (at_builtin; refine wpList_app (v := .slice ao k co) (ys := [z]) rfl (.tmp 15) (.tmp 20) rfl rfl HH.out.1 rfl HH.out.2.2.2.1 HH.out.2.2.1 HH.out.2.1 ?_; intro v6 w6 hown6 hgr6 _ _)
      obtain ⟨hown2, hbs, hlen, hone, hb3, hbb, hts⟩ := HH.out
      rw [← hts] at hown6
      obtain ⟨a6, c6, rfl⟩ : ∃ a c, v6 = .slice a (k + 1) c := by
        obtain ⟨a, c, e⟩ := hown6.ints.len
        rw [length_bits] at e
        exact ⟨a, c, e⟩
      refine ⟨⟨k + 1, a6, c6, by omega, rfl, by go_num, hown6, Below.app (hbb.trans hb3) hown2 hgr6 (Nat.le_refl _) hbs⟩, by simp [intOf]; omega⟩
    · have ek : k = ns.length := by omega
      rw [ek] at hown ⊢
      have EK := Lib.hid ek
      clear ek
      have hsz : w.heap.size ≤ W0.heap.size := by have h1 := HX.out.2.2.2.size; omega
      have HO := Lib.hid (hown.more hsz)
      clear hown
      go_wp2
      go_returns
      exact ⟨_, rfl, HO.out, hW⟩
/-- A cell at which a run begins. -/
def runBb (ns : List Nat) (c : Nat × Nat) : Bool := cell ns c.1 c.2 && !(decide (0 < c.2) && cell ns c.1 (c.2 - 1))
theorem row_runs {n : Nat} {ns : List Nat} (hV : VImg n ns) (i : Nat) : ((List.range n).filter fun j => runBb ns (i, j)).length = runsC (ns.getD i 0) := by
  have w6 := hV.w6
  have e : ((List.range 6).filter fun j => runBb ns (i, j)) = (List.range n).filter fun j => runBb ns (i, j) := by
    have h : ∀ d, ((List.range (n + d)).filter fun j => runBb ns (i, j)) = (List.range n).filter fun j => runBb ns (i, j) := by
      intro d
      induction d with
      | zero => rfl
      | succ d ih =>
        rw [← Nat.add_assoc, List.range_succ, List.filter_append, ih]
        have : runBb ns (i, n + d) = false := by
          have : cell ns i (n + d) = false := by
            rw [← Bool.not_eq_true]
            intro h
            have := (hV.cell_in h).2
            omega
          simp [runBb, this]
        simp [this]
    have := h (6 - n)
    rwa [show n + (6 - n) = 6 by omega] at this
  unfold runsC
  rw [← e]
  rfl
theorem runs_rowB {n : Nat} {ns : List Nat} (hV : VImg n ns) (i : Nat) : runsB (fun k => cell ns i k) n = runsC (ns.getD i 0) := row_runs hV i
theorem runs_colB {n : Nat} {ns : List Nat} (hV : VImg n ns) {j : Nat} (hj : j < n) : runsB (fun k => cell ns k j) ns.length = runsC ((turnL n ns).getD j 0) := by
  have h := row_runs (vimg_turn hV) j
  rw [← h]
  unfold runsB
  congr 1
  refine List.filter_congr fun k hk => ?_
  have hk := List.mem_range.1 hk
  have e : ∀ i, i < ns.length → cell (turnL n ns) j i = cell ns i j := fun i hi => by
    unfold turnL
    rw [cell_mk]
    simp [hj, hi]
  unfold runBb
  dsimp only
  rw [e k hk, e (k - 1) (by omega)]
theorem cvxB_no_row {n : Nat} {ns : List Nat} {k : Nat} (hk : k < ns.length) (h : 1 < runsC (ns.getD k 0)) : cvxB n ns = false :=
  oneRun_no (k := k) (by rw [List.length_append]; omega) (by rw [getD_app_l hk]; exact h)
theorem cvxB_no_col {n : Nat} {ns : List Nat} {k : Nat} (hk : k < n) (h : 1 < runsC ((turnL n ns).getD k 0)) : cvxB n ns = false := by
  have hl : (turnL n ns).length = n := length_mk _ _ _
  exact oneRun_no (k := ns.length + k) (by rw [List.length_append, hl]; omega) (by rw [getD_app_r (by omega), show ns.length + k - ns.length = k by omega]; exact h)
theorem cvxB_yes {n : Nat} {ns : List Nat} (h1 : ∀ k, k < ns.length → runsC (ns.getD k 0) ≤ 1) (h2 : ∀ k, k < n → runsC ((turnL n ns).getD k 0) ≤ 1) : cvxB n ns = true := by
  have hl : (turnL n ns).length = n := length_mk _ _ _
  refine oneRun_yes fun k hk => ?_
  rw [List.length_append, hl] at hk
  by_cases h : k < ns.length
  · rw [getD_app_l h]; exact h1 k h
  · rw [getD_app_r (by omega)]; exact h2 _ (by omega)
set_option maxHeartbeats 2000000 in
theorem sRowRuns_c (n : Nat) (v : Value) (ns : List Nat) (hV : VImg n ns) (x : Nat) (hx : x < ns.length) (w : World) (hv : Ints w.heap.size w v (casts ns)) :
    Calls Tryd.prog 80 #[.agg #[.int .i64 (n : Int), v], .int .i64 (x : Int)] w (LenOut w (runsC (ns.getD x 0))) := by
  obtain ⟨A, cap, rfl⟩ := hv.len
  rw [length_casts] at hv ⊢
  have h1 := hV.h1
  have h6 := hV.h6
  have w1 := hV.w1
  have w6 := hV.w6
  have hI := Arg.new hv
  have hW := Below.refl w.heap.size w
  have hl := runs_rowB hV x
  obtain ⟨m, em⟩ : ∃ m, m = runsC (ns.getD x 0) := ⟨_, rfl⟩
  rw [← em] at hl ⊢
  have HL := Lib.hid hl
  clear em
  clear hl hv
  go_enter Tryd.func80, Tryd.ntmps80
  obtain ⟨W0, e_W0⟩ : ∃ W0, W0 = World.alloc w (.cells #[.int .i64 (n : Int), .slice A ns.length cap] 27) := ⟨_, rfl⟩
  have hx_W0 := Box2.new w (.int .i64 (n : Int)) (.slice A ns.length cap) 27
  have hb_W0 : Below (World.heap w).size w W0 := by rw [e_W0]; go_grown
  have HS_W0 := Lib.hid (show (World.heap W0).size = (World.heap w).size + 1 by rw [e_W0]; simp)
  replace hI := hI.below hb_W0
  replace hW := hW.trans (Below.mono hb_W0 hW.size)
  have HE_W0 := Lib.hid e_W0
  clear e_W0
  go_wp2_with fail
  rw [← HE_W0.out] at hx_W0 ⊢
  clear HE_W0
  obtain ⟨hl_x, x0, x1⟩ := hx_W0
  obtain ⟨Bx, e_Bx⟩ : ∃ Bx, Bx = (World.heap w).size := ⟨_, rfl⟩
  rw [← e_Bx] at hl_x x0 x1 hb_W0 HS_W0  ⊢
  have hz_Bx := hb_W0.size
  clear e_Bx hb_W0
  refine (sImageValid_c (n : Int) _ (casts ns) _ hI.ints).mono ?_
  rintro e wc ⟨rfl, hb⟩
  replace hI := hI.below hb
  replace hW := hW.trans (Below.mono hb hW.size)
  replace x0 := cellB hb x0
  replace x1 := cellB hb x1
  rw [validB_of hV]
  go_wp2_with fail
  refine (l6In_yes (x : Int) 0 ((ns.length : Nat) - 1 : Int) (by omega) _).mono ?_
  rintro e w' ⟨rfl, rfl⟩
  go_wp2_with fail
  refine (l31Row_c n _ ns hV x hx _ hI.ints).mono ?_
  rintro e wc ⟨v1, rfl, hown, hb⟩
  replace hI := hI.below hb
  replace hW := hW.trans (Below.mono hb hW.size)
  replace x0 := cellB hb x0
  replace x1 := cellB hb x1
  go_wp2_with fail
  have HSZ := Lib.hid hW.size
  refine (l31Runs_c (fun k => cell ns x k) (n) (by omega) (by omega) _ _ hown.ints).mono ?_
  rintro e wd ⟨ao, co, xs, rfl, hxl, hown2, hb⟩
  replace hI := hI.below hb
  replace hW := hW.trans (Below.mono hb hW.size)
  replace x0 := cellB hb x0
  replace x1 := cellB hb x1
  have hsz := HSZ.out
  rw [HL.out] at hxl hown2 ⊢
  have HR := Lib.hid (And.intro hxl (And.intro (hown2.more hsz) hW))
  clear hxl hown2 hown
  go_wp2
  go_returns
  exact ⟨ao, co, xs, rfl, HR.out.1, HR.out.2.1, HR.out.2.2⟩
set_option maxHeartbeats 2000000 in
theorem sColRuns_c (n : Nat) (v : Value) (ns : List Nat) (hV : VImg n ns) (x : Nat) (hx : x < n) (w : World) (hv : Ints w.heap.size w v (casts ns)) :
    Calls Tryd.prog 81 #[.agg #[.int .i64 (n : Int), v], .int .i64 (x : Int)] w (LenOut w (runsC ((turnL n ns).getD x 0))) := by
  obtain ⟨A, cap, rfl⟩ := hv.len
  rw [length_casts] at hv ⊢
  have h1 := hV.h1
  have h6 := hV.h6
  have w1 := hV.w1
  have w6 := hV.w6
  have hI := Arg.new hv
  have hW := Below.refl w.heap.size w
  have hl := runs_colB hV hx
  obtain ⟨m, em⟩ : ∃ m, m = runsC ((turnL n ns).getD x 0) := ⟨_, rfl⟩
  rw [← em] at hl ⊢
  have HL := Lib.hid hl
  clear em
  clear hl hv
  go_enter Tryd.func81, Tryd.ntmps81
  obtain ⟨W0, e_W0⟩ : ∃ W0, W0 = World.alloc w (.cells #[.int .i64 (n : Int), .slice A ns.length cap] 27) := ⟨_, rfl⟩
  have hx_W0 := Box2.new w (.int .i64 (n : Int)) (.slice A ns.length cap) 27
  have hb_W0 : Below (World.heap w).size w W0 := by rw [e_W0]; go_grown
  have HS_W0 := Lib.hid (show (World.heap W0).size = (World.heap w).size + 1 by rw [e_W0]; simp)
  replace hI := hI.below hb_W0
  replace hW := hW.trans (Below.mono hb_W0 hW.size)
  have HE_W0 := Lib.hid e_W0
  clear e_W0
  go_wp2_with fail
  rw [← HE_W0.out] at hx_W0 ⊢
  clear HE_W0
  obtain ⟨hl_x, x0, x1⟩ := hx_W0
  obtain ⟨Bx, e_Bx⟩ : ∃ Bx, Bx = (World.heap w).size := ⟨_, rfl⟩
  rw [← e_Bx] at hl_x x0 x1 hb_W0 HS_W0  ⊢
  have hz_Bx := hb_W0.size
  clear e_Bx hb_W0
  refine (sImageValid_c (n : Int) _ (casts ns) _ hI.ints).mono ?_
  rintro e wc ⟨rfl, hb⟩
  replace hI := hI.below hb
  replace hW := hW.trans (Below.mono hb hW.size)
  replace x0 := cellB hb x0
  replace x1 := cellB hb x1
  rw [validB_of hV]
  go_wp2_with fail
  refine (l6In_yes (x : Int) 0 ((n : Nat) - 1 : Int) (by omega) _).mono ?_
  rintro e w' ⟨rfl, rfl⟩
  go_wp2_with fail
  refine (l31Col_c n _ ns hV x hx _ hI.ints).mono ?_
  rintro e wc ⟨v1, rfl, hown, hb⟩
  replace hI := hI.below hb
  replace hW := hW.trans (Below.mono hb hW.size)
  replace x0 := cellB hb x0
  replace x1 := cellB hb x1
  go_wp2_with fail
  have HSZ := Lib.hid hW.size
  refine (l31Runs_c (fun k => cell ns k x) (ns.length) (by omega) (by omega) _ _ hown.ints).mono ?_
  rintro e wd ⟨ao, co, xs, rfl, hxl, hown2, hb⟩
  replace hI := hI.below hb
  replace hW := hW.trans (Below.mono hb hW.size)
  replace x0 := cellB hb x0
  replace x1 := cellB hb x1
  have hsz := HSZ.out
  rw [HL.out] at hxl hown2 ⊢
  have HR := Lib.hid (And.intro hxl (And.intro (hown2.more hsz) hW))
  clear hxl hown2 hown
  go_wp2
  go_returns
  exact ⟨ao, co, xs, rfl, HR.out.1, HR.out.2.1, HR.out.2.2⟩
set_option maxHeartbeats 4000000 in
theorem sImageConvex_c (W : Int) (v : Value) (rows : List Int) (w : World) (hv : Ints w.heap.size w v rows) :
    Calls Tryd.prog 54 #[.agg #[.int .i64 W, v]] w fun e w' => e = .returned (.bool (cvxO W rows)) ∧ Below w.heap.size w w' := by
  obtain ⟨A, cap, rfl⟩ := hv.len
  have hI := Arg.new hv
  have hW := Below.refl w.heap.size w
  go_enter Tryd.func54, Tryd.ntmps54
  obtain ⟨W0, e_W0⟩ : ∃ W0, W0 = World.alloc w (.cells #[.int .i64 W, .slice A rows.length cap] 27) := ⟨_, rfl⟩
  have hx_W0 := Box2.new w (.int .i64 W) (.slice A rows.length cap) 27
  have hb_W0 : Below (World.heap w).size w W0 := by rw [e_W0]; go_grown
  have HS_W0 := Lib.hid (show (World.heap W0).size = (World.heap w).size + 1 by rw [e_W0]; simp)
  replace hI := hI.below hb_W0
  replace hW := hW.trans (Below.mono hb_W0 hW.size)
  have HE_W0 := Lib.hid e_W0
  clear e_W0
  go_wp2_with fail
  rw [← HE_W0.out] at hx_W0 ⊢
  clear HE_W0
  obtain ⟨hl_x, x0, x1⟩ := hx_W0
  obtain ⟨Bx, e_Bx⟩ : ∃ Bx, Bx = (World.heap w).size := ⟨_, rfl⟩
  rw [← e_Bx] at hl_x x0 x1 hb_W0 HS_W0  ⊢
  have hz_Bx := hb_W0.size
  clear e_Bx hb_W0
  clear hv
  refine (sImageValid_c W _ rows _ hI.ints).mono ?_
  rintro e wc ⟨rfl, hb⟩
  replace hI := hI.below hb
  replace hW := hW.trans (Below.mono hb hW.size)
  replace x0 := cellB hb x0
  replace x1 := cellB hb x1
  cases hval : validB W rows with
  | false =>
    have HM := Lib.hid (cvxO_no hval)
    clear hval
    go_wp2
    go_returns
    exact ⟨rb HM.out.symm, hW⟩
  | true =>
    obtain ⟨n, ns, rfl, rfl, hV⟩ := validB_yes hval
    have HM := Lib.hid (cvxO_yes hV)
    rw [length_casts] at x1 hI ⊢
    have h6 := hV.h6
    have w6 := hV.w6
    have hbw := Below.refl wc.heap.size wc
    have HX := Lib.hid (And.intro x0 (And.intro x1 (And.intro hI hW)))
    clear hval hb x0 x1 hI hW
    go_wp2_with fail
    go_loopw [3] (fun q wr => ∃ k : Nat, k ≤ ns.length ∧ q = .int .i64 k ∧ (∀ i, i < k → runsC (ns.getD i 0) ≤ 1) ∧ Below wc.heap.size wc wr) (fun q _ => ns.length - (intOf q).toNat)
    case atStart => exact ⟨0, by omega, rfl, fun i hi => by omega, hbw⟩
    case round =>
      clear hbw
      obtain ⟨k, hk, rfl, hall, hbw⟩ := hrel
      have HA := Lib.hid hall
      obtain ⟨x0, x1, hI, hW⟩ := HX.out
      replace x0 := cellB hbw x0
      replace x1 := cellB hbw x1
      replace hI := hI.below hbw
      replace hW := hW.trans (Below.mono hbw hW.size)
      clear hall
      by_cases hkl : k < ns.length
      · have HR := fun w h => sRowRuns_c n (.slice A ns.length cap) ns hV k hkl w h
        obtain ⟨m, em⟩ : ∃ m, m = runsC (ns.getD k 0) := ⟨_, rfl⟩
        simp only [← em] at HR
        have hm6 : m ≤ 6 := by rw [em]; exact runs_le _ (hV.get64 k)
        have EM := Lib.hid em
        clear em
        go_wp2_with fail
        refine (HR _ hI.ints).mono ?_
        rintro e wd ⟨ao, co, xs, rfl, hxl, _, hb⟩
        replace hbw := hbw.trans (hb.mono hbw.size)
        replace x0 := cellB hb x0
        replace x1 := cellB hb x1
        replace hI := hI.below hb
        replace hW := hW.trans (Below.mono hb hW.size)
        clear HR hxl
        by_cases hm : 1 < m
        · have HF := Lib.hid (cvxB_no_row (n := n) hkl (by rw [← EM.out]; exact hm))
          go_wp2
          go_returns
          exact ⟨rb (by rw [HM.out, HF.out]), hW⟩
        · go_wp2
          go_roundw
          case rel =>
            refine ⟨k + 1, by omega, by go_num, fun i hi => ?_, hbw⟩
            by_cases e : i = k
            · subst e; rw [← EM.out]; omega
            · exact HA.out i (by omega)
          case measure => simp [intOf]; omega
      · obtain rfl : k = ns.length := by omega
        go_wp2_with fail
        clear x0 x1 hI hW
        go_loopw [4] (fun q wr => ∃ k : Nat, k ≤ n ∧ q = .int .i64 k ∧ (∀ i, i < k → runsC ((turnL n ns).getD i 0) ≤ 1) ∧ Below wc.heap.size wc wr) (fun q _ => n - (intOf q).toNat)
        case atStart => exact ⟨0, by omega, rfl, fun i hi => by omega, hbw⟩
        case round =>
          clear hbw
          obtain ⟨k, hk, rfl, hall, hbw⟩ := hrel
          have HB := Lib.hid hall
          obtain ⟨x0, x1, hI, hW⟩ := HX.out
          replace x0 := cellB hbw x0
          replace x1 := cellB hbw x1
          replace hI := hI.below hbw
          replace hW := hW.trans (Below.mono hbw hW.size)
          clear hall
          by_cases hkl : k < n
          · have HR := fun w h => sColRuns_c n (.slice A ns.length cap) ns hV k hkl w h
            obtain ⟨m, em⟩ : ∃ m, m = runsC ((turnL n ns).getD k 0) := ⟨_, rfl⟩
            simp only [← em] at HR
            have hm6 : m ≤ 6 := by rw [em]; exact runs_le _ ((vimg_turn hV).get64 k)
            have EM := Lib.hid em
            clear em
            go_wp2_with fail
            refine (HR _ hI.ints).mono ?_
            rintro e wd ⟨ao, co, xs, rfl, hxl, _, hb⟩
            replace hbw := hbw.trans (hb.mono hbw.size)
            replace x0 := cellB hb x0
            replace x1 := cellB hb x1
            replace hI := hI.below hb
            replace hW := hW.trans (Below.mono hb hW.size)
            clear HR hxl
            by_cases hm : 1 < m
            · have HF := Lib.hid (cvxB_no_col (ns := ns) hkl (by rw [← EM.out]; exact hm))
              go_wp2
              go_returns
              exact ⟨rb (by rw [HM.out, HF.out]), hW⟩
            · go_wp2
              go_roundw
              case rel =>
                refine ⟨k + 1, by omega, by go_num, fun i hi => ?_, hbw⟩
                by_cases e : i = k
                · subst e; rw [← EM.out]; omega
                · exact HB.out i (by omega)
              case measure => simp [intOf]; omega
          · have HF := Lib.hid (cvxB_yes (n := n) (ns := ns) HA.out fun i hi => HB.out i (by omega))
            go_wp2
            go_returns
            exact ⟨rb (by rw [HM.out, HF.out]), hW⟩
end Go.Proofs.YtilahcpjjaikgaaDoor
end
