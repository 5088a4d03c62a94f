/- Contract of DrawGhostMove. Conditions: the code's slice can be read. -/
import Derived.Test.YtbpjceffkchmbaaDoorTG9
import Derived.Test.YtbpjceffkchmbaaDoorMPS
import Derived.Test.YtbpjceffkchmbaaDoorApp
import Derived.Test.YtbpjceffkchmbaaDoorMT
import Derived.Test.YtbpjceffkchmbaaDoorTW
import Derived.Deep.DeepCutAuto
import Derived.Deep.CutBlock
namespace Go.Proofs.YtbpjceffkchmbaaDoor
open Go.RowKit
/-- The lists of directions that are drawn. -/
def DL : List (List Nat) := [[0], [1], [2], [3], [0, 1], [0, 2], [1, 2], [2, 3], [0, 1, 2], [1, 0], [3, 1]]
/-- What is known of a drawn list. -/
def dlOk (ds : List Nat) : Bool := decide (1 ≤ ds.length ∧ ds.length ≤ 3) && (ds.all fun d => decide (d < 4)) && gOk ds && dif (casts ds) ds.length && decide ((gh ds).1 ≤ 3 ∧ (gh ds).2.1 ≤ 3)
theorem dl_ok : ∀ ds ∈ DL, dlOk ds = true := by decide +kernel
/-- What is known of a drawn list whose first direction is appended. -/
def dlOk2 (ds : List Nat) : Bool := gOk (ds ++ [ds.getD 0 0]) && !dif (casts (ds ++ [ds.getD 0 0])) (ds.length + 1)
theorem dl_ok2 : ∀ ds ∈ DL, dlOk2 ds = true := by decide +kernel
/-- The memory of the drawing: the result's box, the reader R. -/
structure DG (w W : World) (R K : Nat) : Prop where
  c0 : W.cell? ⟨w.heap.size, 0, none⟩ = some (.int .i64 0)
  c1 : W.cell? ⟨w.heap.size, 1, none⟩ = some (.slice none 0 0)
  f0 : W.frozen? ⟨w.heap.size, 0, none⟩ = false
  f1 : W.frozen? ⟨w.heap.size, 1, none⟩ = false
  rd : Rd W R K
  bel : Below w.heap.size w W
  lt : w.heap.size < R
theorem DG.only {w W W' : World} {R K K' : Nat} (d : DG w W R K) (hg : W.grownBy W' (some R)) (hr : Rd W' R K') : DG w W' R K' :=
  have hne : w.heap.size ≠ R := Nat.ne_of_lt d.lt
  ⟨cell_only hg d.c0 hne, cell_only hg d.c1 hne, frozen_only hg d.c0 hne d.f0, frozen_only hg d.c1 hne d.f1, hr, d.bel.grown hg d.bel.size (fun k e => by cases e; exact Nat.le_of_lt d.lt), d.lt⟩
theorem DG.below {w W W' : World} {R K : Nat} (d : DG w W R K) (hb : Below W.heap.size W W') : DG w W' R K :=
  ⟨cellB hb d.c0, cellB hb d.c1, frozenB hb d.c0 d.f0, frozenB hb d.c1 d.f1, d.rd.below hb d.rd.1, d.bel.trans (hb.mono d.bel.size), d.lt⟩
theorem DG.put {w W W' : World} {R K g : Nat} (d : DG w W R K) (hg : W.grownBy W' (some g)) (hR : R < g) : DG w W' R K :=
  have hlt := d.lt
  have hne : w.heap.size ≠ g := by omega
  ⟨cell_only hg d.c0 hne, cell_only hg d.c1 hne, frozen_only hg d.c0 hne d.f0, frozen_only hg d.c1 hne d.f1, d.rd.only hg hR, d.bel.grown hg d.bel.size (fun k e => by cases e; omega), d.lt⟩
theorem DG.more {w W : World} {R K K' : Nat} (d : DG w W R K) (h : K ≤ K') : DG w W R K' := ⟨d.c0, d.c1, d.f0, d.f1, d.rd.more h, d.bel, d.lt⟩
theorem own_new (W : World) (xs : List Int) {base : Nat} (hb : base ≤ W.heap.size) (hl : xs.length ≤ 100) : OwnI (W.alloc (.cells (xs.map (Value.int .i64)).toArray 3)) base (.slice (some ⟨W.heap.size, 0, none⟩) xs.length xs.length) xs :=
  OwnI.of_row (heap_alloc_new W _) hb (by unfold maxLen; omega)
theorem OwnI.onlyG {W W' : World} {R : Nat} {v : Value} {xs : List Int} (h : OwnI W (R + 1) v xs) (hg : W.grownBy W' (some R)) : OwnI W' (R + 1) v xs := by
  refine ⟨h.1, ?_⟩
  rcases h.2 with h2 | ⟨g, cap, cur, e, hgb, hh, r⟩
  · exact .inl h2
  · exact .inr ⟨g, cap, cur, e, hgb, (hg.block g (Array.getElem?_eq_some_iff.1 hh).1 (fun e => by injection e with e; omega)).trans hh, r⟩
/-- The seven lists, and the list of them. -/
def W7 (W : World) : World := (((((((W.alloc (.cells #[.int .i64 0, .int .i64 1] 3)).alloc (.cells #[.int .i64 0, .int .i64 2] 3)).alloc (.cells #[.int .i64 1, .int .i64 2] 3)).alloc (.cells #[.int .i64 2, .int .i64 3] 3)).alloc (.cells #[.int .i64 0, .int .i64 1, .int .i64 2] 3)).alloc (.cells #[.int .i64 1, .int .i64 0] 3)).alloc (.cells #[.int .i64 3, .int .i64 1] 3)).alloc (.cells #[.slice (some ⟨W.heap.size, 0, none⟩) 2 2, .slice (some ⟨W.heap.size + 1, 0, none⟩) 2 2, .slice (some ⟨W.heap.size + 1 + 1, 0, none⟩) 2 2, .slice (some ⟨W.heap.size + 1 + 1 + 1, 0, none⟩) 2 2, .slice (some ⟨W.heap.size + 1 + 1 + 1 + 1, 0, none⟩) 3 3, .slice (some ⟨W.heap.size + 1 + 1 + 1 + 1 + 1, 0, none⟩) 2 2, .slice (some ⟨W.heap.size + 1 + 1 + 1 + 1 + 1 + 1, 0, none⟩) 2 2] 23)
theorem own_at (V : World) (ds : List Nat) {base g : Nat} {o : Obj} (hg : V.heap.size = g) (hb : base ≤ g) (hl : ds.length ≤ 100) (ho : o = .cells ((casts ds).map (Value.int .i64)).toArray 3) : OwnI (V.alloc o) base (.slice (some ⟨g, 0, none⟩) ds.length ds.length) (casts ds) := by
  subst hg ho
  have := own_new V (casts ds) hb (by rw [length_casts]; exact hl)
  rw [length_casts] at this
  exact this
theorem lists7 {W : World} {R : Nat} (hb : R + 1 ≤ W.heap.size) {p : Nat} (hp : p < 7) : ∃ ds ∈ DL, ∃ g, (W7 W).cell? ⟨W.heap.size + 1 + 1 + 1 + 1 + 1 + 1 + 1, p, none⟩ = some (.slice (some ⟨g, 0, none⟩) ds.length ds.length) ∧ OwnI (W7 W) (R + 1) (.slice (some ⟨g, 0, none⟩) ds.length ds.length) (casts ds) := by
  unfold W7
  rcases (show p = 0 ∨ p = 1 ∨ p = 2 ∨ p = 3 ∨ p = 4 ∨ p = 5 ∨ p = 6 by omega) with rfl | rfl | rfl | rfl | rfl | rfl | rfl
  · have h := own_at W [0, 1] (base := R + 1) (g := W.heap.size) (o := (.cells #[.int .i64 0, .int .i64 1] 3)) rfl (by omega) (by decide) rfl
    exact ⟨[0, 1], by decide, W.heap.size, by go_cell, (((((((h.alloc _).alloc _).alloc _).alloc _).alloc _).alloc _).alloc _)⟩
  · have h := own_at (W.alloc (.cells #[.int .i64 0, .int .i64 1] 3)) [0, 2] (base := R + 1) (g := W.heap.size + 1) (o := (.cells #[.int .i64 0, .int .i64 2] 3)) (by simp) (by omega) (by decide) rfl
    exact ⟨[0, 2], by decide, W.heap.size + 1, by go_cell, ((((((h.alloc _).alloc _).alloc _).alloc _).alloc _).alloc _)⟩
  · have h := own_at ((W.alloc (.cells #[.int .i64 0, .int .i64 1] 3)).alloc (.cells #[.int .i64 0, .int .i64 2] 3)) [1, 2] (base := R + 1) (g := W.heap.size + 1 + 1) (o := (.cells #[.int .i64 1, .int .i64 2] 3)) (by simp) (by omega) (by decide) rfl
    exact ⟨[1, 2], by decide, W.heap.size + 1 + 1, by go_cell, (((((h.alloc _).alloc _).alloc _).alloc _).alloc _)⟩
  · have h := own_at (((W.alloc (.cells #[.int .i64 0, .int .i64 1] 3)).alloc (.cells #[.int .i64 0, .int .i64 2] 3)).alloc (.cells #[.int .i64 1, .int .i64 2] 3)) [2, 3] (base := R + 1) (g := W.heap.size + 1 + 1 + 1) (o := (.cells #[.int .i64 2, .int .i64 3] 3)) (by simp) (by omega) (by decide) rfl
    exact ⟨[2, 3], by decide, W.heap.size + 1 + 1 + 1, by go_cell, ((((h.alloc _).alloc _).alloc _).alloc _)⟩
  · have h := own_at ((((W.alloc (.cells #[.int .i64 0, .int .i64 1] 3)).alloc (.cells #[.int .i64 0, .int .i64 2] 3)).alloc (.cells #[.int .i64 1, .int .i64 2] 3)).alloc (.cells #[.int .i64 2, .int .i64 3] 3)) [0, 1, 2] (base := R + 1) (g := W.heap.size + 1 + 1 + 1 + 1) (o := (.cells #[.int .i64 0, .int .i64 1, .int .i64 2] 3)) (by simp) (by omega) (by decide) rfl
    exact ⟨[0, 1, 2], by decide, W.heap.size + 1 + 1 + 1 + 1, by go_cell, (((h.alloc _).alloc _).alloc _)⟩
  · have h := own_at (((((W.alloc (.cells #[.int .i64 0, .int .i64 1] 3)).alloc (.cells #[.int .i64 0, .int .i64 2] 3)).alloc (.cells #[.int .i64 1, .int .i64 2] 3)).alloc (.cells #[.int .i64 2, .int .i64 3] 3)).alloc (.cells #[.int .i64 0, .int .i64 1, .int .i64 2] 3)) [1, 0] (base := R + 1) (g := W.heap.size + 1 + 1 + 1 + 1 + 1) (o := (.cells #[.int .i64 1, .int .i64 0] 3)) (by simp) (by omega) (by decide) rfl
    exact ⟨[1, 0], by decide, W.heap.size + 1 + 1 + 1 + 1 + 1, by go_cell, ((h.alloc _).alloc _)⟩
  · have h := own_at ((((((W.alloc (.cells #[.int .i64 0, .int .i64 1] 3)).alloc (.cells #[.int .i64 0, .int .i64 2] 3)).alloc (.cells #[.int .i64 1, .int .i64 2] 3)).alloc (.cells #[.int .i64 2, .int .i64 3] 3)).alloc (.cells #[.int .i64 0, .int .i64 1, .int .i64 2] 3)).alloc (.cells #[.int .i64 1, .int .i64 0] 3)) [3, 1] (base := R + 1) (g := W.heap.size + 1 + 1 + 1 + 1 + 1 + 1) (o := (.cells #[.int .i64 3, .int .i64 1] 3)) (by simp) (by omega) (by decide) rfl
    exact ⟨[3, 1], by decide, W.heap.size + 1 + 1 + 1 + 1 + 1 + 1, by go_cell, (h.alloc _)⟩
/-- The drawn image in the box Bx. -/
structure DIm (W : World) (R Bx gd n gi : Nat) (ns : List Nat) : Prop where
  hn : n = 4 ∨ n = 5
  V : VImg n ns
  len : ns.length = n
  x0 : W.cell? ⟨Bx, 0, none⟩ = some (.int .i64 (n : Int))
  x1 : W.cell? ⟨Bx, 1, none⟩ = some (.slice (some ⟨gi, 0, none⟩) n n)
  xf0 : W.frozen? ⟨Bx, 0, none⟩ = false
  xf1 : W.frozen? ⟨Bx, 1, none⟩ = false
  row : Row W gi (casts ns)
  lo : R < gi
  ne : gi ≠ Bx
  ned : gi ≠ gd
  Rx : R < Bx
  nedx : gd ≠ Bx
theorem DIm.only {W W' : World} {R Bx gd n gi : Nat} {ns : List Nat} (d : DIm W R Bx gd n gi ns) (hg : W.grownBy W' (some R)) : DIm W' R Bx gd n gi ns :=
  have h1 : Bx ≠ R := Nat.ne_of_gt d.Rx
  ⟨d.hn, d.V, d.len, cell_only hg d.x0 h1, cell_only hg d.x1 h1, frozen_only hg d.x0 h1 d.xf0, frozen_only hg d.x1 h1 d.xf1, d.row.of_block (hg.block gi d.row.lt (fun e => by injection e with e; have := d.lo; omega)), d.lo, d.ne, d.ned, d.Rx, d.nedx⟩
theorem DIm.below {W W' : World} {R Bx gd n gi : Nat} {ns : List Nat} (d : DIm W R Bx gd n gi ns) (hb : Below W.heap.size W W') : DIm W' R Bx gd n gi ns :=
  ⟨d.hn, d.V, d.len, cellB hb d.x0, cellB hb d.x1, frozenB hb d.x0 d.xf0, frozenB hb d.x1 d.xf1, d.row.below hb d.row.lt, d.lo, d.ne, d.ned, d.Rx, d.nedx⟩
theorem OwnI.offG {W W' : World} {base gd n cap g : Nat} {xs : List Int} (h : OwnI W base (.slice (some ⟨gd, 0, none⟩) n cap) xs) (hg : W.grownBy W' (some g)) (hne : gd ≠ g) : OwnI W' base (.slice (some ⟨gd, 0, none⟩) n cap) xs := by
  refine ⟨h.1, ?_⟩
  rcases h.2 with h2 | ⟨g', cap', cur, e, hgb, hh, r⟩
  · exact .inl h2
  · have e2 := e
    injection e2 with e3
    injection e3 with e3
    injection e3 with e3
    subst e3
    exact .inr ⟨gd, cap', cur, e, hgb, (hg.block gd (Array.getElem?_eq_some_iff.1 hh).1 (fun e => by injection e with e; exact hne e)).trans hh, r⟩
theorem Row.far2D {W : World} {g b : Nat} {xs : List Int} (hr : Row W g xs) (hne : g ≠ b) (u v : Value) : Row ((W.setCell ⟨b, 0, none⟩ u).setCell ⟨b, 1, none⟩ v) g xs := (hr.far hne _).far hne _
theorem dl_facts {ds : List Nat} (h : ds ∈ DL) : (1 ≤ ds.length ∧ ds.length ≤ 3) ∧ (∀ k, k < ds.length → ds.getD k 0 < 4) ∧ gOk ds = true ∧ dif (casts ds) ds.length = true ∧ (gh ds).1 ≤ 3 ∧ (gh ds).2.1 ≤ 3 := by
  have := dl_ok ds h
  unfold dlOk at this
  simp only [Bool.and_eq_true, decide_eq_true_eq, List.all_eq_true] at this
  obtain ⟨⟨⟨⟨h1, h2⟩, h3⟩, h4⟩, h5⟩ := this
  refine ⟨h1, fun k hk => ?_, h3, h4, h5⟩
  rw [List.getD_eq_getElem?_getD, List.getElem?_eq_getElem hk]
  exact h2 _ (List.getElem_mem hk)
theorem DIm.put {W W' : World} {R Bx gd n gi : Nat} {ns ms : List Nat} (d : DIm W R Bx gd n gi ns) (hg : W.grownBy W' (some gi)) (hr : Row W' gi (casts ms)) (hV : VImg n ms) (hl : ms.length = n) : DIm W' R Bx gd n gi ms :=
  have h1 : Bx ≠ gi := Ne.symm d.ne
  ⟨d.hn, hV, hl, cell_only hg d.x0 h1, cell_only hg d.x1 h1, frozen_only hg d.x0 h1 d.xf0, frozen_only hg d.x1 h1 d.xf1, hr, d.lo, d.ne, d.ned, d.Rx, d.nedx⟩
theorem W7_below (W : World) : Below W.heap.size W (W7 W) := by unfold W7; go_grown
theorem OwnI.capD {w : World} {base : Nat} {A : Option Addr} {len cap : Nat} {xs : List Int} (h : OwnI w base (.slice A len cap) xs) : len = xs.length ∧ len ≤ cap := by
  rcases h.2 with ⟨e, e2⟩ | ⟨g, c, cur, e, _, _, hnc, _⟩
  · injection e with e3 e4 e5
    exact ⟨by rw [e2, e4], by omega⟩
  · injection e with e3 e4 e5
    exact ⟨e4, by omega⟩
theorem DIm.off {W W' : World} {R Bx gd n gi g : Nat} {ns : List Nat} (d : DIm W R Bx gd n gi ns) (hg : W.grownBy W' (some g)) (h1 : Bx ≠ g) (h2 : gi ≠ g) : DIm W' R Bx gd n gi ns :=
  ⟨d.hn, d.V, d.len, cell_only hg d.x0 h1, cell_only hg d.x1 h1, frozen_only hg d.x0 h1 d.xf0, frozen_only hg d.x1 h1 d.xf1, d.row.only hg h2, d.lo, d.ne, d.ned, d.Rx, d.nedx⟩
theorem res_img_4D {fn : Func} {t u1 u2 u3 u4 : Tmp} (h : fn.results = #[.cell t 25, .tmp u1, .tmp u2, .tmp u3, .tmp u4]) (tmps : Array Value) (w : World) {b : Nat} {x y : Value} (ht : tmps.getD t undef = .pointer (some ⟨b, 0, none⟩)) (h0 : w.cell? ⟨b, 0, none⟩ = some x) (h1 : w.cell? ⟨b, 1, none⟩ = some y) :
    (results fn tmps).run Tryd.prog w = .ok (.tuple #[.agg #[x, y], tmps.getD u1 undef, tmps.getD u2 undef, tmps.getD u3 undef, tmps.getD u4 undef]) w := by
  have ht' : tmps[t]?.getD undef = .pointer (some ⟨b, 0, none⟩) := by rw [← ht, Array.getD_eq_getD_getElem?]
  simp only [results, h]
  simp [go_sem, ht', h0, h1]
/-- The list that is drawn at the end. -/
def DEnd (ds es : List Nat) : Prop := es = ds ∨ es = ds ++ [ds.getD 0 0]
/-- What the drawing gives. -/
def GmOut (w : World) (e : Ending) (w' : World) : Prop := ∃ (n gi : Nat) (ns ds es : List Nat) (A : Option Addr) (cap : Nat) (c : Int) (i j : Nat), e = .returned (.tuple #[.agg #[.int .i64 (n : Int), .slice (some ⟨gi, 0, none⟩) n n], .slice A es.length cap, .int .i64 c, .int .i64 (i : Int), .int .i64 (j : Int)]) ∧ (n = 4 ∨ n = 5) ∧ VImg n ns ∧ ns.length = n ∧ Row w' gi (casts ns) ∧ Ints w'.heap.size w' (.slice A es.length cap) (casts es) ∧ es.length ≤ cap ∧ ds ∈ DL ∧ DEnd ds es ∧ (c = 1 ∨ c = -1) ∧ i + (gh ds).1 ≤ n ∧ j + (gh ds).2.1 ≤ n ∧ Below w.heap.size w w'
/-- The drawn list. -/
def DDs (W : World) (R : Nat) (v : Value) : Prop := ∃ ds ∈ DL, ∃ g cap, v = .slice (some ⟨g, 0, none⟩) ds.length cap ∧ OwnI W (R + 1) v (casts ds)
set_option maxRecDepth 100000 in
set_option maxHeartbeats 8000000 in
theorem DrawGhostMove_c (A : Option Addr) (len cap : Nat) (hlc : len ≤ cap) (w : World) (hc : Code8 w w.heap.size A len) :
    Calls Tryd.prog 11 #[.slice A len cap] w fun e w' => GmOut w e w' := by
  obtain ⟨W0, eW⟩ : ∃ W0, W0 = w.alloc (.cells #[.int .i64 0, .slice none 0 0] 25) := ⟨_, rfl⟩
  have hB0 : Below w.heap.size w W0 := by rw [eW]; go_grown
  have i0 : W0.cell? ⟨w.heap.size, 0, none⟩ = some (.int .i64 0) := by rw [eW]; go_cell
  have i1 : W0.cell? ⟨w.heap.size, 1, none⟩ = some (.slice none 0 0) := by rw [eW]; go_cell
  have if0 : W0.frozen? ⟨w.heap.size, 0, none⟩ = false := by rw [eW]; go_cell
  have if1 : W0.frozen? ⟨w.heap.size, 1, none⟩ = false := by rw [eW]; go_cell
  have hz0 : w.heap.size < W0.heap.size := by rw [eW]; simp
  have hc0 : Code8 W0 W0.heap.size A len := by
    rcases hc with h | ⟨b, off, e, hb, z, hz⟩
    · exact .inl h
    · exact .inr ⟨b, off, e, by omega, z, fun i hi => ⟨cellB hB0 (hz i hi).1, (hz i hi).2⟩⟩
  have HO := l6Open_c A len cap hlc _ hc0
  have HEW := Lib.hid eW
  have H0 := Lib.hid (And.intro i0 (And.intro i1 (And.intro if0 (And.intro if1 (And.intro hB0 hz0)))))
  clear eW hc hc0 i0 i1 if0 if1 hB0 hz0
  go_enter Tryd.func11, Tryd.ntmps11
  go_wp2_with fail
  rw [← HEW.out]
  refine HO.mono ?_
  rintro e w1 ⟨rfl, hR1, hb1⟩
  clear HO
  have hDG : DG w w1 W0.heap.size 0 := by
    obtain ⟨i0, i1, if0, if1, hB0, hz0⟩ := H0.out
    exact ⟨cellB hb1 i0, cellB hb1 i1, frozenB hb1 i0 if0, frozenB hb1 i1 if1, hR1, hB0.trans (hb1.mono hB0.size), hz0⟩
  obtain ⟨R, eR⟩ : ∃ R, R = W0.heap.size := ⟨_, rfl⟩
  rw [← eR] at hDG ⊢
  clear eR hR1 hb1 H0 HEW
  obtain ⟨g0, eg0⟩ : ∃ g, g = w1.heap.size := ⟨_, rfl⟩
  have hb2 : Below w1.heap.size w1 (w1.alloc (.cells #[.int .i64 0, .int .i64 1, .int .i64 2, .int .i64 3] 3)) := by go_grown
  have hDG2 := hDG.below hb2
  have hcs : ∀ z, z < 4 → (w1.alloc (.cells #[.int .i64 0, .int .i64 1, .int .i64 2, .int .i64 3] 3)).cell? ⟨g0, z, none⟩ = some (.int .i64 (z : Int)) := fun z hz => by
    rw [eg0]
    rcases (show z = 0 ∨ z = 1 ∨ z = 2 ∨ z = 3 by omega) with rfl | rfl | rfl | rfl <;> go_cell
  have hRg : R < g0 := by rw [eg0]; exact hDG.rd.1
  have HP1 := pick_c R 0 4 (by omega) (by omega) (by omega) _ hDG2.rd
  rw [show ((4 : Nat) : Int) = 4 from rfl] at HP1
  have H2 := Lib.hid (And.intro hDG2 (And.intro hcs hRg))
  clear hb2 hDG2 hcs hDG
  go_wp2_with fail
  refine HP1.mono ?_
  rintro e w2 ⟨⟨z, rfl, hz⟩, hR2, hg2⟩
  clear HP1
  have hDG := H2.out.1.only hg2 hR2
  have hcz := cell_only hg2 (H2.out.2.1 z hz) (by have := H2.out.2.2; show g0 ≠ R; omega)
  rw [eg0] at hcz
  have hown := own_new w2 [(z : Int)] (base := R + 1) (by have := hDG.rd.1; omega) (by simp)
  have hb3 : Below w2.heap.size w2 (w2.alloc (.cells #[.int .i64 (z : Int)] 3)) := by go_grown
  have hDG3 := hDG.below hb3
  obtain ⟨W3, eW3⟩ : ∃ W, W = w2.alloc (.cells #[.int .i64 (z : Int)] 3) := ⟨_, rfl⟩
  have hown3 : OwnI W3 (R + 1) (.slice (some ⟨w2.heap.size, 0, none⟩) 1 1) [(z : Int)] := by rw [eW3]; exact hown
  rw [← eW3] at hDG3
  have HP := pick_c R 1 2 (by omega) (by omega) (by omega) _ hDG3.rd
  rw [show ((2 : Nat) : Int) = 2 from rfl] at HP
  have H3 := Lib.hid (And.intro hDG3 (And.intro hown3 hz))
  have HEW3 := Lib.hid eW3
  have hzi : (z : Int) < 4 := by omega
  clear H2 hR2 hg2 hDG eg0 hown hb3 hDG3 eW3 hown3
  go_wp2_with fail
  rw [← HEW3.out]
  refine HP.mono ?_
  rintro e w4 ⟨⟨b, rfl, hb⟩, hR4, hg4⟩
  clear HP hcz hz hzi
  have hDG := H3.out.1.only hg4 hR4
  have hown4 := H3.out.2.1.onlyG hg4
  have HD := Lib.hid (And.intro hDG (And.intro hown4 H3.out.2.2))
  clear H3 HEW3 hR4 hg4 hDG hown4
  go_upto_if 27 with fail
  go_cut [8] (fun s W => DDs W R s ∧ DG w W R 3)
  case first =>
    by_cases hb0 : b = 0
    · subst hb0
      have HW7 := Lib.hid (show W7 w4 = _ from rfl)
      have hDG := HD.out.1.below (W7_below w4)
      have hRw : R + 1 ≤ w4.heap.size := HD.out.1.rd.1
      have HP := pick_c R 2 7 (by omega) (by omega) (by omega) _ hDG.rd
      rw [show ((7 : Nat) : Int) = 7 from rfl] at HP
      have HD7 := Lib.hid (And.intro hDG hRw)
      clear hDG hRw HD
      go_wp2_with fail
      refine HP.mono ?_
      rintro e w6 ⟨⟨p, rfl, hp⟩, hR6, hg6⟩
      clear HP
      have hDG := HD7.out.1.only hg6 hR6
      obtain ⟨ds, hds, g, hcl, hown⟩ := lists7 HD7.out.2 hp
      have hcl6 := cell_only hg6 hcl (by have := HD7.out.2; show w4.heap.size + 1 + 1 + 1 + 1 + 1 + 1 + 1 ≠ R; omega)
      have hown6 := hown.onlyG hg6
      have hpi : (p : Int) < 7 := by omega
      have HN := Lib.hid (show DDs w6 R (.slice (some ⟨g, 0, none⟩) ds.length ds.length) ∧ DG w w6 R 3 from ⟨⟨ds, hds, g, _, rfl, hown6⟩, hDG⟩)
      clear hcl hown hown6 hDG HD7 HW7 hR6 hg6 hds
      go_wp2_with fail
      go_meet
      case rel => exact HN.out
    · have hb1 : b = 1 := by omega
      subst hb1
      go_wp2_with fail
      go_meet
      case rel =>
        obtain ⟨hDG, hown4, hz⟩ := HD.out
        refine ⟨⟨[z], ?_, _, 1, rfl, hown4⟩, hDG.more (by omega)⟩
        rcases (show z = 0 ∨ z = 1 ∨ z = 2 ∨ z = 3 by omega) with rfl | rfl | rfl | rfl <;> decide
  case rest =>
    clear HD
    obtain ⟨⟨ds, hds, gd, cd, rfl, hown⟩, hDG⟩ := hcut
    have HP := pick_c R 3 32 (by omega) (by omega) (by omega) wc hDG.rd
    rw [show ((32 : Nat) : Int) = 32 from rfl] at HP
    go_wp2_with fail
    refine HP.mono ?_
    rintro e v0 ⟨⟨a0, rfl, ha0⟩, hR1, hg1⟩
    clear HP
    replace hDG := hDG.only hg1 hR1
    replace hown := hown.onlyG hg1
    clear hR1 hg1
    have HP := pick_c R 4 32 (by omega) (by omega) (by omega) v0 hDG.rd
    rw [show ((32 : Nat) : Int) = 32 from rfl] at HP
    go_wp2_with fail
    refine HP.mono ?_
    rintro e v1 ⟨⟨a1, rfl, ha1⟩, hR1, hg1⟩
    clear HP
    replace hDG := hDG.only hg1 hR1
    replace hown := hown.onlyG hg1
    clear hR1 hg1
    have HP := pick_c R 5 32 (by omega) (by omega) (by omega) v1 hDG.rd
    rw [show ((32 : Nat) : Int) = 32 from rfl] at HP
    go_wp2_with fail
    refine HP.mono ?_
    rintro e v2 ⟨⟨a2, rfl, ha2⟩, hR1, hg1⟩
    clear HP
    replace hDG := hDG.only hg1 hR1
    replace hown := hown.onlyG hg1
    clear hR1 hg1
    have HP := pick_c R 6 32 (by omega) (by omega) (by omega) v2 hDG.rd
    rw [show ((32 : Nat) : Int) = 32 from rfl] at HP
    go_wp2_with fail
    refine HP.mono ?_
    rintro e v3 ⟨⟨a3, rfl, ha3⟩, hR1, hg1⟩
    clear HP
    replace hDG := hDG.only hg1 hR1
    replace hown := hown.onlyG hg1
    clear hR1 hg1
    have HP := pick_c R 7 32 (by omega) (by omega) (by omega) v3 hDG.rd
    rw [show ((32 : Nat) : Int) = 32 from rfl] at HP
    go_wp2_with fail
    refine HP.mono ?_
    rintro e v4 ⟨⟨a4, rfl, ha4⟩, hR1, hg1⟩
    clear HP
    replace hDG := hDG.only hg1 hR1
    replace hown := hown.onlyG hg1
    clear hR1 hg1
    obtain ⟨W9, eW9⟩ : ∃ W, W = (v4.alloc (.cells #[.int .i64 (a0 : Int), .int .i64 (a1 : Int), .int .i64 (a2 : Int), .int .i64 (a3 : Int), .int .i64 (a4 : Int)] 3)).alloc (.cells #[.int .i64 5, .slice (some ⟨v4.heap.size, 0, none⟩) 5 5] 25) := ⟨_, rfl⟩
    have hb9 : Below v4.heap.size v4 W9 := by rw [eW9]; go_grown
    have hgd := hown.own_lt gd rfl
    have hV5 : VImg 5 [a0, a1, a2, a3, a4] := ⟨by omega, by omega, by simp, by simp, fun x hx => by simp at hx; omega⟩
    have hRv : R < v4.heap.size := hDG.rd.1
    have hIm : DIm W9 R (v4.heap.size + 1) gd 5 v4.heap.size [a0, a1, a2, a3, a4] := ⟨.inr rfl, hV5, rfl, by rw [eW9]; go_cell, by rw [eW9]; go_cell, by rw [eW9]; go_cell, by rw [eW9]; go_cell, ⟨[], by
      rw [eW9, Below.heap_alloc _ _ v4.heap.size (by simp), heap_alloc_new]
      rfl⟩, hRv, by omega, by omega, by omega, by omega⟩
    have hDG9 := hDG.below hb9
    have hown9 := hown.below hb9 (Nat.le_refl _)
    have HP := pick_c R 8 2 (by omega) (by omega) (by omega) _ hDG9.rd
    rw [show ((2 : Nat) : Int) = 2 from rfl] at HP
    have HEW9 := Lib.hid eW9
    have H9 := Lib.hid (And.intro hIm (And.intro hDG9 hown9))
    have hbx : v4.heap.size + 1 < W9.heap.size := lt_of_cell hIm.x0
    clear hb9 hgd hV5 hRv hIm hDG9 hown9 eW9 hDG hown ha0 ha1 ha2 ha3 ha4 hbx
    go_wp2_with fail
    rw [← HEW9.out]
    refine HP.mono ?_
    rintro e wa ⟨⟨b, rfl, hb⟩, hR1, hg1⟩
    clear HP
    obtain ⟨Bx, eBx⟩ : ∃ B, B = v4.heap.size + 1 := ⟨_, rfl⟩
    rw [← eBx] at H9 ⊢
    obtain ⟨g5, eg5⟩ : ∃ B, B = v4.heap.size := ⟨_, rfl⟩
    rw [← eg5] at H9
    have HI := Lib.hid (And.intro (H9.out.1.only hg1) (And.intro (H9.out.2.1.only hg1 hR1) (H9.out.2.2.onlyG hg1)))
    clear H9 HEW9 hR1 hg1 eBx eg5
    go_upto_if 54 with fail
    go_cut [] (fun W => ∃ gi n ns, DIm W R Bx gd n gi ns ∧ DG w W R 13 ∧ OwnI W (R + 1) (.slice (some ⟨gd, 0, none⟩) ds.length cd) (casts ds))
    case first =>
      by_cases hb0 : b = 0
      · subst hb0
        obtain ⟨hIm, hDG, hown⟩ := HI.out
        clear HI
        have HP := pick_c R 9 16 (by omega) (by omega) (by omega) wa hDG.rd
        rw [show ((16 : Nat) : Int) = 16 from rfl] at HP
        go_wp2_with fail
        refine HP.mono ?_
        rintro e u0 ⟨⟨c0, rfl, hc0⟩, hR1, hg1⟩
        clear HP
        replace hDG := hDG.only hg1 hR1
        replace hown := hown.onlyG hg1
        replace hIm := hIm.only hg1
        clear hR1 hg1
        have HP := pick_c R 10 16 (by omega) (by omega) (by omega) u0 hDG.rd
        rw [show ((16 : Nat) : Int) = 16 from rfl] at HP
        go_wp2_with fail
        refine HP.mono ?_
        rintro e u1 ⟨⟨c1, rfl, hc1⟩, hR1, hg1⟩
        clear HP
        replace hDG := hDG.only hg1 hR1
        replace hown := hown.onlyG hg1
        replace hIm := hIm.only hg1
        clear hR1 hg1
        have HP := pick_c R 11 16 (by omega) (by omega) (by omega) u1 hDG.rd
        rw [show ((16 : Nat) : Int) = 16 from rfl] at HP
        go_wp2_with fail
        refine HP.mono ?_
        rintro e u2 ⟨⟨c2, rfl, hc2⟩, hR1, hg1⟩
        clear HP
        replace hDG := hDG.only hg1 hR1
        replace hown := hown.onlyG hg1
        replace hIm := hIm.only hg1
        clear hR1 hg1
        have HP := pick_c R 12 16 (by omega) (by omega) (by omega) u2 hDG.rd
        rw [show ((16 : Nat) : Int) = 16 from rfl] at HP
        go_wp2_with fail
        refine HP.mono ?_
        rintro e u3 ⟨⟨c3, rfl, hc3⟩, hR1, hg1⟩
        clear HP
        replace hDG := hDG.only hg1 hR1
        replace hown := hown.onlyG hg1
        replace hIm := hIm.only hg1
        clear hR1 hg1
        have hb4 : Below u3.heap.size u3 (u3.alloc (.cells #[.int .i64 (c0 : Int), .int .i64 (c1 : Int), .int .i64 (c2 : Int), .int .i64 (c3 : Int)] 3)) := by go_grown
        have hV4 : VImg 4 [c0, c1, c2, c3] := ⟨by omega, by omega, by simp, by simp, fun x hx => by simp at hx; omega⟩
        have hrow : Row (u3.alloc (.cells #[.int .i64 (c0 : Int), .int .i64 (c1 : Int), .int .i64 (c2 : Int), .int .i64 (c3 : Int)] 3)) u3.heap.size (casts [c0, c1, c2, c3]) := ⟨[], by rw [heap_alloc_new]; rfl⟩
        have HB := Lib.hid (And.intro hIm (And.intro hDG (And.intro hown (And.intro hb4 (And.intro hV4 hrow)))))
        have x0 := cellB hb4 hIm.x0
        have x1 := cellB hb4 hIm.x1
        have xf0 := frozenB hb4 hIm.x0 hIm.xf0
        have xf1 := frozenB hb4 hIm.x1 hIm.xf1
        clear hIm hDG hown hb4 hV4 hrow hc0 hc1 hc2 hc3
        go_wp2_with fail
        go_meet
        case rel =>
          obtain ⟨hIm, hDG, hown, hb4, hV4, hrow⟩ := HB.out
          have hgd := hown.own_lt gd rfl
          have hBl := lt_of_cell hIm.x0
          have hRl := hDG.rd.1
          have hBl2 : Bx < u3.heap.size := hBl
          have hq := set2_get (x := .int .i64 4) (y := .slice (some ⟨u3.heap.size, 0, none⟩) 4 4) x0 x1
          have hgr : (u3.alloc (.cells #[.int .i64 (c0 : Int), .int .i64 (c1 : Int), .int .i64 (c2 : Int), .int .i64 (c3 : Int)] 3)).grownBy (((u3.alloc (.cells #[.int .i64 (c0 : Int), .int .i64 (c1 : Int), .int .i64 (c2 : Int), .int .i64 (c3 : Int)] 3)).setCell ⟨Bx, 0, none⟩ (.int .i64 4)).setCell ⟨Bx, 1, none⟩ (.slice (some ⟨u3.heap.size, 0, none⟩) 4 4)) (some Bx) := only_setCell (only_setCell (World.grownBy.refl _ _) (p := ⟨Bx, 0, none⟩) (.inl rfl) _) (p := ⟨Bx, 1, none⟩) (.inl rfl) _
          exact ⟨u3.heap.size, 4, [c0, c1, c2, c3], ⟨.inl rfl, hV4, rfl, hq.1, hq.2, by rw [World.frozen?_setCell, World.frozen?_setCell]; exact xf0, by rw [World.frozen?_setCell, World.frozen?_setCell]; exact xf1, hrow.far2D (by omega) _ _, hRl, by omega, by omega, hIm.Rx, hIm.nedx⟩, (hDG.below hb4).put hgr hIm.Rx, (hown.below hb4 (Nat.le_refl _)).offG hgr hIm.nedx⟩
      · have hb1 : b = 1 := by omega
        subst hb1
        go_wp2_with fail
        go_meet
        case rel => exact ⟨_, _, _, HI.out.1, HI.out.2.1.more (by omega), HI.out.2.2⟩
    case rest =>
      clear HI
      obtain ⟨gi, n, ns, hIm, hDG, hown⟩ := hcut
      obtain ⟨hl3, h4, hG, hdif, hgs3⟩ := dl_facts hds
      have hn45 := hIm.hn
      have HGO := sGhostOf_c ds hl3.1 (by omega) h4 hG (some ⟨gd, 0, none⟩) cd wc (by
        have := hown.ints
        exact this)
      rw [hdif] at HGO
      have hg1 := (gOk_s hG (Nat.le_refl ds.length)).1
      rw [List.take_length] at hg1
      have HC := Lib.hid (And.intro hIm (And.intro hDG (And.intro hown (And.intro hl3 (And.intro h4 (And.intro hG (And.intro hdif hds)))))))
      have hRw : R < wc.heap.size := hDG.rd.1
      have hBw : Bx < wc.heap.size := lt_of_cell hIm.x0
      have hgw : gi < wc.heap.size := hIm.row.lt
      clear hIm hDG hown hl3 h4 hG hdif hds
      go_wp2_with fail
      refine HGO.mono ?_
      intro e wb ho
      obtain ⟨gG, cG, gsG, rfl, hTG, hgG, hgsG, hcG, hbG⟩ := ho.yes rfl
      clear HGO ho
      have hIm := HC.out.1.below hbG
      have hDG := HC.out.2.1.below hbG
      have hown := HC.out.2.2.1.below hbG (Nat.le_refl _)
      have hTR : gG ≠ R ∧ ∀ i, i < (gh ds).1 → gsG.getD i 0 ≠ R := ⟨by omega, fun i hi => by have := hgsG i hi; omega⟩
      have hTi : gG ≠ gi ∧ ∀ i, i < (gh ds).1 → gsG.getD i 0 ≠ gi := ⟨by omega, fun i hi => by have := hgsG i hi; omega⟩
      obtain ⟨h, eh⟩ : ∃ h, h = (gh ds).1 := ⟨_, rfl⟩
      obtain ⟨m, em⟩ : ∃ h, h = (gh ds).2.1 := ⟨_, rfl⟩
      obtain ⟨T, eT⟩ : ∃ h, h = (gh ds).2.2 := ⟨_, rfl⟩
      rw [← eh, ← em, ← eT] at hTG
      rw [← eh] at hTR hTi hgs3 hg1 ⊢
      rw [← em] at hgs3 hg1
      have HEM := Lib.hid (And.intro eh (And.intro em eT))
      have HTV := Lib.hid (show ∀ a b, a < h → b < m → -999 ≤ ent T a b ∧ ent T a b ≤ 999 by rw [eh, em, eT]; have := (gOk_s HC.out.2.2.2.2.2.1 (Nat.le_refl ds.length)).2; rw [List.take_length] at this; exact tv_bd this)
      obtain ⟨D, eD⟩ : ∃ D : Nat, D = n + 1 - h := ⟨_, rfl⟩
      obtain ⟨E, eE⟩ : ∃ D : Nat, D = n + 1 - m := ⟨_, rfl⟩
      have ed : (n : Int) + 1 - (h : Int) = (D : Int) := by omega
      have ee : (n : Int) + 1 - (m : Int) = (E : Int) := by omega
      have hD1 : (1 : Int) < (D : Int) := by omega
      have hE1 : (1 : Int) < (E : Int) := by omega
      have hDn : 1 < D := by omega
      have hEn : 1 < E := by omega
      have hfit : ∀ i, i < D → i + h ≤ n := fun i hi => by omega
      have hfit2 : ∀ i, i < E → i + m ≤ n := fun i hi => by omega
      have HP := pick_c R 13 D (by omega) (by omega) (by omega) wb hDG.rd
      have x0 := hIm.x0
      have x1 := hIm.x1
      have HF := Lib.hid (And.intro hfit (And.intro hfit2 (And.intro hTR hTi)))
      have HW := Lib.hid (And.intro hIm (And.intro hDG (And.intro hown hTG)))
      clear eh em eT eD eE hgG hgsG hcG hbG hIm hDG hown hTG hfit hfit2 hTR hTi
      go_wp2_with fail
      refine HP.mono ?_
      rintro e v10 ⟨⟨i, rfl, hi⟩, hR1, hg2⟩
      clear HP x0 x1
      have hIm := HW.out.1.only hg2
      have hDG := HW.out.2.1.only hg2 hR1
      have hown := HW.out.2.2.1.onlyG hg2
      have hTG := HW.out.2.2.2.only hg2 HF.out.2.2.1.1 HF.out.2.2.1.2
      clear HW hR1 hg2
      have x0 := hIm.x0
      have hc0 := hTG.cell (i := 0) (by omega)
      obtain ⟨gq, egq⟩ : ∃ g, g = gsG.getD 0 0 := ⟨_, rfl⟩
      rw [← egq] at hc0
      unfold rowV at hc0
      have k0 := cell_regrown x0
      have k1 := cell_regrown hc0
      have HEQ := Lib.hid egq
      have HW := Lib.hid (And.intro hIm (And.intro hDG (And.intro hown hTG)))
      clear hIm hDG hown hTG egq
      go_wp2_with fail
      refine wp_region_below_tail 10 (by kernel_rfl) (by kernel_rfl) ?_
      simp only [List.take_succ_cons, List.take_zero, List.drop_succ_cons, List.drop_zero]
      repeat (first | go_big_quiet_step (fail) | quiet_step (fail))
      refine wpQuiet_nil ?_
      intro _ hw0
      obtain ⟨⟨dq, osq⟩, hw1⟩ := hw0
      subst hw1
      have hq := below_regrown v10 dq osq
      generalize Go.Sort.grow (redrawn v10 dq) osq = v11 at hq ⊢
      clear k0 k1 x0 hc0
      have hDG := HW.out.2.1.below hq
      have HP := pick_c R 14 E (by omega) (by omega) (by omega) v11 hDG.rd
      have HW2 := Lib.hid (And.intro (HW.out.1.below hq) (And.intro hDG (And.intro (HW.out.2.2.1.below hq (Nat.le_refl _)) (HW.out.2.2.2.below hq))))
      clear HW hq hDG
      go_wp2_with fail
      refine HP.mono ?_
      rintro e v12 ⟨⟨j, rfl, hj⟩, hR1, hg2⟩
      clear HP
      have hIm := HW2.out.1.only hg2
      have hDG := HW2.out.2.1.only hg2 hR1
      have hown := HW2.out.2.2.1.onlyG hg2
      have hTG := HW2.out.2.2.2.only hg2 HF.out.2.2.1.1 HF.out.2.2.1.2
      have HP := pick_c R 15 2 (by omega) (by omega) (by omega) v12 hDG.rd
      rw [show ((2 : Nat) : Int) = 2 from rfl] at HP
      have HW3 := Lib.hid (And.intro hIm (And.intro hDG (And.intro hown hTG)))
      have HIJ := Lib.hid (And.intro (HF.out.1 i hi) (HF.out.2.1 j hj))
      clear HW2 hR1 hg2 hIm hDG hown hTG hi hj ed ee hD1 hE1 hDn hEn
      go_wp2_with fail
      refine HP.mono ?_
      rintro e v13 ⟨⟨z, rfl, hz⟩, hR1, hg2⟩
      clear HP
      have hIm := HW3.out.1.only hg2
      have hDG := HW3.out.2.1.only hg2 hR1
      have hown := HW3.out.2.2.1.onlyG hg2
      have hTG := HW3.out.2.2.2.only hg2 HF.out.2.2.1.1 HF.out.2.2.1.2
      obtain ⟨c, hcc, ec⟩ : ∃ c : Int, (c = 1 ∨ c = -1) ∧ 1 - 2 * (z : Int) = c := ⟨1 - 2 * (z : Int), by omega, rfl⟩
      have ew1 : IntKind.i64.wrap (2 * (z : Int)) = 2 * (z : Int) := IntWalk.i64_in _ ⟨by omega, by omega⟩
      have ew2 : IntKind.i64.wrap c = c := IntWalk.i64_in _ ⟨by omega, by omega⟩
      have HP := pick_c R 16 8 (by omega) (by omega) (by omega) v13 hDG.rd
      rw [show ((8 : Nat) : Int) = 8 from rfl] at HP
      have HW4 := Lib.hid (And.intro hIm (And.intro hDG (And.intro hown hTG)))
      clear HW3 hR1 hg2 hIm hDG hown hTG
      go_wp2_with fail
      refine HP.mono ?_
      rintro e v14 ⟨⟨q, rfl, hq⟩, hR1, hg2⟩
      clear HP ew1 ec
      have hIm := HW4.out.1.only hg2
      have hDG := HW4.out.2.1.only hg2 hR1
      have hown := HW4.out.2.2.1.onlyG hg2
      have hTG := HW4.out.2.2.2.only hg2 HF.out.2.2.1.1 HF.out.2.2.1.2
      have HW5 := Lib.hid (And.intro hIm (And.intro hDG (And.intro hown hTG)))
      clear HW4 hR1 hg2 hIm hDG hown hTG hz
      go_upto_if 96 with fail
      go_cut [] (fun W => ∃ ms, DIm W R Bx gd n gi ms ∧ DG w W R 17 ∧ OwnI W (R + 1) (.slice (some ⟨gd, 0, none⟩) ds.length cd) (casts ds))
      case first =>
        by_cases hq0 : q = 0
        · subst hq0
          go_wp2_with fail
          go_meet
          case rel => exact ⟨ns, HW5.out.1, HW5.out.2.1, HW5.out.2.2.1⟩
        · have hqi : (0 : Int) < (q : Int) := by omega
          have hqn : 0 < q := by omega
          obtain ⟨hin, hjn⟩ := HIJ.out
          have hqd : decide (0 < q) = true := decide_eq_true hqn
          rw [hqd]
          clear hqd
          go_wp2_with fail
          go_loopw [15] (fun s wr => ∃ (k : Nat) (ms : List Nat), k ≤ h ∧ s = .int .i64 (k : Int) ∧ DIm wr R Bx gd n gi ms ∧ DG w wr R 17 ∧ OwnI wr (R + 1) (.slice (some ⟨gd, 0, none⟩) ds.length cd) (casts ds) ∧ Tbl wr gG h m gsG T) (fun s _ => h - (intOf s).toNat)
          case atStart => exact ⟨0, ns, Nat.zero_le _, rfl, HW5.out⟩
          case round =>
            obtain ⟨k, ms, hk, rfl, hS⟩ := hrel
            by_cases hkl : k < h
            · have hki : (k : Int) < (h : Int) := by omega
              have HS := Lib.hid hS
              clear hS
              go_wp2_with fail
              go_loopw [16] (fun s wr => ∃ (l : Nat) (ms : List Nat), l ≤ m ∧ s = .int .i64 (l : Int) ∧ DIm wr R Bx gd n gi ms ∧ DG w wr R 17 ∧ OwnI wr (R + 1) (.slice (some ⟨gd, 0, none⟩) ds.length cd) (casts ds) ∧ Tbl wr gG h m gsG T) (fun s _ => m - (intOf s).toNat)
              case atStart => exact ⟨0, ms, Nat.zero_le _, rfl, HS.out⟩
              case round =>
                clear HS ms
                obtain ⟨l, ms, hl, rfl, hIm, hDG, hown, hTG⟩ := hrel
                have hc0 := hTG.cell (i := 0) (by omega)
                obtain ⟨gz, egz⟩ : ∃ g, g = gsG.getD 0 0 := ⟨_, rfl⟩
                rw [← egz] at hc0
                unfold rowV at hc0
                by_cases hll : l < m
                · have hli : (l : Int) < (m : Int) := by omega
                  have hck := hTG.cell hkl
                  have hcl := (hTG.row k hkl).cell (k := l) (by rw [hTG.wid k hkl]; exact hll)
                  have hzb := HTV.out k l hkl hll
                  have hent : (T.getD k []).getD l 0 = ent T k l := rfl
                  rw [hent] at hcl
                  obtain ⟨y, ey⟩ : ∃ z, z = ent T k l := ⟨_, rfl⟩
                  rw [← ey] at hcl hzb
                  obtain ⟨gk, egk⟩ : ∃ g, g = gsG.getD k 0 := ⟨_, rfl⟩
                  rw [← egk] at hck hcl
                  unfold rowV at hck
                  have HS := Lib.hid (And.intro hIm (And.intro hDG (And.intro hown hTG)))
                  clear egz egk ey hent
                  go_upto_block 3 with fail
                  go_cut [] (fun W => ∃ ms, DIm W R Bx gd n gi ms ∧ DG w W R 17 ∧ OwnI W (R + 1) (.slice (some ⟨gd, 0, none⟩) ds.length cd) (casts ds) ∧ Tbl W gG h m gsG T)
                  case first =>
                    by_cases hy : y = 0
                    · subst hy
                      go_wp2_with fail
                      go_meet
                      case rel => exact ⟨ms, HS.out⟩
                    · have hyb : (y != 0) = true := by simp [hy]
                      have hyb2 : (y == 0) = false := by simp [hy]
                      have hp1 : (i : Int) + (k : Int) = ((i + k : Nat) : Int) := by omega
                      have hp2 : (j : Int) + (l : Int) = ((j + l : Nat) : Int) := by omega
                      have hpl : i + k < n := by omega
                      have hql : j + l < n := by omega
                      obtain ⟨p1, ep1⟩ : ∃ p, p = i + k := ⟨_, rfl⟩
                      obtain ⟨p2, ep2⟩ : ∃ p, p = j + l := ⟨_, rfl⟩
                      rw [← ep1] at hp1 hpl
                      rw [← ep2] at hp2 hql
                      obtain ⟨t, et⟩ : ∃ t, t = y * c := ⟨_, rfl⟩
                      have htb : -999 ≤ t ∧ t ≤ 999 := by rcases hcc with rfl | rfl <;> omega
                      have et2 : y * c = t := et.symm
                      have ew3 : IntKind.i64.wrap t = t := IntWalk.i64_in _ ⟨by omega, by omega⟩
                      have hlen := hIm.len
                      have hV := hIm.V
                      have HP := fun (W : World) (hW : Below wr.heap.size wr W) => l1Put_h (n : Int) gi n n ms hIm.len p1 p2 hpl (by omega) (hIm.V.get64 p1) (decide (t < 0)) W ((hIm.below hW).row)
                      have HNV := Lib.hid (And.intro (vimg_putL (i := p1) (j := p2) hV (by rw [hlen]; exact hpl) hql (decide (t < 0))) (show (putL ms p1 p2 (decide (t < 0))).length = n by rw [length_putL, hlen]))
                      have b0 := hIm.x0
                      have b1 := hIm.x1
                      have k1 := cell_regrown hcl
                      have k2 := cell_regrown hck
                      have k3 := cell_regrown b0
                      have k4 := cell_regrown b1
                      clear ep1 ep2 et hlen hV htb hIm hDG hown hTG
                      go_wp2_with fail
                      refine wp_region_below_tail 17 (by kernel_rfl) (by kernel_rfl) ?_
                      simp only [List.take_succ_cons, List.take_zero, List.drop_succ_cons, List.drop_zero]
                      repeat (first | go_big_quiet_step (fail) | quiet_step (fail))
                      refine wpQuiet_nil ?_
                      intro _ hw0
                      obtain ⟨⟨dq, osq⟩, hw1⟩ := hw0
                      subst hw1
                      have hq5 := below_regrown wr dq osq
                      generalize Go.Sort.grow (redrawn wr dq) osq = w5 at hq5 ⊢
                      clear k1 k2 k3 k4 b0 b1 hcl hck hc0 hp1 hp2 et2 ew3 hyb hyb2
                      have HQ := HP w5 hq5
                      have HS5 := Lib.hid (And.intro (HS.out.1.below hq5) (And.intro (HS.out.2.1.below hq5) (And.intro (HS.out.2.2.1.below hq5 (Nat.le_refl _)) (HS.out.2.2.2.below hq5))))
                      clear HP hq5 HS
                      go_wp2_with fail
                      with_reducible refine HQ.mono ?_
                      rintro e w6 ⟨rfl, hr6, hg6⟩
                      obtain ⟨ms2, em2⟩ : ∃ x, x = putL ms p1 p2 (decide (t < 0)) := ⟨_, rfl⟩
                      have hV2 := HNV.out.1
                      have hl2 := HNV.out.2
                      rw [← em2] at hr6 hV2 hl2
                      have HN := Lib.hid (And.intro (HS5.out.1.put hg6 hr6 hV2 hl2) (And.intro (HS5.out.2.1.put hg6 HS5.out.1.lo) (And.intro (HS5.out.2.2.1.offG hg6 (Ne.symm HS5.out.1.ned)) (HS5.out.2.2.2.only hg6 HF.out.2.2.2.1 HF.out.2.2.2.2))))
                      clear HQ hr6 hg6 HS5 HNV hV2 hl2 em2
                      go_wp2_with fail
                      go_meet
                      case rel => exact ⟨ms2, HN.out⟩
                  case rest =>
                    clear HS hIm hDG hown hTG hck hcl hc0
                    obtain ⟨ms3, hS3⟩ := hcut
                    have HN := Lib.hid hS3
                    clear hS3
                    go_wp2_with fail
                    go_roundw
                    case rel => exact ⟨l + 1, ms3, by omega, by go_num, HN.out⟩
                    case measure => simp [intOf]; omega
                · have hli : ¬ ((l : Int) < (m : Int)) := by omega
                  have HN := Lib.hid (And.intro hIm (And.intro hDG (And.intro hown hTG)))
                  clear hIm hDG hown hTG egz
                  go_wp2
                  exact ⟨⟨k + 1, ms, by omega, by go_num, HN.out⟩, by simp [intOf]; omega⟩
            · have hki : ¬ ((k : Int) < (h : Int)) := by omega
              have HN := Lib.hid hS
              clear hS
              go_wp2_with fail
              go_meet
              case rel => exact ⟨ms, HN.out.1, HN.out.2.1, HN.out.2.2.1⟩
      case rest =>
        clear HW5
        obtain ⟨ms, hIm, hDG, hown⟩ := hcut
        have HP := pick_c R 17 24 (by omega) (by omega) (by omega) wc hDG.rd
        rw [show ((24 : Nat) : Int) = 24 from rfl] at HP
        have HW6 := Lib.hid (And.intro hIm (And.intro hDG hown))
        clear hIm hDG hown
        go_wp2_with fail
        refine HP.mono ?_
        rintro e v15 ⟨⟨q2, rfl, hq2⟩, hR1, hg2⟩
        clear HP
        have hIm := HW6.out.1.only hg2
        have hDG := HW6.out.2.1.only hg2 hR1
        have hown := HW6.out.2.2.onlyG hg2
        have HW7 := Lib.hid (And.intro hIm (And.intro hDG hown))
        clear HW6 hR1 hg2 hIm hDG hown
        go_upto_if 139 with fail
        go_cut [8] (fun s W => ∃ es, DEnd ds es ∧ OwnI W (R + 1) s (casts es) ∧ DIm W R Bx gd n gi ms ∧ DG w W R 18)
        case first =>
          by_cases hq0 : q2 = 0
          · subst hq0
            obtain ⟨hIm, hDG, hown⟩ := HW7.out
            have hl1 : 0 < ds.length := HC.out.2.2.2.1.1
            have hl3 : ds.length ≤ 3 := HC.out.2.2.2.1.2
            obtain ⟨g', c', e', hg', hrw⟩ := hown.row (by simp)
            have hb3 : Below v15.heap.size v15 (v15.alloc (.cells #[.int .i64 ((ds.getD 0 0 : Nat) : Int)] 3)) := by go_grown
            have hcz : v15.cell? ⟨gd, 0, none⟩ = some (.int .i64 ((ds.getD 0 0 : Nat) : Int)) := by
              injection e' with e1 e2 e3
              injection e1 with e1
              injection e1 with e1
              rw [e1, ← casts_getD]
              exact hrw.cell (by rw [length_casts]; exact hl1)
            obtain ⟨z, ez⟩ : ∃ z : Nat, z = ds.getD 0 0 := ⟨_, rfl⟩
            rw [← ez] at hcz hb3
            have hown2 := hown.alloc (.cells #[.int .i64 (z : Int)] 3)
            have hbs : R + 1 ≤ (v15.alloc (.cells #[.int .i64 (z : Int)] 3)).heap.size := Nat.le_trans hDG.rd.1 hb3.size
            have hlen : (casts ds).length + ([(z : Int)] : List Int).length ≤ 16777216 := by rw [length_casts]; simp; omega
            have hone := Ints.one v15 (z : Int) 3
            obtain ⟨L, eL⟩ : ∃ L, L = ds.length := ⟨_, rfl⟩
            rw [← eL] at hown2 hl1 ⊢
            have hli : (0 : Int) < (L : Int) := by omega
            have HH := Lib.hid (And.intro hown2 (And.intro hbs (And.intro hlen (And.intro hone (And.intro hb3 (And.intro ez (And.intro (hIm.below hb3) (hDG.below hb3))))))))
            clear hIm hDG hown hrw hg' e' hown2 hbs hlen hone hb3 ez eL hl3
            go_wp2_with (at_builtin; refine wpList_app (v := .slice (some ⟨gd, 0, none⟩) L cd) (ys := [(z : Int)]) rfl (.tmp 140) (.tmp 144) rfl rfl HH.out.1 rfl HH.out.2.2.2.1 HH.out.2.2.1 HH.out.2.1 ?_; intro v6 w6 hown6 hgr6 _ _)
            go_meet
            case rel =>
              obtain ⟨hown2, hbs, hlen, hone, hb3, hez, hIm, hDG⟩ := HH.out
              have hgd := hown2.own_lt gd rfl
              have hRg : R < gd := hgd.1
              have hgr7 : (v15.alloc (.cells #[.int .i64 (z : Int)] 3)).grownBy w6 (some gd) := hgr6
              refine ⟨ds ++ [ds.getD 0 0], .inr rfl, ?_, hIm.off hgr7 (Ne.symm hIm.nedx) hIm.ned, (hDG.put hgr7 hRg).more (by omega)⟩
              rw [hez] at hown6
              simpa [casts] using hown6
          · have hqi : ¬ (q2 : Int) = 0 := by omega
            have hqe : ((q2 : Int) == 0) = false := by simp; omega
            go_wp2_with fail
            go_meet
            case rel => exact ⟨ds, .inl rfl, HW7.out.2.2, HW7.out.1, HW7.out.2.1.more (by omega)⟩
        case rest =>
          clear HW7
          obtain ⟨es, hE, hown, hIm, hDG⟩ := hcut
          obtain ⟨A9, cp9, rfl⟩ : ∃ a c, u8 = .slice a es.length c := by
            obtain ⟨a, c, e⟩ := hown.ints.len
            rw [length_casts] at e
            exact ⟨a, c, e⟩
          have x0 := hIm.x0
          have x1 := hIm.x1
          have c0 := hDG.c0
          have c1 := hDG.c1
          have f0 := hDG.f0
          have f1 := hDG.f1
          obtain ⟨q0, q1⟩ := set2_get (x := .int .i64 (n : Int)) (y := .slice (some ⟨gi, 0, none⟩) n n) c0 c1
          have hgr : wc.grownBy ((wc.setCell ⟨w.heap.size, 0, none⟩ (.int .i64 (n : Int))).setCell ⟨w.heap.size, 1, none⟩ (.slice (some ⟨gi, 0, none⟩) n n)) (some w.heap.size) := only_setCell (only_setCell (World.grownBy.refl _ _) (p := ⟨w.heap.size, 0, none⟩) (.inl rfl) _) (p := ⟨w.heap.size, 1, none⟩) (.inl rfl) _
          have HE := Lib.hid (And.intro hE (And.intro hown (And.intro hIm (And.intro hDG hgr))))
          have HCC := Lib.hid hcc
          have HDS := Lib.hid HC.out.2.2.2.2.2.2.2
          clear hE hown hIm hDG hgr hcc HC HTV HF HEQ hRw hBw hgw ew2 hg1 hgs3 hn45
          rename_i ha
          refine ha _ _ ?_
          clear ha
          repeat (rename_i x; clear x)

          iterate 36 (first | go_skip | go_guarded | go_step | go_upon)
          refine bodyPost_ret (res_img_4D rfl _ _ rfl q0 q1) rfl ?_
          obtain ⟨hE, hown, hIm, hDG, hgr⟩ := HE.out
          have hlt := hDG.lt
          have hlo := hIm.lo
          have hb : Below w.heap.size w ((wc.setCell ⟨w.heap.size, 0, none⟩ (.int .i64 (n : Int))).setCell ⟨w.heap.size, 1, none⟩ (.slice (some ⟨gi, 0, none⟩) n n)) := (hDG.bel.setCell (by simp) _).setCell (by simp) _
          have hown' : OwnI ((wc.setCell ⟨w.heap.size, 0, none⟩ (.int .i64 (n : Int))).setCell ⟨w.heap.size, 1, none⟩ (.slice (some ⟨gi, 0, none⟩) n n)) (R + 1) (.slice A9 es.length cp9) (casts es) := (hown.far (fun e => by have := (hown.own_lt _ e).1; simp at this; omega) _).far (fun e => by have := (hown.own_lt _ e).1; simp at this; omega) _
          refine ⟨n, gi, ms, ds, es, A9, cp9, c, i, j, rfl, hIm.hn, hIm.V, hIm.len, hIm.row.far2D (by omega) _ _, hown'.ints, hown'.capD.2, HDS.out, hE, ?_, ?_, ?_, hb⟩
          · exact HCC.out
          · have := HIJ.out.1
            rw [HEM.out.1] at this
            exact this
          · have := HIJ.out.2
            rw [HEM.out.2.1] at this
            exact this
end Go.Proofs.YtbpjceffkchmbaaDoor
