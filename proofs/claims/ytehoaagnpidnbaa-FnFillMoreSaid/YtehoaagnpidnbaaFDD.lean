/- Contract of DrawFillFits: an image and sums out of a code. Conditions: the code's slice can be read. -/
import Derived.Test.YtehoaagnpidnbaaFJ
import Derived.Test.YtehoaagnpidnbaaPD2
import Derived.Deep.RegionWith
namespace Go.Proofs.Ytehoaagnpidnbaa
open Go.RowKit
theorem res_img_2 {fn : Func} {t u v : Tmp} (h : fn.results = #[.cell t 24, .tmp u, .tmp v]) (tmps : Array Value) (w : World) {b : Nat} {x y : Value} (ht : tmps.getD t undef = .pointer (some ⟨b, 0, none⟩)) (h0 : w.cell? ⟨b, 0, none⟩ = some x) (h1 : w.cell? ⟨b, 1, none⟩ = some y) :
    (results fn tmps).run Try.prog w = .ok (.tuple #[.agg #[x, y], tmps.getD u undef, tmps.getD v undef]) w := by
  have ht' : tmps[t]?.getD undef = .pointer (some ⟨b, 0, none⟩) := by rw [← ht, Array.getD_eq_getD_getElem?]
  simp only [results, h]
  simp [go_sem, ht', h0, h1]
theorem DRows.setFar {lo : Nat} {w : World} {v : Value} {rows : List Int} (h : DRows lo w v rows) {p : Addr} (hp : rows ≠ [] → v.ownBlock ≠ some p.block) (u : Value) : DRows lo (w.setCell p u) v rows := by
  by_cases he : rows = []
  · rcases h with h | ⟨g, c, hr, h, hl⟩
    · exact .inl h
    · exact .inl ⟨he, some ⟨g, 0, none⟩, c, by rw [h, he]; rfl⟩
  · rcases h with h | ⟨g, c, hr, h, hl⟩
    · exact .inl h
    · exact .inr ⟨g, c, hr.far (by have := hp he; rw [h] at this; intro e; exact this (by rw [e]; rfl)) _, h, hl⟩
theorem DRows.setOut {lo : Nat} {w : World} {v : Value} {rows : List Int} (h : DRows lo w v rows) {p : Addr} (hp : p.block < lo) (u : Value) : DRows lo (w.setCell p u) v rows := by
  rcases h with h | ⟨g, c, hr, h, hl⟩
  · exact .inl h
  · exact .inr ⟨g, c, hr.far (by omega) _, h, hl⟩
theorem sRowSums_g (W : Int) (v : Value) (rows : List Int) (w : World) (hv : Ints w.heap.size w v rows) : Calls Try.prog 35 #[.agg #[.int .i64 W, v]] w (OwnOut w (rsOf W rows)) := by
  cases hval : validB W rows with
  | false => rw [rsOf_no hval]; exact sRowSums_no W v rows hval w hv
  | true =>
    obtain ⟨n, ns, rfl, rfl, hV⟩ := validB_yes hval
    rw [rsOf_yes hV]
    exact sRowSums_yes n v ns hV w hv
theorem sColSums_g (W : Int) (v : Value) (rows : List Int) (w : World) (hv : Ints w.heap.size w v rows) : Calls Try.prog 36 #[.agg #[.int .i64 W, v]] w (OwnOut w (csOf W rows)) := by
  cases hval : validB W rows with
  | false => rw [csOf_no hval]; exact sColSums_no W v rows hval w hv
  | true =>
    obtain ⟨n, ns, rfl, rfl, hV⟩ := validB_yes hval
    rw [csOf_yes hV]
    exact sColSums_yes n v ns hV w hv
theorem sums_bd (W : Int) (rows : List Int) : (rsOf W rows).length ≤ 6 ∧ (csOf W rows).length ≤ 6 ∧ ∀ j, j < (rsOf W rows).length → 0 ≤ (rsOf W rows).getD j 0 ∧ (rsOf W rows).getD j 0 ≤ 7 := by
  cases hval : validB W rows with
  | false => rw [rsOf_no hval, csOf_no hval]; simp
  | true =>
    obtain ⟨n, ns, rfl, rfl, hV⟩ := validB_yes hval
    rw [rsOf_yes hV, csOf_yes hV, rowSums_len, colSums_len]
    refine ⟨hV.h6, hV.w6, fun j hj => ?_⟩
    rw [rowSums_at hj]
    have := pop_bd n (ns.getD j 0)
    have := hV.w6
    omega
/-- The drawn things. -/
def FitOut (w : World) (e : Ending) (w' : World) : Prop := ∃ (W : Int) (v u t : Value) (rows rs cs : List Int), e = .returned (.tuple #[.agg #[.int .i64 W, v], u, t]) ∧ Ints w'.heap.size w' v rows ∧ rows.length ≤ 6 ∧ Ints w'.heap.size w' u rs ∧ Ints w'.heap.size w' t cs ∧ rs.length ≤ 12 ∧ cs.length ≤ 12 ∧ Below w.heap.size w w'
/-- The memory of the draw behind the sums. -/
structure FM (w W : World) (R T K Bx n1 n2 : Nat) (a1 a2 : Option Addr) (c1 c2 : Nat) (Wd : Int) (v : Value) (rows rs cs : List Int) : Prop where
  two : Two T W (.slice a1 n1 c1) (.slice a2 n2 c2) rs cs
  img : DRows (R + 1) W v rows
  rd : Rd W R K
  r0 : W.cell? ⟨w.heap.size, 0, none⟩ = some (.int .i64 0)
  r1 : W.cell? ⟨w.heap.size, 1, none⟩ = some (.slice none 0 0)
  rf0 : W.frozen? ⟨w.heap.size, 0, none⟩ = false
  rf1 : W.frozen? ⟨w.heap.size, 1, none⟩ = false
  x0 : W.cell? ⟨Bx, 0, none⟩ = some (.int .i64 Wd)
  x1 : W.cell? ⟨Bx, 1, none⟩ = some v
  bel : Below w.heap.size w W
  sz : T ≤ W.heap.size
structure FMOk (w : World) (R T Bx : Nat) (v : Value) (rows : List Int) : Prop where
  wR : w.heap.size < R
  RB : R < Bx
  BT : Bx < T
  vT : rows ≠ [] → ∀ g, v.ownBlock = some g → g < T
section
variable {w W W' : World} {R T K K' Bx n1 n2 : Nat} {a1 a2 : Option Addr} {c1 c2 : Nat} {Wd : Int} {v : Value} {rows rs cs : List Int}
theorem FM.only (h : FM w W R T K Bx n1 n2 a1 a2 c1 c2 Wd v rows rs cs) (ok : FMOk w R T Bx v rows) (hg : W.grownBy W' (some R)) (hr : Rd W' R K') : FM w W' R T K' Bx n1 n2 a1 a2 c1 c2 Wd v rows rs cs := by
  have h1 := ok.wR
  have h2 := ok.RB
  have h3 := ok.BT
  have hwR : w.heap.size ≠ R := by omega
  have hxR : Bx ≠ R := by omega
  exact ⟨h.two.only hg (by omega), h.img.only hg (by omega), hr, cell_only hg h.r0 hwR, cell_only hg h.r1 hwR, frozen_only hg h.r0 hwR h.rf0, frozen_only hg h.r1 hwR h.rf1, cell_only hg h.x0 hxR, cell_only hg h.x1 hxR, h.bel.grown hg h.bel.size (fun k e => by cases e; omega), Nat.le_trans h.sz hg.size⟩
theorem Two.set1 {lo n c k : Nat} {g : Nat} {u : Value} {xs ys : List Int} (h : Two lo W (.slice (some ⟨g, 0, none⟩) n c) u xs ys) (hk : k < xs.length) (z : Int) : Two lo (W.setCell ⟨g, k, none⟩ (.int .i64 z)) (.slice (some ⟨g, 0, none⟩) n c) u (xs.set k z) ys :=
  ⟨h.r.set hk z, h.c.far (by
    cases hu : u.ownBlock with
    | none => simp
    | some b => have := h.ne g b rfl hu; simp; omega) _, h.ne⟩
theorem FM.set {g k : Nat} (h : FM w W R T K Bx n1 n2 (some ⟨g, 0, none⟩) a2 c1 c2 Wd v rows rs cs) (ok : FMOk w R T Bx v rows) (hk : k < rs.length) (z : Int) : FM w (W.setCell ⟨g, k, none⟩ (.int .i64 z)) R T K Bx n1 n2 (some ⟨g, 0, none⟩) a2 c1 c2 Wd v rows (rs.set k z) cs := by
  have h1 := ok.wR
  have h2 := ok.RB
  have h3 := ok.BT
  have hg := (h.two.r.own_lt g rfl).1
  have fr : ∀ (q : Addr) (x : Bool), W.frozen? q = x → (W.setCell ⟨g, k, none⟩ (.int .i64 z)).frozen? q = x := fun q x e => by rw [World.frozen?_setCell]; exact e
  exact ⟨h.two.set1 hk z, h.img.setFar (fun he e => by have := ok.vT he g e; omega) _, h.rd.below (B := R + 1) ((Below.refl (R + 1) W).setCell (by simp; omega) _) (by omega), (World.cell?_setCell_other _ _ _ _ (by first | (simp; done) | (simp; omega))).trans h.r0, (World.cell?_setCell_other _ _ _ _ (by first | (simp; done) | (simp; omega))).trans h.r1, fr _ _ h.rf0, fr _ _ h.rf1, (World.cell?_setCell_other _ _ _ _ (by first | (simp; done) | (simp; omega))).trans h.x0, (World.cell?_setCell_other _ _ _ _ (by first | (simp; done) | (simp; omega))).trans h.x1, h.bel.setCell (by simp; omega) _, by have := h.sz; simpa [World.setCell] using this⟩
/-- The first list where it is not empty. -/
theorem FM.at {k : Nat} (h : FM w W R T K Bx n1 n2 a1 a2 c1 c2 Wd v rows rs cs) (hk : k < rs.length) : ∃ g, a1 = some ⟨g, 0, none⟩ ∧ T ≤ g ∧ W.cell? ⟨g, k, none⟩ = some (.int .i64 (rs.getD k 0)) ∧ W.frozen? ⟨g, k, none⟩ = false := by
  obtain ⟨g, c, e, hg, hr⟩ := h.two.r.form (by omega)
  injection e with e1 e2 e3
  exact ⟨g, e1, hg, hr.cell hk, hr.frozen k⟩
/-- The end: the image and two lists are handed back. -/
theorem FM.fin {u t : Value} {xs ys : List Int} (h : FM w W R T K Bx n1 n2 a1 a2 c1 c2 Wd v rows rs cs) (ok : FMOk w R T Bx v rows) (hl : rows.length ≤ 6) (h2 : Two T W u t xs ys) (hx : xs.length ≤ 12) (hy : ys.length ≤ 12) :
    FitOut w (.returned (.tuple #[.agg #[.int .i64 Wd, v], u, t])) ((W.setCell ⟨w.heap.size, 0, none⟩ (.int .i64 Wd)).setCell ⟨w.heap.size, 1, none⟩ v) ∧ ((W.setCell ⟨w.heap.size, 0, none⟩ (.int .i64 Wd)).setCell ⟨w.heap.size, 1, none⟩ v).cell? ⟨w.heap.size, 0, none⟩ = some (.int .i64 Wd) ∧ ((W.setCell ⟨w.heap.size, 0, none⟩ (.int .i64 Wd)).setCell ⟨w.heap.size, 1, none⟩ v).cell? ⟨w.heap.size, 1, none⟩ = some v := by
  have h1 := ok.wR
  have h3 := ok.RB
  have h4 := ok.BT
  obtain ⟨q0, q1⟩ := set2_get (x := .int .i64 Wd) (y := v) h.r0 h.r1
  have far : ∀ {z : Value} {zs : List Int}, OwnI W T z zs → OwnI ((W.setCell ⟨w.heap.size, 0, none⟩ (.int .i64 Wd)).setCell ⟨w.heap.size, 1, none⟩ v) T z zs := fun {z zs} hz => (hz.far (p := ⟨w.heap.size, 0, none⟩) (fun e => by have := (hz.own_lt _ e).1; simp at this; omega) _).far (p := ⟨w.heap.size, 1, none⟩) (fun e => by have := (hz.own_lt _ e).1; simp at this; omega) _
  refine ⟨⟨Wd, v, u, t, rows, xs, ys, rfl, ?_, hl, (far h2.r).ints, (far h2.c).ints, hx, hy, (h.bel.setCell (by simp) _).setCell (by simp) _⟩, q0, q1⟩
  exact ((h.img.setOut (p := ⟨w.heap.size, 0, none⟩) (by show w.heap.size < R + 1; omega) _).setOut (p := ⟨w.heap.size, 1, none⟩) (by show w.heap.size < R + 1; omega) _).ints
end
set_option maxRecDepth 100000 in
set_option maxHeartbeats 8000000 in
theorem DrawFillFits_c (A : Option Addr) (len cap : Nat) (hlc : len ≤ cap) (w : World) (hc : Code8 w w.heap.size A len) :
    Calls Try.prog 15 #[.slice A len cap] w (FitOut w) := by
  obtain ⟨W0, eW⟩ : ∃ W0, W0 = w.alloc (.cells #[.int .i64 0, .slice none 0 0] 24) := ⟨_, rfl⟩
  have hB0 : Below w.heap.size w W0 := by rw [eW]; go_grown
  have i0 : W0.cell? ⟨w.heap.size, 0, none⟩ = some (.int .i64 0) := by rw [eW]; go_cell
  have i1 : W0.cell? ⟨w.heap.size, 1, none⟩ = some (.slice none 0 0) := by rw [eW]; go_cell
  have if0 : W0.frozen? ⟨w.heap.size, 0, none⟩ = false := by rw [eW]; go_cell
  have if1 : W0.frozen? ⟨w.heap.size, 1, none⟩ = false := by rw [eW]; go_cell
  have hz0 : w.heap.size < W0.heap.size := by rw [eW]; simp
  have hc0 : Code8 W0 W0.heap.size A len := by
    rcases hc with h | ⟨b, off, e, hb, z, hz⟩
    · exact .inl h
    · exact .inr ⟨b, off, e, by omega, z, fun i hi => ⟨cellB hB0 (hz i hi).1, (hz i hi).2⟩⟩
  go_enter Try.func15, Try.ntmps15
  go_wp2_with fail
  rw [← eW]
  clear eW hc
  refine (l6Open_c A len cap hlc _ hc0).mono ?_
  rintro e w1 ⟨rfl, hR1, hb1⟩
  obtain ⟨R, eR⟩ : ∃ R, R = W0.heap.size := ⟨_, rfl⟩
  rw [← eR] at hR1 hz0 ⊢
  have hne : w.heap.size ≠ R := by omega
  have c0 := cellB hb1 i0
  have c1 := cellB hb1 i1
  have f0 := frozenB hb1 i0 if0
  have f1 := frozenB hb1 i1 if1
  have hbw1 : Below w.heap.size w w1 := hB0.trans (hb1.mono hB0.size)
  clear eR i0 i1 if0 if1 hb1 hB0 hc0
  go_wp2_with fail
  refine (l91Wrong_r R 0 36 (by omega) (by omega) (by omega) _ hR1).mono ?_
  rintro e w2 ⟨⟨Wd, v, rows, rfl, hI, hl6⟩, hg, hrd⟩
  have hsz1 := hR1.1
  have hI2 : DRows (R + 1) w2 v rows := by
    rcases hI with h | ⟨g, c, hr, h, hlo⟩
    · exact .inl h
    · exact .inr ⟨g, c, hr, h, by omega⟩
  have hv2 : rows ≠ [] → ∀ g, v.ownBlock = some g → g < w2.heap.size := fun he g e => by
    rcases hI with ⟨h, _⟩ | ⟨g', c, hr, h, _⟩
    · exact (he h).elim
    · rw [h] at e
      simp [Value.ownBlock] at e
      rw [← e]
      exact hr.lt
  have hBw2 : Below w.heap.size w w2 := hbw1.grown hg hbw1.size (fun k e => by cases e; omega)
  have d0 := cell_only hg c0 hne
  have d1 := cell_only hg c1 hne
  have g0 := frozen_only hg c0 hne f0
  have g1' := frozen_only hg c1 hne f1
  obtain ⟨ao, co, rfl⟩ := DRows.form hI2
  have hsz2 := hrd.1
  clear hI hg c0 c1 f0 f1 hR1 hbw1
  obtain ⟨W3, eW⟩ : ∃ W, W = w2.alloc (.cells #[.int .i64 Wd, .slice ao rows.length co] 24) := ⟨_, rfl⟩
  have hb3 : Below w2.heap.size w2 W3 := by rw [eW]; go_grown
  have x0 : W3.cell? ⟨w2.heap.size, 0, none⟩ = some (.int .i64 Wd) := by rw [eW]; go_cell
  have x1 : W3.cell? ⟨w2.heap.size, 1, none⟩ = some (.slice ao rows.length co) := by rw [eW]; go_cell
  have hz3 : W3.heap.size = w2.heap.size + 1 := by rw [eW]; simp
  obtain ⟨Bx, eB⟩ : ∃ b, b = w2.heap.size := ⟨_, rfl⟩
  have HE := Lib.hid eW
  have hI3 := hI2.below hb3
  have hrd3 := hrd.below hb3 hrd.1
  have e0 := cellB hb3 d0
  have e1 := cellB hb3 d1
  have j0 := frozenB hb3 d0 g0
  have j1 := frozenB hb3 d1 g1'
  have hBw3 := hBw2.trans (hb3.mono hBw2.size)
  rw [← eB] at x0 x1 hz3 hsz2 hv2
  have ok : FMOk w R W3.heap.size Bx (.slice ao rows.length co) rows := ⟨by omega, by omega, by omega, fun he g e => by have := hv2 he g e; omega⟩
  have HI3 := Lib.hid (And.intro hI3 (And.intro hrd3 (And.intro hBw3 (And.intro hl6 ok))))
  have HEB := Lib.hid eB
  have y0 := x0
  have y1 := x1
  rw [eB] at y0 y1
  rw [eW] at y0 y1
  clear eW eB hI2 hrd d0 d1 g0 g1' hBw2 hb3 hI3 hrd3 hBw3 hv2 hl6 ok
  go_wp2_with fail
  rw [← HE.out, ← HEB.out]
  clear y0 y1 HE
  refine (sRowSums_g Wd _ rows _ HI3.out.1.ints).mono ?_
  rintro e w4 ⟨v1, rfl, ho1, hb4⟩
  have x0 := cellB hb4 x0
  have x1 := cellB hb4 x1
  have e0 := cellB hb4 e0
  have e1 := cellB hb4 e1
  have j0 := frozenB hb4 ‹W3.cell? ⟨w.heap.size, 0, none⟩ = some (.int .i64 0)› j0
  have j1 := frozenB hb4 ‹W3.cell? ⟨w.heap.size, 1, none⟩ = some (.slice none 0 0)› j1
  obtain ⟨a1, c1, ev1⟩ := ho1.ints.len
  subst ev1
  have HI4 := Lib.hid (And.intro (HI3.out.1.below hb4) (And.intro (HI3.out.2.1.below hb4 HI3.out.2.1.1) (And.intro (HI3.out.2.2.1.trans (hb4.mono HI3.out.2.2.1.size)) (And.intro ho1 hb4.size))))
  clear ho1 hb4
  go_wp2_with fail
  refine (sColSums_g Wd _ rows _ HI4.out.1.ints).mono ?_
  rintro e w5 ⟨v2, rfl, ho2, hb5⟩
  obtain ⟨a2, c2, ev2⟩ := ho2.ints.len
  subst ev2
  have hm5 : FM w w5 R W3.heap.size 12 Bx (rsOf Wd rows).length (csOf Wd rows).length a1 a2 c1 c2 Wd (.slice ao rows.length co) rows (rsOf Wd rows) (csOf Wd rows) :=
    { two := ⟨HI4.out.2.2.2.1.below hb5 (Nat.le_refl _), ho2.more HI4.out.2.2.2.2, fun a b ha hb => by
        have h1 := (HI4.out.2.2.2.1.own_lt a ha).2
        have h2 := (ho2.own_lt b hb).1
        omega⟩
      img := HI4.out.1.below hb5
      rd := (HI4.out.2.1.below hb5 HI4.out.2.1.1)
      r0 := cellB hb5 e0
      r1 := cellB hb5 e1
      rf0 := frozenB hb5 e0 j0
      rf1 := frozenB hb5 e1 j1
      x0 := cellB hb5 x0
      x1 := cellB hb5 x1
      bel := HI4.out.2.2.1.trans (hb5.mono HI4.out.2.2.1.size)
      sz := Nat.le_trans HI4.out.2.2.2.2 hb5.size }
  obtain ⟨hn1, hn2, hbd⟩ := sums_bd Wd rows
  have hok := HI3.out.2.2.2.2
  have hl6 := HI3.out.2.2.2.1
  obtain ⟨T, eT⟩ : ∃ T, T = W3.heap.size := ⟨_, rfl⟩
  rw [← eT] at hm5 hok
  obtain ⟨rs, ers⟩ : ∃ rs, rs = rsOf Wd rows := ⟨_, rfl⟩
  obtain ⟨cs, ecs⟩ : ∃ cs, cs = csOf Wd rows := ⟨_, rfl⟩
  rw [← ers] at hm5 hn1 hbd ⊢
  rw [← ecs] at hm5 hn2 ⊢
  obtain ⟨n1, en1⟩ : ∃ n, n = rs.length := ⟨_, rfl⟩
  obtain ⟨n2, en2⟩ : ∃ n, n = cs.length := ⟨_, rfl⟩
  rw [← en1] at hm5 hn1 hbd ⊢
  rw [← en2] at hm5 hn2 ⊢
  have HM5 := Lib.hid (And.intro hm5 (And.intro hbd (And.intro en1 en2)))
  clear hm5 hbd en1 en2 ers ecs eT HI4 HI3 HEB x0 x1 e0 e1 j0 j1 ho2 hb5
  go_wp2_with fail
  go_loopw [9] (fun q wr => ∃ (k : Nat) (xs : List Int), k ≤ n1 ∧ q = .int .i64 k ∧ xs.length = n1 ∧ (∀ j, j < n1 → 0 ≤ xs.getD j 0 ∧ xs.getD j 0 ≤ 7) ∧ FM w wr R T (12 + k) Bx n1 n2 a1 a2 c1 c2 Wd (.slice ao rows.length co) rows xs cs) (fun q _ => n1 - (intOf q).toNat)
  case atStart => exact ⟨0, rs, Nat.zero_le _, rfl, HM5.out.2.2.1.symm, HM5.out.2.1, HM5.out.1⟩
  case round =>
    obtain ⟨k, xs, hk, rfl, hxl, hxb, hm⟩ := hrel
    by_cases hkl : k < n1
    · have hkx : k < xs.length := by omega
      obtain ⟨g, rfl, hgT, q0, qf⟩ := hm.at hkx
      have hb := hxb k hkl
      obtain ⟨x, ex⟩ : ∃ x, x = xs.getD k 0 := ⟨_, rfl⟩
      rw [← ex] at q0 hb
      have hgR : g ≠ R := by have := hok.RB; have := hok.BT; omega
      have hrd' : Rd wr.drew R (12 + k) := hm.rd
      have HP : Calls Try.prog 37 #[.pointer (some ⟨R, 0, none⟩), .int .i64 2] wr.drew fun e w' => Num 2 e ∧ Rd w' R (12 + k + 1) ∧ wr.drew.grownBy w' (some R) := pick_c R (12 + k) 2 (by omega) (by omega) (by omega) wr.drew hrd'
      have HM := Lib.hid (And.intro hm (And.intro hxl (And.intro hxb hkx)))
      clear hm hxl hxb ex hrd'
      go_wp2_with fail
      go_region_with (go_at_call 37; ((with_reducible refine HP.mono ?_); rintro e w9 ⟨⟨z, rfl, hz⟩, hR9, hg9'⟩; have hg9 := grown_undrew hg9'; have z0 := cell_only hg9 q0 hgR; have zf := frozen_only hg9 q0 hgR qf; clear hg9'))
      all_goals
        have ew : IntKind.i64.wrap (x + (z : Int)) = x + (z : Int) := IntWalk.i64_in _ ⟨by omega, by omega⟩
        simp only [ew]
        generalize hy : (ite (x + (z : Int) < (n2 : Int)) (x + (z : Int)) (n2 : Int)) = y
        have hyb : 0 ≤ y ∧ y ≤ 7 := by rw [← hy]; split <;> omega
        obtain ⟨hm, hxl, hxb, hkx⟩ := HM.out
        have hm9 := (hm.only hok hg9 hR9).set hok hkx y
        have hb9 : ∀ j, j < n1 → 0 ≤ (xs.set k y).getD j 0 ∧ (xs.set k y).getD j 0 ≤ 7 := fun j hj => by
          by_cases e : k = j
          · subst e
            rw [List.getD_eq_getElem?_getD, List.getElem?_set_self hkx]
            exact hyb
          · rw [List.getD_eq_getElem?_getD, List.getElem?_set_ne e, ← List.getD_eq_getElem?_getD]
            exact hxb j hj
        have HF := Lib.hid (And.intro hm9 (And.intro (show (xs.set k y).length = n1 by rw [List.length_set]; exact hxl) hb9))
        clear hm hxl hxb hkx hm9 hb9 hy hyb ew z0 zf hg9 hR9 HM HP q0 qf
        go_wp2
        go_roundw
        case rel => exact ⟨k + 1, xs.set k y, by omega, by go_num, HF.out.2.1, HF.out.2.2, HF.out.1⟩
        case measure => simp [intOf]; omega
    · obtain rfl : k = n1 := by omega
      have hki : ¬ ((k : Int) < (k : Int)) := by omega
      have hxb0 : 0 < k → 0 ≤ xs.getD 0 0 ∧ xs.getD 0 0 ≤ 7 := fun h => hxb 0 h
      have HC := Lib.hid (And.intro hxl (And.intro HM5.out.2.2.2 hok))
      have HB0 := Lib.hid hxb0
      clear hxb hxl hxb0
      go_wp2_with fail
      refine (pick_c R (12 + k) 8 (by omega) (by omega) (by omega) _ hm.rd).mono ?_
      rintro e wp ⟨⟨x, rfl, hx⟩, hrd, hg⟩
      replace hm := hm.only hok hg hrd
      clear hrd hg
      by_cases e0 : x = 0
      · subst e0
        go_wp2_with fail
        refine (l93Any_c R (12 + k + 1) (by omega) _ hm.rd).mono ?_
        rintro e wq ⟨⟨u, t, xs', ys', rfl, hT, _, hx12, hy12⟩, hg, hrd⟩
        have hT2 : Two T wq u t xs' ys' := ⟨hT.r.more hm.sz, hT.c.more hm.sz, hT.ne⟩
        replace hm := hm.only hok hg hrd
        obtain ⟨hf, q0, q1⟩ := hm.fin hok hl6 hT2 hx12 hy12
        have r0 := hm.r0
        have r1 := hm.r1
        have rf0 := hm.rf0
        have rf1 := hm.rf1
        have x0 := hm.x0
        have x1 := hm.x1
        have HF := Lib.hid hf
        clear hf hT hT2 hm hg hrd
        go_wp2
        refine bodyPost_ret (res_img_2 rfl _ _ rfl q0 q1) rfl ?_
        exact HF.out
      · have f0 : ((x : Int) == 0) = false := by simp; omega
        by_cases e1 : x = 1 ∧ 0 < k
        · obtain ⟨rfl, hk0⟩ := e1
          have hkx : 0 < xs.length := by rw [HC.out.1]; exact hk0
          obtain ⟨g, rfl, hgT, q0, qf⟩ := hm.at hkx
          have hb := HB0.out hk0
          obtain ⟨z, ez⟩ : ∃ z, z = xs.getD 0 0 := ⟨_, rfl⟩
          rw [← ez] at q0 hb
          have ew : IntKind.i64.wrap (z - 1) = z - 1 := IntWalk.i64_in _ ⟨by omega, by omega⟩
          obtain ⟨y, ey⟩ : ∃ y, y = if (0 : Int) < z - 1 then z - 1 else 0 := ⟨_, rfl⟩
          have hm9 := hm.set hok hkx y
          obtain ⟨hf, p0, p1⟩ := hm9.fin hok hl6 hm9.two (by rw [List.length_set, HC.out.1]; omega) (by rw [← HC.out.2.1]; omega)
          have r0 := hm9.r0
          have r1 := hm9.r1
          have rf0 := hm9.rf0
          have rf1 := hm9.rf1
          have x0 := hm9.x0
          have x1 := hm9.x1
          have HF := Lib.hid hf
          have hki0 : (0 : Int) < (k : Int) := by omega
          clear hf hm9 hm ez
          by_cases hz : (0 : Int) < z - 1
          · rw [if_pos hz] at ey
            subst ey
            go_wp2
            refine bodyPost_ret (res_img_2 rfl _ _ rfl p0 p1) rfl ?_
            exact HF.out
          · rw [if_neg hz] at ey
            subst ey
            go_wp2
            refine bodyPost_ret (res_img_2 rfl _ _ rfl p0 p1) rfl ?_
            exact HF.out
        · obtain ⟨hf, p0, p1⟩ := hm.fin hok hl6 hm.two (by rw [HC.out.1]; omega) (by rw [← HC.out.2.1]; omega)
          have r0 := hm.r0
          have r1 := hm.r1
          have rf0 := hm.rf0
          have rf1 := hm.rf1
          have x0 := hm.x0
          have x1 := hm.x1
          have HF := Lib.hid hf
          clear hf hm
          by_cases e2 : x = 1
          · subst e2
            have hk0 : k = 0 := by omega
            subst hk0
            go_wp2
            refine bodyPost_ret (res_img_2 rfl _ _ rfl p0 p1) rfl ?_
            exact HF.out
          · have f1 : ((x : Int) == 1) = false := by simp; omega
            go_wp2
            refine bodyPost_ret (res_img_2 rfl _ _ rfl p0 p1) rfl ?_
            exact HF.out
end Go.Proofs.Ytehoaagnpidnbaa
