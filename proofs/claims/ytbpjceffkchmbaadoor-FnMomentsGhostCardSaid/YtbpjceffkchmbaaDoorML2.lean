/- Contracts of the moments of lines. Conditions: the table of the steps stands in its block. -/
import Derived.Test.YtbpjceffkchmbaaDoorML1
namespace Go.Proofs.YtbpjceffkchmbaaDoor
open Go.RowKit Go.Shelf
attribute [local go_sem] Oper.semAt_some
theorem accum_bdL {h w : Nat} (ns : List Nat) {f : Nat → Nat → Int} (hf : ∀ i j, i < h → j < w → 0 ≤ f i j ∧ f i j ≤ 225) (pre : List (Cell h w)) : 0 ≤ accum ns f pre ∧ accum ns f pre ≤ 225 * pre.length := by
  induction pre with
  | nil => simp [accum]
  | cons x pre ih =>
    have e : accum ns f (x :: pre) = f x.1.1 x.1.2 * b2i (cell ns x.1.1 x.1.2) + accum ns f pre := by simp [accum]
    have := hf x.1.1 x.1.2 x.2.1 x.2.2
    rw [e]
    cases cell ns x.1.1 x.1.2 <;> simp [b2i] <;> omega
theorem Dirs.regrown {w : World} (h : Dirs w) (dq : Nat) (os : Array Obj) : Dirs (Go.Sort.grow (redrawn w dq) os) := h.below (below_regrown w dq os)
set_option maxHeartbeats 1000000 in
theorem MomentLines_1_c (d Bd i j : Nat) (hd : d < 8) (hi : i < 6) (hj : j < 6) (w : World) (hD : Dirs w) (hB : w.cell? ⟨Bd, 0, none⟩ = some (.int .i64 (d : Int))) :
    Calls Tryd.prog 27 #[.int .i64 (i : Int), .int .i64 (j : Int), .pointer (some ⟨Bd, 0, none⟩)] w fun e w' => e = .returned (.int .i64 (sqL d i j)) ∧ Below w.heap.size w w' := by
  have hb := lnO_bd d hd i hi j hj
  have hq := sqL_bd hd hi hj
  have HL := fun dq os => lineOf_c d i j hd (by omega) (by omega) _ (hD.regrown dq os)
  have e0 : sqL d i j = lnO d i j * lnO d i j := rfl
  rw [e0] at hq ⊢
  clear e0
  generalize lnO d i j = x at *
  have kd := cell_regrown hB
  have ew : IntKind.i64.wrap (x * x) = x * x := IntWalk.i64_in _ ⟨by omega, by omega⟩
  clear hD
  go_enter Tryd.func27, Tryd.ntmps27
  go_wp2_with fail
  refine wp_region_quiet_below (by kernel_rfl) (by kernel_rfl) ?_
  repeat (first | go_big_quiet_step ((go_at_call 28; exact Calls.rg (HL _ _))) | quiet_step ((go_at_call 28; exact Calls.rg (HL _ _))))
  refine wpQuiet_nil ?_
  intro _ hw0
  obtain ⟨⟨dq, osq⟩, hw1⟩ := hw0
  subst hw1
  have hr := below_regrown w dq osq
  generalize Go.Sort.grow (redrawn w dq) osq = w1 at hr ⊢
  clear HL kd
  go_wp2
  go_returns
  exact ⟨rfl, hr⟩
set_option maxRecDepth 100000 in
set_option maxHeartbeats 2000000 in
theorem moment_MomentLines (d Bd : Nat) (hd : d < 8) (Wd : Nat) (v : Value) (ns : List Nat) (hi : VImg Wd ns) (w : World) (hv : Ints w.heap.size w v (casts ns)) (hD : Dirs w) (hBd : w.cell? ⟨Bd, 0, none⟩ = some (.int .i64 (d : Int))) :
    Calls Tryd.prog 26 #[.agg #[.int .i64 (Wd : Int), v], .func (.func 27) #[] #[.pointer (some ⟨Bd, 0, none⟩)]] w fun e w' => e = .returned (.int .i64 (mom Wd ns (sqL d))) ∧ Below w.heap.size w w' := by
  have hf : ∀ i j, i < ns.length → j < Wd → 0 ≤ sqL d i j ∧ sqL d i j ≤ 225 := fun i j h1 h2 => sqL_bd hd (by have := hi.h6; omega) (by have := hi.w6; omega)
  obtain ⟨A, cap, rfl⟩ := hv.len
  rw [length_casts] at hv ⊢
  have h6 := hi.h6
  have w6 := hi.w6
  refine (callsIn_wide (n := 3)).1 ?_
  refine callsIn_of_wp_marks Tryd.func26 rfl trivial ?_ rfl
  simp only [Tryd.ntmps26, List.size_toArray, List.length_cons, List.length_nil, Nat.reduceAdd, Nat.reduceSub, Array.replicate_succ, Array.replicate_zero, List.push_toArray, List.append_toArray, List.nil_append, List.cons_append]
  gi_wp2_with (refine ⟨trivial, ?_⟩; gi_at_call 54; refine (callsIn_wide.2 (cells_c _ _ _)).mono ?_; rintro e w' ⟨rfl, rfl⟩)
  obtain ⟨W0, eW⟩ : ∃ W0, W0 = ((((w.alloc (.cells #[.int .i64 (Wd : Int), .slice A ns.length cap] 25)).alloc (.cells #[.func (.func 27) #[] #[.pointer (some ⟨Bd, 0, none⟩)]] 51)).alloc (.cells #[.int .i64 0] 3)).alloc (.cells #[.int .i64 (Wd : Int), .slice A ns.length cap] 25)) := ⟨_, rfl⟩
  have g0 : W0.heap.size = w.heap.size + 4 := by rw [eW]; simp
  have a0 : W0.cell? ⟨w.heap.size, 0, none⟩ = some (.int .i64 (Wd : Int)) := by rw [eW]; go_cell
  have a1 : W0.cell? ⟨w.heap.size, 1, none⟩ = some (.slice A ns.length cap) := by rw [eW]; go_cell
  have aF : W0.cell? ⟨w.heap.size + 1, 0, none⟩ = some (.func (.func 27) #[] #[.pointer (some ⟨Bd, 0, none⟩)]) := by rw [eW]; go_cell
  have aS : W0.cell? ⟨w.heap.size + 1 + 1, 0, none⟩ = some (.int .i64 0) := by rw [eW]; go_cell
  have af : W0.frozen? ⟨w.heap.size + 1 + 1, 0, none⟩ = false := by rw [eW]; go_cell
  have b0 : W0.cell? ⟨w.heap.size + 1 + 1 + 1, 0, none⟩ = some (.int .i64 (Wd : Int)) := by rw [eW]; go_cell
  have b1 : W0.cell? ⟨w.heap.size + 1 + 1 + 1, 1, none⟩ = some (.slice A ns.length cap) := by rw [eW]; go_cell
  have hB0 : Below w.heap.size w W0 := by rw [eW]; go_grown
  rw [← eW]
  clear eW
  refine wpIn_rangeFunc_ownF (F := Fence.wide) rfl (by omega) (gf := 79) (lb := #[.pointer (some ⟨w.heap.size + 1 + 1 + 1, 0, none⟩)]) rfl trivial (enters_of Tryd.func79 (by kernel_rfl) rfl)
    (cells_stops 2 (w.heap.size + 1 + 1 + 1) ns.length Wd cap A h6 w6 W0 b0 b1 (by omega)) (fun h k => KpC.t h k) (fun W l o o' _ h hc _ => KpC.b W l o o' h hc) (Below.refl _ _) (fun _ => rfl)
    (fun pre W => (W.cell? ⟨w.heap.size, 0, none⟩ = some (.int .i64 (Wd : Int)) ∧ W.cell? ⟨w.heap.size, 1, none⟩ = some (.slice A ns.length cap) ∧ W.cell? ⟨w.heap.size + 1, 0, none⟩ = some (.func (.func 27) #[] #[.pointer (some ⟨Bd, 0, none⟩)]) ∧ W.cell? ⟨w.heap.size + 1 + 1, 0, none⟩ = some (.int .i64 (accum ns (sqL d) pre)) ∧ W.frozen? ⟨w.heap.size + 1 + 1, 0, none⟩ = false) ∧ Below w.heap.size w W)
    (fun _ _ _ => False)
    (OwnFrom.and (Own.from (fun s A B row hs hg hr => ⟨cell_kept hs.1 hg hr, cell_kept hs.2.1 hg hr, cell_kept hs.2.2.1 hg hr, cell_kept hs.2.2.2.1 hg hr, (frozen_kept hs.2.2.2.1 hg hr).trans hs.2.2.2.2⟩) _) (ownFrom_below (Nat.le_refl _) (by omega)))
    (fun _ _ _ _ _ hs _ _ => hs)
    ⟨⟨a0, a1, aF, aS, af⟩, hB0⟩
    (fun x => { tmps := #[.agg #[.int .i64 (Wd : Int), .slice A ns.length cap], .func (.func 27) #[] #[.pointer (some ⟨Bd, 0, none⟩)], .pointer (some ⟨w.heap.size, 0, none⟩), .pointer (some ⟨w.heap.size + 1, 0, none⟩), .int .i64 0, .pointer (some ⟨w.heap.size + 1 + 1, 0, none⟩), .int .i64 (x.1.1 : Int), .int .i64 (x.1.2 : Int), .agg #[.int .i64 (Wd : Int), .slice A ns.length cap], .func (.func 79) #[] #[.pointer (some ⟨w.heap.size + 1 + 1 + 1, 0, none⟩)], .int .i64 (x.1.1 : Int), .int .i64 (x.1.2 : Int), undef, undef, undef, undef, undef, undef, undef, undef, undef, undef, undef], defers := [] }) ?assign ?body ?done ?stop
  case assign =>
    intro l x W K hK
    dsimp only [encC]
    gi_wp2
    exact hK
  case body =>
    rintro l pre x W ⟨⟨h0, h1, hF, hS, hfr⟩, hB⟩ hlen
    have hvW := (hv.below hB).more hB.size
    obtain ⟨⟨i, j⟩, hxi, hxj⟩ := x
    dsimp only at hxi hxj ⊢
    have hlt2 : pre.length ≤ 36 := by
      have : ns.length * Wd ≤ 6 * 6 := Nat.mul_le_mul h6 w6
      omega
    have hbd := accum_bdL ns hf pre
    have hfx := hf i j hxi hxj
    have hsn := accum_snoc ns (sqL d) pre ⟨(i, j), hxi, hxj⟩
    dsimp only at hsn
    obtain ⟨S, eS⟩ : ∃ S, S = accum ns (sqL d) pre := ⟨_, rfl⟩
    rw [← eS] at hS hbd hsn
    have HSN := Lib.hid hsn
    clear hsn eS
    have hB36 : S ≤ 8100 := by omega
    have HB36 := Lib.hid (And.intro hbd.1 hB36)
    obtain ⟨z, ez⟩ : ∃ z, z = (sqL d) i j := ⟨_, rfl⟩
    rw [← ez] at hfx
    have HZ := Lib.hid ez
    clear ez hbd hB36
    gi_wp2_with (refine ⟨trivial, ?_⟩; gi_at_call 55; refine (CallsIn.inRound l (callsIn_wide.2 (has_c (Wd : Int) _ ns i j hxi (by omega) (by have := hi.get64 i; omega) _ hvW))).mono ?_; rintro e W1 ⟨rfl, hb1⟩)
    · rename_i hc
      have h0' := cell_below hb1 h0
      have h1' := cell_below hb1 h1
      have hF' := cell_below hb1 hF
      have hS' := cell_below hb1 hS
      have hfr' := frozen_below hb1 hS hfr
      have kF := cell_regrown hF'
      have kS := cell_regrown hS'
      have hbd := HB36.out
      have ew : IntKind.i64.wrap (S + z) = S + z := IntWalk.i64_in _ ⟨by omega, by omega⟩
      have hcl := fun dq os => MomentLines_1_c d Bd i j hd (by omega) (by omega) (Go.Sort.grow (redrawn W1 dq) os) (((hD.below hB).below hb1).regrown dq os) (cell_regrown (cell_below hb1 (cell_below (hB.mono (Nat.le_refl _)) hBd)) dq os)
      simp only [← HZ.out] at hcl
      refine wpIn_region_below_tail 6 (by kernel_rfl) (by kernel_rfl) (by kernel_rfl) ?_
      simp only [List.take_succ_cons, List.take_zero, List.drop_succ_cons, List.drop_zero]
      repeat (first | go_big_quiet_step ((go_at_call 27; exact Calls.rg (hcl _ _))) | quiet_step ((go_at_call 27; exact Calls.rg (hcl _ _))))
      refine wpQuiet_nil ?_
      intro _ hw0
      obtain ⟨⟨dq, osq⟩, hw1⟩ := hw0
      subst hw1
      have hq := below_regrown W1 dq osq
      generalize Go.Sort.grow (redrawn W1 dq) osq = w2 at hq ⊢
      clear kF kS ew hcl
      have h0'' := cell_below hq h0'
      have h1'' := cell_below hq h1'
      have hF'' := cell_below hq hF'
      have hS'' := cell_below hq hS'
      have hfr'' := frozen_below hq hS' hfr'
      have hbW := hb1.trans (hq.mono hb1.size)
      have hnew := World.cell?_setCell_same' w2 ⟨w.heap.size + 1 + 1, 0, none⟩ (.int .i64 (S + z)) (by rw [hS'']; rfl)
      go_wp2
      refine ⟨rfl, (keeps_below hbW).trans (KeepsOthers.setCell _ _ _), (KpC.of_below hbW).t (fun v h => (World.cell?_setCell_other _ _ _ _ (by simp)).trans h), ⟨?_, ?_, ?_, ?_, ?_⟩, (hB.trans (hbW.mono hB.size)).setCell (by simp; omega) _⟩
      · exact (World.cell?_setCell_other _ _ _ _ (by simp)).trans h0''
      · exact (World.cell?_setCell_other _ _ _ _ (by simp)).trans h1''
      · exact (World.cell?_setCell_other _ _ _ _ (by simp)).trans hF''
      · rw [HSN.out, hc, ← HZ.out]
        simpa [b2i] using hnew
      · rw [World.frozen?_setCell]
        exact hfr''
    · rename_i hc
      refine ⟨keeps_below hb1, KpC.of_below hb1, ⟨cell_below hb1 h0, cell_below hb1 h1, cell_below hb1 hF, ?_, frozen_below hb1 hS hfr⟩, hB.trans (hb1.mono hB.size)⟩
      rw [HSN.out]
      rw [hc]
      simpa [b2i] using cell_below hb1 hS
  case done =>
    rintro D xs W hD hall ⟨⟨h0, h1, hF, hS, hfr⟩, hB⟩ hK
    gi_wp2
    refine ⟨by simp, .inl ⟨_, _, rfl, run_takeDeferred hK, ?_⟩⟩
    exact ⟨_, results_tmp rfl _ _ _, by rw [accum_all _ hall]; rfl, hB.trans (belowK_b (w := w) (Nat.le_refl _) W D _ _ (by omega) hK rfl rfl)⟩
  case stop =>
    rintro D c pre W _ _ h _
    exact h.elim
/-- The moment of lines, -1 where there is none. -/
def moL (W : Int) (rows : List Int) (d : Int) : Int := if validB W rows && dirB d then mom W.toNat (rows.map Int.toNat) (sqL d.toNat) else -1
theorem moL_no {W d : Int} {rows : List Int} (h : (validB W rows && dirB d) = false) : moL W rows d = -1 := by unfold moL; rw [h]; rfl
theorem moL_yes {w d : Nat} {ns : List Nat} (h : VImg w ns) (hd : d < 8) : moL (w : Int) (casts ns) (d : Int) = mom w ns (sqL d) := by
  unfold moL
  rw [validB_of h, dirB_of hd, casts_toNat]
  rfl
set_option maxHeartbeats 1000000 in
theorem MomentLines_c (W : Int) (v : Value) (rows : List Int) (d : Int) (w : World) (hv : Ints w.heap.size w v rows) (hD : Dirs w) :
    Calls Tryd.prog 7 #[.agg #[.int .i64 W, v], .int .i64 d] w fun e w' => e = .returned (.int .i64 (moL W rows d)) ∧ Below w.heap.size w w' := by
  obtain ⟨A, cap, rfl⟩ := hv.len
  have hI := Arg.new hv
  have hW := Below.refl w.heap.size w
  go_enter Tryd.func7, Tryd.ntmps7
  go_wp2_with fail
  obtain ⟨W0, eW⟩ : ∃ W0, W0 = (w.alloc (.cells #[.int .i64 W, .slice A rows.length cap] 25)).alloc (.cells #[.int .i64 d] 3) := ⟨_, rfl⟩
  have hb : Below w.heap.size w W0 := by rw [eW]; go_grown
  have x0 : W0.cell? ⟨w.heap.size, 0, none⟩ = some (.int .i64 W) := by rw [eW]; go_cell
  have x1 : W0.cell? ⟨w.heap.size, 1, none⟩ = some (.slice A rows.length cap) := by rw [eW]; go_cell
  have xd : W0.cell? ⟨w.heap.size + 1, 0, none⟩ = some (.int .i64 d) := by rw [eW]; go_cell
  rw [← eW]
  clear eW hv
  replace hI := hI.below hb
  replace hW := hW.trans (Below.mono hb hW.size)
  refine (ImageValid_c W _ rows _ hI.ints).mono ?_
  rintro e wc ⟨rfl, hb⟩
  replace hI := hI.below hb
  replace hW := hW.trans (Below.mono hb hW.size)
  replace x0 := cellB hb x0
  replace x1 := cellB hb x1
  replace xd := cellB hb xd
  cases hval : validB W rows with
  | false =>
    have hm : moL W rows d = -1 := moL_no (by rw [hval]; rfl)
    have HM := Lib.hid hm
    clear hm hval
    go_wp2
    go_returns
    exact ⟨ri HM.out.symm, hW⟩
  | true =>
    go_wp2_with fail
    refine (isDir_c d _).mono ?_
    rintro e w' ⟨rfl, rfl⟩
    cases hdir : dirB d with
    | false =>
      have hm : moL W rows d = -1 := moL_no (by rw [hdir]; simp)
      have HM := Lib.hid hm
      clear hm hval hdir
      go_wp2
      go_returns
      exact ⟨ri HM.out.symm, hW⟩
    | true =>
      obtain ⟨n, ns, rfl, rfl, hV⟩ := validB_yes hval
      obtain ⟨k, rfl, hk⟩ := dirB_yes hdir
      have HM := Lib.hid (moL_yes hV hk)
      clear hval hdir
      go_wp2_with fail
      refine (moment_MomentLines k _ hk n _ ns hV _ hI.ints (hD.below hW) xd).mono ?_
      rintro e wc ⟨rfl, hb⟩
      replace hI := hI.below hb
      replace hW := hW.trans (Below.mono hb hW.size)
      replace x0 := cellB hb x0
      replace x1 := cellB hb x1
      replace xd := cellB hb xd
      go_wp2
      go_returns
      exact ⟨ri HM.out.symm, hW⟩
end Go.Proofs.YtbpjceffkchmbaaDoor
