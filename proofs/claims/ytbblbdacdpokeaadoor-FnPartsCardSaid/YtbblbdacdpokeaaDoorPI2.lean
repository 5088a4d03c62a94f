/- Contract of groups: all parts of an image, each as an image. Conditions: the image is valid. -/
import Derived.Test.YtbblbdacdpokeaaDoorAppM
import Derived.Test.YtbblbdacdpokeaaDoorPI1
import Derived.Test.YtbblbdacdpokeaaDoorK5
namespace Go.Proofs.YtbblbdacdpokeaaDoor
open Go.RowKit Go.Shelf
open Gr
theorem run_store_fn {P : Program} {w : World} (a : Addr) (m : Mode) (f : Fn) (xs : Array Value) (ys : Array Value) : (store a (.func f xs ys) m).run P w = stored P w a (.func f xs ys) m := run_store P w a _ m rfl
attribute [local go_sem] Oper.semAt_some run_store_fn
/-- The memory between two rounds. -/
structure GrpMem (w : World) (near : Bool) (Wd h cap Bl gl cl Bc : Nat) (A : Option Addr) (ls : List Nat) (L : List (List Nat)) (W : World) : Prop where
  a0 : W.cell? ⟨w.heap.size, 0, none⟩ = some (.int .i64 (Wd : Int))
  a1 : W.cell? ⟨w.heap.size, 1, none⟩ = some (.slice A h cap)
  nb : W.cell? ⟨w.heap.size + 1, 0, none⟩ = some (.bool near)
  l0 : W.cell? ⟨Bl, 0, none⟩ = some (.int .i64 (Wd : Int))
  l1 : W.cell? ⟨Bl, 1, none⟩ = some (.slice (some ⟨gl, 0, none⟩) h cl)
  row : Row W gl (casts ls)
  sz : Bc + 1 ≤ W.heap.size
  out : ∃ (v : Value) (gs : List (Nat × Nat)) (top : Nat), W.cell? ⟨w.heap.size + 1 + 1, 0, none⟩ = some v ∧ W.frozen? ⟨w.heap.size + 1 + 1, 0, none⟩ = false ∧ Imgs (Bc + 1) top gl W Wd h v L gs ∧ top ≤ W.heap.size
theorem GrpMem.kept {w A' B : World} {near : Bool} {Wd h cap Bl gl cl Bc : Nat} {A : Option Addr} {ls : List Nat} {L : List (List Nat)} {row : Option Nat} (hm : GrpMem w near Wd h cap Bl gl cl Bc A ls L A') (hg : A'.grownBy B row) (hr : ∀ r, row = some r → ∃ o : Obj, A'.heap[r]? = some o ∧ o.isCells = false) : GrpMem w near Wd h cap Bl gl cl Bc A ls L B := by
  obtain ⟨v, gs, top, h1, h2, h3, h4⟩ := hm.out
  exact ⟨cell_kept hm.a0 hg hr, cell_kept hm.a1 hg hr, cell_kept hm.nb hg hr, cell_kept hm.l0 hg hr, cell_kept hm.l1 hg hr, rowKept hm.row hg hr, Nat.le_trans hm.sz hg.size, v, gs, top, cell_kept h1 hg hr, (frozen_kept h1 hg hr).trans h2, h3.kept hg hr, Nat.le_trans h4 hg.size⟩
theorem grp_len {near : Bool} {h w : Nat} {ns : List Nat} (cs : List (Nat × Nat)) : (grp near h w ns cs).2.length ≤ cs.length := by
  induction cs using Gr.snocInd with
  | h0 => simp [grp]
  | h1 l x ih =>
    rw [grp_snoc]
    unfold grpStep
    split
    · simp; exact ih
    · simp; omega
def GrpPost (near : Bool) (Wd : Nat) (ns : List Nat) (w : World) (e : Ending) (w' : World) : Prop :=
  ∃ v' gs, e = .returned v' ∧ Imgs w.heap.size w'.heap.size w'.heap.size w' Wd ns.length v' ((firsts (cell ns) near ns.length Wd).map (compL (cell ns) near ns.length Wd)) gs ∧ Below w.heap.size w w'
set_option maxRecDepth 100000 in
set_option maxHeartbeats 4000000 in
theorem groups_c (near : Bool) (Wd : Nat) (v : Value) (ns : List Nat) (hi : VImg Wd ns) (w : World) (hv : Ints w.heap.size w v (casts ns)) :
    Calls Tryd.prog 18 #[.agg #[.int .i64 (Wd : Int), v], .bool near] w (GrpPost near Wd ns w) := by
  obtain ⟨A, cap, rfl⟩ := hv.len
  rw [length_casts] at hv ⊢
  have h1 := hi.h1
  have h6 := hi.h6
  have w1 := hi.w1
  have w6 := hi.w6
  obtain ⟨Wa, eWa⟩ : ∃ W0, W0 = ((w.alloc (.cells #[.int .i64 (Wd : Int), .slice A ns.length cap] 25)).alloc (.cells #[.bool near] 4)).alloc (.cells #[.slice none 0 0] 33) := ⟨_, rfl⟩
  have hW : Below w.heap.size w Wa := by rw [eWa]; go_grown
  have a0 : Wa.cell? ⟨w.heap.size, 0, none⟩ = some (.int .i64 (Wd : Int)) := by rw [eWa]; go_cell
  have a1 : Wa.cell? ⟨w.heap.size, 1, none⟩ = some (.slice A ns.length cap) := by rw [eWa]; go_cell
  have nb : Wa.cell? ⟨w.heap.size + 1, 0, none⟩ = some (.bool near) := by rw [eWa]; go_cell
  have ob : Wa.cell? ⟨w.heap.size + 1 + 1, 0, none⟩ = some (.slice none 0 0) := by rw [eWa]; go_cell
  have of : Wa.frozen? ⟨w.heap.size + 1 + 1, 0, none⟩ = false := by rw [eWa]; go_cell
  have hs : w.heap.size + 3 ≤ Wa.heap.size := by rw [eWa]; simp
  have hI := (Arg.new hv).below hW
  refine (callsIn_wide (n := 3)).1 ?_
  refine callsIn_of_wp_marks Tryd.func18 rfl trivial ?_ rfl
  simp only [Tryd.ntmps18, List.size_toArray, List.length_cons, List.length_nil, Nat.reduceAdd, Nat.reduceSub, Array.replicate_succ, Array.replicate_zero, List.push_toArray, List.append_toArray, List.nil_append, List.cons_append]
  gi_wp2_with fail
  rw [← eWa]
  clear eWa hv
  refine ⟨trivial, ?_⟩
  refine (callsIn_wide.2 (clone_c (Wd : Int) _ (casts ns) (by rw [length_casts]; exact h1) (by rw [length_casts]; omega) Wa hI.ints)).mono ?_
  rintro e wc ⟨gl, cl, rfl, hgl, hr, hb⟩
  rw [length_casts]
  have hgw : w.heap.size + 3 ≤ gl := by omega
  have hgB : gl < wc.heap.size := hr.lt
  replace a0 := cellB hb a0
  replace a1 := cellB hb a1
  replace nb := cellB hb nb
  replace of := frozenB hb ob of
  replace ob := cellB hb ob
  replace hW := hW.trans (Below.mono hb hW.size)
  replace hI := hI.below hb
  replace hs := Nat.le_trans hs hb.size
  have hs0 := hs
  obtain ⟨W1, e_W1⟩ : ∃ W0, W0 = World.alloc wc (.cells #[.int .i64 (Wd : Int), .slice (some ⟨gl, 0, none⟩) ns.length cl] 25) := ⟨_, rfl⟩
  have hx_W1 := Box2.new wc (.int .i64 (Wd : Int)) (.slice (some ⟨gl, 0, none⟩) ns.length cl) 25
  have hb_W1 : Below (World.heap wc).size wc W1 := by rw [e_W1]; go_grown
  have HS_W1 := Lib.hid (show (World.heap W1).size = (World.heap wc).size + 1 by rw [e_W1]; simp)
  replace a0 := cellB hb_W1 a0
  replace a1 := cellB hb_W1 a1
  replace nb := cellB hb_W1 nb
  replace of := frozenB hb_W1 ob of
  replace ob := cellB hb_W1 ob
  replace hW := hW.trans (Below.mono hb_W1 hW.size)
  replace hI := hI.below hb_W1
  replace hs := Nat.le_trans hs hb_W1.size
  replace hr := hr.below hb_W1 hr.lt
  have a0r := a0
  rw [e_W1] at a0r
  have a1r := a1
  rw [e_W1] at a1r
  have HE_W1 := Lib.hid e_W1
  clear e_W1
  gi_wp2_with fail
  rw [← HE_W1.out] at hx_W1 ⊢
  clear a0r a1r
  clear HE_W1
  obtain ⟨hl_l, l0, l1⟩ := hx_W1
  obtain ⟨Bl, e_Bl⟩ : ∃ Bx, Bx = (World.heap wc).size := ⟨_, rfl⟩
  rw [← e_Bl] at hl_l l0 l1 hb_W1 HS_W1 hgB hs0 ⊢
  have hz_Bl := hb_W1.size
  clear e_Bl hb_W1
  refine ⟨trivial, ?_⟩
  refine (callsIn_wide.2 (cells_c (Wd : Int) (.slice A ns.length cap) W1)).mono ?_
  rintro e wc ⟨rfl, e4⟩
  have hb : Below W1.heap.size W1 wc := by rw [← e4]; go_grown
  have hbn := Box2.new W1 (.int .i64 (Wd : Int)) (.slice A ns.length cap) 25
  rw [e4] at hbn
  clear e4
  obtain ⟨hz4, b0, b1⟩ := hbn
  obtain ⟨Bc, eBc⟩ : ∃ b, b = W1.heap.size := ⟨_, rfl⟩
  rw [← eBc] at b0 b1 hz4 hl_l ⊢
  replace a0 := cellB hb a0
  replace a1 := cellB hb a1
  replace nb := cellB hb nb
  replace of := frozenB hb ob of
  replace ob := cellB hb ob
  replace hW := hW.trans (Below.mono hb hW.size)
  replace hI := hI.below hb
  replace hs := Nat.le_trans hs hb.size
  replace hr := hr.below hb hr.lt
  replace l0 := cellB hb l0
  replace l1 := cellB hb l1
  clear hb eBc
  gi_wp2_with fail
  have hgrp0 : grp near ns.length Wd ns (([] : List (Cell ns.length Wd)).map (·.1)) = (ns, []) := rfl
  have hM0 : GrpMem w near Wd ns.length cap Bl gl cl Bc A (grp near ns.length Wd ns (([] : List (Cell ns.length Wd)).map (·.1))).1 (grp near ns.length Wd ns (([] : List (Cell ns.length Wd)).map (·.1))).2 wc := ⟨a0, a1, nb, l0, l1, hr, hz4, _, [], Bc + 1, ob, of, Imgs.nil _ _ _ _ _ _, hz4⟩
  refine wpIn_rangeFunc_ownF (F := Fence.wide) rfl (by omega) (gf := 56) (lb := #[.pointer (some ⟨Bc, 0, none⟩)]) rfl trivial (enters_of Tryd.func56 (by kernel_rfl) rfl)
    (cells_stops 2 Bc ns.length Wd cap A h6 w6 wc b0 b1 hz4) (fun h k => KpC.t h k) (fun W l o o' _ h hc _ => KpC.b W l o o' h hc) (Below.refl _ _) (fun _ => rfl)
    (fun pre W => GrpMem w near Wd ns.length cap Bl gl cl Bc A (grp near ns.length Wd ns (pre.map (·.1))).1 (grp near ns.length Wd ns (pre.map (·.1))).2 W ∧ Below w.heap.size w W)
    (fun _ _ _ => False)
    (OwnFrom.and (Own.from (fun s A B row hs hg hr => hs.kept hg hr) _) (ownFrom_below (Nat.le_refl _) (by omega)))
    (fun _ _ _ _ _ hs _ _ => hs)
    ⟨hM0, hW⟩
    (fun x => { tmps := #[.agg #[.int .i64 (Wd : Int), .slice A ns.length cap], .bool near, .pointer (some ⟨w.heap.size, 0, none⟩), .pointer (some ⟨w.heap.size + 1, 0, none⟩), .slice none 0 0, .pointer (some ⟨w.heap.size + 1 + 1, 0, none⟩), .pointer (some ⟨Bl, 0, none⟩), .int .i64 (x.1.1 : Int), .int .i64 (x.1.2 : Int), undef, undef, .agg #[.int .i64 (Wd : Int), .slice A ns.length cap], .agg #[.int .i64 (Wd : Int), .slice (some ⟨gl, 0, none⟩) ns.length cl], .agg #[.int .i64 (Wd : Int), .slice A ns.length cap], .func (.func 56) #[] #[.pointer (some ⟨Bc, 0, none⟩)], .int .i64 (x.1.1 : Int), .int .i64 (x.1.2 : Int), undef, undef, undef, undef, undef, undef, undef, undef, undef, undef, undef, undef, undef, undef, undef, undef, undef, undef, undef, undef, undef], defers := [] }) ?assign ?body ?done ?stop
  case assign =>
    intro l x W K hK
    dsimp only [encC]
    gi_wp2
    exact hK
  case body =>
    rintro l pre x W ⟨hM, hB⟩ hlen
    clear hM0 hgrp0 a0 a1 nb ob of hs hI hr l0 l1 hW b0 b1
    obtain ⟨⟨i, j⟩, hxi, hxj⟩ := x
    dsimp only at hxi hxj ⊢
    have hsn : grp near ns.length Wd ns ((pre ++ [(⟨(i, j), hxi, hxj⟩ : Cell ns.length Wd)]).map (·.1)) = grpStep near ns.length Wd (grp near ns.length Wd ns (pre.map (·.1))) (i, j) := by
      rw [List.map_append]
      exact grp_snoc _ _ _
    have hsz := grp_sized (near := near) (sized_img hi) (pre.map (·.1))
    have hLl := grp_len (near := near) (h := ns.length) (w := Wd) (ns := ns) (pre.map (·.1))
    rw [List.length_map] at hLl
    have hm36 : ns.length * Wd ≤ 6 * 6 := Nat.mul_le_mul h6 w6
    obtain ⟨sg, esg⟩ : ∃ sg, sg = grp near ns.length Wd ns (pre.map (·.1)) := ⟨_, rfl⟩
    rw [← esg] at hM hsn hsz hLl
    obtain ⟨ls, L⟩ := sg
    dsimp only at hM hsz hLl
    have HSN := Lib.hid hsn
    clear hsn esg
    obtain ⟨a0, a1, nb, l0, l1, hr, hbc, vo, gs, top, ob, of, him, htop⟩ := hM
    have hls := hsz.vimg h1 h6 w1 w6
    have hl64 := hls.get64 i
    have hLI := hr.intsH (c := cl) hsz.1
    have hxi' : i < ls.length := by rw [hsz.1]; exact hxi
    gi_wp2_with fail
    refine ⟨trivial, ?_⟩
    refine (CallsIn.inRound l (callsIn_wide.2 (has_c (Wd : Int) _ ls i j hxi' (by omega) (by omega) W hLI))).mono ?_
    rintro e wc ⟨rfl, hb⟩
    clear hLI
    replace a0 := cellB hb a0
    replace a1 := cellB hb a1
    replace nb := cellB hb nb
    replace l0 := cellB hb l0
    replace l1 := cellB hb l1
    replace of := frozenB hb ob of
    replace ob := cellB hb ob
    replace hr := hr.below hb hr.lt
    replace hB := hB.trans (Below.mono hb hB.size)
    replace him := him.below hb
    replace htop := Nat.le_trans htop hb.size
    replace hbc := Nat.le_trans hbc hb.size
    have hK := keepsB hb
    have hKp := kpB (Bn := Bc) hb
    cases hc : cell ls i j with
    | false =>
      have HC := Lib.hid hc
      clear hc
      gi_wp2
      refine ⟨hK, hKp, ?_, hB⟩
      rw [HSN.out]
      have e : grpStep near ns.length Wd (ls, L) (i, j) = (ls, L) := by unfold grpStep; dsimp only; rw [HC.out]; rfl
      rw [e]
      exact ⟨a0, a1, nb, l0, l1, hr, hbc, vo, gs, top, ob, of, him, htop⟩
    | true =>
      have HC := Lib.hid hc
      clear hc hb
      gi_wp2_with fail
      refine ⟨trivial, ?_⟩
      refine (CallsIn.inRound l (callsIn_wide.2 (emptyImage_c ns.length (Wd : Int) h6 _))).mono ?_
      obtain ⟨gg, egg⟩ : ∃ g, g = wc.heap.size + 1 := ⟨_, rfl⟩
      rw [← egg]
      rintro e wc ⟨rfl, hrg, hb⟩
      have htg : top ≤ gg := by omega
      have hbg : Bc + 1 ≤ gg := by omega
      replace a0 := cellB hb a0
      replace a1 := cellB hb a1
      replace nb := cellB hb nb
      replace l0 := cellB hb l0
      replace l1 := cellB hb l1
      replace of := frozenB hb ob of
      replace ob := cellB hb ob
      replace hr := hr.below hb hr.lt
      replace hB := hB.trans (Below.mono hb hB.size)
      replace him := him.below hb
      replace htop := Nat.le_trans htop hb.size
      replace hbc := Nat.le_trans hbc hb.size
      replace hK := hK.trans (keepsB hb)
      replace hKp := hKp.t (kpB (Bn := Bc) hb)
      have hggc : gg < wc.heap.size := hrg.lt
      obtain ⟨ao, co, hform⟩ := him.form
      subst hform
      clear egg
      gi_wp2_with fail
      obtain ⟨W3, eW3⟩ : ∃ W0, W0 = (wc.alloc (.cells #[.int .i64 (Wd : Int), .slice (some ⟨gg, 0, none⟩) ns.length ns.length] 25)).alloc (.cells #[.func (.func 39) #[] #[.pointer (some ⟨Bl, 0, none⟩), .pointer (some ⟨wc.heap.size, 0, none⟩), .pointer (some ⟨w.heap.size + 1, 0, none⟩), .pointer (some ⟨wc.heap.size + 1, 0, none⟩)]] 52) := ⟨_, rfl⟩
      have hb3 : Below wc.heap.size wc W3 := by rw [eW3]; go_grown
      have g0 : W3.cell? ⟨wc.heap.size, 0, none⟩ = some (.int .i64 (Wd : Int)) := by rw [eW3]; go_cell
      have g1 : W3.cell? ⟨wc.heap.size, 1, none⟩ = some (.slice (some ⟨gg, 0, none⟩) ns.length ns.length) := by rw [eW3]; go_cell
      have vb : W3.cell? ⟨wc.heap.size + 1, 0, none⟩ = some (.func (.func 39) #[] #[.pointer (some ⟨Bl, 0, none⟩), .pointer (some ⟨wc.heap.size, 0, none⟩), .pointer (some ⟨w.heap.size + 1, 0, none⟩), .pointer (some ⟨wc.heap.size + 1, 0, none⟩)]) := by rw [eW3]; go_cell
      rw [← eW3]
      clear eW3
      have hglc : gl < wc.heap.size := hr.lt
      obtain ⟨Bg, eBg⟩ : ∃ b, b = wc.heap.size := ⟨_, rfl⟩
      rw [← eBg] at g0 g1 vb hggc hglc ⊢
      replace a0 := cellB hb3 a0
      replace a1 := cellB hb3 a1
      replace nb := cellB hb3 nb
      replace l0 := cellB hb3 l0
      replace l1 := cellB hb3 l1
      replace of := frozenB hb3 ob of
      replace ob := cellB hb3 ob
      replace hr := hr.below hb3 hr.lt
      replace hB := hB.trans (Below.mono hb3 hB.size)
      replace him := him.below hb3
      replace htop := Nat.le_trans htop hb3.size
      replace hbc := Nat.le_trans hbc hb3.size
      replace hrg := hrg.below hb3 hrg.lt
      replace hK := hK.trans (keepsB hb3)
      replace hKp := hKp.t (kpB (Bn := Bc) hb3)
      clear eBg hb3 hb
      have hap : VApart Bl Bg (w.heap.size + 1) (Bg + 1) gl gg := ⟨by omega, by omega, by omega, by omega, by omega, by omega, by omega, by omega, by omega⟩
      rw [← casts_rep] at hrg
      have hVM : VMem W3 near Wd ns.length Bl Bg (w.heap.size + 1) (Bg + 1) gl gg cl ns.length ls (List.replicate ns.length 0) := ⟨hr, hrg, l0, l1, g0, g1, nb, vb⟩
      refine ⟨trivial, ?_⟩
      refine (CallsIn.inRound l (callsIn_wide.2 (visit_c near Wd ns.length h1 h6 w1 w6 Bl Bg (w.heap.size + 1) (Bg + 1) gl gg cl ns.length hap _ ls (List.replicate ns.length 0) i j W3 hsz sized_zero (Nat.le_refl _) (fun k m hk => by rw [cell_zero] at hk; cases hk) hVM))).mono ?_
      rintro e wc ⟨rfl, hVM, ho⟩
      replace hK := hK.trans (keeps2 hr hrg ho)
      replace hKp := hKp.t (fun v h => cell_only2 ho h (by simp; omega) (by simp; omega))
      clear hr hrg l0 l1 nb g0 g1 vb hap
      replace a0 := cell_only2 ho a0 (by first | assumption | omega | (simp; omega)) (by first | assumption | omega | (simp; omega))
      replace a1 := cell_only2 ho a1 (by first | assumption | omega | (simp; omega)) (by first | assumption | omega | (simp; omega))
      replace of := frozen_only2 ho ob (by first | assumption | omega | (simp; omega)) (by first | assumption | omega | (simp; omega)) of
      replace ob := cell_only2 ho ob (by first | assumption | omega | (simp; omega)) (by first | assumption | omega | (simp; omega))
      replace hB := bel_only2 hB ho (by first | assumption | omega | (simp; omega)) (by first | assumption | omega | (simp; omega))
      replace him := him.only2 ho (by first | assumption | omega | (simp; omega)) (by first | assumption | omega | (simp; omega))
      replace htop := Nat.le_trans htop (Only2.size ho)
      replace hbc := Nat.le_trans hbc (Only2.size ho)
      obtain ⟨hr, hrg, l0, l1, g0, g1, nb, vb⟩ := hVM
      have hb5 : Below wc.heap.size wc (wc.alloc (.cells #[.int .i64 (Wd : Int), .slice (some ⟨gg, 0, none⟩) ns.length ns.length] 25)) := by go_grown
      have him5 := him.below hb5
      have ob5 := cellB hb5 ob
      have of5 := frozenB hb5 ob of
      have hne : ∀ b, (Value.slice ao L.length co).ownBlock = some b → (⟨w.heap.size + 1 + 1, 0, none⟩ : Addr).block ≠ b := fun b hbb => by have := him.blk b hbb; show w.heap.size + 1 + 1 ≠ b; omega
      have hgs : gs.length ≤ 1048576 := by rw [him.len]; omega
      have HH := Lib.hid (And.intro him5 (And.intro ob5 (And.intro of5 (And.intro hne (And.intro hb5 (And.intro hgs hbc))))))
      clear him5 ob5 of5 hne hb5 hgs
      gi_wp2_with (gi_at_builtin; go_loud (refine wpListIn_appP (x := .int .i64 (Wd : Int)) (y := .slice (some ⟨gg, 0, none⟩) ns.length ns.length) rfl (.tmp 33) (.tmp 35) rfl rfl HH.out.1.own rfl rfl rfl (by go_cell) (by go_cell) (by rw [List.length_map]; exact HH.out.2.2.2.2.2.1) (by simp; omega) ?_; intro v6 wz hown6 hgr6 hob6; obtain ⟨a6, n6, c6, rfl⟩ := OwnP.form hown6; have ob6 := cell_grown HH.out.2.1 hgr6 HH.out.2.2.2.1; have of6 := frozen_grown HH.out.2.1 hgr6 HH.out.2.2.2.1 HH.out.2.2.1))
      obtain ⟨him5, ob5, of5, hne, hb5, hgs, hbc5⟩ := HH.out
      have hne2 : ∀ (q : Nat), q < Bc + 1 → ∀ b, (Value.slice ao L.length co).ownBlock = some b → q ≠ b := fun q hq b hbb => by have := him.blk b hbb; omega
      have hgrow := hgr6
      have KC : ∀ (q o : Nat) (u : Value), q < Bc + 1 → q ≠ w.heap.size + 1 + 1 → wc.cell? ⟨q, o, none⟩ = some u → (wz.setCell ⟨w.heap.size + 1 + 1, 0, none⟩ (.slice a6 n6 c6)).cell? ⟨q, o, none⟩ = some u := fun q o u hq hq2 hu =>
        (World.cell?_setCell_other _ _ _ _ (by simp <;> omega)).trans (cell_grown (cellB hb5 hu) hgr6 (hne2 q hq))
      have hr5 : Row wz gl (casts (visL near ns.length Wd ls i j)) := (hr.below hb5 hr.lt).grown hgr6 (fun e => hne2 gl (by omega) gl e.symm rfl)
      have him6 := Imgs.snoc him5 hown6 hgr6 hob6 (hrg.below hb5 hrg.lt) hbg htg (by omega) (Nat.lt_of_lt_of_le hr.lt hb5.size)
      have hB6 := (hB.trans (hb5.mono hB.size)).grown hgr6 (Nat.le_trans hB.size hb5.size) (fun k e => by have := him.blk k e; omega)
      have hK6 := (hK.trans (keepsB hb5)).trans (keepsOwn him5.own hgr6)
      refine ⟨hK6.trans (KeepsOthers.setCell _ _ _), (hKp.t (kpB (Bn := Bc) hb5)).t (fun v h => (World.cell?_setCell_other _ _ _ _ (by simp <;> omega)).trans (cell_grown h hgr6 (hne2 Bc (by omega)))), ?_, hB6.setCell (by simp; omega) _⟩
      rw [HSN.out]
      have e : grpStep near ns.length Wd (ls, L) (i, j) = (visL near ns.length Wd ls i j, L ++ [visG near ns.length Wd ls (List.replicate ns.length 0) i j]) := by unfold grpStep; dsimp only; rw [HC.out]; rfl
      rw [e]
      refine ⟨KC _ _ _ (by omega) (by omega) a0, KC _ _ _ (by omega) (by omega) a1, KC _ _ _ (by omega) (by omega) nb, KC _ _ _ (by omega) (by omega) l0, KC _ _ _ (by omega) (by omega) l1, hr5.far (by simp; omega) _, ?_, _, _, _, World.cell?_setCell_same' _ _ _ (by rw [ob6]; rfl), by rw [World.frozen?_setCell]; exact of6, him6.set (by simp; omega) _, ?_⟩
      · have := hb5.size; have := hgr6.size; simp [World.setCell]; omega
      · simp [World.setCell]
  case done =>
    rintro D xs W hD hall ⟨hM, hB⟩ hK
    rw [hall, grp_all (sized_img hi)] at hM
    obtain ⟨c0, c1, cn, m0, m1, hrow, hbc, vo, gs, top, ob, of, him, htop⟩ := hM
    obtain ⟨ao, co, rfl⟩ := him.form
    gi_wp2
    refine ⟨by simp, .inl ⟨_, _, rfl, run_takeDeferred hK, ?_⟩⟩
    refine ⟨_, results_tmp rfl _ _ _, _, gs, rfl, ?_, hB.trans (belowK_b (w := w) (Nat.le_refl _) W D _ _ (by have := hW.size; omega) hK rfl rfl)⟩
    have hk := him.kept (grownBy_putObj' W D (.deferred none)) (fun r e => by cases e; exact ⟨_, hK, rfl⟩)
    have hz : (W.putObj D (.deferred none)).heap.size = W.heap.size := by simp
    have hk2 := (hk.lower (base' := w.heap.size) (by omega) (gl' := (W.putObj D (.deferred none)).heap.size) (by rw [hz]; exact htop)).up (top' := (W.putObj D (.deferred none)).heap.size) (by rw [hz]; exact htop)
    rw [List.length_map] at hk2
    exact hk2
  case stop =>
    rintro D c pre W _ _ h _
    exact h.elim
end Go.Proofs.YtbblbdacdpokeaaDoor
