/- Contract of ImageEuler. Conditions: the slice reads as a list of integers. -/
import Derived.Test.YtmhbcfnakhgihaaDoorPE1
import Derived.Test.YtmhbcfnakhgihaaDoorMI
namespace Go.Proofs.YtmhbcfnakhgihaaDoor
open Go.RowKit Go.Shelf
open Gr
attribute [local go_sem] Oper.semAt_some
def accE {h w : Nat} (S : Nat → Nat → Bool) (pre : List (Cell h w)) : Int := (pre.map fun x => eulT S x.1).sum
theorem accE_snoc {h w : Nat} (S : Nat → Nat → Bool) (pre : List (Cell h w)) (x : Cell h w) : accE S (pre ++ [x]) = accE S pre + eulT S x.1 := by
  simp [accE, List.sum_append]
theorem eulT_bd (S : Nat → Nat → Bool) (c : Nat × Nat) : -1 ≤ eulT S c ∧ eulT S c ≤ 1 := by
  unfold eulT Sq
  cases S c.1 c.2 <;> cases S c.1 (c.2 + 1) <;> cases S (c.1 + 1) c.2 <;> cases S (c.1 + 1) (c.2 + 1) <;> simp [b2i]
theorem accE_bd {h w : Nat} (S : Nat → Nat → Bool) (pre : List (Cell h w)) : -(pre.length : Int) ≤ accE S pre ∧ accE S pre ≤ pre.length := by
  induction pre with
  | nil => simp [accE]
  | cons x pre ih =>
    have e : accE S (x :: pre) = eulT S x.1 + accE S pre := by simp [accE]
    have := eulT_bd S x.1
    rw [e]
    simp only [List.length_cons]
    omega
theorem accE_all {w : Nat} {ns : List Nat} {xs : List (Cell ns.length w)} (h : xs.map (·.1) = cellsL ns.length w) : accE (cell ns) xs = eulN w ns := by
  unfold eulN accE
  rw [← h, List.map_map]
  rfl
theorem eul_w {x0 x1 x2 x3 S : Int} (h0 : 0 ≤ x0 ∧ x0 ≤ 1) (h1 : 0 ≤ x1 ∧ x1 ≤ 1) (h2 : 0 ≤ x2 ∧ x2 ≤ 1) (h3 : 0 ≤ x3 ∧ x3 ≤ 1) (hS : -100 ≤ S ∧ S ≤ 100) : IntKind.i64.wrap (x0 - x1) = x0 - x1 ∧ IntKind.i64.wrap (x0 - x1 - x2) = x0 - x1 - x2 ∧ IntKind.i64.wrap (x0 - x1 - x2 + x3) = x0 - x1 - x2 + x3 ∧ IntKind.i64.wrap (S + (x0 - x1 - x2 + x3)) = S + (x0 - x1 - x2 + x3) :=
  ⟨IntWalk.i64_in _ ⟨by omega, by omega⟩, IntWalk.i64_in _ ⟨by omega, by omega⟩, IntWalk.i64_in _ ⟨by omega, by omega⟩, IntWalk.i64_in _ ⟨by omega, by omega⟩⟩
set_option maxRecDepth 100000 in
set_option maxHeartbeats 4000000 in
theorem ImageEuler_yes (Wd : Nat) (v : Value) (ns : List Nat) (hi : VImg Wd ns) (w : World) (hv : Ints w.heap.size w v (casts ns)) :
    Calls Tryd.prog 21 #[.agg #[.int .i64 (Wd : Int), v]] w fun e w' => e = .returned (.int .i64 (eulN Wd ns)) ∧ Below w.heap.size w w' := by
  obtain ⟨A, cap, rfl⟩ := hv.len
  rw [length_casts] at hv ⊢
  have h6 := hi.h6
  have w6 := hi.w6
  have hvb := validB_of hi
  refine (callsIn_wide (n := 3)).1 ?_
  refine callsIn_of_wp_marks Tryd.func21 rfl trivial ?_ rfl
  simp only [Tryd.ntmps21, List.size_toArray, List.length_cons, List.length_nil, Nat.reduceAdd, Nat.reduceSub, Array.replicate_succ, Array.replicate_zero, List.push_toArray, List.append_toArray, List.nil_append, List.cons_append]
  obtain ⟨Wa, eWa⟩ : ∃ W0, W0 = w.alloc (.cells #[.int .i64 (Wd : Int), .slice A ns.length cap] 27) := ⟨_, rfl⟩
  have hBa : Below w.heap.size w Wa := by rw [eWa]; go_grown
  have a0 : Wa.cell? ⟨w.heap.size, 0, none⟩ = some (.int .i64 (Wd : Int)) := by rw [eWa]; go_cell
  have a1 : Wa.cell? ⟨w.heap.size, 1, none⟩ = some (.slice A ns.length cap) := by rw [eWa]; go_cell
  have hza : w.heap.size + 1 = Wa.heap.size := by rw [eWa]; simp
  have hva := (hv.below hBa).more hBa.size
  gi_wp2_with fail
  rw [← eWa]
  clear eWa
  refine ⟨trivial, ?_⟩
  refine (callsIn_wide.2 (ImageValid_c (Wd : Int) _ (casts ns) Wa hva)).mono ?_
  rintro e w1 ⟨rfl, hb1⟩
  rw [hvb]
  have d0 := cellB hb1 a0
  have d1 := cellB hb1 a1
  have hB1 := hBa.trans (hb1.mono hBa.size)
  have hz1 : w.heap.size + 1 ≤ w1.heap.size := by have := hb1.size; omega
  clear a0 a1 hva hza hBa hb1 hvb
  have hbr : Below w1.heap.size w1 (w1.alloc (.cells #[.int .i64 0] 3)) := by go_grown
  have d0r := cellB hbr d0
  have d1r := cellB hbr d1
  gi_wp2_with (refine ⟨trivial, ?_⟩; gi_at_call 38; refine (callsIn_wide.2 (cells_c _ _ _)).mono ?_; rintro e w' ⟨rfl, rfl⟩)
  clear hbr d0r d1r
  obtain ⟨W0, eW⟩ : ∃ W0, W0 = (w1.alloc (.cells #[.int .i64 0] 3)).alloc (.cells #[.int .i64 (Wd : Int), .slice A ns.length cap] 27) := ⟨_, rfl⟩
  have hB01 : Below w1.heap.size w1 W0 := by rw [eW]; go_grown
  have aS : W0.cell? ⟨w1.heap.size, 0, none⟩ = some (.int .i64 0) := by rw [eW]; go_cell
  have af : W0.frozen? ⟨w1.heap.size, 0, none⟩ = false := by rw [eW]; go_cell
  have b0 : W0.cell? ⟨w1.heap.size + 1, 0, none⟩ = some (.int .i64 (Wd : Int)) := by rw [eW]; go_cell
  have b1 : W0.cell? ⟨w1.heap.size + 1, 1, none⟩ = some (.slice A ns.length cap) := by rw [eW]; go_cell
  have hz0 : W0.heap.size = w1.heap.size + 2 := by rw [eW]; simp
  have a0 := cellB hB01 d0
  have a1 := cellB hB01 d1
  have hB0 := hB1.trans (hB01.mono hB1.size)
  rw [← eW]
  clear eW d0 d1 hB01 hB1
  obtain ⟨Bs, eBs⟩ : ∃ b, b = w1.heap.size := ⟨_, rfl⟩
  rw [← eBs] at aS af b0 b1 hz0 hz1 ⊢
  clear eBs
  refine wpIn_rangeFunc_ownF (F := Fence.wide) rfl (by omega) (gf := 54) (lb := #[.pointer (some ⟨Bs + 1, 0, none⟩)]) rfl trivial (enters_of Tryd.func54 (by kernel_rfl) rfl)
    (cells_stops 2 (Bs + 1) ns.length Wd cap A h6 w6 W0 b0 b1 (by omega)) (fun h k => KpC.t h k) (fun W l o o' _ h hc _ => KpC.b W l o o' h hc) (Below.refl _ _) (fun _ => rfl)
    (fun pre W => (W.cell? ⟨w.heap.size, 0, none⟩ = some (.int .i64 (Wd : Int)) ∧ W.cell? ⟨w.heap.size, 1, none⟩ = some (.slice A ns.length cap) ∧ W.cell? ⟨Bs, 0, none⟩ = some (.int .i64 (accE (cell ns) pre)) ∧ W.frozen? ⟨Bs, 0, none⟩ = false) ∧ Below w.heap.size w W)
    (fun _ _ _ => False)
    (OwnFrom.and (Own.from (fun s A B row hs hg hr => ⟨cell_kept hs.1 hg hr, cell_kept hs.2.1 hg hr, cell_kept hs.2.2.1 hg hr, (frozen_kept hs.2.2.1 hg hr).trans hs.2.2.2⟩) _) (ownFrom_below (Nat.le_refl _) (by omega)))
    (fun _ _ _ _ _ hs _ _ => hs)
    ⟨⟨a0, a1, aS, af⟩, hB0⟩
    (fun x => { tmps := #[.agg #[.int .i64 (Wd : Int), .slice A ns.length cap], .pointer (some ⟨w.heap.size, 0, none⟩), .int .i64 0, .pointer (some ⟨Bs, 0, none⟩), .int .i64 (x.1.1 : Int), .int .i64 (x.1.2 : Int), undef, undef, undef, .agg #[.int .i64 (Wd : Int), .slice A ns.length cap], .bool true, .bool false, .agg #[.int .i64 (Wd : Int), .slice A ns.length cap], .func (.func 54) #[] #[.pointer (some ⟨Bs + 1, 0, none⟩)], .int .i64 (x.1.1 : Int), .int .i64 (x.1.2 : Int), undef, undef, undef, undef, undef, undef, undef, undef, undef, undef, undef, undef, undef, undef, undef, undef, undef, undef, undef, undef, undef, undef, undef, undef, undef, undef, undef, undef, undef, undef, undef, undef, undef, undef, undef, undef, undef, undef, undef, undef, undef, undef, undef, undef, undef, undef, undef, undef], defers := [] }) ?assign ?body ?done ?stop
  case assign =>
    intro l x W K hK
    dsimp only [encC]
    gi_wp2
    exact hK
  case body =>
    rintro l pre x W ⟨⟨h0, h1, hS, hfr⟩, hB⟩ hlen
    have hvW := (hv.below hB).more hB.size
    obtain ⟨⟨i, j⟩, hxi, hxj⟩ := x
    dsimp only at hxi hxj ⊢
    have hlt2 : pre.length ≤ 36 := by
      have : ns.length * Wd ≤ 6 * 6 := Nat.mul_le_mul h6 w6
      omega
    have hbd := accE_bd (cell ns) pre
    have hsn := accE_snoc (cell ns) pre ⟨(i, j), hxi, hxj⟩
    dsimp only at hsn
    obtain ⟨S, eS⟩ : ∃ S, S = accE (cell ns) pre := ⟨_, rfl⟩
    rw [← eS] at hS hbd hsn
    have hB100 : -100 ≤ S ∧ S ≤ 100 := by omega
    unfold eulT Sq at hsn
    dsimp only at hsn
    have G1 : ∀ d os, Calls Tryd.prog 33 _ (Go.Sort.grow (redrawn W d) os) _ := fun d os => has_c (Wd : Int) _ ns i j hxi (by omega) (by have := hi.get64 i; omega) _ ((hvW.rg (Nat.le_refl _) d os).more (rg_size _ d os))
    have G2 : ∀ d os, Calls Tryd.prog 14 _ (Go.Sort.grow (redrawn W d) os) _ := fun d os => ImageHas_v Wd _ ns hi (i : Int) ((j : Int) + 1) _ ((hvW.rg (Nat.le_refl _) d os).more (rg_size _ d os))
    have G3 : ∀ d os, Calls Tryd.prog 14 _ (Go.Sort.grow (redrawn W d) os) _ := fun d os => ImageHas_v Wd _ ns hi ((i : Int) + 1) (j : Int) _ ((hvW.rg (Nat.le_refl _) d os).more (rg_size _ d os))
    have G4 : ∀ W, Ints W.heap.size W (.slice A ns.length cap) (casts ns) → ∀ d os, Calls Tryd.prog 14 #[.agg #[.int .i64 (Wd : Int), .slice A ns.length cap], .int .i64 ((i : Int) + 1), .int .i64 ((j : Int) + 1)] (Go.Sort.grow (redrawn W d) os) fun e w' => e = .returned (.bool (cellZ ns ((i : Int) + 1) ((j : Int) + 1))) ∧ Below (Go.Sort.grow (redrawn W d) os).heap.size (Go.Sort.grow (redrawn W d) os) w' := fun W hvW d os => ImageHas_v Wd _ ns hi ((i : Int) + 1) ((j : Int) + 1) _ ((hvW.rg (Nat.le_refl _) d os).more (rg_size _ d os))
    have e2 : cellZ ns (i : Int) ((j : Int) + 1) = cell ns i (j + 1) := cellZ_nat ns i (j + 1)
    have e3 : cellZ ns ((i : Int) + 1) (j : Int) = cell ns (i + 1) j := cellZ_nat ns (i + 1) j
    have e4 : cellZ ns ((i : Int) + 1) ((j : Int) + 1) = cell ns (i + 1) (j + 1) := cellZ_nat ns (i + 1) (j + 1)
    simp only [e2] at G2
    simp only [e3] at G3
    simp only [e4] at G4
    generalize cell ns i j = p at G1 hsn
    generalize cell ns i (j + 1) = q at G2 hsn
    generalize cell ns (i + 1) j = r at G3 hsn
    generalize cell ns (i + 1) (j + 1) = s at G4 hsn
    have HSN := Lib.hid hsn
    have HB1 := Lib.hid (And.intro hbd hB100)
    clear hsn eS e2 e3 e4 hbd hB100
    have k0 := cell_regrown h0
    have k1 := cell_regrown h1
    have hi6 : i < 6 := by omega
    have hj6 : j < 6 := by omega
    have ei : IntKind.i64.wrap ((i : Int) + 1) = (i : Int) + 1 := IntWalk.i64_in _ ⟨by omega, by omega⟩
    have ej : IntKind.i64.wrap ((j : Int) + 1) = (j : Int) + 1 := IntWalk.i64_in _ ⟨by omega, by omega⟩
    gi_wp2_with fail
    refine wpIn_region_below_tail 14 (by kernel_rfl) (by kernel_rfl) (by kernel_rfl) ?_
    simp only [List.take_succ_cons, List.take_zero, List.drop_succ_cons, List.drop_zero]
    repeat (first | go_big_quiet_step (first | (go_at_call 33; with_reducible exact Calls.rg (G1 _ _)) | (go_at_call 14; first | with_reducible exact Calls.rg (G2 _ _) | with_reducible exact Calls.rg (G3 _ _))) | quiet_step (first | (go_at_call 33; with_reducible exact Calls.rg (G1 _ _)) | (go_at_call 14; first | with_reducible exact Calls.rg (G2 _ _) | with_reducible exact Calls.rg (G3 _ _))))
    refine wpQuiet_nil ?_
    intro _ hw0
    obtain ⟨⟨dq, osq⟩, hw1⟩ := hw0
    subst hw1
    have hq := below_regrown W dq osq
    generalize Go.Sort.grow (redrawn W dq) osq = w2 at hq ⊢
    clear k0 k1 G1 G2 G3
    have hvW := (hvW.below hq).more hq.size
    replace G4 := G4 w2 hvW
    have h0' := cellB hq h0
    have h1' := cellB hq h1
    have hS' := cellB hq hS
    have hfr' := frozenB hq hS hfr
    have hB' := hB.trans (hq.mono hB.size)
    have hKq := keepsB hq
    have hCq : KpC (Bs + 1) W w2 := kpB hq
    clear h0 h1 hS hfr hq hB
    go_wp2_with fail
    refine ⟨rfl, ?_⟩
    have H5 : p = false ∨ (p = true ∧ q = false ∧ r = false) ∨ (p = true ∧ q = false ∧ r = true) ∨ (p = true ∧ q = true ∧ r = false) ∨ (p = true ∧ q = true ∧ r = true) := by cases p <;> cases q <;> cases r <;> simp
    rcases H5 with rfl | ⟨rfl, rfl, rfl⟩ | ⟨rfl, rfl, rfl⟩ | ⟨rfl, rfl, rfl⟩ | ⟨rfl, rfl, rfl⟩
    · have k0 := cell_regrown h0'
      have k1 := cell_regrown h1'
      have k2 := cell_regrown hS'
      obtain ⟨ew1, ew2, ew3, ew4⟩ := eul_w (b2i_bd false) (b2i_bd false) (b2i_bd false) (b2i_bd false) HB1.out.2
      gi_wp2_with fail
      refine wpIn_region_below_tail 33 (by kernel_rfl) (by kernel_rfl) (by kernel_rfl) ?_
      simp only [List.take_succ_cons, List.take_zero, List.drop_succ_cons, List.drop_zero]
      repeat (first | go_big_quiet_step (first | (go_at_call 42; with_reducible exact Calls.rgs (count_c _ _)) | (go_at_call 14; with_reducible exact Calls.rg (G4 _ _))) | quiet_step (first | (go_at_call 42; with_reducible exact Calls.rgs (count_c _ _)) | (go_at_call 14; with_reducible exact Calls.rg (G4 _ _))))
      refine wpQuiet_nil ?_
      intro _ hw0
      obtain ⟨⟨dq, osq⟩, hw1⟩ := hw0
      subst hw1
      have hq := below_regrown w2 dq osq
      generalize Go.Sort.grow (redrawn w2 dq) osq = w3 at hq ⊢
      clear k0 k1 k2 ew1 ew2 ew3 ew4 ei ej G4
      have h0'' := cellB hq h0'
      have h1'' := cellB hq h1'
      have hS'' := cellB hq hS'
      have hfr'' := frozenB hq hS' hfr'
      go_wp2
      refine ⟨rfl, (hKq.trans (keepsB hq)).trans (KeepsOthers.setCell _ _ _), (hCq.t (kpB hq)).t (fun v h => (World.cell?_setCell_other _ _ _ _ (by simp)).trans h), ⟨?_, ?_, ?_, ?_⟩, (hB'.trans (hq.mono hB'.size)).setCell (by simp; omega) _⟩
      · exact (World.cell?_setCell_other _ _ _ _ (by first | (simp; done) | (simp; omega))).trans h0''
      · exact (World.cell?_setCell_other _ _ _ _ (by first | (simp; done) | (simp; omega))).trans h1''
      · rw [HSN.out]
        refine (World.cell?_setCell_same' w3 ⟨Bs, 0, none⟩ _ (by rw [hS'']; rfl)).trans ?_
        have hbs := HB1.out.2
        first | rfl | (cases s <;> simp [b2i] <;> (try simp only [wrap64]) <;> omega) | (cases s <;> simp [b2i] <;> (try simp only [wrap64]) <;> (try omega))
      · rw [World.frozen?_setCell]
        exact hfr''
    · have k0 := cell_regrown h0'
      have k1 := cell_regrown h1'
      have k2 := cell_regrown hS'
      obtain ⟨ew1, ew2, ew3, ew4⟩ := eul_w (b2i_bd true) (b2i_bd false) (b2i_bd false) (b2i_bd false) HB1.out.2
      gi_wp2_with fail
      refine wpIn_region_below_tail 33 (by kernel_rfl) (by kernel_rfl) (by kernel_rfl) ?_
      simp only [List.take_succ_cons, List.take_zero, List.drop_succ_cons, List.drop_zero]
      repeat (first | go_big_quiet_step (first | (go_at_call 42; with_reducible exact Calls.rgs (count_c _ _)) | (go_at_call 14; with_reducible exact Calls.rg (G4 _ _))) | quiet_step (first | (go_at_call 42; with_reducible exact Calls.rgs (count_c _ _)) | (go_at_call 14; with_reducible exact Calls.rg (G4 _ _))))
      refine wpQuiet_nil ?_
      intro _ hw0
      obtain ⟨⟨dq, osq⟩, hw1⟩ := hw0
      subst hw1
      have hq := below_regrown w2 dq osq
      generalize Go.Sort.grow (redrawn w2 dq) osq = w3 at hq ⊢
      clear k0 k1 k2 ew1 ew2 ew3 ew4 ei ej G4
      have h0'' := cellB hq h0'
      have h1'' := cellB hq h1'
      have hS'' := cellB hq hS'
      have hfr'' := frozenB hq hS' hfr'
      go_wp2
      refine ⟨rfl, (hKq.trans (keepsB hq)).trans (KeepsOthers.setCell _ _ _), (hCq.t (kpB hq)).t (fun v h => (World.cell?_setCell_other _ _ _ _ (by simp)).trans h), ⟨?_, ?_, ?_, ?_⟩, (hB'.trans (hq.mono hB'.size)).setCell (by simp; omega) _⟩
      · exact (World.cell?_setCell_other _ _ _ _ (by first | (simp; done) | (simp; omega))).trans h0''
      · exact (World.cell?_setCell_other _ _ _ _ (by first | (simp; done) | (simp; omega))).trans h1''
      · rw [HSN.out]
        refine (World.cell?_setCell_same' w3 ⟨Bs, 0, none⟩ _ (by rw [hS'']; rfl)).trans ?_
        have hbs := HB1.out.2
        first | rfl | (cases s <;> simp [b2i] <;> (try simp only [wrap64]) <;> omega) | (cases s <;> simp [b2i] <;> (try simp only [wrap64]) <;> (try omega))
      · rw [World.frozen?_setCell]
        exact hfr''
    · have k0 := cell_regrown h0'
      have k1 := cell_regrown h1'
      have k2 := cell_regrown hS'
      obtain ⟨ew1, ew2, ew3, ew4⟩ := eul_w (b2i_bd true) (b2i_bd false) (b2i_bd true) (b2i_bd false) HB1.out.2
      gi_wp2_with fail
      refine wpIn_region_below_tail 33 (by kernel_rfl) (by kernel_rfl) (by kernel_rfl) ?_
      simp only [List.take_succ_cons, List.take_zero, List.drop_succ_cons, List.drop_zero]
      repeat (first | go_big_quiet_step (first | (go_at_call 42; with_reducible exact Calls.rgs (count_c _ _)) | (go_at_call 14; with_reducible exact Calls.rg (G4 _ _))) | quiet_step (first | (go_at_call 42; with_reducible exact Calls.rgs (count_c _ _)) | (go_at_call 14; with_reducible exact Calls.rg (G4 _ _))))
      refine wpQuiet_nil ?_
      intro _ hw0
      obtain ⟨⟨dq, osq⟩, hw1⟩ := hw0
      subst hw1
      have hq := below_regrown w2 dq osq
      generalize Go.Sort.grow (redrawn w2 dq) osq = w3 at hq ⊢
      clear k0 k1 k2 ew1 ew2 ew3 ew4 ei ej G4
      have h0'' := cellB hq h0'
      have h1'' := cellB hq h1'
      have hS'' := cellB hq hS'
      have hfr'' := frozenB hq hS' hfr'
      go_wp2
      refine ⟨rfl, (hKq.trans (keepsB hq)).trans (KeepsOthers.setCell _ _ _), (hCq.t (kpB hq)).t (fun v h => (World.cell?_setCell_other _ _ _ _ (by simp)).trans h), ⟨?_, ?_, ?_, ?_⟩, (hB'.trans (hq.mono hB'.size)).setCell (by simp; omega) _⟩
      · exact (World.cell?_setCell_other _ _ _ _ (by first | (simp; done) | (simp; omega))).trans h0''
      · exact (World.cell?_setCell_other _ _ _ _ (by first | (simp; done) | (simp; omega))).trans h1''
      · rw [HSN.out]
        refine (World.cell?_setCell_same' w3 ⟨Bs, 0, none⟩ _ (by rw [hS'']; rfl)).trans ?_
        have hbs := HB1.out.2
        first | rfl | (cases s <;> simp [b2i] <;> (try simp only [wrap64]) <;> omega) | (cases s <;> simp [b2i] <;> (try simp only [wrap64]) <;> (try omega))
      · rw [World.frozen?_setCell]
        exact hfr''
    · have k0 := cell_regrown h0'
      have k1 := cell_regrown h1'
      have k2 := cell_regrown hS'
      obtain ⟨ew1, ew2, ew3, ew4⟩ := eul_w (b2i_bd true) (b2i_bd true) (b2i_bd false) (b2i_bd false) HB1.out.2
      gi_wp2_with fail
      refine wpIn_region_below_tail 33 (by kernel_rfl) (by kernel_rfl) (by kernel_rfl) ?_
      simp only [List.take_succ_cons, List.take_zero, List.drop_succ_cons, List.drop_zero]
      repeat (first | go_big_quiet_step (first | (go_at_call 42; with_reducible exact Calls.rgs (count_c _ _)) | (go_at_call 14; with_reducible exact Calls.rg (G4 _ _))) | quiet_step (first | (go_at_call 42; with_reducible exact Calls.rgs (count_c _ _)) | (go_at_call 14; with_reducible exact Calls.rg (G4 _ _))))
      refine wpQuiet_nil ?_
      intro _ hw0
      obtain ⟨⟨dq, osq⟩, hw1⟩ := hw0
      subst hw1
      have hq := below_regrown w2 dq osq
      generalize Go.Sort.grow (redrawn w2 dq) osq = w3 at hq ⊢
      clear k0 k1 k2 ew1 ew2 ew3 ew4 ei ej G4
      have h0'' := cellB hq h0'
      have h1'' := cellB hq h1'
      have hS'' := cellB hq hS'
      have hfr'' := frozenB hq hS' hfr'
      go_wp2
      refine ⟨rfl, (hKq.trans (keepsB hq)).trans (KeepsOthers.setCell _ _ _), (hCq.t (kpB hq)).t (fun v h => (World.cell?_setCell_other _ _ _ _ (by simp)).trans h), ⟨?_, ?_, ?_, ?_⟩, (hB'.trans (hq.mono hB'.size)).setCell (by simp; omega) _⟩
      · exact (World.cell?_setCell_other _ _ _ _ (by first | (simp; done) | (simp; omega))).trans h0''
      · exact (World.cell?_setCell_other _ _ _ _ (by first | (simp; done) | (simp; omega))).trans h1''
      · rw [HSN.out]
        refine (World.cell?_setCell_same' w3 ⟨Bs, 0, none⟩ _ (by rw [hS'']; rfl)).trans ?_
        have hbs := HB1.out.2
        first | rfl | (cases s <;> simp [b2i] <;> (try simp only [wrap64]) <;> omega) | (cases s <;> simp [b2i] <;> (try simp only [wrap64]) <;> (try omega))
      · rw [World.frozen?_setCell]
        exact hfr''
    · have k0 := cell_regrown h0'
      have k1 := cell_regrown h1'
      have k2 := cell_regrown hS'
      obtain ⟨ew1, ew2, ew3, ew4⟩ := eul_w (b2i_bd true) (b2i_bd true) (b2i_bd true) (b2i_bd s) HB1.out.2
      gi_wp2_with fail
      refine wpIn_region_below_tail 33 (by kernel_rfl) (by kernel_rfl) (by kernel_rfl) ?_
      simp only [List.take_succ_cons, List.take_zero, List.drop_succ_cons, List.drop_zero]
      repeat (first | go_big_quiet_step (first | (go_at_call 42; with_reducible exact Calls.rgs (count_c _ _)) | (go_at_call 14; with_reducible exact Calls.rg (G4 _ _))) | quiet_step (first | (go_at_call 42; with_reducible exact Calls.rgs (count_c _ _)) | (go_at_call 14; with_reducible exact Calls.rg (G4 _ _))))
      refine wpQuiet_nil ?_
      intro _ hw0
      obtain ⟨⟨dq, osq⟩, hw1⟩ := hw0
      subst hw1
      have hq := below_regrown w2 dq osq
      generalize Go.Sort.grow (redrawn w2 dq) osq = w3 at hq ⊢
      clear k0 k1 k2 ew1 ew2 ew3 ew4 ei ej G4
      have h0'' := cellB hq h0'
      have h1'' := cellB hq h1'
      have hS'' := cellB hq hS'
      have hfr'' := frozenB hq hS' hfr'
      go_wp2
      refine ⟨rfl, (hKq.trans (keepsB hq)).trans (KeepsOthers.setCell _ _ _), (hCq.t (kpB hq)).t (fun v h => (World.cell?_setCell_other _ _ _ _ (by simp)).trans h), ⟨?_, ?_, ?_, ?_⟩, (hB'.trans (hq.mono hB'.size)).setCell (by simp; omega) _⟩
      · exact (World.cell?_setCell_other _ _ _ _ (by first | (simp; done) | (simp; omega))).trans h0''
      · exact (World.cell?_setCell_other _ _ _ _ (by first | (simp; done) | (simp; omega))).trans h1''
      · rw [HSN.out]
        refine (World.cell?_setCell_same' w3 ⟨Bs, 0, none⟩ _ (by rw [hS'']; rfl)).trans ?_
        have hbs := HB1.out.2
        first | rfl | (cases s <;> simp [b2i] <;> (try simp only [wrap64]) <;> omega) | (cases s <;> simp [b2i] <;> (try simp only [wrap64]) <;> (try omega))
      · rw [World.frozen?_setCell]
        exact hfr''
  case done =>
    rintro D xs W hD hall ⟨⟨h0, h1, hS, hfr⟩, hB⟩ hK
    gi_wp2
    refine ⟨by simp, .inl ⟨_, _, rfl, run_takeDeferred hK, ?_⟩⟩
    exact ⟨_, results_tmp rfl _ _ _, by rw [accE_all hall]; rfl, hB.trans (belowK_b (w := w) (Nat.le_refl _) W D _ _ (by omega) hK rfl rfl)⟩
  case stop =>
    rintro D c pre W _ _ h _
    exact h.elim
theorem ImageEuler_no (W : Int) (v : Value) (rows : List Int) (hn : validB W rows = false) (w : World) (hv : Ints w.heap.size w v rows) :
    Calls Tryd.prog 21 #[.agg #[.int .i64 W, v]] w fun e w' => e = .returned (.int .i64 0) ∧ Below w.heap.size w w' := by
  obtain ⟨A, cap, rfl⟩ := hv.len
  have hI := Arg.new hv
  have hW := Below.refl w.heap.size w
  go_enter Tryd.func21, Tryd.ntmps21
  obtain ⟨W0, e_W0⟩ : ∃ W0, W0 = World.alloc w (.cells #[.int .i64 W, .slice A rows.length cap] 27) := ⟨_, rfl⟩
  have hx_W0 := Box2.new w (.int .i64 W) (.slice A rows.length cap) 27
  have hb_W0 : Below (World.heap w).size w W0 := by rw [e_W0]; go_grown
  have HS_W0 := Lib.hid (show (World.heap W0).size = (World.heap w).size + 1 by rw [e_W0]; simp)
  replace hI := hI.below hb_W0
  replace hW := hW.trans (Below.mono hb_W0 hW.size)
  have HE_W0 := Lib.hid e_W0
  clear e_W0
  go_wp2_with fail
  rw [← HE_W0.out] at hx_W0 ⊢
  clear HE_W0
  obtain ⟨hl_x, x0, x1⟩ := hx_W0
  obtain ⟨Bx, e_Bx⟩ : ∃ Bx, Bx = (World.heap w).size := ⟨_, rfl⟩
  rw [← e_Bx] at hl_x x0 x1 hb_W0 HS_W0  ⊢
  have hz_Bx := hb_W0.size
  clear e_Bx hb_W0
  refine (ImageValid_c W _ rows _ hI.ints).mono ?_
  rintro e wc ⟨rfl, hb⟩
  replace hI := hI.below hb
  replace hW := hW.trans (Below.mono hb hW.size)
  replace x0 := cellB hb x0
  replace x1 := cellB hb x1
  rw [hn]
  clear hn
  go_wp2
  go_returns
  exact ⟨rfl, hW⟩
end Go.Proofs.YtmhbcfnakhgihaaDoor
