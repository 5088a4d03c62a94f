/- Contract of ImageEdges at a valid image. Conditions: the table of the sides stands in its block. -/
import Derived.Test.YtinjidejhmahmaaDoorPG
import Derived.Test.YtinjidejhmahmaaDoorKU
namespace Go.Proofs.YtinjidejhmahmaaDoor
open Go.RowKit Go.Shelf
open Gr
attribute [local go_sem] Oper.semAt_some
def sXs : List Int := [-1, 0, 0, 1]
def sYs : List Int := [0, -1, 1, 0]
/-- The table of the sides. -/
structure Sides (w : World) : Prop where
  lt : 1 < w.heap.size
  x : ∀ d, d < 4 → w.cell? ⟨1, d * 2, none⟩ = some (.int .i64 (sXs.getD d 0))
  y : ∀ d, d < 4 → w.cell? ⟨1, d * 2 + 1, none⟩ = some (.int .i64 (sYs.getD d 0))
theorem Sides.below {w w' : World} (h : Sides w) (hb : Below w.heap.size w w') : Sides w' := ⟨Nat.lt_of_lt_of_le h.lt hb.size, fun d hd => (hb.cell h.lt).trans (h.x d hd), fun d hd => (hb.cell h.lt).trans (h.y d hd)⟩
theorem nat4 {d : Nat} (h : d < 4) : d = 0 ∨ d = 1 ∨ d = 2 ∨ d = 3 := by omega
theorem Sides.all {w : World} (h : Sides w) : (w.cell? ⟨1, 0, none⟩ = some (.int .i64 (-1)) ∧ w.cell? ⟨1, 1, none⟩ = some (.int .i64 0) ∧ w.cell? ⟨1, 2, none⟩ = some (.int .i64 0) ∧ w.cell? ⟨1, 3, none⟩ = some (.int .i64 (-1))) ∧ w.cell? ⟨1, 4, none⟩ = some (.int .i64 0) ∧ w.cell? ⟨1, 5, none⟩ = some (.int .i64 1) ∧ w.cell? ⟨1, 6, none⟩ = some (.int .i64 1) ∧ w.cell? ⟨1, 7, none⟩ = some (.int .i64 0) :=
  ⟨⟨h.x 0 (by omega), h.y 0 (by omega), h.x 1 (by omega), h.y 1 (by omega)⟩, h.x 2 (by omega), h.y 2 (by omega), h.x 3 (by omega), h.y 3 (by omega)⟩
/-- The sides of a cell looked at so far. -/
def sdT (ns : List Nat) (i j k : Nat) : Int := sumN k fun d => 1 - b2i (cellZ ns ((i : Int) + sXs.getD d 0) ((j : Int) + sYs.getD d 0))
theorem sdT_bd (ns : List Nat) (i j : Nat) : ∀ k, 0 ≤ sdT ns i j k ∧ sdT ns i j k ≤ k
  | 0 => by simp [sdT, sumN]
  | k + 1 => by
    have := sdT_bd ns i j k
    have h := b2i_bd (cellZ ns ((i : Int) + sXs.getD k 0) ((j : Int) + sYs.getD k 0))
    have e : sdT ns i j (k + 1) = sdT ns i j k + (1 - b2i (cellZ ns ((i : Int) + sXs.getD k 0) ((j : Int) + sYs.getD k 0))) := rfl
    rw [e]
    omega
theorem sdT_all (ns : List Nat) (i j : Nat) : edT (cell ns) (i, j) = b2i (cell ns i j) * sdT ns i j 4 := by
  unfold edT
  dsimp only
  congr 1
  have e1 : cellZ ns ((i : Int) + -1) ((j : Int) + 0) = (decide (0 < i) && cell ns (i - 1) j) := by
    unfold cellZ
    cases i with
    | zero => simp
    | succ i => rw [show ((i + 1 : Nat) : Int) + -1 = (i : Int) by omega, Int.add_zero]; simp
  have e2 : cellZ ns ((i : Int) + 0) ((j : Int) + -1) = (decide (0 < j) && cell ns i (j - 1)) := by
    unfold cellZ
    cases j with
    | zero => simp
    | succ j => rw [show ((j + 1 : Nat) : Int) + -1 = (j : Int) by omega, Int.add_zero]; simp
  have e3 : cellZ ns ((i : Int) + 0) ((j : Int) + 1) = cell ns i (j + 1) := by rw [Int.add_zero]; exact cellZ_nat ns i (j + 1)
  have e4 : cellZ ns ((i : Int) + 1) ((j : Int) + 0) = cell ns (i + 1) j := by rw [Int.add_zero]; exact cellZ_nat ns (i + 1) j
  have e : sdT ns i j 4 = 0 + (1 - b2i (cellZ ns ((i : Int) + -1) ((j : Int) + 0))) + (1 - b2i (cellZ ns ((i : Int) + 0) ((j : Int) + -1))) + (1 - b2i (cellZ ns ((i : Int) + 0) ((j : Int) + 1))) + (1 - b2i (cellZ ns ((i : Int) + 1) ((j : Int) + 0))) := rfl
  rw [e, e1, e2, e3, e4]
  omega
def accD {h w : Nat} (ns : List Nat) (pre : List (Cell h w)) : Int := (pre.map fun x => edT (cell ns) x.1).sum
theorem accD_snoc {h w : Nat} (ns : List Nat) (pre : List (Cell h w)) (x : Cell h w) : accD ns (pre ++ [x]) = accD ns pre + edT (cell ns) x.1 := by
  simp [accD, List.sum_append]
theorem edT_bd (ns : List Nat) (c : Nat × Nat) : 0 ≤ edT (cell ns) c ∧ edT (cell ns) c ≤ 4 := by
  obtain ⟨i, j⟩ := c
  rw [sdT_all]
  have := sdT_bd ns i j 4
  cases cell ns i j <;> simp [b2i] <;> omega
theorem accD_bd {h w : Nat} (ns : List Nat) (pre : List (Cell h w)) : 0 ≤ accD ns pre ∧ accD ns pre ≤ 4 * pre.length := by
  induction pre with
  | nil => simp [accD]
  | cons x pre ih =>
    have e : accD ns (x :: pre) = edT (cell ns) x.1 + accD ns pre := by simp [accD]
    have := edT_bd ns x.1
    rw [e]
    simp only [List.length_cons]
    omega
theorem accD_all {w : Nat} {ns : List Nat} {xs : List (Cell ns.length w)} (h : xs.map (·.1) = cellsL ns.length w) : accD ns xs = edgN w ns := by
  unfold edgN accD
  rw [← h, List.map_map]
  rfl
set_option maxRecDepth 100000 in
set_option maxHeartbeats 4000000 in
theorem ImageEdges_c (Wd : Nat) (v : Value) (ns : List Nat) (hi : VImg Wd ns) (w : World) (hv : Ints w.heap.size w v (casts ns)) (hSd : Sides w) :
    Calls Tryd.prog 34 #[.agg #[.int .i64 (Wd : Int), v]] w fun e w' => e = .returned (.int .i64 (edgN Wd ns)) ∧ Below w.heap.size w w' := by
  obtain ⟨A, cap, rfl⟩ := hv.len
  rw [length_casts] at hv ⊢
  have h6 := hi.h6
  have w6 := hi.w6
  have hvb := validB_of hi
  have HSD := Lib.hid hSd
  clear hSd
  refine (callsIn_wide (n := 3)).1 ?_
  refine callsIn_of_wp_marks Tryd.func34 rfl trivial ?_ rfl
  simp only [Tryd.ntmps34, List.size_toArray, List.length_cons, List.length_nil, Nat.reduceAdd, Nat.reduceSub, Array.replicate_succ, Array.replicate_zero, List.push_toArray, List.append_toArray, List.nil_append, List.cons_append]
  obtain ⟨Wa, eWa⟩ : ∃ W0, W0 = w.alloc (.cells #[.int .i64 (Wd : Int), .slice A ns.length cap] 27) := ⟨_, rfl⟩
  have hBa : Below w.heap.size w Wa := by rw [eWa]; go_grown
  have a0 : Wa.cell? ⟨w.heap.size, 0, none⟩ = some (.int .i64 (Wd : Int)) := by rw [eWa]; go_cell
  have a1 : Wa.cell? ⟨w.heap.size, 1, none⟩ = some (.slice A ns.length cap) := by rw [eWa]; go_cell
  have hza : w.heap.size + 1 = Wa.heap.size := by rw [eWa]; simp
  have hva := (hv.below hBa).more hBa.size
  gi_wp2_with fail
  rw [← eWa]
  clear eWa
  refine ⟨trivial, ?_⟩
  refine (callsIn_wide.2 (ImageValid_c (Wd : Int) _ (casts ns) Wa hva)).mono ?_
  rintro e w1 ⟨rfl, hb1⟩
  rw [hvb]
  have d0 := cellB hb1 a0
  have d1 := cellB hb1 a1
  have hB1 := hBa.trans (hb1.mono hBa.size)
  have hz1 : w.heap.size + 1 ≤ w1.heap.size := by have := hb1.size; omega
  clear a0 a1 hva hza hBa hb1 hvb
  have hbr : Below w1.heap.size w1 (w1.alloc (.cells #[.int .i64 0] 3)) := by go_grown
  have d0r := cellB hbr d0
  have d1r := cellB hbr d1
  gi_wp2_with (refine ⟨trivial, ?_⟩; gi_at_call 75; refine (callsIn_wide.2 (cells_c _ _ _)).mono ?_; rintro e w' ⟨rfl, rfl⟩)
  clear hbr d0r d1r
  obtain ⟨W0, eW⟩ : ∃ W0, W0 = (w1.alloc (.cells #[.int .i64 0] 3)).alloc (.cells #[.int .i64 (Wd : Int), .slice A ns.length cap] 27) := ⟨_, rfl⟩
  have hB01 : Below w1.heap.size w1 W0 := by rw [eW]; go_grown
  have aS : W0.cell? ⟨w1.heap.size, 0, none⟩ = some (.int .i64 0) := by rw [eW]; go_cell
  have af : W0.frozen? ⟨w1.heap.size, 0, none⟩ = false := by rw [eW]; go_cell
  have b0 : W0.cell? ⟨w1.heap.size + 1, 0, none⟩ = some (.int .i64 (Wd : Int)) := by rw [eW]; go_cell
  have b1 : W0.cell? ⟨w1.heap.size + 1, 1, none⟩ = some (.slice A ns.length cap) := by rw [eW]; go_cell
  have hz0 : W0.heap.size = w1.heap.size + 2 := by rw [eW]; simp
  have a0 := cellB hB01 d0
  have a1 := cellB hB01 d1
  have hB0 := hB1.trans (hB01.mono hB1.size)
  rw [← eW]
  clear eW d0 d1 hB01 hB1
  obtain ⟨Bs, eBs⟩ : ∃ b, b = w1.heap.size := ⟨_, rfl⟩
  rw [← eBs] at aS af b0 b1 hz0 hz1 ⊢
  clear eBs
  refine wpIn_rangeFunc_ownF (F := Fence.wide) rfl (by omega) (gf := 108) (lb := #[.pointer (some ⟨Bs + 1, 0, none⟩)]) rfl trivial (enters_of Tryd.func108 (by kernel_rfl) rfl)
    (cells_stops 2 (Bs + 1) ns.length Wd cap A h6 w6 W0 b0 b1 (by omega)) (fun h k => KpC.t h k) (fun W l o o' _ h hc _ => KpC.b W l o o' h hc) (Below.refl _ _) (fun _ => rfl)
    (fun pre W => (W.cell? ⟨w.heap.size, 0, none⟩ = some (.int .i64 (Wd : Int)) ∧ W.cell? ⟨w.heap.size, 1, none⟩ = some (.slice A ns.length cap) ∧ W.cell? ⟨Bs, 0, none⟩ = some (.int .i64 (accD ns pre)) ∧ W.frozen? ⟨Bs, 0, none⟩ = false) ∧ Below w.heap.size w W)
    (fun _ _ _ => False)
    (OwnFrom.and (Own.from (fun s A B row hs hg hr => ⟨cell_kept hs.1 hg hr, cell_kept hs.2.1 hg hr, cell_kept hs.2.2.1 hg hr, (frozen_kept hs.2.2.1 hg hr).trans hs.2.2.2⟩) _) (ownFrom_below (Nat.le_refl _) (by omega)))
    (fun _ _ _ _ _ hs _ _ => hs)
    ⟨⟨a0, a1, aS, af⟩, hB0⟩
    (fun x => { tmps := #[.agg #[.int .i64 (Wd : Int), .slice A ns.length cap], .pointer (some ⟨w.heap.size, 0, none⟩), .int .i64 0, .pointer (some ⟨Bs, 0, none⟩), .int .i64 (x.1.1 : Int), .int .i64 (x.1.2 : Int), undef, undef, .agg #[.int .i64 (Wd : Int), .slice A ns.length cap], .bool true, .bool false, .agg #[.int .i64 (Wd : Int), .slice A ns.length cap], .func (.func 108) #[] #[.pointer (some ⟨Bs + 1, 0, none⟩)], .int .i64 (x.1.1 : Int), .int .i64 (x.1.2 : Int), undef, undef, undef, undef, undef, undef, undef, undef, undef, undef, undef, undef, undef, undef, undef, undef, undef, undef, undef, undef, undef, undef, undef, undef], defers := [] }) ?assign ?body ?done ?stop
  case assign =>
    intro l x W K hK
    dsimp only [encC]
    gi_wp2
    exact hK
  case body =>
    rintro l pre x W ⟨⟨h0, h1, hS, hfr⟩, hB⟩ hlen
    have hvW := (hv.below hB).more hB.size
    have HSW := Lib.hid (HSD.out.below hB)
    obtain ⟨⟨i, j⟩, hxi, hxj⟩ := x
    dsimp only at hxi hxj ⊢
    have hlt2 : pre.length ≤ 36 := by
      have : ns.length * Wd ≤ 6 * 6 := Nat.mul_le_mul h6 w6
      omega
    have hbd := accD_bd ns pre
    have hsn := accD_snoc ns pre ⟨(i, j), hxi, hxj⟩
    dsimp only at hsn
    rw [sdT_all] at hsn
    obtain ⟨S, eS⟩ : ∃ S, S = accD ns pre := ⟨_, rfl⟩
    rw [← eS] at hS hbd hsn
    have hB200 : 0 ≤ S ∧ S ≤ 200 := by omega
    have HSN := Lib.hid hsn
    have HB1 := Lib.hid (And.intro hbd hB200)
    clear hsn eS hbd hB200
    have hi6 : i < 6 := by omega
    have hj6 : j < 6 := by omega
    have hn62 : ns.getD i 0 < 4611686018427387904 := by have := hi.get64 i; omega
    have hj62 : j ≤ 62 := by omega
    gi_wp2_with (refine ⟨trivial, ?_⟩; gi_at_call 76; refine (CallsIn.inRound l (callsIn_wide.2 (has_c (Wd : Int) _ ns i j hxi hj62 hn62 _ hvW))).mono ?_; rintro e W1 ⟨rfl, hb1⟩; have h0' := cellB hb1 h0; have h1' := cellB hb1 h1; have hS' := cellB hb1 hS; have hfr' := frozenB hb1 hS hfr; have hvX := (hvW.below hb1).more hb1.size; have HSX := HSW.out.below hb1; obtain ⟨⟨t0, t1, t2, t3⟩, t4, t5, t6, t7⟩ := HSX.all)
    · rename_i hc
      refine ⟨keepsB hb1, kpB hb1, ⟨⟨h0', h1', ?_, hfr'⟩, hB.trans (hb1.mono hB.size)⟩⟩
      rw [HSN.out]
      have : cell ns i j = false := by simpa using hc
      rw [this]
      simpa [b2i] using hS'
    · rename_i hc
      have hcc : cell ns i j = true := by simpa using hc
      clear hc
      have HC := Lib.hid hcc
      have HK := Lib.hid (And.intro (keepsB hb1 : KeepsOthers W W1) (And.intro (kpB hb1 : KpC (Bs + 1) W W1) (hB.trans (hb1.mono hB.size))))
      clear hb1 h0 h1 hS hfr HSX hvW hcc
      gi_loopw [21] (fun q wr => ∃ k : Nat, k ≤ 4 ∧ q = .int .i64 k ∧ KeepsOthers W wr ∧ KpC (Bs + 1) W wr ∧ (wr.cell? ⟨w.heap.size, 0, none⟩ = some (.int .i64 (Wd : Int)) ∧ wr.cell? ⟨w.heap.size, 1, none⟩ = some (.slice A ns.length cap) ∧ wr.cell? ⟨Bs, 0, none⟩ = some (.int .i64 (S + sdT ns i j k)) ∧ wr.frozen? ⟨Bs, 0, none⟩ = false) ∧ Below w.heap.size w wr) (fun q _ => 4 - (intOf q).toNat)
      case atStart => exact ⟨0, by omega, rfl, HK.out.1, HK.out.2.1, ⟨h0', h1', by simpa [sdT, sumN] using hS', hfr'⟩, HK.out.2.2⟩
      case round =>
        clear h0' h1' hS' hfr' t0 t1 t2 t3 t4 t5 t6 t7 hvX HK
        obtain ⟨k, hk, rfl, hko, hkc, ⟨h0, h1, hS, hfr⟩, hbw⟩ := hrel
        have hvR := (hv.below hbw).more hbw.size
        have HKW := Lib.hid (And.intro hko (And.intro hkc hbw))
        clear hko hkc hbw
        have hk5 : k = 0 ∨ k = 1 ∨ k = 2 ∨ k = 3 ∨ k = 4 := by omega
        clear hk
        rcases hk5 with rfl | rfl | rfl | rfl | rfl
        · have ix : ∀ w : World, (Instr.index 81 (.agg #[.int .i64 (-1), .int .i64 0, .int .i64 0, .int .i64 (-1), .int .i64 0, .int .i64 1, .int .i64 1, .int .i64 0]) (.int .i64 0)).run Tryd.prog w = .ok (.agg #[.int .i64 (-1), .int .i64 0]) w := fun _ => by kernel_rfl
          have hst : sdT ns i j (0 + 1) = sdT ns i j 0 + (1 - b2i (cellZ ns ((i : Int) + -1) ((j : Int) + 0))) := rfl
          simp only [Int.add_zero] at hst
          have sbd := sdT_bd ns i j 0
          obtain ⟨Z, eZ⟩ : ∃ Z, Z = sdT ns i j 0 := ⟨_, rfl⟩
          rw [← eZ] at hst sbd hS
          have hbx : Below wr.heap.size wr (wr.alloc (.cells #[.int .i64 (-1), .int .i64 0] 63)) := by go_grown
          have g0 := cellB hbx h0
          have g1 := cellB hbx h1
          have gS := cellB hbx hS
          have gf := frozenB hbx hS hfr
          have hvX := (hvR.below hbx).more hbx.size
          have HST := Lib.hid hst
          have HBX := Lib.hid hbx
          have HSB := Lib.hid sbd
          have ew3 : IntKind.i64.wrap (S + Z + 1) = S + Z + 1 := by
            have h1 := HB1.out.2
            have h2 := HSB.out
            exact IntWalk.i64_in _ ⟨by omega, by omega⟩
          clear eZ hst hbx h0 h1 hS hfr sbd
          gi_wp2_with (refine ⟨trivial, ?_⟩; gi_at_call 77; refine (CallsIn.inRound l (callsIn_wide.2 (ImageHas_v Wd _ ns hi _ _ _ hvX))).mono ?_; rintro e W2 ⟨rfl, hb2⟩; have k0 := cellB hb2 g0; have k1 := cellB hb2 g1; have kS := cellB hb2 gS; have kf := frozenB hb2 gS gf)
          · rename_i hc
            have hb := HBX.out.trans (hb2.mono HBX.out.size)
            have hcc := hc
            rw [Bool.not_eq_true'] at hcc
            have HZ := Lib.hid (show sdT ns i j (0 + 1) = Z + 1 by rw [HST.out, hcc]; rfl)
            clear hc hcc g0 g1 gS gf
            go_roundw
            case rel =>
              refine ⟨0 + 1, by omega, by go_num, (HKW.out.1.trans (keepsB hb)).trans (KeepsOthers.setCell _ _ _), (HKW.out.2.1.t (kpB hb)).t (fun v h => (World.cell?_setCell_other _ _ _ _ (by simp)).trans h), ⟨?_, ?_, ?_, ?_⟩, (HKW.out.2.2.trans (hb.mono HKW.out.2.2.size)).setCell (by simp; omega) _⟩
              · exact (World.cell?_setCell_other _ _ _ _ (by first | (simp; done) | (simp; omega))).trans k0
              · exact (World.cell?_setCell_other _ _ _ _ (by first | (simp; done) | (simp; omega))).trans k1
              · rw [HZ.out, ← Int.add_assoc]
                exact World.cell?_setCell_same' W2 ⟨Bs, 0, none⟩ _ (by rw [kS]; rfl)
              · rw [World.frozen?_setCell]
                exact kf
            case measure => simp [intOf]
          · rename_i hc
            have hb := HBX.out.trans (hb2.mono HBX.out.size)
            have hcc := hc
            rw [Bool.not_eq_false'] at hcc
            have HZ := Lib.hid (show sdT ns i j (0 + 1) = Z by rw [HST.out, hcc]; simp [b2i])
            clear hc hcc g0 g1 gS gf
            go_roundw
            case rel => exact ⟨0 + 1, by omega, by go_num, HKW.out.1.trans (keepsB hb), HKW.out.2.1.t (kpB hb), ⟨k0, k1, by rw [HZ.out]; exact kS, kf⟩, HKW.out.2.2.trans (hb.mono HKW.out.2.2.size)⟩
            case measure => simp [intOf]
        · have ix : ∀ w : World, (Instr.index 81 (.agg #[.int .i64 (-1), .int .i64 0, .int .i64 0, .int .i64 (-1), .int .i64 0, .int .i64 1, .int .i64 1, .int .i64 0]) (.int .i64 1)).run Tryd.prog w = .ok (.agg #[.int .i64 0, .int .i64 (-1)]) w := fun _ => by kernel_rfl
          have hst : sdT ns i j (1 + 1) = sdT ns i j 1 + (1 - b2i (cellZ ns ((i : Int) + 0) ((j : Int) + -1))) := rfl
          simp only [Int.add_zero] at hst
          have sbd := sdT_bd ns i j 1
          obtain ⟨Z, eZ⟩ : ∃ Z, Z = sdT ns i j 1 := ⟨_, rfl⟩
          rw [← eZ] at hst sbd hS
          have hbx : Below wr.heap.size wr (wr.alloc (.cells #[.int .i64 0, .int .i64 (-1)] 63)) := by go_grown
          have g0 := cellB hbx h0
          have g1 := cellB hbx h1
          have gS := cellB hbx hS
          have gf := frozenB hbx hS hfr
          have hvX := (hvR.below hbx).more hbx.size
          have HST := Lib.hid hst
          have HBX := Lib.hid hbx
          have HSB := Lib.hid sbd
          have ew3 : IntKind.i64.wrap (S + Z + 1) = S + Z + 1 := by
            have h1 := HB1.out.2
            have h2 := HSB.out
            exact IntWalk.i64_in _ ⟨by omega, by omega⟩
          clear eZ hst hbx h0 h1 hS hfr sbd
          gi_wp2_with (refine ⟨trivial, ?_⟩; gi_at_call 77; refine (CallsIn.inRound l (callsIn_wide.2 (ImageHas_v Wd _ ns hi _ _ _ hvX))).mono ?_; rintro e W2 ⟨rfl, hb2⟩; have k0 := cellB hb2 g0; have k1 := cellB hb2 g1; have kS := cellB hb2 gS; have kf := frozenB hb2 gS gf)
          · rename_i hc
            have hb := HBX.out.trans (hb2.mono HBX.out.size)
            have hcc := hc
            rw [Bool.not_eq_true'] at hcc
            have HZ := Lib.hid (show sdT ns i j (1 + 1) = Z + 1 by rw [HST.out, hcc]; rfl)
            clear hc hcc g0 g1 gS gf
            go_roundw
            case rel =>
              refine ⟨1 + 1, by omega, by go_num, (HKW.out.1.trans (keepsB hb)).trans (KeepsOthers.setCell _ _ _), (HKW.out.2.1.t (kpB hb)).t (fun v h => (World.cell?_setCell_other _ _ _ _ (by simp)).trans h), ⟨?_, ?_, ?_, ?_⟩, (HKW.out.2.2.trans (hb.mono HKW.out.2.2.size)).setCell (by simp; omega) _⟩
              · exact (World.cell?_setCell_other _ _ _ _ (by first | (simp; done) | (simp; omega))).trans k0
              · exact (World.cell?_setCell_other _ _ _ _ (by first | (simp; done) | (simp; omega))).trans k1
              · rw [HZ.out, ← Int.add_assoc]
                exact World.cell?_setCell_same' W2 ⟨Bs, 0, none⟩ _ (by rw [kS]; rfl)
              · rw [World.frozen?_setCell]
                exact kf
            case measure => simp [intOf]
          · rename_i hc
            have hb := HBX.out.trans (hb2.mono HBX.out.size)
            have hcc := hc
            rw [Bool.not_eq_false'] at hcc
            have HZ := Lib.hid (show sdT ns i j (1 + 1) = Z by rw [HST.out, hcc]; simp [b2i])
            clear hc hcc g0 g1 gS gf
            go_roundw
            case rel => exact ⟨1 + 1, by omega, by go_num, HKW.out.1.trans (keepsB hb), HKW.out.2.1.t (kpB hb), ⟨k0, k1, by rw [HZ.out]; exact kS, kf⟩, HKW.out.2.2.trans (hb.mono HKW.out.2.2.size)⟩
            case measure => simp [intOf]
        · have ix : ∀ w : World, (Instr.index 81 (.agg #[.int .i64 (-1), .int .i64 0, .int .i64 0, .int .i64 (-1), .int .i64 0, .int .i64 1, .int .i64 1, .int .i64 0]) (.int .i64 2)).run Tryd.prog w = .ok (.agg #[.int .i64 0, .int .i64 1]) w := fun _ => by kernel_rfl
          have hst : sdT ns i j (2 + 1) = sdT ns i j 2 + (1 - b2i (cellZ ns ((i : Int) + 0) ((j : Int) + 1))) := rfl
          simp only [Int.add_zero] at hst
          have sbd := sdT_bd ns i j 2
          obtain ⟨Z, eZ⟩ : ∃ Z, Z = sdT ns i j 2 := ⟨_, rfl⟩
          rw [← eZ] at hst sbd hS
          have hbx : Below wr.heap.size wr (wr.alloc (.cells #[.int .i64 0, .int .i64 1] 63)) := by go_grown
          have g0 := cellB hbx h0
          have g1 := cellB hbx h1
          have gS := cellB hbx hS
          have gf := frozenB hbx hS hfr
          have hvX := (hvR.below hbx).more hbx.size
          have HST := Lib.hid hst
          have HBX := Lib.hid hbx
          have HSB := Lib.hid sbd
          have ew3 : IntKind.i64.wrap (S + Z + 1) = S + Z + 1 := by
            have h1 := HB1.out.2
            have h2 := HSB.out
            exact IntWalk.i64_in _ ⟨by omega, by omega⟩
          clear eZ hst hbx h0 h1 hS hfr sbd
          gi_wp2_with (refine ⟨trivial, ?_⟩; gi_at_call 77; refine (CallsIn.inRound l (callsIn_wide.2 (ImageHas_v Wd _ ns hi _ _ _ hvX))).mono ?_; rintro e W2 ⟨rfl, hb2⟩; have k0 := cellB hb2 g0; have k1 := cellB hb2 g1; have kS := cellB hb2 gS; have kf := frozenB hb2 gS gf)
          · rename_i hc
            have hb := HBX.out.trans (hb2.mono HBX.out.size)
            have hcc := hc
            rw [Bool.not_eq_true'] at hcc
            have HZ := Lib.hid (show sdT ns i j (2 + 1) = Z + 1 by rw [HST.out, hcc]; rfl)
            clear hc hcc g0 g1 gS gf
            go_roundw
            case rel =>
              refine ⟨2 + 1, by omega, by go_num, (HKW.out.1.trans (keepsB hb)).trans (KeepsOthers.setCell _ _ _), (HKW.out.2.1.t (kpB hb)).t (fun v h => (World.cell?_setCell_other _ _ _ _ (by simp)).trans h), ⟨?_, ?_, ?_, ?_⟩, (HKW.out.2.2.trans (hb.mono HKW.out.2.2.size)).setCell (by simp; omega) _⟩
              · exact (World.cell?_setCell_other _ _ _ _ (by first | (simp; done) | (simp; omega))).trans k0
              · exact (World.cell?_setCell_other _ _ _ _ (by first | (simp; done) | (simp; omega))).trans k1
              · rw [HZ.out, ← Int.add_assoc]
                exact World.cell?_setCell_same' W2 ⟨Bs, 0, none⟩ _ (by rw [kS]; rfl)
              · rw [World.frozen?_setCell]
                exact kf
            case measure => simp [intOf]
          · rename_i hc
            have hb := HBX.out.trans (hb2.mono HBX.out.size)
            have hcc := hc
            rw [Bool.not_eq_false'] at hcc
            have HZ := Lib.hid (show sdT ns i j (2 + 1) = Z by rw [HST.out, hcc]; simp [b2i])
            clear hc hcc g0 g1 gS gf
            go_roundw
            case rel => exact ⟨2 + 1, by omega, by go_num, HKW.out.1.trans (keepsB hb), HKW.out.2.1.t (kpB hb), ⟨k0, k1, by rw [HZ.out]; exact kS, kf⟩, HKW.out.2.2.trans (hb.mono HKW.out.2.2.size)⟩
            case measure => simp [intOf]
        · have ix : ∀ w : World, (Instr.index 81 (.agg #[.int .i64 (-1), .int .i64 0, .int .i64 0, .int .i64 (-1), .int .i64 0, .int .i64 1, .int .i64 1, .int .i64 0]) (.int .i64 3)).run Tryd.prog w = .ok (.agg #[.int .i64 1, .int .i64 0]) w := fun _ => by kernel_rfl
          have hst : sdT ns i j (3 + 1) = sdT ns i j 3 + (1 - b2i (cellZ ns ((i : Int) + 1) ((j : Int) + 0))) := rfl
          simp only [Int.add_zero] at hst
          have sbd := sdT_bd ns i j 3
          obtain ⟨Z, eZ⟩ : ∃ Z, Z = sdT ns i j 3 := ⟨_, rfl⟩
          rw [← eZ] at hst sbd hS
          have hbx : Below wr.heap.size wr (wr.alloc (.cells #[.int .i64 1, .int .i64 0] 63)) := by go_grown
          have g0 := cellB hbx h0
          have g1 := cellB hbx h1
          have gS := cellB hbx hS
          have gf := frozenB hbx hS hfr
          have hvX := (hvR.below hbx).more hbx.size
          have HST := Lib.hid hst
          have HBX := Lib.hid hbx
          have HSB := Lib.hid sbd
          have ew3 : IntKind.i64.wrap (S + Z + 1) = S + Z + 1 := by
            have h1 := HB1.out.2
            have h2 := HSB.out
            exact IntWalk.i64_in _ ⟨by omega, by omega⟩
          clear eZ hst hbx h0 h1 hS hfr sbd
          gi_wp2_with (refine ⟨trivial, ?_⟩; gi_at_call 77; refine (CallsIn.inRound l (callsIn_wide.2 (ImageHas_v Wd _ ns hi _ _ _ hvX))).mono ?_; rintro e W2 ⟨rfl, hb2⟩; have k0 := cellB hb2 g0; have k1 := cellB hb2 g1; have kS := cellB hb2 gS; have kf := frozenB hb2 gS gf)
          · rename_i hc
            have hb := HBX.out.trans (hb2.mono HBX.out.size)
            have hcc := hc
            rw [Bool.not_eq_true'] at hcc
            have HZ := Lib.hid (show sdT ns i j (3 + 1) = Z + 1 by rw [HST.out, hcc]; rfl)
            clear hc hcc g0 g1 gS gf
            go_roundw
            case rel =>
              refine ⟨3 + 1, by omega, by go_num, (HKW.out.1.trans (keepsB hb)).trans (KeepsOthers.setCell _ _ _), (HKW.out.2.1.t (kpB hb)).t (fun v h => (World.cell?_setCell_other _ _ _ _ (by simp)).trans h), ⟨?_, ?_, ?_, ?_⟩, (HKW.out.2.2.trans (hb.mono HKW.out.2.2.size)).setCell (by simp; omega) _⟩
              · exact (World.cell?_setCell_other _ _ _ _ (by first | (simp; done) | (simp; omega))).trans k0
              · exact (World.cell?_setCell_other _ _ _ _ (by first | (simp; done) | (simp; omega))).trans k1
              · rw [HZ.out, ← Int.add_assoc]
                exact World.cell?_setCell_same' W2 ⟨Bs, 0, none⟩ _ (by rw [kS]; rfl)
              · rw [World.frozen?_setCell]
                exact kf
            case measure => simp [intOf]
          · rename_i hc
            have hb := HBX.out.trans (hb2.mono HBX.out.size)
            have hcc := hc
            rw [Bool.not_eq_false'] at hcc
            have HZ := Lib.hid (show sdT ns i j (3 + 1) = Z by rw [HST.out, hcc]; simp [b2i])
            clear hc hcc g0 g1 gS gf
            go_roundw
            case rel => exact ⟨3 + 1, by omega, by go_num, HKW.out.1.trans (keepsB hb), HKW.out.2.1.t (kpB hb), ⟨k0, k1, by rw [HZ.out]; exact kS, kf⟩, HKW.out.2.2.trans (hb.mono HKW.out.2.2.size)⟩
            case measure => simp [intOf]
        · gi_wp2
          refine ⟨HKW.out.1, HKW.out.2.1, ⟨⟨h0, h1, ?_, hfr⟩, HKW.out.2.2⟩⟩
          rw [HSN.out, HC.out]
          simpa [b2i] using hS
  case done =>
    rintro D xs W hD hall ⟨⟨h0, h1, hS, hfr⟩, hB⟩ hK
    gi_wp2
    refine ⟨by simp, .inl ⟨_, _, rfl, run_takeDeferred hK, ?_⟩⟩
    exact ⟨_, results_tmp rfl _ _ _, by rw [accD_all hall]; rfl, hB.trans (belowK_b (w := w) (Nat.le_refl _) W D _ _ (by omega) hK rfl rfl)⟩
  case stop =>
    rintro D c pre W _ _ h _
    exact h.elim
end Go.Proofs.YtinjidejhmahmaaDoor
