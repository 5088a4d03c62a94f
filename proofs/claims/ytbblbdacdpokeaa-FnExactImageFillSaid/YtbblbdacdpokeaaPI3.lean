/- Contracts of ImageParts and ImagePart. Conditions: the slice reads as a list of integers. -/
import Derived.Test.YtbblbdacdpokeaaPI2
import Derived.Test.YtbblbdacdpokeaaPL6
namespace Go.Proofs.Ytbblbdacdpokeaa
open Go.RowKit
open Gr
theorem has_hasZ (W : Int) (v : Value) (rows : List Int) (i j : Int) (w : World) (hv : Ints w.heap.size w v rows) :
    Calls Try.prog 25 #[.agg #[.int .i64 W, v], .int .i64 i, .int .i64 j] w fun e w' => e = .returned (.bool (hasZ W rows i j)) ∧ Below w.heap.size w w' := ImageHas_c W v rows i j w hv
section
variable {T : Nat → Nat → Bool} {near : Bool} {h w : Nat}
theorem Gr.comp_same (hS : Inside h w T) {a b : Nat × Nat} (ha : T a.1 a.2 = true) (hr : Reach T near a.1 a.2 b.1 b.2) : compL T near h w a = compL T near h w b := by
  have hb := hr.mem ha
  refine Sized.ext (h := h) (w := w) sized_mk sized_mk fun k l _ _ => ?_
  rw [Bool.eq_iff_iff, cell_comp hS ha, cell_comp hS hb]
  exact ⟨fun h1 => (hr.symm ha).trans h1, fun h1 => hr.trans h1⟩
/-- All parts, as images, in order. -/
def allL (T : Nat → Nat → Bool) (near : Bool) (h w : Nat) : List (List Nat) := (firsts T near h w).map (compL T near h w)
theorem allL_get {k : Nat} (hk : k < (allL T near h w).length) : ∃ c, c ∈ firsts T near h w ∧ (firsts T near h w)[k]? = some c ∧ (allL T near h w).getD k [] = compL T near h w c := by
  have hk2 : k < (firsts T near h w).length := by simpa [allL] using hk
  refine ⟨(firsts T near h w)[k], List.getElem_mem hk2, List.getElem?_eq_getElem hk2, ?_⟩
  simp [allL, List.getD_eq_getElem?_getD, List.getElem?_eq_getElem hk2]
theorem allL_has (hS : Inside h w T) {i j : Nat} {k : Nat} (hk : k < (allL T near h w).length) (hh : cell ((allL T near h w).getD k []) i j = true) : (allL T near h w).getD k [] = compL T near h w (i, j) := by
  obtain ⟨c, hm, _, e⟩ := allL_get hk
  rw [e] at hh ⊢
  have hf := (mem_firsts hS).1 hm
  exact comp_same hS hf.1 ((cell_comp hS hf.1).1 hh)
theorem allL_ex (hS : Inside h w T) {i j : Nat} (hc : T i j = true) : ∃ k, k < (allL T near h w).length ∧ cell ((allL T near h w).getD k []) i j = true := by
  obtain ⟨a, b, hf, hr⟩ := first_ex (T := T) (near := near) i j hc
  obtain ⟨k, hk, e⟩ := List.getElem_of_mem ((mem_firsts hS (c := (a, b))).2 hf)
  have hk2 : k < (allL T near h w).length := by simpa [allL] using hk
  obtain ⟨c, _, e2, e3⟩ := allL_get hk2
  rw [List.getElem?_eq_getElem hk, e] at e2
  injection e2 with e2
  subst e2
  refine ⟨k, hk2, ?_⟩
  rw [e3, cell_comp hS hf.1]
  exact hr.symm hc
theorem allL_sized {k : Nat} (hk : k < (allL T near h w).length) : Sized h w ((allL T near h w).getD k []) := by
  obtain ⟨c, _, _, e⟩ := allL_get hk
  rw [e]
  exact sized_mk
theorem allL_len : (allL T near h w).length = (firsts T near h w).length := by simp [allL]
theorem firsts_len_le : (firsts T near h w).length ≤ h * w := by
  unfold firsts
  rw [← length_cellsL h w]
  exact List.length_filter_le _ _
end
theorem groups_v (near : Bool) (Wd : Nat) (v : Value) (ns : List Nat) (hi : VImg Wd ns) (w : World) (hv : Ints w.heap.size w v (casts ns)) :
    Calls Try.prog 51 #[.agg #[.int .i64 (Wd : Int), v], .bool near] w fun e w' => ∃ v' gs, e = .returned v' ∧ Imgs w.heap.size w'.heap.size w'.heap.size w' Wd ns.length v' (allL (cell ns) near ns.length Wd) gs ∧ Below w.heap.size w w' := groups_c near Wd v ns hi w hv
set_option maxHeartbeats 1000000 in
theorem ImageParts_c (W : Int) (v : Value) (rows : List Int) (w : World) (hv : Ints w.heap.size w v rows) :
    Calls Try.prog 22 #[.agg #[.int .i64 W, v]] w fun e w' => e = .returned (.int .i64 (onImg (-1) partsN W rows)) ∧ Below w.heap.size w w' := by
  obtain ⟨A, cap, rfl⟩ := hv.len
  have hI := Arg.new hv
  have hW := Below.refl w.heap.size w
  go_enter Try.func22, Try.ntmps22
  obtain ⟨W0, e_W0⟩ : ∃ W0, W0 = World.alloc w (.cells #[.int .i64 W, .slice A rows.length cap] 27) := ⟨_, rfl⟩
  have hx_W0 := Box2.new w (.int .i64 W) (.slice A rows.length cap) 27
  have hb_W0 : Below (World.heap w).size w W0 := by rw [e_W0]; go_grown
  have HS_W0 := Lib.hid (show (World.heap W0).size = (World.heap w).size + 1 by rw [e_W0]; simp)
  replace hI := hI.below hb_W0
  replace hW := hW.trans (Below.mono hb_W0 hW.size)
  have HE_W0 := Lib.hid e_W0
  clear e_W0
  go_wp2_with fail
  rw [← HE_W0.out] at hx_W0 ⊢
  clear HE_W0
  obtain ⟨hl_x, x0, x1⟩ := hx_W0
  obtain ⟨Bx, e_Bx⟩ : ∃ Bx, Bx = (World.heap w).size := ⟨_, rfl⟩
  rw [← e_Bx] at hl_x x0 x1 hb_W0 HS_W0  ⊢
  have hz_Bx := hb_W0.size
  clear e_Bx hb_W0
  refine (ImageValid_c W _ rows _ hI.ints).mono ?_
  rintro e wc ⟨rfl, hb⟩
  replace hI := hI.below hb
  replace hW := hW.trans (Below.mono hb hW.size)
  replace x0 := cellB hb x0
  replace x1 := cellB hb x1
  cases hval : validB W rows with
  | false =>
    go_wp2
    go_returns
    exact ⟨ri (onImg_no hval).symm, hW⟩
  | true =>
    obtain ⟨n, ns, rfl, rfl, hV⟩ := validB_yes hval
    rw [length_casts] at hI x1 ⊢
    clear hval hv
    go_wp2_with fail
    refine (groups_v false n _ ns hV _ hI.ints).mono ?_
    rintro e wc ⟨v', gs, rfl, him, hb⟩
    replace hI := hI.below hb
    replace hW := hW.trans (Below.mono hb hW.size)
    replace x0 := cellB hb x0
    replace x1 := cellB hb x1
    obtain ⟨ao, co, rfl⟩ := him.form
    rw [allL_len]
    go_wp2
    go_returns
    exact ⟨ri (by rw [onImg_yes hV]; rfl), hW⟩
set_option maxHeartbeats 2000000 in
theorem ImagePart_no (W : Int) (v : Value) (rows : List Int) (i j : Int) (hn : hasZ W rows i j = false) (w : World) (hv : Ints w.heap.size w v rows) :
    Calls Try.prog 27 #[.agg #[.int .i64 W, v], .int .i64 i, .int .i64 j] w (NoImg w) := by
  obtain ⟨A, cap, rfl⟩ := hv.len
  obtain ⟨W0, e_W0⟩ : ∃ W1, W1 = (w.alloc (.cells #[.int .i64 W, .slice A rows.length cap] 27)).alloc (.cells #[.int .i64 0, .slice none 0 0] 27) := ⟨_, rfl⟩
  have hW : Below w.heap.size w W0 := by rw [e_W0]; go_grown
  have x0 : W0.cell? ⟨w.heap.size, 0, none⟩ = some (.int .i64 W) := by rw [e_W0]; go_cell
  have x1 : W0.cell? ⟨w.heap.size, 1, none⟩ = some (.slice A rows.length cap) := by rw [e_W0]; go_cell
  have r0 : W0.cell? ⟨w.heap.size + 1, 0, none⟩ = some (.int .i64 0) := by rw [e_W0]; go_cell
  have r1 : W0.cell? ⟨w.heap.size + 1, 1, none⟩ = some (.slice none 0 0) := by rw [e_W0]; go_cell
  have rf0 : W0.frozen? ⟨w.heap.size + 1, 0, none⟩ = false := by rw [e_W0]; go_cell
  have rf1 : W0.frozen? ⟨w.heap.size + 1, 1, none⟩ = false := by rw [e_W0]; go_cell
  have hs : w.heap.size + 2 ≤ W0.heap.size := by rw [e_W0]; simp
  go_enter Try.func27, Try.ntmps27
  go_wp2_with fail
  rw [← e_W0]
  clear e_W0
  have hI := (Arg.new hv).below hW
  refine (has_hasZ W _ rows i j _ hI.ints).mono ?_
  rintro e wc ⟨rfl, hb⟩
  replace x0 := cellB hb x0
  replace x1 := cellB hb x1
  replace rf0 := frozenB hb r0 rf0
  replace r0 := cellB hb r0
  replace rf1 := frozenB hb r1 rf1
  replace r1 := cellB hb r1
  replace hW := hW.trans (Below.mono hb hW.size)
  replace hs := Nat.le_trans hs hb.size
  replace hI := hI.below hb
  rw [hn]
  obtain ⟨q0, q1⟩ := set2_get (x := .int .i64 0) (y := .slice none 0 0) r0 r1
  clear hn hv
  go_wp2
  refine bodyPost_ret (res_img_b rfl _ _ rfl q0 q1) rfl ?_
  exact ⟨rfl, (hW.setCell (by simp) _).setCell (by simp) _⟩
set_option maxHeartbeats 2000000 in
theorem ImagePart_yes (n : Nat) (v : Value) (ns : List Nat) (hV : VImg n ns) (i j : Nat) (hc : cell ns i j = true) (w : World) (hv : Ints w.heap.size w v (casts ns)) :
    Calls Try.prog 27 #[.agg #[.int .i64 (n : Int), v], .int .i64 (i : Int), .int .i64 (j : Int)] w (ImgOut w n (compL (cell ns) false ns.length n (i, j))) := by
  obtain ⟨A, cap, rfl⟩ := hv.len
  rw [length_casts] at hv ⊢
  have hin := hV.cell_in hc
  have h1 := hV.h1
  have h6 := hV.h6
  have w1 := hV.w1
  have w6 := hV.w6
  obtain ⟨W0, e_W0⟩ : ∃ W1, W1 = (w.alloc (.cells #[.int .i64 (n : Int), .slice A ns.length cap] 27)).alloc (.cells #[.int .i64 0, .slice none 0 0] 27) := ⟨_, rfl⟩
  have hW : Below w.heap.size w W0 := by rw [e_W0]; go_grown
  have x0 : W0.cell? ⟨w.heap.size, 0, none⟩ = some (.int .i64 (n : Int)) := by rw [e_W0]; go_cell
  have x1 : W0.cell? ⟨w.heap.size, 1, none⟩ = some (.slice A ns.length cap) := by rw [e_W0]; go_cell
  have r0 : W0.cell? ⟨w.heap.size + 1, 0, none⟩ = some (.int .i64 0) := by rw [e_W0]; go_cell
  have r1 : W0.cell? ⟨w.heap.size + 1, 1, none⟩ = some (.slice none 0 0) := by rw [e_W0]; go_cell
  have rf0 : W0.frozen? ⟨w.heap.size + 1, 0, none⟩ = false := by rw [e_W0]; go_cell
  have rf1 : W0.frozen? ⟨w.heap.size + 1, 1, none⟩ = false := by rw [e_W0]; go_cell
  have hs : w.heap.size + 2 ≤ W0.heap.size := by rw [e_W0]; simp
  go_enter Try.func27, Try.ntmps27
  go_wp2_with fail
  rw [← e_W0]
  clear e_W0
  have hI := (Arg.new hv).below hW
  refine (has_hasZ (n : Int) _ (casts ns) i j _ hI.ints).mono ?_
  rintro e wc ⟨rfl, hb⟩
  replace x0 := cellB hb x0
  replace x1 := cellB hb x1
  replace rf0 := frozenB hb r0 rf0
  replace r0 := cellB hb r0
  replace rf1 := frozenB hb r1 rf1
  replace r1 := cellB hb r1
  replace hW := hW.trans (Below.mono hb hW.size)
  replace hs := Nat.le_trans hs hb.size
  replace hI := hI.below hb
  rw [hasZ_of hV, show cellZ ns (i : Int) (j : Int) = cell ns i j by simp [cellZ], hc]
  have HC := Lib.hid hc
  clear hv hc
  go_wp2_with fail
  refine (groups_v false n _ ns hV _ hI.ints).mono ?_
  rintro e w2 ⟨v', gs, rfl, him, hb⟩
  obtain ⟨ao, co, rfl⟩ := him.form
  have hsb := hs
  obtain ⟨L, eL⟩ : ∃ L, L = allL (cell ns) false ns.length n := ⟨_, rfl⟩
  have hlen := firsts_len_le (T := cell ns) (near := false) (h := ns.length) (w := n)
  rw [← allL_len, ← eL] at hlen
  have hm36 : ns.length * n ≤ 6 * 6 := Nat.mul_le_mul h6 w6
  have hl36 : L.length ≤ 36 := by omega
  rw [← eL] at him ⊢
  have HL := Lib.hid eL
  obtain ⟨base, eB⟩ : ∃ b, b = wc.heap.size := ⟨_, rfl⟩
  rw [← eB] at him hsb
  obtain ⟨top, eT⟩ : ∃ b, b = w2.heap.size := ⟨_, rfl⟩
  rw [← eT] at him
  replace x0 := cellB hb x0
  replace x1 := cellB hb x1
  replace rf0 := frozenB hb r0 rf0
  replace r0 := cellB hb r0
  replace rf1 := frozenB hb r1 rf1
  replace r1 := cellB hb r1
  replace hW := hW.trans (Below.mono hb hW.size)
  replace hs := Nat.le_trans hs hb.size
  replace hI := hI.below hb
  have htop : top ≤ w2.heap.size := by omega
  clear eL hlen hm36 eB eT hb
  go_wp2_with fail
  go_loopw [19] (fun s wr => ∃ k : Nat, k ≤ L.length ∧ s = .int .i64 k ∧ (∀ a, a < k → cell (L.getD a []) i j = false) ∧ Below w.heap.size w wr ∧ Imgs base top top wr n ns.length (.slice ao L.length co) L gs ∧ top ≤ wr.heap.size ∧ wr.cell? ⟨w.heap.size + 1, 0, none⟩ = some (.int .i64 0) ∧ wr.cell? ⟨w.heap.size + 1, 1, none⟩ = some (.slice none 0 0) ∧ wr.frozen? ⟨w.heap.size + 1, 0, none⟩ = false ∧ wr.frozen? ⟨w.heap.size + 1, 1, none⟩ = false) (fun s _ => L.length - (intOf s).toNat)
  case atStart => exact ⟨0, by omega, rfl, fun a ha => by omega, hW, him, htop, r0, r1, rf0, rf1⟩
  case round =>
    clear hW him htop r0 r1 rf0 rf1 x0 x1 hI
    obtain ⟨k, hk, rfl, hall, hW, him, htop, r0, r1, rf0, rf1⟩ := hrel
    have HA := Lib.hid hall
    clear hall
    by_cases hkl : k < L.length
    · obtain ⟨bb, cc, e, hb1, hb2, hb3, c0, c1⟩ := him.get hkl
      injection e with e1 e2 e3
      subst e1 e3
      obtain ⟨hrow, hg1, hg2, hg3⟩ := him.rows k hkl
      obtain ⟨g, eg⟩ : ∃ g, g = (gs.getD k (0, 0)).1 := ⟨_, rfl⟩
      obtain ⟨c, ec⟩ : ∃ c, c = (gs.getD k (0, 0)).2 := ⟨_, rfl⟩
      rw [← eg] at hrow hg1 hg2 hg3 c1
      rw [← ec] at c1
      clear eg ec e2
      have hsz : Sized ns.length n (L.getD k []) := by rw [HL.out] at hkl ⊢; exact allL_sized hkl
      obtain ⟨ms, em⟩ : ∃ ms, ms = L.getD k [] := ⟨_, rfl⟩
      rw [← em] at hrow hsz
      have HM := Lib.hid em
      clear em
      have hms := hsz.vimg h1 h6 w1 w6
      have hms64 := hms.get64 i
      have hbw : w.heap.size + 1 < base := by omega
      obtain ⟨Wk, e_Wk⟩ : ∃ W0, W0 = World.alloc wr (.cells #[.int .i64 (n : Int), .slice (some ⟨g, 0, none⟩) ns.length c] 27) := ⟨_, rfl⟩
      have hx_Wk := Box2.new wr (.int .i64 (n : Int)) (.slice (some ⟨g, 0, none⟩) ns.length c) 27
      have hb_Wk : Below (World.heap wr).size wr Wk := by rw [e_Wk]; go_grown
      have HS_Wk := Lib.hid (show (World.heap Wk).size = (World.heap wr).size + 1 by rw [e_Wk]; simp)
      replace hW := hW.trans (Below.mono hb_Wk hW.size)
      replace him := him.below hb_Wk
      replace htop := Nat.le_trans htop hb_Wk.size
      replace rf0 := frozenB hb_Wk r0 rf0
      replace r0 := cellB hb_Wk r0
      replace rf1 := frozenB hb_Wk r1 rf1
      replace r1 := cellB hb_Wk r1
      replace hrow := hrow.below hb_Wk hrow.lt
      have HE_Wk := Lib.hid e_Wk
      clear e_Wk
      go_wp2_with fail
      rw [← HE_Wk.out] at hx_Wk ⊢
      clear HE_Wk
      obtain ⟨hl_y, y0, y1⟩ := hx_Wk
      obtain ⟨Bk, e_Bk⟩ : ∃ Bx, Bx = (World.heap wr).size := ⟨_, rfl⟩
      rw [← e_Bk] at hl_y y0 y1 hb_Wk HS_Wk  ⊢
      have hz_Bk := hb_Wk.size
      clear e_Bk hb_Wk
      refine (has_c (n : Int) _ ms i j (by rw [hsz.1]; exact hin.1) (by omega) (by omega) _ (hrow.intsH hsz.1)).mono ?_
      rintro e wc ⟨rfl, hb⟩
      replace hW := hW.trans (Below.mono hb hW.size)
      replace him := him.below hb
      replace htop := Nat.le_trans htop hb.size
      replace rf0 := frozenB hb r0 rf0
      replace r0 := cellB hb r0
      replace rf1 := frozenB hb r1 rf1
      replace r1 := cellB hb r1
      replace hrow := hrow.below hb hrow.lt
      replace y0 := cellB hb y0
      replace y1 := cellB hb y1
      clear c0 c1 hb
      cases hcc : cell ms i j with
      | true =>
        have hfin : ms = compL (cell ns) false ns.length n (i, j) := by
          have h2 := hcc
          rw [HM.out, HL.out] at h2
          rw [HM.out, HL.out]
          exact allL_has (sized_img hV).inside (by rw [← HL.out]; exact hkl) h2
        have HF := Lib.hid hfin
        obtain ⟨q0, q1⟩ := set2_get (x := .int .i64 (n : Int)) (y := .slice (some ⟨g, 0, none⟩) ns.length c) r0 r1
        have HR := Lib.hid hrow
        clear hcc hfin hrow
        go_wp2
        refine bodyPost_ret (res_img_b rfl _ _ rfl q0 q1) rfl ?_
        refine ⟨g, c, by rw [length_comp]; rfl, by omega, ?_, (hW.setCell (by simp) _).setCell (by simp) _⟩
        rw [← HF.out]
        exact (HR.out.far (by simp; omega) _).far (by simp; omega) _
      | false =>
        have HCC := Lib.hid hcc
        clear hcc hrow
        go_wp2
        go_roundw
        case rel =>
          refine ⟨k + 1, by omega, by go_num, fun a ha => ?_, hW, him, htop, r0, r1, rf0, rf1⟩
          by_cases e : a = k
          · rw [e, ← HM.out]; exact HCC.out
          · exact HA.out a (by omega)
        case measure => simp [intOf]; omega
    · exfalso
      obtain ⟨m, hm, hcm⟩ := allL_ex (near := false) (sized_img hV).inside HC.out
      rw [← HL.out] at hm hcm
      rw [HA.out m (by omega)] at hcm
      cases hcm
end Go.Proofs.Ytbblbdacdpokeaa
