/- Contracts of ImageParts and ImagePart. Conditions: the slice reads as a list of integers. -/
import Derived.Test.YtbblbdacdpokeaaDoorPI2
import Derived.Test.YtbblbdacdpokeaaDoorPL6
namespace Go.Proofs.YtbblbdacdpokeaaDoor
open Go.RowKit
open Gr
theorem has_hasZ (W : Int) (v : Value) (rows : List Int) (i j : Int) (w : World) (hv : Ints w.heap.size w v rows) :
    Calls Tryd.prog 34 #[.agg #[.int .i64 W, v], .int .i64 i, .int .i64 j] w fun e w' => e = .returned (.bool (hasZ W rows i j)) ∧ Below w.heap.size w w' := ImageHas_c W v rows i j w hv
section
variable {T : Nat → Nat → Bool} {near : Bool} {h w : Nat}
theorem Gr.comp_same (hS : Inside h w T) {a b : Nat × Nat} (ha : T a.1 a.2 = true) (hr : Reach T near a.1 a.2 b.1 b.2) : compL T near h w a = compL T near h w b := by
  have hb := hr.mem ha
  refine Sized.ext (h := h) (w := w) sized_mk sized_mk fun k l _ _ => ?_
  rw [Bool.eq_iff_iff, cell_comp hS ha, cell_comp hS hb]
  exact ⟨fun h1 => (hr.symm ha).trans h1, fun h1 => hr.trans h1⟩
/-- All parts, as images, in order. -/
def allL (T : Nat → Nat → Bool) (near : Bool) (h w : Nat) : List (List Nat) := (firsts T near h w).map (compL T near h w)
theorem allL_get {k : Nat} (hk : k < (allL T near h w).length) : ∃ c, c ∈ firsts T near h w ∧ (firsts T near h w)[k]? = some c ∧ (allL T near h w).getD k [] = compL T near h w c := by
  have hk2 : k < (firsts T near h w).length := by simpa [allL] using hk
  refine ⟨(firsts T near h w)[k], List.getElem_mem hk2, List.getElem?_eq_getElem hk2, ?_⟩
  simp [allL, List.getD_eq_getElem?_getD, List.getElem?_eq_getElem hk2]
theorem allL_has (hS : Inside h w T) {i j : Nat} {k : Nat} (hk : k < (allL T near h w).length) (hh : cell ((allL T near h w).getD k []) i j = true) : (allL T near h w).getD k [] = compL T near h w (i, j) := by
  obtain ⟨c, hm, _, e⟩ := allL_get hk
  rw [e] at hh ⊢
  have hf := (mem_firsts hS).1 hm
  exact comp_same hS hf.1 ((cell_comp hS hf.1).1 hh)
theorem allL_ex (hS : Inside h w T) {i j : Nat} (hc : T i j = true) : ∃ k, k < (allL T near h w).length ∧ cell ((allL T near h w).getD k []) i j = true := by
  obtain ⟨a, b, hf, hr⟩ := first_ex (T := T) (near := near) i j hc
  obtain ⟨k, hk, e⟩ := List.getElem_of_mem ((mem_firsts hS (c := (a, b))).2 hf)
  have hk2 : k < (allL T near h w).length := by simpa [allL] using hk
  obtain ⟨c, _, e2, e3⟩ := allL_get hk2
  rw [List.getElem?_eq_getElem hk, e] at e2
  injection e2 with e2
  subst e2
  refine ⟨k, hk2, ?_⟩
  rw [e3, cell_comp hS hf.1]
  exact hr.symm hc
theorem allL_sized {k : Nat} (hk : k < (allL T near h w).length) : Sized h w ((allL T near h w).getD k []) := by
  obtain ⟨c, _, _, e⟩ := allL_get hk
  rw [e]
  exact sized_mk
theorem allL_len : (allL T near h w).length = (firsts T near h w).length := by simp [allL]
theorem firsts_len_le : (firsts T near h w).length ≤ h * w := by
  unfold firsts
  rw [← length_cellsL h w]
  exact List.length_filter_le _ _
end
theorem groups_v (near : Bool) (Wd : Nat) (v : Value) (ns : List Nat) (hi : VImg Wd ns) (w : World) (hv : Ints w.heap.size w v (casts ns)) :
    Calls Tryd.prog 18 #[.agg #[.int .i64 (Wd : Int), v], .bool near] w fun e w' => ∃ v' gs, e = .returned v' ∧ Imgs w.heap.size w'.heap.size w'.heap.size w' Wd ns.length v' (allL (cell ns) near ns.length Wd) gs ∧ Below w.heap.size w w' := groups_c near Wd v ns hi w hv
set_option maxHeartbeats 1000000 in
theorem ImageParts_c (W : Int) (v : Value) (rows : List Int) (w : World) (hv : Ints w.heap.size w v rows) :
    Calls Tryd.prog 6 #[.agg #[.int .i64 W, v]] w fun e w' => e = .returned (.int .i64 (onImg (-1) partsN W rows)) ∧ Below w.heap.size w w' := by
  obtain ⟨A, cap, rfl⟩ := hv.len
  have hI := Arg.new hv
  have hW := Below.refl w.heap.size w
  go_enter Tryd.func6, Tryd.ntmps6
  obtain ⟨W0, e_W0⟩ : ∃ W0, W0 = World.alloc w (.cells #[.int .i64 W, .slice A rows.length cap] 25) := ⟨_, rfl⟩
  have hx_W0 := Box2.new w (.int .i64 W) (.slice A rows.length cap) 25
  have hb_W0 : Below (World.heap w).size w W0 := by rw [e_W0]; go_grown
  have HS_W0 := Lib.hid (show (World.heap W0).size = (World.heap w).size + 1 by rw [e_W0]; simp)
  replace hI := hI.below hb_W0
  replace hW := hW.trans (Below.mono hb_W0 hW.size)
  have HE_W0 := Lib.hid e_W0
  clear e_W0
  go_wp2_with fail
  rw [← HE_W0.out] at hx_W0 ⊢
  clear HE_W0
  obtain ⟨hl_x, x0, x1⟩ := hx_W0
  obtain ⟨Bx, e_Bx⟩ : ∃ Bx, Bx = (World.heap w).size := ⟨_, rfl⟩
  rw [← e_Bx] at hl_x x0 x1 hb_W0 HS_W0  ⊢
  have hz_Bx := hb_W0.size
  clear e_Bx hb_W0
  refine (ImageValid_c W _ rows _ hI.ints).mono ?_
  rintro e wc ⟨rfl, hb⟩
  replace hI := hI.below hb
  replace hW := hW.trans (Below.mono hb hW.size)
  replace x0 := cellB hb x0
  replace x1 := cellB hb x1
  cases hval : validB W rows with
  | false =>
    go_wp2
    go_returns
    exact ⟨ri (onImg_no hval).symm, hW⟩
  | true =>
    obtain ⟨n, ns, rfl, rfl, hV⟩ := validB_yes hval
    rw [length_casts] at hI x1 ⊢
    clear hval hv
    go_wp2_with fail
    refine (groups_v false n _ ns hV _ hI.ints).mono ?_
    rintro e wc ⟨v', gs, rfl, him, hb⟩
    replace hI := hI.below hb
    replace hW := hW.trans (Below.mono hb hW.size)
    replace x0 := cellB hb x0
    replace x1 := cellB hb x1
    obtain ⟨ao, co, rfl⟩ := him.form
    rw [allL_len]
    go_wp2
    go_returns
    exact ⟨ri (by rw [onImg_yes hV]; rfl), hW⟩
end Go.Proofs.YtbblbdacdpokeaaDoor
