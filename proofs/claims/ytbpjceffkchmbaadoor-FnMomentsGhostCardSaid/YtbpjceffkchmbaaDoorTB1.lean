/- Tables of integers that the call itself makes; contract of emptyTable. Conditions: at most 8 rows and 8 columns. -/
import Derived.Test.YtbpjceffkchmbaaDoorTW
namespace Go.Proofs.YtbpjceffkchmbaaDoor
open Go.RowKit
/-- The value of a row. -/
def rowV (n g : Nat) : Value := .slice (some ⟨g, 0, none⟩) n n
/-- A table: its list of rows lies in block gT, its rows in the blocks gs. -/
structure Tbl (w : World) (gT h n : Nat) (gs : List Nat) (T : List (List Int)) : Prop where
  gl : gs.length = h
  tl : T.length = h
  blk : ∃ sp : List Value, w.heap[gT]? = some (.cells (gs.map (rowV n) ++ sp).toArray 23 (0, 0))
  row : ∀ i, i < h → Row w (gs.getD i 0) (T.getD i [])
  wid : ∀ i, i < h → (T.getD i []).length = n
  inj : ∀ i j, i < h → j < h → gs.getD i 0 = gs.getD j 0 → i = j
  out : ∀ i, i < h → gs.getD i 0 ≠ gT
section
variable {w w' : World} {gT h n : Nat} {gs : List Nat} {T : List (List Int)}
theorem Tbl.cell (t : Tbl w gT h n gs T) {i : Nat} (hi : i < h) : w.cell? ⟨gT, i, none⟩ = some (rowV n (gs.getD i 0)) := by
  obtain ⟨sp, hb⟩ := t.blk
  have hl := t.gl
  have : (gs.map (rowV n) ++ sp)[i]? = some (rowV n (gs.getD i 0)) := by
    rw [List.getElem?_append_left (by simp; omega), List.getElem?_map, List.getElem?_eq_getElem (by omega), List.getD_eq_getElem?_getD, List.getElem?_eq_getElem (by omega)]
    rfl
  simp [World.cell?, hb, this]
theorem Tbl.lt (t : Tbl w gT h n gs T) : gT < w.heap.size := by
  obtain ⟨sp, hb⟩ := t.blk
  exact (Array.getElem?_eq_some_iff.1 hb).1
theorem Tbl.of_blocks (t : Tbl w gT h n gs T) (h0 : w'.heap[gT]? = w.heap[gT]?) (h1 : ∀ i, i < h → w'.heap[gs.getD i 0]? = w.heap[gs.getD i 0]?) : Tbl w' gT h n gs T := by
  obtain ⟨sp, hb⟩ := t.blk
  exact ⟨t.gl, t.tl, ⟨sp, h0.trans hb⟩, fun i hi => (t.row i hi).of_block (h1 i hi), t.wid, t.inj, t.out⟩
theorem Tbl.below (t : Tbl w gT h n gs T) (hb : Below w.heap.size w w') : Tbl w' gT h n gs T :=
  t.of_blocks (hb.block _ t.lt) fun i hi => hb.block _ (t.row i hi).lt
theorem Tbl.only (t : Tbl w gT h n gs T) {g : Nat} (hg : w.grownBy w' (some g)) (h0 : gT ≠ g) (h1 : ∀ i, i < h → gs.getD i 0 ≠ g) : Tbl w' gT h n gs T :=
  t.of_blocks (hg.block _ t.lt (fun e => by injection e with e; exact h0 e)) fun i hi => hg.block _ (t.row i hi).lt (fun e => by injection e with e; exact h1 i hi e)
theorem Tbl.set (t : Tbl w gT h n gs T) {i j : Nat} (hi : i < h) (hj : j < n) (z : Int) : Tbl (w.setCell ⟨gs.getD i 0, j, none⟩ (.int .i64 z)) gT h n gs (T.set i ((T.getD i []).set j z)) := by
  have hti : i < T.length := by rw [t.tl]; exact hi
  have hget : ∀ k, (T.set i ((T.getD i []).set j z)).getD k [] = if k = i then (T.getD i []).set j z else T.getD k [] := fun k => by
    by_cases e : k = i
    · subst e; rw [if_pos rfl, List.getD_eq_getElem?_getD, List.getElem?_set_self hti]; rfl
    · rw [if_neg e, List.getD_eq_getElem?_getD, List.getElem?_set_ne (fun e2 => e e2.symm), List.getD_eq_getElem?_getD]
  have far : ∀ b, b ≠ gs.getD i 0 → (w.setCell ⟨gs.getD i 0, j, none⟩ (.int .i64 z)).heap[b]? = w.heap[b]? := fun b hb => Below.heap_setCell w _ _ b hb
  refine ⟨t.gl, by rw [List.length_set, t.tl], ?_, fun k hk => ?_, fun k hk => ?_, t.inj, t.out⟩
  · obtain ⟨sp, hb⟩ := t.blk
    exact ⟨sp, (far gT (t.out i hi).symm).trans hb⟩
  · rw [hget]
    by_cases e : k = i
    · subst e
      rw [if_pos rfl]
      exact (t.row k hk).set (by rw [t.wid k hk]; exact hj) z
    · rw [if_neg e]
      exact (t.row k hk).of_block (far _ fun e2 => e (t.inj k i hk hi e2))
  · rw [hget]
    split
    · rw [List.length_set]; exact t.wid i hi
    · exact t.wid k hk
end
theorem sl_info : (Tryd.prog.info? 23).map (fun i => (i.zero, i.size, i.bytes)) = some (some (.slice none 0 0), 1, 24) := by kernel_rfl
theorem mk_rows (n : Nat) (hn : n ≤ 1000000) (W : World) : (Instr.makeSlice 55 (.int .i64 (n : Int)) (.int .i64 (n : Int))).run Tryd.prog W = .ok (.slice (some ⟨W.heap.size, 0, none⟩) n n) (W.alloc (.cells (Array.replicate n (.slice none 0 0)) 23)) := by
  obtain ⟨i0, hi, hz0, hz1, hz2⟩ := info_parts sl_info
  have hr := run_make (P := Tryd.prog) W 55 23 i0 (.slice none 0 0) Tryd.underlying55 hi hz0 .i64 .i64 n n (by omega) (by omega) (by rw [hz2]; omega) (by omega)
  simp only [Int.toNat_natCast, hz1, Nat.mul_one] at hr
  rw [hr, ← madeCells_one]
  rfl
/-- A table while it is made. -/
structure TMake (w wr : World) (gT h n k : Nat) (gs : List Nat) : Prop where
  gl : gs.length = k
  blk : wr.heap[gT]? = some (.cells (gs.map (rowV n) ++ List.replicate (h - k) (Value.slice none 0 0)).toArray 23 (0, 0))
  row : ∀ i, i < k → Row wr (gs.getD i 0) (List.replicate n 0)
  lo : ∀ i, i < k → gT < gs.getD i 0
  inj : ∀ i j, i < k → j < k → gs.getD i 0 = gs.getD j 0 → i = j
  bel : Below w.heap.size w wr
  le : w.heap.size ≤ gT
theorem snocD {gs : List Nat} {g i : Nat} (h : i < gs.length) : (gs ++ [g]).getD i 0 = gs.getD i 0 := by
  rw [List.getD_eq_getElem?_getD, List.getElem?_append_left h, List.getD_eq_getElem?_getD]
theorem snocL {gs : List Nat} {g : Nat} : (gs ++ [g]).getD gs.length 0 = g := by simp [List.getD_eq_getElem?_getD]
theorem TMake.step {w wr : World} {gT h n k : Nat} {gs : List Nat} (hM : TMake w wr gT h n k gs) (hk : k < h) : TMake w ((wr.alloc (.cells (Array.replicate n (.int .i64 0)) 3)).setCell ⟨gT, k, none⟩ (rowV n wr.heap.size)) gT h n (k + 1) (gs ++ [wr.heap.size]) := by
  have hlt : gT < wr.heap.size := (Array.getElem?_eq_some_iff.1 hM.blk).1
  have hgl := hM.gl
  have h2 : (wr.alloc (.cells (Array.replicate n (.int .i64 0)) 3)).heap[gT]? = wr.heap[gT]? := Below.heap_alloc wr _ gT hlt
  have hrows : ∀ i, i < k → gs.getD i 0 < wr.heap.size := fun i hi => (hM.row i hi).lt
  have hlist : (gs.map (rowV n) ++ List.replicate (h - k) (Value.slice none 0 0)).set k (rowV n wr.heap.size) = (gs ++ [wr.heap.size]).map (rowV n) ++ List.replicate (h - (k + 1)) (Value.slice none 0 0) := by
    obtain ⟨d, hd⟩ : ∃ d, h - k = d + 1 := ⟨h - k - 1, by omega⟩
    rw [List.set_append_right _ _ (by simp; omega), List.length_map, hgl, Nat.sub_self, hd, List.replicate_succ, List.set_cons_zero, List.map_append, List.append_assoc, show h - (k + 1) = d by omega]
    rfl
  refine ⟨by simp [hgl], ?_, fun i hi => ?_, fun i hi => ?_, fun i j hi hj e => ?_, ?_, hM.le⟩
  · rw [← hlist]
    simp only [World.setCell, Array.getElem?_modify, if_true, h2, hM.blk, Option.map_some]
    simp
  · by_cases e : i < k
    · rw [snocD (by omega)]
      exact ((hM.row i e).alloc _).far (by have := hM.lo i e; show gs.getD i 0 ≠ gT; omega) _
    · obtain rfl : i = gs.length := by omega
      rw [snocL]
      exact (Row.made wr n).far (by show wr.heap.size ≠ gT; omega) _
  · by_cases e : i < k
    · rw [snocD (by omega)]; exact hM.lo i e
    · obtain rfl : i = gs.length := by omega
      rw [snocL]; exact hlt
  · by_cases e1 : i < k
    · by_cases e2 : j < k
      · rw [snocD (by omega), snocD (by omega)] at e
        exact hM.inj i j e1 e2 e
      · obtain rfl : j = gs.length := by omega
        rw [snocD (by omega), snocL] at e
        have := hrows i e1
        omega
    · obtain rfl : i = gs.length := by omega
      by_cases e2 : j < k
      · rw [snocL, snocD (by omega)] at e
        have := hrows j e2
        omega
      · omega
  · exact (hM.bel.alloc hM.bel.size _).setCell (by show w.heap.size ≤ gT; exact hM.le) _
/-- What emptyTable gives. -/
def TblOut (w : World) (h n : Nat) (T : List (List Int)) (w' : World) (e : Ending) : Prop := ∃ gT gs, e = .returned (.slice (some ⟨gT, 0, none⟩) h h) ∧ Tbl w' gT h n gs T ∧ w.heap.size ≤ gT ∧ (∀ i, i < h → w.heap.size ≤ gs.getD i 0) ∧ Below w.heap.size w w'
set_option maxRecDepth 100000 in
set_option maxHeartbeats 4000000 in
theorem emptyTable_c (h n : Nat) (hh : h ≤ 100) (hn : n ≤ 100) (w : World) :
    Calls Tryd.prog 60 #[.int .i64 (h : Int), .int .i64 (n : Int)] w fun e w' => TblOut w h n (List.replicate h (List.replicate n 0)) w' e := by
  have hm1 := mk_rows h (by omega)
  have hm2 := mk_ints n (by omega)
  have hb0 : Below w.heap.size w (w.alloc (.cells (Array.replicate h (.slice none 0 0)) 23)) := by go_grown
  have hM0 : TMake w (w.alloc (.cells (Array.replicate h (.slice none 0 0)) 23)) w.heap.size h n 0 [] := ⟨rfl, by rw [heap_alloc_new]; simp, fun i hi => by omega, fun i hi => by omega, fun i j hi => by omega, hb0, Nat.le_refl _⟩
  obtain ⟨gT, eg⟩ : ∃ g, g = w.heap.size := ⟨_, rfl⟩
  rw [← eg] at hM0
  have HEG := Lib.hid eg
  clear hb0 eg
  go_enter Tryd.func60, Tryd.ntmps60
  go_wp2_with fail
  rw [← HEG.out]
  go_loopw [11] (fun i wr => ∃ (k : Nat) (gs : List Nat), k ≤ h ∧ i = .int .i64 (k : Int) ∧ TMake w wr gT h n k gs) (fun i _ => h - (intOf i).toNat)
  case atStart => exact ⟨0, [], Nat.zero_le _, rfl, hM0⟩
  case round =>
    clear hM0 hm1
    obtain ⟨k, gs, hk, rfl, hM⟩ := hrel
    by_cases hkl : k < h
    · have hki : (k : Int) < (h : Int) := by omega
      have hcell : (wr.alloc (.cells (Array.replicate n (.int .i64 0)) 3)).cell? ⟨gT, k, none⟩ = some (.slice none 0 0) := by
        have hlt : gT < wr.heap.size := (Array.getElem?_eq_some_iff.1 hM.blk).1
        rw [World.cell?_alloc_lt _ _ _ hlt]
        have hgl := hM.gl
        have : (gs.map (rowV n) ++ List.replicate (h - k) (Value.slice none 0 0))[k]? = some (.slice none 0 0) := by
          rw [List.getElem?_append_right (by simp; omega), List.length_map, hgl, Nat.sub_self, List.getElem?_replicate, if_pos (by omega)]
        simp [World.cell?, hM.blk, this]
      have hfz : (wr.alloc (.cells (Array.replicate n (.int .i64 0)) 3)).frozen? ⟨gT, k, none⟩ = false := by
        have hlt : gT < wr.heap.size := (Array.getElem?_eq_some_iff.1 hM.blk).1
        have h2 : (wr.alloc (.cells (Array.replicate n (.int .i64 0)) 3)).heap[gT]? = wr.heap[gT]? := Below.heap_alloc wr _ gT hlt
        simp [World.frozen?, h2, hM.blk]
      have HS := Lib.hid (hM.step hkl)
      have hm2w := hm2 wr
      clear hM
      go_wp2_with fail
      go_roundw
      case rel => exact ⟨k + 1, gs ++ [wr.heap.size], by omega, by go_num, HS.out⟩
      case measure => simp [intOf]; omega
    · obtain rfl : k = h := by omega
      have hki : ¬ ((k : Int) < (k : Int)) := by omega
      have HO := Lib.hid (show TblOut w k n (List.replicate k (List.replicate n 0)) wr (.returned (.slice (some ⟨gT, 0, none⟩) k k)) from
        ⟨gT, gs, rfl, ⟨hM.gl, by simp, ⟨[], by rw [hM.blk]; simp⟩, fun i hi => by
            have := hM.row i hi
            rwa [show (List.replicate k (List.replicate n (0 : Int))).getD i [] = List.replicate n 0 by simp [List.getD_eq_getElem?_getD, List.getElem?_replicate, hi]], fun i hi => by simp [List.getD_eq_getElem?_getD, List.getElem?_replicate, hi], hM.inj, fun i hi e => by have := hM.lo i hi; omega⟩, hM.le, fun i hi => by have := hM.lo i hi; have := hM.le; omega, hM.bel⟩)
      clear hM
      go_wp2
      go_returns
      exact HO.out
end Go.Proofs.YtbpjceffkchmbaaDoor
