/- The frame of a law that names one package-level variable, an array of arrays of integers: what the row's list gives, and that the variable reads behind the call as before. No condition. -/
import Derived.Test.YtbpjceffkchmbaaDoorLFrame
import Derived.ChangeVars
import Derived.Lib.LaidTab
import Derived.Stop.LaidErr
import Derived.WideKeyArgs
namespace Go.Proofs.YtbpjceffkchmbaaDoor
open Go.ChangeShapes Go.WideShapes Go.ChangeAt Go.RowKit Go.Joins
/-- Rows of integers, as a row lists them. -/
def gridData {H : Type} (rows : List (List Int)) : DataW H := .agg (rows.map fun zs => Lib.tabData .i64 zs)
theorem cells_of_grid {H : Type} {enc : TypeId × Value → H} {P : Program} {w : World} {base : Nat} {sp : Nat → Bool} {held : Bool} {fuel : Nat} {t e u : TypeId} {n m : Nat} {cs : List Value} {rows : List (List Int)} {p : List MemPlace}
    (ht : P.underlying t = some (.array n e)) (he : P.underlying e = some (.array m u)) (hu : P.underlying u = some (.int .i64)) (hcu : P.cellsOf u = 1) (hce : P.cellsOf e = m) (hct : P.cellsOf t = n * m)
    (h : DataW.trod enc P w base sp held fuel t cs = some (gridData rows, p)) : ∀ i zs, rows[i]? = some zs → i < n → ∀ j, j < zs.length → cs[i * m + j]? = some (.int .i64 (zs.getD j 0)) := by
  cases fuel with
  | zero => simp [DataW.trod] at h
  | succ fuel =>
    simp only [DataW.trod, ht, hce, hct] at h
    split at h
    · rename_i hl
      obtain ⟨xs, hm, hx⟩ := Option.map_eq_some_iff.1 h
      have hxs : xs.map (·.1) = rows.map fun zs => (Lib.tabData .i64 zs : DataW H) := by
        have := congrArg Prod.fst hx
        simpa [gridData] using this
      intro i zs hzs hi j hj
      obtain ⟨b, hb, hf⟩ := Lib.mapM_at hm i i (by simp [hi])
      have h2 : (xs.map (·.1))[i]? = some b.1 := by simp [hb]
      rw [hxs, List.getElem?_map, hzs] at h2
      simp only [Option.map_some, Option.some.injEq] at h2
      obtain ⟨b1, b2⟩ := b
      dsimp only at h2
      subst h2
      have hrow := Lib.cells_of_tab he hu hcu hce hf
      have h3 : ((cs.drop (i * m)).take m)[j]? = some (.int .i64 (zs.getD j 0)) := by
        rw [hrow, List.getElem?_map, List.getD_eq_getElem?_getD, List.getElem?_eq_getElem hj]
        rfl
      rw [List.getElem?_take] at h3
      split at h3
      · rw [List.getElem?_drop] at h3
        exact h3
      · cases h3
    · cases h
/-- What the list's head gives: the variable's cells. -/
theorem grid_of_head {P : Program} {W : World} {name : String} {rows : List (List Int)} {rest : List (String × DataW Unit)} {g : Nat} {t e u : TypeId} {n m : Nat}
    (hg : P.globalNamed name = some g) (hty : (P.globals[g]?).map (·.type) = some t) (ht : P.underlying t = some (.array n e)) (he : P.underlying e = some (.array m u)) (hu : P.underlying u = some (.int .i64)) (hcu : P.cellsOf u = 1) (hce : P.cellsOf e = m) (hct : P.cellsOf t = n * m)
    (h : laidMet P ((name, gridData rows) :: rest) W) : ∀ i zs, rows[i]? = some zs → i < n → ∀ j, j < zs.length → W.cell? ⟨g, i * m + j, none⟩ = some (.int .i64 (zs.getD j 0)) := by
  obtain ⟨ps, ⟨g', t', cs, fuel, p, q, hg', ht', hvar, hd, _, _⟩, _⟩ := h
  obtain rfl := Option.some.inj (hg.symm.trans hg')
  obtain rfl := Option.some.inj (hty.symm.trans ht')
  intro i zs hzs hi j hj
  have h1 := cells_of_grid ht he hu hcu hce hct hd i zs hzs hi j hj
  have := World.var?_cell hg hvar (i * m + j)
  rw [this]
  simpa using h1
/-- The variable reads behind the call as before. -/
theorem vars_stay {H : Type} {enc : TypeId × Value → H} {W W' : World} {n : String} {g : Nat} {t : TypeId} {gs : List (DataW H)} {ps : List MemPlace} (hg : Tryd.prog.globalNamed n = some g) (hty : (Tryd.prog.globals[g]?).map (·.type) = some t) (hr : Tryd.prog.readableRec t = true) (hrow : t < Tryd.prog.types.size)
    (h : DataW.TrodVars enc Tryd.prog W (fun _ => true) [n] gs ps) (hb : Below W.heap.size W W') : ∃ d, gs = [d] ∧ DataW.TrodVars enc Tryd.prog W' (fun b => decide (b < W.heap.size)) [n] gs ps := by
  have hlt := DataW.TrodVars.lt h
  obtain ⟨g', t', cs, fuel, d, p, rfl, hg', hty', hv, hd, rfl⟩ := trodVars_one h
  obtain rfl := Option.some.inj (hg.symm.trans hg')
  obtain rfl := Option.some.inj (hty.symm.trans hty')
  refine ⟨d, rfl, trodVars_mk1 hg hty ?_ (DataW.trod_stays (kids_book laid_out hr) (book_sized hr) (fun h => by cases h) ⟨hrow, book_self t⟩ hd (fun x hx => hb.same (hlt x (List.mem_append.2 (.inr hx)))) (fun x hx => by simpa using hlt x (List.mem_append.2 (.inr hx))))⟩
  have hgl : g < W.heap.size := by
    unfold World.var? at hv
    rw [hg] at hv
    simp only [Option.bind_some] at hv
    refine Classical.byContradiction fun hn => ?_
    rw [Array.getElem?_eq_none (by omega)] at hv
    cases hv
  have hblk := hb.block g hgl
  rw [← hv]
  unfold World.var?
  rw [hg]
  simp only [Option.bind_some, hblk]
end Go.Proofs.YtbpjceffkchmbaaDoor
