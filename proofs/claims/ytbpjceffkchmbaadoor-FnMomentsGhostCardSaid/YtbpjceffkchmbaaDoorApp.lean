/- Slices of integers that the call itself makes: what they hold, and append onto them. Conditions: lengths below 2 to the power of 24. -/
import Derived.Test.YtbpjceffkchmbaaDoorChecked
import Derived.Test.YtbpjceffkchmbaaDoorBase
import Derived.Maps.AppendAt
import Derived.Deep.AppendLies
namespace Go.Proofs.YtbpjceffkchmbaaDoor
open Go.RowKit
theorem int_info : (Tryd.prog.info? 3).map (fun i => (i.zero, i.size, i.bytes)) = some (some (.int .i64 0), 1, 8) := by kernel_rfl

/-! ### Results that are images -/
theorem res_img {fn : Func} {t : Tmp} (h : fn.results = #[.cell t 25]) (tmps : Array Value) (w : World) {b : Nat} {x y : Value} (ht : tmps.getD t undef = .pointer (some ⟨b, 0, none⟩)) (h0 : w.cell? ⟨b, 0, none⟩ = some x) (h1 : w.cell? ⟨b, 1, none⟩ = some y) :
    (results fn tmps).run Tryd.prog w = .ok (.agg #[x, y]) w := by
  have ht' : tmps[t]?.getD undef = .pointer (some ⟨b, 0, none⟩) := by rw [← ht, Array.getD_eq_getD_getElem?]
  simp only [results, h]
  simp [go_sem, ht', h0, h1]
theorem res_img_b {fn : Func} {t u : Tmp} (h : fn.results = #[.cell t 25, .tmp u]) (tmps : Array Value) (w : World) {b : Nat} {x y : Value} (ht : tmps.getD t undef = .pointer (some ⟨b, 0, none⟩)) (h0 : w.cell? ⟨b, 0, none⟩ = some x) (h1 : w.cell? ⟨b, 1, none⟩ = some y) :
    (results fn tmps).run Tryd.prog w = .ok (.tuple #[.agg #[x, y], tmps.getD u undef]) w := by
  have ht' : tmps[t]?.getD undef = .pointer (some ⟨b, 0, none⟩) := by rw [← ht, Array.getD_eq_getD_getElem?]
  simp only [results, h]
  simp [go_sem, ht', h0, h1]
/-- A store of two cells into a box, read again. -/
theorem set2_get {w : World} {b : Nat} {x y x' y' : Value} (h0 : w.cell? ⟨b, 0, none⟩ = some x') (h1 : w.cell? ⟨b, 1, none⟩ = some y') :
    ((w.setCell ⟨b, 0, none⟩ x).setCell ⟨b, 1, none⟩ y).cell? ⟨b, 0, none⟩ = some x ∧ ((w.setCell ⟨b, 0, none⟩ x).setCell ⟨b, 1, none⟩ y).cell? ⟨b, 1, none⟩ = some y := by
  refine ⟨?_, World.cell?_setCell_same' _ _ _ ?_⟩
  · rw [World.cell?_setCell_other _ _ _ _ (by simp)]
    exact World.cell?_setCell_same' _ _ _ (by rw [h0]; rfl)
  · rw [World.cell?_setCell_other _ _ _ _ (by simp), h1]
    rfl

/-- The slice value v owns the integers xs, in a block from base on. -/
def OwnI (w : World) (base : Nat) (v : Value) (xs : List Int) : Prop := w.ownsRow base 3 1 v xs.length (xs.map (Value.int .i64))
section
variable {w w' : World} {base : Nat} {v : Value} {xs : List Int}
theorem OwnI.nil (w : World) (base : Nat) : OwnI w base (.slice none 0 0) [] := ⟨rfl, .inl ⟨rfl, rfl⟩⟩
theorem OwnI.empty (w : World) {base : Nat} (h : base ≤ w.heap.size) : OwnI (w.alloc (.cells #[] 3)) base (.slice (some ⟨w.heap.size, 0, none⟩) 0 0) [] :=
  ⟨rfl, .inr ⟨w.heap.size, 0, #[], rfl, h, heap_alloc_new w _, Nat.le_refl _, by unfold maxLen; omega, rfl, rfl⟩⟩
theorem OwnI.row (h : OwnI w base v xs) (hv : v ≠ .slice none 0 0) : ∃ g c, v = .slice (some ⟨g, 0, none⟩) xs.length c ∧ base ≤ g ∧ Row w g xs := by
  rcases h.2 with ⟨e, _⟩ | ⟨g, cap, cur, e, hg, hh, _, _, _, ht⟩
  · exact (hv e).elim
  · refine ⟨g, cap, e, hg, cur.toList.drop (xs.length * 1), ?_⟩
    rw [hh, ← ht, List.take_append_drop]
theorem OwnI.ints (h : OwnI w base v xs) : Ints w.heap.size w v xs := by
  by_cases hv : v = .slice none 0 0
  · subst hv
    rcases h.2 with ⟨_, e⟩ | ⟨g, cap, cur, e, _⟩
    · exact .inl ⟨List.eq_nil_of_length_eq_zero e, none, 0, rfl⟩
    · injection e with e1; cases e1
  · obtain ⟨g, c, rfl, _, hr⟩ := h.row hv
    exact hr.ints hr.lt c
theorem OwnI.of_row {g : Nat} (h : w.heap[g]? = some (.cells (xs.map (Value.int .i64)).toArray 3 (0, 0))) (hg : base ≤ g) (hl : xs.length ≤ maxLen) : OwnI w base (.slice (some ⟨g, 0, none⟩) xs.length xs.length) xs :=
  ⟨by simp, .inr ⟨g, xs.length, _, rfl, hg, h, Nat.le_refl _, hl, by simp, List.take_of_length_le (by simp)⟩⟩
theorem OwnI.alloc (h : OwnI w base v xs) (o : Obj) : OwnI (w.alloc o) base v xs := World.ownsRow.alloc h o
theorem OwnI.drew (h : OwnI w base v xs) : OwnI w.drew base v xs := h
theorem OwnI.below {B : Nat} (h : OwnI w base v xs) (hb : Below B w w') (hB : w.heap.size ≤ B) : OwnI w' base v xs := by
  refine ⟨h.1, ?_⟩
  rcases h.2 with h2 | ⟨g, cap, cur, e, hg, hh, r⟩
  · exact .inl h2
  · have hlt : g < w.heap.size := (Array.getElem?_eq_some_iff.1 hh).1
    exact .inr ⟨g, cap, cur, e, hg, (hb.block g (by omega)).trans hh, r⟩
theorem OwnI.far (h : OwnI w base v xs) {p : Addr} (hp : v.ownBlock ≠ some p.block) (u : Value) : OwnI (w.setCell p u) base v xs := by
  refine ⟨h.1, ?_⟩
  rcases h.2 with h2 | ⟨g, cap, cur, e, hg, hh, r⟩
  · exact .inl h2
  · subst e
    exact .inr ⟨g, cap, cur, rfl, hg, (Below.heap_setCell w p u g (fun e => hp (by simp [Value.ownBlock, e]))).trans hh, r⟩
theorem OwnI.own_lt (h : OwnI w base v xs) (k : Nat) (e : v.ownBlock = some k) : base ≤ k ∧ k < w.heap.size := by
  rcases h.2 with ⟨rfl, _⟩ | ⟨g, cap, cur, rfl, hg, hh, _⟩
  · simp [Value.ownBlock] at e
  · simp [Value.ownBlock] at e
    subst e
    exact ⟨hg, (Array.getElem?_eq_some_iff.1 hh).1⟩
theorem OwnI.more (h : OwnI w base v xs) {base' : Nat} (hb : base' ≤ base) : OwnI w base' v xs := by
  refine ⟨h.1, ?_⟩
  rcases h.2 with h2 | ⟨g, cap, cur, e, hg, r⟩
  · exact .inl h2
  · exact .inr ⟨g, cap, cur, e, by omega, r⟩
end
theorem Ints.one (w : World) (x : Int) (T : TypeId) : Ints (w.heap.size + 1) (w.alloc (.cells #[.int .i64 x] T)) (.slice (some ⟨w.heap.size, 0, none⟩) 1 1) [x] :=
  .inr ⟨w.heap.size, 0, 1, rfl, by omega, fun k hk => by
    obtain rfl : k = 0 := by simpa using hk
    simp⟩

theorem run_app_none (w : World) (ty : TypeId) {base : Nat} {v : Value} {xs : List Int} (hown : OwnI w base v xs) (c : Nat) : (Builtin.append_ #[23, 23] ty #[v, .slice none 0 c]).run Tryd.prog w = .ok v w := by
  obtain ⟨i0, hi, hz0, hz1, hz2⟩ := info_parts int_info
  have hu := run_underlying (P := Tryd.prog) (w := w) Tryd.underlying23
  rcases hown.2 with ⟨rfl, e⟩ | ⟨g, cap, cur, rfl, _, _, hnc, _⟩
  · simp [Builtin.append_, hu, sizeOf, typeInfo, hi, Builtin.lenOf, Builtin.firstCells]
  · simp [Builtin.append_, hu, sizeOf, typeInfo, hi, Builtin.lenOf, Builtin.firstCells, hnc, storeCells]
theorem run_app_some (w : World) (ty : TypeId) {base : Nat} {v : Value} {xs : List Int} (hown : OwnI w base v xs) {ad : Addr} {cap : Nat} {ys : List Int} (hc : ∀ k, k < ys.length → w.cell? (ad.add k) = some (.int .i64 (ys.getD k 0))) (hlen : xs.length + ys.length ≤ 16777216) (hbase : base ≤ w.heap.size) :
    ∃ v' w', (Builtin.append_ #[23, 23] ty #[v, .slice (some ad) ys.length cap]).run Tryd.prog w = .ok v' w' ∧ OwnI w' base v' (xs ++ ys) ∧ w.grownBy w' v.ownBlock ∧ (v ≠ .slice none 0 0 ∨ ys ≠ [] → v' ≠ .slice none 0 0) ∧ (v'.ownBlock = v.ownBlock ∨ v'.ownBlock = some w.heap.size) := by
  obtain ⟨i0, hi, hz0, hz1, hz2⟩ := info_parts int_info
  obtain ⟨v', w', hrun, h2, h3, h4, h5⟩ := run_append_own_at (P := Tryd.prog) w base 23 ty 3 i0 (.int .i64 0) 1 8 Tryd.underlying23 hi hz0 hz1 hz2 rfl (by decide) v xs.length (xs.map (Value.int .i64)) hown ad ys.length cap (ys.map (Value.int .i64)) (by simp)
    (fun j u hj => by
      rw [List.getElem?_map] at hj
      cases hy : ys[j]? with
      | none => rw [hy] at hj; cases hj
      | some y =>
        rw [hy] at hj
        simp only [Option.map_some, Option.some.injEq] at hj
        subst hj
        have hjl := (List.getElem?_eq_some_iff.1 hy).1
        have := hc j hjl
        rw [List.getD_eq_getElem?_getD, hy] at this
        exact this)
    (fun u hu => by obtain ⟨y, _, rfl⟩ := List.mem_map.1 hu; rfl) (by unfold maxLen; omega) (by omega) hbase
  refine ⟨v', w', hrun, ?_, h3, fun h e => ?_, h5⟩
  · unfold OwnI
    rw [List.length_append, List.map_append]
    exact h2
  · obtain ⟨e1, e2⟩ := h4.1 e
    rcases h with h | h
    · exact h e1
    · exact h (List.eq_nil_of_length_eq_zero e2)
theorem run_app (w : World) (ty : TypeId) {base : Nat} {v : Value} {xs : List Int} (hown : OwnI w base v xs) {B : Nat} {u : Value} {ys : List Int} (hr : Ints B w u ys) (hlen : xs.length + ys.length ≤ 16777216) (hbase : base ≤ w.heap.size) :
    ∃ v' w', (Builtin.append_ #[23, 23] ty #[v, u]).run Tryd.prog w = .ok v' w' ∧ OwnI w' base v' (xs ++ ys) ∧ w.grownBy w' v.ownBlock ∧ (v ≠ .slice none 0 0 ∨ ys ≠ [] → v' ≠ .slice none 0 0) ∧ (v'.ownBlock = v.ownBlock ∨ v'.ownBlock = some w.heap.size) := by
  rcases hr with ⟨rfl, A, cap, rfl⟩ | ⟨b, off, cap, rfl, hb, hc⟩
  · cases A with
    | none =>
      refine ⟨v, w, run_app_none w ty hown cap, by simpa using hown, World.grownBy.refl w _, fun h => ?_, .inl rfl⟩
      rcases h with h | h
      · exact h
      · exact (h rfl).elim
    | some ad => exact run_app_some w ty (ys := []) hown (fun k hk => by simp at hk) hlen hbase
  · exact run_app_some w ty hown (fun k hk => by rw [Go.WideShapes.add_plain]; exact hc k hk) hlen hbase
theorem wp_app {o : Oper} {a : Act} {w : World} {K : Act → World → Prop} {Q : Exit → Act → World → Prop} (s x : Operand) (ho : o.op = .call { callee := .builtin .append, args := #[s, x], argTypes := #[23, 23] })
    {base : Nat} {v : Value} {xs : List Int} (hs : a.eval s = v) (hown : OwnI w base v xs) {B : Nat} {u : Value} {ys : List Int} (hx : a.eval x = u) (hr : Ints B w u ys) (hlen : xs.length + ys.length ≤ 16777216) (hbase : base ≤ w.heap.size)
    (h : ∀ v' w', OwnI w' base v' (xs ++ ys) → w.grownBy w' v.ownBlock → (v ≠ .slice none 0 0 ∨ ys ≠ [] → v' ≠ .slice none 0 0) → (v'.ownBlock = v.ownBlock ∨ v'.ownBlock = some w.heap.size) → K (a.put o.dst v') w') : o.wp Tryd.prog a w K Q := by
  obtain ⟨v', w', hrun, h2, h3, h4, h5⟩ := run_app w o.type hown hr hlen hbase
  unfold Oper.wp execOp
  simp only [ho, resolve, invoke, builtin, Sem.run_bind, Sem.run_pure, Result.andThen_ok, List.map_toArray, List.map_cons, List.map_nil, hs, hx, hrun]
  exact h v' w' h2 h3 h4 h5
theorem wpList_app {ops : Array Oper} {rest : List Oper} {o : Oper} {a : Act} {w : World} {Q : Exit → Act → World → Prop} (hgd : o.guard = none) (s x : Operand) (ho : o.op = .call { callee := .builtin .append, args := #[s, x], argTypes := #[23, 23] })
    {base : Nat} {v : Value} {xs : List Int} (hs : a.eval s = v) (hown : OwnI w base v xs) {B : Nat} {u : Value} {ys : List Int} (hx : a.eval x = u) (hr : Ints B w u ys) (hlen : xs.length + ys.length ≤ 16777216) (hbase : base ≤ w.heap.size)
    (h : ∀ v' w', OwnI w' base v' (xs ++ ys) → w.grownBy w' v.ownBlock → (v ≠ .slice none 0 0 ∨ ys ≠ [] → v' ≠ .slice none 0 0) → (v'.ownBlock = v.ownBlock ∨ v'.ownBlock = some w.heap.size) → wpList Tryd.prog ops Q rest (a.put o.dst v') w') : wpList Tryd.prog ops Q (o :: rest) a w :=
  wpList_plain hgd fun _ hK => wp_app s x ho hs hown hx hr hlen hbase fun v' w' h2 h3 h4 h5 => hK _ _ (h v' w' h2 h3 h4 h5)
theorem step_app {ops : Array Oper} {o : Oper} {a : Act} {w : World} {K : Act → World → Prop} {Q : Exit → Act → World → Prop} {E : Prop} (hgd : o.guard = none) (s x : Operand) (ho : o.op = .call { callee := .builtin .append, args := #[s, x], argTypes := #[23, 23] })
    {base : Nat} {v : Value} {xs : List Int} (hs : a.eval s = v) (hown : OwnI w base v xs) {B : Nat} {u : Value} {ys : List Int} (hx : a.eval x = u) (hr : Ints B w u ys) (hlen : xs.length + ys.length ≤ 16777216) (hbase : base ≤ w.heap.size)
    (h : ∀ v' w', OwnI w' base v' (xs ++ ys) → w.grownBy w' v.ownBlock → (v ≠ .slice none 0 0 ∨ ys ≠ [] → v' ≠ .slice none 0 0) → (v'.ownBlock = v.ownBlock ∨ v'.ownBlock = some w.heap.size) → K (a.put o.dst v') w') :
    if Region.wanted o (yielded ops a.tmps) = true then Oper.wp Tryd.prog o a w K Q else E := by
  have hw : Region.wanted o (yielded ops a.tmps) = true := by simp [Region.wanted, hgd]
  rw [if_pos hw]
  exact wp_app s x ho hs hown hx hr hlen hbase h
theorem Below.app {B : Nat} {a w w' : World} {base : Nat} {v : Value} {xs : List Int} (h : Below B a w) (hown : OwnI w base v xs) (hg : w.grownBy w' v.ownBlock) (hB : B ≤ base) (hs : B ≤ w.heap.size) : Below B a w' :=
  h.grown hg hs fun k e => Nat.le_trans hB (hown.own_lt k e).1
end Go.Proofs.YtbpjceffkchmbaaDoor
