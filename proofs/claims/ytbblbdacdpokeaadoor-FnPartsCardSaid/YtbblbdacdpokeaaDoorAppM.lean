/- Slices of images that the call itself makes: what they hold, and append onto them. Conditions: at most 2 to the power of 20 images. -/
import Derived.Test.YtbblbdacdpokeaaDoorKT
import Derived.Test.YtbblbdacdpokeaaDoorTW
import Derived.OwnWalkIn
namespace Go.Proofs.YtbblbdacdpokeaaDoor
open Go.RowKit
theorem img_info : (Tryd.prog.info? 25).map (fun i => (i.zero, i.size, i.bytes)) = some (some (.agg #[.int .i64 0, .slice none 0 0]), 2, 32) := by kernel_rfl
/-- The cells of some images: width and rows, each. -/
def flatV (L : List (Value × Value)) : List Value := L.flatMap fun p => [p.1, p.2]
theorem flatV_append (L M : List (Value × Value)) : flatV (L ++ M) = flatV L ++ flatV M := by simp [flatV]
theorem flatV_length (L : List (Value × Value)) : (flatV L).length = L.length * 2 := by
  induction L with
  | nil => rfl
  | cons p L ih => simp [flatV] at ih ⊢; omega
theorem flatV_get (L : List (Value × Value)) (k : Nat) (p : Value × Value) (h : L[k]? = some p) : (flatV L)[k * 2]? = some p.1 ∧ (flatV L)[k * 2 + 1]? = some p.2 := by
  induction L generalizing k with
  | nil => simp at h
  | cons q L ih =>
    cases k with
    | zero => simp at h; subst h; simp [flatV]
    | succ k =>
      have := ih k (by simpa using h)
      have e1 : (k + 1) * 2 = k * 2 + 1 + 1 := by omega
      rw [e1]
      simpa [flatV] using this
/-- The slice value v owns the images L, in a block from base on. -/
def OwnP (w : World) (base : Nat) (v : Value) (L : List (Value × Value)) : Prop := w.ownsRow base 25 2 v L.length (flatV L)
theorem OwnP.nil (w : World) (base : Nat) : OwnP w base (.slice none 0 0) [] := ⟨rfl, .inl ⟨rfl, rfl⟩⟩
theorem OwnP.form {w : World} {base : Nat} {v : Value} {L : List (Value × Value)} (h : OwnP w base v L) : ∃ A n c, v = .slice A n c := by
  rcases h.2 with ⟨e, _⟩ | ⟨g, cap, cur, e, _⟩
  · exact ⟨_, _, _, e⟩
  · exact ⟨_, _, _, e⟩
theorem one_flat {x y : Value} (hx : x.oneCell' = true) (hy : y.oneCell' = true) : ∀ u ∈ flatV [(x, y)], u.oneCell' = true := by
  intro u hu
  simp [flatV] at hu
  rcases hu with rfl | rfl
  · exact hx
  · exact hy
theorem run_appP (w : World) (ty : TypeId) {base : Nat} {v : Value} {L : List (Value × Value)} (hown : OwnP w base v L) {b c : Nat} {x y : Value} (hx : x.oneCell' = true) (hy : y.oneCell' = true) (h0 : w.cell? ⟨b, 0, none⟩ = some x) (h1 : w.cell? ⟨b, 1, none⟩ = some y) (hlen : L.length ≤ 1048576) (hbase : base ≤ w.heap.size) :
    ∃ v' w', (Builtin.append_ #[33, 33] ty #[v, .slice (some ⟨b, 0, none⟩) 1 c]).run Tryd.prog w = .ok v' w' ∧ OwnP w' base v' (L ++ [(x, y)]) ∧ w.grownBy w' v.ownBlock ∧ (v'.ownBlock = v.ownBlock ∨ v'.ownBlock = some w.heap.size) := by
  obtain ⟨i0, hi, hz0, hz1, hz2⟩ := info_parts img_info
  obtain ⟨v', w', hrun, h2, h3, h4, h5⟩ := run_append_own_at (P := Tryd.prog) w base 33 ty 25 i0 (.agg #[.int .i64 0, .slice none 0 0]) 2 32 Tryd.underlying33 hi hz0 hz1 hz2 rfl (by decide) v L.length (flatV L) hown ⟨b, 0, none⟩ 1 c (flatV [(x, y)]) (by simp [flatV])
    (fun j u hj => by
      rw [Go.WideShapes.add_plain]
      match j with
      | 0 => simp [flatV] at hj; subst hj; exact h0
      | 1 => simp [flatV] at hj; subst hj; exact h1
      | j + 2 => simp [flatV] at hj)
    (one_flat hx hy) (by unfold maxLen; omega) (by omega) hbase
  refine ⟨v', w', hrun, ?_, h3, h5⟩
  unfold OwnP
  rw [List.length_append, flatV_append]
  exact h2
theorem wp_appP {o : Oper} {a : Act} {w : World} {K : Act → World → Prop} {Q : Exit → Act → World → Prop} (s z : Operand) (ho : o.op = .call { callee := .builtin .append, args := #[s, z], argTypes := #[33, 33] })
    {base : Nat} {v : Value} {L : List (Value × Value)} (hs : a.eval s = v) (hown : OwnP w base v L) {b c : Nat} {x y : Value} (hz : a.eval z = .slice (some ⟨b, 0, none⟩) 1 c) (hx : x.oneCell' = true) (hy : y.oneCell' = true) (h0 : w.cell? ⟨b, 0, none⟩ = some x) (h1 : w.cell? ⟨b, 1, none⟩ = some y) (hlen : L.length ≤ 1048576) (hbase : base ≤ w.heap.size)
    (h : ∀ v' w', OwnP w' base v' (L ++ [(x, y)]) → w.grownBy w' v.ownBlock → (v'.ownBlock = v.ownBlock ∨ v'.ownBlock = some w.heap.size) → K (a.put o.dst v') w') : o.wp Tryd.prog a w K Q := by
  obtain ⟨v', w', hrun, h2, h3, h4⟩ := run_appP w o.type hown hx hy h0 h1 hlen hbase (c := c)
  unfold Oper.wp execOp
  simp only [ho, resolve, invoke, builtin, Sem.run_bind, Sem.run_pure, Result.andThen_ok, List.map_toArray, List.map_cons, List.map_nil, hs, hz, hrun]
  exact h v' w' h2 h3 h4
theorem wpList_appP {ops : Array Oper} {rest : List Oper} {o : Oper} {a : Act} {w : World} {Q : Exit → Act → World → Prop} (hgd : o.guard = none) (s z : Operand) (ho : o.op = .call { callee := .builtin .append, args := #[s, z], argTypes := #[33, 33] })
    {base : Nat} {v : Value} {L : List (Value × Value)} (hs : a.eval s = v) (hown : OwnP w base v L) {b c : Nat} {x y : Value} (hz : a.eval z = .slice (some ⟨b, 0, none⟩) 1 c) (hx : x.oneCell' = true) (hy : y.oneCell' = true) (h0 : w.cell? ⟨b, 0, none⟩ = some x) (h1 : w.cell? ⟨b, 1, none⟩ = some y) (hlen : L.length ≤ 1048576) (hbase : base ≤ w.heap.size)
    (h : ∀ v' w', OwnP w' base v' (L ++ [(x, y)]) → w.grownBy w' v.ownBlock → (v'.ownBlock = v.ownBlock ∨ v'.ownBlock = some w.heap.size) → wpList Tryd.prog ops Q rest (a.put o.dst v') w') : wpList Tryd.prog ops Q (o :: rest) a w :=
  wpList_plain hgd fun _ hK => wp_appP s z ho hs hown hz hx hy h0 h1 hlen hbase fun v' w' h2 h3 h4 => hK _ _ (h v' w' h2 h3 h4)
theorem wpListIn_appP {F : Fence} {nn : Nat} {ops : Array Oper} {rest : List Oper} {o : Oper} {a : Act} {w : World} {Q : Exit → Act → World → Prop} (hgd : o.guard = none) (s z : Operand) (ho : o.op = .call { callee := .builtin .append, args := #[s, z], argTypes := #[33, 33] })
    {base : Nat} {v : Value} {L : List (Value × Value)} (hs : a.eval s = v) (hown : OwnP w base v L) {b c : Nat} {x y : Value} (hz : a.eval z = .slice (some ⟨b, 0, none⟩) 1 c) (hx : x.oneCell' = true) (hy : y.oneCell' = true) (h0 : w.cell? ⟨b, 0, none⟩ = some x) (h1 : w.cell? ⟨b, 1, none⟩ = some y) (hlen : L.length ≤ 1048576) (hbase : base ≤ w.heap.size)
    (h : ∀ v' w', OwnP w' base v' (L ++ [(x, y)]) → w.grownBy w' v.ownBlock → (v'.ownBlock = v.ownBlock ∨ v'.ownBlock = some w.heap.size) → wpListIn F nn Tryd.prog ops Q rest (a.put o.dst v') w') : wpListIn F nn Tryd.prog ops Q (o :: rest) a w := by
  refine wpListIn_plain hgd fun K hK' => ?_
  obtain ⟨v', w', hrun, h2, h3, h4⟩ := run_appP w o.type hown hx hy h0 h1 hlen hbase (c := c)
  unfold Oper.wpIn
  refine ⟨?_, ?_⟩
  · simp [Oper.about, ho, resolve, Target.leads, Sem.run_pure]
  · rw [Oper.semAt_plain F _ _ (by rw [ho]; intro c hc'; cases hc')]
    simp [execOp, ho, resolve, invoke, builtin, hs, hz, hrun, Result.andThen]
    exact hK' _ _ (h v' w' h2 h3 h4)
/-- Images of the call's own: n columns, h rows, rows L; their blocks from base on, below top, none of them gl. -/
structure Imgs (base top gl : Nat) (w : World) (n h : Nat) (v : Value) (L : List (List Nat)) (gs : List (Nat × Nat)) : Prop where
  len : gs.length = L.length
  own : OwnP w base v (gs.map fun p => (.int .i64 (n : Int), .slice (some ⟨p.1, 0, none⟩) h p.2))
  rows : ∀ k, k < L.length → Row w (gs.getD k (0, 0)).1 (casts (L.getD k [])) ∧ base ≤ (gs.getD k (0, 0)).1 ∧ (gs.getD k (0, 0)).1 < top ∧ (gs.getD k (0, 0)).1 ≠ gl
  blk : ∀ b, v.ownBlock = some b → base ≤ b ∧ b < top ∧ b ≠ gl
  dis : ∀ k b, k < L.length → v.ownBlock = some b → (gs.getD k (0, 0)).1 ≠ b
theorem cell_grown {w w' : World} {row : Option Nat} {p : Addr} {v : Value} (h : w.cell? p = some v) (hg : w.grownBy w' row) (hne : ∀ b, row = some b → p.block ≠ b) : w'.cell? p = some v := by
  have hb := hg.block p.block (lt_of_cell h) (fun e => hne _ e.symm rfl)
  rw [← h]
  unfold World.cell?
  rw [hb]
theorem frozen_grown {w w' : World} {row : Option Nat} {p : Addr} {v : Value} (h : w.cell? p = some v) (hg : w.grownBy w' row) (hne : ∀ b, row = some b → p.block ≠ b) {x : Bool} (hf : w.frozen? p = x) : w'.frozen? p = x := by
  have hb := hg.block p.block (lt_of_cell h) (fun e => hne _ e.symm rfl)
  rw [← hf]
  unfold World.frozen?
  rw [hb]
theorem keeps2 {w w' : World} {a b : Nat} {xs ys : List Int} (hr : Row w a xs) (hs : Row w b ys) (ho : Only2 w w' a b) : KeepsOthers w w' := ⟨ho.size, fun k o hk hc => by
  have hlt := (Array.getElem?_eq_some_iff.1 hk).1
  refine (ho.block k hlt ?_ ?_).trans hk
  · rintro rfl
    obtain ⟨sp, h⟩ := hr
    rw [h] at hk
    cases hk
    cases hc
  · rintro rfl
    obtain ⟨sp, h⟩ := hs
    rw [h] at hk
    cases hk
    cases hc⟩
theorem keepsOwn {w w' : World} {base : Nat} {v : Value} {L : List (Value × Value)} (hown : OwnP w base v L) (hg : w.grownBy w' v.ownBlock) : KeepsOthers w w' := KeepsOthers.of_grownBy hg (fun j o e ho => by
  rcases hown.2 with ⟨e2, _⟩ | ⟨g, cap, cur, e2, _, hh, _⟩
  · rw [e2] at e; simp [Value.ownBlock] at e
  · rw [e2] at e
    simp [Value.ownBlock] at e
    subst e
    rw [hh] at ho
    cases ho
    rfl)
section
variable {base top gl n h : Nat} {w w' : World} {v : Value} {L : List (List Nat)} {gs : List (Nat × Nat)}
theorem Imgs.nil (base top gl : Nat) (w : World) (n h : Nat) : Imgs base top gl w n h (.slice none 0 0) [] [] :=
  ⟨rfl, OwnP.nil w base, fun k hk => by simp at hk, fun b hb => by simp [Value.ownBlock] at hb, fun k _ hk => by simp at hk⟩
theorem Imgs.turn (hi : Imgs base top gl w n h v L gs) (hb : ∀ b, b < w.heap.size → base ≤ b → b < top → b ≠ gl → (∃ o : Obj, w.heap[b]? = some o ∧ o.isCells = true) → w'.heap[b]? = w.heap[b]?) : Imgs base top gl w' n h v L gs := by
  refine ⟨hi.len, ?_, fun k hk => ?_, hi.blk, hi.dis⟩
  · refine ⟨hi.own.1, ?_⟩
    rcases hi.own.2 with h2 | ⟨g, cap, cur, e, hg, hh, r⟩
    · exact .inl h2
    · subst e
      have := hi.blk g rfl
      exact .inr ⟨g, cap, cur, rfl, hg, (hb g (Array.getElem?_eq_some_iff.1 hh).1 this.1 this.2.1 this.2.2 ⟨_, hh, rfl⟩).trans hh, r⟩
  · obtain ⟨h1, h2, h3, h4⟩ := hi.rows k hk
    exact ⟨h1.of_block (hb _ h1.lt h2 h3 h4 (by obtain ⟨sp, hh⟩ := h1; exact ⟨_, hh, rfl⟩)), h2, h3, h4⟩
theorem Imgs.below (hi : Imgs base top gl w n h v L gs) (hb : Below w.heap.size w w') : Imgs base top gl w' n h v L gs := hi.turn fun b h1 _ _ _ _ => hb.block b h1
theorem Imgs.only2 {a b : Nat} (hi : Imgs base top gl w n h v L gs) (ho : Only2 w w' a b) (ha : a = gl ∨ a < base ∨ top ≤ a) (hb : b = gl ∨ b < base ∨ top ≤ b) : Imgs base top gl w' n h v L gs :=
  hi.turn fun k h1 h2 h3 h4 _ => ho.block k h1 (by omega) (by omega)
theorem Imgs.only {a : Nat} (hi : Imgs base top gl w n h v L gs) (ho : w.grownBy w' (some a)) (ha : a = gl ∨ a < base ∨ top ≤ a) : Imgs base top gl w' n h v L gs :=
  hi.turn fun k h1 h2 h3 h4 _ => ho.block k h1 (by intro e; cases e; omega)
theorem Imgs.set (hi : Imgs base top gl w n h v L gs) {p : Addr} (hp : p.block = gl ∨ p.block < base ∨ top ≤ p.block) (u : Value) : Imgs base top gl (w.setCell p u) n h v L gs :=
  hi.turn fun k h1 h2 h3 h4 _ => Below.heap_setCell w p u k (by omega)
theorem Imgs.kept {row : Option Nat} (hi : Imgs base top gl w n h v L gs) (hg : w.grownBy w' row) (hr : ∀ r, row = some r → ∃ o : Obj, w.heap[r]? = some o ∧ o.isCells = false) : Imgs base top gl w' n h v L gs :=
  hi.turn fun k h1 _ _ _ ⟨o, ho, hc⟩ => hg.block k h1 (fun e => by
    obtain ⟨o', ho', hc'⟩ := hr k e.symm
    rw [ho] at ho'
    cases ho'
    rw [hc] at hc'
    cases hc')
theorem Imgs.lower (hi : Imgs base top gl w n h v L gs) {base' : Nat} (hb : base' ≤ base) {gl' : Nat} (hgl : top ≤ gl') : Imgs base' top gl' w n h v L gs := by
  refine ⟨hi.len, ⟨hi.own.1, ?_⟩, fun k hk => ?_, fun b hb' => ?_, hi.dis⟩
  · rcases hi.own.2 with h2 | ⟨g, cap, cur, e, hg, r⟩
    · exact .inl h2
    · exact .inr ⟨g, cap, cur, e, by omega, r⟩
  · obtain ⟨h1, h2, h3, h4⟩ := hi.rows k hk
    exact ⟨h1, by omega, h3, by omega⟩
  · have := hi.blk b hb'
    omega
theorem Imgs.up (hi : Imgs base top gl w n h v L gs) {top' : Nat} (ht : top ≤ top') : Imgs base top' gl w n h v L gs :=
  ⟨hi.len, hi.own, fun k hk => by obtain ⟨h1, h2, h3, h4⟩ := hi.rows k hk; exact ⟨h1, h2, by omega, h4⟩, fun b hb => by have := hi.blk b hb; omega, hi.dis⟩
/-- What a read of the slice's k-th image gives. -/
theorem Imgs.form (hi : Imgs base top gl w n h v L gs) : ∃ A c, v = .slice A L.length c := by
  rcases hi.own.2 with ⟨e, h0⟩ | ⟨g, cap, cur, e, _⟩
  · have h2 : L.length = 0 := by have := hi.len; rw [List.length_map] at h0; omega
    exact ⟨none, 0, by rw [e, h2]⟩
  · refine ⟨some ⟨g, 0, none⟩, cap, ?_⟩
    rw [e, List.length_map, hi.len]
theorem Imgs.get (hi : Imgs base top gl w n h v L gs) {k : Nat} (hk : k < L.length) : ∃ b c, v = .slice (some ⟨b, 0, none⟩) L.length c ∧ base ≤ b ∧ b < top ∧ b < w.heap.size ∧ w.cell? ⟨b, k * 2, none⟩ = some (.int .i64 (n : Int)) ∧ w.cell? ⟨b, k * 2 + 1, none⟩ = some (.slice (some ⟨(gs.getD k (0, 0)).1, 0, none⟩) h (gs.getD k (0, 0)).2) := by
  have hl := hi.len
  rcases hi.own.2 with ⟨_, h0⟩ | ⟨g, cap, cur, e, hg, hh, _⟩
  · rw [List.length_map] at h0; omega
  · subst e
    have hb := hi.blk g rfl
    refine ⟨g, cap, by rw [List.length_map, hl], hb.1, hb.2.1, (Array.getElem?_eq_some_iff.1 hh).1, ?_⟩
    have hget : (gs.map fun p => ((.int .i64 (n : Int), .slice (some ⟨p.1, 0, none⟩) h p.2) : Value × Value))[k]? = some (.int .i64 (n : Int), .slice (some ⟨(gs.getD k (0, 0)).1, 0, none⟩) h (gs.getD k (0, 0)).2) := by
      rw [List.getElem?_map, List.getElem?_eq_getElem (by omega), List.getD_eq_getElem?_getD, List.getElem?_eq_getElem (by omega)]
      rfl
    obtain ⟨f0, f1⟩ := flatV_get _ k _ hget
    have c0 := World.ownsRow.cells hi.own (g := g) rfl _ _ f0
    have c1 := World.ownsRow.cells hi.own (g := g) rfl _ _ f1
    rw [Go.WideShapes.add_plain] at c0 c1
    simp only [Nat.zero_add] at c0 c1
    exact ⟨c0, c1⟩
/-- One image more. -/
theorem Imgs.snoc {v' : Value} {g c : Nat} {ms : List Nat} (hi : Imgs base top gl w n h v L gs) (hown : OwnP w' base v' ((gs.map fun p => (.int .i64 (n : Int), .slice (some ⟨p.1, 0, none⟩) h p.2)) ++ [(.int .i64 (n : Int), .slice (some ⟨g, 0, none⟩) h c)]))
    (hg : w.grownBy w' v.ownBlock) (hob : v'.ownBlock = v.ownBlock ∨ v'.ownBlock = some w.heap.size) (hr : Row w g (casts ms)) (hgb : base ≤ g) (hgt : top ≤ g) (hgl : g ≠ gl) (hgll : gl < w.heap.size) : Imgs base w'.heap.size gl w' n h v' (L ++ [ms]) (gs ++ [(g, c)]) := by
  have hl := hi.len
  have hgn : ∀ b, v.ownBlock = some b → g ≠ b := fun b hb e => by have := hi.blk b hb; omega
  refine ⟨by simp [hl], by simpa using hown, fun k hk => ?_, fun b hb => ?_, fun k b hk hb => ?_⟩
  · by_cases e : k < L.length
    · obtain ⟨h1, h2, h3, h4⟩ := hi.rows k e
      have e1 : (gs ++ [(g, c)]).getD k (0, 0) = gs.getD k (0, 0) := by simp [List.getD_eq_getElem?_getD, List.getElem?_append, hl, e]
      have e2 : (L ++ [ms]).getD k [] = L.getD k [] := by simp [List.getD_eq_getElem?_getD, List.getElem?_append, e]
      rw [e1, e2]
      exact ⟨h1.grown hg (fun e3 => hi.dis k _ e e3.symm rfl), h2, Nat.lt_of_lt_of_le h1.lt hg.size, h4⟩
    · have hk2 : k = L.length := by simp at hk; omega
      subst hk2
      have e1 : (gs ++ [(g, c)]).getD L.length (0, 0) = (g, c) := by rw [← hl]; simp [List.getD_eq_getElem?_getD]
      have e2 : (L ++ [ms]).getD L.length [] = ms := by simp [List.getD_eq_getElem?_getD]
      rw [e1, e2]
      exact ⟨hr.grown hg (fun e3 => hgn _ e3.symm rfl), hgb, Nat.lt_of_lt_of_le hr.lt hg.size, hgl⟩
  · have hlt := World.ownsRow.lt hown b hb
    refine ⟨hlt.1, hlt.2, ?_⟩
    rcases hob with hob | hob
    · exact (hi.blk b (hob ▸ hb)).2.2
    · rw [hob] at hb
      injection hb with hb
      omega
  · by_cases e : k < L.length
    · have e1 : (gs ++ [(g, c)]).getD k (0, 0) = gs.getD k (0, 0) := by simp [List.getD_eq_getElem?_getD, List.getElem?_append, hl, e]
      rw [e1]
      rcases hob with hob | hob
      · exact hi.dis k b e (hob ▸ hb)
      · rw [hob] at hb
        injection hb with hb
        have := (hi.rows k e).1.lt
        omega
    · have hk2 : k = L.length := by simp at hk; omega
      subst hk2
      have e1 : (gs ++ [(g, c)]).getD L.length (0, 0) = (g, c) := by rw [← hl]; simp [List.getD_eq_getElem?_getD]
      rw [e1]
      rcases hob with hob | hob
      · exact hgn b (hob ▸ hb)
      · rw [hob] at hb
        injection hb with hb
        have := hr.lt
        show g ≠ b
        omega
end
end Go.Proofs.YtbblbdacdpokeaaDoor
