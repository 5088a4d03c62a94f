/- A queue of integers that the call itself makes: a slice that begins somewhere in its block; append of one number onto it. Conditions: lengths below 2 to the power of 24. -/
import Derived.Test.YtehoaagnpidnbaaApp
import Derived.Deep.AppendSrc
namespace Go.Proofs.Ytehoaagnpidnbaa
open Go.RowKit
/-- The slice value v holds the integers xs, in a block from base on. -/
def OwnQ (w : World) (base : Nat) (v : Value) (xs : List Int) : Prop :=
  (v = .slice none 0 0 ∧ xs = []) ∨ ∃ g off cap cur, v = .slice (some ⟨g, off, none⟩) xs.length cap ∧ base ≤ g ∧ w.heap[g]? = some (.cells cur 3 (0, 0)) ∧ xs.length ≤ cap ∧ off + cap ≤ cur.size ∧ cap ≤ maxLen ∧ ∀ k, k < xs.length → cur[off + k]? = some (.int .i64 (xs.getD k 0))
section
variable {w w' : World} {base : Nat} {v : Value} {xs : List Int}
theorem OwnQ.nil (w : World) (base : Nat) : OwnQ w base (.slice none 0 0) [] := .inl ⟨rfl, rfl⟩
theorem OwnQ.form (h : OwnQ w base v xs) : ∃ A cap, v = .slice A xs.length cap := by
  rcases h with ⟨rfl, rfl⟩ | ⟨g, off, cap, cur, rfl, _⟩
  · exact ⟨_, _, rfl⟩
  · exact ⟨_, _, rfl⟩
theorem OwnQ.of_block (h : OwnQ w base v xs) (hk : ∀ g, v.ownBlock = some g → w'.heap[g]? = w.heap[g]?) : OwnQ w' base v xs := by
  rcases h with h | ⟨g, off, cap, cur, rfl, hg, hh, r⟩
  · exact .inl h
  · exact .inr ⟨g, off, cap, cur, rfl, hg, (hk g rfl).trans hh, r⟩
theorem OwnQ.own_lt (h : OwnQ w base v xs) (k : Nat) (e : v.ownBlock = some k) : base ≤ k ∧ k < w.heap.size := by
  rcases h with ⟨rfl, _⟩ | ⟨g, off, cap, cur, rfl, hg, hh, _⟩
  · simp [Value.ownBlock] at e
  · simp [Value.ownBlock] at e
    subst e
    exact ⟨hg, (Array.getElem?_eq_some_iff.1 hh).1⟩
theorem OwnQ.below {B : Nat} (h : OwnQ w base v xs) (hb : Below B w w') (hB : w.heap.size ≤ B) : OwnQ w' base v xs :=
  h.of_block fun g e => hb.block g (Nat.lt_of_lt_of_le (h.own_lt g e).2 hB)
theorem OwnQ.alloc (h : OwnQ w base v xs) (o : Obj) : OwnQ (w.alloc o) base v xs := h.of_block fun g e => Below.heap_alloc w o g (h.own_lt g e).2
theorem OwnQ.far (h : OwnQ w base v xs) {p : Addr} (hp : v.ownBlock ≠ some p.block) (u : Value) : OwnQ (w.setCell p u) base v xs :=
  h.of_block fun g e => Below.heap_setCell w p u g fun e2 => hp (by rw [e, e2])
theorem OwnQ.grown {row : Option Nat} (h : OwnQ w base v xs) (hg : w.grownBy w' row) (hn : ∀ b, v.ownBlock = some b → some b ≠ row) : OwnQ w' base v xs :=
  h.of_block fun g e => hg.block g (h.own_lt g e).2 (hn g e)
/-- The first number, and the rest of the queue. -/
theorem OwnQ.head {A : Option Addr} {n cap : Nat} {x : Int} (h : OwnQ w base (.slice A n cap) (x :: xs)) : ∃ g off, A = some ⟨g, off, none⟩ ∧ n = xs.length + 1 ∧ 1 ≤ cap ∧ w.cell? ⟨g, off, none⟩ = some (.int .i64 x) ∧ OwnQ w base (.slice (some ⟨g, off + 1, none⟩) xs.length (cap - 1)) xs := by
  rcases h with ⟨_, e⟩ | ⟨g, off, cap', cur, e, hg, hh, h1, h2, h3, h4⟩
  · cases e
  · injection e with e1 e2 e3
    subst e1 e3
    simp only [List.length_cons] at e2 h1
    refine ⟨g, off, rfl, e2, by omega, ?_, .inr ⟨g, off + 1, cap - 1, cur, rfl, hg, hh, by omega, by omega, by omega, fun k hk => ?_⟩⟩
    · have := h4 0 (by simp)
      simp only [Nat.add_zero, List.getD_cons_zero] at this
      simp [World.cell?, hh, this]
    · have := h4 (k + 1) (by simpa using hk)
      rw [List.getD_cons_succ] at this
      rw [show off + 1 + k = off + (k + 1) by omega]
      exact this
end
theorem run_appQ (w : World) (ty : TypeId) {base : Nat} {v : Value} {xs : List Int} (h : OwnQ w base v xs) {ad : Addr} {cap : Nat} {z : Int} (hc : w.cell? ad = some (.int .i64 z)) (hlen : xs.length + 1 ≤ 16777216) (hbase : base ≤ w.heap.size) :
    ∃ v' w', (Builtin.append_ #[22, 22] ty #[v, .slice (some ad) 1 cap]).run Try.prog w = .ok v' w' ∧ OwnQ w' base v' (xs ++ [z]) ∧ w.grownBy w' v.ownBlock ∧ (v'.ownBlock = v.ownBlock ∨ v'.ownBlock = some w.heap.size) := by
  obtain ⟨i0, hi, hz0, hz1, hz2⟩ := info_parts int_info
  have hsrc : Src Try.prog i0.size 22 (.slice (some ad) 1 cap) 1 [.int .i64 z] w := Src.ofSlice w Try.underlying22 ad 1 cap [.int .i64 z] (by rw [hz1]; rfl)
    (fun j u hj => by
      cases j with
      | zero =>
        simp only [List.getElem?_cons_zero, Option.some.injEq] at hj
        subst hj
        obtain ⟨b, o, s⟩ := ad
        have hs : s = none := by simpa using World.cell?_spot hc
        subst hs
        rw [Go.WideShapes.add_plain, Nat.add_zero]
        exact hc
      | succ j => simp at hj)
    (fun u hu => by rw [List.mem_singleton.1 hu]; rfl)
  have grow : ∀ (A : Option Addr) (n cp : Nat) (olds : List Value), v = .slice A n cp → n = xs.length → cp < n + 1 → cp ≤ maxLen → olds = xs.map (Value.int .i64) → (Builtin.firstCells i0.size n (.slice A n cp)).run Try.prog w.drew = .ok olds.toArray w.drew →
      ∃ v' w', (Builtin.append_ #[22, 22] ty #[v, .slice (some ad) 1 cap]).run Try.prog w = .ok v' w' ∧ OwnQ w' base v' (xs ++ [z]) ∧ w.grownBy w' v.ownBlock ∧ (v'.ownBlock = v.ownBlock ∨ v'.ownBlock = some w.heap.size) := by
    intro A n cp olds ev en hcp hcm eo hold
    subst ev en
    have hr := run_append_grow_src w 22 22 ty 3 i0 (.int .i64 0) Try.underlying22 hi hz0 A xs.length cp olds hold (.slice (some ad) 1 cap) 1 [.int .i64 z] hsrc hcp (by omega) (growslice_fits hcp (by rw [hz2]; omega))
    have hG := grownCap_ge w (xs.length + 1) cp 3
    have hGm := grownCap_le_maxLen w (xs.length + 1) cp 3 (by unfold maxLen; omega)
    obtain ⟨G, eG⟩ : ∃ G, G = grownCap w (xs.length + 1) cp 3 := ⟨_, rfl⟩
    rw [← eG] at hr hG hGm
    refine ⟨_, _, hr, .inr ⟨w.heap.size, 0, G, _, by simp, hbase, heap_alloc_new w.drew _, by simp; omega, ?_, hGm, fun k hk => ?_⟩, ?_, .inr rfl⟩
    · simp [Builtin.zeroCells, Value.cells, eo]
      omega
    · rw [Nat.zero_add]
      have hk' : k < (xs.map (Value.int .i64) ++ [Value.int .i64 z]).length := by simpa using hk
      rw [eo, Array.getElem?_append_left (by simpa using hk')]
      simp only [List.getElem?_toArray]
      by_cases h : k < xs.length
      · rw [List.getElem?_append_left (by simpa using h), List.getElem?_map, List.getElem?_eq_getElem h, List.getD_eq_getElem?_getD, List.getElem?_append_left h, List.getElem?_eq_getElem h]
        rfl
      · have : k = xs.length := by simp at hk; omega
        subst this
        simp [List.getD_eq_getElem?_getD]
    · exact ⟨rfl, rfl, rfl, by simp, fun i hi _ => Below.heap_alloc w.drew _ i hi⟩
  rcases h with ⟨rfl, rfl⟩ | ⟨g, off, cp, cur, rfl, hg, hh, h1, h2, h3, h4⟩
  · exact grow none 0 0 [] rfl rfl (by omega) (by omega) rfl (run_firstCells_none w.drew i0.size 0 0 0)
  · by_cases hroom : xs.length + 1 ≤ cp
    · have hin : off + xs.length < cur.size := by omega
      have hr := run_append_room_src w 22 22 ty 3 i0 Try.underlying22 hi g off xs.length cp (.slice (some ad) 1 cap) 1 [.int .i64 z] hsrc hroom
        (fun j hj => by
          obtain rfl : j = 0 := by simpa using hj
          rw [hz1, Nat.mul_one, Nat.add_zero]
          simp [World.cell?, hh, hin])
        (fun j hj => by simp [World.frozen?, hh])
      rw [hz1, Nat.mul_one] at hr
      refine ⟨_, _, hr, .inr ⟨g, off, cp, cur.setIfInBounds (off + xs.length) (.int .i64 z), by simp, hg, ?_, by simpa using hroom, by simpa using h2, h3, fun k hk => ?_⟩, ?_, .inl rfl⟩
      · simp [World.setCells, World.setCell, Array.getElem?_modify, hh]
      · by_cases h : k < xs.length
        · rw [Array.getElem?_setIfInBounds_ne (by omega), h4 k h, List.getD_eq_getElem?_getD, List.getD_eq_getElem?_getD, List.getElem?_append_left h]
        · have : k = xs.length := by simp at hk; omega
          subst this
          rw [Array.getElem?_setIfInBounds_self_of_lt hin]
          simp [List.getD_eq_getElem?_getD]
      · exact only_setCell (World.grownBy.refl w _) (.inl rfl) _
    · refine grow (some ⟨g, off, none⟩) xs.length cp (xs.map (Value.int .i64)) rfl rfl (by omega) h3 rfl ?_
      refine run_firstCells_some w.drew i0.size xs.length ⟨g, off, none⟩ xs.length cp _ (by simp [hz1]) fun j u hj => ?_
      rw [List.getElem?_map] at hj
      cases hx : xs[j]? with
      | none => rw [hx] at hj; cases hj
      | some y =>
        rw [hx] at hj
        simp only [Option.map_some, Option.some.injEq] at hj
        subst hj
        have hjl := (List.getElem?_eq_some_iff.1 hx).1
        have := h4 j hjl
        rw [List.getD_eq_getElem?_getD, hx] at this
        show (w.drew.cell? (Addr.add ⟨g, off, none⟩ j)) = _
        rw [Go.WideShapes.add_plain]
        simp only [Option.getD_some] at this
        show w.cell? ⟨g, off + j, none⟩ = _
        simp [World.cell?, hh, this]
set_option maxRecDepth 100000 in
theorem wp_appQ {o : Oper} {a : Act} {w : World} {K : Act → World → Prop} {Q : Exit → Act → World → Prop} (s x : Operand) (ho : o.op = .call { callee := .builtin .append, args := #[s, x], argTypes := #[22, 22] })
    {base : Nat} {v : Value} {xs : List Int} (hs : a.eval s = v) (hown : OwnQ w base v xs) {ad : Addr} {cap : Nat} {z : Int} (hx : a.eval x = .slice (some ad) 1 cap) (hc : w.cell? ad = some (.int .i64 z)) (hlen : xs.length + 1 ≤ 16777216) (hbase : base ≤ w.heap.size)
    (h : ∀ v' w', OwnQ w' base v' (xs ++ [z]) → w.grownBy w' v.ownBlock → (v'.ownBlock = v.ownBlock ∨ v'.ownBlock = some w.heap.size) → K (a.put o.dst v') w') : o.wp Try.prog a w K Q := by
  obtain ⟨v', w', hrun, h2, h3, h4⟩ := run_appQ w o.type hown hc hlen hbase
  unfold Oper.wp execOp
  simp only [ho, resolve, invoke, builtin, Sem.run_bind, Sem.run_pure, Result.andThen_ok, List.map_toArray, List.map_cons, List.map_nil, hs, hx]
  rw [hrun]
  exact h v' w' h2 h3 h4
theorem wpList_appQ {ops : Array Oper} {rest : List Oper} {o : Oper} {a : Act} {w : World} {Q : Exit → Act → World → Prop} (hgd : o.guard = none) (s x : Operand) (ho : o.op = .call { callee := .builtin .append, args := #[s, x], argTypes := #[22, 22] })
    {base : Nat} {v : Value} {xs : List Int} (hs : a.eval s = v) (hown : OwnQ w base v xs) {ad : Addr} {cap : Nat} {z : Int} (hx : a.eval x = .slice (some ad) 1 cap) (hc : w.cell? ad = some (.int .i64 z)) (hlen : xs.length + 1 ≤ 16777216) (hbase : base ≤ w.heap.size)
    (h : ∀ v' w', OwnQ w' base v' (xs ++ [z]) → w.grownBy w' v.ownBlock → (v'.ownBlock = v.ownBlock ∨ v'.ownBlock = some w.heap.size) → wpList Try.prog ops Q rest (a.put o.dst v') w') : wpList Try.prog ops Q (o :: rest) a w :=
  wpList_plain hgd fun _ hK => wp_appQ s x ho hs hown hx hc hlen hbase fun v' w' h2 h3 h4 => hK _ _ (h v' w' h2 h3 h4)
end Go.Proofs.Ytehoaagnpidnbaa
