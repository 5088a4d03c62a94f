/- A slice of rows that the call itself makes: append onto it; contract of l22Blank. Conditions: at most eight rows and columns. -/
import Derived.Test.YtbpjceffkchmbaaDoorTG2
import Derived.Test.YtbpjceffkchmbaaDoorApp
import Derived.Test.YtbpjceffkchmbaaDoorTW
import Derived.OwnWalkIn
namespace Go.Proofs.YtbpjceffkchmbaaDoor
open Go.RowKit
/-- The slice value v owns the values L, in a block from base on. -/
def OwnR (w : World) (base : Nat) (v : Value) (L : List Value) : Prop := w.ownsRow base 23 1 v L.length L
theorem OwnR.form {w : World} {base : Nat} {v : Value} {L : List Value} (h : OwnR w base v L) : ∃ A n c, v = .slice A n c := by
  rcases h.2 with ⟨e, _⟩ | ⟨g, cap, cur, e, _⟩
  · exact ⟨_, _, _, e⟩
  · exact ⟨_, _, _, e⟩
theorem run_appR (w : World) (ty : TypeId) {base : Nat} {v : Value} {L : List Value} (hown : OwnR w base v L) {b c : Nat} {x : Value} (hx : x.oneCell' = true) (h0 : w.cell? ⟨b, 0, none⟩ = some x) (hlen : L.length ≤ 1048576) (hbase : base ≤ w.heap.size) :
    ∃ v' w', (Builtin.append_ #[55, 55] ty #[v, .slice (some ⟨b, 0, none⟩) 1 c]).run Tryd.prog w = .ok v' w' ∧ OwnR w' base v' (L ++ [x]) ∧ w.grownBy w' v.ownBlock ∧ (v'.ownBlock = v.ownBlock ∨ v'.ownBlock = some w.heap.size) := by
  obtain ⟨i0, hi, hz0, hz1, hz2⟩ := info_parts sl_info
  obtain ⟨v', w', hrun, h2, h3, h4, h5⟩ := run_append_own_at (P := Tryd.prog) w base 55 ty 23 i0 (.slice none 0 0) 1 24 Tryd.underlying55 hi hz0 hz1 hz2 rfl (by decide) v L.length L hown ⟨b, 0, none⟩ 1 c [x] (by simp)
    (fun j u hj => by
      rw [Go.WideShapes.add_plain]
      match j with
      | 0 => simp at hj; subst hj; exact h0
      | j + 1 => simp at hj)
    (fun u hu => by
      rw [List.mem_singleton] at hu
      subst hu
      exact hx) (by unfold maxLen; omega) (by omega) hbase
  refine ⟨v', w', hrun, ?_, h3, h5⟩
  unfold OwnR
  rw [List.length_append]
  exact h2
theorem wpList_appR {ops : Array Oper} {rest : List Oper} {o : Oper} {a : Act} {w : World} {Q : Exit → Act → World → Prop} (hgd : o.guard = none) (s z : Operand) (ho : o.op = .call { callee := .builtin .append, args := #[s, z], argTypes := #[55, 55] })
    {base : Nat} {v : Value} {L : List Value} (hs : a.eval s = v) (hown : OwnR w base v L) {b c : Nat} {x : Value} (hz : a.eval z = .slice (some ⟨b, 0, none⟩) 1 c) (hx : x.oneCell' = true) (h0 : w.cell? ⟨b, 0, none⟩ = some x) (hlen : L.length ≤ 1048576) (hbase : base ≤ w.heap.size)
    (h : ∀ v' w', OwnR w' base v' (L ++ [x]) → w.grownBy w' v.ownBlock → (v'.ownBlock = v.ownBlock ∨ v'.ownBlock = some w.heap.size) → wpList Tryd.prog ops Q rest (a.put o.dst v') w') : wpList Tryd.prog ops Q (o :: rest) a w := by
  refine wpList_plain hgd fun _ hK => ?_
  obtain ⟨v', w', hrun, g2, g3, g4⟩ := run_appR w o.type hown hx h0 hlen hbase (c := c)
  unfold Oper.wp execOp
  simp only [ho, resolve, invoke, builtin, Sem.run_bind, Sem.run_pure, Result.andThen_ok, List.map_toArray, List.map_cons, List.map_nil, hs, hz, hrun]
  exact hK _ _ (h v' w' g2 g3 g4)
/-- A table while it is made row by row. -/
structure BMk (w wr : World) (v : Value) (n k : Nat) (gs : List Nat) : Prop where
  gl : gs.length = k
  own : OwnR wr w.heap.size v (gs.map (rowV n))
  nz : v ≠ .slice none 0 0
  row : ∀ i, i < k → Row wr (gs.getD i 0) (List.replicate n 0)
  lo : ∀ i, i < k → w.heap.size ≤ gs.getD i 0
  inj : ∀ i j, i < k → j < k → gs.getD i 0 = gs.getD j 0 → i = j
  dis : ∀ i b, i < k → v.ownBlock = some b → gs.getD i 0 ≠ b
  bel : Below w.heap.size w wr
theorem OwnR.lt {w : World} {base : Nat} {v : Value} {L : List Value} (h : OwnR w base v L) {b : Nat} (hb : v.ownBlock = some b) : base ≤ b ∧ b < w.heap.size := World.ownsRow.lt h b hb
theorem BMk.new (w : World) (n : Nat) : BMk w (w.alloc (.cells #[] 23)) (.slice (some ⟨w.heap.size, 0, none⟩) 0 0) n 0 [] :=
  ⟨rfl, ⟨rfl, .inr ⟨w.heap.size, 0, #[], rfl, Nat.le_refl _, heap_alloc_new w _, Nat.le_refl _, by unfold maxLen; omega, rfl, rfl⟩⟩, (by intro e; cases e), fun i hi => by omega, fun i hi => by omega, fun i j hi => by omega, fun i b hi => by omega, by go_grown⟩
theorem BMk.step {w wr : World} {v : Value} {n k : Nat} {gs : List Nat} (hM : BMk w wr v n k gs) {w2 w3 : World} (e2 : w2 = (wr.alloc (.cells (Array.replicate n (.int .i64 0)) 3)).alloc (.cells #[rowV n wr.heap.size] 23)) {v' : Value} (h1 : OwnR w3 w.heap.size v' (gs.map (rowV n) ++ [rowV n wr.heap.size])) (h2 : w2.grownBy w3 v.ownBlock) (h3 : v'.ownBlock = v.ownBlock ∨ v'.ownBlock = some w2.heap.size) : BMk w w3 v' n (k + 1) (gs ++ [wr.heap.size]) := by
  have hgl := hM.gl
  have hz2 : w2.heap.size = wr.heap.size + 2 := by rw [e2]; simp
  have hb2 : Below wr.heap.size wr w2 := by rw [e2]; go_grown
  have hnew : w2.heap[wr.heap.size]? = some (.cells (Array.replicate n (.int .i64 0)) 3 (0, 0)) := by
    rw [e2]
    have := Below.heap_alloc (wr.alloc (.cells (Array.replicate n (.int .i64 0)) 3)) (.cells #[rowV n wr.heap.size] 23) wr.heap.size (by simp)
    rw [this]
    exact heap_alloc_new wr _
  have hrl : ∀ i, i < k → gs.getD i 0 < wr.heap.size := fun i hi => (hM.row i hi).lt
  have hvo : ∀ b, v.ownBlock = some b → w.heap.size ≤ b ∧ b < wr.heap.size := fun b hb => hM.own.lt hb
  refine ⟨by simp [hgl], by rw [List.map_append]; exact h1, fun e => ?_, fun i hi => ?_, fun i hi => ?_, fun i j hi hj e => ?_, fun i b hi hb => ?_, ?_⟩
  · have := h1.2
    rw [e] at this
    rcases this with ⟨_, h⟩ | ⟨g, cap, cur, h, _⟩
    · simp at h
    · cases h
  · by_cases e : i < k
    · rw [snocD (by omega)]
      refine (hM.row i e).of_block ?_
      rw [h2.block _ (by have := hrl i e; omega) (fun hb => hM.dis i _ e hb.symm rfl)]
      exact hb2.block _ (hrl i e)
    · obtain rfl : i = gs.length := by omega
      rw [snocL]
      have hne : v.ownBlock ≠ some wr.heap.size := fun hb => by have := (hvo _ hb).2; omega
      refine ⟨[], ?_⟩
      rw [h2.block _ (by omega) (Ne.symm hne), hnew]
      simp
  · by_cases e : i < k
    · rw [snocD (by omega)]; exact hM.lo i e
    · obtain rfl : i = gs.length := by omega
      rw [snocL]; exact hM.bel.size
  · by_cases e1 : i < k
    · by_cases e2 : j < k
      · rw [snocD (by omega), snocD (by omega)] at e
        exact hM.inj i j e1 e2 e
      · obtain rfl : j = gs.length := by omega
        rw [snocD (by omega), snocL] at e
        have := hrl i e1
        omega
    · obtain rfl : i = gs.length := by omega
      by_cases e2 : j < k
      · rw [snocL, snocD (by omega)] at e
        have := hrl j e2
        omega
      · omega
  · rcases h3 with h3 | h3
    · rw [h3] at hb
      by_cases e : i < k
      · rw [snocD (by omega)]; exact hM.dis i b e hb
      · obtain rfl : i = gs.length := by omega
        rw [snocL]
        have := (hvo b hb).2
        omega
    · rw [h3] at hb
      injection hb with hb
      subst hb
      by_cases e : i < k
      · rw [snocD (by omega)]
        have := hrl i e
        omega
      · obtain rfl : i = gs.length := by omega
        rw [snocL]
        omega
  · exact (hM.bel.trans (hb2.mono hM.bel.size)).grown h2 (by have := hM.bel.size; omega) (fun b hb => (hvo b hb).1)
/-- A table of one's own, with spare places perhaps. -/
def STbl (w : World) (h n : Nat) (T : List (List Int)) (w' : World) (v : Value) : Prop := ∃ gT cp gs, v = .slice (some ⟨gT, 0, none⟩) h cp ∧ h ≤ cp ∧ Tbl w' gT h n gs T ∧ w.heap.size ≤ gT ∧ (∀ i, i < h → w.heap.size ≤ gs.getD i 0) ∧ Below w.heap.size w w'
theorem BMk.done {w wr : World} {v : Value} {n k : Nat} {gs : List Nat} (hM : BMk w wr v n k gs) : STbl w k n (zeroT k n) wr v := by
  have hgl := hM.gl
  rcases hM.own.2 with ⟨e, _⟩ | ⟨g, cap, cur, e, hg, hh, hc, _, hcs, ht⟩
  · exact (hM.nz e).elim
  · rw [List.length_map, hgl] at e hc ht
    refine ⟨g, cap, gs, e, hc, ⟨hgl, by simp [zeroT], ⟨cur.toList.drop k, ?_⟩, fun i hi => ?_, (szd_zeroT k n).wid, hM.inj, fun i hi => hM.dis i g hi (by rw [e]; rfl)⟩, hg, hM.lo, hM.bel⟩
    · rw [hh]
      have : (gs.map (rowV n) ++ cur.toList.drop k) = cur.toList := by
        rw [Nat.mul_one] at ht
        rw [← ht]
        exact List.take_append_drop k _
      rw [this]
    · have := hM.row i hi
      rwa [show (zeroT k n).getD i [] = List.replicate n 0 by simp [zeroT, List.getD_eq_getElem?_getD, hi]]
set_option maxRecDepth 100000 in
set_option maxHeartbeats 4000000 in
theorem l22Blank_c (h n : Nat) (hh : h ≤ 100) (hn : n ≤ 100) (w : World) :
    Calls Tryd.prog 68 #[.int .i64 (h : Int), .int .i64 (n : Int)] w fun e w' => ∃ v, e = .returned v ∧ STbl w h n (zeroT h n) w' v := by
  have hm2 := mk_ints n (by omega)
  have HN := Lib.hid (BMk.new w n)
  go_enter Tryd.func68, Tryd.ntmps68
  go_wp2_with fail
  go_loopw [5, 6] (fun s q wr => ∃ (k : Nat) (gs : List Nat), k ≤ h ∧ q = .int .i64 (k : Int) ∧ BMk w wr s n k gs) (fun _ q _ => h - (intOf q).toNat)
  case atStart => exact ⟨0, [], Nat.zero_le _, rfl, HN.out⟩
  case round =>
    clear HN
    obtain ⟨k, gs, hk, rfl, hM⟩ := hrel
    by_cases hkl : k < h
    · have hki : (k : Int) < (h : Int) := by omega
      obtain ⟨A, m, c, ev⟩ := hM.own.form
      subst ev
      have hm2w := hm2 wr
      have hgl := hM.gl
      have hsz := hM.bel.size
      have HS := Lib.hid hM
      clear hM hm2
      go_wp2_with (at_builtin; refine wpList_appR (v := .slice A m c) (x := .slice (some ⟨wr.heap.size, 0, none⟩) n n) rfl (.tmp 13) (.tmp 16) rfl rfl ((HS.out.own.alloc _).alloc _) rfl rfl (by go_cell) (by rw [List.length_map, hgl]; omega) (by simp; omega) ?_; intro v9 w9 hown9 hgr9 hat9; obtain ⟨a9, n9, c9, rfl⟩ := OwnR.form hown9; have HN := Lib.hid (HS.out.step (w2 := _) rfl hown9 hgr9 hat9); clear hown9 hgr9 hat9)
      go_roundw
      case rel => exact ⟨k + 1, gs ++ [wr.heap.size], by omega, by go_num, HN.out⟩
      case measure => simp [intOf]; omega
    · have hki : ¬ ((k : Int) < (h : Int)) := by omega
      have hkh : k = h := by omega
      rw [hkh] at hM
      have HO := Lib.hid hM.done
      clear hM hkh
      go_wp2
      go_returns
      exact ⟨_, rfl, HO.out⟩
end Go.Proofs.YtbpjceffkchmbaaDoor
