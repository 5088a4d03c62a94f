/- Lists of images that a call makes: what they hold, and a list of images appended onto another one. Conditions: at most 2 to the power of 20 images. | Contracts of total and l3Sum. Conditions: one to six numbers from 0 to 6. | Contracts of l15Take and l15Ok of the reference: a row taken from column sums; whether sums are counted. Conditions: a row below 64; at most six columns; the numbers between 0 and 6; the slices read as lists of integers. | Contract of l34All of the reference: the images that go on from the rows done, in order. Conditions: at most 16 cells; the sums between 0 and 6; the slices read as lists of integers. -/
import Derived.Test.YtilahcpjjaikgaaDoorMI
import Derived.Test.YtilahcpjjaikgaaDoorFB
import Derived.Test.YtilahcpjjaikgaaDoorMIO
section
namespace Go.Proofs.YtilahcpjjaikgaaDoor
open Go.RowKit
theorem run_appPs (w : World) (ty : TypeId) {base base2 : Nat} {v v2 : Value} {L M : List (Value × Value)} (hown : OwnP w base v L) (h2 : OwnP w base2 v2 M) (hne : v2 ≠ .slice none 0 0) (hx : ∀ p ∈ M, p.1.oneCell' = true ∧ p.2.oneCell' = true) (hlen : L.length + M.length ≤ 1048576) (hbase : base ≤ w.heap.size) :
    ∃ v' w', (Builtin.append_ #[45, 45] ty #[v, v2]).run Tryd.prog w = .ok v' w' ∧ OwnP w' base v' (L ++ M) ∧ w.grownBy w' v.ownBlock ∧ (v'.ownBlock = v.ownBlock ∨ v'.ownBlock = some w.heap.size) := by
  obtain ⟨i0, hi, hz0, hz1, hz2⟩ := info_parts img_info
  have h2' := h2
  rcases h2.2 with ⟨e, _⟩ | ⟨g, cap, cur, e, _⟩
  · exact (hne e).elim
  · subst e
    obtain ⟨v', w', hrun, h3, h4, h5, h6⟩ := run_append_own_at (P := Tryd.prog) w base 45 ty 27 i0 (.agg #[.int .i64 0, .slice none 0 0]) 2 32 Tryd.underlying45 hi hz0 hz1 hz2 rfl (by decide) v L.length (flatV L) hown ⟨g, 0, none⟩ M.length cap (flatV M) (flatV_length M)
      (fun j u hj => World.ownsRow.cells h2' (g := g) rfl j u hj)
      (fun u hu => by
        unfold flatV at hu
        obtain ⟨p, hp, hu⟩ := List.mem_flatMap.1 hu
        have := hx p hp
        simp at hu
        rcases hu with rfl | rfl
        · exact this.1
        · exact this.2)
      (by unfold maxLen; omega) (by omega) hbase
    refine ⟨v', w', hrun, ?_, h4, h6⟩
    unfold OwnP
    rw [List.length_append, flatV_append]
    exact h3
theorem wpList_appPs {ops : Array Oper} {rest : List Oper} {o : Oper} {a : Act} {w : World} {Q : Exit → Act → World → Prop} (hgd : o.guard = none) (s z : Operand) (ho : o.op = .call { callee := .builtin .append, args := #[s, z], argTypes := #[45, 45] })
    {base base2 : Nat} {v v2 : Value} {L M : List (Value × Value)} (hs : a.eval s = v) (hz : a.eval z = v2) (hown : OwnP w base v L) (h2 : OwnP w base2 v2 M) (hne : v2 ≠ .slice none 0 0) (hx : ∀ p ∈ M, p.1.oneCell' = true ∧ p.2.oneCell' = true) (hlen : L.length + M.length ≤ 1048576) (hbase : base ≤ w.heap.size)
    (h : ∀ v' w', OwnP w' base v' (L ++ M) → w.grownBy w' v.ownBlock → (v'.ownBlock = v.ownBlock ∨ v'.ownBlock = some w.heap.size) → wpList Tryd.prog ops Q rest (a.put o.dst v') w') : wpList Tryd.prog ops Q (o :: rest) a w := by
  refine wpList_plain hgd fun _ hK => ?_
  obtain ⟨v', w', hrun, g2, g3, g4⟩ := run_appPs w o.type hown h2 hne hx hlen hbase
  unfold Oper.wp execOp
  simp only [ho, resolve, invoke, builtin, Sem.run_bind, Sem.run_pure, Result.andThen_ok, List.map_toArray, List.map_cons, List.map_nil, hs, hz, hrun]
  exact hK _ _ (h v' w' g2 g3 g4)
/-- The cells of an image in a list: n columns, h rows in block g. -/
def imgC (n h : Nat) (p : Nat × Nat) : Value × Value := (.int .i64 (n : Int), .slice (some ⟨p.1, 0, none⟩) h p.2)
/-- A list of images that the call made: n columns, h rows, rows L; all blocks from base on. -/
structure ImgL (base : Nat) (w : World) (n h : Nat) (v : Value) (L : List (List Nat)) (gs : List (Nat × Nat)) : Prop where
  len : gs.length = L.length
  own : OwnP w base v (gs.map (imgC n h))
  some_ : v ≠ .slice none 0 0
  rows : ∀ k, k < L.length → Row w (gs.getD k (0, 0)).1 (casts (L.getD k [])) ∧ base ≤ (gs.getD k (0, 0)).1
  dis : ∀ k b, k < L.length → v.ownBlock = some b → (gs.getD k (0, 0)).1 ≠ b
section
variable {base n h : Nat} {w w' : World} {v : Value} {L : List (List Nat)} {gs : List (Nat × Nat)}
theorem ImgL.none (w : World) (h : base ≤ w.heap.size) (n hh : Nat) : ImgL base (w.alloc (.cells #[] 27)) n hh (.slice (some ⟨w.heap.size, 0, Option.none⟩) 0 0) [] [] :=
  ⟨rfl, ⟨rfl, .inr ⟨w.heap.size, 0, #[], rfl, h, heap_alloc_new w _, Nat.le_refl _, by unfold maxLen; omega, rfl, rfl⟩⟩, (by intro e; cases e), fun k hk => by simp at hk, fun k b hk => by simp at hk⟩
theorem ImgL.own_lt (hi : ImgL base w n h v L gs) (b : Nat) (hb : v.ownBlock = some b) : base ≤ b ∧ b < w.heap.size := World.ownsRow.lt hi.own b hb
theorem ImgL.form (hi : ImgL base w n h v L gs) : ∃ g c, v = .slice (some ⟨g, 0, Option.none⟩) L.length c ∧ base ≤ g ∧ g < w.heap.size := by
  rcases hi.own.2 with ⟨e, _⟩ | ⟨g, cap, cur, e, hg, hh, _⟩
  · exact (hi.some_ e).elim
  · exact ⟨g, cap, by rw [e, List.length_map, hi.len], hg, (Array.getElem?_eq_some_iff.1 hh).1⟩
theorem ImgL.keep (hi : ImgL base w n h v L gs) (hb : ∀ b, base ≤ b → b < w.heap.size → w'.heap[b]? = w.heap[b]?) : ImgL base w' n h v L gs := by
  refine ⟨hi.len, ?_, hi.some_, fun k hk => ?_, hi.dis⟩
  · refine ⟨hi.own.1, ?_⟩
    rcases hi.own.2 with h2 | ⟨g, cap, cur, e, hg, hh, r⟩
    · exact .inl h2
    · exact .inr ⟨g, cap, cur, e, hg, (hb g hg (Array.getElem?_eq_some_iff.1 hh).1).trans hh, r⟩
  · obtain ⟨h1, h2⟩ := hi.rows k hk
    exact ⟨h1.of_block (hb _ h2 h1.lt), h2⟩
theorem ImgL.below {B : Nat} (hi : ImgL base w n h v L gs) (hb : Below B w w') (hB : w.heap.size ≤ B) : ImgL base w' n h v L gs := hi.keep fun b _ h2 => hb.block b (by omega)
theorem ImgL.lower (hi : ImgL base w n h v L gs) {base' : Nat} (hb : base' ≤ base) : ImgL base' w n h v L gs := by
  refine ⟨hi.len, ⟨hi.own.1, ?_⟩, hi.some_, fun k hk => ⟨(hi.rows k hk).1, by have := (hi.rows k hk).2; omega⟩, hi.dis⟩
  rcases hi.own.2 with h2 | ⟨g, cap, cur, e, hg, r⟩
  · exact .inl h2
  · exact .inr ⟨g, cap, cur, e, by omega, r⟩
theorem getD_app1 {α : Type} {l m : List α} {k : Nat} {d : α} (hk : k < l.length) : (l ++ m).getD k d = l.getD k d := by
  rw [List.getD_eq_getElem?_getD, List.getElem?_append_left hk, List.getD_eq_getElem?_getD]
theorem getD_app2 {α : Type} {l m : List α} {k : Nat} {d : α} (hk : l.length ≤ k) : (l ++ m).getD k d = m.getD (k - l.length) d := by
  rw [List.getD_eq_getElem?_getD, List.getElem?_append_right hk, List.getD_eq_getElem?_getD]
/-- A list appended. -/
theorem ImgL.app {v' : Value} {M : List (List Nat)} {gs2 : List (Nat × Nat)} (hi : ImgL base w n h v L gs) (hj : ∀ k, k < M.length → Row w (gs2.getD k (0, 0)).1 (casts (M.getD k [])) ∧ base ≤ (gs2.getD k (0, 0)).1) (hjl : gs2.length = M.length) (hdis : ∀ k b, k < M.length → v.ownBlock = some b → (gs2.getD k (0, 0)).1 ≠ b)
    (hown : OwnP w' base v' (gs.map (imgC n h) ++ gs2.map (imgC n h))) (hg : w.grownBy w' v.ownBlock) (hob : v'.ownBlock = v.ownBlock ∨ v'.ownBlock = some w.heap.size) : ImgL base w' n h v' (L ++ M) (gs ++ gs2) := by
  have hl := hi.len
  have key : ∀ k, k < (L ++ M).length → Row w ((gs ++ gs2).getD k (0, 0)).1 (casts ((L ++ M).getD k [])) ∧ base ≤ ((gs ++ gs2).getD k (0, 0)).1 ∧ ∀ b, v.ownBlock = some b → ((gs ++ gs2).getD k (0, 0)).1 ≠ b := fun k hk => by
    rw [List.length_append] at hk
    by_cases e : k < L.length
    · rw [getD_app1 (by omega), getD_app1 e]
      exact ⟨(hi.rows k e).1, (hi.rows k e).2, fun b hb => hi.dis k b e hb⟩
    · rw [getD_app2 (by omega), getD_app2 (by omega), hl]
      exact ⟨(hj _ (by omega)).1, (hj _ (by omega)).2, fun b hb => hdis _ b (by omega) hb⟩
  refine ⟨by simp [hl, hjl], by rw [List.map_append]; exact hown, ?_, fun k hk => ?_, fun k b hk hb => ?_⟩
  · intro e
    subst e
    obtain ⟨g, c, ev, _⟩ := hi.form
    rcases hob with hob | hob
    · rw [ev] at hob; simp [Value.ownBlock] at hob
    · simp [Value.ownBlock] at hob
  · obtain ⟨h1, h2, h3⟩ := key k hk
    exact ⟨h1.grown hg (fun e3 => h3 _ e3.symm rfl), h2⟩
  · obtain ⟨h1, h2, h3⟩ := key k hk
    rcases hob with hob | hob
    · exact h3 b (hob ▸ hb)
    · rw [hob] at hb
      injection hb with hb
      have := h1.lt
      omega
/-- What a read of the k-th image gives. -/
theorem ImgL.get (hi : ImgL base w n h v L gs) {k : Nat} (hk : k < L.length) : ∃ b c, v = .slice (some ⟨b, 0, Option.none⟩) L.length c ∧ base ≤ b ∧ b < w.heap.size ∧ w.cell? ⟨b, k * 2, Option.none⟩ = some (.int .i64 (n : Int)) ∧ w.cell? ⟨b, k * 2 + 1, Option.none⟩ = some (.slice (some ⟨(gs.getD k (0, 0)).1, 0, Option.none⟩) h (gs.getD k (0, 0)).2) := by
  have hl := hi.len
  rcases hi.own.2 with ⟨e, _⟩ | ⟨g, cap, cur, e, hg, hh, _⟩
  · exact (hi.some_ e).elim
  · subst e
    refine ⟨g, cap, by rw [List.length_map, hl], hg, (Array.getElem?_eq_some_iff.1 hh).1, ?_⟩
    have hget : (gs.map (imgC n h))[k]? = some (imgC n h (gs.getD k (0, 0))) := by
      rw [List.getElem?_map, List.getElem?_eq_getElem (by omega), List.getD_eq_getElem?_getD, List.getElem?_eq_getElem (by omega)]
      rfl
    obtain ⟨f0, f1⟩ := flatV_get _ k _ hget
    have c0 := World.ownsRow.cells hi.own (g := g) rfl _ _ f0
    have c1 := World.ownsRow.cells hi.own (g := g) rfl _ _ f1
    rw [Go.WideShapes.add_plain] at c0 c1
    simp only [Nat.zero_add] at c0 c1
    exact ⟨c0, c1⟩
end
end Go.Proofs.YtilahcpjjaikgaaDoor
end

section
namespace Go.Proofs.YtilahcpjjaikgaaDoor
open Go.RowKit
/-- One to six numbers from 0 to 6. -/
structure Small (xs : List Int) : Prop where
  h1 : 1 ≤ xs.length
  h6 : xs.length ≤ 6
  bd : ∀ x ∈ xs, 0 ≤ x ∧ x ≤ 6
theorem Small.at {xs : List Int} (h : Small xs) {k : Nat} (hk : k < xs.length) : 0 ≤ xs.getD k 0 ∧ xs.getD k 0 ≤ 6 := h.bd _ (by rw [List.getD_eq_getElem?_getD, List.getElem?_eq_getElem hk]; exact List.getElem_mem hk)
theorem Sums.sr {rs cs : List Int} (h : Sums rs cs) : Small rs := ⟨h.h1, h.h6, fun x hx => by have := h.rm x hx; have := h.w6; omega⟩
theorem Sums.sc {rs cs : List Int} (h : Sums rs cs) : Small cs := h.turn.sr
theorem take_sum {xs : List Int} {k : Nat} (hk : k < xs.length) : (xs.take (k + 1)).sum = (xs.take k).sum + xs.getD k 0 := by
  rw [take_snoc_i hk, List.sum_append]
  simp
theorem take_bd {xs : List Int} (hb : ∀ x ∈ xs, 0 ≤ x ∧ x ≤ 6) : ∀ k, 0 ≤ (xs.take k).sum ∧ (xs.take k).sum ≤ 6 * k := by
  intro k
  induction k generalizing xs with
  | zero => simp
  | succ k ih =>
    cases xs with
    | nil => simp; omega
    | cons x l =>
      have h1 := hb x (List.mem_cons_self ..)
      have h2 := ih (xs := l) fun z hz => hb z (List.mem_cons_of_mem _ hz)
      rw [List.take_succ_cons, List.sum_cons]
      omega
theorem Row.intsI2 {w : World} {g h c : Nat} {xs : List Int} (hr : Row w g xs) (hl : xs.length = h) : Ints w.heap.size w (.slice (some ⟨g, 0, none⟩) h c) xs := by
  have := hr.ints hr.lt c
  rw [hl] at this
  exact this
set_option maxHeartbeats 1000000 in
theorem total_c (v : Value) (xs : List Int) (h6 : xs.length ≤ 6) (hb : ∀ x ∈ xs, 0 ≤ x ∧ x ≤ 6) (w : World) (hv : Ints w.heap.size w v xs) :
    Calls Tryd.prog 59 #[v] w fun e w' => e = .returned (.int .i64 xs.sum) ∧ w = w' := by
  obtain ⟨A, cap, rfl⟩ := hv.len
  have HB := Lib.hid hb
  clear hb
  go_enter Tryd.func59, Tryd.ntmps59
  go_wp2
  go_loop [3, 8] (fun s i => ∃ k : Nat, k ≤ xs.length ∧ i = .int .i64 k ∧ s = .int .i64 (xs.take k).sum) (fun _ i => xs.length - (intOf i).toNat)
  case atStart => exact ⟨0, by omega, rfl, rfl⟩
  case round =>
    obtain ⟨k, hk, rfl, rfl⟩ := hrel
    have hbd := take_bd HB.out k
    by_cases hlt : k < xs.length
    · obtain ⟨b, off, cap', e, hbl, hc⟩ := hv.row (by omega)
      injection e with e1 _ e3
      subst e1 e3
      have hst := take_sum hlt
      have hat : 0 ≤ xs.getD k 0 ∧ xs.getD k 0 ≤ 6 := HB.out _ (by rw [List.getD_eq_getElem?_getD, List.getElem?_eq_getElem hlt]; exact List.getElem_mem hlt)
      have hcr := hc k hlt
      obtain ⟨r, er⟩ : ∃ r, r = xs.getD k 0 := ⟨_, rfl⟩
      rw [← er] at hst hat hcr
      obtain ⟨S, eS⟩ : ∃ S, S = (xs.take k).sum := ⟨_, rfl⟩
      rw [← eS] at hst hbd ⊢
      have HST := Lib.hid hst
      clear hst er eS hc hv
      go_wp2
      go_round
      case rel => exact ⟨k + 1, by omega, by go_num, by rw [HST.out]⟩
      case measure => simp [intOf]; omega
    · obtain rfl : k = xs.length := by omega
      go_wp2
      go_returns
      exact ⟨ri (by simp), rfl⟩
set_option maxHeartbeats 1000000 in
theorem l3Sum_c (v : Value) (xs : List Int) (t : Nat) (h6 : xs.length ≤ 6) (ht : t ≤ 1000) (hb : ∀ x ∈ xs, 0 ≤ x ∧ x ≤ 6) (w : World) (hv : Ints w.heap.size w v xs) :
    Calls Tryd.prog 77 #[v, .int .i64 (t : Int)] w fun e w' => e = .returned (.int .i64 (xs.take t).sum) ∧ w = w' := by
  obtain ⟨A, cap, rfl⟩ := hv.len
  have HB := Lib.hid hb
  clear hb
  go_enter Tryd.func77, Tryd.ntmps77
  go_wp2
  go_loop [5, 6] (fun s i => ∃ k : Nat, k ≤ xs.length ∧ k ≤ t ∧ i = .int .i64 k ∧ s = .int .i64 (xs.take k).sum) (fun _ i => xs.length - (intOf i).toNat)
  case atStart => exact ⟨0, by omega, by omega, rfl, rfl⟩
  case round =>
    obtain ⟨k, hk, hkt, rfl, rfl⟩ := hrel
    have hbd := take_bd HB.out k
    by_cases hlt : k < xs.length
    · by_cases hlt2 : k < t
      · obtain ⟨b, off, cap', e, hbl, hc⟩ := hv.row (by omega)
        injection e with e1 _ e3
        subst e1 e3
        have hst := take_sum hlt
        have hat : 0 ≤ xs.getD k 0 ∧ xs.getD k 0 ≤ 6 := HB.out _ (by rw [List.getD_eq_getElem?_getD, List.getElem?_eq_getElem hlt]; exact List.getElem_mem hlt)
        have hcr := hc k hlt
        obtain ⟨r, er⟩ : ∃ r, r = xs.getD k 0 := ⟨_, rfl⟩
        rw [← er] at hst hat hcr
        obtain ⟨S, eS⟩ : ∃ S, S = (xs.take k).sum := ⟨_, rfl⟩
        rw [← eS] at hst hbd ⊢
        have HST := Lib.hid hst
        clear hst er eS hc hv
        go_wp2
        go_round
        case rel => exact ⟨k + 1, by omega, by omega, by go_num, by rw [HST.out]⟩
        case measure => simp [intOf]; omega
      · obtain rfl : k = t := by omega
        go_wp2
        go_returns
        exact ⟨rfl, rfl⟩
    · obtain rfl : k = xs.length := by omega
      go_wp2
      go_returns
      exact ⟨ri (by rw [List.take_of_length_le hkt]), rfl⟩
end Go.Proofs.YtilahcpjjaikgaaDoor
end

section
namespace Go.Proofs.YtilahcpjjaikgaaDoor
open Go Go.RowKit
set_option maxHeartbeats 4000000 in
theorem l15Take_c (row : Nat) (hr : row < 64) (v : Value) (left : List Int) (h1 : 1 ≤ left.length) (h6 : left.length ≤ 6) (hb : ∀ j, j < left.length → 0 ≤ left.getD j 0 ∧ left.getD j 0 ≤ 6) (w : World) (hv : Ints w.heap.size w v left) :
    Calls Tryd.prog 79 #[v, .int .i64 (row : Int)] w fun e w' => ∃ g c, e = .returned (.tuple #[.slice (some ⟨g, 0, none⟩) left.length c, .bool (okT left row)]) ∧ w.heap.size ≤ g ∧ (okT left row = true → Row w' g (takeT left row)) ∧ Below w.heap.size w w' := by
  obtain ⟨A, cap, rfl⟩ := hv.len
  have hown := OwnI.empty (base := w.heap.size) w (Nat.le_refl _)
  have hva := hv.alloc (Nat.le_refl _) (.cells #[] 3)
  have hlen : ([] : List Int).length + left.length ≤ 16777216 := by simp; omega
  have hbs : w.heap.size ≤ (w.alloc (.cells #[] 3)).heap.size := by simp
  have hb3 : Below w.heap.size w (w.alloc (.cells #[] 3)) := by go_grown
  have HH := Lib.hid (And.intro hown (And.intro hva (And.intro hlen (And.intro hbs hb3))))
  have HB := Lib.hid hb
  clear hown hva hlen hbs hb3 hb hv
  go_enter Tryd.func79, Tryd.ntmps79
  go_wp2_with (at_builtin; refine wpList_app (v := .slice (some ⟨w.heap.size, 0, none⟩) 0 0) rfl (.tmp 8) (.tmp 9) rfl rfl HH.out.1 rfl HH.out.2.1 HH.out.2.2.1 HH.out.2.2.2.1 ?_; intro v6 w6 hown6 hgr6 hnn6 _; rw [List.nil_append] at hown6; obtain ⟨g, c, rfl, hg, hrow⟩ := hown6.row (hnn6 (.inl (by simp))); have hq6 := Below.app HH.out.2.2.2.2 HH.out.1 hgr6 (Nat.le_refl _) HH.out.2.2.2.1; have HR := Lib.hid (And.intro hrow (And.intro hg hq6)); clear hown6 hgr6 hnn6 hrow hg hq6)
  obtain ⟨hR0, hg, hq⟩ := HR.out
  rw [← takeTo_zero left row 1] at hR0
  clear HH HR
  go_loopw [7] (fun q wr => ∃ k : Nat, k ≤ left.length ∧ q = .int .i64 k ∧ Row wr g (takeTo left row 1 k) ∧ (∀ j, j < k → 0 ≤ left.getD j 0 - b2i (row.testBit j)) ∧ Below w.heap.size w wr) (fun q _ => left.length - (intOf q).toNat)
  case atStart => exact ⟨0, by omega, rfl, hR0, fun j hj => by omega, hq⟩
  case round =>
    clear hR0 hq
    obtain ⟨k, hk, rfl, hR, hall, hon⟩ := hrel
    by_cases hkL : k < left.length
    · have hlen : Hid (k < (takeTo left row 1 k).length) := by show _ < _; rw [length_takeTo]; exact hkL
      have hcg := Row.cell hR hlen
      have hst := takeTo_step (row := row) (s := 1) hkL
      rw [takeTo_at hkL, if_neg (by omega)] at hcg hst
      rw [Int.mul_one] at hst
      have hb := HB.out k hkL
      have HC : ∀ W : World, Calls Tryd.prog 69 #[.int .i64 (row : Int), .int .i64 (k : Int)] W fun e w' => e = .returned (.int .i64 (b2i (row.testBit k))) ∧ W = w' := fun W => l1Bit_c row k (by omega) (by omega) W
      have hb01 := b2i_bd (row.testBit k)
      have HNO := Lib.hid (okT_no (row := row) hkL)
      obtain ⟨x, ex⟩ : ∃ x, x = left.getD k 0 := ⟨_, rfl⟩
      obtain ⟨y, ey⟩ : ∃ y, y = b2i (row.testBit k) := ⟨_, rfl⟩
      rw [← ex] at hcg hst hb HNO
      rw [← ey] at hb01 hst HNO
      simp only [← ey] at HC
      have ew2 : IntKind.i64.wrap (x - y) = x - y := IntWalk.i64_in _ ⟨by omega, by omega⟩
      have HST := Lib.hid hst
      have HEE := Lib.hid (And.intro ex ey)
      have HR := Lib.hid (And.intro hR (And.intro hall hon))
      have k0 := cell_regrown hcg
      clear ex ey hst hR hon hb hall
      go_wp2_with fail
      refine wp_region_below_tail 11 (by kernel_rfl) (by kernel_rfl) ?_
      simp only [List.take_succ_cons, List.take_zero, List.drop_succ_cons, List.drop_zero]
      repeat (first | go_big_quiet_step ((go_at_call 69; with_reducible exact Calls.rgs (HC _))) | quiet_step ((go_at_call 69; with_reducible exact Calls.rgs (HC _))))
      refine wpQuiet_nil ?_
      intro _ hw0
      obtain ⟨⟨dq, osq⟩, hw1⟩ := hw0
      subst hw1
      have hq := below_regrown wr dq osq
      generalize Go.Sort.grow (redrawn wr dq) osq = w4 at hq ⊢
      obtain ⟨hR, hall, hon⟩ := HR.out
      have hR4 := hR.below hq hR.lt
      have hset := Row.set hR4 hlen (x - y)
      rw [HST.out] at hset
      have hcg4 := cell_below hq hcg
      have hfg4 := Row.frozen hR4 k
      have q0 : (w4.setCell ⟨g, k, none⟩ (.int .i64 (x - y))).cell? ⟨g, k, none⟩ = some (.int .i64 (x - y)) := World.cell?_setCell_same' _ _ _ (by rw [hcg4]; rfl)
      have hbw : Below w.heap.size w (w4.setCell ⟨g, k, none⟩ (.int .i64 (x - y))) := (hon.trans (hq.mono hon.size)).setCell hg _
      have HS := Lib.hid (And.intro hset (And.intro hall hbw))
      clear hset hR4 hcg hR hall hon hq k0 HR hbw
      by_cases hneg : x - y < 0
      · have HN := Lib.hid (HNO.out hneg)
        go_wp2
        go_returns
        exact ⟨g, c, (by rw [HN.out]; rfl), hg, fun h => (by rw [HN.out] at h; cases h), HS.out.2.2⟩
      · go_wp2
        go_roundw
        case rel =>
          refine ⟨k + 1, by omega, by go_num, HS.out.1, fun j hj => ?_, HS.out.2.2⟩
          by_cases e : j = k
          · subst e
            rw [← HEE.out.1, ← HEE.out.2]
            omega
          · exact HS.out.2.1 j (by omega)
        case measure => simp [intOf]; omega
    · obtain rfl : k = left.length := by omega
      rw [takeTo_one] at hR
      have HE := Lib.hid (And.intro hR (And.intro (okT_yes hall) hon))
      clear hR hon hall
      go_wp2
      go_returns
      exact ⟨g, c, (by rw [HE.out.2.1]; rfl), hg, fun _ => HE.out.1, HE.out.2.2⟩
set_option maxHeartbeats 1000000 in
theorem l15Ok_c (u v : Value) (rs cs : List Int) (hr : rs.length ≤ 2097152) (hc : cs.length ≤ 2097152) (w : World) (hu : Ints w.heap.size w u rs) (hv : Ints w.heap.size w v cs) :
    Calls Tryd.prog 42 #[u, v] w fun e w' => e = .returned (.bool (ctB rs cs)) ∧ w = w' := by
  have HS := sSumsValid_c u v rs cs hr hc w hu hv
  obtain ⟨A, cap, rfl⟩ := hu.len
  obtain ⟨B, cap', rfl⟩ := hv.len
  have hb : 0 ≤ (rs.length : Int) * (cs.length : Int) ∧ (rs.length : Int) * (cs.length : Int) ≤ 2097152 * 2097152 := ⟨Int.mul_nonneg (by omega) (by omega), Int.mul_le_mul (by omega) (by omega) (by omega) (by omega)⟩
  have ew : IntKind.i64.wrap ((rs.length : Int) * (cs.length : Int)) = (rs.length : Int) * (cs.length : Int) := IntWalk.i64_in _ ⟨by omega, by omega⟩
  have ed : decide ((rs.length : Int) * (cs.length : Int) ≤ 16) = decide (rs.length * cs.length ≤ 16) := by
    refine decide_eq_decide.2 ?_
    rw [← Int.natCast_mul]
    omega
  have HC : ctB rs cs = (svB rs cs && decide ((rs.length : Int) * (cs.length : Int) ≤ 16)) := by rw [ed]; rfl
  rw [HC]
  clear HC ed hb
  cases hs : svB rs cs with
  | true =>
    rw [hs] at HS
    clear hs
    go_enter Tryd.func42, Tryd.ntmps42
    go_wp2_with (go_at_call 63; refine HS.mono ?_; rintro e w' ⟨rfl, rfl⟩)
    go_returns
    exact ⟨by simp, rfl⟩
  | false =>
    rw [hs] at HS
    clear hs
    go_enter Tryd.func42, Tryd.ntmps42
    go_wp2_with (go_at_call 63; refine HS.mono ?_; rintro e w' ⟨rfl, rfl⟩)
    go_returns
    exact ⟨by simp, rfl⟩
end Go.Proofs.YtilahcpjjaikgaaDoor
end

section
namespace Go.Proofs.YtilahcpjjaikgaaDoor
open Go Go.RowKit
/-- What is known of the sums that are left. -/
structure LeftOk (wd : Nat) (left : List Int) : Prop where
  len : left.length = wd
  bd : ∀ j, j < left.length → 0 ≤ left.getD j 0 ∧ left.getD j 0 ≤ 6
theorem LeftOk.mem {wd : Nat} {left : List Int} (h : LeftOk wd left) : ∀ x ∈ left, 0 ≤ x ∧ x ≤ 6 := fun x hx => by
  obtain ⟨j, hj, e⟩ := List.getElem_of_mem hx
  have := h.bd j hj
  rwa [List.getD_eq_getElem?_getD, List.getElem?_eq_getElem hj, Option.getD_some, e] at this
theorem LeftOk.take {wd row : Nat} {left : List Int} (h : LeftOk wd left) (ho : okT left row = true) : LeftOk wd (takeT left row) :=
  ⟨by rw [length_takeT]; exact h.len, fun j hj => by
    rw [length_takeT] at hj
    rw [takeT_at hj]
    have := okT_iff.1 ho j hj
    have := h.bd j hj
    have := b2i_bd (row.testBit j)
    omega⟩
theorem zero_all {left : List Int} (h : ∀ x ∈ left, 0 ≤ x ∧ x ≤ 6) : (left.all fun x => x == 0) = decide (left.sum = 0) := by
  induction left with
  | nil => rfl
  | cons x l ih =>
    have h1 := h x (List.mem_cons_self ..)
    have h2 : 0 ≤ l.sum := by have a := top_nonneg (xs := l) (fun y hy => (h y (List.mem_cons_of_mem _ hy)).1) l.length; rwa [top_all (fun y hy => (h y (List.mem_cons_of_mem _ hy)).1) _ (Nat.le_refl _)] at a
    rw [List.all_cons, ih fun y hy => h y (List.mem_cons_of_mem _ hy), List.sum_cons]
    rw [Bool.eq_iff_iff]
    simp
    omega
/-- What a list of images is that a call returns. -/
def AllOut (w : World) (wd h : Nat) (L : List (List Nat)) (e : Ending) (w' : World) : Prop := ∃ b c gs, e = .returned (.slice (some ⟨b, 0, none⟩) L.length c) ∧ ImgL w.heap.size w' wd h (.slice (some ⟨b, 0, none⟩) L.length c) L gs ∧ Below w.heap.size w w'
theorem casts_snoc (ns : List Nat) (r : Nat) : casts ns ++ [(r : Int)] = casts (ns ++ [r]) := by simp [casts]
set_option maxHeartbeats 4000000 in
set_option maxRecDepth 100000 in
theorem l34All_leaf (wd h : Nat) (w1 : 1 ≤ wd) (w6 : wd ≤ 6) (h1 : 1 ≤ h) (h6 : h ≤ 6) (rs : List Int) (hrl : rs.length = h) (done : List Nat) (left : List Int) (vd vr vl : Value) (w : World) (hd : done.length = h) (hl : LeftOk wd left)
    (hvd : Ints w.heap.size w vd (casts done)) (hvr : Ints w.heap.size w vr rs) (hvl : Ints w.heap.size w vl left) :
    Calls Tryd.prog 53 #[vd, vr, vl] w (AllOut w wd h ((genI wd [] left).map (done ++ ·))) := by
  obtain ⟨Ad, cd, rfl⟩ := hvd.len
  obtain ⟨Ar, cr, rfl⟩ := hvr.len
  obtain ⟨Al, cl, rfl⟩ := hvl.len
  rw [length_casts, hd] at hvd ⊢
  rw [hrl] at hvr ⊢
  rw [hl.len] at hvl ⊢
  have hi0 := ImgL.none (base := w.heap.size) w (Nat.le_refl _) wd h
  have hb0 : Below w.heap.size w (w.alloc (.cells #[] 27)) := by go_grown
  have hvd0 := (hvd.below hb0).more hb0.size
  have hvl0 := (hvl.below hb0).more hb0.size
  have hz0 : (w.alloc (.cells #[] 27)).heap.size = w.heap.size + 1 := by simp
  obtain ⟨W0, eW⟩ : ∃ W, W = w.alloc (.cells #[] 27) := ⟨_, rfl⟩
  rw [← eW] at hi0 hb0 hvd0 hvl0 hz0
  have HS := l3Sum_c (.slice Al wd cl) left wd (by rw [hl.len]; exact w6) (by omega) hl.mem W0 hvl0
  rw [List.take_of_length_le (by rw [hl.len]; exact Nat.le_refl _)] at HS
  have hza := zero_all hl.mem
  have hgen : genI wd [] left = if left.sum = 0 then [[]] else [] := by
    unfold genI
    rw [hza]
    by_cases e : left.sum = 0
    · simp [e]
    · simp [e]
  rw [hgen]
  obtain ⟨S, eS⟩ : ∃ S, S = left.sum := ⟨_, rfl⟩
  rw [← eS] at HS ⊢
  have HI := Lib.hid (And.intro hi0 (And.intro hb0 hvd0))
  have HZ := Lib.hid hz0
  clear hi0 hb0 hvd0 hvl0 hvd hvr hvl hza hgen eS hz0
  go_enter Tryd.func53, Tryd.ntmps53
  by_cases hS : S = 0
  · subst hS
    go_wp2_with fail
    rw [← eW]
    clear eW
    refine HS.mono ?_
    rintro e w' ⟨rfl, rfl⟩
    obtain ⟨hi0, hb0, hvd0⟩ := HI.out
    have hown := OwnI.empty (base := W0.heap.size) W0 (Nat.le_refl _)
    have hva := hvd0.alloc (Nat.le_refl _) (.cells #[] 3)
    have hlen : ([] : List Int).length + (casts done).length ≤ 16777216 := by rw [length_casts]; simp; omega
    have hbs : W0.heap.size ≤ (W0.alloc (.cells #[] 3)).heap.size := by simp
    have hb3 : Below W0.heap.size W0 (W0.alloc (.cells #[] 3)) := by go_grown
    have HH := Lib.hid (And.intro hown (And.intro hva (And.intro hlen (And.intro hbs (And.intro hb3 (And.intro hi0 hb0))))))
    clear hown hva hlen hbs hb3 hi0 hb0 hvd0 HI HS
    go_wp2_with (first
      | (at_builtin; refine wpList_app (v := .slice (some ⟨W0.heap.size, 0, none⟩) 0 0) rfl (.tmp 27) (.tmp 28) rfl rfl HH.out.1 rfl HH.out.2.1 HH.out.2.2.1 HH.out.2.2.2.1 ?_; intro v6 w6 hown6 hgr6 hnn6 _; rw [List.nil_append] at hown6; obtain ⟨g, c, rfl, hg, hrow⟩ := hown6.row (hnn6 (.inl (by simp))); have hq6 := Below.app HH.out.2.2.2.2.1 HH.out.1 hgr6 (Nat.le_refl _) HH.out.2.2.2.1; rw [length_casts, hd]; have hi6 := HH.out.2.2.2.2.2.1.below hq6 (Nat.le_refl _); have hb6 := HH.out.2.2.2.2.2.2.trans (hq6.mono HH.out.2.2.2.2.2.2.size); have hb7 : Below w6.heap.size w6 (w6.alloc (.cells #[.int .i64 (wd : Int), .slice (some ⟨g, 0, none⟩) h c] 27)) := by go_grown
         have hi7 := hi6.below hb7 (Nat.le_refl _); have hr7 := hrow.below hb7 hrow.lt; have hb8 := hb6.trans (hb7.mono hb6.size); have c0 : (w6.alloc (.cells #[.int .i64 (wd : Int), .slice (some ⟨g, 0, none⟩) h c] 27)).cell? ⟨w6.heap.size, 0, none⟩ = some (.int .i64 (wd : Int)) := by go_cell
         have c1 : (w6.alloc (.cells #[.int .i64 (wd : Int), .slice (some ⟨g, 0, none⟩) h c] 27)).cell? ⟨w6.heap.size, 1, none⟩ = some (.slice (some ⟨g, 0, none⟩) h c) := by go_cell
         have hs8 := hb8.size; have hs7 := hq6.size; have HR := Lib.hid (And.intro hi7 (And.intro hr7 (And.intro hb8 (And.intro hg (And.intro c0 (And.intro c1 (And.intro hs8 hs7))))))); clear hown6 hgr6 hnn6 hrow hg hq6 hi6 hb6 hb7 hi7 hr7 hb8 c0 c1 hs8 hs7)
      | (at_builtin; refine wpList_appP (x := .int .i64 (wd : Int)) rfl (.tmp 24) (.tmp 31) rfl rfl HR.out.1.own rfl rfl rfl HR.out.2.2.2.2.1 HR.out.2.2.2.2.2.1 (by simp) HR.out.2.2.2.2.2.2.1 ?_; intro v9 w9 hown9 hgr9 hat9))
    have hnm : ([] : List (Nat × Nat)).map (imgC wd h) ++ [((.int .i64 (wd : Int) : Value), (.slice (some ⟨g, 0, none⟩) h c : Value))] = ([] : List (Nat × Nat)).map (imgC wd h) ++ [(g, c)].map (imgC wd h) := rfl
    rw [hnm] at hown9
    have hgl : w.heap.size < g := by have := HR.out.2.2.2.1; have := HZ.out; omega
    have hfin := HR.out.1.app (M := [done]) (gs2 := [(g, c)]) (fun k hk => by
      obtain rfl : k = 0 := by simpa using hk
      exact ⟨HR.out.2.1, by show _ ≤ g; omega⟩) rfl (fun k b hk hb => by
      obtain rfl : k = 0 := by simpa using hk
      simp [Value.ownBlock] at hb
      show g ≠ b
      omega) hown9 hgr9 hat9
    have hbw : Below w.heap.size w w9 := HR.out.2.2.1.grown hgr9 HR.out.2.2.1.size fun k e => by cases e; exact Nat.le_refl _
    obtain ⟨b9, c9, rfl, _, _⟩ := hfin.form
    have HF := Lib.hid (And.intro hfin hbw)
    clear hfin hbw hown9 hgr9 hat9 HR HH
    go_wp2
    go_returns
    exact ⟨b9, c9, [(g, c)], by simp, by simpa using HF.out.1, HF.out.2⟩
  · go_wp2_with fail
    rw [← eW]
    clear eW
    refine HS.mono ?_
    rintro e w' ⟨rfl, rfl⟩
    have HF := HI
    clear HI HS
    go_wp2
    go_returns
    exact ⟨w.heap.size, 0, [], by simp [hS], by simpa [hS] using HF.out.1, HF.out.2.1⟩
set_option maxHeartbeats 8000000 in
set_option maxRecDepth 100000 in
/-- The reference's list, from whatever row on. -/
theorem l34All_c (wd h : Nat) (w1 : 1 ≤ wd) (w6 : wd ≤ 6) (h1 : 1 ≤ h) (h6 : h ≤ 6) (h16 : h * wd ≤ 16) (rs : List Int) (hrl : rs.length = h) :
    ∀ (m i : Nat) (done : List Nat) (left : List Int) (vd vr vl : Value) (w : World), i + m = h → done.length = i → LeftOk wd left → Ints w.heap.size w vd (casts done) → Ints w.heap.size w vr rs → Ints w.heap.size w vl left →
      Calls Tryd.prog 53 #[vd, vr, vl] w (AllOut w wd h ((genI wd (rs.drop i) left).map (done ++ ·)))
  | 0, i, done, left, vd, vr, vl, w, hi, hd, hl, hvd, hvr, hvl => by
    obtain rfl : i = h := by omega
    have hdr : rs.drop i = [] := by rw [← hrl, List.drop_length]
    rw [hdr]
    exact l34All_leaf wd i w1 w6 h1 h6 rs hrl done left vd vr vl w hd hl hvd hvr hvl
  | m + 1, i, done, left, vd, vr, vl, w, hi, hd, hl, hvd, hvr, hvl => by
    have IH := l34All_c wd h w1 w6 h1 h6 h16 rs hrl m (i + 1)
    obtain ⟨Ad, cd, rfl⟩ := hvd.len
    obtain ⟨Ar, cr, rfl⟩ := hvr.len
    obtain ⟨Al, cl, rfl⟩ := hvl.len
    rw [length_casts, hd] at hvd ⊢
    rw [hrl] at hvr ⊢
    rw [hl.len] at hvl ⊢
    have hih : i < h := by omega
    have hdr : rs.drop i = rs.getD i 0 :: rs.drop (i + 1) := by
      have : i < rs.length := by rw [hrl]; exact hih
      rw [List.drop_eq_getElem_cons this, List.getD_eq_getElem?_getD, List.getElem?_eq_getElem this]
      rfl
    have hdl : (rs.drop (i + 1)).length = m := by rw [List.length_drop, hrl]; omega
    rw [hdr]
    obtain ⟨r, er⟩ : ∃ r, r = rs.getD i 0 := ⟨_, rfl⟩
    rw [← er]
    have ER := Lib.hid er
    have hall := genS_all wd r (rs.drop (i + 1)) left
    rw [← hall]
    have h64 : 2 ^ wd ≤ 64 := pow6 w6
    have h16' : wd * ((rs.drop (i + 1)).length + 1) ≤ 16 := by
      rw [hdl]
      refine Nat.le_trans (Nat.mul_le_mul_left wd (by omega : m + 1 ≤ h)) ?_
      rw [Nat.mul_comm]
      exact h16
    have hlenS := fun k hk => genS_len (w := wd) (r := r) (rs := rs.drop (i + 1)) (left := left) (k := k) hk h16'
    have hlenI := fun left => gen_len16 (w := wd) (rs := rs.drop (i + 1)) (left := left) (h := by refine Nat.le_trans (Nat.mul_le_mul_left wd (Nat.le_succ _)) h16')
    obtain ⟨N, eN⟩ : ∃ N, N = 2 ^ wd := ⟨_, rfl⟩
    have hpw : ∀ W : World, Calls Tryd.prog 66 #[.int .i64 (wd : Int)] W fun e w' => e = .returned (.int .i64 (N : Int)) ∧ W = w' := fun W => by
      have := l1Power_c wd (by omega) W
      unfold pw at this
      rwa [← eN] at this
    rw [← eN] at h64 ⊢
    rw [← eN] at hlenS
    have HEN := Lib.hid eN
    have hi0 := ImgL.none (base := w.heap.size) w (Nat.le_refl _) wd h
    have hb0 : Below w.heap.size w (w.alloc (.cells #[] 27)) := by go_grown
    obtain ⟨W0, eW⟩ : ∃ W, W = w.alloc (.cells #[] 27) := ⟨_, rfl⟩
    rw [← eW] at hi0 hb0
    have HL := Lib.hid (And.intro hlenS (And.intro hlenI (And.intro hl hd)))
    have HIH := Lib.hid IH
    have HV := Lib.hid (And.intro hvd (And.intro hvr hvl))
    have HI := Lib.hid (And.intro hi0 hb0)
    have hne : ((i : Int) == (h : Int)) = false := by simp; omega
    clear hall er hdr hlenS hlenI hl hd hvd hvr hvl hi0 hb0 eN h16' IH hdl
    go_enter Tryd.func53, Tryd.ntmps53
    go_wp2_with fail
    rw [← eW]
    clear eW
    go_loopw [7, 9] (fun s q wr => ∃ (k b c : Nat) (gs : List (Nat × Nat)), k ≤ N ∧ s = .slice (some ⟨b, 0, none⟩) ((genS wd r (rs.drop (i + 1)) left k).map (done ++ ·)).length c ∧ q = .int .i64 (k : Int) ∧ ImgL w.heap.size wr wd h (.slice (some ⟨b, 0, none⟩) ((genS wd r (rs.drop (i + 1)) left k).map (done ++ ·)).length c) ((genS wd r (rs.drop (i + 1)) left k).map (done ++ ·)) gs ∧ Below w.heap.size w wr) (fun _ q _ => N - (intOf q).toNat)
    case atStart => exact ⟨0, _, _, [], Nat.zero_le _, rfl, rfl, HI.out.1, HI.out.2⟩
    case round =>
      clear HI
      obtain ⟨k, b, c, gs, hk, rfl, rfl, him, hbw⟩ := hrel
      obtain ⟨LN, eLN⟩ : ∃ n, n = ((genS wd r (rs.drop (i + 1)) left k).map (done ++ ·)).length := ⟨_, rfl⟩
      rw [← eLN] at him ⊢
      have HLN := Lib.hid eLN
      clear eLN
      have HIM := Lib.hid (And.intro him hbw)
      have hsz := hbw.size
      clear him hbw
      by_cases hlt : k < N
      · have hk64 : k < 64 := by omega
        have hkw : k < 2 ^ wd := by rw [← HEN.out]; exact hlt
        have hki : (k : Int) < (N : Int) := by omega
        have hvr := (HV.out.2.1.below HIM.out.2).more hsz
        obtain ⟨bb, off, cp, eS, hlb, hcb⟩ := hvr.row (by rw [hrl]; omega)
        injection eS with eA eN' eC
        rw [hrl] at hcb
        have hcr := hcb i hih
        rw [← ER.out] at hcr
        subst eA
        have HO : ∀ W : World, Calls Tryd.prog 78 #[.int .i64 (k : Int)] W fun e w' => e = .returned (.int .i64 (pop wd k)) ∧ W = w' := fun W => by rw [← pop_w hkw w6]; exact l15Count_c k hk64 W
        have k3 := cell_regrown hcr
        clear hcb eC eN' hvr hlb
        go_wp2_with (go_at_call 66; refine (hpw _).mono ?_; rintro e w' ⟨rfl, rfl⟩)
        by_cases hpp : pop wd k = r
        · obtain ⟨q, eq⟩ : ∃ q, q = pop wd k := ⟨_, rfl⟩
          rw [← eq] at HO hpp
          subst hpp
          have HEQ := Lib.hid eq
          clear eq
          refine wp_region_quiet_below (by kernel_rfl) (by kernel_rfl) ?_
          repeat (first | go_big_quiet_step ((go_at_call 78; with_reducible exact Calls.rgs (HO _))) | quiet_step ((go_at_call 78; with_reducible exact Calls.rgs (HO _))))
          refine wpQuiet_nil ?_
          intro _ hw0
          obtain ⟨⟨dq, osq⟩, hw1⟩ := hw0
          subst hw1
          have hq := below_regrown wr dq osq
          generalize Go.Sort.grow (redrawn wr dq) osq = w4 at hq ⊢
          clear k3 HO hcr
          have hbw4 := HIM.out.2.trans (hq.mono hsz)
          have him4 := HIM.out.1.below hq (Nat.le_refl _)
          have hvl4 := (HV.out.2.2.below hbw4).more hbw4.size
          have HT := l15Take_c k hk64 (.slice Al wd cl) left (by rw [HL.out.2.2.1.len]; exact w1) (by rw [HL.out.2.2.1.len]; exact w6) HL.out.2.2.1.bd w4 hvl4
          rw [HL.out.2.2.1.len] at HT
          have H4 := Lib.hid (And.intro hbw4 him4)
          have hs4 := hbw4.size
          obtain ⟨ob, eob⟩ : ∃ b, b = okT left k := ⟨_, rfl⟩
          rw [← eob] at HT
          have HOB := Lib.hid eob
          clear hbw4 him4 hvl4 hq eob HIM
          go_wp2_with fail
          refine HT.mono ?_
          rintro e w5 ⟨gt, ct, rfl, hgt, hrt, hb5⟩
          have hbw5 := H4.out.1.trans (hb5.mono hs4)
          have him5 := H4.out.2.below hb5 (Nat.le_refl _)
          have hs5 := hb5.size
          clear HT
          cases ob with
          | false =>
            have HK := Lib.hid (And.intro him5 hbw5)
            have HNO := Lib.hid (genS_no (w := wd) (r := q) (rs := rs.drop (i + 1)) (left := left) (k := k) (fun h => by rw [← HOB.out] at h; cases h.2))
            clear him5 hbw5 hb5 hrt H4
            go_wp2
            go_roundw
            case rel => exact ⟨k + 1, b, c, gs, by omega, by rw [HNO.out, HLN.out], by go_num, by rw [HNO.out, ← HLN.out]; exact HK.out.1, HK.out.2⟩
            case measure => simp [intOf]; omega
          | true =>
            have hyes := genS_yes (w := wd) (r := q) (rs := rs.drop (i + 1)) (left := left) (k := k) ⟨HEQ.out.symm, HOB.out.symm⟩
            have hvd5 := (HV.out.1.below hbw5).more hbw5.size
            have hvr5 := (HV.out.2.1.below hbw5).more hbw5.size
            have hown := OwnI.empty (base := w5.heap.size) w5 (Nat.le_refl _)
            have hva := hvd5.alloc (Nat.le_refl _) (.cells #[] 3)
            have hlen : ([] : List Int).length + (casts done).length ≤ 16777216 := by rw [length_casts, HL.out.2.2.2]; simp; omega
            have hbs : w5.heap.size ≤ (w5.alloc (.cells #[] 3)).heap.size := by simp
            have hb6 : Below w5.heap.size w5 (w5.alloc (.cells #[] 3)) := by go_grown
            have hrt5 := hrt rfl
            have hlt5 := HL.out.2.2.1.take HOB.out.symm
            have HH := Lib.hid (And.intro hown (And.intro hva (And.intro hlen (And.intro hbs hb6))))
            have H5 := Lib.hid (And.intro him5 (And.intro hbw5 (And.intro hvr5 (And.intro hrt5 (And.intro hlt5 hyes)))))
            clear hown hva hlen hbs hb6 him5 hbw5 hvd5 hvr5 hrt5 hlt5 hyes hrt hb5 H4
            go_wp2_with (first
              | (at_builtin; refine wpList_app (v := .slice (some ⟨w5.heap.size, 0, none⟩) 0 0) rfl (.tmp 56) (.tmp 57) rfl rfl HH.out.1 rfl HH.out.2.1 HH.out.2.2.1 HH.out.2.2.2.1 ?_; intro v6 w6 hown6 hgr6 hnn6 _; rw [List.nil_append] at hown6
                 have hq6 := Below.app HH.out.2.2.2.2 HH.out.1 hgr6 (Nat.le_refl _) HH.out.2.2.2.1
                 have hown7 := hown6.alloc (.cells #[.int .i64 (k : Int)] 3)
                 have hlen7 : (casts done).length + ([(k : Int)] : List Int).length ≤ 16777216 := by rw [length_casts, HL.out.2.2.2]; simp; omega
                 have hone := Ints.one w6 (k : Int) 3
                 have hb7 : Below w6.heap.size w6 (w6.alloc (.cells #[.int .i64 (k : Int)] 3)) := by go_grown
                 have hb57 := hq6.trans (hb7.mono hq6.size)
                 obtain ⟨a6, c6, ev6⟩ := hown6.ints.len
                 rw [length_casts, HL.out.2.2.2] at ev6
                 subst ev6
                 have HH7 := Lib.hid (And.intro hown7 (And.intro hlen7 (And.intro hone hb57)))
                 clear hown6 hgr6 hnn6 hq6 hown7 hlen7 hone hb7 hb57)
              | (at_builtin; refine wpList_app (v := .slice a6 i c6) (ys := [(k : Int)]) rfl (.tmp 58) (.tmp 60) rfl rfl HH7.out.1 rfl HH7.out.2.2.1 HH7.out.2.1 HH7.out.2.2.2.size ?_; intro v8 w8 hown8 hgr8 hnn8 _
                 have hq8 := Below.app HH7.out.2.2.2 HH7.out.1 hgr8 (Nat.le_refl _) HH7.out.2.2.2.size
                 rw [casts_snoc] at hown8
                 have hvd8 := hown8.ints
                 have hlen8 : (done ++ [k]).length = i + 1 := by rw [List.length_append, HL.out.2.2.2]; rfl
                 obtain ⟨a8, c8, ev8⟩ := hvd8.len
                 subst ev8
                 have hvr8 := (H5.out.2.2.1.below hq8).more hq8.size
                 have hrt8 := (H5.out.2.2.2.1.below hq8 H5.out.2.2.2.1.lt)
                 have hvl8 := hrt8.ints hrt8.lt ct
                 rw [length_takeT, HL.out.2.2.1.len] at hvl8
                 have HC := HIH.out (done ++ [k]) (takeT left k) _ _ _ w8 (by omega) hlen8 H5.out.2.2.2.2.1 hvd8 hvr8 hvl8
                 have HK8 := Lib.hid (And.intro hq8 trivial)
                 clear hown8 hgr8 hnn8 hq8 hvd8 hvr8 hrt8 hvl8 HH7)
              | (go_at_call 53; refine HC.mono ?_; rintro e w9 ⟨b9, c9, gs9, rfl, him9, hb9⟩
                 obtain ⟨LM, eLM⟩ : ∃ n, n = ((genI wd (rs.drop (i + 1)) (takeT left k)).map ((done ++ [k]) ++ ·)).length := ⟨_, rfl⟩
                 rw [← eLM] at him9 ⊢
                 clear eLM
                 have hb59 := HK8.out.1.trans (hb9.mono HK8.out.1.size)
                 have himc := H5.out.1.below hb59 (Nat.le_refl _)
                 have hbwc := H5.out.2.1.trans (hb59.mono H5.out.2.1.size)
                 have hx9 : ∀ p ∈ gs9.map (imgC wd h), p.1.oneCell' = true ∧ p.2.oneCell' = true := fun p hp => by obtain ⟨q', _, rfl⟩ := List.mem_map.1 hp; exact ⟨rfl, rfl⟩
                 have hl9 : (gs.map (imgC wd h)).length + (gs9.map (imgC wd h)).length ≤ 1048576 := by
                   have a1 := HL.out.1 k (by omega)
                   have a2 := HL.out.2.1 (takeT left k)
                   have b1 := him9.len
                   have b2 := himc.len
                   simp only [List.length_map] at b1 b2 ⊢
                   omega
                 have H9 := Lib.hid (And.intro him9 (And.intro himc (And.intro hbwc (And.intro hb9 (And.intro HK8.out.1 (And.intro hx9 hl9))))))
                 clear him9 hb9 hb59 himc hbwc HC HK8 hx9 hl9)
              | (at_builtin; refine wpList_appPs (v := .slice (some ⟨b, 0, none⟩) LN c) (v2 := .slice (some ⟨b9, 0, none⟩) LM c9) rfl (.tmp 55) (.tmp 64) rfl rfl rfl H9.out.2.1.own H9.out.1.own H9.out.1.some_ H9.out.2.2.2.2.2.1 H9.out.2.2.2.2.2.2 H9.out.2.2.1.size ?_; intro v10 w10 hown10 hgr10 hat10))
            obtain ⟨him9, himc, hbwc, hb9, hb8, _, _⟩ := H9.out
            have hs8 := hb8.size
            have hsc := hbwc.size
            have hbl := H5.out.1.own_lt b rfl
            have hnew := himc.app (M := (genI wd (rs.drop (i + 1)) (takeT left k)).map ((done ++ [k]) ++ ·)) (gs2 := gs9) (fun j hj => ⟨(him9.rows j hj).1, by have := (him9.rows j hj).2; omega⟩) him9.len (fun j b' hj hb' => by
              have := (him9.rows j hj).2
              simp [Value.ownBlock] at hb'
              omega) hown10 hgr10 hat10
            have hbn : Below w.heap.size w w10 := hbwc.grown hgr10 hsc fun j e => by simp [Value.ownBlock] at e; omega
            have e1 : (genS wd q (rs.drop (i + 1)) left (k + 1)).map (done ++ ·) = (genS wd q (rs.drop (i + 1)) left k).map (done ++ ·) ++ (genI wd (rs.drop (i + 1)) (takeT left k)).map ((done ++ [k]) ++ ·) := by
              rw [H5.out.2.2.2.2.2, List.map_append, map_done]
            rw [← e1] at hnew
            obtain ⟨b10, c10, ev10, _, _⟩ := hnew.form
            subst ev10
            have HF := Lib.hid (And.intro hnew hbn)
            clear him9 himc hbwc hb9 hb8 hnew hbn e1 hown10 hgr10 hat10 H9 H5 HH
            go_wp2
            go_roundw
            case rel => exact ⟨k + 1, b10, c10, gs ++ gs9, by omega, rfl, by go_num, HF.out.1, HF.out.2⟩
            case measure => simp [intOf]; omega
        · have HNO := Lib.hid (genS_no (w := wd) (r := r) (rs := rs.drop (i + 1)) (left := left) (k := k) (fun h => hpp h.1))
          obtain ⟨q, eq⟩ : ∃ q, q = pop wd k := ⟨_, rfl⟩
          rw [← eq] at HO hpp
          clear eq
          refine wp_region_quiet_below (by kernel_rfl) (by kernel_rfl) ?_
          repeat (first | go_big_quiet_step ((go_at_call 78; with_reducible exact Calls.rgs (HO _))) | quiet_step ((go_at_call 78; with_reducible exact Calls.rgs (HO _))))
          refine wpQuiet_nil ?_
          intro _ hw0
          obtain ⟨⟨dq, osq⟩, hw1⟩ := hw0
          subst hw1
          have hq := below_regrown wr dq osq
          generalize Go.Sort.grow (redrawn wr dq) osq = w4 at hq ⊢
          clear k3 HO hcr
          have HK := Lib.hid (And.intro (HIM.out.1.below hq (Nat.le_refl _)) (HIM.out.2.trans (hq.mono hsz)))
          clear hq HIM
          go_wp2
          go_roundw
          case rel => exact ⟨k + 1, b, c, gs, by omega, by rw [HNO.out, HLN.out], by go_num, by rw [HNO.out, ← HLN.out]; exact HK.out.1, HK.out.2⟩
          case measure => simp [intOf]; omega
      · obtain rfl : k = N := by omega
        have HE := Lib.hid (And.intro HIM.out.1 (And.intro HIM.out.2 HLN.out))
        have hki : ¬ ((k : Int) < (k : Int)) := by omega
        go_wp2_with (go_at_call 66; refine (hpw _).mono ?_; rintro e w' ⟨rfl, rfl⟩)
        go_returns
        exact ⟨b, c, gs, (by rw [← HLN.out]; rfl), (by rw [← HLN.out]; exact HE.out.1), HE.out.2.1⟩
end Go.Proofs.YtilahcpjjaikgaaDoor
end
