/- Contract of SwitchList: a list of switches, whichever they are, whose numbers are at most 6. Conditions: the image's rows read as a list. -/
import Derived.Test.YtfkmkakdkocamaaSW1
import Derived.Test.YtfkmkakdkocamaaApp
namespace Go.Proofs.Ytfkmkakdkocamaa
open Go.RowKit
abbrev Sw4 := Nat × Nat × Nat × Nat
theorem sw_info : (Try.prog.info? 27).map (fun i => (i.zero, i.size, i.bytes)) = some (some (.agg #[.int .i64 0, .int .i64 0, .int .i64 0, .int .i64 0]), 4, 32) := by kernel_rfl
/-- The cells of some switches. -/
def flatS (L : List Sw4) : List Value := L.flatMap fun p => [.int .i64 (p.1 : Int), .int .i64 (p.2.1 : Int), .int .i64 (p.2.2.1 : Int), .int .i64 (p.2.2.2 : Int)]
theorem flatS_append (L M : List Sw4) : flatS (L ++ M) = flatS L ++ flatS M := by simp [flatS]
theorem flatS_get (L : List Sw4) (k : Nat) (p : Sw4) (h : L[k]? = some p) : (flatS L)[k * 4]? = some (.int .i64 (p.1 : Int)) ∧ (flatS L)[k * 4 + 1]? = some (.int .i64 (p.2.1 : Int)) ∧ (flatS L)[k * 4 + 2]? = some (.int .i64 (p.2.2.1 : Int)) ∧ (flatS L)[k * 4 + 3]? = some (.int .i64 (p.2.2.2 : Int)) := by
  induction L generalizing k with
  | nil => simp at h
  | cons q L ih =>
    cases k with
    | zero => simp at h; subst h; simp [flatS]
    | succ k =>
      have := ih k (by simpa using h)
      have e1 : (k + 1) * 4 = k * 4 + 1 + 1 + 1 + 1 := by omega
      rw [e1]
      simpa [flatS] using this
/-- The slice value v owns the switches L, in a block from base on. -/
def OwnS (w : World) (base : Nat) (v : Value) (L : List Sw4) : Prop := w.ownsRow base 27 4 v L.length (flatS L)
theorem OwnS.form {w : World} {base : Nat} {v : Value} {L : List Sw4} (h : OwnS w base v L) : ∃ A c, v = .slice A L.length c := by
  rcases h.2 with ⟨e, e2⟩ | ⟨g, cap, cur, e, _⟩
  · exact ⟨_, _, by rw [e, e2]⟩
  · exact ⟨_, _, e⟩
theorem OwnS.own_lt {w : World} {base : Nat} {v : Value} {L : List Sw4} (h : OwnS w base v L) (k : Nat) (e : v.ownBlock = some k) : base ≤ k ∧ k < w.heap.size := by
  rcases h.2 with ⟨rfl, _⟩ | ⟨g, cap, cur, rfl, hg, hh, _⟩
  · simp [Value.ownBlock] at e
  · simp [Value.ownBlock] at e
    subst e
    exact ⟨hg, (Array.getElem?_eq_some_iff.1 hh).1⟩
theorem OwnS.below {w w' : World} {base B : Nat} {v : Value} {L : List Sw4} (h : OwnS w base v L) (hb : Below B w w') (hB : w.heap.size ≤ B) : OwnS w' base v L := by
  refine ⟨h.1, ?_⟩
  rcases h.2 with h2 | ⟨g, cap, cur, e, hg, hh, r⟩
  · exact .inl h2
  · have hlt : g < w.heap.size := (Array.getElem?_eq_some_iff.1 hh).1
    exact .inr ⟨g, cap, cur, e, hg, (hb.block g (by omega)).trans hh, r⟩
theorem OwnS.empty (w : World) {base : Nat} (h : base ≤ w.heap.size) : OwnS (w.alloc (.cells #[] 27)) base (.slice (some ⟨w.heap.size, 0, none⟩) 0 0) [] :=
  ⟨rfl, .inr ⟨w.heap.size, 0, #[], rfl, h, heap_alloc_new w _, Nat.le_refl _, by unfold maxLen; omega, rfl, rfl⟩⟩
/-- The cells of one of the switches. -/
theorem OwnS.cells {w : World} {base : Nat} {v : Value} {L : List Sw4} (h : OwnS w base v L) (hl : 0 < L.length) : ∃ g c, v = .slice (some ⟨g, 0, none⟩) L.length c ∧ base ≤ g ∧ g < w.heap.size ∧ ∀ k p, L[k]? = some p → w.cell? ⟨g, k * 4, none⟩ = some (.int .i64 (p.1 : Int)) ∧ w.cell? ⟨g, k * 4 + 1, none⟩ = some (.int .i64 (p.2.1 : Int)) ∧ w.cell? ⟨g, k * 4 + 2, none⟩ = some (.int .i64 (p.2.2.1 : Int)) ∧ w.cell? ⟨g, k * 4 + 3, none⟩ = some (.int .i64 (p.2.2.2 : Int)) := by
  rcases h.2 with ⟨_, e⟩ | ⟨g, cap, cur, e, hg, hh, _, _, _, ht⟩
  · omega
  · refine ⟨g, cap, e, hg, (Array.getElem?_eq_some_iff.1 hh).1, fun k p hk => ?_⟩
    have key : ∀ i u, (flatS L)[i]? = some u → w.cell? ⟨g, i, none⟩ = some u := fun i u hi => by
      have h2 : cur[i]? = some u := by
        rw [← ht] at hi
        have hi2 := hi
        rw [List.getElem?_take] at hi2
        split at hi2
        · simpa using hi2
        · cases hi2
      simp [World.cell?, hh, h2]
    obtain ⟨h0, h1, h2, h3⟩ := flatS_get L k p hk
    exact ⟨key _ _ h0, key _ _ h1, key _ _ h2, key _ _ h3⟩
theorem run_appS (w : World) (ty : TypeId) {base : Nat} {v : Value} {L : List Sw4} (hown : OwnS w base v L) {b c : Nat} {p : Sw4} (h0 : w.cell? ⟨b, 0, none⟩ = some (.int .i64 (p.1 : Int))) (h1 : w.cell? ⟨b, 1, none⟩ = some (.int .i64 (p.2.1 : Int))) (h2 : w.cell? ⟨b, 2, none⟩ = some (.int .i64 (p.2.2.1 : Int))) (h3 : w.cell? ⟨b, 3, none⟩ = some (.int .i64 (p.2.2.2 : Int))) (hlen : L.length ≤ 1048576) (hbase : base ≤ w.heap.size) :
    ∃ v' w', (Builtin.append_ #[58, 58] ty #[v, .slice (some ⟨b, 0, none⟩) 1 c]).run Try.prog w = .ok v' w' ∧ OwnS w' base v' (L ++ [p]) ∧ w.grownBy w' v.ownBlock := by
  obtain ⟨i0, hi, hz0, hz1, hz2⟩ := info_parts sw_info
  obtain ⟨v', w', hrun, hh2, hh3, hh4, hh5⟩ := run_append_own_at (P := Try.prog) w base 58 ty 27 i0 (.agg #[.int .i64 0, .int .i64 0, .int .i64 0, .int .i64 0]) 4 32 Try.underlying58 hi hz0 hz1 hz2 rfl (by decide) v L.length (flatS L) hown ⟨b, 0, none⟩ 1 c (flatS [p]) (by simp [flatS])
    (fun j u hj => by
      rw [Go.WideShapes.add_plain]
      match j with
      | 0 => simp [flatS] at hj; subst hj; exact h0
      | 1 => simp [flatS] at hj; subst hj; exact h1
      | 2 => simp [flatS] at hj; subst hj; exact h2
      | 3 => simp [flatS] at hj; subst hj; exact h3
      | j + 4 => simp [flatS] at hj)
    (by
      intro u hu
      simp [flatS] at hu
      rcases hu with rfl | rfl | rfl | rfl <;> rfl) (by unfold maxLen; omega) (by omega) hbase
  refine ⟨v', w', hrun, ?_, hh3⟩
  unfold OwnS
  rw [List.length_append, flatS_append]
  exact hh2
theorem wpList_appS {ops : Array Oper} {rest : List Oper} {o : Oper} {a : Act} {w : World} {Q : Exit → Act → World → Prop} (hgd : o.guard = none) (s z : Operand) (ho : o.op = .call { callee := .builtin .append, args := #[s, z], argTypes := #[58, 58] })
    {base : Nat} {v : Value} {L : List Sw4} (hs : a.eval s = v) (hown : OwnS w base v L) {b c : Nat} {p : Sw4} (hz : a.eval z = .slice (some ⟨b, 0, none⟩) 1 c) (h0 : w.cell? ⟨b, 0, none⟩ = some (.int .i64 (p.1 : Int))) (h1 : w.cell? ⟨b, 1, none⟩ = some (.int .i64 (p.2.1 : Int))) (h2 : w.cell? ⟨b, 2, none⟩ = some (.int .i64 (p.2.2.1 : Int))) (h3 : w.cell? ⟨b, 3, none⟩ = some (.int .i64 (p.2.2.2 : Int))) (hlen : L.length ≤ 1048576) (hbase : base ≤ w.heap.size)
    (h : ∀ v' w', OwnS w' base v' (L ++ [p]) → w.grownBy w' v.ownBlock → wpList Try.prog ops Q rest (a.put o.dst v') w') : wpList Try.prog ops Q (o :: rest) a w :=
  wpList_plain hgd fun K hK => by
    obtain ⟨v', w', hrun, k2, k3⟩ := run_appS w o.type hown (c := c) h0 h1 h2 h3 hlen hbase
    unfold Oper.wp execOp
    simp only [ho, resolve, invoke, builtin, Sem.run_bind, Sem.run_pure, Result.andThen_ok, List.map_toArray, List.map_cons, List.map_nil, hs, hz, hrun]
    exact hK _ _ (h v' w' k2 k3)
def Sm (p : Sw4) : Prop := p.1 ≤ 6 ∧ p.2.1 ≤ 6 ∧ p.2.2.1 ≤ 6 ∧ p.2.2.2 ≤ 6
/-- A list of switches between two rounds. -/
def SL (Z : Nat) (W0 wr : World) (s : Value) (m : Nat) : Prop := ∃ L, OwnS wr Z s L ∧ (∀ p ∈ L, Sm p) ∧ L.length ≤ m ∧ Below Z W0 wr ∧ Z ≤ wr.heap.size
theorem SL.form {Z m : Nat} {W0 wr : World} {s : Value} (h : SL Z W0 wr s m) : ∃ A l c, s = .slice A l c := by
  obtain ⟨L, h, _⟩ := h
  obtain ⟨A, c, e⟩ := h.form
  exact ⟨A, _, c, e⟩
theorem SL.more {Z m m' : Nat} {W0 wr : World} {s : Value} (h : SL Z W0 wr s m) (hm : m ≤ m') : SL Z W0 wr s m' := by
  obtain ⟨L, h1, h2, h3, h4⟩ := h
  exact ⟨L, h1, h2, by omega, h4⟩
theorem SL.below {Z m : Nat} {W0 wr w' : World} {s : Value} (h : SL Z W0 wr s m) (hb : Below wr.heap.size wr w') : SL Z W0 w' s m := by
  obtain ⟨L, h1, h2, h3, h4, h5⟩ := h
  exact ⟨L, h1.below hb (Nat.le_refl _), h2, h3, h4.trans (hb.mono h5), Nat.le_trans h5 hb.size⟩
theorem SL.bel {Z m : Nat} {W0 wr : World} {s : Value} (h : SL Z W0 wr s m) : Below Z W0 wr := by
  obtain ⟨L, _, _, _, h, _⟩ := h
  exact h
theorem OwnS.more {w : World} {base base' : Nat} {v : Value} {L : List Sw4} (h : OwnS w base v L) (hb : base' ≤ base) : OwnS w base' v L :=
  ⟨h.1, h.2.imp id fun ⟨g, cap, cur, e, hg, r⟩ => ⟨g, cap, cur, e, Nat.le_trans hb hg, r⟩⟩
def ListOut (w : World) (e : Ending) (w' : World) : Prop := ∃ v L, e = .returned v ∧ OwnS w' w.heap.size v L ∧ (∀ p ∈ L, Sm p) ∧ L.length ≤ 1500 ∧ Below w.heap.size w w'
set_option maxRecDepth 100000 in
set_option maxHeartbeats 8000000 in
theorem SwitchList_c (W : Int) (v : Value) (rows : List Int) (w : World) (hv : Ints w.heap.size w v rows) :
    Calls Try.prog 39 #[.agg #[.int .i64 W, v]] w (ListOut w) := by
  obtain ⟨A, cap, rfl⟩ := hv.len
  have hI := Arg.new hv
  have hW := Below.refl w.heap.size w
  clear hv
  go_enter Try.func39, Try.ntmps39
  obtain ⟨W0, e_W0⟩ : ∃ W0, W0 = World.alloc w (.cells #[.int .i64 W, .slice A rows.length cap] 25) := ⟨_, rfl⟩
  have hx_W0 := Box2.new w (.int .i64 W) (.slice A rows.length cap) 25
  have hb_W0 : Below (World.heap w).size w W0 := by rw [e_W0]; go_grown
  have HS_W0 := Lib.hid (show (World.heap W0).size = (World.heap w).size + 1 by rw [e_W0]; simp)
  replace hI := hI.below hb_W0
  replace hW := hW.trans (Below.mono hb_W0 hW.size)
  have HE_W0 := Lib.hid e_W0
  clear e_W0
  go_wp2_with fail
  rw [← HE_W0.out] at hx_W0 ⊢
  clear HE_W0
  obtain ⟨hl_x, x0, x1⟩ := hx_W0
  obtain ⟨Bx, e_Bx⟩ : ∃ Bx, Bx = (World.heap w).size := ⟨_, rfl⟩
  rw [← e_Bx] at hl_x x0 x1 hb_W0 HS_W0  ⊢
  have hz_Bx := hb_W0.size
  clear e_Bx hb_W0
  have o1 := OwnS.empty (base := W0.heap.size) W0 (Nat.le_refl _)
  rw [show (some (Addr.mk W0.heap.size 0 none)) = some ⟨Bx + 1, 0, none⟩ by rw [HS_W0.out]] at o1
  have hb2 : Below W0.heap.size W0 (W0.alloc (.cells #[] 27)) := by go_grown
  have HX := Lib.hid (And.intro x0 (And.intro x1 (And.intro hI hW)))
  replace hI := hI.below hb2
  replace hW := hW.trans (Below.mono hb2 hW.size)
  replace x0 := cellB hb2 x0
  replace x1 := cellB hb2 x1
  obtain ⟨W2, eW2⟩ : ∃ W, W = W0.alloc (.cells #[] 27) := ⟨_, rfl⟩
  rw [← eW2] at x0 x1 hI hW o1 hb2 ⊢
  clear eW2
  have HV := sImageValid_c W (.slice A rows.length cap) rows W2 hI.ints
  refine HV.mono ?_
  rintro e wc ⟨rfl, hb⟩
  have hSL : SL W0.heap.size W0 wc (.slice (some ⟨Bx + 1, 0, none⟩) 0 0) 0 := ⟨[], o1.below hb (Nat.le_refl _), fun p hp => by simp at hp, Nat.le_refl _, hb2.trans (hb.mono hb2.size), Nat.le_trans hb2.size hb.size⟩
  clear HV o1 hb hb2 x0 x1 hI hW
  cases hva : validB W rows with
  | false =>
    have HO := Lib.hid hSL
    clear hSL hva
    go_wp2
    go_returns
    obtain ⟨L, h1, h2, h3, h4, h5⟩ := HO.out
    refine ⟨_, L, rfl, ?_, h2, by omega, HX.out.2.2.2.trans (h4.mono HX.out.2.2.2.size)⟩
    exact ⟨h1.1, h1.2.imp id fun ⟨g, cap, cur, e, hg, r⟩ => ⟨g, cap, cur, e, Nat.le_trans HX.out.2.2.2.size hg, r⟩⟩
  | true =>
    obtain ⟨n, ns, rfl, rfl, hV⟩ := validB_yes hva
    have h6 := hV.h6
    have w6 := hV.w6
    clear hva
    have HX := Lib.hid (show W0.cell? ⟨Bx, 0, none⟩ = some (.int .i64 (n : Int)) ∧ W0.cell? ⟨Bx, 1, none⟩ = some (.slice A ns.length cap) ∧ Arg w.heap.size W0 (.slice A ns.length cap) (casts ns) ∧ Below w.heap.size w W0 from by rw [← length_casts ns]; exact HX.out)
    have HS0 := Lib.hid hSL
    clear hSL
    go_wp2_with fail
    go_loopw [4, 3] (fun i s wr => ∃ k0 : Nat, k0 ≤ ns.length ∧ i = .int .i64 (k0 : Int) ∧ SL W0.heap.size W0 wr s (k0 * 216)) (fun i _ _ => ns.length - (intOf i).toNat)
    case atStart => exact ⟨0, by omega, by first | rfl | go_num, HS0.out.more (by omega)⟩
    case round =>
      clear HS0
      obtain ⟨k0, hk0, rfl, hSL⟩ := hrel
      have x0 := cellB hSL.bel HX.out.1
      have x1 := cellB hSL.bel HX.out.2.1
      by_cases hlk0 : k0 < ns.length
      · have hik0 : (k0 : Int) < (ns.length : Int) := by omega
        have HS1 := Lib.hid hSL
        clear hSL
        go_wp2_with fail
        go_loopw [5, 3] (fun i s wr => ∃ k1 : Nat, k1 ≤ ns.length ∧ i = .int .i64 (k1 : Int) ∧ SL W0.heap.size W0 wr s (k0 * 216 + k1 * 36)) (fun i _ _ => ns.length - (intOf i).toNat)
        case atStart => exact ⟨k0 + 1, by omega, by first | rfl | go_num, HS1.out.more (by omega)⟩
        case round =>
          clear HS1
          obtain ⟨k1, hk1, rfl, hSL⟩ := hrel
          have x0 := cellB hSL.bel HX.out.1
          have x1 := cellB hSL.bel HX.out.2.1
          by_cases hlk1 : k1 < ns.length
          · have hik1 : (k1 : Int) < (ns.length : Int) := by omega
            have HS2 := Lib.hid hSL
            clear hSL
            go_wp2_with fail
            go_loopw [6, 3] (fun i s wr => ∃ k2 : Nat, k2 ≤ n ∧ i = .int .i64 (k2 : Int) ∧ SL W0.heap.size W0 wr s (k0 * 216 + k1 * 36 + k2 * 6)) (fun i _ _ => n - (intOf i).toNat)
            case atStart => exact ⟨0, by omega, by first | rfl | go_num, HS2.out.more (by omega)⟩
            case round =>
              clear HS2
              obtain ⟨k2, hk2, rfl, hSL⟩ := hrel
              have x0 := cellB hSL.bel HX.out.1
              have x1 := cellB hSL.bel HX.out.2.1
              by_cases hlk2 : k2 < n
              · have hik2 : (k2 : Int) < (n : Int) := by omega
                have HS3 := Lib.hid hSL
                clear hSL
                go_wp2_with fail
                go_loopw [7, 3] (fun i s wr => ∃ k3 : Nat, k3 ≤ n ∧ i = .int .i64 (k3 : Int) ∧ SL W0.heap.size W0 wr s (k0 * 216 + k1 * 36 + k2 * 6 + k3)) (fun i _ _ => n - (intOf i).toNat)
                case atStart => exact ⟨k2 + 1, by omega, by first | rfl | go_num, HS3.out.more (by omega)⟩
                case round =>
                  clear HS3
                  obtain ⟨k3, hk3, rfl, hSL⟩ := hrel
                  have x0 := cellB hSL.bel HX.out.1
                  have x1 := cellB hSL.bel HX.out.2.1
                  by_cases hlk3 : k3 < n
                  · have hik3 : (k3 : Int) < (n : Int) := by omega
                    obtain ⟨W1, eW1⟩ : ∃ W1, W1 = wr.alloc (.cells #[.int .i64 (k0 : Int), .int .i64 (k1 : Int), .int .i64 (k2 : Int), .int .i64 (k3 : Int)] 27) := ⟨_, rfl⟩
                    have hb1 : Below wr.heap.size wr W1 := by rw [eW1]; go_grown
                    have t0 : W1.cell? ⟨wr.heap.size, 0, none⟩ = some (.int .i64 (k0 : Int)) := by rw [eW1]; go_cell
                    have t1 : W1.cell? ⟨wr.heap.size, 1, none⟩ = some (.int .i64 (k1 : Int)) := by rw [eW1]; go_cell
                    have t2 : W1.cell? ⟨wr.heap.size, 2, none⟩ = some (.int .i64 (k2 : Int)) := by rw [eW1]; go_cell
                    have t3 : W1.cell? ⟨wr.heap.size, 3, none⟩ = some (.int .i64 (k3 : Int)) := by rw [eW1]; go_cell
                    have hSL1 := hSL.below hb1
                    have y0 := cellB hb1 x0
                    have y1 := cellB hb1 x1
                    have hI1 := ((HX.out.2.2.1.below hSL.bel).below hb1).ints
                    have y1r := y1
                    have y0r := y0
                    rw [eW1] at y0r y1r
                    have HK := l11Ok_c n (.slice A ns.length cap) ns hV k0 k1 k2 k3 (by omega) (by omega) (by omega) (by omega) W1 hI1
                    unfold swV at HK
                    have HE := Lib.hid eW1
                    clear eW1 hSL hI1
                    go_wp2_with fail
                    rw [← HE.out]
                    clear HE y0r y1r
                    refine HK.mono ?_
                    rintro e wc ⟨rfl, hb2⟩
                    have hSL2 := hSL1.below hb2
                    have t0 := cellB hb2 t0
                    have t1 := cellB hb2 t1
                    have t2 := cellB hb2 t2
                    have t3 := cellB hb2 t3
                    clear HK hSL1 hb1 hb2 x0 x1 y0 y1
                    cases swB n ns k0 k1 k2 k3 with
                    | false =>
                      have HSx := Lib.hid hSL2
                      clear hSL2
                      go_wp2
                      exact ⟨⟨k3 + 1, by omega, by go_num, HSx.out.more (by omega)⟩, by simp [intOf]; omega⟩
                    | true =>
                      obtain ⟨L, h1, h2, h3, h4, h5⟩ := hSL2
                      obtain ⟨W5, eW5⟩ : ∃ W5, W5 = wc.alloc (.cells #[.int .i64 (k0 : Int), .int .i64 (k1 : Int), .int .i64 (k2 : Int), .int .i64 (k3 : Int)] 27) := ⟨_, rfl⟩
                      have hb5 : Below wc.heap.size wc W5 := by rw [eW5]; go_grown
                      have q0 : W5.cell? ⟨wc.heap.size, 0, none⟩ = some (.int .i64 (k0 : Int)) := by rw [eW5]; go_cell
                      have q1 : W5.cell? ⟨wc.heap.size, 1, none⟩ = some (.int .i64 (k1 : Int)) := by rw [eW5]; go_cell
                      have q2 : W5.cell? ⟨wc.heap.size, 2, none⟩ = some (.int .i64 (k2 : Int)) := by rw [eW5]; go_cell
                      have q3 : W5.cell? ⟨wc.heap.size, 3, none⟩ = some (.int .i64 (k3 : Int)) := by rw [eW5]; go_cell
                      have h15 := h1.below hb5 (Nat.le_refl _)
                      have h45 := h4.trans (hb5.mono h5)
                      have h55 := Nat.le_trans h5 hb5.size
                      have hsm : Sm (k0, k1, k2, k3) := ⟨by show k0 ≤ 6; omega, by show k1 ≤ 6; omega, by show k2 ≤ 6; omega, by show k3 ≤ 6; omega⟩
                      have hlen : L.length ≤ 1048576 := by omega
                      have HH := Lib.hid (And.intro h15 (And.intro h45 (And.intro h55 (And.intro hsm (And.intro hlen (And.intro h2 h3))))))
                      have HQ := Lib.hid (show W5.cell? ⟨wc.heap.size, 0, none⟩ = some (.int .i64 (((k0, k1, k2, k3) : Sw4).1 : Int)) ∧ W5.cell? ⟨wc.heap.size, 1, none⟩ = some (.int .i64 (((k0, k1, k2, k3) : Sw4).2.1 : Int)) ∧ W5.cell? ⟨wc.heap.size, 2, none⟩ = some (.int .i64 (((k0, k1, k2, k3) : Sw4).2.2.1 : Int)) ∧ W5.cell? ⟨wc.heap.size, 3, none⟩ = some (.int .i64 (((k0, k1, k2, k3) : Sw4).2.2.2 : Int)) from ⟨q0, q1, q2, q3⟩)
                      rw [eW5] at HH HQ
                      clear h1 h2 h3 h4 h5 h15 h45 h55 hsm hlen hb5 q0 q1 q2 q3 eW5
                      go_wp2_with (at_builtin; go_loud (refine wpList_appS (p := (k0, k1, k2, k3)) rfl (.tmp 52) (.tmp 54) rfl rfl HH.out.1 rfl HQ.out.1 HQ.out.2.1 HQ.out.2.2.1 HQ.out.2.2.2 HH.out.2.2.2.2.1 HH.out.2.2.1 ?_); intro v6 w6 hown6 hgr6)
                      obtain ⟨h15, h45, h55, hsm, hlen, h2, h3⟩ := HH.out
                      have hSL6 : SL W0.heap.size W0 w6 v6 (k0 * 216 + k1 * 36 + k2 * 6 + (k3 + 1)) := ⟨L ++ [(k0, k1, k2, k3)], hown6, fun p hp => by
                        rcases List.mem_append.1 hp with hp | hp
                        · exact h2 p hp
                        · rw [List.mem_singleton.1 hp]; exact hsm, by simp; omega, h45.grown hgr6 h55 (fun k e => (h15.own_lt k e).1), Nat.le_trans h55 hgr6.size⟩
                      exact ⟨⟨k3 + 1, by omega, by go_num, hSL6⟩, by simp [intOf]; omega⟩
                  · have hik3 : ¬ ((k3 : Int) < (n : Int)) := by omega
                    have HSx := Lib.hid hSL
                    clear hSL
                    go_wp2
                    exact ⟨⟨k2 + 1, by omega, by go_num, HSx.out.more (by omega)⟩, by simp [intOf]; omega⟩
              · have hik2 : ¬ ((k2 : Int) < (n : Int)) := by omega
                have HSx := Lib.hid hSL
                clear hSL
                go_wp2
                exact ⟨⟨k1 + 1, by omega, by go_num, HSx.out.more (by omega)⟩, by simp [intOf]; omega⟩
          · have hik1 : ¬ ((k1 : Int) < (ns.length : Int)) := by omega
            have HSx := Lib.hid hSL
            clear hSL
            go_wp2
            exact ⟨⟨k0 + 1, by omega, by go_num, HSx.out.more (by omega)⟩, by simp [intOf]; omega⟩
      · have hik0 : ¬ ((k0 : Int) < (ns.length : Int)) := by omega
        have HSx := Lib.hid hSL
        clear hSL
        go_wp2
        go_returns
        obtain ⟨L, h1, h2, h3, h4, h5⟩ := HSx.out
        exact ⟨_, L, rfl, h1.more HX.out.2.2.2.size, h2, by omega, HX.out.2.2.2.trans (h4.mono HX.out.2.2.2.size)⟩
end Go.Proofs.Ytfkmkakdkocamaa
