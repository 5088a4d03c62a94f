/- Contracts of countImages and firstImage where the function of the kind keeps a pointer. Conditions: the sums are those of an image's size; what the function of the kind answers. -/
import Derived.Test.YtbpjceffkchmbaaDoorMIO
import Derived.Test.YtbpjceffkchmbaaDoorK5
import Derived.Test.YtbpjceffkchmbaaDoorKT
import Derived.Test.YtbpjceffkchmbaaDoorKX
import Derived.Test.YtbpjceffkchmbaaDoorFC
namespace Go.Proofs.YtbpjceffkchmbaaDoor
open Go Go.RowKit Go.Shelf
attribute [local go_sem] Oper.semAt_some
theorem cellX {B a : Nat} {W W' : World} (h : ∀ k, k < W.heap.size → (k < B ∨ a ≤ k) → W'.heap[k]? = W.heap[k]?) {b o : Nat} {v : Value} (hc : W.cell? ⟨b, o, none⟩ = some v) (hb : b < B ∨ a ≤ b) : W'.cell? ⟨b, o, none⟩ = some v := by
  rw [← hc]
  unfold World.cell?
  rw [h b (lt_of_cell hc) hb]
theorem belowX {B a : Nat} {w W W' : World} (hB : w.heap.size ≤ B) (h : Below w.heap.size w W) (h1 : W'.os = W.os) (h2 : W'.tape = W.tape) (h3 : W'.output = W.output) (h4 : W.heap.size ≤ W'.heap.size) (h5 : ∀ k, k < W.heap.size → (k < B ∨ a ≤ k) → W'.heap[k]? = W.heap[k]?) : Below w.heap.size w W' :=
  ⟨h1.trans h.os, h2.trans h.tape, h3.trans h.output, Nat.le_trans h.size h4, fun k hk => (h5 k (Nat.lt_of_lt_of_le hk h.size) (.inl (by omega))).trans (h.block k hk)⟩
theorem find_here {p : List Nat → Bool} {L pre rest : List (List Nat)} {ns : List Nat} (hL : L = pre ++ ns :: rest) (h0 : ∀ x ∈ pre, p x = false) (h1 : p ns = true) : L.find? p = some ns := by
  rw [hL, List.find?_append, List.find?_eq_none.2 fun x hx => by rw [h0 x hx]; decide]
  simp [h1]
theorem find_none {p : List Nat → Bool} {L : List (List Nat)} (h0 : ∀ x ∈ L, p x = false) : L.find? p = none := List.find?_eq_none.2 fun x hx => by rw [h0 x hx]; decide
theorem res_img_cc {fn : Func} {t u : Tmp} (h : fn.results = #[.cell t 25, .cell u 4]) (tmps : Array Value) (w : World) {b d : Nat} {x y z : Value} (ht : tmps.getD t undef = .pointer (some ⟨b, 0, none⟩)) (hu : tmps.getD u undef = .pointer (some ⟨d, 0, none⟩)) (h0 : w.cell? ⟨b, 0, none⟩ = some x) (h1 : w.cell? ⟨b, 1, none⟩ = some y) (hz : w.cell? ⟨d, 0, none⟩ = some z) :
    (results fn tmps).run Tryd.prog w = .ok (.tuple #[.agg #[x, y], z]) w := by
  have ht' : tmps[t]?.getD undef = .pointer (some ⟨b, 0, none⟩) := by rw [← ht, Array.getD_eq_getD_getElem?]
  have hu' : tmps[u]?.getD undef = .pointer (some ⟨d, 0, none⟩) := by rw [← hu, Array.getD_eq_getD_getElem?]
  simp only [results, h]
  simp [go_sem, ht', hu', h0, h1, hz]
/-- An image of the call's own, and true. -/
def ImgOut (w : World) (wd : Nat) (ns : List Nat) (e : Ending) (w' : World) : Prop :=
  ∃ g c, e = .returned (.tuple #[.agg #[.int .i64 (wd : Int), .slice (some ⟨g, 0, none⟩) ns.length c], .bool true]) ∧ w.heap.size ≤ g ∧ Row w' g (casts ns) ∧ Below w.heap.size w w'
/-- No image. -/
def NoImg (w : World) (e : Ending) (w' : World) : Prop := e = .returned (.tuple #[.agg #[.int .i64 0, .slice none 0 0], .bool false]) ∧ Below w.heap.size w w'
theorem cell_putObj {W : World} {b o l : Nat} {v : Value} (h : W.cell? ⟨b, o, none⟩ = some v) (hne : b ≠ l) (ob : Obj) : (W.putObj l ob).cell? ⟨b, o, none⟩ = some v := by
  rw [← h]
  unfold World.cell?
  rw [World.putObj_heap_other hne]
/-- The first image, and true; or none. -/
def FirstOut (w : World) (wd : Nat) (o : Option (List Nat)) (e : Ending) (w' : World) : Prop :=
  (∃ ns, o = some ns ∧ ImgOut w wd ns e w') ∨ (o = none ∧ NoImg w e w')
section
variable {rs cs : List Int}
theorem ct_sums (h : ctB rs cs = true) : Sums rs cs ∧ rs.length * cs.length ≤ 16 := by
  unfold ctB at h
  rw [Bool.and_eq_true, decide_eq_true_eq] at h
  exact ⟨svB_yes h.1, h.2⟩
theorem ct_of (h : Sums rs cs) (hm : rs.length * cs.length ≤ 16) : ctB rs cs = true := by
  unfold ctB
  rw [svB_of h, decide_eq_true hm]
  rfl
end
theorem sums_img {n : Nat} {ns : List Nat} (hV : VImg n ns) : Sums (rowSums n ns) (colSums n ns) := by
  have b := fun (m : Nat) (p : Nat → Bool) => sumN_bd (n := m) (f := fun k => b2i (p k)) (c := 1) fun k _ => b2i_bd _
  refine ⟨by rw [rowSums_len]; exact hV.h1, by rw [rowSums_len]; exact hV.h6, by rw [colSums_len]; exact hV.w1, by rw [colSums_len]; exact hV.w6, fun j hj => ?_, fun j hj => ?_⟩
  · rw [rowSums_len] at hj
    rw [rowSums_getD hj, colSums_len]
    have := b n (cell ns j)
    omega
  · rw [colSums_len] at hj
    rw [colSums_getD hj, rowSums_len]
    have := b ns.length fun i => cell ns i j
    omega
theorem ct_big {n : Nat} {ns : List Nat} (hm : ¬ ns.length * n ≤ 16) : ctB (rowSums n ns) (colSums n ns) = false := by
  rw [← Bool.not_eq_true]
  intro h
  have := (ct_sums h).2
  rw [rowSums_len, colSums_len] at this
  exact hm this
set_option maxHeartbeats 4000000 in
set_option maxRecDepth 100000 in
theorem countImages_p (Bd : Nat) (pf : List Nat → Bool) (F : FuncId) (wd h : Nat) (rs cs : List Int) (hrl : rs.length = h) (hcl : cs.length = wd) (h1 : 1 ≤ h) (h6 : h ≤ 6) (w1 : 1 ≤ wd) (w6 : wd ≤ 6) (hrb : ∀ i, i < h → 0 ≤ rs.getD i 0 ∧ rs.getD i 0 ≤ 6) (hin : InR h cs)
    (vr vc : Value) (w : World) (hr : Ints w.heap.size w vr rs) (hc : Ints w.heap.size w vc cs)
    (hE : ∀ (args : Array Value) (W : World), (callFunc F args).run Tryd.prog W = .ok (.enter F args) W)
    (hF : ∀ (ns : List Nat) (g c : Nat) (W : World), VImg wd ns → ns.length = h → Below w.heap.size w W → Row W g (casts ns) → Calls Tryd.prog F #[imgV wd h g c, .pointer (some ⟨Bd, 0, none⟩)] W fun e w' => e = .returned (.bool (pf ns)) ∧ Below W.heap.size W w') :
    Calls Tryd.prog 72 #[vr, vc, .func (.func F) #[] #[.pointer (some ⟨Bd, 0, none⟩)]] w fun e w' => e = .returned (.int .i64 (cntI wd rs cs pf)) ∧ Below w.heap.size w w' := by
  obtain ⟨AR, cR, rfl⟩ := hr.len
  obtain ⟨AC, cC, rfl⟩ := hc.len
  rw [hrl] at hr ⊢
  rw [hcl] at hc ⊢
  have HF := Lib.hid hF
  have HB := Lib.hid (And.intro hrb hin)
  clear hF hrb hin
  refine (callsIn_wide (n := 3)).1 ?_
  refine callsIn_of_wp_marks Tryd.func72 rfl trivial ?_ rfl
  simp only [Tryd.ntmps72, List.size_toArray, List.length_cons, List.length_nil, Nat.reduceAdd, Nat.reduceSub, Array.replicate_succ, Array.replicate_zero, List.push_toArray, List.append_toArray, List.nil_append, List.cons_append]
  gi_wp2_with (refine ⟨trivial, ?_⟩; gi_at_call 74; refine (callsIn_wide.2 (imagesOf_c _ _ _ _ _ _ _)).mono ?_; rintro e w' ⟨rfl, rfl⟩)
  obtain ⟨W0, eW⟩ : ∃ V, V = ((((w.alloc (.cells #[.func (.func F) #[] #[.pointer (some ⟨Bd, 0, none⟩)]] 38)).alloc (.cells #[.int .i64 0] 3)).alloc (.cells #[.slice AR h cR] 23)).alloc (.cells #[.slice AC wd cC] 23)) := ⟨_, rfl⟩
  have hB0 : Below w.heap.size w W0 := by rw [eW]; go_grown
  have f0 : W0.cell? ⟨w.heap.size, 0, none⟩ = some (.func (.func F) #[] #[.pointer (some ⟨Bd, 0, none⟩)]) := by rw [eW]; go_cell
  have f1 : W0.cell? ⟨w.heap.size + 1, 0, none⟩ = some (.int .i64 0) := by rw [eW]; go_cell
  have ff : W0.frozen? ⟨w.heap.size + 1, 0, none⟩ = false := by rw [eW]; go_cell
  have f2 : W0.cell? ⟨w.heap.size + 1 + 1, 0, none⟩ = some (.slice AR h cR) := by rw [eW]; go_cell
  have f3 : W0.cell? ⟨w.heap.size + 1 + 1 + 1, 0, none⟩ = some (.slice AC wd cC) := by rw [eW]; go_cell
  have hz0 : W0.heap.size = w.heap.size + 4 := by rw [eW]; simp
  rw [← eW]
  clear eW
  have hr0 : Ints w.heap.size W0 (.slice AR h cR) rs := hr.keep fun q hq => hB0.cell hq
  have hc0 : Ints w.heap.size W0 (.slice AC wd cC) cs := hc.keep fun q hq => hB0.cell hq
  have hit := iter_images 2 wd h rs cs hrl hcl h1 h6 w1 w6 HB.out.1 HB.out.2 AR AC cR cC (w.heap.size + 1 + 1) (w.heap.size + 1 + 1 + 1) w.heap.size [w.heap.size + 1] W0 f2 f3 hr0 hc0 (by omega) (fun d hd => by
    obtain rfl := List.mem_singleton.1 hd
    exact ⟨by omega, by omega, by omega⟩)
  have himg : ∀ ns, ns ∈ genI wd rs cs → VImg wd ns ∧ ns.length = h := fun ns hm => by
    have := gen_img (rs := rs) (cs := cs) (by omega) (by omega) (by omega) (by omega) (by rw [hcl]; exact hm)
    rw [hcl] at this
    exact ⟨this.1, this.2.2.2.trans hrl⟩
  have hlen := gen_len6 (w := wd) (rs := rs) (left := cs) w6 (by omega)
  obtain ⟨L, eL⟩ : ∃ L, L = genI wd rs cs := ⟨_, rfl⟩
  have HCN := Lib.hid (show cntI wd rs cs pf = (L.filter pf).length by rw [eL]; rfl)
  rw [← eL] at hit himg hlen
  have HIM := Lib.hid (And.intro himg hlen)
  clear eL himg hlen hr0 hc0 f2 f3 hr hc HB
  refine wpIn_rangeImg (gf := 82) (lb := #[.pointer (some ⟨w.heap.size + 1 + 1, 0, none⟩), .pointer (some ⟨w.heap.size + 1 + 1 + 1, 0, none⟩)]) (wd := wd) (h := h) (D := [w.heap.size + 1]) (L := L) (w0 := W0) rfl (enters_of Tryd.func82 (by kernel_rfl) rfl) hit (Below.refl _ _) (fun d hd => by obtain rfl := List.mem_singleton.1 hd; omega)
    (fun xs W => W.cell? ⟨w.heap.size, 0, none⟩ = some (.func (.func F) #[] #[.pointer (some ⟨Bd, 0, none⟩)]) ∧ W.cell? ⟨w.heap.size + 1, 0, none⟩ = some (.int .i64 ((xs.filter pf).length : Nat)) ∧ W.frozen? ⟨w.heap.size + 1, 0, none⟩ = false ∧ Below w.heap.size w W)
    (fun _ _ _ _ => False)
    (fun s A B hs e1 e2 e3 e4 e5 => ⟨(cellK e5 (by omega)).trans hs.1, (cellK e5 (by omega)).trans hs.2.1, (frozenK e5 (by omega)).trans hs.2.2.1, belowKK (by omega) hs.2.2.2 e1 e2 e3 e4 e5⟩)
    (fun _ _ _ _ _ hs _ _ _ _ _ => hs)
    ⟨f0, f1, ff, hB0⟩
    (fun g c W => W.alloc (.cells #[.int .i64 (wd : Int), .slice (some ⟨g, 0, none⟩) h c] 25))
    (fun g c W => { tmps := #[.slice AR h cR, .slice AC wd cC, .func (.func F) #[] #[.pointer (some ⟨Bd, 0, none⟩)], undef, undef, .pointer (some ⟨w.heap.size, 0, none⟩), .int .i64 0, .pointer (some ⟨w.heap.size + 1, 0, none⟩), .pointer (some ⟨W.heap.size, 0, none⟩), .slice AR h cR, .slice AC wd cC, .func (.func 82) #[] #[.pointer (some ⟨w.heap.size + 1 + 1, 0, none⟩), .pointer (some ⟨w.heap.size + 1 + 1 + 1, 0, none⟩)], .agg #[.int .i64 (wd : Int), .slice (some ⟨g, 0, none⟩) h c], undef, undef, undef, undef, undef, undef], defers := [] })
    (fun g c W => (Below.refl _ W).alloc (Nat.le_refl _) _) ?assign ?body ?done ?stop
  case assign =>
    intro m l g c W K hK
    unfold imgV
    gi_wp2
    exact hK
  case body =>
    rintro m l pre ns g c W W2 ⟨i0, i1, iF, hBW⟩ ⟨rest, hpre⟩ hg hW hrow hs2 hoth
    have hmem : ns ∈ L := by rw [hpre]; simp
    obtain ⟨hV, hnl⟩ := HIM.out.1 ns hmem
    have hHF := HF.out ns g c W2 hV hnl hBW hrow
    unfold imgV at hHF
    have hnew : ∀ o, W2.cell? ⟨W.heap.size, o, none⟩ = (W.alloc (.cells #[.int .i64 (wd : Int), .slice (some ⟨g, 0, none⟩) h c] 25)).cell? ⟨W.heap.size, o, none⟩ := fun o => by
      unfold World.cell?
      rw [hoth W.heap.size (by omega)]
    have q0 : W2.cell? ⟨W.heap.size, 0, none⟩ = some (.int .i64 (wd : Int)) := by rw [hnew]; go_cell
    have q1 : W2.cell? ⟨W.heap.size, 1, none⟩ = some (.slice (some ⟨g, 0, none⟩) h c) := by rw [hnew]; go_cell
    have hcl2 : (pre.filter pf).length ≤ 68719476736 := by
      have h1 := HIM.out.2
      have h2 : (pre.filter pf).length ≤ pre.length := List.length_filter_le _ _
      have h3 : pre.length ≤ L.length := by rw [hpre]; simp
      omega
    obtain ⟨N, eN⟩ : ∃ N, N = (pre.filter pf).length := ⟨_, rfl⟩
    have hsn : ((pre ++ [ns]).filter pf).length = N + if pf ns = true then 1 else 0 := by
      rw [List.filter_append, List.length_append, ← eN]
      by_cases hp : pf ns = true
      · simp [hp]
      · simp [hp]
    rw [← eN] at i1 hcl2
    have HSN := Lib.hid hsn
    clear hnew hoth hmem hpre eN hsn
    gi_wp2_with fail
    refine ⟨trivial, ?_⟩
    refine ⟨fun hh => by simp [Fence.wide] at hh, ?_⟩
    refine (CallsIn.inRound l (callsIn_wide.2 hHF)).mono ?_
    rintro e W3 ⟨rfl, hb3⟩
    have j0 := cellB hb3 i0
    have j1 := cellB hb3 i1
    have jF := frozenB hb3 i1 iF
    have hBW3 := hBW.trans (hb3.mono hBW.size)
    have HK := Lib.hid (KeepBut.below (D := [w.heap.size + 1]) hb3)
    have HB3 := Lib.hid hBW3
    clear hHF hb3 hBW hBW3 i0 i1 iF
    cases hp : pf ns with
    | true =>
      rw [hp] at HSN
      have ew : IntKind.i64.wrap ((N : Int) + 1) = (N : Int) + 1 := IntWalk.i64_in _ ⟨by omega, by omega⟩
      clear hp
      gi_wp2
      refine ⟨HK.out.trans (KeepBut.setCell W3 (p := ⟨w.heap.size + 1, 0, none⟩) (List.mem_cons_self ..) _), ?_, ?_, ?_, HB3.out.setCell (by simp) _⟩
      · exact (World.cell?_setCell_other _ _ _ _ (by simp)).trans j0
      · rw [HSN.out]
        simp only [if_true]
        exact World.cell?_setCell_same' W3 ⟨w.heap.size + 1, 0, none⟩ _ (by rw [j1]; rfl)
      · rw [World.frozen?_setCell]
        exact jF
    | false =>
      rw [hp] at HSN
      clear hp
      gi_wp2
      refine ⟨HK.out, j0, ?_, jF, HB3.out⟩
      rw [HSN.out, if_neg (by simp), Nat.add_zero]
      exact j1
  case done =>
    rintro D W hD ⟨i0, i1, iF, hBW⟩ hK
    gi_wp2
    refine ⟨by simp, .inl ⟨_, _, rfl, run_takeDeferred hK, ?_⟩⟩
    exact ⟨_, results_tmp rfl _ _ _, by rw [HCN.out]; rfl, hBW.trans (belowK_b (w := w) (Nat.le_refl _) W D _ _ (by omega) hK rfl rfl)⟩
  case stop =>
    rintro D c pre aa W _ _ h _
    exact h.elim
set_option maxHeartbeats 4000000 in
set_option maxRecDepth 100000 in
theorem firstImage_p (Bd : Nat) (pf : List Nat → Bool) (F : FuncId) (wd h : Nat) (rs cs : List Int) (hrl : rs.length = h) (hcl : cs.length = wd) (h1 : 1 ≤ h) (h6 : h ≤ 6) (w1 : 1 ≤ wd) (w6 : wd ≤ 6) (hrb : ∀ i, i < h → 0 ≤ rs.getD i 0 ∧ rs.getD i 0 ≤ 6) (hin : InR h cs)
    (vr vc : Value) (w : World) (hr : Ints w.heap.size w vr rs) (hc : Ints w.heap.size w vc cs)
    (hE : ∀ (args : Array Value) (W : World), (callFunc F args).run Tryd.prog W = .ok (.enter F args) W)
    (hF : ∀ (ns : List Nat) (g c : Nat) (W : World), VImg wd ns → ns.length = h → Below w.heap.size w W → Row W g (casts ns) → Calls Tryd.prog F #[imgV wd h g c, .pointer (some ⟨Bd, 0, none⟩)] W fun e w' => e = .returned (.bool (pf ns)) ∧ Below W.heap.size W w') :
    Calls Tryd.prog 48 #[vr, vc, .func (.func F) #[] #[.pointer (some ⟨Bd, 0, none⟩)]] w (FirstOut w wd ((genI wd rs cs).find? pf)) := by
  obtain ⟨AR, cR, rfl⟩ := hr.len
  obtain ⟨AC, cC, rfl⟩ := hc.len
  rw [hrl] at hr ⊢
  rw [hcl] at hc ⊢
  have HF := Lib.hid hF
  have HB := Lib.hid (And.intro hrb hin)
  have himg : ∀ ns, ns ∈ genI wd rs cs → VImg wd ns ∧ ns.length = h := fun ns hm => by
    have := gen_img (rs := rs) (cs := cs) (by omega) (by omega) (by omega) (by omega) (by rw [hcl]; exact hm)
    rw [hcl] at this
    exact ⟨this.1, this.2.2.2.trans hrl⟩
  clear hF hrb hin
  refine (callsIn_wide (n := 3)).1 ?_
  refine callsIn_of_wp_marks Tryd.func48 rfl trivial ?_ rfl
  simp only [Tryd.ntmps48, List.size_toArray, List.length_cons, List.length_nil, Nat.reduceAdd, Nat.reduceSub, Array.replicate_succ, Array.replicate_zero, List.push_toArray, List.append_toArray, List.nil_append, List.cons_append]
  gi_wp2_with (refine ⟨trivial, ?_⟩; gi_at_call 74; refine (callsIn_wide.2 (imagesOf_c _ _ _ _ _ _ _)).mono ?_; rintro e w' ⟨rfl, rfl⟩)
  obtain ⟨W0, eW⟩ : ∃ V, V = (((((w.alloc (.cells #[.func (.func F) #[] #[.pointer (some ⟨Bd, 0, none⟩)]] 38)).alloc (.cells #[.int .i64 0, .slice none 0 0] 25)).alloc (.cells #[.bool false] 4)).alloc (.cells #[.slice AR h cR] 23)).alloc (.cells #[.slice AC wd cC] 23)) := ⟨_, rfl⟩
  have hB0 : Below w.heap.size w W0 := by rw [eW]; go_grown
  have f0 : W0.cell? ⟨w.heap.size, 0, none⟩ = some (.func (.func F) #[] #[.pointer (some ⟨Bd, 0, none⟩)]) := by rw [eW]; go_cell
  have r0 : W0.cell? ⟨w.heap.size + 1, 0, none⟩ = some (.int .i64 0) := by rw [eW]; go_cell
  have r1 : W0.cell? ⟨w.heap.size + 1, 1, none⟩ = some (.slice none 0 0) := by rw [eW]; go_cell
  have rf0 : W0.frozen? ⟨w.heap.size + 1, 0, none⟩ = false := by rw [eW]; go_cell
  have rf1 : W0.frozen? ⟨w.heap.size + 1, 1, none⟩ = false := by rw [eW]; go_cell
  have b0 : W0.cell? ⟨w.heap.size + 1 + 1, 0, none⟩ = some (.bool false) := by rw [eW]; go_cell
  have bf0 : W0.frozen? ⟨w.heap.size + 1 + 1, 0, none⟩ = false := by rw [eW]; go_cell
  have f2 : W0.cell? ⟨w.heap.size + 1 + 1 + 1, 0, none⟩ = some (.slice AR h cR) := by rw [eW]; go_cell
  have f3 : W0.cell? ⟨w.heap.size + 1 + 1 + 1 + 1, 0, none⟩ = some (.slice AC wd cC) := by rw [eW]; go_cell
  have hz0 : W0.heap.size = w.heap.size + 5 := by rw [eW]; simp
  rw [← eW]
  clear eW
  have hr0 : Ints w.heap.size W0 (.slice AR h cR) rs := hr.keep fun q hq => hB0.cell hq
  have hc0 : Ints w.heap.size W0 (.slice AC wd cC) cs := hc.keep fun q hq => hB0.cell hq
  have hDD : ∀ d, d ∈ [w.heap.size + 1, w.heap.size + 1 + 1] → d = w.heap.size + 1 ∨ d = w.heap.size + 1 + 1 := fun d hd => by simpa using hd
  have hit := iter_images 2 wd h rs cs hrl hcl h1 h6 w1 w6 HB.out.1 HB.out.2 AR AC cR cC (w.heap.size + 1 + 1 + 1) (w.heap.size + 1 + 1 + 1 + 1) w.heap.size [w.heap.size + 1, w.heap.size + 1 + 1] W0 f2 f3 hr0 hc0 (by omega) (fun d hd => by
    have := hDD d hd
    exact ⟨by omega, by omega, by omega⟩)
  obtain ⟨L, eL⟩ : ∃ L, L = genI wd rs cs := ⟨_, rfl⟩
  have HCN := Lib.hid (show (genI wd rs cs).find? pf = L.find? pf by rw [eL])
  rw [← eL] at hit himg
  have HIM := Lib.hid himg
  clear eL himg hr0 hc0 f2 f3 hr hc HB
  refine wpIn_rangeImg (gf := 82) (lb := #[.pointer (some ⟨w.heap.size + 1 + 1 + 1, 0, none⟩), .pointer (some ⟨w.heap.size + 1 + 1 + 1 + 1, 0, none⟩)]) (wd := wd) (h := h) (D := [w.heap.size + 1, w.heap.size + 1 + 1]) (L := L) (w0 := W0) rfl (enters_of Tryd.func82 (by kernel_rfl) rfl) hit (Below.refl _ _) (fun d hd => by have := hDD d hd; omega)
    (fun xs W => W.cell? ⟨w.heap.size, 0, none⟩ = some (.func (.func F) #[] #[.pointer (some ⟨Bd, 0, none⟩)]) ∧ W.cell? ⟨w.heap.size + 1, 0, none⟩ = some (.int .i64 0) ∧ W.cell? ⟨w.heap.size + 1, 1, none⟩ = some (.slice none 0 0) ∧ W.frozen? ⟨w.heap.size + 1, 0, none⟩ = false ∧ W.frozen? ⟨w.heap.size + 1, 1, none⟩ = false ∧ W.cell? ⟨w.heap.size + 1 + 1, 0, none⟩ = some (.bool false) ∧ W.frozen? ⟨w.heap.size + 1 + 1, 0, none⟩ = false ∧ (∀ x ∈ xs, pf x = false) ∧ Below w.heap.size w W)
    (fun c xs a W => c = .ret ∧ ∃ ns g cc, L.find? pf = some ns ∧ a ≤ g ∧ w.heap.size ≤ g ∧ ns.length = h ∧ W.cell? ⟨w.heap.size + 1, 0, none⟩ = some (.int .i64 (wd : Int)) ∧ W.cell? ⟨w.heap.size + 1, 1, none⟩ = some (.slice (some ⟨g, 0, none⟩) h cc) ∧ W.cell? ⟨w.heap.size + 1 + 1, 0, none⟩ = some (.bool true) ∧ Row W g (casts ns) ∧ Below w.heap.size w W)
    (fun s A B hs e1 e2 e3 e4 e5 => by
      obtain ⟨i0, i1, i2, i3, i4, i5, i6, i7, i8⟩ := hs
      exact ⟨(cellK e5 (by omega)).trans i0, (cellK e5 (by omega)).trans i1, (cellK e5 (by omega)).trans i2, (frozenK e5 (by omega)).trans i3, (frozenK e5 (by omega)).trans i4, (cellK e5 (by omega)).trans i5, (frozenK e5 (by omega)).trans i6, i7, belowKK (by omega) i8 e1 e2 e3 e4 e5⟩)
    (fun c s a A B hs e1 e2 e3 e4 e5 => by
      obtain ⟨hc, ns, g, cc, i0, i1, i1', i2, i3, i4, i5, i6, i7⟩ := hs
      exact ⟨hc, ns, g, cc, i0, i1, i1', i2, cellX e5 i3 (by omega), cellX e5 i4 (by omega), cellX e5 i5 (by omega), i6.of_block (e5 g i6.lt (.inr i1)), belowX (by omega) i7 e1 e2 e3 e4 e5⟩)
    ⟨f0, r0, r1, rf0, rf1, b0, bf0, (fun x hx => by cases hx), hB0⟩
    (fun g c W => W.alloc (.cells #[.int .i64 (wd : Int), .slice (some ⟨g, 0, none⟩) h c] 25))
    (fun g c W => { tmps := #[.slice AR h cR, .slice AC wd cC, .func (.func F) #[] #[.pointer (some ⟨Bd, 0, none⟩)], undef, undef, .pointer (some ⟨w.heap.size, 0, none⟩), .pointer (some ⟨w.heap.size + 1, 0, none⟩), .pointer (some ⟨w.heap.size + 1 + 1, 0, none⟩), .pointer (some ⟨W.heap.size, 0, none⟩), .slice AR h cR, .slice AC wd cC, .func (.func 82) #[] #[.pointer (some ⟨w.heap.size + 1 + 1 + 1, 0, none⟩), .pointer (some ⟨w.heap.size + 1 + 1 + 1 + 1, 0, none⟩)], .agg #[.int .i64 (wd : Int), .slice (some ⟨g, 0, none⟩) h c], undef, undef, undef, undef, undef, undef], defers := [] })
    (fun g c W => (Below.refl _ W).alloc (Nat.le_refl _) _) ?assign ?body ?done ?stop
  case assign =>
    intro m l g c W K hK
    unfold imgV
    gi_wp2
    exact hK
  case body =>
    rintro m l pre ns g c W W2 ⟨i0, i1, i2, i3, i4, i5, i6, i7, hBW⟩ ⟨rest, hpre⟩ hg hW hrow hs2 hoth
    have hmem : ns ∈ L := by rw [hpre]; simp
    obtain ⟨hV, hnl⟩ := HIM.out ns hmem
    have hHF := HF.out ns g c W2 hV hnl hBW hrow
    unfold imgV at hHF
    have hnew : ∀ o, W2.cell? ⟨W.heap.size, o, none⟩ = (W.alloc (.cells #[.int .i64 (wd : Int), .slice (some ⟨g, 0, none⟩) h c] 25)).cell? ⟨W.heap.size, o, none⟩ := fun o => by
      unfold World.cell?
      rw [hoth W.heap.size (by omega)]
    have q0 : W2.cell? ⟨W.heap.size, 0, none⟩ = some (.int .i64 (wd : Int)) := by rw [hnew]; go_cell
    have q1 : W2.cell? ⟨W.heap.size, 1, none⟩ = some (.slice (some ⟨g, 0, none⟩) h c) := by rw [hnew]; go_cell
    have HP := Lib.hid (And.intro hpre (And.intro i7 (And.intro hV hnl)))
    clear hnew hoth hmem hpre i7 hV
    gi_wp2_with fail
    refine ⟨trivial, ?_⟩
    refine ⟨fun hh => by simp [Fence.wide] at hh, ?_⟩
    refine (CallsIn.inRound l (callsIn_wide.2 hHF)).mono ?_
    rintro e W3 ⟨rfl, hb3⟩
    have j0 := cellB hb3 i0
    have j1 := cellB hb3 i1
    have j2 := cellB hb3 i2
    have j3 := frozenB hb3 i1 i3
    have j4 := frozenB hb3 i2 i4
    have j5 := cellB hb3 i5
    have j6 := frozenB hb3 i5 i6
    have p0 := cellB hb3 q0
    have p1 := cellB hb3 q1
    have hr3 := hrow.below hb3 hrow.lt
    have hBW3 := hBW.trans (hb3.mono hBW.size)
    have HK := Lib.hid (KeepBut.below (D := [w.heap.size + 1, w.heap.size + 1 + 1]) hb3)
    have hsz3 := hb3.size
    clear hHF hb3 hBW i0 i1 i2 i3 i4 i5 i6 q0 q1 hrow
    cases hp : pf ns with
    | true =>
      have HFD := Lib.hid (find_here HP.out.1 HP.out.2.1 hp)
      have hcl := clone_c (wd : Int) (.slice (some ⟨g, 0, none⟩) h c) (casts ns) (by rw [length_casts, hnl]; exact h1) (by rw [length_casts, hnl]; omega) W3 (hr3.intsH (h := h) (c := c) hnl)
      rw [length_casts, hnl] at hcl
      clear hp
      gi_wp2_with fail
      refine ⟨trivial, fun hh => by simp [Fence.wide] at hh, ?_⟩
      refine (CallsIn.inRound l (callsIn_wide.2 hcl)).mono ?_
      rintro e W4 ⟨g', c', rfl, hg', hr', hb4⟩
      have k1 := cellB hb4 j1
      have k2 := cellB hb4 j2
      have k3 := frozenB hb4 j1 j3
      have k4 := frozenB hb4 j2 j4
      have k5 := cellB hb4 j5
      have k6 := frozenB hb4 j5 j6
      have hBW4 := hBW3.trans (hb4.mono hBW3.size)
      have hs4 : w.heap.size + 5 ≤ W3.heap.size := by have h' := hs2; rw [World.size_alloc] at h'; omega
      obtain ⟨s0, s1⟩ := set2_get (x := .int .i64 (wd : Int)) (y := .slice (some ⟨g', 0, none⟩) h c') k1 k2
      have hKB := HK.out.trans (((KeepBut.below (D := [w.heap.size + 1, w.heap.size + 1 + 1]) hb4).trans (KeepBut.setCell W4 (p := ⟨w.heap.size + 1, 0, none⟩) (by simp) (.int .i64 (wd : Int)))).trans ((KeepBut.setCell _ (p := ⟨w.heap.size + 1, 1, none⟩) (by simp) (.slice (some ⟨g', 0, none⟩) h c')).trans (KeepBut.setCell _ (p := ⟨w.heap.size + 1 + 1, 0, none⟩) (by simp) (.bool true))))
      have t0 := (World.cell?_setCell_other ((W4.setCell ⟨w.heap.size + 1, 0, none⟩ (.int .i64 (wd : Int))).setCell ⟨w.heap.size + 1, 1, none⟩ (.slice (some ⟨g', 0, none⟩) h c')) ⟨w.heap.size + 1 + 1, 0, none⟩ ⟨w.heap.size + 1, 0, none⟩ (.bool true) (by simp)).trans s0
      have t1 := (World.cell?_setCell_other ((W4.setCell ⟨w.heap.size + 1, 0, none⟩ (.int .i64 (wd : Int))).setCell ⟨w.heap.size + 1, 1, none⟩ (.slice (some ⟨g', 0, none⟩) h c')) ⟨w.heap.size + 1 + 1, 0, none⟩ ⟨w.heap.size + 1, 1, none⟩ (.bool true) (by simp)).trans s1
      have t2 : (((W4.setCell ⟨w.heap.size + 1, 0, none⟩ (.int .i64 (wd : Int))).setCell ⟨w.heap.size + 1, 1, none⟩ (.slice (some ⟨g', 0, none⟩) h c')).setCell ⟨w.heap.size + 1 + 1, 0, none⟩ (.bool true)).cell? ⟨w.heap.size + 1 + 1, 0, none⟩ = some (.bool true) := World.cell?_setCell_same' _ _ _ (by rw [World.cell?_setCell_other _ _ _ _ (by simp), World.cell?_setCell_other _ _ _ _ (by simp), k5]; rfl)
      have hr4 := ((hr'.far (p := ⟨w.heap.size + 1, 0, none⟩) (by simp; omega) (.int .i64 (wd : Int))).far (p := ⟨w.heap.size + 1, 1, none⟩) (by simp; omega) (.slice (some ⟨g', 0, none⟩) h c')).far (p := ⟨w.heap.size + 1 + 1, 0, none⟩) (by simp; omega) (.bool true)
      have hBW5 := ((hBW4.setCell (p := ⟨w.heap.size + 1, 0, none⟩) (by simp) (.int .i64 (wd : Int))).setCell (p := ⟨w.heap.size + 1, 1, none⟩) (by simp) (.slice (some ⟨g', 0, none⟩) h c')).setCell (p := ⟨w.heap.size + 1 + 1, 0, none⟩) (by simp; omega) (.bool true)
      have HS := Lib.hid (And.intro hKB (And.intro t0 (And.intro t1 (And.intro t2 (And.intro hr4 (And.intro hBW5 (And.intro hg' hs4)))))))
      clear hKB t0 t1 t2 hr4 hBW5 s0 s1 hr' hb4 hBW4 hcl j0 j1 j2 j3 j4 j5 j6 p0 p1 hr3 hBW3
      gi_wp2
      exact ⟨HS.out.1, rfl, ns, g', c', HFD.out, by have := HS.out.2.2.2.2.2.2.1; omega, by have := HS.out.2.2.2.2.2.2; omega, HP.out.2.2.2, HS.out.2.1, HS.out.2.2.1, HS.out.2.2.2.1, HS.out.2.2.2.2.1, HS.out.2.2.2.2.2.1⟩
    | false =>
      have hi7 : ∀ x ∈ pre ++ [ns], pf x = false := fun x hx => by
        rcases List.mem_append.1 hx with hx | hx
        · exact HP.out.2.1 x hx
        · rw [List.mem_singleton.1 hx]; exact hp
      have HI7 := Lib.hid hi7
      clear hp hi7
      gi_wp2
      exact ⟨HK.out, j0, j1, j2, j3, j4, j5, j6, HI7.out, hBW3⟩
  case done =>
    rintro D W hD ⟨i0, i1, i2, i3, i4, i5, i6, i7, hBW⟩ hK
    have HN := Lib.hid (HCN.out.trans (find_none i7))
    obtain ⟨W', eW'⟩ : ∃ V, V = ((W.setCell ⟨w.heap.size + 1, 0, none⟩ (.int .i64 0)).setCell ⟨w.heap.size + 1, 1, none⟩ (.slice none 0 0)).setCell ⟨w.heap.size + 1 + 1, 0, none⟩ (.bool false) := ⟨_, rfl⟩
    obtain ⟨s0, s1⟩ := set2_get (x := .int .i64 0) (y := .slice none 0 0) i1 i2
    have c0 : W'.cell? ⟨w.heap.size + 1, 0, none⟩ = some (.int .i64 0) := by rw [eW', World.cell?_setCell_other _ _ _ _ (by simp)]; exact s0
    have c1 : W'.cell? ⟨w.heap.size + 1, 1, none⟩ = some (.slice none 0 0) := by rw [eW', World.cell?_setCell_other _ _ _ _ (by simp)]; exact s1
    have c2 : W'.cell? ⟨w.heap.size + 1 + 1, 0, none⟩ = some (.bool false) := by rw [eW']; exact World.cell?_setCell_same' _ _ _ (by rw [World.cell?_setCell_other _ _ _ _ (by simp), World.cell?_setCell_other _ _ _ _ (by simp), i5]; rfl)
    have hKn : W'.heap[D]? = some (.deferred (some [])) := by
      rw [eW']
      exact (Below.heap_setCell _ _ _ _ (by simp; omega)).trans ((Below.heap_setCell _ _ _ _ (by simp; omega)).trans ((Below.heap_setCell _ _ _ _ (by simp; omega)).trans hK))
    have hB' : Below w.heap.size w W' := by
      rw [eW']
      exact ((hBW.setCell (p := ⟨w.heap.size + 1, 0, none⟩) (by simp) _).setCell (p := ⟨w.heap.size + 1, 1, none⟩) (by simp) _).setCell (p := ⟨w.heap.size + 1 + 1, 0, none⟩) (by simp; omega) _
    have HS := Lib.hid (And.intro c0 (And.intro c1 (And.intro c2 (And.intro hKn hB'))))
    have HE := Lib.hid eW'
    clear s0 s1 c0 c1 c2 hKn hB' eW' hK i0 i7 hBW
    gi_wp2
    rw [← HE.out]
    refine ⟨by simp, .inl ⟨_, _, rfl, run_takeDeferred HS.out.2.2.2.1, ?_⟩⟩
    refine ⟨_, res_img_cc rfl _ _ rfl rfl (cell_putObj HS.out.1 (by omega) _) (cell_putObj HS.out.2.1 (by omega) _) (cell_putObj HS.out.2.2.1 (by omega) _), ?_⟩
    exact .inr ⟨HN.out, rfl, HS.out.2.2.2.2.trans (belowK_b (w := w) (Nat.le_refl _) W' D _ _ (by omega) HS.out.2.2.2.1 rfl rfl)⟩
  case stop =>
    rintro D c pre aa W hD hDa ⟨rfl, ns, g, cc, i0, i1, i1', i2, i3, i4, i5, i6, i7⟩ hK
    have HN := Lib.hid (HCN.out.trans i0)
    have HS := Lib.hid (And.intro i3 (And.intro i4 (And.intro i5 (And.intro i6 i7))))
    clear i0 i3 i4 i5 i6 i7
    gi_wp2
    refine ⟨by simp, .inl ⟨_, _, rfl, run_takeDeferred hK, ?_⟩⟩
    refine ⟨_, res_img_cc rfl _ _ rfl rfl (cell_putObj HS.out.1 (by omega) _) (cell_putObj HS.out.2.1 (by omega) _) (cell_putObj HS.out.2.2.1 (by omega) _), ?_⟩
    exact .inl ⟨ns, HN.out, g, cc, by rw [i2], i1', HS.out.2.2.2.1.of_block (World.putObj_heap_other (by omega)), HS.out.2.2.2.2.trans (belowK_b (w := w) (Nat.le_refl _) W D _ _ (by omega) hK rfl rfl)⟩
end Go.Proofs.YtbpjceffkchmbaaDoor
