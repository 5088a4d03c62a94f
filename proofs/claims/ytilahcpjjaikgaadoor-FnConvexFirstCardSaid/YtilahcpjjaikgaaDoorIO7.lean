/- Contracts of SumsCount and firstImage: the number of the images with given sums, and the first one of a kind. Conditions: the sums are those of an image's size; what the function of the kind answers. -/
import Derived.Test.YtilahcpjjaikgaaDoorMIO
import Derived.Test.YtilahcpjjaikgaaDoorML
import Derived.Test.YtilahcpjjaikgaaDoorK5
namespace Go.Proofs.YtilahcpjjaikgaaDoor
open Go Go.RowKit Go.Shelf
attribute [local go_sem] Oper.semAt_some
theorem cellX {B a : Nat} {W W' : World} (h : ∀ k, k < W.heap.size → (k < B ∨ a ≤ k) → W'.heap[k]? = W.heap[k]?) {b o : Nat} {v : Value} (hc : W.cell? ⟨b, o, none⟩ = some v) (hb : b < B ∨ a ≤ b) : W'.cell? ⟨b, o, none⟩ = some v := by
  rw [← hc]
  unfold World.cell?
  rw [h b (lt_of_cell hc) hb]
theorem belowX {B a : Nat} {w W W' : World} (hB : w.heap.size ≤ B) (h : Below w.heap.size w W) (h1 : W'.os = W.os) (h2 : W'.tape = W.tape) (h3 : W'.output = W.output) (h4 : W.heap.size ≤ W'.heap.size) (h5 : ∀ k, k < W.heap.size → (k < B ∨ a ≤ k) → W'.heap[k]? = W.heap[k]?) : Below w.heap.size w W' :=
  ⟨h1.trans h.os, h2.trans h.tape, h3.trans h.output, Nat.le_trans h.size h4, fun k hk => (h5 k (Nat.lt_of_lt_of_le hk h.size) (.inl (by omega))).trans (h.block k hk)⟩
theorem find_here {p : List Nat → Bool} {L pre rest : List (List Nat)} {ns : List Nat} (hL : L = pre ++ ns :: rest) (h0 : ∀ x ∈ pre, p x = false) (h1 : p ns = true) : L.find? p = some ns := by
  rw [hL, List.find?_append, List.find?_eq_none.2 fun x hx => by rw [h0 x hx]; decide]
  simp [h1]
theorem find_none {p : List Nat → Bool} {L : List (List Nat)} (h0 : ∀ x ∈ L, p x = false) : L.find? p = none := List.find?_eq_none.2 fun x hx => by rw [h0 x hx]; decide
theorem res_img_cc {fn : Func} {t u : Tmp} (h : fn.results = #[.cell t 27, .cell u 4]) (tmps : Array Value) (w : World) {b d : Nat} {x y z : Value} (ht : tmps.getD t undef = .pointer (some ⟨b, 0, none⟩)) (hu : tmps.getD u undef = .pointer (some ⟨d, 0, none⟩)) (h0 : w.cell? ⟨b, 0, none⟩ = some x) (h1 : w.cell? ⟨b, 1, none⟩ = some y) (hz : w.cell? ⟨d, 0, none⟩ = some z) :
    (results fn tmps).run Tryd.prog w = .ok (.tuple #[.agg #[x, y], z]) w := by
  have ht' : tmps[t]?.getD undef = .pointer (some ⟨b, 0, none⟩) := by rw [← ht, Array.getD_eq_getD_getElem?]
  have hu' : tmps[u]?.getD undef = .pointer (some ⟨d, 0, none⟩) := by rw [← hu, Array.getD_eq_getD_getElem?]
  simp only [results, h]
  simp [go_sem, ht', hu', h0, h1, hz]
/-- The number of the images, or -1. -/
def nSumsCount (rs cs : List Int) : Int := if ctB rs cs = true then ((genI cs.length rs cs).length : Nat) else -1
set_option maxHeartbeats 4000000 in
set_option maxRecDepth 100000 in
theorem SumsCount_c (u v : Value) (rs cs : List Int) (hr0 : rs.length ≤ 2097152) (hc0 : cs.length ≤ 2097152) (w : World) (hr : Ints w.heap.size w u rs) (hc : Ints w.heap.size w v cs) :
    Calls Tryd.prog 23 #[u, v] w fun e w' => e = .returned (.int .i64 (nSumsCount rs cs)) ∧ Below w.heap.size w w' := by
  have HS := countable_c u v rs cs hr0 hc0 w hr hc
  obtain ⟨AR, cR, rfl⟩ := hr.len
  obtain ⟨AC, cC, rfl⟩ := hc.len
  cases hs : ctB rs cs with
  | false =>
    have hn : nSumsCount rs cs = -1 := by unfold nSumsCount; rw [if_neg (by rw [hs]; decide)]
    rw [hn]
    rw [hs] at HS
    clear hs
    go_enter Tryd.func23, Tryd.ntmps23
    go_wp2_with (go_at_call 28; refine HS.mono ?_; rintro e w' ⟨rfl, rfl⟩)
    go_returns
    exact ⟨rfl, Below.refl _ _⟩
  | true =>
    have hn : nSumsCount rs cs = ((genI cs.length rs cs).length : Nat) := by unfold nSumsCount; rw [if_pos hs]
    rw [hn]
    rw [hs] at HS
    have hsv : svB rs cs = true := by
      unfold ctB at hs
      exact (Bool.and_eq_true _ _ ▸ hs).1
    have hS := svB_yes hsv
    have h1 := hS.h1
    have h6 := hS.h6
    have w1 := hS.w1
    have w6 := hS.w6
    have hrb : ∀ i, i < rs.length → 0 ≤ rs.getD i 0 ∧ rs.getD i 0 ≤ 6 := fun i hi => by have := hS.r i hi; omega
    have HB := Lib.hid (And.intro hrb hS.c)
    clear hs hsv hS hrb hn
    refine (callsIn_wide (n := 3)).1 ?_
    refine callsIn_of_wp_marks Tryd.func23 rfl trivial ?_ rfl
    simp only [Tryd.ntmps23, List.size_toArray, List.length_cons, List.length_nil, Nat.reduceAdd, Nat.reduceSub, Array.replicate_succ, Array.replicate_zero, List.push_toArray, List.append_toArray, List.nil_append, List.cons_append]
    gi_wp2_with (first | (refine ⟨trivial, ?_⟩; gi_at_call 28; refine (callsIn_wide.2 HS).mono ?_; rintro e w' ⟨rfl, rfl⟩) | (refine ⟨trivial, ?_⟩; gi_at_call 34; refine (callsIn_wide.2 (imagesOf_c _ _ _ _ _ _ _)).mono ?_; rintro e w' ⟨rfl, rfl⟩))
    obtain ⟨W0, eW⟩ : ∃ V, V = (((w.alloc (.cells #[.int .i64 0] 3)).alloc (.cells #[.slice AR rs.length cR] 23)).alloc (.cells #[.slice AC cs.length cC] 23)) := ⟨_, rfl⟩
    have hB0 : Below w.heap.size w W0 := by rw [eW]; go_grown
    have f1 : W0.cell? ⟨w.heap.size, 0, none⟩ = some (.int .i64 0) := by rw [eW]; go_cell
    have ff : W0.frozen? ⟨w.heap.size, 0, none⟩ = false := by rw [eW]; go_cell
    have f2 : W0.cell? ⟨w.heap.size + 1, 0, none⟩ = some (.slice AR rs.length cR) := by rw [eW]; go_cell
    have f3 : W0.cell? ⟨w.heap.size + 1 + 1, 0, none⟩ = some (.slice AC cs.length cC) := by rw [eW]; go_cell
    have hz0 : W0.heap.size = w.heap.size + 3 := by rw [eW]; simp
    rw [← eW]
    clear eW
    have hrW : Ints w.heap.size W0 (.slice AR rs.length cR) rs := hr.keep fun q hq => hB0.cell hq
    have hcW : Ints w.heap.size W0 (.slice AC cs.length cC) cs := hc.keep fun q hq => hB0.cell hq
    have hit := iter_images 2 cs.length rs.length rs cs rfl rfl h1 h6 w1 w6 HB.out.1 HB.out.2 AR AC cR cC (w.heap.size + 1) (w.heap.size + 1 + 1) w.heap.size [w.heap.size] W0 f2 f3 hrW hcW (by omega) (fun d hd => by
      obtain rfl := List.mem_singleton.1 hd
      exact ⟨by omega, by omega, by omega⟩)
    have hlen := gen_len6 (w := cs.length) (rs := rs) (left := cs) w6 (by omega)
    obtain ⟨L, eL⟩ : ∃ L, L = genI cs.length rs cs := ⟨_, rfl⟩
    have HCN := Lib.hid (show (genI cs.length rs cs).length = L.length by rw [eL])
    rw [← eL] at hit hlen
    obtain ⟨wd, ewd⟩ : ∃ n, n = cs.length := ⟨_, rfl⟩
    obtain ⟨h, eh⟩ : ∃ n, n = rs.length := ⟨_, rfl⟩
    rw [← ewd] at hit ⊢
    rw [← eh] at hit ⊢
    have HIM := Lib.hid hlen
    clear eL hlen hrW hcW f2 f3 hr hc HB HS h1 h6 w1 w6 ewd eh hr0 hc0
    refine wpIn_rangeImg (gf := 55) (lb := #[.pointer (some ⟨w.heap.size + 1, 0, none⟩), .pointer (some ⟨w.heap.size + 1 + 1, 0, none⟩)]) (wd := wd) (h := h) (D := [w.heap.size]) (L := L) (w0 := W0) rfl (enters_of Tryd.func55 (by kernel_rfl) rfl) hit (Below.refl _ _) (fun d hd => by obtain rfl := List.mem_singleton.1 hd; omega)
      (fun xs W => W.cell? ⟨w.heap.size, 0, none⟩ = some (.int .i64 (xs.length : Nat)) ∧ W.frozen? ⟨w.heap.size, 0, none⟩ = false ∧ Below w.heap.size w W)
      (fun _ _ _ _ => False)
      (fun s A B hs e1 e2 e3 e4 e5 => ⟨(cellK e5 (by omega)).trans hs.1, (frozenK e5 (by omega)).trans hs.2.1, belowKK (by omega) hs.2.2 e1 e2 e3 e4 e5⟩)
      (fun _ _ _ _ _ hs _ _ _ _ _ => hs)
      ⟨f1, ff, hB0⟩
      (fun g c W => W)
      (fun g c W => { tmps := #[.slice AR h cR, .slice AC wd cC, undef, undef, .int .i64 0, .pointer (some ⟨w.heap.size, 0, none⟩), .slice AR h cR, .slice AC wd cC, .bool true, .bool false, .slice AR h cR, .slice AC wd cC, .func (.func 55) #[] #[.pointer (some ⟨w.heap.size + 1, 0, none⟩), .pointer (some ⟨w.heap.size + 1 + 1, 0, none⟩)], .agg #[.int .i64 (wd : Int), .slice (some ⟨g, 0, none⟩) h c], undef, undef, undef], defers := [] })
      (fun g c W => Below.refl _ W) ?assign ?body ?done ?stop
    case assign =>
      intro m l g c W K hK
      unfold imgV
      gi_wp2
      exact hK
    case body =>
      rintro m l pre ns g c W W2 ⟨i1, iF, hBW⟩ ⟨rest, hpre⟩ hg hW hrow hs2 hoth
      have hcl2 : pre.length ≤ 68719476736 := by
        have h1 := HIM.out
        have h3 : pre.length ≤ L.length := by rw [hpre]; simp
        omega
      have hsn : (pre ++ [ns]).length = pre.length + 1 := by simp
      obtain ⟨N, eN⟩ : ∃ N, N = pre.length := ⟨_, rfl⟩
      rw [← eN] at i1 hcl2 hsn
      have HSN := Lib.hid hsn
      have ew : IntKind.i64.wrap ((N : Int) + 1) = (N : Int) + 1 := IntWalk.i64_in _ ⟨by omega, by omega⟩
      have HB3 := Lib.hid hBW
      clear hoth hpre eN hsn hBW
      gi_wp2
      refine ⟨KeepBut.setCell W2 (p := ⟨w.heap.size, 0, none⟩) (List.mem_cons_self ..) _, ?_, ?_, HB3.out.setCell (by simp) _⟩
      · rw [HSN.out]
        exact World.cell?_setCell_same' W2 ⟨w.heap.size, 0, none⟩ _ (by rw [i1]; rfl)
      · rw [World.frozen?_setCell]
        exact iF
    case done =>
      rintro D W hD ⟨i1, iF, hBW⟩ hK
      gi_wp2
      refine ⟨by simp, .inl ⟨_, _, rfl, run_takeDeferred hK, ?_⟩⟩
      exact ⟨_, results_tmp rfl _ _ _, by rw [HCN.out]; rfl, hBW.trans (belowK_b (w := w) (Nat.le_refl _) W D _ _ (by omega) hK rfl rfl)⟩
    case stop =>
      rintro D c pre aa W _ _ h _
      exact h.elim
end Go.Proofs.YtilahcpjjaikgaaDoor
