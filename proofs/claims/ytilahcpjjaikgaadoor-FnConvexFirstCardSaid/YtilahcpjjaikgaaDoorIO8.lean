/- Contracts of firstImage and ConvexFirst: the first image of a kind with given sums. Conditions: for firstImage: the sums are those of an image's size; what the function of the kind answers. -/
import Derived.Test.YtilahcpjjaikgaaDoorIO7
import Derived.Test.YtilahcpjjaikgaaDoorIO6
namespace Go.Proofs.YtilahcpjjaikgaaDoor
open Go Go.RowKit Go.Shelf
attribute [local go_sem] Oper.semAt_some
theorem cell_putObj {W : World} {b o l : Nat} {v : Value} (h : W.cell? ⟨b, o, none⟩ = some v) (hne : b ≠ l) (ob : Obj) : (W.putObj l ob).cell? ⟨b, o, none⟩ = some v := by
  rw [← h]
  unfold World.cell?
  rw [World.putObj_heap_other hne]
/-- The first image, and true; or none. -/
def FirstOut (w : World) (wd : Nat) (o : Option (List Nat)) (e : Ending) (w' : World) : Prop :=
  (∃ ns, o = some ns ∧ ImgOut w wd ns e w') ∨ (o = none ∧ NoImg w e w')
set_option maxHeartbeats 4000000 in
set_option maxRecDepth 100000 in
theorem firstImage_c (pf : List Nat → Bool) (F : FuncId) (wd h : Nat) (rs cs : List Int) (hrl : rs.length = h) (hcl : cs.length = wd) (h1 : 1 ≤ h) (h6 : h ≤ 6) (w1 : 1 ≤ wd) (w6 : wd ≤ 6) (hrb : ∀ i, i < h → 0 ≤ rs.getD i 0 ∧ rs.getD i 0 ≤ 6) (hin : InR h cs)
    (vr vc : Value) (w : World) (hr : Ints w.heap.size w vr rs) (hc : Ints w.heap.size w vc cs)
    (hE : ∀ (args : Array Value) (W : World), (callFunc F args).run Tryd.prog W = .ok (.enter F args) W)
    (hF : ∀ (ns : List Nat) (g c : Nat) (W : World), VImg wd ns → ns.length = h → Below w.heap.size w W → Row W g (casts ns) → Calls Tryd.prog F #[imgV wd h g c] W fun e w' => e = .returned (.bool (pf ns)) ∧ Below W.heap.size W w') :
    Calls Tryd.prog 29 #[vr, vc, .func (.func F) #[] #[]] w (FirstOut w wd ((genI wd rs cs).find? pf)) := by
  obtain ⟨AR, cR, rfl⟩ := hr.len
  obtain ⟨AC, cC, rfl⟩ := hc.len
  rw [hrl] at hr ⊢
  rw [hcl] at hc ⊢
  have HF := Lib.hid hF
  have HB := Lib.hid (And.intro hrb hin)
  have himg : ∀ ns, ns ∈ genI wd rs cs → VImg wd ns ∧ ns.length = h := fun ns hm => by
    have := gen_img (rs := rs) (cs := cs) (by omega) (by omega) (by omega) (by omega) (by rw [hcl]; exact hm)
    rw [hcl] at this
    exact ⟨this.1, this.2.2.2.trans hrl⟩
  clear hF hrb hin
  refine (callsIn_wide (n := 3)).1 ?_
  refine callsIn_of_wp_marks Tryd.func29 rfl trivial ?_ rfl
  simp only [Tryd.ntmps29, List.size_toArray, List.length_cons, List.length_nil, Nat.reduceAdd, Nat.reduceSub, Array.replicate_succ, Array.replicate_zero, List.push_toArray, List.append_toArray, List.nil_append, List.cons_append]
  gi_wp2_with (refine ⟨trivial, ?_⟩; gi_at_call 34; refine (callsIn_wide.2 (imagesOf_c _ _ _ _ _ _ _)).mono ?_; rintro e w' ⟨rfl, rfl⟩)
  obtain ⟨W0, eW⟩ : ∃ V, V = (((((w.alloc (.cells #[.func (.func F) #[] #[]] 33)).alloc (.cells #[.int .i64 0, .slice none 0 0] 27)).alloc (.cells #[.bool false] 4)).alloc (.cells #[.slice AR h cR] 23)).alloc (.cells #[.slice AC wd cC] 23)) := ⟨_, rfl⟩
  have hB0 : Below w.heap.size w W0 := by rw [eW]; go_grown
  have f0 : W0.cell? ⟨w.heap.size, 0, none⟩ = some (.func (.func F) #[] #[]) := by rw [eW]; go_cell
  have r0 : W0.cell? ⟨w.heap.size + 1, 0, none⟩ = some (.int .i64 0) := by rw [eW]; go_cell
  have r1 : W0.cell? ⟨w.heap.size + 1, 1, none⟩ = some (.slice none 0 0) := by rw [eW]; go_cell
  have rf0 : W0.frozen? ⟨w.heap.size + 1, 0, none⟩ = false := by rw [eW]; go_cell
  have rf1 : W0.frozen? ⟨w.heap.size + 1, 1, none⟩ = false := by rw [eW]; go_cell
  have b0 : W0.cell? ⟨w.heap.size + 1 + 1, 0, none⟩ = some (.bool false) := by rw [eW]; go_cell
  have bf0 : W0.frozen? ⟨w.heap.size + 1 + 1, 0, none⟩ = false := by rw [eW]; go_cell
  have f2 : W0.cell? ⟨w.heap.size + 1 + 1 + 1, 0, none⟩ = some (.slice AR h cR) := by rw [eW]; go_cell
  have f3 : W0.cell? ⟨w.heap.size + 1 + 1 + 1 + 1, 0, none⟩ = some (.slice AC wd cC) := by rw [eW]; go_cell
  have hz0 : W0.heap.size = w.heap.size + 5 := by rw [eW]; simp
  rw [← eW]
  clear eW
  have hr0 : Ints w.heap.size W0 (.slice AR h cR) rs := hr.keep fun q hq => hB0.cell hq
  have hc0 : Ints w.heap.size W0 (.slice AC wd cC) cs := hc.keep fun q hq => hB0.cell hq
  have hDD : ∀ d, d ∈ [w.heap.size + 1, w.heap.size + 1 + 1] → d = w.heap.size + 1 ∨ d = w.heap.size + 1 + 1 := fun d hd => by simpa using hd
  have hit := iter_images 2 wd h rs cs hrl hcl h1 h6 w1 w6 HB.out.1 HB.out.2 AR AC cR cC (w.heap.size + 1 + 1 + 1) (w.heap.size + 1 + 1 + 1 + 1) w.heap.size [w.heap.size + 1, w.heap.size + 1 + 1] W0 f2 f3 hr0 hc0 (by omega) (fun d hd => by
    have := hDD d hd
    exact ⟨by omega, by omega, by omega⟩)
  obtain ⟨L, eL⟩ : ∃ L, L = genI wd rs cs := ⟨_, rfl⟩
  have HCN := Lib.hid (show (genI wd rs cs).find? pf = L.find? pf by rw [eL])
  rw [← eL] at hit himg
  have HIM := Lib.hid himg
  clear eL himg hr0 hc0 f2 f3 hr hc HB
  refine wpIn_rangeImg (gf := 55) (lb := #[.pointer (some ⟨w.heap.size + 1 + 1 + 1, 0, none⟩), .pointer (some ⟨w.heap.size + 1 + 1 + 1 + 1, 0, none⟩)]) (wd := wd) (h := h) (D := [w.heap.size + 1, w.heap.size + 1 + 1]) (L := L) (w0 := W0) rfl (enters_of Tryd.func55 (by kernel_rfl) rfl) hit (Below.refl _ _) (fun d hd => by have := hDD d hd; omega)
    (fun xs W => W.cell? ⟨w.heap.size, 0, none⟩ = some (.func (.func F) #[] #[]) ∧ W.cell? ⟨w.heap.size + 1, 0, none⟩ = some (.int .i64 0) ∧ W.cell? ⟨w.heap.size + 1, 1, none⟩ = some (.slice none 0 0) ∧ W.frozen? ⟨w.heap.size + 1, 0, none⟩ = false ∧ W.frozen? ⟨w.heap.size + 1, 1, none⟩ = false ∧ W.cell? ⟨w.heap.size + 1 + 1, 0, none⟩ = some (.bool false) ∧ W.frozen? ⟨w.heap.size + 1 + 1, 0, none⟩ = false ∧ (∀ x ∈ xs, pf x = false) ∧ Below w.heap.size w W)
    (fun c xs a W => c = .ret ∧ ∃ ns g cc, L.find? pf = some ns ∧ a ≤ g ∧ w.heap.size ≤ g ∧ ns.length = h ∧ W.cell? ⟨w.heap.size + 1, 0, none⟩ = some (.int .i64 (wd : Int)) ∧ W.cell? ⟨w.heap.size + 1, 1, none⟩ = some (.slice (some ⟨g, 0, none⟩) h cc) ∧ W.cell? ⟨w.heap.size + 1 + 1, 0, none⟩ = some (.bool true) ∧ Row W g (casts ns) ∧ Below w.heap.size w W)
    (fun s A B hs e1 e2 e3 e4 e5 => by
      obtain ⟨i0, i1, i2, i3, i4, i5, i6, i7, i8⟩ := hs
      exact ⟨(cellK e5 (by omega)).trans i0, (cellK e5 (by omega)).trans i1, (cellK e5 (by omega)).trans i2, (frozenK e5 (by omega)).trans i3, (frozenK e5 (by omega)).trans i4, (cellK e5 (by omega)).trans i5, (frozenK e5 (by omega)).trans i6, i7, belowKK (by omega) i8 e1 e2 e3 e4 e5⟩)
    (fun c s a A B hs e1 e2 e3 e4 e5 => by
      obtain ⟨hc, ns, g, cc, i0, i1, i1', i2, i3, i4, i5, i6, i7⟩ := hs
      exact ⟨hc, ns, g, cc, i0, i1, i1', i2, cellX e5 i3 (by omega), cellX e5 i4 (by omega), cellX e5 i5 (by omega), i6.of_block (e5 g i6.lt (.inr i1)), belowX (by omega) i7 e1 e2 e3 e4 e5⟩)
    ⟨f0, r0, r1, rf0, rf1, b0, bf0, (fun x hx => by cases hx), hB0⟩
    (fun g c W => W.alloc (.cells #[.int .i64 (wd : Int), .slice (some ⟨g, 0, none⟩) h c] 27))
    (fun g c W => { tmps := #[.slice AR h cR, .slice AC wd cC, .func (.func F) #[] #[], undef, undef, .pointer (some ⟨w.heap.size, 0, none⟩), .pointer (some ⟨w.heap.size + 1, 0, none⟩), .pointer (some ⟨w.heap.size + 1 + 1, 0, none⟩), .pointer (some ⟨W.heap.size, 0, none⟩), .slice AR h cR, .slice AC wd cC, .func (.func 55) #[] #[.pointer (some ⟨w.heap.size + 1 + 1 + 1, 0, none⟩), .pointer (some ⟨w.heap.size + 1 + 1 + 1 + 1, 0, none⟩)], .agg #[.int .i64 (wd : Int), .slice (some ⟨g, 0, none⟩) h c], undef, undef, undef, undef, undef, undef], defers := [] })
    (fun g c W => (Below.refl _ W).alloc (Nat.le_refl _) _) ?assign ?body ?done ?stop
  case assign =>
    intro m l g c W K hK
    unfold imgV
    gi_wp2
    exact hK
  case body =>
    rintro m l pre ns g c W W2 ⟨i0, i1, i2, i3, i4, i5, i6, i7, hBW⟩ ⟨rest, hpre⟩ hg hW hrow hs2 hoth
    have hmem : ns ∈ L := by rw [hpre]; simp
    obtain ⟨hV, hnl⟩ := HIM.out ns hmem
    have hHF := HF.out ns g c W2 hV hnl hBW hrow
    unfold imgV at hHF
    have hnew : ∀ o, W2.cell? ⟨W.heap.size, o, none⟩ = (W.alloc (.cells #[.int .i64 (wd : Int), .slice (some ⟨g, 0, none⟩) h c] 27)).cell? ⟨W.heap.size, o, none⟩ := fun o => by
      unfold World.cell?
      rw [hoth W.heap.size (by omega)]
    have q0 : W2.cell? ⟨W.heap.size, 0, none⟩ = some (.int .i64 (wd : Int)) := by rw [hnew]; go_cell
    have q1 : W2.cell? ⟨W.heap.size, 1, none⟩ = some (.slice (some ⟨g, 0, none⟩) h c) := by rw [hnew]; go_cell
    have HP := Lib.hid (And.intro hpre (And.intro i7 (And.intro hV hnl)))
    clear hnew hoth hmem hpre i7 hV
    gi_wp2_with fail
    refine ⟨trivial, ?_⟩
    refine ⟨fun hh => by simp [Fence.wide] at hh, ?_⟩
    refine (CallsIn.inRound l (callsIn_wide.2 hHF)).mono ?_
    rintro e W3 ⟨rfl, hb3⟩
    have j0 := cellB hb3 i0
    have j1 := cellB hb3 i1
    have j2 := cellB hb3 i2
    have j3 := frozenB hb3 i1 i3
    have j4 := frozenB hb3 i2 i4
    have j5 := cellB hb3 i5
    have j6 := frozenB hb3 i5 i6
    have p0 := cellB hb3 q0
    have p1 := cellB hb3 q1
    have hr3 := hrow.below hb3 hrow.lt
    have hBW3 := hBW.trans (hb3.mono hBW.size)
    have HK := Lib.hid (KeepBut.below (D := [w.heap.size + 1, w.heap.size + 1 + 1]) hb3)
    have hsz3 := hb3.size
    clear hHF hb3 hBW i0 i1 i2 i3 i4 i5 i6 q0 q1 hrow
    cases hp : pf ns with
    | true =>
      have HFD := Lib.hid (find_here HP.out.1 HP.out.2.1 hp)
      have hcl := clone_c (wd : Int) (.slice (some ⟨g, 0, none⟩) h c) (casts ns) (by rw [length_casts, hnl]; exact h1) (by rw [length_casts, hnl]; omega) W3 (hr3.intsH (h := h) (c := c) hnl)
      rw [length_casts, hnl] at hcl
      clear hp
      gi_wp2_with fail
      refine ⟨trivial, fun hh => by simp [Fence.wide] at hh, ?_⟩
      refine (CallsIn.inRound l (callsIn_wide.2 hcl)).mono ?_
      rintro e W4 ⟨g', c', rfl, hg', hr', hb4⟩
      have k1 := cellB hb4 j1
      have k2 := cellB hb4 j2
      have k3 := frozenB hb4 j1 j3
      have k4 := frozenB hb4 j2 j4
      have k5 := cellB hb4 j5
      have k6 := frozenB hb4 j5 j6
      have hBW4 := hBW3.trans (hb4.mono hBW3.size)
      have hs4 : w.heap.size + 5 ≤ W3.heap.size := by have h' := hs2; rw [World.size_alloc] at h'; omega
      obtain ⟨s0, s1⟩ := set2_get (x := .int .i64 (wd : Int)) (y := .slice (some ⟨g', 0, none⟩) h c') k1 k2
      have hKB := HK.out.trans (((KeepBut.below (D := [w.heap.size + 1, w.heap.size + 1 + 1]) hb4).trans (KeepBut.setCell W4 (p := ⟨w.heap.size + 1, 0, none⟩) (by simp) (.int .i64 (wd : Int)))).trans ((KeepBut.setCell _ (p := ⟨w.heap.size + 1, 1, none⟩) (by simp) (.slice (some ⟨g', 0, none⟩) h c')).trans (KeepBut.setCell _ (p := ⟨w.heap.size + 1 + 1, 0, none⟩) (by simp) (.bool true))))
      have t0 := (World.cell?_setCell_other ((W4.setCell ⟨w.heap.size + 1, 0, none⟩ (.int .i64 (wd : Int))).setCell ⟨w.heap.size + 1, 1, none⟩ (.slice (some ⟨g', 0, none⟩) h c')) ⟨w.heap.size + 1 + 1, 0, none⟩ ⟨w.heap.size + 1, 0, none⟩ (.bool true) (by simp)).trans s0
      have t1 := (World.cell?_setCell_other ((W4.setCell ⟨w.heap.size + 1, 0, none⟩ (.int .i64 (wd : Int))).setCell ⟨w.heap.size + 1, 1, none⟩ (.slice (some ⟨g', 0, none⟩) h c')) ⟨w.heap.size + 1 + 1, 0, none⟩ ⟨w.heap.size + 1, 1, none⟩ (.bool true) (by simp)).trans s1
      have t2 : (((W4.setCell ⟨w.heap.size + 1, 0, none⟩ (.int .i64 (wd : Int))).setCell ⟨w.heap.size + 1, 1, none⟩ (.slice (some ⟨g', 0, none⟩) h c')).setCell ⟨w.heap.size + 1 + 1, 0, none⟩ (.bool true)).cell? ⟨w.heap.size + 1 + 1, 0, none⟩ = some (.bool true) := World.cell?_setCell_same' _ _ _ (by rw [World.cell?_setCell_other _ _ _ _ (by simp), World.cell?_setCell_other _ _ _ _ (by simp), k5]; rfl)
      have hr4 := ((hr'.far (p := ⟨w.heap.size + 1, 0, none⟩) (by simp; omega) (.int .i64 (wd : Int))).far (p := ⟨w.heap.size + 1, 1, none⟩) (by simp; omega) (.slice (some ⟨g', 0, none⟩) h c')).far (p := ⟨w.heap.size + 1 + 1, 0, none⟩) (by simp; omega) (.bool true)
      have hBW5 := ((hBW4.setCell (p := ⟨w.heap.size + 1, 0, none⟩) (by simp) (.int .i64 (wd : Int))).setCell (p := ⟨w.heap.size + 1, 1, none⟩) (by simp) (.slice (some ⟨g', 0, none⟩) h c')).setCell (p := ⟨w.heap.size + 1 + 1, 0, none⟩) (by simp; omega) (.bool true)
      have HS := Lib.hid (And.intro hKB (And.intro t0 (And.intro t1 (And.intro t2 (And.intro hr4 (And.intro hBW5 (And.intro hg' hs4)))))))
      clear hKB t0 t1 t2 hr4 hBW5 s0 s1 hr' hb4 hBW4 hcl j0 j1 j2 j3 j4 j5 j6 p0 p1 hr3 hBW3
      gi_wp2
      exact ⟨HS.out.1, rfl, ns, g', c', HFD.out, by have := HS.out.2.2.2.2.2.2.1; omega, by have := HS.out.2.2.2.2.2.2; omega, HP.out.2.2.2, HS.out.2.1, HS.out.2.2.1, HS.out.2.2.2.1, HS.out.2.2.2.2.1, HS.out.2.2.2.2.2.1⟩
    | false =>
      have hi7 : ∀ x ∈ pre ++ [ns], pf x = false := fun x hx => by
        rcases List.mem_append.1 hx with hx | hx
        · exact HP.out.2.1 x hx
        · rw [List.mem_singleton.1 hx]; exact hp
      have HI7 := Lib.hid hi7
      clear hp hi7
      gi_wp2
      exact ⟨HK.out, j0, j1, j2, j3, j4, j5, j6, HI7.out, hBW3⟩
  case done =>
    rintro D W hD ⟨i0, i1, i2, i3, i4, i5, i6, i7, hBW⟩ hK
    have HN := Lib.hid (HCN.out.trans (find_none i7))
    obtain ⟨W', eW'⟩ : ∃ V, V = ((W.setCell ⟨w.heap.size + 1, 0, none⟩ (.int .i64 0)).setCell ⟨w.heap.size + 1, 1, none⟩ (.slice none 0 0)).setCell ⟨w.heap.size + 1 + 1, 0, none⟩ (.bool false) := ⟨_, rfl⟩
    obtain ⟨s0, s1⟩ := set2_get (x := .int .i64 0) (y := .slice none 0 0) i1 i2
    have c0 : W'.cell? ⟨w.heap.size + 1, 0, none⟩ = some (.int .i64 0) := by rw [eW', World.cell?_setCell_other _ _ _ _ (by simp)]; exact s0
    have c1 : W'.cell? ⟨w.heap.size + 1, 1, none⟩ = some (.slice none 0 0) := by rw [eW', World.cell?_setCell_other _ _ _ _ (by simp)]; exact s1
    have c2 : W'.cell? ⟨w.heap.size + 1 + 1, 0, none⟩ = some (.bool false) := by rw [eW']; exact World.cell?_setCell_same' _ _ _ (by rw [World.cell?_setCell_other _ _ _ _ (by simp), World.cell?_setCell_other _ _ _ _ (by simp), i5]; rfl)
    have hKn : W'.heap[D]? = some (.deferred (some [])) := by
      rw [eW']
      exact (Below.heap_setCell _ _ _ _ (by simp; omega)).trans ((Below.heap_setCell _ _ _ _ (by simp; omega)).trans ((Below.heap_setCell _ _ _ _ (by simp; omega)).trans hK))
    have hB' : Below w.heap.size w W' := by
      rw [eW']
      exact ((hBW.setCell (p := ⟨w.heap.size + 1, 0, none⟩) (by simp) _).setCell (p := ⟨w.heap.size + 1, 1, none⟩) (by simp) _).setCell (p := ⟨w.heap.size + 1 + 1, 0, none⟩) (by simp; omega) _
    have HS := Lib.hid (And.intro c0 (And.intro c1 (And.intro c2 (And.intro hKn hB'))))
    have HE := Lib.hid eW'
    clear s0 s1 c0 c1 c2 hKn hB' eW' hK i0 i7 hBW
    gi_wp2
    rw [← HE.out]
    refine ⟨by simp, .inl ⟨_, _, rfl, run_takeDeferred HS.out.2.2.2.1, ?_⟩⟩
    refine ⟨_, res_img_cc rfl _ _ rfl rfl (cell_putObj HS.out.1 (by omega) _) (cell_putObj HS.out.2.1 (by omega) _) (cell_putObj HS.out.2.2.1 (by omega) _), ?_⟩
    exact .inr ⟨HN.out, rfl, HS.out.2.2.2.2.trans (belowK_b (w := w) (Nat.le_refl _) W' D _ _ (by omega) HS.out.2.2.2.1 rfl rfl)⟩
  case stop =>
    rintro D c pre aa W hD hDa ⟨rfl, ns, g, cc, i0, i1, i1', i2, i3, i4, i5, i6, i7⟩ hK
    have HN := Lib.hid (HCN.out.trans i0)
    have HS := Lib.hid (And.intro i3 (And.intro i4 (And.intro i5 (And.intro i6 i7))))
    clear i0 i3 i4 i5 i6 i7
    gi_wp2
    refine ⟨by simp, .inl ⟨_, _, rfl, run_takeDeferred hK, ?_⟩⟩
    refine ⟨_, res_img_cc rfl _ _ rfl rfl (cell_putObj HS.out.1 (by omega) _) (cell_putObj HS.out.2.1 (by omega) _) (cell_putObj HS.out.2.2.1 (by omega) _), ?_⟩
    exact .inl ⟨ns, HN.out, g, cc, by rw [i2], i1', HS.out.2.2.2.1.of_block (World.putObj_heap_other (by omega)), HS.out.2.2.2.2.trans (belowK_b (w := w) (Nat.le_refl _) W D _ _ (by omega) hK rfl rfl)⟩
/-- The first convex image, if the images are counted. -/
def firstO (rs cs : List Int) : Option (List Nat) := if ctB rs cs = true then (genI cs.length rs cs).find? (cvxB cs.length) else none
set_option maxHeartbeats 2000000 in
theorem ConvexFirst_c (u v : Value) (rs cs : List Int) (hr : rs.length ≤ 2097152) (hc : cs.length ≤ 2097152) (w : World) (hu : Ints w.heap.size w u rs) (hv : Ints w.heap.size w v cs) (hT : Tab w) :
    Calls Tryd.prog 7 #[u, v] w (FirstOut w cs.length (firstO rs cs)) := by
  obtain ⟨W0, eW⟩ : ∃ W0, W0 = w.alloc (.cells #[.int .i64 0, .slice none 0 0] 27) := ⟨_, rfl⟩
  have hB0 : Below w.heap.size w W0 := by rw [eW]; go_grown
  have i0 : W0.cell? ⟨w.heap.size, 0, none⟩ = some (.int .i64 0) := by rw [eW]; go_cell
  have i1 : W0.cell? ⟨w.heap.size, 1, none⟩ = some (.slice none 0 0) := by rw [eW]; go_cell
  have f0 : W0.frozen? ⟨w.heap.size, 0, none⟩ = false := by rw [eW]; go_cell
  have f1 : W0.frozen? ⟨w.heap.size, 1, none⟩ = false := by rw [eW]; go_cell
  have hz0 : w.heap.size < W0.heap.size := by rw [eW]; simp
  have hu0 := (hu.below hB0).more hB0.size
  have hv0 := (hv.below hB0).more hB0.size
  have HS := countable_c u v rs cs hr hc W0 hu0 hv0
  cases hs : ctB rs cs with
  | false =>
    have ho : firstO rs cs = none := by unfold firstO; rw [if_neg (by rw [hs]; decide)]
    rw [ho]
    rw [hs] at HS
    obtain ⟨A, cap, rfl⟩ := hu.len
    obtain ⟨B, cap', rfl⟩ := hv.len
    obtain ⟨q0, q1⟩ := set2_get (x := .int .i64 0) (y := .slice none 0 0) i0 i1
    have HB := Lib.hid ((hB0.setCell (p := ⟨w.heap.size, 0, none⟩) (by simp) (.int .i64 0)).setCell (p := ⟨w.heap.size, 1, none⟩) (by simp) (.slice none 0 0))
    clear hs ho hu hv hu0 hv0 hB0
    go_enter Tryd.func7, Tryd.ntmps7
    go_wp2_with fail
    rw [← eW]
    clear eW
    refine HS.mono ?_
    rintro e w' ⟨rfl, rfl⟩
    go_wp2
    refine bodyPost_ret (res_img_b rfl _ _ rfl q0 q1) rfl ?_
    exact .inr ⟨rfl, rfl, HB.out⟩
  | true =>
    have ho : firstO rs cs = (genI cs.length rs cs).find? (cvxB cs.length) := by unfold firstO; rw [if_pos hs]
    rw [ho]
    rw [hs] at HS
    have hsv : svB rs cs = true := by
      unfold ctB at hs
      exact (Bool.and_eq_true _ _ ▸ hs).1
    have hS := svB_yes hsv
    have HC := firstImage_c (cvxB cs.length) 30 cs.length rs.length rs cs rfl rfl hS.h1 hS.h6 hS.w1 hS.w6 (fun i hi => by have := hS.r i hi; have := hS.w6; omega) hS.c u v W0 hu0 hv0 (enters_of Tryd.func30 (by kernel_rfl) rfl)
      (fun ns g c W hV hnl hb hrow => by
        have hI := hrow.intsH (h := rs.length) (c := c) hnl
        exact convex_c cs.length _ ns hV W hI ((hT.below hB0).below hb))
    obtain ⟨A, cap, rfl⟩ := hu.len
    obtain ⟨B, cap', rfl⟩ := hv.len
    obtain ⟨wd, ewd⟩ : ∃ n, n = cs.length := ⟨_, rfl⟩
    obtain ⟨o, eo⟩ : ∃ o, o = (genI cs.length rs cs).find? (cvxB cs.length) := ⟨_, rfl⟩
    rw [← eo] at HC ⊢
    rw [← ewd] at HC HS hv ⊢
    have HB := Lib.hid hB0
    clear hs ho hsv hS hu hv hu0 hv0 hB0 eo ewd hT
    go_enter Tryd.func7, Tryd.ntmps7
    go_wp2_with fail
    rw [← eW]
    clear eW
    refine HS.mono ?_
    rintro e w' ⟨rfl, rfl⟩
    go_wp2_with fail
    refine HC.mono ?_
    rintro e w1 (⟨ns, rfl, g, c, rfl, hg, hrow, hb⟩ | ⟨rfl, rfl, hb⟩)
    · have k0 := cellB hb i0
      have k1 := cellB hb i1
      have kf0 := frozenB hb i0 f0
      have kf1 := frozenB hb i1 f1
      obtain ⟨q0, q1⟩ := set2_get (x := .int .i64 (wd : Int)) (y := .slice (some ⟨g, 0, none⟩) ns.length c) k0 k1
      have hgw : w.heap.size < g := by omega
      have HO := Lib.hid (And.intro ((hrow.far (p := ⟨w.heap.size, 0, none⟩) (by simp; omega) (.int .i64 (wd : Int))).far (p := ⟨w.heap.size, 1, none⟩) (by simp; omega) (.slice (some ⟨g, 0, none⟩) ns.length c)) (((HB.out.trans (hb.mono HB.out.size)).setCell (p := ⟨w.heap.size, 0, none⟩) (by simp) (.int .i64 (wd : Int))).setCell (p := ⟨w.heap.size, 1, none⟩) (by simp) (.slice (some ⟨g, 0, none⟩) ns.length c)))
      clear hrow hb HC HS
      go_wp2
      refine bodyPost_ret (res_img_b rfl _ _ rfl q0 q1) rfl ?_
      exact .inl ⟨ns, rfl, g, c, rfl, by omega, HO.out.1, HO.out.2⟩
    · have k0 := cellB hb i0
      have k1 := cellB hb i1
      have kf0 := frozenB hb i0 f0
      have kf1 := frozenB hb i1 f1
      obtain ⟨q0, q1⟩ := set2_get (x := .int .i64 0) (y := .slice none 0 0) k0 k1
      have HO := Lib.hid (((HB.out.trans (hb.mono HB.out.size)).setCell (p := ⟨w.heap.size, 0, none⟩) (by simp) (.int .i64 0)).setCell (p := ⟨w.heap.size, 1, none⟩) (by simp) (.slice none 0 0))
      clear hb HC HS
      go_wp2
      refine bodyPost_ret (res_img_b rfl _ _ rfl q0 q1) rfl ?_
      exact .inr ⟨rfl, rfl, HO.out⟩
end Go.Proofs.YtilahcpjjaikgaaDoor
