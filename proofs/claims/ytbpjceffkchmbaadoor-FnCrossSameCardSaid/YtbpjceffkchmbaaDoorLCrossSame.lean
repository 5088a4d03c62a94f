/- The law that three directions tell all moments: it returns true at whatever code, where the table of the steps and the tables of math/bits stand. Conditions: the code's slice can be read; the tables. -/
import Derived.Test.YtbpjceffkchmbaaDoorTC1
import Derived.Test.YtbpjceffkchmbaaDoorLCross
namespace Go.Proofs.YtbpjceffkchmbaaDoor
open Go.RowKit
theorem keepAllocS {w : World} {p : Addr} {v : Value} {o : Obj} (h : w.cell? p = some v) : (w.alloc o).cell? p = some v := (World.cell?_alloc_lt w o p (lt_of_cell h)).trans h
theorem keepSet2S {w : World} {b k : Nat} {o : Nat} {v1 v2 v : Value} (h : w.cell? ⟨k, o, none⟩ = some v) (hne : ¬ k = b) : ((w.setCell ⟨b, 0, none⟩ v1).setCell ⟨b, 1, none⟩ v2).cell? ⟨k, o, none⟩ = some v := by
  rw [World.cell?_setCell_other _ _ _ _ (by first | (simp; done) | (simp; omega) | exact fun e => hne (by injection e)), World.cell?_setCell_other _ _ _ _ (by first | (simp; done) | (simp; omega) | exact fun e => hne (by injection e))]
  exact h
theorem newFrozenS (w : World) (cs : Array Value) (T : TypeId) (k : Nat) : (w.alloc (.cells cs T)).frozen? ⟨w.heap.size, k, none⟩ = false := by simp
theorem cross_same {n : Nat} {ns xs : List Nat} (hV : VImg n ns) (hX : VImg n xs) (hl : xs.length = ns.length) (hr : rowSums n xs = rowSums n ns) (hc : colSums n xs = colSums n ns) (hd : dirO 2 n xs = dirO 2 n ns) : mom n xs f_MomentCross_1 = mom n ns f_MomentCross_1 := by
  have h1 := mom_two n ns
  have h2 := mom_two n xs
  have a1 : mom n xs sqI = mom n ns sqI := by
    have e1 := mom_rows n xs fun i => (i : Int) * i
    have e2 := mom_rows n ns fun i => (i : Int) * i
    rw [hl, hr] at e1
    exact e1.trans e2.symm
  have a2 : mom n xs sqJ = mom n ns sqJ := by
    have e1 := mom_cols n xs fun i => (i : Int) * i
    have e2 := mom_cols n ns fun i => (i : Int) * i
    rw [hc] at e1
    exact e1.trans e2.symm
  have a3 : mom n xs (sqL 2) = mom n ns (sqL 2) := by
    rw [← lines_mom (by omega) hX, ← lines_mom (by omega) hV, hl]
    exact sumN_congr fun q _ => by unfold lnT; rw [hd, hl]
  have e : crO = f_MomentCross_1 := rfl
  rw [e] at h1 h2
  omega
theorem lnN_two {h n : Nat} (h1 : 1 ≤ h) (h6 : h ≤ 8) (n1 : 1 ≤ n) (n6 : n ≤ 8) : lnN 2 h n = h + n - 1 := by
  have h1 : ((h - 1 : Nat) : Int) = (h : Int) - 1 := by omega
  have h2 : ((n - 1 : Nat) : Int) = (n : Int) - 1 := by omega
  unfold lnN lnLo lnHi lnO
  rw [h1, h2]
  simp [dXs, dYs]
  omega
theorem thr_yes {n : Nat} {ns : List Nat} (hV : VImg n ns) (hm : ns.length * n ≤ 16) : ∃ x, thrO (rowSums n ns) (colSums n ns) (dirO 2 n ns) = some x ∧ VImg n x ∧ x.length = ns.length ∧ mom n x f_MomentCross_1 = mom n ns f_MomentCross_1 := by
  have hct : ctB (rowSums n ns) (colSums n ns) = true := ct_of (sums_img hV) (by rw [rowSums_len, colSums_len]; exact hm)
  have hl : (dirO 2 n ns).length = (rowSums n ns).length + (colSums n ns).length - 1 := by
    rw [dirO_len, rowSums_len, colSums_len]
    exact lnN_two hV.h1 (by have := hV.h6; omega) hV.w1 (by have := hV.w6; omega)
  have hp : pfD n (dirO 2 n ns) ns = true := by unfold pfD; rw [decide_eq_true rfl]
  have hN : ¬ thrN (rowSums n ns) (colSums n ns) (dirO 2 n ns) < 1 := by
    unfold thrN
    rw [if_pos ⟨hct, hl⟩, colSums_len]
    have := cnt_pos (img_gen hV) hp
    omega
  have hO : thrO (rowSums n ns) (colSums n ns) (dirO 2 n ns) = (genI n (rowSums n ns) (colSums n ns)).find? (pfD n (dirO 2 n ns)) := by
    unfold thrO
    rw [if_neg hN, colSums_len]
  cases hf : (genI n (rowSums n ns) (colSums n ns)).find? (pfD n (dirO 2 n ns)) with
  | none =>
    have := List.find?_eq_none.1 hf ns (img_gen hV)
    exact (this hp).elim
  | some x =>
    have hmem := List.mem_of_find?_eq_some hf
    have hpx := List.find?_some hf
    have hg := gen_img (rs := rowSums n ns) (cs := colSums n ns) (ns := x) (by rw [rowSums_len]; exact hV.h1) (by rw [rowSums_len]; exact hV.h6) (by rw [colSums_len]; exact hV.w1) (by rw [colSums_len]; exact hV.w6) (by rw [colSums_len]; exact hmem)
    rw [colSums_len] at hg
    obtain ⟨g1, g2, g3, g4⟩ := hg
    rw [rowSums_len] at g4
    unfold pfD at hpx
    exact ⟨x, by rw [hO]; exact hf, g1, g4, cross_same hV g1 g4 g2 g3 (of_decide_eq_true hpx)⟩
theorem thr_no {n : Nat} {ns : List Nat} (hm : ¬ ns.length * n ≤ 16) : thrO (rowSums n ns) (colSums n ns) (dirO 2 n ns) = none := by
  have e : thrN (rowSums n ns) (colSums n ns) (dirO 2 n ns) = -1 := by
    unfold thrN
    rw [if_neg fun h => by
      rw [ct_big hm] at h
      exact absurd h.1 (by decide)]
  unfold thrO
  rw [e, if_pos (by omega)]
theorem FirstOut.img' {w : World} {wd : Nat} {ns : List Nat} {e : Ending} {w' : World} (h : FirstOut w wd (some ns) e w') : ImgOut w wd ns e w' := by
  rcases h with ⟨ms, e1, h⟩ | ⟨e1, _⟩
  · injection e1 with e1; rw [e1]; exact h
  · cases e1
theorem thr_img {w : World} {wd : Nat} {x : List Nat} {h : Nat} {e : Ending} {w' : World} (hx : x.length = h) (ho : ImgOut w wd x e w') : ∃ g c, e = .returned (.tuple #[.agg #[.int .i64 (wd : Int), .slice (some ⟨g, 0, none⟩) h c], .bool true]) ∧ w.heap.size ≤ g ∧ Row w' g (casts x) ∧ Below w.heap.size w w' := by
  subst hx
  exact ho
theorem FirstOut.no' {w : World} {wd : Nat} {e : Ending} {w' : World} (h : FirstOut w wd none e w') : NoImg w e w' := by
  rcases h with ⟨ms, e1, h⟩ | ⟨_, h⟩
  · cases e1
  · exact h
set_option maxRecDepth 100000 in
set_option maxHeartbeats 8000000 in
theorem crossSame_walk (A : Option Addr) (len cap : Nat) (hlc : len ≤ cap) (w : World) (hc : Code8 w w.heap.size A len) (hD : Dirs w) :
    Calls Tryd.prog 5 #[.slice A len cap] w fun e w' => e = .returned (.bool true) ∧ Below w.heap.size w w' := by
  by_cases hbig : 1048576 < len
  · go_enter Tryd.func5, Tryd.ntmps5
    go_wp2
    go_returns
    exact ⟨rfl, Below.refl _ _⟩
  · go_enter Tryd.func5, Tryd.ntmps5
    go_wp2_with fail
    refine (DrawMomentCross_c A len cap hlc w hc).mono ?_
    rintro e wc ⟨W, v, rows, rfl, hI, hl6, hW⟩
    obtain ⟨B, cp, rfl⟩ := hI.len
    obtain ⟨W1, e_W1⟩ : ∃ W0, W0 = World.alloc wc (.cells #[.int .i64 W, .slice B rows.length cp] 25) := ⟨_, rfl⟩
    have hx_W1 := Box2.new wc (.int .i64 W) (.slice B rows.length cp) 25
    have hb_W1 : Below (World.heap wc).size wc W1 := by rw [e_W1]; go_grown
    have HS_W1 := Lib.hid (show (World.heap W1).size = (World.heap wc).size + 1 by rw [e_W1]; simp)
    replace hW := hW.trans (Below.mono hb_W1 hW.size)
    replace hI := (hI.below hb_W1).more (Below.size hb_W1)
    have HE_W1 := Lib.hid e_W1
    clear e_W1
    go_wp2_with fail
    rw [← HE_W1.out] at hx_W1 ⊢
    clear HE_W1
    obtain ⟨hl_x, x0, x1⟩ := hx_W1
    obtain ⟨Bx, e_Bx⟩ : ∃ Bx, Bx = (World.heap wc).size := ⟨_, rfl⟩
    rw [← e_Bx] at hl_x x0 x1 hb_W1 HS_W1  ⊢
    have hz_Bx := hb_W1.size
    clear e_Bx hb_W1
    refine (MomentCross_c W _ rows W1 hI).mono ?_
    rintro e wc ⟨rfl, hb⟩
    replace hW := hW.trans (Below.mono hb hW.size)
    replace hI := (hI.below hb).more (Below.size hb)
    replace x0 := cellB hb x0
    replace x1 := cellB hb x1
    go_wp2_with fail
    refine (sMomentCross_c W _ rows _ hI).mono ?_
    rintro e wc ⟨rfl, hb⟩
    replace hW := hW.trans (Below.mono hb hW.size)
    replace hI := (hI.below hb).more (Below.size hb)
    replace x0 := cellB hb x0
    replace x1 := cellB hb x1
    cases hval : validB W rows with
    | false =>
      have e0 : val0 (-1) f_MomentCross_1 W rows = -1 := val0_no hval
      rw [e0]
      clear e0 hval
      go_wp2
      go_returns
      exact ⟨rfl, hW⟩
    | true =>
      obtain ⟨n, ns, rfl, rfl, hV⟩ := validB_yes hval
      have e0 : val0 (-1) f_MomentCross_1 (n : Int) (casts ns) = mom n ns f_MomentCross_1 := val0_yes hV
      rw [e0]
      rw [length_casts] at x1 hI ⊢
      have h6 := hV.h6
      have w6 := hV.w6
      have b1 := (mom_bd25 hV (f := f_MomentCross_1) bd_MomentCross_1).1
      have hle1 : (rowSums n ns).length ≤ 2097152 := by rw [rowSums_len]; omega
      have hle2 : (colSums n ns).length ≤ 2097152 := by rw [colSums_len]; omega
      have hll := (lnN_eq (d := 2) (h := ns.length) (n := n) (by omega) (by omega) (by omega)).2
      have hle3 : (dirO 2 n ns).length ≤ 2097152 := by rw [dirO_len]; omega
      obtain ⟨L, eL⟩ : ∃ L, L = lnN 2 ns.length n := ⟨_, rfl⟩
      have HLN := Lib.hid (show L = lnN 2 ns.length n ∧ (dirO 2 n ns).length = L ∧ (rowSums n ns).length = ns.length ∧ (colSums n ns).length = n from ⟨eL, by rw [eL]; exact dirO_len _ _ _, rowSums_len n ns, colSums_len n ns⟩)
      have HT0 := fun (W : World) (u v t : Value) hu hv ht hD => ThreeFirst_c u v t (rowSums n ns) (colSums n ns) (dirO 2 n ns) hle1 hle2 hle3 W hu hv ht hD
      rw [colSums_len] at HT0
      have HM0 := Lib.hid hV
      obtain ⟨m, em⟩ : ∃ m, m = mom n ns f_MomentCross_1 := ⟨_, rfl⟩
      rw [← em] at b1 ⊢
      have HX2 := Lib.hid (And.intro hI (And.intro x0 (And.intro x1 (And.intro hW (hD.below hW)))))
      obtain ⟨wt, ewt⟩ : ∃ W, W = wc := ⟨_, rfl⟩
      subst ewt
      by_cases hm : ns.length * n ≤ 16
      · obtain ⟨x, hx1, hx2, hx3, hx4⟩ := thr_yes hV hm
        rw [← em] at hx4
        rw [hx1] at HT0
        have HO := Lib.hid (And.intro hx1 (And.intro hx2 (And.intro hx3 hx4)))
        have HT := fun (W : World) {gr gc gd : Nat} hu hv ht hD => (HT0 W (.slice (some ⟨gr, 0, none⟩) ns.length ns.length) (.slice (some ⟨gc, 0, none⟩) n n) (.slice (some ⟨gd, 0, none⟩) L L) hu hv ht hD).mono fun e w' h => (thr_img hx3 h.img')
        clear HT0 hx1 hx2 hx3 hx4 em eL hle1 hle2 hle3 hll hval e0 hI x0 x1 hW
        go_wp2_with fail
        have hId : Ints wt.heap.size wt.drew (.slice B ns.length cp) (casts ns) := HX2.out.1.drew
        have HR := RowSums_c n _ ns hV wt.drew hId
        have hba : Below wt.heap.size wt (wt.alloc (.cells #[.int .i64 0, .slice none 0 0] 25)) := by go_grown
        have HRa := RowSums_c n _ ns hV ((wt.alloc (.cells #[.int .i64 0, .slice none 0 0] 25)).drew) (((HX2.out.1.below hba).more hba.size).drew)
        have hbx := Box2.new wt (.int .i64 0) (.slice none 0 0) 25
        have a0 : (wt.alloc (.cells #[.int .i64 0, .slice none 0 0] 25)).cell? ⟨wt.heap.size, 0, none⟩ = some (.int .i64 0) := hbx.2.1
        have a1 : (wt.alloc (.cells #[.int .i64 0, .slice none 0 0] 25)).cell? ⟨wt.heap.size, 1, none⟩ = some (.slice none 0 0) := hbx.2.2
        have af0 : (wt.alloc (.cells #[.int .i64 0, .slice none 0 0] 25)).frozen? ⟨wt.heap.size, 0, none⟩ = false := newFrozenS wt _ _ _
        have af1 : (wt.alloc (.cells #[.int .i64 0, .slice none 0 0] 25)).frozen? ⟨wt.heap.size, 1, none⟩ = false := newFrozenS wt _ _ _
        have haz : (wt.alloc (.cells #[.int .i64 0, .slice none 0 0] 25)).heap.size = wt.heap.size + 1 := by simp
        have HAZ := Lib.hid haz
        have x0 := HX2.out.2.1
        have x1 := HX2.out.2.2.1
        clear hId hbx haz
        go_region_held3 (fun w' : World => w'.cell? ⟨Bx, 0, none⟩ = some (.int .i64 (n : Int)) ∧ w'.cell? ⟨Bx, 1, none⟩ = some (.slice B ns.length cp)) (first | exact ⟨x0, x1⟩ | (refine ⟨?_, ?_⟩ <;> assumption) | go_keep | (refine ⟨keepAllocS (by assumption), keepAllocS (by assumption)⟩) | (refine ⟨keepSet2S (by assumption) (by first | exact Nat.ne_of_lt (lt_of_cell x0) | exact Nat.ne_of_lt (lt_of_cell p0) | exact Nat.ne_of_lt (lt_of_cell q0) | exact Nat.ne_of_lt (lt_of_cell d0) | exact Nat.ne_of_lt (lt_of_cell z0)), keepSet2S (by assumption) (by first | exact Nat.ne_of_lt (lt_of_cell x0) | exact Nat.ne_of_lt (lt_of_cell p0) | exact Nat.ne_of_lt (lt_of_cell q0) | exact Nat.ne_of_lt (lt_of_cell d0) | exact Nat.ne_of_lt (lt_of_cell z0))⟩)) (first
            | (go_at_call 20; (first
                | ((with_reducible refine HR.mono ?_); rintro e wp ⟨gr, rfl, hgr, hrp, hbp'⟩; have hbp := Below.undrew hbp'; clear hbp')
                | ((with_reducible refine HRa.mono ?_); rintro e wp ⟨gr, rfl, hgr, hrp, hbp'⟩; have hbp2 := Below.undrew hbp'; have hbp := hba.trans (hbp2.mono hba.size); have u0 := cellB hbp2 a0; have u1 := cellB hbp2 a1; have uf0 := frozenB hbp2 a0 af0; have uf1 := frozenB hbp2 a1 af1; have hu : wt.heap.size < wp.heap.size := Nat.lt_of_lt_of_le (by rw [HAZ.out]; omega) hbp2.size; clear hbp' hbp2))
               have p0 := cellB hbp x0
               have p1 := cellB hbp x1
               have hIp := (Ints.below HX2.out.1 hbp).more hbp.size
               have hpa : Below wp.heap.size wp (wp.alloc (.cells #[.int .i64 0, .slice none 0 0] 25)) := by go_grown
               have hpa_b := Box2.new wp (.int .i64 0) (.slice none 0 0) 25
               have hpa0 := hpa_b.2.1
               have hpa1 := hpa_b.2.2
               have hpaf0 := newFrozenS wp #[.int .i64 0, .slice none 0 0] 25 0
               have hpaf1 := newFrozenS wp #[.int .i64 0, .slice none 0 0] 25 1
               have hpaz := Lib.hid (show (wp.alloc (.cells #[.int .i64 0, .slice none 0 0] 25)).heap.size = wp.heap.size + 1 by simp)
               clear hpa_b
               have hIpa := (hIp.below hpa).more hpa.size)
            | (go_at_call 21; (first
                | ((with_reducible refine (ColSums_c n _ ns hV wp hIp).mono ?_); rintro e wq ⟨gc, rfl, hgc, hcq, hbq⟩; (try have uf0 := frozenB hbq u0 uf0); (try have uf1 := frozenB hbq u1 uf1); (try have u0 := cellB hbq u0); (try have u1 := cellB hbq u1))
                | ((with_reducible refine (ColSums_c n _ ns hV (wp.alloc (.cells #[.int .i64 0, .slice none 0 0] 25)) hIpa).mono ?_); rintro e wq ⟨gc, rfl, hgc, hcq, hbq'⟩; have hbq := hpa.trans (hbq'.mono hpa.size); have u0 := cellB hbq' hpa0; have u1 := cellB hbq' hpa1; have uf0 := frozenB hbq' hpa0 hpaf0; have uf1 := frozenB hbq' hpa1 hpaf1; have hu : wp.heap.size < wq.heap.size := Nat.lt_of_lt_of_le (by rw [hpaz.out]; omega) hbq'.size; clear hbq'))
               have q0 := cellB hbq p0
               have q1 := cellB hbq p1
               have hrq := hrp.below hbq hrp.lt
               have hIq := (hIp.below hbq).more hbq.size
               have hDq := (HX2.out.2.2.2.2.below hbp).below hbq
               have hqa : Below wq.heap.size wq (wq.alloc (.cells #[.int .i64 0, .slice none 0 0] 25)) := by go_grown
               have hqa_b := Box2.new wq (.int .i64 0) (.slice none 0 0) 25
               have hqa0 := hqa_b.2.1
               have hqa1 := hqa_b.2.2
               have hqaf0 := newFrozenS wq #[.int .i64 0, .slice none 0 0] 25 0
               have hqaf1 := newFrozenS wq #[.int .i64 0, .slice none 0 0] 25 1
               have hqaz := Lib.hid (show (wq.alloc (.cells #[.int .i64 0, .slice none 0 0] 25)).heap.size = wq.heap.size + 1 by simp)
               clear hqa_b
               have hIqa := (hIq.below hqa).more hqa.size
               have hDqa := hDq.below hqa
               have HDq := DirSums_c 2 n (by omega) (.slice B ns.length cp) ns hV wq hIq hDq
               have HDqa := DirSums_c 2 n (by omega) (.slice B ns.length cp) ns hV (wq.alloc (.cells #[.int .i64 0, .slice none 0 0] 25)) hIqa hDqa
               rw [show ((2 : Nat) : Int) = 2 from rfl, ← HLN.out.1] at HDq HDqa)
            | (go_at_call 10; (first
                | ((with_reducible refine HDq.mono ?_); rintro e wd ⟨gd, rfl, hgd, hdd, hbd⟩; (try have uf0 := frozenB hbd u0 uf0); (try have uf1 := frozenB hbd u1 uf1); (try have u0 := cellB hbd u0); (try have u1 := cellB hbd u1))
                | ((with_reducible refine HDqa.mono ?_); rintro e wd ⟨gd, rfl, hgd, hdd, hbd'⟩; have hbd := hqa.trans (hbd'.mono hqa.size); have u0 := cellB hbd' hqa0; have u1 := cellB hbd' hqa1; have uf0 := frozenB hbd' hqa0 hqaf0; have uf1 := frozenB hbd' hqa1 hqaf1; have hu : wq.heap.size < wd.heap.size := Nat.lt_of_lt_of_le (by rw [hqaz.out]; omega) hbd'.size; clear hbd'))
               have d0 := cellB hbd q0
               have d1 := cellB hbd q1
               have hrd := hrq.below hbd hrq.lt
               have hcd := hcq.below hbd hcq.lt
               have hrI := hrd.ints hrd.lt ns.length
               have hcI := hcd.ints hcd.lt n
               have hdI := hdd.ints hdd.lt L
               rw [HLN.out.2.2.1] at hrI
               rw [HLN.out.2.2.2] at hcI
               rw [HLN.out.2.1] at hdI
               have hDd := hDq.below hbd
               have hda : Below wd.heap.size wd (wd.alloc (.cells #[.int .i64 0, .slice none 0 0] 25)) := by go_grown
               have hda_b := Box2.new wd (.int .i64 0) (.slice none 0 0) 25
               have hda0 := hda_b.2.1
               have hda1 := hda_b.2.2
               have hdaf0 := newFrozenS wd #[.int .i64 0, .slice none 0 0] 25 0
               have hdaf1 := newFrozenS wd #[.int .i64 0, .slice none 0 0] 25 1
               have hdaz := Lib.hid (show (wd.alloc (.cells #[.int .i64 0, .slice none 0 0] 25)).heap.size = wd.heap.size + 1 by simp)
               clear hda_b
               have HTd := HT wd hrI hcI hdI hDd
               have HTda := HT (wd.alloc (.cells #[.int .i64 0, .slice none 0 0] 25)) ((hrI.below hda).more hda.size) ((hcI.below hda).more hda.size) ((hdI.below hda).more hda.size) (hDd.below hda))
            | (go_at_call 19; (first
                | ((with_reducible refine HTd.mono ?_); rintro e wz ⟨g, cg, rfl, hgz, hRz, hbz⟩; (try have uf0 := frozenB hbz u0 uf0); (try have uf1 := frozenB hbz u1 uf1); (try have u0 := cellB hbz u0); (try have u1 := cellB hbz u1))
                | ((with_reducible refine HTda.mono ?_); rintro e wz ⟨g, cg, rfl, hgz', hRz, hbz'⟩; have hbz := hda.trans (hbz'.mono hda.size); have u0 := cellB hbz' hda0; have u1 := cellB hbz' hda1; have uf0 := frozenB hbz' hda0 hdaf0; have uf1 := frozenB hbz' hda1 hdaf1; have hu : wd.heap.size < g := Nat.lt_of_lt_of_le (by rw [hdaz.out]; omega) hgz'; have hgz : wd.heap.size ≤ g := Nat.le_of_lt hu; clear hbz' hgz'))
               have z0 := cellB hbz d0
               have z1 := cellB hbz d1))
        all_goals
          have hch : Below wt.heap.size wt wz := hbp.trans ((hbq.trans ((hbd.trans (hbz.mono hbd.size)).mono hbq.size)).mono hbp.size)
          have hzp := hbp.size
          have hzq := hbq.size
          have hzd := hbd.size
          have hzz := hbz.size
          first
          | (have y0 : (wz.alloc (.cells #[.int .i64 (n : Int), .slice (some ⟨g, 0, none⟩) ns.length cg] 25)).cell? ⟨wz.heap.size, 0, none⟩ = some (.int .i64 (n : Int)) := by go_cell
             have y1 : (wz.alloc (.cells #[.int .i64 (n : Int), .slice (some ⟨g, 0, none⟩) ns.length cg] 25)).cell? ⟨wz.heap.size, 1, none⟩ = some (.slice (some ⟨g, 0, none⟩) ns.length cg) := by go_cell
             have hRf := hRz.alloc (.cells #[.int .i64 (n : Int), .slice (some ⟨g, 0, none⟩) ns.length cg] 25)
             obtain ⟨Wf, eF⟩ : ∃ W, W = wz.alloc (.cells #[.int .i64 (n : Int), .slice (some ⟨g, 0, none⟩) ns.length cg] 25) := ⟨_, rfl⟩
             have hF : Below wt.heap.size wt Wf := by rw [eF]; exact hch.alloc hch.size _
             obtain ⟨Bf, eB⟩ : ∃ B, B = wz.heap.size := ⟨_, rfl⟩
             rw [← eF] at y0 y1 hRf
             rw [← eB] at y0 y1
             rw [← eF, ← eB]
             clear eF eB)
          | (obtain ⟨y0, y1⟩ := set2_get (b := wd.heap.size) (x := .int .i64 (n : Int)) (y := .slice (some ⟨g, 0, none⟩) ns.length cg) u0 u1
             have hRf := (hRz.far (p := ⟨wd.heap.size, 0, none⟩) (by show g ≠ wd.heap.size; omega) (.int .i64 (n : Int))).far (p := ⟨wd.heap.size, 1, none⟩) (by show g ≠ wd.heap.size; omega) (.slice (some ⟨g, 0, none⟩) ns.length cg)
             obtain ⟨Wf, eF⟩ : ∃ W, W = (wz.setCell ⟨wd.heap.size, 0, none⟩ (.int .i64 (n : Int))).setCell ⟨wd.heap.size, 1, none⟩ (.slice (some ⟨g, 0, none⟩) ns.length cg) := ⟨_, rfl⟩
             have hF : Below wt.heap.size wt Wf := by rw [eF]; exact (hch.setCell (by first | exact Nat.le_refl _ | (simp; omega)) _).setCell (by first | exact Nat.le_refl _ | (simp; omega)) _
             obtain ⟨Bf, eB⟩ : ∃ B, B = wd.heap.size := ⟨_, rfl⟩
             rw [← eF] at y0 y1 hRf
             rw [← eF]
             rw [← eB] at y0 y1 ⊢
             clear eF eB)
          | (obtain ⟨y0, y1⟩ := set2_get (b := wq.heap.size) (x := .int .i64 (n : Int)) (y := .slice (some ⟨g, 0, none⟩) ns.length cg) u0 u1
             have hRf := (hRz.far (p := ⟨wq.heap.size, 0, none⟩) (by show g ≠ wq.heap.size; omega) (.int .i64 (n : Int))).far (p := ⟨wq.heap.size, 1, none⟩) (by show g ≠ wq.heap.size; omega) (.slice (some ⟨g, 0, none⟩) ns.length cg)
             obtain ⟨Wf, eF⟩ : ∃ W, W = (wz.setCell ⟨wq.heap.size, 0, none⟩ (.int .i64 (n : Int))).setCell ⟨wq.heap.size, 1, none⟩ (.slice (some ⟨g, 0, none⟩) ns.length cg) := ⟨_, rfl⟩
             have hF : Below wt.heap.size wt Wf := by rw [eF]; exact (hch.setCell (by first | exact Nat.le_refl _ | (simp; omega)) _).setCell (by first | exact Nat.le_refl _ | (simp; omega)) _
             obtain ⟨Bf, eB⟩ : ∃ B, B = wq.heap.size := ⟨_, rfl⟩
             rw [← eF] at y0 y1 hRf
             rw [← eF]
             rw [← eB] at y0 y1 ⊢
             clear eF eB)
          | (obtain ⟨y0, y1⟩ := set2_get (b := wp.heap.size) (x := .int .i64 (n : Int)) (y := .slice (some ⟨g, 0, none⟩) ns.length cg) u0 u1
             have hRf := (hRz.far (p := ⟨wp.heap.size, 0, none⟩) (by show g ≠ wp.heap.size; omega) (.int .i64 (n : Int))).far (p := ⟨wp.heap.size, 1, none⟩) (by show g ≠ wp.heap.size; omega) (.slice (some ⟨g, 0, none⟩) ns.length cg)
             obtain ⟨Wf, eF⟩ : ∃ W, W = (wz.setCell ⟨wp.heap.size, 0, none⟩ (.int .i64 (n : Int))).setCell ⟨wp.heap.size, 1, none⟩ (.slice (some ⟨g, 0, none⟩) ns.length cg) := ⟨_, rfl⟩
             have hF : Below wt.heap.size wt Wf := by rw [eF]; exact (hch.setCell (by first | exact Nat.le_refl _ | (simp; omega)) _).setCell (by first | exact Nat.le_refl _ | (simp; omega)) _
             obtain ⟨Bf, eB⟩ : ∃ B, B = wp.heap.size := ⟨_, rfl⟩
             rw [← eF] at y0 y1 hRf
             rw [← eF]
             rw [← eB] at y0 y1 ⊢
             clear eF eB)
          | (obtain ⟨y0, y1⟩ := set2_get (b := wt.heap.size) (x := .int .i64 (n : Int)) (y := .slice (some ⟨g, 0, none⟩) ns.length cg) u0 u1
             have hRf := (hRz.far (p := ⟨wt.heap.size, 0, none⟩) (by show g ≠ wt.heap.size; omega) (.int .i64 (n : Int))).far (p := ⟨wt.heap.size, 1, none⟩) (by show g ≠ wt.heap.size; omega) (.slice (some ⟨g, 0, none⟩) ns.length cg)
             obtain ⟨Wf, eF⟩ : ∃ W, W = (wz.setCell ⟨wt.heap.size, 0, none⟩ (.int .i64 (n : Int))).setCell ⟨wt.heap.size, 1, none⟩ (.slice (some ⟨g, 0, none⟩) ns.length cg) := ⟨_, rfl⟩
             have hF : Below wt.heap.size wt Wf := by rw [eF]; exact (hch.setCell (by first | exact Nat.le_refl _ | (simp; omega)) _).setCell (by first | exact Nat.le_refl _ | (simp; omega)) _
             obtain ⟨Bf, eB⟩ : ∃ B, B = wt.heap.size := ⟨_, rfl⟩
             rw [← eF] at y0 y1 hRf
             rw [← eF]
             rw [← eB] at y0 y1 ⊢
             clear eF eB)
          have f0 := cellB hF HX2.out.2.1
          have f1 := cellB hF HX2.out.2.2.1
          have HB := Lib.hid (HX2.out.2.2.2.1.trans (hF.mono HX2.out.2.2.2.1.size))
          have ew : IntKind.i64.wrap ((ns.length : Int) * (n : Int)) = (ns.length : Int) * (n : Int) := IntWalk.i64_in _ (by rw [← Int.natCast_mul]; have := Nat.mul_le_mul h6 w6; omega)
          have hcm : ((ns.length : Int) * (n : Int)) = ((ns.length * n : Nat) : Int) := (Int.natCast_mul _ _).symm
          clear hch hbp hbq hbd hbz hF hIp hIpa hrp hrq hcq hrd hcd hdd hrI hcI hdI hDq hDqa hDd hpa hqa hda p0 p1 q0 q1 d0 d1 z0 z1 x0 x1 hzp hzq hzd hzz HR HRa hba a0 a1 af0 af1 hpa0 hpa1 hpaf0 hpaf1 hqa0 hqa1 hqaf0 hqaf1 hda0 hda1 hdaf0 hdaf1 HX2 HDq HDqa HTd HTda HT hIq hIqa hpaz hqaz hdaz HAZ
          (try clear hu)
          (try clear u0 u1 uf0 uf1)
          have hmi : ¬ 16 < (ns.length : Int) * (n : Int) := by rw [hcm]; omega
          clear hcm hm hgz hRz
          go_wp2_with fail
          refine (MomentCross_c (n : Int) _ (casts x) _ (hRf.intsH (h := ns.length) HO.out.2.2.1)).mono ?_
          rintro e wf ⟨rfl, hb⟩
          rw [val0_yes HO.out.2.1, HO.out.2.2.2]
          have HB2 := Lib.hid (HB.out.trans (hb.mono HB.out.size))
          clear hb hRf
          go_wp2
          go_returns
          exact ⟨rfl, HB2.out⟩
      · rw [thr_no hm] at HT0
        have HT := fun (W : World) {gr gc gd : Nat} hu hv ht hD => (HT0 W (.slice (some ⟨gr, 0, none⟩) ns.length ns.length) (.slice (some ⟨gc, 0, none⟩) n n) (.slice (some ⟨gd, 0, none⟩) L L) hu hv ht hD).mono fun e w' h => h.no'
        unfold NoImg at HT
        clear HT0 em eL hle1 hle2 hle3 hll hval e0 hI x0 x1 hW
        go_wp2_with fail
        have hId : Ints wt.heap.size wt.drew (.slice B ns.length cp) (casts ns) := HX2.out.1.drew
        have HR := RowSums_c n _ ns hV wt.drew hId
        have hba : Below wt.heap.size wt (wt.alloc (.cells #[.int .i64 0, .slice none 0 0] 25)) := by go_grown
        have HRa := RowSums_c n _ ns hV ((wt.alloc (.cells #[.int .i64 0, .slice none 0 0] 25)).drew) (((HX2.out.1.below hba).more hba.size).drew)
        have hbx := Box2.new wt (.int .i64 0) (.slice none 0 0) 25
        have a0 : (wt.alloc (.cells #[.int .i64 0, .slice none 0 0] 25)).cell? ⟨wt.heap.size, 0, none⟩ = some (.int .i64 0) := hbx.2.1
        have a1 : (wt.alloc (.cells #[.int .i64 0, .slice none 0 0] 25)).cell? ⟨wt.heap.size, 1, none⟩ = some (.slice none 0 0) := hbx.2.2
        have af0 : (wt.alloc (.cells #[.int .i64 0, .slice none 0 0] 25)).frozen? ⟨wt.heap.size, 0, none⟩ = false := newFrozenS wt _ _ _
        have af1 : (wt.alloc (.cells #[.int .i64 0, .slice none 0 0] 25)).frozen? ⟨wt.heap.size, 1, none⟩ = false := newFrozenS wt _ _ _
        have haz : (wt.alloc (.cells #[.int .i64 0, .slice none 0 0] 25)).heap.size = wt.heap.size + 1 := by simp
        have HAZ := Lib.hid haz
        have x0 := HX2.out.2.1
        have x1 := HX2.out.2.2.1
        clear hId hbx haz
        go_region_held3 (fun w' : World => w'.cell? ⟨Bx, 0, none⟩ = some (.int .i64 (n : Int)) ∧ w'.cell? ⟨Bx, 1, none⟩ = some (.slice B ns.length cp)) (first | exact ⟨x0, x1⟩ | (refine ⟨?_, ?_⟩ <;> assumption) | go_keep | (refine ⟨keepAllocS (by assumption), keepAllocS (by assumption)⟩) | (refine ⟨keepSet2S (by assumption) (by first | exact Nat.ne_of_lt (lt_of_cell x0) | exact Nat.ne_of_lt (lt_of_cell p0) | exact Nat.ne_of_lt (lt_of_cell q0) | exact Nat.ne_of_lt (lt_of_cell d0) | exact Nat.ne_of_lt (lt_of_cell z0)), keepSet2S (by assumption) (by first | exact Nat.ne_of_lt (lt_of_cell x0) | exact Nat.ne_of_lt (lt_of_cell p0) | exact Nat.ne_of_lt (lt_of_cell q0) | exact Nat.ne_of_lt (lt_of_cell d0) | exact Nat.ne_of_lt (lt_of_cell z0))⟩)) (first
            | (go_at_call 20; (first
                | ((with_reducible refine HR.mono ?_); rintro e wp ⟨gr, rfl, hgr, hrp, hbp'⟩; have hbp := Below.undrew hbp'; clear hbp')
                | ((with_reducible refine HRa.mono ?_); rintro e wp ⟨gr, rfl, hgr, hrp, hbp'⟩; have hbp2 := Below.undrew hbp'; have hbp := hba.trans (hbp2.mono hba.size); have u0 := cellB hbp2 a0; have u1 := cellB hbp2 a1; have uf0 := frozenB hbp2 a0 af0; have uf1 := frozenB hbp2 a1 af1; have hu : wt.heap.size < wp.heap.size := Nat.lt_of_lt_of_le (by rw [HAZ.out]; omega) hbp2.size; clear hbp' hbp2))
               have p0 := cellB hbp x0
               have p1 := cellB hbp x1
               have hIp := (Ints.below HX2.out.1 hbp).more hbp.size
               have hpa : Below wp.heap.size wp (wp.alloc (.cells #[.int .i64 0, .slice none 0 0] 25)) := by go_grown
               have hpa_b := Box2.new wp (.int .i64 0) (.slice none 0 0) 25
               have hpa0 := hpa_b.2.1
               have hpa1 := hpa_b.2.2
               have hpaf0 := newFrozenS wp #[.int .i64 0, .slice none 0 0] 25 0
               have hpaf1 := newFrozenS wp #[.int .i64 0, .slice none 0 0] 25 1
               have hpaz := Lib.hid (show (wp.alloc (.cells #[.int .i64 0, .slice none 0 0] 25)).heap.size = wp.heap.size + 1 by simp)
               clear hpa_b
               have hIpa := (hIp.below hpa).more hpa.size)
            | (go_at_call 21; (first
                | ((with_reducible refine (ColSums_c n _ ns hV wp hIp).mono ?_); rintro e wq ⟨gc, rfl, hgc, hcq, hbq⟩; (try have uf0 := frozenB hbq u0 uf0); (try have uf1 := frozenB hbq u1 uf1); (try have u0 := cellB hbq u0); (try have u1 := cellB hbq u1))
                | ((with_reducible refine (ColSums_c n _ ns hV (wp.alloc (.cells #[.int .i64 0, .slice none 0 0] 25)) hIpa).mono ?_); rintro e wq ⟨gc, rfl, hgc, hcq, hbq'⟩; have hbq := hpa.trans (hbq'.mono hpa.size); have u0 := cellB hbq' hpa0; have u1 := cellB hbq' hpa1; have uf0 := frozenB hbq' hpa0 hpaf0; have uf1 := frozenB hbq' hpa1 hpaf1; have hu : wp.heap.size < wq.heap.size := Nat.lt_of_lt_of_le (by rw [hpaz.out]; omega) hbq'.size; clear hbq'))
               have q0 := cellB hbq p0
               have q1 := cellB hbq p1
               have hrq := hrp.below hbq hrp.lt
               have hIq := (hIp.below hbq).more hbq.size
               have hDq := (HX2.out.2.2.2.2.below hbp).below hbq
               have hqa : Below wq.heap.size wq (wq.alloc (.cells #[.int .i64 0, .slice none 0 0] 25)) := by go_grown
               have hqa_b := Box2.new wq (.int .i64 0) (.slice none 0 0) 25
               have hqa0 := hqa_b.2.1
               have hqa1 := hqa_b.2.2
               have hqaf0 := newFrozenS wq #[.int .i64 0, .slice none 0 0] 25 0
               have hqaf1 := newFrozenS wq #[.int .i64 0, .slice none 0 0] 25 1
               have hqaz := Lib.hid (show (wq.alloc (.cells #[.int .i64 0, .slice none 0 0] 25)).heap.size = wq.heap.size + 1 by simp)
               clear hqa_b
               have hIqa := (hIq.below hqa).more hqa.size
               have hDqa := hDq.below hqa
               have HDq := DirSums_c 2 n (by omega) (.slice B ns.length cp) ns hV wq hIq hDq
               have HDqa := DirSums_c 2 n (by omega) (.slice B ns.length cp) ns hV (wq.alloc (.cells #[.int .i64 0, .slice none 0 0] 25)) hIqa hDqa
               rw [show ((2 : Nat) : Int) = 2 from rfl, ← HLN.out.1] at HDq HDqa)
            | (go_at_call 10; (first
                | ((with_reducible refine HDq.mono ?_); rintro e wd ⟨gd, rfl, hgd, hdd, hbd⟩; (try have uf0 := frozenB hbd u0 uf0); (try have uf1 := frozenB hbd u1 uf1); (try have u0 := cellB hbd u0); (try have u1 := cellB hbd u1))
                | ((with_reducible refine HDqa.mono ?_); rintro e wd ⟨gd, rfl, hgd, hdd, hbd'⟩; have hbd := hqa.trans (hbd'.mono hqa.size); have u0 := cellB hbd' hqa0; have u1 := cellB hbd' hqa1; have uf0 := frozenB hbd' hqa0 hqaf0; have uf1 := frozenB hbd' hqa1 hqaf1; have hu : wq.heap.size < wd.heap.size := Nat.lt_of_lt_of_le (by rw [hqaz.out]; omega) hbd'.size; clear hbd'))
               have d0 := cellB hbd q0
               have d1 := cellB hbd q1
               have hrd := hrq.below hbd hrq.lt
               have hcd := hcq.below hbd hcq.lt
               have hrI := hrd.ints hrd.lt ns.length
               have hcI := hcd.ints hcd.lt n
               have hdI := hdd.ints hdd.lt L
               rw [HLN.out.2.2.1] at hrI
               rw [HLN.out.2.2.2] at hcI
               rw [HLN.out.2.1] at hdI
               have hDd := hDq.below hbd
               have hda : Below wd.heap.size wd (wd.alloc (.cells #[.int .i64 0, .slice none 0 0] 25)) := by go_grown
               have hda_b := Box2.new wd (.int .i64 0) (.slice none 0 0) 25
               have hda0 := hda_b.2.1
               have hda1 := hda_b.2.2
               have hdaf0 := newFrozenS wd #[.int .i64 0, .slice none 0 0] 25 0
               have hdaf1 := newFrozenS wd #[.int .i64 0, .slice none 0 0] 25 1
               have hdaz := Lib.hid (show (wd.alloc (.cells #[.int .i64 0, .slice none 0 0] 25)).heap.size = wd.heap.size + 1 by simp)
               clear hda_b
               have HTd := HT wd hrI hcI hdI hDd
               have HTda := HT (wd.alloc (.cells #[.int .i64 0, .slice none 0 0] 25)) ((hrI.below hda).more hda.size) ((hcI.below hda).more hda.size) ((hdI.below hda).more hda.size) (hDd.below hda))
            | (go_at_call 19; (first
                | ((with_reducible refine HTd.mono ?_); rintro e wz ⟨rfl, hbz⟩; (try have uf0 := frozenB hbz u0 uf0); (try have uf1 := frozenB hbz u1 uf1); (try have u0 := cellB hbz u0); (try have u1 := cellB hbz u1))
                | ((with_reducible refine HTda.mono ?_); rintro e wz ⟨rfl, hbz'⟩; have hbz := hda.trans (hbz'.mono hda.size); have u0 := cellB hbz' hda0; have u1 := cellB hbz' hda1; have uf0 := frozenB hbz' hda0 hdaf0; have uf1 := frozenB hbz' hda1 hdaf1; clear hbz'))
               have z0 := cellB hbz d0
               have z1 := cellB hbz d1))
        all_goals
          have hch : Below wt.heap.size wt wz := hbp.trans ((hbq.trans ((hbd.trans (hbz.mono hbd.size)).mono hbq.size)).mono hbp.size)
          have hzp := hbp.size
          have hzq := hbq.size
          have hzd := hbd.size
          have hzz := hbz.size
          first
          | (obtain ⟨Wf, eF⟩ : ∃ W, W = wz.alloc (.cells #[.int .i64 0, .slice none 0 0] 25) := ⟨_, rfl⟩
             have hF : Below wt.heap.size wt Wf := by rw [eF]; exact hch.alloc hch.size _
             rw [← eF]
             clear eF)
          | (obtain ⟨Wf, eF⟩ : ∃ W, W = (wz.setCell ⟨wd.heap.size, 0, none⟩ (.int .i64 0)).setCell ⟨wd.heap.size, 1, none⟩ (.slice none 0 0) := ⟨_, rfl⟩
             have hF : Below wt.heap.size wt Wf := by rw [eF]; exact (hch.setCell (by first | exact Nat.le_refl _ | (simp; omega)) _).setCell (by first | exact Nat.le_refl _ | (simp; omega)) _
             rw [← eF]
             clear eF)
          | (obtain ⟨Wf, eF⟩ : ∃ W, W = (wz.setCell ⟨wq.heap.size, 0, none⟩ (.int .i64 0)).setCell ⟨wq.heap.size, 1, none⟩ (.slice none 0 0) := ⟨_, rfl⟩
             have hF : Below wt.heap.size wt Wf := by rw [eF]; exact (hch.setCell (by first | exact Nat.le_refl _ | (simp; omega)) _).setCell (by first | exact Nat.le_refl _ | (simp; omega)) _
             rw [← eF]
             clear eF)
          | (obtain ⟨Wf, eF⟩ : ∃ W, W = (wz.setCell ⟨wp.heap.size, 0, none⟩ (.int .i64 0)).setCell ⟨wp.heap.size, 1, none⟩ (.slice none 0 0) := ⟨_, rfl⟩
             have hF : Below wt.heap.size wt Wf := by rw [eF]; exact (hch.setCell (by first | exact Nat.le_refl _ | (simp; omega)) _).setCell (by first | exact Nat.le_refl _ | (simp; omega)) _
             rw [← eF]
             clear eF)
          | (obtain ⟨Wf, eF⟩ : ∃ W, W = (wz.setCell ⟨wt.heap.size, 0, none⟩ (.int .i64 0)).setCell ⟨wt.heap.size, 1, none⟩ (.slice none 0 0) := ⟨_, rfl⟩
             have hF : Below wt.heap.size wt Wf := by rw [eF]; exact (hch.setCell (by first | exact Nat.le_refl _ | (simp; omega)) _).setCell (by first | exact Nat.le_refl _ | (simp; omega)) _
             rw [← eF]
             clear eF)
          have f0 := cellB hF HX2.out.2.1
          have f1 := cellB hF HX2.out.2.2.1
          have HB := Lib.hid (HX2.out.2.2.2.1.trans (hF.mono HX2.out.2.2.2.1.size))
          have ew : IntKind.i64.wrap ((ns.length : Int) * (n : Int)) = (ns.length : Int) * (n : Int) := IntWalk.i64_in _ (by rw [← Int.natCast_mul]; have := Nat.mul_le_mul h6 w6; omega)
          have hcm : ((ns.length : Int) * (n : Int)) = ((ns.length * n : Nat) : Int) := (Int.natCast_mul _ _).symm
          clear hch hbp hbq hbd hbz hF hIp hIpa hrp hrq hcq hrd hcd hdd hrI hcI hdI hDq hDqa hDd hpa hqa hda p0 p1 q0 q1 d0 d1 z0 z1 x0 x1 hzp hzq hzd hzz HR HRa hba a0 a1 af0 af1 hpa0 hpa1 hpaf0 hpaf1 hqa0 hqa1 hqaf0 hqaf1 hda0 hda1 hdaf0 hdaf1 HX2 HDq HDqa HTd HTda HT hIq hIqa hpaz hqaz hdaz HAZ
          (try clear hu)
          (try clear u0 u1 uf0 uf1)
          have hmi : 16 < (ns.length : Int) * (n : Int) := by rw [hcm]; omega
          clear hcm hm
          go_wp2
          go_returns
          exact ⟨rfl, HB.out⟩
end Go.Proofs.YtbpjceffkchmbaaDoor
