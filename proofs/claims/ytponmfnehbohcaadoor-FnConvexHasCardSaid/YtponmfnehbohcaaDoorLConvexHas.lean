/- The law that a convex image is counted: it returns true at whatever code, where the table of math/bits stands. Conditions: the code's slice can be read; the table. -/
import Derived.Test.YtponmfnehbohcaaDoorCN
import Derived.Test.YtponmfnehbohcaaDoorCX7
import Derived.Test.YtponmfnehbohcaaDoorIO8
import Derived.Test.YtponmfnehbohcaaDoorKX
import Derived.Test.YtponmfnehbohcaaDoorKY
namespace Go.Proofs.YtponmfnehbohcaaDoor
open Go.RowKit
open Gr
theorem keepAlloc {w : World} {p : Addr} {v : Value} {o : Obj} (h : w.cell? p = some v) : (w.alloc o).cell? p = some v := (World.cell?_alloc_lt w o p (lt_of_cell h)).trans h
theorem keepSet2 {w : World} {b k : Nat} {o : Nat} {v1 v2 v : Value} (h : w.cell? ⟨k, o, none⟩ = some v) (hne : ¬ k = b) : ((w.setCell ⟨b, 0, none⟩ v1).setCell ⟨b, 1, none⟩ v2).cell? ⟨k, o, none⟩ = some v :=
  (World.cell?_setCell_other _ _ _ _ (by simp [hne])).trans ((World.cell?_setCell_other _ _ _ _ (by simp [hne])).trans h)
theorem newFrozen (w : World) (cs : Array Value) (T : TypeId) (k : Nat) : (w.alloc (.cells cs T)).frozen? ⟨w.heap.size, k, none⟩ = false := by simp
theorem FirstOut.plain {w w' : World} {wd : Nat} {o : Option (List Nat)} {e : Ending} (h : FirstOut w wd o e w') : ∃ (a : Int) (A : Option Addr) (n c : Nat), e = .returned (.tuple #[.agg #[.int .i64 a, .slice A n c], .bool o.isSome]) ∧ Below w.heap.size w w' := by
  rcases h with ⟨ns, rfl, g, c, rfl, _, _, hb⟩ | ⟨rfl, rfl, hb⟩
  · exact ⟨_, _, _, _, rfl, hb⟩
  · exact ⟨_, _, _, _, rfl, hb⟩
theorem first_has {n : Nat} {ns : List Nat} (hV : VImg n ns) (h : cvxB n ns = true) (hm : ns.length * n ≤ 16) : (firstO (rowSums n ns) (colSums n ns)).isSome = true := by
  unfold firstO
  rw [if_pos (ct_of (sums_img hV) (by rw [rowSums_len, colSums_len]; exact hm)), colSums_len, List.find?_isSome]
  exact ⟨ns, img_gen hV, h⟩
theorem first_big {n : Nat} {ns : List Nat} (hm : ¬ ns.length * n ≤ 16) : (firstO (rowSums n ns) (colSums n ns)).isSome = false := by
  unfold firstO
  rw [if_neg (by rw [ct_big hm]; decide)]
  rfl
set_option maxRecDepth 100000 in
set_option maxHeartbeats 8000000 in
theorem convexHas_walk (A : Option Addr) (len cap : Nat) (hlc : len ≤ cap) (w : World) (hc : Code8 w w.heap.size A len) (hT : Tab w) :
    Calls Tryd.prog 5 #[.slice A len cap] w fun e w' => e = .returned (.bool true) ∧ Below w.heap.size w w' := by
  by_cases hbig : 1048576 < len
  · go_enter Tryd.func5, Tryd.ntmps5
    go_wp2
    go_returns
    exact ⟨rfl, Below.refl _ _⟩
  · go_enter Tryd.func5, Tryd.ntmps5
    go_wp2_with fail
    refine (DrawImageConvex_c A len cap hlc w hc).mono ?_
    rintro e wc ⟨W, v, rows, rfl, hI, hl6, hW⟩
    obtain ⟨B, cp, rfl⟩ := hI.len
    obtain ⟨W1, e_W1⟩ : ∃ W0, W0 = World.alloc wc (.cells #[.int .i64 W, .slice B rows.length cp] 31) := ⟨_, rfl⟩
    have hx_W1 := Box2.new wc (.int .i64 W) (.slice B rows.length cp) 31
    have hb_W1 : Below (World.heap wc).size wc W1 := by rw [e_W1]; go_grown
    have HS_W1 := Lib.hid (show (World.heap W1).size = (World.heap wc).size + 1 by rw [e_W1]; simp)
    replace hW := hW.trans (Below.mono hb_W1 hW.size)
    replace hI := (hI.below hb_W1).more (Below.size hb_W1)
    have HE_W1 := Lib.hid e_W1
    clear e_W1
    go_wp2_with fail
    rw [← HE_W1.out] at hx_W1 ⊢
    clear HE_W1
    obtain ⟨hl_x, x0, x1⟩ := hx_W1
    obtain ⟨Bx, e_Bx⟩ : ∃ Bx, Bx = (World.heap wc).size := ⟨_, rfl⟩
    rw [← e_Bx] at hl_x x0 x1 hb_W1 HS_W1  ⊢
    have hz_Bx := hb_W1.size
    clear e_Bx hb_W1
    refine (ImageConvex_c W _ rows W1 hI (hT.below hW)).mono ?_
    rintro e wc ⟨rfl, hb⟩
    replace hW := hW.trans (Below.mono hb hW.size)
    replace hI := (hI.below hb).more (Below.size hb)
    replace x0 := cellB hb x0
    replace x1 := cellB hb x1
    go_wp2_with fail
    refine (sImageConvex_c W _ rows _ hI).mono ?_
    rintro e wc ⟨rfl, hb⟩
    replace hW := hW.trans (Below.mono hb hW.size)
    replace hI := (hI.below hb).more (Below.size hb)
    replace x0 := cellB hb x0
    replace x1 := cellB hb x1
    cases hpo : cvxO W rows with
    | false =>
      clear hpo
      go_wp2
      go_returns
      exact ⟨rfl, hW⟩
    | true =>
      have hva : validB W rows = true := by
        cases h : validB W rows with
        | true => rfl
        | false => rw [cvxO_no h] at hpo; cases hpo
      obtain ⟨n, ns, rfl, rfl, hV⟩ := validB_yes hva
      rw [cvxO_yes hV] at hpo
      rw [length_casts] at x1 hI ⊢
      have h6 := hV.h6
      have w6 := hV.w6
      have hle1 : (rowSums n ns).length ≤ 2097152 := by rw [rowSums_len]; omega
      have hle2 : (colSums n ns).length ≤ 2097152 := by rw [colSums_len]; omega
      have hl1 := rowSums_len n ns
      have hl2 := colSums_len n ns
      have hn : if ns.length * n ≤ 16 then 0 < nConvexCount (rowSums n ns) (colSums n ns) ∧ (firstO (rowSums n ns) (colSums n ns)).isSome = true else nConvexCount (rowSums n ns) (colSums n ns) = -1 ∧ (firstO (rowSums n ns) (colSums n ns)).isSome = false := by
        split
        · rename_i h; exact ⟨convex_has hV hpo h, first_has hV hpo h⟩
        · rename_i h; exact ⟨by unfold nConvexCount; rw [if_neg (by rw [ct_big h]; decide)], first_big h⟩
      obtain ⟨N, eN⟩ : ∃ N, N = nConvexCount (rowSums n ns) (colSums n ns) := ⟨_, rfl⟩
      obtain ⟨pp, eP⟩ : ∃ N, N = (firstO (rowSums n ns) (colSums n ns)).isSome := ⟨_, rfl⟩
      rw [← eN, ← eP] at hn
      have HN := Lib.hid (And.intro hn (And.intro eN eP))
      have hTc := hT.below hW
      have HX := Lib.hid (And.intro hI (And.intro x0 x1))
      have HW := Lib.hid hW
      clear hpo hn eN eP hI hW hva
      go_wp2_with fail
      have hId : Ints wc.heap.size wc.drew (.slice B ns.length cp) (casts ns) := HX.out.1.drew
      have HR := RowSums_c n _ ns hV wc.drew hId
      have x0 := HX.out.2.1
      have x1 := HX.out.2.2
      clear hId
      go_region_held3 (fun w' : World => w'.cell? ⟨Bx, 0, none⟩ = some (.int .i64 (n : Int)) ∧ w'.cell? ⟨Bx, 1, none⟩ = some (.slice B ns.length cp)) (first | exact ⟨x0, x1⟩ | (refine ⟨?_, ?_⟩ <;> assumption) | go_keep) (first | (go_at_call 19; (with_reducible refine HR.mono ?_); rintro e wp ⟨gr, rfl, hgr, hrp, hbp'⟩; have hbp := Below.undrew hbp'; have p0 := cellB hbp x0; have p1 := cellB hbp x1; have hIp := (Ints.below HX.out.1 hbp).more hbp.size; clear hbp') | (go_at_call 20; (refine (ColSums_c n _ ns hV wp hIp).mono ?_); rintro e wq ⟨gc, rfl, hgc, hcq, hbq⟩; have q0 := cellB hbq p0; have q1 := cellB hbq p1; have hrq := hrp.below hbq hrp.lt; have hrI := hrq.ints hrq.lt ns.length; have hcI := hcq.ints hcq.lt n; rw [hl1] at hrI; rw [hl2] at hcI; have hTq := (hTc.below hbp).below hbq) | (go_at_call 12; (refine (ConvexCount_c _ _ (rowSums n ns) (colSums n ns) hle1 hle2 wq hrI hcI hTq).mono ?_); rintro e wt ⟨rfl, hbt⟩; rw [← HN.out.2.1]; have t0 := cellB hbt q0; have t1 := cellB hbt q1))
      have hbpq := hbp.trans (hbq.mono hbp.size)
      have hbpt := hbpq.trans (hbt.mono hbpq.size)
      have hI := (HX.out.1.below hbpt).more hbpt.size
      have hTt := hTc.below hbpt
      have hW := HW.out.trans (hbpt.mono HW.out.size)
      have HX2 := Lib.hid (And.intro hI (And.intro t0 (And.intro t1 hW)))
      clear hbp hbq hbt hbpq hbpt hIp hrp hrq hcq hrI hcI HR p0 p1 q0 q1 x0 x1 hTq HX HW hI hW
      go_wp2_with fail
      obtain ⟨o, eo⟩ : ∃ o : Obj, o = .cells #[.int .i64 0, .slice none 0 0] 31 := ⟨_, rfl⟩
      have hId : Ints wt.heap.size wt.drew (.slice B ns.length cp) (casts ns) := HX2.out.1.drew
      have HR := RowSums_c n _ ns hV wt.drew hId
      have hba : Below wt.heap.size wt (wt.alloc (.cells #[.int .i64 0, .slice none 0 0] 31)) := by go_grown
      have HRa := RowSums_c n _ ns hV ((wt.alloc (.cells #[.int .i64 0, .slice none 0 0] 31)).drew) (((HX2.out.1.below hba).more hba.size).drew)
      have hbx := Box2.new wt (.int .i64 0) (.slice none 0 0) 31
      have a0 : (wt.alloc (.cells #[.int .i64 0, .slice none 0 0] 31)).cell? ⟨wt.heap.size, 0, none⟩ = some (.int .i64 0) := hbx.2.1
      have a1 : (wt.alloc (.cells #[.int .i64 0, .slice none 0 0] 31)).cell? ⟨wt.heap.size, 1, none⟩ = some (.slice none 0 0) := hbx.2.2
      have af0 : (wt.alloc (.cells #[.int .i64 0, .slice none 0 0] 31)).frozen? ⟨wt.heap.size, 0, none⟩ = false := newFrozen wt _ _ _
      have af1 : (wt.alloc (.cells #[.int .i64 0, .slice none 0 0] 31)).frozen? ⟨wt.heap.size, 1, none⟩ = false := newFrozen wt _ _ _
      clear hbx
      have x0 := HX2.out.2.1
      have x1 := HX2.out.2.2.1
      clear hId eo o
      go_region_held3 (fun w' : World => w'.cell? ⟨Bx, 0, none⟩ = some (.int .i64 (n : Int)) ∧ w'.cell? ⟨Bx, 1, none⟩ = some (.slice B ns.length cp)) (first | exact ⟨x0, x1⟩ | (refine ⟨?_, ?_⟩ <;> assumption) | go_keep | (refine ⟨keepAlloc (by assumption), keepAlloc (by assumption)⟩) | (refine ⟨keepSet2 (by assumption) (by first | exact Nat.ne_of_lt (lt_of_cell x0) | exact Nat.ne_of_lt (lt_of_cell p0) | exact Nat.ne_of_lt (lt_of_cell q0) | exact Nat.ne_of_lt (lt_of_cell z0)), keepSet2 (by assumption) (by first | exact Nat.ne_of_lt (lt_of_cell x0) | exact Nat.ne_of_lt (lt_of_cell p0) | exact Nat.ne_of_lt (lt_of_cell q0) | exact Nat.ne_of_lt (lt_of_cell z0))⟩)) (first
        | (go_at_call 19; (first
            | ((with_reducible refine HR.mono ?_); rintro e wp ⟨gr, rfl, hgr, hrp, hbp'⟩; have hbp := Below.undrew hbp'; clear hbp')
            | ((with_reducible refine HRa.mono ?_); rintro e wp ⟨gr, rfl, hgr, hrp, hbp'⟩; have hbp2 := Below.undrew hbp'; have hbp := hba.trans (hbp2.mono hba.size); have u0 := cellB hbp2 a0; have u1 := cellB hbp2 a1; have uf0 := frozenB hbp2 a0 af0; have uf1 := frozenB hbp2 a1 af1; clear hbp' hbp2))
           have p0 := cellB hbp x0
           have p1 := cellB hbp x1
           have hIp := (Ints.below HX2.out.1 hbp).more hbp.size
           have hpa : Below wp.heap.size wp (wp.alloc (.cells #[.int .i64 0, .slice none 0 0] 31)) := by go_grown
           have hpa_b := Box2.new wp (.int .i64 0) (.slice none 0 0) 31
           have hpa0 := hpa_b.2.1
           have hpa1 := hpa_b.2.2
           have hpaf0 := newFrozen wp #[.int .i64 0, .slice none 0 0] 31 0
           have hpaf1 := newFrozen wp #[.int .i64 0, .slice none 0 0] 31 1
           clear hpa_b
           have hIpa := (hIp.below hpa).more hpa.size)
        | (go_at_call 20; (first
            | ((with_reducible refine (ColSums_c n _ ns hV wp hIp).mono ?_); rintro e wq ⟨gc, rfl, hgc, hcq, hbq⟩; (try have uf0 := frozenB hbq u0 uf0); (try have uf1 := frozenB hbq u1 uf1); (try have u0 := cellB hbq u0); (try have u1 := cellB hbq u1))
            | ((with_reducible refine (ColSums_c n _ ns hV (wp.alloc (.cells #[.int .i64 0, .slice none 0 0] 31)) hIpa).mono ?_); rintro e wq ⟨gc, rfl, hgc, hcq, hbq'⟩; have hbq := hpa.trans (hbq'.mono hpa.size); have u0 := cellB hbq' hpa0; have u1 := cellB hbq' hpa1; have uf0 := frozenB hbq' hpa0 hpaf0; have uf1 := frozenB hbq' hpa1 hpaf1; clear hbq'))
           have q0 := cellB hbq p0
           have q1 := cellB hbq p1
           have hrq := hrp.below hbq hrp.lt
           have hrI := hrq.ints hrq.lt ns.length
           have hcI := hcq.ints hcq.lt n
           rw [hl1] at hrI
           rw [hl2] at hcI
           have hTq := (hTt.below hbp).below hbq
           have hqa : Below wq.heap.size wq (wq.alloc (.cells #[.int .i64 0, .slice none 0 0] 31)) := by go_grown
           have hqa_b := Box2.new wq (.int .i64 0) (.slice none 0 0) 31
           have hqa0 := hqa_b.2.1
           have hqa1 := hqa_b.2.2
           have hqaf0 := newFrozen wq #[.int .i64 0, .slice none 0 0] 31 0
           have hqaf1 := newFrozen wq #[.int .i64 0, .slice none 0 0] 31 1
           clear hqa_b
           have hrIa := (hrI.below hqa).more hqa.size
           have hcIa := (hcI.below hqa).more hqa.size
           have hTqa := hTq.below hqa)
        | (go_at_call 21; (first
            | ((with_reducible refine (ConvexFirst_c _ _ (rowSums n ns) (colSums n ns) hle1 hle2 wq hrI hcI hTq).mono ?_); rintro e wz hz; obtain ⟨ra, rA, rn, rc, rfl, hbz⟩ := hz.plain; (try have uf0 := frozenB hbz u0 uf0); (try have uf1 := frozenB hbz u1 uf1); (try have u0 := cellB hbz u0); (try have u1 := cellB hbz u1))
            | ((with_reducible refine (ConvexFirst_c _ _ (rowSums n ns) (colSums n ns) hle1 hle2 (wq.alloc (.cells #[.int .i64 0, .slice none 0 0] 31)) hrIa hcIa hTqa).mono ?_); rintro e wz hz; obtain ⟨ra, rA, rn, rc, rfl, hbz'⟩ := hz.plain; have hbz := hqa.trans (hbz'.mono hqa.size); have u0 := cellB hbz' hqa0; have u1 := cellB hbz' hqa1; have uf0 := frozenB hbz' hqa0 hqaf0; have uf1 := frozenB hbz' hqa1 hqaf1; clear hbz'))
           rw [← HN.out.2.2]
           have z0 := cellB hbz q0
           have z1 := cellB hbz q1
           clear hz))
      all_goals
        have hch : Below wt.heap.size wt wz := hbp.trans ((hbq.trans (hbz.mono hbq.size)).mono hbp.size)
        have hzp := hbp.size
        have hzq := hbq.size
        first
        | (obtain ⟨Wf, eF⟩ : ∃ W, W = wz.alloc (.cells #[.int .i64 ra, .slice rA rn rc] 31) := ⟨_, rfl⟩
           have hF : Below wt.heap.size wt Wf := by rw [eF]; exact hch.alloc hch.size _
           rw [← eF]
           clear eF)
        | (obtain ⟨Wf, eF⟩ : ∃ W, W = (wz.setCell ⟨wq.heap.size, 0, none⟩ (.int .i64 ra)).setCell ⟨wq.heap.size, 1, none⟩ (.slice rA rn rc) := ⟨_, rfl⟩
           have hF : Below wt.heap.size wt Wf := by rw [eF]; exact (hch.setCell (by first | exact Nat.le_refl _ | (simp; omega)) _).setCell (by first | exact Nat.le_refl _ | (simp; omega)) _
           rw [← eF]
           clear eF)
        | (obtain ⟨Wf, eF⟩ : ∃ W, W = (wz.setCell ⟨wp.heap.size, 0, none⟩ (.int .i64 ra)).setCell ⟨wp.heap.size, 1, none⟩ (.slice rA rn rc) := ⟨_, rfl⟩
           have hF : Below wt.heap.size wt Wf := by rw [eF]; exact (hch.setCell (by first | exact Nat.le_refl _ | (simp; omega)) _).setCell (by first | exact Nat.le_refl _ | (simp; omega)) _
           rw [← eF]
           clear eF)
        | (obtain ⟨Wf, eF⟩ : ∃ W, W = (wz.setCell ⟨wt.heap.size, 0, none⟩ (.int .i64 ra)).setCell ⟨wt.heap.size, 1, none⟩ (.slice rA rn rc) := ⟨_, rfl⟩
           have hF : Below wt.heap.size wt Wf := by rw [eF]; exact (hch.setCell (by first | exact Nat.le_refl _ | (simp; omega)) _).setCell (by first | exact Nat.le_refl _ | (simp; omega)) _
           rw [← eF]
           clear eF)
        have f0 := cellB hF HX2.out.2.1
        have f1 := cellB hF HX2.out.2.2.1
        have HB := Lib.hid (HX2.out.2.2.2.trans (hF.mono HX2.out.2.2.2.size))
        have ew : IntKind.i64.wrap ((ns.length : Int) * (n : Int)) = (ns.length : Int) * (n : Int) := IntWalk.i64_in _ (by rw [← Int.natCast_mul]; have := Nat.mul_le_mul h6 w6; omega)
        have hcm : ((ns.length : Int) * (n : Int)) = ((ns.length * n : Nat) : Int) := (Int.natCast_mul _ _).symm
        clear hch hbp hbq hbz hF hIp hIpa hrp hrq hcq hrI hcI hTq hTqa hrIa hcIa hpa hqa p0 p1 q0 q1 z0 z1 x0 x1 hzp hzq HR HRa hba a0 a1 af0 af1 hpa0 hpa1 hpaf0 hpaf1 hqa0 hqa1 hqaf0 hqaf1 HX2
        (try clear u0 u1 uf0 uf1)
        by_cases hm : ns.length * n ≤ 16
        · have hN0 : 0 < N ∧ pp = true := by have := HN.out.1; rwa [if_pos hm] at this
          obtain ⟨hN1, rfl⟩ := hN0
          have hmi : ¬ 16 < (ns.length : Int) * (n : Int) := by rw [hcm]; omega
          clear hcm hm HN
          go_wp2
          go_returns
          exact ⟨rfl, HB.out⟩
        · have hN0 : N = -1 ∧ pp = false := by have := HN.out.1; rwa [if_neg hm] at this
          obtain ⟨hN1, rfl⟩ := hN0
          have hmi : 16 < (ns.length : Int) * (n : Int) := by rw [hcm]; omega
          subst hN1
          clear hcm hm HN
          go_wp2
          go_returns
          exact ⟨rfl, HB.out⟩
end Go.Proofs.YtponmfnehbohcaaDoor
