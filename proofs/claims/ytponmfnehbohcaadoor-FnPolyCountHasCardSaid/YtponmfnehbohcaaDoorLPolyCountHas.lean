/- The law that a convex polyomino is counted: it returns true at whatever code, where the table of math/bits stands. Conditions: the code's slice can be read; the table. -/
import Derived.Test.YtponmfnehbohcaaDoorCN
import Derived.Test.YtponmfnehbohcaaDoorCX7
import Derived.Test.YtponmfnehbohcaaDoorKX
import Derived.Test.YtponmfnehbohcaaDoorKY
namespace Go.Proofs.YtponmfnehbohcaaDoor
open Go.RowKit
open Gr
set_option maxRecDepth 100000 in
set_option maxHeartbeats 4000000 in
theorem polyCountHas_walk (A : Option Addr) (len cap : Nat) (hlc : len ≤ cap) (w : World) (hc : Code8 w w.heap.size A len) (hT : Tab w) :
    Calls Tryd.prog 8 #[.slice A len cap] w fun e w' => e = .returned (.bool true) ∧ Below w.heap.size w w' := by
  by_cases hbig : 1048576 < len
  · go_enter Tryd.func8, Tryd.ntmps8
    go_wp2
    go_returns
    exact ⟨rfl, Below.refl _ _⟩
  · go_enter Tryd.func8, Tryd.ntmps8
    go_wp2_with fail
    refine (DrawImagePoly_c A len cap hlc w hc).mono ?_
    rintro e wc ⟨W, v, rows, rfl, hI, hl6, hW⟩
    obtain ⟨B, cp, rfl⟩ := hI.len
    obtain ⟨W1, e_W1⟩ : ∃ W0, W0 = World.alloc wc (.cells #[.int .i64 W, .slice B rows.length cp] 31) := ⟨_, rfl⟩
    have hx_W1 := Box2.new wc (.int .i64 W) (.slice B rows.length cp) 31
    have hb_W1 : Below (World.heap wc).size wc W1 := by rw [e_W1]; go_grown
    have HS_W1 := Lib.hid (show (World.heap W1).size = (World.heap wc).size + 1 by rw [e_W1]; simp)
    replace hW := hW.trans (Below.mono hb_W1 hW.size)
    replace hI := (hI.below hb_W1).more (Below.size hb_W1)
    have HE_W1 := Lib.hid e_W1
    clear e_W1
    go_wp2_with fail
    rw [← HE_W1.out] at hx_W1 ⊢
    clear HE_W1
    obtain ⟨hl_x, x0, x1⟩ := hx_W1
    obtain ⟨Bx, e_Bx⟩ : ∃ Bx, Bx = (World.heap wc).size := ⟨_, rfl⟩
    rw [← e_Bx] at hl_x x0 x1 hb_W1 HS_W1  ⊢
    have hz_Bx := hb_W1.size
    clear e_Bx hb_W1
    refine (ImagePoly_c W _ rows W1 hI (hT.below hW)).mono ?_
    rintro e wc ⟨rfl, hb⟩
    replace hW := hW.trans (Below.mono hb hW.size)
    replace hI := (hI.below hb).more (Below.size hb)
    replace x0 := cellB hb x0
    replace x1 := cellB hb x1
    go_wp2_with fail
    refine (sImagePoly_c W _ rows _ hI).mono ?_
    rintro e wc ⟨rfl, hb⟩
    replace hW := hW.trans (Below.mono hb hW.size)
    replace hI := (hI.below hb).more (Below.size hb)
    replace x0 := cellB hb x0
    replace x1 := cellB hb x1
    cases hpo : polyO W rows with
    | false =>
      clear hpo
      go_wp2
      go_returns
      exact ⟨rfl, hW⟩
    | true =>
      obtain ⟨n, ns, rfl, rfl, hV, hcx, hpt⟩ := polyO_valid hpo
      rw [length_casts] at x1 hI ⊢
      have h6 := hV.h6
      have w6 := hV.w6
      have hpb : polyB n ns = true := by unfold polyB; rw [hcx, hpt]; rfl
      have hle1 : (rowSums n ns).length ≤ 2097152 := by rw [rowSums_len]; omega
      have hle2 : (colSums n ns).length ≤ 2097152 := by rw [colSums_len]; omega
      have hl1 := rowSums_len n ns
      have hl2 := colSums_len n ns
      have hn : if ns.length * n ≤ 16 then 0 < nPolyCount (rowSums n ns) (colSums n ns) else nPolyCount (rowSums n ns) (colSums n ns) = -1 := by
        split
        · rename_i h; exact poly_has hV hpb h
        · rename_i h; unfold nPolyCount; rw [if_neg (by rw [ct_big h]; decide)]
      obtain ⟨N, eN⟩ : ∃ N, N = nPolyCount (rowSums n ns) (colSums n ns) := ⟨_, rfl⟩
      rw [← eN] at hn
      have HN := Lib.hid (And.intro hn eN)
      have hTc := hT.below hW
      have HX := Lib.hid (And.intro hI (And.intro x0 x1))
      have HW := Lib.hid hW
      clear hpo hcx hpt hpb hn eN hI hW
      go_wp2_with fail
      have hId : Ints wc.heap.size wc.drew (.slice B ns.length cp) (casts ns) := HX.out.1.drew
      have HR := RowSums_c n _ ns hV wc.drew hId
      have x0 := HX.out.2.1
      have x1 := HX.out.2.2
      clear hId
      go_region_held3 (fun w' : World => w'.cell? ⟨Bx, 0, none⟩ = some (.int .i64 (n : Int)) ∧ w'.cell? ⟨Bx, 1, none⟩ = some (.slice B ns.length cp)) (first | exact ⟨x0, x1⟩ | (refine ⟨?_, ?_⟩ <;> assumption) | go_keep) (first | (go_at_call 19; (with_reducible refine HR.mono ?_); rintro e wp ⟨gr, rfl, hgr, hrp, hbp'⟩; have hbp := Below.undrew hbp'; have p0 := cellB hbp x0; have p1 := cellB hbp x1; have hIp := (Ints.below HX.out.1 hbp).more hbp.size; clear hbp') | (go_at_call 20; (refine (ColSums_c n _ ns hV wp hIp).mono ?_); rintro e wq ⟨gc, rfl, hgc, hcq, hbq⟩; have q0 := cellB hbq p0; have q1 := cellB hbq p1; have hrq := hrp.below hbq hrp.lt; have hrI := hrq.ints hrq.lt ns.length; have hcI := hcq.ints hcq.lt n; rw [hl1] at hrI; rw [hl2] at hcI; have hTq := (hTc.below hbp).below hbq) | (go_at_call 10; (refine (PolyCount_c _ _ (rowSums n ns) (colSums n ns) hle1 hle2 wq hrI hcI hTq).mono ?_); rintro e wt ⟨rfl, hbt⟩; rw [← HN.out.2]; have t0 := cellB hbt q0; have t1 := cellB hbt q1))
      have hbpq := hbp.trans (hbq.mono hbp.size)
      have hbpt := hbpq.trans (hbt.mono hbpq.size)
      have HB := Lib.hid (HW.out.trans (hbpt.mono HW.out.size))
      have ew : IntKind.i64.wrap ((ns.length : Int) * (n : Int)) = (ns.length : Int) * (n : Int) := IntWalk.i64_in _ (by rw [← Int.natCast_mul]; have := Nat.mul_le_mul h6 w6; omega)
      have hcm : ((ns.length : Int) * (n : Int)) = ((ns.length * n : Nat) : Int) := (Int.natCast_mul _ _).symm
      by_cases hm : ns.length * n ≤ 16
      · have hN0 : 0 < N := by have := HN.out.1; rwa [if_pos hm] at this
        have hmi : ¬ 16 < (ns.length : Int) * (n : Int) := by rw [hcm]; omega
        clear hbp hbq hbt hbpq hbpt hcm hm hIp hrp hrq hcq hrI hcI HR p0 p1 q0 q1 x0 x1
        go_wp2
        go_returns
        exact ⟨rfl, HB.out⟩
      · have hN0 : N = -1 := by have := HN.out.1; rwa [if_neg hm] at this
        have hmi : 16 < (ns.length : Int) * (n : Int) := by rw [hcm]; omega
        subst hN0
        clear hbp hbq hbt hbpq hbpt hcm hm hIp hrp hrq hcq hrI hcI HR p0 p1 q0 q1 x0 x1
        go_wp2
        go_returns
        exact ⟨rfl, HB.out⟩
end Go.Proofs.YtponmfnehbohcaaDoor
