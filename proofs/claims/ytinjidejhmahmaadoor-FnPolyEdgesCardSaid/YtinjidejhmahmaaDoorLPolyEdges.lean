/- The law of the sides of a polyomino: it returns true at whatever code, where the tables stand. Conditions: the code's slice can be read; the tables. -/
import Derived.Test.YtinjidejhmahmaaDoorPG2
import Derived.Test.YtinjidejhmahmaaDoorED
import Derived.Test.YtinjidejhmahmaaDoorCP1
import Derived.Test.YtinjidejhmahmaaDoorCX5
import Derived.Test.YtinjidejhmahmaaDoorCX7
namespace Go.Proofs.YtinjidejhmahmaaDoor
open Go.RowKit
open Gr
set_option maxRecDepth 100000 in
set_option maxHeartbeats 8000000 in
theorem polyEdges_walk (A : Option Addr) (len cap : Nat) (hlc : len ≤ cap) (w : World) (hc : Code8 w w.heap.size A len) (hT : Tab w) (hSd : Sides w) :
    Calls Tryd.prog 9 #[.slice A len cap] w fun e w' => e = .returned (.bool true) ∧ Below w.heap.size w w' := by
  by_cases hb1 : 1048576 < len
  · go_enter Tryd.func9, Tryd.ntmps9
    go_wp2
    go_returns
    exact ⟨rfl, Below.refl _ _⟩
  · have HTS := Lib.hid (And.intro hT hSd)
    clear hT hSd
    go_enter Tryd.func9, Tryd.ntmps9
    go_wp2_with fail
    refine (DrawImagePoly_c A len cap hlc w hc).mono ?_
    rintro e wc ⟨W, v, rows, rfl, hI, hl6, hW⟩
    obtain ⟨B, cp, rfl⟩ := hI.len
    obtain ⟨W1, e_W1⟩ : ∃ W0, W0 = World.alloc wc (.cells #[.int .i64 W, .slice B rows.length cp] 27) := ⟨_, rfl⟩
    have hx_W1 := Box2.new wc (.int .i64 W) (.slice B rows.length cp) 27
    have hb_W1 : Below (World.heap wc).size wc W1 := by rw [e_W1]; go_grown
    have HS_W1 := Lib.hid (show (World.heap W1).size = (World.heap wc).size + 1 by rw [e_W1]; simp)
    replace hW := hW.trans (Below.mono hb_W1 hW.size)
    replace hI := (hI.below hb_W1).more (Below.size hb_W1)
    have HE_W1 := Lib.hid e_W1
    clear e_W1
    go_wp2_with fail
    rw [← HE_W1.out] at hx_W1 ⊢
    clear HE_W1
    obtain ⟨hl_x, x0, x1⟩ := hx_W1
    obtain ⟨Bx, e_Bx⟩ : ∃ Bx, Bx = (World.heap wc).size := ⟨_, rfl⟩
    rw [← e_Bx] at hl_x x0 x1 hb_W1 HS_W1  ⊢
    have hz_Bx := hb_W1.size
    clear e_Bx hb_W1
    refine (ImagePoly_c W _ rows W1 hI (HTS.out.1.below hW)).mono ?_
    rintro e wc ⟨rfl, hb⟩
    replace hW := hW.trans (Below.mono hb hW.size)
    replace hI := (hI.below hb).more (Below.size hb)
    replace x0 := cellB hb x0
    replace x1 := cellB hb x1
    go_wp2_with fail
    refine (sImagePoly_c W _ rows _ hI).mono ?_
    rintro e wc ⟨rfl, hb⟩
    replace hW := hW.trans (Below.mono hb hW.size)
    replace hI := (hI.below hb).more (Below.size hb)
    replace x0 := cellB hb x0
    replace x1 := cellB hb x1
    cases hpo : polyO W rows with
    | false =>
      clear hpo
      go_wp2
      go_returns
      exact ⟨rfl, hW⟩
    | true =>
      obtain ⟨n, ns, rfl, rfl, hV, hcx, hpt⟩ := polyO_valid hpo
      rw [length_casts] at x1 hI ⊢
      have h6 := hV.h6
      have w6 := hV.w6
      have h1 := hV.h1
      have w1 := hV.w1
      have HE := Lib.hid (edg_cvx hV hcx)
      have HG := Lib.hid (And.intro (rows_one hV hpt) (cols_one hV hpt))
      clear hpo hcx hpt
      have HX := Lib.hid (And.intro hI (And.intro x0 x1))
      have HW := Lib.hid hW
      clear hI hW
      go_wp2_with fail
      have hId : Ints wc.heap.size wc.drew (.slice B ns.length cp) (casts ns) := HX.out.1.drew
      have HR := RowSums_c n _ ns hV wc.drew hId
      have x0 := HX.out.2.1
      have x1 := HX.out.2.2
      clear hId
      go_region_held3 (fun w' : World => w'.cell? ⟨Bx, 0, none⟩ = some (.int .i64 (n : Int)) ∧ w'.cell? ⟨Bx, 1, none⟩ = some (.slice B ns.length cp)) (first | exact ⟨x0, x1⟩ | (refine ⟨?_, ?_⟩ <;> assumption) | go_keep) (first | (go_at_call 29; (with_reducible refine HR.mono ?_); rintro e wp ⟨gr, rfl, hgr, hrp, hbp'⟩; have hbp := Below.undrew hbp'; have p0 := cellB hbp x0; have p1 := cellB hbp x1; have hIp := (Ints.below HX.out.1 hbp).more hbp.size; clear hbp') | (go_at_call 30; (refine (ColSums_c n _ ns hV wp hIp).mono ?_); rintro e wq ⟨gc, rfl, hgc, hcq, hbq⟩; have q0 := cellB hbq p0; have q1 := cellB hbq p1; have hrq := hrp.below hbq hrp.lt))
      have hIq := (hIp.below hbq).more hbq.size
      have hbWq : Below wc.heap.size wc wq := hbp.trans (hbq.mono hbp.size)
      obtain ⟨W3, eW⟩ : ∃ W, W = wq.alloc (.cells #[.slice (some ⟨gr, 0, none⟩) ns.length ns.length, .slice (some ⟨gc, 0, none⟩) n n] 22) := ⟨_, rfl⟩
      have hb3 : Below wq.heap.size wq W3 := by rw [eW]; go_grown
      have z0 : W3.cell? ⟨wq.heap.size, 0, none⟩ = some (.slice (some ⟨gr, 0, none⟩) ns.length ns.length) := by rw [eW]; go_cell
      have z1 : W3.cell? ⟨wq.heap.size, 1, none⟩ = some (.slice (some ⟨gc, 0, none⟩) n n) := by rw [eW]; go_cell
      rw [← eW]
      have y0 := cellB hb3 q0
      have y1 := cellB hb3 q1
      have hr3 := hrq.below hb3 hrq.lt
      have hc3 := hcq.below hb3 hcq.lt
      have HI3 := Lib.hid ((hIq.below hb3).more hb3.size)
      have hbW3 : Below wc.heap.size wc W3 := hbWq.trans (hb3.mono hbWq.size)
      have HB3 := Lib.hid (HW.out.trans (hbW3.mono HW.out.size))
      obtain ⟨BL, eBL⟩ : ∃ b, b = wq.heap.size := ⟨_, rfl⟩
      rw [← eBL] at z0 z1 ⊢
      obtain ⟨NN, n0, n1, n2⟩ : ∃ NN : Nat → Nat, NN 0 = 0 ∧ NN 1 = posN (rowSums n ns) ns.length ∧ NN 2 = posN (rowSums n ns) ns.length + posN (colSums n ns) n :=
        ⟨fun k => if k = 0 then 0 else if k = 1 then posN (rowSums n ns) ns.length else posN (rowSums n ns) ns.length + posN (colSums n ns) n, rfl, rfl, rfl⟩
      have HL : Hid (∀ k, k < 2 → ∃ (g m : Nat) (xs : List Int), W3.cell? ⟨BL, k, none⟩ = some (.slice (some ⟨g, 0, none⟩) m m) ∧ Row W3 g xs ∧ xs.length = m ∧ m ≤ 6 ∧ (∀ i, 0 ≤ xs.getD i 0) ∧ runsB (fun i => decide (0 < xs.getD i 0)) m = 1 ∧ NN (k + 1) = NN k + posN xs m) := by
        show ∀ k, k < 2 → _
        intro k hk
        have hk2 : k = 0 ∨ k = 1 := by omega
        rcases hk2 with rfl | rfl
        · exact ⟨gr, ns.length, rowSums n ns, z0, hr3, by simp [rowSums], h6, fun i => (rows_nn i).1, HG.out.1, by rw [n0, n1]; omega⟩
        · exact ⟨gc, n, colSums n ns, z1, hc3, by simp [colSums], w6, fun i => (cols_nn i).1, HG.out.2, by rw [n1, n2]⟩
      have HN : Hid (edgN n ns = 2 * (NN 2 : Int) ∧ ∀ k, k ≤ 2 → NN k ≤ 12) := by
        refine And.intro (by rw [HE.out, n2]; omega) fun k hk => ?_
        have hp1 := posN_le (rowSums n ns) ns.length
        have hp2 := posN_le (colSums n ns) n
        have hk2 : k = 0 ∨ k = 1 ∨ k = 2 := by omega
        rcases hk2 with rfl | rfl | rfl
        · rw [n0]; omega
        · rw [n1]; omega
        · rw [n2]; omega
      have HN0 := Lib.hid n0
      clear z0 z1 hr3 hc3 eW eBL n0 n1 n2 hb3 hbW3 hbWq q0 q1 hrq hcq hIq hbp hbq hrp hIp p0 p1 x0 x1 HR
      go_wp2_with fail
      go_loop [6, 8] (fun c k => ∃ q a : Nat, q ≤ 2 ∧ k = .int .i64 (q : Int) ∧ c = .int .i64 (a : Int) ∧ a = NN q) (fun _ k => 2 - (intOf k).toNat)
      case atStart => exact ⟨0, 0, by omega, rfl, rfl, HN0.out.symm⟩
      case round =>
        obtain ⟨q, a, hq, rfl, rfl, ha⟩ := hrel
        have HA := Lib.hid ha
        have ha12 : a ≤ 12 := by rw [ha]; exact HN.out.2 q hq
        clear ha
        by_cases hq2 : q < 2
        · obtain ⟨g, m, xs, hz, hrow, hlm, hm6, hnn, hgrp, hNN⟩ := HL.out q hq2
          have HX := Lib.hid (And.intro hrow (And.intro hlm (And.intro hnn (And.intro hgrp hNN))))
          clear hrow hlm hnn hgrp hNN
          go_wp2_with fail
          go_loop [6, 9, 10] (fun c gg i => ∃ j a' b : Nat, j ≤ m ∧ i = .int .i64 (j : Int) ∧ c = .int .i64 (a' : Int) ∧ gg = .int .i64 (b : Int) ∧ a' = a + posN xs j ∧ b = runsB (fun i => decide (0 < xs.getD i 0)) j) (fun _ _ i => m - (intOf i).toNat)
          case atStart => exact ⟨0, a, 0, by omega, rfl, rfl, rfl, rfl, rfl⟩
          case round =>
            obtain ⟨j, a', b, hj, rfl, rfl, rfl, ha', hb'⟩ := hrel
            have hpl := posN_le xs j
            have hrl := runsB_le (fun i => decide (0 < xs.getD i 0)) j
            have hba : a' ≤ 18 := by omega
            have hbb : b ≤ 6 := by omega
            by_cases hjm : j < m
            · have hjl : j < xs.length := by rw [HX.out.2.1]; exact hjm
              have hcj := HX.out.1.cell hjl
              have hps := posN_succ xs j
              have hrs := runsB_succ (fun i => decide (0 < xs.getD i 0)) j
              have hnj := HX.out.2.2.1 j
              obtain ⟨r, er⟩ : ∃ r, r = xs.getD j 0 := ⟨_, rfl⟩
              simp only [← er] at hcj hps hrs hnj
              by_cases hr0 : 0 < r
              · cases j with
                | zero =>
                  have e1 : posN xs 1 = 0 + 1 := by rw [hps, if_pos hr0]; rfl
                  have e2 : runsB (fun i => decide (0 < xs.getD i 0)) 1 = 0 + 1 := by rw [hrs]; simp [hr0, runsB]
                  have HP := Lib.hid (And.intro ha' (And.intro hb' (And.intro e1 e2)))
                  clear hps hrs e1 e2 ha' hb' er hpl hrl
                  go_wp2_with fail
                  go_round
                  case rel =>
                    have h := HP.out
                    have hz0 : posN xs 0 = 0 := rfl
                    have hz1 : runsB (fun i => decide (0 < xs.getD i 0)) 0 = 0 := rfl
                    exact ⟨1, a' + 1, b + 1, by omega, by go_num, by go_num, by go_num, by omega, by omega⟩
                  case measure => simp [intOf]; omega
                | succ j =>
                  have hcp := HX.out.1.cell (k := j) (by omega)
                  have hnp := HX.out.2.2.1 j
                  obtain ⟨s, es⟩ : ∃ s, s = xs.getD j 0 := ⟨_, rfl⟩
                  rw [← es] at hcp hnp
                  have hd : (decide (0 < j + 1) : Bool) = true := by simp
                  simp only [hd, Nat.add_sub_cancel, ← es, Bool.true_and] at hrs
                  by_cases hs0 : 0 < s
                  · have e1 : posN xs (j + 1 + 1) = posN xs (j + 1) + 1 := by rw [hps, if_pos hr0]
                    have e2 : runsB (fun i => decide (0 < xs.getD i 0)) (j + 1 + 1) = runsB (fun i => decide (0 < xs.getD i 0)) (j + 1) := by rw [hrs]; simp [hs0]
                    have HP := Lib.hid (And.intro ha' (And.intro hb' (And.intro e1 e2)))
                    have hsz : ¬ s = 0 := by omega
                    clear hps hrs e1 e2 ha' hb' er es hpl hrl hd
                    go_wp2_with fail
                    · rename_i h; exfalso; rcases h with h | h <;> (have := eq_of_beq h; omega)
                    go_round
                    case rel =>
                      have h := HP.out
                      exact ⟨j + 1 + 1, a' + 1, b, by omega, by go_num, by go_num, rfl, by omega, by omega⟩
                    case measure => simp [intOf]; omega
                  · have e1 : posN xs (j + 1 + 1) = posN xs (j + 1) + 1 := by rw [hps, if_pos hr0]
                    have e2 : runsB (fun i => decide (0 < xs.getD i 0)) (j + 1 + 1) = runsB (fun i => decide (0 < xs.getD i 0)) (j + 1) + 1 := by rw [hrs]; simp [hs0, hr0]
                    have HP := Lib.hid (And.intro ha' (And.intro hb' (And.intro e1 e2)))
                    obtain rfl : s = 0 := by omega
                    clear hps hrs e1 e2 ha' hb' er es hpl hrl hd hs0
                    go_wp2_with fail
                    go_round
                    case rel =>
                      have h := HP.out
                      exact ⟨j + 1 + 1, a' + 1, b + 1, by omega, by go_num, by go_num, by go_num, by omega, by omega⟩
                    case measure => simp [intOf]; omega
              · have e1 : posN xs (j + 1) = posN xs j := by rw [hps, if_neg hr0]; rfl
                have e2 : runsB (fun i => decide (0 < xs.getD i 0)) (j + 1) = runsB (fun i => decide (0 < xs.getD i 0)) j := by rw [hrs]; simp [hr0]
                have HP := Lib.hid (And.intro ha' (And.intro hb' (And.intro e1 e2)))
                obtain rfl : r = 0 := by omega
                clear hps hrs e1 e2 ha' hb' er hpl hrl hr0
                go_wp2_with fail
                go_round
                case rel =>
                  have h := HP.out
                  exact ⟨j + 1, a', b, by omega, by go_num, rfl, rfl, by omega, by omega⟩
                case measure => simp [intOf]; omega
            · obtain rfl : j = m := by omega
              obtain rfl : b = 1 := by rw [hb']; exact HX.out.2.2.2.1
              have HP := Lib.hid ha'
              clear ha' hb' hpl hrl
              go_wp2_with fail
              go_round
              case rel =>
                have h := HP.out
                have h2 := HX.out.2.2.2.2
                have h3 := HA.out
                exact ⟨q + 1, a', by omega, by go_num, rfl, by omega⟩
              case measure => simp [intOf]; omega
        · obtain rfl : q = 2 := by omega
          have HED := ImageEdges_c n _ ns hV W3 HI3.out (HTS.out.2.below HB3.out)
          rw [HN.out.1, ← HA.out] at HED
          have ew : IntKind.i64.wrap (2 * (a : Int)) = 2 * (a : Int) := IntWalk.i64_in _ ⟨by omega, by omega⟩
          go_wp2_with fail
          refine HED.mono ?_
          rintro e wz ⟨rfl, hbz⟩
          go_wp2
          go_returns
          exact ⟨rfl, HB3.out.trans (hbz.mono HB3.out.size)⟩
end Go.Proofs.YtinjidejhmahmaaDoor
