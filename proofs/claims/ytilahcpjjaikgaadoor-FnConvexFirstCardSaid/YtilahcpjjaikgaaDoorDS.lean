/- Contracts of l93Sums and of the draws of sums of convex images. Conditions: the reader lies in block R; the code's slice can be read. -/
import Derived.Test.YtilahcpjjaikgaaDoorFI
import Derived.Test.YtilahcpjjaikgaaDoorFJ
import Derived.Test.YtilahcpjjaikgaaDoorCX6
namespace Go.Proofs.YtilahcpjjaikgaaDoor
open Go.RowKit
set_option maxRecDepth 100000 in
set_option maxHeartbeats 4000000 in
theorem l93Sums_c (R K : Nat) (hK : K ≤ 400000) (w : World) (hR : Rd w R K) :
    Calls Tryd.prog 26 #[.pointer (some ⟨R, 0, none⟩)] w fun e w' => TwoOut w.heap.size 0 12 12 w' e ∧ w.grownBy w' (some R) ∧ Rd w' R (K + 21) := by
  have hlt := hR.1
  go_enter Tryd.func26, Tryd.ntmps26
  go_wp2_with fail
  refine (pick_c R K 3 (by omega) (by omega) (by omega) w hR).mono ?_
  rintro e w1 ⟨⟨x, rfl, hx⟩, hrd, hon⟩
  by_cases e0 : x = 0
  · subst e0
    go_wp2_with fail
    refine (l91SumsWrong_c R (K + 1) 16 (by omega) (by omega) (by omega) _ hrd).mono ?_
    rintro e w2 ⟨⟨u, v, rs, cs, rfl, hT, _, hr6, hc6⟩, hg, hrd2⟩
    have hT2 : Two w.heap.size w2 u v rs cs := ⟨hT.r.more hon.size, hT.c.more hon.size, hT.ne⟩
    have hon2 := only_trans hon hg
    have HM := Lib.hid (show TwoOut w.heap.size 0 12 12 w2 (.returned (.tuple #[u, v])) ∧ w.grownBy w2 (some R) ∧ Rd w2 R (K + 21) from ⟨⟨_, _, _, _, rfl, hT2, ⟨by omega, by omega⟩, hr6, hc6⟩, hon2, hrd2.more (by omega)⟩)
    clear hT hT2 hon2 hrd2 hg hon hrd
    go_wp2
    refine bodyPost_ret (v := .tuple #[u, v]) (by simp [results, Tryd.results26, go_sem]) rfl ?_
    exact HM.out
  · have hx1 : 0 < (x : Int) := by omega
    go_wp2_with fail
    refine (l93Convex_c R (K + 1) 16 (by omega) (by omega) (by omega) _ hrd).mono ?_
    rintro e wc ⟨⟨g, c, n, ns, rfl, hV, hr, hg⟩, hrd2, hon2⟩
    replace hon := only_trans hon hon2
    clear hrd hon2
    have hrd := hrd2
    clear hrd2
    have hl1 := rowSums_len n ns
    have hl2 := colSums_len n ns
    have h1 := hV.h1
    have h6 := hV.h6
    have w1' := hV.w1
    have w6 := hV.w6
    have hsz := hon.size
    obtain ⟨W1, e_W1⟩ : ∃ W0, W0 = World.alloc wc (.cells #[.int .i64 (n : Int), .slice (some ⟨g, 0, none⟩) ns.length c] 27) := ⟨_, rfl⟩
    have hx_W1 := Box2.new wc (.int .i64 (n : Int)) (.slice (some ⟨g, 0, none⟩) ns.length c) 27
    have hb_W1 : Below (World.heap wc).size wc W1 := by rw [e_W1]; go_grown
    have HS_W1 := Lib.hid (show (World.heap W1).size = (World.heap wc).size + 1 by rw [e_W1]; simp)
    replace hr := hr.below hb_W1 hr.lt
    replace hrd := hrd.below hb_W1 hrd.1
    replace hon := only_trans hon (only_of_below hb_W1 _)
    have HE_W1 := Lib.hid e_W1
    clear e_W1
    go_wp2_with fail
    rw [← HE_W1.out] at hx_W1 ⊢
    clear HE_W1
    obtain ⟨hl_x, x0, x1⟩ := hx_W1
    obtain ⟨Bx, e_Bx⟩ : ∃ Bx, Bx = (World.heap wc).size := ⟨_, rfl⟩
    rw [← e_Bx] at hl_x x0 x1 hb_W1 HS_W1  ⊢
    have hz_Bx := hb_W1.size
    clear e_Bx hb_W1
    have hpr : 0 < (rowSums n ns).length := by rw [hl1]; omega
    have hpc : 0 < (colSums n ns).length := by rw [hl2]; omega
    have hId : Ints W1.heap.size W1.drew (.slice (some ⟨g, 0, none⟩) ns.length c) (casts ns) := (hr.intsH (c := c) rfl).drew
    have HR := sRowSums_yes n _ ns hV W1.drew hId
    have hw1 : w.heap.size ≤ W1.heap.size := by omega
    clear hId
    go_region_held3 (fun w' : World => w'.cell? ⟨Bx, 0, none⟩ = some (.int .i64 (n : Int)) ∧ w'.cell? ⟨Bx, 1, none⟩ = some (.slice (some ⟨g, 0, none⟩) ns.length c)) (first | exact ⟨x0, x1⟩ | (refine ⟨?_, ?_⟩ <;> assumption) | go_keep) (first | (go_at_call 46; (with_reducible refine HR.mono ?_); rintro e wp ⟨v1, rfl, ho1, hbp'⟩; have hbp := Below.undrew hbp'; obtain ⟨g1, c1, rfl, hg1, hr1⟩ := ho1.form hpr; have hg1l := hr1.lt; have p0 := cellB hbp x0; have p1 := cellB hbp x1; have hrp := hr.below hbp hr.lt; clear hbp' hr1) | (go_at_call 47; (refine (sColSums_yes n _ ns hV wp (hrp.intsH (c := c) rfl)).mono ?_); rintro e wq ⟨v2, rfl, ho2, hbq⟩; obtain ⟨g2, c2, rfl, hg2, hr2⟩ := ho2.form hpc; have q0 := cellB hbq p0; have q1 := cellB hbq p1; clear hr2))
    have hne : g1 ≠ g2 := by omega
    have hbWq : Below W1.heap.size W1 wq := hbp.trans (hbq.mono hbp.size)
    have ho1' : OwnI wq w.heap.size (.slice (some ⟨g1, 0, none⟩) (rowSums n ns).length c1) (rowSums n ns) := (ho1.below hbq (Nat.le_refl _)).more hw1
    have ho2' : OwnI wq w.heap.size (.slice (some ⟨g2, 0, none⟩) (colSums n ns).length c2) (colSums n ns) := ho2.more (by have := hbp.size; omega)
    have HM := Lib.hid (show TwoOut w.heap.size 0 12 12 wq (.returned (.tuple #[.slice (some ⟨g1, 0, none⟩) (rowSums n ns).length c1, .slice (some ⟨g2, 0, none⟩) (colSums n ns).length c2])) ∧ w.grownBy wq (some R) ∧ Rd wq R (K + 21) from
      ⟨⟨_, _, _, _, rfl, ⟨ho1', ho2', fun a b ha hb => by simp [Value.ownBlock] at ha hb; omega⟩, ⟨by omega, by omega⟩, by omega, by omega⟩, only_trans hon (only_of_below hbWq _), (hrd.below hbWq hrd.1).more (by omega)⟩)
    clear ho1 ho2 ho1' ho2' hrd hon hr x0 x1 hg1 hg2 hg1l hbp hbq hbWq p0 p1 q0 q1 hrp HR
    go_wp2
    refine bodyPost_ret (v := .tuple #[.slice (some ⟨g1, 0, none⟩) (rowSums n ns).length c1, .slice (some ⟨g2, 0, none⟩) (colSums n ns).length c2]) (by simp [results, Tryd.results26, go_sem, hl1, hl2]) rfl ?_
    exact HM.out
set_option maxHeartbeats 1000000 in
theorem DrawConvexCount_c (A : Option Addr) (len cap : Nat) (hlc : len ≤ cap) (w : World) (hc : Code8 w w.heap.size A len) :
    Calls Tryd.prog 21 #[.slice A len cap] w (TwoInts w) := by
  go_enter Tryd.func21, Tryd.ntmps21
  go_wp2_with fail
  refine (l6Open_c A len cap hlc w hc).mono ?_
  rintro e w1 ⟨rfl, hR, hb⟩
  go_wp2_with fail
  refine (l93Sums_c w.heap.size 0 (by omega) w1 hR).mono ?_
  rintro e w2 ⟨⟨u, v, rs, cs, rfl, hT, _, hr, hc2⟩, hon, _⟩
  have HM := Lib.hid (show TwoInts w (.returned (.tuple #[u, v])) w2 from ⟨_, _, _, _, rfl, hT.r.ints, hT.c.ints, hr, hc2, hb.grown hon hb.size (fun k e => by cases e; exact Nat.le_refl _)⟩)
  clear hT hon
  go_wp2
  refine bodyPost_ret (v := .tuple #[u, v]) (by simp [results, Tryd.results21, go_sem]) rfl ?_
  exact HM.out
set_option maxHeartbeats 1000000 in
theorem DrawConvexFirst_c (A : Option Addr) (len cap : Nat) (hlc : len ≤ cap) (w : World) (hc : Code8 w w.heap.size A len) :
    Calls Tryd.prog 6 #[.slice A len cap] w (TwoInts w) := by
  go_enter Tryd.func6, Tryd.ntmps6
  go_wp2_with fail
  refine (l6Open_c A len cap hlc w hc).mono ?_
  rintro e w1 ⟨rfl, hR, hb⟩
  go_wp2_with fail
  refine (l93Sums_c w.heap.size 0 (by omega) w1 hR).mono ?_
  rintro e w2 ⟨⟨u, v, rs, cs, rfl, hT, _, hr, hc2⟩, hon, _⟩
  have HM := Lib.hid (show TwoInts w (.returned (.tuple #[u, v])) w2 from ⟨_, _, _, _, rfl, hT.r.ints, hT.c.ints, hr, hc2, hb.grown hon hb.size (fun k e => by cases e; exact Nat.le_refl _)⟩)
  clear hT hon
  go_wp2
  refine bodyPost_ret (v := .tuple #[u, v]) (by simp [results, Tryd.results6, go_sem]) rfl ?_
  exact HM.out
end Go.Proofs.YtilahcpjjaikgaaDoor
