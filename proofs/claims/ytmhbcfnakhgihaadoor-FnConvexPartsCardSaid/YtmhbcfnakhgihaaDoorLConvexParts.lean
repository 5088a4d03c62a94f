/- The law that convex images have no holes: it returns true at whatever code, where the table of math/bits stands. Conditions: the code's slice can be read; the table. -/
import Derived.Test.YtmhbcfnakhgihaaDoorCP1
import Derived.Test.YtmhbcfnakhgihaaDoorMX
import Derived.Test.YtmhbcfnakhgihaaDoorCX7
import Derived.Test.YtmhbcfnakhgihaaDoorEU
import Derived.Test.YtmhbcfnakhgihaaDoorMI
namespace Go.Proofs.YtmhbcfnakhgihaaDoor
open Go.RowKit
open Gr
set_option maxRecDepth 100000 in
set_option maxHeartbeats 4000000 in
theorem convexParts_walk (A : Option Addr) (len cap : Nat) (hlc : len ≤ cap) (w : World) (hc : Code8 w w.heap.size A len) (hT : Tab w) :
    Calls Tryd.prog 6 #[.slice A len cap] w fun e w' => e = .returned (.bool true) ∧ Below w.heap.size w w' := by
  by_cases hbig : 1048576 < len
  · go_enter Tryd.func6, Tryd.ntmps6
    go_wp2
    go_returns
    exact ⟨rfl, Below.refl _ _⟩
  · go_enter Tryd.func6, Tryd.ntmps6
    go_wp2_with fail
    refine (DrawImageConvex_c A len cap hlc w hc).mono ?_
    rintro e wc ⟨W, v, rows, rfl, hI, hl6, hW⟩
    obtain ⟨B, cp, rfl⟩ := hI.len
    obtain ⟨W1, e_W1⟩ : ∃ W0, W0 = World.alloc wc (.cells #[.int .i64 W, .slice B rows.length cp] 27) := ⟨_, rfl⟩
    have hx_W1 := Box2.new wc (.int .i64 W) (.slice B rows.length cp) 27
    have hb_W1 : Below (World.heap wc).size wc W1 := by rw [e_W1]; go_grown
    have HS_W1 := Lib.hid (show (World.heap W1).size = (World.heap wc).size + 1 by rw [e_W1]; simp)
    replace hW := hW.trans (Below.mono hb_W1 hW.size)
    replace hI := (hI.below hb_W1).more (Below.size hb_W1)
    have HE_W1 := Lib.hid e_W1
    clear e_W1
    go_wp2_with fail
    rw [← HE_W1.out] at hx_W1 ⊢
    clear HE_W1
    obtain ⟨hl_x, x0, x1⟩ := hx_W1
    obtain ⟨Bx, e_Bx⟩ : ∃ Bx, Bx = (World.heap wc).size := ⟨_, rfl⟩
    rw [← e_Bx] at hl_x x0 x1 hb_W1 HS_W1  ⊢
    have hz_Bx := hb_W1.size
    clear e_Bx hb_W1
    refine (ImageConvex_c W _ rows W1 hI (hT.below hW)).mono ?_
    rintro e wc ⟨rfl, hb⟩
    replace hW := hW.trans (Below.mono hb hW.size)
    replace hI := (hI.below hb).more (Below.size hb)
    replace x0 := cellB hb x0
    replace x1 := cellB hb x1
    go_wp2_with fail
    refine (sImageConvex_c W _ rows _ hI).mono ?_
    rintro e wc ⟨rfl, hb⟩
    replace hW := hW.trans (Below.mono hb hW.size)
    replace hI := (hI.below hb).more (Below.size hb)
    replace x0 := cellB hb x0
    replace x1 := cellB hb x1
    cases hcv : cvxO W rows with
    | false =>
      clear hcv
      go_wp2
      go_returns
      exact ⟨rfl, hW⟩
    | true =>
      have hval : validB W rows = true := by
        cases hv : validB W rows with
        | true => rfl
        | false => rw [cvxO_no hv] at hcv; cases hcv
      obtain ⟨n, ns, rfl, rfl, hV⟩ := validB_yes hval
      rw [cvxO_yes hV] at hcv
      rw [length_casts] at x1 hI ⊢
      have hh := cvx_holes hV hcv
      have he := cvx_euler hV hcv
      have E0 := fun d os => ImageEuler_yes n _ ns hV _ ((hI.rg (Nat.le_refl _) d os).more (rg_size _ d os))
      have H0 := fun d os => ImageHoles_c (n : Int) _ _ _ ((hI.rg (Nat.le_refl _) d os).more (rg_size _ d os))
      have P0 := fun d os => ImageParts_c (n : Int) _ _ _ ((hI.rg (Nat.le_refl _) d os).more (rg_size _ d os))
      simp only [onImg_yes hV] at H0 P0
      rw [hh] at H0
      rw [he] at E0
      generalize partsN n ns = a at P0 E0
      clear hcv hval hh he
      have k0 := cell_regrown x0
      have k1 := cell_regrown x1
      go_wp2_with fail
      refine wp_region_quiet_below (by kernel_rfl) (by kernel_rfl) ?_
      repeat (first | go_big_quiet_step (first | (go_at_call 21; with_reducible exact Calls.rg (E0 _ _)) | (go_at_call 20; with_reducible exact Calls.rg (H0 _ _)) | (go_at_call 19; with_reducible exact Calls.rg (P0 _ _))) | quiet_step (first | (go_at_call 21; with_reducible exact Calls.rg (E0 _ _)) | (go_at_call 20; with_reducible exact Calls.rg (H0 _ _)) | (go_at_call 19; with_reducible exact Calls.rg (P0 _ _))))
      refine wpQuiet_nil ?_
      intro _ hw0
      obtain ⟨⟨dq, osq⟩, hw1⟩ := hw0
      subst hw1
      have hq := below_regrown wc dq osq
      generalize Go.Sort.grow (redrawn wc dq) osq = w9 at hq ⊢
      have hW := hW.trans (hq.mono hW.size)
      clear k0 k1 hI H0 E0 P0
      go_wp2
      go_returns
      exact ⟨rfl, hW⟩
end Go.Proofs.YtmhbcfnakhgihaaDoor
