/- The law that greater sums are filled, too: it returns true at whatever codes. Conditions: the codes' slices can be read. -/
import Derived.Test.YtehoaagnpidnbaaFDD
import Derived.Test.YtehoaagnpidnbaaFPE
namespace Go.Proofs.Ytehoaagnpidnbaa
open Go.RowKit
set_option maxRecDepth 100000 in
set_option maxHeartbeats 8000000 in
theorem fillMore_walk (A : Option Addr) (len cap : Nat) (hlc : len ≤ cap) (A' : Option Addr) (len' cap' : Nat) (w : World) (hc : Code8 w w.heap.size A len) :
    Calls Try.prog 4 #[.slice A len cap, .slice A' len' cap'] w fun e w' => e = .returned (.bool true) ∧ Below w.heap.size w w' := by
  by_cases hb1 : 1048576 < len
  · go_enter Try.func4, Try.ntmps4
    go_wp2
    go_returns
    exact ⟨rfl, Below.refl _ _⟩
  by_cases hb2 : 1048576 < len'
  · go_enter Try.func4, Try.ntmps4
    go_wp2
    go_returns
    exact ⟨rfl, Below.refl _ _⟩
  have hl2 : len' ≤ 1048576 := by omega
  go_enter Try.func4, Try.ntmps4
  go_wp2_with fail
  refine (DrawFillFits_c A len cap hlc w hc).mono ?_
  rintro e wc ⟨W, v, u, t, rows, rs, cs, rfl, hI, hl6, hJ, hK, hr12, hc12, hW⟩
  obtain ⟨B, bp, rfl⟩ := hI.len
  obtain ⟨C, cp, rfl⟩ := hJ.len
  obtain ⟨D, dp, rfl⟩ := hK.len
  obtain ⟨W1, e_W1⟩ : ∃ W0, W0 = World.alloc wc (.cells #[.int .i64 W, .slice B rows.length bp] 24) := ⟨_, rfl⟩
  have hx_W1 := Box2.new wc (.int .i64 W) (.slice B rows.length bp) 24
  have hb_W1 : Below (World.heap wc).size wc W1 := by rw [e_W1]; go_grown
  have HS_W1 := Lib.hid (show (World.heap W1).size = (World.heap wc).size + 1 by rw [e_W1]; simp)
  replace hW := hW.trans (Below.mono hb_W1 hW.size)
  replace hI := (hI.below hb_W1).more (Below.size hb_W1)
  replace hJ := (hJ.below hb_W1).more (Below.size hb_W1)
  replace hK := (hK.below hb_W1).more (Below.size hb_W1)
  have HE_W1 := Lib.hid e_W1
  clear e_W1
  go_wp2_with fail
  rw [← HE_W1.out] at hx_W1 ⊢
  clear HE_W1
  obtain ⟨hl_x, x0, x1⟩ := hx_W1
  obtain ⟨Bx, e_Bx⟩ : ∃ Bx, Bx = (World.heap wc).size := ⟨_, rfl⟩
  rw [← e_Bx] at hl_x x0 x1 hb_W1 HS_W1  ⊢
  have hz_Bx := hb_W1.size
  clear e_Bx hb_W1
  refine (FillFits_c W _ _ _ rows rs cs (by omega) (by omega) (by omega) W1 hI hJ hK).mono ?_
  rintro e wc ⟨rfl, hb⟩
  replace hW := hW.trans (Below.mono hb hW.size)
  replace hI := (hI.below hb).more (Below.size hb)
  replace hJ := (hJ.below hb).more (Below.size hb)
  replace hK := (hK.below hb).more (Below.size hb)
  replace x0 := cellB hb x0
  replace x1 := cellB hb x1
  go_wp2_with fail
  refine (sFillFits_c W _ _ _ rows rs cs (by omega) (by omega) (by omega) _ hI hJ hK).mono ?_
  rintro e wc ⟨rfl, hb⟩
  replace hW := hW.trans (Below.mono hb hW.size)
  replace hI := (hI.below hb).more (Below.size hb)
  replace hJ := (hJ.below hb).more (Below.size hb)
  replace hK := (hK.below hb).more (Below.size hb)
  replace x0 := cellB hb x0
  replace x1 := cellB hb x1
  cases hff : ffB W rows rs cs with
  | false =>
    clear hff
    go_wp2
    go_returns
    exact ⟨rfl, hW⟩
  | true =>
    obtain ⟨n, ns, rfl, rfl, hF⟩ := ff_open hff
    rw [length_casts] at x1 hI ⊢
    have hV := hF.V
    have hS := hF.S
    have h1 := hS.h1
    have h6 := hS.h6
    have w1 := hS.w1
    have w6 := hS.w6
    obtain ⟨k, ek⟩ : ∃ k, k = len' % rs.length := ⟨_, rfl⟩
    have hk : k < rs.length := by rw [ek]; exact Nat.mod_lt _ (by omega)
    have ek' : (len' : Int) % (rs.length : Int) = (k : Int) := by rw [ek]; simp
    have ek2 : (len' : Int).tmod (rs.length : Int) = (k : Int) := by rw [Int.tmod_eq_emod_of_nonneg (by omega)]; exact ek'
    have hr0 : ¬ (rs.length : Int) = 0 := by omega
    have hyb := hS.r k hk
    obtain ⟨y, ey⟩ : ∃ y, y = rs.getD k 0 := ⟨_, rfl⟩
    rw [← ey] at hyb
    obtain ⟨z, ez⟩ : ∃ z, z = min (cs.length : Int) (y + 1) := ⟨_, rfl⟩
    have hm1 : (if y + 1 < (cs.length : Int) then y + 1 else (cs.length : Int)) = z := by rw [ez]; split <;> omega
    have hm2 : (if (cs.length : Int) < y + 1 then (cs.length : Int) else y + 1) = z := by rw [ez]; split <;> omega
    have hx := hF.more hk (z := z) (by rw [← ey]; exact ez)
    have hmany := hF.many
    have hmb := many_bd hV
    have hffx := ff_of hx
    have hlen : ([] : List Int).length + rs.length ≤ 16777216 := by simp; omega
    have HSM := Lib.hid hS
    have hown := OwnI.empty (base := wc.heap.size) wc (Nat.le_refl _)
    have hJa := hJ.alloc (Nat.le_refl _) (.cells #[] 3)
    have hbs : wc.heap.size ≤ (wc.alloc (.cells #[] 3)).heap.size := by simp
    have hb3 : Below wc.heap.size wc (wc.alloc (.cells #[] 3)) := by go_grown
    obtain ⟨M, eM⟩ : ∃ M, M = mom n ns one := ⟨_, rfl⟩
    rw [← eM] at hmany hmb
    have HH := Lib.hid (And.intro hown (And.intro hJa (And.intro hlen (And.intro hbs (And.intro hb3 (And.intro hI (And.intro hJ (And.intro hK (And.intro hW (And.intro x0 x1))))))))))
    have HP := Lib.hid (And.intro hffx (And.intro hmany (And.intro hmb (And.intro eM (And.intro ey hff)))))
    have HNW := Lib.hid (And.intro hF.h hF.w)
    clear hff ek hx hmany hmb hffx hlen hS hown hJa hbs hb3 eM hI hJ hK hW x0 x1 ey ez hF
    go_wp2_with (at_builtin; refine wpList_app (v := .slice (some ⟨wc.heap.size, 0, none⟩) 0 0) rfl (.tmp 51) (.tmp 52) rfl rfl HH.out.1 rfl HH.out.2.1 HH.out.2.2.1 HH.out.2.2.2.1 ?_; intro v6 w6 hown6 hgr6 hnn6 _; rw [List.nil_append] at hown6; obtain ⟨g, c, rfl, hg, hr⟩ := hown6.row (hnn6 (.inl (by simp))); have hq6 := Below.app HH.out.2.2.2.2.1 HH.out.1 hgr6 (Nat.le_refl _) HH.out.2.2.2.1; have q0 := hr.cell (k := k) hk; rw [← HP.out.2.2.2.2.1] at q0; have q1 := hr.frozen k; have HR := Lib.hid (And.intro hr (And.intro hg hq6)); clear hown6 hgr6 hnn6 hr hg hq6)
    obtain ⟨hr, hg, hq6⟩ := HR.out
    obtain ⟨_, _, _, _, _, hI, hJ, hK, hW, x0, x1⟩ := HH.out
    have hset := hr.set hk z
    have hbw : Below wc.heap.size wc (w6.setCell ⟨g, k, none⟩ (.int .i64 z)) := hq6.setCell (by simpa using hg) _
    obtain ⟨W7, eW7⟩ : ∃ W7, W7 = w6.setCell ⟨g, k, none⟩ (.int .i64 z) := ⟨_, rfl⟩
    rw [← eW7] at hset hbw ⊢
    clear eW7 hr hg hq6 HR HH q0 q1 ek' ek2 hr0 hm1 hm2
    replace hI := (hI.below hbw).more hbw.size
    replace hJ := (hJ.below hbw).more hbw.size
    replace hK := (hK.below hbw).more hbw.size
    replace hW := hW.trans (hbw.mono hW.size)
    replace x0 := cellB hbw x0
    replace x1 := cellB hbw x1
    clear hbw
    have hsv := svB_of HSM.out
    have hOT : filO rs cs = some (fillO rs cs) := by unfold filO; rw [if_pos hsv]
    obtain ⟨ms, ems⟩ : ∃ ms, ms = fillO rs cs := ⟨_, rfl⟩
    have hVm : VImg cs.length ms := by rw [ems]; exact (fillO_fit HSM.out).1.img HSM.out
    have hmm : mom cs.length ms one = fm rs cs := by rw [ems, fil_many HSM.out]
    have hfm : ffB (cs.length : Int) (casts ms) rs cs = true := by rw [ems]; exact ff_of (fil_fits HSM.out)
    have hml : ms.length = rs.length := by rw [ems]; exact (fillO_fit HSM.out).1.len
    rw [← ems] at hOT
    have HOT := Lib.hid hOT
    clear hOT ems hsv
    refine (FillImage_o _ _ rs cs (by omega) (by omega) _ hJ hK).mono ?_
    intro e wc hF
    rw [HOT.out] at hF
    obtain ⟨gc, cc, rfl, hgc, hrc, hb⟩ := hF.img
    clear hgc
    replace hI := (hI.below hb).more (Below.size hb)
    replace hJ := (hJ.below hb).more (Below.size hb)
    replace hK := (hK.below hb).more (Below.size hb)
    replace hW := hW.trans (Below.mono hb hW.size)
    replace x0 := cellB hb x0
    replace x1 := cellB hb x1
    replace hset := hset.below hb hset.lt
    have HML := Lib.hid hml
    have hmcl : (casts ms).length ≤ 2097152 := by rw [length_casts, hml]; omega
    clear hml
    obtain ⟨W9, e_W9⟩ : ∃ W0, W0 = World.alloc wc (.cells #[.int .i64 (cs.length : Int), .slice (some ⟨gc, 0, none⟩) ms.length cc] 24) := ⟨_, rfl⟩
    have hx_W9 := Box2.new wc (.int .i64 (cs.length : Int)) (.slice (some ⟨gc, 0, none⟩) ms.length cc) 24
    have hb_W9 : Below (World.heap wc).size wc W9 := by rw [e_W9]; go_grown
    have HS_W9 := Lib.hid (show (World.heap W9).size = (World.heap wc).size + 1 by rw [e_W9]; simp)
    replace hI := (hI.below hb_W9).more (Below.size hb_W9)
    replace hJ := (hJ.below hb_W9).more (Below.size hb_W9)
    replace hK := (hK.below hb_W9).more (Below.size hb_W9)
    replace hW := hW.trans (Below.mono hb_W9 hW.size)
    replace x0 := cellB hb_W9 x0
    replace x1 := cellB hb_W9 x1
    replace hset := hset.below hb_W9 hset.lt
    replace hrc := hrc.below hb_W9 hrc.lt
    have x0r := x0
    rw [e_W9] at x0r
    have x1r := x1
    rw [e_W9] at x1r
    have HE_W9 := Lib.hid e_W9
    clear e_W9
    go_wp2_with fail
    rw [← HE_W9.out] at hx_W9 ⊢
    clear x0r x1r
    clear HE_W9
    obtain ⟨hl_t, t0, t1⟩ := hx_W9
    obtain ⟨Bt, e_Bt⟩ : ∃ Bx, Bx = (World.heap wc).size := ⟨_, rfl⟩
    rw [← e_Bt] at hl_t t0 t1 hb_W9 HS_W9  ⊢
    have hz_Bt := hb_W9.size
    clear e_Bt hb_W9
    have hxl : (rs.set k z).length ≤ 2097152 := by simp; omega
    have hn6 := hV.h6
    have hsI := hset.ints hset.lt c
    rw [List.length_set] at hsI
    have F0 := fun d os => FillFits_c (n : Int) _ _ _ (casts ns) (rs.set k z) cs hxl (by omega) (by rw [length_casts]; omega) (Go.Sort.grow (redrawn W9 d) os) ((hI.rg (Nat.le_refl _) d os).more (rg_size W9 d os)) ((hsI.rg (Nat.le_refl _) d os).more (rg_size W9 d os)) ((hK.rg (Nat.le_refl _) d os).more (rg_size W9 d os))
    have F1 := fun d os => FillFits_c (cs.length : Int) _ _ _ (casts ms) rs cs (by omega) (by omega) hmcl (Go.Sort.grow (redrawn W9 d) os) (((hrc.intsH (h := ms.length) (c := cc) rfl).rg (Nat.le_refl _) d os).more (rg_size W9 d os)) ((hJ.rg (Nat.le_refl _) d os).more (rg_size W9 d os)) ((hK.rg (Nat.le_refl _) d os).more (rg_size W9 d os))
    have M1 := fun d os => ImageMany_c (cs.length : Int) _ (casts ms) (Go.Sort.grow (redrawn W9 d) os) (((hrc.intsH (h := ms.length) (c := cc) rfl).rg (Nat.le_refl _) d os).more (rg_size W9 d os))
    have M2 := fun d os => ImageMany_c (n : Int) _ (casts ns) (Go.Sort.grow (redrawn W9 d) os) ((hI.rg (Nat.le_refl _) d os).more (rg_size W9 d os))
    rw [HP.out.1] at F0
    rw [hfm] at F1
    rw [val0_yes hVm, hmm] at M1
    rw [val0_yes hV, ← HP.out.2.2.2.1] at M2
    have hle := HP.out.2.1
    obtain ⟨N, eN⟩ : ∃ N, N = fm rs cs := ⟨_, rfl⟩
    rw [← eN] at M1 hle
    have k0 := cell_regrown x0
    have k1 := cell_regrown x1
    have k2 := cell_regrown t0
    have k3 := cell_regrown t1
    clear hfm hmm eN hmcl hxl
    refine wp_region_quiet_below (by kernel_rfl) (by kernel_rfl) ?_
    repeat (first | go_big_quiet_step (first | (go_at_call 16; first | with_reducible exact Calls.rg (F0 _ _) | with_reducible exact Calls.rg (F1 _ _)) | (go_at_call 18; first | with_reducible exact Calls.rg (M1 _ _) | with_reducible exact Calls.rg (M2 _ _))) | quiet_step (first | (go_at_call 16; first | with_reducible exact Calls.rg (F0 _ _) | with_reducible exact Calls.rg (F1 _ _)) | (go_at_call 18; first | with_reducible exact Calls.rg (M1 _ _) | with_reducible exact Calls.rg (M2 _ _))))
    refine wpQuiet_nil ?_
    intro _ hw0
    obtain ⟨⟨dq, osq⟩, hw1⟩ := hw0
    subst hw1
    have hq := below_regrown W9 dq osq
    generalize Go.Sort.grow (redrawn W9 dq) osq = w10 at hq ⊢
    clear k0 k1 k2 k3 F0 F1 M1 M2
    go_wp2
    go_returns
    exact ⟨rfl, hW.trans (hq.mono hW.size)⟩
end Go.Proofs.Ytehoaagnpidnbaa
