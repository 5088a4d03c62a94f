/- Contract of ImageFill. Conditions: the slice reads as a list of integers. -/
import Derived.Test.YtbblbdacdpokeaaPF1
namespace Go.Proofs.Ytbblbdacdpokeaa
open Go.RowKit
open Gr
set_option maxHeartbeats 4000000 in
theorem ImageFill_yes (n : Nat) (v : Value) (ns : List Nat) (hV : VImg n ns) (w : World) (hv : Ints w.heap.size w v (casts ns)) :
    Calls Try.prog 31 #[.agg #[.int .i64 (n : Int), v]] w (ImgOut w n (fillL n ns)) := by
  obtain ⟨A, cap, rfl⟩ := hv.len
  rw [length_casts] at hv ⊢
  have h1 := hV.h1
  have h6 := hV.h6
  have w1 := hV.w1
  have w6 := hV.w6
  obtain ⟨W0, e_W0⟩ : ∃ W1, W1 = (w.alloc (.cells #[.int .i64 (n : Int), .slice A ns.length cap] 27)).alloc (.cells #[.int .i64 0, .slice none 0 0] 27) := ⟨_, rfl⟩
  have hW : Below w.heap.size w W0 := by rw [e_W0]; go_grown
  have x0 : W0.cell? ⟨w.heap.size, 0, none⟩ = some (.int .i64 (n : Int)) := by rw [e_W0]; go_cell
  have x1 : W0.cell? ⟨w.heap.size, 1, none⟩ = some (.slice A ns.length cap) := by rw [e_W0]; go_cell
  have r0 : W0.cell? ⟨w.heap.size + 1, 0, none⟩ = some (.int .i64 0) := by rw [e_W0]; go_cell
  have r1 : W0.cell? ⟨w.heap.size + 1, 1, none⟩ = some (.slice none 0 0) := by rw [e_W0]; go_cell
  have rf0 : W0.frozen? ⟨w.heap.size + 1, 0, none⟩ = false := by rw [e_W0]; go_cell
  have rf1 : W0.frozen? ⟨w.heap.size + 1, 1, none⟩ = false := by rw [e_W0]; go_cell
  have hs : w.heap.size + 2 ≤ W0.heap.size := by rw [e_W0]; simp
  go_enter Try.func31, Try.ntmps31
  go_wp2_with fail
  rw [← e_W0]
  clear e_W0
  have hI := (Arg.new hv).below hW
  refine (ImageValid_c (n : Int) _ (casts ns) _ hI.ints).mono ?_
  rintro e wc ⟨rfl, hb⟩
  replace x0 := cellB hb x0
  replace x1 := cellB hb x1
  replace rf0 := frozenB hb r0 rf0
  replace r0 := cellB hb r0
  replace rf1 := frozenB hb r1 rf1
  replace r1 := cellB hb r1
  replace hW := hW.trans (Below.mono hb hW.size)
  replace hs := Nat.le_trans hs hb.size
  replace hI := hI.below hb
  rw [validB_of hV]
  clear hv
  go_wp2_with fail
  refine (clone_c (n : Int) _ (casts ns) (by rw [length_casts]; exact h1) (by rw [length_casts]; omega) _ hI.ints).mono ?_
  rintro e wc ⟨g, c, rfl, hg, hr, hb⟩
  rw [length_casts]
  have hgw : w.heap.size + 2 ≤ g := by omega
  have hgB : g < wc.heap.size := hr.lt
  replace x0 := cellB hb x0
  replace x1 := cellB hb x1
  replace rf0 := frozenB hb r0 rf0
  replace r0 := cellB hb r0
  replace rf1 := frozenB hb r1 rf1
  replace r1 := cellB hb r1
  replace hW := hW.trans (Below.mono hb hW.size)
  replace hs := Nat.le_trans hs hb.size
  replace hI := hI.below hb
  obtain ⟨W1, e_W1⟩ : ∃ W0, W0 = World.alloc wc (.cells #[.int .i64 (n : Int), .slice (some ⟨g, 0, none⟩) ns.length c] 27) := ⟨_, rfl⟩
  have hx_W1 := Box2.new wc (.int .i64 (n : Int)) (.slice (some ⟨g, 0, none⟩) ns.length c) 27
  have hb_W1 : Below (World.heap wc).size wc W1 := by rw [e_W1]; go_grown
  have HS_W1 := Lib.hid (show (World.heap W1).size = (World.heap wc).size + 1 by rw [e_W1]; simp)
  replace x0 := cellB hb_W1 x0
  replace x1 := cellB hb_W1 x1
  replace rf0 := frozenB hb_W1 r0 rf0
  replace r0 := cellB hb_W1 r0
  replace rf1 := frozenB hb_W1 r1 rf1
  replace r1 := cellB hb_W1 r1
  replace hW := hW.trans (Below.mono hb_W1 hW.size)
  replace hs := Nat.le_trans hs hb_W1.size
  replace hI := hI.below hb_W1
  replace hr := hr.below hb_W1 hr.lt
  have x0r := x0
  rw [e_W1] at x0r
  have x1r := x1
  rw [e_W1] at x1r
  have HE_W1 := Lib.hid e_W1
  clear e_W1
  go_wp2_with fail
  rw [← HE_W1.out] at hx_W1 ⊢
  clear x0r x1r
  clear HE_W1
  obtain ⟨hl_o, o0, o1⟩ := hx_W1
  obtain ⟨Bo, e_Bo⟩ : ∃ Bx, Bx = (World.heap wc).size := ⟨_, rfl⟩
  rw [← e_Bo] at hl_o o0 o1 hb_W1 HS_W1 hgB ⊢
  have hz_Bo := hb_W1.size
  clear e_Bo hb_W1
  refine (holes_c n _ ns hV _ hI.ints).mono ?_
  rintro e w2 ⟨v', gs, rfl, him, hb⟩
  obtain ⟨ao, co, rfl⟩ := him.form
  have hgb := hr.lt
  obtain ⟨L, eL⟩ : ∃ L, L = holesI n ns := ⟨_, rfl⟩
  have hsz : ∀ k, k < L.length → Sized ns.length n (L.getD k []) := fun k hk => by
    have hm : L.getD k [] ∈ L := by rw [List.getD_eq_getElem?_getD, List.getElem?_eq_getElem hk]; exact List.getElem_mem hk
    rw [eL] at hm
    unfold holesI allL at hm
    obtain ⟨c, _, e⟩ := List.mem_map.1 (List.mem_filter.1 hm).1
    rw [eL]
    unfold holesI allL
    rw [← e]
    exact sized_mk
  have hl36 : L.length ≤ 1000000 := by
    have h2 := firsts_len_le (T := coT n ns) (near := true) (h := ns.length) (w := n)
    have h3 := List.length_filter_le (insideOf n) (allL (coT n ns) true ns.length n)
    have hm36 : ns.length * n ≤ 6 * 6 := Nat.mul_le_mul h6 w6
    rw [allL_len] at h3
    rw [eL]
    unfold holesI
    omega
  have HL := Lib.hid eL
  have HSZ := Lib.hid hsz
  rw [← eL] at him ⊢
  obtain ⟨base, eB⟩ : ∃ b, b = W1.heap.size := ⟨_, rfl⟩
  rw [← eB] at him hgb
  obtain ⟨top, eT⟩ : ∃ b, b = w2.heap.size := ⟨_, rfl⟩
  rw [← eT] at him
  replace x0 := cellB hb x0
  replace x1 := cellB hb x1
  replace rf0 := frozenB hb r0 rf0
  replace r0 := cellB hb r0
  replace rf1 := frozenB hb r1 rf1
  replace r1 := cellB hb r1
  replace hW := hW.trans (Below.mono hb hW.size)
  replace hs := Nat.le_trans hs hb.size
  replace hI := hI.below hb
  replace hr := hr.below hb hr.lt
  replace o0 := cellB hb o0
  replace o1 := cellB hb o1
  have htop : top ≤ w2.heap.size := by omega
  have hz0 := fillI_zero hV L
  clear eL eB eT hb hsz
  go_wp2_with fail
  go_loopw [18] (fun s wr => ∃ k : Nat, k ≤ L.length ∧ s = .int .i64 k ∧ IMem w wr n ns.length g c Bo cap A (fillI n ns L k 0) ∧ Imgs base top top wr n ns.length (.slice ao L.length co) L gs ∧ top ≤ wr.heap.size) (fun s _ => L.length - (intOf s).toNat)
  case atStart => exact ⟨0, by omega, rfl, by rw [hz0]; exact ⟨hr, hW, x0, x1, r0, r1, rf0, rf1, o0, o1⟩, him, htop⟩
  case round =>
    clear hr hW x0 x1 r0 r1 rf0 rf1 o0 o1 hI hs him htop hz0
    obtain ⟨k, hk, rfl, ⟨hr, hW, x0, x1, r0, r1, rf0, rf1, o0, o1⟩, him, htop⟩ := hrel
    by_cases hkl : k < L.length
    · skip
      obtain ⟨bb, cc, e, hb1, hb2, hb3, c0, c1⟩ := him.get hkl
      injection e with e1 e2 e3
      subst e1 e3
      obtain ⟨hrow, hg1, hg2, hg3⟩ := him.rows k hkl
      obtain ⟨gg, eg⟩ : ∃ g, g = (gs.getD k (0, 0)).1 := ⟨_, rfl⟩
      obtain ⟨cg, ec⟩ : ∃ c, c = (gs.getD k (0, 0)).2 := ⟨_, rfl⟩
      rw [← eg] at hrow hg1 hg2 hg3 c1
      rw [← ec] at c1
      clear eg ec e2
      have hms := HSZ.out k hkl
      obtain ⟨Wk, e_Wk⟩ : ∃ W0, W0 = World.alloc wr (.cells #[.int .i64 (n : Int), .slice (some ⟨gg, 0, none⟩) ns.length cg] 27) := ⟨_, rfl⟩
      have hx_Wk := Box2.new wr (.int .i64 (n : Int)) (.slice (some ⟨gg, 0, none⟩) ns.length cg) 27
      have hb_Wk : Below (World.heap wr).size wr Wk := by rw [e_Wk]; go_grown
      have HS_Wk := Lib.hid (show (World.heap Wk).size = (World.heap wr).size + 1 by rw [e_Wk]; simp)
      replace hW := hW.trans (Below.mono hb_Wk hW.size)
      replace hr := hr.below hb_Wk hr.lt
      replace x0 := cellB hb_Wk x0
      replace x1 := cellB hb_Wk x1
      replace rf0 := frozenB hb_Wk r0 rf0
      replace r0 := cellB hb_Wk r0
      replace rf1 := frozenB hb_Wk r1 rf1
      replace r1 := cellB hb_Wk r1
      replace o0 := cellB hb_Wk o0
      replace o1 := cellB hb_Wk o1
      replace him := him.below hb_Wk
      replace htop := Nat.le_trans htop hb_Wk.size
      replace hrow := hrow.below hb_Wk hrow.lt
      have HE_Wk := Lib.hid e_Wk
      clear e_Wk
      go_wp2_with fail
      rw [← HE_Wk.out] at hx_Wk ⊢
      clear HE_Wk
      obtain ⟨hl_y, y0, y1⟩ := hx_Wk
      obtain ⟨Bk, e_Bk⟩ : ∃ Bx, Bx = (World.heap wr).size := ⟨_, rfl⟩
      rw [← e_Bk] at hl_y y0 y1 hb_Wk HS_Wk  ⊢
      have hz_Bk := hb_Wk.size
      clear e_Bk hb_Wk
      have hM : IMem w Wk n ns.length g c Bo cap A (fillI n ns L k 0) := ⟨hr, hW, x0, x1, r0, r1, rf0, rf1, o0, o1⟩
      clear hr hW x0 x1 r0 r1 rf0 rf1 o0 o1 c0 c1 y0 y1
      go_loopw [25] (fun s wr => ∃ m : Nat, m ≤ ns.length ∧ s = .int .i64 m ∧ IMem w wr n ns.length g c Bo cap A (fillI n ns L k m) ∧ Imgs base top top wr n ns.length (.slice (some ⟨bb, 0, none⟩) L.length co) L gs ∧ top ≤ wr.heap.size ∧ Row wr gg (casts (L.getD k []))) (fun s _ => ns.length - (intOf s).toNat)
      case atStart => exact ⟨0, by omega, rfl, hM, him, htop, hrow⟩
      case round =>
        clear hM him htop hrow
        obtain ⟨m, hm, rfl, hM, him, htop, hrow⟩ := hrel
        by_cases hml : m < ns.length
        · have hcm := hrow.cell (k := m) (by rw [length_casts, hms.1]; omega)
          have hcr := hM.row.cell (k := m) (by rw [length_casts, length_fillI]; omega)
          rw [casts_getD] at hcm hcr
          have hf := hM.row.frozen m
          have o1 := hM.o1
          have q1 : (L.getD k []).getD m 0 < 64 := (hms.vimg h1 h6 w1 w6).get64 m
          have q2 : (fillI n ns L k m).getD m 0 < 64 := ((sized_fillI L k m).vimg h1 h6 w1 w6).get64 m
          have hst := fillI_step (k := k) (m := m) hms
          have hM2 := hM.set hgw hgB (k := m) (by rw [length_fillI]; exact hml) ((fillI n ns L k m).getD m 0 ||| (L.getD k []).getD m 0)
          rw [← hst] at hM2
          obtain ⟨r1, er1⟩ : ∃ r, r = (L.getD k []).getD m 0 := ⟨_, rfl⟩
          obtain ⟨r2, er2⟩ : ∃ r, r = (fillI n ns L k m).getD m 0 := ⟨_, rfl⟩
          rw [← er1] at hcm q1 hM2
          rw [← er2] at hcr q2 hM2
          have ho := i64_or_nat r2 r1 (by omega) (by omega)
          have him2 := him.set (p := ⟨g, m, none⟩) (.inr (.inl hgb)) (.int .i64 ((r2 ||| r1 : Nat) : Int))
          have hrow2 := hrow.far (p := ⟨g, m, none⟩) (by simp; omega) (.int .i64 ((r2 ||| r1 : Nat) : Int))
          have HH := Lib.hid (And.intro hM2 (And.intro him2 hrow2))
          clear hM hM2 him him2 hrow hrow2 hst er1 er2
          go_wp2
          go_roundw
          case rel => exact ⟨m + 1, by omega, by go_num, HH.out.1, HH.out.2.1, by simpa [World.setCell] using htop, HH.out.2.2⟩
          case measure => simp [intOf]; omega
        · obtain rfl : m = ns.length := by omega
          rw [fillI_next hkl] at hM
          go_wp2
          go_roundw
          case rel => exact ⟨k + 1, by omega, by go_num, hM, him, htop⟩
          case measure => simp [intOf]; omega
    · obtain rfl : k = L.length := by omega
      have hfin : fillI n ns L L.length 0 = fillL n ns := by rw [HL.out]; exact fillI_all hV
      rw [hfin] at hr
      have HR := Lib.hid hr
      obtain ⟨q0, q1⟩ := set2_get (x := .int .i64 (n : Int)) (y := .slice (some ⟨g, 0, none⟩) ns.length c) r0 r1
      clear hr hfin him
      go_wp2
      refine bodyPost_ret (res_img_b rfl _ _ rfl q0 q1) rfl ?_
      refine ⟨g, c, by rw [show (fillL n ns).length = ns.length from length_mk _ _ _]; rfl, by omega, ?_, (hW.setCell (by simp) _).setCell (by simp) _⟩
      exact (HR.out.far (by simp; omega) _).far (by simp; omega) _
set_option maxHeartbeats 2000000 in
theorem ImageFill_no (W : Int) (v : Value) (rows : List Int) (hn : validB W rows = false) (w : World) (hv : Ints w.heap.size w v rows) :
    Calls Try.prog 31 #[.agg #[.int .i64 W, v]] w (NoImg w) := by
  obtain ⟨A, cap, rfl⟩ := hv.len
  obtain ⟨W0, e_W0⟩ : ∃ W1, W1 = (w.alloc (.cells #[.int .i64 W, .slice A rows.length cap] 27)).alloc (.cells #[.int .i64 0, .slice none 0 0] 27) := ⟨_, rfl⟩
  have hW : Below w.heap.size w W0 := by rw [e_W0]; go_grown
  have x0 : W0.cell? ⟨w.heap.size, 0, none⟩ = some (.int .i64 W) := by rw [e_W0]; go_cell
  have x1 : W0.cell? ⟨w.heap.size, 1, none⟩ = some (.slice A rows.length cap) := by rw [e_W0]; go_cell
  have r0 : W0.cell? ⟨w.heap.size + 1, 0, none⟩ = some (.int .i64 0) := by rw [e_W0]; go_cell
  have r1 : W0.cell? ⟨w.heap.size + 1, 1, none⟩ = some (.slice none 0 0) := by rw [e_W0]; go_cell
  have rf0 : W0.frozen? ⟨w.heap.size + 1, 0, none⟩ = false := by rw [e_W0]; go_cell
  have rf1 : W0.frozen? ⟨w.heap.size + 1, 1, none⟩ = false := by rw [e_W0]; go_cell
  have hs : w.heap.size + 2 ≤ W0.heap.size := by rw [e_W0]; simp
  go_enter Try.func31, Try.ntmps31
  go_wp2_with fail
  rw [← e_W0]
  clear e_W0
  have hI := (Arg.new hv).below hW
  refine (ImageValid_c W _ rows _ hI.ints).mono ?_
  rintro e wc ⟨rfl, hb⟩
  replace x0 := cellB hb x0
  replace x1 := cellB hb x1
  replace rf0 := frozenB hb r0 rf0
  replace r0 := cellB hb r0
  replace rf1 := frozenB hb r1 rf1
  replace r1 := cellB hb r1
  replace hW := hW.trans (Below.mono hb hW.size)
  replace hs := Nat.le_trans hs hb.size
  replace hI := hI.below hb
  rw [hn]
  obtain ⟨q0, q1⟩ := set2_get (x := .int .i64 0) (y := .slice none 0 0) r0 r1
  clear hn hv
  go_wp2
  refine bodyPost_ret (res_img_b rfl _ _ rfl q0 q1) rfl ?_
  exact ⟨rfl, (hW.setCell (by simp) _).setCell (by simp) _⟩
end Go.Proofs.Ytbblbdacdpokeaa
