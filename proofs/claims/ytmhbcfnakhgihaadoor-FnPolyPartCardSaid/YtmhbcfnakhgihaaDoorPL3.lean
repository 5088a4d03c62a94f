/- Contract of l32Group of the reference: the part of a cell, by a search in breadth. Conditions: the image is valid; the cell is there. -/
import Derived.Test.YtmhbcfnakhgihaaDoorPL2
namespace Go.Proofs.YtmhbcfnakhgihaaDoor
open Go.RowKit
open Gr
/-- The rows of an image, read out of memory. -/
def decRow (wr : World) (g h : Nat) : List Nat := (List.range h).map fun k => match wr.cell? ⟨g, k, none⟩ with | some (.int _ z) => z.toNat | _ => 0
theorem dec_row {wr : World} {g : Nat} {os : List Nat} (hr : Row wr g (casts os)) {h : Nat} (hl : os.length = h) : decRow wr g h = os := by
  subst hl
  apply List.ext_getElem
  · simp [decRow]
  · intro k h1 h2
    have := hr.cell (k := k) (by rw [length_casts]; exact h2)
    rw [casts_getD] at this
    simp [decRow, this, List.getD_eq_getElem?_getD, List.getElem?_eq_getElem h2]
/-- In the midst of a pass. -/
def Scan (T : Nat → Nat → Bool) (c : Bool) (h w : Nat) (f : Bool) (os0 os : List Nat) (k l : Nat) : Prop :=
  (f = false → os = os0 ∧ ∀ a b, a < h → b < w → (a < k ∨ (a = k ∧ b < l)) → T a b = true → cell os a b = false → touchB c h w os a b = false) ∧ (f = true → setN h w os0 < setN h w os) ∧ setN h w os0 ≤ setN h w os
theorem Scan.start {T : Nat → Nat → Bool} {c : Bool} {h w : Nat} (os : List Nat) : Scan T c h w false os os 0 0 :=
  ⟨fun _ => ⟨rfl, fun a b _ _ hh => by omega⟩, (fun hh => nomatch hh), Nat.le_refl _⟩
theorem Scan.row {T : Nat → Nat → Bool} {c : Bool} {h w : Nat} {f : Bool} {os0 os : List Nat} {k : Nat} (hs : Scan T c h w f os0 os k w) : Scan T c h w f os0 os (k + 1) 0 :=
  ⟨fun hf => ⟨(hs.1 hf).1, fun a b ha hb hh => (hs.1 hf).2 a b ha hb (by omega)⟩, hs.2.1, hs.2.2⟩
theorem Scan.skip {T : Nat → Nat → Bool} {c : Bool} {h w : Nat} {f : Bool} {os0 os : List Nat} {k l : Nat} (hs : Scan T c h w f os0 os k l) (hn : T k l = true → cell os k l = false → touchB c h w os k l = false) : Scan T c h w f os0 os k (l + 1) :=
  ⟨fun hf => ⟨(hs.1 hf).1, fun a b ha hb hh ht hc => by
    by_cases e : a = k ∧ b = l
    · obtain ⟨rfl, rfl⟩ := e; exact hn ht hc
    · exact (hs.1 hf).2 a b ha hb (by omega) ht hc⟩, hs.2.1, hs.2.2⟩
theorem Scan.add {T : Nat → Nat → Bool} {c : Bool} {h w : Nat} {f : Bool} {os0 os : List Nat} {k l : Nat} (hs : Scan T c h w f os0 os k l) (hz : Sized h w os) (hk : k < h) (hl : l < w) (hc : cell os k l = false) : Scan T c h w true os0 (putL os k l true) k (l + 1) := by
  have e : ∀ a b, cell (putL os k l true) a b = if a = k ∧ b = l then true else cell os a b := cell_putL (by rw [hz.1]; exact hk) l true
  have : setN h w os < setN h w (putL os k l true) := setN_lt (hz.put hk hl true) (fun a b hab => by rw [e]; split <;> first | rfl | exact hab) (i := k) (j := l) (by rw [e, if_pos ⟨rfl, rfl⟩]) hc
  exact ⟨(fun hh => nomatch hh), fun _ => Nat.lt_of_le_of_lt hs.2.2 this, Nat.le_trans hs.2.2 (Nat.le_of_lt this)⟩
/-- Between two passes. -/
def Fresh (T : Nat → Nat → Bool) (c : Bool) (h w : Nat) (f : Bool) (os : List Nat) : Prop := f = false → ∀ a b, a < h → b < w → T a b = true → cell os a b = false → touchB c h w os a b = false
theorem Scan.fresh {T : Nat → Nat → Bool} {c : Bool} {h w : Nat} {f : Bool} {os0 os : List Nat} (hs : Scan T c h w f os0 os h 0) : Fresh T c h w f os :=
  fun hf a b ha hb => (hs.1 hf).2 a b ha hb (by omega)
def meas (h w g : Nat) (f : Value) (wr : World) : Nat := (match f with | .bool true => 1 | _ => 0) + 2 * (h * w - setN h w (decRow wr g h))
theorem Scan.less {T : Nat → Nat → Bool} {c : Bool} {h w g : Nat} {f : Bool} {os0 os : List Nat} {w0 w1 : World} (hs : Scan T c h w f os0 os h 0) (h0 : decRow w0 g h = os0) (h1 : decRow w1 g h = os) : meas h w g (.bool f) w1 < meas h w g (.bool true) w0 := by
  unfold meas
  rw [h0, h1]
  have h2 := setN_le h w os
  have h3 := setN_le h w os0
  have h4 := hs.2.1
  have h5 := hs.2.2
  generalize h * w = m at h2 h3 ⊢
  generalize setN h w os = x at h2 h4 h5 ⊢
  generalize setN h w os0 = y at h3 h4 h5 ⊢
  cases f with
  | true => have := h4 rfl; dsimp only; omega
  | false => dsimp only; omega
/-- The memory in the midst of l32Group. -/
structure GMem (w wr : World) (n h g cap Bo : Nat) (A : Option Addr) (ns os : List Nat) : Prop where
  row : Row wr g (casts os)
  bel : Below w.heap.size w wr
  arg : Arg w.heap.size wr (.slice A h cap) (casts ns)
  a0 : wr.cell? ⟨w.heap.size, 0, none⟩ = some (.int .i64 (n : Int))
  a1 : wr.cell? ⟨w.heap.size, 1, none⟩ = some (.slice A h cap)
  r0 : wr.cell? ⟨w.heap.size + 1, 0, none⟩ = some (.int .i64 0)
  r1 : wr.cell? ⟨w.heap.size + 1, 1, none⟩ = some (.slice none 0 0)
  rf0 : wr.frozen? ⟨w.heap.size + 1, 0, none⟩ = false
  rf1 : wr.frozen? ⟨w.heap.size + 1, 1, none⟩ = false
  o0 : wr.cell? ⟨Bo, 0, none⟩ = some (.int .i64 (n : Int))
  o1 : wr.cell? ⟨Bo, 1, none⟩ = some (.slice (some ⟨g, 0, none⟩) h h)
set_option maxRecDepth 100000 in
set_option maxHeartbeats 4000000 in
theorem l32Group_c (n : Nat) (v : Value) (ns : List Nat) (hV : VImg n ns) (i j : Nat) (c : Bool) (hi : i < ns.length) (hj : j < n) (w : World) (hv : Ints w.heap.size w v (casts ns)) :
    Calls Tryd.prog 48 #[.agg #[.int .i64 (n : Int), v], .int .i64 (i : Int), .int .i64 (j : Int), .bool c] w fun e w' => ∃ g cp, e = .returned (.agg #[.int .i64 (n : Int), .slice (some ⟨g, 0, none⟩) ns.length cp]) ∧ w.heap.size ≤ g ∧ Row w' g (casts (compL (sameT ns.length n ns i j) c ns.length n (i, j))) ∧ Below w.heap.size w w' := by
  obtain ⟨A, cap, rfl⟩ := hv.len
  rw [length_casts] at hv ⊢
  have h6 := hV.h6
  have w6 := hV.w6
  have h1 := hV.h1
  have w1 := hV.w1
  obtain ⟨h, eh⟩ : ∃ h, h = ns.length := ⟨_, rfl⟩
  rw [← eh] at hi h6 h1 hv ⊢
  have HEH := Lib.hid eh
  clear eh
  obtain ⟨T, eT⟩ : ∃ T, T = sameT h n ns i j := ⟨_, rfl⟩
  rw [← eT]
  have HT := Lib.hid eT
  clear eT
  obtain ⟨Wa, eWa⟩ : ∃ W0, W0 = (w.alloc (.cells #[.int .i64 (n : Int), .slice A h cap] 27)).alloc (.cells #[.int .i64 0, .slice none 0 0] 27) := ⟨_, rfl⟩
  have hW : Below w.heap.size w Wa := by rw [eWa]; go_grown
  have a0 : Wa.cell? ⟨w.heap.size, 0, none⟩ = some (.int .i64 (n : Int)) := by rw [eWa]; go_cell
  have a1 : Wa.cell? ⟨w.heap.size, 1, none⟩ = some (.slice A h cap) := by rw [eWa]; go_cell
  have r0 : Wa.cell? ⟨w.heap.size + 1, 0, none⟩ = some (.int .i64 0) := by rw [eWa]; go_cell
  have r1 : Wa.cell? ⟨w.heap.size + 1, 1, none⟩ = some (.slice none 0 0) := by rw [eWa]; go_cell
  have rf0 : Wa.frozen? ⟨w.heap.size + 1, 0, none⟩ = false := by rw [eWa]; go_cell
  have rf1 : Wa.frozen? ⟨w.heap.size + 1, 1, none⟩ = false := by rw [eWa]; go_cell
  have hza : w.heap.size + 2 = Wa.heap.size := by rw [eWa]; simp
  have HZA := Lib.hid hza
  clear hza
  have hI := (Arg.new hv).below hW
  clear hv
  go_enter Tryd.func48, Tryd.ntmps48
  go_wp2_with fail
  rw [← eWa]
  clear eWa
  refine (l1Blank_c h (n : Int) h6 Wa).mono ?_
  rintro e wc ⟨rfl, hr, hb⟩
  obtain ⟨g, eg⟩ : ∃ g, g = Wa.heap.size + 1 := ⟨_, rfl⟩
  have hgw : w.heap.size + 2 < g := by have := HZA.out; omega
  have hgc : g < wc.heap.size := by rw [eg]; exact hr.lt
  rw [← eg] at hr ⊢
  clear eg
  replace a0 := cellB hb a0
  replace a1 := cellB hb a1
  replace rf0 := frozenB hb r0 rf0
  replace r0 := cellB hb r0
  replace rf1 := frozenB hb r1 rf1
  replace r1 := cellB hb r1
  replace hI := hI.below hb
  replace hW := hW.trans (Below.mono hb hW.size)
  obtain ⟨W1, e_W1⟩ : ∃ W0, W0 = World.alloc wc (.cells #[.int .i64 (n : Int), .slice (some ⟨g, 0, none⟩) h h] 27) := ⟨_, rfl⟩
  have hx_W1 := Box2.new wc (.int .i64 (n : Int)) (.slice (some ⟨g, 0, none⟩) h h) 27
  have hb_W1 : Below (World.heap wc).size wc W1 := by rw [e_W1]; go_grown
  have HS_W1 := Lib.hid (show (World.heap W1).size = (World.heap wc).size + 1 by rw [e_W1]; simp)
  replace a0 := cellB hb_W1 a0
  replace a1 := cellB hb_W1 a1
  replace rf0 := frozenB hb_W1 r0 rf0
  replace r0 := cellB hb_W1 r0
  replace rf1 := frozenB hb_W1 r1 rf1
  replace r1 := cellB hb_W1 r1
  replace hI := hI.below hb_W1
  replace hW := hW.trans (Below.mono hb_W1 hW.size)
  replace hr := hr.below hb_W1 hr.lt
  have HE_W1 := Lib.hid e_W1
  clear e_W1
  go_wp2_with fail
  rw [← HE_W1.out] at hx_W1 ⊢
  clear HE_W1
  obtain ⟨hl_o, o0, o1⟩ := hx_W1
  obtain ⟨Bo, e_Bo⟩ : ∃ Bx, Bx = (World.heap wc).size := ⟨_, rfl⟩
  rw [← e_Bo] at hl_o o0 o1 hb_W1 HS_W1 hgc ⊢
  have hz_Bo := hb_W1.size
  clear e_Bo hb_W1
  have hz0 : (List.replicate h 0).getD i 0 < 64 := by
    rw [List.getD_eq_getElem?_getD, List.getElem?_replicate]
    split <;> simp
  refine (l1Put_h (n : Int) g h h (List.replicate h 0) (by simp) i j hi (by omega) hz0 true W1 (by rw [casts_rep]; exact hr)).mono ?_
  rintro e wc ⟨rfl, hr', hg⟩
  clear hr hz0
  replace a0 := cell_only hg a0 (by first | assumption | omega | (simp; omega))
  replace a1 := cell_only hg a1 (by first | assumption | omega | (simp; omega))
  replace rf0 := frozen_only hg r0 (by first | assumption | omega | (simp; omega)) rf0
  replace r0 := cell_only hg r0 (by first | assumption | omega | (simp; omega))
  replace rf1 := frozen_only hg r1 (by first | assumption | omega | (simp; omega)) rf1
  replace r1 := cell_only hg r1 (by first | assumption | omega | (simp; omega))
  replace hI := hI.only hg (by first | assumption | omega | (simp; omega))
  replace hW := bel_only hW hg (by first | assumption | omega | (simp; omega))
  replace o0 := cell_only hg o0 (by first | assumption | omega | (simp; omega))
  replace o1 := cell_only hg o1 (by first | assumption | omega | (simp; omega))
  have hG : GInv T c h n i j (putL (List.replicate h 0) i j true) := GInv.start hi hj
  go_wp2_with fail
  go_loopw [10] (fun s wr => ∃ (f : Bool) (os : List Nat), s = .bool f ∧ GInv T c h n i j os ∧ Fresh T c h n f os ∧ GMem w wr n h g cap Bo A ns os) (fun s wr => meas h n g s wr)
  case atStart => exact ⟨true, _, rfl, hG, (fun hh => nomatch hh), hr', hW, hI, a0, a1, r0, r1, rf0, rf1, o0, o1⟩
  case round =>
    clear hG hr' hW hI a0 a1 r0 r1 rf0 rf1 o0 o1
    obtain ⟨f, os, rfl, hG, hF, hm⟩ := hrel
    cases f with
    | false =>
      obtain ⟨hr, hW, hI, a0, a1, r0, r1, rf0, rf1, o0, o1⟩ := hm
      have ht : T i j = true := by rw [HT.out]; simp [sameT, hi, hj]
      have hos := hG.finish (by rw [HT.out]; exact sameT_in) ht (hF rfl)
      obtain ⟨q0, q1⟩ := set2_get (x := .int .i64 (n : Int)) (y := .slice (some ⟨g, 0, none⟩) h h) r0 r1
      rw [hos] at hr
      have HR := Lib.hid hr
      clear hr hos ht hF hG
      go_wp2
      refine bodyPost_ret (res_img rfl _ _ rfl q0 q1) rfl ?_
      exact ⟨g, h, rfl, by omega, (HR.out.far (by simp; omega) _).far (by simp; omega) _, (hW.setCell (by simp) _).setCell (by simp) _⟩
    | true =>
      have hd0 := dec_row hm.row hG.sz.1
      have HD0 := Lib.hid hd0
      clear hd0 hF
      have hz := hG.sz
      obtain ⟨hr, hW, hI, a0, a1, r0, r1, rf0, rf1, o0, o1⟩ := hm
      go_wp2_with fail
      go_loopw [10, 11] (fun s q wr1 => ∃ (f : Bool) (os1 : List Nat) (k : Nat), k ≤ h ∧ s = .bool f ∧ q = .int .i64 k ∧ GInv T c h n i j os1 ∧ Scan T c h n f os os1 k 0 ∧ GMem w wr1 n h g cap Bo A ns os1) (fun _ q _ => h - (intOf q).toNat)
      case atStart => exact ⟨false, os, 0, by omega, rfl, rfl, hG, Scan.start os, hr, hW, hI, a0, a1, r0, r1, rf0, rf1, o0, o1⟩
      case round =>
        clear hr hW hI a0 a1 r0 r1 rf0 rf1 o0 o1 hG
        obtain ⟨f, os1, k, hk, rfl, rfl, hG, hS, hm⟩ := hrel
        by_cases hkh : k < h
        · obtain ⟨hr, hW, hI, a0, a1, r0, r1, rf0, rf1, o0, o1⟩ := hm
          go_wp2_with fail
          go_loopw [10, 12] (fun s q wr1 => ∃ (f : Bool) (os1 : List Nat) (l : Nat), l ≤ n ∧ s = .bool f ∧ q = .int .i64 l ∧ GInv T c h n i j os1 ∧ Scan T c h n f os os1 k l ∧ GMem w wr1 n h g cap Bo A ns os1) (fun _ q _ => n - (intOf q).toNat)
          case atStart => exact ⟨f, os1, 0, by omega, rfl, rfl, hG, hS, hr, hW, hI, a0, a1, r0, r1, rf0, rf1, o0, o1⟩
          case round =>
            clear hr hW hI a0 a1 r0 r1 rf0 rf1 o0 o1 hG hS
            obtain ⟨f, os1, l, hl, rfl, rfl, hG, hS, hm⟩ := hrel
            by_cases hln : l < n
            · obtain ⟨hr, hW, hI, a0, a1, r0, r1, rf0, rf1, o0, o1⟩ := hm
              have hV1 := hG.sz.vimg h1 h6 w1 w6
              have hl1 := hG.sz.1
              have hIo := hr.intsH (c := h) hl1
              have H1 := fun d os => l11Get_c (n : Int) _ ns k l (by rw [← HEH.out]; exact hkh) (by omega) (by have := hV.get64 k; omega) _ ((hI.ints.rg (Nat.le_refl _) d os).more (rg_size _ d os))
              have H2 := fun d os => l11Get_c (n : Int) _ ns i j (by rw [← HEH.out]; exact hi) (by omega) (by have := hV.get64 i; omega) _ ((hI.ints.rg (Nat.le_refl _) d os).more (rg_size _ d os))
              have H3 := fun d os => l11Get_c (n : Int) _ os1 k l (by omega) (by omega) (by have := hV1.get64 k; omega) _ ((hIo.rg (Nat.le_refl _) d os).more (rg_size _ d os))
              have H4 := fun d os => l32Touch_c n _ os1 hV1 k l c (by omega) hln _ ((hIo.rg (Nat.le_refl _) d os).more (rg_size _ d os))
              have hTk : T k l = (cell ns k l == cell ns i j) := by rw [HT.out]; simp [sameT, hkh, hln]
              have hpq : (b2i (cell ns k l) == b2i (cell ns i j)) = T k l := by rw [hTk]; cases cell ns k l <;> cases cell ns i j <;> rfl
              rw [hl1] at H4
              obtain ⟨p, ep⟩ : ∃ p, p = b2i (cell ns k l) := ⟨_, rfl⟩
              obtain ⟨q, eq⟩ : ∃ q, q = b2i (cell ns i j) := ⟨_, rfl⟩
              simp only [← ep] at H1
              simp only [← eq] at H2
              rw [← ep, ← eq] at hpq
              have k0 := cell_regrown a0
              have k1 := cell_regrown a1
              have k2 := cell_regrown o0
              have k3 := cell_regrown o1
              have HL1 := Lib.hid hl1
              clear ep eq hTk hIo hl1
              cases htk : T k l with
              | false =>
                rw [htk] at hpq
                have HTK := Lib.hid htk
                clear htk
                go_wp2_with fail
                refine wp_region_quiet_below (by kernel_rfl) (by kernel_rfl) ?_
                repeat (first | go_big_quiet_step ((go_at_call 46; first | with_reducible exact Calls.rg (H1 _ _) | with_reducible exact Calls.rg (H2 _ _))) | quiet_step ((go_at_call 46; first | with_reducible exact Calls.rg (H1 _ _) | with_reducible exact Calls.rg (H2 _ _))))
                refine wpQuiet_nil ?_
                intro _ hw0
                obtain ⟨⟨dq, osq⟩, hw1⟩ := hw0
                subst hw1
                have hq := below_regrown wr dq osq
                generalize Go.Sort.grow (redrawn wr dq) osq = w2 at hq ⊢
                clear k0 k1 k2 k3
                replace a0 := cellB hq a0
                replace a1 := cellB hq a1
                replace rf0 := frozenB hq r0 rf0
                replace r0 := cellB hq r0
                replace rf1 := frozenB hq r1 rf1
                replace r1 := cellB hq r1
                replace o0 := cellB hq o0
                replace o1 := cellB hq o1
                replace hr := hr.below hq hr.lt
                replace hI := hI.below hq
                replace hW := hW.trans (Below.mono hq hW.size)
                go_wp2
                go_roundw
                case rel => exact ⟨f, os1, l + 1, by omega, rfl, by go_num, hG, hS.skip (fun ht => by rw [HTK.out] at ht; cases ht), hr, hW, hI, a0, a1, r0, r1, rf0, rf1, o0, o1⟩
                case measure => simp [intOf]; omega
              | true =>
                rw [htk] at hpq
                have HTK := Lib.hid htk
                clear htk
                cases hck : cell os1 k l with
                | true =>
                  have e1 : b2i true = 1 := rfl
                  simp only [hck, e1] at H3
                  have HCK := Lib.hid hck
                  clear hck e1
                  go_wp2_with fail
                  refine wp_region_quiet_below (by kernel_rfl) (by kernel_rfl) ?_
                  repeat (first | go_big_quiet_step ((go_at_call 46; first | with_reducible exact Calls.rg (H1 _ _) | with_reducible exact Calls.rg (H2 _ _) | with_reducible exact Calls.rg (H3 _ _))) | quiet_step ((go_at_call 46; first | with_reducible exact Calls.rg (H1 _ _) | with_reducible exact Calls.rg (H2 _ _) | with_reducible exact Calls.rg (H3 _ _))))
                  refine wpQuiet_nil ?_
                  intro _ hw0
                  obtain ⟨⟨dq, osq⟩, hw1⟩ := hw0
                  subst hw1
                  have hq := below_regrown wr dq osq
                  generalize Go.Sort.grow (redrawn wr dq) osq = w2 at hq ⊢
                  clear k0 k1 k2 k3
                  replace a0 := cellB hq a0
                  replace a1 := cellB hq a1
                  replace rf0 := frozenB hq r0 rf0
                  replace r0 := cellB hq r0
                  replace rf1 := frozenB hq r1 rf1
                  replace r1 := cellB hq r1
                  replace o0 := cellB hq o0
                  replace o1 := cellB hq o1
                  replace hr := hr.below hq hr.lt
                  replace hI := hI.below hq
                  replace hW := hW.trans (Below.mono hq hW.size)
                  go_wp2
                  go_roundw
                  case rel => exact ⟨f, os1, l + 1, by omega, rfl, by go_num, hG, hS.skip (fun _ hc => by rw [HCK.out] at hc; cases hc), hr, hW, hI, a0, a1, r0, r1, rf0, rf1, o0, o1⟩
                  case measure => simp [intOf]; omega
                | false =>
                  have e1 : b2i false = 0 := rfl
                  simp only [hck, e1] at H3
                  have HCK := Lib.hid hck
                  clear hck e1
                  cases hto : touchB c h n os1 k l with
                  | false =>
                    simp only [hto] at H4
                    have HTO := Lib.hid hto
                    clear hto
                    go_wp2_with fail
                    refine wp_region_quiet_below (by kernel_rfl) (by kernel_rfl) ?_
                    repeat (first | go_big_quiet_step (first | (go_at_call 46; first | with_reducible exact Calls.rg (H1 _ _) | with_reducible exact Calls.rg (H2 _ _) | with_reducible exact Calls.rg (H3 _ _)) | (go_at_call 65; with_reducible exact Calls.rg (H4 _ _))) | quiet_step (first | (go_at_call 46; first | with_reducible exact Calls.rg (H1 _ _) | with_reducible exact Calls.rg (H2 _ _) | with_reducible exact Calls.rg (H3 _ _)) | (go_at_call 65; with_reducible exact Calls.rg (H4 _ _))))
                    refine wpQuiet_nil ?_
                    intro _ hw0
                    obtain ⟨⟨dq, osq⟩, hw1⟩ := hw0
                    subst hw1
                    have hq := below_regrown wr dq osq
                    generalize Go.Sort.grow (redrawn wr dq) osq = w2 at hq ⊢
                    clear k0 k1 k2 k3
                    replace a0 := cellB hq a0
                    replace a1 := cellB hq a1
                    replace rf0 := frozenB hq r0 rf0
                    replace r0 := cellB hq r0
                    replace rf1 := frozenB hq r1 rf1
                    replace r1 := cellB hq r1
                    replace o0 := cellB hq o0
                    replace o1 := cellB hq o1
                    replace hr := hr.below hq hr.lt
                    replace hI := hI.below hq
                    replace hW := hW.trans (Below.mono hq hW.size)
                    go_wp2
                    go_roundw
                    case rel => exact ⟨f, os1, l + 1, by omega, rfl, by go_num, hG, hS.skip (fun _ _ => HTO.out), hr, hW, hI, a0, a1, r0, r1, rf0, rf1, o0, o1⟩
                    case measure => simp [intOf]; omega
                  | true =>
                    simp only [hto] at H4
                    have HTO := Lib.hid hto
                    clear hto
                    have h64 := hV1.get64 k
                    go_wp2_with fail
                    refine wp_region_quiet_below (by kernel_rfl) (by kernel_rfl) ?_
                    repeat (first | go_big_quiet_step (first | (go_at_call 46; first | with_reducible exact Calls.rg (H1 _ _) | with_reducible exact Calls.rg (H2 _ _) | with_reducible exact Calls.rg (H3 _ _)) | (go_at_call 65; with_reducible exact Calls.rg (H4 _ _))) | quiet_step (first | (go_at_call 46; first | with_reducible exact Calls.rg (H1 _ _) | with_reducible exact Calls.rg (H2 _ _) | with_reducible exact Calls.rg (H3 _ _)) | (go_at_call 65; with_reducible exact Calls.rg (H4 _ _))))
                    refine wpQuiet_nil ?_
                    intro _ hw0
                    obtain ⟨⟨dq, osq⟩, hw1⟩ := hw0
                    subst hw1
                    have hq := below_regrown wr dq osq
                    generalize Go.Sort.grow (redrawn wr dq) osq = w2 at hq ⊢
                    clear k0 k1 k2 k3
                    replace a0 := cellB hq a0
                    replace a1 := cellB hq a1
                    replace rf0 := frozenB hq r0 rf0
                    replace r0 := cellB hq r0
                    replace rf1 := frozenB hq r1 rf1
                    replace r1 := cellB hq r1
                    replace o0 := cellB hq o0
                    replace o1 := cellB hq o1
                    replace hr := hr.below hq hr.lt
                    replace hI := hI.below hq
                    replace hW := hW.trans (Below.mono hq hW.size)
                    go_wp2_with fail
                    refine (l1Put_h (n : Int) g h h os1 HL1.out k l hkh (by omega) h64 true _ hr).mono ?_
                    rintro e wc ⟨rfl, hr', hg⟩
                    clear hr h64
                    replace a0 := cell_only hg a0 (by first | assumption | omega | (simp; omega))
                    replace a1 := cell_only hg a1 (by first | assumption | omega | (simp; omega))
                    replace rf0 := frozen_only hg r0 (by first | assumption | omega | (simp; omega)) rf0
                    replace r0 := cell_only hg r0 (by first | assumption | omega | (simp; omega))
                    replace rf1 := frozen_only hg r1 (by first | assumption | omega | (simp; omega)) rf1
                    replace r1 := cell_only hg r1 (by first | assumption | omega | (simp; omega))
                    replace o0 := cell_only hg o0 (by first | assumption | omega | (simp; omega))
                    replace o1 := cell_only hg o1 (by first | assumption | omega | (simp; omega))
                    replace hI := hI.only hg (by first | assumption | omega | (simp; omega))
                    replace hW := bel_only hW hg (by first | assumption | omega | (simp; omega))
                    go_wp2
                    go_roundw
                    case rel => exact ⟨true, _, l + 1, by omega, rfl, by go_num, hG.add hkh hln HTK.out HTO.out, hS.add hG.sz hkh hln HCK.out, hr', hW, hI, a0, a1, r0, r1, rf0, rf1, o0, o1⟩
                    case measure => simp [intOf]; omega
            · obtain rfl : l = n := by omega
              obtain ⟨hr, hW, hI, a0, a1, r0, r1, rf0, rf1, o0, o1⟩ := hm
              go_wp2
              go_roundw
              case rel => exact ⟨f, os1, k + 1, by omega, rfl, by go_num, hG, hS.row, hr, hW, hI, a0, a1, r0, r1, rf0, rf1, o0, o1⟩
              case measure => simp [intOf]; omega
        · obtain rfl : k = h := by omega
          have hd1 := dec_row hm.row hG.sz.1
          have hless := hS.less HD0.out hd1
          have HLS := Lib.hid hless
          clear hd1 hless
          have hm' := hm
          obtain ⟨hr, hW, hI, a0, a1, r0, r1, rf0, rf1, o0, o1⟩ := hm
          go_wp2
          go_roundw
          case rel => exact ⟨f, os1, rfl, hG, hS.fresh, hm'⟩
          case measure => exact HLS.out
end Go.Proofs.YtmhbcfnakhgihaaDoor
