/- The law that holes need room: it returns true at whatever code. Conditions: the code's slice can be read. -/
import Derived.Test.YtbblbdacdpokeaaPH2
import Derived.Test.YtbblbdacdpokeaaPD2
namespace Go.Proofs.Ytbblbdacdpokeaa
open Go.RowKit
open Gr
/-- An unset cell that is not on the rim. -/
def innP (n : Nat) (ns : List Nat) (c : Nat × Nat) : Bool := !cell ns c.1 c.2 && (decide (1 ≤ c.1) && decide (c.1 + 1 < ns.length) && decide (1 ≤ c.2) && decide (c.2 + 1 < n))
theorem innP_no {n : Nat} {ns : List Nat} {k l : Nat} (h : k = 0 ∨ ns.length ≤ k + 1 ∨ l = 0 ∨ n ≤ l + 1) : innP n ns (k, l) = false := by
  rw [← Bool.not_eq_true]
  intro h2
  simp only [innP, Bool.and_eq_true, decide_eq_true_eq] at h2
  omega
theorem innP_in {n : Nat} {ns : List Nat} {k l : Nat} (h1 : 1 ≤ k) (h2 : k + 1 < ns.length) (h3 : 1 ≤ l) (h4 : l + 1 < n) : innP n ns (k, l) = !cell ns k l := by
  simp [innP, h1, h2, h3, h4]
theorem cnt_flat {n : Nat} {ns : List Nat} {k : Nat} (h : k = 0 ∨ ns.length ≤ k + 1) : ∀ l, cntTo (innP n ns) n k l = cntTo (innP n ns) n k 0
  | 0 => rfl
  | l + 1 => by rw [cntTo_no (innP_no (by omega)), cnt_flat h l]
theorem cnt_row {n : Nat} {ns : List Nat} {k : Nat} (h : k = 0 ∨ ns.length ≤ k + 1) : cntTo (innP n ns) n (k + 1) 0 = cntTo (innP n ns) n k 0 := by
  rw [← cntTo_row, cnt_flat h]
theorem cnt_start (n : Nat) (ns : List Nat) : cntTo (innP n ns) n 1 0 = 0 := by
  rw [cnt_row (.inl rfl), cntTo_zero]
  simp [cellsL]
theorem cnt_one (n : Nat) (ns : List Nat) (k : Nat) : cntTo (innP n ns) n k 1 = cntTo (innP n ns) n k 0 := cntTo_no (innP_no (by omega))
theorem cnt_end {n : Nat} {ns : List Nat} {k l : Nat} (hl : l ≤ n) (h : n ≤ l + 1) : cntTo (innP n ns) n k l = cntTo (innP n ns) n (k + 1) 0 := by
  rw [← cntTo_row]
  by_cases e : l = n
  · rw [e]
  · obtain rfl : n = l + 1 := by omega
    exact (cntTo_no (innP_no (by omega))).symm
theorem cnt_last {n : Nat} {ns : List Nat} {k : Nat} (hk : k ≤ ns.length) (h : ns.length ≤ k + 1) : cntTo (innP n ns) n ns.length 0 = cntTo (innP n ns) n k 0 := by
  by_cases e : k = ns.length
  · rw [e]
  · have e2 : ns.length = k + 1 := by omega
    rw [e2]
    exact cnt_row (.inr (by omega))
theorem holes_room {n : Nat} {ns : List Nat} : holesN n ns ≤ (cntTo (innP n ns) n ns.length 0 : Nat) := by
  unfold holesN
  rw [holesL_eq, cntTo_zero, ← List.countP_eq_length_filter, ← List.countP_eq_length_filter]
  refine Int.ofNat_le.2 (List.countP_mono_left fun c hc h => ?_)
  have hm := mem_cellsL.1 hc
  simp only [holeB, Bool.and_eq_true, Bool.not_eq_true'] at h
  have ht : coT n ns c.1 c.2 = true := co_iff.2 ⟨hm.1, hm.2, h.1.1⟩
  have hi := (innerB_iff coT_in ht).1 h.1.2 c.1 c.2 Gr.Reach.refl
  simp only [innP, h.1.1, Bool.and_eq_true, decide_eq_true_eq]
  exact ⟨rfl, ⟨⟨hi.1, hi.2.1⟩, hi.2.2.1⟩, hi.2.2.2⟩
theorem onHoles_bd (W : Int) (rows : List Int) : -1 ≤ onImg (-1) holesN W rows ∧ onImg (-1) holesN W rows ≤ 42 := by
  cases hv : validB W rows with
  | false => rw [onImg_no hv]; omega
  | true =>
    obtain ⟨n, ns, rfl, rfl, hV⟩ := validB_yes hv
    rw [onImg_yes hV]
    have h1 := holes_room (n := n) (ns := ns)
    have h2 := cntTo_bd (p := innP n ns) (w := n) (k := ns.length) (l := 0) hV.h6 hV.w6 (by omega)
    have h3 : 0 ≤ holesN n ns := by unfold holesN; omega
    omega
set_option maxRecDepth 100000 in
set_option maxHeartbeats 4000000 in
theorem holes_walk (A : Option Addr) (len cap : Nat) (hlc : len ≤ cap) (w : World) (hc : Code8 w w.heap.size A len) :
    Calls Try.prog 8 #[.slice A len cap] w fun e w' => e = .returned (.bool true) ∧ Below w.heap.size w w' := by
  by_cases hbig : 1048576 < len
  · go_enter Try.func8, Try.ntmps8
    go_wp2
    go_returns
    exact ⟨rfl, Below.refl _ _⟩
  · go_enter Try.func8, Try.ntmps8
    go_wp2_with fail
    refine (DrawImageHoles_c A len cap hlc w hc).mono ?_
    rintro e wc ⟨W, v, rows, rfl, hI, hl6, hW⟩
    obtain ⟨B, cp, rfl⟩ := hI.len
    obtain ⟨W1, e_W1⟩ : ∃ W0, W0 = World.alloc wc (.cells #[.int .i64 W, .slice B rows.length cp] 27) := ⟨_, rfl⟩
    have hx_W1 := Box2.new wc (.int .i64 W) (.slice B rows.length cp) 27
    have hb_W1 : Below (World.heap wc).size wc W1 := by rw [e_W1]; go_grown
    replace hW := hW.trans (Below.mono hb_W1 hW.size)
    replace hI := (hI.below hb_W1).more (Below.size hb_W1)
    have HE_W1 := Lib.hid e_W1
    clear e_W1
    go_wp2_with fail
    rw [← HE_W1.out] at hx_W1 ⊢
    clear HE_W1
    obtain ⟨hl_x, x0, x1⟩ := hx_W1
    obtain ⟨Bx, e_Bx⟩ : ∃ Bx, Bx = (World.heap wc).size := ⟨_, rfl⟩
    rw [← e_Bx] at hl_x x0 x1 hb_W1  ⊢
    have hz_Bx := hb_W1.size
    clear e_Bx hb_W1
    refine (ImageHoles_c W _ rows W1 hI).mono ?_
    rintro e wc ⟨rfl, hb⟩
    replace hW := hW.trans (Below.mono hb hW.size)
    replace hI := (hI.below hb).more (Below.size hb)
    replace x0 := cellB hb x0
    replace x1 := cellB hb x1
    go_wp2_with fail
    refine (sImageHoles_c W _ rows _ hI).mono ?_
    rintro e wc ⟨rfl, hb⟩
    replace hW := hW.trans (Below.mono hb hW.size)
    replace hI := (hI.below hb).more (Below.size hb)
    replace x0 := cellB hb x0
    replace x1 := cellB hb x1
    have hob := onHoles_bd W rows
    obtain ⟨a, ea⟩ : ∃ a, a = onImg (-1) holesN W rows := ⟨_, rfl⟩
    rw [← ea] at hob ⊢
    by_cases hneg : a < 0
    · clear ea
      go_wp2
      go_returns
      exact ⟨rfl, hW⟩
    · have hval : validB W rows = true := by
        cases hv : validB W rows with
        | true => rfl
        | false => rw [onImg_no hv] at ea; omega
      obtain ⟨n, ns, rfl, rfl, hV⟩ := validB_yes hval
      rw [onImg_yes hV] at ea
      have h6 := hV.h6
      have w6 := hV.w6
      have h1 := hV.h1
      have w1 := hV.w1
      have hroom := holes_room (n := n) (ns := ns)
      rw [← ea] at hroom
      have HRM := Lib.hid hroom
      have HST := Lib.hid (cnt_start n ns)
      rw [length_casts] at x1 hI ⊢
      clear ea hval hroom
      go_wp2_with fail
      go_loopw [6, 7] (fun s q wr => ∃ k : Nat, 1 ≤ k ∧ k ≤ ns.length ∧ s = .int .i64 (cntTo (innP n ns) n k 0 : Nat) ∧ q = .int .i64 k ∧ Below w.heap.size w wr ∧ Ints wr.heap.size wr (.slice B ns.length cp) (casts ns) ∧ wr.cell? ⟨Bx, 0, none⟩ = some (.int .i64 (n : Int)) ∧ wr.cell? ⟨Bx, 1, none⟩ = some (.slice B ns.length cp)) (fun _ q _ => ns.length - (intOf q).toNat)
      case atStart => exact ⟨1, by omega, h1, by rw [HST.out]; rfl, rfl, hW, hI, x0, x1⟩
      case round =>
        clear hW hI x0 x1
        obtain ⟨k, hk1, hk, rfl, rfl, hW, hI, x0, x1⟩ := hrel
        by_cases hkl : k + 1 < ns.length
        · have h1z := Lib.hid (cnt_one n ns k)
          have hki : ((k : Int) + 1 < (ns.length : Int)) := by omega
          go_wp2_with fail
          go_loopw [6, 8] (fun s q wr => ∃ l : Nat, 1 ≤ l ∧ l ≤ n ∧ s = .int .i64 (cntTo (innP n ns) n k l : Nat) ∧ q = .int .i64 l ∧ Below w.heap.size w wr ∧ Ints wr.heap.size wr (.slice B ns.length cp) (casts ns) ∧ wr.cell? ⟨Bx, 0, none⟩ = some (.int .i64 (n : Int)) ∧ wr.cell? ⟨Bx, 1, none⟩ = some (.slice B ns.length cp)) (fun _ q _ => n - (intOf q).toNat)
          case atStart => exact ⟨1, by omega, w1, by rw [h1z.out], rfl, hW, hI, x0, x1⟩
          case round =>
            clear hW hI x0 x1
            obtain ⟨l, hl1, hl, rfl, rfl, hW, hI, x0, x1⟩ := hrel
            by_cases hll : l + 1 < n
            · skip
              have hcb := cntTo_bd (p := innP n ns) (w := n) (k := k) (l := l) (by omega) w6 (by omega)
              have hli : ((l : Int) + 1 < (n : Int)) := by omega
              have hin := innP_in (n := n) (ns := ns) hk1 hkl hl1 hll
              go_wp2_with fail
              refine (ImageHas_v n _ ns hV _ _ _ hI).mono ?_
              rintro e wc ⟨rfl, hb⟩
              replace hW := hW.trans (Below.mono hb hW.size)
              replace hI := (hI.below hb).more (Below.size hb)
              replace x0 := cellB hb x0
              replace x1 := cellB hb x1
              rw [cellZ_nat]
              cases hcc : cell ns k l with
              | true =>
                have hst := cntTo_no (w := n) (hin.trans (by rw [hcc]; rfl))
                have HS := Lib.hid hst
                clear hin hst hcc
                go_wp2
                go_roundw
                case rel =>
                  exact ⟨l + 1, by omega, by omega, by rw [HS.out], by go_num, hW, hI, x0, x1⟩
                case measure => simp [intOf]; omega
              | false =>
                have hst := cntTo_yes (w := n) (hin.trans (by rw [hcc]; rfl))
                have HS := Lib.hid hst
                clear hin hst hcc
                go_wp2
                go_roundw
                case rel => exact ⟨l + 1, by omega, by omega, by rw [HS.out]; go_num, by go_num, hW, hI, x0, x1⟩
                case measure => simp [intOf]; omega
            · have hli : ¬ ((l : Int) + 1 < (n : Int)) := by omega
              have he := cnt_end (ns := ns) (k := k) hl (by omega)
              have HE := Lib.hid he
              clear he
              go_wp2
              go_roundw
              case rel => exact ⟨k + 1, by omega, by omega, by rw [HE.out], by go_num, hW, hI, x0, x1⟩
              case measure => simp [intOf]; omega
        · have hki : ¬ ((k : Int) + 1 < (ns.length : Int)) := by omega
          have he := cnt_last (n := n) hk (by omega)
          have hrm := HRM.out
          rw [he] at hrm
          clear he
          obtain ⟨z, ez⟩ : ∃ z, z = cntTo (innP n ns) n k 0 := ⟨_, rfl⟩
          rw [← ez] at hrm ⊢
          clear ez
          go_wp2
          go_returns
          exact ⟨rb (by simp [hrm]), hW⟩
end Go.Proofs.Ytbblbdacdpokeaa
