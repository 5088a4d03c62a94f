/- Contracts of l32Touch, l32First, l32Inside of the reference. Conditions: the image is valid; the cell is there. -/
import Derived.Test.YtmhbcfnakhgihaaDoorPL1
namespace Go.Proofs.YtmhbcfnakhgihaaDoor
open Go.RowKit
open Gr
/-- A set cell at (a, b) is near (i, j). -/
def hit (ns : List Nat) (c : Bool) (i j : Nat) (a b : Int) : Bool := cellZ ns a b && nearZ c i j a b
theorem hit_touch {n : Nat} {ns : List Nat} (hV : VImg n ns) {c : Bool} {i j : Nat} {a b : Int} (h : hit ns c i j a b = true) : touchB c ns.length n ns i j = true := by
  simp only [hit, cellZ, Bool.and_eq_true, decide_eq_true_eq] at h
  obtain ⟨⟨⟨ha, hb⟩, hc⟩, hn⟩ := h
  refine (touchB_iff (sized_img hV)).2 ⟨a.toNat, b.toNat, hc, ?_, ?_⟩
  · simp only [nearZ, Bool.and_eq_true, Bool.or_eq_true, decide_eq_true_eq, Bool.not_eq_true'] at hn
    unfold Adj
    refine ⟨by omega, by omega, by omega, by omega, ?_⟩
    rcases hn.2 with (h1 | h1) | h1
    · exact .inl h1
    · exact .inr (.inl (by omega))
    · exact .inr (.inr (by omega))
  · simp only [nearZ, Bool.and_eq_true, Bool.or_eq_true, decide_eq_true_eq, Bool.not_eq_true', Bool.and_eq_false_iff, decide_eq_false_iff_not] at hn
    omega
theorem no_touch {n : Nat} {ns : List Nat} (hV : VImg n ns) {c : Bool} {i j : Nat} (h : ∀ a b : Int, (i : Int) - 1 ≤ a → a ≤ i + 1 → (j : Int) - 1 ≤ b → b ≤ j + 1 → hit ns c i j a b = false) : touchB c ns.length n ns i j = false := by
  rw [← Bool.not_eq_true, touchB_iff (sized_img hV)]
  rintro ⟨k, l, h1, ⟨a1, a2, a3, a4, a5⟩, h3⟩
  have := h (k : Int) (l : Int) (by omega) (by omega) (by omega) (by omega)
  have e : hit ns c i j k l = true := by
    have e1 : cellZ ns (k : Int) (l : Int) = true := by simp [cellZ, h1]
    unfold hit
    rw [e1, Bool.true_and]
    rcases a5 with rfl | h1 | h1
    · simp [nearZ]; omega
    · simp [nearZ]; omega
    · simp [nearZ]; omega
  rw [e] at this
  cases this
/-- No hit in the rows ahead, and in the row k ahead of the place l. -/
def noHit (ns : List Nat) (c : Bool) (i j : Nat) (k l : Int) : Prop := ∀ a b : Int, (i : Int) - 1 ≤ a → a ≤ i + 1 → (j : Int) - 1 ≤ b → b ≤ j + 1 → (a < k ∨ (a = k ∧ b < l)) → hit ns c i j a b = false
set_option maxHeartbeats 1000000 in
theorem l32Touch_c (n : Nat) (v : Value) (ns : List Nat) (hV : VImg n ns) (i j : Nat) (c : Bool) (hi : i < ns.length) (hj : j < n) (w : World) (hv : Ints w.heap.size w v (casts ns)) :
    Calls Tryd.prog 65 #[.agg #[.int .i64 (n : Int), v], .int .i64 (i : Int), .int .i64 (j : Int), .bool c] w fun e w' => e = .returned (.bool (touchB c ns.length n ns i j)) ∧ Below w.heap.size w w' := by
  obtain ⟨A, cap, rfl⟩ := hv.len
  rw [length_casts] at hv ⊢
  have h6 := hV.h6
  have w6 := hV.w6
  obtain ⟨W0, eW⟩ : ∃ W0, W0 = w.alloc (.cells #[.int .i64 (n : Int), .slice A ns.length cap] 27) := ⟨_, rfl⟩
  have hB0 : Below w.heap.size w W0 := by rw [eW]; go_grown
  have hx := Box2.new w (.int .i64 (n : Int)) (.slice A ns.length cap) 27
  rw [← eW] at hx
  obtain ⟨_, x0, x1⟩ := hx
  replace hv := (hv.below hB0).more hB0.size
  go_enter Tryd.func65, Tryd.ntmps65
  go_wp2_with fail
  rw [← eW]
  clear eW
  obtain ⟨Bx, eB⟩ : ∃ Bx, Bx = w.heap.size := ⟨_, rfl⟩
  rw [← eB] at x0 x1 ⊢
  clear eB
  go_loopw [9] (fun s wr => ∃ k : Int, (i : Int) - 1 ≤ k ∧ k ≤ i + 2 ∧ s = .int .i64 k ∧ noHit ns c i j k ((j : Int) - 1) ∧ Below w.heap.size w wr ∧ Ints wr.heap.size wr (.slice A ns.length cap) (casts ns) ∧ wr.cell? ⟨Bx, 0, none⟩ = some (.int .i64 (n : Int)) ∧ wr.cell? ⟨Bx, 1, none⟩ = some (.slice A ns.length cap)) (fun s _ => ((i : Int) + 2 - intOf s).toNat)
  case atStart => exact ⟨(i : Int) - 1, by omega, by omega, rfl, fun a b h1 h2 h3 h4 h5 => by omega, hB0, hv, x0, x1⟩
  case round =>
    obtain ⟨k, hk1, hk2, rfl, hno, hB, hI, y0, y1⟩ := hrel
    have HN := Lib.hid hno
    clear hno x0 x1 hv
    by_cases hkl : k ≤ (i : Int) + 1
    · go_wp2_with fail
      go_loopw [10] (fun s wr => ∃ l : Int, (j : Int) - 1 ≤ l ∧ l ≤ j + 2 ∧ s = .int .i64 l ∧ noHit ns c i j k l ∧ Below w.heap.size w wr ∧ Ints wr.heap.size wr (.slice A ns.length cap) (casts ns) ∧ wr.cell? ⟨Bx, 0, none⟩ = some (.int .i64 (n : Int)) ∧ wr.cell? ⟨Bx, 1, none⟩ = some (.slice A ns.length cap)) (fun s _ => ((j : Int) + 2 - intOf s).toNat)
      case atStart => exact ⟨(j : Int) - 1, by omega, by omega, rfl, HN.out, hB, hI, y0, y1⟩
      case round =>
        obtain ⟨l, hl1, hl2, rfl, hno, hB, hI, y0, y1⟩ := hrel
        have HN2 := Lib.hid hno
        clear hno
        by_cases hll : l ≤ (j : Int) + 1
        · go_wp2_with fail
          refine (l31Get_c n _ ns hV k l _ hI).mono ?_
          rintro e wc ⟨rfl, hb⟩
          replace hB := hB.trans (Below.mono hb hB.size)
          replace hI := (hI.below hb).more (Below.size hb)
          replace y0 := cellB hb y0
          replace y1 := cellB hb y1
          cases hc : cellZ ns k l with
          | false =>
            have hh : hit ns c i j k l = false := by unfold hit; rw [hc]; rfl
            have HH := Lib.hid hh
            have e0 : b2i false = 0 := rfl
            rw [e0]
            clear hc hh e0
            go_wp2
            go_roundw
            case rel =>
              refine ⟨l + 1, by omega, by omega, by go_num, fun a b h1 h2 h3 h4 h5 => ?_, hB, hI, y0, y1⟩
              by_cases e : a = k ∧ b = l
              · rw [e.1, e.2]; exact HH.out
              · exact HN2.out a b h1 h2 h3 h4 (by omega)
            case measure => simp [intOf]; omega
          | true =>
            have e1 : b2i true = 1 := rfl
            rw [e1]
            have HC := Lib.hid hc
            clear e1 hc
            have HNR := l32Near_c (i : Int) j k l c (by omega) (by omega) (by omega) (by omega) wc
            cases hn : nearZ c i j k l with
            | true =>
              rw [hn] at HNR
              have hh : hit ns c i j k l = true := by unfold hit; rw [HC.out, hn]; rfl
              have HT := Lib.hid (hit_touch hV hh)
              clear hn hh
              go_wp2_with (go_at_call 71; refine HNR.mono ?_; rintro e w' ⟨rfl, rfl⟩)
              go_returns
              exact ⟨rb HT.out.symm, hB⟩
            | false =>
              rw [hn] at HNR
              have hh : hit ns c i j k l = false := by unfold hit; rw [HC.out, hn]; rfl
              have HH := Lib.hid hh
              clear hn hh
              go_wp2_with (go_at_call 71; refine HNR.mono ?_; rintro e w' ⟨rfl, rfl⟩)
              go_roundw
              case rel =>
                refine ⟨l + 1, by omega, by omega, by go_num, fun a b h1 h2 h3 h4 h5 => ?_, hB, hI, y0, y1⟩
                by_cases e : a = k ∧ b = l
                · rw [e.1, e.2]; exact HH.out
                · exact HN2.out a b h1 h2 h3 h4 (by omega)
              case measure => simp [intOf]; omega
        · go_wp2
          go_roundw
          case rel => exact ⟨k + 1, by omega, by omega, by go_num, fun a b h1 h2 h3 h4 h5 => HN2.out a b h1 h2 h3 h4 (by omega), hB, hI, y0, y1⟩
          case measure => simp [intOf]; omega
    · go_wp2
      go_returns
      exact ⟨rb (no_touch hV fun a b h1 h2 h3 h4 => HN.out a b h1 h2 h3 h4 (by omega)).symm, hB⟩
end Go.Proofs.YtmhbcfnakhgihaaDoor
