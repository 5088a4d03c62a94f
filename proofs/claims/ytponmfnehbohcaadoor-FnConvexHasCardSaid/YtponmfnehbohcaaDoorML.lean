/- Contracts of l1Cell, l31Get, l32Near, l32Touch of the reference. Conditions: the image is valid; the places lie near it. | Contracts of l32Touch, l32First, l32Inside of the reference. Conditions: the image is valid; the cell is there. | Contract of l32Group of the reference: the part of a cell, by a search in breadth. Conditions: the image is valid; the cell is there. | Contracts of l32First, l32Inside, l32Hole of the reference. Conditions: the image is valid; the cell is there. | Contracts of l32Hole, ImageParts, ImageHoles of the reference. Conditions: the slice reads as a list of integers. | Contracts of ImageHoles, ImageHas, ImagePart, ImageFill of the reference. Conditions: the slice reads as a list of integers. -/
import Derived.Test.YtponmfnehbohcaaDoorKT
import Derived.Test.YtponmfnehbohcaaDoorTW
import Derived.Test.YtponmfnehbohcaaDoorMA
import Derived.Test.YtponmfnehbohcaaDoorK5
section
namespace Go.Proofs.YtponmfnehbohcaaDoor
open Go.RowKit
/-- Whether there is such a cell, of a valid image. -/
def inC (n : Nat) (ns : List Nat) (i j : Int) : Bool := decide (0 ≤ i) && decide (i < ns.length) && decide (0 ≤ j) && decide (j < n)
theorem inC_no {n : Nat} {ns : List Nat} {i j : Int} (h : ¬ (0 ≤ i ∧ i < ns.length ∧ 0 ≤ j ∧ j < n)) : inC n ns i j = false := by
  simp [inC]; omega
theorem inC_yes {n : Nat} {ns : List Nat} {i j : Int} (h : 0 ≤ i ∧ i < ns.length ∧ 0 ≤ j ∧ j < n) : inC n ns i j = true := by
  simp [inC]; omega
set_option maxHeartbeats 1000000 in
theorem l1Cell_c (n : Nat) (v : Value) (ns : List Nat) (hV : VImg n ns) (i j : Int) (w : World) (hv : Ints w.heap.size w v (casts ns)) :
    Calls Tryd.prog 102 #[.agg #[.int .i64 (n : Int), v], .int .i64 i, .int .i64 j] w fun e w' => e = .returned (.bool (inC n ns i j)) ∧ Below w.heap.size w w' := by
  obtain ⟨A, cap, rfl⟩ := hv.len
  rw [length_casts]
  have h1 := hV.h1
  have h6 := hV.h6
  have w1 := hV.w1
  have w6 := hV.w6
  by_cases hi : 0 ≤ i ∧ i ≤ (ns.length : Int) - 1
  · by_cases hj : 0 ≤ j ∧ j ≤ (n : Int) - 1
    · go_enter Tryd.func102, Tryd.ntmps102
      go_wp2_with (go_at_call 58; (first | (with_reducible refine (l6In_yes i _ _ hi _).mono ?_) | (with_reducible refine (l6In_yes j _ _ hj _).mono ?_)); rintro e w' ⟨rfl, rfl⟩)
      go_returns
      exact ⟨rb (inC_yes (by omega)).symm, by go_grown⟩
    · go_enter Tryd.func102, Tryd.ntmps102
      go_wp2_with (go_at_call 58; (first | (with_reducible refine (l6In_yes i _ _ hi _).mono ?_) | (with_reducible refine (l6In_no j _ _ (by omega) _).mono ?_)); rintro e w' ⟨rfl, rfl⟩)
      go_returns
      exact ⟨rb (inC_no (by omega)).symm, by go_grown⟩
  · go_enter Tryd.func102, Tryd.ntmps102
    go_wp2_with (go_at_call 58; (with_reducible refine (l6In_no i _ _ (by omega) _).mono ?_); rintro e w' ⟨rfl, rfl⟩)
    go_returns
    exact ⟨rb (inC_no (by omega)).symm, by go_grown⟩
set_option maxHeartbeats 1000000 in
theorem l31Get_c (n : Nat) (v : Value) (ns : List Nat) (hV : VImg n ns) (i j : Int) (w : World) (hv : Ints w.heap.size w v (casts ns)) :
    Calls Tryd.prog 100 #[.agg #[.int .i64 (n : Int), v], .int .i64 i, .int .i64 j] w fun e w' => e = .returned (.int .i64 (b2i (cellZ ns i j))) ∧ Below w.heap.size w w' := by
  obtain ⟨A, cap, rfl⟩ := hv.len
  rw [length_casts] at hv ⊢
  have w6 := hV.w6
  obtain ⟨W0, eW⟩ : ∃ W0, W0 = w.alloc (.cells #[.int .i64 (n : Int), .slice A ns.length cap] 31) := ⟨_, rfl⟩
  have hB0 : Below w.heap.size w W0 := by rw [eW]; go_grown
  have hx := Box2.new w (.int .i64 (n : Int)) (.slice A ns.length cap) 31
  rw [← eW] at hx
  obtain ⟨_, x0, x1⟩ := hx
  replace hv := (hv.below hB0).more hB0.size
  go_enter Tryd.func100, Tryd.ntmps100
  go_wp2_with fail
  rw [← eW]
  clear eW
  refine (l1Cell_c n _ ns hV i j W0 hv).mono ?_
  rintro e wc ⟨rfl, hb⟩
  replace hB0 := hB0.trans (Below.mono hb hB0.size)
  replace hv := (hv.below hb).more (Below.size hb)
  replace x0 := cellB hb x0
  replace x1 := cellB hb x1
  by_cases hin : 0 ≤ i ∧ i < ns.length ∧ 0 ≤ j ∧ j < n
  · rw [inC_yes hin]
    obtain ⟨a, rfl⟩ := Int.eq_ofNat_of_zero_le hin.1
    obtain ⟨b, rfl⟩ := Int.eq_ofNat_of_zero_le hin.2.2.1
    have h64 := hV.get64 a
    go_wp2_with fail
    refine (l11Get_c n _ ns a b (by omega) (by omega) (by omega) _ hv).mono ?_
    rintro e w2 ⟨rfl, hb2⟩
    go_wp2
    go_returns
    exact ⟨ri (by simp [cellZ]), hB0.trans (hb2.mono hB0.size)⟩
  · rw [inC_no hin]
    have hz : cellZ ns i j = false := by
      rw [← Bool.not_eq_true]
      intro hc
      simp only [cellZ, Bool.and_eq_true, decide_eq_true_eq] at hc
      have := hV.cell_in hc.2
      omega
    go_wp2
    go_returns
    exact ⟨ri (by rw [hz]; rfl), hB0⟩
/-- Neighbors, or near if corners count; not one cell. -/
def nearZ (c : Bool) (i j k l : Int) : Bool := decide (i ≤ k + 1) && decide (k ≤ i + 1) && decide (j ≤ l + 1) && decide (l ≤ j + 1) && !(decide (i = k) && decide (j = l)) && (c || decide (i = k) || decide (j = l))
set_option maxHeartbeats 1000000 in
theorem l32Near_c (i j k l : Int) (c : Bool) (hi : -20 ≤ i ∧ i ≤ 20) (hj : -20 ≤ j ∧ j ≤ 20) (hk : -20 ≤ k ∧ k ≤ 20) (hl : -20 ≤ l ∧ l ≤ 20) (w : World) :
    Calls Tryd.prog 101 #[.int .i64 i, .int .i64 j, .int .i64 k, .int .i64 l, .bool c] w fun e w' => e = .returned (.bool (nearZ c i j k l)) ∧ w = w' := by
  obtain ⟨i1, i2⟩ := hi
  obtain ⟨j1, j2⟩ := hj
  obtain ⟨k1, k2⟩ := hk
  obtain ⟨l1, l2⟩ := hl
  cases c with
  | true =>
    go_enter Tryd.func101, Tryd.ntmps101
    go_wp2
    all_goals
      go_returns
      exact ⟨rb (by unfold nearZ; rw [Bool.eq_iff_iff]; simp; omega), rfl⟩
  | false =>
    go_enter Tryd.func101, Tryd.ntmps101
    go_wp2
    all_goals
      go_returns
      exact ⟨rb (by unfold nearZ; rw [Bool.eq_iff_iff]; simp; omega), rfl⟩
end Go.Proofs.YtponmfnehbohcaaDoor
end

section
namespace Go.Proofs.YtponmfnehbohcaaDoor
open Go.RowKit
open Gr
/-- A set cell at (a, b) is near (i, j). -/
def hit (ns : List Nat) (c : Bool) (i j : Nat) (a b : Int) : Bool := cellZ ns a b && nearZ c i j a b
theorem hit_touch {n : Nat} {ns : List Nat} (hV : VImg n ns) {c : Bool} {i j : Nat} {a b : Int} (h : hit ns c i j a b = true) : touchB c ns.length n ns i j = true := by
  simp only [hit, cellZ, Bool.and_eq_true, decide_eq_true_eq] at h
  obtain ⟨⟨⟨ha, hb⟩, hc⟩, hn⟩ := h
  refine (touchB_iff (sized_img hV)).2 ⟨a.toNat, b.toNat, hc, ?_, ?_⟩
  · simp only [nearZ, Bool.and_eq_true, Bool.or_eq_true, decide_eq_true_eq, Bool.not_eq_true'] at hn
    unfold Adj
    refine ⟨by omega, by omega, by omega, by omega, ?_⟩
    rcases hn.2 with (h1 | h1) | h1
    · exact .inl h1
    · exact .inr (.inl (by omega))
    · exact .inr (.inr (by omega))
  · simp only [nearZ, Bool.and_eq_true, Bool.or_eq_true, decide_eq_true_eq, Bool.not_eq_true', Bool.and_eq_false_iff, decide_eq_false_iff_not] at hn
    omega
theorem no_touch {n : Nat} {ns : List Nat} (hV : VImg n ns) {c : Bool} {i j : Nat} (h : ∀ a b : Int, (i : Int) - 1 ≤ a → a ≤ i + 1 → (j : Int) - 1 ≤ b → b ≤ j + 1 → hit ns c i j a b = false) : touchB c ns.length n ns i j = false := by
  rw [← Bool.not_eq_true, touchB_iff (sized_img hV)]
  rintro ⟨k, l, h1, ⟨a1, a2, a3, a4, a5⟩, h3⟩
  have := h (k : Int) (l : Int) (by omega) (by omega) (by omega) (by omega)
  have e : hit ns c i j k l = true := by
    have e1 : cellZ ns (k : Int) (l : Int) = true := by simp [cellZ, h1]
    unfold hit
    rw [e1, Bool.true_and]
    rcases a5 with rfl | h1 | h1
    · simp [nearZ]; omega
    · simp [nearZ]; omega
    · simp [nearZ]; omega
  rw [e] at this
  cases this
/-- No hit in the rows ahead, and in the row k ahead of the place l. -/
def noHit (ns : List Nat) (c : Bool) (i j : Nat) (k l : Int) : Prop := ∀ a b : Int, (i : Int) - 1 ≤ a → a ≤ i + 1 → (j : Int) - 1 ≤ b → b ≤ j + 1 → (a < k ∨ (a = k ∧ b < l)) → hit ns c i j a b = false
set_option maxHeartbeats 1000000 in
theorem l32Touch_c (n : Nat) (v : Value) (ns : List Nat) (hV : VImg n ns) (i j : Nat) (c : Bool) (hi : i < ns.length) (hj : j < n) (w : World) (hv : Ints w.heap.size w v (casts ns)) :
    Calls Tryd.prog 95 #[.agg #[.int .i64 (n : Int), v], .int .i64 (i : Int), .int .i64 (j : Int), .bool c] w fun e w' => e = .returned (.bool (touchB c ns.length n ns i j)) ∧ Below w.heap.size w w' := by
  obtain ⟨A, cap, rfl⟩ := hv.len
  rw [length_casts] at hv ⊢
  have h6 := hV.h6
  have w6 := hV.w6
  obtain ⟨W0, eW⟩ : ∃ W0, W0 = w.alloc (.cells #[.int .i64 (n : Int), .slice A ns.length cap] 31) := ⟨_, rfl⟩
  have hB0 : Below w.heap.size w W0 := by rw [eW]; go_grown
  have hx := Box2.new w (.int .i64 (n : Int)) (.slice A ns.length cap) 31
  rw [← eW] at hx
  obtain ⟨_, x0, x1⟩ := hx
  replace hv := (hv.below hB0).more hB0.size
  go_enter Tryd.func95, Tryd.ntmps95
  go_wp2_with fail
  rw [← eW]
  clear eW
  obtain ⟨Bx, eB⟩ : ∃ Bx, Bx = w.heap.size := ⟨_, rfl⟩
  rw [← eB] at x0 x1 ⊢
  clear eB
  go_loopw [9] (fun s wr => ∃ k : Int, (i : Int) - 1 ≤ k ∧ k ≤ i + 2 ∧ s = .int .i64 k ∧ noHit ns c i j k ((j : Int) - 1) ∧ Below w.heap.size w wr ∧ Ints wr.heap.size wr (.slice A ns.length cap) (casts ns) ∧ wr.cell? ⟨Bx, 0, none⟩ = some (.int .i64 (n : Int)) ∧ wr.cell? ⟨Bx, 1, none⟩ = some (.slice A ns.length cap)) (fun s _ => ((i : Int) + 2 - intOf s).toNat)
  case atStart => exact ⟨(i : Int) - 1, by omega, by omega, rfl, fun a b h1 h2 h3 h4 h5 => by omega, hB0, hv, x0, x1⟩
  case round =>
    obtain ⟨k, hk1, hk2, rfl, hno, hB, hI, y0, y1⟩ := hrel
    have HN := Lib.hid hno
    clear hno x0 x1 hv
    by_cases hkl : k ≤ (i : Int) + 1
    · go_wp2_with fail
      go_loopw [10] (fun s wr => ∃ l : Int, (j : Int) - 1 ≤ l ∧ l ≤ j + 2 ∧ s = .int .i64 l ∧ noHit ns c i j k l ∧ Below w.heap.size w wr ∧ Ints wr.heap.size wr (.slice A ns.length cap) (casts ns) ∧ wr.cell? ⟨Bx, 0, none⟩ = some (.int .i64 (n : Int)) ∧ wr.cell? ⟨Bx, 1, none⟩ = some (.slice A ns.length cap)) (fun s _ => ((j : Int) + 2 - intOf s).toNat)
      case atStart => exact ⟨(j : Int) - 1, by omega, by omega, rfl, HN.out, hB, hI, y0, y1⟩
      case round =>
        obtain ⟨l, hl1, hl2, rfl, hno, hB, hI, y0, y1⟩ := hrel
        have HN2 := Lib.hid hno
        clear hno
        by_cases hll : l ≤ (j : Int) + 1
        · go_wp2_with fail
          refine (l31Get_c n _ ns hV k l _ hI).mono ?_
          rintro e wc ⟨rfl, hb⟩
          replace hB := hB.trans (Below.mono hb hB.size)
          replace hI := (hI.below hb).more (Below.size hb)
          replace y0 := cellB hb y0
          replace y1 := cellB hb y1
          cases hc : cellZ ns k l with
          | false =>
            have hh : hit ns c i j k l = false := by unfold hit; rw [hc]; rfl
            have HH := Lib.hid hh
            have e0 : b2i false = 0 := rfl
            rw [e0]
            clear hc hh e0
            go_wp2
            go_roundw
            case rel =>
              refine ⟨l + 1, by omega, by omega, by go_num, fun a b h1 h2 h3 h4 h5 => ?_, hB, hI, y0, y1⟩
              by_cases e : a = k ∧ b = l
              · rw [e.1, e.2]; exact HH.out
              · exact HN2.out a b h1 h2 h3 h4 (by omega)
            case measure => simp [intOf]; omega
          | true =>
            have e1 : b2i true = 1 := rfl
            rw [e1]
            have HC := Lib.hid hc
            clear e1 hc
            have HNR := l32Near_c (i : Int) j k l c (by omega) (by omega) (by omega) (by omega) wc
            cases hn : nearZ c i j k l with
            | true =>
              rw [hn] at HNR
              have hh : hit ns c i j k l = true := by unfold hit; rw [HC.out, hn]; rfl
              have HT := Lib.hid (hit_touch hV hh)
              clear hn hh
              go_wp2_with (go_at_call 101; refine HNR.mono ?_; rintro e w' ⟨rfl, rfl⟩)
              go_returns
              exact ⟨rb HT.out.symm, hB⟩
            | false =>
              rw [hn] at HNR
              have hh : hit ns c i j k l = false := by unfold hit; rw [HC.out, hn]; rfl
              have HH := Lib.hid hh
              clear hn hh
              go_wp2_with (go_at_call 101; refine HNR.mono ?_; rintro e w' ⟨rfl, rfl⟩)
              go_roundw
              case rel =>
                refine ⟨l + 1, by omega, by omega, by go_num, fun a b h1 h2 h3 h4 h5 => ?_, hB, hI, y0, y1⟩
                by_cases e : a = k ∧ b = l
                · rw [e.1, e.2]; exact HH.out
                · exact HN2.out a b h1 h2 h3 h4 (by omega)
              case measure => simp [intOf]; omega
        · go_wp2
          go_roundw
          case rel => exact ⟨k + 1, by omega, by omega, by go_num, fun a b h1 h2 h3 h4 h5 => HN2.out a b h1 h2 h3 h4 (by omega), hB, hI, y0, y1⟩
          case measure => simp [intOf]; omega
    · go_wp2
      go_returns
      exact ⟨rb (no_touch hV fun a b h1 h2 h3 h4 => HN.out a b h1 h2 h3 h4 (by omega)).symm, hB⟩
end Go.Proofs.YtponmfnehbohcaaDoor
end

section
namespace Go.Proofs.YtponmfnehbohcaaDoor
open Go.RowKit
open Gr
/-- The rows of an image, read out of memory. -/
def decRow (wr : World) (g h : Nat) : List Nat := (List.range h).map fun k => match wr.cell? ⟨g, k, none⟩ with | some (.int _ z) => z.toNat | _ => 0
theorem dec_row {wr : World} {g : Nat} {os : List Nat} (hr : Row wr g (casts os)) {h : Nat} (hl : os.length = h) : decRow wr g h = os := by
  subst hl
  apply List.ext_getElem
  · simp [decRow]
  · intro k h1 h2
    have := hr.cell (k := k) (by rw [length_casts]; exact h2)
    rw [casts_getD] at this
    simp [decRow, this, List.getD_eq_getElem?_getD, List.getElem?_eq_getElem h2]
/-- In the midst of a pass. -/
def Scan (T : Nat → Nat → Bool) (c : Bool) (h w : Nat) (f : Bool) (os0 os : List Nat) (k l : Nat) : Prop :=
  (f = false → os = os0 ∧ ∀ a b, a < h → b < w → (a < k ∨ (a = k ∧ b < l)) → T a b = true → cell os a b = false → touchB c h w os a b = false) ∧ (f = true → setN h w os0 < setN h w os) ∧ setN h w os0 ≤ setN h w os
theorem Scan.start {T : Nat → Nat → Bool} {c : Bool} {h w : Nat} (os : List Nat) : Scan T c h w false os os 0 0 :=
  ⟨fun _ => ⟨rfl, fun a b _ _ hh => by omega⟩, (fun hh => nomatch hh), Nat.le_refl _⟩
theorem Scan.row {T : Nat → Nat → Bool} {c : Bool} {h w : Nat} {f : Bool} {os0 os : List Nat} {k : Nat} (hs : Scan T c h w f os0 os k w) : Scan T c h w f os0 os (k + 1) 0 :=
  ⟨fun hf => ⟨(hs.1 hf).1, fun a b ha hb hh => (hs.1 hf).2 a b ha hb (by omega)⟩, hs.2.1, hs.2.2⟩
theorem Scan.skip {T : Nat → Nat → Bool} {c : Bool} {h w : Nat} {f : Bool} {os0 os : List Nat} {k l : Nat} (hs : Scan T c h w f os0 os k l) (hn : T k l = true → cell os k l = false → touchB c h w os k l = false) : Scan T c h w f os0 os k (l + 1) :=
  ⟨fun hf => ⟨(hs.1 hf).1, fun a b ha hb hh ht hc => by
    by_cases e : a = k ∧ b = l
    · obtain ⟨rfl, rfl⟩ := e; exact hn ht hc
    · exact (hs.1 hf).2 a b ha hb (by omega) ht hc⟩, hs.2.1, hs.2.2⟩
theorem Scan.add {T : Nat → Nat → Bool} {c : Bool} {h w : Nat} {f : Bool} {os0 os : List Nat} {k l : Nat} (hs : Scan T c h w f os0 os k l) (hz : Sized h w os) (hk : k < h) (hl : l < w) (hc : cell os k l = false) : Scan T c h w true os0 (putL os k l true) k (l + 1) := by
  have e : ∀ a b, cell (putL os k l true) a b = if a = k ∧ b = l then true else cell os a b := cell_putL (by rw [hz.1]; exact hk) l true
  have : setN h w os < setN h w (putL os k l true) := setN_lt (hz.put hk hl true) (fun a b hab => by rw [e]; split <;> first | rfl | exact hab) (i := k) (j := l) (by rw [e, if_pos ⟨rfl, rfl⟩]) hc
  exact ⟨(fun hh => nomatch hh), fun _ => Nat.lt_of_le_of_lt hs.2.2 this, Nat.le_trans hs.2.2 (Nat.le_of_lt this)⟩
/-- Between two passes. -/
def Fresh (T : Nat → Nat → Bool) (c : Bool) (h w : Nat) (f : Bool) (os : List Nat) : Prop := f = false → ∀ a b, a < h → b < w → T a b = true → cell os a b = false → touchB c h w os a b = false
theorem Scan.fresh {T : Nat → Nat → Bool} {c : Bool} {h w : Nat} {f : Bool} {os0 os : List Nat} (hs : Scan T c h w f os0 os h 0) : Fresh T c h w f os :=
  fun hf a b ha hb => (hs.1 hf).2 a b ha hb (by omega)
def meas (h w g : Nat) (f : Value) (wr : World) : Nat := (match f with | .bool true => 1 | _ => 0) + 2 * (h * w - setN h w (decRow wr g h))
theorem Scan.less {T : Nat → Nat → Bool} {c : Bool} {h w g : Nat} {f : Bool} {os0 os : List Nat} {w0 w1 : World} (hs : Scan T c h w f os0 os h 0) (h0 : decRow w0 g h = os0) (h1 : decRow w1 g h = os) : meas h w g (.bool f) w1 < meas h w g (.bool true) w0 := by
  unfold meas
  rw [h0, h1]
  have h2 := setN_le h w os
  have h3 := setN_le h w os0
  have h4 := hs.2.1
  have h5 := hs.2.2
  generalize h * w = m at h2 h3 ⊢
  generalize setN h w os = x at h2 h4 h5 ⊢
  generalize setN h w os0 = y at h3 h4 h5 ⊢
  cases f with
  | true => have := h4 rfl; dsimp only; omega
  | false => dsimp only; omega
/-- The memory in the midst of l32Group. -/
structure GMem (w wr : World) (n h g cap Bo : Nat) (A : Option Addr) (ns os : List Nat) : Prop where
  row : Row wr g (casts os)
  bel : Below w.heap.size w wr
  arg : Arg w.heap.size wr (.slice A h cap) (casts ns)
  a0 : wr.cell? ⟨w.heap.size, 0, none⟩ = some (.int .i64 (n : Int))
  a1 : wr.cell? ⟨w.heap.size, 1, none⟩ = some (.slice A h cap)
  r0 : wr.cell? ⟨w.heap.size + 1, 0, none⟩ = some (.int .i64 0)
  r1 : wr.cell? ⟨w.heap.size + 1, 1, none⟩ = some (.slice none 0 0)
  rf0 : wr.frozen? ⟨w.heap.size + 1, 0, none⟩ = false
  rf1 : wr.frozen? ⟨w.heap.size + 1, 1, none⟩ = false
  o0 : wr.cell? ⟨Bo, 0, none⟩ = some (.int .i64 (n : Int))
  o1 : wr.cell? ⟨Bo, 1, none⟩ = some (.slice (some ⟨g, 0, none⟩) h h)
set_option maxRecDepth 100000 in
set_option maxHeartbeats 4000000 in
theorem l32Group_c (n : Nat) (v : Value) (ns : List Nat) (hV : VImg n ns) (i j : Nat) (c : Bool) (hi : i < ns.length) (hj : j < n) (w : World) (hv : Ints w.heap.size w v (casts ns)) :
    Calls Tryd.prog 74 #[.agg #[.int .i64 (n : Int), v], .int .i64 (i : Int), .int .i64 (j : Int), .bool c] w fun e w' => ∃ g cp, e = .returned (.agg #[.int .i64 (n : Int), .slice (some ⟨g, 0, none⟩) ns.length cp]) ∧ w.heap.size ≤ g ∧ Row w' g (casts (compL (sameT ns.length n ns i j) c ns.length n (i, j))) ∧ Below w.heap.size w w' := by
  obtain ⟨A, cap, rfl⟩ := hv.len
  rw [length_casts] at hv ⊢
  have h6 := hV.h6
  have w6 := hV.w6
  have h1 := hV.h1
  have w1 := hV.w1
  obtain ⟨h, eh⟩ : ∃ h, h = ns.length := ⟨_, rfl⟩
  rw [← eh] at hi h6 h1 hv ⊢
  have HEH := Lib.hid eh
  clear eh
  obtain ⟨T, eT⟩ : ∃ T, T = sameT h n ns i j := ⟨_, rfl⟩
  rw [← eT]
  have HT := Lib.hid eT
  clear eT
  obtain ⟨Wa, eWa⟩ : ∃ W0, W0 = (w.alloc (.cells #[.int .i64 (n : Int), .slice A h cap] 31)).alloc (.cells #[.int .i64 0, .slice none 0 0] 31) := ⟨_, rfl⟩
  have hW : Below w.heap.size w Wa := by rw [eWa]; go_grown
  have a0 : Wa.cell? ⟨w.heap.size, 0, none⟩ = some (.int .i64 (n : Int)) := by rw [eWa]; go_cell
  have a1 : Wa.cell? ⟨w.heap.size, 1, none⟩ = some (.slice A h cap) := by rw [eWa]; go_cell
  have r0 : Wa.cell? ⟨w.heap.size + 1, 0, none⟩ = some (.int .i64 0) := by rw [eWa]; go_cell
  have r1 : Wa.cell? ⟨w.heap.size + 1, 1, none⟩ = some (.slice none 0 0) := by rw [eWa]; go_cell
  have rf0 : Wa.frozen? ⟨w.heap.size + 1, 0, none⟩ = false := by rw [eWa]; go_cell
  have rf1 : Wa.frozen? ⟨w.heap.size + 1, 1, none⟩ = false := by rw [eWa]; go_cell
  have hza : w.heap.size + 2 = Wa.heap.size := by rw [eWa]; simp
  have HZA := Lib.hid hza
  clear hza
  have hI := (Arg.new hv).below hW
  clear hv
  go_enter Tryd.func74, Tryd.ntmps74
  go_wp2_with fail
  rw [← eWa]
  clear eWa
  refine (l1Blank_c h (n : Int) h6 Wa).mono ?_
  rintro e wc ⟨rfl, hr, hb⟩
  obtain ⟨g, eg⟩ : ∃ g, g = Wa.heap.size + 1 := ⟨_, rfl⟩
  have hgw : w.heap.size + 2 < g := by have := HZA.out; omega
  have hgc : g < wc.heap.size := by rw [eg]; exact hr.lt
  rw [← eg] at hr ⊢
  clear eg
  replace a0 := cellB hb a0
  replace a1 := cellB hb a1
  replace rf0 := frozenB hb r0 rf0
  replace r0 := cellB hb r0
  replace rf1 := frozenB hb r1 rf1
  replace r1 := cellB hb r1
  replace hI := hI.below hb
  replace hW := hW.trans (Below.mono hb hW.size)
  obtain ⟨W1, e_W1⟩ : ∃ W0, W0 = World.alloc wc (.cells #[.int .i64 (n : Int), .slice (some ⟨g, 0, none⟩) h h] 31) := ⟨_, rfl⟩
  have hx_W1 := Box2.new wc (.int .i64 (n : Int)) (.slice (some ⟨g, 0, none⟩) h h) 31
  have hb_W1 : Below (World.heap wc).size wc W1 := by rw [e_W1]; go_grown
  have HS_W1 := Lib.hid (show (World.heap W1).size = (World.heap wc).size + 1 by rw [e_W1]; simp)
  replace a0 := cellB hb_W1 a0
  replace a1 := cellB hb_W1 a1
  replace rf0 := frozenB hb_W1 r0 rf0
  replace r0 := cellB hb_W1 r0
  replace rf1 := frozenB hb_W1 r1 rf1
  replace r1 := cellB hb_W1 r1
  replace hI := hI.below hb_W1
  replace hW := hW.trans (Below.mono hb_W1 hW.size)
  replace hr := hr.below hb_W1 hr.lt
  have HE_W1 := Lib.hid e_W1
  clear e_W1
  go_wp2_with fail
  rw [← HE_W1.out] at hx_W1 ⊢
  clear HE_W1
  obtain ⟨hl_o, o0, o1⟩ := hx_W1
  obtain ⟨Bo, e_Bo⟩ : ∃ Bx, Bx = (World.heap wc).size := ⟨_, rfl⟩
  rw [← e_Bo] at hl_o o0 o1 hb_W1 HS_W1 hgc ⊢
  have hz_Bo := hb_W1.size
  clear e_Bo hb_W1
  have hz0 : (List.replicate h 0).getD i 0 < 64 := by
    rw [List.getD_eq_getElem?_getD, List.getElem?_replicate]
    split <;> simp
  refine (l1Put_h (n : Int) g h h (List.replicate h 0) (by simp) i j hi (by omega) hz0 true W1 (by rw [casts_rep]; exact hr)).mono ?_
  rintro e wc ⟨rfl, hr', hg⟩
  clear hr hz0
  replace a0 := cell_only hg a0 (by first | assumption | omega | (simp; omega))
  replace a1 := cell_only hg a1 (by first | assumption | omega | (simp; omega))
  replace rf0 := frozen_only hg r0 (by first | assumption | omega | (simp; omega)) rf0
  replace r0 := cell_only hg r0 (by first | assumption | omega | (simp; omega))
  replace rf1 := frozen_only hg r1 (by first | assumption | omega | (simp; omega)) rf1
  replace r1 := cell_only hg r1 (by first | assumption | omega | (simp; omega))
  replace hI := hI.only hg (by first | assumption | omega | (simp; omega))
  replace hW := bel_only hW hg (by first | assumption | omega | (simp; omega))
  replace o0 := cell_only hg o0 (by first | assumption | omega | (simp; omega))
  replace o1 := cell_only hg o1 (by first | assumption | omega | (simp; omega))
  have hG : GInv T c h n i j (putL (List.replicate h 0) i j true) := GInv.start hi hj
  go_wp2_with fail
  go_loopw [10] (fun s wr => ∃ (f : Bool) (os : List Nat), s = .bool f ∧ GInv T c h n i j os ∧ Fresh T c h n f os ∧ GMem w wr n h g cap Bo A ns os) (fun s wr => meas h n g s wr)
  case atStart => exact ⟨true, _, rfl, hG, (fun hh => nomatch hh), hr', hW, hI, a0, a1, r0, r1, rf0, rf1, o0, o1⟩
  case round =>
    clear hG hr' hW hI a0 a1 r0 r1 rf0 rf1 o0 o1
    obtain ⟨f, os, rfl, hG, hF, hm⟩ := hrel
    cases f with
    | false =>
      obtain ⟨hr, hW, hI, a0, a1, r0, r1, rf0, rf1, o0, o1⟩ := hm
      have ht : T i j = true := by rw [HT.out]; simp [sameT, hi, hj]
      have hos := hG.finish (by rw [HT.out]; exact sameT_in) ht (hF rfl)
      obtain ⟨q0, q1⟩ := set2_get (x := .int .i64 (n : Int)) (y := .slice (some ⟨g, 0, none⟩) h h) r0 r1
      rw [hos] at hr
      have HR := Lib.hid hr
      clear hr hos ht hF hG
      go_wp2
      refine bodyPost_ret (res_img rfl _ _ rfl q0 q1) rfl ?_
      exact ⟨g, h, rfl, by omega, (HR.out.far (by simp; omega) _).far (by simp; omega) _, (hW.setCell (by simp) _).setCell (by simp) _⟩
    | true =>
      have hd0 := dec_row hm.row hG.sz.1
      have HD0 := Lib.hid hd0
      clear hd0 hF
      have hz := hG.sz
      obtain ⟨hr, hW, hI, a0, a1, r0, r1, rf0, rf1, o0, o1⟩ := hm
      go_wp2_with fail
      go_loopw [10, 11] (fun s q wr1 => ∃ (f : Bool) (os1 : List Nat) (k : Nat), k ≤ h ∧ s = .bool f ∧ q = .int .i64 k ∧ GInv T c h n i j os1 ∧ Scan T c h n f os os1 k 0 ∧ GMem w wr1 n h g cap Bo A ns os1) (fun _ q _ => h - (intOf q).toNat)
      case atStart => exact ⟨false, os, 0, by omega, rfl, rfl, hG, Scan.start os, hr, hW, hI, a0, a1, r0, r1, rf0, rf1, o0, o1⟩
      case round =>
        clear hr hW hI a0 a1 r0 r1 rf0 rf1 o0 o1 hG
        obtain ⟨f, os1, k, hk, rfl, rfl, hG, hS, hm⟩ := hrel
        by_cases hkh : k < h
        · obtain ⟨hr, hW, hI, a0, a1, r0, r1, rf0, rf1, o0, o1⟩ := hm
          go_wp2_with fail
          go_loopw [10, 12] (fun s q wr1 => ∃ (f : Bool) (os1 : List Nat) (l : Nat), l ≤ n ∧ s = .bool f ∧ q = .int .i64 l ∧ GInv T c h n i j os1 ∧ Scan T c h n f os os1 k l ∧ GMem w wr1 n h g cap Bo A ns os1) (fun _ q _ => n - (intOf q).toNat)
          case atStart => exact ⟨f, os1, 0, by omega, rfl, rfl, hG, hS, hr, hW, hI, a0, a1, r0, r1, rf0, rf1, o0, o1⟩
          case round =>
            clear hr hW hI a0 a1 r0 r1 rf0 rf1 o0 o1 hG hS
            obtain ⟨f, os1, l, hl, rfl, rfl, hG, hS, hm⟩ := hrel
            by_cases hln : l < n
            · obtain ⟨hr, hW, hI, a0, a1, r0, r1, rf0, rf1, o0, o1⟩ := hm
              have hV1 := hG.sz.vimg h1 h6 w1 w6
              have hl1 := hG.sz.1
              have hIo := hr.intsH (c := h) hl1
              have H1 := fun d os => l11Get_c (n : Int) _ ns k l (by rw [← HEH.out]; exact hkh) (by omega) (by have := hV.get64 k; omega) _ ((hI.ints.rg (Nat.le_refl _) d os).more (rg_size _ d os))
              have H2 := fun d os => l11Get_c (n : Int) _ ns i j (by rw [← HEH.out]; exact hi) (by omega) (by have := hV.get64 i; omega) _ ((hI.ints.rg (Nat.le_refl _) d os).more (rg_size _ d os))
              have H3 := fun d os => l11Get_c (n : Int) _ os1 k l (by omega) (by omega) (by have := hV1.get64 k; omega) _ ((hIo.rg (Nat.le_refl _) d os).more (rg_size _ d os))
              have H4 := fun d os => l32Touch_c n _ os1 hV1 k l c (by omega) hln _ ((hIo.rg (Nat.le_refl _) d os).more (rg_size _ d os))
              have hTk : T k l = (cell ns k l == cell ns i j) := by rw [HT.out]; simp [sameT, hkh, hln]
              have hpq : (b2i (cell ns k l) == b2i (cell ns i j)) = T k l := by rw [hTk]; cases cell ns k l <;> cases cell ns i j <;> rfl
              rw [hl1] at H4
              obtain ⟨p, ep⟩ : ∃ p, p = b2i (cell ns k l) := ⟨_, rfl⟩
              obtain ⟨q, eq⟩ : ∃ q, q = b2i (cell ns i j) := ⟨_, rfl⟩
              simp only [← ep] at H1
              simp only [← eq] at H2
              rw [← ep, ← eq] at hpq
              have k0 := cell_regrown a0
              have k1 := cell_regrown a1
              have k2 := cell_regrown o0
              have k3 := cell_regrown o1
              have HL1 := Lib.hid hl1
              clear ep eq hTk hIo hl1
              cases htk : T k l with
              | false =>
                rw [htk] at hpq
                have HTK := Lib.hid htk
                clear htk
                go_wp2_with fail
                refine wp_region_quiet_below (by kernel_rfl) (by kernel_rfl) ?_
                repeat (first | go_big_quiet_step ((go_at_call 72; first | with_reducible exact Calls.rg (H1 _ _) | with_reducible exact Calls.rg (H2 _ _))) | quiet_step ((go_at_call 72; first | with_reducible exact Calls.rg (H1 _ _) | with_reducible exact Calls.rg (H2 _ _))))
                refine wpQuiet_nil ?_
                intro _ hw0
                obtain ⟨⟨dq, osq⟩, hw1⟩ := hw0
                subst hw1
                have hq := below_regrown wr dq osq
                generalize Go.Sort.grow (redrawn wr dq) osq = w2 at hq ⊢
                clear k0 k1 k2 k3
                replace a0 := cellB hq a0
                replace a1 := cellB hq a1
                replace rf0 := frozenB hq r0 rf0
                replace r0 := cellB hq r0
                replace rf1 := frozenB hq r1 rf1
                replace r1 := cellB hq r1
                replace o0 := cellB hq o0
                replace o1 := cellB hq o1
                replace hr := hr.below hq hr.lt
                replace hI := hI.below hq
                replace hW := hW.trans (Below.mono hq hW.size)
                go_wp2
                go_roundw
                case rel => exact ⟨f, os1, l + 1, by omega, rfl, by go_num, hG, hS.skip (fun ht => by rw [HTK.out] at ht; cases ht), hr, hW, hI, a0, a1, r0, r1, rf0, rf1, o0, o1⟩
                case measure => simp [intOf]; omega
              | true =>
                rw [htk] at hpq
                have HTK := Lib.hid htk
                clear htk
                cases hck : cell os1 k l with
                | true =>
                  have e1 : b2i true = 1 := rfl
                  simp only [hck, e1] at H3
                  have HCK := Lib.hid hck
                  clear hck e1
                  go_wp2_with fail
                  refine wp_region_quiet_below (by kernel_rfl) (by kernel_rfl) ?_
                  repeat (first | go_big_quiet_step ((go_at_call 72; first | with_reducible exact Calls.rg (H1 _ _) | with_reducible exact Calls.rg (H2 _ _) | with_reducible exact Calls.rg (H3 _ _))) | quiet_step ((go_at_call 72; first | with_reducible exact Calls.rg (H1 _ _) | with_reducible exact Calls.rg (H2 _ _) | with_reducible exact Calls.rg (H3 _ _))))
                  refine wpQuiet_nil ?_
                  intro _ hw0
                  obtain ⟨⟨dq, osq⟩, hw1⟩ := hw0
                  subst hw1
                  have hq := below_regrown wr dq osq
                  generalize Go.Sort.grow (redrawn wr dq) osq = w2 at hq ⊢
                  clear k0 k1 k2 k3
                  replace a0 := cellB hq a0
                  replace a1 := cellB hq a1
                  replace rf0 := frozenB hq r0 rf0
                  replace r0 := cellB hq r0
                  replace rf1 := frozenB hq r1 rf1
                  replace r1 := cellB hq r1
                  replace o0 := cellB hq o0
                  replace o1 := cellB hq o1
                  replace hr := hr.below hq hr.lt
                  replace hI := hI.below hq
                  replace hW := hW.trans (Below.mono hq hW.size)
                  go_wp2
                  go_roundw
                  case rel => exact ⟨f, os1, l + 1, by omega, rfl, by go_num, hG, hS.skip (fun _ hc => by rw [HCK.out] at hc; cases hc), hr, hW, hI, a0, a1, r0, r1, rf0, rf1, o0, o1⟩
                  case measure => simp [intOf]; omega
                | false =>
                  have e1 : b2i false = 0 := rfl
                  simp only [hck, e1] at H3
                  have HCK := Lib.hid hck
                  clear hck e1
                  cases hto : touchB c h n os1 k l with
                  | false =>
                    simp only [hto] at H4
                    have HTO := Lib.hid hto
                    clear hto
                    go_wp2_with fail
                    refine wp_region_quiet_below (by kernel_rfl) (by kernel_rfl) ?_
                    repeat (first | go_big_quiet_step (first | (go_at_call 72; first | with_reducible exact Calls.rg (H1 _ _) | with_reducible exact Calls.rg (H2 _ _) | with_reducible exact Calls.rg (H3 _ _)) | (go_at_call 95; with_reducible exact Calls.rg (H4 _ _))) | quiet_step (first | (go_at_call 72; first | with_reducible exact Calls.rg (H1 _ _) | with_reducible exact Calls.rg (H2 _ _) | with_reducible exact Calls.rg (H3 _ _)) | (go_at_call 95; with_reducible exact Calls.rg (H4 _ _))))
                    refine wpQuiet_nil ?_
                    intro _ hw0
                    obtain ⟨⟨dq, osq⟩, hw1⟩ := hw0
                    subst hw1
                    have hq := below_regrown wr dq osq
                    generalize Go.Sort.grow (redrawn wr dq) osq = w2 at hq ⊢
                    clear k0 k1 k2 k3
                    replace a0 := cellB hq a0
                    replace a1 := cellB hq a1
                    replace rf0 := frozenB hq r0 rf0
                    replace r0 := cellB hq r0
                    replace rf1 := frozenB hq r1 rf1
                    replace r1 := cellB hq r1
                    replace o0 := cellB hq o0
                    replace o1 := cellB hq o1
                    replace hr := hr.below hq hr.lt
                    replace hI := hI.below hq
                    replace hW := hW.trans (Below.mono hq hW.size)
                    go_wp2
                    go_roundw
                    case rel => exact ⟨f, os1, l + 1, by omega, rfl, by go_num, hG, hS.skip (fun _ _ => HTO.out), hr, hW, hI, a0, a1, r0, r1, rf0, rf1, o0, o1⟩
                    case measure => simp [intOf]; omega
                  | true =>
                    simp only [hto] at H4
                    have HTO := Lib.hid hto
                    clear hto
                    have h64 := hV1.get64 k
                    go_wp2_with fail
                    refine wp_region_quiet_below (by kernel_rfl) (by kernel_rfl) ?_
                    repeat (first | go_big_quiet_step (first | (go_at_call 72; first | with_reducible exact Calls.rg (H1 _ _) | with_reducible exact Calls.rg (H2 _ _) | with_reducible exact Calls.rg (H3 _ _)) | (go_at_call 95; with_reducible exact Calls.rg (H4 _ _))) | quiet_step (first | (go_at_call 72; first | with_reducible exact Calls.rg (H1 _ _) | with_reducible exact Calls.rg (H2 _ _) | with_reducible exact Calls.rg (H3 _ _)) | (go_at_call 95; with_reducible exact Calls.rg (H4 _ _))))
                    refine wpQuiet_nil ?_
                    intro _ hw0
                    obtain ⟨⟨dq, osq⟩, hw1⟩ := hw0
                    subst hw1
                    have hq := below_regrown wr dq osq
                    generalize Go.Sort.grow (redrawn wr dq) osq = w2 at hq ⊢
                    clear k0 k1 k2 k3
                    replace a0 := cellB hq a0
                    replace a1 := cellB hq a1
                    replace rf0 := frozenB hq r0 rf0
                    replace r0 := cellB hq r0
                    replace rf1 := frozenB hq r1 rf1
                    replace r1 := cellB hq r1
                    replace o0 := cellB hq o0
                    replace o1 := cellB hq o1
                    replace hr := hr.below hq hr.lt
                    replace hI := hI.below hq
                    replace hW := hW.trans (Below.mono hq hW.size)
                    go_wp2_with fail
                    refine (l1Put_h (n : Int) g h h os1 HL1.out k l hkh (by omega) h64 true _ hr).mono ?_
                    rintro e wc ⟨rfl, hr', hg⟩
                    clear hr h64
                    replace a0 := cell_only hg a0 (by first | assumption | omega | (simp; omega))
                    replace a1 := cell_only hg a1 (by first | assumption | omega | (simp; omega))
                    replace rf0 := frozen_only hg r0 (by first | assumption | omega | (simp; omega)) rf0
                    replace r0 := cell_only hg r0 (by first | assumption | omega | (simp; omega))
                    replace rf1 := frozen_only hg r1 (by first | assumption | omega | (simp; omega)) rf1
                    replace r1 := cell_only hg r1 (by first | assumption | omega | (simp; omega))
                    replace o0 := cell_only hg o0 (by first | assumption | omega | (simp; omega))
                    replace o1 := cell_only hg o1 (by first | assumption | omega | (simp; omega))
                    replace hI := hI.only hg (by first | assumption | omega | (simp; omega))
                    replace hW := bel_only hW hg (by first | assumption | omega | (simp; omega))
                    go_wp2
                    go_roundw
                    case rel => exact ⟨true, _, l + 1, by omega, rfl, by go_num, hG.add hkh hln HTK.out HTO.out, hS.add hG.sz hkh hln HCK.out, hr', hW, hI, a0, a1, r0, r1, rf0, rf1, o0, o1⟩
                    case measure => simp [intOf]; omega
            · obtain rfl : l = n := by omega
              obtain ⟨hr, hW, hI, a0, a1, r0, r1, rf0, rf1, o0, o1⟩ := hm
              go_wp2
              go_roundw
              case rel => exact ⟨f, os1, k + 1, by omega, rfl, by go_num, hG, hS.row, hr, hW, hI, a0, a1, r0, r1, rf0, rf1, o0, o1⟩
              case measure => simp [intOf]; omega
        · obtain rfl : k = h := by omega
          have hd1 := dec_row hm.row hG.sz.1
          have hless := hS.less HD0.out hd1
          have HLS := Lib.hid hless
          clear hd1 hless
          have hm' := hm
          obtain ⟨hr, hW, hI, a0, a1, r0, r1, rf0, rf1, o0, o1⟩ := hm
          go_wp2
          go_roundw
          case rel => exact ⟨f, os1, rfl, hG, hS.fresh, hm'⟩
          case measure => exact HLS.out
end Go.Proofs.YtponmfnehbohcaaDoor
end

section
namespace Go.Proofs.YtponmfnehbohcaaDoor
open Go.RowKit
open Gr
theorem cell_none {ns : List Nat} {k : Nat} : ns.getD k 0 = 0 ↔ ∀ l, cell ns k l = false := by
  constructor
  · intro h l; unfold cell; rw [h]; simp
  · intro h
    apply Nat.eq_of_testBit_eq
    intro l
    have := h l
    unfold cell at this
    rw [this]
    simp
/-- No set cell ahead of (i, j). -/
def firstOf (os : List Nat) (i j : Nat) : Bool := (List.range i).all (fun k => decide (os.getD k 0 = 0)) && decide (os.getD i 0 % 2 ^ j = 0)
theorem mod_pow_zero (r j : Nat) : r % 2 ^ j = 0 ↔ ∀ l, l < j → r.testBit l = false := by
  constructor
  · intro h l hl
    have := Nat.testBit_mod_two_pow r j l
    rw [h] at this
    simpa [hl] using this.symm
  · intro h
    apply Nat.eq_of_testBit_eq
    intro l
    rw [Nat.testBit_mod_two_pow]
    by_cases hl : l < j
    · simp [hl, h l hl]
    · simp [hl]
theorem firstOf_iff {os : List Nat} {i j : Nat} : firstOf os i j = true ↔ ∀ k l, Earlier k l i j → cell os k l = false := by
  simp only [firstOf, Bool.and_eq_true, List.all_eq_true, List.mem_range, decide_eq_true_eq, mod_pow_zero, cell_none]
  constructor
  · rintro ⟨h1, h2⟩ k l he
    rcases he with he | ⟨rfl, he⟩
    · exact h1 k he l
    · exact h2 l he
  · intro h
    exact ⟨fun k hk l => h k l (.inl hk), fun l hl => h i l (.inr ⟨rfl, hl⟩)⟩
theorem firstOf_comp {T : Nat → Nat → Bool} {c : Bool} {h n i j : Nat} (hS : Inside h n T) (ht : T i j = true) : firstOf (compL T c h n (i, j)) i j = firstB T c h n (i, j) := by
  rw [Bool.eq_iff_iff, firstOf_iff, firstB_iff hS]
  constructor
  · intro hh
    refine ⟨ht, fun k l he hk hr => ?_⟩
    have := hh k l he
    rw [← Bool.not_eq_true, cell_comp hS ht] at this
    exact this hr
  · rintro ⟨_, hh⟩ k l he
    rw [← Bool.not_eq_true, cell_comp hS ht]
    intro hr
    exact hh k l he (hr.mem ht) hr
/-- No set cell in the first or last row or column. -/
def insideOf (n : Nat) (os : List Nat) : Bool := (List.range os.length).all (fun k => !cell os k 0 && !cell os k (n - 1)) && decide (os.getD 0 0 = 0) && decide (os.getD (os.length - 1) 0 = 0)
theorem insideOf_iff {os : List Nat} {n : Nat} (hz : Sized os.length n os) (hn : 1 ≤ n) (h1 : 1 ≤ os.length) : insideOf n os = true ↔ ∀ k l, cell os k l = true → 1 ≤ k ∧ k + 1 < os.length ∧ 1 ≤ l ∧ l + 1 < n := by
  simp only [insideOf, Bool.and_eq_true, List.all_eq_true, List.mem_range, decide_eq_true_eq, Bool.not_eq_true', cell_none]
  constructor
  · rintro ⟨⟨h1, h2⟩, h3⟩ k l hc
    have hb := hz.cell_in hc
    have e1 : k ≠ 0 := by rintro rfl; rw [h2 l] at hc; cases hc
    have e2 : k ≠ os.length - 1 := by rintro rfl; rw [h3 l] at hc; cases hc
    have e3 : l ≠ 0 := by rintro rfl; rw [(h1 k hb.1).1] at hc; cases hc
    have e4 : l ≠ n - 1 := by rintro rfl; rw [(h1 k hb.1).2] at hc; cases hc
    omega
  · intro hh
    refine ⟨⟨fun k hk => ⟨?_, ?_⟩, fun l => ?_⟩, fun l => ?_⟩
    · rw [← Bool.not_eq_true]; intro hc; have := hh _ _ hc; omega
    · rw [← Bool.not_eq_true]; intro hc; have := hh _ _ hc; omega
    · rw [← Bool.not_eq_true]; intro hc; have := hh _ _ hc; omega
    · rw [← Bool.not_eq_true]; intro hc; have := hh _ _ hc; omega
theorem insideOf_comp {T : Nat → Nat → Bool} {h n : Nat} {c : Nat × Nat} (hS : Inside h n T) (ht : T c.1 c.2 = true) (hn : 1 ≤ n) (h1 : 1 ≤ h) : insideOf n (compL T true h n c) = innerB T h n c := by
  rw [Bool.eq_iff_iff, insideOf_iff (by rw [length_comp]; exact sized_mk) hn (by rw [length_comp]; exact h1), innerB_iff hS ht, length_comp]
  constructor
  · intro hh k l hr
    exact hh k l ((cell_comp hS ht).2 hr)
  · intro hh k l hc
    exact hh k l ((cell_comp hS ht).1 hc)
theorem firstOf_no {os : List Nat} {i j k : Nat} (hk : k < i) (h : os.getD k 0 ≠ 0) : firstOf os i j = false := by
  rw [← Bool.not_eq_true]
  intro hh
  simp only [firstOf, Bool.and_eq_true, List.all_eq_true, List.mem_range, decide_eq_true_eq] at hh
  exact h (hh.1 k hk)
theorem firstOf_last {os : List Nat} {i j : Nat} (h : ∀ k, k < i → os.getD k 0 = 0) : firstOf os i j = decide (os.getD i 0 % 2 ^ j = 0) := by
  have : (List.range i).all (fun k => decide (os.getD k 0 = 0)) = true := by
    simp only [List.all_eq_true, List.mem_range, decide_eq_true_eq]
    exact h
  unfold firstOf
  rw [this, Bool.true_and]
set_option maxHeartbeats 1000000 in
theorem l32First_c (n : Nat) (v : Value) (os : List Nat) (hV : VImg n os) (i j : Nat) (hi : i < os.length) (hj : j < n) (w : World) (hv : Ints w.heap.size w v (casts os)) :
    Calls Tryd.prog 73 #[.agg #[.int .i64 (n : Int), v], .int .i64 (i : Int), .int .i64 (j : Int)] w fun e w' => e = .returned (.bool (firstOf os i j)) ∧ Below w.heap.size w w' := by
  obtain ⟨b, off, cap, rfl, hlt, hc⟩ := hv.row (by rw [length_casts]; omega)
  rw [length_casts] at hc ⊢
  have h6 := hV.h6
  have w6 := hV.w6
  have HC := Lib.hid hc
  clear hc hv
  go_enter Tryd.func73, Tryd.ntmps73
  go_wp2
  go_loop [7] (fun s => ∃ k : Nat, k ≤ i ∧ s = .int .i64 k ∧ ∀ a, a < k → os.getD a 0 = 0) (fun s => i - (intOf s).toNat)
  case atStart => exact ⟨0, by omega, rfl, fun a ha => by omega⟩
  case round =>
    obtain ⟨k, hk, rfl, hall⟩ := hrel
    have HA := Lib.hid hall
    clear hall
    by_cases hki : k < i
    · have hck := HC.out k (by omega)
      rw [casts_getD] at hck
      obtain ⟨r, er⟩ : ∃ r, r = os.getD k 0 := ⟨_, rfl⟩
      rw [← er] at hck
      have HR := Lib.hid er
      clear er
      by_cases hr : 0 < r
      · go_wp2
        go_returns
        exact ⟨rb (firstOf_no hki (by rw [← HR.out]; omega)).symm, by go_grown⟩
      · go_wp2
        go_round
        case rel =>
          refine ⟨k + 1, by omega, by go_num, fun a ha => ?_⟩
          by_cases e : a = k
          · subst e; rw [← HR.out]; omega
          · exact HA.out a (by omega)
        case measure => simp [intOf]; omega
    · obtain rfl : k = i := by omega
      have hck := HC.out k hi
      rw [casts_getD] at hck
      have hr64 := hV.get64 k
      obtain ⟨r, er⟩ : ∃ r, r = os.getD k 0 := ⟨_, rfl⟩
      rw [← er] at hck hr64
      have hp := pw_pos j
      obtain ⟨q, eq⟩ : ∃ q : Nat, q = r % 2 ^ j := ⟨_, rfl⟩
      have em : (r : Int).tmod (pw j) = (q : Int) := by
        rw [Int.tmod_eq_emod_of_nonneg (by omega), eq]
        unfold pw
        simp
      have hf : firstOf os k j = decide (q = 0) := by rw [firstOf_last HA.out, eq, er]
      have hp0 : ¬ pw j = 0 := by omega
      obtain ⟨W1, eW⟩ : ∃ W1, W1 = w.alloc (.cells #[.int .i64 (n : Int), .slice (some ⟨b, off, none⟩) os.length cap] 31) := ⟨_, rfl⟩
      have hB1 : Below w.heap.size w W1 := by rw [eW]; go_grown
      have hx := Box2.new w (.int .i64 (n : Int)) (.slice (some ⟨b, off, none⟩) os.length cap) 31
      rw [← eW] at hx
      obtain ⟨_, x0, x1⟩ := hx
      have hck1 := cellB hB1 hck
      have k1 := cell_regrown x1
      have k2 := cell_regrown hck1
      have HF := Lib.hid hf
      clear er eq hf x0 x1 hck1
      have HE := Lib.hid eW
      clear eW
      go_wp2_with fail
      rw [← HE.out]
      refine wp_region_quiet_below (by kernel_rfl) (by kernel_rfl) ?_
      repeat (first | go_big_quiet_step ((go_at_call 56; exact Calls.rgs (l1Power_c j (by omega) _))) | quiet_step ((go_at_call 56; exact Calls.rgs (l1Power_c j (by omega) _))))
      refine wpQuiet_nil ?_
      intro _ hw0
      obtain ⟨⟨dq, osq⟩, hw1⟩ := hw0
      subst hw1
      have hq := below_regrown W1 dq osq
      generalize Go.Sort.grow (redrawn W1 dq) osq = w2 at hq ⊢
      go_wp2
      go_returns
      exact ⟨rb (by rw [HF.out]; rw [Bool.eq_iff_iff]; simp), hB1.trans (hq.mono hB1.size)⟩
end Go.Proofs.YtponmfnehbohcaaDoor
end

section
namespace Go.Proofs.YtponmfnehbohcaaDoor
open Go.RowKit
open Gr
/-- A value of a valid image, d of another. -/
def onImg {α : Type} (d : α) (f : Nat → List Nat → α) (W : Int) (rows : List Int) : α := if validB W rows then f W.toNat (rows.map Int.toNat) else d
theorem onImg_no {α : Type} {d : α} {f : Nat → List Nat → α} {W : Int} {rows : List Int} (h : validB W rows = false) : onImg d f W rows = d := by unfold onImg; rw [h]; rfl
theorem onImg_yes {α : Type} {d : α} {f : Nat → List Nat → α} {w : Nat} {ns : List Nat} (h : VImg w ns) : onImg d f (w : Int) (casts ns) = f w ns := by
  have e : (casts ns).map Int.toNat = ns := by simp [casts, Function.comp_def]
  unfold onImg
  rw [validB_of h, e]
  simp
/-- The cells that are there and not set. -/
def coT (w : Nat) (ns : List Nat) : Nat → Nat → Bool := Co ns.length w (cell ns)
theorem coT_in {w : Nat} {ns : List Nat} : Inside ns.length w (coT w ns) := fun _ _ h => ⟨(co_iff.1 h).1, (co_iff.1 h).2.1⟩
/-- The cell is one of a hole. -/
def holeB (w : Nat) (ns : List Nat) (c : Nat × Nat) : Bool := !cell ns c.1 c.2 && innerB (coT w ns) ns.length w c
/-- The first cells of the parts, of the holes. -/
def partsL (w : Nat) (ns : List Nat) : List (Nat × Nat) := firsts (cell ns) false ns.length w
def holesL (w : Nat) (ns : List Nat) : List (Nat × Nat) := (firsts (coT w ns) true ns.length w).filter (innerB (coT w ns) ns.length w)
def partsN (w : Nat) (ns : List Nat) : Int := (partsL w ns).length
def holesN (w : Nat) (ns : List Nat) : Int := (holesL w ns).length
theorem holesL_eq (w : Nat) (ns : List Nat) : holesL w ns = (cellsL ns.length w).filter fun c => holeB w ns c && firstB (coT w ns) true ns.length w c := by
  unfold holesL firsts
  rw [List.filter_filter]
  refine List.filter_congr fun c _ => ?_
  cases hf : firstB (coT w ns) true ns.length w c with
  | false => simp
  | true =>
    have := ((firstB_iff coT_in c).1 hf).1
    have := (co_iff.1 this).2.2
    simp [holeB, this]
/-- How many of the cells ahead of (k, l) have a property. -/
def cntTo (p : Nat × Nat → Bool) (w k l : Nat) : Nat := ((cellsL k w).filter p).length + ((List.range l).filter fun j => p (k, j)).length
theorem cntTo_zero (p : Nat × Nat → Bool) (w k : Nat) : cntTo p w k 0 = ((cellsL k w).filter p).length := by simp [cntTo]
theorem cntTo_yes {p : Nat × Nat → Bool} {w k l : Nat} (h : p (k, l) = true) : cntTo p w k (l + 1) = cntTo p w k l + 1 := by
  unfold cntTo
  rw [List.range_succ, List.filter_append, List.length_append]
  simp [h]
  omega
theorem cntTo_no {p : Nat × Nat → Bool} {w k l : Nat} (h : p (k, l) = false) : cntTo p w k (l + 1) = cntTo p w k l := by
  unfold cntTo
  rw [List.range_succ, List.filter_append, List.length_append]
  simp [h]
theorem cntTo_row (p : Nat × Nat → Bool) (w k : Nat) : cntTo p w k w = cntTo p w (k + 1) 0 := by
  unfold cntTo
  rw [cellsL_succ, List.filter_append, List.length_append, List.filter_map, List.length_map]
  simp [Function.comp_def]
theorem cntTo_le (p : Nat × Nat → Bool) (w k l : Nat) : cntTo p w k l ≤ k * w + l := by
  unfold cntTo
  have h1 := List.length_filter_le p (cellsL k w)
  have h2 := List.length_filter_le (fun j => p (k, j)) (List.range l)
  rw [length_cellsL] at h1
  rw [List.length_range] at h2
  omega
theorem cntTo_bd {p : Nat × Nat → Bool} {w k l : Nat} (hk : k ≤ 6) (hw : w ≤ 6) (hl : l ≤ 6) : cntTo p w k l ≤ 42 := by
  have h1 := cntTo_le p w k l
  have h2 : k * w ≤ 6 * 6 := Nat.mul_le_mul hk hw
  omega
theorem firstB_no {T : Nat → Nat → Bool} {c : Bool} {h w i j : Nat} (ht : T i j = false) : firstB T c h w (i, j) = false := by
  unfold firstB
  rw [ht]
  rfl
set_option maxRecDepth 100000 in
set_option maxHeartbeats 2000000 in
theorem sImageParts_c (W : Int) (v : Value) (rows : List Int) (w : World) (hv : Ints w.heap.size w v rows) :
    Calls Tryd.prog 45 #[.agg #[.int .i64 W, v]] w fun e w' => e = .returned (.int .i64 (onImg (-1) partsN W rows)) ∧ Below w.heap.size w w' := by
  obtain ⟨A, cap, rfl⟩ := hv.len
  have hI := Arg.new hv
  have hW := Below.refl w.heap.size w
  go_enter Tryd.func45, Tryd.ntmps45
  obtain ⟨W0, e_W0⟩ : ∃ W0, W0 = World.alloc w (.cells #[.int .i64 W, .slice A rows.length cap] 31) := ⟨_, rfl⟩
  have hx_W0 := Box2.new w (.int .i64 W) (.slice A rows.length cap) 31
  have hb_W0 : Below (World.heap w).size w W0 := by rw [e_W0]; go_grown
  have HS_W0 := Lib.hid (show (World.heap W0).size = (World.heap w).size + 1 by rw [e_W0]; simp)
  replace hI := hI.below hb_W0
  replace hW := hW.trans (Below.mono hb_W0 hW.size)
  have HE_W0 := Lib.hid e_W0
  clear e_W0
  go_wp2_with fail
  rw [← HE_W0.out] at hx_W0 ⊢
  clear HE_W0
  obtain ⟨hl_x, x0, x1⟩ := hx_W0
  obtain ⟨Bx, e_Bx⟩ : ∃ Bx, Bx = (World.heap w).size := ⟨_, rfl⟩
  rw [← e_Bx] at hl_x x0 x1 hb_W0 HS_W0  ⊢
  have hz_Bx := hb_W0.size
  clear e_Bx hb_W0
  refine (sImageValid_c W _ rows _ hI.ints).mono ?_
  rintro e wc ⟨rfl, hb⟩
  replace hI := hI.below hb
  replace hW := hW.trans (Below.mono hb hW.size)
  replace x0 := cellB hb x0
  replace x1 := cellB hb x1
  cases hval : validB W rows with
  | false =>
    go_wp2
    go_returns
    exact ⟨ri (onImg_no hval).symm, hW⟩
  | true =>
    obtain ⟨n, ns, rfl, rfl, hV⟩ := validB_yes hval
    rw [length_casts] at hI x1 ⊢
    have h1 := hV.h1
    have w1 := hV.w1
    have w6 := hV.w6
    have h6 := hV.h6
    have HVL := Lib.hid hval
    clear hval hv
    go_wp2_with fail
    go_loopw [3, 4] (fun s q wr => ∃ k : Nat, k ≤ ns.length ∧ s = .int .i64 (cntTo (firstB (cell ns) false ns.length n) n k 0 : Nat) ∧ q = .int .i64 k ∧ Below w.heap.size w wr ∧ Arg w.heap.size wr (.slice A ns.length cap) (casts ns) ∧ wr.cell? ⟨Bx, 0, none⟩ = some (.int .i64 (n : Int)) ∧ wr.cell? ⟨Bx, 1, none⟩ = some (.slice A ns.length cap)) (fun _ q _ => ns.length - (intOf q).toNat)
    case atStart => exact ⟨0, by omega, by simp [cntTo_zero, cellsL], rfl, hW, hI, x0, x1⟩
    case round =>
      clear hW hI x0 x1
      obtain ⟨k, hk, rfl, rfl, hW, hI, x0, x1⟩ := hrel
      by_cases hkl : k < ns.length
      · go_wp2_with fail
        go_loopw [3, 5] (fun s q wr => ∃ l : Nat, l ≤ n ∧ s = .int .i64 (cntTo (firstB (cell ns) false ns.length n) n k l : Nat) ∧ q = .int .i64 l ∧ Below w.heap.size w wr ∧ Arg w.heap.size wr (.slice A ns.length cap) (casts ns) ∧ wr.cell? ⟨Bx, 0, none⟩ = some (.int .i64 (n : Int)) ∧ wr.cell? ⟨Bx, 1, none⟩ = some (.slice A ns.length cap)) (fun _ q _ => n - (intOf q).toNat)
        case atStart => exact ⟨0, by omega, rfl, rfl, hW, hI, x0, x1⟩
        case round =>
          clear hW hI x0 x1
          obtain ⟨l, hl, rfl, rfl, hW, hI, x0, x1⟩ := hrel
          by_cases hll : l < n
          · have hcb := cntTo_bd (p := firstB (cell ns) false ns.length n) (w := n) (k := k) (l := l) (by omega) (by omega) (by omega)
            have h64 := hV.get64 k
            go_wp2_with fail
            refine (l11Get_c n _ ns k l hkl (by omega) (by omega) _ hI.ints).mono ?_
            rintro e wc ⟨rfl, hb⟩
            replace hI := hI.below hb
            replace hW := hW.trans (Below.mono hb hW.size)
            replace x0 := cellB hb x0
            replace x1 := cellB hb x1
            cases hc : cell ns k l with
            | false =>
              have e0 : b2i false = 0 := rfl
              rw [e0]
              have hst := cntTo_no (w := n) (firstB_no (c := false) (h := ns.length) (w := n) hc)
              have HST := Lib.hid hst
              clear hc hst e0 h64
              go_wp2
              go_roundw
              case rel => exact ⟨l + 1, by omega, by rw [HST.out], by go_num, hW, hI, x0, x1⟩
              case measure => simp [intOf]; omega
            | true =>
              have e1 : b2i true = 1 := rfl
              rw [e1]
              have H1 := l32Group_c n _ ns hV k l false hkl hll _ hI.ints
              rw [sameT_set (sized_img hV) hc] at H1
              have hfo : firstOf (compL (cell ns) false ns.length n (k, l)) k l = firstB (cell ns) false ns.length n (k, l) := firstOf_comp (sized_img hV).inside hc
              have hz : Sized ns.length n (compL (cell ns) false ns.length n (k, l)) := sized_mk
              obtain ⟨os, eo⟩ : ∃ os, os = compL (cell ns) false ns.length n (k, l) := ⟨_, rfl⟩
              rw [← eo] at hz H1 hfo
              have HF := Lib.hid hfo
              clear hc e1 eo hfo h64
              go_wp2_with fail
              refine H1.mono ?_
              rintro e wc ⟨g, cp, rfl, hg, hr, hb⟩
              clear H1
              replace hI := hI.below hb
              replace hW := hW.trans (Below.mono hb hW.size)
              replace x0 := cellB hb x0
              replace x1 := cellB hb x1
              go_wp2_with fail
              refine (l32First_c n _ os (hz.vimg h1 h6 w1 w6) k l (by rw [hz.1]; exact hkl) hll _ (hr.intsH hz.1)).mono ?_
              rintro e wc ⟨rfl, hb⟩
              replace hI := hI.below hb
              replace hW := hW.trans (Below.mono hb hW.size)
              replace x0 := cellB hb x0
              replace x1 := cellB hb x1
              rw [HF.out]
              cases hfb : firstB (cell ns) false ns.length n (k, l) with
              | true =>
                have hst := cntTo_yes (w := n) hfb
                have HST := Lib.hid hst
                clear hfb hst
                go_wp2
                go_roundw
                case rel => exact ⟨l + 1, by omega, by rw [HST.out]; go_num, by go_num, hW, hI, x0, x1⟩
                case measure => simp [intOf]; omega
              | false =>
                have hst := cntTo_no (w := n) hfb
                have HST := Lib.hid hst
                clear hfb hst
                go_wp2
                go_roundw
                case rel => exact ⟨l + 1, by omega, by rw [HST.out], by go_num, hW, hI, x0, x1⟩
                case measure => simp [intOf]; omega
          · obtain rfl : l = n := by omega
            go_wp2
            go_roundw
            case rel => exact ⟨k + 1, by omega, by rw [cntTo_row], by go_num, hW, hI, x0, x1⟩
            case measure => simp [intOf]; omega
      · obtain rfl : k = ns.length := by omega
        go_wp2
        go_returns
        exact ⟨ri (by rw [onImg_yes hV, cntTo_zero]; rfl), hW⟩
end Go.Proofs.YtponmfnehbohcaaDoor
end

section
namespace Go.Proofs.YtponmfnehbohcaaDoor
open Go.RowKit
open Gr
/-- Whether an image of whatever numbers is valid and has the cell. -/
def hasZ (W : Int) (rows : List Int) (i j : Int) : Bool := validB W rows && inB W rows i j && cell (rows.map Int.toNat) i.toNat j.toNat
theorem hasZ_yes {W : Int} {rows : List Int} {i j : Int} (h : hasZ W rows i j = true) : ∃ (n : Nat) (ns : List Nat) (a b : Nat), W = n ∧ rows = casts ns ∧ i = a ∧ j = b ∧ VImg n ns ∧ a < ns.length ∧ b < n ∧ cell ns a b = true := by
  simp only [hasZ, Bool.and_eq_true, inB, decide_eq_true_eq] at h
  obtain ⟨⟨h1, ⟨⟨h2, h3⟩, h4⟩, h5⟩, h6⟩ := h
  obtain ⟨n, ns, rfl, rfl, hV⟩ := validB_yes h1
  have e : (casts ns).map Int.toNat = ns := by simp [casts, Function.comp_def]
  rw [e] at h6
  have := hV.cell_in h6
  exact ⟨n, ns, i.toNat, j.toNat, rfl, rfl, by omega, by omega, hV, this.1, this.2, h6⟩
theorem hasZ_of {n : Nat} {ns : List Nat} (hV : VImg n ns) (i j : Int) : hasZ (n : Int) (casts ns) i j = cellZ ns i j := by
  have e : (casts ns).map Int.toNat = ns := by simp [casts, Function.comp_def]
  unfold hasZ
  rw [validB_of hV, e, Bool.eq_iff_iff]
  simp only [inB, cellZ, Bool.and_eq_true, decide_eq_true_eq, length_casts, true_and]
  constructor
  · rintro ⟨⟨⟨⟨a, _⟩, b⟩, _⟩, c⟩; exact ⟨⟨a, b⟩, c⟩
  · rintro ⟨⟨a, b⟩, c⟩
    have := hV.cell_in c
    exact ⟨⟨⟨⟨a, by omega⟩, b⟩, by omega⟩, c⟩
/-- An image of the call's own, and true. -/
def ImgOut (w : World) (wd : Nat) (ns : List Nat) (e : Ending) (w' : World) : Prop :=
  ∃ g c, e = .returned (.tuple #[.agg #[.int .i64 (wd : Int), .slice (some ⟨g, 0, none⟩) ns.length c], .bool true]) ∧ w.heap.size ≤ g ∧ Row w' g (casts ns) ∧ Below w.heap.size w w'
/-- No image. -/
def NoImg (w : World) (e : Ending) (w' : World) : Prop := e = .returned (.tuple #[.agg #[.int .i64 0, .slice none 0 0], .bool false]) ∧ Below w.heap.size w w'
end Go.Proofs.YtponmfnehbohcaaDoor
end
