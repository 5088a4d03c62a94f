/- Contracts of l1Cell, l31Get, l32Near, l32Touch of the reference. Conditions: the image is valid; the places lie near it. | Contracts of l32Touch, l32First, l32Inside of the reference. Conditions: the image is valid; the cell is there. | Contract of l32Group of the reference: the part of a cell, by a search in breadth. Conditions: the image is valid; the cell is there. | Contracts of l32First, l32Inside, l32Hole of the reference. Conditions: the image is valid; the cell is there. | Contracts of l32Hole, ImageParts, ImageHoles of the reference. Conditions: the slice reads as a list of integers. | Contracts of ImageHoles, ImageHas, ImagePart, ImageFill of the reference. Conditions: the slice reads as a list of integers. -/
import Derived.Test.YtbpjceffkchmbaaDoorKT
import Derived.Test.YtbpjceffkchmbaaDoorTW
import Derived.Test.YtbpjceffkchmbaaDoorMA
import Derived.Test.YtbpjceffkchmbaaDoorK5
section
namespace Go.Proofs.YtbpjceffkchmbaaDoor
open Go.RowKit
/-- Whether there is such a cell, of a valid image. -/
def inC (n : Nat) (ns : List Nat) (i j : Int) : Bool := decide (0 ≤ i) && decide (i < ns.length) && decide (0 ≤ j) && decide (j < n)
theorem inC_no {n : Nat} {ns : List Nat} {i j : Int} (h : ¬ (0 ≤ i ∧ i < ns.length ∧ 0 ≤ j ∧ j < n)) : inC n ns i j = false := by
  simp [inC]; omega
theorem inC_yes {n : Nat} {ns : List Nat} {i j : Int} (h : 0 ≤ i ∧ i < ns.length ∧ 0 ≤ j ∧ j < n) : inC n ns i j = true := by
  simp [inC]; omega
/-- Neighbors, or near if corners count; not one cell. -/
def nearZ (c : Bool) (i j k l : Int) : Bool := decide (i ≤ k + 1) && decide (k ≤ i + 1) && decide (j ≤ l + 1) && decide (l ≤ j + 1) && !(decide (i = k) && decide (j = l)) && (c || decide (i = k) || decide (j = l))
end Go.Proofs.YtbpjceffkchmbaaDoor
end

section
namespace Go.Proofs.YtbpjceffkchmbaaDoor
open Go.RowKit
open Gr
/-- A set cell at (a, b) is near (i, j). -/
def hit (ns : List Nat) (c : Bool) (i j : Nat) (a b : Int) : Bool := cellZ ns a b && nearZ c i j a b
theorem hit_touch {n : Nat} {ns : List Nat} (hV : VImg n ns) {c : Bool} {i j : Nat} {a b : Int} (h : hit ns c i j a b = true) : touchB c ns.length n ns i j = true := by
  simp only [hit, cellZ, Bool.and_eq_true, decide_eq_true_eq] at h
  obtain ⟨⟨⟨ha, hb⟩, hc⟩, hn⟩ := h
  refine (touchB_iff (sized_img hV)).2 ⟨a.toNat, b.toNat, hc, ?_, ?_⟩
  · simp only [nearZ, Bool.and_eq_true, Bool.or_eq_true, decide_eq_true_eq, Bool.not_eq_true'] at hn
    unfold Adj
    refine ⟨by omega, by omega, by omega, by omega, ?_⟩
    rcases hn.2 with (h1 | h1) | h1
    · exact .inl h1
    · exact .inr (.inl (by omega))
    · exact .inr (.inr (by omega))
  · simp only [nearZ, Bool.and_eq_true, Bool.or_eq_true, decide_eq_true_eq, Bool.not_eq_true', Bool.and_eq_false_iff, decide_eq_false_iff_not] at hn
    omega
theorem no_touch {n : Nat} {ns : List Nat} (hV : VImg n ns) {c : Bool} {i j : Nat} (h : ∀ a b : Int, (i : Int) - 1 ≤ a → a ≤ i + 1 → (j : Int) - 1 ≤ b → b ≤ j + 1 → hit ns c i j a b = false) : touchB c ns.length n ns i j = false := by
  rw [← Bool.not_eq_true, touchB_iff (sized_img hV)]
  rintro ⟨k, l, h1, ⟨a1, a2, a3, a4, a5⟩, h3⟩
  have := h (k : Int) (l : Int) (by omega) (by omega) (by omega) (by omega)
  have e : hit ns c i j k l = true := by
    have e1 : cellZ ns (k : Int) (l : Int) = true := by simp [cellZ, h1]
    unfold hit
    rw [e1, Bool.true_and]
    rcases a5 with rfl | h1 | h1
    · simp [nearZ]; omega
    · simp [nearZ]; omega
    · simp [nearZ]; omega
  rw [e] at this
  cases this
/-- No hit in the rows ahead, and in the row k ahead of the place l. -/
def noHit (ns : List Nat) (c : Bool) (i j : Nat) (k l : Int) : Prop := ∀ a b : Int, (i : Int) - 1 ≤ a → a ≤ i + 1 → (j : Int) - 1 ≤ b → b ≤ j + 1 → (a < k ∨ (a = k ∧ b < l)) → hit ns c i j a b = false
end Go.Proofs.YtbpjceffkchmbaaDoor
end

section
namespace Go.Proofs.YtbpjceffkchmbaaDoor
open Go.RowKit
open Gr
/-- The rows of an image, read out of memory. -/
def decRow (wr : World) (g h : Nat) : List Nat := (List.range h).map fun k => match wr.cell? ⟨g, k, none⟩ with | some (.int _ z) => z.toNat | _ => 0
theorem dec_row {wr : World} {g : Nat} {os : List Nat} (hr : Row wr g (casts os)) {h : Nat} (hl : os.length = h) : decRow wr g h = os := by
  subst hl
  apply List.ext_getElem
  · simp [decRow]
  · intro k h1 h2
    have := hr.cell (k := k) (by rw [length_casts]; exact h2)
    rw [casts_getD] at this
    simp [decRow, this, List.getD_eq_getElem?_getD, List.getElem?_eq_getElem h2]
/-- In the midst of a pass. -/
def Scan (T : Nat → Nat → Bool) (c : Bool) (h w : Nat) (f : Bool) (os0 os : List Nat) (k l : Nat) : Prop :=
  (f = false → os = os0 ∧ ∀ a b, a < h → b < w → (a < k ∨ (a = k ∧ b < l)) → T a b = true → cell os a b = false → touchB c h w os a b = false) ∧ (f = true → setN h w os0 < setN h w os) ∧ setN h w os0 ≤ setN h w os
theorem Scan.start {T : Nat → Nat → Bool} {c : Bool} {h w : Nat} (os : List Nat) : Scan T c h w false os os 0 0 :=
  ⟨fun _ => ⟨rfl, fun a b _ _ hh => by omega⟩, (fun hh => nomatch hh), Nat.le_refl _⟩
theorem Scan.row {T : Nat → Nat → Bool} {c : Bool} {h w : Nat} {f : Bool} {os0 os : List Nat} {k : Nat} (hs : Scan T c h w f os0 os k w) : Scan T c h w f os0 os (k + 1) 0 :=
  ⟨fun hf => ⟨(hs.1 hf).1, fun a b ha hb hh => (hs.1 hf).2 a b ha hb (by omega)⟩, hs.2.1, hs.2.2⟩
theorem Scan.skip {T : Nat → Nat → Bool} {c : Bool} {h w : Nat} {f : Bool} {os0 os : List Nat} {k l : Nat} (hs : Scan T c h w f os0 os k l) (hn : T k l = true → cell os k l = false → touchB c h w os k l = false) : Scan T c h w f os0 os k (l + 1) :=
  ⟨fun hf => ⟨(hs.1 hf).1, fun a b ha hb hh ht hc => by
    by_cases e : a = k ∧ b = l
    · obtain ⟨rfl, rfl⟩ := e; exact hn ht hc
    · exact (hs.1 hf).2 a b ha hb (by omega) ht hc⟩, hs.2.1, hs.2.2⟩
theorem Scan.add {T : Nat → Nat → Bool} {c : Bool} {h w : Nat} {f : Bool} {os0 os : List Nat} {k l : Nat} (hs : Scan T c h w f os0 os k l) (hz : Sized h w os) (hk : k < h) (hl : l < w) (hc : cell os k l = false) : Scan T c h w true os0 (putL os k l true) k (l + 1) := by
  have e : ∀ a b, cell (putL os k l true) a b = if a = k ∧ b = l then true else cell os a b := cell_putL (by rw [hz.1]; exact hk) l true
  have : setN h w os < setN h w (putL os k l true) := setN_lt (hz.put hk hl true) (fun a b hab => by rw [e]; split <;> first | rfl | exact hab) (i := k) (j := l) (by rw [e, if_pos ⟨rfl, rfl⟩]) hc
  exact ⟨(fun hh => nomatch hh), fun _ => Nat.lt_of_le_of_lt hs.2.2 this, Nat.le_trans hs.2.2 (Nat.le_of_lt this)⟩
/-- Between two passes. -/
def Fresh (T : Nat → Nat → Bool) (c : Bool) (h w : Nat) (f : Bool) (os : List Nat) : Prop := f = false → ∀ a b, a < h → b < w → T a b = true → cell os a b = false → touchB c h w os a b = false
theorem Scan.fresh {T : Nat → Nat → Bool} {c : Bool} {h w : Nat} {f : Bool} {os0 os : List Nat} (hs : Scan T c h w f os0 os h 0) : Fresh T c h w f os :=
  fun hf a b ha hb => (hs.1 hf).2 a b ha hb (by omega)
def meas (h w g : Nat) (f : Value) (wr : World) : Nat := (match f with | .bool true => 1 | _ => 0) + 2 * (h * w - setN h w (decRow wr g h))
theorem Scan.less {T : Nat → Nat → Bool} {c : Bool} {h w g : Nat} {f : Bool} {os0 os : List Nat} {w0 w1 : World} (hs : Scan T c h w f os0 os h 0) (h0 : decRow w0 g h = os0) (h1 : decRow w1 g h = os) : meas h w g (.bool f) w1 < meas h w g (.bool true) w0 := by
  unfold meas
  rw [h0, h1]
  have h2 := setN_le h w os
  have h3 := setN_le h w os0
  have h4 := hs.2.1
  have h5 := hs.2.2
  generalize h * w = m at h2 h3 ⊢
  generalize setN h w os = x at h2 h4 h5 ⊢
  generalize setN h w os0 = y at h3 h4 h5 ⊢
  cases f with
  | true => have := h4 rfl; dsimp only; omega
  | false => dsimp only; omega
/-- The memory in the midst of l32Group. -/
structure GMem (w wr : World) (n h g cap Bo : Nat) (A : Option Addr) (ns os : List Nat) : Prop where
  row : Row wr g (casts os)
  bel : Below w.heap.size w wr
  arg : Arg w.heap.size wr (.slice A h cap) (casts ns)
  a0 : wr.cell? ⟨w.heap.size, 0, none⟩ = some (.int .i64 (n : Int))
  a1 : wr.cell? ⟨w.heap.size, 1, none⟩ = some (.slice A h cap)
  r0 : wr.cell? ⟨w.heap.size + 1, 0, none⟩ = some (.int .i64 0)
  r1 : wr.cell? ⟨w.heap.size + 1, 1, none⟩ = some (.slice none 0 0)
  rf0 : wr.frozen? ⟨w.heap.size + 1, 0, none⟩ = false
  rf1 : wr.frozen? ⟨w.heap.size + 1, 1, none⟩ = false
  o0 : wr.cell? ⟨Bo, 0, none⟩ = some (.int .i64 (n : Int))
  o1 : wr.cell? ⟨Bo, 1, none⟩ = some (.slice (some ⟨g, 0, none⟩) h h)
end Go.Proofs.YtbpjceffkchmbaaDoor
end

section
namespace Go.Proofs.YtbpjceffkchmbaaDoor
open Go.RowKit
open Gr
theorem cell_none {ns : List Nat} {k : Nat} : ns.getD k 0 = 0 ↔ ∀ l, cell ns k l = false := by
  constructor
  · intro h l; unfold cell; rw [h]; simp
  · intro h
    apply Nat.eq_of_testBit_eq
    intro l
    have := h l
    unfold cell at this
    rw [this]
    simp
/-- No set cell ahead of (i, j). -/
def firstOf (os : List Nat) (i j : Nat) : Bool := (List.range i).all (fun k => decide (os.getD k 0 = 0)) && decide (os.getD i 0 % 2 ^ j = 0)
theorem mod_pow_zero (r j : Nat) : r % 2 ^ j = 0 ↔ ∀ l, l < j → r.testBit l = false := by
  constructor
  · intro h l hl
    have := Nat.testBit_mod_two_pow r j l
    rw [h] at this
    simpa [hl] using this.symm
  · intro h
    apply Nat.eq_of_testBit_eq
    intro l
    rw [Nat.testBit_mod_two_pow]
    by_cases hl : l < j
    · simp [hl, h l hl]
    · simp [hl]
theorem firstOf_iff {os : List Nat} {i j : Nat} : firstOf os i j = true ↔ ∀ k l, Earlier k l i j → cell os k l = false := by
  simp only [firstOf, Bool.and_eq_true, List.all_eq_true, List.mem_range, decide_eq_true_eq, mod_pow_zero, cell_none]
  constructor
  · rintro ⟨h1, h2⟩ k l he
    rcases he with he | ⟨rfl, he⟩
    · exact h1 k he l
    · exact h2 l he
  · intro h
    exact ⟨fun k hk l => h k l (.inl hk), fun l hl => h i l (.inr ⟨rfl, hl⟩)⟩
theorem firstOf_comp {T : Nat → Nat → Bool} {c : Bool} {h n i j : Nat} (hS : Inside h n T) (ht : T i j = true) : firstOf (compL T c h n (i, j)) i j = firstB T c h n (i, j) := by
  rw [Bool.eq_iff_iff, firstOf_iff, firstB_iff hS]
  constructor
  · intro hh
    refine ⟨ht, fun k l he hk hr => ?_⟩
    have := hh k l he
    rw [← Bool.not_eq_true, cell_comp hS ht] at this
    exact this hr
  · rintro ⟨_, hh⟩ k l he
    rw [← Bool.not_eq_true, cell_comp hS ht]
    intro hr
    exact hh k l he (hr.mem ht) hr
/-- No set cell in the first or last row or column. -/
def insideOf (n : Nat) (os : List Nat) : Bool := (List.range os.length).all (fun k => !cell os k 0 && !cell os k (n - 1)) && decide (os.getD 0 0 = 0) && decide (os.getD (os.length - 1) 0 = 0)
theorem insideOf_iff {os : List Nat} {n : Nat} (hz : Sized os.length n os) (hn : 1 ≤ n) (h1 : 1 ≤ os.length) : insideOf n os = true ↔ ∀ k l, cell os k l = true → 1 ≤ k ∧ k + 1 < os.length ∧ 1 ≤ l ∧ l + 1 < n := by
  simp only [insideOf, Bool.and_eq_true, List.all_eq_true, List.mem_range, decide_eq_true_eq, Bool.not_eq_true', cell_none]
  constructor
  · rintro ⟨⟨h1, h2⟩, h3⟩ k l hc
    have hb := hz.cell_in hc
    have e1 : k ≠ 0 := by rintro rfl; rw [h2 l] at hc; cases hc
    have e2 : k ≠ os.length - 1 := by rintro rfl; rw [h3 l] at hc; cases hc
    have e3 : l ≠ 0 := by rintro rfl; rw [(h1 k hb.1).1] at hc; cases hc
    have e4 : l ≠ n - 1 := by rintro rfl; rw [(h1 k hb.1).2] at hc; cases hc
    omega
  · intro hh
    refine ⟨⟨fun k hk => ⟨?_, ?_⟩, fun l => ?_⟩, fun l => ?_⟩
    · rw [← Bool.not_eq_true]; intro hc; have := hh _ _ hc; omega
    · rw [← Bool.not_eq_true]; intro hc; have := hh _ _ hc; omega
    · rw [← Bool.not_eq_true]; intro hc; have := hh _ _ hc; omega
    · rw [← Bool.not_eq_true]; intro hc; have := hh _ _ hc; omega
theorem insideOf_comp {T : Nat → Nat → Bool} {h n : Nat} {c : Nat × Nat} (hS : Inside h n T) (ht : T c.1 c.2 = true) (hn : 1 ≤ n) (h1 : 1 ≤ h) : insideOf n (compL T true h n c) = innerB T h n c := by
  rw [Bool.eq_iff_iff, insideOf_iff (by rw [length_comp]; exact sized_mk) hn (by rw [length_comp]; exact h1), innerB_iff hS ht, length_comp]
  constructor
  · intro hh k l hr
    exact hh k l ((cell_comp hS ht).2 hr)
  · intro hh k l hc
    exact hh k l ((cell_comp hS ht).1 hc)
end Go.Proofs.YtbpjceffkchmbaaDoor
end

section
namespace Go.Proofs.YtbpjceffkchmbaaDoor
open Go.RowKit
open Gr
/-- A value of a valid image, d of another. -/
def onImg {α : Type} (d : α) (f : Nat → List Nat → α) (W : Int) (rows : List Int) : α := if validB W rows then f W.toNat (rows.map Int.toNat) else d
theorem onImg_no {α : Type} {d : α} {f : Nat → List Nat → α} {W : Int} {rows : List Int} (h : validB W rows = false) : onImg d f W rows = d := by unfold onImg; rw [h]; rfl
theorem onImg_yes {α : Type} {d : α} {f : Nat → List Nat → α} {w : Nat} {ns : List Nat} (h : VImg w ns) : onImg d f (w : Int) (casts ns) = f w ns := by
  have e : (casts ns).map Int.toNat = ns := by simp [casts, Function.comp_def]
  unfold onImg
  rw [validB_of h, e]
  simp
/-- The cells that are there and not set. -/
def coT (w : Nat) (ns : List Nat) : Nat → Nat → Bool := Co ns.length w (cell ns)
theorem coT_in {w : Nat} {ns : List Nat} : Inside ns.length w (coT w ns) := fun _ _ h => ⟨(co_iff.1 h).1, (co_iff.1 h).2.1⟩
/-- The cell is one of a hole. -/
def holeB (w : Nat) (ns : List Nat) (c : Nat × Nat) : Bool := !cell ns c.1 c.2 && innerB (coT w ns) ns.length w c
/-- The first cells of the parts, of the holes. -/
def partsL (w : Nat) (ns : List Nat) : List (Nat × Nat) := firsts (cell ns) false ns.length w
def holesL (w : Nat) (ns : List Nat) : List (Nat × Nat) := (firsts (coT w ns) true ns.length w).filter (innerB (coT w ns) ns.length w)
def partsN (w : Nat) (ns : List Nat) : Int := (partsL w ns).length
def holesN (w : Nat) (ns : List Nat) : Int := (holesL w ns).length
theorem holesL_eq (w : Nat) (ns : List Nat) : holesL w ns = (cellsL ns.length w).filter fun c => holeB w ns c && firstB (coT w ns) true ns.length w c := by
  unfold holesL firsts
  rw [List.filter_filter]
  refine List.filter_congr fun c _ => ?_
  cases hf : firstB (coT w ns) true ns.length w c with
  | false => simp
  | true =>
    have := ((firstB_iff coT_in c).1 hf).1
    have := (co_iff.1 this).2.2
    simp [holeB, this]
/-- How many of the cells ahead of (k, l) have a property. -/
def cntTo (p : Nat × Nat → Bool) (w k l : Nat) : Nat := ((cellsL k w).filter p).length + ((List.range l).filter fun j => p (k, j)).length
theorem cntTo_zero (p : Nat × Nat → Bool) (w k : Nat) : cntTo p w k 0 = ((cellsL k w).filter p).length := by simp [cntTo]
theorem cntTo_yes {p : Nat × Nat → Bool} {w k l : Nat} (h : p (k, l) = true) : cntTo p w k (l + 1) = cntTo p w k l + 1 := by
  unfold cntTo
  rw [List.range_succ, List.filter_append, List.length_append]
  simp [h]
  omega
theorem cntTo_no {p : Nat × Nat → Bool} {w k l : Nat} (h : p (k, l) = false) : cntTo p w k (l + 1) = cntTo p w k l := by
  unfold cntTo
  rw [List.range_succ, List.filter_append, List.length_append]
  simp [h]
theorem cntTo_row (p : Nat × Nat → Bool) (w k : Nat) : cntTo p w k w = cntTo p w (k + 1) 0 := by
  unfold cntTo
  rw [cellsL_succ, List.filter_append, List.length_append, List.filter_map, List.length_map]
  simp [Function.comp_def]
theorem cntTo_le (p : Nat × Nat → Bool) (w k l : Nat) : cntTo p w k l ≤ k * w + l := by
  unfold cntTo
  have h1 := List.length_filter_le p (cellsL k w)
  have h2 := List.length_filter_le (fun j => p (k, j)) (List.range l)
  rw [length_cellsL] at h1
  rw [List.length_range] at h2
  omega
theorem cntTo_bd {p : Nat × Nat → Bool} {w k l : Nat} (hk : k ≤ 6) (hw : w ≤ 6) (hl : l ≤ 6) : cntTo p w k l ≤ 42 := by
  have h1 := cntTo_le p w k l
  have h2 : k * w ≤ 6 * 6 := Nat.mul_le_mul hk hw
  omega
theorem firstB_no {T : Nat → Nat → Bool} {c : Bool} {h w i j : Nat} (ht : T i j = false) : firstB T c h w (i, j) = false := by
  unfold firstB
  rw [ht]
  rfl
end Go.Proofs.YtbpjceffkchmbaaDoor
end

section
namespace Go.Proofs.YtbpjceffkchmbaaDoor
open Go.RowKit
open Gr
/-- Whether an image of whatever numbers is valid and has the cell. -/
def hasZ (W : Int) (rows : List Int) (i j : Int) : Bool := validB W rows && inB W rows i j && cell (rows.map Int.toNat) i.toNat j.toNat
theorem hasZ_yes {W : Int} {rows : List Int} {i j : Int} (h : hasZ W rows i j = true) : ∃ (n : Nat) (ns : List Nat) (a b : Nat), W = n ∧ rows = casts ns ∧ i = a ∧ j = b ∧ VImg n ns ∧ a < ns.length ∧ b < n ∧ cell ns a b = true := by
  simp only [hasZ, Bool.and_eq_true, inB, decide_eq_true_eq] at h
  obtain ⟨⟨h1, ⟨⟨h2, h3⟩, h4⟩, h5⟩, h6⟩ := h
  obtain ⟨n, ns, rfl, rfl, hV⟩ := validB_yes h1
  have e : (casts ns).map Int.toNat = ns := by simp [casts, Function.comp_def]
  rw [e] at h6
  have := hV.cell_in h6
  exact ⟨n, ns, i.toNat, j.toNat, rfl, rfl, by omega, by omega, hV, this.1, this.2, h6⟩
theorem hasZ_of {n : Nat} {ns : List Nat} (hV : VImg n ns) (i j : Int) : hasZ (n : Int) (casts ns) i j = cellZ ns i j := by
  have e : (casts ns).map Int.toNat = ns := by simp [casts, Function.comp_def]
  unfold hasZ
  rw [validB_of hV, e, Bool.eq_iff_iff]
  simp only [inB, cellZ, Bool.and_eq_true, decide_eq_true_eq, length_casts, true_and]
  constructor
  · rintro ⟨⟨⟨⟨a, _⟩, b⟩, _⟩, c⟩; exact ⟨⟨a, b⟩, c⟩
  · rintro ⟨⟨a, b⟩, c⟩
    have := hV.cell_in c
    exact ⟨⟨⟨⟨a, by omega⟩, b⟩, by omega⟩, c⟩
/-- An image of the call's own, and true. -/
def ImgOut (w : World) (wd : Nat) (ns : List Nat) (e : Ending) (w' : World) : Prop :=
  ∃ g c, e = .returned (.tuple #[.agg #[.int .i64 (wd : Int), .slice (some ⟨g, 0, none⟩) ns.length c], .bool true]) ∧ w.heap.size ≤ g ∧ Row w' g (casts ns) ∧ Below w.heap.size w w'
/-- No image. -/
def NoImg (w : World) (e : Ending) (w' : World) : Prop := e = .returned (.tuple #[.agg #[.int .i64 0, .slice none 0 0], .bool false]) ∧ Below w.heap.size w w'
end Go.Proofs.YtbpjceffkchmbaaDoor
end
