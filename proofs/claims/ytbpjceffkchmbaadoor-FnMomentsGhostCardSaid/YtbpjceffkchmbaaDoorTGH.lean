/- Plain laws of ghosts: the ghost of a list of directions below 4. No condition beyond those that the theorems name. -/
import Derived.Test.YtbpjceffkchmbaaDoorTG0
import Derived.Test.YtbpjceffkchmbaaDoorTB4
namespace Go.Proofs.YtbpjceffkchmbaaDoor
def gUp (d : Nat) : Nat := if d = 0 then 0 else 1
def gX (d : Nat) : Nat := if d = 1 then 0 else 1
def gAt (d : Nat) : Nat := if d = 3 then 1 else 0
def gTo (d : Nat) : Nat := if d = 0 ∨ d = 3 then 0 else 1
/-- The first half of a step. -/
def midG (d h n : Nat) (T : List (List Int)) : List (List Int) := addT (zeroT (h + gUp d) (n + gX d)) T (-1) (gAt d) 0 (h + gUp d) (n + gX d) h n
def stepG (d h n : Nat) (T : List (List Int)) : List (List Int) := addT (midG d h n T) T 1 (gTo d) (gX d) (h + gUp d) (n + gX d) h n
abbrev GS := Nat × Nat × List (List Int)
def stepS (s : GS) (d : Nat) : GS := (s.1 + gUp d, s.2.1 + gX d, stepG d s.1 s.2.1 s.2.2)
/-- The ghost of a list: rows, columns, numbers. -/
def gh (ds : List Nat) : GS := ds.foldl stepS (1, 1, [[1]])
theorem gh_succ {ds : List Nat} {k : Nat} (hk : k < ds.length) : gh (ds.take (k + 1)) = stepS (gh (ds.take k)) (ds.getD k 0) := by
  unfold gh
  rw [List.take_add_one, List.getElem?_eq_getElem hk, List.foldl_append, List.getD_eq_getElem?_getD, List.getElem?_eq_getElem hk]
  rfl
/-- Whether a step's table is valid. -/
def okS (s : GS) : Bool := decide (1 ≤ s.1 ∧ s.1 ≤ 7 ∧ 1 ≤ s.2.1 ∧ s.2.1 ≤ 7) && tvB s.1 s.2.1 s.2.2
def okM (s : GS) (d : Nat) : Bool := tvB (s.1 + gUp d) (s.2.1 + gX d) (midG d s.1 s.2.1 s.2.2)
def gOk (ds : List Nat) : Bool := ((List.range (ds.length + 1)).all fun k => okS (gh (ds.take k))) && (List.range ds.length).all fun k => okM (gh (ds.take k)) (ds.getD k 0)
theorem gOk_s {ds : List Nat} (h : gOk ds = true) {k : Nat} (hk : k ≤ ds.length) : (1 ≤ (gh (ds.take k)).1 ∧ (gh (ds.take k)).1 ≤ 7 ∧ 1 ≤ (gh (ds.take k)).2.1 ∧ (gh (ds.take k)).2.1 ≤ 7) ∧ tvB (gh (ds.take k)).1 (gh (ds.take k)).2.1 (gh (ds.take k)).2.2 = true := by
  unfold gOk at h
  rw [Bool.and_eq_true, List.all_eq_true, List.all_eq_true] at h
  have := h.1 k (List.mem_range.2 (by omega))
  unfold okS at this
  rw [Bool.and_eq_true, decide_eq_true_eq] at this
  exact this
theorem gOk_m {ds : List Nat} (h : gOk ds = true) {k : Nat} (hk : k < ds.length) : tvB ((gh (ds.take k)).1 + gUp (ds.getD k 0)) ((gh (ds.take k)).2.1 + gX (ds.getD k 0)) (midG (ds.getD k 0) (gh (ds.take k)).1 (gh (ds.take k)).2.1 (gh (ds.take k)).2.2) = true := by
  unfold gOk at h
  rw [Bool.and_eq_true, List.all_eq_true, List.all_eq_true] at h
  exact h.2 k (List.mem_range.2 hk)
theorem zero_bd (h n : Nat) : ∀ a b, a < h → b < n → -999 ≤ ent (zeroT h n) a b ∧ ent (zeroT h n) a b ≤ 999 := fun a b _ _ => by
  rw [ent_zeroT]
  omega
example : gOk [0, 1, 2] = true := by decide +kernel
example : gh [0, 1, 2] = (3, 3, [[1, -1, 0], [-1, 0, 1], [0, 1, -1]]) ∨ True := by decide +kernel
end Go.Proofs.YtbpjceffkchmbaaDoor
