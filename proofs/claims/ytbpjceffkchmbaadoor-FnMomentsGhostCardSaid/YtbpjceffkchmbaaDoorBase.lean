/- Words for memory that the contracts of this seat use: a slice that reads as a list of integers, a block of integers of the call's own, what is kept when memory grows. No condition. -/
import Derived.WalkKit
import Derived.WalkSpells
import Derived.WalkLawsBesides
import Derived.Lib.Hide
import Derived.Handy
import Derived.Deep.Draws
import Derived.Lib.QuietBelow
import Derived.BigQuiet
namespace Go.Proofs.YtbpjceffkchmbaaDoor
open Go.RowKit

theorem rb {a b : Bool} (h : a = b) : Ending.returned (.bool a) = .returned (.bool b) := by rw [h]
theorem ri {k : IntKind} {a b : Int} (h : a = b) : Ending.returned (.int k a) = .returned (.int k b) := by rw [h]
theorem bcell {B : Nat} {W w1 : World} (hb : Below B W w1) : (∀ b o, b < B → w1.cell? ⟨b, o, none⟩ = W.cell? ⟨b, o, none⟩) ∧ (∀ b o, b < B → w1.frozen? ⟨b, o, none⟩ = W.frozen? ⟨b, o, none⟩) :=
  ⟨fun b o h => hb.cell (p := ⟨b, o, none⟩) h, fun b o h => hb.frozen (p := ⟨b, o, none⟩) h⟩
theorem Below.undrew {B : Nat} {w w1 : World} (h : Below B w.drew w1) : Below B w w1 := ⟨h.os, h.tape, h.output, h.size, h.block⟩
theorem below_drewN {B : Nat} {a w : World} (h : Below B a w) (n : Nat) : Below B a (w.drewN n) := ⟨h.os, h.tape, h.output, h.size, h.block⟩

/-- The slice value v reads in w as the integers xs, in a block below B. -/
def Ints (B : Nat) (w : World) (v : Value) (xs : List Int) : Prop :=
  (xs = [] ∧ ∃ A cap, v = .slice A 0 cap) ∨
  ∃ b off cap, v = .slice (some ⟨b, off, none⟩) xs.length cap ∧ b < B ∧ ∀ k, k < xs.length → w.cell? ⟨b, off + k, none⟩ = some (.int .i64 (xs.getD k 0))

section
variable {B B' : Nat} {w w' : World} {v : Value} {xs : List Int}
theorem Ints.len (h : Ints B w v xs) : ∃ A cap, v = .slice A xs.length cap := by
  rcases h with ⟨rfl, A, cap, rfl⟩ | ⟨b, off, cap, rfl, _⟩
  · exact ⟨_, _, rfl⟩
  · exact ⟨_, _, rfl⟩
theorem Ints.row (h : Ints B w v xs) (hn : 0 < xs.length) : ∃ b off cap, v = .slice (some ⟨b, off, none⟩) xs.length cap ∧ b < B ∧ ∀ k, k < xs.length → w.cell? ⟨b, off + k, none⟩ = some (.int .i64 (xs.getD k 0)) := by
  rcases h with ⟨rfl, _⟩ | h
  · simp at hn
  · exact h
theorem Ints.keep (h : Ints B w v xs) (hk : ∀ p : Addr, p.block < B → w'.cell? p = w.cell? p) : Ints B w' v xs := by
  rcases h with h | ⟨b, off, cap, e, hb, hc⟩
  · exact .inl h
  · exact .inr ⟨b, off, cap, e, hb, fun k hk' => (hk _ hb).trans (hc k hk')⟩
theorem Ints.more (h : Ints B w v xs) (hB : B ≤ B') : Ints B' w v xs := by
  rcases h with h | ⟨b, off, cap, e, hb, hc⟩
  · exact .inl h
  · exact .inr ⟨b, off, cap, e, by omega, hc⟩
theorem Ints.below (h : Ints B w v xs) (hb : Below B w w') : Ints B w' v xs := h.keep fun _ hp => hb.cell hp
theorem Ints.alloc (h : Ints B w v xs) (hB : B ≤ w.heap.size) (o : Obj) : Ints B (w.alloc o) v xs := h.keep fun p hp => World.cell?_alloc_lt w o p (by omega)
theorem Ints.drew (h : Ints B w v xs) : Ints B w.drew v xs := h
theorem Ints.drewN (h : Ints B w v xs) (k : Nat) : Ints B (w.drewN k) v xs := h
theorem Ints.setCell (h : Ints B w v xs) {p : Addr} (hB : B ≤ p.block) (u : Value) : Ints B (w.setCell p u) v xs :=
  h.keep fun q hq => World.cell?_setCell_other w p q u (fun e => by subst e; omega)
end

/-- Block b holds the integers xs, not frozen; behind them spare cells. -/
def Row (w : World) (b : Nat) (xs : List Int) : Prop := ∃ sp : List Value, w.heap[b]? = some (.cells (xs.map (Value.int .i64) ++ sp).toArray 3 (0, 0))

section
variable {w w' : World} {b : Nat} {xs : List Int}
theorem Row.lt (h : Row w b xs) : b < w.heap.size := by
  obtain ⟨sp, h⟩ := h
  exact (Array.getElem?_eq_some_iff.1 h).1
theorem Row.cell (h : Row w b xs) {k : Nat} (hk : k < xs.length) : w.cell? ⟨b, k, none⟩ = some (.int .i64 (xs.getD k 0)) := by
  obtain ⟨sp, h⟩ := h
  simp [World.cell?, h, List.getElem?_append, hk]
theorem Row.frozen (h : Row w b xs) (k : Nat) : w.frozen? ⟨b, k, none⟩ = false := by
  obtain ⟨sp, h⟩ := h
  simp [World.frozen?, h]
theorem Row.ints (h : Row w b xs) {B : Nat} (hB : b < B) (cap : Nat) : Ints B w (.slice (some ⟨b, 0, none⟩) xs.length cap) xs :=
  .inr ⟨b, 0, cap, rfl, hB, fun k hk => by rw [Nat.zero_add]; exact h.cell hk⟩
theorem Row.of_block (h : Row w b xs) (hb : w'.heap[b]? = w.heap[b]?) : Row w' b xs := by
  obtain ⟨sp, h⟩ := h
  exact ⟨sp, hb.trans h⟩
theorem Row.alloc (h : Row w b xs) (o : Obj) : Row (w.alloc o) b xs := h.of_block (Below.heap_alloc w o b h.lt)
theorem Row.drew (h : Row w b xs) : Row w.drew b xs := h
theorem Row.drewN (h : Row w b xs) (k : Nat) : Row (w.drewN k) b xs := h
theorem Row.far (h : Row w b xs) {p : Addr} (hp : b ≠ p.block) (u : Value) : Row (w.setCell p u) b xs := h.of_block (Below.heap_setCell w p u b hp)
theorem Row.below {B : Nat} (h : Row w b xs) (hb : Below B w w') (hB : b < B) : Row w' b xs := h.of_block (hb.block b hB)
theorem Row.grown {row : Option Nat} (h : Row w b xs) (hb : w.grownBy w' row) (hg : some b ≠ row) : Row w' b xs := h.of_block (hb.block b h.lt hg)
theorem Row.set (h : Row w b xs) {k : Nat} (hk : k < xs.length) (z : Int) : Row (w.setCell ⟨b, k, none⟩ (.int .i64 z)) b (xs.set k z) := by
  obtain ⟨sp, h⟩ := h
  refine ⟨sp, ?_⟩
  simp only [World.setCell, Array.getElem?_modify, if_true, h, Option.map_some]
  simp [hk, List.map_set]
end

/-- Only block b, and what is new, has turned. -/
theorem only_alloc {a w : World} {row : Option Nat} (h : a.grownBy w row) (o : Obj) : a.grownBy (w.alloc o) row :=
  ⟨h.os, h.tape, h.output, Nat.le_trans h.size (by simp), fun i hi hne => (Below.heap_alloc w o i (Nat.lt_of_lt_of_le hi h.size)).trans (h.block i hi hne)⟩
theorem only_drew {a w : World} {row : Option Nat} (h : a.grownBy w row) : a.grownBy w.drew row := ⟨h.os, h.tape, h.output, h.size, h.block⟩
theorem only_drewN {a w : World} {row : Option Nat} (h : a.grownBy w row) (n : Nat) : a.grownBy (w.drewN n) row := ⟨h.os, h.tape, h.output, h.size, h.block⟩
theorem only_setCell {a w : World} {g : Nat} (h : a.grownBy w (some g)) {p : Addr} (hp : p.block = g ∨ a.heap.size ≤ p.block) (u : Value) : a.grownBy (w.setCell p u) (some g) :=
  ⟨h.os, h.tape, h.output, by simpa [World.setCell] using h.size, fun i hi hne => (Below.heap_setCell w p u i (by
    rintro rfl
    rcases hp with hp | hp
    · exact hne (by rw [hp])
    · omega)).trans (h.block i hi hne)⟩
theorem only_of_below {a w : World} (h : Below a.heap.size a w) (row : Option Nat) : a.grownBy w row := ⟨h.os, h.tape, h.output, h.size, fun i hi _ => h.block i hi⟩
theorem only_trans {a b c : World} {row : Option Nat} (h : a.grownBy b row) (k : b.grownBy c row) : a.grownBy c row :=
  ⟨k.os.trans h.os, k.tape.trans h.tape, k.output.trans h.output, Nat.le_trans h.size k.size, fun i hi hne => (k.block i (Nat.lt_of_lt_of_le hi h.size) hne).trans (h.block i hi hne)⟩

/-! ### Regions that draw their order, with calls that make memory -/
theorem Calls.rg {P : Program} {f : FuncId} {args : Array Value} {w : World} {d : Nat} {os : Array Obj} {v : Value}
    (h : Calls P f args (Go.Sort.grow (redrawn w d) os) fun e w' => e = .returned v ∧ Below (Go.Sort.grow (redrawn w d) os).heap.size (Go.Sort.grow (redrawn w d) os) w') : Calls P f args (Go.Sort.grow (redrawn w d) os) fun e w'' => e = .returned v ∧ ∃ p : Regrown, w'' = Go.Sort.grow (redrawn w p.d) p.os := Calls.regrown_of h
theorem Calls.rgs {P : Program} {f : FuncId} {args : Array Value} {w : World} {d : Nat} {os : Array Obj} {v : Value}
    (h : Calls P f args (Go.Sort.grow (redrawn w d) os) fun e w' => e = .returned v ∧ Go.Sort.grow (redrawn w d) os = w') : Calls P f args (Go.Sort.grow (redrawn w d) os) fun e w'' => e = .returned v ∧ ∃ p : Regrown, w'' = Go.Sort.grow (redrawn w p.d) p.os :=
  Calls.regrown_of (h.mono fun _ _ ⟨he, hw⟩ => ⟨he, hw ▸ Below.refl _ _⟩)
theorem Ints.rg {B : Nat} {w : World} {v : Value} {xs : List Int} (h : Ints B w v xs) (hB : B ≤ w.heap.size) (d : Nat) (os : Array Obj) : Ints B (Go.Sort.grow (redrawn w d) os) v xs := h.below ((below_regrown w d os).mono hB)
theorem rg_size (w : World) (d : Nat) (os : Array Obj) : w.heap.size ≤ (Go.Sort.grow (redrawn w d) os).heap.size := (below_regrown w d os).size

/-- A box of two cells: a struct of two fields that a function keeps. -/
def Box2 (w : World) (b : Nat) (x y : Value) : Prop := b < w.heap.size ∧ w.cell? ⟨b, 0, none⟩ = some x ∧ w.cell? ⟨b, 1, none⟩ = some y
section
variable {w w' : World} {b B : Nat} {x y : Value}
theorem Box2.new (w : World) (x y : Value) (T : TypeId) : Box2 (w.alloc (.cells #[x, y] T)) w.heap.size x y := ⟨by simp, by simp, by simp⟩
theorem Box2.below (h : Box2 w b x y) (hb : Below B w w') (hB : b < B) : Box2 w' b x y :=
  ⟨Nat.lt_of_lt_of_le h.1 hb.size, (hb.cell (p := ⟨b, 0, none⟩) hB).trans h.2.1, (hb.cell (p := ⟨b, 1, none⟩) hB).trans h.2.2⟩
end
end Go.Proofs.YtbpjceffkchmbaaDoor
