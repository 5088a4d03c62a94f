/- Words for what a call keeps, used by the walks of the laws. No condition. -/
import Derived.Test.YtbpjceffkchmbaaDoorMPS
namespace Go.Proofs.YtbpjceffkchmbaaDoor
open Go.RowKit
theorem bel_only {a w w' : World} {g : Nat} (h : Below a.heap.size a w) (hg : w.grownBy w' (some g)) (hl : a.heap.size ≤ g) : Below a.heap.size a w' :=
  h.grown hg h.size (fun k e => by cases e; exact hl)
theorem code_below {w w' : World} {A : Option Addr} {len : Nat} (hb : Below w.heap.size w w') (h : Code8 w w.heap.size A len) : Code8 w' w'.heap.size A len := by
  rcases h with h | ⟨b, off, e, hbl, z, hz⟩
  · exact .inl h
  · exact .inr ⟨b, off, e, Nat.lt_of_lt_of_le hbl hb.size, z, fun i hi => ⟨cellB hb (hz i hi).1, (hz i hi).2⟩⟩
theorem cellZ_nat (ns : List Nat) (i j : Nat) : cellZ ns (i : Int) (j : Int) = cell ns i j := by simp [cellZ]
/-- An argument that reads as a list, in a block below B. -/
structure Arg (B : Nat) (w : World) (v : Value) (xs : List Int) : Prop where
  at_ : Ints B w v xs
  le : B ≤ w.heap.size
theorem Arg.new {w : World} {v : Value} {xs : List Int} (h : Ints w.heap.size w v xs) : Arg w.heap.size w v xs := ⟨h, Nat.le_refl _⟩
theorem Arg.below {B : Nat} {w w' : World} {v : Value} {xs : List Int} (h : Arg B w v xs) (hb : Below w.heap.size w w') : Arg B w' v xs :=
  ⟨h.at_.keep fun _ hp => hb.cell (Nat.lt_of_lt_of_le hp h.le), Nat.le_trans h.le hb.size⟩
theorem Arg.only {B g : Nat} {w w' : World} {v : Value} {xs : List Int} (h : Arg B w v xs) (hg : w.grownBy w' (some g)) (hB : B ≤ g) : Arg B w' v xs :=
  ⟨h.at_.keep fun p hp => by
    have hb := hg.block p.block (Nat.lt_of_lt_of_le hp h.le) (fun e => by cases e; omega)
    unfold World.cell?
    rw [hb], Nat.le_trans h.le hg.size⟩
theorem Arg.ints {B : Nat} {w : World} {v : Value} {xs : List Int} (h : Arg B w v xs) : Ints w.heap.size w v xs := h.at_.more h.le
theorem Row.intsH {w : World} {g h c : Nat} {os : List Nat} (hr : Row w g (casts os)) (hl : os.length = h) : Ints w.heap.size w (.slice (some ⟨g, 0, none⟩) h c) (casts os) := by
  have := hr.ints hr.lt c
  rw [length_casts, hl] at this
  exact this
/-- Only the blocks a and b, and what is new, have turned. -/
structure Only2 (w w' : World) (a b : Nat) : Prop where
  os : w'.os = w.os
  tape : w'.tape = w.tape
  output : w'.output = w.output
  size : w.heap.size ≤ w'.heap.size
  block : ∀ k, k < w.heap.size → k ≠ a → k ≠ b → w'.heap[k]? = w.heap[k]?
theorem Only2.refl (w : World) (a b : Nat) : Only2 w w a b := ⟨rfl, rfl, rfl, Nat.le_refl _, fun _ _ _ _ => rfl⟩
theorem Only2.trans {u v w : World} {a b : Nat} (h : Only2 u v a b) (k : Only2 v w a b) : Only2 u w a b :=
  ⟨k.os.trans h.os, k.tape.trans h.tape, k.output.trans h.output, Nat.le_trans h.size k.size, fun i hi ha hb => (k.block i (Nat.lt_of_lt_of_le hi h.size) ha hb).trans (h.block i hi ha hb)⟩
theorem Only2.of_below {w w' : World} {a b : Nat} (h : Below w.heap.size w w') : Only2 w w' a b := ⟨h.os, h.tape, h.output, h.size, fun i hi _ _ => h.block i hi⟩
theorem Only2.of_a {w w' : World} {a b : Nat} (h : w.grownBy w' (some a)) : Only2 w w' a b := ⟨h.os, h.tape, h.output, h.size, fun i hi ha _ => h.block i hi (fun e => by cases e; exact ha rfl)⟩
theorem Only2.of_b {w w' : World} {a b : Nat} (h : w.grownBy w' (some b)) : Only2 w w' a b := ⟨h.os, h.tape, h.output, h.size, fun i hi _ hb => h.block i hi (fun e => by cases e; exact hb rfl)⟩
section
variable {w w' : World} {a b : Nat}
theorem cell_only2 (ho : Only2 w w' a b) {p : Addr} {v : Value} (h : w.cell? p = some v) (ha : p.block ≠ a) (hb : p.block ≠ b) : w'.cell? p = some v := by
  rw [← h]
  unfold World.cell?
  rw [ho.block p.block (lt_of_cell h) ha hb]
theorem frozen_only2 (ho : Only2 w w' a b) {p : Addr} {v : Value} (h : w.cell? p = some v) (ha : p.block ≠ a) (hb : p.block ≠ b) {x : Bool} (hf : w.frozen? p = x) : w'.frozen? p = x := by
  rw [← hf]
  unfold World.frozen?
  rw [ho.block p.block (lt_of_cell h) ha hb]
theorem Row.only2 {g : Nat} {xs : List Int} (h : Row w g xs) (ho : Only2 w w' a b) (ha : g ≠ a) (hb : g ≠ b) : Row w' g xs := h.of_block (ho.block g h.lt ha hb)
theorem Arg.only2 {B : Nat} {v : Value} {xs : List Int} (h : Arg B w v xs) (ho : Only2 w w' a b) (ha : B ≤ a) (hb : B ≤ b) : Arg B w' v xs :=
  ⟨h.at_.keep fun p hp => by
    unfold World.cell?
    rw [ho.block p.block (Nat.lt_of_lt_of_le hp h.le) (by omega) (by omega)], Nat.le_trans h.le ho.size⟩
theorem bel_only2 {u : World} (h : Below u.heap.size u w) (ho : Only2 w w' a b) (ha : u.heap.size ≤ a) (hb : u.heap.size ≤ b) : Below u.heap.size u w' :=
  ⟨ho.os.trans h.os, ho.tape.trans h.tape, ho.output.trans h.output, Nat.le_trans h.size ho.size, fun i hi => (ho.block i (Nat.lt_of_lt_of_le hi h.size) (by omega) (by omega)).trans (h.block i hi)⟩
end
theorem l1Put_h (W : Int) (b cap h : Nat) (ns : List Nat) (hl : ns.length = h) (i j : Nat) (hi : i < h) (hj : j < 6) (hr : ns.getD i 0 < 64) (s : Bool) (w : World) (hR : Row w b (casts ns)) :
    Calls Tryd.prog 38 #[.agg #[.int .i64 W, .slice (some ⟨b, 0, none⟩) h cap], .int .i64 i, .int .i64 j, .bool s] w fun e w' => e = .returned (.tuple #[]) ∧ Row w' b (casts (putL ns i j s)) ∧ w.grownBy w' (some b) := by
  subst hl
  exact l1Put_c W b cap ns i j hi hj hr s w hR
end Go.Proofs.YtbpjceffkchmbaaDoor
