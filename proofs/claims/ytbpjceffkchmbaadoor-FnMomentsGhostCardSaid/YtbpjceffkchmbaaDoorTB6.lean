/- Plain laws: the sums of the lines tell the moments of the lines. No condition beyond those that the theorems name. -/
import Derived.Test.YtbpjceffkchmbaaDoorTB5
namespace Go.Proofs.YtbpjceffkchmbaaDoor
theorem mulB {a b : Int} {c e : Nat} (h1 : -(c : Int) ≤ a) (h2 : a ≤ c) (h3 : -(e : Int) ≤ b) (h4 : b ≤ e) : -((c * e : Nat) : Int) ≤ a * b ∧ a * b ≤ ((c * e : Nat) : Int) := by
  have k1 : a.natAbs ≤ c := by omega
  have k2 : b.natAbs ≤ e := by omega
  have k3 : (a * b).natAbs ≤ c * e := by rw [Int.natAbs_mul]; exact Nat.mul_le_mul k1 k2
  omega
theorem dirO_len (d n : Nat) (ns : List Nat) : (dirO d n ns).length = lnN d ns.length n := lnS_len ..
theorem dirO_at {d n q : Nat} {ns : List Nat} (hq : q < lnN d ns.length n) : (dirO d n ns).getD q 0 = sumN ns.length fun i => sumN n fun j => if lnO d i j - lnLo d ns.length n = (q : Int) then b2i (cell ns i j) else 0 := by
  unfold dirO
  rw [lnS_at hq]
  unfold lnP
  simp only [sumN, Int.add_zero]
  exact sumN_congr fun i hi => sumN_congr fun j hj => by unfold lnI; rw [ent_tabF hi hj]; rfl
theorem dirO_bd {d n q : Nat} {ns : List Nat} (hV : VImg n ns) (hq : q < lnN d ns.length n) : 0 ≤ (dirO d n ns).getD q 0 ∧ (dirO d n ns).getD q 0 ≤ 36 := by
  rw [dirO_at hq]
  have h6 := hV.h6
  have w6 := hV.w6
  have r1 : ∀ i, i < ns.length → 0 ≤ (sumN n fun j => if lnO d i j - lnLo d ns.length n = (q : Int) then b2i (cell ns i j) else 0) ∧ (sumN n fun j => if lnO d i j - lnLo d ns.length n = (q : Int) then b2i (cell ns i j) else 0) ≤ 6 := fun i _ => by
    have := sumN_bd (n := n) (f := fun j => if lnO d i j - lnLo d ns.length n = (q : Int) then b2i (cell ns i j) else 0) (c := 1) fun j _ => by
      have := b2i_bd (cell ns i j)
      split <;> omega
    omega
  have r2 := sumN_bd (n := ns.length) (f := fun i => sumN n fun j => if lnO d i j - lnLo d ns.length n = (q : Int) then b2i (cell ns i j) else 0) (c := 6) r1
  omega
/-- The term of a line. -/
def lnT (d n : Nat) (ns : List Nat) (q : Nat) : Int := (dirO d n ns).getD q 0 * (lnLo d ns.length n + q) * (lnLo d ns.length n + q)
theorem lines_mom {d n : Nat} {ns : List Nat} (hd : d < 8) (hV : VImg n ns) : sumN (lnN d ns.length n) (lnT d n ns) = mom n ns (sqL d) := by
  have h6 := hV.h6
  have w6 := hV.w6
  have e1 : sumN (lnN d ns.length n) (lnT d n ns) = sumN (lnN d ns.length n) fun q => sumN ns.length fun i => sumN n fun j => if lnO d i j - lnLo d ns.length n = (q : Int) then sqL d i j * b2i (cell ns i j) else 0 := sumN_congr fun q hq => by
    unfold lnT
    rw [dirO_at hq, Int.mul_assoc, Int.mul_comm, ← sumN_mul]
    refine sumN_congr fun i _ => ?_
    rw [← sumN_mul]
    refine sumN_congr fun j _ => ?_
    split
    · rename_i e
      unfold sqL
      rw [show lnLo d ns.length n + (q : Int) = lnO d i j by omega]
    · simp
  rw [e1, sumN_swap]
  unfold mom
  refine sumN_congr fun i hi => ?_
  rw [sumN_swap]
  refine sumN_congr fun j hj => ?_
  obtain ⟨p, hp1, hp2⟩ := lnP_in (d := d) (i := i) (j := j) hd (show ns.length ≤ 8 by omega) (show n ≤ 8 by omega) hi hj
  have e2 : (sumN (lnN d ns.length n) fun q => if lnO d i j - lnLo d ns.length n = (q : Int) then sqL d i j * b2i (cell ns i j) else 0) = sumN (lnN d ns.length n) fun q => if q = p then sqL d i j * b2i (cell ns i j) else 0 := sumN_congr fun q _ => by
    by_cases e : q = p
    · subst e; rw [if_pos hp1, if_pos rfl]
    · rw [if_neg (by omega), if_neg e]
  rw [e2]
  exact sumN_point (fun _ => sqL d i j * b2i (cell ns i j)) hp2
theorem lnT_bd {d n q : Nat} {ns : List Nat} (hd : d < 8) (hV : VImg n ns) (hq : q < lnN d ns.length n) : (0 ≤ (dirO d n ns).getD q 0 ∧ (dirO d n ns).getD q 0 ≤ 36) ∧ (-400 ≤ lnLo d ns.length n + q ∧ lnLo d ns.length n + q ≤ 400) ∧ (-14400 ≤ (dirO d n ns).getD q 0 * (lnLo d ns.length n + q) ∧ (dirO d n ns).getD q 0 * (lnLo d ns.length n + q) ≤ 14400) ∧ -5760000 ≤ lnT d n ns q ∧ lnT d n ns q ≤ 5760000 := by
  have h6 := hV.h6
  have w6 := hV.w6
  have h1 := dirO_bd (d := d) hV hq
  have h2 := line_bd (d := d) (h := ns.length) (n := n) hd (by omega) (by omega)
  have h3 := (lnN_eq (d := d) (h := ns.length) (n := n) hd (by omega) (by omega)).2
  have u : -((400 : Nat) : Int) ≤ lnLo d ns.length n + q ∧ lnLo d ns.length n + q ≤ ((400 : Nat) : Int) := by omega
  have v := mulB (a := (dirO d n ns).getD q 0) (b := lnLo d ns.length n + q) (c := 36) (e := 400) (by omega) (by omega) u.1 u.2
  have t := mulB (a := (dirO d n ns).getD q 0 * (lnLo d ns.length n + q)) (b := lnLo d ns.length n + q) (c := 14400) (e := 400) (by omega) (by omega) u.1 u.2
  unfold lnT
  refine ⟨h1, by omega, by omega, by omega⟩
theorem lnT_sum {d n : Nat} {ns : List Nat} (hd : d < 8) (hV : VImg n ns) : ∀ k, k ≤ lnN d ns.length n → -5760000 * (k : Int) ≤ sumN k (lnT d n ns) ∧ sumN k (lnT d n ns) ≤ 5760000 * (k : Int)
  | 0, _ => by simp [sumN]
  | k + 1, hk => by
    have ih := lnT_sum hd hV k (by omega)
    have := (lnT_bd hd hV (show k < lnN d ns.length n by omega)).2.2.2
    simp only [sumN]
    omega
end Go.Proofs.YtbpjceffkchmbaaDoor
