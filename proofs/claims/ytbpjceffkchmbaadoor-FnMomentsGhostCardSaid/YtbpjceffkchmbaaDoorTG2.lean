/- Contract of TableAdd. Conditions: valid tables of at most eight rows and columns, the factor 1 or -1, the second one lies within the first. -/
import Derived.Test.YtbpjceffkchmbaaDoorTG1
import Derived.Test.YtbpjceffkchmbaaDoorK5
namespace Go.Proofs.YtbpjceffkchmbaaDoor
open Go.RowKit
/-- A table of one's own and true (ex: of no spare place), or a value and false. -/
def TadOut (w : World) (ex b : Bool) (h n : Nat) (T : List (List Int)) (w' : World) (e : Ending) : Prop :=
  (b = true ∧ ∃ gT cp gs, e = .returned (.tuple #[.slice (some ⟨gT, 0, none⟩) h cp, .bool true]) ∧ Tbl w' gT h n gs T ∧ w.heap.size ≤ gT ∧ (∀ i, i < h → w.heap.size ≤ gs.getD i 0) ∧ (h ≤ cp ∧ (ex = true → cp = h)) ∧ Below w.heap.size w w') ∨ (b = false ∧ (∃ v, e = .returned (.tuple #[v, .bool false])) ∧ Below w.heap.size w w')
theorem Tbl.drew {w : World} {gT h n : Nat} {gs : List Nat} {T : List (List Int)} (t : Tbl w gT h n gs T) : Tbl w.drew gT h n gs T := t.of_blocks rfl fun _ _ => rfl
theorem Tbl.rg {w : World} {gT h n : Nat} {gs : List Nat} {T : List (List Int)} (t : Tbl w gT h n gs T) (d : Nat) (os : Array Obj) : Tbl (Go.Sort.grow (redrawn w d) os) gT h n gs T := t.below (below_regrown w d os)
theorem tv_bd {h n : Nat} {T : List (List Int)} (ht : tvB h n T = true) : ∀ a b, a < h → b < n → -999 ≤ ent T a b ∧ ent T a b ≤ 999 := fun _ _ ha hb => tvB_at ht ha hb
set_option maxRecDepth 100000 in
set_option maxHeartbeats 4000000 in
theorem TableAdd_c (gA gB h n h2 n2 i j : Nat) (c : Int) (gsA gsB : List Nat) (A B : List (List Int)) (h1 : 1 ≤ h) (h8 : h ≤ 8) (n1 : 1 ≤ n) (n8 : n ≤ 8) (h21 : 1 ≤ h2) (n21 : 1 ≤ n2) (hih : i + h2 ≤ h) (hjn : j + n2 ≤ n) (hc : c = 1 ∨ c = -1) (hA : tvB h n A = true) (hB : tvB h2 n2 B = true) (w : World) (tA : Tbl w gA h n gsA A) (tB : Tbl w gB h2 n2 gsB B) :
    Calls Tryd.prog 40 #[.slice (some ⟨gA, 0, none⟩) h h, .slice (some ⟨gB, 0, none⟩) h2 h2, .int .i64 c, .int .i64 (i : Int), .int .i64 (j : Int)] w fun e w' => TadOut w true (tvB h n (addT A B c i j h n h2 n2)) h n (addT A B c i j h n h2 n2) w' e := by
  have hcA := tA.cell (i := 0) (by omega)
  have hcB := tB.cell (i := 0) (by omega)
  have HVA := fun (d : Nat) (os : Array Obj) => TableValid_c gA h n gsA A h1 h8 n1 n8 _ (tA.rg d os)
  have HVB := fun (d : Nat) (os : Array Obj) => TableValid_c gB h2 n2 gsB B h21 (by omega) n21 (by omega) _ (tB.rg d os)
  simp only [hA] at HVA
  simp only [hB] at HVB
  have HAD := fun (W : World) (hb : Below w.heap.size w W) => added_c gA gB h n h2 n2 i j c gsA gsB A B h1 h8 n8 hih hjn (by omega) (tv_bd hA) (tv_bd hB) W (tA.below hb) (tB.below hb)
  obtain ⟨T, eT⟩ : ∃ T, T = addT A B c i j h n h2 n2 := ⟨_, rfl⟩
  simp only [← eT] at HAD
  rw [← eT]
  obtain ⟨ga, ega⟩ : ∃ g, g = gsA.getD 0 0 := ⟨_, rfl⟩
  obtain ⟨gb, egb⟩ : ∃ g, g = gsB.getD 0 0 := ⟨_, rfl⟩
  rw [← ega] at hcA
  rw [← egb] at hcB
  unfold rowV at hcA hcB
  obtain ⟨D, eD⟩ : ∃ D : Nat, D = h - h2 := ⟨_, rfl⟩
  obtain ⟨E, eE⟩ : ∃ D : Nat, D = n - n2 := ⟨_, rfl⟩
  have ed : (h : Int) - (h2 : Int) = (D : Int) := by omega
  have ee : (n : Int) - (n2 : Int) = (E : Int) := by omega
  have g1 : ¬ D < i := by omega
  have g2 : ¬ E < j := by omega
  have g3 : ¬ (D : Int) < (i : Int) := by omega
  have g4 : ¬ (E : Int) < (j : Int) := by omega
  have hi0 : decide ((i : Int) < 0) = false := decide_eq_false (by omega)
  have hj0 : decide ((j : Int) < 0) = false := decide_eq_false (by omega)
  have ew1 : IntKind.i64.wrap (D : Int) = (D : Int) := IntWalk.i64_in _ ⟨by omega, by omega⟩
  have ew2 : IntKind.i64.wrap (E : Int) = (E : Int) := IntWalk.i64_in _ ⟨by omega, by omega⟩
  clear tA tB hA hB ega egb eT eD eE hih hjn
  rcases hc with rfl | rfl
  all_goals
    go_enter Tryd.func40, Tryd.ntmps40
    go_wp2_with fail
    have k1 := cell_regrown hcA
    have k2 := cell_regrown hcB
    refine wp_region_quiet_below (by kernel_rfl) (by kernel_rfl) ?_
    repeat (first | go_big_quiet_step ((go_at_call 61; first | with_reducible exact Calls.rgs (HVA _ _) | with_reducible exact Calls.rgs (HVB _ _))) | quiet_step ((go_at_call 61; first | with_reducible exact Calls.rgs (HVA _ _) | with_reducible exact Calls.rgs (HVB _ _))))
    refine wpQuiet_nil ?_
    intro _ hw0
    obtain ⟨⟨dq, osq⟩, hw1⟩ := hw0
    subst hw1
    have hq := below_regrown w dq osq
    generalize Go.Sort.grow (redrawn w dq) osq = w1 at hq ⊢
    clear HVA HVB k1 k2
    go_wp2_with fail
    refine (HAD w1 hq).mono ?_
    rintro e w3 ⟨gT, gs, rfl, hT, hgT, hgs, hb'⟩
    have hb := hq.trans (hb'.mono hq.size)
    have hsz := hq.size
    have HV := TableValid_c gT h n gs T h1 h8 n1 n8 w3 hT
    have HX := Lib.hid (And.intro hT (And.intro (show w.heap.size ≤ gT by omega) (And.intro (show ∀ i, i < h → w.heap.size ≤ gs.getD i 0 from fun i hi => Nat.le_trans hsz (hgs i hi)) hb)))
    clear HAD hT hgT hgs hb' hb hq hsz
    cases hv : tvB h n T with
    | false =>
      rw [hv] at HV
      have HVV := Lib.hid hv
      clear hv
      go_wp2_with fail
      refine HV.mono ?_
      rintro e w4 ⟨rfl, rfl⟩
      go_wp2
      go_returns
      exact .inr ⟨HVV.out, ⟨_, rfl⟩, HX.out.2.2.2⟩
    | true =>
      rw [hv] at HV
      have HVV := Lib.hid hv
      clear hv
      go_wp2_with fail
      refine HV.mono ?_
      rintro e w4 ⟨rfl, rfl⟩
      go_wp2
      go_returns
      exact .inl ⟨HVV.out, gT, h, gs, rfl, HX.out.1, HX.out.2.1, HX.out.2.2.1, ⟨Nat.le_refl _, fun _ => rfl⟩, HX.out.2.2.2⟩
end Go.Proofs.YtbpjceffkchmbaaDoor
