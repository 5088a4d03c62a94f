/- Plain law, no program in it: what a search over neighbors comes to. Conditions: those that each theorem names. -/
import Derived.Test.YtldmilpohappiaaParts
namespace Go.Proofs.Ytldmilpohappiaa.Gr

/-- A list of h rows of w cells. -/
def Sized (h w : Nat) (ns : List Nat) : Prop := ns.length = h ∧ ∀ n ∈ ns, n < 2 ^ w
theorem sized_img {w : Nat} {ns : List Nat} (h : VImg w ns) : Sized ns.length w ns := ⟨rfl, h.hi⟩
theorem sized_mk {h w : Nat} {p : Nat → Nat → Bool} : Sized h w (mkI h w p) := ⟨length_mk _ _ _, mk_lt⟩
theorem Sized.cell_in {h w : Nat} {ns : List Nat} (hs : Sized h w ns) {i j : Nat} (hc : cell ns i j = true) : i < h ∧ j < w := by
  obtain ⟨hl, hlt⟩ := hs
  unfold cell at hc
  have hi : i < ns.length := by
    refine Classical.byContradiction fun hn => ?_
    rw [List.getD_eq_getElem?_getD, List.getElem?_eq_none (by omega)] at hc
    simp at hc
  refine ⟨by omega, ?_⟩
  refine Classical.byContradiction fun hn => ?_
  have : ns.getD i 0 < 2 ^ w := by
    rw [List.getD_eq_getElem?_getD, List.getElem?_eq_getElem hi]
    exact hlt _ (List.getElem_mem hi)
  rw [Nat.testBit_lt_two_pow (Nat.lt_of_lt_of_le this (Nat.pow_le_pow_right (by omega) (by omega)))] at hc
  cases hc
theorem Sized.inside {h w : Nat} {ns : List Nat} (hs : Sized h w ns) : Inside h w (cell ns) := fun _ _ hc => hs.cell_in hc
theorem Sized.ext {h w : Nat} {ns ms : List Nat} (hn : Sized h w ns) (hm : Sized h w ms) (he : ∀ i j, i < h → j < w → cell ns i j = cell ms i j) : ns = ms :=
  img_ext (hn.1.trans hm.1.symm) hn.2 hm.2 (by rw [hn.1]; exact he)
theorem Sized.put {h w : Nat} {ns : List Nat} (hs : Sized h w ns) {i j : Nat} (hi : i < h) (hj : j < w) (s : Bool) : Sized h w (putL ns i j s) :=
  ⟨by rw [length_putL]; exact hs.1, putL_lt hs.2 (by rw [hs.1]; exact hi) hj s⟩
theorem Sized.vimg {h w : Nat} {ns : List Nat} (hs : Sized h w ns) (h1 : 1 ≤ h) (h6 : h ≤ 6) (w1 : 1 ≤ w) (w6 : w ≤ 6) : VImg w ns := ⟨w1, w6, by rw [hs.1]; exact h1, by rw [hs.1]; exact h6, hs.2⟩
def setN (h w : Nat) (ns : List Nat) : Nat := ((cellsL h w).filter fun c => cell ns c.1 c.2).length
theorem filter_lt {α : Type} (p q : α → Bool) : ∀ (l : List α), (∀ x ∈ l, p x = true → q x = true) → ∀ c ∈ l, p c = false → q c = true → (l.filter p).length < (l.filter q).length := by
  have le : ∀ (l : List α), (∀ x ∈ l, p x = true → q x = true) → (l.filter p).length ≤ (l.filter q).length := by
    intro l
    induction l with
    | nil => intro _; simp
    | cons a l ih =>
      intro hh
      have h1 := ih fun x hx => hh x (by simp [hx])
      have h2 := hh a (by simp)
      cases hp : p a with
      | false => cases hq : q a <;> simp [hp, hq] <;> omega
      | true => rw [hp] at h2; simp [hp, h2 rfl]; omega
  intro l
  induction l with
  | nil => intro _ c hc; simp at hc
  | cons a l ih =>
    intro hh c hc hp hq
    rcases List.mem_cons.1 hc with rfl | hc
    · have := le l fun x hx => hh x (by simp [hx])
      simp [hp, hq]
      omega
    · have h1 := ih (fun x hx => hh x (by simp [hx])) c hc hp hq
      have h2 := hh a (by simp)
      cases hp : p a with
      | false => cases hq : q a <;> simp [hp, hq] <;> omega
      | true => rw [hp] at h2; simp [hp, h2 rfl]; omega
theorem setN_lt {h w : Nat} {ns ms : List Nat} (hs : Sized h w ns) (hsub : ∀ k l, cell ms k l = true → cell ns k l = true) {i j : Nat} (h1 : cell ns i j = true) (h2 : cell ms i j = false) : setN h w ms < setN h w ns :=
  filter_lt _ _ _ (fun _ _ hx => hsub _ _ hx) (i, j) (mem_cellsL.2 (hs.cell_in h1)) h2 h1
theorem setN_le (h w : Nat) (ns : List Nat) : setN h w ns ≤ h * w := by
  unfold setN
  rw [← length_cellsL h w]
  exact List.length_filter_le _ _

/-! ### The search in depth -/
section
variable {near : Bool} {h w : Nat}
/-- The cells that a visit of (i, j) comes to. -/
def vis (near : Bool) (h w : Nat) (ls : List Nat) (i j : Int) (k l : Nat) : Bool := decide (0 ≤ i) && decide (0 ≤ j) && reachB (cell ls) near h w i.toNat j.toNat k l
/-- What is left behind a visit, and what has come into the group. -/
def visL (near : Bool) (h w : Nat) (ls : List Nat) (i j : Int) : List Nat := mkI h w fun k l => cell ls k l && !vis near h w ls i j k l
def visG (near : Bool) (h w : Nat) (ls gs : List Nat) (i j : Int) : List Nat := mkI h w fun k l => cell gs k l || vis near h w ls i j k l
theorem vis_iff {ls : List Nat} (hs : Sized h w ls) {i j : Int} {k l : Nat} : vis near h w ls i j k l = true ↔ cellZ ls i j = true ∧ Reach (cell ls) near i.toNat j.toNat k l := by
  simp only [vis, cellZ, Bool.and_eq_true, decide_eq_true_eq, reachB_iff hs.inside]
  constructor
  · rintro ⟨⟨a, b⟩, c, d⟩; exact ⟨⟨⟨a, b⟩, c⟩, d⟩
  · rintro ⟨⟨⟨a, b⟩, c⟩, d⟩; exact ⟨⟨a, b⟩, c, d⟩
theorem vis_mem {ls : List Nat} (hs : Sized h w ls) {i j : Int} {k l : Nat} (hv : vis near h w ls i j k l = true) : cell ls k l = true := by
  obtain ⟨hc, hr⟩ := (vis_iff hs).1 hv
  simp only [cellZ, Bool.and_eq_true] at hc
  exact hr.mem hc.2
theorem cell_visL {ls : List Nat} (hs : Sized h w ls) (i j : Int) (k l : Nat) : cell (visL near h w ls i j) k l = (cell ls k l && !vis near h w ls i j k l) := by
  unfold visL
  rw [cell_mk]
  cases hc : cell ls k l with
  | false => simp
  | true =>
    have := hs.cell_in hc
    simp [this.1, this.2]
theorem cell_visG {ls gs : List Nat} (hs : Sized h w ls) (hg : Sized h w gs) (i j : Int) (k l : Nat) : cell (visG near h w ls gs i j) k l = (cell gs k l || vis near h w ls i j k l) := by
  unfold visG
  rw [cell_mk]
  cases hc : (cell gs k l || vis near h w ls i j k l) with
  | false => simp
  | true =>
    have : k < h ∧ l < w := by
      rcases Bool.or_eq_true_iff.1 hc with h1 | h1
      · exact hg.cell_in h1
      · exact hs.cell_in (vis_mem hs h1)
    simp [this.1, this.2]
theorem vis_none {ls : List Nat} (hs : Sized h w ls) {i j : Int} (hc : cellZ ls i j = false) (k l : Nat) : vis near h w ls i j k l = false := by
  rw [← Bool.not_eq_true, vis_iff hs, hc]
  simp
theorem visL_none {ls : List Nat} (hs : Sized h w ls) {i j : Int} (hc : cellZ ls i j = false) : visL near h w ls i j = ls :=
  Sized.ext sized_mk hs fun k l _ _ => by
    have := cell_visL (near := near) hs i j k l
    rw [vis_none hs hc] at this
    simpa using this
theorem visG_none {ls gs : List Nat} (hs : Sized h w ls) (hg : Sized h w gs) {i j : Int} (hc : cellZ ls i j = false) : visG near h w ls gs i j = gs :=
  Sized.ext sized_mk hg fun k l _ _ => by
    have := cell_visG (near := near) hs hg i j k l
    rw [vis_none hs hc] at this
    simpa using this
/-- The offsets ahead of (di, dj). -/
def Ahead (near : Bool) (di dj a b : Int) : Prop := (near = true ∨ a = 0 ∨ b = 0) ∧ -1 ≤ a ∧ a ≤ 1 ∧ -1 ≤ b ∧ b ≤ 1 ∧ (a < di ∨ (a = di ∧ b < dj))
/-- In the midst of a visit of (i, j): the offsets of D are done. -/
structure DInv (near : Bool) (h w : Nat) (ls gs : List Nat) (i j : Nat) (D : Int → Int → Prop) (ls' gs' : List Nat) : Prop where
  vl : Sized h w ls'
  vg : Sized h w gs'
  sub : ∀ k l, cell ls' k l = true → cell ls k l = true
  here : cell ls' i j = false
  reached : ∀ k l, cell ls k l = true → cell ls' k l = false → Reach (cell ls) near i j k l
  closed : ∀ k l m n, cell ls k l = true → cell ls' k l = false → ¬ (k = i ∧ l = j) → cell ls m n = true → Adj near k l m n → cell ls' m n = false
  done : ∀ a b, D a b → cellZ ls' (i + a) (j + b) = false
  g : ∀ k l, cell gs' k l = (cell gs k l || (cell ls k l && !cell ls' k l))
theorem DInv.start {ls gs : List Nat} {i j : Nat} {D : Int → Int → Prop} (hs : Sized h w ls) (hg : Sized h w gs) (hc : cell ls i j = true) (hD : ∀ a b, ¬ D a b) : DInv near h w ls gs i j D (putL ls i j false) (putL gs i j true) := by
  obtain ⟨hi, hj⟩ := hs.cell_in hc
  have e : ∀ k l, cell (putL ls i j false) k l = if k = i ∧ l = j then false else cell ls k l := cell_putL (by rw [hs.1]; exact hi) j false
  have e2 : ∀ k l, cell (putL gs i j true) k l = if k = i ∧ l = j then true else cell gs k l := cell_putL (by rw [hg.1]; exact hi) j true
  refine ⟨hs.put hi hj _, hg.put hi hj _, fun k l hh => ?_, by rw [e, if_pos ⟨rfl, rfl⟩], fun k l h1 h2 => ?_, fun k l m n h1 h2 h3 _ _ => ?_, fun a b hh => (hD a b hh).elim, fun k l => ?_⟩
  · rw [e] at hh
    split at hh
    · cases hh
    · exact hh
  · rw [e] at h2
    split at h2
    · rename_i h3; obtain ⟨rfl, rfl⟩ := h3; exact .refl
    · rw [h1] at h2; cases h2
  · rw [e, if_neg h3, h1] at h2; cases h2
  · rw [e, e2]
    by_cases hh : k = i ∧ l = j
    · obtain ⟨rfl, rfl⟩ := hh
      simp [hc]
    · rw [if_neg hh, if_neg hh]
      cases cell ls k l <;> simp
theorem DInv.step {ls gs ls' gs' : List Nat} {i j : Nat} {D D' : Int → Int → Prop} (hv : DInv near h w ls gs i j D ls' gs') {a b : Int} (hn : near = true ∨ a = 0 ∨ b = 0) (ha : -1 ≤ a ∧ a ≤ 1) (hb : -1 ≤ b ∧ b ≤ 1)
    (hD : ∀ x y, D' x y → D x y ∨ (x = a ∧ y = b)) : DInv near h w ls gs i j D' (visL near h w ls' (i + a) (j + b)) (visG near h w ls' gs' (i + a) (j + b)) := by
  have eL := cell_visL (near := near) hv.vl (i + a) (j + b)
  have eG := cell_visG (near := near) hv.vl hv.vg (i + a) (j + b)
  refine ⟨sized_mk, sized_mk, fun k l hh => ?_, ?_, fun k l h1 h2 => ?_, fun k l m n h1 h2 h3 h4 h5 => ?_, fun x y hh => ?_, fun k l => ?_⟩
  · rw [eL, Bool.and_eq_true] at hh
    exact hv.sub k l hh.1
  · rw [eL, hv.here]; rfl
  · rw [eL] at h2
    cases h3 : cell ls' k l with
    | false => exact hv.reached k l h1 h3
    | true =>
      rw [h3, Bool.true_and, Bool.not_eq_false'] at h2
      obtain ⟨h4, h5⟩ := (vis_iff hv.vl).1 h2
      simp only [cellZ, Bool.and_eq_true, decide_eq_true_eq] at h4
      have h6 := h5.mono hv.sub
      have h7 : Adj near i j (i + a : Int).toNat (j + b : Int).toNat := by
        unfold Adj
        refine ⟨by omega, by omega, by omega, by omega, ?_⟩
        rcases hn with hn | hn | hn
        · exact .inl hn
        · exact .inr (.inl (by omega))
        · exact .inr (.inr (by omega))
      exact (Reach.step .refl h7 (hv.sub _ _ h4.2)).trans h6
  · rw [eL] at h2 ⊢
    cases h6 : cell ls' k l with
    | false => rw [hv.closed k l m n h1 h6 h3 h4 h5]; rfl
    | true =>
      rw [h6, Bool.true_and, Bool.not_eq_false'] at h2
      cases h7 : cell ls' m n with
      | false => rfl
      | true =>
        obtain ⟨h8, h9⟩ := (vis_iff hv.vl).1 h2
        rw [(vis_iff hv.vl).2 ⟨h8, h9.step h5 h7⟩]
        rfl
  · rw [← Bool.not_eq_true]
    intro hc
    simp only [cellZ, Bool.and_eq_true, decide_eq_true_eq, eL, Bool.not_eq_true'] at hc
    obtain ⟨⟨h1, h2⟩, h3, h4⟩ := hc
    rcases hD x y hh with h5 | ⟨rfl, rfl⟩
    · have := hv.done x y h5
      simp only [cellZ, h3, Bool.and_true, Bool.and_eq_false_iff, decide_eq_false_iff_not] at this
      omega
    · have : vis near h w ls' (i + x) (j + y) (i + x : Int).toNat (j + y : Int).toNat = true := (vis_iff hv.vl).2 ⟨by simp only [cellZ, h3, Bool.and_true, Bool.and_eq_true, decide_eq_true_eq]; exact ⟨h1, h2⟩, .refl⟩
      rw [this] at h4
      cases h4
  · rw [eG, eL, hv.g]
    cases hx : vis near h w ls' (i + a) (j + b) k l with
    | false => simp
    | true => simp [vis_mem hv.vl hx, hv.sub k l (vis_mem hv.vl hx)]
theorem DInv.pass {ls gs ls' gs' : List Nat} {i j : Nat} {D D' : Int → Int → Prop} (hv : DInv near h w ls gs i j D ls' gs') (hD : ∀ x y, D' x y → D x y) : DInv near h w ls gs i j D' ls' gs' :=
  ⟨hv.vl, hv.vg, hv.sub, hv.here, hv.reached, hv.closed, fun a b hh => hv.done a b (hD a b hh), hv.g⟩
theorem DInv.finish {ls gs ls' gs' : List Nat} {i j : Nat} {D : Int → Int → Prop} (hv : DInv near h w ls gs i j D ls' gs') (hs : Sized h w ls) (hg : Sized h w gs) (hc : cell ls i j = true)
    (hD : ∀ a b : Int, (near = true ∨ a = 0 ∨ b = 0) → -1 ≤ a → a ≤ 1 → -1 ≤ b → b ≤ 1 → D a b) : ls' = visL near h w ls i j ∧ gs' = visG near h w ls gs i j := by
  have all : ∀ k l, Reach (cell ls) near i j k l → cell ls' k l = false := by
    intro k l hr
    induction hr with
    | refl => exact hv.here
    | @step k l m n hr ha ht ih =>
      by_cases e : k = i ∧ l = j
      · obtain ⟨rfl, rfl⟩ := e
        obtain ⟨a1, a2, a3, a4, a5⟩ := ha
        have := hv.done ((m : Int) - k) ((n : Int) - l) (hD _ _ (by
          rcases a5 with h | h | h
          · exact .inl h
          · exact .inr (.inl (by omega))
          · exact .inr (.inr (by omega))) (by omega) (by omega) (by omega) (by omega))
        rw [show (k : Int) + (m - k) = (m : Int) by omega, show (l : Int) + (n - l) = (n : Int) by omega] at this
        simpa [cellZ] using this
      · exact hv.closed k l m n (hr.mem hc) ih e ht ha
  have hz : cellZ ls (i : Int) (j : Int) = true := by simp [cellZ, hc]
  have key : ∀ k l, cell ls' k l = (cell ls k l && !vis near h w ls i j k l) := by
    intro k l
    cases h1 : cell ls k l with
    | false =>
      rw [Bool.false_and, ← Bool.not_eq_true]
      intro h2
      rw [hv.sub k l h2] at h1
      cases h1
    | true =>
      rw [Bool.true_and]
      cases h2 : vis near h w ls i j k l with
      | true => exact all k l (by simpa using ((vis_iff hs).1 h2).2)
      | false =>
        cases h3 : cell ls' k l with
        | true => rfl
        | false =>
          have := (vis_iff (near := near) hs).2 ⟨hz, by simpa using hv.reached k l h1 h3⟩
          rw [this] at h2
          cases h2
  refine ⟨Sized.ext hv.vl sized_mk fun k l _ _ => (key k l).trans (cell_visL hs _ _ _ _).symm, Sized.ext hv.vg sized_mk fun k l _ _ => ?_⟩
  rw [hv.g, cell_visG hs hg, key]
  cases hx : vis near h w ls i j k l with
  | false => cases cell ls k l <;> simp
  | true => simp [vis_mem hs hx]
theorem DInv.less {ls gs ls' gs' : List Nat} {i j : Nat} {D : Int → Int → Prop} (hv : DInv near h w ls gs i j D ls' gs') (hs : Sized h w ls) (hc : cell ls i j = true) : setN h w ls' < setN h w ls :=
  setN_lt hs hv.sub hc hv.here

/-! ### All groups, cell by cell -/
def grpStep (near : Bool) (h w : Nat) (s : List Nat × List (List Nat)) (c : Nat × Nat) : List Nat × List (List Nat) :=
  if cell s.1 c.1 c.2 then (visL near h w s.1 c.1 c.2, s.2 ++ [visG near h w s.1 (List.replicate h 0) c.1 c.2]) else s
def grp (near : Bool) (h w : Nat) (ns : List Nat) (cs : List (Nat × Nat)) : List Nat × List (List Nat) := cs.foldl (grpStep near h w) (ns, [])
theorem grp_snoc (ns : List Nat) (cs : List (Nat × Nat)) (c : Nat × Nat) : grp near h w ns (cs ++ [c]) = grpStep near h w (grp near h w ns cs) c := by simp [grp, List.foldl_append]
theorem snocInd {α : Type} {C : List α → Prop} (h0 : C []) (h1 : ∀ l x, C l → C (l ++ [x])) : ∀ l, C l := fun l => by
  have : ∀ r : List α, C r.reverse := fun r => by
    induction r with
    | nil => exact h0
    | cons x r ih => rw [List.reverse_cons]; exact h1 _ _ ih
  have := this l.reverse
  rwa [List.reverse_reverse] at this
theorem grp_sized {ns : List Nat} (hs : Sized h w ns) (cs : List (Nat × Nat)) : Sized h w (grp near h w ns cs).1 := by
  induction cs using snocInd with
  | h0 => exact hs
  | h1 l x ih =>
    rw [grp_snoc]
    unfold grpStep
    split
    · exact sized_mk
    · exact ih
theorem sized_zero : Sized h w (List.replicate h 0) := ⟨by simp, fun n hn => by obtain ⟨_, rfl⟩ := List.mem_replicate.1 hn; exact Nat.two_pow_pos w⟩
theorem cell_zero (k l : Nat) : cell (List.replicate h 0) k l = false := by
  unfold cell
  rw [List.getD_eq_getElem?_getD, List.getElem?_replicate]
  split <;> simp
theorem cellsL_sorted (h w : Nat) : (cellsL h w).Pairwise fun a b => Earlier a.1 a.2 b.1 b.2 := by
  induction h with
  | zero => simp [cellsL]
  | succ n ih =>
    rw [cellsL_succ, List.pairwise_append]
    refine ⟨ih, ?_, ?_⟩
    · rw [List.pairwise_map]
      exact List.Pairwise.imp (fun hab => .inr ⟨rfl, hab⟩) List.pairwise_lt_range
    · intro a ha b hb
      obtain ⟨j, _, rfl⟩ := List.mem_map.1 hb
      exact .inl (mem_cellsL.1 ha).1
theorem grp_main {ns : List Nat} (hs : Sized h w ns) (cs : List (Nat × Nat)) : ∀ r, cellsL h w = cs ++ r →
    (∀ k l, cell (grp near h w ns cs).1 k l = true ↔ cell ns k l = true ∧ ∀ c ∈ cs, cell ns c.1 c.2 = true → ¬ Reach (cell ns) near c.1 c.2 k l) ∧ (grp near h w ns cs).2 = (cs.filter (firstB (cell ns) near h w)).map (compL (cell ns) near h w) := by
  induction cs using snocInd with
  | h0 => intro r _; exact ⟨fun k l => by simp [grp], rfl⟩
  | h1 l x ih =>
    intro r hr
    have hr' : cellsL h w = l ++ (x :: r) := by rw [hr]; simp
    obtain ⟨ih1, ih2⟩ := ih _ hr'
    have hsl := grp_sized (near := near) hs l
    have hp := cellsL_sorted h w
    rw [hr', List.pairwise_append] at hp
    have hbef : ∀ c ∈ l, Earlier c.1 c.2 x.1 x.2 := fun c hc => hp.2.2 c hc x (by simp)
    have hin : ∀ a b, cell ns a b = true → Earlier a b x.1 x.2 → (a, b) ∈ l := by
      intro a b hab he
      have hm : (a, b) ∈ cellsL h w := mem_cellsL.2 (hs.cell_in hab)
      rw [hr', List.mem_append] at hm
      rcases hm with hm | hm
      · exact hm
      · exfalso
        unfold Earlier at he
        rcases List.mem_cons.1 hm with e | hm
        · rw [← e] at he; simp only at he; omega
        · have := (List.pairwise_cons.1 hp.2.1).1 _ hm
          unfold Earlier at this
          simp only at this
          omega
    have hfirst : cell (grp near h w ns l).1 x.1 x.2 = true ↔ FirstIn (cell ns) near x.1 x.2 := by
      rw [ih1]
      constructor
      · rintro ⟨h1, h2⟩
        exact ⟨h1, fun a b he hab hrx => h2 (a, b) (hin a b hab he) hab (hrx.symm h1)⟩
      · rintro ⟨h1, h2⟩
        exact ⟨h1, fun c hc hct hrx => h2 c.1 c.2 (hbef c hc) hct (hrx.symm hct)⟩
    rw [grp_snoc]
    unfold grpStep
    obtain ⟨s, es⟩ : ∃ s, s = grp near h w ns l := ⟨_, rfl⟩
    rw [← es] at ih1 ih2 hsl hfirst ⊢
    by_cases hc : cell s.1 x.1 x.2 = true
    · rw [if_pos hc]
      have hxn := ((ih1 _ _).1 hc).1
      have hback : ∀ k m, Reach (cell ns) near x.1 x.2 k m → Reach (cell s.1) near x.1 x.2 k m := by
        intro k m hrx
        induction hrx with
        | refl => exact .refl
        | @step k m a b hrx ha ht ih3 =>
          refine .step ih3 ha ((ih1 _ _).2 ⟨ht, fun c hcm hct hrc => ?_⟩)
          exact ((ih1 _ _).1 hc).2 c hcm hct (hrc.trans ((Reach.step hrx ha ht).symm hxn))
      have hvis : ∀ k m, vis near h w s.1 x.1 x.2 k m = true ↔ Reach (cell ns) near x.1 x.2 k m := by
        intro k m
        rw [vis_iff hsl]
        constructor
        · rintro ⟨_, h2⟩
          have h3 := h2.mono (T' := cell ns) fun a b hab => ((ih1 a b).1 hab).1
          simpa using h3
        · intro h2
          refine ⟨by simp [cellZ, hc], ?_⟩
          simpa using hback k m h2
      refine ⟨fun k m => ?_, ?_⟩
      · rw [cell_visL hsl, Bool.and_eq_true, Bool.not_eq_true', ← Bool.not_eq_true, hvis, ih1]
        constructor
        · rintro ⟨⟨h1, h2⟩, h3⟩
          refine ⟨h1, fun c hcm hct => ?_⟩
          rcases List.mem_append.1 hcm with hcm | hcm
          · exact h2 c hcm hct
          · simp only [List.mem_singleton] at hcm
            subst hcm
            exact h3
        · rintro ⟨h1, h2⟩
          exact ⟨⟨h1, fun c hcm => h2 c (by simp [hcm])⟩, h2 x (by simp) hxn⟩
      · rw [ih2, List.filter_append, List.map_append]
        have hfb : firstB (cell ns) near h w x = true := (firstB_iff hs.inside x).2 (hfirst.1 hc)
        simp only [List.filter_cons, hfb, if_true, List.filter_nil, List.map_cons, List.map_nil]
        congr 2
        refine Sized.ext (h := h) (w := w) sized_mk sized_mk fun k m _ _ => ?_
        rw [cell_visG hsl sized_zero, cell_zero, Bool.false_or, Bool.eq_iff_iff, hvis]
        exact (cell_comp hs.inside hxn).symm
    · rw [if_neg hc]
      have hfb : firstB (cell ns) near h w x = false := by
        rw [← Bool.not_eq_true, firstB_iff hs.inside, ← hfirst]
        exact hc
      refine ⟨fun k m => ?_, by rw [ih2, List.filter_append]; simp [hfb]⟩
      rw [ih1]
      constructor
      · rintro ⟨h1, h2⟩
        refine ⟨h1, fun c hcm hct => ?_⟩
        rcases List.mem_append.1 hcm with hcm | hcm
        · exact h2 c hcm hct
        · simp only [List.mem_singleton] at hcm
          subst hcm
          intro hrx
          refine hc ((ih1 _ _).2 ⟨hct, fun d hd hdt hrd => ?_⟩)
          exact h2 d hd hdt (hrd.trans hrx)
      · rintro ⟨h1, h2⟩
        exact ⟨h1, fun c hcm => h2 c (by simp [hcm])⟩
theorem grp_all {ns : List Nat} (hs : Sized h w ns) : (grp near h w ns (cellsL h w)).2 = (firsts (cell ns) near h w).map (compL (cell ns) near h w) := (grp_main hs (cellsL h w) [] (by simp)).2

/-! ### The search in breadth -/
/-- The cells of the same kind as (i, j). -/
def sameT (h w : Nat) (ns : List Nat) (i j k l : Nat) : Bool := decide (k < h) && decide (l < w) && (cell ns k l == cell ns i j)
theorem sameT_in {ns : List Nat} {i j : Nat} : Inside h w (sameT h w ns i j) := fun k l hk => by
  simp only [sameT, Bool.and_eq_true, decide_eq_true_eq] at hk
  exact hk.1
theorem sameT_set {ns : List Nat} (hs : Sized h w ns) {i j : Nat} (hc : cell ns i j = true) : sameT h w ns i j = cell ns := by
  funext k l
  unfold sameT
  rw [hc]
  cases hk : cell ns k l with
  | false => simp
  | true => have := hs.cell_in hk; simp [this.1, this.2]
theorem sameT_not {ns : List Nat} {i j : Nat} (hc : cell ns i j = false) : sameT h w ns i j = Co h w (cell ns) := by
  funext k l
  unfold sameT Co
  rw [hc]
  cases cell ns k l <;> simp
/-- A set cell other than (i, j) is near. -/
def touchB (c : Bool) (h w : Nat) (os : List Nat) (i j : Nat) : Bool := (cellsL h w).any fun d => cell os d.1 d.2 && adjB c (i, j) d && !(d == (i, j))
theorem touchB_iff {c : Bool} {os : List Nat} (hs : Sized h w os) {i j : Nat} : touchB c h w os i j = true ↔ ∃ k l, cell os k l = true ∧ Adj c i j k l ∧ ¬ (k = i ∧ l = j) := by
  simp only [touchB, List.any_eq_true, Bool.and_eq_true, adjB_iff, Bool.not_eq_true', beq_eq_false_iff_ne, ne_eq]
  constructor
  · rintro ⟨d, _, ⟨h1, h2⟩, h3⟩
    exact ⟨d.1, d.2, h1, h2, fun e => h3 (Prod.ext e.1 e.2)⟩
  · rintro ⟨k, l, h1, h2, h3⟩
    exact ⟨(k, l), mem_cellsL.2 (hs.cell_in h1), ⟨h1, h2⟩, fun e => by injection e with e1 e2; exact h3 ⟨e1, e2⟩⟩
structure GInv (T : Nat → Nat → Bool) (c : Bool) (h w i j : Nat) (os : List Nat) : Prop where
  sz : Sized h w os
  here : cell os i j = true
  sub : ∀ k l, cell os k l = true → Reach T c i j k l
theorem GInv.start {T : Nat → Nat → Bool} {c : Bool} {i j : Nat} (hi : i < h) (hj : j < w) : GInv T c h w i j (putL (List.replicate h 0) i j true) := by
  have e : ∀ k l, cell (putL (List.replicate h 0) i j true) k l = if k = i ∧ l = j then true else cell (List.replicate h 0) k l := cell_putL (by simpa using hi) j true
  refine ⟨sized_zero.put hi hj _, by rw [e, if_pos ⟨rfl, rfl⟩], fun k l hk => ?_⟩
  rw [e] at hk
  split at hk
  · rename_i hh; obtain ⟨rfl, rfl⟩ := hh; exact .refl
  · rw [cell_zero] at hk; cases hk
theorem GInv.add {T : Nat → Nat → Bool} {c : Bool} {i j k l : Nat} {os : List Nat} (hv : GInv T c h w i j os) (hk : k < h) (hl : l < w) (ht : T k l = true) (hto : touchB c h w os k l = true) : GInv T c h w i j (putL os k l true) := by
  have e : ∀ a b, cell (putL os k l true) a b = if a = k ∧ b = l then true else cell os a b := cell_putL (by rw [hv.sz.1]; exact hk) l true
  refine ⟨hv.sz.put hk hl _, by rw [e]; split <;> first | rfl | exact hv.here, fun a b hab => ?_⟩
  rw [e] at hab
  split at hab
  · rename_i hh
    obtain ⟨rfl, rfl⟩ := hh
    obtain ⟨m, n, h1, h2, _⟩ := (touchB_iff hv.sz).1 hto
    exact .step (hv.sub m n h1) h2.symm ht
  · exact hv.sub a b hab
theorem GInv.finish {T : Nat → Nat → Bool} {c : Bool} {i j : Nat} {os : List Nat} (hS : Inside h w T) (hv : GInv T c h w i j os) (ht : T i j = true)
    (hno : ∀ k l, k < h → l < w → T k l = true → cell os k l = false → touchB c h w os k l = false) : os = compL T c h w (i, j) := by
  suffices hall : ∀ k l, Reach T c i j k l → cell os k l = true from Sized.ext hv.sz sized_mk fun k l _ _ => by
    rw [Bool.eq_iff_iff, cell_comp hS ht]
    exact ⟨hv.sub k l, hall k l⟩
  intro k l hr
  induction hr with
  | refl => exact hv.here
  | @step k l m n hr ha htm ih =>
    refine Classical.byContradiction fun hn => ?_
    have hb := hS _ _ htm
    have := hno m n hb.1 hb.2 htm (by simpa using hn)
    rw [← Bool.not_eq_true, touchB_iff hv.sz] at this
    refine this ⟨k, l, ih, ha.symm, fun e => ?_⟩
    obtain ⟨rfl, rfl⟩ := e
    exact hn ih
end
end Go.Proofs.Ytldmilpohappiaa.Gr
