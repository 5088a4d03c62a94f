/- Plain laws: turning the cells on the way back to a root makes one row and one column greater by 1. No condition beyond those that the theorems name. -/
import Derived.Test.YtehoaagnpidnbaaFPB
namespace Go.Proofs.Ytehoaagnpidnbaa
/-- The cell of two places, one of which is a row, changed. -/
def turnAt (ns : List Nat) (h p q : Nat) : List Nat := putL ns (min p q) (max p q - h) (!cell ns (min p q) (max p q - h))
/-- The way back from a place. -/
def back (par : List Int) (h : Nat) : Nat → Nat → List Nat → List Nat
  | 0, _, ns => ns
  | f + 1, q, ns => if par.getD q 0 = q then ns else back par h f (par.getD q 0).toNat (turnAt ns h (par.getD q 0).toNat q)
def rS (c : Nat → Nat → Bool) (n i : Nat) : Int := sumN n fun j => b2i (c i j)
def cS (c : Nat → Nat → Bool) (h j : Nat) : Int := sumN h fun i => b2i (c i j)
theorem rowS_at {n : Nat} {ns : List Nat} {i : Nat} (hi : i < ns.length) : (rowSums n ns).getD i 0 = rS (cell ns) n i := by
  simp only [rowSums, List.getD_eq_getElem?_getD, List.getElem?_map, List.getElem?_eq_getElem hi, Option.map_some, Option.getD_some, pop, rS, cell]
theorem colS_at {n : Nat} {ns : List Nat} {j : Nat} (hj : j < n) : (colSums n ns).getD j 0 = cS (cell ns) ns.length j := by
  simp only [colSums, List.getD_eq_getElem?_getD, List.getElem?_map, List.getElem?_range hj, Option.map_some, Option.getD_some, colSum, cS]
theorem sumN_one {n a : Nat} {f g : Nat → Int} {d : Int} (ha : a < n) (he : ∀ k, k < n → k ≠ a → g k = f k) (hd : g a = f a + d) : sumN n g = sumN n f + d := by
  have h1 : sumN n g = sumN n fun k => f k + if k = a then d else 0 := sumN_congr fun k hk => by
    by_cases e : k = a
    · subst e; rw [if_pos rfl, hd]
    · rw [if_neg e, he k hk e]; omega
  rw [h1, sumN_add, sumN_point (fun _ => d) ha]
/-- What one changed cell does to the sums. -/
theorem flip_sums {c c' : Nat → Nat → Bool} {h n a b : Nat} (ha : a < h) (hb : b < n) (hc : ∀ i j, c' i j = if i = a ∧ j = b then !c i j else c i j) :
    (∀ i, rS c' n i = rS c n i + if i = a then (if c a b then -1 else 1) else 0) ∧ (∀ j, cS c' h j = cS c h j + if j = b then (if c a b then -1 else 1) else 0) := by
  have hd : b2i (!c a b) = b2i (c a b) + if c a b then -1 else 1 := by cases c a b <;> rfl
  refine ⟨fun i => ?_, fun j => ?_⟩
  · by_cases e : i = a
    · subst e
      rw [if_pos rfl]
      refine sumN_one (a := b) hb (fun k _ hk => by rw [hc, if_neg (fun h => hk h.2)]) ?_
      rw [hc, if_pos ⟨rfl, rfl⟩, hd]
    · rw [if_neg e]
      have : rS c' n i = rS c n i := sumN_congr fun k _ => by rw [hc, if_neg (fun h => e h.1)]
      omega
  · by_cases e : j = b
    · subst e
      rw [if_pos rfl]
      refine sumN_one (a := a) ha (fun k _ hk => by rw [hc, if_neg (fun h => hk h.1)]) ?_
      rw [hc, if_pos ⟨rfl, rfl⟩, hd]
    · rw [if_neg e]
      have : cS c' h j = cS c h j := sumN_congr fun k _ => by rw [hc, if_neg (fun h => e h.2)]
      omega
theorem arr_cases {ns : List Nat} {h p q : Nat} (hA : arrB ns h p q = true) : (p < h ∧ h ≤ q ∧ cell ns p (q - h) = false) ∨ (h ≤ p ∧ q < h ∧ cell ns q (p - h) = true) := by
  unfold arrB at hA
  by_cases h1 : p < h ∧ h ≤ q
  · rw [if_pos h1] at hA
    exact .inl ⟨h1.1, h1.2, by simpa using hA⟩
  · rw [if_neg h1] at hA
    by_cases h2 : h ≤ p ∧ q < h
    · rw [if_pos h2] at hA; exact .inr ⟨h2.1, h2.2, hA⟩
    · rw [if_neg h2] at hA; cases hA
/-- The state of the way back: the place q, the goal g, the image ns0 from which it began. -/
structure BInv (n h : Nat) (ns0 : List Nat) (rank : Nat → Nat) (g q : Nat) (ns : List Nat) : Prop where
  len : ns.length = h
  lt : ∀ x ∈ ns, x < 2 ^ n
  old : ∀ i j, i < h → j < n → rank i ≤ rank q → rank (h + j) ≤ rank q → cell ns i j = cell ns0 i j
  rs : ∀ i, i < h → rS (cell ns) n i = rS (cell ns0) n i + if i = q then 1 else 0
  cs : ∀ j, j < n → cS (cell ns) h j = cS (cell ns0) h j + (if h + j = g then 1 else 0) - if h + j = q then 1 else 0
section
variable {n h many : Nat} {ns0 : List Nat} {R : Nat → Bool} {par : List Int} {rank : Nat → Nat} {g : Nat}
theorem BInv.start (hV : ∀ x ∈ ns0, x < 2 ^ n) (hl : ns0.length = h) (hg : h ≤ g) : BInv n h ns0 rank g g ns0 :=
  ⟨hl, hV, fun _ _ _ _ _ _ => rfl, fun i hi => by rw [if_neg (by omega)]; omega, fun j _ => by omega⟩
/-- One step back. -/
theorem BInv.step {q p : Nat} {ns : List Nat} (hb : BInv n h ns0 rank g q ns) (hq : q < h + n) (hp : p < h + n) (hr : rank p < rank q) (hA : arrB ns0 h p q = true) : BInv n h ns0 rank g p (turnAt ns h p q) ∧ min p q < h ∧ max p q - h < n ∧ h ≤ max p q := by
  have key : ∀ a b, min p q = a → max p q - h = b → a < h → b < n → ((a = p ∧ h + b = q ∧ cell ns0 a b = false) ∨ (a = q ∧ h + b = p ∧ cell ns0 a b = true)) → BInv n h ns0 rank g p (turnAt ns h p q) := by
    intro a b ea eb ha hbn hc
    have hrk : rank a ≤ rank q ∧ rank (h + b) ≤ rank q := by rcases hc with ⟨rfl, e, _⟩ | ⟨rfl, e, _⟩ <;> rw [e] <;> omega
    have hold := hb.old a b ha hbn hrk.1 hrk.2
    have hcell : ∀ i j, cell (turnAt ns h p q) i j = if i = a ∧ j = b then !cell ns i j else cell ns i j := by
      intro i j
      unfold turnAt
      rw [ea, eb, cell_putL (by rw [hb.len]; exact ha)]
      by_cases e : i = a ∧ j = b
      · rw [if_pos e, if_pos e, e.1, e.2]
      · rw [if_neg e, if_neg e]
    obtain ⟨f1, f2⟩ := flip_sums (c := cell ns) (c' := cell (turnAt ns h p q)) ha hbn hcell
    refine ⟨?_, ?_, fun i j hi hj h1 h2 => ?_, fun i hi => ?_, fun j hj => ?_⟩
    · unfold turnAt; rw [length_putL]; exact hb.len
    · unfold turnAt; rw [ea, eb]; exact putL_lt hb.lt (by rw [hb.len]; exact ha) hbn _
    · rw [hcell, if_neg (fun e => ?_), hb.old i j hi hj (by omega) (by omega)]
      obtain ⟨rfl, rfl⟩ := e
      rcases hc with ⟨_, e, _⟩ | ⟨e, _, _⟩
      · rw [e] at h2; omega
      · rw [e] at h1; omega
    · rw [f1, hb.rs i hi, hold]
      rcases hc with ⟨rfl, e, hcc⟩ | ⟨rfl, e, hcc⟩
      · rw [hcc]; simp only [Bool.false_eq_true, if_false]; split <;> split <;> omega
      · rw [hcc]; simp only [if_true]; split <;> split <;> omega
    · rw [f2, hb.cs j hj, hold]
      rcases hc with ⟨rfl, e, hcc⟩ | ⟨rfl, e, hcc⟩
      · rw [hcc]; simp only [Bool.false_eq_true, if_false]; split <;> split <;> split <;> split <;> omega
      · rw [hcc]; simp only [if_true]; split <;> split <;> split <;> split <;> omega
  rcases arr_cases hA with ⟨h1, h2, h3⟩ | ⟨h1, h2, h3⟩
  · have e1 : min p q = p := Nat.min_eq_left (by omega)
    have e2 : max p q = q := Nat.max_eq_right (by omega)
    refine ⟨key p (q - h) e1 (by rw [e2]) h1 (by omega) (.inl ⟨rfl, by omega, h3⟩), by omega, by omega, by omega⟩
  · have e1 : min p q = q := Nat.min_eq_right (by omega)
    have e2 : max p q = p := Nat.max_eq_left (by omega)
    refine ⟨key q (p - h) e1 (by rw [e2]) h2 (by omega) (.inr ⟨rfl, by omega, h3⟩), by omega, by omega, by omega⟩
/-- What a step of the way back finds: the root, or a place before. -/
theorem Forest.at (hF : Forest (arrB ns0 h) R many par rank g) {q : Nat} (hq : q < many) (h0 : 0 ≤ par.getD q 0) :
    (par.getD q 0 = q ∧ R q = true) ∨ ∃ p : Nat, p < many ∧ 0 ≤ par.getD p 0 ∧ par.getD q 0 = (p : Nat) ∧ p ≠ q ∧ rank p < rank q ∧ arrB ns0 h p q = true := by
  rcases (hF.up q hq h0).2 with hu | ⟨p, h1, h2, h3, h4, h5⟩
  · exact .inl hu
  · exact .inr ⟨p, h1, h2, h3, fun e => by subst e; omega, h4, h5⟩
theorem back_root {f q : Nat} {ns : List Nat} (h : par.getD q 0 = q) (hf : 0 < f) : ∀ {hh : Nat}, back par hh f q ns = ns := by
  intro hh
  cases f with
  | zero => omega
  | succ f => rw [back, if_pos h]
theorem back_step {f q p : Nat} {ns : List Nat} (h : par.getD q 0 = (p : Nat)) (hn : p ≠ q) : ∀ {hh : Nat}, back par hh (f + 1) q ns = back par hh f p (turnAt ns hh p q) := by
  intro hh
  rw [back, if_neg (by rw [h]; omega), h, Int.toNat_natCast]
theorem back_out (hF : Forest (arrB ns0 h) R (h + n) par rank g) (hRh : ∀ q, R q = true → q < h) : ∀ (f q : Nat) (ns : List Nat), q < h + n → 0 ≤ par.getD q 0 → rank q < f → BInv n h ns0 rank g q ns → ∃ r, r < h ∧ R r = true ∧ BInv n h ns0 rank g r (back par h f q ns)
  | 0, q, ns, _, _, hf, _ => by omega
  | f + 1, q, ns, hq, h0, hf, hb => by
    rcases hF.at hq h0 with ⟨h1, h2⟩ | ⟨p, h1, h2, h3, h4, h5, h6⟩
    · rw [back_root h1 (by omega)]
      exact ⟨q, hRh q h2, h2, hb⟩
    · rw [back_step h3 h4]
      exact back_out hF hRh f p _ h1 h2 (by omega) (hb.step hq h1 h5 h6).1
end
/-! ### One more cell -/
/-- An image that fills. -/
structure FitI (n : Nat) (rs cs : List Int) (ns : List Nat) : Prop where
  len : ns.length = rs.length
  lt : ∀ x ∈ ns, x < 2 ^ n
  w : n = cs.length
  r : ∀ i, i < ns.length → rS (cell ns) n i ≤ rs.getD i 0
  c : ∀ j, j < n → cS (cell ns) ns.length j ≤ cs.getD j 0
def cnt (n : Nat) (ns : List Nat) : Int := sumN ns.length fun i => rS (cell ns) n i
theorem back_fit {n g : Nat} {rs cs : List Int} {ns : List Nat} {par : List Int} {rank : Nat → Nat} (hV : FitI n rs cs ns) (hF : Forest (arrB ns ns.length) (rootB n ns rs) (ns.length + n) par rank g) (hG : goalB n ns cs g = true) :
    FitI n rs cs (back par ns.length (ns.length + n + 1) g ns) ∧ cnt n (back par ns.length (ns.length + n + 1) g ns) = cnt n ns + 1 := by
  simp only [goalB, Bool.and_eq_true, decide_eq_true_eq] at hG
  have hg := hF.here.1
  obtain ⟨r, hr, hR, hb⟩ := back_out hF (fun q hq => by simp only [rootB, Bool.and_eq_true, decide_eq_true_eq] at hq; exact hq.1) (ns.length + n + 1) g ns hg hF.here.2 (by have := (hF.up g hg hF.here.2).1; omega) (BInv.start hV.lt rfl hG.1)
  obtain ⟨ms, em⟩ : ∃ ms, ms = back par ns.length (ns.length + n + 1) g ns := ⟨_, rfl⟩
  rw [← em] at hb ⊢
  simp only [rootB, Bool.and_eq_true, decide_eq_true_eq] at hR
  have hR2 := hR.2
  rw [rowS_at hr] at hR2
  have hG2 := hG.2
  rw [colS_at (by omega)] at hG2
  have hl := hb.len
  refine ⟨⟨by rw [hl, hV.len], hb.lt, hV.w, fun i hi => ?_, fun j hj => ?_⟩, ?_⟩
  · rw [hl] at hi
    rw [hb.rs i hi]
    have := hV.r i hi
    split
    · rename_i e; subst e; omega
    · omega
  · rw [hl, hb.cs j hj]
    have := hV.c j hj
    have hne : ¬ ns.length + j = r := by omega
    rw [if_neg hne]
    split
    · rename_i e
      have e2 : g - ns.length = j := by omega
      rw [e2] at hG2
      omega
    · omega
  · unfold cnt
    rw [hl]
    exact sumN_one (a := r) hr (fun k hk hne => by rw [hb.rs k hk, if_neg hne]; omega) (by rw [hb.rs r hr, if_pos rfl])
/-- The search from the start. -/
def par0 (n : Nat) (ns : List Nat) (rs : List Int) : List Int := (List.range (ns.length + n)).map fun q => if rootB n ns rs q then (q : Int) else -1
def work0 (n : Nat) (ns : List Nat) (rs : List Int) : List Nat := (List.range (ns.length + n)).filter (rootB n ns rs)
theorem par0_at {n : Nat} {ns : List Nat} {rs : List Int} {q : Nat} (hq : q < ns.length + n) : (par0 n ns rs).getD q 0 = if rootB n ns rs q then (q : Int) else -1 := by
  simp only [par0, List.getD_eq_getElem?_getD, List.getElem?_map, List.getElem?_range hq, Option.map_some, Option.getD_some]
theorem sinv0 (n : Nat) (ns : List Nat) (rs cs : List Int) : SInv (arrB ns ns.length) (goalB n ns cs) (rootB n ns rs) (ns.length + n) 0 0 (par0 n ns rs) (work0 n ns rs) := by
  have hm : ∀ q, q ∈ work0 n ns rs ↔ q < ns.length + n ∧ rootB n ns rs q = true := fun q => by simp [work0]
  refine { len := by simp [par0], nodup := List.Pairwise.filter _ List.nodup_range, lt := fun q hq => ((hm q).1 hq).1, mem := fun q hq => ?_, bd := fun q hq => ?_, up := fun q hq => .inl ⟨?_, ((hm q).1 hq).2⟩, root := fun q hq hr => (hm q).2 ⟨hq, hr⟩, goal := fun q hq => .inl ((hm q).1 hq).2, kle := Nat.zero_le _, atle := Nat.zero_le _, done := fun a ha => by omega, now := fun _ q hq => by omega }
  · rw [par0_at hq, hm]
    cases rootB n ns rs q <;> simp [hq]
  · rw [par0_at hq]
    cases rootB n ns rs q <;> simp <;> omega
  · have := (hm q).1 hq
    rw [par0_at this.1, this.2]
    rfl
def srchI (n : Nat) (ns : List Nat) (rs cs : List Int) : List Int × Option Nat := srch (arrB ns ns.length) (goalB n ns cs) (ns.length + n) (fuelS (ns.length + n) 0 0) 0 0 (par0 n ns rs) (work0 n ns rs)
theorem srchI_out (n : Nat) (ns : List Nat) (rs cs : List Int) :
    (∃ par' work', srchI n ns rs cs = (par', none) ∧ Shut (arrB ns ns.length) (goalB n ns cs) (rootB n ns rs) (ns.length + n) work') ∨ ∃ par' g rank, srchI n ns rs cs = (par', some g) ∧ Forest (arrB ns ns.length) (rootB n ns rs) (ns.length + n) par' rank g ∧ goalB n ns cs g = true :=
  srch_out _ 0 0 _ _ (sinv0 n ns rs cs) rfl
/-- The image that the program builds, from an image on. -/
def fillN (n : Nat) (rs cs : List Int) : Nat → List Nat → List Nat
  | 0, ns => ns
  | f + 1, ns => match srchI n ns rs cs with
    | (_, none) => ns
    | (par, some g) => fillN n rs cs f (back par ns.length (ns.length + n + 1) g ns)
def fillO (rs cs : List Int) : List Nat := fillN cs.length rs cs (rs.length * cs.length) (List.replicate rs.length 0)
/-! ### The end -/
theorem cnt_le {n : Nat} (ns : List Nat) : cnt n ns ≤ ns.length * n := by
  have := sumN_bd (n := ns.length) (f := fun i => rS (cell ns) n i) (c := n) fun i _ => by
    have := sumN_bd (n := n) (f := fun j => b2i (cell ns i j)) (c := 1) fun j _ => b2i_bd _
    unfold rS
    omega
  exact this.2
theorem sumN_full {n : Nat} {f g : Nat → Int} (h : ∀ k, k < n → f k ≤ g k) (he : sumN n f = sumN n g) : ∀ k, k < n → f k = g k := by
  induction n with
  | zero => intro k hk; omega
  | succ n ih =>
    simp only [sumN] at he
    have h1 := sumN_le (n := n) fun k hk => h k (by omega)
    have h2 := h n (by omega)
    intro k hk
    by_cases e : k = n
    · subst e; omega
    · exact ih (fun k hk => h k (by omega)) (by omega) k (by omega)
/-- A full image gives no goal. -/
theorem full_none {n : Nat} {rs cs : List Int} {ns : List Nat} (hV : FitI n rs cs ns) (hc : cnt n ns = ns.length * n) : ∃ par', srchI n ns rs cs = (par', none) := by
  rcases srchI_out n ns rs cs with ⟨p, _, h, _⟩ | ⟨par', g, rank, _, hF, hG⟩
  · exact ⟨p, h⟩
  · have h1 := (back_fit hV hF hG).2
    have h2 := cnt_le (n := n) (back par' ns.length (ns.length + n + 1) g ns)
    have h3 : (back par' ns.length (ns.length + n + 1) g ns).length = ns.length := by rw [(back_fit hV hF hG).1.len, hV.len]
    rw [h3] at h2
    omega
theorem sumN_take {h : Nat} {f : Nat → Int} (P : Nat → Bool) : sumN h f = sumN h (fun i => b2i (P i) * f i) + sumN h fun i => b2i (!P i) * f i := by
  rw [← sumN_add]
  exact sumN_congr fun i _ => by cases P i <;> simp [b2i]
/-- The rows of a mask have no greater sum than so many of the greatest. -/
theorem mask_top : ∀ (xs : List Int) (P : Nat → Bool) (t : Nat), (∀ x ∈ xs, 0 ≤ x) → sumN xs.length (fun i => b2i (P i)) = t → sumN xs.length (fun i => b2i (P i) * xs.getD i 0) ≤ top xs t
  | [], P, t, _, _ => by rw [top_nil]; simp [sumN]
  | x :: l, P, t, h0, ht => by
    have hl : ∀ z ∈ l, 0 ≤ z := fun z hz => h0 z (List.mem_cons_of_mem _ hz)
    rw [List.length_cons, sumN_front] at ht ⊢
    simp only [List.getD_cons_succ, List.getD_cons_zero]
    have hb := (sumN_bd (n := l.length) (f := fun k => b2i (P (k + 1))) (c := 1) fun k _ => b2i_bd _).1
    cases hP : P 0 with
    | false =>
      rw [hP] at ht
      have ih := mask_top l (fun k => P (k + 1)) t hl (by simpa [b2i] using ht)
      have := top_cons_le x l t
      simp only [b2i, Bool.false_eq_true, if_false, Int.zero_mul] at ih ⊢
      omega
    | true =>
      rw [hP] at ht
      simp only [b2i, if_true] at ht hb
      obtain ⟨s, rfl⟩ : ∃ s, t = s + 1 := ⟨t - 1, by omega⟩
      have ih := mask_top l (fun k => P (k + 1)) s hl (by simp only [b2i]; omega)
      rw [top_succ]
      simp only [b2i, if_true, Int.one_mul] at ih ⊢
      omega
/-- WHERE NO GOAL IS REACHED THE IMAGE HAS AS MANY CELLS AS THE LEAST CUT. -/
theorem shut_cut {n : Nat} {rs cs : List Int} {ns : List Nat} {work : List Nat} (hV : FitI n rs cs ns) (h0 : ∀ x ∈ rs, 0 ≤ x) (hS : Shut (arrB ns ns.length) (goalB n ns cs) (rootB n ns rs) (ns.length + n) work) : fm rs cs ≤ cnt n ns := by
  obtain ⟨P, eP⟩ : ∃ P : Nat → Bool, P = fun i => decide (i ∈ work) := ⟨_, rfl⟩
  obtain ⟨Q, eQ⟩ : ∃ Q : Nat → Bool, Q = fun j => decide (ns.length + j ∈ work) := ⟨_, rfl⟩
  obtain ⟨t, et⟩ : ∃ t : Nat, (t : Int) = sumN ns.length fun i => b2i (P i) := by
    have := (sumN_bd (n := ns.length) (f := fun i => b2i (P i)) (c := 1) fun i _ => b2i_bd _).1
    exact ⟨(sumN ns.length fun i => b2i (P i)).toNat, by omega⟩
  have htl : t ≤ rs.length := by
    have := (sumN_bd (n := ns.length) (f := fun i => b2i (P i)) (c := 1) fun i _ => b2i_bd _).2
    have := hV.len
    omega
  refine Int.le_trans (minTo_le htl) ?_
  have hrows : ∀ i, i < ns.length → P i = false → rS (cell ns) n i = rs.getD i 0 := fun i hi hp => by
    have h1 := hV.r i hi
    have h2 : ¬ rootB n ns rs i = true := fun hr => by
      have := hS.root i (by omega) hr
      rw [eP] at hp
      simp [this] at hp
    simp only [rootB, Bool.and_eq_true, decide_eq_true_eq] at h2
    rw [rowS_at hi] at h2
    omega
  have hset : ∀ i j, i < ns.length → j < n → P i = true → Q j = false → cell ns i j = true := fun i j hi hj hp hq => by
    cases hc : cell ns i j with
    | true => rfl
    | false =>
      have hA : arrB ns ns.length i (ns.length + j) = true := by
        unfold arrB
        rw [if_pos ⟨hi, by omega⟩, show ns.length + j - ns.length = j by omega, hc]
        rfl
      rw [eP] at hp
      have := hS.shut i (by simpa using hp) (ns.length + j) (by omega) hA
      rw [eQ] at hq
      simp [this] at hq
  have hun : ∀ i j, i < ns.length → j < n → P i = false → Q j = true → cell ns i j = false := fun i j hi hj hp hq => by
    cases hc : cell ns i j with
    | false => rfl
    | true =>
      have hA : arrB ns ns.length (ns.length + j) i = true := by
        unfold arrB
        rw [if_neg (by omega), if_pos ⟨by omega, hi⟩, show ns.length + j - ns.length = j by omega, hc]
      rw [eQ] at hq
      have := hS.shut (ns.length + j) (by simpa using hq) i (by omega) hA
      rw [eP] at hp
      simp [this] at hp
  have hcol : ∀ j, j < n → Q j = true → cS (cell ns) ns.length j = cs.getD j 0 := fun j hj hq => by
    have h1 := hV.c j hj
    rw [eQ] at hq
    have h2 := hS.goal (ns.length + j) (by simpa using hq)
    rcases h2 with h2 | h2
    · simp only [rootB, Bool.and_eq_true, decide_eq_true_eq] at h2
      omega
    · simp only [goalB, Bool.and_eq_false_imp, decide_eq_true_eq, decide_eq_false_iff_not] at h2
      have h3 := h2 (by omega)
      rw [show ns.length + j - ns.length = j by omega, colS_at hj] at h3
      omega
  have e1 : cnt n ns = sumN ns.length (fun i => b2i (P i) * rS (cell ns) n i) + sumN ns.length fun i => b2i (!P i) * rS (cell ns) n i := sumN_take P
  have e2 : sumN ns.length (fun i => b2i (!P i) * rS (cell ns) n i) = sumN ns.length fun i => b2i (!P i) * rs.getD i 0 := sumN_congr fun i hi => by
    cases hp : P i with
    | true => simp [b2i]
    | false => rw [hrows i hi hp]
  have e3 : rs.sum = sumN ns.length (fun i => b2i (P i) * rs.getD i 0) + sumN ns.length fun i => b2i (!P i) * rs.getD i 0 := by
    rw [list_sum_N, ← hV.len]
    exact sumN_take P
  have e4 : sumN ns.length (fun i => b2i (P i) * rs.getD i 0) ≤ top rs t := by
    rw [hV.len]
    refine mask_top rs P t h0 ?_
    rw [← hV.len]
    exact et.symm
  have e5 : sumN ns.length (fun i => b2i (P i) * rS (cell ns) n i) = sumN n fun j => sumN ns.length fun i => b2i (P i) * b2i (cell ns i j) := by
    rw [← sumN_swap]
    exact sumN_congr fun i _ => by unfold rS; rw [← sumN_mul]
  have e6 : minS t cs ≤ sumN n fun j => sumN ns.length fun i => b2i (P i) * b2i (cell ns i j) := by
    unfold minS
    rw [map_sum_N (fun x => min x t), ← hV.w]
    refine sumN_le fun j hj => ?_
    cases hq : Q j with
    | true =>
      have : sumN ns.length (fun i => b2i (P i) * b2i (cell ns i j)) = cS (cell ns) ns.length j := sumN_congr fun i hi => by
        cases hp : P i with
        | true => simp [b2i]
        | false => rw [hun i j hi hj hp hq]; simp [b2i]
      rw [this, hcol j hj hq]
      exact Int.min_le_left _ _
    | false =>
      have : sumN ns.length (fun i => b2i (P i) * b2i (cell ns i j)) = t := by
        rw [et]
        exact sumN_congr fun i hi => by
          cases hp : P i with
          | true => rw [hset i j hi hj hp hq]; simp [b2i]
          | false => simp [b2i]
      rw [this]
      exact Int.min_le_right _ _
  unfold cutT
  omega
theorem fit_le {n : Nat} {rs cs : List Int} {ns : List Nat} (hV : FitI n rs cs ns) : cnt n ns ≤ fm rs cs := by
  have hw := hV.w
  subst hw
  have hl := hV.len
  refine le_minTo fun t _ => ?_
  have := cells_le_cut (rs := rs) (cs := cs) (cell ns) (fun i hi => hV.r i (by omega)) (fun j hj => by have := hV.c j hj; rw [hl] at this; exact this) t
  unfold cnt rS
  rw [hl]
  exact this
theorem fit_zero {rs cs : List Int} (hr : ∀ x ∈ rs, 0 ≤ x) (hc : ∀ x ∈ cs, 0 ≤ x) : FitI cs.length rs cs (List.replicate rs.length 0) ∧ cnt cs.length (List.replicate rs.length 0) = 0 := by
  have hcz : ∀ i j, cell (List.replicate rs.length 0) i j = false := fun i j => by
    unfold cell
    rw [List.getD_eq_getElem?_getD, List.getElem?_replicate]
    split <;> simp
  have hget : ∀ (l : List Int), (∀ x ∈ l, 0 ≤ x) → ∀ i, i < l.length → 0 ≤ l.getD i 0 := fun l h i hi => by
    rw [List.getD_eq_getElem?_getD, List.getElem?_eq_getElem hi]
    exact h _ (List.getElem_mem hi)
  have hr0 : ∀ n i, rS (cell (List.replicate rs.length 0)) n i = 0 := fun n i => by
    unfold rS
    rw [sumN_congr (g := fun _ => 0) fun j _ => by rw [hcz]; rfl, sumN_zero]
  have hc0 : ∀ h j, cS (cell (List.replicate rs.length 0)) h j = 0 := fun h j => by
    unfold cS
    rw [sumN_congr (g := fun _ => 0) fun i _ => by rw [hcz]; rfl, sumN_zero]
  refine ⟨⟨by simp, fun x hx => by rw [(List.mem_replicate.1 hx).2]; exact Nat.two_pow_pos _, rfl, fun i hi => ?_, fun j hj => ?_⟩, ?_⟩
  · rw [hr0]; exact hget rs hr i (by simpa using hi)
  · rw [hc0]; exact hget cs hc j hj
  · unfold cnt
    rw [sumN_congr (g := fun _ => 0) fun i _ => hr0 _ _, sumN_zero]
/-- One more round: what the loop of the program needs. -/
theorem fillN_end {n : Nat} {rs cs : List Int} {ns : List Nat} {par : List Int} (h : srchI n ns rs cs = (par, none)) : ∀ f, fillN n rs cs f ns = ns
  | 0 => rfl
  | f + 1 => by rw [fillN, h]
theorem fillN_step {n f g : Nat} {rs cs : List Int} {ns : List Nat} {par : List Int} (h : srchI n ns rs cs = (par, some g)) : fillN n rs cs (f + 1) ns = fillN n rs cs f (back par ns.length (ns.length + n + 1) g ns) := by rw [fillN, h]
theorem fillN_out {n : Nat} {rs cs : List Int} (h0 : ∀ x ∈ rs, 0 ≤ x) : ∀ (f : Nat) (ns : List Nat), FitI n rs cs ns → cnt n ns + f = ns.length * n → FitI n rs cs (fillN n rs cs f ns) ∧ cnt n (fillN n rs cs f ns) = fm rs cs
  | f, ns, hV, hc => by
    rcases srchI_out n ns rs cs with ⟨p, wk, h, hS⟩ | ⟨par', g, rank, h, hF, hG⟩
    · rw [fillN_end h]
      exact ⟨hV, Int.le_antisymm (fit_le hV) (shut_cut hV h0 hS)⟩
    · obtain ⟨h1, h2⟩ := back_fit hV hF hG
      have h3 := cnt_le (n := n) (back par' ns.length (ns.length + n + 1) g ns)
      have h4 : (back par' ns.length (ns.length + n + 1) g ns).length = ns.length := by rw [h1.len, hV.len]
      rw [h4] at h3
      cases f with
      | zero => omega
      | succ f =>
        rw [fillN_step h]
        exact fillN_out h0 f _ h1 (by rw [h4, h2]; omega)
/-- THE IMAGE THAT THE PROGRAM BUILDS FILLS, AND HAS AS MANY CELLS AS THE LEAST CUT. -/
theorem fillO_out {rs cs : List Int} (hr : ∀ x ∈ rs, 0 ≤ x) (hc : ∀ x ∈ cs, 0 ≤ x) : FitI cs.length rs cs (fillO rs cs) ∧ cnt cs.length (fillO rs cs) = fm rs cs := by
  obtain ⟨h1, h2⟩ := fit_zero hr hc
  exact fillN_out hr _ _ h1 (by rw [h2]; simp)
end Go.Proofs.Ytehoaagnpidnbaa
