/- Plain laws: the images with given sums, in order, as the program and as the reference fill them row by row. No condition beyond those that the theorems name. | Plain laws: which images the list of the images with given sums holds, and that it holds each once. No condition beyond those that the theorems name. | A range over an iterator that yields images, each in the iterator's own memory: what the iterator owes (ImgIter), and the statement itself. Conditions: those that the theorems name; the invariants speak of blocks below the loop's start alone. | Contracts of fits, take and total, of which the iterator over images is made. Conditions: a row below 64; at most six columns; the numbers between -7 and 7. | Contract of fill, the function that calls itself within the iterator over images: it yields, in order, the images that go on from the rows done. Conditions: its memory as FMem says; what a round owes as in ImgIter. | Contract of the iterator over the images with given sums: it yields them in order, each in its own memory. Conditions: those that the theorem names. | Contracts of imagesOf and countImages: the number of the images with given sums that are of a kind. Conditions: the sums are those of an image's size; what the function of the kind answers. | Contract of countable: the sums are valid, and there are at most 16 cells. Conditions: the slices read as lists of integers. | Plain laws: the images with given sums as the reference lists them, row by row; how many there are at most; the number of set bits of a row. No condition beyond those that the theorems name. -/
import Derived.Test.YtbpjceffkchmbaaDoorMA
import Derived.RangeFuncNested
import Derived.RangeFuncCalls
import Derived.RangeFuncLeaves
import Derived.Test.YtbpjceffkchmbaaDoorK3
import Derived.Test.YtbpjceffkchmbaaDoorTW
import Derived.Test.YtbpjceffkchmbaaDoorMK9
import Derived.Test.YtbpjceffkchmbaaDoorKT
import Derived.Test.YtbpjceffkchmbaaDoorK5
import Derived.Test.YtbpjceffkchmbaaDoorFA
section
namespace Go.Proofs.YtbpjceffkchmbaaDoor
/-- The column sums to come, a row taken. -/
def takeT (left : List Int) (row : Nat) : List Int := (List.range left.length).map fun j => left.getD j 0 - b2i (row.testBit j)
def giveT (left : List Int) (row : Nat) : List Int := (List.range left.length).map fun j => left.getD j 0 + b2i (row.testBit j)
theorem length_takeT (left : List Int) (row : Nat) : (takeT left row).length = left.length := by simp [takeT]
theorem takeT_at {left : List Int} {row j : Nat} (h : j < left.length) : (takeT left row).getD j 0 = left.getD j 0 - b2i (row.testBit j) := by
  simp [takeT, List.getD_eq_getElem?_getD, h]
theorem list_ext_i {xs ys : List Int} (hl : xs.length = ys.length) (h : ∀ j, j < xs.length → xs.getD j 0 = ys.getD j 0) : xs = ys := by
  apply List.ext_getElem hl
  intro i h1 h2
  have := h i h1
  simpa [List.getD_eq_getElem?_getD, h1, h2] using this
theorem give_take (left : List Int) (row : Nat) : giveT (takeT left row) row = left := by
  refine list_ext_i (by simp [giveT, takeT]) fun j hj => ?_
  have hj' : j < left.length := by simpa [giveT, takeT] using hj
  have e : (giveT (takeT left row) row).getD j 0 = (takeT left row).getD j 0 + b2i (row.testBit j) := by
    simp only [giveT, List.getD_eq_getElem?_getD, List.getElem?_map]
    rw [List.getElem?_range (by rw [length_takeT]; exact hj')]
    rfl
  rw [e, takeT_at hj']
  omega
/-- Whether all numbers to come are there. -/
def okT (left : List Int) (row : Nat) : Bool := (List.range left.length).all fun j => decide (b2i (row.testBit j) ≤ left.getD j 0)
/-- Whether no column must have a cell that the row has not. -/
def mustT (left : List Int) (row : Nat) (n : Nat) : Bool := (List.range left.length).all fun j => row.testBit j || !(left.getD j 0 == (n : Int))
theorem okT_iff {left : List Int} {row : Nat} : okT left row = true ↔ ∀ j, j < left.length → b2i (row.testBit j) ≤ left.getD j 0 := by simp [okT, List.all_eq_true]
theorem mustT_iff {left : List Int} {row n : Nat} : mustT left row n = true ↔ ∀ j, j < left.length → row.testBit j = true ∨ left.getD j 0 ≠ n := by
  simp [mustT, List.all_eq_true]
/-- The images that fill the sums, in order. -/
def genI (w : Nat) : List Int → List Int → List (List Nat)
  | [], left => if left.all (fun x => x == 0) then [[]] else []
  | r :: rs, left => (List.range (2 ^ w)).flatMap fun row => if pop w row = r ∧ okT left row = true then (genI w rs (takeT left row)).map (row :: ·) else []
/-- The same, as the program goes: it looks ahead. -/
def genP (w : Nat) : List Int → List Int → List (List Nat)
  | [], _ => [[]]
  | r :: rs, left => (List.range (2 ^ w)).flatMap fun row => if pop w row = r ∧ okT left row = true ∧ mustT left row (rs.length + 1) = true then (genP w rs (takeT left row)).map (row :: ·) else []
theorem gen_none (w : Nat) : ∀ (rs left : List Int) (j : Nat), j < left.length → (rs.length : Int) < left.getD j 0 → genI w rs left = []
  | [], left, j, hj, h => by
    unfold genI
    rw [if_neg]
    intro ha
    have := List.all_eq_true.1 ha (left.getD j 0) (by rw [List.getD_eq_getElem?_getD, List.getElem?_eq_getElem hj]; exact List.getElem_mem hj)
    have := eq_of_beq this
    rw [List.length_nil] at h
    omega
  | r :: rs, left, j, hj, h => by
    unfold genI
    rw [List.flatMap_eq_nil_iff]
    intro row _
    split
    · rw [gen_none w rs (takeT left row) j (by rw [length_takeT]; exact hj) (by
        rw [takeT_at hj]
        have := b2i_bd (row.testBit j)
        rw [List.length_cons] at h
        omega)]
      rfl
    · rfl
theorem flatMap_congr {α β : Type} {f g : α → List β} : ∀ (l : List α), (∀ x ∈ l, f x = g x) → l.flatMap f = l.flatMap g
  | [], _ => rfl
  | x :: l, h => by rw [List.flatMap_cons, List.flatMap_cons, h x (List.mem_cons_self ..), flatMap_congr l fun y hy => h y (List.mem_cons_of_mem _ hy)]
/-- The sums to come are in the range of the rows to come. -/
def InR (n : Nat) (left : List Int) : Prop := ∀ j, j < left.length → 0 ≤ left.getD j 0 ∧ left.getD j 0 ≤ n
theorem InR.take {n : Nat} {left : List Int} {row : Nat} (h : InR (n + 1) left) (h1 : okT left row = true) (h2 : mustT left row (n + 1) = true) : InR n (takeT left row) := fun j hj => by
  rw [length_takeT] at hj
  rw [takeT_at hj]
  have g1 := okT_iff.1 h1 j hj
  have g2 := mustT_iff.1 h2 j hj
  have g3 := h j hj
  have g4 := b2i_bd (row.testBit j)
  refine ⟨by omega, ?_⟩
  rcases g2 with g2 | g2
  · rw [g2]
    have : b2i true = 1 := rfl
    omega
  · omega
theorem gen_eq (w : Nat) : ∀ (rs left : List Int), InR rs.length left → genP w rs left = genI w rs left
  | [], left, h => by
    unfold genP genI
    rw [if_pos]
    rw [List.all_eq_true]
    intro x hx
    obtain ⟨j, hj, e⟩ := List.getElem_of_mem hx
    have := h j hj
    rw [List.getD_eq_getElem?_getD, List.getElem?_eq_getElem hj, Option.getD_some, e] at this
    simp at this
    simp
    omega
  | r :: rs, left, h => by
    unfold genP genI
    refine flatMap_congr _ fun row _ => ?_
    by_cases hp : pop w row = r
    · by_cases ho : okT left row = true
      · by_cases hm : mustT left row (rs.length + 1) = true
        · rw [if_pos ⟨hp, ho, hm⟩, if_pos ⟨hp, ho⟩, gen_eq w rs _ (h.take ho hm)]
        · rw [if_neg (fun h => hm h.2.2), if_pos ⟨hp, ho⟩]
          have : ∃ j, j < left.length ∧ row.testBit j = false ∧ left.getD j 0 = (rs.length + 1 : Nat) := by
            refine Classical.byContradiction fun hn => hm (mustT_iff.2 fun j hj => ?_)
            cases hb : row.testBit j with
            | true => exact .inl rfl
            | false => exact .inr fun e => hn ⟨j, hj, hb, e⟩
          obtain ⟨j, hj, hb, e⟩ := this
          rw [gen_none w rs (takeT left row) j (by rw [length_takeT]; exact hj) (by rw [takeT_at hj, hb, e]; simp [b2i]; omega)]
          rfl
      · rw [if_neg (fun h => ho h.2.1), if_neg (fun h => ho h.2)]
    · rw [if_neg (fun h => hp h.1), if_neg (fun h => hp h.1)]
/-- What the program has yielded when it stands at a row of the numbers to try. -/
def genTo (w : Nat) (r : Int) (rs left : List Int) (k : Nat) : List (List Nat) := (List.range k).flatMap fun row => if pop w row = r ∧ okT left row = true ∧ mustT left row (rs.length + 1) = true then (genP w rs (takeT left row)).map (row :: ·) else []
theorem genTo_zero (w : Nat) (r : Int) (rs left : List Int) : genTo w r rs left 0 = [] := rfl
theorem genTo_all (w : Nat) (r : Int) (rs left : List Int) : genTo w r rs left (2 ^ w) = genP w (r :: rs) left := rfl
theorem genTo_yes {w : Nat} {r : Int} {rs left : List Int} {k : Nat} (h : pop w k = r ∧ okT left k = true ∧ mustT left k (rs.length + 1) = true) : genTo w r rs left (k + 1) = genTo w r rs left k ++ (genP w rs (takeT left k)).map (k :: ·) := by
  unfold genTo
  rw [List.range_succ, List.flatMap_append, List.flatMap_cons, List.flatMap_nil, List.append_nil, if_pos h]
theorem genTo_no {w : Nat} {r : Int} {rs left : List Int} {k : Nat} (h : ¬ (pop w k = r ∧ okT left k = true ∧ mustT left k (rs.length + 1) = true)) : genTo w r rs left (k + 1) = genTo w r rs left k := by
  unfold genTo
  rw [List.range_succ, List.flatMap_append, List.flatMap_cons, List.flatMap_nil, List.append_nil, if_neg h, List.append_nil]
theorem genTo_split (w : Nat) (r : Int) (rs left : List Int) (k : Nat) : ∀ d, ∃ rest, genTo w r rs left (k + d) = genTo w r rs left k ++ rest
  | 0 => ⟨[], by simp⟩
  | d + 1 => by
    obtain ⟨rest, e⟩ := genTo_split w r rs left k d
    rw [← Nat.add_assoc]
    by_cases h : pop w (k + d) = r ∧ okT left (k + d) = true ∧ mustT left (k + d) (rs.length + 1) = true
    · exact ⟨_, by rw [genTo_yes h, e, List.append_assoc]⟩
    · exact ⟨rest, by rw [genTo_no h, e]⟩
theorem map_done (done : List Nat) (k : Nat) (L : List (List Nat)) : (L.map (k :: ·)).map (done ++ ·) = L.map ((done ++ [k]) ++ ·) := by
  rw [List.map_map]
  refine List.map_congr_left fun x _ => ?_
  simp
end Go.Proofs.YtbpjceffkchmbaaDoor
end

section
namespace Go.Proofs.YtbpjceffkchmbaaDoor
theorem sumN_shift (f : Nat → Int) : ∀ n, sumN (n + 1) f = f 0 + sumN n fun k => f (k + 1)
  | 0 => by simp [sumN]
  | n + 1 => by
    have := sumN_shift f n
    rw [sumN, this]
    show _ = f 0 + (sumN n (fun k => f (k + 1)) + f (n + 1))
    omega
theorem colSum_cons (r : Nat) (ns : List Nat) (j : Nat) : colSum (r :: ns) j = b2i (r.testBit j) + colSum ns j := by
  unfold colSum
  rw [List.length_cons, sumN_shift]
  congr 1
theorem gen_mem (w : Nat) : ∀ (rs left : List Int) (ns : List Nat), ns ∈ genI w rs left ↔ (∀ r ∈ ns, r < 2 ^ w) ∧ ns.map (pop w) = rs ∧ ∀ j, j < left.length → colSum ns j = left.getD j 0
  | [], left, ns => by
    unfold genI
    by_cases h : left.all (fun x => x == 0) = true
    · rw [if_pos h]
      have hz : ∀ j, j < left.length → left.getD j 0 = 0 := fun j hj => by
        have := List.all_eq_true.1 h (left.getD j 0) (by rw [List.getD_eq_getElem?_getD, List.getElem?_eq_getElem hj]; exact List.getElem_mem hj)
        exact eq_of_beq this
      constructor
      · intro hm
        obtain rfl := List.mem_singleton.1 hm
        exact ⟨by simp, rfl, fun j hj => by rw [hz j hj]; rfl⟩
      · rintro ⟨_, h2, _⟩
        have : ns = [] := by cases ns with
          | nil => rfl
          | cons a l => simp at h2
        rw [this]
        exact List.mem_singleton.2 rfl
    · rw [if_neg h]
      constructor
      · intro hm; cases hm
      · rintro ⟨_, h2, h3⟩
        have : ns = [] := by cases ns with
          | nil => rfl
          | cons a l => simp at h2
        subst this
        exfalso
        refine h (List.all_eq_true.2 fun x hx => ?_)
        obtain ⟨j, hj, e⟩ := List.getElem_of_mem hx
        have := h3 j hj
        rw [List.getD_eq_getElem?_getD, List.getElem?_eq_getElem hj, Option.getD_some, e] at this
        have h0 : colSum [] j = 0 := rfl
        rw [h0] at this
        simp [← this]
  | r :: rs, left, ns => by
    unfold genI
    rw [List.mem_flatMap]
    constructor
    · rintro ⟨row, hrow, hm⟩
      by_cases h : pop w row = r ∧ okT left row = true
      · rw [if_pos h] at hm
        obtain ⟨ms, hms, rfl⟩ := List.mem_map.1 hm
        obtain ⟨g1, g2, g3⟩ := (gen_mem w rs (takeT left row) ms).1 hms
        refine ⟨fun q hq => ?_, by rw [List.map_cons, h.1, g2], fun j hj => ?_⟩
        · rcases List.mem_cons.1 hq with rfl | hq
          · exact List.mem_range.1 hrow
          · exact g1 q hq
        · rw [colSum_cons, g3 j (by rw [length_takeT]; exact hj), takeT_at hj]
          omega
      · rw [if_neg h] at hm
        cases hm
    · rintro ⟨h1, h2, h3⟩
      cases ns with
      | nil => simp at h2
      | cons row ms =>
        rw [List.map_cons] at h2
        injection h2 with e1 e2
        have hn : ∀ j, 0 ≤ colSum ms j := fun j => sumN_nonneg fun i _ => (b2i_bd _).1
        have ok : okT left row = true := okT_iff.2 fun j hj => by
          have := h3 j hj
          rw [colSum_cons] at this
          have := hn j
          omega
        refine ⟨row, List.mem_range.2 (h1 row (List.mem_cons_self ..)), ?_⟩
        rw [if_pos ⟨e1, ok⟩]
        refine List.mem_map.2 ⟨ms, (gen_mem w rs (takeT left row) ms).2 ⟨fun q hq => h1 q (List.mem_cons_of_mem _ hq), e2, fun j hj => ?_⟩, rfl⟩
        rw [length_takeT] at hj
        have := h3 j hj
        rw [colSum_cons] at this
        rw [takeT_at hj]
        omega
theorem nodup_flatMap {α β : Type} {f : α → List β} : ∀ {l : List α}, l.Nodup → (∀ x ∈ l, (f x).Nodup) → (∀ x y z, x ∈ l → y ∈ l → z ∈ f x → z ∈ f y → x = y) → (l.flatMap f).Nodup
  | [], _, _, _ => by simp
  | x :: l, h, h1, h2 => by
    rw [List.flatMap_cons, List.nodup_append]
    have hx := List.nodup_cons.1 h
    refine ⟨h1 x (List.mem_cons_self ..), nodup_flatMap hx.2 (fun y hy => h1 y (List.mem_cons_of_mem _ hy)) fun a b z ha hb => h2 a b z (List.mem_cons_of_mem _ ha) (List.mem_cons_of_mem _ hb), ?_⟩
    intro a ha b hb e
    subst e
    obtain ⟨y, hy, hz⟩ := List.mem_flatMap.1 hb
    have := h2 x y a (List.mem_cons_self ..) (List.mem_cons_of_mem _ hy) ha hz
    subst this
    exact hx.1 hy
theorem nodup_map_inj {α β : Type} {f : α → β} : ∀ {l : List α}, l.Nodup → (∀ x y, x ∈ l → y ∈ l → f x = f y → x = y) → (l.map f).Nodup
  | [], _, _ => by simp
  | x :: l, h, hi => by
    rw [List.map_cons, List.nodup_cons]
    have hx := List.nodup_cons.1 h
    refine ⟨fun hm => ?_, nodup_map_inj hx.2 fun a b ha hb => hi a b (List.mem_cons_of_mem _ ha) (List.mem_cons_of_mem _ hb)⟩
    obtain ⟨y, hy, e⟩ := List.mem_map.1 hm
    have := hi y x (List.mem_cons_of_mem _ hy) (List.mem_cons_self ..) e
    subst this
    exact hx.1 hy
theorem gen_nodup (w : Nat) : ∀ (rs left : List Int), (genI w rs left).Nodup
  | [], left => by
    unfold genI
    split <;> simp
  | r :: rs, left => by
    unfold genI
    refine nodup_flatMap List.nodup_range (fun row _ => ?_) fun x y z _ _ hx hy => ?_
    · split
      · exact nodup_map_inj (gen_nodup w rs _) fun a b _ _ e => by injection e
      · simp
    · split at hx
      · split at hy
        · obtain ⟨a, _, rfl⟩ := List.mem_map.1 hx
          obtain ⟨b, _, e⟩ := List.mem_map.1 hy
          injection e with e1 e2
          exact e1.symm
        · cases hy
      · cases hx
/-- What is sent each to its own, is not more. -/
theorem inj_le {α β : Type} [DecidableEq β] {f : α → β} : ∀ {l : List α} {m : List β}, l.Nodup → (∀ x, x ∈ l → f x ∈ m) → (∀ x y, x ∈ l → y ∈ l → f x = f y → x = y) → l.length ≤ m.length
  | [], m, _, _, _ => Nat.zero_le _
  | x :: l, m, h, h1, h2 => by
    have hx := List.nodup_cons.1 h
    have hm := h1 x (List.mem_cons_self ..)
    have := inj_le (f := f) (l := l) (m := m.erase (f x)) hx.2 (fun y hy => by
      refine (List.mem_erase_of_ne fun e => ?_).2 (h1 y (List.mem_cons_of_mem _ hy))
      have := h2 y x (List.mem_cons_of_mem _ hy) (List.mem_cons_self ..) e
      subst this
      exact hx.1 hy) fun a b ha hb => h2 a b (List.mem_cons_of_mem _ ha) (List.mem_cons_of_mem _ hb)
    rw [List.length_erase_of_mem hm] at this
    have := List.length_pos_of_mem hm
    rw [List.length_cons]
    omega
/-- How many of the images are of a kind. -/
def cntI (w : Nat) (rs cs : List Int) (p : List Nat → Bool) : Nat := ((genI w rs cs).filter p).length
theorem cnt_le {w w' : Nat} {rs cs rs' cs' : List Int} {p p' : List Nat → Bool} (f : List Nat → List Nat) (h1 : ∀ x, x ∈ genI w rs cs → p x = true → f x ∈ genI w' rs' cs' ∧ p' (f x) = true) (h2 : ∀ x y, x ∈ genI w rs cs → y ∈ genI w rs cs → f x = f y → x = y) : cntI w rs cs p ≤ cntI w' rs' cs' p' :=
  inj_le (f := f) ((gen_nodup w rs cs).filter _) (fun x hx => List.mem_filter.2 (h1 x (List.mem_filter.1 hx).1 (List.mem_filter.1 hx).2)) fun x y hx hy => h2 x y (List.mem_filter.1 hx).1 (List.mem_filter.1 hy).1
theorem cnt_all (w : Nat) (rs cs : List Int) (p : List Nat → Bool) : cntI w rs cs p ≤ cntI w rs cs fun _ => true := by
  refine cnt_le id (fun x hx _ => ⟨hx, rfl⟩) fun _ _ _ _ e => e
theorem cnt_sub {w : Nat} {rs cs : List Int} {p q : List Nat → Bool} (h : ∀ x, p x = true → q x = true) : cntI w rs cs p ≤ cntI w rs cs q :=
  cnt_le id (fun x hx hp => ⟨hx, h x hp⟩) fun _ _ _ _ e => e
theorem cnt_pos {w : Nat} {rs cs : List Int} {p : List Nat → Bool} {x : List Nat} (h : x ∈ genI w rs cs) (hp : p x = true) : 0 < cntI w rs cs p := List.length_pos_of_mem (List.mem_filter.2 ⟨h, hp⟩)
section
variable {n : Nat} {ns : List Nat}
/-- An image with these sums is a valid one. -/
theorem gen_img {rs cs : List Int} (h1 : 1 ≤ rs.length) (h6 : rs.length ≤ 6) (w1 : 1 ≤ cs.length) (w6 : cs.length ≤ 6) (h : ns ∈ genI cs.length rs cs) : VImg cs.length ns ∧ rowSums cs.length ns = rs ∧ colSums cs.length ns = cs ∧ ns.length = rs.length := by
  obtain ⟨g1, g2, g3⟩ := (gen_mem _ _ _ _).1 h
  have hl : ns.length = rs.length := by rw [← g2, List.length_map]
  refine ⟨⟨w1, w6, by omega, by omega, g1⟩, g2, list_ext_i (by simp [colSums]) fun j hj => ?_, hl⟩
  have hj' : j < cs.length := by simpa [colSums] using hj
  rw [colSums_getD hj', ← g3 j hj']
  rfl
theorem img_gen (hV : VImg n ns) : ns ∈ genI n (rowSums n ns) (colSums n ns) :=
  (gen_mem _ _ _ _).2 ⟨hV.hi, rfl, fun j hj => by
    have hj' : j < n := by simpa [colSums] using hj
    rw [colSums_getD hj']
    rfl⟩
end
end Go.Proofs.YtbpjceffkchmbaaDoor
end

section
namespace Go.Proofs.YtbpjceffkchmbaaDoor
open Go Go.RowKit
/-- What depends on the blocks below B alone. -/
def Loc {β : Type} (B : Nat) (I : β → World → Prop) : Prop :=
  ∀ s W W', I s W → W'.os = W.os → W'.tape = W.tape → W'.output = W.output → W.heap.size ≤ W'.heap.size → (∀ k, k < B → W'.heap[k]? = W.heap[k]?) → I s W'
/-- What depends on the blocks below B and on those from a on alone, which last are never turned again. -/
def LocX {β : Type} (B : Nat) (I : β → Nat → World → Prop) : Prop :=
  ∀ s a W W', I s a W → W'.os = W.os → W'.tape = W.tape → W'.output = W.output → W.heap.size ≤ W'.heap.size → (∀ k, k < W.heap.size → (k < B ∨ a ≤ k) → W'.heap[k]? = W.heap[k]?) → I s a W'
theorem LocX.putObj {β : Type} {B l a : Nat} {I : β → Nat → World → Prop} (h : LocX B I) {s : β} {W : World} (hs : I s a W) (hl : B ≤ l) (ha : l < a) (o : Obj) : I s a (W.putObj l o) :=
  h s a W _ hs rfl rfl rfl (by simp) fun k _ hk => World.putObj_heap_other (by omega)
/-- All blocks but those of D lie as they lay. -/
structure KeepBut (D : List Nat) (W W' : World) : Prop where
  size : W.heap.size ≤ W'.heap.size
  same : ∀ k, k < W.heap.size → k ∉ D → W'.heap[k]? = W.heap[k]?
theorem KeepBut.refl (D : List Nat) (W : World) : KeepBut D W W := ⟨Nat.le_refl _, fun _ _ _ => rfl⟩
theorem KeepBut.trans {D : List Nat} {A W W' : World} (h : KeepBut D A W) (k : KeepBut D W W') : KeepBut D A W' := ⟨Nat.le_trans h.size k.size, fun i h1 h2 => (k.same i (Nat.lt_of_lt_of_le h1 h.size) h2).trans (h.same i h1 h2)⟩
theorem KeepBut.cons {D : List Nat} {W W' : World} (h : KeepBut D W W') (l : Nat) : KeepBut (l :: D) W W' := ⟨h.size, fun k h1 h2 => h.same k h1 fun hm => h2 (List.mem_cons_of_mem _ hm)⟩
theorem KeepBut.below {D : List Nat} {W W' : World} (h : Below W.heap.size W W') : KeepBut D W W' := ⟨h.size, fun k h1 _ => h.block k h1⟩
theorem KeepBut.setCell {D : List Nat} (W : World) {p : Addr} (hp : p.block ∈ D) (v : Value) : KeepBut D W (W.setCell p v) := ⟨by simp [World.setCell], fun k _ h2 => Below.heap_setCell W p v k (fun e => h2 (by rw [e]; exact hp))⟩
theorem KeepBut.putObj {D : List Nat} {l : Nat} (W : World) (hl : l ∈ D) (o : Obj) : KeepBut D W (W.putObj l o) := ⟨by simp, fun k _ h2 => World.putObj_heap_other (fun e => h2 (by rw [e]; exact hl))⟩
theorem Loc.putObj {β : Type} {B l : Nat} {I : β → World → Prop} (h : Loc B I) {s : β} {W : World} (hs : I s W) (hl : B ≤ l) (o : Obj) : I s (W.putObj l o) :=
  h s W _ hs rfl rfl rfl (by simp) fun k hk => World.putObj_heap_other (by omega)
theorem Loc.below {β : Type} {B : Nat} {I : β → World → Prop} (h : Loc B I) {s : β} {W W' : World} (hs : I s W) (hb : Below W.heap.size W W') (hB : B ≤ W.heap.size) : I s W' :=
  h s W W' hs hb.os hb.tape hb.output hb.size fun k hk => hb.block k (by omega)
/-- An image as it is handed to a round. -/
def imgV (wd h g c : Nat) : Value := .agg #[.int .i64 (wd : Int), .slice (some ⟨g, 0, none⟩) h c]
/-- What an iterator owes that yields the images of L, in order: each in a block of its own making. -/
def ImgIter (P : Program) (n : Nat) (gf : Nat) (lb : Array Value) (wd h : Nat) (D : List Nat) (L : List (List Nat)) (w0 : World) : Prop :=
  ∀ (l : Nat) (J : List (List Nat) → World → Prop) (Jx : List (List Nat) → Nat → World → Prop) (W : World), Below w0.heap.size w0 W → w0.heap.size ≤ l → l < W.heap.size → Loc W.heap.size J → LocX W.heap.size Jx →
    (∀ (pre : List (List Nat)) (ns : List Nat) (g c : Nat) (W1 : World), J pre W1 → (∃ r, L = pre ++ ns :: r) → W.heap.size ≤ g → Row W1 g (casts ns) → W.heap.size ≤ W1.heap.size →
      ∀ m, YieldAt Fence.wide m P l #[imgV wd h g c] W1 fun e W' => (e = .returned (.bool true) ∧ J (pre ++ [ns]) W' ∧ KeepBut (l :: D) W1 W') ∨ (e = .returned (.bool false) ∧ Jx (pre ++ [ns]) W1.heap.size W' ∧ KeepBut (l :: D) W1 W')) →
    J [] W →
    CallsIn Fence.wide n P gf (#[.func (.yield l) #[] #[]] ++ lb) W fun e W' => (∃ v, e = .returned v) ∧ (J L W' ∨ ∃ pre a, Jx pre a W')
/-- How the body of a round may be left. -/
def imgPost (D : List Nat) (I : List (List Nat) → World → Prop) (Ix : Code → List (List Nat) → Nat → World → Prop) (xs : List (List Nat)) (W : World) : Exit → Act → World → Prop
  | .normal, _, W' => KeepBut D W W' ∧ I xs W'
  | .ret, _, W' => KeepBut D W W' ∧ Ix .ret xs W.heap.size W'
  | .exit id, _, W' => KeepBut D W W' ∧ Ix (.exit id) xs W.heap.size W'
  | _, _, _ => False
theorem wpIn_rangeImg {P : Program} {n : Nat} {g : Operand} {p : Tmp} {assign body : Code} {Q : Exit → Act → World → Prop} {a : Act} {w w0 : World} {gf : Nat} {lb : Array Value} {wd h : Nat} {D : List Nat} {L : List (List Nat)}
    (hg : a.eval g = .func (.func gf) #[] lb) (eg : ∀ args w, (callFunc gf args).run P w = .ok (.enter gf args) w) (hseq : ImgIter P (n - 1) gf lb wd h D L w0) (hb0 : Below w0.heap.size w0 w) (hD : ∀ d ∈ D, d < w.heap.size)
    (I : List (List Nat) → World → Prop) (Ix : Code → List (List Nat) → Nat → World → Prop) (hI : Loc w.heap.size I) (hIx : ∀ c, LocX w.heap.size (Ix c)) (h0 : I [] w)
    (aw : Nat → Nat → World → World) (a₁ : Nat → Nat → World → Act) (has : ∀ g c W, Below W.heap.size W (aw g c W))
    (hassign : ∀ (m l g c : Nat) (W : World) (K : Act → World → Prop), K (a₁ g c W) (aw g c W) → assign.wpIn (Fence.wide.inRound l) m P (Exit.then K (fun _ _ _ => False)) { tmps := a.tmps.setIfInBounds p (imgV wd h g c), defers := [] } W)
    (hbody : ∀ (m l : Nat) (pre : List (List Nat)) (ns : List Nat) (g c : Nat) (W W2 : World), I pre W2 → (∃ r, L = pre ++ ns :: r) → w.heap.size + 2 ≤ g → w.heap.size + 2 ≤ W.heap.size → Row W2 g (casts ns) → W2.heap.size = (aw g c W).heap.size →
      (∀ k, w.heap.size + 2 ≤ k → W2.heap[k]? = (aw g c W).heap[k]?) → body.wpIn (Fence.wide.inRound l) m P (imgPost D I Ix (pre ++ [ns]) W2) (a₁ g c W) W2)
    (hdone : ∀ (D : Nat) (W : World), w.heap.size ≤ D → I L W → W.heap[D]? = some (.deferred (some [])) → Q .normal { a with defers := { target := .collected D, args := #[] } :: a.defers } W)
    (hstop : ∀ (D : Nat) (c : Code) (pre : List (List Nat)) (aa : Nat) (W : World), w.heap.size ≤ D → D < aa → Ix c pre aa W → W.heap[D]? = some (.deferred (some [])) → c.wpIn Fence.wide n P Q { a with defers := { target := .collected D, args := #[] } :: a.defers } W) :
    (Code.rangeFunc g #[p] assign body).wpIn Fence.wide n P Q a w := by
  refine wpIn_rangeFunc ?_
  intro fn hfn
  obtain ⟨rec, hrec⟩ : ∃ rec : LoopState → Option Code → Loop, rec = fun st pe => { state := st, pending := pe, fn, tmps := a.tmps, params := #[p], assign, body, defers := w.heap.size } := ⟨_, rfl⟩
  obtain ⟨W1, hW1⟩ : ∃ W1, W1 = (w.alloc (.deferred (some []))).alloc (.loop (rec .ready none)) := ⟨_, rfl⟩
  have hs1 : W1.heap.size = w.heap.size + 2 := by rw [hW1]; simp
  have hL1 : W1.heap[w.heap.size + 1]? = some (.loop (rec .ready none)) := by
    rw [hW1]; have := World.alloc_heap_new (w.alloc (.deferred (some []))) (.loop (rec .ready none)); rwa [World.size_alloc] at this
  have hK1 : W1.heap[w.heap.size]? = some (.deferred (some [])) := by
    rw [hW1]; exact (Below.heap_alloc _ _ _ (by simp)).trans (World.alloc_heap_new w _)
  have hbw : Below w.heap.size w W1 := by rw [hW1]; exact ((Below.refl _ w).alloc (Nat.le_refl _) _).alloc (by simp) _
  have hI1 : I [] W1 := hI.below h0 hbw (Nat.le_refl _)
  have hb1 : Below w0.heap.size w0 W1 := hb0.trans (hbw.mono hb0.size)
  refine ⟨w.heap.size + 1, [{ target := .collected w.heap.size, args := #[] }], W1, { target := .fn (.func gf) lb, args := #[.func (.yield (w.heap.size + 1)) #[] #[]] }, W1, gf,
    #[.func (.yield (w.heap.size + 1)) #[] #[]] ++ lb, W1, ?_, ?_, fun _ _ => trivial, ?_, fun hh => by simp [Fence.wide] at hh, ?_⟩
  · rw [hW1, hrec]; exact run_enterLoop_outer _ _ _ _ _
  · simp only [resolve, hg]
    simp [go_sem]
  · simp [invoke, go_sem, eg]
  have hloc : ∀ {β : Type} {I : β → World → Prop} (X : β → Loop), Loc w.heap.size I → Loc W1.heap.size (fun s W => I s W ∧ W.heap[w.heap.size + 1]? = some (.loop (X s)) ∧ W.heap[w.heap.size]? = some (.deferred (some []))) := fun X hI s A B hs h1 h2 h3 h4 h5 =>
    ⟨hI s A B hs.1 h1 h2 h3 h4 (fun k hk => h5 k (by omega)), (h5 _ (by omega)).trans hs.2.1, (h5 _ (by omega)).trans hs.2.2⟩
  refine (hseq (w.heap.size + 1)
    (fun pre W => I pre W ∧ W.heap[w.heap.size + 1]? = some (.loop (rec .ready none)) ∧ W.heap[w.heap.size]? = some (.deferred (some [])))
    (fun pre a W => ∃ c a', a ≤ a' ∧ w.heap.size + 2 ≤ a' ∧ Ix c pre a' W ∧ W.heap[w.heap.size + 1]? = some (.loop (rec .done (some c))) ∧ W.heap[w.heap.size]? = some (.deferred (some [])))
    W1 hb1 (by have := hb0.size; omega) (by omega) (hloc (fun _ => rec .ready none) hI)
    (fun s a A B hs h1 h2 h3 h4 h5 => by
      obtain ⟨c, a', ha, ha2, hc, hl, hk⟩ := hs
      exact ⟨c, a', ha, ha2, hIx c s a' A B hc h1 h2 h3 h4 (fun k hk hor => h5 k hk (by omega)), (h5 _ (Array.getElem?_eq_some_iff.1 hl).1 (by omega)).trans hl, (h5 _ (Array.getElem?_eq_some_iff.1 hk).1 (by omega)).trans hk⟩)
    ?_ ⟨hI1, hL1, hK1⟩).mono ?_
  · rintro pre ns g c W ⟨hi, hl, hk⟩ hpre hgl hrow hsz m
    have hlt : w.heap.size + 1 < W.heap.size := (Array.getElem?_eq_some_iff.1 hl).1
    have hy := run_yield (P := P) (args := #[imgV wd h g c]) hl (by rw [hrec]; rfl)
    rw [hrec] at hy
    refine ⟨fn, _, assign, body, hy, roundIn_of_wpIn hfn ?_⟩
    dsimp only
    have ez : ∀ t : Array Value, ((#[p] : Array Tmp).zip #[imgV wd h g c]).foldl (fun (tmps : Array Value) (x : Tmp × Value) => tmps.setIfInBounds x.1 x.2) t = t.setIfInBounds p (imgV wd h g c) := fun t => by simp
    rw [ez]
    refine hassign m _ g c W _ ?_
    have hA := has g c W
    have hl' := (hA.block _ hlt).trans hl
    have hk' := (hA.block _ (by omega)).trans hk
    refine ⟨_, run_beginRound hl' (by rw [hrec]), ?_⟩
    obtain ⟨W2, eW2⟩ : ∃ W2, W2 = (aw g c W).putObj (w.heap.size + 1) (.loop { rec .ready none with state := .busy }) := ⟨_, rfl⟩
    have hlt' : w.heap.size + 1 < (aw g c W).heap.size := Nat.lt_of_lt_of_le hlt hA.size
    have hl2 : W2.heap[w.heap.size + 1]? = some (.loop { rec .ready none with state := .busy }) := by rw [eW2]; exact World.putObj_heap_same hlt'
    have hk2 : W2.heap[w.heap.size]? = some (.deferred (some [])) := by rw [eW2]; exact (World.putObj_heap_other (by omega)).trans hk'
    have hs2 : W2.heap.size = (aw g c W).heap.size := by rw [eW2]; simp
    have hoth : ∀ k, w.heap.size + 2 ≤ k → W2.heap[k]? = (aw g c W).heap[k]? := fun k hk => by rw [eW2]; exact World.putObj_heap_other (by omega)
    have hi2 : I pre W2 := by rw [eW2]; exact hI.putObj (hI.below hi hA (by omega)) (by omega) _
    have hrow2 : Row W2 g (casts ns) := hrow.of_block ((hoth g (by omega)).trans (hA.block g hrow.lt))
    have hup : KeepBut ((w.heap.size + 1) :: D) W W2 := by
      rw [eW2]
      exact (KeepBut.below hA).trans (KeepBut.putObj _ (List.mem_cons_self ..) _)
    have hn1 : w.heap.size + 1 ∉ D := fun hm => by have := hD _ hm; omega
    have hn0 : w.heap.size ∉ D := fun hm => by have := hD _ hm; omega
    rw [← eW2]
    refine wpIn_mono (hbody m _ pre ns g c W W2 hi2 hpre (by omega) (by omega) hrow2 hs2 hoth) ?_
    have fin : ∀ (jump : Option Code) (W3 : World), KeepBut D W2 W3 →
        (Instr.endRound (w.heap.size + 1) jump).run P W3 = .ok (.bool jump.isNone) (W3.putObj (w.heap.size + 1) (.loop (rec (if jump.isNone then .ready else .done) jump))) ∧
        (W3.putObj (w.heap.size + 1) (.loop (rec (if jump.isNone then .ready else .done) jump))).heap[w.heap.size + 1]? = some (.loop (rec (if jump.isNone then .ready else .done) jump)) ∧
        (W3.putObj (w.heap.size + 1) (.loop (rec (if jump.isNone then .ready else .done) jump))).heap[w.heap.size]? = some (.deferred (some [])) := fun jump W3 hk3 => by
      have hl3 := (hk3.same (w.heap.size + 1) (by omega) hn1).trans hl2
      have := run_endRound (P := P) jump hl3
      rw [hrec] at this ⊢
      exact ⟨this, World.putObj_heap_same (Array.getElem?_eq_some_iff.1 hl3).1, (World.putObj_heap_other (by omega)).trans ((hk3.same _ (by omega) hn0).trans hk2)⟩
    rintro e a3 W3 hp
    cases e with
    | normal =>
      obtain ⟨hk3, hi3⟩ := hp
      obtain ⟨hr, hl4, hk4⟩ := fin none W3 hk3
      exact ⟨_, _, hr, .inl ⟨rfl, ⟨hI.putObj hi3 (by omega) _, hl4, hk4⟩, (hup.trans (hk3.cons _)).trans (KeepBut.putObj _ (List.mem_cons_self ..) _)⟩⟩
    | ret =>
      obtain ⟨hk3, hi3⟩ := hp
      obtain ⟨hr, hl4, hk4⟩ := fin (some .ret) W3 hk3
      exact ⟨_, _, hr, .inr ⟨rfl, ⟨.ret, W2.heap.size, by have := hA.size; omega, by omega, (hIx _).putObj hi3 (by omega) (by omega) _, hl4, hk4⟩, (hup.trans (hk3.cons _)).trans (KeepBut.putObj _ (List.mem_cons_self ..) _)⟩⟩
    | exit id =>
      obtain ⟨hk3, hi3⟩ := hp
      obtain ⟨hr, hl4, hk4⟩ := fin (some (.exit id)) W3 hk3
      exact ⟨_, _, hr, .inr ⟨rfl, ⟨.exit id, W2.heap.size, by have := hA.size; omega, by omega, (hIx _).putObj hi3 (by omega) (by omega) _, hl4, hk4⟩, (hup.trans (hk3.cons _)).trans (KeepBut.putObj _ (List.mem_cons_self ..) _)⟩⟩
    | goto t => exact hp.elim
    | panic ch => exact hp.elim
    | outgrown => exact hp.elim
  · rintro e W2 ⟨⟨v, rfl⟩, (⟨hi, hl, hk⟩ | ⟨pre, a0, c, aa, ha1, ha2, hi, hl, hk⟩)⟩
    · exact ⟨none, _, by have := run_endLoop (P := P) hl (by rw [hrec]; simp); rw [hrec] at this; exact this, hdone _ _ (Nat.le_refl _) (hI.putObj hi (by omega) _) ((World.putObj_heap_other (by omega)).trans hk)⟩
    · exact ⟨some c, _, by have := run_endLoop (P := P) hl (by rw [hrec]; simp); rw [hrec] at this; exact this, hstop _ c pre aa _ (Nat.le_refl _) (by omega) ((hIx c).putObj hi (by omega) (by omega) _) ((World.putObj_heap_other (by omega)).trans hk)⟩
end Go.Proofs.YtbpjceffkchmbaaDoor
end

section
namespace Go.Proofs.YtbpjceffkchmbaaDoor
open Go.RowKit
/-- What fits reports. -/
def fitB (left : List Int) (row n : Nat) : Bool := okT left row && mustT left row n
theorem fitB_no {left : List Int} {row n j : Nat} (hj : j < left.length) (h : (row.testBit j = true ∧ left.getD j 0 = 0) ∨ (row.testBit j = false ∧ left.getD j 0 = n)) : fitB left row n = false := by
  rw [← Bool.not_eq_true]
  intro hf
  unfold fitB at hf
  rw [Bool.and_eq_true] at hf
  have h1 := okT_iff.1 hf.1 j hj
  have h2 := mustT_iff.1 hf.2 j hj
  rcases h with ⟨e1, e2⟩ | ⟨e1, e2⟩
  · rw [e1, e2] at h1
    simp [b2i] at h1
  · rw [e1] at h2
    rcases h2 with h2 | h2
    · cases h2
    · exact h2 e2
theorem fitB_yes {left : List Int} {row n : Nat} (h0 : ∀ j, j < left.length → 0 ≤ left.getD j 0) (h : ∀ j, j < left.length → ¬ (row.testBit j = true ∧ left.getD j 0 = 0) ∧ ¬ (row.testBit j = false ∧ left.getD j 0 = n)) : fitB left row n = true := by
  unfold fitB
  rw [Bool.and_eq_true]
  refine ⟨okT_iff.2 fun j hj => ?_, mustT_iff.2 fun j hj => ?_⟩
  · have g1 := h0 j hj
    have g2 := (h j hj).1
    cases hb : row.testBit j with
    | false => simp [b2i]; exact g1
    | true =>
      have : left.getD j 0 ≠ 0 := fun e => g2 ⟨hb, e⟩
      have e1 : b2i true = 1 := rfl
      rw [e1]
      omega
  · cases hb : row.testBit j with
    | true => exact .inl rfl
    | false => exact .inr fun e => (h j hj).2 ⟨hb, e⟩
set_option maxHeartbeats 2000000 in
theorem fits_c (row n : Nat) (hr : row < 64) (v : Value) (left : List Int) (h6 : left.length ≤ 6) (h0 : ∀ j, j < left.length → 0 ≤ left.getD j 0) (w : World) (hv : Ints w.heap.size w v left) :
    Calls Tryd.prog 86 #[.int .i64 (row : Int), v, .int .i64 (n : Int)] w fun e w' => e = .returned (.bool (fitB left row n)) ∧ w = w' := by
  obtain ⟨A, cap, rfl⟩ := hv.len
  have HV := Lib.hid hv
  have H0 := Lib.hid h0
  clear hv h0
  go_enter Tryd.func86, Tryd.ntmps86
  go_wp2
  go_loop [12] (fun q => ∃ k : Nat, k ≤ left.length ∧ q = .int .i64 k ∧ ∀ j, j < k → ¬ (row.testBit j = true ∧ left.getD j 0 = 0) ∧ ¬ (row.testBit j = false ∧ left.getD j 0 = n)) (fun q => left.length - (intOf q).toNat)
  case atStart => exact ⟨0, by omega, rfl, fun j hj => by omega⟩
  case round =>
    obtain ⟨k, hk, rfl, hall⟩ := hrel
    have HA := Lib.hid hall
    clear hall
    by_cases hkl : k < left.length
    · obtain ⟨b, off, cap', e, hbl, hc⟩ := HV.out.row (by omega)
      injection e with e1 _ e3
      subst e1 e3
      have hck := hc k hkl
      have hx0 := H0.out k hkl
      obtain ⟨x, ex⟩ : ∃ x, x = left.getD k 0 := ⟨_, rfl⟩
      rw [← ex] at hck hx0
      have EX := Lib.hid ex
      have hsh := shr_and (r := row) (j := k) (by omega)
      clear hc ex
      cases hb : row.testBit k with
      | true =>
        rw [hb] at hsh
        simp only [b2i, if_true] at hsh
        have HB := Lib.hid hb
        clear hb
        by_cases hz : x = 0
        · have HF := Lib.hid (fitB_no (n := n) hkl (.inl ⟨HB.out, by rw [← EX.out]; exact hz⟩))
          subst hz
          go_wp2
          go_returns
          exact ⟨rb HF.out.symm, rfl⟩
        · go_wp2
          go_round
          case rel =>
            refine ⟨k + 1, by omega, by go_num, fun j hj => ?_⟩
            by_cases e : j = k
            · subst e
              refine ⟨fun h => hz (by rw [EX.out]; exact h.2), fun h => ?_⟩
              have := h.1
              rw [HB.out] at this
              cases this
            · exact HA.out j (by omega)
          case measure => simp [intOf]; omega
      | false =>
        rw [hb] at hsh
        simp only [b2i, Bool.false_eq_true, if_false] at hsh
        have HB := Lib.hid hb
        clear hb
        by_cases hz : x = n
        · have HF := Lib.hid (fitB_no (n := n) hkl (.inr ⟨HB.out, by rw [← EX.out]; exact hz⟩))
          subst hz
          go_wp2
          go_returns
          exact ⟨rb HF.out.symm, rfl⟩
        · go_wp2
          go_round
          case rel =>
            refine ⟨k + 1, by omega, by go_num, fun j hj => ?_⟩
            by_cases e : j = k
            · subst e
              refine ⟨fun h => ?_, fun h => hz (by rw [EX.out]; exact h.2)⟩
              have := h.1
              rw [HB.out] at this
              cases this
            · exact HA.out j (by omega)
          case measure => simp [intOf]; omega
    · have HF := Lib.hid (fitB_yes (n := n) H0.out fun j hj => HA.out j (by omega))
      go_wp2
      go_returns
      exact ⟨rb HF.out.symm, rfl⟩
/-- The first k numbers less a row's bits times s. -/
def takeTo (left : List Int) (row : Nat) (s : Int) (k : Nat) : List Int := (List.range left.length).map fun j => if j < k then left.getD j 0 - b2i (row.testBit j) * s else left.getD j 0
theorem length_takeTo (left : List Int) (row : Nat) (s : Int) (k : Nat) : (takeTo left row s k).length = left.length := by simp [takeTo]
theorem takeTo_at {left : List Int} {row : Nat} {s : Int} {k j : Nat} (h : j < left.length) : (takeTo left row s k).getD j 0 = if j < k then left.getD j 0 - b2i (row.testBit j) * s else left.getD j 0 := by
  simp [takeTo, List.getD_eq_getElem?_getD, h]
theorem takeTo_zero (left : List Int) (row : Nat) (s : Int) : takeTo left row s 0 = left := list_ext_i (length_takeTo _ _ _ _) fun j hj => by
  rw [takeTo_at (by rwa [length_takeTo] at hj), if_neg (by omega)]
theorem takeTo_step {left : List Int} {row : Nat} {s : Int} {k : Nat} (hk : k < left.length) : (takeTo left row s k).set k ((takeTo left row s k).getD k 0 - b2i (row.testBit k) * s) = takeTo left row s (k + 1) := by
  refine list_ext_i (by simp [length_takeTo]) fun j hj => ?_
  have hj' : j < left.length := by simpa [length_takeTo] using hj
  rw [takeTo_at hj']
  by_cases e : j = k
  · subst e
    rw [List.getD_eq_getElem?_getD, List.getElem?_set_self (by rw [length_takeTo]; exact hk), Option.getD_some, takeTo_at hk, if_neg (by omega), if_pos (by omega)]
  · rw [List.getD_eq_getElem?_getD, List.getElem?_set_ne (fun h => e h.symm), ← List.getD_eq_getElem?_getD, takeTo_at hj']
    by_cases h : j < k
    · rw [if_pos h, if_pos (by omega)]
    · rw [if_neg h, if_neg (by omega)]
theorem takeTo_one (left : List Int) (row : Nat) : takeTo left row 1 left.length = takeT left row := list_ext_i (by simp [takeTo, takeT]) fun j hj => by
  have hj' : j < left.length := by rwa [length_takeTo] at hj
  rw [takeTo_at hj', takeT_at hj', if_pos hj', Int.mul_one]
theorem takeTo_back (left : List Int) (row : Nat) : takeTo (takeT left row) row (-1) left.length = left := list_ext_i (by simp [takeTo, takeT]) fun j hj => by
  have hj' : j < left.length := by simpa [takeTo, takeT] using hj
  rw [takeTo_at (by rw [length_takeT]; exact hj'), takeT_at hj', if_pos hj']
  omega
set_option maxHeartbeats 2000000 in
theorem take_c (row g cap h : Nat) (s : Int) (hs : s = 1 ∨ s = -1) (hr : row < 64) (left : List Int) (hl : left.length = h) (h6 : h ≤ 6) (hbd : ∀ j, j < left.length → -1 ≤ left.getD j 0 ∧ left.getD j 0 ≤ 7) (w : World) (hR : Row w g left) :
    Calls Tryd.prog 87 #[.slice (some ⟨g, 0, none⟩) h cap, .int .i64 (row : Int), .int .i64 s] w fun e w' => e = .returned (.tuple #[]) ∧ Row w' g (takeTo left row s left.length) ∧ w.grownBy w' (some g) := by
  have HBD := Lib.hid hbd
  have hon := World.grownBy.refl w (some g)
  have hR0 := hR
  rw [← takeTo_zero left row s] at hR0
  clear hbd
  go_enter Tryd.func87, Tryd.ntmps87
  go_wp2
  go_loopw [9] (fun q wr => ∃ k : Nat, k ≤ h ∧ q = .int .i64 k ∧ Row wr g (takeTo left row s k) ∧ w.grownBy wr (some g)) (fun q _ => h - (intOf q).toNat)
  case atStart => exact ⟨0, by omega, rfl, hR0, hon⟩
  case round =>
    clear hR0 hon hR
    obtain ⟨k, hk, rfl, hR, hon⟩ := hrel
    by_cases hkl : k < h
    · have hkL : k < left.length := by omega
      have hlen : Hid (k < (takeTo left row s k).length) := by show _ < _; rw [length_takeTo]; exact hkL
      have hcg := Row.cell hR hlen
      have hst := takeTo_step (row := row) (s := s) hkL
      rw [takeTo_at hkL, if_neg (by omega)] at hcg hst
      have hb := HBD.out k hkL
      obtain ⟨x, ex⟩ : ∃ x, x = left.getD k 0 := ⟨_, rfl⟩
      rw [← ex] at hcg hst hb
      have hsh := shr_and (r := row) (j := k) (by omega)
      have hb01 := b2i_bd (row.testBit k)
      obtain ⟨y, ey⟩ : ∃ y, y = b2i (row.testBit k) := ⟨_, rfl⟩
      rw [← ey] at hsh hb01 hst
      have hys : -1 ≤ y * s ∧ y * s ≤ 1 := by rcases hs with rfl | rfl <;> omega
      have ew1 : IntKind.i64.wrap (y * s) = y * s := IntWalk.i64_in _ ⟨by omega, by omega⟩
      have ew2 : IntKind.i64.wrap (x - y * s) = x - y * s := IntWalk.i64_in _ ⟨by omega, by omega⟩
      have HST := Lib.hid hst
      have HR := Lib.hid hR
      have HO := Lib.hid hon
      have k0 := cell_regrown hcg
      clear ex ey hst hR hon hb
      go_wp2_with fail
      refine wp_region_below_tail 12 (by kernel_rfl) (by kernel_rfl) ?_
      simp only [List.take_succ_cons, List.take_zero, List.drop_succ_cons, List.drop_zero]
      repeat (first | go_big_quiet_step (fail) | quiet_step (fail))
      refine wpQuiet_nil ?_
      intro _ hw0
      obtain ⟨⟨dq, osq⟩, hw1⟩ := hw0
      subst hw1
      have hq := below_regrown wr dq osq
      generalize Go.Sort.grow (redrawn wr dq) osq = w4 at hq ⊢
      clear k0 ew1
      have hR4 := HR.out.below hq HR.out.lt
      have hset := Row.set hR4 hlen (x - y * s)
      rw [HST.out] at hset
      have hcg4 := cell_below hq hcg
      have hfg4 := Row.frozen hR4 k
      have HS := Lib.hid (And.intro hset (only_setCell (only_trans HO.out (only_of_below hq (some g))) (.inl rfl) _ : w.grownBy (w4.setCell ⟨g, k, none⟩ (.int .i64 (x - y * s))) (some g)))
      clear hset hR4 hcg
      go_wp2
      go_roundw
      case rel => exact ⟨k + 1, by omega, by go_num, HS.out.1, HS.out.2⟩
      case measure => simp [intOf]; omega
    · obtain rfl : k = h := by omega
      have HE := Lib.hid (show Row wr g (takeTo left row s left.length) ∧ w.grownBy wr (some g) from ⟨by rw [hl]; exact hR, hon⟩)
      clear hR hon
      go_wp2
      go_end0
      exact ⟨rfl, HE.out⟩
set_option maxHeartbeats 1000000 in
theorem totalZ_c (v : Value) (xs : List Int) (h6 : xs.length ≤ 6) (hz : ∀ k, k < xs.length → xs.getD k 0 = 0) (w : World) (hv : Ints w.heap.size w v xs) :
    Calls Tryd.prog 85 #[v] w fun e w' => e = .returned (.int .i64 0) ∧ w = w' := by
  obtain ⟨A, cap, rfl⟩ := hv.len
  have HB := Lib.hid hz
  have HV := Lib.hid hv
  clear hz hv
  go_enter Tryd.func85, Tryd.ntmps85
  go_wp2
  go_loop [3, 8] (fun s i => ∃ k : Nat, k ≤ xs.length ∧ i = .int .i64 k ∧ s = .int .i64 0) (fun _ i => xs.length - (intOf i).toNat)
  case atStart => exact ⟨0, by omega, rfl, rfl⟩
  case round =>
    obtain ⟨k, hk, rfl, rfl⟩ := hrel
    by_cases hlt : k < xs.length
    · obtain ⟨b, off, cap', e, hbl, hc⟩ := HV.out.row (by omega)
      injection e with e1 _ e3
      subst e1 e3
      have hcr := hc k hlt
      rw [HB.out k hlt] at hcr
      clear hc
      go_wp2
      go_round
      case rel => exact ⟨k + 1, by omega, by go_num, by go_num⟩
      case measure => simp [intOf]; omega
    · go_wp2
      go_returns
      exact ⟨rfl, rfl⟩
end Go.Proofs.YtbpjceffkchmbaaDoor
end

section
namespace Go.Proofs.YtbpjceffkchmbaaDoor
open Go Go.RowKit
theorem keepA {B : Nat} {w w' : World} {A : Option Addr} {n c : Nat} {xs : List Int} (h : Ints B w (.slice A n c) xs) (hk : ∀ (q : Addr) (b off : Nat), A = some ⟨b, off, none⟩ → q.block = b → q.block < B → w'.cell? q = w.cell? q) : Ints B w' (.slice A n c) xs := by
  rcases h with h | ⟨b, off, cap, e, hb, hc⟩
  · exact .inl h
  · exact .inr ⟨b, off, cap, e, hb, fun k hk' => (hk ⟨b, off + k, none⟩ b off (by injection e) rfl hb).trans (hc k hk')⟩
/-- Where the iterator's things lie. -/
structure FP where
  l : Nat
  lo : Nat
  B1 : Nat
  B2 : Nat
  B3 : Nat
  B4 : Nat
  B5 : Nat
  gA : Nat
  cA : Nat
  gL : Nat
  cL : Nat
  wd : Nat
  h : Nat
  cR : Nat
  Bd : Nat
  AR : Option Addr
  rs : List Int
  D : List Nat
  top : Nat
structure FP.Ok (p : FP) : Prop where
  hl : p.rs.length = p.h
  h6 : p.h ≤ 6
  w1 : 1 ≤ p.wd
  w6 : p.wd ≤ 6
  lo2 : p.lo ≤ p.B2
  lo3 : p.lo ≤ p.B3
  lo4 : p.lo ≤ p.B4
  lo5 : p.lo ≤ p.B5
  loA : p.lo ≤ p.gA
  loL : p.lo ≤ p.gL
  aL : p.gA ≠ p.gL
  tL : p.gL < p.top
  a2 : p.gA ≠ p.B2
  a3 : p.gA ≠ p.B3
  a4 : p.gA ≠ p.B4
  a5 : p.gA ≠ p.B5
  l2 : p.gL ≠ p.B2
  l3 : p.gL ≠ p.B3
  l4 : p.gL ≠ p.B4
  l5 : p.gL ≠ p.B5
  b1 : p.B1 < p.lo
  bd : p.Bd ≤ p.lo
  n1 : p.B1 ∉ p.l :: p.D
  nd : ∀ b off, p.AR = some ⟨b, off, none⟩ → b ∉ p.l :: p.D
  dl : ∀ d ∈ p.l :: p.D, d < p.lo
  rb : ∀ i, i < p.h → 0 ≤ p.rs.getD i 0 ∧ p.rs.getD i 0 ≤ 6
def FP.fn (p : FP) : Value := .func (.func 84) #[] #[.pointer (some ⟨p.B1, 0, none⟩), .pointer (some ⟨p.B2, 0, none⟩), .pointer (some ⟨p.B3, 0, none⟩), .pointer (some ⟨p.B4, 0, none⟩), .pointer (some ⟨p.B5, 0, none⟩)]
/-- The iterator's memory: the image ns, the sums to come. -/
structure FMem (p : FP) (W : World) (ns : List Nat) (left : List Int) : Prop where
  r1 : W.cell? ⟨p.B1, 0, none⟩ = some (.slice p.AR p.h p.cR)
  r2 : W.cell? ⟨p.B2, 0, none⟩ = some (.slice (some ⟨p.gL, 0, none⟩) p.wd p.cL)
  r3 : W.cell? ⟨p.B3, 0, none⟩ = some (.func (.yield p.l) #[] #[])
  r4 : W.cell? ⟨p.B4, 0, none⟩ = some (.int .i64 (p.wd : Int))
  r4' : W.cell? ⟨p.B4, 1, none⟩ = some (.slice (some ⟨p.gA, 0, none⟩) p.h p.cA)
  r5 : W.cell? ⟨p.B5, 0, none⟩ = some p.fn
  rows : Ints p.Bd W (.slice p.AR p.h p.cR) p.rs
  ra : Row W p.gA (casts ns)
  rl : Row W p.gL left
  sz : p.lo ≤ W.heap.size
  tz : p.top ≤ W.heap.size
section
variable {p : FP} {W W' : World} {ns : List Nat} {left : List Int}
theorem FMem.blocks (hp : p.Ok) (hm : FMem p W ns left) {ns' : List Nat} {left' : List Int} (hs : W.heap.size ≤ W'.heap.size) (hk : ∀ k, k < W.heap.size → k ∉ p.l :: p.D → k ≠ p.gA → k ≠ p.gL → W'.heap[k]? = W.heap[k]?) (ha : Row W' p.gA (casts ns')) (hl : Row W' p.gL left') : FMem p W' ns' left' := by
  have hc : ∀ {b o : Nat} {v : Value}, W.cell? ⟨b, o, none⟩ = some v → b ∉ p.l :: p.D → b ≠ p.gA → b ≠ p.gL → W'.cell? ⟨b, o, none⟩ = some v := fun {b o v} h n1 n2 n3 => by
    rw [← h]
    unfold World.cell?
    rw [hk b (lt_of_cell h) n1 n2 n3]
  have up : ∀ b, p.lo ≤ b → b ∉ p.l :: p.D := fun b hb hm => by have := hp.dl b hm; omega
  have hb1 := hp.b1
  have hA := hp.loA
  have hL := hp.loL
  refine ⟨hc hm.r1 hp.n1 (by omega) (by omega), hc hm.r2 (up _ hp.lo2) hp.a2.symm hp.l2.symm, hc hm.r3 (up _ hp.lo3) hp.a3.symm hp.l3.symm, hc hm.r4 (up _ hp.lo4) hp.a4.symm hp.l4.symm, hc hm.r4' (up _ hp.lo4) hp.a4.symm hp.l4.symm, hc hm.r5 (up _ hp.lo5) hp.a5.symm hp.l5.symm, ?_, ha, hl, Nat.le_trans hm.sz hs, Nat.le_trans hm.tz hs⟩
  refine keepA hm.rows fun q b off hA hqb hq => ?_
  have hbd := hp.bd
  have hsz := hm.sz
  unfold World.cell?
  rw [hk q.block (by omega) (hqb ▸ hp.nd b off hA) (by omega) (by omega)]
theorem FMem.keep (hp : p.Ok) (hm : FMem p W ns left) (hk : KeepBut (p.l :: p.D) W W') : FMem p W' ns left := by
  have up : ∀ b, p.lo ≤ b → b ∉ p.l :: p.D := fun b hb hm => by have := hp.dl b hm; omega
  exact hm.blocks hp hk.size (fun k h1 h2 _ _ => hk.same k h1 h2) (hm.ra.of_block (hk.same _ hm.ra.lt (up _ hp.loA))) (hm.rl.of_block (hk.same _ hm.rl.lt (up _ hp.loL)))
theorem FMem.below (hp : p.Ok) (hm : FMem p W ns left) (hb : Below W.heap.size W W') : FMem p W' ns left := hm.keep hp (KeepBut.below hb)
theorem FMem.setA (hp : p.Ok) (hm : FMem p W ns left) {i : Nat} (hi : i < ns.length) (r : Nat) : FMem p (W.setCell ⟨p.gA, i, none⟩ (.int .i64 (r : Int))) (ns.set i r) left := by
  have hr := hm.ra.set (k := i) (by rw [length_casts]; exact hi) (r : Int)
  rw [casts_set] at hr
  exact hm.blocks hp (by simp [World.setCell]) (fun k h1 _ h3 _ => Below.heap_setCell W _ _ k h3) hr (hm.rl.far (by exact fun e => hp.aL e.symm) _)
theorem FMem.setL (hp : p.Ok) (hm : FMem p W ns left) {left' : List Int} (hg : W.grownBy W' (some p.gL)) (hl : Row W' p.gL left') : FMem p W' ns left' :=
  hm.blocks hp hg.size (fun k h1 _ _ h4 => hg.block k h1 (fun e => by cases e; exact h4 rfl)) (hm.ra.of_block (hg.block _ hm.ra.lt (fun e => by injection e with e; exact hp.aL e))) hl
end
theorem Loc.grown {β : Type} {B g : Nat} {I : β → World → Prop} (h : Loc B I) {s : β} {W W' : World} (hs : I s W) (hg : W.grownBy W' (some g)) (hB : B ≤ g) (hz : B ≤ W.heap.size) : I s W' :=
  h s W W' hs hg.os hg.tape hg.output hg.size fun k hk => hg.block k (by omega) (fun e => by cases e; omega)
theorem LocX.grown {β : Type} {B g a : Nat} {I : β → Nat → World → Prop} (h : LocX B I) {s : β} {W W' : World} (hs : I s a W) (hg : W.grownBy W' (some g)) (hB : B ≤ g) (ha : g < a) : I s a W' :=
  h s a W W' hs hg.os hg.tape hg.output hg.size fun k hk hor => hg.block k hk (fun e => by cases e; omega)
theorem Loc.setCell {β : Type} {B : Nat} {I : β → World → Prop} (h : Loc B I) {s : β} {W : World} (hs : I s W) {q : Addr} (hB : B ≤ q.block) (v : Value) : I s (W.setCell q v) :=
  h s W _ hs rfl rfl rfl (by simp [World.setCell]) fun k hk => Below.heap_setCell W q v k (by omega)
/-- What a call of fill owes. -/
def FillOut (p : FP) (J : List (List Nat) → World → Prop) (Jx : List (List Nat) → Nat → World → Prop) (done : List Nat) (left : List Int) (i : Nat) (all : List (List Nat)) (e : Ending) (W' : World) : Prop :=
  (e = .returned (.bool true) ∧ J all W' ∧ ∃ ns', ns'.length = p.h ∧ ns'.take i = done ∧ FMem p W' ns' left) ∨ (e = .returned (.bool false) ∧ (∃ q a, p.top ≤ a ∧ Jx q a W') ∧ ∃ ns', FMem p W' ns' left)
def fillArgs (p : FP) (i : Nat) : Array Value := #[.int .i64 (i : Int), .pointer (some ⟨p.B1, 0, none⟩), .pointer (some ⟨p.B2, 0, none⟩), .pointer (some ⟨p.B3, 0, none⟩), .pointer (some ⟨p.B4, 0, none⟩), .pointer (some ⟨p.B5, 0, none⟩)]
theorem pop_w {wd k : Nat} (h : k < 2 ^ wd) (hw : wd ≤ 6) : pop 6 k = pop wd k := by
  have e : ∀ d, pop (wd + d) k = pop wd k := fun d => by
    induction d with
    | zero => rfl
    | succ d ih =>
      have : pop (wd + d + 1) k = pop (wd + d) k + b2i (k.testBit (wd + d)) := rfl
      rw [← Nat.add_assoc, this, ih, Nat.testBit_lt_two_pow (Nat.lt_of_lt_of_le h (Nat.pow_le_pow_right (by omega) (by omega)))]
      simp [b2i]
  have := e (6 - wd)
  rwa [show wd + (6 - wd) = 6 by omega] at this
set_option maxHeartbeats 2000000 in
/-- At the end of the rows: the image is yielded. -/
theorem fill_leaf (p : FP) (hp : p.Ok) (L : List (List Nat)) (J : List (List Nat) → World → Prop) (Jx : List (List Nat) → Nat → World → Prop)
    (hY : ∀ (pre : List (List Nat)) (ns : List Nat) (W1 : World), J pre W1 → (∃ r, L = pre ++ ns :: r) → Row W1 p.gA (casts ns) → p.lo ≤ W1.heap.size → p.top ≤ W1.heap.size →
      ∀ m, YieldAt Fence.wide m Tryd.prog p.l #[imgV p.wd p.h p.gA p.cA] W1 fun e W' => (e = .returned (.bool true) ∧ J (pre ++ [ns]) W' ∧ KeepBut (p.l :: p.D) W1 W') ∨ (e = .returned (.bool false) ∧ Jx (pre ++ [ns]) W1.heap.size W' ∧ KeepBut (p.l :: p.D) W1 W'))
    (ns : List Nat) (left : List Int) (pre post : List (List Nat)) (W : World) (hn : ns.length = p.h) (hll : left.length = p.wd) (hin : InR 0 left) (hL : L = pre ++ [ns] ++ post) (hJ0 : J pre W) (hm : FMem p W ns left) :
    Calls Tryd.prog 84 (fillArgs p p.h) W (FillOut p J Jx ns left p.h (pre ++ [ns])) := by
  have hz : ∀ k, k < left.length → left.getD k 0 = 0 := fun k hk => by have := hin k hk; omega
  have HT := totalZ_c (.slice (some ⟨p.gL, 0, none⟩) p.wd p.cL) left (by rw [hll]; exact hp.w6) hz W (by have := hm.rl.ints hm.rl.lt p.cL; rwa [hll] at this)
  have HY := hY pre ns W hJ0 ⟨post, by rw [hL]; simp⟩ hm.ra hm.sz hm.tz
  have HM := Lib.hid (And.intro hm (And.intro hn hp))
  have r1 := hm.r1
  have r2 := hm.r2
  have r3 := hm.r3
  have r4 := hm.r4
  have r4' := hm.r4'
  refine (callsIn_wide (n := 3)).1 ?_
  refine callsIn_of_wp Tryd.func84 rfl trivial ?_ rfl
  unfold fillArgs
  simp only [Tryd.ntmps84, List.size_toArray, List.length_cons, List.length_nil, Nat.reduceAdd, Nat.reduceSub, Array.replicate_succ, Array.replicate_zero, List.push_toArray, List.append_toArray, List.nil_append, List.cons_append]
  clear hm hY hz hin hL hJ0
  gi_wp2_with (refine ⟨trivial, ?_⟩; gi_at_call 85; refine (callsIn_wide.2 HT).mono ?_; rintro e w' ⟨rfl, rfl⟩)
  obtain ⟨fn, tmps, assign, body, hy, hR⟩ := HY 2
  unfold imgV at hy
  gi_wp2
  rw [hy]
  refine ⟨fun hh => by simp [Fence.wide] at hh, hR.mono ?_⟩
  rintro e w' (⟨rfl, hJ1, hk1⟩ | ⟨rfl, hJ1, hk1⟩)
  · have HK := Lib.hid (And.intro hJ1 (HM.out.1.keep HM.out.2.2 hk1))
    clear hJ1 hk1
    gi_wp2
    go_returns
    exact .inl ⟨rfl, HK.out.1, ns, HM.out.2.1, List.take_of_length_le (by rw [HM.out.2.1]; exact Nat.le_refl _), HK.out.2⟩
  · have HK := Lib.hid (And.intro hJ1 (HM.out.1.keep HM.out.2.2 hk1))
    clear hJ1 hk1
    gi_wp2
    go_returns
    exact .inr ⟨rfl, ⟨_, _, HM.out.1.tz, HK.out.1⟩, ns, HK.out.2⟩
set_option maxHeartbeats 4000000 in
set_option maxRecDepth 100000 in
/-- Fill, from whatever row on. -/
theorem fill_c (p : FP) (hp : p.Ok) (L : List (List Nat)) (J : List (List Nat) → World → Prop) (Jx : List (List Nat) → Nat → World → Prop) (hJ : Loc p.lo J) (hJx : LocX p.lo Jx)
    (hY : ∀ (pre : List (List Nat)) (ns : List Nat) (W1 : World), J pre W1 → (∃ r, L = pre ++ ns :: r) → Row W1 p.gA (casts ns) → p.lo ≤ W1.heap.size → p.top ≤ W1.heap.size →
      ∀ m, YieldAt Fence.wide m Tryd.prog p.l #[imgV p.wd p.h p.gA p.cA] W1 fun e W' => (e = .returned (.bool true) ∧ J (pre ++ [ns]) W' ∧ KeepBut (p.l :: p.D) W1 W') ∨ (e = .returned (.bool false) ∧ Jx (pre ++ [ns]) W1.heap.size W' ∧ KeepBut (p.l :: p.D) W1 W')) :
    ∀ (m i : Nat) (done : List Nat) (left : List Int) (ns : List Nat) (pre post : List (List Nat)) (W : World), i + m = p.h → ns.length = p.h → ns.take i = done → left.length = p.wd → InR m left →
      L = pre ++ (genP p.wd (p.rs.drop i) left).map (done ++ ·) ++ post → J pre W → FMem p W ns left →
      Calls Tryd.prog 84 (fillArgs p i) W (FillOut p J Jx done left i (pre ++ (genP p.wd (p.rs.drop i) left).map (done ++ ·)))
  | 0, i, done, left, ns, pre, post, W, hi, hn, hd, hll, hin, hL, hJ0, hm => by
    obtain rfl : i = p.h := by omega
    have hnd : ns = done := by rw [← hd, ← hn, List.take_length]
    have hdr : p.rs.drop p.h = [] := by rw [← hp.hl, List.drop_length]
    have hg : (genP p.wd (p.rs.drop p.h) left).map (done ++ ·) = [ns] := by rw [hdr, hnd]; simp [genP]
    rw [hg] at hL ⊢
    rw [← hnd]
    exact fill_leaf p hp L J Jx hY ns left pre post W hn hll hin hL hJ0 hm
  | m + 1, i, done, left, ns, pre, post, W, hi, hn, hd, hll, hin, hL, hJ0, hm => by
    have hih : i < p.h := by omega
    have hw1 := hp.w1
    have hw6 := hp.w6
    have hh6 := hp.h6
    have hdr : p.rs.drop i = p.rs.getD i 0 :: p.rs.drop (i + 1) := by
      have : i < p.rs.length := by rw [hp.hl]; exact hih
      rw [List.drop_eq_getElem_cons this, List.getD_eq_getElem?_getD, List.getElem?_eq_getElem this]
      rfl
    have hdl : (p.rs.drop (i + 1)).length = m := by rw [List.length_drop, hp.hl]; omega
    rw [hdr] at hL ⊢
    obtain ⟨r, er⟩ : ∃ r, r = p.rs.getD i 0 := ⟨_, rfl⟩
    have hrb := hp.rb i hih
    rw [← er] at hL hrb ⊢
    have ER := Lib.hid er
    have hsh := sh_pw (W := (p.wd : Int)) (by omega) (by omega)
    rw [Int.toNat_natCast] at hsh
    have hall := genTo_all p.wd r (p.rs.drop (i + 1)) left
    rw [← hall] at hL ⊢
    have h64 : 2 ^ p.wd ≤ 64 := pow6 hw6
    obtain ⟨N, eN⟩ : ∃ N, N = 2 ^ p.wd := ⟨_, rfl⟩
    have hshN : wrap64 (2 ^ p.wd) = (N : Int) := by rw [hsh, eN]; unfold pw; simp
    have IH := fill_c p hp L J Jx hJ hJx hY m (i + 1)
    have HEN := Lib.hid eN
    rw [← eN] at h64 hL ⊢
    have HI := Lib.hid (And.intro hL (And.intro hll (And.intro hin (And.intro hp (And.intro hdl (And.intro hJ hJx))))))
    have HIH := Lib.hid IH
    have r1 := hm.r1
    have r4 := hm.r4
    have HM := Lib.hid (And.intro hJ0 (And.intro hm (And.intro hn hd)))
    have hne : ¬ (i : Int) = (p.h : Int) := by omega
    have hsub : (p.h : Int) - (i : Int) = ((m + 1 : Nat) : Int) := by omega
    clear hL er hdr hY hall hll hin hdl hJ0 hm hn hd hsh IH eN
    unfold fillArgs
    go_enter Tryd.func84, Tryd.ntmps84
    go_wp2_with fail
    go_loopw [25] (fun q wr => ∃ k : Nat, k ≤ N ∧ q = .int .i64 (k : Int) ∧ J (pre ++ (genTo p.wd r (p.rs.drop (i + 1)) left k).map (done ++ ·)) wr ∧ ∃ ns', ns'.length = p.h ∧ ns'.take i = done ∧ FMem p wr ns' left) (fun q _ => N - (intOf q).toNat)
    case atStart => exact ⟨0, Nat.zero_le _, rfl, by rw [genTo_zero, List.map_nil, List.append_nil]; exact HM.out.1, ns, HM.out.2.2.1, HM.out.2.2.2, HM.out.2.1⟩
    case round =>
      clear r1 r4 hJ hJx hp
      obtain ⟨k, hk, rfl, hJk, ns1, hn1, hd1, hm1⟩ := hrel
      by_cases hlt : k < N
      · have hk64 : k < 64 := by omega
        have hkw : k < 2 ^ p.wd := by rw [← HEN.out]; exact hlt
        obtain ⟨b, off, cp, eS, hlb, hcb⟩ := hm1.rows.row (by rw [HI.out.2.2.2.1.hl]; omega)
        rw [HI.out.2.2.2.1.hl] at hcb
        injection eS with eA eN eC
        clear eN
        have hcr := hcb i hih
        rw [← ER.out] at hcr
        have s1 := hm1.r1
        rw [eA] at s1
        have s2 := hm1.r2
        have hv1 : Ints wr.heap.size wr (.slice (some ⟨p.gL, 0, none⟩) p.wd p.cL) left := by have := hm1.rl.ints hm1.rl.lt p.cL; rwa [HI.out.2.1] at this
        have HO : ∀ W : World, Calls Tryd.prog 51 #[.int .i64 (k : Int)] W fun e w' => e = .returned (.int .i64 (pop p.wd k)) ∧ W = w' := fun W => by rw [← pop_w hkw hw6]; exact ones_c k hk64 W
        have HK := Lib.hid (And.intro hJk (And.intro hn1 (And.intro hd1 hm1)))
        clear hJk hn1 hd1 hm1 hcb eA eC
        have k1 := cell_regrown s1
        have k2 := cell_regrown s2
        have k3 := cell_regrown hcr
        by_cases hpp : pop p.wd k = r
        · have HF : ∀ d os, Calls Tryd.prog 86 #[.int .i64 (k : Int), .slice (some ⟨p.gL, 0, none⟩) p.wd p.cL, .int .i64 ((p.h : Int) - (i : Int))] (Go.Sort.grow (redrawn wr d) os) fun e w' => e = .returned (.bool (fitB left k (m + 1))) ∧ Go.Sort.grow (redrawn wr d) os = w' := fun d os => by
            rw [hsub]
            exact fits_c k (m + 1) hk64 _ left (by rw [HI.out.2.1]; exact hw6) (fun j hj => (HI.out.2.2.1 j hj).1) _ ((hv1.rg (Nat.le_refl _) d os).more (rg_size _ d os))
          have ew : IntKind.i64.wrap ((p.h : Int) - (i : Int)) = (p.h : Int) - (i : Int) := IntWalk.i64_in _ ⟨by omega, by omega⟩
          obtain ⟨q, eq⟩ : ∃ q, q = pop p.wd k := ⟨_, rfl⟩
          rw [← eq] at HO hpp
          subst hpp
          have HEQ := Lib.hid eq
          clear eq
          obtain ⟨fb, efb⟩ : ∃ fb, fb = fitB left k (m + 1) := ⟨_, rfl⟩
          rw [← efb] at HF
          have HFB := Lib.hid efb
          clear efb hsub
          go_wp2_with fail
          refine wp_region_quiet_below (by kernel_rfl) (by kernel_rfl) ?_
          repeat (first | go_big_quiet_step (first | (go_at_call 51; with_reducible exact Calls.rgs (HO _)) | (go_at_call 86; with_reducible exact Calls.rgs (HF _ _))) | quiet_step (first | (go_at_call 51; with_reducible exact Calls.rgs (HO _)) | (go_at_call 86; with_reducible exact Calls.rgs (HF _ _))))
          refine wpQuiet_nil ?_
          intro _ hw0
          obtain ⟨⟨dq, osq⟩, hw1⟩ := hw0
          subst hw1
          have hq := below_regrown wr dq osq
          generalize Go.Sort.grow (redrawn wr dq) osq = w4 at hq ⊢
          clear k1 k2 k3 HO HF ew hcr s1 s2 hv1
          cases fb with
          | false =>
            go_wp2
            go_roundw
            case rel =>
              have hp := HI.out.2.2.2.1
              have hJ := HI.out.2.2.2.2.2.1
              have hno : ¬ (pop p.wd k = q ∧ okT left k = true ∧ mustT left k ((p.rs.drop (i + 1)).length + 1) = true) := fun h => by
                rw [HI.out.2.2.2.2.1] at h
                have := HFB.out
                unfold fitB at this
                rw [h.2.1, h.2.2] at this
                cases this
              refine ⟨k + 1, by omega, by go_num, ?_, ns1, HK.out.2.1, HK.out.2.2.1, HK.out.2.2.2.below hp hq⟩
              rw [genTo_no hno]
              exact hJ.below HK.out.1 hq HK.out.2.2.2.sz
            case measure => simp [intOf]; omega
          | true =>
            have hp := HI.out.2.2.2.1
            have hJ := HI.out.2.2.2.2.2.1
            have hJx := HI.out.2.2.2.2.2.2
            have hFT : okT left k = true ∧ mustT left k (m + 1) = true := by
              have := HFB.out
              unfold fitB at this
              have h := (Bool.and_eq_true _ _).mp this.symm
              exact h
            have m4 := HK.out.2.2.2.below hp hq
            have J4 := hJ.below HK.out.1 hq HK.out.2.2.2.sz
            have hil : i < ns1.length := by rw [HK.out.2.1]; exact hih
            have a1 := m4.r4'
            have az := Row.frozen m4.ra i
            have m5 := m4.setA hp hil k
            have J5 := hJ.setCell J4 (q := ⟨p.gA, i, none⟩) hp.loA (.int .i64 (k : Int))
            have a2 := m5.r2
            have ac := Row.cell m4.ra (k := i) (by rw [length_casts]; exact hil)
            have hlt5 := InR.take HI.out.2.2.1 hFT.1 hFT.2
            have HT := take_c k p.gL p.cL p.wd 1 (.inl rfl) hk64 left HI.out.2.1 hw6 (fun j hj => by have := HI.out.2.2.1 j hj; omega) _ m5.rl
            rw [takeTo_one] at HT
            have H5 := Lib.hid (And.intro m5 (And.intro J5 (And.intro hlt5 (And.intro hp (And.intro hJ (And.intro hJx (And.intro hFT hil)))))))
            clear m4 J4 m5 J5 hlt5 hp hJ hJx hFT hil hq
            go_wp2_with fail
            refine HT.mono ?_
            rintro e w6 ⟨rfl, hR6, hg6⟩
            obtain ⟨m5, J5, hlt5, hp, hJ, hJx, hFT, hil⟩ := H5.out
            have m6 := m5.setL hp hg6 hR6
            have J6 := hJ.grown J5 hg6 hp.loL m5.sz
            have a5 := m6.r5
            have hlT : (takeT left k).length = p.wd := by rw [length_takeT]; exact HI.out.2.1
            have hdk : (ns1.set i k).take (i + 1) = done ++ [k] := by
              rw [List.take_add_one, List.take_set_of_le (Nat.le_refl i), HK.out.2.2.1, List.getElem?_set_self hil]
              rfl
            have hyes : pop p.wd k = q ∧ okT left k = true ∧ mustT left k ((p.rs.drop (i + 1)).length + 1) = true := ⟨HEQ.out.symm, hFT.1, by rw [HI.out.2.2.2.2.1]; exact hFT.2⟩
            have hgy := genTo_yes hyes
            have e1 : (genTo p.wd q (p.rs.drop (i + 1)) left (k + 1)).map (done ++ ·) = (genTo p.wd q (p.rs.drop (i + 1)) left k).map (done ++ ·) ++ (genP p.wd (p.rs.drop (i + 1)) (takeT left k)).map ((done ++ [k]) ++ ·) := by
              rw [hgy, List.map_append, map_done]
            obtain ⟨rest, er⟩ := genTo_split p.wd q (p.rs.drop (i + 1)) left (k + 1) (N - (k + 1))
            rw [show k + 1 + (N - (k + 1)) = N by omega] at er
            have hL2 : L = (pre ++ (genTo p.wd q (p.rs.drop (i + 1)) left k).map (done ++ ·)) ++ (genP p.wd (p.rs.drop (i + 1)) (takeT left k)).map ((done ++ [k]) ++ ·) ++ (rest.map (done ++ ·) ++ post) := by
              rw [HI.out.1, er, List.map_append, e1]
              simp only [List.append_assoc]
            have hCall := HIH.out (done ++ [k]) (takeT left k) (ns1.set i k) (pre ++ (genTo p.wd q (p.rs.drop (i + 1)) left k).map (done ++ ·)) (rest.map (done ++ ·) ++ post) w6 (by omega) (by rw [List.length_set]; exact HK.out.2.1) hdk hlT hlt5 hL2 J6 m6
            rw [List.append_assoc, ← e1] at hCall
            unfold fillArgs at hCall
            unfold FP.fn at a5
            have HE1 := Lib.hid hgy
            have ewi : IntKind.i64.wrap ((i : Int) + 1) = (i : Int) + 1 := IntWalk.i64_in _ ⟨by omega, by omega⟩
            have H6 := Lib.hid (And.intro hlt5 (And.intro hp (And.intro hJ (And.intro hJx (And.intro hFT hil)))))
            clear m5 J5 hlt5 hp hJ hJx hFT hil m6 J6 hlT hdk hyes hgy e1 er hL2 a1 az a2 ac HT H5
            go_wp2_with fail
            refine hCall.mono ?_
            rintro e w7 hfo
            obtain ⟨hlt5, hp, hJ, hJx, hFT, hil⟩ := H6.out
            have hbT : ∀ j, j < (takeT left k).length → -1 ≤ (takeT left k).getD j 0 ∧ (takeT left k).getD j 0 ≤ 7 := fun j hj => by have := hlt5 j hj; omega
            have hlT : (takeT left k).length = p.wd := by rw [length_takeT]; exact HI.out.2.1
            have hback := takeTo_back left k
            rw [HI.out.2.1] at hback
            rcases hfo with ⟨rfl, hJ7, ns7, h7, d7, m7⟩ | ⟨rfl, ⟨qq, aq, haq, hJx7⟩, ns7, m7⟩
            · have a2 := m7.r2
              have HT2 := take_c k p.gL p.cL p.wd (-1) (.inr rfl) hk64 (takeT left k) hlT hw6 hbT w7 m7.rl
              rw [hlT, hback] at HT2
              have d7' : ns7.take i = done := by
                have := congrArg (List.take i) d7
                rwa [List.take_take, Nat.min_eq_left (by omega), List.take_append_of_le_length (by rw [← HK.out.2.2.1, List.length_take, HK.out.2.1]; omega), ← HK.out.2.2.1, List.take_take, Nat.min_self, HK.out.2.2.1] at this
              have H7 := Lib.hid (And.intro hJ7 (And.intro h7 (And.intro d7' (And.intro m7 (And.intro hp hJ)))))
              clear hJ7 h7 d7 d7' m7 hp hJ hJx hlt5 hFT hil hbT hlT hback a5 hCall
              go_wp2_with fail
              refine HT2.mono ?_
              rintro e w8 ⟨rfl, hR8, hg8⟩
              obtain ⟨hJ7, h7, d7, m7, hp, hJ⟩ := H7.out
              have H8 := Lib.hid (And.intro (hJ.grown hJ7 hg8 hp.loL m7.sz) (And.intro h7 (And.intro d7 (m7.setL hp hg8 hR8))))
              clear hJ7 h7 d7 m7 hp hJ hR8 hg8 HT2 a2
              go_wp2
              go_roundw
              case rel => exact ⟨k + 1, by omega, by go_num, H8.out.1, ns7, H8.out.2.1, H8.out.2.2.1, H8.out.2.2.2⟩
              case measure => simp [intOf]; omega
            · have a2 := m7.r2
              have HT2 := take_c k p.gL p.cL p.wd (-1) (.inr rfl) hk64 (takeT left k) hlT hw6 hbT w7 m7.rl
              rw [hlT, hback] at HT2
              have H7 := Lib.hid (And.intro hJx7 (And.intro m7 (And.intro hp hJx)))
              clear hJx7 m7 hp hJ hJx hlt5 hFT hil hbT hlT hback a5 hCall
              go_wp2_with fail
              refine HT2.mono ?_
              rintro e w8 ⟨rfl, hR8, hg8⟩
              obtain ⟨hJ7, m7, hp, hJ⟩ := H7.out
              have H8 := Lib.hid (And.intro (hJ.grown hJ7 hg8 hp.loL (Nat.lt_of_lt_of_le hp.tL haq)) (m7.setL hp hg8 hR8))
              clear hJ7 m7 hp hJ hR8 hg8 HT2 a2
              go_wp2
              go_returns
              exact .inr ⟨rfl, ⟨qq, aq, haq, H8.out.1⟩, ns7, H8.out.2⟩
        · obtain ⟨q, eq⟩ : ∃ q, q = pop p.wd k := ⟨_, rfl⟩
          rw [← eq] at HO hpp
          have HEQ := Lib.hid eq
          clear eq
          go_wp2_with fail
          refine wp_region_quiet_below (by kernel_rfl) (by kernel_rfl) ?_
          repeat (first | go_big_quiet_step (first | (go_at_call 51; with_reducible exact Calls.rgs (HO _))) | quiet_step (first | (go_at_call 51; with_reducible exact Calls.rgs (HO _))))
          refine wpQuiet_nil ?_
          intro _ hw0
          obtain ⟨⟨dq, osq⟩, hw1⟩ := hw0
          subst hw1
          have hq := below_regrown wr dq osq
          generalize Go.Sort.grow (redrawn wr dq) osq = w4 at hq ⊢
          clear k1 k2 k3 HO hcr s1 s2 hv1
          go_wp2
          go_roundw
          case rel =>
            have hp := HI.out.2.2.2.1
            have hJ := HI.out.2.2.2.2.2.1
            have hno : ¬ (pop p.wd k = r ∧ okT left k = true ∧ mustT left k ((p.rs.drop (i + 1)).length + 1) = true) := fun h => hpp (HEQ.out.trans h.1)
            refine ⟨k + 1, by omega, by go_num, ?_, ns1, HK.out.2.1, HK.out.2.2.1, HK.out.2.2.2.below hp hq⟩
            rw [genTo_no hno]
            exact hJ.below HK.out.1 hq HK.out.2.2.2.sz
          case measure => simp [intOf]; omega
      · obtain rfl : k = N := by omega
        have HE := Lib.hid (And.intro hJk (And.intro hn1 (And.intro hd1 hm1)))
        clear hJk hn1 hd1 hm1
        go_wp2
        go_returns
        exact .inl ⟨rfl, HE.out.1, ns1, HE.out.2.1, HE.out.2.2.1, HE.out.2.2.2⟩
end Go.Proofs.YtbpjceffkchmbaaDoor
end

section
namespace Go.Proofs.YtbpjceffkchmbaaDoor
open Go Go.RowKit Go.Shelf
theorem run_store_fnI {P : Program} {w : World} (a : Addr) (m : Mode) (f : Fn) (xs : Array Value) (ys : Array Value) : (store a (.func f xs ys) m).run P w = stored P w a (.func f xs ys) m := run_store P w a _ m rfl
attribute [local go_sem] Oper.semAt_some run_store_fnI
set_option maxHeartbeats 4000000 in
set_option maxRecDepth 100000 in
theorem iter_images2 (n wd h : Nat) (rs cs : List Int) (hrl : rs.length = h) (hcl : cs.length = wd) (h1 : 1 ≤ h) (h6 : h ≤ 6) (w1 : 1 ≤ wd) (w6 : wd ≤ 6) (hrb : ∀ i, i < h → 0 ≤ rs.getD i 0 ∧ rs.getD i 0 ≤ 6) (hin : InR h cs)
    (AR AC : Option Addr) (cR cC B1 Bc Bd : Nat) (D : List Nat) (w0 : World) (h10 : w0.cell? ⟨B1, 0, none⟩ = some (.slice AR h cR)) (h20 : w0.cell? ⟨Bc, 0, none⟩ = some (.slice AC wd cC)) (hr : Ints Bd w0 (.slice AR h cR) rs) (hc : Ints Bd w0 (.slice AC wd cC) cs) (hBd : Bd ≤ w0.heap.size) (hA : ∀ b off, AR = some ⟨b, off, none⟩ → b < Bd ∧ b ∉ D) (hD : ∀ d, d ∈ D → d ≠ B1 ∧ d < w0.heap.size) :
    ImgIter Tryd.prog n 82 #[.pointer (some ⟨B1, 0, none⟩), .pointer (some ⟨Bc, 0, none⟩)] wd h D (genI wd rs cs) w0 := by
  intro l J Jx W hW hl0 hlW hJ hJx hY hJ0
  have hB1 : B1 < w0.heap.size := lt_of_cell h10
  have b1 := (hW.cell (p := ⟨B1, 0, none⟩) hB1).trans h10
  have b2 := (hW.cell (p := ⟨Bc, 0, none⟩) (lt_of_cell h20)).trans h20
  have hrW : Ints Bd W (.slice AR h cR) rs := hr.keep fun q hq => hW.cell (by omega)
  have hcW : Ints Bd W (.slice AC wd cC) cs := hc.keep fun q hq => hW.cell (by omega)
  have HG := Lib.hid (And.intro hY (And.intro hJ0 (And.intro hJ (And.intro hJx (And.intro (And.intro hD hA) (And.intro hrb hin))))))
  have hsz := hW.size
  clear hY hJ0 hJ hJx hD hA hrb hin hW h10 h20 hr hc
  refine callsIn_of_wp Tryd.func82 rfl trivial ?_ rfl
  simp only [Tryd.ntmps82, List.size_toArray, List.length_cons, List.length_nil, Nat.reduceAdd, Nat.reduceSub, Array.replicate_succ, Array.replicate_zero, List.push_toArray, List.append_toArray, List.nil_append, List.cons_append]
  obtain ⟨W1, eW⟩ : ∃ V, V = W.alloc (.cells #[.func (.yield l) #[] #[]] 38) := ⟨_, rfl⟩
  have hb1 : Below W.heap.size W W1 := by rw [eW]; go_grown
  have y0 : W1.cell? ⟨W.heap.size, 0, none⟩ = some (.func (.yield l) #[] #[]) := by rw [eW]; go_cell
  have hz1 : W.heap.size < W1.heap.size := by rw [eW]; simp
  have b1' := cellB hb1 b1
  have b2' := cellB hb1 b2
  have b1r := b1'
  have b2r := b2'
  rw [eW] at b1r b2r
  have HE := Lib.hid eW
  clear eW
  gi_wp2_with fail
  rw [← HE.out]
  clear b1r b2r
  refine ⟨trivial, fun hh => by simp [Fence.wide] at hh, ?_⟩
  refine (callsIn_wide.2 (emptyImage_c h (wd : Int) h6 W1)).mono ?_
  rintro e w2 ⟨rfl, hr2, hb2⟩
  obtain ⟨gA, eg⟩ : ∃ g, g = W1.heap.size + 1 := ⟨_, rfl⟩
  rw [← eg] at hr2 ⊢
  have hgA : W.heap.size < gA := by omega
  have y2 := cellB hb2 y0
  have c1 := cellB hb2 b1'
  have c2 := cellB hb2 b2'
  have hbW2 := hb1.trans (hb2.mono hb1.size)
  have hgA2 := hr2.lt
  have hz2 : W.heap.size < w2.heap.size := by have := hb2.size; omega
  clear y0 b1' b2' hb1 hb2 hz1 HE eg
  obtain ⟨W3, eW⟩ : ∃ V, V = w2.alloc (.cells #[.int .i64 (wd : Int), .slice (some ⟨gA, 0, none⟩) h h] 25) := ⟨_, rfl⟩
  have hb3 : Below w2.heap.size w2 W3 := by rw [eW]; go_grown
  have i0 : W3.cell? ⟨w2.heap.size, 0, none⟩ = some (.int .i64 (wd : Int)) := by rw [eW]; go_cell
  have i1 : W3.cell? ⟨w2.heap.size, 1, none⟩ = some (.slice (some ⟨gA, 0, none⟩) h h) := by rw [eW]; go_cell
  have hz3 : W3.heap.size = w2.heap.size + 1 := by rw [eW]; simp
  have y3 := cellB hb3 y2
  have d1 := cellB hb3 c1
  have d2 := cellB hb3 c2
  have hr3 := hr2.below hb3 hr2.lt
  have hbW3 := hbW2.trans (hb3.mono hbW2.size)
  have d2r := d2
  rw [eW] at d2r
  have HE := Lib.hid eW
  have HI := Lib.hid (And.intro i0 (And.intro i1 (And.intro hz3 d2)))
  clear eW c1 c2 y2 hbW2 hr2 hb3 i0 i1 hz3 d2
  gi_wp2_with fail
  rw [← HE.out]
  clear d2r
  obtain ⟨i0, i1, hz3, d2⟩ := HI.out
  obtain ⟨BI, eBI⟩ : ∃ b, b = w2.heap.size := ⟨_, rfl⟩
  rw [← eBI] at i0 i1 hz3 hgA2 hz2 ⊢
  have HI2 := Lib.hid (And.intro eBI (And.intro hz3 (And.intro hgA2 hz2)))
  clear HI HE eBI hz3 hgA2 hz2
  have hc3 : Ints W3.heap.size W3 (.slice AC wd cC) cs := (hcW.keep fun q hq => hbW3.cell (by omega)).more (by have := hbW3.size; omega)
  refine ⟨trivial, fun hh => by simp [Fence.wide] at hh, ?_⟩
  refine (callsIn_wide.2 (Clone_c _ cs (by omega) (by omega) W3 hc3)).mono ?_
  rintro e w4 ⟨gL, cL, rfl, hgL, hr4, hb4⟩
  rw [hcl]
  have i40 := cellB hb4 i0
  have i41 := cellB hb4 i1
  have y4 := cellB hb4 y3
  have e1 := cellB hb4 d1
  have hA4 := hr3.below hb4 hr3.lt
  have hbW4 := hbW3.trans (hb4.mono hbW3.size)
  have hz4 := hb4.size
  have HH4 := Lib.hid (And.intro i40 (And.intro i41 (And.intro y4 (And.intro e1 (And.intro hA4 (And.intro hbW4 (And.intro hz4 (And.intro hgL (And.intro hr4 hr4.lt)))))))))
  clear i0 i1 y3 d1 d2 hr3 hbW3 hc3 hb4 i40 i41 y4 e1 hA4 hbW4 hz4 hgL hr4
  gi_wp2_with fail
  obtain ⟨i40, i41, y4, e1, hA4, hbW4, hz4, hgL, hr4, hgL4⟩ := HH4.out
  obtain ⟨eBI, hz3, hgA2, hz2⟩ := HI2.out
  obtain ⟨hY, hJ0, hJ, hJx, ⟨hD, hA⟩, hrb, hin⟩ := HG.out
  obtain ⟨p, ep⟩ : ∃ p : FP, p = { l := l, lo := W.heap.size, B1 := B1, B2 := w4.heap.size, B3 := W.heap.size, B4 := BI, B5 := w4.heap.size + 1, gA := gA, cA := h, gL := gL, cL := cL, wd := wd, h := h, cR := cR, Bd := Bd, AR := AR, rs := rs, D := D, top := w4.heap.size } := ⟨_, rfl⟩
  have hlD : ∀ d, d ∈ l :: D → d ≠ B1 ∧ d < W.heap.size := fun d hd => by
    rcases List.mem_cons.1 hd with rfl | hd
    · exact ⟨by omega, hlW⟩
    · have := hD d hd
      exact ⟨this.1, by omega⟩
  have hnA : ∀ b off, AR = some ⟨b, off, none⟩ → b ∉ l :: D := fun b off e hm => by
    have := hA b off e
    rcases List.mem_cons.1 hm with rfl | hm
    · omega
    · exact this.2 hm
  have hp : p.Ok := by
    rw [ep]
    exact { hl := hrl, h6 := h6, w1 := w1, w6 := w6, lo2 := by dsimp only; omega, lo3 := Nat.le_refl _, lo4 := by dsimp only; omega, lo5 := by dsimp only; omega, loA := by dsimp only; omega, loL := by dsimp only; omega, aL := by dsimp only; omega, tL := hgL4, a2 := by dsimp only; omega, a3 := by dsimp only; omega, a4 := by dsimp only; omega, a5 := by dsimp only; omega, l2 := by dsimp only; omega, l3 := by dsimp only; omega, l4 := by dsimp only; omega, l5 := by dsimp only; omega, b1 := by dsimp only; omega, bd := by dsimp only; omega, n1 := fun hm => (hlD _ hm).1 rfl, nd := hnA, dl := fun d hd => (hlD d hd).2, rb := hrb }
  obtain ⟨W6, eW⟩ : ∃ V, V = (w4.alloc (.cells #[.slice (some ⟨gL, 0, none⟩) wd cL] 23)).alloc (.cells #[.func (.func 84) #[] #[.pointer (some ⟨B1, 0, none⟩), .pointer (some ⟨w4.heap.size, 0, none⟩), .pointer (some ⟨W.heap.size, 0, none⟩), .pointer (some ⟨BI, 0, none⟩), .pointer (some ⟨w4.heap.size + 1, 0, none⟩)]] 48) := ⟨_, rfl⟩
  have hb6 : Below w4.heap.size w4 W6 := by rw [eW]; go_grown
  have f2 : W6.cell? ⟨w4.heap.size, 0, none⟩ = some (.slice (some ⟨gL, 0, none⟩) wd cL) := by rw [eW]; go_cell
  have f5 : W6.cell? ⟨w4.heap.size + 1, 0, none⟩ = some (.func (.func 84) #[] #[.pointer (some ⟨B1, 0, none⟩), .pointer (some ⟨w4.heap.size, 0, none⟩), .pointer (some ⟨W.heap.size, 0, none⟩), .pointer (some ⟨BI, 0, none⟩), .pointer (some ⟨w4.heap.size + 1, 0, none⟩)]) := by rw [eW]; go_cell
  rw [← eW]
  have hbW6 := hbW4.trans (hb6.mono hbW4.size)
  have hm : FMem p W6 (List.replicate h 0) cs := by
    rw [ep]
    exact { r1 := cellB hb6 e1, r2 := f2, r3 := cellB hb6 y4, r4 := cellB hb6 i40, r4' := cellB hb6 i41, r5 := f5, rows := hrW.keep fun q hq => hbW6.cell (by omega), ra := by rw [casts_rep]; exact hA4.below hb6 hA4.lt, rl := hr4.below hb6 hr4.lt, sz := hbW6.size, tz := hb6.size }
  have hJ6 : J [] W6 := hJ.below hJ0 hbW6 (Nat.le_refl _)
  have hgen : genP wd rs cs = genI wd rs cs := gen_eq wd rs cs (by rw [hrl]; exact hin)
  have hC := fill_c p hp (genI wd rs cs) J Jx (by rw [ep]; exact hJ) (by rw [ep]; exact hJx)
    (fun pre ns W1 h1 h2 h3 h4 _ => by rw [ep] at h3 h4 ⊢; exact hY pre ns gA h W1 h1 h2 (by omega) h3 h4)
    h 0 [] cs (List.replicate h 0) [] [] W6 (by rw [ep]; exact Nat.zero_add _) (by rw [ep]; exact List.length_replicate) rfl (by rw [ep]; exact hcl) hin
    (by rw [ep]; dsimp only; rw [List.drop_zero, hgen]; simp) hJ6 hm
  rw [ep] at hC
  dsimp only at hC
  rw [List.drop_zero, hgen] at hC
  have e2 : ([] : List (List Nat)) ++ (genI wd rs cs).map (([] : List Nat) ++ ·) = genI wd rs cs := by simp
  rw [e2] at hC
  unfold fillArgs at hC
  dsimp only at hC
  refine ⟨trivial, fun hh => by simp [Fence.wide] at hh, ?_⟩
  refine (callsIn_wide.2 hC).mono ?_
  rintro e w5 (⟨rfl, hJ5, _⟩ | ⟨rfl, ⟨q, aq, _, hJ5⟩, _⟩)
  · gi_wp2
    go_end0
    exact ⟨⟨_, rfl⟩, .inl hJ5⟩
  · gi_wp2
    go_end0
    exact ⟨⟨_, rfl⟩, .inr ⟨q, aq, hJ5⟩⟩
theorem iter_images (n wd h : Nat) (rs cs : List Int) (hrl : rs.length = h) (hcl : cs.length = wd) (h1 : 1 ≤ h) (h6 : h ≤ 6) (w1 : 1 ≤ wd) (w6 : wd ≤ 6) (hrb : ∀ i, i < h → 0 ≤ rs.getD i 0 ∧ rs.getD i 0 ≤ 6) (hin : InR h cs)
    (AR AC : Option Addr) (cR cC B1 Bc Bd : Nat) (D : List Nat) (w0 : World) (h10 : w0.cell? ⟨B1, 0, none⟩ = some (.slice AR h cR)) (h20 : w0.cell? ⟨Bc, 0, none⟩ = some (.slice AC wd cC)) (hr : Ints Bd w0 (.slice AR h cR) rs) (hc : Ints Bd w0 (.slice AC wd cC) cs) (hBd : Bd ≤ w0.heap.size) (hD : ∀ d, d ∈ D → Bd ≤ d ∧ d ≠ B1 ∧ d < w0.heap.size) :
    ImgIter Tryd.prog n 82 #[.pointer (some ⟨B1, 0, none⟩), .pointer (some ⟨Bc, 0, none⟩)] wd h D (genI wd rs cs) w0 := by
  refine iter_images2 n wd h rs cs hrl hcl h1 h6 w1 w6 hrb hin AR AC cR cC B1 Bc Bd D w0 h10 h20 hr hc hBd (fun b off e => ?_) fun d hd => ⟨(hD d hd).2.1, (hD d hd).2.2⟩
  obtain ⟨b', off', cp, e', hb', _⟩ := hr.row (by omega)
  rw [e] at e'
  injection e' with e1
  injection e1 with e1
  injection e1 with e1
  subst e1
  exact ⟨hb', fun hm => by have := (hD _ hm).1; omega⟩
end Go.Proofs.YtbpjceffkchmbaaDoor
end

section
namespace Go.Proofs.YtbpjceffkchmbaaDoor
open Go Go.RowKit Go.Shelf
attribute [local go_sem] Oper.semAt_some
theorem len_flatMap_le {α β : Type} {f : α → List β} {b : Nat} : ∀ {l : List α}, (∀ x, x ∈ l → (f x).length ≤ b) → (l.flatMap f).length ≤ l.length * b
  | [], _ => by simp
  | x :: l, h => by
    have h1 := h x (List.mem_cons_self ..)
    have h2 := len_flatMap_le (f := f) (l := l) fun y hy => h y (List.mem_cons_of_mem _ hy)
    rw [List.flatMap_cons, List.length_append, List.length_cons, Nat.succ_mul]
    omega
theorem gen_len (w : Nat) : ∀ rs left : List Int, (genI w rs left).length ≤ (2 ^ w) ^ rs.length
  | [], left => by unfold genI; split <;> simp
  | r :: rs, left => by
    unfold genI
    have := len_flatMap_le (l := List.range (2 ^ w)) (b := (2 ^ w) ^ rs.length) (f := fun row => if pop w row = r ∧ okT left row = true then (genI w rs (takeT left row)).map (row :: ·) else []) fun row _ => by
      split
      · rw [List.length_map]; exact gen_len w rs _
      · simp
    rw [List.length_range] at this
    rw [List.length_cons, Nat.pow_succ, Nat.mul_comm]
    exact this
theorem gen_len6 {w : Nat} {rs left : List Int} (hw : w ≤ 6) (h6 : rs.length ≤ 6) : (genI w rs left).length ≤ 68719476736 := by
  have h1 := gen_len w rs left
  have h2 : (2 ^ w) ^ rs.length ≤ (2 ^ 6) ^ rs.length := Nat.pow_le_pow_left (Nat.pow_le_pow_right (by omega) hw) _
  have h3 : (2 ^ 6 : Nat) ^ rs.length ≤ (2 ^ 6) ^ 6 := Nat.pow_le_pow_right (by omega) h6
  have h4 : (2 ^ 6 : Nat) ^ 6 = 68719476736 := by decide
  omega
theorem cellK {B : Nat} {W W' : World} (h : ∀ k, k < B → W'.heap[k]? = W.heap[k]?) {b o : Nat} (hb : b < B) : W'.cell? ⟨b, o, none⟩ = W.cell? ⟨b, o, none⟩ := by
  unfold World.cell?
  rw [h b hb]
theorem frozenK {B : Nat} {W W' : World} (h : ∀ k, k < B → W'.heap[k]? = W.heap[k]?) {b o : Nat} (hb : b < B) : W'.frozen? ⟨b, o, none⟩ = W.frozen? ⟨b, o, none⟩ := by
  unfold World.frozen?
  rw [h b hb]
theorem belowKK {b B : Nat} {w W W' : World} (hB : b ≤ B) (h : Below b w W) (h1 : W'.os = W.os) (h2 : W'.tape = W.tape) (h3 : W'.output = W.output) (h4 : W.heap.size ≤ W'.heap.size) (h5 : ∀ k, k < B → W'.heap[k]? = W.heap[k]?) : Below b w W' :=
  ⟨h1.trans h.os, h2.trans h.tape, h3.trans h.output, Nat.le_trans h.size h4, fun k hk => (h5 k (by omega)).trans (h.block k hk)⟩
theorem imagesOf_c (A A' : Option Addr) (n c n' c' : Nat) (w : World) : Calls Tryd.prog 74 #[.slice A n c, .slice A' n' c'] w fun e w' => e = .returned (.func (.func 82) #[] #[.pointer (some ⟨w.heap.size, 0, none⟩), .pointer (some ⟨w.heap.size + 1, 0, none⟩)]) ∧ (w.alloc (.cells #[.slice A n c] 23)).alloc (.cells #[.slice A' n' c'] 23) = w' := by
  go_enter Tryd.func74, Tryd.ntmps74
  go_wp2
  go_returns
  exact ⟨rfl, rfl⟩
set_option maxHeartbeats 4000000 in
set_option maxRecDepth 100000 in
theorem countImages_c (pf : List Nat → Bool) (F : FuncId) (wd h : Nat) (rs cs : List Int) (hrl : rs.length = h) (hcl : cs.length = wd) (h1 : 1 ≤ h) (h6 : h ≤ 6) (w1 : 1 ≤ wd) (w6 : wd ≤ 6) (hrb : ∀ i, i < h → 0 ≤ rs.getD i 0 ∧ rs.getD i 0 ≤ 6) (hin : InR h cs)
    (vr vc : Value) (w : World) (hr : Ints w.heap.size w vr rs) (hc : Ints w.heap.size w vc cs)
    (hE : ∀ (args : Array Value) (W : World), (callFunc F args).run Tryd.prog W = .ok (.enter F args) W)
    (hF : ∀ (ns : List Nat) (g c : Nat) (W : World), VImg wd ns → ns.length = h → Below w.heap.size w W → Row W g (casts ns) → Calls Tryd.prog F #[imgV wd h g c] W fun e w' => e = .returned (.bool (pf ns)) ∧ Below W.heap.size W w') :
    Calls Tryd.prog 72 #[vr, vc, .func (.func F) #[] #[]] w fun e w' => e = .returned (.int .i64 (cntI wd rs cs pf)) ∧ Below w.heap.size w w' := by
  obtain ⟨AR, cR, rfl⟩ := hr.len
  obtain ⟨AC, cC, rfl⟩ := hc.len
  rw [hrl] at hr ⊢
  rw [hcl] at hc ⊢
  have HF := Lib.hid hF
  have HB := Lib.hid (And.intro hrb hin)
  clear hF hrb hin
  refine (callsIn_wide (n := 3)).1 ?_
  refine callsIn_of_wp_marks Tryd.func72 rfl trivial ?_ rfl
  simp only [Tryd.ntmps72, List.size_toArray, List.length_cons, List.length_nil, Nat.reduceAdd, Nat.reduceSub, Array.replicate_succ, Array.replicate_zero, List.push_toArray, List.append_toArray, List.nil_append, List.cons_append]
  gi_wp2_with (refine ⟨trivial, ?_⟩; gi_at_call 74; refine (callsIn_wide.2 (imagesOf_c _ _ _ _ _ _ _)).mono ?_; rintro e w' ⟨rfl, rfl⟩)
  obtain ⟨W0, eW⟩ : ∃ V, V = ((((w.alloc (.cells #[.func (.func F) #[] #[]] 38)).alloc (.cells #[.int .i64 0] 3)).alloc (.cells #[.slice AR h cR] 23)).alloc (.cells #[.slice AC wd cC] 23)) := ⟨_, rfl⟩
  have hB0 : Below w.heap.size w W0 := by rw [eW]; go_grown
  have f0 : W0.cell? ⟨w.heap.size, 0, none⟩ = some (.func (.func F) #[] #[]) := by rw [eW]; go_cell
  have f1 : W0.cell? ⟨w.heap.size + 1, 0, none⟩ = some (.int .i64 0) := by rw [eW]; go_cell
  have ff : W0.frozen? ⟨w.heap.size + 1, 0, none⟩ = false := by rw [eW]; go_cell
  have f2 : W0.cell? ⟨w.heap.size + 1 + 1, 0, none⟩ = some (.slice AR h cR) := by rw [eW]; go_cell
  have f3 : W0.cell? ⟨w.heap.size + 1 + 1 + 1, 0, none⟩ = some (.slice AC wd cC) := by rw [eW]; go_cell
  have hz0 : W0.heap.size = w.heap.size + 4 := by rw [eW]; simp
  rw [← eW]
  clear eW
  have hr0 : Ints w.heap.size W0 (.slice AR h cR) rs := hr.keep fun q hq => hB0.cell hq
  have hc0 : Ints w.heap.size W0 (.slice AC wd cC) cs := hc.keep fun q hq => hB0.cell hq
  have hit := iter_images 2 wd h rs cs hrl hcl h1 h6 w1 w6 HB.out.1 HB.out.2 AR AC cR cC (w.heap.size + 1 + 1) (w.heap.size + 1 + 1 + 1) w.heap.size [w.heap.size + 1] W0 f2 f3 hr0 hc0 (by omega) (fun d hd => by
    obtain rfl := List.mem_singleton.1 hd
    exact ⟨by omega, by omega, by omega⟩)
  have himg : ∀ ns, ns ∈ genI wd rs cs → VImg wd ns ∧ ns.length = h := fun ns hm => by
    have := gen_img (rs := rs) (cs := cs) (by omega) (by omega) (by omega) (by omega) (by rw [hcl]; exact hm)
    rw [hcl] at this
    exact ⟨this.1, this.2.2.2.trans hrl⟩
  have hlen := gen_len6 (w := wd) (rs := rs) (left := cs) w6 (by omega)
  obtain ⟨L, eL⟩ : ∃ L, L = genI wd rs cs := ⟨_, rfl⟩
  have HCN := Lib.hid (show cntI wd rs cs pf = (L.filter pf).length by rw [eL]; rfl)
  rw [← eL] at hit himg hlen
  have HIM := Lib.hid (And.intro himg hlen)
  clear eL himg hlen hr0 hc0 f2 f3 hr hc HB
  refine wpIn_rangeImg (gf := 82) (lb := #[.pointer (some ⟨w.heap.size + 1 + 1, 0, none⟩), .pointer (some ⟨w.heap.size + 1 + 1 + 1, 0, none⟩)]) (wd := wd) (h := h) (D := [w.heap.size + 1]) (L := L) (w0 := W0) rfl (enters_of Tryd.func82 (by kernel_rfl) rfl) hit (Below.refl _ _) (fun d hd => by obtain rfl := List.mem_singleton.1 hd; omega)
    (fun xs W => W.cell? ⟨w.heap.size, 0, none⟩ = some (.func (.func F) #[] #[]) ∧ W.cell? ⟨w.heap.size + 1, 0, none⟩ = some (.int .i64 ((xs.filter pf).length : Nat)) ∧ W.frozen? ⟨w.heap.size + 1, 0, none⟩ = false ∧ Below w.heap.size w W)
    (fun _ _ _ _ => False)
    (fun s A B hs e1 e2 e3 e4 e5 => ⟨(cellK e5 (by omega)).trans hs.1, (cellK e5 (by omega)).trans hs.2.1, (frozenK e5 (by omega)).trans hs.2.2.1, belowKK (by omega) hs.2.2.2 e1 e2 e3 e4 e5⟩)
    (fun _ _ _ _ _ hs _ _ _ _ _ => hs)
    ⟨f0, f1, ff, hB0⟩
    (fun g c W => W.alloc (.cells #[.int .i64 (wd : Int), .slice (some ⟨g, 0, none⟩) h c] 25))
    (fun g c W => { tmps := #[.slice AR h cR, .slice AC wd cC, .func (.func F) #[] #[], undef, undef, .pointer (some ⟨w.heap.size, 0, none⟩), .int .i64 0, .pointer (some ⟨w.heap.size + 1, 0, none⟩), .pointer (some ⟨W.heap.size, 0, none⟩), .slice AR h cR, .slice AC wd cC, .func (.func 82) #[] #[.pointer (some ⟨w.heap.size + 1 + 1, 0, none⟩), .pointer (some ⟨w.heap.size + 1 + 1 + 1, 0, none⟩)], .agg #[.int .i64 (wd : Int), .slice (some ⟨g, 0, none⟩) h c], undef, undef, undef, undef, undef, undef], defers := [] })
    (fun g c W => (Below.refl _ W).alloc (Nat.le_refl _) _) ?assign ?body ?done ?stop
  case assign =>
    intro m l g c W K hK
    unfold imgV
    gi_wp2
    exact hK
  case body =>
    rintro m l pre ns g c W W2 ⟨i0, i1, iF, hBW⟩ ⟨rest, hpre⟩ hg hW hrow hs2 hoth
    have hmem : ns ∈ L := by rw [hpre]; simp
    obtain ⟨hV, hnl⟩ := HIM.out.1 ns hmem
    have hHF := HF.out ns g c W2 hV hnl hBW hrow
    unfold imgV at hHF
    have hnew : ∀ o, W2.cell? ⟨W.heap.size, o, none⟩ = (W.alloc (.cells #[.int .i64 (wd : Int), .slice (some ⟨g, 0, none⟩) h c] 25)).cell? ⟨W.heap.size, o, none⟩ := fun o => by
      unfold World.cell?
      rw [hoth W.heap.size (by omega)]
    have q0 : W2.cell? ⟨W.heap.size, 0, none⟩ = some (.int .i64 (wd : Int)) := by rw [hnew]; go_cell
    have q1 : W2.cell? ⟨W.heap.size, 1, none⟩ = some (.slice (some ⟨g, 0, none⟩) h c) := by rw [hnew]; go_cell
    have hcl2 : (pre.filter pf).length ≤ 68719476736 := by
      have h1 := HIM.out.2
      have h2 : (pre.filter pf).length ≤ pre.length := List.length_filter_le _ _
      have h3 : pre.length ≤ L.length := by rw [hpre]; simp
      omega
    obtain ⟨N, eN⟩ : ∃ N, N = (pre.filter pf).length := ⟨_, rfl⟩
    have hsn : ((pre ++ [ns]).filter pf).length = N + if pf ns = true then 1 else 0 := by
      rw [List.filter_append, List.length_append, ← eN]
      by_cases hp : pf ns = true
      · simp [hp]
      · simp [hp]
    rw [← eN] at i1 hcl2
    have HSN := Lib.hid hsn
    clear hnew hoth hmem hpre eN hsn
    gi_wp2_with fail
    refine ⟨trivial, ?_⟩
    refine ⟨fun hh => by simp [Fence.wide] at hh, ?_⟩
    refine (CallsIn.inRound l (callsIn_wide.2 hHF)).mono ?_
    rintro e W3 ⟨rfl, hb3⟩
    have j0 := cellB hb3 i0
    have j1 := cellB hb3 i1
    have jF := frozenB hb3 i1 iF
    have hBW3 := hBW.trans (hb3.mono hBW.size)
    have HK := Lib.hid (KeepBut.below (D := [w.heap.size + 1]) hb3)
    have HB3 := Lib.hid hBW3
    clear hHF hb3 hBW hBW3 i0 i1 iF
    cases hp : pf ns with
    | true =>
      rw [hp] at HSN
      have ew : IntKind.i64.wrap ((N : Int) + 1) = (N : Int) + 1 := IntWalk.i64_in _ ⟨by omega, by omega⟩
      clear hp
      gi_wp2
      refine ⟨HK.out.trans (KeepBut.setCell W3 (p := ⟨w.heap.size + 1, 0, none⟩) (List.mem_cons_self ..) _), ?_, ?_, ?_, HB3.out.setCell (by simp) _⟩
      · exact (World.cell?_setCell_other _ _ _ _ (by simp)).trans j0
      · rw [HSN.out]
        simp only [if_true]
        exact World.cell?_setCell_same' W3 ⟨w.heap.size + 1, 0, none⟩ _ (by rw [j1]; rfl)
      · rw [World.frozen?_setCell]
        exact jF
    | false =>
      rw [hp] at HSN
      clear hp
      gi_wp2
      refine ⟨HK.out, j0, ?_, jF, HB3.out⟩
      rw [HSN.out, if_neg (by simp), Nat.add_zero]
      exact j1
  case done =>
    rintro D W hD ⟨i0, i1, iF, hBW⟩ hK
    gi_wp2
    refine ⟨by simp, .inl ⟨_, _, rfl, run_takeDeferred hK, ?_⟩⟩
    exact ⟨_, results_tmp rfl _ _ _, by rw [HCN.out]; rfl, hBW.trans (belowK_b (w := w) (Nat.le_refl _) W D _ _ (by omega) hK rfl rfl)⟩
  case stop =>
    rintro D c pre aa W _ _ h _
    exact h.elim
end Go.Proofs.YtbpjceffkchmbaaDoor
end

section
namespace Go.Proofs.YtbpjceffkchmbaaDoor
open Go Go.RowKit
/-- Whether the images with these sums are counted. -/
def ctB (rs cs : List Int) : Bool := svB rs cs && decide (rs.length * cs.length ≤ 16)
set_option maxHeartbeats 1000000 in
theorem countable_c (u v : Value) (rs cs : List Int) (hr : rs.length ≤ 2097152) (hc : cs.length ≤ 2097152) (w : World) (hu : Ints w.heap.size w u rs) (hv : Ints w.heap.size w v cs) :
    Calls Tryd.prog 71 #[u, v] w fun e w' => e = .returned (.bool (ctB rs cs)) ∧ w = w' := by
  have HS := SumsValid_c u v rs cs hr hc w hu hv
  obtain ⟨A, cap, rfl⟩ := hu.len
  obtain ⟨B, cap', rfl⟩ := hv.len
  have hb : 0 ≤ (rs.length : Int) * (cs.length : Int) ∧ (rs.length : Int) * (cs.length : Int) ≤ 2097152 * 2097152 := ⟨Int.mul_nonneg (by omega) (by omega), Int.mul_le_mul (by omega) (by omega) (by omega) (by omega)⟩
  have ew : IntKind.i64.wrap ((rs.length : Int) * (cs.length : Int)) = (rs.length : Int) * (cs.length : Int) := IntWalk.i64_in _ ⟨by omega, by omega⟩
  have ed : decide ((rs.length : Int) * (cs.length : Int) ≤ 16) = decide (rs.length * cs.length ≤ 16) := by
    refine decide_eq_decide.2 ?_
    rw [← Int.natCast_mul]
    omega
  have HC : ctB rs cs = (svB rs cs && decide ((rs.length : Int) * (cs.length : Int) ≤ 16)) := by rw [ed]; rfl
  rw [HC]
  clear HC ed hb
  cases hs : svB rs cs with
  | true =>
    rw [hs] at HS
    clear hs
    go_enter Tryd.func71, Tryd.ntmps71
    go_wp2_with (go_at_call 81; refine HS.mono ?_; rintro e w' ⟨rfl, rfl⟩)
    go_returns
    exact ⟨by simp, rfl⟩
  | false =>
    rw [hs] at HS
    clear hs
    go_enter Tryd.func71, Tryd.ntmps71
    go_wp2_with (go_at_call 81; refine HS.mono ?_; rintro e w' ⟨rfl, rfl⟩)
    go_returns
    exact ⟨by simp, rfl⟩
end Go.Proofs.YtbpjceffkchmbaaDoor
end

section
namespace Go.Proofs.YtbpjceffkchmbaaDoor
theorem gen_len16 {w : Nat} {rs left : List Int} (h : w * rs.length ≤ 16) : (genI w rs left).length ≤ 65536 := by
  have h1 := gen_len w rs left
  rw [← Nat.pow_mul] at h1
  have h2 : 2 ^ (w * rs.length) ≤ 2 ^ 16 := Nat.pow_le_pow_right (by omega) h
  have h3 : (2 : Nat) ^ 16 = 65536 := by decide
  omega
/-- What the reference has listed when it stands at a row of the numbers to try. -/
def genS (w : Nat) (r : Int) (rs left : List Int) (k : Nat) : List (List Nat) := (List.range k).flatMap fun row => if pop w row = r ∧ okT left row = true then (genI w rs (takeT left row)).map (row :: ·) else []
theorem genS_zero (w : Nat) (r : Int) (rs left : List Int) : genS w r rs left 0 = [] := rfl
theorem genS_all (w : Nat) (r : Int) (rs left : List Int) : genS w r rs left (2 ^ w) = genI w (r :: rs) left := rfl
theorem genS_yes {w : Nat} {r : Int} {rs left : List Int} {k : Nat} (h : pop w k = r ∧ okT left k = true) : genS w r rs left (k + 1) = genS w r rs left k ++ (genI w rs (takeT left k)).map (k :: ·) := by
  unfold genS
  rw [List.range_succ, List.flatMap_append, List.flatMap_cons, List.flatMap_nil, List.append_nil, if_pos h]
theorem genS_no {w : Nat} {r : Int} {rs left : List Int} {k : Nat} (h : ¬ (pop w k = r ∧ okT left k = true)) : genS w r rs left (k + 1) = genS w r rs left k := by
  unfold genS
  rw [List.range_succ, List.flatMap_append, List.flatMap_cons, List.flatMap_nil, List.append_nil, if_neg h, List.append_nil]
theorem genS_le (w : Nat) (r : Int) (rs left : List Int) (k : Nat) : ∀ d, (genS w r rs left k).length ≤ (genS w r rs left (k + d)).length
  | 0 => Nat.le_refl _
  | d + 1 => by
    refine Nat.le_trans (genS_le w r rs left k d) ?_
    rw [← Nat.add_assoc]
    by_cases h : pop w (k + d) = r ∧ okT left (k + d) = true
    · rw [genS_yes h, List.length_append]; omega
    · rw [genS_no h]; exact Nat.le_refl _
theorem genS_len {w : Nat} {r : Int} {rs left : List Int} {k : Nat} (hk : k ≤ 2 ^ w) (h : w * (rs.length + 1) ≤ 16) : (genS w r rs left k).length ≤ 65536 := by
  have h1 := genS_le w r rs left k (2 ^ w - k)
  rw [show k + (2 ^ w - k) = 2 ^ w by omega, genS_all] at h1
  have h2 := gen_len16 (w := w) (rs := r :: rs) (left := left) (by simpa using h)
  omega
theorem gen_head {w : Nat} {r : Int} {rs left : List Int} {x : List Nat} (h : x ∈ genI w (r :: rs) left) : x.length = rs.length + 1 := by
  obtain ⟨_, g2, _⟩ := (gen_mem _ _ _ _).1 h
  have := congrArg List.length g2
  simpa using this
/-- A row that takes more than is there. -/
theorem okT_no {left : List Int} {row j : Nat} (hj : j < left.length) (h : left.getD j 0 - b2i (row.testBit j) < 0) : okT left row = false := by
  rw [← Bool.not_eq_true]
  intro hv
  have := okT_iff.1 hv j hj
  omega
theorem okT_yes {left : List Int} {row : Nat} (h : ∀ j, j < left.length → 0 ≤ left.getD j 0 - b2i (row.testBit j)) : okT left row = true := okT_iff.2 fun j hj => by
  have := h j hj
  omega
end Go.Proofs.YtbpjceffkchmbaaDoor
end
