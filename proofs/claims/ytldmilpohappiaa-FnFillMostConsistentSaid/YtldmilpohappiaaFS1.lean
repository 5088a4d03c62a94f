/- Contract of sorted: the list in descending order. Conditions: one to six numbers from 0 to 6. -/
import Derived.Test.YtldmilpohappiaaFS0
import Derived.Test.YtldmilpohappiaaFA
import Derived.Test.YtldmilpohappiaaK5
import Derived.Shelf.SlSortCmp.Xorshift
namespace Go.Proofs.Ytldmilpohappiaa
open Go.RowKit Go.Proofs Go.Sort
/-- A small number as Go's int. -/
def finI (k : Fin 7) : Value := .int .i64 (k.val : Int)
def finL (ds : List (Fin 7)) : List Int := ds.map fun k => (k.val : Int)
def cmpD (x y : Fin 7) : Int := (y.val : Int) - x.val
set_option maxHeartbeats 400000 in
theorem sortedCmp_c (x y : Fin 7) (W : World) : Calls Try.prog 53 #[finI x, finI y] W fun e w' => e = .returned (.int .i64 (cmpD x y)) ∧ ∃ q, w' = W.drewN q := by
  have hx := x.isLt
  have hy := y.isLt
  unfold finI cmpD
  generalize x.val = a at hx
  generalize y.val = b at hy
  go_enter Try.func53, Try.ntmps53
  go_wp2
  go_returns
  exact ⟨rfl, 0, rfl⟩
theorem ltD (x y : Fin 7) : ltOf cmpD x y = decide (y < x) := by
  unfold ltOf cmpD
  rw [decide_eq_decide]
  show _ ↔ y.val < x.val
  omega
theorem swoD : SWO (ltOf cmpD) where
  irrefl x := by rw [ltD]; simp
  trans x y z h1 h2 := by rw [ltD, decide_eq_true_eq] at *; exact Nat.lt_trans h2 h1
  ntrans x y z h1 h2 := by
    rw [ltD, decide_eq_false_iff_not] at *
    have h1 : ¬ y.val < x.val := h1
    have h2 : ¬ z.val < y.val := h2
    show ¬ z.val < x.val
    omega
theorem Len_c (n : Nat) (W : World) (h : n ≤ 12) : Calls Try.prog 63 #[.int .u64 (n : Int)] W fun e w' => (∃ l : Int, e = .returned (.int .i64 l)) ∧ w' = W := by
  have hb := Any.bits_Len (SlLaysF0.n15.bits (P := Try.prog) (ρ := SortLay_ren) { SortLay with }) (n : Int) W (by omega) (by omega)
  change Calls Try.prog 63 _ _ _ at hb
  exact hb.mono fun _ _ ⟨he, hw⟩ => ⟨⟨_, he⟩, hw⟩
theorem row_put {w : World} {g : Nat} {ds : List (Fin 7)} {d' : Array (Fin 7)} (h : Row w g (finL ds)) (hs : d'.size = ds.length) : Row (putRow finI w g 0 d') g (finL d'.toList) := by
  obtain ⟨sp, hb⟩ := h
  refine ⟨sp, ?_⟩
  unfold putRow mapBlock
  simp only [Array.getElem?_modify, if_true, hb, Option.map_some, onCells]
  congr 2
  unfold putCells
  apply Array.ext
  · simp [finL, hs]
  · intro i h1 h2
    simp only [Array.getElem_mapIdx, Nat.zero_le, true_and, Nat.zero_add, Nat.sub_zero]
    by_cases hi : i < d'.size
    · rw [if_pos hi]
      simp [finL, finI, hi, List.getElem_append, getElem!_pos d' i hi]
    · rw [if_neg hi]
      simp [finL, List.getElem_append, hs] at hi ⊢
      rw [dif_neg (by omega), dif_neg (by omega)]
theorem fins_of : ∀ {xs : List Int}, (∀ x ∈ xs, 0 ≤ x ∧ x ≤ 6) → ∃ ds : List (Fin 7), xs = finL ds
  | [], _ => ⟨[], rfl⟩
  | x :: l, h => by
    obtain ⟨ds, e⟩ := fins_of (xs := l) fun z hz => h z (List.mem_cons_of_mem _ hz)
    have hx := h x (List.mem_cons_self ..)
    refine ⟨⟨x.toNat, by omega⟩ :: ds, ?_⟩
    simp only [finL, List.map_cons] at e ⊢
    rw [e]
    congr 1
    omega
theorem OwnI.row_cap {w : World} {base : Nat} {v : Value} {xs : List Int} (h : OwnI w base v xs) (hv : v ≠ .slice none 0 0) : ∃ g c, v = .slice (some ⟨g, 0, none⟩) xs.length c ∧ xs.length ≤ c ∧ base ≤ g ∧ Row w g xs := by
  rcases h.2 with ⟨e, _⟩ | ⟨g, cap, cur, e, hg, hh, hnc, _, _, ht⟩
  · exact (hv e).elim
  · refine ⟨g, cap, e, hnc, hg, cur.toList.drop (xs.length * 1), ?_⟩
    rw [hh, ← ht, List.take_append_drop]
set_option maxHeartbeats 1000000 in
theorem Clone_k (v : Value) (xs : List Int) (h1 : 1 ≤ xs.length) (h6 : xs.length ≤ 2097152) (w : World) (hv : Ints w.heap.size w v xs) :
    Calls Try.prog 48 #[v] w fun e w' => ∃ g c, e = .returned (.slice (some ⟨g, 0, none⟩) xs.length c) ∧ xs.length ≤ c ∧ w.heap.size ≤ g ∧ Row w' g xs ∧ Below w.heap.size w w' := by
  obtain ⟨b, off, cap, rfl, hlt, hc⟩ := hv.row (by omega)
  have hnil := fun (W : World) => Lib.run_eql_slice_nil (P := Try.prog) W 23 3 (some ⟨b, off, none⟩) xs.length cap 0 0 Try.underlying23
  have hown := OwnI.empty w (Nat.le_refl _)
  have hva := hv.alloc (Nat.le_refl _) (.cells #[] 3)
  have HV := Lib.hid hva
  clear hc hva hv
  go_enter Try.func48, Try.ntmps48
  go_wp2_with (at_builtin; refine wpList_app (v := .slice (some ⟨w.heap.size, 0, none⟩) 0 0) rfl (.tmp 5) (.tmp 6) rfl rfl hown rfl HV.out (by first | omega | (simp; omega)) (by simp) ?_; intro v' w' hown' hgrow hnn _)
  go_returns
  rw [List.nil_append] at hown'
  obtain ⟨g, c, rfl, hcp, hg, hr⟩ := hown'.row_cap (hnn (.inl (by simp)))
  refine ⟨g, c, rfl, hcp, hg, hr, ?_⟩
  exact Below.app ((Below.refl _ _).alloc (Nat.le_refl _) _) hown hgrow (Nat.le_refl _) (by simp)
/-- A list in descending order. -/
structure Desc (xs ys : List Int) : Prop where
  perm : ys.Perm xs
  desc : ys.Pairwise fun a b => b ≤ a
set_option maxHeartbeats 1000000 in
theorem sorted_c (v : Value) (xs : List Int) (h1 : 1 ≤ xs.length) (h6 : xs.length ≤ 6) (hx : ∀ x ∈ xs, 0 ≤ x ∧ x ≤ 6) (w : World) (hv : Ints w.heap.size w v xs) :
    Calls Try.prog 38 #[v] w fun e w' => ∃ g c ys, e = .returned (.slice (some ⟨g, 0, none⟩) xs.length c) ∧ xs.length ≤ c ∧ w.heap.size ≤ g ∧ Row w' g ys ∧ Desc xs ys ∧ Below w.heap.size w w' := by
  obtain ⟨A, cap, rfl⟩ := hv.len
  have eg : ∀ args w, (callFunc 53 args).run Try.prog w = .ok (.enter 53 args) w := enters_of Try.func53 (by kernel_rfl) rfl
  obtain ⟨ds, e⟩ := fins_of hx
  subst e
  have hl : (finL ds).length = ds.length := by simp [finL]
  have HC := Clone_k (.slice A (finL ds).length cap) (finL ds) h1 (by omega) w hv
  rw [hl] at h1 h6 HC ⊢
  have HS : ∀ (g c : Nat) (W : World), Row W g (finL ds) → Calls Try.prog 52 #[.slice (some ⟨g, 0, none⟩) ds.length c, .func (.func 53) #[] #[]] W fun e w' => e = .returned (.tuple #[]) ∧ ∃ ys, Row w' g ys ∧ Desc (finL ds) ys ∧ W.grownBy w' (some g) := by
    intro g c W hr
    have hH : Holds finI W g 0 ds.toArray := by
      intro j hj
      have hj' : j < ds.length := by simpa using hj
      refine ⟨?_, hr.frozen _⟩
      rw [Nat.zero_add, hr.cell (by rw [hl]; exact hj')]
      simp [finL, finI, List.getD_eq_getElem?_getD, List.getElem?_eq_getElem hj', getElem!_pos ds j hj']
    have h := Any.slices_SortFunc_small_sorted (P := Try.prog) (ρ := SortLay_ren) SortLay finI (fun _ => rfl) cmpD swoD 53 #[] g 0 c ds.toArray W eg (fun _ _ _ _ x y => sortedCmp_c x y _) hH (by simpa using (by omega : ds.length ≤ 12)) (fun n W h => Len_c n W h)
    change Calls Try.prog 52 _ _ _ at h
    simp only [List.size_toArray] at h
    refine h.mono ?_
    rintro e w' ⟨rfl, d', n, hp, hs, rfl⟩
    obtain ⟨hsz, _, hpm⟩ := hp
    have hsz' : d'.size = ds.length := by simpa using hsz
    refine ⟨rfl, finL d'.toList, (row_put hr hsz').drewN n, ⟨?_, ?_⟩, ?_⟩
    · have h1 : (d'.extract 0 ds.length).toList = d'.toList := by
        rw [← hsz']
        simp
      have h2 : (ds.toArray.extract 0 ds.length).toList = ds := by simp
      rw [h1, h2] at hpm
      exact hpm.map _
    · unfold finL
      rw [List.pairwise_map, List.pairwise_iff_getElem]
      intro i j hi hj hij
      have hi' : i < d'.size := by simpa using hi
      have hj' : j < d'.size := by simpa using hj
      have h3 := hs i j (Nat.zero_le _) hij (by simpa [hsz'] using hj')
      rw [ltD, decide_eq_false_iff_not, getElem!_pos d' j hj', getElem!_pos d' i hi'] at h3
      have h4 : ¬ d'[i].val < d'[j].val := h3
      simp only [Array.getElem_toList]
      omega
    · refine only_drewN ?_ n
      refine ⟨rfl, rfl, rfl, by rw [Go.Sort.size_putRow]; exact Nat.le_refl _, fun k hk hne => ?_⟩
      unfold putRow mapBlock
      rw [Array.getElem?_modify, if_neg (fun e => hne (by rw [e]))]
  clear hx hl
  go_enter Try.func38, Try.ntmps38
  go_wp2_with fail
  refine HC.mono ?_
  rintro e wc ⟨g, c, rfl, hcp, hg, hr, hb⟩
  go_wp2_with fail
  refine (HS g c wc hr).mono ?_
  rintro e w' ⟨rfl, ys, hr2, hd, hgr⟩
  clear HS HC
  go_wp2
  go_returns
  exact ⟨g, c, ys, rfl, hcp, hg, hr2, hd, hb.grown hgr hb.size (fun k e => by cases e; exact hg)⟩
end Go.Proofs.Ytldmilpohappiaa
