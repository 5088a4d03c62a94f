/- Contracts of PartOf and of FillMost, the program's and the reference's. Conditions: the slices read as lists of integers, their lengths at most 2 to the power of 21. -/
import Derived.Test.YtldmilpohappiaaFE
namespace Go.Proofs.Ytldmilpohappiaa
open Go.RowKit
theorem minTo_step (f : Nat → Int) : ∀ k, min (minTo f (k - 1)) (f k) = minTo f k
  | 0 => by show min (f 0) (f 0) = f 0; omega
  | k + 1 => rfl
/-- The numbers of a list that are one of some values, value by value. -/
def byVal (xs vs : List Int) : List Int := vs.flatMap fun v => xs.filter (· == v)
theorem byVal_cons_no {x : Int} {xs : List Int} : ∀ {vs : List Int}, x ∉ vs → byVal (x :: xs) vs = byVal xs vs
  | [], _ => rfl
  | v :: vs, h => by
    have hv : ¬ x = v := fun e => h (by rw [e]; exact List.mem_cons_self ..)
    have ih := byVal_cons_no (x := x) (xs := xs) (vs := vs) fun hm => h (List.mem_cons_of_mem _ hm)
    unfold byVal at ih ⊢
    rw [List.flatMap_cons, List.flatMap_cons, ih, List.filter_cons_of_neg (by simpa using hv)]
theorem byVal_cons_yes {x : Int} {xs : List Int} : ∀ {vs : List Int}, vs.Nodup → x ∈ vs → (byVal (x :: xs) vs).Perm (x :: byVal xs vs)
  | v :: vs, hn, hm => by
    have hn' := List.nodup_cons.1 hn
    by_cases e : x = v
    · subst e
      have h0 := byVal_cons_no (xs := xs) hn'.1
      unfold byVal at h0 ⊢
      rw [List.flatMap_cons, List.flatMap_cons, h0, List.filter_cons_of_pos (by simp)]
      exact .refl _
    · have hm' : x ∈ vs := by
        rcases List.mem_cons.1 hm with h | h
        · exact (e h).elim
        · exact h
      have ih := byVal_cons_yes (xs := xs) hn'.2 hm'
      unfold byVal at ih ⊢
      rw [List.flatMap_cons, List.flatMap_cons, List.filter_cons_of_neg (by simpa using e)]
      exact (ih.append_left _).trans List.perm_middle
theorem byVal_perm {vs : List Int} (hn : vs.Nodup) : ∀ {xs : List Int}, (∀ x ∈ xs, x ∈ vs) → (byVal xs vs).Perm xs
  | [], _ => by
    have : byVal [] vs = [] := by unfold byVal; simp
    rw [this]
  | x :: xs, h => (byVal_cons_yes hn (h x (List.mem_cons_self ..))).trans ((byVal_perm hn fun z hz => h z (List.mem_cons_of_mem _ hz)).cons x)
theorem byVal_desc {xs : List Int} : ∀ {vs : List Int}, vs.Pairwise (fun a b => b ≤ a) → (byVal xs vs).Pairwise fun a b => b ≤ a
  | [], _ => List.Pairwise.nil
  | v :: vs, h => by
    have h' := List.pairwise_cons.1 h
    have ih := byVal_desc (xs := xs) h'.2
    unfold byVal at ih ⊢
    rw [List.flatMap_cons, List.pairwise_append]
    refine ⟨?_, ih, ?_⟩
    · refine List.Pairwise.imp_of_mem (R := fun _ _ => True) (fun {a b} ha hb _ => ?_) (List.pairwise_of_forall (fun _ _ => trivial))
      have h1 := (List.mem_filter.1 ha).2
      have h2 := (List.mem_filter.1 hb).2
      simp at h1 h2
      omega
    · intro a ha b hb
      have h1 := (List.mem_filter.1 ha).2
      obtain ⟨u, hu, hb⟩ := List.mem_flatMap.1 hb
      have h2 := (List.mem_filter.1 hb).2
      have h3 := h'.1 u hu
      simp at h1 h2
      omega
def downs (k : Nat) : List Int := (List.range k).map fun d : Nat => 6 - (d : Int)
theorem downs_succ (k : Nat) : downs (k + 1) = downs k ++ [6 - (k : Int)] := by unfold downs; rw [List.range_succ, List.map_append]; rfl
theorem byVal_snoc (xs vs : List Int) (v : Int) : byVal xs (vs ++ [v]) = byVal xs vs ++ xs.filter (· == v) := by unfold byVal; simp
theorem byVal_len (xs vs : List Int) : (byVal xs vs).length ≤ vs.length * xs.length := by
  induction vs with
  | nil => simp [byVal]
  | cons v vs ih =>
    unfold byVal at ih ⊢
    rw [List.flatMap_cons, List.length_append, List.length_cons, Nat.add_mul]
    have := List.length_filter_le (· == v) xs
    omega
theorem downs_all : downs 7 = [6, 5, 4, 3, 2, 1, 0] := by decide
theorem desc_byVal {xs : List Int} (hb : ∀ x ∈ xs, 0 ≤ x ∧ x ≤ 6) : Desc xs (byVal xs (downs 7)) := by
  rw [downs_all]
  refine ⟨byVal_perm (by decide) fun x hx => ?_, byVal_desc (by decide)⟩
  have := hb x hx
  simp
  omega
theorem filter_snoc_i {p : Int → Bool} {xs : List Int} {k : Nat} (hk : k < xs.length) : (xs.take (k + 1)).filter p = (xs.take k).filter p ++ (if p (xs.getD k 0) = true then [xs.getD k 0] else []) := by
  rw [take_snoc_i hk, List.filter_append]
  congr 1
  by_cases h : p (xs.getD k 0) = true <;> simp [h, List.filter_cons]
/-- A list of the call's own, and true. -/
def PartOut (w : World) (xs : List Int) (e : Ending) (w' : World) : Prop := ∃ v, e = .returned (.tuple #[v, .bool true]) ∧ OwnI w' w.heap.size v xs ∧ Below w.heap.size w w'
set_option maxHeartbeats 2000000 in
theorem sPartOf_c (u : Value) (xs : List Int) (hx : Small xs) (w : World) (hu : Ints w.heap.size w u xs) :
    Calls Try.prog 35 #[u] w (PartOut w (byVal xs (downs 7))) := by
  obtain ⟨A, cap, rfl⟩ := hu.len
  have h1 := hx.h1
  have h6 := hx.h6
  have hin : inR 0 6 xs = true := inR_true fun j hj => hx.at hj
  have hown := OwnI.empty (base := w.heap.size) w (Nat.le_refl _)
  have hb0 : Below w.heap.size w (w.alloc (.cells #[] 3)) := by go_grown
  have hI := (hu.below hb0).more hb0.size
  obtain ⟨b, off, cap', e, hbl, hc⟩ := hu.row (by omega)
  injection e with e1 _ e3
  subst e1 e3
  have HC := Lib.hid hc
  have hE := l2Each_c (.slice (some ⟨b, off, none⟩) xs.length cap) xs 0 6 (by omega) _ hI
  rw [hin] at hE
  clear hin hu hc hI
  have hd6 : decide ((6 : Int) < (xs.length : Int)) = false := by simp; omega
  go_enter Try.func35, Try.ntmps35
  go_wp2_with fail
  refine hE.mono ?_
  rintro e wc ⟨rfl, rfl⟩
  clear hE
  obtain ⟨W0, eW⟩ : ∃ W0, W0 = w.alloc (.cells #[] 3) := ⟨_, rfl⟩
  rw [← eW] at hown hb0 ⊢
  clear eW
  have HO := Lib.hid hown
  clear hown
  go_wp2_with fail
  go_loopw [4, 5] (fun s q wr => ∃ (k : Nat) (ao : Option Addr) (co : Nat), k ≤ 7 ∧ s = .slice ao (byVal xs (downs k)).length co ∧ q = .int .i64 (6 - (k : Int)) ∧ OwnI wr w.heap.size (.slice ao (byVal xs (downs k)).length co) (byVal xs (downs k)) ∧ Below w.heap.size w wr) (fun _ q _ => (intOf q + 1).toNat)
  case atStart => exact ⟨0, _, _, by omega, rfl, rfl, HO.out, hb0⟩
  case round =>
    clear hb0
    obtain ⟨k, ao, co, hk, rfl, rfl, hown, hbb⟩ := hrel
    by_cases hlt : k < 7
    · have hq0 : (0 : Int) ≤ 6 - (k : Int) := by omega
      have hk6 : (k : Int) ≤ 6 := by omega
      have hl0 := byVal_len xs (downs k)
      have hdl : (downs k).length = k := by simp [downs]
      rw [hdl] at hl0
      have hl42 : (byVal xs (downs k)).length ≤ 36 := Nat.le_trans hl0 (Nat.mul_le_mul (show k ≤ 6 by omega) h6)
      have hsn := byVal_snoc xs (downs k) (6 - (k : Int))
      rw [← downs_succ] at hsn
      obtain ⟨D, eD⟩ : ∃ D, D = byVal xs (downs k) := ⟨_, rfl⟩
      rw [← eD] at hown hl42 hsn ⊢
      have HSN := Lib.hid hsn
      clear eD hsn hl0 hdl
      go_wp2_with fail
      go_loopw [4, 6] (fun s q wr => ∃ (i : Nat) (ao : Option Addr) (co : Nat), i ≤ xs.length ∧ s = .slice ao (D ++ (xs.take i).filter (· == (6 - (k : Int)))).length co ∧ q = .int .i64 i ∧ OwnI wr w.heap.size (.slice ao (D ++ (xs.take i).filter (· == (6 - (k : Int)))).length co) (D ++ (xs.take i).filter (· == (6 - (k : Int)))) ∧ Below w.heap.size w wr) (fun _ q _ => xs.length - (intOf q).toNat)
      case atStart => exact ⟨0, ao, co, by omega, by simp, rfl, by simpa using hown, hbb⟩
      case round =>
        clear hown hbb
        obtain ⟨i, ao, co, hi, rfl, rfl, hown, hbb⟩ := hrel
        by_cases hil : i < xs.length
        · have hcr := (hbb.cell (p := ⟨b, off + i, none⟩) hbl).trans (HC.out i hil)
          have hat := hx.at hil
          have hfs := filter_snoc_i (p := (· == (6 - (k : Int)))) hil
          have hfl := List.length_filter_le (· == (6 - (k : Int))) (xs.take i)
          rw [List.length_take] at hfl
          obtain ⟨r, er⟩ : ∃ r, r = xs.getD i 0 := ⟨_, rfl⟩
          rw [← er] at hcr hat hfs
          obtain ⟨F, eF⟩ : ∃ F, F = (xs.take i).filter (· == (6 - (k : Int))) := ⟨_, rfl⟩
          rw [← eF] at hown hfs hfl ⊢
          have hD6 : (D ++ F).length ≤ 1000 := by rw [List.length_append]; omega
          by_cases hrk : r = 6 - (k : Int)
          · rw [if_pos (by simp [hrk])] at hfs
            have hown2 := hown.alloc (.cells #[.int .i64 r] 3)
            have hb3 : Below w.heap.size wr (wr.alloc (.cells #[.int .i64 r] 3)) := (Below.refl _ wr).alloc hbb.size _
            have hbs : w.heap.size ≤ (wr.alloc (.cells #[.int .i64 r] 3)).heap.size := Nat.le_trans hbb.size hb3.size
            have hlen : (D ++ F).length + ([r] : List Int).length ≤ 16777216 := by simp only [List.length_cons, List.length_nil]; omega
            have hone := Ints.one wr r 3
            rw [hrk] at hown2 hb3 hbs hlen hone hfs
            have HH := Lib.hid (And.intro hown2 (And.intro hbs (And.intro hlen (And.intro hone (And.intro hb3 (And.intro hbb hfs))))))
            have hrk2 : ¬ r ≠ 6 - (k : Int) := fun h => h hrk
            rw [hrk] at hcr
            clear hown2 hbs hlen hone hb3 hbb hown er eF hfl hrk hrk2 hat hfs
            go_wp2_with (at_builtin; refine wpList_app (v := .slice ao (D ++ F).length co) (ys := [6 - (k : Int)]) rfl (.tmp 33) (.tmp 35) rfl rfl HH.out.1 rfl HH.out.2.2.2.1 HH.out.2.2.1 HH.out.2.1 ?_; intro v6 w6 hown6 hgr6 _ _)
            obtain ⟨hown2, hbs, hlen, hone, hb3, hbb, hfs⟩ := HH.out
            rw [List.append_assoc, ← hfs] at hown6
            obtain ⟨a6, c6, rfl⟩ := hown6.ints.len
            have HO6 := Lib.hid hown6
            have hbe := Below.app (hbb.trans hb3) hown2 hgr6 (Nat.le_refl _) hbs
            clear hfs hown6 hown2 hbs hlen hone hb3 hbb hgr6
            go_roundw
            case rel => exact ⟨i + 1, a6, c6, by omega, rfl, by go_num, HO6.out, hbe⟩
            case measure => simp [intOf]; omega
          · rw [if_neg (by simpa using hrk), List.append_nil] at hfs
            have HF := Lib.hid hfs
            have HOW := Lib.hid hown
            clear hfs er eF hown
            go_wp2
            go_roundw
            case rel => exact ⟨i + 1, ao, co, by omega, by rw [HF.out], by go_num, by rw [HF.out]; exact HOW.out, hbb⟩
            case measure => simp [intOf]; omega
        · obtain rfl : i = xs.length := by omega
          rw [List.take_of_length_le (Nat.le_refl _), ← HSN.out] at hown ⊢
          have HOW := Lib.hid hown
          clear hown
          go_wp2
          go_roundw
          case rel => exact ⟨k + 1, ao, co, by omega, rfl, by go_num, HOW.out, hbb⟩
          case measure => simp [intOf]; omega
    · obtain rfl : k = 7 := by omega
      have HOW := Lib.hid hown
      clear hown
      go_wp2
      refine bodyPost_ret (v := .tuple #[.slice ao (byVal xs (downs 7)).length co, .bool true]) (by simp [results, Try.results35, go_sem]) rfl ?_
      exact ⟨_, rfl, HOW.out, hbb⟩
end Go.Proofs.Ytldmilpohappiaa
