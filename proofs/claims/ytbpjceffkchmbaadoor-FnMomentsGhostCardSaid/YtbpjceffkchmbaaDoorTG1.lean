/- Contract of added: a table with so many times another one added at a place. Conditions: tables of at most eight rows and columns, their numbers and the factor at most 999; the second one lies within the first. -/
import Derived.Test.YtbpjceffkchmbaaDoorTG0
import Derived.Test.YtbpjceffkchmbaaDoorTB2
import Derived.Test.YtbpjceffkchmbaaDoorTB4
import Derived.Test.YtbpjceffkchmbaaDoorTB6
import Derived.Laws.CopyOwn
import Derived.Laws.CopyRow
namespace Go.Proofs.YtbpjceffkchmbaaDoor
open Go.RowKit
theorem copy_row (W : World) {g s n : Nat} {xs ys : List Int} (hg : Row W g xs) (hs : Row W s ys) (hx : xs.length = n) (hy : ys.length = n) :
    ∃ W', (∀ ty, (Builtin.copy_ #[23, 23] ty #[.slice (some ⟨g, 0, none⟩) n n, .slice (some ⟨s, 0, none⟩) n n]).run Tryd.prog W = .ok (.int .i64 (n : Int)) W') ∧ Row W' g ys ∧ (∀ b, b ≠ g → W'.heap[b]? = W.heap[b]?) ∧ (∀ B, B ≤ g → Below B W W') := by
  have hsz : (Tryd.prog.info? 3).map (·.size) = some 1 := by kernel_rfl
  obtain ⟨sp, hg⟩ := hg
  have hrun := fun ty => run_copy_row Tryd.prog W 23 23 ty 3 g 0 n n ⟨s, 0, none⟩ n n (xs.map (Value.int .i64) ++ sp).toArray 3 (ys.map (Value.int .i64)) Tryd.underlying23 hsz hg (by rw [List.length_map, hy]; exact (Nat.min_self n).symm)
    (fun j v hj => by
      rw [List.getElem?_map] at hj
      by_cases hjl : j < ys.length
      · rw [List.getElem?_eq_getElem hjl] at hj
        cases hj
        rw [Go.WideShapes.add_plain, Nat.zero_add]
        have := hs.cell hjl
        rw [List.getD_eq_getElem?_getD, List.getElem?_eq_getElem hjl] at this
        exact this
      · rw [List.getElem?_eq_none (by omega)] at hj
        cases hj)
    (by rw [List.length_map, hy, List.size_toArray, List.length_append, List.length_map, hx]; omega) (fun v hv => by
      obtain ⟨z, _, rfl⟩ := List.mem_map.1 hv
      rfl)
  refine ⟨_, fun ty => by rw [hrun ty, List.length_map, hy]; rfl, ⟨sp, ?_⟩, fun b hb => setRow_other W g b _ hb, fun B hB => below_setRow (Below.refl B W) hB _⟩
  rw [setRow_heap W g _ _ 3 _ hg]
  congr 2
  simp [hx]
theorem Tbl.setRow {w w' : World} {gT h n : Nat} {gs : List Nat} {T : List (List Int)} (t : Tbl w gT h n gs T) {i : Nat} (hi : i < h) {ys : List Int} (hr : Row w' (gs.getD i 0) ys) (hy : ys.length = n) (hf : ∀ b, b ≠ gs.getD i 0 → w'.heap[b]? = w.heap[b]?) : Tbl w' gT h n gs (T.set i ys) := by
  have hti : i < T.length := by rw [t.tl]; exact hi
  have hget : ∀ k, (T.set i ys).getD k [] = if k = i then ys else T.getD k [] := fun k => by
    by_cases e : k = i
    · subst e; rw [if_pos rfl, List.getD_eq_getElem?_getD, List.getElem?_set_self hti]; rfl
    · rw [if_neg e, List.getD_eq_getElem?_getD, List.getElem?_set_ne (fun e2 => e e2.symm), List.getD_eq_getElem?_getD]
  refine ⟨t.gl, by rw [List.length_set, t.tl], ?_, fun k hk => ?_, fun k hk => ?_, t.inj, t.out⟩
  · obtain ⟨sp, hb⟩ := t.blk
    exact ⟨sp, (hf gT (t.out i hi).symm).trans hb⟩
  · rw [hget]
    by_cases e : k = i
    · subst e
      rw [if_pos rfl]
      exact hr
    · rw [if_neg e]
      exact (t.row k hk).of_block (hf _ fun e2 => e (t.inj k i hk hi e2))
  · rw [hget]
    split
    · exact hy
    · exact t.wid k hk
set_option maxRecDepth 100000 in
set_option maxHeartbeats 8000000 in
theorem added_c (gA gB h n h2 n2 i j : Nat) (c : Int) (gsA gsB : List Nat) (A B : List (List Int)) (h1 : 1 ≤ h) (h8 : h ≤ 8) (n8 : n ≤ 8) (hh : i + h2 ≤ h) (hn : j + n2 ≤ n) (hc : -999 ≤ c ∧ c ≤ 999) (hA : ∀ a b, a < h → b < n → -999 ≤ ent A a b ∧ ent A a b ≤ 999) (hB : ∀ a b, a < h2 → b < n2 → -999 ≤ ent B a b ∧ ent B a b ≤ 999) (w : World) (tA : Tbl w gA h n gsA A) (tB : Tbl w gB h2 n2 gsB B) :
    Calls Tryd.prog 66 #[.slice (some ⟨gA, 0, none⟩) h h, .slice (some ⟨gB, 0, none⟩) h2 h2, .int .i64 c, .int .i64 (i : Int), .int .i64 (j : Int)] w fun e w' => TblOut w h n (addT A B c i j h n h2 n2) w' e := by
  have hc0 := tA.cell (i := 0) (by omega)
  obtain ⟨g0, eg0⟩ : ∃ g, g = gsA.getD 0 0 := ⟨_, rfl⟩
  rw [← eg0] at hc0
  unfold rowV at hc0
  have HE := emptyTable_c h n (by omega) (by omega) w
  have HT := Lib.hid (And.intro tA (And.intro tB (And.intro hA hB)))
  clear tA tB hA hB eg0
  go_enter Tryd.func66, Tryd.ntmps66
  go_wp2_with fail
  refine HE.mono ?_
  rintro e w2 ⟨gT, gs, rfl, hT, hgT, hgs, hb2⟩
  clear HE hc0
  have h0 : Tbl w2 gT h n gs (filT (ent A) h n 0 0) := by rw [filT_zero]; exact hT
  have HX := Lib.hid (And.intro h0 (And.intro hgT (And.intro hgs hb2)))
  clear h0 hT hgT hgs hb2
  go_wp2_with fail
  go_loopw [27] (fun q wr => ∃ k : Nat, k ≤ h ∧ q = .int .i64 (k : Int) ∧ Tbl wr gT h n gs (filT (ent A) h n k 0) ∧ Below w.heap.size w wr) (fun q _ => h - (intOf q).toNat)
  case atStart => exact ⟨0, Nat.zero_le _, rfl, HX.out.1, HX.out.2.2.2⟩
  case round =>
    obtain ⟨k, hk, rfl, hT, hb⟩ := hrel
    by_cases hkl : k < h
    · have hki : (k : Int) < (h : Int) := by omega
      have tA := HT.out.1.below hb
      have hcA := tA.cell hkl
      have hcT := hT.cell hkl
      obtain ⟨w3, hrun, hr3, hf3, hb3⟩ := copy_row wr (hT.row k hkl) (tA.row k hkl) (hT.wid k hkl) (tA.wid k hkl)
      have hT3 := hT.setRow hkl hr3 (tA.wid k hkl) hf3
      rw [filT_copy tA.szd hkl] at hT3
      have hb4 := hb.trans (hb3 w.heap.size (HX.out.2.2.1 k hkl))
      obtain ⟨g, eg⟩ : ∃ g, g = gsA.getD k 0 := ⟨_, rfl⟩
      obtain ⟨gt, egt⟩ : ∃ g, g = gs.getD k 0 := ⟨_, rfl⟩
      rw [← eg] at hcA hrun
      rw [← egt] at hcT hrun
      unfold rowV at hcA hcT
      have HN := Lib.hid (And.intro hT3 hb4)
      clear tA hT hb hT3 hb4 hr3 hf3 hb3 eg egt
      go_wp2_with fail
      go_roundw
      case rel => exact ⟨k + 1, by omega, by go_num, HN.out⟩
      case measure => simp [intOf]; omega
    · have hki : ¬ ((k : Int) < (h : Int)) := by omega
      have hkh : k = h := by omega
      have hT' : Tbl wr gT h n gs (addS A B c i j h n n2 0 0) := by
        rw [hkh, filT_ent HT.out.1.szd] at hT
        rw [addS_zero HT.out.1.szd]
        exact hT
      have HN := Lib.hid (And.intro hT' hb)
      clear hT hb hT' hkh
      go_wp2_with fail
      go_loopw [41] (fun q wr => ∃ k : Nat, k ≤ h2 ∧ q = .int .i64 (k : Int) ∧ Tbl wr gT h n gs (addS A B c i j h n n2 k 0) ∧ Below w.heap.size w wr) (fun q _ => h2 - (intOf q).toNat)
      case atStart => exact ⟨0, Nat.zero_le _, rfl, HN.out⟩
      case round =>
        clear HN hki hkl hk
        obtain ⟨k, hk, rfl, hT, hb⟩ := hrel
        by_cases hkl : k < h2
        · have hki : (k : Int) < (h2 : Int) := by omega
          have tB := HT.out.2.1.below hb
          have hck := tB.cell hkl
          obtain ⟨g, eg⟩ : ∃ g, g = gsB.getD k 0 := ⟨_, rfl⟩
          rw [← eg] at hck
          unfold rowV at hck
          have HR := Lib.hid (And.intro hT (And.intro hb eg))
          clear tB hT hb eg
          go_wp2_with fail
          go_loopw [48] (fun q wr => ∃ l : Nat, l ≤ n2 ∧ q = .int .i64 (l : Int) ∧ Tbl wr gT h n gs (addS A B c i j h n n2 k l) ∧ Below w.heap.size w wr) (fun q _ => n2 - (intOf q).toNat)
          case atStart => exact ⟨0, Nat.zero_le _, rfl, HR.out.1, HR.out.2.1⟩
          case round =>
            obtain ⟨l, hl, rfl, hT, hb⟩ := hrel
            by_cases hll : l < n2
            · have hli : (l : Int) < (n2 : Int) := by omega
              have tB := HT.out.2.1.below hb
              have hcl := (tB.row k hkl).cell (k := l) (by rw [tB.wid k hkl]; exact hll)
              rw [← HR.out.2.2] at hcl
              have hp1 : (i : Int) + (k : Int) = ((i + k : Nat) : Int) := by omega
              have hp2 : (j : Int) + (l : Int) = ((j + l : Nat) : Int) := by omega
              have hpl : i + k < h := by omega
              have hql : j + l < n := by omega
              have hct := hT.cell hpl
              have hce := (hT.row _ hpl).cell (k := j + l) (by rw [hT.wid _ hpl]; exact hql)
              have hfe := (hT.row _ hpl).frozen (j + l)
              have hst := addS_step (A := A) (B := B) (c := c) hpl hql hll
              have hz := HT.out.2.2.2 k l hkl hll
              have ha := HT.out.2.2.1 _ _ hpl hql
              have hent : ent B k l = (B.getD k []).getD l 0 := rfl
              have hent2 : ((addS A B c i j h n n2 k l).getD (i + k) []).getD (j + l) 0 = ent A (i + k) (j + l) := addS_at hpl hql
              rw [hent2] at hce
              rw [hent] at hz hst
              obtain ⟨z, ez⟩ : ∃ z, z = (B.getD k []).getD l 0 := ⟨_, rfl⟩
              rw [← ez] at hcl hz hst
              obtain ⟨y, ey⟩ : ∃ z, z = ent A (i + k) (j + l) := ⟨_, rfl⟩
              rw [← ey] at hce ha hst
              have hm := mulB (a := c) (b := z) (c := 999) (e := 999) (by omega) (by omega) (by omega) (by omega)
              have hset := hT.set hpl hql (y + c * z)
              rw [show (addS A B c i j h n n2 k l).set (i + k) (((addS A B c i j h n n2 k l).getD (i + k) []).set (j + l) (y + c * z)) = addS A B c i j h n n2 k (l + 1) from hst] at hset
              have hge := HX.out.2.2.1 _ hpl
              obtain ⟨p, ep⟩ : ∃ p, p = i + k := ⟨_, rfl⟩
              obtain ⟨q, eq⟩ : ∃ p, p = j + l := ⟨_, rfl⟩
              rw [← ep] at hp1 hct hce hfe hset hge hpl
              rw [← eq] at hp2 hce hfe hset hql
              obtain ⟨gp, egp⟩ : ∃ g, g = gs.getD p 0 := ⟨_, rfl⟩
              rw [← egp] at hct hce hfe hset hge
              unfold rowV at hct
              have hset2 := hb.setCell (p := ⟨gp, q, none⟩) hge (.int .i64 (y + c * z))
              have HN := Lib.hid (And.intro hset hset2)
              clear tB hT hb hst hset hset2 hent hent2 ez ey egp ep eq
              go_wp2_with fail
              go_roundw
              case rel => exact ⟨l + 1, by omega, by go_num, HN.out⟩
              case measure => simp [intOf]; omega
            · have hli : ¬ ((l : Int) < (n2 : Int)) := by omega
              have hln : l = n2 := by omega
              rw [hln, addS_row] at hT
              have HN := Lib.hid (And.intro hT hb)
              clear hT hb hln
              go_wp2
              exact ⟨⟨k + 1, by omega, by go_num, HN.out⟩, by simp [intOf]; omega⟩
        · have hki : ¬ ((k : Int) < (h2 : Int)) := by omega
          have hkh : k = h2 := by omega
          rw [hkh] at hT
          have HN := Lib.hid (show TblOut w h n (addT A B c i j h n h2 n2) wr (.returned (.slice (some ⟨gT, 0, none⟩) h h)) from ⟨gT, gs, rfl, hT, HX.out.2.1, HX.out.2.2.1, hb⟩)
          clear hT hb hkh
          go_wp2
          go_returns
          exact HN.out
end Go.Proofs.YtbpjceffkchmbaaDoor
