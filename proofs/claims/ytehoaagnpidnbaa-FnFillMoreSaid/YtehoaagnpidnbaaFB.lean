/- Contracts of l2Row, RowSums, ColSums of the reference. Conditions: the slice reads as a list of integers. -/
import Derived.Test.YtehoaagnpidnbaaFA
import Derived.Test.YtehoaagnpidnbaaTW
import Derived.Test.YtehoaagnpidnbaaKX
import Derived.Test.YtehoaagnpidnbaaKY
namespace Go.Proofs.Ytehoaagnpidnbaa
open Go.RowKit
theorem sumN_b2i_bd (n : Nat) (p : Nat → Bool) : 0 ≤ sumN n (fun k => b2i (p k)) ∧ sumN n (fun k => b2i (p k)) ≤ n := by
  have := sumN_bd (n := n) (f := fun k => b2i (p k)) (c := 1) fun k _ => b2i_bd _
  omega
set_option maxHeartbeats 1000000 in
theorem l2Row_c (n : Nat) (v : Value) (ns : List Nat) (hV : VImg n ns) (i : Nat) (hi : i < ns.length) (w : World) (hv : Ints w.heap.size w v (casts ns)) :
    Calls Try.prog 62 #[.agg #[.int .i64 (n : Int), v], .int .i64 (i : Int)] w fun e w' => e = .returned (.int .i64 (pop n (ns.getD i 0))) ∧ Below w.heap.size w w' := by
  obtain ⟨A, cap, rfl⟩ := hv.len
  rw [length_casts] at hv ⊢
  have w6 := hV.w6
  have hI := Arg.new hv
  have hW := Below.refl w.heap.size w
  go_enter Try.func62, Try.ntmps62
  obtain ⟨W0, e_W0⟩ : ∃ W0, W0 = World.alloc w (.cells #[.int .i64 (n : Int), .slice A ns.length cap] 24) := ⟨_, rfl⟩
  have hx_W0 := Box2.new w (.int .i64 (n : Int)) (.slice A ns.length cap) 24
  have hb_W0 : Below (World.heap w).size w W0 := by rw [e_W0]; go_grown
  have HS_W0 := Lib.hid (show (World.heap W0).size = (World.heap w).size + 1 by rw [e_W0]; simp)
  replace hI := hI.below hb_W0
  replace hW := hW.trans (Below.mono hb_W0 hW.size)
  have HE_W0 := Lib.hid e_W0
  clear e_W0
  go_wp2_with fail
  rw [← HE_W0.out] at hx_W0 ⊢
  clear HE_W0
  obtain ⟨hl_x, x0, x1⟩ := hx_W0
  obtain ⟨Bx, e_Bx⟩ : ∃ Bx, Bx = (World.heap w).size := ⟨_, rfl⟩
  rw [← e_Bx] at hl_x x0 x1 hb_W0 HS_W0  ⊢
  have hz_Bx := hb_W0.size
  clear e_Bx hb_W0
  have hIn := hI.ints
  obtain ⟨b, off, cap', e, hbl, hc⟩ := hIn.row (by rw [length_casts]; omega)
  rw [length_casts] at e
  injection e with e1 _ e3
  subst e1 e3
  have hci := hc i (by rw [length_casts]; exact hi)
  rw [casts_getD] at hci
  have h64 := hV.get64 i
  obtain ⟨r, er⟩ : ∃ r, r = ns.getD i 0 := ⟨_, rfl⟩
  rw [← er] at hci h64
  have HR := Lib.hid er
  clear er hc hIn hI hv
  go_loop [5, 6] (fun s q => ∃ k : Nat, k ≤ n ∧ s = .int .i64 (sumN k fun j => b2i (r.testBit j)) ∧ q = .int .i64 k) (fun _ q => n - (intOf q).toNat)
  case atStart => exact ⟨0, by omega, rfl, rfl⟩
  case round =>
    obtain ⟨k, hk, rfl, rfl⟩ := hrel
    have hbd := sumN_b2i_bd k fun j => r.testBit j
    have hb1 := b2i_bd (r.testBit k)
    have hst : sumN (k + 1) (fun j => b2i (r.testBit j)) = sumN k (fun j => b2i (r.testBit j)) + b2i (r.testBit k) := rfl
    obtain ⟨S, eS⟩ : ∃ S, S = sumN k fun j => b2i (r.testBit j) := ⟨_, rfl⟩
    rw [← eS] at hbd hst ⊢
    have HST := Lib.hid hst
    have HS := Lib.hid eS
    clear hst eS
    by_cases hlt : k < n
    · go_wp2_with (go_at_call 63; refine (l1Bit_c r k (by omega) (by omega) _).mono ?_; rintro e w' ⟨rfl, rfl⟩)
      go_round
      case rel => exact ⟨k + 1, by omega, by rw [HST.out], by go_num⟩
      case measure => simp [intOf]; omega
    · obtain rfl : k = n := by omega
      go_wp2
      go_returns
      exact ⟨ri (by rw [HS.out, HR.out]; first | rfl | (unfold pop; simp [List.getD_eq_getElem?_getD, hi])), hW⟩
/-- The row sums of whatever image, none of an invalid one. -/
def rsOf (W : Int) (rows : List Int) : List Int := if validB W rows = true then rowSums W.toNat (rows.map Int.toNat) else []
def csOf (W : Int) (rows : List Int) : List Int := if validB W rows = true then colSums W.toNat (rows.map Int.toNat) else []
theorem unCast (ns : List Nat) : (casts ns).map Int.toNat = ns := by simp [casts, Function.comp_def]
theorem rsOf_yes {n : Nat} {ns : List Nat} (hV : VImg n ns) : rsOf n (casts ns) = rowSums n ns := by
  unfold rsOf
  rw [if_pos (validB_of hV), unCast, Int.toNat_natCast]
theorem csOf_yes {n : Nat} {ns : List Nat} (hV : VImg n ns) : csOf n (casts ns) = colSums n ns := by
  unfold csOf
  rw [if_pos (validB_of hV), unCast, Int.toNat_natCast]
theorem rsOf_no {W : Int} {rows : List Int} (h : validB W rows = false) : rsOf W rows = [] := by unfold rsOf; rw [h]; rfl
theorem csOf_no {W : Int} {rows : List Int} (h : validB W rows = false) : csOf W rows = [] := by unfold csOf; rw [h]; rfl
theorem take_snoc_i {xs : List Int} {k : Nat} (hk : k < xs.length) : xs.take (k + 1) = xs.take k ++ [xs.getD k 0] := by
  rw [List.take_succ_eq_append_getElem hk, List.getD_eq_getElem?_getD, List.getElem?_eq_getElem hk]
  rfl
theorem len_take {xs : List Int} {k : Nat} (hk : k ≤ xs.length) : (xs.take k).length = k := by rw [List.length_take]; omega
/-- A list of the call's own, in a world. -/
def OwnOut (w : World) (xs : List Int) (e : Ending) (w' : World) : Prop := ∃ v, e = .returned v ∧ OwnI w' w.heap.size v xs ∧ Below w.heap.size w w'
set_option maxHeartbeats 1000000 in
theorem sRowSums_no (W : Int) (v : Value) (rows : List Int) (hn : validB W rows = false) (w : World) (hv : Ints w.heap.size w v rows) :
    Calls Try.prog 35 #[.agg #[.int .i64 W, v]] w (OwnOut w []) := by
  obtain ⟨A, cap, rfl⟩ := hv.len
  have hI := Arg.new hv
  have hW := Below.refl w.heap.size w
  go_enter Try.func35, Try.ntmps35
  obtain ⟨W0, e_W0⟩ : ∃ W0, W0 = World.alloc w (.cells #[.int .i64 W, .slice A rows.length cap] 24) := ⟨_, rfl⟩
  have hx_W0 := Box2.new w (.int .i64 W) (.slice A rows.length cap) 24
  have hb_W0 : Below (World.heap w).size w W0 := by rw [e_W0]; go_grown
  have HS_W0 := Lib.hid (show (World.heap W0).size = (World.heap w).size + 1 by rw [e_W0]; simp)
  replace hI := hI.below hb_W0
  replace hW := hW.trans (Below.mono hb_W0 hW.size)
  have HE_W0 := Lib.hid e_W0
  clear e_W0
  go_wp2_with fail
  rw [← HE_W0.out] at hx_W0 ⊢
  clear HE_W0
  obtain ⟨hl_x, x0, x1⟩ := hx_W0
  obtain ⟨Bx, e_Bx⟩ : ∃ Bx, Bx = (World.heap w).size := ⟨_, rfl⟩
  rw [← e_Bx] at hl_x x0 x1 hb_W0 HS_W0  ⊢
  have hz_Bx := hb_W0.size
  clear e_Bx hb_W0
  have hown := OwnI.empty (base := w.heap.size) W0 hW.size
  have hb2 : Below W0.heap.size W0 (W0.alloc (.cells #[] 3)) := by go_grown
  replace hI := hI.below hb2
  replace hW := hW.trans (Below.mono hb2 hW.size)
  replace x0 := cellB hb2 x0
  replace x1 := cellB hb2 x1
  obtain ⟨W2, eW2⟩ : ∃ W2, W2 = W0.alloc (.cells #[] 3) := ⟨_, rfl⟩
  rw [← eW2] at x0 x1 hI hW hown ⊢
  rw [HS_W0.out] at hown
  have HO := Lib.hid hown
  clear eW2 hb2 hv hown
  go_loopw [3, 4] (fun s q wr => s = .slice (some ⟨Bx + 1, 0, none⟩) 0 0 ∧ q = .int .i64 0 ∧ wr = W2) (fun _ _ _ => 0)
  case atStart => exact ⟨rfl, rfl, rfl⟩
  case round =>
    obtain ⟨rfl, rfl, rfl⟩ := hrel
    by_cases h0 : 0 < rows.length
    · go_wp2_with fail
      refine (sImageValid_c W _ rows _ hI.ints).mono ?_
      rintro e wc ⟨rfl, hb⟩
      rw [hn]
      have hown := HO.out.below hb (Nat.le_refl _)
      replace hI := hI.below hb
      replace hW := hW.trans (Below.mono hb hW.size)
      replace x0 := cellB hb x0
      replace x1 := cellB hb x1
      have HO2 := Lib.hid hown
      clear hown hn hI x0 x1 hb
      go_wp2
      go_returns
      exact ⟨_, rfl, HO2.out, hW⟩
    · clear hn hI
      go_wp2
      go_returns
      exact ⟨_, rfl, HO.out, hW⟩
set_option maxHeartbeats 2000000 in
theorem sRowSums_yes (n : Nat) (v : Value) (ns : List Nat) (hV : VImg n ns) (w : World) (hv : Ints w.heap.size w v (casts ns)) :
    Calls Try.prog 35 #[.agg #[.int .i64 (n : Int), v]] w (OwnOut w (rowSums n ns)) := by
  obtain ⟨A, cap, rfl⟩ := hv.len
  rw [length_casts] at hv ⊢
  have h6 := hV.h6
  have hvb := validB_of hV
  have hI := Arg.new hv
  have hW := Below.refl w.heap.size w
  go_enter Try.func35, Try.ntmps35
  obtain ⟨W0, e_W0⟩ : ∃ W0, W0 = World.alloc w (.cells #[.int .i64 (n : Int), .slice A ns.length cap] 24) := ⟨_, rfl⟩
  have hx_W0 := Box2.new w (.int .i64 (n : Int)) (.slice A ns.length cap) 24
  have hb_W0 : Below (World.heap w).size w W0 := by rw [e_W0]; go_grown
  have HS_W0 := Lib.hid (show (World.heap W0).size = (World.heap w).size + 1 by rw [e_W0]; simp)
  replace hI := hI.below hb_W0
  replace hW := hW.trans (Below.mono hb_W0 hW.size)
  have HE_W0 := Lib.hid e_W0
  clear e_W0
  go_wp2_with fail
  rw [← HE_W0.out] at hx_W0 ⊢
  clear HE_W0
  obtain ⟨hl_x, x0, x1⟩ := hx_W0
  obtain ⟨Bx, e_Bx⟩ : ∃ Bx, Bx = (World.heap w).size := ⟨_, rfl⟩
  rw [← e_Bx] at hl_x x0 x1 hb_W0 HS_W0  ⊢
  have hz_Bx := hb_W0.size
  clear e_Bx hb_W0
  have hown : OwnI (W0.alloc (.cells #[] 3)) W0.heap.size (.slice (some ⟨Bx + 1, 0, none⟩) 0 0) [] := by
    have := OwnI.empty (base := W0.heap.size) W0 (Nat.le_refl _)
    rwa [show (some (Addr.mk W0.heap.size 0 none)) = some ⟨Bx + 1, 0, none⟩ by rw [HS_W0.out]] at this
  have hb2 : Below W0.heap.size W0 (W0.alloc (.cells #[] 3)) := by go_grown
  obtain ⟨W2, eW2⟩ : ∃ W2, W2 = W0.alloc (.cells #[] 3) := ⟨_, rfl⟩
  rw [← eW2] at hown hb2 ⊢
  have hb0 := hb2
  have hlx : Bx < W0.heap.size := lt_of_cell x0
  have HX := Lib.hid (And.intro x0 (And.intro x1 (And.intro hI hW)))
  clear eW2 hv x0 x1 hI hW hb2
  go_loopw [3, 4] (fun s q wr => ∃ (k : Nat) (ao : Option Addr) (co : Nat), k ≤ ns.length ∧ s = .slice ao k co ∧ q = .int .i64 k ∧ OwnI wr W0.heap.size (.slice ao k co) ((rowSums n ns).take k) ∧ Below W0.heap.size W0 wr) (fun _ q _ => ns.length - (intOf q).toNat)
  case atStart => exact ⟨0, _, _, by omega, rfl, rfl, by simpa using hown, hb0⟩
  case round =>
    clear hown hb0
    obtain ⟨k, ao, co, hk, rfl, rfl, hown, hbb⟩ := hrel
    obtain ⟨x0, x1, hI, hW⟩ := HX.out
    replace x0 := cellB hbb x0
    replace x1 := cellB hbb x1
    replace hI := hI.below hbb
    replace hW := hW.trans (Below.mono hbb hW.size)
    by_cases hlt : k < ns.length
    · go_wp2_with fail
      refine (sImageValid_c (n : Int) _ (casts ns) _ hI.ints).mono ?_
      rintro e wc ⟨rfl, hb⟩
      rw [hvb]
      replace hbb := hbb.trans (hb.mono hbb.size)
      replace x0 := cellB hb x0
      replace x1 := cellB hb x1
      replace hI := hI.below hb
      replace hW := hW.trans (Below.mono hb hW.size)
      replace hown := hown.below hb (Nat.le_refl _)
      go_wp2_with fail
      refine (l2Row_c n _ ns hV k hlt _ hI.ints).mono ?_
      rintro e wc ⟨rfl, hb⟩
      replace hbb := hbb.trans (hb.mono hbb.size)
      replace x0 := cellB hb x0
      replace x1 := cellB hb x1
      replace hI := hI.below hb
      replace hW := hW.trans (Below.mono hb hW.size)
      replace hown := hown.below hb (Nat.le_refl _)
      have hts := take_snoc_i (xs := rowSums n ns) (k := k) (by rw [rowSums_len]; exact hlt)
      rw [rowSums_at hlt] at hts
      have hlt6 : ((rowSums n ns).take k).length = k := len_take (by rw [rowSums_len]; exact hk)
      obtain ⟨z, ez⟩ : ∃ z, z = pop n (ns.getD k 0) := ⟨_, rfl⟩
      rw [← ez] at hts ⊢
      have hown2 := hown.alloc (.cells #[.int .i64 z] 3)
      have hb3 : Below W0.heap.size wc (wc.alloc (.cells #[.int .i64 z] 3)) := (Below.refl _ wc).alloc hbb.size _
      have hbs : W0.heap.size ≤ (wc.alloc (.cells #[.int .i64 z] 3)).heap.size := Nat.le_trans hbb.size hb3.size
      have hlen : ((rowSums n ns).take k).length + ([z] : List Int).length ≤ 16777216 := by rw [hlt6]; simp; omega
      have hone := Ints.one wc z 3
      have HH := Lib.hid (And.intro hown2 (And.intro hbs (And.intro hlen (And.intro hone (And.intro hb3 (And.intro hbb (And.intro hts hlt6)))))))
      clear hown2 hbs hlen hone hb3 hbb hts hlt6 ez hown hvb
      go_wp2_with (at_builtin; refine wpList_app (v := .slice ao k co) (ys := [z]) rfl (.tmp 17) (.tmp 21) rfl rfl HH.out.1 rfl HH.out.2.2.2.1 HH.out.2.2.1 HH.out.2.1 ?_; intro v6 w6 hown6 hgr6 _ _)
      obtain ⟨hown2, hbs, hlen, hone, hb3, hbb, hts, hlt6⟩ := HH.out
      rw [← hts] at hown6
      obtain ⟨a6, c6, rfl⟩ : ∃ a c, v6 = .slice a (k + 1) c := by
        obtain ⟨a, c, e⟩ := hown6.ints.len
        rw [len_take (by rw [rowSums_len]; exact hlt)] at e
        exact ⟨a, c, e⟩
      refine ⟨⟨k + 1, a6, c6, by omega, rfl, by go_num, hown6, Below.app (hbb.trans hb3) hown2 hgr6 (Nat.le_refl _) hbs⟩, by simp [intOf]; omega⟩
    · obtain rfl : k = ns.length := by omega
      rw [List.take_of_length_le (by rw [rowSums_len]; exact Nat.le_refl _)] at hown
      have hsz : w.heap.size ≤ W0.heap.size := by have h1 := HX.out.2.2.2.size; omega
      have HO := Lib.hid (hown.more hsz)
      clear hown hvb
      go_wp2
      go_returns
      exact ⟨_, rfl, HO.out, hW⟩
end Go.Proofs.Ytehoaagnpidnbaa
