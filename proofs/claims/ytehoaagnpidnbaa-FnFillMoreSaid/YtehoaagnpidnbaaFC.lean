/- Contract of ColSums of the reference. Conditions: the slice reads as a list of integers. -/
import Derived.Test.YtehoaagnpidnbaaFB
namespace Go.Proofs.Ytehoaagnpidnbaa
open Go.RowKit
theorem colSums_len (w : Nat) (ns : List Nat) : (colSums w ns).length = w := by simp [colSums]
theorem colSums_at {w : Nat} {ns : List Nat} {k : Nat} (hk : k < w) : (colSums w ns).getD k 0 = colSum ns k := by
  simp only [colSums, List.getD_eq_getElem?_getD, List.getElem?_map, List.getElem?_range hk, Option.map_some, Option.getD_some]
set_option maxHeartbeats 1000000 in
theorem sColSums_no (W : Int) (v : Value) (rows : List Int) (hn : validB W rows = false) (w : World) (hv : Ints w.heap.size w v rows) :
    Calls Try.prog 36 #[.agg #[.int .i64 W, v]] w (OwnOut w []) := by
  obtain ⟨A, cap, rfl⟩ := hv.len
  have hI := Arg.new hv
  have hW := Below.refl w.heap.size w
  go_enter Try.func36, Try.ntmps36
  have hb2 : Below (w.alloc (.cells #[.int .i64 W, .slice A rows.length cap] 24)).heap.size (w.alloc (.cells #[.int .i64 W, .slice A rows.length cap] 24)) ((w.alloc (.cells #[.int .i64 W, .slice A rows.length cap] 24)).alloc (.cells #[] 3)) := by go_grown
  have x1r := cellB hb2 (Box2.new w (.int .i64 W) (.slice A rows.length cap) 24).2.2
  clear x1r hb2
  obtain ⟨W0, e_W0⟩ : ∃ W0, W0 = World.alloc w (.cells #[.int .i64 W, .slice A rows.length cap] 24) := ⟨_, rfl⟩
  have hx_W0 := Box2.new w (.int .i64 W) (.slice A rows.length cap) 24
  have hb_W0 : Below (World.heap w).size w W0 := by rw [e_W0]; go_grown
  have HS_W0 := Lib.hid (show (World.heap W0).size = (World.heap w).size + 1 by rw [e_W0]; simp)
  replace hI := hI.below hb_W0
  replace hW := hW.trans (Below.mono hb_W0 hW.size)
  have HE_W0 := Lib.hid e_W0
  clear e_W0
  go_wp2_with fail
  rw [← HE_W0.out] at hx_W0 ⊢
  clear HE_W0
  obtain ⟨hl_x, x0, x1⟩ := hx_W0
  obtain ⟨Bx, e_Bx⟩ : ∃ Bx, Bx = (World.heap w).size := ⟨_, rfl⟩
  rw [← e_Bx] at hl_x x0 x1 hb_W0 HS_W0  ⊢
  have hz_Bx := hb_W0.size
  clear e_Bx hb_W0
  have hown := OwnI.empty (base := w.heap.size) W0 hW.size
  have hb2 : Below W0.heap.size W0 (W0.alloc (.cells #[] 3)) := by go_grown
  replace hI := hI.below hb2
  replace hW := hW.trans (Below.mono hb2 hW.size)
  replace x0 := cellB hb2 x0
  replace x1 := cellB hb2 x1
  rw [HS_W0.out] at hown
  obtain ⟨W2, eW2⟩ : ∃ W2, W2 = W0.alloc (.cells #[] 3) := ⟨_, rfl⟩
  rw [← eW2] at x0 x1 hI hW hown ⊢
  clear eW2 hb2 hv
  refine (sImageValid_c W _ rows _ hI.ints).mono ?_
  rintro e wc ⟨rfl, hb⟩
  rw [hn]
  replace hown := hown.below hb (Nat.le_refl _)
  replace hI := hI.below hb
  replace hW := hW.trans (Below.mono hb hW.size)
  replace x0 := cellB hb x0
  replace x1 := cellB hb x1
  have HO := Lib.hid hown
  clear hown hn hI x0 x1 hb
  go_wp2
  go_returns
  exact ⟨_, rfl, HO.out, hW⟩
set_option maxHeartbeats 2000000 in
theorem sColSums_yes (n : Nat) (v : Value) (ns : List Nat) (hV : VImg n ns) (w : World) (hv : Ints w.heap.size w v (casts ns)) :
    Calls Try.prog 36 #[.agg #[.int .i64 (n : Int), v]] w (OwnOut w (colSums n ns)) := by
  obtain ⟨A, cap, rfl⟩ := hv.len
  rw [length_casts] at hv ⊢
  have h1 := hV.h1
  have h6 := hV.h6
  have w6 := hV.w6
  have hvb := validB_of hV
  have hI := Arg.new hv
  have hW := Below.refl w.heap.size w
  go_enter Try.func36, Try.ntmps36
  obtain ⟨W0, e_W0⟩ : ∃ W0, W0 = World.alloc w (.cells #[.int .i64 (n : Int), .slice A ns.length cap] 24) := ⟨_, rfl⟩
  have hx_W0 := Box2.new w (.int .i64 (n : Int)) (.slice A ns.length cap) 24
  have hb_W0 : Below (World.heap w).size w W0 := by rw [e_W0]; go_grown
  have HS_W0 := Lib.hid (show (World.heap W0).size = (World.heap w).size + 1 by rw [e_W0]; simp)
  replace hI := hI.below hb_W0
  replace hW := hW.trans (Below.mono hb_W0 hW.size)
  have HE_W0 := Lib.hid e_W0
  clear e_W0
  go_wp2_with fail
  rw [← HE_W0.out] at hx_W0 ⊢
  clear HE_W0
  obtain ⟨hl_x, x0, x1⟩ := hx_W0
  obtain ⟨Bx, e_Bx⟩ : ∃ Bx, Bx = (World.heap w).size := ⟨_, rfl⟩
  rw [← e_Bx] at hl_x x0 x1 hb_W0 HS_W0  ⊢
  have hz_Bx := hb_W0.size
  clear e_Bx hb_W0
  have hown : OwnI (W0.alloc (.cells #[] 3)) W0.heap.size (.slice (some ⟨Bx + 1, 0, none⟩) 0 0) [] := by
    have := OwnI.empty (base := W0.heap.size) W0 (Nat.le_refl _)
    rwa [show (some (Addr.mk W0.heap.size 0 none)) = some ⟨Bx + 1, 0, none⟩ by rw [HS_W0.out]] at this
  have hb2 : Below W0.heap.size W0 (W0.alloc (.cells #[] 3)) := by go_grown
  have HX := Lib.hid (And.intro x0 (And.intro x1 (And.intro hI hW)))
  replace hI := hI.below hb2
  replace hW := hW.trans (Below.mono hb2 hW.size)
  replace x0 := cellB hb2 x0
  replace x1 := cellB hb2 x1
  obtain ⟨W2, eW2⟩ : ∃ W2, W2 = W0.alloc (.cells #[] 3) := ⟨_, rfl⟩
  rw [← eW2] at x0 x1 hI hW hown hb2 ⊢
  clear eW2 hv
  refine (sImageValid_c (n : Int) _ (casts ns) _ hI.ints).mono ?_
  rintro e wc ⟨rfl, hb⟩
  rw [hvb]
  replace hown := hown.below hb (Nat.le_refl _)
  have hb0 := hb2.trans (hb.mono hb2.size)
  clear hb2 hb x0 x1 hI hW
  go_wp2_with fail
  go_loopw [3, 4] (fun s q wr => ∃ (k : Nat) (ao : Option Addr) (co : Nat), k ≤ n ∧ s = .slice ao k co ∧ q = .int .i64 k ∧ OwnI wr W0.heap.size (.slice ao k co) ((colSums n ns).take k) ∧ Below W0.heap.size W0 wr) (fun _ q _ => n - (intOf q).toNat)
  case atStart => exact ⟨0, _, _, by omega, rfl, rfl, by simpa using hown, hb0⟩
  case round =>
    clear hown hb0
    obtain ⟨k, ao, co, hk, rfl, rfl, hown, hbb⟩ := hrel
    obtain ⟨x0, x1, hI, hW⟩ := HX.out
    replace x0 := cellB hbb x0
    replace x1 := cellB hbb x1
    replace hI := hI.below hbb
    replace hW := hW.trans (Below.mono hbb hW.size)
    by_cases hlt : k < n
    · have hIn := hI.ints
      obtain ⟨b, off, cap', e, hbl, hc⟩ := hIn.row (by rw [length_casts]; omega)
      rw [length_casts] at e hc
      injection e with e1 _ e3
      subst e1 e3
      have HC := Lib.hid hc
      have HO := Lib.hid (And.intro hown hbb)
      clear hc hIn hown hbb
      go_wp2_with fail
      go_loop [5, 6] (fun s q => ∃ m : Nat, m ≤ ns.length ∧ s = .int .i64 (sumN m fun i => b2i (cell ns i k)) ∧ q = .int .i64 m) (fun _ q => ns.length - (intOf q).toNat)
      case atStart => exact ⟨0, by omega, rfl, rfl⟩
      case round =>
        obtain ⟨m, hm, rfl, rfl⟩ := hrel
        have hbd := sumN_b2i_bd m fun i => cell ns i k
        have hst : sumN (m + 1) (fun i => b2i (cell ns i k)) = sumN m (fun i => b2i (cell ns i k)) + b2i ((ns.getD m 0).testBit k) := rfl
        obtain ⟨S, eS⟩ : ∃ S, S = sumN m fun i => b2i (cell ns i k) := ⟨_, rfl⟩
        rw [← eS] at hbd hst ⊢
        have HS := Lib.hid eS
        clear eS
        by_cases hml : m < ns.length
        · have hcm := HC.out m hml
          rw [casts_getD] at hcm
          have h64 := hV.get64 m
          obtain ⟨r, er⟩ : ∃ r, r = ns.getD m 0 := ⟨_, rfl⟩
          rw [← er] at hcm h64 hst
          have hb1 := b2i_bd (r.testBit k)
          have HST := Lib.hid hst
          clear hst er
          go_wp2_with (go_at_call 63; refine (l1Bit_c r k (by omega) (by omega) _).mono ?_; rintro e w' ⟨rfl, rfl⟩)
          go_round
          case rel => exact ⟨m + 1, by omega, by rw [HST.out], by go_num⟩
          case measure => simp [intOf]; omega
        · obtain rfl : m = ns.length := by omega
          clear hst
          obtain ⟨hown, hbb⟩ := HO.out
          have hts := take_snoc_i (xs := colSums n ns) (k := k) (by rw [colSums_len]; exact hlt)
          rw [colSums_at hlt, show colSum ns k = S from HS.out.symm] at hts
          have hlt6 : ((colSums n ns).take k).length = k := len_take (by rw [colSums_len]; exact hk)
          have hown2 := hown.alloc (.cells #[.int .i64 S] 3)
          have hb3 : Below W0.heap.size wr (wr.alloc (.cells #[.int .i64 S] 3)) := (Below.refl _ wr).alloc hbb.size _
          have hbs : W0.heap.size ≤ (wr.alloc (.cells #[.int .i64 S] 3)).heap.size := Nat.le_trans hbb.size hb3.size
          have hlen : ((colSums n ns).take k).length + ([S] : List Int).length ≤ 16777216 := by rw [hlt6]; simp; omega
          have hone := Ints.one wr S 3
          have HH := Lib.hid (And.intro hown2 (And.intro hbs (And.intro hlen (And.intro hone (And.intro hb3 (And.intro hbb (And.intro hts hlt6)))))))
          clear hown2 hbs hlen hone hb3 hbb hts hlt6 hown hvb
          go_wp2_with (at_builtin; refine wpList_app (v := .slice ao k co) (ys := [S]) rfl (.tmp 34) (.tmp 36) rfl rfl HH.out.1 rfl HH.out.2.2.2.1 HH.out.2.2.1 HH.out.2.1 ?_; intro v6 w6 hown6 hgr6 _ _)
          obtain ⟨hown2, hbs, hlen, hone, hb3, hbb, hts, hlt6⟩ := HH.out
          rw [← hts] at hown6
          obtain ⟨a6, c6, rfl⟩ : ∃ a c, v6 = .slice a (k + 1) c := by
            obtain ⟨a, c, e⟩ := hown6.ints.len
            rw [len_take (by rw [colSums_len]; exact hlt)] at e
            exact ⟨a, c, e⟩
          refine ⟨⟨k + 1, a6, c6, by omega, rfl, by go_num, hown6, Below.app (hbb.trans hb3) hown2 hgr6 (Nat.le_refl _) hbs⟩, by simp [intOf]; omega⟩
    · obtain rfl : k = n := by omega
      rw [List.take_of_length_le (by rw [colSums_len]; exact Nat.le_refl _)] at hown
      have hsz : w.heap.size ≤ W0.heap.size := by have h1 := HX.out.2.2.2.size; omega
      have HO := Lib.hid (hown.more hsz)
      clear hown hvb
      go_wp2
      go_returns
      exact ⟨_, rfl, HO.out, hW⟩
end Go.Proofs.Ytehoaagnpidnbaa
