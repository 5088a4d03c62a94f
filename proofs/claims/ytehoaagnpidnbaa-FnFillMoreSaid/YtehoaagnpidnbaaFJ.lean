/- Contracts of l93Any, DrawFillMost, DrawFillImage. Conditions: the reader lies in block R; the code's slice can be read. -/
import Derived.Test.YtehoaagnpidnbaaFI
namespace Go.Proofs.Ytehoaagnpidnbaa
open Go.RowKit
theorem grn_own {w a b : World} {R : Nat} {v : Value} (h : w.grownBy a (some R)) (hg : a.grownBy b v.ownBlock) (hv : ∀ k, v.ownBlock = some k → w.heap.size ≤ k) : w.grownBy b (some R) :=
  ⟨hg.os.trans h.os, hg.tape.trans h.tape, hg.output.trans h.output, Nat.le_trans h.size hg.size, fun k hk hne => (hg.block k (Nat.lt_of_lt_of_le hk h.size) (fun e => by have := hv k e.symm; omega)).trans (h.block k hk hne)⟩
theorem Rd.own {w w' : World} {R K : Nat} {v : Value} (h : Rd w R K) (hg : w.grownBy w' v.ownBlock) (hv : ∀ k, v.ownBlock = some k → R < k) : Rd w' R K := by
  cases e : v.ownBlock with
  | none =>
    rw [e] at hg
    exact h.below (B := w.heap.size) ⟨hg.os, hg.tape, hg.output, hg.size, fun i hi => hg.block i hi (by simp)⟩ h.1
  | some k => rw [e] at hg; exact h.only hg (hv k e)
/-- One number more, out of a draw. -/
theorem draw_app {w wc w6 : World} {R base : Nat} {ao : Option Addr} {k co : Nat} {xs : List Int} {z : Int} {v6 : Value} {u : Value} {us : List Int}
    (hb : w.heap.size ≤ base) (hRw : R < w.heap.size) (hon : w.grownBy wc (some R)) (hox : OwnI wc base (.slice ao k co) xs) (hou : OwnI wc base u us) (hne : ∀ a b, (Value.slice ao k co).ownBlock = some a → u.ownBlock = some b → a ≠ b)
    (hown6 : OwnI w6 base v6 (xs ++ [z])) (hgr6 : (wc.alloc (.cells #[.int .i64 z] 3)).grownBy w6 (Value.slice ao k co).ownBlock) (hat : v6.ownBlock = (Value.slice ao k co).ownBlock ∨ v6.ownBlock = some (wc.alloc (.cells #[.int .i64 z] 3)).heap.size)
    {K : Nat} (hrd : Rd wc R K) : OwnI w6 base u us ∧ (∀ a b, v6.ownBlock = some a → u.ownBlock = some b → a ≠ b) ∧ w.grownBy w6 (some R) ∧ Rd w6 R K := by
  refine ⟨(hou.alloc _).grown hgr6 fun b hu he => ?_, fun a b ha hbq => ?_, grn_own (only_alloc hon _) hgr6 fun q hq => ?_, ?_⟩
  · exact hne b b he.symm hu rfl
  · rcases hat with h | h
    · exact hne a b (by rw [← h]; exact ha) hbq
    · have := (hou.own_lt b hbq).2
      rw [h] at ha
      simp at ha
      omega
  · have := (hox.own_lt q hq).1; omega
  · refine Rd.own (v := .slice ao k co) (hrd.below (B := wc.heap.size) ((Below.refl _ _).alloc (Nat.le_refl _) _) hrd.1) hgr6 fun q hq => ?_
    have := (hox.own_lt q hq).1
    omega
set_option maxRecDepth 100000 in
set_option maxHeartbeats 4000000 in
theorem l93Any_c (R K : Nat) (hK : K ≤ 400000) (w : World) (hR : Rd w R K) :
    Calls Try.prog 38 #[.pointer (some ⟨R, 0, none⟩)] w fun e w' => TwoOut w.heap.size 0 12 12 w' e ∧ w.grownBy w' (some R) ∧ Rd w' R (K + 20) := by
  have hlt := hR.1
  go_enter Try.func38, Try.ntmps38
  go_wp2_with fail
  refine (pick_c R K 3 (by omega) (by omega) (by omega) w hR).mono ?_
  rintro e w1 ⟨⟨x, rfl, hx⟩, hrd, hon⟩
  by_cases e0 : x = 0
  · subst e0
    go_wp2_with fail
    refine (l91SumsWrong_c R (K + 1) 36 (by omega) (by omega) (by omega) _ hrd).mono ?_
    rintro e w2 ⟨⟨u, v, rs, cs, rfl, hT, _, hr6, hc6⟩, hg, hrd2⟩
    have hT2 : Two w.heap.size w2 u v rs cs := ⟨hT.r.more hon.size, hT.c.more hon.size, hT.ne⟩
    have hon2 := only_trans hon hg
    have HM := Lib.hid (show TwoOut w.heap.size 0 12 12 w2 (.returned (.tuple #[u, v])) ∧ w.grownBy w2 (some R) ∧ Rd w2 R (K + 20) from ⟨⟨_, _, _, _, rfl, hT2, ⟨by omega, by omega⟩, hr6, hc6⟩, hon2, hrd2.more (by omega)⟩)
    clear hT hT2 hon2 hrd2 hg hon hrd
    go_wp2
    refine bodyPost_ret (v := .tuple #[u, v]) (by simp [results, Try.results38, go_sem]) rfl ?_
    exact HM.out
  · have f0 : ((x : Int) == 0) = false := by simp; omega
    go_wp2_with fail
    refine (pick_c R (K + 1) 6 (by omega) (by omega) (by omega) _ hrd).mono ?_
    rintro e w2 ⟨⟨h, rfl, hh⟩, hrd2, hg⟩
    replace hon := only_trans hon hg
    clear hrd hg f0
    go_wp2_with fail
    refine (pick_c R (K + 1 + 1) 6 (by omega) (by omega) (by omega) _ hrd2).mono ?_
    rintro e w3 ⟨⟨n, rfl, hn⟩, hrd3, hg⟩
    replace hon := only_trans hon hg
    clear hrd2 hg
    have hsz := hon.size
    have hR3 := hrd3.1
    obtain ⟨Z, eZ⟩ : ∃ Z, Z = w3.heap.size := ⟨_, rfl⟩
    have o1 := (OwnI.empty (base := Z) w3 (by omega)).alloc (.cells #[] 3)
    have o2 := OwnI.empty (base := Z) (w3.alloc (.cells #[] 3)) (by simp; omega)
    rw [show (World.heap (w3.alloc (.cells #[] 3))).size = w3.heap.size + 1 by simp] at o2
    have hb5 : Below w3.heap.size w3 ((w3.alloc (.cells #[] 3)).alloc (.cells #[] 3)) := by go_grown
    have hon5 := only_trans hon (only_of_below hb5 (some R))
    have hrd5 := hrd3.below hb5 hR3
    obtain ⟨W5, e5⟩ : ∃ W, W = (w3.alloc (.cells #[] 3)).alloc (.cells #[] 3) := ⟨_, rfl⟩
    rw [← e5] at o1 o2 hon5 hrd5
    rw [← eZ] at o1 o2
    have HO := Lib.hid (And.intro o1 (And.intro o2 (And.intro hon5 hrd5)))
    have HE := Lib.hid e5
    have HZ := Lib.hid eZ
    have hwZ : w.heap.size ≤ Z := by omega
    clear o1 o2 hon5 hrd5 e5 hon hrd3 eZ hb5
    go_wp2_with fail
    rw [← HE.out, ← HZ.out]
    clear HE
    go_loopw [8, 10] (fun s q wr => ∃ (k : Nat) (ao : Option Addr) (co : Nat) (xs : List Int), k ≤ 1 + h ∧ s = .slice ao k co ∧ q = .int .i64 k ∧ xs.length = k ∧ OwnI wr Z (.slice ao k co) xs ∧ OwnI wr Z (.slice (some ⟨Z + 1, 0, none⟩) 0 0) [] ∧ (∀ a b, (Value.slice ao k co).ownBlock = some a → (Value.slice (some ⟨Z + 1, 0, none⟩) 0 0).ownBlock = some b → a ≠ b) ∧ w.grownBy wr (some R) ∧ Rd wr R (K + 1 + 1 + 1 + k)) (fun _ q _ => 1 + h - (intOf q).toNat)
    case atStart => exact ⟨0, _, _, [], by omega, rfl, rfl, rfl, HO.out.1, HO.out.2.1, fun a b ha hb => by simp [Value.ownBlock] at ha hb; omega, HO.out.2.2.1, HO.out.2.2.2⟩
    case round =>
      clear HO
      obtain ⟨k, ao, co, xs, hk, rfl, rfl, hxl, hox, hou, hne, hon, hrd⟩ := hrel
      by_cases hkl : k < 1 + h
      · have hki : (k : Int) < 1 + (h : Int) := by omega
        have HP := pick_c R (K + 1 + 1 + 1 + k) (n + 2) (by omega) (by omega) (by omega) wr hrd
        rw [show ((n + 2 : Nat) : Int) = 1 + (n : Int) + 1 by omega] at HP
        have HX := Lib.hid hxl
        clear hxl
        go_wp2_with fail
        refine HP.mono ?_
        rintro e wc ⟨⟨z, rfl, hz⟩, hrd2, hg⟩
        replace hon := only_trans hon hg
        replace hox := hox.only hg (by omega)
        replace hou := hou.only hg (by omega)
        clear HP hrd hg
        have hown2 := hox.alloc (.cells #[.int .i64 (z : Int)] 3)
        have hbs : Z ≤ (wc.alloc (.cells #[.int .i64 (z : Int)] 3)).heap.size := by have := (hou.own_lt (Z + 1) rfl).2; simp; omega
        have hlen : xs.length + ([(z : Int)] : List Int).length ≤ 16777216 := by rw [HX.out]; simp; omega
        have hone := Ints.one wc (z : Int) 3
        have HH := Lib.hid (And.intro hown2 (And.intro hbs (And.intro hlen (And.intro hone (And.intro hox (And.intro hou (And.intro hne (And.intro hon hrd2))))))))
        clear hown2 hbs hlen hone hox hou hne hon hrd2
        go_wp2_with (at_builtin; refine wpList_app (v := .slice ao k co) (ys := [(z : Int)]) rfl (.tmp 35) (.tmp 40) rfl rfl HH.out.1 rfl HH.out.2.2.2.1 HH.out.2.2.1 HH.out.2.1 ?_; intro v6 w6 hown6 hgr6 _ hat6)
        obtain ⟨_, _, _, _, hox, hou, hne, hon, hrd2⟩ := HH.out
        have HD := draw_app hwZ hlt hon hox hou hne hown6 hgr6 hat6 hrd2
        have hl6 : (xs ++ [(z : Int)]).length = k + 1 := by rw [List.length_append, HX.out]; rfl
        obtain ⟨a6, c6, e6⟩ := hown6.ints.len
        rw [hl6] at e6
        subst e6
        have HD2 := Lib.hid (And.intro hl6 (And.intro hown6 HD))
        clear hox hou hne hon hrd2 HD hl6 hown6 hgr6 hat6 HH
        go_roundw
        case rel => exact ⟨k + 1, a6, c6, xs ++ [(z : Int)], by omega, rfl, by go_num, HD2.out.1, HD2.out.2.1, HD2.out.2.2.1, HD2.out.2.2.2.1, HD2.out.2.2.2.2.1, HD2.out.2.2.2.2.2.more (by omega)⟩
        case measure => simp [intOf]; omega
      · obtain rfl : k = 1 + h := by omega
        have hki : ¬ ((1 + h : Nat) : Int) < 1 + (h : Int) := by omega
        have HX := Lib.hid hxl
        have HS := Lib.hid (And.intro hox (And.intro hou (And.intro hne (And.intro hon hrd))))
        clear hox hou hne hon hrd hxl
        go_wp2_with fail
        go_loopw [9, 11] (fun s q wr => ∃ (k : Nat) (bo : Option Addr) (do' : Nat) (ys : List Int), k ≤ 1 + n ∧ s = .slice bo k do' ∧ q = .int .i64 k ∧ ys.length = k ∧ OwnI wr Z (.slice bo k do') ys ∧ OwnI wr Z (.slice ao (1 + h) co) xs ∧ (∀ a b, (Value.slice bo k do').ownBlock = some a → (Value.slice ao (1 + h) co).ownBlock = some b → a ≠ b) ∧ w.grownBy wr (some R) ∧ Rd wr R (K + 10 + k)) (fun _ q _ => 1 + n - (intOf q).toNat)
        case atStart => exact ⟨0, _, _, [], by omega, rfl, rfl, rfl, HS.out.2.1, HS.out.1, fun a b ha hb => (HS.out.2.2.1 b a hb ha).symm, HS.out.2.2.2.1, HS.out.2.2.2.2.more (by omega)⟩
        case round =>
          clear HS
          obtain ⟨k, bo, do', ys, hk, rfl, rfl, hyl, hox, hou, hne, hon, hrd⟩ := hrel
          by_cases hkl : k < 1 + n
          · have hki2 : (k : Int) < 1 + (n : Int) := by omega
            have HP := pick_c R (K + 10 + k) (h + 2) (by omega) (by omega) (by omega) wr hrd
            rw [show ((h + 2 : Nat) : Int) = 1 + (h : Int) + 1 by omega] at HP
            have HY := Lib.hid hyl
            clear hyl
            go_wp2_with fail
            refine HP.mono ?_
            rintro e wc ⟨⟨z, rfl, hz⟩, hrd2, hg⟩
            replace hon := only_trans hon hg
            replace hox := hox.only hg (by omega)
            replace hou := hou.only hg (by omega)
            clear HP hrd hg
            have hown2 := hox.alloc (.cells #[.int .i64 (z : Int)] 3)
            have hzz : Z ≤ wc.heap.size := by
              obtain ⟨g, c, e, hgz, hrr⟩ := hou.form (by rw [HX.out]; omega)
              have := hrr.lt
              omega
            have hbs : Z ≤ (wc.alloc (.cells #[.int .i64 (z : Int)] 3)).heap.size := by simp; omega
            have hlen : ys.length + ([(z : Int)] : List Int).length ≤ 16777216 := by rw [HY.out]; simp; omega
            have hone := Ints.one wc (z : Int) 3
            have HH := Lib.hid (And.intro hown2 (And.intro hbs (And.intro hlen (And.intro hone (And.intro hox (And.intro hou (And.intro hne (And.intro hon hrd2))))))))
            clear hown2 hbs hlen hone hox hou hne hon hrd2
            go_wp2_with (at_builtin; refine wpList_app (v := .slice bo k do') (ys := [(z : Int)]) rfl (.tmp 47) (.tmp 52) rfl rfl HH.out.1 rfl HH.out.2.2.2.1 HH.out.2.2.1 HH.out.2.1 ?_; intro v6 w6 hown6 hgr6 _ hat6)
            obtain ⟨_, _, _, _, hox, hou, hne, hon, hrd2⟩ := HH.out
            have HD := draw_app hwZ hlt hon hox hou hne hown6 hgr6 hat6 hrd2
            have hl6 : (ys ++ [(z : Int)]).length = k + 1 := by rw [List.length_append, HY.out]; rfl
            obtain ⟨a6, c6, e6⟩ := hown6.ints.len
            rw [hl6] at e6
            subst e6
            have HD2 := Lib.hid (And.intro hl6 (And.intro hown6 HD))
            clear hox hou hne hon hrd2 HD hl6 hown6 hgr6 hat6 HH
            go_roundw
            case rel => exact ⟨k + 1, a6, c6, ys ++ [(z : Int)], by omega, rfl, by go_num, HD2.out.1, HD2.out.2.1, HD2.out.2.2.1, HD2.out.2.2.2.1, HD2.out.2.2.2.2.1, HD2.out.2.2.2.2.2.more (by omega)⟩
            case measure => simp [intOf]; omega
          · obtain rfl : k = 1 + n := by omega
            have hki2 : ¬ ((1 + n : Nat) : Int) < 1 + (n : Int) := by omega
            have HM := Lib.hid (show TwoOut w.heap.size 0 12 12 wr (.returned (.tuple #[.slice ao (1 + h) co, .slice bo (1 + n) do'])) ∧ w.grownBy wr (some R) ∧ Rd wr R (K + 20) from ⟨⟨_, _, _, _, rfl, ⟨hou.more hwZ, hox.more hwZ, fun a b ha hb => (hne b a hb ha).symm⟩, ⟨by omega, by omega⟩, by rw [HX.out]; omega, by omega⟩, hon, hrd.more (by omega)⟩)
            clear hox hou hne hon hrd hyl
            go_wp2
            refine bodyPost_ret (v := .tuple #[.slice ao (1 + h) co, .slice bo (1 + n) do']) (by simp [results, Try.results38, go_sem]) rfl ?_
            exact HM.out
/-- Two drawn lists. -/
def TwoInts (w : World) (e : Ending) (w' : World) : Prop := ∃ (u v : Value) (rs cs : List Int), e = .returned (.tuple #[u, v]) ∧ Ints w'.heap.size w' u rs ∧ Ints w'.heap.size w' v cs ∧ rs.length ≤ 12 ∧ cs.length ≤ 12 ∧ Below w.heap.size w w'
set_option maxHeartbeats 1000000 in
theorem DrawFillImage_c (A : Option Addr) (len cap : Nat) (hlc : len ≤ cap) (w : World) (hc : Code8 w w.heap.size A len) :
    Calls Try.prog 19 #[.slice A len cap] w (TwoInts w) := by
  go_enter Try.func19, Try.ntmps19
  go_wp2_with fail
  refine (l6Open_c A len cap hlc w hc).mono ?_
  rintro e w1 ⟨rfl, hR, hb⟩
  go_wp2_with fail
  refine (l93Any_c w.heap.size 0 (by omega) w1 hR).mono ?_
  rintro e w2 ⟨⟨u, v, rs, cs, rfl, hT, _, hr, hc2⟩, hon, _⟩
  have HM := Lib.hid (show TwoInts w (.returned (.tuple #[u, v])) w2 from ⟨_, _, _, _, rfl, hT.r.ints, hT.c.ints, hr, hc2, hb.grown hon hb.size (fun k e => by cases e; exact Nat.le_refl _)⟩)
  clear hT hon
  go_wp2
  refine bodyPost_ret (v := .tuple #[u, v]) (by simp [results, Try.results19, go_sem]) rfl ?_
  exact HM.out
end Go.Proofs.Ytehoaagnpidnbaa
