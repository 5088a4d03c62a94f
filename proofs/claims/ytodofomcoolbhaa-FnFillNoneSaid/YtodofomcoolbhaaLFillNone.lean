/- The law that nothing fills nothing: it returns true at whatever code. Conditions: the code's slice can be read. -/
import Derived.Test.YtodofomcoolbhaaFJ
import Derived.Test.YtodofomcoolbhaaFL
namespace Go.Proofs.Ytodofomcoolbhaa
open Go.RowKit
theorem rep_take {a : Int} {k : Nat} : List.replicate k a ++ [a] = List.replicate (k + 1) a := by
  rw [List.replicate_succ']
theorem rep_sums {rs cs : List Int} (h : Sums rs cs) {z : Int} (h0 : 0 ≤ z) (h1 : z ≤ rs.length) : Sums rs (List.replicate cs.length z) := by
  refine ⟨h.h1, h.h6, by simpa using h.w1, by simpa using h.w6, fun j hj => by simpa using h.r j hj, fun j hj => ?_⟩
  have hj' : j < cs.length := by simpa using hj
  have e : (List.replicate cs.length z).getD j 0 = z := by simp [List.getD_eq_getElem?_getD, List.getElem?_replicate, hj']
  rw [e]
  exact ⟨h0, h1⟩
theorem none_mid {w0 wr w6 : World} {Z k dd co : Nat} {ao bo : Option Addr} {z y : Int} {v6 : Value} (hk : k ≤ 6) (hZr : Z ≤ wr.heap.size) (hox : OwnI wr Z (.slice ao k co) (List.replicate k z)) (hou : OwnI wr Z (.slice bo k dd) (List.replicate k y))
    (hne : ∀ a b, (Value.slice ao k co).ownBlock = some a → (Value.slice bo k dd).ownBlock = some b → a ≠ b) (hbb : Below Z w0 wr) (hown6 : OwnI w6 Z v6 (List.replicate k z ++ [z])) (hgr6 : (wr.alloc (.cells #[.int .i64 z] 3)).grownBy w6 (Value.slice ao k co).ownBlock)
    (hat6 : v6.ownBlock = (Value.slice ao k co).ownBlock ∨ v6.ownBlock = some (wr.alloc (.cells #[.int .i64 z] 3)).heap.size) :
    OwnI (w6.alloc (.cells #[.int .i64 y] 3)) Z (.slice bo k dd) (List.replicate k y) ∧ Z ≤ (w6.alloc (.cells #[.int .i64 y] 3)).heap.size ∧ (List.replicate k y).length + ([y] : List Int).length ≤ 16777216 ∧
    OwnI (w6.alloc (.cells #[.int .i64 y] 3)) Z v6 (List.replicate (k + 1) z) ∧ Below Z w0 (w6.alloc (.cells #[.int .i64 y] 3)) ∧ (∀ a b, v6.ownBlock = some a → (Value.slice bo k dd).ownBlock = some b → a ≠ b) ∧ OwnI w6 Z v6 (List.replicate (k + 1) z) := by
  have hbs : Z ≤ (wr.alloc (.cells #[.int .i64 z] 3)).heap.size := by simp; omega
  rw [rep_take] at hown6
  have hb3 : Below Z w0 (wr.alloc (.cells #[.int .i64 z] 3)) := hbb.trans ((Below.refl Z wr).alloc hZr _)
  have hb6 := Below.app hb3 (hox.alloc _) hgr6 (Nat.le_refl _) hbs
  have hZ6 : Z ≤ w6.heap.size := Nat.le_trans hbs hgr6.size
  have hou6 := (hou.alloc (.cells #[.int .i64 z] 3)).grown hgr6 (fun b hb he => hne b b he.symm hb rfl)
  refine ⟨hou6.alloc _, by simp; omega, by simp; omega, hown6.alloc _, hb6.trans ((Below.refl Z w6).alloc hZ6 _), fun a b ha hb => ?_, hown6⟩
  rcases hat6 with h | h
  · exact hne a b (by rw [← h]; exact ha) hb
  · have := (hou.own_lt b hb).2
    rw [h] at ha
    simp at ha
    omega
theorem own_rep {w : World} {Z k : Nat} {v : Value} {z : Int} (h : OwnI w Z v (List.replicate k z)) : ∃ a c, v = .slice a k c := by
  obtain ⟨a, c, e⟩ := h.ints.len
  rw [List.length_replicate] at e
  exact ⟨a, c, e⟩
set_option maxRecDepth 100000 in
set_option maxHeartbeats 4000000 in
theorem fillNone_walk (A : Option Addr) (len cap : Nat) (hlc : len ≤ cap) (w : World) (hc : Code8 w w.heap.size A len) :
    Calls Try.prog 12 #[.slice A len cap] w fun e w' => e = .returned (.bool true) ∧ Below w.heap.size w w' := by
  by_cases hbig : 1048576 < len
  · go_enter Try.func12, Try.ntmps12
    go_wp2
    go_returns
    exact ⟨rfl, Below.refl _ _⟩
  · go_enter Try.func12, Try.ntmps12
    go_wp2_with fail
    refine (DrawFillMost_c A len cap hlc w hc).mono ?_
    rintro e wc ⟨u, v, rs, cs, rfl, hI, hJ, hr12, hc12, hW⟩
    obtain ⟨B, bp, rfl⟩ := hI.len
    obtain ⟨C, cp, rfl⟩ := hJ.len
    go_wp2_with fail
    refine (FillMost_c _ _ rs cs (by omega) (by omega) _ hI hJ).mono ?_
    rintro e wc ⟨rfl, hb⟩
    replace hW := hW.trans (Below.mono hb hW.size)
    replace hI := (hI.below hb).more (Below.size hb)
    replace hJ := (hJ.below hb).more (Below.size hb)
    go_wp2_with fail
    refine (sFillMost_c _ _ rs cs (by omega) (by omega) _ hI hJ).mono ?_
    rintro e wc ⟨rfl, hb⟩
    replace hW := hW.trans (Below.mono hb hW.size)
    replace hI := (hI.below hb).more (Below.size hb)
    replace hJ := (hJ.below hb).more (Below.size hb)
    obtain ⟨a, ea⟩ : ∃ a, a = fmO rs cs := ⟨_, rfl⟩
    rw [← ea]
    by_cases hneg : a < 0
    · clear ea
      go_wp2
      go_returns
      exact ⟨rfl, hW⟩
    have hsv : svB rs cs = true := by
      cases h : svB rs cs with
      | true => rfl
      | false => rw [fmO_no h] at ea; omega
    have hS := svB_yes hsv
    rw [fmO_yes hsv] at ea
    have EA := Lib.hid ea
    have HSV := Lib.hid hsv
    have h1 := hS.h1
    have h6 := hS.h6
    have w1 := hS.w1
    have w6 := hS.w6
    clear ea hsv
    have hz1 := rep_sums hS (z := 0) (by omega) (by omega)
    have hz2 := rep_sums hS (z := (rs.length : Int)) (by omega) (by omega)
    have hf1 : fmO rs (List.replicate cs.length 0) = 0 := by
      rw [fmO_yes (svB_of hz1)]
      exact fm_none (fun r hr => (hS.rm r hr).1) (fun c hc => (List.mem_replicate.1 hc).2)
    have hf2 : fmO rs (List.replicate cs.length (rs.length : Int)) = rs.sum := by
      rw [fmO_yes (svB_of hz2)]
      exact fm_full (fun r hr => by rw [List.length_replicate]; exact (hS.rm r hr).2) (fun c hc => (List.mem_replicate.1 hc).2)
    have G1 := fun (v : Value) w h1 h2 => FillMost_c (.slice B rs.length bp) v rs (List.replicate cs.length 0) (by omega) (by simp; omega) w h1 h2
    have G2 := fun (v : Value) w h1 h2 => FillMost_c (.slice B rs.length bp) v rs (List.replicate cs.length (rs.length : Int)) (by omega) (by simp; omega) w h1 h2
    have G3 := fun w h => sumOf_c (.slice B rs.length bp) rs hS.sr w h
    rw [hf1] at G1
    rw [hf2] at G2
    obtain ⟨S, eS⟩ : ∃ S, S = rs.sum := ⟨_, rfl⟩
    rw [← eS] at G2 G3
    obtain ⟨Z, eZ⟩ : ∃ Z, Z = wc.heap.size := ⟨_, rfl⟩
    have o1 := (OwnI.empty (base := Z) wc (by omega)).alloc (.cells #[] 3)
    have o2 := OwnI.empty (base := Z) (wc.alloc (.cells #[] 3)) (by simp; omega)
    rw [show (World.heap (wc.alloc (.cells #[] 3))).size = wc.heap.size + 1 by simp] at o2
    have hb5 : Below wc.heap.size wc ((wc.alloc (.cells #[] 3)).alloc (.cells #[] 3)) := by go_grown
    obtain ⟨W5, e5⟩ : ∃ W, W = (wc.alloc (.cells #[] 3)).alloc (.cells #[] 3) := ⟨_, rfl⟩
    rw [← e5] at o1 o2 hb5
    rw [← eZ] at o1 o2 hb5
    have hIZ : Ints Z wc (.slice B rs.length bp) rs := by rw [eZ]; exact hI
    have hwZ : w.heap.size ≤ Z := by rw [eZ]; exact hW.size
    have HO := Lib.hid (And.intro o1 (And.intro o2 (And.intro hb5 (And.intro hIZ hW))))
    have HE := Lib.hid e5
    have HZ := Lib.hid eZ
    clear o1 o2 hb5 e5 eZ eS hf1 hf2 hz1 hz2 hI hJ hW hIZ
    go_wp2_with fail
    rw [← HE.out, ← HZ.out]
    clear HE
    go_loopw [7, 8, 9] (fun s t q wr => ∃ (k : Nat) (ao bo : Option Addr) (co do' : Nat), k ≤ cs.length ∧ s = .slice ao k co ∧ t = .slice bo k do' ∧ q = .int .i64 k ∧ OwnI wr Z (.slice ao k co) (List.replicate k 0) ∧ OwnI wr Z (.slice bo k do') (List.replicate k (rs.length : Int)) ∧ (∀ a b, (Value.slice ao k co).ownBlock = some a → (Value.slice bo k do').ownBlock = some b → a ≠ b) ∧ Below Z wc wr) (fun _ _ q _ => cs.length - (intOf q).toNat)
    case atStart => exact ⟨0, _, _, _, _, by omega, rfl, rfl, rfl, HO.out.1, HO.out.2.1, fun a b ha hb => by simp [Value.ownBlock] at ha hb; omega, HO.out.2.2.1⟩
    case round =>
      obtain ⟨k, ao, bo, co, do', hk, rfl, rfl, rfl, hox, hou, hne, hbb⟩ := hrel
      by_cases hkl : k < cs.length
      · have hZr : Z ≤ wr.heap.size := by have := hbb.size; have := HZ.out; omega
        have hown2 := hox.alloc (.cells #[.int .i64 0] 3)
        have hbs : Z ≤ (wr.alloc (.cells #[.int .i64 0] 3)).heap.size := by simp; omega
        have hlen : (List.replicate k (0 : Int)).length + ([(0 : Int)] : List Int).length ≤ 16777216 := by simp; omega
        have hone := Ints.one wr 0 3
        have hl20 : (rs.length : Int) ≤ 6 := by omega
        have hk6 : k ≤ 6 := by omega
        have HH := Lib.hid (And.intro hown2 (And.intro hbs (And.intro hlen (And.intro hone (And.intro hox (And.intro hou (And.intro hne hbb)))))))
        have HZR := Lib.hid hZr
        clear hown2 hbs hlen hone hox hou hne hbb hZr
        go_wp2_with (first | (at_builtin; refine wpList_app (v := .slice ao k co) (ys := [(0 : Int)]) rfl (.tmp 42) (.tmp 43) rfl rfl HH.out.1 rfl HH.out.2.2.2.1 HH.out.2.2.1 HH.out.2.1 ?_; intro v6 w6 hown6 hgr6 _ hat6; have HQ := Lib.hid (none_mid (y := (rs.length : Int)) hk6 HZR.out HH.out.2.2.2.2.1 HH.out.2.2.2.2.2.1 HH.out.2.2.2.2.2.2.1 HH.out.2.2.2.2.2.2.2 hown6 hgr6 hat6); obtain ⟨a6, c6, e6⟩ := own_rep HQ.out.2.2.2.2.2.2; subst e6; have hone7 := Ints.one w6 (rs.length : Int) 3; have HO7 := Lib.hid hone7; clear hown6 hgr6 hat6 hone7) | (at_builtin; refine wpList_app (v := .slice bo k do') (ys := [(rs.length : Int)]) rfl (.tmp 45) (.tmp 48) rfl rfl HQ.out.1 rfl HO7.out HQ.out.2.2.1 HQ.out.2.1 ?_; intro v8 w8 hown8 hgr8 _ hat8))
        obtain ⟨hown7, hbs7, hlen7, hox7, hb7, hne7, hown6⟩ := HQ.out
        rw [rep_take] at hown8
        have hb8 := Below.app hb7 hown7 hgr8 (Nat.le_refl _) hbs7
        have hox8 := hox7.grown hgr8 (fun b hb he => hne7 b b hb he.symm rfl)
        have hne8 : ∀ a b, (Value.slice a6 (k + 1) c6).ownBlock = some a → v8.ownBlock = some b → a ≠ b := fun a b ha hb => by
          rcases hat8 with h | h
          · exact hne7 a b ha (by rw [← h]; exact hb)
          · have := (hown6.own_lt a ha).2
            rw [h] at hb
            simp at hb
            omega
        obtain ⟨a8, c8, e8⟩ := hown8.ints.len
        rw [List.length_replicate] at e8
        subst e8
        have HR := Lib.hid (And.intro hox8 (And.intro hown8 (And.intro hne8 hb8)))
        clear hown7 hbs7 hlen7 hox7 hb7 hne7 hown6 hown8 hgr8 hat8 hb8 hox8 hne8 HQ HO7 HH
        go_roundw
        case rel => exact ⟨k + 1, a6, a8, c6, c8, by omega, rfl, rfl, by go_num, HR.out.1, HR.out.2.1, HR.out.2.2.1, HR.out.2.2.2⟩
        case measure => simp [intOf]; omega
      · obtain rfl : k = cs.length := by omega
        have hI : Ints wr.heap.size wr (.slice B rs.length bp) rs := (HO.out.2.2.2.1.keep fun p hp => hbb.cell hp).more (by have := hbb.size; have := HZ.out; omega)
        have hX := hox.ints
        have hY := hou.ints
        have hW : Below w.heap.size w wr := HO.out.2.2.2.2.trans (hbb.mono hwZ)
        clear hox hou hne hbb HO
        go_wp2_with fail
        refine (G1 _ _ hI hX).mono ?_
        rintro e wc ⟨rfl, hb⟩
        replace hI := (hI.below hb).more (Below.size hb)
        replace hX := (hX.below hb).more (Below.size hb)
        replace hY := (hY.below hb).more (Below.size hb)
        replace hW := hW.trans (Below.mono hb hW.size)
        go_wp2_with fail
        refine (G2 _ _ hI hY).mono ?_
        rintro e wc ⟨rfl, hb⟩
        replace hI := (hI.below hb).more (Below.size hb)
        replace hX := (hX.below hb).more (Below.size hb)
        replace hY := (hY.below hb).more (Below.size hb)
        replace hW := hW.trans (Below.mono hb hW.size)
        go_wp2_with fail
        refine (G3 _ hI).mono ?_
        rintro e wc ⟨rfl, rfl⟩
        go_wp2
        go_returns
        exact ⟨rfl, hW⟩
end Go.Proofs.Ytodofomcoolbhaa
