/- The law that one more has room for one at most: it returns true at whatever codes. Conditions: the codes' slices can be read. -/
import Derived.Test.YtodofomcoolbhaaFJ
import Derived.Test.YtodofomcoolbhaaFL
namespace Go.Proofs.Ytodofomcoolbhaa
open Go.RowKit
theorem more_sums {rs cs : List Int} (h : Sums rs cs) {k : Nat} (hk : k < cs.length) (hc : cs.getD k 0 + 1 ≤ rs.length) : Sums rs (cs.set k (cs.getD k 0 + 1)) := by
  refine ⟨h.h1, h.h6, by simpa using h.w1, by simpa using h.w6, fun j hj => by simpa using h.r j hj, fun j hj => ?_⟩
  have hj' : j < cs.length := by simpa using hj
  have h1 := h.c j hj'
  have h2 := h.c k hk
  rw [List.getD_eq_getElem?_getD, List.getElem?_set]
  by_cases e : k = j
  · rw [if_pos e, if_pos hk]
    simp only [Option.getD_some]
    omega
  · rw [if_neg e, ← List.getD_eq_getElem?_getD]
    exact h1
set_option maxRecDepth 100000 in
set_option maxHeartbeats 4000000 in
theorem fillMostMore_walk (A : Option Addr) (len cap : Nat) (hlc : len ≤ cap) (A' : Option Addr) (len' cap' : Nat) (w : World) (hc : Code8 w w.heap.size A len) :
    Calls Try.prog 10 #[.slice A len cap, .slice A' len' cap'] w fun e w' => e = .returned (.bool true) ∧ Below w.heap.size w w' := by
  by_cases hbig : 1048576 < len ∨ 1048576 < len'
  · by_cases hb1 : 1048576 < len
    · go_enter Try.func10, Try.ntmps10
      go_wp2
      go_returns
      exact ⟨rfl, Below.refl _ _⟩
    · have hb2 : 1048576 < len' := by omega
      go_enter Try.func10, Try.ntmps10
      go_wp2
      go_returns
      exact ⟨rfl, Below.refl _ _⟩
  · have hb1 : ¬ 1048576 < len := by omega
    have hb2 : ¬ 1048576 < len' := by omega
    have hl2 : len' ≤ 1048576 := by omega
    clear hbig
    go_enter Try.func10, Try.ntmps10
    go_wp2_with fail
    refine (DrawFillMost_c A len cap hlc w hc).mono ?_
    rintro e wc ⟨u, v, rs, cs, rfl, hI, hJ, hr12, hc12, hW⟩
    obtain ⟨B, bp, rfl⟩ := hI.len
    obtain ⟨C, cp, rfl⟩ := hJ.len
    go_wp2_with fail
    refine (FillMost_c _ _ rs cs (by omega) (by omega) _ hI hJ).mono ?_
    rintro e wc ⟨rfl, hb⟩
    replace hW := hW.trans (Below.mono hb hW.size)
    replace hI := (hI.below hb).more (Below.size hb)
    replace hJ := (hJ.below hb).more (Below.size hb)
    go_wp2_with fail
    refine (sFillMost_c _ _ rs cs (by omega) (by omega) _ hI hJ).mono ?_
    rintro e wc ⟨rfl, hb⟩
    replace hW := hW.trans (Below.mono hb hW.size)
    replace hI := (hI.below hb).more (Below.size hb)
    replace hJ := (hJ.below hb).more (Below.size hb)
    obtain ⟨a, ea⟩ : ∃ a, a = fmO rs cs := ⟨_, rfl⟩
    rw [← ea]
    by_cases hneg : a < 0
    · clear ea
      go_wp2
      go_returns
      exact ⟨rfl, hW⟩
    have hsv : svB rs cs = true := by
      cases h : svB rs cs with
      | true => rfl
      | false => rw [fmO_no h] at ea; omega
    have hS := svB_yes hsv
    rw [fmO_yes hsv] at ea
    have EA := Lib.hid ea
    have HSV := Lib.hid hsv
    have h1 := hS.h1
    have h6 := hS.h6
    have w1 := hS.w1
    have w6 := hS.w6
    clear ea hsv
    have ha0 : 0 ≤ a := by omega
    obtain ⟨k, ek⟩ : ∃ k, k = len' % cs.length := ⟨_, rfl⟩
    have hk : k < cs.length := by rw [ek]; exact Nat.mod_lt _ (by omega)
    have ek' : (len' : Int) % (cs.length : Int) = (k : Int) := by rw [ek]; simp
    have hn0 : ¬ (cs.length : Int) = 0 := by omega
    have hIn := hJ
    obtain ⟨b, off, cap1, e, hbl, hcc⟩ := hIn.row (by omega)
    injection e with e1 _ e3
    subst e1 e3
    have hck := hcc k hk
    have hcb := hS.c k hk
    have hms := fun h => more_sums hS hk h
    have hfm := fm_more (rs := rs) (cs := cs) (cs' := cs.set k (cs.getD k 0 + 1)) fun t => minS_set hk t
    have G := fun (v : Value) w h0 h1 h2 => FillMost_c (.slice B rs.length bp) v rs (cs.set k (cs.getD k 0 + 1)) (by omega) h0 w h1 h2
    have hlen : (cs.set k (cs.getD k 0 + 1)).length = cs.length := List.length_set
    obtain ⟨y, ey⟩ : ∃ y, y = cs.getD k 0 := ⟨_, rfl⟩
    rw [← ey] at hck hcb hms hfm hlen
    simp only [← ey] at G
    rw [← EA.out] at hfm
    have HMS := Lib.hid hms
    have HFM := Lib.hid hfm
    have HLEN := Lib.hid hlen
    have HEY := Lib.hid ey
    clear ek ey hcc hIn hms hfm hlen
    have hrl : (rs.length : Int) ≤ 6 := by omega
    by_cases hfull : y = (rs.length : Int)
    · rw [hfull] at hck
      go_wp2
      go_returns
      exact ⟨rfl, hW⟩
    · have hyl : y + 1 ≤ rs.length := by omega
      have hsv := svB_of (HMS.out hyl)
      have HSV2 := Lib.hid hsv
      have hown := OwnI.empty (base := wc.heap.size) wc (Nat.le_refl _)
      have hJa := hJ.alloc (Nat.le_refl _) (.cells #[] 3)
      have hIa := hI.alloc (Nat.le_refl _) (.cells #[] 3)
      have hlen : ([] : List Int).length + cs.length ≤ 16777216 := by simp; omega
      have hbs : wc.heap.size ≤ (wc.alloc (.cells #[] 3)).heap.size := by simp
      have hb3 : Below wc.heap.size wc (wc.alloc (.cells #[] 3)) := by go_grown
      have HH := Lib.hid (And.intro hown (And.intro hJa (And.intro hlen (And.intro hbs (And.intro hb3 (And.intro hI hW))))))
      clear hsv hown hJa hIa hlen hbs hb3 hI hW hJ
      go_wp2_with (at_builtin; refine wpList_app (v := .slice (some ⟨wc.heap.size, 0, none⟩) 0 0) rfl (.tmp 55) (.tmp 56) rfl rfl HH.out.1 rfl HH.out.2.1 HH.out.2.2.1 HH.out.2.2.2.1 ?_; intro v6 w6 hown6 hgr6 hnn6 _; rw [List.nil_append] at hown6; obtain ⟨g, c, rfl, hg, hr⟩ := hown6.row (hnn6 (.inl (by simp))); have hq6 := Below.app HH.out.2.2.2.2.1 HH.out.1 hgr6 (Nat.le_refl _) HH.out.2.2.2.1; have q0 := hr.cell hk; rw [← HEY.out] at q0; have q1 := hr.frozen k; have HR := Lib.hid (And.intro hr (And.intro hg hq6)); clear hown6 hgr6 hnn6 hr hg hq6)
      obtain ⟨hr, hg, hq6⟩ := HR.out
      obtain ⟨_, _, _, _, _, hI, hW⟩ := HH.out
      have hset := hr.set hk (y + 1)
      have hset2 := hset.ints hset.lt c
      rw [HLEN.out] at hset2
      have hbw : Below wc.heap.size wc (w6.setCell ⟨g, k, none⟩ (.int .i64 (y + 1))) := hq6.setCell (by simpa using hg) _
      have hI7 := (hI.below hbw).more hbw.size
      have hW7 := hW.trans (hbw.mono hW.size)
      have G7 := G _ _ (by rw [HLEN.out]; omega) hI7 hset2
      rw [fmO_yes HSV2.out] at G7
      obtain ⟨N, eN⟩ : ∃ N, N = fm rs (cs.set k (y + 1)) := ⟨_, rfl⟩
      have hN := HFM.out
      rw [← eN] at G7 hN
      have hsp : N = a ∨ N = a + 1 := by omega
      have ha72 : a ≤ 1000 := by have := (minTo_bd hS.sr hS.sc rs.length).2; have := EA.out; unfold fm at this; omega
      clear hr hg hq6 hset hset2 hI hW HR HH eN hN q0 q1 hbw hI7
      refine G7.mono ?_
      rintro e wc ⟨rfl, hb⟩
      have hW := hW7.trans (hb.mono hW7.size)
      rcases hsp with rfl | rfl
      · clear G7 G hck
        go_wp2
        go_returns
        exact ⟨rfl, hW⟩
      · clear G7 G hck
        have hne : ¬ a + 1 = a := by omega
        go_wp2
        go_returns
        exact ⟨rfl, hW⟩
end Go.Proofs.Ytodofomcoolbhaa
