/- The law that all cells fit exactly where the sums are consistent: it returns true at whatever code. Conditions: the code's slice can be read. -/
import Derived.Test.YtldmilpohappiaaFJ
import Derived.Test.YtldmilpohappiaaFL
import Derived.Test.YtldmilpohappiaaCJ
namespace Go.Proofs.Ytldmilpohappiaa
open Go.RowKit
theorem part_desc {cs ds : List Int} (hs : Small cs) (hd : Desc cs ds) : Part ds := by
  have hl := hd.perm.length_eq
  refine ⟨⟨by rw [hl]; exact hs.h1, by rw [hl]; exact hs.h6, fun x hx => hs.bd x (hd.perm.subset hx)⟩, fun k hk => ?_⟩
  have := List.pairwise_iff_getElem.1 hd.desc k (k + 1) (by omega) hk (by omega)
  simpa [List.getD_eq_getElem?_getD, List.getElem?_eq_getElem hk, List.getElem?_eq_getElem (show k < ds.length by omega)] using this
theorem part_conj {rs : List Int} {n : Nat} (h1 : 1 ≤ n) (h6 : n ≤ 6) (hr : rs.length ≤ 6) : Part (conjL rs n) := by
  refine ⟨⟨by rw [length_conjL]; exact h1, by rw [length_conjL]; exact h6, fun x hx => ?_⟩, fun k hk => ?_⟩
  · obtain ⟨j, hj, rfl⟩ := getD_mem hx
    rw [length_conjL] at hj
    have := conj_bd rs n j hj
    omega
  · rw [length_conjL] at hk
    exact conj_desc rs n k hk
set_option maxHeartbeats 2000000 in
theorem SumsConsistent_c (u v : Value) (rs cs : List Int) (hsv : svB rs cs = true) (w : World) (hu : Ints w.heap.size w u rs) (hv : Ints w.heap.size w v cs) :
    Calls Try.prog 16 #[u, v] w fun e w' => e = .returned (.bool (consB rs cs)) ∧ Below w.heap.size w w' := by
  have hS := svB_yes hsv
  have HS := Lib.hid hS
  have h1 := hS.h1
  have h6 := hS.h6
  have w1 := hS.w1
  have w6 := hS.w6
  have H1 := SumsValid_c u v rs cs (by omega) (by omega) w hu hv
  rw [hsv] at H1
  have hI := hu
  have hJ := hv
  have hW := Below.refl w.heap.size w
  clear hu hv hS hsv
  obtain ⟨B, bp, rfl⟩ := hI.len
  obtain ⟨C, cp, rfl⟩ := hJ.len
  go_enter Try.func16, Try.ntmps16
  go_wp2_with fail
  refine H1.mono ?_
  rintro e w' ⟨rfl, rfl⟩
  go_wp2_with fail
  refine (sorted_c _ cs w1 w6 HS.out.sc.bd _ hJ).mono ?_
  rintro e wc ⟨g, c, ds, rfl, hcp, hg, hr, hd, hb⟩
  clear hg
  replace hW := hW.trans (Below.mono hb hW.size)
  replace hI := (hI.below hb).more (Below.size hb)
  replace hJ := (hJ.below hb).more (Below.size hb)
  have HD := Lib.hid hd
  have hdl := hd.perm.length_eq
  have HDL := Lib.hid hdl
  clear hd hdl
  go_wp2_with fail
  refine (conjugate_c _ rs cs.length w6 h6 HS.out.rm _ hI).mono ?_
  rintro e wc ⟨g2, rfl, hg2, hr2, hb⟩
  clear hg2
  replace hW := hW.trans (Below.mono hb hW.size)
  replace hI := (hI.below hb).more (Below.size hb)
  replace hJ := (hJ.below hb).more (Below.size hb)
  replace hr := hr.below hb hr.lt
  have hPB := PartBelow_c (some ⟨g, 0, none⟩) (some ⟨g2, 0, none⟩) c cs.length ds (conjL rs cs.length) (by rw [HDL.out]; exact hcp) (by rw [length_conjL]; exact Nat.le_refl _) (part_desc HS.out.sc HD.out) (part_conj w1 w6 h6) wc (hr.ints hr.lt _) (hr2.ints hr2.lt _)
  rw [below_cons HS.out.rm HD.out.desc (fun y hy => (HS.out.sc.bd y (HD.out.perm.subset hy)).1) HD.out.perm, length_conjL, HDL.out] at hPB
  have HPB := Lib.hid hPB
  clear hPB hr hr2
  go_wp2_with fail
  refine HPB.out.mono ?_
  rintro e wd ⟨rfl, hb⟩
  have hW' := hW.trans (hb.mono hW.size)
  clear hb
  go_wp2
  go_returns
  exact ⟨rfl, hW'⟩
set_option maxHeartbeats 4000000 in
theorem fillMostConsistent_walk (A : Option Addr) (len cap : Nat) (hlc : len ≤ cap) (w : World) (hc : Code8 w w.heap.size A len) :
    Calls Try.prog 4 #[.slice A len cap] w fun e w' => e = .returned (.bool true) ∧ Below w.heap.size w w' := by
  by_cases hbig : 1048576 < len
  · go_enter Try.func4, Try.ntmps4
    go_wp2
    go_returns
    exact ⟨rfl, Below.refl _ _⟩
  · go_enter Try.func4, Try.ntmps4
    go_wp2_with fail
    refine (DrawFillMost_c A len cap hlc w hc).mono ?_
    rintro e wc ⟨u, v, rs, cs, rfl, hI, hJ, hr12, hc12, hW⟩
    obtain ⟨B, bp, rfl⟩ := hI.len
    obtain ⟨C, cp, rfl⟩ := hJ.len
    go_wp2_with fail
    refine (FillMost_c _ _ rs cs (by omega) (by omega) _ hI hJ).mono ?_
    rintro e wc ⟨rfl, hb⟩
    replace hW := hW.trans (Below.mono hb hW.size)
    replace hI := (hI.below hb).more (Below.size hb)
    replace hJ := (hJ.below hb).more (Below.size hb)
    go_wp2_with fail
    refine (sFillMost_c _ _ rs cs (by omega) (by omega) _ hI hJ).mono ?_
    rintro e wc ⟨rfl, hb⟩
    replace hW := hW.trans (Below.mono hb hW.size)
    replace hI := (hI.below hb).more (Below.size hb)
    replace hJ := (hJ.below hb).more (Below.size hb)
    obtain ⟨a, ea⟩ : ∃ a, a = fmO rs cs := ⟨_, rfl⟩
    rw [← ea]
    by_cases hneg : a < 0
    · clear ea
      go_wp2
      go_returns
      exact ⟨rfl, hW⟩
    have hsv : svB rs cs = true := by
      cases h : svB rs cs with
      | true => rfl
      | false => rw [fmO_no h] at ea; omega
    have hS := svB_yes hsv
    rw [fmO_yes hsv] at ea
    have EA := Lib.hid ea
    have HSV := Lib.hid hsv
    have h1 := hS.h1
    have h6 := hS.h6
    have w1 := hS.w1
    have w6 := hS.w6
    clear ea hsv
    have G1 := fun w h => sumOf_c (.slice B rs.length bp) rs hS.sr w h
    have G2 := fun w h => sumOf_c (.slice C cs.length cp) cs hS.sc w h
    have G3 := fun w h1 h2 => SumsConsistent_c (.slice B rs.length bp) (.slice C cs.length cp) rs cs HSV.out w h1 h2
    have hci := cons_iff (rs := rs) (cs := cs) hS.rm (fun c h => (hS.cm c h).1) w6
    rw [← EA.out] at hci
    obtain ⟨S, eS⟩ : ∃ S, S = rs.sum := ⟨_, rfl⟩
    obtain ⟨T, eT⟩ : ∃ S, S = cs.sum := ⟨_, rfl⟩
    obtain ⟨t, et⟩ : ∃ t, t = consB rs cs := ⟨_, rfl⟩
    rw [← eS] at hci G1
    rw [← eT] at hci G2
    rw [← et] at hci G3
    clear eS eT et
    go_wp2_with fail
    refine (G1 _ hI).mono ?_
    rintro e wc ⟨rfl, rfl⟩
    by_cases hs : a = S
    · subst hs
      go_wp2_with fail
      refine (G2 _ hJ).mono ?_
      rintro e wc ⟨rfl, rfl⟩
      by_cases ht : a = T
      · subst ht
        have htt : t = true := by simpa using hci
        rw [htt] at G3
        clear hci
        go_wp2_with fail
        refine (G3 _ hI hJ).mono ?_
        rintro e wc ⟨rfl, hb⟩
        replace hW := hW.trans (Below.mono hb hW.size)
        replace hI := (hI.below hb).more (Below.size hb)
        replace hJ := (hJ.below hb).more (Below.size hb)
        go_wp2
        go_returns
        exact ⟨rfl, hW⟩
      · have htt : t = false := by
          cases t with
          | false => rfl
          | true => exact absurd (hci.2 rfl).2 ht
        rw [htt] at G3
        have hte : (a == T) = false := by simp [ht]
        clear hci
        go_wp2_with fail
        refine (G3 _ hI hJ).mono ?_
        rintro e wc ⟨rfl, hb⟩
        replace hW := hW.trans (Below.mono hb hW.size)
        replace hI := (hI.below hb).more (Below.size hb)
        replace hJ := (hJ.below hb).more (Below.size hb)
        go_wp2
        go_returns
        exact ⟨rfl, hW⟩
    · have htt : t = false := by
        cases t with
        | false => rfl
        | true => exact absurd (hci.2 rfl).1 hs
      rw [htt] at G3
      have hse : (a == S) = false := by simp [hs]
      clear hci
      go_wp2_with fail
      refine (G3 _ hI hJ).mono ?_
      rintro e wc ⟨rfl, hb⟩
      replace hW := hW.trans (Below.mono hb hW.size)
      replace hI := (hI.below hb).more (Below.size hb)
      replace hJ := (hJ.below hb).more (Below.size hb)
      go_wp2
      go_returns
      exact ⟨rfl, hW⟩
end Go.Proofs.Ytldmilpohappiaa
