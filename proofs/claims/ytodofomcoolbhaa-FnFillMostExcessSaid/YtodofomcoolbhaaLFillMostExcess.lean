/- The law that what does not fit is the excess: it returns true at whatever code. Conditions: the code's slice can be read. -/
import Derived.Test.YtodofomcoolbhaaFJ
import Derived.Test.YtodofomcoolbhaaFL
namespace Go.Proofs.Ytodofomcoolbhaa
open Go.RowKit
set_option maxHeartbeats 4000000 in
theorem fillMostExcess_walk (A : Option Addr) (len cap : Nat) (hlc : len ≤ cap) (w : World) (hc : Code8 w w.heap.size A len) :
    Calls Try.prog 13 #[.slice A len cap] w fun e w' => e = .returned (.bool true) ∧ Below w.heap.size w w' := by
  by_cases hbig : 1048576 < len
  · go_enter Try.func13, Try.ntmps13
    go_wp2
    go_returns
    exact ⟨rfl, Below.refl _ _⟩
  · go_enter Try.func13, Try.ntmps13
    go_wp2_with fail
    refine (DrawFillMost_c A len cap hlc w hc).mono ?_
    rintro e wc ⟨u, v, rs, cs, rfl, hI, hJ, hr12, hc12, hW⟩
    obtain ⟨B, bp, rfl⟩ := hI.len
    obtain ⟨C, cp, rfl⟩ := hJ.len
    go_wp2_with fail
    refine (FillMost_c _ _ rs cs (by omega) (by omega) _ hI hJ).mono ?_
    rintro e wc ⟨rfl, hb⟩
    replace hW := hW.trans (Below.mono hb hW.size)
    replace hI := (hI.below hb).more (Below.size hb)
    replace hJ := (hJ.below hb).more (Below.size hb)
    go_wp2_with fail
    refine (sFillMost_c _ _ rs cs (by omega) (by omega) _ hI hJ).mono ?_
    rintro e wc ⟨rfl, hb⟩
    replace hW := hW.trans (Below.mono hb hW.size)
    replace hI := (hI.below hb).more (Below.size hb)
    replace hJ := (hJ.below hb).more (Below.size hb)
    obtain ⟨a, ea⟩ : ∃ a, a = fmO rs cs := ⟨_, rfl⟩
    rw [← ea]
    by_cases hneg : a < 0
    · clear ea
      go_wp2
      go_returns
      exact ⟨rfl, hW⟩
    have hsv : svB rs cs = true := by
      cases h : svB rs cs with
      | true => rfl
      | false => rw [fmO_no h] at ea; omega
    have hS := svB_yes hsv
    rw [fmO_yes hsv] at ea
    have EA := Lib.hid ea
    have HSV := Lib.hid hsv
    have h1 := hS.h1
    have h6 := hS.h6
    have w1 := hS.w1
    have w6 := hS.w6
    clear ea hsv
    have hle1 : a ≤ rs.sum := by rw [EA.out]; exact fm_rows fun c h => (hS.cm c h).1
    have hsb := sum_bd hS.sr
    have G1 := fun w h => sumOf_c (.slice B rs.length bp) rs hS.sr w h
    have G2 := fun w h1 h2 => SumsExcess_c (.slice B rs.length bp) (.slice C cs.length cp) rs cs HSV.out w h1 h2
    rw [← EA.out] at G2
    obtain ⟨S, eS⟩ : ∃ S, S = rs.sum := ⟨_, rfl⟩
    rw [← eS] at hle1 hsb G1 G2
    have he : S - (S - a) = a := by omega
    clear eS
    go_wp2_with fail
    refine (G1 _ hI).mono ?_
    rintro e wc ⟨rfl, rfl⟩
    go_wp2_with fail
    refine (G2 _ hI hJ).mono ?_
    rintro e wc ⟨rfl, hb⟩
    replace hW := hW.trans (Below.mono hb hW.size)
    replace hI := (hI.below hb).more (Below.size hb)
    replace hJ := (hJ.below hb).more (Below.size hb)
    go_wp2
    go_returns
    exact ⟨rfl, hW⟩
end Go.Proofs.Ytodofomcoolbhaa
