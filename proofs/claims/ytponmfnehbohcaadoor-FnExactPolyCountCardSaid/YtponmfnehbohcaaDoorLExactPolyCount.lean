/- The exact law of PolyCount: implementation and specification agree at whatever sums, and the arguments stay as they were. Conditions: the slices read as lists of integers of length at most maxLen; the table of math/bits stands. -/
import Derived.Test.YtponmfnehbohcaaDoorSC4
import Derived.Test.YtponmfnehbohcaaDoorIO6
import Derived.Test.YtponmfnehbohcaaDoorK7
import Derived.Test.YtponmfnehbohcaaDoorK6
namespace Go.Proofs.YtponmfnehbohcaaDoor
open Go.RowKit
set_option maxHeartbeats 4000000 in
theorem exactPolyCount_walk (u : Value) (rs : List Int) (hr : rs.length ≤ maxLen) (t : Value) (cs : List Int) (hc : cs.length ≤ maxLen) (w : World) (hu : Ints w.heap.size w u rs) (ht : Ints w.heap.size w t cs) (hT : Tab w) :
    Calls Tryd.prog 7 #[u, t] w fun e w' => e = .returned (.bool true) ∧ Below w.heap.size w w' := by
  have s63 : rs.length ≤ 9223372036854775807 := Nat.le_trans hr (by decide)
  have c63 : cs.length ≤ 9223372036854775807 := Nat.le_trans hc (by decide)
  clear hr hc
  obtain ⟨B, cap1, rfl⟩ := hu.len
  obtain ⟨C, cap2, rfl⟩ := ht.len
  by_cases hb1 : 1048576 < rs.length
  · go_enter Tryd.func7, Tryd.ntmps7
    go_wp2
    go_returns
    exact ⟨rfl, Below.refl _ _⟩
  by_cases hb2 : 1048576 < cs.length
  · go_enter Tryd.func7, Tryd.ntmps7
    go_wp2
    go_returns
    exact ⟨rfl, Below.refl _ _⟩
  have hJ := Arg.new hu
  have hK := Arg.new ht
  have hW := Below.refl w.heap.size w
  have s20 : rs.length ≤ 2097152 := by omega
  have c20 : cs.length ≤ 2097152 := by omega
  clear hu ht
  go_enter Tryd.func7, Tryd.ntmps7
  go_wp2_with fail
  clear s63 c63
  refine (toIntS_c _ rs s20 _ hJ.ints).mono ?_
  rintro e wc ⟨g1, rfl, hg, hr1, hb⟩
  clear hg
  replace hJ := hJ.below hb
  replace hK := hK.below hb
  replace hW := hW.trans (Below.mono hb hW.size)
  go_wp2_with fail
  refine (toIntS_c _ cs c20 _ hK.ints).mono ?_
  rintro e wc ⟨g2, rfl, hg, hr2, hb⟩
  clear hg
  replace hJ := hJ.below hb
  replace hK := hK.below hb
  replace hW := hW.trans (Below.mono hb hW.size)
  replace hr1 := hr1.below hb hr1.lt
  go_wp2_with fail
  refine (sPolyCount_c _ _ rs cs s20 c20 _ (hr1.ints hr1.lt _) (hr2.ints hr2.lt _)).mono ?_
  rintro e wc ⟨rfl, hb⟩
  clear hr2
  replace hJ := hJ.below hb
  replace hK := hK.below hb
  replace hW := hW.trans (Below.mono hb hW.size)
  replace hr1 := hr1.below hb hr1.lt
  clear hr1
  go_wp2_with fail
  refine (toIntS_c _ rs s20 _ hJ.ints).mono ?_
  rintro e wc ⟨g1, rfl, hg, hr1, hb⟩
  clear hg
  replace hJ := hJ.below hb
  replace hK := hK.below hb
  replace hW := hW.trans (Below.mono hb hW.size)
  go_wp2_with fail
  refine (toIntS_c _ cs c20 _ hK.ints).mono ?_
  rintro e wc ⟨g2, rfl, hg, hr2, hb⟩
  clear hg
  replace hJ := hJ.below hb
  replace hK := hK.below hb
  replace hW := hW.trans (Below.mono hb hW.size)
  replace hr1 := hr1.below hb hr1.lt
  go_wp2_with fail
  refine (PolyCount_c _ _ rs cs s20 c20 _ (hr1.ints hr1.lt _) (hr2.ints hr2.lt _) (hT.below hW)).mono ?_
  rintro e wc ⟨rfl, hb⟩
  replace hJ := hJ.below hb
  replace hK := hK.below hb
  replace hW := hW.trans (Below.mono hb hW.size)
  replace hr1 := hr1.below hb hr1.lt
  replace hr2 := hr2.below hb hr2.lt
  generalize nPolyCount rs cs = ok
  go_wp2_with fail
  refine (toIntS_c _ rs s20 _ hJ.ints).mono ?_
  rintro e wc ⟨g7, rfl, hg, hr7, hb⟩
  clear hg
  replace hJ := hJ.below hb
  replace hK := hK.below hb
  replace hW := hW.trans (Below.mono hb hW.size)
  replace hr1 := hr1.below hb hr1.lt
  replace hr2 := hr2.below hb hr2.lt
  go_wp2_with fail
  refine (eqIntS_c _ _ rs rs s20 _ (hr1.ints hr1.lt _) (hr7.ints hr7.lt _)).mono ?_
  rintro e wc ⟨rfl, hb⟩
  replace hJ := hJ.below hb
  replace hK := hK.below hb
  replace hW := hW.trans (Below.mono hb hW.size)
  replace hr1 := hr1.below hb hr1.lt
  replace hr2 := hr2.below hb hr2.lt
  clear hr7
  simp only [decide_true]
  go_wp2_with fail
  refine (toIntS_c _ cs c20 _ hK.ints).mono ?_
  rintro e wc ⟨g8, rfl, hg, hr8, hb⟩
  clear hg
  replace hJ := hJ.below hb
  replace hK := hK.below hb
  replace hW := hW.trans (Below.mono hb hW.size)
  replace hr1 := hr1.below hb hr1.lt
  replace hr2 := hr2.below hb hr2.lt
  go_wp2_with fail
  refine (eqIntS_c _ _ cs cs c20 _ (hr2.ints hr2.lt _) (hr8.ints hr8.lt _)).mono ?_
  rintro e wc ⟨rfl, hb⟩
  replace hJ := hJ.below hb
  replace hK := hK.below hb
  replace hW := hW.trans (Below.mono hb hW.size)
  replace hr1 := hr1.below hb hr1.lt
  replace hr2 := hr2.below hb hr2.lt
  clear hr8
  simp only [decide_true]
  go_wp2
  go_returns
  exact ⟨rfl, hW⟩
end Go.Proofs.YtponmfnehbohcaaDoor
