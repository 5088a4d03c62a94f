/- Contract of l23Step: a step of a ghost. Conditions: a direction below 4; the table, the one on the way and the last one are valid. -/
import Derived.Test.YtbpjceffkchmbaaDoorTGH
import Derived.Test.YtbpjceffkchmbaaDoorTG7
import Derived.Test.YtbpjceffkchmbaaDoorML1
namespace Go.Proofs.YtbpjceffkchmbaaDoor
open Go.RowKit
theorem tv_zero (h n : Nat) : tvB h n (zeroT h n) = true := tvB_yes fun i j _ _ => by
  unfold okE
  rw [ent_zeroT]
  rfl
theorem TadOut.yes {w w' : World} {ex b : Bool} {h n : Nat} {T : List (List Int)} {e : Ending} (ho : TadOut w ex b h n T w' e) (hb : b = true) : ∃ gT cp gs, e = .returned (.tuple #[.slice (some ⟨gT, 0, none⟩) h cp, .bool true]) ∧ Tbl w' gT h n gs T ∧ w.heap.size ≤ gT ∧ (∀ i, i < h → w.heap.size ≤ gs.getD i 0) ∧ (h ≤ cp ∧ (ex = true → cp = h)) ∧ Below w.heap.size w w' := by
  rcases ho with ⟨_, h⟩ | ⟨h, _⟩
  · exact h
  · rw [hb] at h; cases h
theorem TadOut.no {w w' : World} {ex b : Bool} {h n : Nat} {T : List (List Int)} {e : Ending} (ho : TadOut w ex b h n T w' e) (hb : b = false) : ∃ v, e = .returned (.tuple #[v, .bool false]) ∧ Below w.heap.size w w' := by
  rcases ho with ⟨h, _⟩ | ⟨_, ⟨v, h1⟩, h2⟩
  · rw [hb] at h; cases h
  · exact ⟨v, h1, h2⟩
/-- What a step gives. -/
def StpOut (w : World) (h n : Nat) (T : List (List Int)) (w' : World) (e : Ending) : Prop := ∃ v, e = .returned (.tuple #[v, .bool true]) ∧ STbl w h n T w' v
set_option maxRecDepth 100000 in
set_option maxHeartbeats 4000000 in
theorem l23Step_0 (gT h n cp : Nat) (gs : List Nat) (T : List (List Int)) (h1 : 1 ≤ h) (h7 : h ≤ 7) (n1 : 1 ≤ n) (n7 : n ≤ 7) (hV : tvB h n T = true) (hM : tvB h (n + 1) (midG 0 h n T) = true) (hS : tvB h (n + 1) (stepG 0 h n T) = true) (w : World) (t : Tbl w gT h n gs T) :
    Calls Tryd.prog 64 #[.slice (some ⟨gT, 0, none⟩) h cp, .int .i64 0] w fun e w' => StpOut w h (n + 1) (stepG 0 h n T) w' e := by
  have HX := l21X_c 0 (by omega) w
  rw [show ((0 : Nat) : Int) = 0 from rfl, show dXs.getD 0 0 = 1 from rfl] at HX
  have HT := Lib.hid (And.intro t (And.intro hV (And.intro hM hS)))
  clear t hV hM hS
  go_enter Tryd.func64, Tryd.ntmps64
  go_wp2_with fail
  refine HX.mono ?_
  rintro e w1 ⟨rfl, hb1⟩
  clear HX
  have HY := l21Y_c 0 (by omega) w1
  rw [show ((0 : Nat) : Int) = 0 from rfl, show dYs.getD 0 0 = 0 from rfl] at HY
  go_wp2_with fail
  refine HY.mono ?_
  rintro e w2 ⟨rfl, hb2⟩
  clear HY
  have hb := hb1.trans (hb2.mono hb1.size)
  have t2 := HT.out.1.below hb
  have hc0 := t2.cell (i := 0) (by omega)
  obtain ⟨g0, eg0⟩ : ∃ g, g = gs.getD 0 0 := ⟨_, rfl⟩
  rw [← eg0] at hc0
  unfold rowV at hc0
  have HE := l22Blank_c h (n + 1) (by omega) (by omega) w2
  rw [show ((n + 1 : Nat) : Int) = (n : Int) + 1 by omega] at HE
  have g1 : ¬ (8 : Int) < (h : Int) := by omega
  have g2 : ¬ (8 : Int) < (n : Int) + 1 := by omega
  have HW := Lib.hid (And.intro t2 hb)
  clear t2 hb hb1 hb2 eg0
  go_wp2_with fail
  refine HE.mono ?_
  rintro e w3 ⟨v, rfl, gE, cE, gsE, rfl, hcE, hTE, hgE, hgsE, hbE⟩
  clear HE hc0
  have t3 := HW.out.1.below hbE
  have hb3 := HW.out.2.trans (hbE.mono HW.out.2.size)
  have HA := sTableAdd_c gE gT h (n + 1) h n 0 0 cE cp (-1) gsE gs (zeroT h (n + 1)) T (by omega) (by omega) (by omega) (by omega) h1 n1 (by omega) (by omega) (.inr rfl) (tv_zero _ _) HT.out.2.1 w3 hTE t3
  rw [show ((0 : Nat) : Int) = 0 from rfl] at HA
  have H3 := Lib.hid (And.intro t3 hb3)
  clear hTE hgE hgsE hbE hcE t3 hb3
  go_wp2_with fail
  refine HA.mono ?_
  intro e w4 ho
  obtain ⟨gM, cM, gsM, rfl, hTM, hgM, hgsM, hcM, hbM⟩ := ho.yes HT.out.2.2.1
  clear HA ho
  have t4 := H3.out.1.below hbM
  have hb4 := H3.out.2.trans (hbM.mono H3.out.2.size)
  have HA := sTableAdd_c gM gT h (n + 1) h n 0 1 cM cp 1 gsM gs (midG 0 h n T) T (by omega) (by omega) (by omega) (by omega) h1 n1 (by omega) (by omega) (.inl rfl) HT.out.2.2.1 HT.out.2.1 w4 hTM t4
  rw [show ((0 : Nat) : Int) = 0 from rfl, show ((1 : Nat) : Int) = 1 from rfl] at HA
  have H4 := Lib.hid hb4
  clear hTM hgM hgsM hcM hbM t4 hb4
  go_wp2_with fail
  refine HA.mono ?_
  intro e w5 ho
  obtain ⟨gF, cF, gsF, rfl, hTF, hgF, hgsF, hcF, hbF⟩ := ho.yes HT.out.2.2.2
  clear HA ho
  have hsz := H4.out.size
  have HO := Lib.hid (show STbl w h (n + 1) (stepG 0 h n T) w5 (.slice (some ⟨gF, 0, none⟩) h cF) from ⟨gF, cF, gsF, rfl, hcF.1, hTF, Nat.le_trans hsz hgF, fun i hi => Nat.le_trans hsz (hgsF i hi), H4.out.trans (hbF.mono hsz)⟩)
  clear hTF hgF hgsF hcF hbF hsz
  go_wp2
  go_returns
  exact ⟨_, rfl, HO.out⟩
set_option maxRecDepth 100000 in
set_option maxHeartbeats 4000000 in
theorem l23Step_1 (gT h n cp : Nat) (gs : List Nat) (T : List (List Int)) (h1 : 1 ≤ h) (h7 : h ≤ 7) (n1 : 1 ≤ n) (n7 : n ≤ 7) (hV : tvB h n T = true) (hM : tvB (h + 1) n (midG 1 h n T) = true) (hS : tvB (h + 1) n (stepG 1 h n T) = true) (w : World) (t : Tbl w gT h n gs T) :
    Calls Tryd.prog 64 #[.slice (some ⟨gT, 0, none⟩) h cp, .int .i64 1] w fun e w' => StpOut w (h + 1) n (stepG 1 h n T) w' e := by
  have HX := l21X_c 1 (by omega) w
  rw [show ((1 : Nat) : Int) = 1 from rfl, show dXs.getD 1 0 = 0 from rfl] at HX
  have HT := Lib.hid (And.intro t (And.intro hV (And.intro hM hS)))
  clear t hV hM hS
  go_enter Tryd.func64, Tryd.ntmps64
  go_wp2_with fail
  refine HX.mono ?_
  rintro e w1 ⟨rfl, hb1⟩
  clear HX
  have HY := l21Y_c 1 (by omega) w1
  rw [show ((1 : Nat) : Int) = 1 from rfl, show dYs.getD 1 0 = 1 from rfl] at HY
  go_wp2_with fail
  refine HY.mono ?_
  rintro e w2 ⟨rfl, hb2⟩
  clear HY
  have hb := hb1.trans (hb2.mono hb1.size)
  have t2 := HT.out.1.below hb
  have hc0 := t2.cell (i := 0) (by omega)
  obtain ⟨g0, eg0⟩ : ∃ g, g = gs.getD 0 0 := ⟨_, rfl⟩
  rw [← eg0] at hc0
  unfold rowV at hc0
  have HE := l22Blank_c (h + 1) n (by omega) (by omega) w2
  rw [show ((h + 1 : Nat) : Int) = (h : Int) + 1 by omega] at HE
  have g1 : ¬ (8 : Int) < (h : Int) + 1 := by omega
  have g2 : ¬ (8 : Int) < (n : Int) := by omega
  have HW := Lib.hid (And.intro t2 hb)
  clear t2 hb hb1 hb2 eg0
  go_wp2_with fail
  refine HE.mono ?_
  rintro e w3 ⟨v, rfl, gE, cE, gsE, rfl, hcE, hTE, hgE, hgsE, hbE⟩
  clear HE hc0
  have t3 := HW.out.1.below hbE
  have hb3 := HW.out.2.trans (hbE.mono HW.out.2.size)
  have HA := sTableAdd_c gE gT (h + 1) n h n 0 0 cE cp (-1) gsE gs (zeroT (h + 1) n) T (by omega) (by omega) (by omega) (by omega) h1 n1 (by omega) (by omega) (.inr rfl) (tv_zero _ _) HT.out.2.1 w3 hTE t3
  rw [show ((0 : Nat) : Int) = 0 from rfl] at HA
  have H3 := Lib.hid (And.intro t3 hb3)
  clear hTE hgE hgsE hbE hcE t3 hb3
  go_wp2_with fail
  refine HA.mono ?_
  intro e w4 ho
  obtain ⟨gM, cM, gsM, rfl, hTM, hgM, hgsM, hcM, hbM⟩ := ho.yes HT.out.2.2.1
  clear HA ho
  have t4 := H3.out.1.below hbM
  have hb4 := H3.out.2.trans (hbM.mono H3.out.2.size)
  have HA := sTableAdd_c gM gT (h + 1) n h n 1 0 cM cp 1 gsM gs (midG 1 h n T) T (by omega) (by omega) (by omega) (by omega) h1 n1 (by omega) (by omega) (.inl rfl) HT.out.2.2.1 HT.out.2.1 w4 hTM t4
  rw [show ((0 : Nat) : Int) = 0 from rfl, show ((1 : Nat) : Int) = 1 from rfl] at HA
  have H4 := Lib.hid hb4
  clear hTM hgM hgsM hcM hbM t4 hb4
  go_wp2_with fail
  refine HA.mono ?_
  intro e w5 ho
  obtain ⟨gF, cF, gsF, rfl, hTF, hgF, hgsF, hcF, hbF⟩ := ho.yes HT.out.2.2.2
  clear HA ho
  have hsz := H4.out.size
  have HO := Lib.hid (show STbl w (h + 1) n (stepG 1 h n T) w5 (.slice (some ⟨gF, 0, none⟩) (h + 1) cF) from ⟨gF, cF, gsF, rfl, hcF.1, hTF, Nat.le_trans hsz hgF, fun i hi => Nat.le_trans hsz (hgsF i hi), H4.out.trans (hbF.mono hsz)⟩)
  clear hTF hgF hgsF hcF hbF hsz
  go_wp2
  go_returns
  exact ⟨_, rfl, HO.out⟩
set_option maxRecDepth 100000 in
set_option maxHeartbeats 4000000 in
theorem l23Step_2 (gT h n cp : Nat) (gs : List Nat) (T : List (List Int)) (h1 : 1 ≤ h) (h7 : h ≤ 7) (n1 : 1 ≤ n) (n7 : n ≤ 7) (hV : tvB h n T = true) (hM : tvB (h + 1) (n + 1) (midG 2 h n T) = true) (hS : tvB (h + 1) (n + 1) (stepG 2 h n T) = true) (w : World) (t : Tbl w gT h n gs T) :
    Calls Tryd.prog 64 #[.slice (some ⟨gT, 0, none⟩) h cp, .int .i64 2] w fun e w' => StpOut w (h + 1) (n + 1) (stepG 2 h n T) w' e := by
  have HX := l21X_c 2 (by omega) w
  rw [show ((2 : Nat) : Int) = 2 from rfl, show dXs.getD 2 0 = 1 from rfl] at HX
  have HT := Lib.hid (And.intro t (And.intro hV (And.intro hM hS)))
  clear t hV hM hS
  go_enter Tryd.func64, Tryd.ntmps64
  go_wp2_with fail
  refine HX.mono ?_
  rintro e w1 ⟨rfl, hb1⟩
  clear HX
  have HY := l21Y_c 2 (by omega) w1
  rw [show ((2 : Nat) : Int) = 2 from rfl, show dYs.getD 2 0 = 1 from rfl] at HY
  go_wp2_with fail
  refine HY.mono ?_
  rintro e w2 ⟨rfl, hb2⟩
  clear HY
  have hb := hb1.trans (hb2.mono hb1.size)
  have t2 := HT.out.1.below hb
  have hc0 := t2.cell (i := 0) (by omega)
  obtain ⟨g0, eg0⟩ : ∃ g, g = gs.getD 0 0 := ⟨_, rfl⟩
  rw [← eg0] at hc0
  unfold rowV at hc0
  have HE := l22Blank_c (h + 1) (n + 1) (by omega) (by omega) w2
  rw [show ((h + 1 : Nat) : Int) = (h : Int) + 1 by omega] at HE
  rw [show ((n + 1 : Nat) : Int) = (n : Int) + 1 by omega] at HE
  have g1 : ¬ (8 : Int) < (h : Int) + 1 := by omega
  have g2 : ¬ (8 : Int) < (n : Int) + 1 := by omega
  have HW := Lib.hid (And.intro t2 hb)
  clear t2 hb hb1 hb2 eg0
  go_wp2_with fail
  refine HE.mono ?_
  rintro e w3 ⟨v, rfl, gE, cE, gsE, rfl, hcE, hTE, hgE, hgsE, hbE⟩
  clear HE hc0
  have t3 := HW.out.1.below hbE
  have hb3 := HW.out.2.trans (hbE.mono HW.out.2.size)
  have HA := sTableAdd_c gE gT (h + 1) (n + 1) h n 0 0 cE cp (-1) gsE gs (zeroT (h + 1) (n + 1)) T (by omega) (by omega) (by omega) (by omega) h1 n1 (by omega) (by omega) (.inr rfl) (tv_zero _ _) HT.out.2.1 w3 hTE t3
  rw [show ((0 : Nat) : Int) = 0 from rfl] at HA
  have H3 := Lib.hid (And.intro t3 hb3)
  clear hTE hgE hgsE hbE hcE t3 hb3
  go_wp2_with fail
  refine HA.mono ?_
  intro e w4 ho
  obtain ⟨gM, cM, gsM, rfl, hTM, hgM, hgsM, hcM, hbM⟩ := ho.yes HT.out.2.2.1
  clear HA ho
  have t4 := H3.out.1.below hbM
  have hb4 := H3.out.2.trans (hbM.mono H3.out.2.size)
  have HA := sTableAdd_c gM gT (h + 1) (n + 1) h n 1 1 cM cp 1 gsM gs (midG 2 h n T) T (by omega) (by omega) (by omega) (by omega) h1 n1 (by omega) (by omega) (.inl rfl) HT.out.2.2.1 HT.out.2.1 w4 hTM t4
  rw [show ((1 : Nat) : Int) = 1 from rfl] at HA
  have H4 := Lib.hid hb4
  clear hTM hgM hgsM hcM hbM t4 hb4
  go_wp2_with fail
  refine HA.mono ?_
  intro e w5 ho
  obtain ⟨gF, cF, gsF, rfl, hTF, hgF, hgsF, hcF, hbF⟩ := ho.yes HT.out.2.2.2
  clear HA ho
  have hsz := H4.out.size
  have HO := Lib.hid (show STbl w (h + 1) (n + 1) (stepG 2 h n T) w5 (.slice (some ⟨gF, 0, none⟩) (h + 1) cF) from ⟨gF, cF, gsF, rfl, hcF.1, hTF, Nat.le_trans hsz hgF, fun i hi => Nat.le_trans hsz (hgsF i hi), H4.out.trans (hbF.mono hsz)⟩)
  clear hTF hgF hgsF hcF hbF hsz
  go_wp2
  go_returns
  exact ⟨_, rfl, HO.out⟩
set_option maxRecDepth 100000 in
set_option maxHeartbeats 4000000 in
theorem l23Step_3 (gT h n cp : Nat) (gs : List Nat) (T : List (List Int)) (h1 : 1 ≤ h) (h7 : h ≤ 7) (n1 : 1 ≤ n) (n7 : n ≤ 7) (hV : tvB h n T = true) (hM : tvB (h + 1) (n + 1) (midG 3 h n T) = true) (hS : tvB (h + 1) (n + 1) (stepG 3 h n T) = true) (w : World) (t : Tbl w gT h n gs T) :
    Calls Tryd.prog 64 #[.slice (some ⟨gT, 0, none⟩) h cp, .int .i64 3] w fun e w' => StpOut w (h + 1) (n + 1) (stepG 3 h n T) w' e := by
  have HX := l21X_c 3 (by omega) w
  rw [show ((3 : Nat) : Int) = 3 from rfl, show dXs.getD 3 0 = 1 from rfl] at HX
  have HT := Lib.hid (And.intro t (And.intro hV (And.intro hM hS)))
  clear t hV hM hS
  go_enter Tryd.func64, Tryd.ntmps64
  go_wp2_with fail
  refine HX.mono ?_
  rintro e w1 ⟨rfl, hb1⟩
  clear HX
  have HY := l21Y_c 3 (by omega) w1
  rw [show ((3 : Nat) : Int) = 3 from rfl, show dYs.getD 3 0 = (-1) from rfl] at HY
  go_wp2_with fail
  refine HY.mono ?_
  rintro e w2 ⟨rfl, hb2⟩
  clear HY
  have hb := hb1.trans (hb2.mono hb1.size)
  have t2 := HT.out.1.below hb
  have hc0 := t2.cell (i := 0) (by omega)
  obtain ⟨g0, eg0⟩ : ∃ g, g = gs.getD 0 0 := ⟨_, rfl⟩
  rw [← eg0] at hc0
  unfold rowV at hc0
  have HE := l22Blank_c (h + 1) (n + 1) (by omega) (by omega) w2
  rw [show ((h + 1 : Nat) : Int) = (h : Int) + 1 by omega] at HE
  rw [show ((n + 1 : Nat) : Int) = (n : Int) + 1 by omega] at HE
  have g1 : ¬ (8 : Int) < (h : Int) + 1 := by omega
  have g2 : ¬ (8 : Int) < (n : Int) + 1 := by omega
  have HW := Lib.hid (And.intro t2 hb)
  clear t2 hb hb1 hb2 eg0
  go_wp2_with fail
  refine HE.mono ?_
  rintro e w3 ⟨v, rfl, gE, cE, gsE, rfl, hcE, hTE, hgE, hgsE, hbE⟩
  clear HE hc0
  have t3 := HW.out.1.below hbE
  have hb3 := HW.out.2.trans (hbE.mono HW.out.2.size)
  have HA := sTableAdd_c gE gT (h + 1) (n + 1) h n 1 0 cE cp (-1) gsE gs (zeroT (h + 1) (n + 1)) T (by omega) (by omega) (by omega) (by omega) h1 n1 (by omega) (by omega) (.inr rfl) (tv_zero _ _) HT.out.2.1 w3 hTE t3
  rw [show ((1 : Nat) : Int) = 1 from rfl, show ((0 : Nat) : Int) = 0 from rfl] at HA
  have H3 := Lib.hid (And.intro t3 hb3)
  clear hTE hgE hgsE hbE hcE t3 hb3
  go_wp2_with fail
  refine HA.mono ?_
  intro e w4 ho
  obtain ⟨gM, cM, gsM, rfl, hTM, hgM, hgsM, hcM, hbM⟩ := ho.yes HT.out.2.2.1
  clear HA ho
  have t4 := H3.out.1.below hbM
  have hb4 := H3.out.2.trans (hbM.mono H3.out.2.size)
  have HA := sTableAdd_c gM gT (h + 1) (n + 1) h n 0 1 cM cp 1 gsM gs (midG 3 h n T) T (by omega) (by omega) (by omega) (by omega) h1 n1 (by omega) (by omega) (.inl rfl) HT.out.2.2.1 HT.out.2.1 w4 hTM t4
  rw [show ((0 : Nat) : Int) = 0 from rfl, show ((1 : Nat) : Int) = 1 from rfl] at HA
  have H4 := Lib.hid hb4
  clear hTM hgM hgsM hcM hbM t4 hb4
  go_wp2_with fail
  refine HA.mono ?_
  intro e w5 ho
  obtain ⟨gF, cF, gsF, rfl, hTF, hgF, hgsF, hcF, hbF⟩ := ho.yes HT.out.2.2.2
  clear HA ho
  have hsz := H4.out.size
  have HO := Lib.hid (show STbl w (h + 1) (n + 1) (stepG 3 h n T) w5 (.slice (some ⟨gF, 0, none⟩) (h + 1) cF) from ⟨gF, cF, gsF, rfl, hcF.1, hTF, Nat.le_trans hsz hgF, fun i hi => Nat.le_trans hsz (hgsF i hi), H4.out.trans (hbF.mono hsz)⟩)
  clear hTF hgF hgsF hcF hbF hsz
  go_wp2
  go_returns
  exact ⟨_, rfl, HO.out⟩
theorem l23Step_c (d gT h n cp : Nat) (hd : d < 4) (gs : List Nat) (T : List (List Int)) (h1 : 1 ≤ h) (h7 : h ≤ 7) (n1 : 1 ≤ n) (n7 : n ≤ 7) (hV : tvB h n T = true) (hM : tvB (h + gUp d) (n + gX d) (midG d h n T) = true) (hS : tvB (h + gUp d) (n + gX d) (stepG d h n T) = true) (w : World) (t : Tbl w gT h n gs T) :
    Calls Tryd.prog 64 #[.slice (some ⟨gT, 0, none⟩) h cp, .int .i64 (d : Int)] w fun e w' => StpOut w (h + gUp d) (n + gX d) (stepG d h n T) w' e := by
  rcases (show d = 0 ∨ d = 1 ∨ d = 2 ∨ d = 3 by omega) with rfl | rfl | rfl | rfl
  · exact l23Step_0 gT h n cp gs T h1 h7 n1 n7 hV hM hS w t
  · exact l23Step_1 gT h n cp gs T h1 h7 n1 n7 hV hM hS w t
  · exact l23Step_2 gT h n cp gs T h1 h7 n1 n7 hV hM hS w t
  · exact l23Step_3 gT h n cp gs T h1 h7 n1 n7 hV hM hS w t
end Go.Proofs.YtbpjceffkchmbaaDoor
