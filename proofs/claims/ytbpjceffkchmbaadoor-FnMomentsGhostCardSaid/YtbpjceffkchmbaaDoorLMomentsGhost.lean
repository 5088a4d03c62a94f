/- The law that a ghost of three directions changes no moment: it returns true at whatever codes, where the table of the steps stands. Conditions: the first code's slice can be read; the table. -/
import Derived.Test.YtbpjceffkchmbaaDoorTG13
import Derived.Test.YtbpjceffkchmbaaDoorTG14
import Derived.Test.YtbpjceffkchmbaaDoorTG15
import Derived.Test.YtbpjceffkchmbaaDoorML2
import Derived.Test.YtbpjceffkchmbaaDoorK6
import Derived.Test.YtbpjceffkchmbaaDoorMK9
namespace Go.Proofs.YtbpjceffkchmbaaDoor
open Go.RowKit
/-- How many of the first k directions are at most 2. -/
def cntD (es : List Nat) (k : Nat) : Int := sumN k fun q => if es.getD q 0 ≤ 2 then 1 else 0
theorem cntD_three : ∀ ds ∈ DL, cntD ds ds.length = 3 → ds = [0, 1, 2] := by decide +kernel
theorem cntD_bd (es : List Nat) (k : Nat) : 0 ≤ cntD es k ∧ cntD es k ≤ k := by
  have := sumN_bd (n := k) (f := fun q => if es.getD q 0 ≤ 2 then (1 : Int) else 0) (c := 1) fun q _ => by split <;> omega
  unfold cntD
  omega
theorem cntD_step (es : List Nat) (k : Nat) : cntD es (k + 1) = cntD es k + if es.getD k 0 ≤ 2 then 1 else 0 := rfl
/-- What is known of the list at the end. -/
theorem dend_facts {ds es : List Nat} (hds : ds ∈ DL) (h : DEnd ds es) : (1 ≤ es.length ∧ es.length ≤ 4) ∧ (∀ k, k < es.length → es.getD k 0 < 4) ∧ gOk es = true ∧ (dif (casts es) es.length = true → es = ds) := by
  obtain ⟨hl, h4, hG, hdif, _⟩ := dl_facts hds
  rcases h with rfl | rfl
  · exact ⟨⟨hl.1, by omega⟩, h4, hG, fun _ => rfl⟩
  · have h2 := dl_ok2 ds hds
    unfold dlOk2 at h2
    rw [Bool.and_eq_true, Bool.not_eq_true'] at h2
    rw [List.length_append, List.length_singleton]
    refine ⟨⟨by omega, by omega⟩, fun k hk => ?_, h2.1, fun hd => ?_⟩
    · by_cases e : k < ds.length
      · rw [List.getD_eq_getElem?_getD, List.getElem?_append_left e, ← List.getD_eq_getElem?_getD]
        exact h4 k e
      · obtain rfl : k = ds.length := by omega
        rw [List.getD_eq_getElem?_getD, List.getElem?_append_right (Nat.le_refl _), Nat.sub_self]
        exact h4 0 (by omega)
    · rw [h2.2] at hd
      cases hd
theorem Row.intsGh {w : World} {g h c : Nat} {xs : List Int} (hr : Row w g xs) (hl : xs.length = h) : Ints w.heap.size w (.slice (some ⟨g, 0, none⟩) h c) xs := by
  have := hr.ints hr.lt c
  rw [hl] at this
  exact this
set_option maxRecDepth 100000 in
set_option maxHeartbeats 8000000 in
theorem momentsGhost_walk (A : Option Addr) (len cap : Nat) (hlc : len ≤ cap) (A1 : Option Addr) (len1 cap1 : Nat) (w : World) (hc : Code8 w w.heap.size A len) (hD : Dirs w) :
    Calls Tryd.prog 4 #[.slice A len cap, .slice A1 len1 cap1] w fun e w' => e = .returned (.bool true) ∧ Below w.heap.size w w' := by
  by_cases hbig : 1048576 < len
  · go_enter Tryd.func4, Tryd.ntmps4
    go_wp2
    go_returns
    exact ⟨rfl, Below.refl _ _⟩
  by_cases hbig2 : 1048576 < len1
  · go_enter Tryd.func4, Tryd.ntmps4
    go_wp2
    go_returns
    exact ⟨rfl, Below.refl _ _⟩
  have HDG := DrawGhostMove_c A len cap hlc w hc
  go_enter Tryd.func4, Tryd.ntmps4
  go_wp2_with fail
  refine HDG.mono ?_
  rintro e wc ⟨n, gi, ns, ds, es, Ad, cd, c, i, j, rfl, hn45, hV, hl, hrow, hE, hcap, hds, hend, hcc, hfi, hfj, hW⟩
  clear HDG hc
  obtain ⟨hle, he4, heG, hed⟩ := dend_facts hds hend
  have hI : Ints wc.heap.size wc (.slice (some ⟨gi, 0, none⟩) n n) (casts ns) := hrow.intsGh (by rw [length_casts, hl])
  have hD1 := hD.below hW
  have hfit : dif (casts es) es.length = true → i + (gh es).1 ≤ ns.length ∧ j + (gh es).2.1 ≤ n := fun h => by
    rw [hed h, hl]
    exact ⟨hfi, hfj⟩
  have HK1 := fun Wx hI hE hD => GhostMove_c n (.slice (some ⟨gi, 0, none⟩) n n) ns hV es hle.1 (by omega) he4 heG c hcc i j hfit Ad cd hcap Wx hI hE hD
  have HK2 := fun Wx hI hE => sGhostMove_c n (.slice (some ⟨gi, 0, none⟩) n n) ns hV es hle.1 (by omega) he4 heG c hcc i j hfit Ad cd Wx hI hE
  have HDD : ∀ W1, Below wc.heap.size wc W1 → Dirs W1 := fun W1 h => hD1.below h
  rw [hl] at HK1 HK2
  have HF := Lib.hid (And.intro hds (And.intro hed (And.intro hfi (And.intro hfj hl))))
  obtain ⟨L, eL⟩ : ∃ L, L = es.length := ⟨_, rfl⟩
  simp only [← eL] at HK1 HK2
  rw [← eL] at hE hle ⊢
  have HEL := Lib.hid eL
  clear hrow hcap hds hend hcc hfi hfj he4 heG hed hfit HDD eL hl
  obtain ⟨W1, e_W1⟩ : ∃ W0, W0 = World.alloc wc (.cells #[.int .i64 (n : Int), .slice (some ⟨gi, 0, none⟩) n n] 25) := ⟨_, rfl⟩
  have hx_W1 := Box2.new wc (.int .i64 (n : Int)) (.slice (some ⟨gi, 0, none⟩) n n) 25
  have hb_W1 : Below (World.heap wc).size wc W1 := by rw [e_W1]; go_grown
  have HS_W1 := Lib.hid (show (World.heap W1).size = (World.heap wc).size + 1 by rw [e_W1]; simp)
  replace hI := (hI.below hb_W1).more (Below.size hb_W1)
  replace hE := (hE.below hb_W1).more (Below.size hb_W1)
  replace hW := hW.trans (Below.mono hb_W1 hW.size)
  have HE_W1 := Lib.hid e_W1
  clear e_W1
  go_wp2_with fail
  rw [← HE_W1.out] at hx_W1 ⊢
  clear HE_W1
  obtain ⟨hl_x, x0, x1⟩ := hx_W1
  obtain ⟨Bx, e_Bx⟩ : ∃ Bx, Bx = (World.heap wc).size := ⟨_, rfl⟩
  rw [← e_Bx] at hl_x x0 x1 hb_W1 HS_W1  ⊢
  have hz_Bx := hb_W1.size
  clear e_Bx hb_W1
  refine (HK1 _ hI hE (hD.below hW)).mono ?_
  clear HK1 hD1
  intro e wc ho
  cases hmv : mvB n ns es c i j with
  | false =>
    rw [hmv] at ho HK2
    rcases ho with ⟨h, _⟩ | ⟨_, rfl, hb⟩
    · cases h
    clear hmv
    replace hI := (hI.below hb).more (Below.size hb)
    replace hE := (hE.below hb).more (Below.size hb)
    replace hW := hW.trans (Below.mono hb hW.size)
    replace x0 := cellB hb x0
    replace x1 := cellB hb x1
    obtain ⟨W3, e_W3⟩ : ∃ W0, W0 = World.alloc wc (.cells #[.int .i64 0, .slice none 0 0] 25) := ⟨_, rfl⟩
    have hx_W3 := Box2.new wc (.int .i64 0) (.slice none 0 0) 25
    have hb_W3 : Below (World.heap wc).size wc W3 := by rw [e_W3]; go_grown
    have HS_W3 := Lib.hid (show (World.heap W3).size = (World.heap wc).size + 1 by rw [e_W3]; simp)
    replace hI := (hI.below hb_W3).more (Below.size hb_W3)
    replace hE := (hE.below hb_W3).more (Below.size hb_W3)
    replace hW := hW.trans (Below.mono hb_W3 hW.size)
    replace x0 := cellB hb_W3 x0
    replace x1 := cellB hb_W3 x1
    have x0r := x0
    rw [e_W3] at x0r
    have x1r := x1
    rw [e_W3] at x1r
    have HE_W3 := Lib.hid e_W3
    clear e_W3
    go_wp2_with fail
    rw [← HE_W3.out] at hx_W3 ⊢
    clear x0r x1r
    clear HE_W3
    obtain ⟨hl_y, y0, y1⟩ := hx_W3
    obtain ⟨By, e_By⟩ : ∃ Bx, Bx = (World.heap wc).size := ⟨_, rfl⟩
    rw [← e_By] at hl_y y0 y1 hb_W3 HS_W3  ⊢
    have hz_By := hb_W3.size
    clear e_By hb_W3
    refine (HK2 _ hI hE).mono ?_
    clear HK2
    rintro e wc ho
    rcases ho with ⟨h, _⟩ | ⟨_, rfl, hb⟩
    · cases h
    replace hI := (hI.below hb).more (Below.size hb)
    replace hE := (hE.below hb).more (Below.size hb)
    replace hW := hW.trans (Below.mono hb hW.size)
    replace x0 := cellB hb x0
    replace x1 := cellB hb x1
    replace y0 := cellB hb y0
    replace y1 := cellB hb y1
    obtain ⟨W5, e_W5⟩ : ∃ W0, W0 = World.alloc wc (.cells #[.int .i64 0, .slice none 0 0] 25) := ⟨_, rfl⟩
    have hx_W5 := Box2.new wc (.int .i64 0) (.slice none 0 0) 25
    have hb_W5 : Below (World.heap wc).size wc W5 := by rw [e_W5]; go_grown
    have HS_W5 := Lib.hid (show (World.heap W5).size = (World.heap wc).size + 1 by rw [e_W5]; simp)
    replace hI := (hI.below hb_W5).more (Below.size hb_W5)
    replace hE := (hE.below hb_W5).more (Below.size hb_W5)
    replace hW := hW.trans (Below.mono hb_W5 hW.size)
    replace x0 := cellB hb_W5 x0
    replace x1 := cellB hb_W5 x1
    replace y0 := cellB hb_W5 y0
    replace y1 := cellB hb_W5 y1
    have y0r := y0
    rw [e_W5] at y0r
    have y1r := y1
    rw [e_W5] at y1r
    have HE_W5 := Lib.hid e_W5
    clear e_W5
    go_wp2_with fail
    rw [← HE_W5.out] at hx_W5 ⊢
    clear y0r y1r
    clear HE_W5
    obtain ⟨hl_z, z0, z1⟩ := hx_W5
    obtain ⟨Bz, e_Bz⟩ : ∃ Bx, Bx = (World.heap wc).size := ⟨_, rfl⟩
    rw [← e_Bz] at hl_z z0 z1 hb_W5 HS_W5  ⊢
    have hz_Bz := hb_W5.size
    clear e_Bz hb_W5
    refine (sameImage_c 0 0 _ _ [] [] (by simp) W5 (.inl ⟨rfl, none, 0, rfl⟩) (.inl ⟨rfl, none, 0, rfl⟩)).mono ?_
    rintro e wc ⟨rfl, hb⟩
    replace hI := (hI.below hb).more (Below.size hb)
    replace hE := (hE.below hb).more (Below.size hb)
    replace hW := hW.trans (Below.mono hb hW.size)
    replace x0 := cellB hb x0
    replace x1 := cellB hb x1
    replace y0 := cellB hb y0
    replace y1 := cellB hb y1
    replace z0 := cellB hb z0
    replace z1 := cellB hb z1
    simp only [decide_true, and_self]
    go_wp2_with fail
    refine (sameImage_c 0 0 _ _ [] [] (by simp) _ (.inl ⟨rfl, none, 0, rfl⟩) (.inl ⟨rfl, none, 0, rfl⟩)).mono ?_
    rintro e wc ⟨rfl, hb⟩
    replace hI := (hI.below hb).more (Below.size hb)
    replace hE := (hE.below hb).more (Below.size hb)
    replace hW := hW.trans (Below.mono hb hW.size)
    replace x0 := cellB hb x0
    replace x1 := cellB hb x1
    replace y0 := cellB hb y0
    replace y1 := cellB hb y1
    replace z0 := cellB hb z0
    replace z1 := cellB hb z1
    simp only [decide_true, and_self]
    go_wp2
    go_returns
    exact ⟨rfl, hW⟩
  | true =>
    have hmv2 := hmv
    unfold mvB at hmv2
    rw [Bool.and_eq_true, Bool.and_eq_true] at hmv2
    obtain ⟨⟨hdif, _⟩, hbits⟩ := hmv2
    obtain ⟨hds, hed, hfi, hfj, hl⟩ := HF.out
    obtain rfl := hed hdif
    rw [hmv] at ho HK2
    obtain ⟨ms, ems⟩ : ∃ ms, ms = mvL n ns es c i j := ⟨_, rfl⟩
    have hV2 : VImg n ms := by
      rw [ems]
      exact imgT_vimg hV.h1 hV.h6 hV.w1 hV.w6
    have hml : ms.length = n := by
      rw [ems, ← hl]
      exact imgT_len _ _ _
    have h6 : n ≤ 6 := hV.w6
    have hcross : cntD es L = 3 → mom n ms f_MomentCross_1 = mom n ns f_MomentCross_1 := fun h3 => by
      rw [HEL.out] at h3
      have e3 := cntD_three es hds h3
      subst e3
      rw [ems]
      exact mv_mom hl _ (gK_yes (gE_cross n (by omega) i (by have : (gh [0, 1, 2]).1 = 3 := (by decide); omega) j (by have : (gh [0, 1, 2]).2.1 = 3 := (by decide); omega)) hfi hfj) hbits
    have hlines : cntD es L = 3 → ∀ d, d < 8 → mom n ms (sqL d) = mom n ns (sqL d) := fun h3 d hd => by
      rw [HEL.out] at h3
      have e3 := cntD_three es hds h3
      subst e3
      rw [ems]
      exact mv_mom hl _ (gK_yes (gE_lines n (by omega) d hd i (by have : (gh [0, 1, 2]).1 = 3 := (by decide); omega) j (by have : (gh [0, 1, 2]).2.1 = 3 := (by decide); omega)) hfi hfj) hbits
    rw [← ems] at ho HK2
    have HM := Lib.hid (And.intro hcross (And.intro hlines (And.intro hV2 (And.intro hml hV))))
    have hl6 : (casts ms).length ≤ 2097152 := by rw [length_casts, hml]; omega
    have hlm : (casts ms).length = n := by rw [length_casts, hml]
    clear hmv hbits hdif hds hed hfi hfj hl ems hV2 hml hcross hlines HF
    rcases ho with ⟨_, g, cg, rfl, hg, hR, hb⟩ | ⟨h, _⟩
    rotate_left
    · cases h
    clear hg
    replace hI := (hI.below hb).more (Below.size hb)
    replace hE := (hE.below hb).more (Below.size hb)
    replace hW := hW.trans (Below.mono hb hW.size)
    replace x0 := cellB hb x0
    replace x1 := cellB hb x1
    obtain ⟨W3, e_W3⟩ : ∃ W0, W0 = World.alloc wc (.cells #[.int .i64 (n : Int), .slice (some ⟨g, 0, none⟩) n cg] 25) := ⟨_, rfl⟩
    have hx_W3 := Box2.new wc (.int .i64 (n : Int)) (.slice (some ⟨g, 0, none⟩) n cg) 25
    have hb_W3 : Below (World.heap wc).size wc W3 := by rw [e_W3]; go_grown
    have HS_W3 := Lib.hid (show (World.heap W3).size = (World.heap wc).size + 1 by rw [e_W3]; simp)
    replace hI := (hI.below hb_W3).more (Below.size hb_W3)
    replace hE := (hE.below hb_W3).more (Below.size hb_W3)
    replace hW := hW.trans (Below.mono hb_W3 hW.size)
    replace x0 := cellB hb_W3 x0
    replace x1 := cellB hb_W3 x1
    replace hR := hR.below hb_W3 hR.lt
    have x0r := x0
    rw [e_W3] at x0r
    have x1r := x1
    rw [e_W3] at x1r
    have HE_W3 := Lib.hid e_W3
    clear e_W3
    go_wp2_with fail
    rw [← HE_W3.out] at hx_W3 ⊢
    clear x0r x1r
    clear HE_W3
    obtain ⟨hl_y, y0, y1⟩ := hx_W3
    obtain ⟨By, e_By⟩ : ∃ Bx, Bx = (World.heap wc).size := ⟨_, rfl⟩
    rw [← e_By] at hl_y y0 y1 hb_W3 HS_W3  ⊢
    have hz_By := hb_W3.size
    clear e_By hb_W3
    refine (HK2 _ hI hE).mono ?_
    clear HK2
    rintro e wc ho
    rcases ho with ⟨_, g2, cg2, rfl, hg, hR2, hb⟩ | ⟨h, _⟩
    rotate_left
    · cases h
    clear hg
    replace hI := (hI.below hb).more (Below.size hb)
    replace hE := (hE.below hb).more (Below.size hb)
    replace hW := hW.trans (Below.mono hb hW.size)
    replace x0 := cellB hb x0
    replace x1 := cellB hb x1
    replace hR := hR.below hb hR.lt
    replace y0 := cellB hb y0
    replace y1 := cellB hb y1
    obtain ⟨W5, e_W5⟩ : ∃ W0, W0 = World.alloc wc (.cells #[.int .i64 (n : Int), .slice (some ⟨g2, 0, none⟩) n cg2] 25) := ⟨_, rfl⟩
    have hx_W5 := Box2.new wc (.int .i64 (n : Int)) (.slice (some ⟨g2, 0, none⟩) n cg2) 25
    have hb_W5 : Below (World.heap wc).size wc W5 := by rw [e_W5]; go_grown
    have HS_W5 := Lib.hid (show (World.heap W5).size = (World.heap wc).size + 1 by rw [e_W5]; simp)
    replace hI := (hI.below hb_W5).more (Below.size hb_W5)
    replace hE := (hE.below hb_W5).more (Below.size hb_W5)
    replace hW := hW.trans (Below.mono hb_W5 hW.size)
    replace x0 := cellB hb_W5 x0
    replace x1 := cellB hb_W5 x1
    replace hR := hR.below hb_W5 hR.lt
    replace y0 := cellB hb_W5 y0
    replace y1 := cellB hb_W5 y1
    replace hR2 := hR2.below hb_W5 hR2.lt
    have y0r := y0
    rw [e_W5] at y0r
    have y1r := y1
    rw [e_W5] at y1r
    have HE_W5 := Lib.hid e_W5
    clear e_W5
    go_wp2_with fail
    rw [← HE_W5.out] at hx_W5 ⊢
    clear y0r y1r
    clear HE_W5
    obtain ⟨hl_z, z0, z1⟩ := hx_W5
    obtain ⟨Bz, e_Bz⟩ : ∃ Bx, Bx = (World.heap wc).size := ⟨_, rfl⟩
    rw [← e_Bz] at hl_z z0 z1 hb_W5 HS_W5  ⊢
    have hz_Bz := hb_W5.size
    clear e_Bz hb_W5
    refine (sameImage_c (n : Int) n _ _ (casts ms) (casts ms) hl6 W5 (hR.intsGh hlm) (hR2.intsGh hlm)).mono ?_
    rintro e wc ⟨rfl, hb⟩
    replace hI := (hI.below hb).more (Below.size hb)
    replace hE := (hE.below hb).more (Below.size hb)
    replace hW := hW.trans (Below.mono hb hW.size)
    replace x0 := cellB hb x0
    replace x1 := cellB hb x1
    replace hR := hR.below hb hR.lt
    replace y0 := cellB hb y0
    replace y1 := cellB hb y1
    replace hR2 := hR2.below hb hR2.lt
    replace z0 := cellB hb z0
    replace z1 := cellB hb z1
    simp only [decide_true, and_self]
    clear z0 z1 hR2
    obtain ⟨b, off, cx, ee, hbl, hcell⟩ := hE.row (by rw [length_casts, ← HEL.out]; exact hle.1)
    injection ee with e1 e2 e3
    subst e1
    clear e2 e3
    have HCE := Lib.hid (show ∀ q, q < L → wc.cell? ⟨b, off + q, none⟩ = some (.int .i64 ((es.getD q 0 : Nat) : Int)) from fun q hq => by
      have := hcell q (by rw [length_casts, ← HEL.out]; exact hq)
      rwa [casts_getD] at this)
    have HX := Lib.hid (And.intro hI (And.intro hR (And.intro hW (And.intro x0 (And.intro x1 (And.intro y0 (And.intro y1 hlm)))))))
    clear hI hR hW x0 x1 y0 y1 hE hcell hbl hl6 hlm
    go_wp2_with fail
    go_loop [14, 15] (fun s k => ∃ q : Nat, q ≤ L ∧ s = .int .i64 (cntD es q) ∧ k = .int .i64 (q : Int)) (fun _ k => L - (intOf k).toNat)
    case atStart => exact ⟨0, Nat.zero_le _, rfl, rfl⟩
    case round =>
      obtain ⟨q, hq, rfl, rfl⟩ := hrel
      by_cases hql : q < L
      · have hqi : (q : Int) < (L : Int) := by omega
        have hcq := HCE.out q hql
        obtain ⟨hs0, hs1⟩ := cntD_bd es q
        have hst := cntD_step es q
        obtain ⟨x, ex⟩ : ∃ x, x = es.getD q 0 := ⟨_, rfl⟩
        obtain ⟨S, eS⟩ : ∃ S, S = cntD es q := ⟨_, rfl⟩
        rw [← ex] at hcq hst
        rw [← eS] at hst hs0 hs1 ⊢
        have hL4 := hle.2
        clear ex eS
        by_cases hx : x ≤ 2
        · have hxi : (x : Int) ≤ 2 := by omega
          rw [if_pos hx] at hst
          have HST := Lib.hid hst
          clear hst
          go_wp2
          go_round
          case rel => exact ⟨q + 1, by omega, by rw [HST.out], by go_num⟩
          case measure => simp [intOf]; omega
        · have hxi : ¬ (x : Int) ≤ 2 := by omega
          rw [if_neg hx, Int.add_zero] at hst
          have HST := Lib.hid hst
          clear hst
          go_wp2
          go_round
          case rel => exact ⟨q + 1, by omega, by rw [HST.out], by go_num⟩
          case measure => simp [intOf]; omega
      · have hqi : ¬ ((q : Int) < (L : Int)) := by omega
        have hqL : q = L := by omega
        subst hqL
        obtain ⟨d, ed⟩ : ∃ d, d = len1 % 8 := ⟨_, rfl⟩
        have hd8 : d < 8 := by omega
        have ed1 : (len1 : Int) % 8 = (d : Int) := by omega
        have ed2 : (len1 : Int).tmod 8 = (d : Int) := by rw [Int.tmod_eq_emod_of_nonneg (by omega)]; exact ed1
        obtain ⟨hI, hR, hW, x0, x1, y0, y1, hlm⟩ := HX.out
        obtain ⟨hcross, hlines, hV2, hml, hV⟩ := HM.out
        clear ed HX HM HCE
        by_cases h3 : cntD es q = 3
        · have m1 := hcross h3
          have m2 := hlines h3 d hd8
          rw [h3]
          have HP := fun dq os => MomentCross_c (n : Int) _ _ _ ((hI.rg (Nat.le_refl _) dq os).more (rg_size _ dq os))
          have HQ := fun dq os => MomentCross_c (n : Int) _ _ _ (((hR.intsGh (c := cg) hlm).rg (Nat.le_refl _) dq os).more (rg_size _ dq os))
          have HP2 := fun dq os => MomentLines_c (n : Int) _ _ (d : Int) _ ((hI.rg (Nat.le_refl _) dq os).more (rg_size _ dq os)) ((hD.below hW).regrown dq os)
          have HQ2 := fun dq os => MomentLines_c (n : Int) _ _ (d : Int) _ (((hR.intsGh (c := cg) hlm).rg (Nat.le_refl _) dq os).more (rg_size _ dq os)) ((hD.below hW).regrown dq os)
          rw [val0_yes hV] at HP
          rw [val0_yes hV2, m1] at HQ
          rw [moL_yes hV hd8] at HP2
          rw [moL_yes hV2 hd8, m2] at HQ2
          obtain ⟨t, et⟩ : ∃ t, t = mom n ns f_MomentCross_1 := ⟨_, rfl⟩
          obtain ⟨u, eu⟩ : ∃ u, u = mom n ns (sqL d) := ⟨_, rfl⟩
          rw [← et] at HP HQ
          rw [← eu] at HP2 HQ2
          have k0 := cell_regrown x0
          have k1 := cell_regrown x1
          have k2 := cell_regrown y0
          have k3 := cell_regrown y1
          have HW := Lib.hid hW
          clear et eu m1 m2 hcross hlines hV2 hml hV hI hR hlm hW h3
          go_wp2_with fail
          refine wp_region_quiet_below (by kernel_rfl) (by kernel_rfl) ?_
          repeat (first | go_big_quiet_step (first | (go_at_call 16; first | with_reducible exact Calls.rg (HP _ _) | with_reducible exact Calls.rg (HQ _ _)) | (go_at_call 7; first | with_reducible exact Calls.rg (HP2 _ _) | with_reducible exact Calls.rg (HQ2 _ _))) | quiet_step (first | (go_at_call 16; first | with_reducible exact Calls.rg (HP _ _) | with_reducible exact Calls.rg (HQ _ _)) | (go_at_call 7; first | with_reducible exact Calls.rg (HP2 _ _) | with_reducible exact Calls.rg (HQ2 _ _))))
          refine wpQuiet_nil ?_
          intro _ hw0
          obtain ⟨⟨dq, osq⟩, hw1⟩ := hw0
          subst hw1
          have hq := below_regrown wc dq osq
          generalize Go.Sort.grow (redrawn wc dq) osq = w9 at hq ⊢
          clear k0 k1 k2 k3 HP HQ HP2 HQ2
          go_wp2
          go_returns
          exact ⟨rfl, HW.out.trans (hq.mono HW.out.size)⟩
        · have hne : (cntD es q == 3) = false := by simpa using h3
          have hvb := validB_of hV2
          have HVI := ImageValid_c (n : Int) _ _ _ (hR.intsGh (c := cg) hlm)
          rw [hvb] at HVI
          have HW := Lib.hid hW
          obtain ⟨S, eS⟩ : ∃ S, S = cntD es q := ⟨_, rfl⟩
          rw [← eS] at hne h3 ⊢
          clear hcross hlines hV2 hml hV hI hR hlm hW hvb eS
          go_wp2_with fail
          refine HVI.mono ?_
          rintro e wd ⟨rfl, hb⟩
          clear HVI
          go_wp2
          go_returns
          exact ⟨rfl, HW.out.trans (hb.mono HW.out.size)⟩
end Go.Proofs.YtbpjceffkchmbaaDoor
