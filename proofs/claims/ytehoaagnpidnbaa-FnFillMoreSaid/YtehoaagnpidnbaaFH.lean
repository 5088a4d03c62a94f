/- Contracts of l91Sums and l91SumsWrong, draws of row sums and column sums. Conditions: the reader lies in block R. -/
import Derived.Test.YtehoaagnpidnbaaFC
import Derived.Test.YtehoaagnpidnbaaMPS
namespace Go.Proofs.Ytehoaagnpidnbaa
open Go.RowKit
section
variable {w w' : World} {base : Nat} {v : Value} {xs : List Int}
/-- A list of the call's own stays where another block turns. -/
theorem OwnI.grown {row : Option Nat} (h : OwnI w base v xs) (hg : w.grownBy w' row) (hn : ∀ b, v.ownBlock = some b → some b ≠ row) : OwnI w' base v xs := by
  refine ⟨h.1, ?_⟩
  rcases h.2 with h2 | ⟨g, cap, cur, e, hgb, hh, r⟩
  · exact .inl h2
  · have hlt : g < w.heap.size := (Array.getElem?_eq_some_iff.1 hh).1
    exact .inr ⟨g, cap, cur, e, hgb, (hg.block g hlt (hn g (by rw [e]; rfl))).trans hh, r⟩
theorem OwnI.only {R : Nat} (h : OwnI w base v xs) (hg : w.grownBy w' (some R)) (hR : R < base) : OwnI w' base v xs :=
  h.grown hg fun b e he => by injection he with he; have := (h.own_lt b e).1; omega
theorem OwnI.form (h : OwnI w base v xs) (hl : 0 < xs.length) : ∃ g c, v = .slice (some ⟨g, 0, none⟩) xs.length c ∧ base ≤ g ∧ Row w g xs := by
  refine h.row fun e => ?_
  rcases h.2 with ⟨_, e2⟩ | ⟨g, cap, cur, e2, _⟩
  · omega
  · rw [e] at e2; cases e2
/-- A store into the list. -/
theorem OwnI.set {g n c k : Nat} (h : OwnI w base (.slice (some ⟨g, 0, none⟩) n c) xs) (hk : k < xs.length) (z : Int) : OwnI (w.setCell ⟨g, k, none⟩ (.int .i64 z)) base (.slice (some ⟨g, 0, none⟩) n c) (xs.set k z) := by
  refine ⟨by simp, ?_⟩
  rcases h.2 with ⟨e, _⟩ | ⟨g', cap, cur, e, hgb, hh, hnc, hcm, hsz, ht⟩
  · cases e
  · injection e with e1 e2 e3
    injection e1 with e1
    injection e1 with e1
    subst e1 e2 e3
    have hkc : k < cur.size := by have := h.1; rw [hsz]; simp at hnc ⊢; omega
    refine .inr ⟨g, c, cur.set k (.int .i64 z) hkc, by simp, hgb, ?_, by simpa using hnc, hcm, by simpa using hsz, ?_⟩
    · simp only [World.setCell, Array.getElem?_modify, if_true, hh, Option.map_some]
      simp [hkc, Array.setIfInBounds]
    · simp only [List.length_set, Nat.mul_one, Array.toList_set, List.map_set] at ht ⊢
      rw [List.take_set, ht]
end
/-- Two lists of the call's own. -/
structure Two (lo : Nat) (w : World) (u v : Value) (rs cs : List Int) : Prop where
  r : OwnI w lo u rs
  c : OwnI w lo v cs
  ne : ∀ a b, u.ownBlock = some a → v.ownBlock = some b → a ≠ b
def TwoOut (lo l a b : Nat) (w' : World) (e : Ending) : Prop := ∃ (u v : Value) (rs cs : List Int), e = .returned (.tuple #[u, v]) ∧ Two lo w' u v rs cs ∧ (l ≤ rs.length ∧ l ≤ cs.length) ∧ rs.length ≤ a ∧ cs.length ≤ b
/-- The memory of l91Sums behind the sums. -/
structure SM (w W : World) (R K g1 g2 h n c1 c2 : Nat) (rs cs : List Int) : Prop where
  r : OwnI W w.heap.size (.slice (some ⟨g1, 0, none⟩) h c1) rs
  c : OwnI W w.heap.size (.slice (some ⟨g2, 0, none⟩) n c2) cs
  rd : Rd W R K
  on : w.grownBy W (some R)
theorem SM.out {w W : World} {R K g1 g2 h n c1 c2 : Nat} {rs cs : List Int} (hm : SM w W R K g1 g2 h n c1 c2 rs cs) (hg : g1 ≠ g2) (hl : rs.length = h ∧ 1 ≤ h ∧ h ≤ 6) (hl2 : cs.length = n ∧ 1 ≤ n ∧ n ≤ 6) : TwoOut w.heap.size 1 6 6 W (.returned (.tuple #[.slice (some ⟨g1, 0, none⟩) h c1, .slice (some ⟨g2, 0, none⟩) n c2])) ∧ w.grownBy W (some R) ∧ Rd W R K :=
  ⟨⟨_, _, rs, cs, rfl, ⟨hm.r, hm.c, fun a b ha hb => by simp [Value.ownBlock] at ha hb; omega⟩, ⟨by omega, by omega⟩, by omega, by omega⟩, hm.on, hm.rd⟩
theorem SM.step {w W W2 : World} {R K K' g1 g2 h n c1 c2 : Nat} {rs cs : List Int} (hm : SM w W R K g1 g2 h n c1 c2 rs cs) (hR : R < w.heap.size) (hg : W.grownBy W2 (some R)) (hr : Rd W2 R K') : SM w W2 R K' g1 g2 h n c1 c2 rs cs :=
  ⟨hm.r.only hg hR, hm.c.only hg hR, hr, only_trans hm.on hg⟩
theorem SM.setR {w W : World} {R K g1 g2 h n c1 c2 : Nat} {rs cs : List Int} (hm : SM w W R K g1 g2 h n c1 c2 rs cs) (hR : R < w.heap.size) (hg : g1 ≠ g2) {k : Nat} (hk : k < rs.length) (z : Int) : SM w (W.setCell ⟨g1, k, none⟩ (.int .i64 z)) R K g1 g2 h n c1 c2 (rs.set k z) cs := by
  have hl := hm.r.own_lt g1 rfl
  exact ⟨hm.r.set hk z, hm.c.far (by simp [Value.ownBlock]; omega) _, hm.rd.below (B := R + 1) ((Below.refl (R + 1) W).setCell (by simp; omega) _) (by omega), only_setCell hm.on (.inr (by simpa using hl.1)) _⟩
theorem SM.setC {w W : World} {R K g1 g2 h n c1 c2 : Nat} {rs cs : List Int} (hm : SM w W R K g1 g2 h n c1 c2 rs cs) (hR : R < w.heap.size) (hg : g1 ≠ g2) {k : Nat} (hk : k < cs.length) (z : Int) : SM w (W.setCell ⟨g2, k, none⟩ (.int .i64 z)) R K g1 g2 h n c1 c2 rs (cs.set k z) := by
  have hl := hm.c.own_lt g2 rfl
  exact ⟨hm.r.far (by simp [Value.ownBlock]; omega) _, hm.c.set hk z, hm.rd.below (B := R + 1) ((Below.refl (R + 1) W).setCell (by simp; omega) _) (by omega), only_setCell hm.on (.inr (by simpa using hl.1)) _⟩
theorem SM.cr {w W : World} {R K g1 g2 h n c1 c2 : Nat} {rs cs : List Int} (hm : SM w W R K g1 g2 h n c1 c2 rs cs) {k : Nat} (hk : k < rs.length) : W.cell? ⟨g1, k, none⟩ = some (.int .i64 (rs.getD k 0)) ∧ W.frozen? ⟨g1, k, none⟩ = false := by
  obtain ⟨g, c, e, _, hr⟩ := hm.r.form (by omega)
  injection e with e1
  injection e1 with e1
  injection e1 with e1
  subst e1
  exact ⟨hr.cell hk, hr.frozen k⟩
theorem SM.cc {w W : World} {R K g1 g2 h n c1 c2 : Nat} {rs cs : List Int} (hm : SM w W R K g1 g2 h n c1 c2 rs cs) {k : Nat} (hk : k < cs.length) : W.cell? ⟨g2, k, none⟩ = some (.int .i64 (cs.getD k 0)) ∧ W.frozen? ⟨g2, k, none⟩ = false := by
  obtain ⟨g, c, e, _, hr⟩ := hm.c.form (by omega)
  injection e with e1
  injection e1 with e1
  injection e1 with e1
  subst e1
  exact ⟨hr.cell hk, hr.frozen k⟩
set_option maxRecDepth 100000 in
set_option maxHeartbeats 4000000 in
theorem l91Sums_c (R K cells : Nat) (hcl : 1 ≤ cells) (hc6 : cells ≤ 1000) (hK : K ≤ 600000) (w : World) (hR : Rd w R K) :
    Calls Try.prog 71 #[.pointer (some ⟨R, 0, none⟩), .int .i64 cells] w fun e w' => TwoOut w.heap.size 1 6 6 w' e ∧ w.grownBy w' (some R) ∧ Rd w' R (K + 13) := by
  have hlt := hR.1
  go_enter Try.func71, Try.ntmps71
  go_wp2_with fail
  refine (l91Image_c R K cells hcl hc6 (by omega) w hR).mono ?_
  rintro e wc ⟨⟨g, c, n, ns, rfl, hV, hr, hg⟩, hrd, hon⟩
  have h1 := hV.h1
  have h6 := hV.h6
  have w1 := hV.w1
  have w6 := hV.w6
  have hsz := hon.size
  have hl1 := rowSums_len n ns
  have hl2 := colSums_len n ns
  have hbn : ∀ k, k < n → 0 ≤ (colSums n ns).getD k 0 ∧ (colSums n ns).getD k 0 ≤ 6 := fun k hk => by
    rw [colSums_at hk]
    have := sumN_b2i_bd ns.length fun i => cell ns i k
    unfold colSum
    omega
  obtain ⟨W1, e_W1⟩ : ∃ W0, W0 = World.alloc wc (.cells #[.int .i64 (n : Int), .slice (some ⟨g, 0, none⟩) ns.length c] 24) := ⟨_, rfl⟩
  have hx_W1 := Box2.new wc (.int .i64 (n : Int)) (.slice (some ⟨g, 0, none⟩) ns.length c) 24
  have hb_W1 : Below (World.heap wc).size wc W1 := by rw [e_W1]; go_grown
  have HS_W1 := Lib.hid (show (World.heap W1).size = (World.heap wc).size + 1 by rw [e_W1]; simp)
  replace hr := hr.below hb_W1 hr.lt
  replace hrd := hrd.below hb_W1 hrd.1
  replace hon := only_trans hon (only_of_below hb_W1 _)
  have HE_W1 := Lib.hid e_W1
  clear e_W1
  go_wp2_with fail
  rw [← HE_W1.out] at hx_W1 ⊢
  clear HE_W1
  obtain ⟨hl_x, x0, x1⟩ := hx_W1
  obtain ⟨Bx, e_Bx⟩ : ∃ Bx, Bx = (World.heap wc).size := ⟨_, rfl⟩
  rw [← e_Bx] at hl_x x0 x1 hb_W1 HS_W1  ⊢
  have hz_Bx := hb_W1.size
  clear e_Bx hb_W1
  refine (sRowSums_yes n _ ns hV _ (hr.intsH (c := c) rfl)).mono ?_
  rintro e wc ⟨v1, rfl, ho1, hb⟩
  obtain ⟨g1, c1, rfl, hg1, hr1⟩ := ho1.form (by rw [hl1]; omega)
  rw [hl1] at ho1 ⊢
  have hg1l := hr1.lt
  clear hr1
  have hw1 : w.heap.size ≤ W1.heap.size := by omega
  replace ho1 := ho1.more hw1
  replace hr := hr.below hb hr.lt
  replace hrd := hrd.below hb hrd.1
  replace hon := only_trans hon (only_of_below hb _)
  replace x0 := cellB hb x0
  replace x1 := cellB hb x1
  go_wp2_with fail
  refine (sColSums_yes n _ ns hV _ (hr.intsH (c := c) rfl)).mono ?_
  rintro e w2 ⟨v2, rfl, ho2, hb⟩
  obtain ⟨g2, c2, rfl, hg2, hr2⟩ := ho2.form (by rw [hl2]; omega)
  rw [hl2] at ho2 ⊢
  clear hr2
  have hne : g1 ≠ g2 := by omega
  have hw2 : w.heap.size ≤ wc.heap.size := by have := hon.size; omega
  replace ho2 := ho2.more hw2
  replace hr := hr.below hb hr.lt
  replace hrd := hrd.below hb hrd.1
  replace hon := only_trans hon (only_of_below hb _)
  replace x0 := cellB hb x0
  replace x1 := cellB hb x1
  replace ho1 := ho1.below hb (Nat.le_refl _)
  have hm : SM w w2 R (K + 10) g1 g2 ns.length n c1 c2 (rowSums n ns) (colSums n ns) := ⟨ho1, ho2, hrd, hon⟩
  clear ho1 ho2 hrd hon hr x0 x1 hg1 hg2 hg1l hb
  obtain ⟨rs, ers⟩ : ∃ rs, rs = rowSums n ns := ⟨_, rfl⟩
  obtain ⟨cs, ecs⟩ : ∃ cs, cs = colSums n ns := ⟨_, rfl⟩
  rw [← ers] at hm hl1
  rw [← ecs] at hm hl2 hbn
  have HL1 := Lib.hid hl1
  have HL2 := Lib.hid hl2
  have HBN := Lib.hid hbn
  clear ers ecs hl1 hl2 hbn
  go_wp2_with fail
  refine (pick_c R (K + 10) 8 (by omega) (by omega) (by omega) _ hm.rd).mono ?_
  rintro e w3 ⟨⟨x, rfl, hx⟩, hrd, hg⟩
  replace hm := hm.step hlt hg hrd
  clear hrd hg
  by_cases e0 : x = 0
  · subst e0
    go_wp2_with fail
    refine (pick_c R (K + 10 + 1) ns.length (by omega) (by omega) (by omega) _ hm.rd).mono ?_
    rintro e w4 ⟨⟨k, rfl, hk⟩, hrd, hg⟩
    replace hm := hm.step hlt hg hrd
    clear hrd hg
    have HP := pick_c R (K + 10 + 1 + 1) (n + 1) (by omega) (by omega) (by omega) _ hm.rd
    rw [show ((n + 1 : Nat) : Int) = (n : Int) + 1 from rfl] at HP
    have ew : IntKind.i64.wrap ((n : Int) + 1) = (n : Int) + 1 := IntWalk.i64_in _ ⟨by omega, by omega⟩
    clear ew
    go_wp2_with fail
    refine HP.mono ?_
    rintro e w5 ⟨⟨z, rfl, hz⟩, hrd, hg⟩
    replace hm := hm.step hlt hg hrd
    clear hrd hg HP
    obtain ⟨q0, q1⟩ := hm.cr (k := k) (by rw [HL1.out]; exact hk)
    have hm2 := hm.setR hlt hne (k := k) (by rw [HL1.out]; exact hk) z
    have HM := Lib.hid (hm2.out hne ⟨by simp [HL1.out], h1, h6⟩ ⟨HL2.out, w1, w6⟩)
    obtain ⟨y, ey⟩ : ∃ y, y = rs.getD k 0 := ⟨_, rfl⟩
    rw [← ey] at q0
    clear hm hm2 ey
    go_wp2
    refine bodyPost_ret (v := .tuple #[.slice (some ⟨g1, 0, none⟩) ns.length c1, .slice (some ⟨g2, 0, none⟩) n c2]) (by simp [results, Try.results71, go_sem]) rfl ?_
    exact ⟨HM.out.1, HM.out.2.1, HM.out.2.2⟩
  · by_cases e1 : x = 1
    · subst e1
      go_wp2_with fail
      refine (pick_c R (K + 10 + 1) n (by omega) (by omega) (by omega) _ hm.rd).mono ?_
      rintro e w4 ⟨⟨k, rfl, hk⟩, hrd, hg⟩
      replace hm := hm.step hlt hg hrd
      clear hrd hg
      go_wp2_with fail
      refine (pick_c R (K + 10 + 1 + 1) n (by omega) (by omega) (by omega) _ hm.rd).mono ?_
      rintro e w5 ⟨⟨l, rfl, hl⟩, hrd, hg⟩
      replace hm := hm.step hlt hg hrd
      clear hrd hg
      obtain ⟨q0, q1⟩ := hm.cc (k := k) (by rw [HL2.out]; exact hk)
      have hy := HBN.out k hk
      obtain ⟨y, ey⟩ : ∃ y, y = cs.getD k 0 := ⟨_, rfl⟩
      rw [← ey] at q0 hy
      have hm2 := hm.setC hlt hne (k := k) (by rw [HL2.out]; exact hk) (y + 1)
      have hl3 : l < (cs.set k (y + 1)).length := by rw [List.length_set, HL2.out]; exact hl
      obtain ⟨p0, p1⟩ := hm2.cc hl3
      have hp : 0 ≤ (cs.set k (y + 1)).getD l 0 ∧ (cs.set k (y + 1)).getD l 0 ≤ 7 := by
        rw [List.getD_eq_getElem?_getD, List.getElem?_set]
        split
        · rw [if_pos (by rw [HL2.out]; exact hk)]
          simp only [Option.getD_some]
          omega
        · have := HBN.out l hl
          rw [List.getD_eq_getElem?_getD] at this
          omega
      obtain ⟨p, ep⟩ : ∃ p, p = (cs.set k (y + 1)).getD l 0 := ⟨_, rfl⟩
      rw [← ep] at p0 hp
      have hm3 := hm2.setC hlt hne (k := l) hl3 (p - 1)
      have HM := Lib.hid (hm3.out hne ⟨HL1.out, h1, h6⟩ ⟨by simp [HL2.out], w1, w6⟩)
      clear hm hm2 hm3 ey ep hl3
      go_wp2
      refine bodyPost_ret (v := .tuple #[.slice (some ⟨g1, 0, none⟩) ns.length c1, .slice (some ⟨g2, 0, none⟩) n c2]) (by simp [results, Try.results71, go_sem]) rfl ?_
      exact ⟨HM.out.1, HM.out.2.1, HM.out.2.2⟩
    · by_cases e2 : x = 2
      · subst e2
        go_wp2_with fail
        refine (pick_c R (K + 10 + 1) 2 (by omega) (by omega) (by omega) _ hm.rd).mono ?_
        rintro e w4 ⟨⟨z, rfl, hz⟩, hrd, hg⟩
        replace hm := hm.step hlt hg hrd
        clear hrd hg
        obtain ⟨q0, q1⟩ := hm.cc (k := 0) (by rw [HL2.out]; omega)
        have hm2 := hm.setC hlt hne (k := 0) (by rw [HL2.out]; omega) ((ns.length : Int) + z)
        have HM := Lib.hid (hm2.out hne ⟨HL1.out, h1, h6⟩ ⟨by simp [HL2.out], w1, w6⟩)
        obtain ⟨y, ey⟩ : ∃ y, y = cs.getD 0 0 := ⟨_, rfl⟩
        rw [← ey] at q0
        clear hm hm2 ey
        go_wp2
        refine bodyPost_ret (v := .tuple #[.slice (some ⟨g1, 0, none⟩) ns.length c1, .slice (some ⟨g2, 0, none⟩) n c2]) (by simp [results, Try.results71, go_sem]) rfl ?_
        exact ⟨HM.out.1, HM.out.2.1, HM.out.2.2.more (by omega)⟩
      · have f0 : ((x : Int) == 0) = false := by simp; omega
        have f1 : ((x : Int) == 1) = false := by simp; omega
        have f2 : ((x : Int) == 2) = false := by simp; omega
        have HM := Lib.hid (hm.out hne ⟨HL1.out, h1, h6⟩ ⟨HL2.out, w1, w6⟩)
        clear hm
        go_wp2
        refine bodyPost_ret (v := .tuple #[.slice (some ⟨g1, 0, none⟩) ns.length c1, .slice (some ⟨g2, 0, none⟩) n c2]) (by simp [results, Try.results71, go_sem]) rfl ?_
        exact ⟨HM.out.1, HM.out.2.1, HM.out.2.2.more (by omega)⟩
end Go.Proofs.Ytehoaagnpidnbaa
