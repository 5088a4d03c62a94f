/- Contract of improve: one more cell, or none. Conditions: a valid image in a block of its own; as many sums as rows and columns, which lie in older blocks. -/
import Derived.Test.YtehoaagnpidnbaaFI2
import Derived.Test.YtehoaagnpidnbaaFPD
import Derived.Test.YtehoaagnpidnbaaQU
import Derived.Test.YtehoaagnpidnbaaFR
import Derived.Test.YtehoaagnpidnbaaKY
import Derived.Test.YtehoaagnpidnbaaFC
namespace Go.Proofs.Ytehoaagnpidnbaa
open Go.RowKit
/-- What improve answers. -/
def ImpPost (n g : Nat) (ns : List Nat) (rs cs : List Int) (w : World) (e : Ending) (w' : World) : Prop :=
  (∃ par, srchI n ns rs cs = (par, none) ∧ e = .returned (.bool false) ∧ Row w' g (casts ns) ∧ w.grownBy w' (some g)) ∨
  (∃ par q, srchI n ns rs cs = (par, some q) ∧ e = .returned (.bool true) ∧ Row w' g (casts (back par ns.length (ns.length + n + 1) q ns)) ∧ w.grownBy w' (some g))
/-- The numbers that a block holds. -/
def parOf (g m : Nat) (w : World) : List Int := (List.range m).map fun q => intOf ((w.cell? ⟨g, q, none⟩).getD undef)
theorem parOf_row {g : Nat} {w : World} {xs : List Int} (h : Row w g xs) : parOf g xs.length w = xs := by
  apply List.ext_getElem
  · simp [parOf]
  · intro j h1 h2
    simp only [parOf, List.getElem_map, List.getElem_range]
    rw [h.cell h2, List.getD_eq_getElem?_getD, List.getElem?_eq_getElem h2]
    rfl
/-- How many places are known. -/
def visN (par : List Int) (m : Nat) : Nat := ((List.range m).filter fun q => decide (0 ≤ par.getD q 0)).length
theorem SInv.vis {A : Nat → Nat → Bool} {G R : Nat → Bool} {many at_ k : Nat} {par : List Int} {work : List Nat} (h : SInv A G R many at_ k par work) : visN par many = work.length := by
  refine List.Perm.length_eq ((List.perm_ext_iff_of_nodup (List.nodup_range.filter _) h.nodup).2 fun q => ?_)
  rw [List.mem_filter, List.mem_range, decide_eq_true_eq]
  exact ⟨fun ⟨h1, h2⟩ => (h.mem q h1).1 h2, fun hq => ⟨h.lt q hq, (h.mem q (h.lt q hq)).2 hq⟩⟩
/-- The length of a slice value. -/
def lenV : Value → Nat
  | .slice _ n _ => n
  | _ => 0
/-- The rounds that are left: places that are not known, and those of the queue. -/
def impM (g m : Nat) (v : Value) (w : World) : Nat := m + lenV v - visN (parOf g m w) m
theorem impM_at {A : Nat → Nat → Bool} {G R : Nat → Bool} {many at_ k g : Nat} {par : List Int} {work : List Nat} (h : SInv A G R many at_ k par work) {w : World} (hr : Row w g par) (a : Option Addr) (c : Nat) : impM g many (.slice a (work.drop at_).length c) w = many - at_ := by
  unfold impM lenV
  have e := parOf_row hr
  rw [h.len] at e
  rw [e, h.vis, List.length_drop]
  have := h.atle
  have := h.wlen
  dsimp only
  omega
theorem Below.appQ {B : Nat} {a w w' : World} {base : Nat} {v : Value} {xs : List Int} (h : Below B a w) (hown : OwnQ w base v xs) (hg : w.grownBy w' v.ownBlock) (hB : B ≤ base) (hs : B ≤ w.heap.size) : Below B a w' :=
  h.grown hg hs fun k e => Nat.le_trans hB (hown.own_lt k e).1
theorem Row.appQ {g : Nat} {w w' : World} {base : Nat} {v : Value} {xs ys : List Int} (h : Row w g ys) (hown : OwnQ w base v xs) (hg : w.grownBy w' v.ownBlock) (hB : g < base) : Row w' g ys :=
  h.grown hg fun e => by have := (hown.own_lt g e.symm).1; omega
theorem OwnQ.lens {w : World} {base : Nat} {a : Option Addr} {l c : Nat} {xs : List Int} (h : OwnQ w base (.slice a l c) xs) : l = xs.length := by
  obtain ⟨A, cap, e⟩ := h.form
  injection e
/-- The queue without its first number. -/
theorem OwnQ.tail {w : World} {base g off n cap : Nat} {x : Int} {xs : List Int} (h : OwnQ w base (.slice (some ⟨g, off, none⟩) n cap) (x :: xs)) : OwnQ w base (.slice (if cap = 1 then some ⟨g, off, none⟩ else some ⟨g, off + 1, none⟩) xs.length (cap - 1)) xs ∧ n ≤ cap := by
  rcases h with ⟨_, e⟩ | ⟨g', off', cap', cur, e, hg, hh, h1, h2, h3, h4⟩
  · cases e
  · injection e with e1 e2 e3
    injection e1 with e1
    injection e1 with e4 e5
    subst e3 e4 e5
    simp only [List.length_cons] at e2 h1
    refine ⟨?_, by omega⟩
    by_cases hc : cap = 1
    · have : xs = [] := List.eq_nil_of_length_eq_zero (by omega)
      subst this
      rw [if_pos hc]
      exact .inr ⟨g, off, cap - 1, cur, rfl, hg, hh, by simp, by omega, by omega, fun k hk => by simp at hk⟩
    · rw [if_neg hc]
      refine .inr ⟨g, off + 1, cap - 1, cur, rfl, hg, hh, by omega, by omega, by omega, fun k hk => ?_⟩
      have := h4 (k + 1) (by simpa using hk)
      rw [List.getD_cons_succ] at this
      rw [show off + 1 + k = off + (k + 1) by omega]
      exact this
set_option maxRecDepth 100000 in
set_option maxHeartbeats 8000000 in
theorem improve_c (n g cap B0 : Nat) (u v : Value) (ns : List Nat) (hV : VImg n ns) (rs cs : List Int) (hrl : rs.length = ns.length) (hcl : cs.length = n) (w : World) (hR : Row w g (casts ns)) (hu : Arg B0 w u rs) (hv : Arg B0 w v cs) (hBg : B0 ≤ g) :
    Calls Try.prog 31 #[.agg #[.int .i64 (n : Int), .slice (some ⟨g, 0, none⟩) ns.length cap], u, v] w (ImpPost n g ns rs cs w) := by
  obtain ⟨ub, uo, uc, e, hub, hcu⟩ := hu.at_.row (by rw [hrl]; exact hV.h1)
  subst e
  obtain ⟨vb, vo, vc, e, hvb, hcv⟩ := hv.at_.row (by rw [hcl]; exact hV.w1)
  subst e
  rw [hrl] at hcu ⊢
  rw [hcl] at hcv ⊢
  have h1 := hV.h1
  have h6 := hV.h6
  have w1 := hV.w1
  have w6 := hV.w6
  have hW := Below.refl w.heap.size w
  have hlg := hR.lt
  have HC := Lib.hid (And.intro hcu (And.intro hcv (And.intro hrl hcl)))
  clear hcu hcv hu hv hrl hcl
  go_enter Try.func31, Try.ntmps31
  obtain ⟨W0, e_W0⟩ : ∃ W0, W0 = World.alloc w (.cells #[.int .i64 (n : Int), .slice (some ⟨g, 0, none⟩) ns.length cap] 24) := ⟨_, rfl⟩
  have hx_W0 := Box2.new w (.int .i64 (n : Int)) (.slice (some ⟨g, 0, none⟩) ns.length cap) 24
  have hb_W0 : Below (World.heap w).size w W0 := by rw [e_W0]; go_grown
  have HS_W0 := Lib.hid (show (World.heap W0).size = (World.heap w).size + 1 by rw [e_W0]; simp)
  replace hR := hR.below hb_W0 hR.lt
  replace hW := hW.trans (Below.mono hb_W0 hW.size)
  have HE_W0 := Lib.hid e_W0
  clear e_W0
  go_wp2_with fail
  rw [← HE_W0.out] at hx_W0 ⊢
  clear HE_W0
  obtain ⟨hl_x, x0, x1⟩ := hx_W0
  obtain ⟨Bx, e_Bx⟩ : ∃ Bx, Bx = (World.heap w).size := ⟨_, rfl⟩
  rw [← e_Bx] at hl_x x0 x1 hb_W0 HS_W0  ⊢
  have hz_Bx := hb_W0.size
  clear e_Bx hb_W0
  have hI : Ints W0.heap.size W0.drew (.slice (some ⟨g, 0, none⟩) ns.length cap) (casts ns) := (hR.intsH rfl).drew
  have HR := RowSums_c n _ ns hV W0.drew hI
  have hBB := HS_W0
  go_region_held3 (fun w' : World => w'.cell? ⟨Bx, 0, none⟩ = some (.int .i64 (n : Int)) ∧ w'.cell? ⟨Bx, 1, none⟩ = some (.slice (some ⟨g, 0, none⟩) ns.length cap)) (first | exact ⟨x0, x1⟩ | (refine ⟨?_, ?_⟩ <;> assumption) | go_keep) (first | (go_at_call 40; (with_reducible refine HR.mono ?_); rintro e wp ⟨gr, rfl, hgr, hrp, hbp'⟩; have hbp := Below.undrew hbp'; have p0 := cellB hbp x0; have p1 := cellB hbp x1; have hRp := hR.below hbp hR.lt; have hIp := hRp.intsH (c := cap) rfl; clear hbp') | (go_at_call 41; (refine (ColSums_c n _ ns hV wp hIp).mono ?_); rintro e wq ⟨gc, rfl, hgc, hcq, hbq⟩; have q0 := cellB hbq p0; have q1 := cellB hbq p1; have hrq := hrp.below hbq hrp.lt; have hRq := hRp.below hbq hRp.lt))
  have hWq := (hW.trans (hbp.mono hW.size)).trans (hbq.mono (hW.trans (hbp.mono hW.size)).size)
  clear HR hI x0 x1 p0 p1 hRp hIp hrp hbp hbq hR hgr hgc hW
  have HRp := fun b c V hx => Repeat_c (ns.length + n) (by omega) (by omega) b c V hx
  simp only [Int.natCast_add] at HRp
  have hone : (wq.alloc (.cells #[.int .i64 (-1)] 3)).cell? ⟨wq.heap.size, 0, none⟩ = some (.int .i64 (-1)) := by go_cell
  have hba : Below wq.heap.size wq (wq.alloc (.cells #[.int .i64 (-1)] 3)) := by go_grown
  have q0a := cellB hba q0
  have ewh : IntKind.i64.wrap ((ns.length : Int) + (n : Int)) = (ns.length : Int) + (n : Int) := IntWalk.i64_in _ ⟨by omega, by omega⟩
  go_wp2_with fail
  clear q0a ewh
  refine (HRp _ _ _ hone).mono ?_
  rintro e wc ⟨gp, rfl, hgp, hP, hb⟩
  rw [← parI_zero n ns rs] at hP
  have hbq2 := hba.trans (hb.mono hba.size)
  have hgp2 : wq.heap.size < gp := by have := hba.size; simp at hgp; omega
  have hgl := hP.lt
  have hsW := hWq.size
  have hBq : Bx < wq.heap.size := lt_of_cell q0
  have HCQ := Lib.hid (show (∀ k, k < ns.length → wq.cell? ⟨ub, uo + k, none⟩ = some (.int .i64 (rs.getD k 0))) ∧ (∀ k, k < n → wq.cell? ⟨vb, vo + k, none⟩ = some (.int .i64 (cs.getD k 0))) from ⟨fun k hk => cellB hWq (HC.out.1 k hk), fun k hk => cellB hWq (HC.out.2.1 k hk)⟩)
  have HQ := Lib.hid (And.intro q0 (And.intro q1 (And.intro hRq (And.intro hrq (And.intro hcq hWq)))))
  obtain ⟨Z, eZ⟩ : ∃ Z, Z = srchI n ns rs cs := ⟨_, rfl⟩
  have HZ := Lib.hid eZ
  obtain ⟨Bq, eBq⟩ : ∃ B, B = wc.heap.size := ⟨_, rfl⟩
  have hQ0 : OwnQ wc Bq (.slice none 0 0) (casts (workI n ns rs 0)) := OwnQ.nil _ _
  have hsz0 : Bq ≤ wc.heap.size := by omega
  have hgpB : gp < Bq := by omega
  have hrsl := rowSums_len n ns
  have HL := Lib.hid (And.intro hrsl (colSums_len n ns))
  clear HRp hone hba hb hgp hgl hsW eZ eBq q0 q1 hRq hrq hcq hWq hrsl
  go_wp2_with fail
  go_loopw [30, 11] (fun i s wr => ∃ k : Nat, k ≤ ns.length ∧ i = .int .i64 (k : Int) ∧ Row wr gp (parI n ns rs (ns.length + n) k) ∧ OwnQ wr Bq s (casts (workI n ns rs k)) ∧ Below wq.heap.size wq wr ∧ Bq ≤ wr.heap.size) (fun i _ _ => ns.length - (intOf i).toNat)
  case atStart => exact ⟨0, Nat.zero_le _, rfl, hP, hQ0, hbq2, hsz0⟩
  case round =>
    clear hP hQ0 hbq2 hsz0
    obtain ⟨k, hk, rfl, hP, hQ, hbb, hsz⟩ := hrel
    by_cases hkl : k < ns.length
    · have hki : (k : Int) < (ns.length : Int) := by omega
      have hrk := (HQ.out.2.2.2.1.below hbb HQ.out.2.2.2.1.lt).cell (k := k) (by rw [HL.out.1]; exact hkl)
      have hck := cellB hbb (HCQ.out.1 k hkl)
      have hrv := rootB_val (rs := rs) (n := n) hkl
      obtain ⟨x, ex⟩ : ∃ x, x = (rowSums n ns).getD k 0 := ⟨_, rfl⟩
      obtain ⟨y, ey⟩ : ∃ y, y = rs.getD k 0 := ⟨_, rfl⟩
      rw [← ex] at hrk hrv
      rw [← ey] at hck hrv
      obtain ⟨l, el⟩ : ∃ l, l = (workI n ns rs k).length := ⟨_, rfl⟩
      have hll : l ≤ k := by rw [el]; exact workI_len n ns rs k
      obtain ⟨qa, qc, rfl⟩ := hQ.form
      rw [length_casts, ← el] at hQ ⊢
      clear ex ey el
      by_cases hxy : x < y
      · have hroot : rootB n ns rs k = true := by rw [hrv, decide_eq_true hxy]
        have hps := parI_yes (n := n) (ns := ns) (rs := rs) (m := ns.length + n) (by omega : k < ns.length + n) hroot
        have hws := workI_yes (n := n) (ns := ns) (rs := rs) hroot
        have hcp := hP.cell (k := k) (by rw [parI_len]; omega)
        have hfz := hP.frozen k
        have hP1 := hP.set (k := k) (by rw [parI_len]; omega) (k : Int)
        rw [hps] at hP1
        have hQ1 := hQ.far (p := ⟨gp, k, none⟩) (fun e => by have := (hQ.own_lt gp e).1; omega) (.int .i64 (k : Int))
        have hb1 : Below wq.heap.size wq (wr.setCell ⟨gp, k, none⟩ (.int .i64 (k : Int))) := hbb.setCell (by simp; omega) _
        have hb2 : Below wq.heap.size wq ((wr.setCell ⟨gp, k, none⟩ (.int .i64 (k : Int))).alloc (.cells #[.int .i64 (k : Int)] 3)) := hb1.alloc hb1.size _
        have hs2 : Bq ≤ ((wr.setCell ⟨gp, k, none⟩ (.int .i64 (k : Int))).alloc (.cells #[.int .i64 (k : Int)] 3)).heap.size := by simp [World.setCell]; omega
        have hone : ((wr.setCell ⟨gp, k, none⟩ (.int .i64 (k : Int))).alloc (.cells #[.int .i64 (k : Int)] 3)).cell? ⟨wr.heap.size, 0, none⟩ = some (.int .i64 (k : Int)) := by go_cell
        have hlen : (casts (workI n ns rs k)).length + 1 ≤ 16777216 := by rw [length_casts]; have := workI_len n ns rs k; omega
        rw [hroot] at hrv
        have HH := Lib.hid (And.intro (hQ1.alloc (.cells #[.int .i64 (k : Int)] 3)) (And.intro hone (And.intro hlen (And.intro hs2 (And.intro hb2 (And.intro (hP1.alloc (.cells #[.int .i64 (k : Int)] 3)) (And.intro hws hgpB)))))))
        clear hQ hQ1 hP hP1 hb1 hb2 hs2 hone hlen hps hws hroot hrv
        go_wp2_with (at_builtin; go_loud (refine wpList_appQ (v := .slice qa l qc) rfl (.tmp 45) (.tmp 47) rfl rfl HH.out.1 rfl HH.out.2.1 HH.out.2.2.1 HH.out.2.2.2.1 ?_); intro v6 w6 hown6 hgr6 hat6)
        obtain ⟨hQ2, hone, hlen, hs2, hb2, hP2, hws, _⟩ := HH.out
        rw [← casts_snoc, ← hws] at hown6
        exact ⟨⟨k + 1, by omega, by go_num, hP2.appQ hQ2 hgr6 hgpB, hown6, Below.appQ hb2 hQ2 hgr6 (by omega) hb2.size, Nat.le_trans hs2 hgr6.size⟩, by simp [intOf]; omega⟩
      · have hroot : rootB n ns rs k = false := by rw [hrv, decide_eq_false hxy]
        have hps := parI_no (n := n) (ns := ns) (rs := rs) (m := ns.length + n) hroot
        have hws := workI_no (n := n) (ns := ns) (rs := rs) hroot
        rw [← hps] at hP
        rw [← hws] at hQ
        have HF := Lib.hid (And.intro hP (And.intro hQ (And.intro hbb hsz)))
        clear hP hQ hbb hsz hps hws hrv hroot
        go_wp2
        go_roundw
        case rel => exact ⟨k + 1, by omega, by go_num, HF.out⟩
        case measure => simp [intOf]; omega
    · obtain rfl : k = ns.length := by omega
      rw [parI_end] at hP
      rw [workI_end] at hQ
      have hS := sinv0 n ns rs cs
      have hZs : srch (arrB ns ns.length) (goalB n ns cs) (ns.length + n) (fuelS (ns.length + n) 0 0) 0 0 (par0 n ns rs) (work0 n ns rs) = Z := HZ.out.symm
      obtain ⟨qa, qc, rfl⟩ := hQ.form
      rw [length_casts] at hQ ⊢
      have HF := Lib.hid (And.intro hP (And.intro hS (And.intro hZs (And.intro hQ (And.intro hbb hsz)))))
      clear hP hQ hbb hsz hS hZs
      go_wp2_with fail
      go_loopw [11] (fun s wr => ∃ (at_ : Nat) (par : List Int) (work : List Nat) (qa : Option Addr) (qc : Nat), s = .slice qa (work.drop at_).length qc ∧ OwnQ wr Bq (.slice qa (work.drop at_).length qc) (casts (work.drop at_)) ∧ Row wr gp par ∧ SInv (arrB ns ns.length) (goalB n ns cs) (rootB n ns rs) (ns.length + n) at_ 0 par work ∧ srch (arrB ns ns.length) (goalB n ns cs) (ns.length + n) (fuelS (ns.length + n) at_ 0) at_ 0 par work = Z ∧ Below wq.heap.size wq wr ∧ Bq ≤ wr.heap.size) (fun s wr => impM gp (ns.length + n) s wr)
      case atStart =>
        obtain ⟨hP, hS, hZs, hQ, hbb, hsz⟩ := HF.out
        exact ⟨0, par0 n ns rs, work0 n ns rs, qa, qc, rfl, hQ, hP, hS, hZs, hbb, hsz⟩
      case round =>
        clear HF
        obtain ⟨at_, par, work, qa, qc, rfl, hQ, hP, hS, hZs, hbb, hsz⟩ := hrel
        have hM := impM_at hS hP qa qc
        by_cases ha : at_ < work.length
        · obtain ⟨p, ep⟩ : ∃ p, p = work.getD at_ 0 := ⟨_, rfl⟩
          have hlp : p < ns.length + n := by rw [ep]; exact hS.lt _ (getD_memB ha)
          have hdc := drop_cons ha
          rw [← ep] at hdc
          have hQ' := hQ
          rw [hdc, show casts (p :: work.drop (at_ + 1)) = (p : Int) :: casts (work.drop (at_ + 1)) from rfl] at hQ'
          obtain ⟨gq, oq, rfl, en, hc1, hhead, _⟩ := OwnQ.head hQ'
          obtain ⟨L, eL⟩ : ∃ L, L = (List.drop at_ work).length := ⟨_, rfl⟩
          have hL0 : 0 < L := by rw [eL, List.length_drop]; omega
          have hL1 : L ≤ 100 := by have := hS.wlen; rw [eL, List.length_drop]; omega
          have hLi : (0 : Int) < (L : Int) := by omega
          have HM := Lib.hid (And.intro hM (And.intro eL (And.intro ep ha)))
          have HF := Lib.hid (And.intro hQ (And.intro hP (And.intro hS (And.intro hZs (And.intro hbb hsz)))))
          rw [← eL]
          clear hQ hQ' hP hS hZs hbb hsz hM hdc en eL ep
          go_wp2_with fail
          go_loopw [60, 11] (fun i s wr => ∃ (k : Nat) (pr : List Int) (wk : List Nat) (ra : Option Addr) (rc : Nat), k ≤ ns.length + n ∧ i = .int .i64 (k : Int) ∧ s = .slice ra (wk.drop at_).length rc ∧ OwnQ wr Bq (.slice ra (wk.drop at_).length rc) (casts (wk.drop at_)) ∧ Row wr gp pr ∧ SInv (arrB ns ns.length) (goalB n ns cs) (rootB n ns rs) (ns.length + n) at_ k pr wk ∧ srch (arrB ns ns.length) (goalB n ns cs) (ns.length + n) (fuelS (ns.length + n) at_ k) at_ k pr wk = Z ∧ at_ < wk.length ∧ wk.getD at_ 0 = p ∧ Below wq.heap.size wq wr ∧ Bq ≤ wr.heap.size) (fun i _ _ => ns.length + n - (intOf i).toNat)
          case atStart =>
            obtain ⟨hQ, hP, hS, hZs, hbb, hsz⟩ := HF.out
            exact ⟨0, par, work, _, qc, Nat.zero_le _, rfl, by rw [HM.out.2.1], hQ, hP, hS, hZs, HM.out.2.2.2, HM.out.2.2.1.symm, hbb, hsz⟩
          case round =>
            clear HF hhead
            obtain ⟨k, pr, wk, ra, rc, hk, rfl, rfl, hQ, hP, hS, hZs, hak, hpk, hbb, hsz⟩ := hrel
            by_cases hkl : k < ns.length + n
            · have hki : (k : Int) < (ns.length : Int) + (n : Int) := by omega
              have hcp := hP.cell (k := k) (by rw [hS.len]; exact hkl)
              have hfz := hP.frozen k
              have q0 := cellB hbb HQ.out.1
              have q1 := cellB hbb HQ.out.2.1
              have hRr := HQ.out.2.2.1.below hbb HQ.out.2.2.1.lt
              obtain ⟨z, ez⟩ : ∃ z, z = pr.getD k 0 := ⟨_, rfl⟩
              rw [← ez] at hcp
              by_cases hz : 0 ≤ z
              · have HS := Lib.hid (show SInv (arrB ns ns.length) (goalB n ns cs) (rootB n ns rs) (ns.length + n) at_ (k + 1) pr wk ∧ srch (arrB ns ns.length) (goalB n ns cs) (ns.length + n) (fuelS (ns.length + n) at_ (k + 1)) at_ (k + 1) pr wk = Z from ⟨hS.skip hkl hak (.inl (by omega)), by rw [← srch_skip hkl hak (.inl (by omega))]; exact hZs⟩)
                have HF := Lib.hid (And.intro hQ (And.intro hP (And.intro hbb hsz)))
                have HK := Lib.hid (And.intro hak hpk)
                clear hQ hP hS hZs hbb hsz hRr q0 q1 ez hak hpk
                go_wp2
                go_roundw
                case rel => exact ⟨k + 1, pr, wk, ra, rc, by omega, by go_num, rfl, HF.out.1, HF.out.2.1, HS.out.1, HS.out.2, HK.out.1, HK.out.2, HF.out.2.2⟩
                case measure => simp [intOf]; omega
              · have hIr := hRr.intsH (c := cap) rfl
                have HK := Lib.hid (And.intro hak (And.intro hpk (And.intro hS (And.intro hZs ez))))
                have hQr := hQ
                have hPr := hP
                obtain ⟨l, el⟩ : ∃ l, l = (wk.drop at_).length := ⟨_, rfl⟩
                rw [← el] at hQr ⊢
                have HL2 := Lib.hid el
                clear hQ hP hS hZs ez hak hpk el
                go_wp2_with fail
                refine (arrow_c n _ ns hV p k hlp hkl _ hIr).mono ?_
                rintro e wd ⟨rfl, hb⟩
                clear hIr
                replace hPr := hPr.below hb hPr.lt
                replace hRr := hRr.below hb hRr.lt
                replace q0 := cellB hb q0
                replace q1 := cellB hb q1
                have hQd := hQr.below hb (Nat.le_refl _)
                have hbd := hbb.trans (hb.mono hbb.size)
                have hsd := Nat.le_trans hsz hb.size
                clear hQr hbb hsz hb
                cases hA : arrB ns ns.length p k with
                | false =>
                  have HF := Lib.hid (show SInv (arrB ns ns.length) (goalB n ns cs) (rootB n ns rs) (ns.length + n) at_ (k + 1) pr wk ∧ srch (arrB ns ns.length) (goalB n ns cs) (ns.length + n) (fuelS (ns.length + n) at_ (k + 1)) at_ (k + 1) pr wk = Z from ⟨HK.out.2.2.1.skip hkl HK.out.1 (.inr (by rw [HK.out.2.1]; exact hA)), by rw [← srch_skip hkl HK.out.1 (.inr (by rw [HK.out.2.1]; exact hA))]; exact HK.out.2.2.2.1⟩)
                  have HG := Lib.hid (And.intro hQd (And.intro hPr (And.intro hbd hsd)))
                  clear hQd hPr hbd hsd hRr q0 q1 hA
                  go_wp2
                  refine ⟨⟨k + 1, pr, wk, ra, rc, by omega, by go_num, by rw [HL2.out], by rw [← HL2.out]; exact HG.out.1, HG.out.2.1, HF.out.1, HF.out.2, HK.out.1, HK.out.2.1, HG.out.2.2⟩, by simp [intOf]; omega⟩
                | true =>
                  have hnz : ¬ 0 ≤ pr.getD k 0 := by rw [← HK.out.2.2.2.2]; omega
                  have hA' : arrB ns ns.length (wk.getD at_ 0) k = true := by rw [HK.out.2.1]; exact hA
                  have hfo := HK.out.2.2.1.forest hkl HK.out.1 hnz hA'
                  have hadd := HK.out.2.2.1.add hkl HK.out.1 hnz hA'
                  have hsa := fun hG => srch_add (G := goalB n ns cs) (par := pr) hkl HK.out.1 hnz hA' hG
                  have hsg := fun hG => srch_goal (G := goalB n ns cs) (par := pr) hkl HK.out.1 hnz hA' hG
                  rw [HK.out.2.2.2.1] at hsa hsg
                  rw [HK.out.2.1] at hfo hadd hsa hsg
                  have HS := Lib.hid (And.intro hfo (And.intro hadd (And.intro hsa hsg)))
                  clear hfo hadd hsa hsg hA' hnz
                  have hds := drop_snoc (q := k) (Nat.le_of_lt HK.out.1)
                  have hplen := HK.out.2.2.1.len
                  have hcp := hPr.cell (k := k) (by rw [hplen]; exact hkl)
                  have hfz := hPr.frozen k
                  have hP1 := hPr.set (k := k) (by rw [hplen]; exact hkl) (p : Int)
                  have hQ1 := hQd.far (p := ⟨gp, k, none⟩) (fun e => by have := (hQd.own_lt gp e).1; omega) (.int .i64 (p : Int))
                  have hb1 : Below wq.heap.size wq (wd.setCell ⟨gp, k, none⟩ (.int .i64 (p : Int))) := hbd.setCell (by simp; omega) _
                  have hb2 : Below wq.heap.size wq ((wd.setCell ⟨gp, k, none⟩ (.int .i64 (p : Int))).alloc (.cells #[.int .i64 (k : Int)] 3)) := hb1.alloc hb1.size _
                  have hs2 : Bq ≤ ((wd.setCell ⟨gp, k, none⟩ (.int .i64 (p : Int))).alloc (.cells #[.int .i64 (k : Int)] 3)).heap.size := by simp [World.setCell]; omega
                  have hone : ((wd.setCell ⟨gp, k, none⟩ (.int .i64 (p : Int))).alloc (.cells #[.int .i64 (k : Int)] 3)).cell? ⟨wd.heap.size, 0, none⟩ = some (.int .i64 (k : Int)) := by go_cell
                  have hwl := HK.out.2.2.1.wlen
                  have hlen : (casts (wk.drop at_)).length + 1 ≤ 16777216 := by rw [length_casts, List.length_drop]; omega
                  have HH := Lib.hid (And.intro (hQ1.alloc (.cells #[.int .i64 (k : Int)] 3)) (And.intro hone (And.intro hlen (And.intro hs2 (And.intro hb2 (And.intro (hP1.alloc (.cells #[.int .i64 (k : Int)] 3)) (And.intro hds hgpB)))))))
                  clear hQd hQ1 hPr hP1 hb1 hb2 hs2 hone hlen hds hplen hRr q0 q1 hA hwl hbd hsd
                  go_wp2_with (at_builtin; go_loud (refine wpList_appQ (v := .slice ra l rc) rfl (.tmp 79) (.tmp 81) rfl rfl HH.out.1 rfl HH.out.2.1 HH.out.2.2.1 HH.out.2.2.2.1 ?_); intro v6 w6 hown6 hgr6 hat6)
                  obtain ⟨hQ2, hone, hlen, hs2, hb2, hP2, hds, _⟩ := HH.out
                  rw [← casts_snoc, ← hds] at hown6
                  have hb6 := Below.appQ hb2 hQ2 hgr6 (by omega) hb2.size
                  have hP6 := hP2.appQ hQ2 hgr6 hgpB
                  have hs6 := Nat.le_trans hs2 hgr6.size
                  obtain ⟨a6, c6, rfl⟩ := hown6.form
                  rw [length_casts] at hown6 ⊢
                  obtain ⟨l, el⟩ : ∃ l, l = ((wk ++ [k]).drop at_).length := ⟨_, rfl⟩
                  rw [← el] at hown6 ⊢
                  have hak6 : at_ < (wk ++ [k]).length := by rw [List.length_append]; have := HK.out.1; omega
                  have hpk6 : (wk ++ [k]).getD at_ 0 = p := by rw [List.getD_eq_getElem?_getD, List.getElem?_append_left HK.out.1, ← List.getD_eq_getElem?_getD]; exact HK.out.2.1
                  have HF := Lib.hid (And.intro el (And.intro hak6 hpk6))
                  clear HH hone hlen hs2 hb2 hP2 hds hQ2 hgr6 hat6 el hak6 hpk6
                  have hq60 := cellB hb6 HQ.out.1
                  have hq61 := cellB hb6 HQ.out.2.1
                  by_cases hgk : ns.length ≤ k
                  · obtain ⟨j, ej⟩ : ∃ j, j = k - ns.length := ⟨_, rfl⟩
                    have hj : j < n := by omega
                    have hgv := goalB_val (n := n) (cs := cs) hgk
                    rw [← ej] at hgv
                    have hcx := (HQ.out.2.2.2.2.1.below hb6 HQ.out.2.2.2.2.1.lt).cell (k := j) (by rw [HL.out.2]; exact hj)
                    have hcy := cellB hb6 (HCQ.out.2 j hj)
                    have ew : IntKind.i64.wrap ((k : Int) - (ns.length : Int)) = (j : Int) := by rw [show (k : Int) - (ns.length : Int) = (j : Int) by omega]; exact IntWalk.i64_in _ ⟨by omega, by omega⟩
                    obtain ⟨x, ex⟩ : ∃ x, x = (colSums n ns).getD j 0 := ⟨_, rfl⟩
                    obtain ⟨y, ey⟩ : ∃ y, y = cs.getD j 0 := ⟨_, rfl⟩
                    rw [← ex] at hcx hgv
                    rw [← ey] at hcy hgv
                    have k0 := cell_regrown hcx
                    have k1 := cell_regrown hcy
                    clear ex ey ej
                    by_cases hxy : x < y
                    · rw [decide_eq_true hxy] at hgv
                      have HG := Lib.hid (And.intro hown6 (And.intro hb6 (And.intro hP6 (And.intro hgv (And.intro hq60 hq61)))))
                      clear hown6 hb6 hP6 hgv hq60 hq61 hs6
                      refine wp_region_quiet_below (by kernel_rfl) (by kernel_rfl) ?_
                      repeat (first | go_big_quiet_step (fail) | quiet_step (fail))
                      refine wpQuiet_nil ?_
                      intro _ hw0
                      obtain ⟨⟨dq, osq⟩, hw1⟩ := hw0
                      subst hw1
                      have hq7 := below_regrown w6 dq osq
                      generalize Go.Sort.grow (redrawn w6 dq) osq = w7 at hq7 ⊢
                      clear ew k0 k1 hcx hcy
                      have hb7 := HG.out.2.1.trans (hq7.mono HG.out.2.1.size)
                      have hq70 := cellB hq7 HG.out.2.2.2.2.1
                      have hq71 := cellB hq7 HG.out.2.2.2.2.2
                      go_wp2_with fail
                      obtain ⟨rank, hfo⟩ := HS.out.1
                      have hP7 := HG.out.2.2.1.below hq7 HG.out.2.2.1.lt
                      have hR7 := HQ.out.2.2.1.below hb7 HQ.out.2.2.1.lt
                      have hCB := changeBack_c n ns.length g cap gp (ns.length + n) k ns rfl hV.hi hV.h6 hV.w6 _ rank _ hfo (by have := HQ.out.2.2.2.2.2.size; omega) w7 hR7 hP7
                      refine hCB.mono ?_
                      rintro e w9 ⟨rfl, hR9, hg9⟩
                      have HE := Lib.hid (show srchI n ns rs cs = (pr.set k (p : Int), some k) from by rw [← HZ.out]; exact HS.out.2.2.2 HG.out.2.2.2.1)
                      have HB := Lib.hid (show w.grownBy w9 (some g) from only_trans (only_of_below (HQ.out.2.2.2.2.2.trans (hb7.mono HQ.out.2.2.2.2.2.size)) _) hg9)
                      have HR9 := Lib.hid hR9
                      clear hCB hR9 hg9 hfo hP7 hR7 hq70 hq71 hb7 hq7
                      go_wp2
                      go_returns
                      exact .inr ⟨_, k, HE.out, rfl, HR9.out, HB.out⟩
                    · rw [decide_eq_false hxy] at hgv
                      have HG := Lib.hid (And.intro hown6 (And.intro hb6 (And.intro hP6 (And.intro hgv hs6))))
                      clear hown6 hb6 hP6 hgv hq60 hq61 hs6
                      refine wp_region_quiet_below (by kernel_rfl) (by kernel_rfl) ?_
                      repeat (first | go_big_quiet_step (fail) | quiet_step (fail))
                      refine wpQuiet_nil ?_
                      intro _ hw0
                      obtain ⟨⟨dq, osq⟩, hw1⟩ := hw0
                      subst hw1
                      have hq7 := below_regrown w6 dq osq
                      generalize Go.Sort.grow (redrawn w6 dq) osq = w7 at hq7 ⊢
                      clear ew k0 k1 hcx hcy
                      have HY := Lib.hid hq7
                      clear hq7
                      go_wp2
                      exact ⟨⟨k + 1, pr.set k (p : Int), wk ++ [k], a6, c6, by omega, by go_num, by rw [HF.out.1], by rw [← HF.out.1]; exact HG.out.1.below HY.out (Nat.le_refl _), HG.out.2.2.1.below HY.out HG.out.2.2.1.lt, HS.out.2.1 HG.out.2.2.2.1, (HS.out.2.2.1 HG.out.2.2.2.1).symm, HF.out.2.1, HF.out.2.2, HG.out.2.1.trans (HY.out.mono HG.out.2.1.size), Nat.le_trans HG.out.2.2.2.2 HY.out.size⟩, by simp [intOf]; omega⟩
                  · have hgv := goalB_row (n := n) (cs := cs) (Nat.lt_of_not_le hgk)
                    have HG := Lib.hid (And.intro hown6 (And.intro hb6 (And.intro hP6 (And.intro hgv hs6))))
                    clear hown6 hb6 hP6 hgv hq60 hq61 hs6
                    refine wp_region_quiet_below (by kernel_rfl) (by kernel_rfl) ?_
                    repeat (first | go_big_quiet_step (fail) | quiet_step (fail))
                    refine wpQuiet_nil ?_
                    intro _ hw0
                    obtain ⟨⟨dq, osq⟩, hw1⟩ := hw0
                    subst hw1
                    have hq7 := below_regrown w6 dq osq
                    generalize Go.Sort.grow (redrawn w6 dq) osq = w7 at hq7 ⊢
                    have HY := Lib.hid hq7
                    clear hq7
                    go_wp2
                    exact ⟨⟨k + 1, pr.set k (p : Int), wk ++ [k], a6, c6, by omega, by go_num, by rw [HF.out.1], by rw [← HF.out.1]; exact HG.out.1.below HY.out (Nat.le_refl _), HG.out.2.2.1.below HY.out HG.out.2.2.1.lt, HS.out.2.1 HG.out.2.2.2.1, (HS.out.2.2.1 HG.out.2.2.2.1).symm, HF.out.2.1, HF.out.2.2, HG.out.2.1.trans (HY.out.mono HG.out.2.1.size), Nat.le_trans HG.out.2.2.2.2 HY.out.size⟩, by simp [intOf]; omega⟩
            · obtain rfl : k = ns.length + n := by omega
              have hki : ¬ ((ns.length : Int) + (n : Int) < (ns.length : Int) + (n : Int)) := by omega
              have hdc := drop_cons hak
              rw [hpk] at hdc
              have hQ' := hQ
              rw [hdc, show casts (p :: wk.drop (at_ + 1)) = (p : Int) :: casts (wk.drop (at_ + 1)) from rfl] at hQ'
              obtain ⟨gq, oq, rfl, en, hc1, _, _⟩ := OwnQ.head hQ'
              obtain ⟨hrest, hlc⟩ := hQ'.tail
              rw [length_casts] at hrest
              obtain ⟨l, el⟩ : ∃ l, l = (wk.drop at_).length := ⟨_, rfl⟩
              have hl2 : (wk.drop (at_ + 1)).length = l - 1 := by rw [el, hdc]; simp
              have hl0 : 1 ≤ l := by rw [el, List.length_drop]; omega
              rw [← hdc, ← el] at hlc
              have hSn := hS.next hak
              have hZn := hZs
              rw [srch_next hS hak] at hZn
              have hMn := impM_at hSn hP (if rc = 1 then some ⟨gq, oq, none⟩ else some ⟨gq, oq + 1, none⟩) (rc - 1)
              have hat : at_ < ns.length + n := Nat.lt_of_lt_of_le hak hS.wlen
              have HF := Lib.hid (And.intro hrest (And.intro hP (And.intro hSn (And.intro hZn (And.intro hbb (And.intro hsz (And.intro hMn (And.intro hl2 hat))))))))
              rw [← el]
              clear hQ hQ' hP hS hZs hbb hsz hdc hrest hSn hZn hMn el en hl2 hat hak hpk
              go_wp2
              refine ⟨⟨at_ + 1, pr, wk, _, rc - 1, by rw [HF.out.2.2.2.2.2.2.2.1], HF.out.1, HF.out.2.1, HF.out.2.2.1, HF.out.2.2.2.1, HF.out.2.2.2.2.1, HF.out.2.2.2.2.2.1⟩, ?_⟩
              have e1 := HF.out.2.2.2.2.2.2.1
              have e2 := HM.out.1
              have e3 := HF.out.2.2.2.2.2.2.2.2
              rw [HF.out.2.2.2.2.2.2.2.1] at e1
              rw [← HM.out.2.1] at e2
              rw [e1, e2]
              omega
        · have hL : (work.drop at_).length = 0 := by rw [List.length_drop]; omega
          have hZ2 := hZs
          rw [srch_end hS ha] at hZ2
          have HF := Lib.hid (show srchI n ns rs cs = (par, none) ∧ Row wr g (casts ns) ∧ w.grownBy wr (some g) from ⟨by rw [← HZ.out]; exact hZ2.symm, HQ.out.2.2.1.below hbb HQ.out.2.2.1.lt, only_of_below (HQ.out.2.2.2.2.2.trans (hbb.mono HQ.out.2.2.2.2.2.size)) _⟩)
          rw [hL]
          clear hQ hP hS hZs hbb hsz hM hL hZ2 ha
          go_wp2
          go_returns
          exact .inl ⟨par, HF.out.1, rfl, HF.out.2.1, HF.out.2.2⟩
end Go.Proofs.Ytehoaagnpidnbaa
