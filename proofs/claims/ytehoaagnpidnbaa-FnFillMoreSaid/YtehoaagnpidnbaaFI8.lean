/- Contract of l41Search. Conditions: a valid image; as many sums as rows and columns. -/
import Derived.Test.YtehoaagnpidnbaaFI5
import Derived.Test.YtehoaagnpidnbaaFH
import Derived.Test.YtehoaagnpidnbaaFB
namespace Go.Proofs.Ytehoaagnpidnbaa
open Go.RowKit
/-- Two lists of the call's own, and a third one that stays. -/
structure LS (Z gs : Nat) (W : World) (u v : Value) (xs ys sm : List Int) : Prop where
  r : OwnI W Z u xs
  c : OwnI W Z v ys
  ne : ∀ a b, u.ownBlock = some a → v.ownBlock = some b → a ≠ b
  sums : Row W gs sm
  nu : ∀ a, u.ownBlock = some a → a ≠ gs
  nv : ∀ a, v.ownBlock = some a → a ≠ gs
section
variable {Z gs : Nat} {W w6 : World} {u v v6 : Value} {xs ys sm : List Int} {z : Int} {o : Obj}
theorem LS.swap (h : LS Z gs W u v xs ys sm) : LS Z gs W v u ys xs sm := ⟨h.c, h.r, fun a b ha hb e => h.ne b a hb ha e.symm, h.sums, h.nv, h.nu⟩
theorem LS.below (h : LS Z gs W u v xs ys sm) (hb : Below W.heap.size W w6) : LS Z gs w6 u v xs ys sm := ⟨h.r.below hb (Nat.le_refl _), h.c.below hb (Nat.le_refl _), h.ne, h.sums.below hb h.sums.lt, h.nu, h.nv⟩
theorem LS.appL (h : LS Z gs W u v xs ys sm) (hown : OwnI w6 Z v6 (xs ++ [z])) (hg : (W.alloc o).grownBy w6 u.ownBlock) (hat : v6.ownBlock = u.ownBlock ∨ v6.ownBlock = some (W.alloc o).heap.size) : LS Z gs w6 v6 v (xs ++ [z]) ys sm := by
  have hs : (W.alloc o).heap.size = W.heap.size + 1 := by simp
  refine ⟨hown, (h.c.alloc o).grown hg (fun b hb e => h.ne b b e.symm hb rfl), fun a b ha hb e => ?_, (h.sums.alloc o).grown hg (fun e => h.nu gs e.symm rfl), fun a ha e => ?_, h.nv⟩
  · subst e
    rcases hat with hat | hat
    · rw [hat] at ha; exact h.ne a a ha hb rfl
    · rw [hat] at ha
      have := (h.c.own_lt a hb).2
      injection ha with ha
      omega
  · subst e
    rcases hat with hat | hat
    · rw [hat] at ha; exact h.nu a ha rfl
    · rw [hat] at ha
      have := h.sums.lt
      injection ha with ha
      omega
theorem LS.appR (h : LS Z gs W u v xs ys sm) (hown : OwnI w6 Z v6 (ys ++ [z])) (hg : (W.alloc o).grownBy w6 v.ownBlock) (hat : v6.ownBlock = v.ownBlock ∨ v6.ownBlock = some (W.alloc o).heap.size) : LS Z gs w6 u v6 xs (ys ++ [z]) sm := (h.swap.appL hown hg hat).swap
theorem LS.set {g n c k : Nat} (h : LS Z gs W (.slice (some ⟨g, 0, none⟩) n c) v xs ys sm) (hk : k < xs.length) (z : Int) : LS Z gs (W.setCell ⟨g, k, none⟩ (.int .i64 z)) (.slice (some ⟨g, 0, none⟩) n c) v (xs.set k z) ys sm :=
  ⟨h.r.set hk z, h.c.far (fun e => h.ne g g rfl e rfl) _, h.ne, h.sums.far (fun e => h.nu g rfl e.symm) _, h.nu, h.nv⟩
end
/-- What the search answers. -/
def atZ : Option Nat → Int
  | none => -1
  | some q => q
def SrchPost (n : Nat) (ns : List Nat) (rs cs : List Int) (w : World) (e : Ending) (w' : World) : Prop :=
  ∃ vp par o, srchI n ns rs cs = (par, o) ∧ e = .returned (.tuple #[vp, .int .i64 (atZ o)]) ∧ OwnI w' w.heap.size vp par ∧ Below w.heap.size w w'
theorem l41Goal_c (n : Nat) (v t : Value) (ns : List Nat) (hV : VImg n ns) (cs : List Int) (hcl : cs.length = n) (p : Nat) (hp : p < ns.length + n) (w : World) (hv : Ints w.heap.size w v (casts ns)) (ht : Ints w.heap.size w t cs) :
    Calls Try.prog 53 #[.agg #[.int .i64 (n : Int), v], .int .i64 (p : Int), t] w fun e w' => e = .returned (.bool (goalB n ns cs p)) ∧ Below w.heap.size w w' := by
  by_cases h : ns.length ≤ p
  · rw [goalB_val h]
    exact l41Goal_yes n v t ns hV cs hcl p h hp w hv ht
  · rw [goalB_row (Nat.lt_of_not_le h)]
    exact l41Goal_no n v t ns hV cs p (Nat.lt_of_not_le h) w hv ht
set_option maxRecDepth 100000 in
set_option maxHeartbeats 8000000 in
theorem l41Search_c (n : Nat) (i u v : Value) (ns : List Nat) (hV : VImg n ns) (rs cs : List Int) (hrl : rs.length = ns.length) (hcl : cs.length = n) (w : World) (hi : Ints w.heap.size w i (casts ns)) (hu : Ints w.heap.size w u rs) (hv : Ints w.heap.size w v cs) :
    Calls Try.prog 27 #[.agg #[.int .i64 (n : Int), i], u, v] w (SrchPost n ns rs cs w) := by
  obtain ⟨A, cap, rfl⟩ := hi.len
  obtain ⟨ub, uo, uc, e, hub, hcu⟩ := hu.row (by rw [hrl]; exact hV.h1)
  subst e
  obtain ⟨vb, vo, vc, e, hvb, hcv⟩ := hv.row (by rw [hcl]; exact hV.w1)
  subst e
  rw [hrl] at hcu ⊢
  have hv2 := hv
  rw [hcl] at hcv hv2 ⊢
  rw [length_casts] at hi ⊢
  have h1 := hV.h1
  have h6 := hV.h6
  have w1 := hV.w1
  have w6 := hV.w6
  have hW := Below.refl w.heap.size w
  have HC := Lib.hid (And.intro hcu (And.intro hcv (And.intro hrl (And.intro hcl hv2))))
  clear hcu hcv hu hv hv2 hrl hcl
  go_enter Try.func27, Try.ntmps27
  obtain ⟨W0, e_W0⟩ : ∃ W0, W0 = World.alloc w (.cells #[.int .i64 (n : Int), .slice A ns.length cap] 24) := ⟨_, rfl⟩
  have hx_W0 := Box2.new w (.int .i64 (n : Int)) (.slice A ns.length cap) 24
  have hb_W0 : Below (World.heap w).size w W0 := by rw [e_W0]; go_grown
  have HS_W0 := Lib.hid (show (World.heap W0).size = (World.heap w).size + 1 by rw [e_W0]; simp)
  replace hi := (hi.below hb_W0).more (Below.size hb_W0)
  replace hW := hW.trans (Below.mono hb_W0 hW.size)
  have HE_W0 := Lib.hid e_W0
  clear e_W0
  go_wp2_with fail
  rw [← HE_W0.out] at hx_W0 ⊢
  clear HE_W0
  obtain ⟨hl_x, x0, x1⟩ := hx_W0
  obtain ⟨Bx, e_Bx⟩ : ∃ Bx, Bx = (World.heap w).size := ⟨_, rfl⟩
  rw [← e_Bx] at hl_x x0 x1 hb_W0 HS_W0  ⊢
  have hz_Bx := hb_W0.size
  clear e_Bx hb_W0
  have o1 := (OwnI.empty (base := W0.heap.size) W0 (Nat.le_refl _)).alloc (.cells #[] 3)
  have o2 := OwnI.empty (base := W0.heap.size) (W0.alloc (.cells #[] 3)) (by simp)
  have hsz1 : (W0.alloc (.cells #[] 3)).heap.size = W0.heap.size + 1 := by simp
  rw [hsz1] at o2
  rw [show (some (Addr.mk W0.heap.size 0 none)) = some ⟨Bx + 1, 0, none⟩ by rw [HS_W0.out]] at o1
  rw [show (some (Addr.mk (W0.heap.size + 1) 0 none)) = some ⟨Bx + 1 + 1, 0, none⟩ by rw [HS_W0.out]] at o2
  have hb2 : Below W0.heap.size W0 ((W0.alloc (.cells #[] 3)).alloc (.cells #[] 3)) := by go_grown
  obtain ⟨W2, eW2⟩ : ∃ W, W = (W0.alloc (.cells #[] 3)).alloc (.cells #[] 3) := ⟨_, rfl⟩
  rw [← eW2] at o1 o2 hb2 ⊢
  have hlt2 : Bx + 1 + 1 < W2.heap.size := (o2.own_lt (Bx + 1 + 1) rfl).2
  have hI2 := (hi.below hb2).more hb2.size
  clear eW2 hsz1
  refine (sRowSums_yes n _ ns hV W2 hI2).mono ?_
  rintro e wq ⟨vs, rfl, hos, hb⟩
  obtain ⟨gs, sc, evs, hgs, hrs⟩ := hos.form (by rw [rowSums_len]; omega)
  rw [rowSums_len] at evs
  subst evs
  have hLS : LS W0.heap.size gs wq (.slice (some ⟨Bx + 1, 0, none⟩) 0 0) (.slice (some ⟨Bx + 1 + 1, 0, none⟩) 0 0) (parS n ns rs 0) (casts (workI n ns rs 0)) (rowSums n ns) :=
    ⟨o1.below hb (Nat.le_refl _), o2.below hb (Nat.le_refl _), fun a b ha hb e => by simp [Value.ownBlock] at ha hb; omega, hrs, fun a ha e => by simp [Value.ownBlock] at ha; omega, fun a ha e => by simp [Value.ownBlock] at ha; omega⟩
  have hbq := hb2.trans (hb.mono hb2.size)
  have HQ := Lib.hid (And.intro x0 (And.intro x1 (And.intro hi hW)))
  have HCQ := Lib.hid (show (∀ k, k < ns.length → W0.cell? ⟨ub, uo + k, none⟩ = some (.int .i64 (rs.getD k 0))) ∧ Ints W0.heap.size W0 (.slice (some ⟨vb, vo, none⟩) n vc) cs from ⟨fun k hk => cellB hW (HC.out.1 k hk), (HC.out.2.2.2.2.below hW).more hW.size⟩)
  clear o1 o2 hb2 hlt2 hI2 hos hrs hb hgs x0 x1 hi hW
  obtain ⟨Z, eZ⟩ : ∃ Z, Z = srchI n ns rs cs := ⟨_, rfl⟩
  have HZ := Lib.hid eZ
  have HL := Lib.hid (rowSums_len n ns)
  clear eZ
  have hzB : Bx + 1 ≤ W0.heap.size := Nat.le_of_eq HS_W0.out.symm
  go_wp2_with fail
  go_loopw [12, 9, 10] (fun i s q wr => ∃ (k : Nat) (ap : Option Addr) (cp : Nat) (aw : Option Addr) (cw : Nat), k ≤ ns.length + n ∧ i = .int .i64 (k : Int) ∧ s = .slice ap k cp ∧ q = .slice aw (workI n ns rs k).length cw ∧ LS W0.heap.size gs wr (.slice ap k cp) (.slice aw (workI n ns rs k).length cw) (parS n ns rs k) (casts (workI n ns rs k)) (rowSums n ns) ∧ Below W0.heap.size W0 wr) (fun i _ _ _ => ns.length + n - (intOf i).toNat)
  case atStart => exact ⟨0, _, _, _, _, Nat.zero_le _, rfl, rfl, rfl, hLS, hbq⟩
  case round =>
    clear hLS hbq
    obtain ⟨k, ap, cp, aw, cw, hk, rfl, rfl, rfl, hLS, hbb⟩ := hrel
    by_cases hkl : k < ns.length + n
    · have hki : (k : Int) < (ns.length : Int) + (n : Int) := by omega
      have hwl := workI_len n ns rs k
      obtain ⟨l, el⟩ : ∃ l, l = (workI n ns rs k).length := ⟨_, rfl⟩
      rw [← el] at hwl hLS ⊢
      have hown2 := hLS.r.alloc (.cells #[.int .i64 (-1)] 3)
      have hb3 : Below W0.heap.size W0 (wr.alloc (.cells #[.int .i64 (-1)] 3)) := hbb.alloc hbb.size _
      have hbs : W0.heap.size ≤ (wr.alloc (.cells #[.int .i64 (-1)] 3)).heap.size := hb3.size
      have hlen : (parS n ns rs k).length + ([-1] : List Int).length ≤ 16777216 := by rw [parS_len]; simp; omega
      have hone := Ints.one wr (-1) 3
      have HH := Lib.hid (And.intro hown2 (And.intro hbs (And.intro hlen (And.intro hone (And.intro hb3 hLS)))))
      have HE := Lib.hid el
      clear hown2 hbs hlen hone hb3 hbb hLS el
      go_wp2_with (at_builtin; refine wpList_app (v := .slice ap k cp) (ys := [-1]) rfl (.tmp 29) (.tmp 30) rfl rfl HH.out.1 rfl HH.out.2.2.2.1 HH.out.2.2.1 HH.out.2.1 ?_; intro v6 w6 hown6 hgr6 _ hat6)
      obtain ⟨hown2, hbs, hlen, hone, hb3, hLS⟩ := HH.out
      have hL6 := hLS.appL hown6 hgr6 hat6
      have hb6 := Below.app hb3 hown2 hgr6 (Nat.le_refl _) hbs
      have hpl := parS_len n ns rs k
      obtain ⟨gp, cp6, ev6, hgp, hrp⟩ := hL6.r.form (by simp)
      have e7 : (parS n ns rs k ++ [(-1 : Int)]).length = k + 1 := by simp [hpl]
      rw [e7] at ev6
      subst ev6
      clear HH hown2 hbs hlen hone hb3 hLS hown6 hgr6 hat6 hpl hrp e7
      by_cases hkh : k < ns.length
      · have hrk := hL6.sums.cell (k := k) (by rw [HL.out]; exact hkh)
        have hck := cellB hb6 (HCQ.out.1 k hkh)
        have hrv := rootB_val (rs := rs) (n := n) hkh
        obtain ⟨x, ex⟩ : ∃ x, x = (rowSums n ns).getD k 0 := ⟨_, rfl⟩
        obtain ⟨y, ey⟩ : ∃ y, y = rs.getD k 0 := ⟨_, rfl⟩
        rw [← ex] at hrk hrv
        rw [← ey] at hck hrv
        have k0 := cell_regrown hrk
        have k1 := cell_regrown hck
        clear ex ey
        by_cases hxy : x < y
        · rw [decide_eq_true hxy] at hrv
          have HG := Lib.hid (And.intro hL6 (And.intro hb6 hrv))
          clear hL6 hb6 hrv
          refine wp_region_quiet_below (by kernel_rfl) (by kernel_rfl) ?_
          repeat (first | go_big_quiet_step (fail) | quiet_step (fail))
          refine wpQuiet_nil ?_
          intro _ hw0
          obtain ⟨⟨dq, osq⟩, hw1⟩ := hw0
          subst hw1
          have hq7 := below_regrown w6 dq osq
          generalize Go.Sort.grow (redrawn w6 dq) osq = w7 at hq7 ⊢
          clear k0 k1 hrk hck
          have hL7 := HG.out.1.below hq7
          have hb7 := HG.out.2.1.trans (hq7.mono HG.out.2.1.size)
          have hps := parS_yes HG.out.2.2
          have hws := workI_yes HG.out.2.2
          obtain ⟨_, _, ev, _, hrp⟩ := hL7.r.form (by simp)
          injection ev with ev e2 e3
          injection ev with ev
          injection ev with ev
          rw [← ev] at hrp
          clear ev e2 e3
          have hpl := parS_len n ns rs k
          have hcp := hrp.cell (k := k) (by simp [hpl])
          have hfz := hrp.frozen k
          have hL8 := hL7.set (k := k) (by simp [hpl]) (k : Int)
          rw [hps] at hL8
          have hb8 : Below W0.heap.size W0 (w7.setCell ⟨gp, k, none⟩ (.int .i64 (k : Int))) := hb7.setCell (by simp; omega) _
          have hown2 := hL8.c.alloc (.cells #[.int .i64 (k : Int)] 3)
          have hb9 : Below W0.heap.size W0 ((w7.setCell ⟨gp, k, none⟩ (.int .i64 (k : Int))).alloc (.cells #[.int .i64 (k : Int)] 3)) := hb8.alloc hb8.size _
          have hbs : W0.heap.size ≤ ((w7.setCell ⟨gp, k, none⟩ (.int .i64 (k : Int))).alloc (.cells #[.int .i64 (k : Int)] 3)).heap.size := hb9.size
          have hlen : (casts (workI n ns rs k)).length + ([(k : Int)] : List Int).length ≤ 16777216 := by rw [length_casts, ← HE.out]; simp; omega
          have hone : Ints (w7.heap.size + 1) ((w7.setCell ⟨gp, k, none⟩ (.int .i64 (k : Int))).alloc (.cells #[.int .i64 (k : Int)] 3)) (.slice (some ⟨w7.heap.size, 0, none⟩) 1 1) [(k : Int)] := by
            have := Ints.one (w7.setCell ⟨gp, k, none⟩ (.int .i64 (k : Int))) (k : Int) 3
            simpa [World.setCell] using this
          have HH := Lib.hid (And.intro hown2 (And.intro hbs (And.intro hlen (And.intro hone (And.intro hb9 (And.intro hL8 hws))))))
          clear hL7 hb7 hps hws hrp hpl hL8 hb8 hown2 hb9 hbs hlen hone hq7
          go_wp2_with (at_builtin; go_loud (refine wpList_app (v := .slice aw l cw) (ys := [(k : Int)]) rfl (.tmp 51) (.tmp 53) rfl rfl HH.out.1 rfl HH.out.2.2.2.1 HH.out.2.2.1 HH.out.2.1 ?_); intro v8 w8 hown8 hgr8 _ hat8)
          obtain ⟨hown2, hbs, hlen, hone, hb9, hL8, hws⟩ := HH.out
          have hL9 := hL8.appR hown8 hgr8 hat8
          have hb10 := Below.app hb9 hown2 hgr8 (Nat.le_refl _) hbs
          rw [← casts_snoc, ← hws] at hL9
          obtain ⟨a8, c8, e8⟩ := hL9.c.ints.len
          rw [length_casts] at e8
          subst e8
          exact ⟨⟨k + 1, _, cp6, a8, c8, by omega, by go_num, rfl, rfl, hL9, hb10⟩, by simp [intOf]; omega⟩
        · rw [decide_eq_false hxy] at hrv
          have HG := Lib.hid (And.intro hL6 (And.intro hb6 hrv))
          clear hL6 hb6 hrv
          refine wp_region_quiet_below (by kernel_rfl) (by kernel_rfl) ?_
          repeat (first | go_big_quiet_step (fail) | quiet_step (fail))
          refine wpQuiet_nil ?_
          intro _ hw0
          obtain ⟨⟨dq, osq⟩, hw1⟩ := hw0
          subst hw1
          have hq7 := below_regrown w6 dq osq
          generalize Go.Sort.grow (redrawn w6 dq) osq = w7 at hq7 ⊢
          clear k0 k1 hrk hck
          have hws := workI_no HG.out.2.2
          have hL7 := HG.out.1.below hq7
          rw [parS_no HG.out.2.2, ← hws, HE.out, ← hws] at hL7
          have HK := Lib.hid (And.intro hL7 (And.intro (HG.out.2.1.trans (hq7.mono HG.out.2.1.size)) hws))
          clear hL7 hq7 hws
          go_wp2
          exact ⟨⟨k + 1, _, cp6, aw, cw, by omega, by go_num, rfl, by rw [HK.out.2.2, ← HE.out], HK.out.1, HK.out.2.1⟩, by simp [intOf]; omega⟩
      · have hrv := rootB_big (n := n) (rs := rs) (Nat.le_of_not_lt hkh)
        have HG := Lib.hid (And.intro hL6 (And.intro hb6 hrv))
        clear hL6 hb6 hrv
        refine wp_region_quiet_below (by kernel_rfl) (by kernel_rfl) ?_
        repeat (first | go_big_quiet_step (fail) | quiet_step (fail))
        refine wpQuiet_nil ?_
        intro _ hw0
        obtain ⟨⟨dq, osq⟩, hw1⟩ := hw0
        subst hw1
        have hq7 := below_regrown w6 dq osq
        generalize Go.Sort.grow (redrawn w6 dq) osq = w7 at hq7 ⊢
        have hws := workI_no HG.out.2.2
        have hL7 := HG.out.1.below hq7
        rw [parS_no HG.out.2.2, ← hws, HE.out, ← hws] at hL7
        have HK := Lib.hid (And.intro hL7 (And.intro (HG.out.2.1.trans (hq7.mono HG.out.2.1.size)) hws))
        clear hL7 hq7 hws
        go_wp2
        exact ⟨⟨k + 1, _, cp6, aw, cw, by omega, by go_num, rfl, by rw [HK.out.2.2, ← HE.out], HK.out.1, HK.out.2.1⟩, by simp [intOf]; omega⟩
    · obtain rfl : k = ns.length + n := by omega
      have hki : ¬ ((ns.length : Int) + (n : Int) < (ns.length : Int) + (n : Int)) := by omega
      rw [parS_end, show workI n ns rs (ns.length + n) = work0 n ns rs from rfl] at hLS
      rw [show workI n ns rs (ns.length + n) = work0 n ns rs from rfl]
      have hS := sinv0 n ns rs cs
      have hZs : srch (arrB ns ns.length) (goalB n ns cs) (ns.length + n) (fuelS (ns.length + n) 0 0) 0 0 (par0 n ns rs) (work0 n ns rs) = Z := HZ.out.symm
      obtain ⟨gp, cp2, ev, hgp, _⟩ := hLS.r.form (by rw [hS.len]; omega)
      injection ev with ev e2 e3
      subst ev
      have HF := Lib.hid (And.intro hLS (And.intro hS (And.intro hZs hbb)))
      obtain ⟨l0, el0⟩ : ∃ l, l = (work0 n ns rs).length := ⟨_, rfl⟩
      rw [← el0]
      have HE0 := Lib.hid el0
      clear hLS hS hZs hbb e2 e3 el0
      go_wp2_with fail
      go_loopw [13, 10] (fun s q wr => ∃ (at_ : Nat) (par : List Int) (work : List Nat) (aw : Option Addr) (cw : Nat), s = .int .i64 (at_ : Int) ∧ q = .slice aw work.length cw ∧ LS W0.heap.size gs wr (.slice (some ⟨gp, 0, none⟩) (ns.length + n) cp) (.slice aw work.length cw) par (casts work) (rowSums n ns) ∧ SInv (arrB ns ns.length) (goalB n ns cs) (rootB n ns rs) (ns.length + n) at_ 0 par work ∧ srch (arrB ns ns.length) (goalB n ns cs) (ns.length + n) (fuelS (ns.length + n) at_ 0) at_ 0 par work = Z ∧ Below W0.heap.size W0 wr) (fun s _ _ => ns.length + n - (intOf s).toNat)
      case atStart =>
        obtain ⟨hLS, hS, hZs, hbb⟩ := HF.out
        exact ⟨0, par0 n ns rs, work0 n ns rs, aw, cw, rfl, by rw [HE0.out], hLS, hS, hZs, hbb⟩
      case round =>
        clear HF HE0
        obtain ⟨at_, par, work, aw, cw, rfl, rfl, hLS, hS, hZs, hbb⟩ := hrel
        have hwl := hS.wlen
        obtain ⟨l, el⟩ : ∃ l, l = work.length := ⟨_, rfl⟩
        rw [← el] at hwl hLS ⊢
        by_cases ha : at_ < l
        · obtain ⟨p, ep⟩ : ∃ p, p = work.getD at_ 0 := ⟨_, rfl⟩
          have hlp : p < ns.length + n := by rw [ep]; exact hS.lt _ (getD_memB (by omega))
          have HF := Lib.hid (And.intro hLS (And.intro hS (And.intro hZs (And.intro hbb (And.intro el ep)))))
          clear hLS hS hZs hbb el ep
          go_wp2_with fail
          go_loopw [14, 10] (fun i q wr => ∃ (k : Nat) (pr : List Int) (wk : List Nat) (aw : Option Addr) (cw : Nat), k ≤ ns.length + n ∧ i = .int .i64 (k : Int) ∧ q = .slice aw wk.length cw ∧ LS W0.heap.size gs wr (.slice (some ⟨gp, 0, none⟩) (ns.length + n) cp) (.slice aw wk.length cw) pr (casts wk) (rowSums n ns) ∧ SInv (arrB ns ns.length) (goalB n ns cs) (rootB n ns rs) (ns.length + n) at_ k pr wk ∧ srch (arrB ns ns.length) (goalB n ns cs) (ns.length + n) (fuelS (ns.length + n) at_ k) at_ k pr wk = Z ∧ at_ < wk.length ∧ wk.getD at_ 0 = p ∧ Below W0.heap.size W0 wr) (fun i _ _ => ns.length + n - (intOf i).toNat)
          case atStart =>
            obtain ⟨hLS, hS, hZs, hbb, el, ep⟩ := HF.out
            exact ⟨0, par, work, aw, cw, Nat.zero_le _, rfl, by rw [el], by rw [← el]; exact hLS, hS, hZs, by omega, ep.symm, hbb⟩
          case round =>
            clear HF
            obtain ⟨k, pr, wk, ra, rc, hk, rfl, rfl, hLS, hS, hZs, hak, hpk, hbb⟩ := hrel
            obtain ⟨m, em⟩ : ∃ m, m = wk.length := ⟨_, rfl⟩
            have hwl := hS.wlen
            rw [← em] at hLS hak hwl ⊢
            by_cases hkl : k < ns.length + n
            · have hki : (k : Int) < (ns.length : Int) + (n : Int) := by omega
              obtain ⟨_, rc1, ev, hgp1, hrp⟩ := hLS.r.form (by rw [hS.len]; omega)
              injection ev with ev e2 e3
              injection ev with ev
              injection ev with ev
              rw [← ev] at hrp
              clear ev e2 e3 rc1 hgp1
              obtain ⟨gw, rc2, ev, hgw, hrw⟩ := hLS.c.form (by rw [length_casts]; omega)
              injection ev with ev e2 e3
              subst ev
              clear e2 e3 rc2
              have hcp := hrp.cell (k := k) (by rw [hS.len]; exact hkl)
              have hcw := hrw.cell (k := at_) (by rw [length_casts]; omega)
              rw [casts_getD, hpk] at hcw
              have hami : (at_ : Int) < (m : Int) := by omega
              have x0 := cellB hbb HQ.out.1
              have x1 := cellB hbb HQ.out.2.1
              have hIr := (HQ.out.2.2.1.below hbb).more hbb.size
              obtain ⟨z, ez⟩ : ∃ z, z = pr.getD k 0 := ⟨_, rfl⟩
              rw [← ez] at hcp
              have k0 := cell_regrown hcp
              have k1 := cell_regrown x0
              have k2 := cell_regrown x1
              have k3 := cell_regrown hcw
              by_cases hz : 0 ≤ z
              · have HS := Lib.hid (show SInv (arrB ns ns.length) (goalB n ns cs) (rootB n ns rs) (ns.length + n) at_ (k + 1) pr wk ∧ srch (arrB ns ns.length) (goalB n ns cs) (ns.length + n) (fuelS (ns.length + n) at_ (k + 1)) at_ (k + 1) pr wk = Z from ⟨hS.skip hkl (by omega) (.inl (by omega)), by rw [← srch_skip hkl (by omega) (.inl (by omega))]; exact hZs⟩)
                have HF := Lib.hid (And.intro hLS (And.intro hbb (And.intro em hpk)))
                clear hLS hS hZs hbb hrp hrw ez hpk em
                go_wp2_with fail
                refine wp_region_quiet_below (by kernel_rfl) (by kernel_rfl) ?_
                repeat (first | go_big_quiet_step (fail) | quiet_step (fail))
                refine wpQuiet_nil ?_
                intro _ hw0
                obtain ⟨⟨dq, osq⟩, hw1⟩ := hw0
                subst hw1
                have hq := below_regrown wr dq osq
                generalize Go.Sort.grow (redrawn wr dq) osq = w2 at hq ⊢
                clear k0 k1 k2 k3 hcp hcw x0 x1 hIr
                have HY := Lib.hid hq
                clear hq
                go_wp2
                exact ⟨⟨k + 1, pr, wk, _, rc, by omega, by go_num, by rw [HF.out.2.2.1], by rw [← HF.out.2.2.1]; exact HF.out.1.below HY.out, HS.out.1, HS.out.2, by rw [← HF.out.2.2.1]; exact hak, HF.out.2.2.2, HF.out.2.1.trans (HY.out.mono HF.out.2.1.size)⟩, by simp [intOf]; omega⟩
              · have hnz : z < 0 := by omega
                have hA0 := fun d os => l41Arrow_c n (.slice A ns.length cap) ns hV p k hlp hkl (Go.Sort.grow (redrawn wr d) os) ((hIr.rg (Nat.le_refl _) d os).more (rg_size wr d os))
                have hSk := fun hA => hS.skip hkl (show at_ < wk.length by omega) (.inr hA)
                have hZk := fun hA => srch_skip (A := arrB ns ns.length) (G := goalB n ns cs) (par := pr) (many := ns.length + n) hkl (show at_ < wk.length by omega) (.inr hA)
                have hnz' : ¬ 0 ≤ pr.getD k 0 := by omega
                have hfo := fun hA => hS.forest hkl (show at_ < wk.length by omega) hnz' hA
                have hadd := fun hA => hS.add hkl (show at_ < wk.length by omega) hnz' hA
                have hsa := fun hA => srch_add (A := arrB ns ns.length) (G := goalB n ns cs) (par := pr) hkl (show at_ < wk.length by omega) hnz' hA
                have hsg := fun hA => srch_goal (A := arrB ns ns.length) (G := goalB n ns cs) (par := pr) hkl (show at_ < wk.length by omega) hnz' hA
                rw [hpk] at hSk hZk hfo hadd hsa hsg
                rw [hZs] at hZk hsa hsg
                have hpr := hS.len
                have HS := Lib.hid (And.intro hSk (And.intro hZk (And.intro hadd (And.intro hsa hsg))))
                have HF := Lib.hid (And.intro hLS (And.intro hbb (And.intro em (And.intro hpk hpr))))
                cases hA : arrB ns ns.length p k with
                | false =>
                  rw [hA] at hA0
                  have HA := Lib.hid hA
                  clear hLS hS hZs hbb hrp hrw ez hpk em hSk hZk hnz' hfo hadd hsa hsg hpr hA hz
                  go_wp2_with fail
                  refine wp_region_quiet_below (by kernel_rfl) (by kernel_rfl) ?_
                  repeat (first | go_big_quiet_step ((go_at_call 52; with_reducible exact Calls.rg (hA0 _ _))) | quiet_step ((go_at_call 52; with_reducible exact Calls.rg (hA0 _ _))))
                  refine wpQuiet_nil ?_
                  intro _ hw0
                  obtain ⟨⟨dq, osq⟩, hw1⟩ := hw0
                  subst hw1
                  have hq := below_regrown wr dq osq
                  generalize Go.Sort.grow (redrawn wr dq) osq = w2 at hq ⊢
                  clear k0 k1 k2 k3 hcp hcw x0 x1 hIr hA0
                  have HY := Lib.hid hq
                  clear hq
                  go_wp2
                  exact ⟨⟨k + 1, pr, wk, _, rc, by omega, by go_num, by rw [HF.out.2.2.1], by rw [← HF.out.2.2.1]; exact HF.out.1.below HY.out, HS.out.1 HA.out, (HS.out.2.1 HA.out).symm, by rw [← HF.out.2.2.1]; exact hak, HF.out.2.2.2.1, HF.out.2.1.trans (HY.out.mono HF.out.2.1.size)⟩, by simp [intOf]; omega⟩
                | true =>
                  rw [hA] at hA0
                  have HA := Lib.hid hA
                  have hpl := hS.len
                  have hRP := Lib.hid (And.intro hrp hrw)
                  clear hLS hS hZs hbb hrp hrw ez hpk em hSk hZk hnz' hfo hadd hsa hsg hpr hA hz
                  have HPL := Lib.hid hpl
                  clear hpl
                  go_wp2_with fail
                  refine wp_region_quiet_below (by kernel_rfl) (by kernel_rfl) ?_
                  repeat (first | go_big_quiet_step ((go_at_call 52; with_reducible exact Calls.rg (hA0 _ _))) | quiet_step ((go_at_call 52; with_reducible exact Calls.rg (hA0 _ _))))
                  refine wpQuiet_nil ?_
                  intro _ hw0
                  obtain ⟨⟨dq, osq⟩, hw1⟩ := hw0
                  subst hw1
                  have hq := below_regrown wr dq osq
                  generalize Go.Sort.grow (redrawn wr dq) osq = w2 at hq ⊢
                  clear k0 k1 k2 k3 x0 x1 hIr hA0
                  have hL2 := HF.out.1.below hq
                  have hb2 := HF.out.2.1.trans (hq.mono HF.out.2.1.size)
                  have hcp2 := cellB hq hcp
                  have hcw2 := cellB hq hcw
                  have hfz2 := (hRP.out.1.below hq hRP.out.1.lt).frozen k
                  have hL3 := hL2.set (k := k) (by rw [HPL.out]; exact hkl) (p : Int)
                  have hb3 : Below W0.heap.size W0 (w2.setCell ⟨gp, k, none⟩ (.int .i64 (p : Int))) := hb2.setCell (by simp; omega) _
                  have hown2 := hL3.c.alloc (.cells #[.int .i64 (k : Int)] 3)
                  have hb4 : Below W0.heap.size W0 ((w2.setCell ⟨gp, k, none⟩ (.int .i64 (p : Int))).alloc (.cells #[.int .i64 (k : Int)] 3)) := hb3.alloc hb3.size _
                  have hbs : W0.heap.size ≤ ((w2.setCell ⟨gp, k, none⟩ (.int .i64 (p : Int))).alloc (.cells #[.int .i64 (k : Int)] 3)).heap.size := hb4.size
                  have hlen : (casts wk).length + ([(k : Int)] : List Int).length ≤ 16777216 := by rw [length_casts, ← HF.out.2.2.1]; simp; omega
                  have hone : Ints (w2.heap.size + 1) ((w2.setCell ⟨gp, k, none⟩ (.int .i64 (p : Int))).alloc (.cells #[.int .i64 (k : Int)] 3)) (.slice (some ⟨w2.heap.size, 0, none⟩) 1 1) [(k : Int)] := by
                    have := Ints.one (w2.setCell ⟨gp, k, none⟩ (.int .i64 (p : Int))) (k : Int) 3
                    simpa [World.setCell] using this
                  have HH := Lib.hid (And.intro hown2 (And.intro hbs (And.intro hlen (And.intro hone (And.intro hb4 hL3)))))
                  clear hL2 hb2 hL3 hb3 hown2 hb4 hbs hlen hone hq hcp hcw
                  go_wp2_with (at_builtin; go_loud (refine wpList_app (v := .slice (some ⟨gw, 0, none⟩) m rc) (ys := [(k : Int)]) rfl (.tmp 88) (.tmp 90) rfl rfl HH.out.1 rfl HH.out.2.2.2.1 HH.out.2.2.1 HH.out.2.1 ?_); intro v8 w8 hown8 hgr8 _ hat8; have hb8 := Below.app HH.out.2.2.2.2.1 HH.out.1 hgr8 (Nat.le_refl _) HH.out.2.1; have x08 := cellB hb8 HQ.out.1; have x18 := cellB hb8 HQ.out.2.1)
                  have hL8 := HH.out.2.2.2.2.2.appR hown8 hgr8 hat8
                  rw [← casts_snoc] at hL8
                  obtain ⟨a8, c8, e8⟩ := hL8.c.ints.len
                  rw [length_casts] at e8
                  subst e8
                  obtain ⟨m8, em8⟩ : ∃ l, l = (wk ++ [k]).length := ⟨_, rfl⟩
                  rw [← em8] at hL8 ⊢
                  have hI8 := (HQ.out.2.2.1.below hb8).more hb8.size
                  have hv8 := (HCQ.out.2.below hb8).more hb8.size
                  refine (l41Goal_c n _ _ ns hV cs HC.out.2.2.2.1 k hkl w8 hI8 hv8).mono ?_
                  rintro e w9 ⟨rfl, hb9⟩
                  have hL9 := hL8.below hb9
                  have hb10 := hb8.trans (hb9.mono hb8.size)
                  clear hcp2 hcw2 hfz2 HH hown8 hgr8 hat8 hL8 hb9 hb8 x08 x18 hI8 hv8
                  cases hG : goalB n ns cs k with
                  | true =>
                    have hZ2 := HS.out.2.2.2.2 HA.out hG
                    have HO := Lib.hid (show SrchPost n ns rs cs w (.returned (.tuple #[.slice (some ⟨gp, 0, none⟩) (ns.length + n) cp, .int .i64 (k : Int)])) w9 from ⟨_, pr.set k (p : Int), some k, by rw [← HZ.out]; exact hZ2, rfl, hL9.r.more HQ.out.2.2.2.size, HQ.out.2.2.2.trans (hb10.mono HQ.out.2.2.2.size)⟩)
                    clear hL9 hb10 hZ2 hG em8
                    go_wp2
                    refine bodyPost_ret (v := .tuple #[.slice (some ⟨gp, 0, none⟩) (ns.length + n) cp, .int .i64 (k : Int)]) (by simp [results, Try.results27, go_sem]) rfl ?_
                    exact HO.out
                  | false =>
                    have hak8 : at_ < (wk ++ [k]).length := by rw [List.length_append, ← HF.out.2.2.1]; omega
                    have hpk8 : (wk ++ [k]).getD at_ 0 = p := by rw [List.getD_eq_getElem?_getD, List.getElem?_append_left (by rw [← HF.out.2.2.1]; exact hak), ← List.getD_eq_getElem?_getD]; exact HF.out.2.2.2.1
                    have HO := Lib.hid (And.intro hL9 (And.intro hb10 (And.intro (HS.out.2.2.1 HA.out hG) (And.intro (HS.out.2.2.2.1 HA.out hG) (And.intro em8 (And.intro hak8 hpk8))))))
                    clear hL9 hb10 hG em8 hak8 hpk8
                    go_wp2
                    exact ⟨⟨k + 1, pr.set k (p : Int), wk ++ [k], a8, c8, by omega, by go_num, by rw [HO.out.2.2.2.2.1], by rw [← HO.out.2.2.2.2.1]; exact HO.out.1, HO.out.2.2.1, HO.out.2.2.2.1.symm, HO.out.2.2.2.2.2.1, HO.out.2.2.2.2.2.2, HO.out.2.1⟩, by simp [intOf]; omega⟩
            · obtain rfl : k = ns.length + n := by omega
              have hki : ¬ ((ns.length : Int) + (n : Int) < (ns.length : Int) + (n : Int)) := by omega
              have hSn := hS.next (show at_ < wk.length by omega)
              have hZn := srch_next (G := goalB n ns cs) hS (show at_ < wk.length by omega)
              rw [hZs] at hZn
              have HF := Lib.hid (And.intro hLS (And.intro hSn (And.intro hZn (And.intro hbb em))))
              clear hLS hS hZs hbb hpk em hSn hZn
              go_wp2
              exact ⟨⟨at_ + 1, pr, wk, ra, rc, by go_num, by rw [HF.out.2.2.2.2], by rw [← HF.out.2.2.2.2]; exact HF.out.1, HF.out.2.1, HF.out.2.2.1.symm, HF.out.2.2.2.1⟩, by simp [intOf]; omega⟩
        · have hZ2 := hZs
          rw [srch_end hS (by omega)] at hZ2
          have HO := Lib.hid (show SrchPost n ns rs cs w (.returned (.tuple #[.slice (some ⟨gp, 0, none⟩) (ns.length + n) cp, .int .i64 (-1)])) wr from ⟨_, par, none, by rw [← HZ.out]; exact hZ2.symm, rfl, hLS.r.more HQ.out.2.2.2.size, HQ.out.2.2.2.trans (hbb.mono HQ.out.2.2.2.size)⟩)
          have hai : ¬ (at_ : Int) < (l : Int) := by omega
          clear hLS hS hZs hbb hZ2 el
          go_wp2
          refine bodyPost_ret (v := .tuple #[.slice (some ⟨gp, 0, none⟩) (ns.length + n) cp, .int .i64 (-1)]) (by simp [results, Try.results27, go_sem]) rfl ?_
          exact HO.out
end Go.Proofs.Ytehoaagnpidnbaa
