/- Contract of ImageRank: the place of an image among those with its sums. Conditions: a valid image of at most 16 cells; the slice reads as a list of integers. -/
import Derived.Test.YtilahcpjjaikgaaDoorIO9
import Derived.Test.YtilahcpjjaikgaaDoorEQ
import Derived.Test.YtilahcpjjaikgaaDoorCN
namespace Go.Proofs.YtilahcpjjaikgaaDoor
open Go Go.RowKit Go.Shelf
attribute [local go_sem] Oper.semAt_some
theorem casts_inj {ns ms : List Nat} (h : casts ns = casts ms) : ns = ms := by
  rw [← unCast ns, h, unCast]
theorem idx_here {L pre rest : List (List Nat)} {ns : List Nat} (hL : L = pre ++ ns :: rest) (h0 : ∀ x ∈ pre, x ≠ ns) : L.idxOf ns = pre.length := by
  rw [hL, List.idxOf_append, if_neg fun h => h0 ns h rfl]
  simp
theorem gen_len_cs {n : Nat} {rs cs : List Int} (h : rs.length * cs.length ≤ 16) (hc : cs.length = n := by assumption) : (genI n rs cs).length ≤ 65536 := gen_len16 (by rw [Nat.mul_comm, ← hc]; exact h)
set_option maxHeartbeats 4000000 in
set_option maxRecDepth 100000 in
theorem ImageRank_c (n : Nat) (v : Value) (ns : List Nat) (hV : VImg n ns) (hm : ns.length * n ≤ 16) (w : World) (hv : Ints w.heap.size w v (casts ns)) :
    Calls Tryd.prog 10 #[.agg #[.int .i64 (n : Int), v]] w fun e w' => e = .returned (.int .i64 ((genI n (rowSums n ns) (colSums n ns)).idxOf ns : Nat)) ∧ Below w.heap.size w w' := by
  obtain ⟨A, cap, rfl⟩ := hv.len
  rw [length_casts] at hv ⊢
  have h1 := hV.h1
  have h6 := hV.h6
  have w1 := hV.w1
  have w6 := hV.w6
  have hS := sums_img hV
  have hl1 := rowSums_len n ns
  have hl2 := colSums_len n ns
  have hrb : ∀ i, i < ns.length → 0 ≤ (rowSums n ns).getD i 0 ∧ (rowSums n ns).getD i 0 ≤ 6 := fun i hi => by
    have := hS.r i (by rw [hl1]; exact hi)
    rw [hl2] at this
    omega
  have hin : InR ns.length (colSums n ns) := fun j hj => by
    have := hS.c j hj
    rwa [hl1] at this
  have himg : ∀ ms, ms ∈ genI n (rowSums n ns) (colSums n ns) → ms.length = ns.length := fun ms hmm => by
    have := gen_img (rs := rowSums n ns) (cs := colSums n ns) (by omega) (by omega) (by omega) (by omega) (by rw [hl2]; exact hmm)
    rw [this.2.2.2, hl1]
  have hme := img_gen hV
  have hvb := validB_of hV
  obtain ⟨W0, eW⟩ : ∃ W0, W0 = w.alloc (.cells #[.int .i64 (n : Int), .slice A ns.length cap] 27) := ⟨_, rfl⟩
  have hB0 : Below w.heap.size w W0 := by rw [eW]; go_grown
  have x0 : W0.cell? ⟨w.heap.size, 0, none⟩ = some (.int .i64 (n : Int)) := by rw [eW]; go_cell
  have x1 : W0.cell? ⟨w.heap.size, 1, none⟩ = some (.slice A ns.length cap) := by rw [eW]; go_cell
  have hz0 : w.heap.size < W0.heap.size := by rw [eW]; simp
  have HVal := ImageValid_c (n : Int) (.slice A ns.length cap) (casts ns) W0 ((hv.below hB0).more hB0.size)
  rw [hvb] at HVal
  have hmi : ((ns.length : Int) * (n : Int)) = ((ns.length * n : Nat) : Int) := (Int.natCast_mul _ _).symm
  have ew : IntKind.i64.wrap ((ns.length : Int) * (n : Int)) = (ns.length : Int) * (n : Int) := IntWalk.i64_in _ (by rw [hmi]; omega)
  have hm16 : ¬ 16 < (ns.length : Int) * (n : Int) := by rw [hmi]; omega
  have HB := Lib.hid (And.intro hrb (And.intro hin (And.intro himg (And.intro hme (And.intro hV hS)))))
  have HV := Lib.hid (And.intro hv hB0)
  have HL := Lib.hid (And.intro hl1 hl2)
  have HLN := Lib.hid (show (genI n (rowSums n ns) (colSums n ns)).length ≤ 65536 from gen_len_cs (by rw [hl1, hl2]; exact hm))
  clear hrb hin himg hme hvb hmi hS hl1 hl2 hv hB0 hm
  have y0 := x0
  have y1 := x1
  rw [eW] at y0 y1
  refine (callsIn_wide (n := 3)).1 ?_
  refine callsIn_of_wp_marks Tryd.func10 rfl trivial ?_ rfl
  simp only [Tryd.ntmps10, List.size_toArray, List.length_cons, List.length_nil, Nat.reduceAdd, Nat.reduceSub, Array.replicate_succ, Array.replicate_zero, List.push_toArray, List.append_toArray, List.nil_append, List.cons_append]
  gi_wp2_with fail
  rw [← eW]
  clear eW y0 y1
  refine ⟨trivial, ?_⟩
  refine (callsIn_wide.2 HVal).mono ?_
  rintro e wv ⟨rfl, hbv⟩
  have y0 := cellB hbv x0
  have y1 := cellB hbv x1
  have HBv := Lib.hid (And.intro (HV.out.2.trans (hbv.mono HV.out.2.size)) hbv.size)
  clear HVal hbv x0 x1
  gi_wp2_with fail
  have hVb : Below wv.heap.size wv (wv.alloc (.cells #[.int .i64 0] 3)) := by go_grown
  have q0 : (wv.alloc (.cells #[.int .i64 0] 3)).cell? ⟨wv.heap.size, 0, none⟩ = some (.int .i64 0) := by go_cell
  have qf : (wv.alloc (.cells #[.int .i64 0] 3)).frozen? ⟨wv.heap.size, 0, none⟩ = false := by go_cell
  obtain ⟨V, eV⟩ : ∃ V, V = wv.alloc (.cells #[.int .i64 0] 3) := ⟨_, rfl⟩
  have hVz : V.heap.size = wv.heap.size + 1 := by rw [eV]; simp
  rw [← eV] at hVb q0 qf ⊢
  have x0 := cellB hVb y0
  have x1 := cellB hVb y1
  have hBV := HBv.out.1.trans (hVb.mono HBv.out.1.size)
  have hIV : Ints V.heap.size V (.slice A ns.length cap) (casts ns) := (HV.out.1.below hBV).more hBV.size
  have hId : Ints V.heap.size V.drew (.slice A ns.length cap) (casts ns) := hIV.drew
  have HR := RowSums_c n _ ns HB.out.2.2.2.2.1 V.drew hId
  have HVV := Lib.hid (And.intro hBV (And.intro q0 (And.intro qf (And.intro hVz hIV))))
  have hsz : w.heap.size < wv.heap.size := by have := HBv.out.2; omega
  clear eV hVb y0 y1 hBV hIV hId q0 qf hVz HBv
  refine wpIn_wide.2 ?_
  go_region_held3 (fun w' : World => w'.cell? ⟨w.heap.size, 0, none⟩ = some (.int .i64 (n : Int)) ∧ w'.cell? ⟨w.heap.size, 1, none⟩ = some (.slice A ns.length cap)) (first | exact ⟨x0, x1⟩ | (refine ⟨?_, ?_⟩ <;> assumption) | go_keep) (first | (go_at_call 35; (with_reducible refine HR.mono ?_); rintro e wp ⟨gr, rfl, hgr, hrp, hbp'⟩; have hbp := Below.undrew hbp'; have p0 := cellB hbp x0; have p1 := cellB hbp x1; have hIp := (Ints.below HVV.out.2.2.2.2 hbp).more hbp.size; clear hbp') | (go_at_call 36; (refine (ColSums_c n _ ns HB.out.2.2.2.2.1 wp hIp).mono ?_); rintro e wq ⟨gc, rfl, hgc, hcq, hbq⟩; have q0 := cellB hbq p0; have q1 := cellB hbq p1; have hrq := hrp.below hbq hrp.lt) | (go_at_call 34; refine (imagesOf_c _ _ _ _ _ _ _).mono ?_; rintro e wt ⟨rfl, rfl⟩; have hba : Below wq.heap.size wq ((wq.alloc (.cells #[.slice (some ⟨gr, 0, none⟩) ns.length ns.length] 23)).alloc (.cells #[.slice (some ⟨gc, 0, none⟩) n n] 23)) := (by go_grown); have t0 := cellB hba q0; have t1 := cellB hba q1))
  have f2 : ((wq.alloc (.cells #[.slice (some ⟨gr, 0, none⟩) ns.length ns.length] 23)).alloc (.cells #[.slice (some ⟨gc, 0, none⟩) n n] 23)).cell? ⟨wq.heap.size, 0, none⟩ = some (.slice (some ⟨gr, 0, none⟩) ns.length ns.length) := by go_cell
  have f3 : ((wq.alloc (.cells #[.slice (some ⟨gr, 0, none⟩) ns.length ns.length] 23)).alloc (.cells #[.slice (some ⟨gc, 0, none⟩) n n] 23)).cell? ⟨wq.heap.size + 1, 0, none⟩ = some (.slice (some ⟨gc, 0, none⟩) n n) := by go_cell
  obtain ⟨U, eU⟩ : ∃ U, U = (wq.alloc (.cells #[.slice (some ⟨gr, 0, none⟩) ns.length ns.length] 23)).alloc (.cells #[.slice (some ⟨gc, 0, none⟩) n n] 23) := ⟨_, rfl⟩
  have hUz : U.heap.size = wq.heap.size + 2 := by rw [eU]; simp
  rw [← eU] at f2 f3 hba t0 t1
  have hzp := hbp.size
  have hzq := hbq.size
  have hbU := (hbp.trans (hbq.mono hbp.size)).trans (hba.mono (hbp.trans (hbq.mono hbp.size)).size)
  have eD : V.drew.heap.size = V.heap.size := rfl
  have hgr' : V.heap.size ≤ gr := hgr
  have hBU := HVV.out.1.trans (hbU.mono HVV.out.1.size)
  have z0 := cellB hbU HVV.out.2.1
  have zf := frozenB hbU HVV.out.2.1 HVV.out.2.2.1
  have hVz := HVV.out.2.2.2.1
  have hrU : Ints U.heap.size U (.slice (some ⟨gr, 0, none⟩) ns.length ns.length) (rowSums n ns) := by
    have h := ((hrq.below hba hrq.lt)).ints ((hrq.below hba hrq.lt)).lt ns.length
    rwa [HL.out.1] at h
  have hcU : Ints U.heap.size U (.slice (some ⟨gc, 0, none⟩) n n) (colSums n ns) := by
    have h := ((hcq.below hba hcq.lt)).ints ((hcq.below hba hcq.lt)).lt n
    rwa [HL.out.2] at h
  have hIU := (HVV.out.2.2.2.2.below hbU).more hbU.size
  have HU := Lib.hid (And.intro f2 (And.intro f3 (And.intro hUz (And.intro hBU (And.intro z0 (And.intro zf (And.intro hrU (And.intro hcU (And.intro hIU (And.intro t0 t1))))))))))
  have hsq : wv.heap.size < wq.heap.size := by omega
  have hgr1 : wv.heap.size < gr ∧ gr < wq.heap.size := ⟨by omega, hrq.lt⟩
  clear hgr' f2 f3 hUz hBU z0 zf hrU hcU hIU t0 t1 hba hbU hbp hbq hrp hrq hcq hIp p0 p1 q0 q1 x0 x1 HVV HR hgr hgc hzp hzq hVz eD
  gi_wp2_with fail
  rw [← eU]
  clear eU
  obtain ⟨f2, f3, hUz, hBU, z0, zf, hrU, hcU, hIU, t0, t1⟩ := HU.out
  have hit := iter_images2 2 n ns.length (rowSums n ns) (colSums n ns) HL.out.1 HL.out.2 h1 h6 w1 w6 HB.out.1 HB.out.2.1 (some ⟨gr, 0, none⟩) (some ⟨gc, 0, none⟩) ns.length n wq.heap.size (wq.heap.size + 1) U.heap.size [wv.heap.size] U f2 f3 hrU hcU (Nat.le_refl _) (fun b off e => by cases e; exact ⟨by omega, by simp; omega⟩) (fun d hd => by simp at hd; subst hd; exact ⟨by omega, by omega⟩)
  obtain ⟨L, eL⟩ : ∃ L, L = genI n (rowSums n ns) (colSums n ns) := ⟨_, rfl⟩
  have hme := HB.out.2.2.2.1
  have himg := HB.out.2.2.1
  have HCN := Lib.hid (show (genI n (rowSums n ns) (colSums n ns)).idxOf ns = L.idxOf ns by rw [eL])
  have hln := HLN.out
  rw [← eL] at hit hme himg hln
  clear HLN
  have HIM := Lib.hid (And.intro hme himg)
  have hvI := HV.out.1
  have HVI := Lib.hid hvI
  have hnl : 0 < ns.length := h1
  clear eL hme himg hvI f2 f3 hrU hcU hIU HU HB HV
  obtain ⟨bw, ebw⟩ : ∃ b, b = wv.heap.size := ⟨_, rfl⟩
  rw [← ebw] at hit hsz hsq hgr1 z0 zf ⊢
  clear ebw
  refine wpIn_rangeImg (gf := 55) (lb := #[.pointer (some ⟨wq.heap.size, 0, none⟩), .pointer (some ⟨wq.heap.size + 1, 0, none⟩)]) (wd := n) (h := ns.length) (D := [bw]) (L := L) (w0 := U) rfl (enters_of Tryd.func55 (by kernel_rfl) rfl) hit (Below.refl _ _) (fun d hd => by simp at hd; subst hd; omega)
    (fun xs W => (∀ x ∈ xs, x ≠ ns) ∧ W.cell? ⟨bw, 0, none⟩ = some (.int .i64 (xs.length : Int)) ∧ W.frozen? ⟨bw, 0, none⟩ = false ∧ W.cell? ⟨w.heap.size, 0, none⟩ = some (.int .i64 (n : Int)) ∧ W.cell? ⟨w.heap.size, 1, none⟩ = some (.slice A ns.length cap) ∧ Below w.heap.size w W)
    (fun c xs a W => c = .exit 0 ∧ ∃ k : Nat, L.idxOf ns = k ∧ W.cell? ⟨bw, 0, none⟩ = some (.int .i64 (k : Int)) ∧ Below w.heap.size w W)
    (fun s A B hs e1 e2 e3 e4 e5 => by
      obtain ⟨im, i0, i1, i2, i3, i8⟩ := hs
      exact ⟨im, (cellK e5 (by omega)).trans i0, (frozenK e5 (by omega)).trans i1, (cellK e5 (by omega)).trans i2, (cellK e5 (by omega)).trans i3, belowKK (by omega) i8 e1 e2 e3 e4 e5⟩)
    (fun c s a A B hs e1 e2 e3 e4 e5 => by
      obtain ⟨hc, k, i0, i1, i2⟩ := hs
      exact ⟨hc, k, i0, cellX e5 i1 (by omega), belowX (by omega) i2 e1 e2 e3 e4 e5⟩)
    ⟨by simp, z0, zf, t0, t1, hBU⟩
    (fun g c W => W.alloc (.cells #[.int .i64 (n : Int), .slice (some ⟨g, 0, none⟩) ns.length c] 27))
    (fun g c W => { tmps := #[.agg #[.int .i64 (n : Int), .slice A ns.length cap], .pointer (some ⟨w.heap.size, 0, none⟩), .int .i64 0, .pointer (some ⟨bw, 0, none⟩), .pointer (some ⟨W.heap.size, 0, none⟩), .agg #[.int .i64 (n : Int), .slice A ns.length cap], .bool true, .bool false, .bool false, .pointer (some ⟨w.heap.size, 1, none⟩), .slice A ns.length cap, .int .i64 (ns.length : Int), .pointer (some ⟨w.heap.size, 0, none⟩), .int .i64 (n : Int), .int .i64 ((ns.length : Int) * (n : Int)), .bool (decide (16 < (ns.length : Int) * (n : Int))), .bool (decide (16 < (ns.length : Int) * (n : Int))), .agg #[.int .i64 (n : Int), .slice A ns.length cap], .slice (some ⟨gr, 0, none⟩) ns.length ns.length, .agg #[.int .i64 (n : Int), .slice A ns.length cap], .slice (some ⟨gc, 0, none⟩) n n, .func (.func 55) #[] #[.pointer (some ⟨wq.heap.size, 0, none⟩), .pointer (some ⟨wq.heap.size + 1, 0, none⟩)], .agg #[.int .i64 (n : Int), .slice (some ⟨g, 0, none⟩) ns.length c], undef, undef, undef, undef, undef, undef], defers := [] })
    (fun g c W => (Below.refl _ W).alloc (Nat.le_refl _) _) ?assign ?body ?done ?stop
  case assign =>
    intro m l g c W K hK
    unfold imgV
    gi_wp2
    exact hK
  case body =>
    rintro m l pre ms g c W W2 ⟨im, i0, i1, i2, i3, hBW⟩ ⟨rest, hpre⟩ hg hW hrow hs2 hoth
    have hmem : ms ∈ L := by rw [hpre]; simp
    have hml := HIM.out.2 ms hmem
    have hpl : pre.length < 65536 := by
      have := congrArg List.length hpre
      rw [List.length_append, List.length_cons] at this
      omega
    have hnew : ∀ o, W2.cell? ⟨W.heap.size, o, none⟩ = (W.alloc (.cells #[.int .i64 (n : Int), .slice (some ⟨g, 0, none⟩) ns.length c] 27)).cell? ⟨W.heap.size, o, none⟩ := fun o => by
      unfold World.cell?
      rw [hoth W.heap.size (by omega)]
    have p0 : W2.cell? ⟨W.heap.size, 0, none⟩ = some (.int .i64 (n : Int)) := by rw [hnew]; go_cell
    have p1 : W2.cell? ⟨W.heap.size, 1, none⟩ = some (.slice (some ⟨g, 0, none⟩) ns.length c) := by rw [hnew]; go_cell
    have hc20 : (casts ns).length ≤ 2097152 := by rw [length_casts]; omega
    have HSM := sameImg_c (n : Int) (n : Int) (.slice A ns.length cap) (.slice (some ⟨g, 0, none⟩) ns.length c) (casts ns) (casts ms) hc20 W2 ((HVI.out.below hBW).more hBW.size) (hrow.intsH (h := ns.length) (c := c) hml)
    by_cases he : ms = ns
    · have hd : decide ((n : Int) = (n : Int) ∧ casts ns = casts ms) = true := by rw [he]; simp
      rw [hd] at HSM
      rw [he] at hpre
      have hidx := idx_here hpre im
      have HID := Lib.hid hidx
      clear hd he hidx hpre hnew hoth hmem hml hrow
      gi_wp2_with fail
      refine ⟨trivial, fun hh => by simp [Fence.wide] at hh, ?_⟩
      refine (CallsIn.inRound l (callsIn_wide.2 HSM)).mono ?_
      rintro e W4 ⟨rfl, hb4⟩
      have k0 := cellB hb4 i0
      have HF := Lib.hid (And.intro (KeepBut.below (D := [bw]) hb4) (And.intro k0 (hBW.trans (hb4.mono hBW.size))))
      clear hb4 hBW i0 i1 i2 i3 p0 p1 HSM k0
      gi_wp2
      exact ⟨HF.out.1, rfl, pre.length, HID.out, HF.out.2.1, HF.out.2.2⟩
    · have hd : decide ((n : Int) = (n : Int) ∧ casts ns = casts ms) = false := by
        rw [decide_eq_false_iff_not]
        exact fun h => he (casts_inj h.2).symm
      rw [hd] at HSM
      obtain ⟨k, ek⟩ : ∃ k, k = pre.length := ⟨_, rfl⟩
      have hlen : ((pre ++ [ms]).length : Int) = (k : Int) + 1 := by rw [List.length_append, ← ek]; simp
      have him' : ∀ x ∈ pre ++ [ms], x ≠ ns := fun x hx => by
        rcases List.mem_append.1 hx with h | h
        · exact im x h
        · rw [List.mem_singleton.1 h]; exact he
      rw [← ek] at i0 hpl
      have HID := Lib.hid (And.intro hlen him')
      have ew : IntKind.i64.wrap ((k : Int) + 1) = (k : Int) + 1 := IntWalk.i64_in _ ⟨by omega, by omega⟩
      clear hd he him' hlen hpre hnew hoth hmem hml hrow im ek
      gi_wp2_with fail
      refine ⟨trivial, fun hh => by simp [Fence.wide] at hh, ?_⟩
      refine (CallsIn.inRound l (callsIn_wide.2 HSM)).mono ?_
      rintro e W4 ⟨rfl, hb4⟩
      have k0 := cellB hb4 i0
      have kf := frozenB hb4 i0 i1
      have k2 := cellB hb4 i2
      have k3 := cellB hb4 i3
      have n1 : (W4.setCell ⟨bw, 0, none⟩ (.int .i64 ((k : Int) + 1))).cell? ⟨bw, 0, none⟩ = some (.int .i64 ((k : Int) + 1)) := World.cell?_setCell_same' _ _ _ (by rw [k0]; rfl)
      have HF := Lib.hid (And.intro ((KeepBut.below (D := [bw]) hb4).trans (KeepBut.setCell W4 (p := ⟨bw, 0, none⟩) (by simp) (.int .i64 ((k : Int) + 1)))) (And.intro n1 (And.intro ((World.frozen?_setCell W4 ⟨bw, 0, none⟩ ⟨bw, 0, none⟩ (.int .i64 ((k : Int) + 1))).trans kf) (And.intro ((World.cell?_setCell_other W4 ⟨bw, 0, none⟩ ⟨w.heap.size, 0, none⟩ (.int .i64 ((k : Int) + 1)) (by simp)).trans k2) (And.intro ((World.cell?_setCell_other W4 ⟨bw, 0, none⟩ ⟨w.heap.size, 1, none⟩ (.int .i64 ((k : Int) + 1)) (by simp)).trans k3) ((hBW.trans (hb4.mono hBW.size)).setCell (p := ⟨bw, 0, none⟩) (by simp; omega) (.int .i64 ((k : Int) + 1))))))))
      clear hb4 hBW i0 i1 i2 i3 p0 p1 HSM k2 k3 n1
      gi_wp2
      exact ⟨HF.out.1, HID.out.2, by rw [HID.out.1]; exact HF.out.2.1, HF.out.2.2.1, HF.out.2.2.2.1, HF.out.2.2.2.2.1, HF.out.2.2.2.2.2⟩
  case done =>
    rintro D W hD ⟨im, _⟩ hK
    exact absurd rfl (im ns HIM.out.1)
  case stop =>
    rintro D c pre aa W hD hDa ⟨rfl, k, i0, i1, i2⟩ hK
    have HS := Lib.hid (And.intro i0 i2)
    clear i0 i2
    gi_wp2
    refine ⟨by simp, .inl ⟨_, _, rfl, run_takeDeferred hK, ?_⟩⟩
    exact ⟨_, results_tmp rfl _ _ _, by rw [HCN.out, HS.out.1]; rfl, HS.out.2.trans (belowK_b (w := w) (Nat.le_refl _) W D _ _ (by omega) hK rfl rfl)⟩
end Go.Proofs.YtilahcpjjaikgaaDoor
