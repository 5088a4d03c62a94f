/- Contract of MomentLines of the reference. Conditions: the slice reads as a list of integers. -/
import Derived.Test.YtbpjceffkchmbaaDoorML2
namespace Go.Proofs.YtbpjceffkchmbaaDoor
open Go.RowKit
theorem part_bdL {ns : List Nat} {w : Nat} {f : Nat → Nat → Int} (hf : ∀ i j, i < 6 → j < 6 → 0 ≤ f i j ∧ f i j ≤ 225) {k m : Nat} (hk : k ≤ 6) (hw : w ≤ 6) (hm : m ≤ w) (hkm : k < 6 ∨ m = 0) : 0 ≤ part ns w f k m ∧ part ns w f k m ≤ 9450 := by
  have hb : ∀ i j, i < 6 → j < 6 → 0 ≤ f i j * b2i (cell ns i j) ∧ f i j * b2i (cell ns i j) ≤ 225 := by
    intro i j hi hj
    have := hf i j hi hj
    cases cell ns i j <;> simp [b2i] <;> omega
  have h1 : ∀ i, i < k → 0 ≤ (sumN w fun j => f i j * b2i (cell ns i j)) ∧ (sumN w fun j => f i j * b2i (cell ns i j)) ≤ 1350 := by
    intro i hi
    have := sumN_bd (n := w) (f := fun j => f i j * b2i (cell ns i j)) (c := 225) fun j hj => hb i j (by omega) (by omega)
    omega
  have h2 := sumN_bd (n := k) (f := fun i => sumN w fun j => f i j * b2i (cell ns i j)) (c := 1350) h1
  have h3 : 0 ≤ (sumN m fun j => f k j * b2i (cell ns k j)) ∧ (sumN m fun j => f k j * b2i (cell ns k j)) ≤ 1350 := by
    rcases hkm with hkm | rfl
    · have := sumN_bd (n := m) (f := fun j => f k j * b2i (cell ns k j)) (c := 225) fun j hj => hb k j hkm (by omega)
      omega
    · simp [sumN]
  unfold part
  omega
set_option maxHeartbeats 2000000 in
theorem sMomentLines_c (W : Int) (v : Value) (rows : List Int) (d : Int) (w : World) (hv : Ints w.heap.size w v rows) :
    Calls Tryd.prog 8 #[.agg #[.int .i64 W, v], .int .i64 d] w fun e w' => e = .returned (.int .i64 (moL W rows d)) ∧ Below w.heap.size w w' := by
  obtain ⟨A, cap, rfl⟩ := hv.len
  have hI := Arg.new hv
  have hW := Below.refl w.heap.size w
  go_enter Tryd.func8, Tryd.ntmps8
  obtain ⟨W0, e_W0⟩ : ∃ W0, W0 = World.alloc w (.cells #[.int .i64 W, .slice A rows.length cap] 25) := ⟨_, rfl⟩
  have hx_W0 := Box2.new w (.int .i64 W) (.slice A rows.length cap) 25
  have hb_W0 : Below (World.heap w).size w W0 := by rw [e_W0]; go_grown
  have HS_W0 := Lib.hid (show (World.heap W0).size = (World.heap w).size + 1 by rw [e_W0]; simp)
  replace hI := hI.below hb_W0
  replace hW := hW.trans (Below.mono hb_W0 hW.size)
  have HE_W0 := Lib.hid e_W0
  clear e_W0
  go_wp2_with fail
  rw [← HE_W0.out] at hx_W0 ⊢
  clear HE_W0
  obtain ⟨hl_x, x0, x1⟩ := hx_W0
  obtain ⟨Bx, e_Bx⟩ : ∃ Bx, Bx = (World.heap w).size := ⟨_, rfl⟩
  rw [← e_Bx] at hl_x x0 x1 hb_W0 HS_W0  ⊢
  have hz_Bx := hb_W0.size
  clear e_Bx hb_W0
  refine (sImageValid_c W _ rows _ hI.ints).mono ?_
  rintro e wc ⟨rfl, hb⟩
  replace hI := hI.below hb
  replace hW := hW.trans (Below.mono hb hW.size)
  replace x0 := cellB hb x0
  replace x1 := cellB hb x1
  clear hv
  cases hval : validB W rows with
  | false =>
    have HM := Lib.hid (moL_no (W := W) (d := d) (rows := rows) (by rw [hval]; rfl))
    clear hval
    go_wp2
    go_returns
    exact ⟨ri HM.out.symm, hW⟩
  | true =>
    go_wp2_with fail
    refine (l21Ok_c d _).mono ?_
    rintro e w' ⟨rfl, rfl⟩
    cases hdir : dirB d with
    | false =>
      have HM := Lib.hid (moL_no (W := W) (d := d) (rows := rows) (by rw [hdir]; simp))
      clear hval hdir
      go_wp2
      go_returns
      exact ⟨ri HM.out.symm, hW⟩
    | true =>
      obtain ⟨n, ns, rfl, rfl, hV⟩ := validB_yes hval
      obtain ⟨dd, rfl, hdd⟩ := dirB_yes hdir
      have HM := Lib.hid (moL_yes hV hdd)
      have h6 := hV.h6
      have w6 := hV.w6
      rw [length_casts] at x1 hI
      have HX := Lib.hid (And.intro x0 (And.intro x1 (And.intro hI hW)))
      rw [length_casts]
      obtain ⟨Wc, eWc⟩ : ∃ Wc, Wc = wc := ⟨_, rfl⟩
      have hbb : Below wc.heap.size wc wc := Below.refl _ _
      clear hval hdir x0 x1 hI hW eWc
      go_wp2_with fail
      go_loopw [5, 6] (fun s q wr => ∃ k : Nat, k ≤ ns.length ∧ q = .int .i64 k ∧ s = .int .i64 (part ns n (sqL dd) k 0) ∧ Below wc.heap.size wc wr) (fun _ q _ => ns.length - (intOf q).toNat)
      case atStart => exact ⟨0, by omega, rfl, by simp [part, sumN], hbb⟩
      case round =>
        clear hbb
        obtain ⟨k, hk, rfl, rfl, hbb⟩ := hrel
        obtain ⟨x0, x1, hI, hW⟩ := HX.out
        have g0 := cell_below hbb x0
        have g1 := cell_below hbb x1
        obtain ⟨S0, eS0⟩ : ∃ S, S = part ns n (sqL dd) k 0 := ⟨_, rfl⟩
        rw [← eS0]
        have HS0 := Lib.hid eS0
        clear eS0 x0 x1
        by_cases hlt : k < ns.length
        · clear hI hW
          go_wp2
          go_loopw [5, 7] (fun s q ws => ∃ m : Nat, m ≤ n ∧ q = .int .i64 m ∧ s = .int .i64 (part ns n (sqL dd) k m) ∧ Below wc.heap.size wc ws) (fun _ q _ => n - (intOf q).toNat)
          case atStart => exact ⟨0, by omega, rfl, by rw [HS0.out], hbb⟩
          case round =>
            clear hbb g0 g1
            obtain ⟨m, hm, rfl, rfl, hbb⟩ := hrel
            obtain ⟨x0, x1, hI, hW⟩ := HX.out
            have g0 := cell_below hbb x0
            have g1 := cell_below hbb x1
            have hIr := hI.below hbb
            clear x0 x1 hI hW
            have hbd := part_bdL (ns := ns) (w := n) (fun i j hi hj => sqL_bd hdd hi hj) (k := k) (m := m) (by omega) w6 hm (.inl (by omega))
            have hst := part_step ns n (sqL dd) k m
            have hst' := part_row ns n (sqL dd) k
            obtain ⟨S, eS⟩ : ∃ S, S = part ns n (sqL dd) k m := ⟨_, rfl⟩
            rw [← eS] at hbd hst ⊢
            have HSS := Lib.hid eS
            have HSR := Lib.hid hst'
            clear eS hst'
            by_cases hmt : m < n
            · have hl := lnO_bd dd hdd k (by omega) m (by omega)
              have hq := sqL_bd (d := dd) (i := k) (j := m) hdd (by omega) (by omega)
              have HL := fun dq os => l21Line_c dd k m hdd (by omega) (by omega) (Go.Sort.grow (redrawn wr dq) os)
              have HG := fun dq os => l11Get_c (n : Int) (.slice A ns.length cap) ns k m hlt (by omega) (by have := hV.get64 k; omega) _ ((hIr.ints.rg (Nat.le_refl _) dq os).more (rg_size _ dq os))
              have e0 : sqL dd k m = lnO dd k m * lnO dd k m := rfl
              rw [e0] at hst hq
              clear e0
              generalize lnO dd k m = z at *
              have hb01 := b2i_bd (cell ns k m)
              generalize b2i (cell ns k m) = b at *
              have hzb : 0 ≤ z * z * b ∧ z * z * b ≤ 225 := ⟨Int.mul_nonneg hq.1 hb01.1, by have := Int.mul_le_mul hq.2 hb01.2 hb01.1 (by omega); omega⟩
              have ew1 : IntKind.i64.wrap (z * z) = z * z := IntWalk.i64_in _ ⟨by omega, by omega⟩
              have ew2 : IntKind.i64.wrap (z * z * b) = z * z * b := IntWalk.i64_in _ ⟨by omega, by omega⟩
              have ew3 : IntKind.i64.wrap (S + z * z * b) = S + z * z * b := IntWalk.i64_in _ ⟨by omega, by omega⟩
              have k0 := cell_regrown g0
              have k1 := cell_regrown g1
              have HST := Lib.hid hst
              clear hst hIr
              go_wp2_with fail
              refine wp_region_quiet_below (by kernel_rfl) (by kernel_rfl) ?_
              repeat (first | go_big_quiet_step (first | (go_at_call 31; with_reducible exact Calls.rg (HL _ _)) | (go_at_call 32; with_reducible exact Calls.rg (HG _ _))) | quiet_step (first | (go_at_call 31; with_reducible exact Calls.rg (HL _ _)) | (go_at_call 32; with_reducible exact Calls.rg (HG _ _))))
              refine wpQuiet_nil ?_
              intro _ hw0
              obtain ⟨⟨dq, osq⟩, hw1⟩ := hw0
              subst hw1
              have hr := below_regrown wr dq osq
              generalize Go.Sort.grow (redrawn wr dq) osq = w2 at hr ⊢
              clear HL HG k0 k1 ew1 ew2 ew3 hzb
              go_wp2
              go_roundw
              case rel => exact ⟨m + 1, by omega, by go_num, by rw [HST.out], hbb.trans (hr.mono hbb.size)⟩
              case measure => simp [intOf]; omega
            · obtain rfl : m = n := by omega
              clear hst hIr
              go_wp2
              go_roundw
              case rel => exact ⟨k + 1, by omega, by go_num, by rw [HSR.out, HSS.out], hbb⟩
              case measure => simp [intOf]; omega
        · obtain rfl : k = ns.length := by omega
          have HF := Lib.hid (hW.trans (hbb.mono hW.size))
          clear hI hW
          go_wp2
          go_returns
          exact ⟨ri (by rw [HM.out, HS0.out, part_all]), HF.out⟩
end Go.Proofs.YtbpjceffkchmbaaDoor
