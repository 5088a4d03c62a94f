/- Contract of the visit of groups: a search in depth that moves cells from one image to another. Conditions: both images have the same size; no cell is set in both. | Slices of images that the call itself makes: what they hold, and append onto them. Conditions: at most 2 to the power of 20 images. | Contract of groups: all parts of an image, each as an image. Conditions: the image is valid. | Contracts of ImageParts and ImagePart. Conditions: the slice reads as a list of integers. | Contracts of count, ImageOther. Conditions: the image is valid. -/
import Derived.Test.YtilahcpjjaikgaaDoorKT
import Derived.Test.YtilahcpjjaikgaaDoorTW
import Derived.Test.YtilahcpjjaikgaaDoorMA
import Derived.OwnWalkIn
import Derived.Test.YtilahcpjjaikgaaDoorK5
import Derived.Test.YtilahcpjjaikgaaDoorML
section
namespace Go.Proofs.YtilahcpjjaikgaaDoor
open Go.RowKit
open Gr
/-- The memory of a visit: the images in blocks gl and gg, the boxes of the four variables. -/
structure VMem (w : World) (near : Bool) (n h Bl Bg Bn Bv gl gg cl cg : Nat) (ls gs : List Nat) : Prop where
  rowL : Row w gl (casts ls)
  rowG : Row w gg (casts gs)
  l0 : w.cell? ⟨Bl, 0, none⟩ = some (.int .i64 (n : Int))
  l1 : w.cell? ⟨Bl, 1, none⟩ = some (.slice (some ⟨gl, 0, none⟩) h cl)
  g0 : w.cell? ⟨Bg, 0, none⟩ = some (.int .i64 (n : Int))
  g1 : w.cell? ⟨Bg, 1, none⟩ = some (.slice (some ⟨gg, 0, none⟩) h cg)
  nb : w.cell? ⟨Bn, 0, none⟩ = some (.bool near)
  vb : w.cell? ⟨Bv, 0, none⟩ = some (.func (.func 85) #[] #[.pointer (some ⟨Bl, 0, none⟩), .pointer (some ⟨Bg, 0, none⟩), .pointer (some ⟨Bn, 0, none⟩), .pointer (some ⟨Bv, 0, none⟩)])
/-- The blocks are apart. -/
structure VApart (Bl Bg Bn Bv gl gg : Nat) : Prop where
  n0 : gl ≠ gg
  n1 : Bl ≠ gl
  n2 : Bl ≠ gg
  n3 : Bg ≠ gl
  n4 : Bg ≠ gg
  n5 : Bn ≠ gl
  n6 : Bn ≠ gg
  n7 : Bv ≠ gl
  n8 : Bv ≠ gg
section
variable {near : Bool} {h w : Nat}
theorem Gr.DInv.disj {ls gs ls' gs' : List Nat} {i j : Nat} {D : Int → Int → Prop} (hv : DInv near h w ls gs i j D ls' gs') (hd : ∀ k l, cell gs k l = true → cell ls k l = false) : ∀ k l, cell gs' k l = true → cell ls' k l = false := by
  intro k l hk
  rw [hv.g] at hk
  rcases Bool.or_eq_true_iff.1 hk with h1 | h1
  · rw [← Bool.not_eq_true]
    intro h2
    have h3 := hv.sub k l h2
    rw [hd k l h1] at h3
    cases h3
  · simpa using (Bool.and_eq_true_iff.1 h1).2
end
theorem ahead_next {near : Bool} {di dj : Int} (x y : Int) (h : Ahead near di (dj + 1) x y) : Ahead near di dj x y ∨ (x = di ∧ y = dj) := by
  obtain ⟨h1, h2, h3, h4, h5, h6⟩ := h
  by_cases e : x = di ∧ y = dj
  · exact .inr e
  · exact .inl ⟨h1, h2, h3, h4, h5, by omega⟩
theorem ahead_skip {near : Bool} {di dj : Int} (hn : ¬ (near = true ∨ di = 0 ∨ dj = 0)) (x y : Int) (h : Ahead near di (dj + 1) x y) : Ahead near di dj x y := by
  rcases ahead_next x y h with h1 | ⟨rfl, rfl⟩
  · exact h1
  · exact (hn h.1).elim
theorem ahead_row {near : Bool} {di dj : Int} (hd : 2 ≤ dj) (x y : Int) (h : Ahead near (di + 1) (-1) x y) : Ahead near di dj x y := by
  obtain ⟨h1, h2, h3, h4, h5, h6⟩ := h
  exact ⟨h1, h2, h3, h4, h5, by omega⟩
set_option maxHeartbeats 1000000 in
theorem visit_none (near : Bool) (n h : Nat) (h1 : 1 ≤ h) (h6 : h ≤ 6) (w1 : 1 ≤ n) (w6 : n ≤ 6) (Bl Bg Bn Bv gl gg cl cg : Nat) (ls gs : List Nat) (i j : Int) (w : World)
    (hls : Sized h n ls) (hgs : Sized h n gs) (hc : cellZ ls i j = false) (hM : VMem w near n h Bl Bg Bn Bv gl gg cl cg ls gs) :
    Calls Tryd.prog 85 #[.int .i64 i, .int .i64 j, .pointer (some ⟨Bl, 0, none⟩), .pointer (some ⟨Bg, 0, none⟩), .pointer (some ⟨Bn, 0, none⟩), .pointer (some ⟨Bv, 0, none⟩)] w fun e w' => e = .returned (.tuple #[]) ∧ VMem w' near n h Bl Bg Bn Bv gl gg cl cg (visL near h n ls i j) (visG near h n ls gs i j) ∧ Only2 w w' gl gg := by
  have eL := visL_none (near := near) hls hc
  have eG := visG_none (near := near) hls hgs hc
  rw [eL, eG]
  have hV := hls.vimg h1 h6 w1 w6
  obtain ⟨hrl, hrg, l0, l1, g0, g1, nb, vb⟩ := hM
  have hT := Only2.refl w gl gg
  have HI := ImageHas_v n _ ls hV i j w (hrl.intsH (c := cl) hls.1)
  rw [hc] at HI
  clear eL eG hc
  go_enter Tryd.func85, Tryd.ntmps85
  go_wp2_with fail
  refine HI.mono ?_
  rintro e wc ⟨rfl, hb⟩
  clear HI
  replace hrl := hrl.below hb hrl.lt
  replace hrg := hrg.below hb hrg.lt
  replace l0 := cellB hb l0
  replace l1 := cellB hb l1
  replace g0 := cellB hb g0
  replace g1 := cellB hb g1
  replace nb := cellB hb nb
  replace vb := cellB hb vb
  replace hT := Only2.trans hT (Only2.of_below hb)
  go_wp2
  go_returns
  exact ⟨rfl, ⟨hrl, hrg, l0, l1, g0, g1, nb, vb⟩, hT⟩
set_option maxRecDepth 100000 in
set_option maxHeartbeats 4000000 in
theorem visit_c (near : Bool) (n h : Nat) (h1 : 1 ≤ h) (h6 : h ≤ 6) (w1 : 1 ≤ n) (w6 : n ≤ 6) (Bl Bg Bn Bv gl gg cl cg : Nat) (hap : VApart Bl Bg Bn Bv gl gg) : ∀ (m : Nat) (ls gs : List Nat) (i j : Int) (w : World),
    Sized h n ls → Sized h n gs → setN h n ls ≤ m → (∀ k l, cell gs k l = true → cell ls k l = false) → VMem w near n h Bl Bg Bn Bv gl gg cl cg ls gs →
    Calls Tryd.prog 85 #[.int .i64 i, .int .i64 j, .pointer (some ⟨Bl, 0, none⟩), .pointer (some ⟨Bg, 0, none⟩), .pointer (some ⟨Bn, 0, none⟩), .pointer (some ⟨Bv, 0, none⟩)] w fun e w' => e = .returned (.tuple #[]) ∧ VMem w' near n h Bl Bg Bn Bv gl gg cl cg (visL near h n ls i j) (visG near h n ls gs i j) ∧ Only2 w w' gl gg := by
  obtain ⟨n0, n1, n2, n3, n4, n5, n6, n7, n8⟩ := hap
  intro m
  induction m with
  | zero =>
    intro ls gs i j w hls hgs hm hdis hM
    have hc : cellZ ls i j = false := by
      rw [← Bool.not_eq_true]
      intro hc
      simp only [cellZ, Bool.and_eq_true, decide_eq_true_eq] at hc
      have : (cellsL h n).filter (fun c => cell ls c.1 c.2) = [] := List.eq_nil_of_length_eq_zero (Nat.le_zero.1 hm)
      have hmem : (i.toNat, j.toNat) ∈ (cellsL h n).filter (fun c => cell ls c.1 c.2) := List.mem_filter.2 ⟨mem_cellsL.2 (hls.cell_in hc.2), hc.2⟩
      rw [this] at hmem
      cases hmem
    exact visit_none near n h h1 h6 w1 w6 Bl Bg Bn Bv gl gg cl cg ls gs i j w hls hgs hc hM
  | succ m ih =>
    intro ls gs i j w hls hgs hm hdis hM
    cases hc : cellZ ls i j with
    | false => exact visit_none near n h h1 h6 w1 w6 Bl Bg Bn Bv gl gg cl cg ls gs i j w hls hgs hc hM
    | true =>
      have hc2 := hc
      simp only [cellZ, Bool.and_eq_true, decide_eq_true_eq] at hc2
      obtain ⟨⟨hi0, hj0⟩, hca⟩ := hc2
      obtain ⟨a, rfl⟩ := Int.eq_ofNat_of_zero_le hi0
      obtain ⟨b, rfl⟩ := Int.eq_ofNat_of_zero_le hj0
      simp only [Int.toNat_natCast] at hca
      have hin := hls.cell_in hca
      have hgn : cell gs a b = false := by
        rw [← Bool.not_eq_true]
        intro hg
        rw [hdis a b hg] at hca
        cases hca
      have hV := hls.vimg h1 h6 w1 w6
      have hVg := hgs.vimg h1 h6 w1 w6
      obtain ⟨hrl, hrg, l0, l1, g0, g1, nb, vb⟩ := hM
      have hT := Only2.refl w gl gg
      have HI := ImageHas_v n _ ls hV a b w (hrl.intsH (c := cl) hls.1)
      rw [hc] at HI
      have hD0 : DInv near h n ls gs a b (Ahead near (-1) (-1)) (putL ls a b false) (putL gs a b true) := DInv.start hls hgs hca (fun x y hh => by obtain ⟨_, _, _, _, _, _⟩ := hh; omega)
      have HF1 : ∀ W, Row W gl (casts ls) → Calls Tryd.prog 74 #[.agg #[.int .i64 (n : Int), .slice (some ⟨gl, 0, none⟩) h cl], .int .i64 (a : Int), .int .i64 (b : Int)] W fun e w' => e = .returned (.tuple #[]) ∧ Row w' gl (casts (putL ls a b false)) ∧ W.grownBy w' (some gl) := fun W hr => by
        have := flip_h (n : Int) gl cl h ls hls.1 a b hin.1 (by omega) (hV.get64 a) W hr
        rwa [hca] at this
      have HF2 : ∀ W, Row W gg (casts gs) → Calls Tryd.prog 74 #[.agg #[.int .i64 (n : Int), .slice (some ⟨gg, 0, none⟩) h cg], .int .i64 (a : Int), .int .i64 (b : Int)] W fun e w' => e = .returned (.tuple #[]) ∧ Row w' gg (casts (putL gs a b true)) ∧ W.grownBy w' (some gg) := fun W hr => by
        have := flip_h (n : Int) gg cg h gs hgs.1 a b hin.1 (by omega) (hVg.get64 a) W hr
        rwa [hgn] at this
      have HCA := Lib.hid hca
      have HDIS := Lib.hid hdis
      have HM := Lib.hid hm
      have HIH := Lib.hid ih
      obtain ⟨ha6, hb6⟩ : a < 6 ∧ b < 6 := ⟨by omega, by omega⟩
      clear hc hca hgn hdis hm ih hi0 hj0
      go_enter Tryd.func85, Tryd.ntmps85
      go_wp2_with fail
      refine HI.mono ?_
      rintro e wc ⟨rfl, hb⟩
      clear HI
      replace hrl := hrl.below hb hrl.lt
      replace hrg := hrg.below hb hrg.lt
      replace l0 := cellB hb l0
      replace l1 := cellB hb l1
      replace g0 := cellB hb g0
      replace g1 := cellB hb g1
      replace nb := cellB hb nb
      replace vb := cellB hb vb
      replace hT := Only2.trans hT (Only2.of_below hb)
      go_wp2_with fail
      refine (HF1 _ hrl).mono ?_
      rintro e wc ⟨rfl, hrl', hg⟩
      clear hrl
      replace hrg := hrg.only hg (by first | assumption | omega | (simp; omega))
      replace l0 := cell_only hg l0 (by first | assumption | omega | (simp; omega))
      replace l1 := cell_only hg l1 (by first | assumption | omega | (simp; omega))
      replace g0 := cell_only hg g0 (by first | assumption | omega | (simp; omega))
      replace g1 := cell_only hg g1 (by first | assumption | omega | (simp; omega))
      replace nb := cell_only hg nb (by first | assumption | omega | (simp; omega))
      replace vb := cell_only hg vb (by first | assumption | omega | (simp; omega))
      replace hT := Only2.trans hT (by first | exact Only2.of_a hg | exact Only2.of_b hg)
      go_wp2_with fail
      refine (HF2 _ hrg).mono ?_
      rintro e wc ⟨rfl, hrg', hg⟩
      clear hrg
      replace l0 := cell_only hg l0 (by first | assumption | omega | (simp; omega))
      replace l1 := cell_only hg l1 (by first | assumption | omega | (simp; omega))
      replace g0 := cell_only hg g0 (by first | assumption | omega | (simp; omega))
      replace g1 := cell_only hg g1 (by first | assumption | omega | (simp; omega))
      replace nb := cell_only hg nb (by first | assumption | omega | (simp; omega))
      replace vb := cell_only hg vb (by first | assumption | omega | (simp; omega))
      replace hT := Only2.trans hT (by first | exact Only2.of_a hg | exact Only2.of_b hg)
      replace hrl' := hrl'.only hg (by first | assumption | omega | (simp; omega))
      have hM0 : VMem wc near n h Bl Bg Bn Bv gl gg cl cg (putL ls a b false) (putL gs a b true) := ⟨hrl', hrg', l0, l1, g0, g1, nb, vb⟩
      have HM0 := Lib.hid (And.intro hM0 hT)
      clear hM0 hT hrl' hrg' l0 l1 g0 g1 nb vb HF1 HF2
      go_wp2_with fail
      go_loopw [8] (fun s wr => ∃ (di : Int) (ls' gs' : List Nat), -1 ≤ di ∧ di ≤ 2 ∧ s = .int .i64 di ∧ DInv near h n ls gs a b (Ahead near di (-1)) ls' gs' ∧ VMem wr near n h Bl Bg Bn Bv gl gg cl cg ls' gs' ∧ Only2 w wr gl gg) (fun s _ => (2 - intOf s).toNat)
      case atStart => exact ⟨-1, _, _, by omega, by omega, rfl, hD0, HM0.out.1, HM0.out.2⟩
      case round =>
        obtain ⟨di, ls', gs', hd1, hd2, rfl, hD, hM, hT⟩ := hrel
        by_cases hdl : di ≤ 1
        · go_wp2_with fail
          go_loopw [9] (fun s wr => ∃ (dj : Int) (ls' gs' : List Nat), -1 ≤ dj ∧ dj ≤ 2 ∧ s = .int .i64 dj ∧ DInv near h n ls gs a b (Ahead near di dj) ls' gs' ∧ VMem wr near n h Bl Bg Bn Bv gl gg cl cg ls' gs' ∧ Only2 w wr gl gg) (fun s _ => (2 - intOf s).toNat)
          case atStart => exact ⟨-1, _, _, by omega, by omega, rfl, hD, hM, hT⟩
          case round =>
            clear hD hM hT
            obtain ⟨dj, ls', gs', he1, he2, rfl, hD, hM, hT⟩ := hrel
            by_cases hel : dj ≤ 1
            · have hnb := hM.nb
              have hvb := hM.vb
              by_cases hcond : near = true ∨ di = 0 ∨ dj = 0
              · have HC := HIH.out ls' gs' ((a : Int) + di) ((b : Int) + dj) wr hD.vl hD.vg (by have := hD.less hls HCA.out; have := HM.out; omega) (hD.disj HDIS.out) hM
                have hst := hD.step hcond ⟨hd1, hdl⟩ ⟨he1, hel⟩ (D' := Ahead near di (dj + 1)) (fun x y hh => ahead_next x y hh)
                have HST := Lib.hid hst
                have HHC := Lib.hid HC
                clear hst HC
                cases near with
                | true =>
                  clear hcond
                  go_wp2_with fail
                  refine HHC.out.mono ?_
                  rintro e wc ⟨rfl, hM2, ho⟩
                  go_wp2
                  go_roundw
                  case rel => exact ⟨dj + 1, _, _, by omega, by omega, by go_num, HST.out, hM2, hT.trans ho⟩
                  case measure => simp [intOf]; omega
                | false =>
                  by_cases hdi0 : di = 0
                  · have hdb : (di == 0) = true := by simp [hdi0]
                    clear hcond hdi0
                    go_wp2_with fail
                    refine HHC.out.mono ?_
                    rintro e wc ⟨rfl, hM2, ho⟩
                    go_wp2
                    go_roundw
                    case rel => exact ⟨dj + 1, _, _, by omega, by omega, by go_num, HST.out, hM2, hT.trans ho⟩
                    case measure => simp [intOf]; omega
                  · have hdj0 : dj = 0 := by
                      rcases hcond with h | h | h
                      · cases h
                      · exact (hdi0 h).elim
                      · exact h
                    have hdb : (di == 0) = false := by simp [hdi0]
                    have heb : (dj == 0) = true := by simp [hdj0]
                    clear hcond hdi0 hdj0
                    go_wp2_with fail
                    refine HHC.out.mono ?_
                    rintro e wc ⟨rfl, hM2, ho⟩
                    go_wp2
                    go_roundw
                    case rel => exact ⟨dj + 1, _, _, by omega, by omega, by go_num, HST.out, hM2, hT.trans ho⟩
                    case measure => simp [intOf]; omega
              · have hst := hD.pass (D' := Ahead near di (dj + 1)) (ahead_skip hcond)
                have HST := Lib.hid hst
                have hdb : (di == 0) = false := by simp; omega
                have heb : (dj == 0) = false := by simp; omega
                have hnf : near = false := by cases near <;> simp_all
                subst hnf
                clear hst hcond
                go_wp2
                go_roundw
                case rel => exact ⟨dj + 1, _, _, by omega, by omega, by go_num, HST.out, hM, hT⟩
                case measure => simp [intOf]; omega
            · go_wp2
              go_roundw
              case rel => exact ⟨di + 1, _, _, by omega, by omega, by go_num, hD.pass (fun x y hh => ahead_row (by omega) x y hh), hM, hT⟩
              case measure => simp [intOf]; omega
        · have hfin := hD.finish hls hgs HCA.out (fun x y hh x1 x2 y1 y2 => ⟨hh, x1, x2, y1, y2, by omega⟩)
          have HFIN := Lib.hid hfin
          clear hfin
          go_wp2
          go_returns
          rw [HFIN.out.1, HFIN.out.2] at hM
          exact ⟨rfl, hM, hT⟩
end Go.Proofs.YtilahcpjjaikgaaDoor
end

section
namespace Go.Proofs.YtilahcpjjaikgaaDoor
open Go.RowKit
theorem img_info : (Tryd.prog.info? 27).map (fun i => (i.zero, i.size, i.bytes)) = some (some (.agg #[.int .i64 0, .slice none 0 0]), 2, 32) := by kernel_rfl
/-- The cells of some images: width and rows, each. -/
def flatV (L : List (Value × Value)) : List Value := L.flatMap fun p => [p.1, p.2]
theorem flatV_append (L M : List (Value × Value)) : flatV (L ++ M) = flatV L ++ flatV M := by simp [flatV]
theorem flatV_length (L : List (Value × Value)) : (flatV L).length = L.length * 2 := by
  induction L with
  | nil => rfl
  | cons p L ih => simp [flatV] at ih ⊢; omega
theorem flatV_get (L : List (Value × Value)) (k : Nat) (p : Value × Value) (h : L[k]? = some p) : (flatV L)[k * 2]? = some p.1 ∧ (flatV L)[k * 2 + 1]? = some p.2 := by
  induction L generalizing k with
  | nil => simp at h
  | cons q L ih =>
    cases k with
    | zero => simp at h; subst h; simp [flatV]
    | succ k =>
      have := ih k (by simpa using h)
      have e1 : (k + 1) * 2 = k * 2 + 1 + 1 := by omega
      rw [e1]
      simpa [flatV] using this
/-- The slice value v owns the images L, in a block from base on. -/
def OwnP (w : World) (base : Nat) (v : Value) (L : List (Value × Value)) : Prop := w.ownsRow base 27 2 v L.length (flatV L)
theorem OwnP.nil (w : World) (base : Nat) : OwnP w base (.slice none 0 0) [] := ⟨rfl, .inl ⟨rfl, rfl⟩⟩
theorem OwnP.form {w : World} {base : Nat} {v : Value} {L : List (Value × Value)} (h : OwnP w base v L) : ∃ A n c, v = .slice A n c := by
  rcases h.2 with ⟨e, _⟩ | ⟨g, cap, cur, e, _⟩
  · exact ⟨_, _, _, e⟩
  · exact ⟨_, _, _, e⟩
theorem one_flat {x y : Value} (hx : x.oneCell' = true) (hy : y.oneCell' = true) : ∀ u ∈ flatV [(x, y)], u.oneCell' = true := by
  intro u hu
  simp [flatV] at hu
  rcases hu with rfl | rfl
  · exact hx
  · exact hy
theorem run_appP (w : World) (ty : TypeId) {base : Nat} {v : Value} {L : List (Value × Value)} (hown : OwnP w base v L) {b c : Nat} {x y : Value} (hx : x.oneCell' = true) (hy : y.oneCell' = true) (h0 : w.cell? ⟨b, 0, none⟩ = some x) (h1 : w.cell? ⟨b, 1, none⟩ = some y) (hlen : L.length ≤ 1048576) (hbase : base ≤ w.heap.size) :
    ∃ v' w', (Builtin.append_ #[45, 45] ty #[v, .slice (some ⟨b, 0, none⟩) 1 c]).run Tryd.prog w = .ok v' w' ∧ OwnP w' base v' (L ++ [(x, y)]) ∧ w.grownBy w' v.ownBlock ∧ (v'.ownBlock = v.ownBlock ∨ v'.ownBlock = some w.heap.size) := by
  obtain ⟨i0, hi, hz0, hz1, hz2⟩ := info_parts img_info
  obtain ⟨v', w', hrun, h2, h3, h4, h5⟩ := run_append_own_at (P := Tryd.prog) w base 45 ty 27 i0 (.agg #[.int .i64 0, .slice none 0 0]) 2 32 Tryd.underlying45 hi hz0 hz1 hz2 rfl (by decide) v L.length (flatV L) hown ⟨b, 0, none⟩ 1 c (flatV [(x, y)]) (by simp [flatV])
    (fun j u hj => by
      rw [Go.WideShapes.add_plain]
      match j with
      | 0 => simp [flatV] at hj; subst hj; exact h0
      | 1 => simp [flatV] at hj; subst hj; exact h1
      | j + 2 => simp [flatV] at hj)
    (one_flat hx hy) (by unfold maxLen; omega) (by omega) hbase
  refine ⟨v', w', hrun, ?_, h3, h5⟩
  unfold OwnP
  rw [List.length_append, flatV_append]
  exact h2
theorem wp_appP {o : Oper} {a : Act} {w : World} {K : Act → World → Prop} {Q : Exit → Act → World → Prop} (s z : Operand) (ho : o.op = .call { callee := .builtin .append, args := #[s, z], argTypes := #[45, 45] })
    {base : Nat} {v : Value} {L : List (Value × Value)} (hs : a.eval s = v) (hown : OwnP w base v L) {b c : Nat} {x y : Value} (hz : a.eval z = .slice (some ⟨b, 0, none⟩) 1 c) (hx : x.oneCell' = true) (hy : y.oneCell' = true) (h0 : w.cell? ⟨b, 0, none⟩ = some x) (h1 : w.cell? ⟨b, 1, none⟩ = some y) (hlen : L.length ≤ 1048576) (hbase : base ≤ w.heap.size)
    (h : ∀ v' w', OwnP w' base v' (L ++ [(x, y)]) → w.grownBy w' v.ownBlock → (v'.ownBlock = v.ownBlock ∨ v'.ownBlock = some w.heap.size) → K (a.put o.dst v') w') : o.wp Tryd.prog a w K Q := by
  obtain ⟨v', w', hrun, h2, h3, h4⟩ := run_appP w o.type hown hx hy h0 h1 hlen hbase (c := c)
  unfold Oper.wp execOp
  simp only [ho, resolve, invoke, builtin, Sem.run_bind, Sem.run_pure, Result.andThen_ok, List.map_toArray, List.map_cons, List.map_nil, hs, hz, hrun]
  exact h v' w' h2 h3 h4
theorem wpList_appP {ops : Array Oper} {rest : List Oper} {o : Oper} {a : Act} {w : World} {Q : Exit → Act → World → Prop} (hgd : o.guard = none) (s z : Operand) (ho : o.op = .call { callee := .builtin .append, args := #[s, z], argTypes := #[45, 45] })
    {base : Nat} {v : Value} {L : List (Value × Value)} (hs : a.eval s = v) (hown : OwnP w base v L) {b c : Nat} {x y : Value} (hz : a.eval z = .slice (some ⟨b, 0, none⟩) 1 c) (hx : x.oneCell' = true) (hy : y.oneCell' = true) (h0 : w.cell? ⟨b, 0, none⟩ = some x) (h1 : w.cell? ⟨b, 1, none⟩ = some y) (hlen : L.length ≤ 1048576) (hbase : base ≤ w.heap.size)
    (h : ∀ v' w', OwnP w' base v' (L ++ [(x, y)]) → w.grownBy w' v.ownBlock → (v'.ownBlock = v.ownBlock ∨ v'.ownBlock = some w.heap.size) → wpList Tryd.prog ops Q rest (a.put o.dst v') w') : wpList Tryd.prog ops Q (o :: rest) a w :=
  wpList_plain hgd fun _ hK => wp_appP s z ho hs hown hz hx hy h0 h1 hlen hbase fun v' w' h2 h3 h4 => hK _ _ (h v' w' h2 h3 h4)
theorem wpListIn_appP {F : Fence} {nn : Nat} {ops : Array Oper} {rest : List Oper} {o : Oper} {a : Act} {w : World} {Q : Exit → Act → World → Prop} (hgd : o.guard = none) (s z : Operand) (ho : o.op = .call { callee := .builtin .append, args := #[s, z], argTypes := #[45, 45] })
    {base : Nat} {v : Value} {L : List (Value × Value)} (hs : a.eval s = v) (hown : OwnP w base v L) {b c : Nat} {x y : Value} (hz : a.eval z = .slice (some ⟨b, 0, none⟩) 1 c) (hx : x.oneCell' = true) (hy : y.oneCell' = true) (h0 : w.cell? ⟨b, 0, none⟩ = some x) (h1 : w.cell? ⟨b, 1, none⟩ = some y) (hlen : L.length ≤ 1048576) (hbase : base ≤ w.heap.size)
    (h : ∀ v' w', OwnP w' base v' (L ++ [(x, y)]) → w.grownBy w' v.ownBlock → (v'.ownBlock = v.ownBlock ∨ v'.ownBlock = some w.heap.size) → wpListIn F nn Tryd.prog ops Q rest (a.put o.dst v') w') : wpListIn F nn Tryd.prog ops Q (o :: rest) a w := by
  refine wpListIn_plain hgd fun K hK' => ?_
  obtain ⟨v', w', hrun, h2, h3, h4⟩ := run_appP w o.type hown hx hy h0 h1 hlen hbase (c := c)
  unfold Oper.wpIn
  refine ⟨?_, ?_⟩
  · simp [Oper.about, ho, resolve, Target.leads, Sem.run_pure]
  · rw [Oper.semAt_plain F _ _ (by rw [ho]; intro c hc'; cases hc')]
    simp [execOp, ho, resolve, invoke, builtin, hs, hz, hrun, Result.andThen]
    exact hK' _ _ (h v' w' h2 h3 h4)
/-- Images of the call's own: n columns, h rows, rows L; their blocks from base on, below top, none of them gl. -/
structure Imgs (base top gl : Nat) (w : World) (n h : Nat) (v : Value) (L : List (List Nat)) (gs : List (Nat × Nat)) : Prop where
  len : gs.length = L.length
  own : OwnP w base v (gs.map fun p => (.int .i64 (n : Int), .slice (some ⟨p.1, 0, none⟩) h p.2))
  rows : ∀ k, k < L.length → Row w (gs.getD k (0, 0)).1 (casts (L.getD k [])) ∧ base ≤ (gs.getD k (0, 0)).1 ∧ (gs.getD k (0, 0)).1 < top ∧ (gs.getD k (0, 0)).1 ≠ gl
  blk : ∀ b, v.ownBlock = some b → base ≤ b ∧ b < top ∧ b ≠ gl
  dis : ∀ k b, k < L.length → v.ownBlock = some b → (gs.getD k (0, 0)).1 ≠ b
theorem cell_grown {w w' : World} {row : Option Nat} {p : Addr} {v : Value} (h : w.cell? p = some v) (hg : w.grownBy w' row) (hne : ∀ b, row = some b → p.block ≠ b) : w'.cell? p = some v := by
  have hb := hg.block p.block (lt_of_cell h) (fun e => hne _ e.symm rfl)
  rw [← h]
  unfold World.cell?
  rw [hb]
theorem frozen_grown {w w' : World} {row : Option Nat} {p : Addr} {v : Value} (h : w.cell? p = some v) (hg : w.grownBy w' row) (hne : ∀ b, row = some b → p.block ≠ b) {x : Bool} (hf : w.frozen? p = x) : w'.frozen? p = x := by
  have hb := hg.block p.block (lt_of_cell h) (fun e => hne _ e.symm rfl)
  rw [← hf]
  unfold World.frozen?
  rw [hb]
theorem keeps2 {w w' : World} {a b : Nat} {xs ys : List Int} (hr : Row w a xs) (hs : Row w b ys) (ho : Only2 w w' a b) : KeepsOthers w w' := ⟨ho.size, fun k o hk hc => by
  have hlt := (Array.getElem?_eq_some_iff.1 hk).1
  refine (ho.block k hlt ?_ ?_).trans hk
  · rintro rfl
    obtain ⟨sp, h⟩ := hr
    rw [h] at hk
    cases hk
    cases hc
  · rintro rfl
    obtain ⟨sp, h⟩ := hs
    rw [h] at hk
    cases hk
    cases hc⟩
theorem keepsOwn {w w' : World} {base : Nat} {v : Value} {L : List (Value × Value)} (hown : OwnP w base v L) (hg : w.grownBy w' v.ownBlock) : KeepsOthers w w' := KeepsOthers.of_grownBy hg (fun j o e ho => by
  rcases hown.2 with ⟨e2, _⟩ | ⟨g, cap, cur, e2, _, hh, _⟩
  · rw [e2] at e; simp [Value.ownBlock] at e
  · rw [e2] at e
    simp [Value.ownBlock] at e
    subst e
    rw [hh] at ho
    cases ho
    rfl)
section
variable {base top gl n h : Nat} {w w' : World} {v : Value} {L : List (List Nat)} {gs : List (Nat × Nat)}
theorem Imgs.nil (base top gl : Nat) (w : World) (n h : Nat) : Imgs base top gl w n h (.slice none 0 0) [] [] :=
  ⟨rfl, OwnP.nil w base, fun k hk => by simp at hk, fun b hb => by simp [Value.ownBlock] at hb, fun k _ hk => by simp at hk⟩
theorem Imgs.turn (hi : Imgs base top gl w n h v L gs) (hb : ∀ b, b < w.heap.size → base ≤ b → b < top → b ≠ gl → (∃ o : Obj, w.heap[b]? = some o ∧ o.isCells = true) → w'.heap[b]? = w.heap[b]?) : Imgs base top gl w' n h v L gs := by
  refine ⟨hi.len, ?_, fun k hk => ?_, hi.blk, hi.dis⟩
  · refine ⟨hi.own.1, ?_⟩
    rcases hi.own.2 with h2 | ⟨g, cap, cur, e, hg, hh, r⟩
    · exact .inl h2
    · subst e
      have := hi.blk g rfl
      exact .inr ⟨g, cap, cur, rfl, hg, (hb g (Array.getElem?_eq_some_iff.1 hh).1 this.1 this.2.1 this.2.2 ⟨_, hh, rfl⟩).trans hh, r⟩
  · obtain ⟨h1, h2, h3, h4⟩ := hi.rows k hk
    exact ⟨h1.of_block (hb _ h1.lt h2 h3 h4 (by obtain ⟨sp, hh⟩ := h1; exact ⟨_, hh, rfl⟩)), h2, h3, h4⟩
theorem Imgs.below (hi : Imgs base top gl w n h v L gs) (hb : Below w.heap.size w w') : Imgs base top gl w' n h v L gs := hi.turn fun b h1 _ _ _ _ => hb.block b h1
theorem Imgs.only2 {a b : Nat} (hi : Imgs base top gl w n h v L gs) (ho : Only2 w w' a b) (ha : a = gl ∨ a < base ∨ top ≤ a) (hb : b = gl ∨ b < base ∨ top ≤ b) : Imgs base top gl w' n h v L gs :=
  hi.turn fun k h1 h2 h3 h4 _ => ho.block k h1 (by omega) (by omega)
theorem Imgs.only {a : Nat} (hi : Imgs base top gl w n h v L gs) (ho : w.grownBy w' (some a)) (ha : a = gl ∨ a < base ∨ top ≤ a) : Imgs base top gl w' n h v L gs :=
  hi.turn fun k h1 h2 h3 h4 _ => ho.block k h1 (by intro e; cases e; omega)
theorem Imgs.set (hi : Imgs base top gl w n h v L gs) {p : Addr} (hp : p.block = gl ∨ p.block < base ∨ top ≤ p.block) (u : Value) : Imgs base top gl (w.setCell p u) n h v L gs :=
  hi.turn fun k h1 h2 h3 h4 _ => Below.heap_setCell w p u k (by omega)
theorem Imgs.kept {row : Option Nat} (hi : Imgs base top gl w n h v L gs) (hg : w.grownBy w' row) (hr : ∀ r, row = some r → ∃ o : Obj, w.heap[r]? = some o ∧ o.isCells = false) : Imgs base top gl w' n h v L gs :=
  hi.turn fun k h1 _ _ _ ⟨o, ho, hc⟩ => hg.block k h1 (fun e => by
    obtain ⟨o', ho', hc'⟩ := hr k e.symm
    rw [ho] at ho'
    cases ho'
    rw [hc] at hc'
    cases hc')
theorem Imgs.lower (hi : Imgs base top gl w n h v L gs) {base' : Nat} (hb : base' ≤ base) {gl' : Nat} (hgl : top ≤ gl') : Imgs base' top gl' w n h v L gs := by
  refine ⟨hi.len, ⟨hi.own.1, ?_⟩, fun k hk => ?_, fun b hb' => ?_, hi.dis⟩
  · rcases hi.own.2 with h2 | ⟨g, cap, cur, e, hg, r⟩
    · exact .inl h2
    · exact .inr ⟨g, cap, cur, e, by omega, r⟩
  · obtain ⟨h1, h2, h3, h4⟩ := hi.rows k hk
    exact ⟨h1, by omega, h3, by omega⟩
  · have := hi.blk b hb'
    omega
theorem Imgs.up (hi : Imgs base top gl w n h v L gs) {top' : Nat} (ht : top ≤ top') : Imgs base top' gl w n h v L gs :=
  ⟨hi.len, hi.own, fun k hk => by obtain ⟨h1, h2, h3, h4⟩ := hi.rows k hk; exact ⟨h1, h2, by omega, h4⟩, fun b hb => by have := hi.blk b hb; omega, hi.dis⟩
/-- What a read of the slice's k-th image gives. -/
theorem Imgs.form (hi : Imgs base top gl w n h v L gs) : ∃ A c, v = .slice A L.length c := by
  rcases hi.own.2 with ⟨e, h0⟩ | ⟨g, cap, cur, e, _⟩
  · have h2 : L.length = 0 := by have := hi.len; rw [List.length_map] at h0; omega
    exact ⟨none, 0, by rw [e, h2]⟩
  · refine ⟨some ⟨g, 0, none⟩, cap, ?_⟩
    rw [e, List.length_map, hi.len]
theorem Imgs.get (hi : Imgs base top gl w n h v L gs) {k : Nat} (hk : k < L.length) : ∃ b c, v = .slice (some ⟨b, 0, none⟩) L.length c ∧ base ≤ b ∧ b < top ∧ b < w.heap.size ∧ w.cell? ⟨b, k * 2, none⟩ = some (.int .i64 (n : Int)) ∧ w.cell? ⟨b, k * 2 + 1, none⟩ = some (.slice (some ⟨(gs.getD k (0, 0)).1, 0, none⟩) h (gs.getD k (0, 0)).2) := by
  have hl := hi.len
  rcases hi.own.2 with ⟨_, h0⟩ | ⟨g, cap, cur, e, hg, hh, _⟩
  · rw [List.length_map] at h0; omega
  · subst e
    have hb := hi.blk g rfl
    refine ⟨g, cap, by rw [List.length_map, hl], hb.1, hb.2.1, (Array.getElem?_eq_some_iff.1 hh).1, ?_⟩
    have hget : (gs.map fun p => ((.int .i64 (n : Int), .slice (some ⟨p.1, 0, none⟩) h p.2) : Value × Value))[k]? = some (.int .i64 (n : Int), .slice (some ⟨(gs.getD k (0, 0)).1, 0, none⟩) h (gs.getD k (0, 0)).2) := by
      rw [List.getElem?_map, List.getElem?_eq_getElem (by omega), List.getD_eq_getElem?_getD, List.getElem?_eq_getElem (by omega)]
      rfl
    obtain ⟨f0, f1⟩ := flatV_get _ k _ hget
    have c0 := World.ownsRow.cells hi.own (g := g) rfl _ _ f0
    have c1 := World.ownsRow.cells hi.own (g := g) rfl _ _ f1
    rw [Go.WideShapes.add_plain] at c0 c1
    simp only [Nat.zero_add] at c0 c1
    exact ⟨c0, c1⟩
/-- One image more. -/
theorem Imgs.snoc {v' : Value} {g c : Nat} {ms : List Nat} (hi : Imgs base top gl w n h v L gs) (hown : OwnP w' base v' ((gs.map fun p => (.int .i64 (n : Int), .slice (some ⟨p.1, 0, none⟩) h p.2)) ++ [(.int .i64 (n : Int), .slice (some ⟨g, 0, none⟩) h c)]))
    (hg : w.grownBy w' v.ownBlock) (hob : v'.ownBlock = v.ownBlock ∨ v'.ownBlock = some w.heap.size) (hr : Row w g (casts ms)) (hgb : base ≤ g) (hgt : top ≤ g) (hgl : g ≠ gl) (hgll : gl < w.heap.size) : Imgs base w'.heap.size gl w' n h v' (L ++ [ms]) (gs ++ [(g, c)]) := by
  have hl := hi.len
  have hgn : ∀ b, v.ownBlock = some b → g ≠ b := fun b hb e => by have := hi.blk b hb; omega
  refine ⟨by simp [hl], by simpa using hown, fun k hk => ?_, fun b hb => ?_, fun k b hk hb => ?_⟩
  · by_cases e : k < L.length
    · obtain ⟨h1, h2, h3, h4⟩ := hi.rows k e
      have e1 : (gs ++ [(g, c)]).getD k (0, 0) = gs.getD k (0, 0) := by simp [List.getD_eq_getElem?_getD, List.getElem?_append, hl, e]
      have e2 : (L ++ [ms]).getD k [] = L.getD k [] := by simp [List.getD_eq_getElem?_getD, List.getElem?_append, e]
      rw [e1, e2]
      exact ⟨h1.grown hg (fun e3 => hi.dis k _ e e3.symm rfl), h2, Nat.lt_of_lt_of_le h1.lt hg.size, h4⟩
    · have hk2 : k = L.length := by simp at hk; omega
      subst hk2
      have e1 : (gs ++ [(g, c)]).getD L.length (0, 0) = (g, c) := by rw [← hl]; simp [List.getD_eq_getElem?_getD]
      have e2 : (L ++ [ms]).getD L.length [] = ms := by simp [List.getD_eq_getElem?_getD]
      rw [e1, e2]
      exact ⟨hr.grown hg (fun e3 => hgn _ e3.symm rfl), hgb, Nat.lt_of_lt_of_le hr.lt hg.size, hgl⟩
  · have hlt := World.ownsRow.lt hown b hb
    refine ⟨hlt.1, hlt.2, ?_⟩
    rcases hob with hob | hob
    · exact (hi.blk b (hob ▸ hb)).2.2
    · rw [hob] at hb
      injection hb with hb
      omega
  · by_cases e : k < L.length
    · have e1 : (gs ++ [(g, c)]).getD k (0, 0) = gs.getD k (0, 0) := by simp [List.getD_eq_getElem?_getD, List.getElem?_append, hl, e]
      rw [e1]
      rcases hob with hob | hob
      · exact hi.dis k b e (hob ▸ hb)
      · rw [hob] at hb
        injection hb with hb
        have := (hi.rows k e).1.lt
        omega
    · have hk2 : k = L.length := by simp at hk; omega
      subst hk2
      have e1 : (gs ++ [(g, c)]).getD L.length (0, 0) = (g, c) := by rw [← hl]; simp [List.getD_eq_getElem?_getD]
      rw [e1]
      rcases hob with hob | hob
      · exact hgn b (hob ▸ hb)
      · rw [hob] at hb
        injection hb with hb
        have := hr.lt
        show g ≠ b
        omega
end
end Go.Proofs.YtilahcpjjaikgaaDoor
end

section
namespace Go.Proofs.YtilahcpjjaikgaaDoor
open Go.RowKit Go.Shelf
open Gr
theorem run_store_fn {P : Program} {w : World} (a : Addr) (m : Mode) (f : Fn) (xs : Array Value) (ys : Array Value) : (store a (.func f xs ys) m).run P w = stored P w a (.func f xs ys) m := run_store P w a _ m rfl
attribute [local go_sem] Oper.semAt_some run_store_fn
/-- The memory between two rounds. -/
structure GrpMem (w : World) (near : Bool) (Wd h cap Bl gl cl Bc : Nat) (A : Option Addr) (ls : List Nat) (L : List (List Nat)) (W : World) : Prop where
  a0 : W.cell? ⟨w.heap.size, 0, none⟩ = some (.int .i64 (Wd : Int))
  a1 : W.cell? ⟨w.heap.size, 1, none⟩ = some (.slice A h cap)
  nb : W.cell? ⟨w.heap.size + 1, 0, none⟩ = some (.bool near)
  l0 : W.cell? ⟨Bl, 0, none⟩ = some (.int .i64 (Wd : Int))
  l1 : W.cell? ⟨Bl, 1, none⟩ = some (.slice (some ⟨gl, 0, none⟩) h cl)
  row : Row W gl (casts ls)
  sz : Bc + 1 ≤ W.heap.size
  out : ∃ (v : Value) (gs : List (Nat × Nat)) (top : Nat), W.cell? ⟨w.heap.size + 1 + 1, 0, none⟩ = some v ∧ W.frozen? ⟨w.heap.size + 1 + 1, 0, none⟩ = false ∧ Imgs (Bc + 1) top gl W Wd h v L gs ∧ top ≤ W.heap.size
theorem GrpMem.kept {w A' B : World} {near : Bool} {Wd h cap Bl gl cl Bc : Nat} {A : Option Addr} {ls : List Nat} {L : List (List Nat)} {row : Option Nat} (hm : GrpMem w near Wd h cap Bl gl cl Bc A ls L A') (hg : A'.grownBy B row) (hr : ∀ r, row = some r → ∃ o : Obj, A'.heap[r]? = some o ∧ o.isCells = false) : GrpMem w near Wd h cap Bl gl cl Bc A ls L B := by
  obtain ⟨v, gs, top, h1, h2, h3, h4⟩ := hm.out
  exact ⟨cell_kept hm.a0 hg hr, cell_kept hm.a1 hg hr, cell_kept hm.nb hg hr, cell_kept hm.l0 hg hr, cell_kept hm.l1 hg hr, rowKept hm.row hg hr, Nat.le_trans hm.sz hg.size, v, gs, top, cell_kept h1 hg hr, (frozen_kept h1 hg hr).trans h2, h3.kept hg hr, Nat.le_trans h4 hg.size⟩
theorem grp_len {near : Bool} {h w : Nat} {ns : List Nat} (cs : List (Nat × Nat)) : (grp near h w ns cs).2.length ≤ cs.length := by
  induction cs using Gr.snocInd with
  | h0 => simp [grp]
  | h1 l x ih =>
    rw [grp_snoc]
    unfold grpStep
    split
    · simp; exact ih
    · simp; omega
def GrpPost (near : Bool) (Wd : Nat) (ns : List Nat) (w : World) (e : Ending) (w' : World) : Prop :=
  ∃ v' gs, e = .returned v' ∧ Imgs w.heap.size w'.heap.size w'.heap.size w' Wd ns.length v' ((firsts (cell ns) near ns.length Wd).map (compL (cell ns) near ns.length Wd)) gs ∧ Below w.heap.size w w'
set_option maxRecDepth 100000 in
set_option maxHeartbeats 4000000 in
theorem groups_c (near : Bool) (Wd : Nat) (v : Value) (ns : List Nat) (hi : VImg Wd ns) (w : World) (hv : Ints w.heap.size w v (casts ns)) :
    Calls Tryd.prog 64 #[.agg #[.int .i64 (Wd : Int), v], .bool near] w (GrpPost near Wd ns w) := by
  obtain ⟨A, cap, rfl⟩ := hv.len
  rw [length_casts] at hv ⊢
  have h1 := hi.h1
  have h6 := hi.h6
  have w1 := hi.w1
  have w6 := hi.w6
  obtain ⟨Wa, eWa⟩ : ∃ W0, W0 = ((w.alloc (.cells #[.int .i64 (Wd : Int), .slice A ns.length cap] 27)).alloc (.cells #[.bool near] 4)).alloc (.cells #[.slice none 0 0] 45) := ⟨_, rfl⟩
  have hW : Below w.heap.size w Wa := by rw [eWa]; go_grown
  have a0 : Wa.cell? ⟨w.heap.size, 0, none⟩ = some (.int .i64 (Wd : Int)) := by rw [eWa]; go_cell
  have a1 : Wa.cell? ⟨w.heap.size, 1, none⟩ = some (.slice A ns.length cap) := by rw [eWa]; go_cell
  have nb : Wa.cell? ⟨w.heap.size + 1, 0, none⟩ = some (.bool near) := by rw [eWa]; go_cell
  have ob : Wa.cell? ⟨w.heap.size + 1 + 1, 0, none⟩ = some (.slice none 0 0) := by rw [eWa]; go_cell
  have of : Wa.frozen? ⟨w.heap.size + 1 + 1, 0, none⟩ = false := by rw [eWa]; go_cell
  have hs : w.heap.size + 3 ≤ Wa.heap.size := by rw [eWa]; simp
  have hI := (Arg.new hv).below hW
  refine (callsIn_wide (n := 3)).1 ?_
  refine callsIn_of_wp_marks Tryd.func64 rfl trivial ?_ rfl
  simp only [Tryd.ntmps64, List.size_toArray, List.length_cons, List.length_nil, Nat.reduceAdd, Nat.reduceSub, Array.replicate_succ, Array.replicate_zero, List.push_toArray, List.append_toArray, List.nil_append, List.cons_append]
  gi_wp2_with fail
  rw [← eWa]
  clear eWa hv
  refine ⟨trivial, ?_⟩
  refine (callsIn_wide.2 (clone_c (Wd : Int) _ (casts ns) (by rw [length_casts]; exact h1) (by rw [length_casts]; omega) Wa hI.ints)).mono ?_
  rintro e wc ⟨gl, cl, rfl, hgl, hr, hb⟩
  rw [length_casts]
  have hgw : w.heap.size + 3 ≤ gl := by omega
  have hgB : gl < wc.heap.size := hr.lt
  replace a0 := cellB hb a0
  replace a1 := cellB hb a1
  replace nb := cellB hb nb
  replace of := frozenB hb ob of
  replace ob := cellB hb ob
  replace hW := hW.trans (Below.mono hb hW.size)
  replace hI := hI.below hb
  replace hs := Nat.le_trans hs hb.size
  have hs0 := hs
  obtain ⟨W1, e_W1⟩ : ∃ W0, W0 = World.alloc wc (.cells #[.int .i64 (Wd : Int), .slice (some ⟨gl, 0, none⟩) ns.length cl] 27) := ⟨_, rfl⟩
  have hx_W1 := Box2.new wc (.int .i64 (Wd : Int)) (.slice (some ⟨gl, 0, none⟩) ns.length cl) 27
  have hb_W1 : Below (World.heap wc).size wc W1 := by rw [e_W1]; go_grown
  have HS_W1 := Lib.hid (show (World.heap W1).size = (World.heap wc).size + 1 by rw [e_W1]; simp)
  replace a0 := cellB hb_W1 a0
  replace a1 := cellB hb_W1 a1
  replace nb := cellB hb_W1 nb
  replace of := frozenB hb_W1 ob of
  replace ob := cellB hb_W1 ob
  replace hW := hW.trans (Below.mono hb_W1 hW.size)
  replace hI := hI.below hb_W1
  replace hs := Nat.le_trans hs hb_W1.size
  replace hr := hr.below hb_W1 hr.lt
  have a0r := a0
  rw [e_W1] at a0r
  have a1r := a1
  rw [e_W1] at a1r
  have HE_W1 := Lib.hid e_W1
  clear e_W1
  gi_wp2_with fail
  rw [← HE_W1.out] at hx_W1 ⊢
  clear a0r a1r
  clear HE_W1
  obtain ⟨hl_l, l0, l1⟩ := hx_W1
  obtain ⟨Bl, e_Bl⟩ : ∃ Bx, Bx = (World.heap wc).size := ⟨_, rfl⟩
  rw [← e_Bl] at hl_l l0 l1 hb_W1 HS_W1 hgB hs0 ⊢
  have hz_Bl := hb_W1.size
  clear e_Bl hb_W1
  refine ⟨trivial, ?_⟩
  refine (callsIn_wide.2 (cells_c (Wd : Int) (.slice A ns.length cap) W1)).mono ?_
  rintro e wc ⟨rfl, e4⟩
  have hb : Below W1.heap.size W1 wc := by rw [← e4]; go_grown
  have hbn := Box2.new W1 (.int .i64 (Wd : Int)) (.slice A ns.length cap) 27
  rw [e4] at hbn
  clear e4
  obtain ⟨hz4, b0, b1⟩ := hbn
  obtain ⟨Bc, eBc⟩ : ∃ b, b = W1.heap.size := ⟨_, rfl⟩
  rw [← eBc] at b0 b1 hz4 hl_l ⊢
  replace a0 := cellB hb a0
  replace a1 := cellB hb a1
  replace nb := cellB hb nb
  replace of := frozenB hb ob of
  replace ob := cellB hb ob
  replace hW := hW.trans (Below.mono hb hW.size)
  replace hI := hI.below hb
  replace hs := Nat.le_trans hs hb.size
  replace hr := hr.below hb hr.lt
  replace l0 := cellB hb l0
  replace l1 := cellB hb l1
  clear hb eBc
  gi_wp2_with fail
  have hgrp0 : grp near ns.length Wd ns (([] : List (Cell ns.length Wd)).map (·.1)) = (ns, []) := rfl
  have hM0 : GrpMem w near Wd ns.length cap Bl gl cl Bc A (grp near ns.length Wd ns (([] : List (Cell ns.length Wd)).map (·.1))).1 (grp near ns.length Wd ns (([] : List (Cell ns.length Wd)).map (·.1))).2 wc := ⟨a0, a1, nb, l0, l1, hr, hz4, _, [], Bc + 1, ob, of, Imgs.nil _ _ _ _ _ _, hz4⟩
  refine wpIn_rangeFunc_ownF (F := Fence.wide) rfl (by omega) (gf := 89) (lb := #[.pointer (some ⟨Bc, 0, none⟩)]) rfl trivial (enters_of Tryd.func89 (by kernel_rfl) rfl)
    (cells_stops 2 Bc ns.length Wd cap A h6 w6 wc b0 b1 hz4) (fun h k => KpC.t h k) (fun W l o o' _ h hc _ => KpC.b W l o o' h hc) (Below.refl _ _) (fun _ => rfl)
    (fun pre W => GrpMem w near Wd ns.length cap Bl gl cl Bc A (grp near ns.length Wd ns (pre.map (·.1))).1 (grp near ns.length Wd ns (pre.map (·.1))).2 W ∧ Below w.heap.size w W)
    (fun _ _ _ => False)
    (OwnFrom.and (Own.from (fun s A B row hs hg hr => hs.kept hg hr) _) (ownFrom_below (Nat.le_refl _) (by omega)))
    (fun _ _ _ _ _ hs _ _ => hs)
    ⟨hM0, hW⟩
    (fun x => { tmps := #[.agg #[.int .i64 (Wd : Int), .slice A ns.length cap], .bool near, .pointer (some ⟨w.heap.size, 0, none⟩), .pointer (some ⟨w.heap.size + 1, 0, none⟩), .slice none 0 0, .pointer (some ⟨w.heap.size + 1 + 1, 0, none⟩), .pointer (some ⟨Bl, 0, none⟩), .int .i64 (x.1.1 : Int), .int .i64 (x.1.2 : Int), undef, undef, .agg #[.int .i64 (Wd : Int), .slice A ns.length cap], .agg #[.int .i64 (Wd : Int), .slice (some ⟨gl, 0, none⟩) ns.length cl], .agg #[.int .i64 (Wd : Int), .slice A ns.length cap], .func (.func 89) #[] #[.pointer (some ⟨Bc, 0, none⟩)], .int .i64 (x.1.1 : Int), .int .i64 (x.1.2 : Int), undef, undef, undef, undef, undef, undef, undef, undef, undef, undef, undef, undef, undef, undef, undef, undef, undef, undef, undef, undef, undef], defers := [] }) ?assign ?body ?done ?stop
  case assign =>
    intro l x W K hK
    dsimp only [encC]
    gi_wp2
    exact hK
  case body =>
    rintro l pre x W ⟨hM, hB⟩ hlen
    clear hM0 hgrp0 a0 a1 nb ob of hs hI hr l0 l1 hW b0 b1
    obtain ⟨⟨i, j⟩, hxi, hxj⟩ := x
    dsimp only at hxi hxj ⊢
    have hsn : grp near ns.length Wd ns ((pre ++ [(⟨(i, j), hxi, hxj⟩ : Cell ns.length Wd)]).map (·.1)) = grpStep near ns.length Wd (grp near ns.length Wd ns (pre.map (·.1))) (i, j) := by
      rw [List.map_append]
      exact grp_snoc _ _ _
    have hsz := grp_sized (near := near) (sized_img hi) (pre.map (·.1))
    have hLl := grp_len (near := near) (h := ns.length) (w := Wd) (ns := ns) (pre.map (·.1))
    rw [List.length_map] at hLl
    have hm36 : ns.length * Wd ≤ 6 * 6 := Nat.mul_le_mul h6 w6
    obtain ⟨sg, esg⟩ : ∃ sg, sg = grp near ns.length Wd ns (pre.map (·.1)) := ⟨_, rfl⟩
    rw [← esg] at hM hsn hsz hLl
    obtain ⟨ls, L⟩ := sg
    dsimp only at hM hsz hLl
    have HSN := Lib.hid hsn
    clear hsn esg
    obtain ⟨a0, a1, nb, l0, l1, hr, hbc, vo, gs, top, ob, of, him, htop⟩ := hM
    have hls := hsz.vimg h1 h6 w1 w6
    have hl64 := hls.get64 i
    have hLI := hr.intsH (c := cl) hsz.1
    have hxi' : i < ls.length := by rw [hsz.1]; exact hxi
    gi_wp2_with fail
    refine ⟨trivial, ?_⟩
    refine (CallsIn.inRound l (callsIn_wide.2 (has_c (Wd : Int) _ ls i j hxi' (by omega) (by omega) W hLI))).mono ?_
    rintro e wc ⟨rfl, hb⟩
    clear hLI
    replace a0 := cellB hb a0
    replace a1 := cellB hb a1
    replace nb := cellB hb nb
    replace l0 := cellB hb l0
    replace l1 := cellB hb l1
    replace of := frozenB hb ob of
    replace ob := cellB hb ob
    replace hr := hr.below hb hr.lt
    replace hB := hB.trans (Below.mono hb hB.size)
    replace him := him.below hb
    replace htop := Nat.le_trans htop hb.size
    replace hbc := Nat.le_trans hbc hb.size
    have hK := keepsB hb
    have hKp := kpB (Bn := Bc) hb
    cases hc : cell ls i j with
    | false =>
      have HC := Lib.hid hc
      clear hc
      gi_wp2
      refine ⟨hK, hKp, ?_, hB⟩
      rw [HSN.out]
      have e : grpStep near ns.length Wd (ls, L) (i, j) = (ls, L) := by unfold grpStep; dsimp only; rw [HC.out]; rfl
      rw [e]
      exact ⟨a0, a1, nb, l0, l1, hr, hbc, vo, gs, top, ob, of, him, htop⟩
    | true =>
      have HC := Lib.hid hc
      clear hc hb
      gi_wp2_with fail
      refine ⟨trivial, ?_⟩
      refine (CallsIn.inRound l (callsIn_wide.2 (emptyImage_c ns.length (Wd : Int) h6 _))).mono ?_
      obtain ⟨gg, egg⟩ : ∃ g, g = wc.heap.size + 1 := ⟨_, rfl⟩
      rw [← egg]
      rintro e wc ⟨rfl, hrg, hb⟩
      have htg : top ≤ gg := by omega
      have hbg : Bc + 1 ≤ gg := by omega
      replace a0 := cellB hb a0
      replace a1 := cellB hb a1
      replace nb := cellB hb nb
      replace l0 := cellB hb l0
      replace l1 := cellB hb l1
      replace of := frozenB hb ob of
      replace ob := cellB hb ob
      replace hr := hr.below hb hr.lt
      replace hB := hB.trans (Below.mono hb hB.size)
      replace him := him.below hb
      replace htop := Nat.le_trans htop hb.size
      replace hbc := Nat.le_trans hbc hb.size
      replace hK := hK.trans (keepsB hb)
      replace hKp := hKp.t (kpB (Bn := Bc) hb)
      have hggc : gg < wc.heap.size := hrg.lt
      obtain ⟨ao, co, hform⟩ := him.form
      subst hform
      clear egg
      gi_wp2_with fail
      obtain ⟨W3, eW3⟩ : ∃ W0, W0 = (wc.alloc (.cells #[.int .i64 (Wd : Int), .slice (some ⟨gg, 0, none⟩) ns.length ns.length] 27)).alloc (.cells #[.func (.func 85) #[] #[.pointer (some ⟨Bl, 0, none⟩), .pointer (some ⟨wc.heap.size, 0, none⟩), .pointer (some ⟨w.heap.size + 1, 0, none⟩), .pointer (some ⟨wc.heap.size + 1, 0, none⟩)]] 74) := ⟨_, rfl⟩
      have hb3 : Below wc.heap.size wc W3 := by rw [eW3]; go_grown
      have g0 : W3.cell? ⟨wc.heap.size, 0, none⟩ = some (.int .i64 (Wd : Int)) := by rw [eW3]; go_cell
      have g1 : W3.cell? ⟨wc.heap.size, 1, none⟩ = some (.slice (some ⟨gg, 0, none⟩) ns.length ns.length) := by rw [eW3]; go_cell
      have vb : W3.cell? ⟨wc.heap.size + 1, 0, none⟩ = some (.func (.func 85) #[] #[.pointer (some ⟨Bl, 0, none⟩), .pointer (some ⟨wc.heap.size, 0, none⟩), .pointer (some ⟨w.heap.size + 1, 0, none⟩), .pointer (some ⟨wc.heap.size + 1, 0, none⟩)]) := by rw [eW3]; go_cell
      rw [← eW3]
      clear eW3
      have hglc : gl < wc.heap.size := hr.lt
      obtain ⟨Bg, eBg⟩ : ∃ b, b = wc.heap.size := ⟨_, rfl⟩
      rw [← eBg] at g0 g1 vb hggc hglc ⊢
      replace a0 := cellB hb3 a0
      replace a1 := cellB hb3 a1
      replace nb := cellB hb3 nb
      replace l0 := cellB hb3 l0
      replace l1 := cellB hb3 l1
      replace of := frozenB hb3 ob of
      replace ob := cellB hb3 ob
      replace hr := hr.below hb3 hr.lt
      replace hB := hB.trans (Below.mono hb3 hB.size)
      replace him := him.below hb3
      replace htop := Nat.le_trans htop hb3.size
      replace hbc := Nat.le_trans hbc hb3.size
      replace hrg := hrg.below hb3 hrg.lt
      replace hK := hK.trans (keepsB hb3)
      replace hKp := hKp.t (kpB (Bn := Bc) hb3)
      clear eBg hb3 hb
      have hap : VApart Bl Bg (w.heap.size + 1) (Bg + 1) gl gg := ⟨by omega, by omega, by omega, by omega, by omega, by omega, by omega, by omega, by omega⟩
      rw [← casts_rep] at hrg
      have hVM : VMem W3 near Wd ns.length Bl Bg (w.heap.size + 1) (Bg + 1) gl gg cl ns.length ls (List.replicate ns.length 0) := ⟨hr, hrg, l0, l1, g0, g1, nb, vb⟩
      refine ⟨trivial, ?_⟩
      refine (CallsIn.inRound l (callsIn_wide.2 (visit_c near Wd ns.length h1 h6 w1 w6 Bl Bg (w.heap.size + 1) (Bg + 1) gl gg cl ns.length hap _ ls (List.replicate ns.length 0) i j W3 hsz sized_zero (Nat.le_refl _) (fun k m hk => by rw [cell_zero] at hk; cases hk) hVM))).mono ?_
      rintro e wc ⟨rfl, hVM, ho⟩
      replace hK := hK.trans (keeps2 hr hrg ho)
      replace hKp := hKp.t (fun v h => cell_only2 ho h (by simp; omega) (by simp; omega))
      clear hr hrg l0 l1 nb g0 g1 vb hap
      replace a0 := cell_only2 ho a0 (by first | assumption | omega | (simp; omega)) (by first | assumption | omega | (simp; omega))
      replace a1 := cell_only2 ho a1 (by first | assumption | omega | (simp; omega)) (by first | assumption | omega | (simp; omega))
      replace of := frozen_only2 ho ob (by first | assumption | omega | (simp; omega)) (by first | assumption | omega | (simp; omega)) of
      replace ob := cell_only2 ho ob (by first | assumption | omega | (simp; omega)) (by first | assumption | omega | (simp; omega))
      replace hB := bel_only2 hB ho (by first | assumption | omega | (simp; omega)) (by first | assumption | omega | (simp; omega))
      replace him := him.only2 ho (by first | assumption | omega | (simp; omega)) (by first | assumption | omega | (simp; omega))
      replace htop := Nat.le_trans htop (Only2.size ho)
      replace hbc := Nat.le_trans hbc (Only2.size ho)
      obtain ⟨hr, hrg, l0, l1, g0, g1, nb, vb⟩ := hVM
      have hb5 : Below wc.heap.size wc (wc.alloc (.cells #[.int .i64 (Wd : Int), .slice (some ⟨gg, 0, none⟩) ns.length ns.length] 27)) := by go_grown
      have him5 := him.below hb5
      have ob5 := cellB hb5 ob
      have of5 := frozenB hb5 ob of
      have hne : ∀ b, (Value.slice ao L.length co).ownBlock = some b → (⟨w.heap.size + 1 + 1, 0, none⟩ : Addr).block ≠ b := fun b hbb => by have := him.blk b hbb; show w.heap.size + 1 + 1 ≠ b; omega
      have hgs : gs.length ≤ 1048576 := by rw [him.len]; omega
      have HH := Lib.hid (And.intro him5 (And.intro ob5 (And.intro of5 (And.intro hne (And.intro hb5 (And.intro hgs hbc))))))
      clear him5 ob5 of5 hne hb5 hgs
      gi_wp2_with (gi_at_builtin; go_loud (refine wpListIn_appP (x := .int .i64 (Wd : Int)) (y := .slice (some ⟨gg, 0, none⟩) ns.length ns.length) rfl (.tmp 33) (.tmp 35) rfl rfl HH.out.1.own rfl rfl rfl (by go_cell) (by go_cell) (by rw [List.length_map]; exact HH.out.2.2.2.2.2.1) (by simp; omega) ?_; intro v6 wz hown6 hgr6 hob6; obtain ⟨a6, n6, c6, rfl⟩ := OwnP.form hown6; have ob6 := cell_grown HH.out.2.1 hgr6 HH.out.2.2.2.1; have of6 := frozen_grown HH.out.2.1 hgr6 HH.out.2.2.2.1 HH.out.2.2.1))
      obtain ⟨him5, ob5, of5, hne, hb5, hgs, hbc5⟩ := HH.out
      have hne2 : ∀ (q : Nat), q < Bc + 1 → ∀ b, (Value.slice ao L.length co).ownBlock = some b → q ≠ b := fun q hq b hbb => by have := him.blk b hbb; omega
      have hgrow := hgr6
      have KC : ∀ (q o : Nat) (u : Value), q < Bc + 1 → q ≠ w.heap.size + 1 + 1 → wc.cell? ⟨q, o, none⟩ = some u → (wz.setCell ⟨w.heap.size + 1 + 1, 0, none⟩ (.slice a6 n6 c6)).cell? ⟨q, o, none⟩ = some u := fun q o u hq hq2 hu =>
        (World.cell?_setCell_other _ _ _ _ (by simp <;> omega)).trans (cell_grown (cellB hb5 hu) hgr6 (hne2 q hq))
      have hr5 : Row wz gl (casts (visL near ns.length Wd ls i j)) := (hr.below hb5 hr.lt).grown hgr6 (fun e => hne2 gl (by omega) gl e.symm rfl)
      have him6 := Imgs.snoc him5 hown6 hgr6 hob6 (hrg.below hb5 hrg.lt) hbg htg (by omega) (Nat.lt_of_lt_of_le hr.lt hb5.size)
      have hB6 := (hB.trans (hb5.mono hB.size)).grown hgr6 (Nat.le_trans hB.size hb5.size) (fun k e => by have := him.blk k e; omega)
      have hK6 := (hK.trans (keepsB hb5)).trans (keepsOwn him5.own hgr6)
      refine ⟨hK6.trans (KeepsOthers.setCell _ _ _), (hKp.t (kpB (Bn := Bc) hb5)).t (fun v h => (World.cell?_setCell_other _ _ _ _ (by simp <;> omega)).trans (cell_grown h hgr6 (hne2 Bc (by omega)))), ?_, hB6.setCell (by simp; omega) _⟩
      rw [HSN.out]
      have e : grpStep near ns.length Wd (ls, L) (i, j) = (visL near ns.length Wd ls i j, L ++ [visG near ns.length Wd ls (List.replicate ns.length 0) i j]) := by unfold grpStep; dsimp only; rw [HC.out]; rfl
      rw [e]
      refine ⟨KC _ _ _ (by omega) (by omega) a0, KC _ _ _ (by omega) (by omega) a1, KC _ _ _ (by omega) (by omega) nb, KC _ _ _ (by omega) (by omega) l0, KC _ _ _ (by omega) (by omega) l1, hr5.far (by simp; omega) _, ?_, _, _, _, World.cell?_setCell_same' _ _ _ (by rw [ob6]; rfl), by rw [World.frozen?_setCell]; exact of6, him6.set (by simp; omega) _, ?_⟩
      · have := hb5.size; have := hgr6.size; simp [World.setCell]; omega
      · simp [World.setCell]
  case done =>
    rintro D xs W hD hall ⟨hM, hB⟩ hK
    rw [hall, grp_all (sized_img hi)] at hM
    obtain ⟨c0, c1, cn, m0, m1, hrow, hbc, vo, gs, top, ob, of, him, htop⟩ := hM
    obtain ⟨ao, co, rfl⟩ := him.form
    gi_wp2
    refine ⟨by simp, .inl ⟨_, _, rfl, run_takeDeferred hK, ?_⟩⟩
    refine ⟨_, results_tmp rfl _ _ _, _, gs, rfl, ?_, hB.trans (belowK_b (w := w) (Nat.le_refl _) W D _ _ (by have := hW.size; omega) hK rfl rfl)⟩
    have hk := him.kept (grownBy_putObj' W D (.deferred none)) (fun r e => by cases e; exact ⟨_, hK, rfl⟩)
    have hz : (W.putObj D (.deferred none)).heap.size = W.heap.size := by simp
    have hk2 := (hk.lower (base' := w.heap.size) (by omega) (gl' := (W.putObj D (.deferred none)).heap.size) (by rw [hz]; exact htop)).up (top' := (W.putObj D (.deferred none)).heap.size) (by rw [hz]; exact htop)
    rw [List.length_map] at hk2
    exact hk2
  case stop =>
    rintro D c pre W _ _ h _
    exact h.elim
end Go.Proofs.YtilahcpjjaikgaaDoor
end

section
namespace Go.Proofs.YtilahcpjjaikgaaDoor
open Go.RowKit
open Gr
theorem has_hasZ (W : Int) (v : Value) (rows : List Int) (i j : Int) (w : World) (hv : Ints w.heap.size w v rows) :
    Calls Tryd.prog 86 #[.agg #[.int .i64 W, v], .int .i64 i, .int .i64 j] w fun e w' => e = .returned (.bool (hasZ W rows i j)) ∧ Below w.heap.size w w' := ImageHas_c W v rows i j w hv
section
variable {T : Nat → Nat → Bool} {near : Bool} {h w : Nat}
theorem Gr.comp_same (hS : Inside h w T) {a b : Nat × Nat} (ha : T a.1 a.2 = true) (hr : Reach T near a.1 a.2 b.1 b.2) : compL T near h w a = compL T near h w b := by
  have hb := hr.mem ha
  refine Sized.ext (h := h) (w := w) sized_mk sized_mk fun k l _ _ => ?_
  rw [Bool.eq_iff_iff, cell_comp hS ha, cell_comp hS hb]
  exact ⟨fun h1 => (hr.symm ha).trans h1, fun h1 => hr.trans h1⟩
/-- All parts, as images, in order. -/
def allL (T : Nat → Nat → Bool) (near : Bool) (h w : Nat) : List (List Nat) := (firsts T near h w).map (compL T near h w)
theorem allL_get {k : Nat} (hk : k < (allL T near h w).length) : ∃ c, c ∈ firsts T near h w ∧ (firsts T near h w)[k]? = some c ∧ (allL T near h w).getD k [] = compL T near h w c := by
  have hk2 : k < (firsts T near h w).length := by simpa [allL] using hk
  refine ⟨(firsts T near h w)[k], List.getElem_mem hk2, List.getElem?_eq_getElem hk2, ?_⟩
  simp [allL, List.getD_eq_getElem?_getD, List.getElem?_eq_getElem hk2]
theorem allL_has (hS : Inside h w T) {i j : Nat} {k : Nat} (hk : k < (allL T near h w).length) (hh : cell ((allL T near h w).getD k []) i j = true) : (allL T near h w).getD k [] = compL T near h w (i, j) := by
  obtain ⟨c, hm, _, e⟩ := allL_get hk
  rw [e] at hh ⊢
  have hf := (mem_firsts hS).1 hm
  exact comp_same hS hf.1 ((cell_comp hS hf.1).1 hh)
theorem allL_ex (hS : Inside h w T) {i j : Nat} (hc : T i j = true) : ∃ k, k < (allL T near h w).length ∧ cell ((allL T near h w).getD k []) i j = true := by
  obtain ⟨a, b, hf, hr⟩ := first_ex (T := T) (near := near) i j hc
  obtain ⟨k, hk, e⟩ := List.getElem_of_mem ((mem_firsts hS (c := (a, b))).2 hf)
  have hk2 : k < (allL T near h w).length := by simpa [allL] using hk
  obtain ⟨c, _, e2, e3⟩ := allL_get hk2
  rw [List.getElem?_eq_getElem hk, e] at e2
  injection e2 with e2
  subst e2
  refine ⟨k, hk2, ?_⟩
  rw [e3, cell_comp hS hf.1]
  exact hr.symm hc
theorem allL_sized {k : Nat} (hk : k < (allL T near h w).length) : Sized h w ((allL T near h w).getD k []) := by
  obtain ⟨c, _, _, e⟩ := allL_get hk
  rw [e]
  exact sized_mk
theorem allL_len : (allL T near h w).length = (firsts T near h w).length := by simp [allL]
theorem firsts_len_le : (firsts T near h w).length ≤ h * w := by
  unfold firsts
  rw [← length_cellsL h w]
  exact List.length_filter_le _ _
end
theorem groups_v (near : Bool) (Wd : Nat) (v : Value) (ns : List Nat) (hi : VImg Wd ns) (w : World) (hv : Ints w.heap.size w v (casts ns)) :
    Calls Tryd.prog 64 #[.agg #[.int .i64 (Wd : Int), v], .bool near] w fun e w' => ∃ v' gs, e = .returned v' ∧ Imgs w.heap.size w'.heap.size w'.heap.size w' Wd ns.length v' (allL (cell ns) near ns.length Wd) gs ∧ Below w.heap.size w w' := groups_c near Wd v ns hi w hv
set_option maxHeartbeats 1000000 in
theorem ImageParts_c (W : Int) (v : Value) (rows : List Int) (w : World) (hv : Ints w.heap.size w v rows) :
    Calls Tryd.prog 43 #[.agg #[.int .i64 W, v]] w fun e w' => e = .returned (.int .i64 (onImg (-1) partsN W rows)) ∧ Below w.heap.size w w' := by
  obtain ⟨A, cap, rfl⟩ := hv.len
  have hI := Arg.new hv
  have hW := Below.refl w.heap.size w
  go_enter Tryd.func43, Tryd.ntmps43
  obtain ⟨W0, e_W0⟩ : ∃ W0, W0 = World.alloc w (.cells #[.int .i64 W, .slice A rows.length cap] 27) := ⟨_, rfl⟩
  have hx_W0 := Box2.new w (.int .i64 W) (.slice A rows.length cap) 27
  have hb_W0 : Below (World.heap w).size w W0 := by rw [e_W0]; go_grown
  have HS_W0 := Lib.hid (show (World.heap W0).size = (World.heap w).size + 1 by rw [e_W0]; simp)
  replace hI := hI.below hb_W0
  replace hW := hW.trans (Below.mono hb_W0 hW.size)
  have HE_W0 := Lib.hid e_W0
  clear e_W0
  go_wp2_with fail
  rw [← HE_W0.out] at hx_W0 ⊢
  clear HE_W0
  obtain ⟨hl_x, x0, x1⟩ := hx_W0
  obtain ⟨Bx, e_Bx⟩ : ∃ Bx, Bx = (World.heap w).size := ⟨_, rfl⟩
  rw [← e_Bx] at hl_x x0 x1 hb_W0 HS_W0  ⊢
  have hz_Bx := hb_W0.size
  clear e_Bx hb_W0
  refine (ImageValid_c W _ rows _ hI.ints).mono ?_
  rintro e wc ⟨rfl, hb⟩
  replace hI := hI.below hb
  replace hW := hW.trans (Below.mono hb hW.size)
  replace x0 := cellB hb x0
  replace x1 := cellB hb x1
  cases hval : validB W rows with
  | false =>
    go_wp2
    go_returns
    exact ⟨ri (onImg_no hval).symm, hW⟩
  | true =>
    obtain ⟨n, ns, rfl, rfl, hV⟩ := validB_yes hval
    rw [length_casts] at hI x1 ⊢
    clear hval hv
    go_wp2_with fail
    refine (groups_v false n _ ns hV _ hI.ints).mono ?_
    rintro e wc ⟨v', gs, rfl, him, hb⟩
    replace hI := hI.below hb
    replace hW := hW.trans (Below.mono hb hW.size)
    replace x0 := cellB hb x0
    replace x1 := cellB hb x1
    obtain ⟨ao, co, rfl⟩ := him.form
    rw [allL_len]
    go_wp2
    go_returns
    exact ⟨ri (by rw [onImg_yes hV]; rfl), hW⟩
end Go.Proofs.YtilahcpjjaikgaaDoor
end

section
namespace Go.Proofs.YtilahcpjjaikgaaDoor
open Go.RowKit
open Gr
/-- The image whose cells are set where those of an image are not. -/
def otherL (w : Nat) (ns : List Nat) : List Nat := ns.map fun r => r ^^^ (2 ^ w - 1)
theorem length_other (w : Nat) (ns : List Nat) : (otherL w ns).length = ns.length := by simp [otherL]
theorem mask_bit (w l : Nat) : (2 ^ w - 1).testBit l = decide (l < w) := by simp [Nat.testBit_two_pow_sub_one]
theorem other_lt {w : Nat} {ns : List Nat} (h : ∀ n ∈ ns, n < 2 ^ w) : ∀ n ∈ otherL w ns, n < 2 ^ w := by
  intro n hn
  obtain ⟨r, hr, rfl⟩ := List.mem_map.1 hn
  have := Nat.two_pow_pos w
  exact Nat.xor_lt_two_pow (h r hr) (by omega)
theorem cell_other {w : Nat} {ns : List Nat} (hz : Sized ns.length w ns) (i j : Nat) : cell (otherL w ns) i j = Co ns.length w (cell ns) i j := by
  unfold Co
  by_cases hi : i < ns.length
  · unfold cell otherL
    rw [List.getD_eq_getElem?_getD, List.getElem?_map, List.getD_eq_getElem?_getD, List.getElem?_eq_getElem hi]
    simp only [Option.map_some, Option.getD_some, Nat.testBit_xor, mask_bit, hi, decide_true, Bool.true_and]
    by_cases hj : j < w
    · simp [hj]
    · have : (ns[i]).testBit j = false := by
        have h1 := hz.2 _ (List.getElem_mem hi)
        exact Nat.testBit_lt_two_pow (Nat.lt_of_lt_of_le h1 (Nat.pow_le_pow_right (by omega) (by omega)))
      simp [hj, this]
  · have e : cell (otherL w ns) i j = false := by
      unfold cell otherL
      rw [List.getD_eq_getElem?_getD, List.getElem?_eq_none (by simpa using hi)]
      simp
    rw [e]
    simp [hi]
theorem vimg_other {w : Nat} {ns : List Nat} (h : VImg w ns) : VImg w (otherL w ns) := ⟨h.w1, h.w6, by rw [length_other]; exact h.h1, by rw [length_other]; exact h.h6, other_lt h.hi⟩
/-- The first k rows changed. -/
def otherTo (w : Nat) (ns : List Nat) (k : Nat) : List Nat := (otherL w ns).take k ++ ns.drop k
theorem otherTo_zero (w : Nat) (ns : List Nat) : otherTo w ns 0 = ns := by simp [otherTo]
theorem otherTo_all (w : Nat) (ns : List Nat) : otherTo w ns ns.length = otherL w ns := by
  unfold otherTo
  rw [List.take_of_length_le (by rw [length_other]; omega)]
  simp
theorem length_otherTo (w : Nat) (ns : List Nat) {k : Nat} (hk : k ≤ ns.length) : (otherTo w ns k).length = ns.length := by
  unfold otherTo
  rw [List.length_append, List.length_take, List.length_drop, length_other]
  omega
theorem otherTo_get (w : Nat) (ns : List Nat) {k : Nat} (hk : k < ns.length) : (otherTo w ns k).getD k 0 = ns.getD k 0 := by
  unfold otherTo
  rw [List.getD_eq_getElem?_getD, List.getElem?_append_right (by rw [List.length_take, length_other]; omega), List.length_take, length_other, Nat.min_eq_left (by omega), Nat.sub_self, List.getElem?_drop, List.getD_eq_getElem?_getD]
  rfl
theorem otherTo_step (w : Nat) (ns : List Nat) {k : Nat} (hk : k < ns.length) : (otherTo w ns k).set k (ns.getD k 0 ^^^ (2 ^ w - 1)) = otherTo w ns (k + 1) := by
  unfold otherTo
  have hl : ((otherL w ns).take k).length = k := by rw [List.length_take, length_other]; omega
  rw [List.set_append_right _ _ (by omega), hl, Nat.sub_self]
  have e : ns.drop k = ns[k] :: ns.drop (k + 1) := List.drop_eq_getElem_cons hk
  rw [e, List.set_cons_zero, List.take_succ_eq_append_getElem (by rw [length_other]; exact hk), List.append_assoc]
  congr 1
  simp [otherL, List.getD_eq_getElem?_getD, List.getElem?_eq_getElem hk]
theorem mask_val {w : Nat} (h : w ≤ 6) : wrap64 (2 ^ w) = pw w := by
  have h1 := pw_6 h
  have h2 := pw_pos w
  have e : (2 : Int) ^ w = pw w := by unfold pw; simp
  rw [e]
  exact IntWalk.wrap64_in _ ⟨by omega, by omega⟩
/-- The memory of a function that changes a copy of an image: the copy in block g, boxed at Bo. -/
structure IMem (w wr : World) (n h g c Bo cap : Nat) (A : Option Addr) (ms : List Nat) : Prop where
  row : Row wr g (casts ms)
  bel : Below w.heap.size w wr
  x0 : wr.cell? ⟨w.heap.size, 0, none⟩ = some (.int .i64 (n : Int))
  x1 : wr.cell? ⟨w.heap.size, 1, none⟩ = some (.slice A h cap)
  r0 : wr.cell? ⟨w.heap.size + 1, 0, none⟩ = some (.int .i64 0)
  r1 : wr.cell? ⟨w.heap.size + 1, 1, none⟩ = some (.slice none 0 0)
  rf0 : wr.frozen? ⟨w.heap.size + 1, 0, none⟩ = false
  rf1 : wr.frozen? ⟨w.heap.size + 1, 1, none⟩ = false
  o0 : wr.cell? ⟨Bo, 0, none⟩ = some (.int .i64 (n : Int))
  o1 : wr.cell? ⟨Bo, 1, none⟩ = some (.slice (some ⟨g, 0, none⟩) h c)
theorem IMem.below {w wr w2 : World} {n h g c Bo cap : Nat} {A : Option Addr} {ms : List Nat} (hm : IMem w wr n h g c Bo cap A ms) (hb : Below wr.heap.size wr w2) : IMem w w2 n h g c Bo cap A ms :=
  ⟨hm.row.below hb hm.row.lt, hm.bel.trans (hb.mono hm.bel.size), cellB hb hm.x0, cellB hb hm.x1, cellB hb hm.r0, cellB hb hm.r1, frozenB hb hm.r0 hm.rf0, frozenB hb hm.r1 hm.rf1, cellB hb hm.o0, cellB hb hm.o1⟩
theorem IMem.set {w wr : World} {n h g c Bo cap : Nat} {A : Option Addr} {ms : List Nat} (hm : IMem w wr n h g c Bo cap A ms) (hg : w.heap.size + 2 ≤ g) (hgB : g < Bo) {k : Nat} (hk : k < ms.length) (z : Nat) : IMem w (wr.setCell ⟨g, k, none⟩ (.int .i64 (z : Int))) n h g c Bo cap A (ms.set k z) := by
  have hs := hm.row.set (k := k) (by rw [length_casts]; exact hk) (z : Int)
  rw [casts_set] at hs
  exact ⟨hs, hm.bel.setCell (by simp; omega) _, (World.cell?_setCell_other _ _ _ _ (by simp <;> omega)).trans hm.x0, (World.cell?_setCell_other _ _ _ _ (by simp <;> omega)).trans hm.x1, (World.cell?_setCell_other _ _ _ _ (by simp <;> omega)).trans hm.r0, (World.cell?_setCell_other _ _ _ _ (by simp <;> omega)).trans hm.r1,
   by rw [World.frozen?_setCell]; exact hm.rf0, by rw [World.frozen?_setCell]; exact hm.rf1, (World.cell?_setCell_other _ _ _ _ (by simp <;> omega)).trans hm.o0, (World.cell?_setCell_other _ _ _ _ (by simp <;> omega)).trans hm.o1⟩
theorem IMem.only {w wr w2 : World} {n h g c Bo cap : Nat} {A : Option Addr} {ms ms' : List Nat} (hm : IMem w wr n h g c Bo cap A ms) (hg : wr.grownBy w2 (some g)) (hr : Row w2 g (casts ms')) (hgw : w.heap.size + 2 ≤ g) (hgB : g < Bo) : IMem w w2 n h g c Bo cap A ms' :=
  ⟨hr, bel_only hm.bel hg (by omega), cell_only hg hm.x0 (by simp; omega), cell_only hg hm.x1 (by simp; omega), cell_only hg hm.r0 (by simp; omega), cell_only hg hm.r1 (by simp; omega), frozen_only hg hm.r0 (by simp; omega) hm.rf0, frozen_only hg hm.r1 (by simp; omega) hm.rf1, cell_only hg hm.o0 (by simp; omega), cell_only hg hm.o1 (by simp; omega)⟩
theorem IMem.fin {w wr : World} {n h g c Bo cap : Nat} {A : Option Addr} {ms : List Nat} (hm : IMem w wr n h g c Bo cap A ms) (hg : w.heap.size + 2 ≤ g) (hl : ms.length = h) : ImgOut w n ms (.returned (.tuple #[.agg #[.int .i64 (n : Int), .slice (some ⟨g, 0, none⟩) h c], .bool true])) ((wr.setCell ⟨w.heap.size + 1, 0, none⟩ (.int .i64 (n : Int))).setCell ⟨w.heap.size + 1, 1, none⟩ (.slice (some ⟨g, 0, none⟩) h c)) :=
  ⟨g, c, by rw [hl], by omega, (hm.row.far (by simp; omega) _).far (by simp; omega) _, (hm.bel.setCell (by simp) _).setCell (by simp) _⟩
end Go.Proofs.YtilahcpjjaikgaaDoor
end
