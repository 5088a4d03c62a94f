/- The law FnMomentsGhost returns true at whatever arguments, where the listed variables stand as they are laid; the arguments and the variables read behind the call as before; and the tied card. No condition. -/
import Derived.Test.YtbpjceffkchmbaaDoorLMomentsGhost
import Derived.Test.YtbpjceffkchmbaaDoorLFrame2
import Derived.Test.YtbpjceffkchmbaaDoorLVar
import Derived.Test.YtbpjceffkchmbaaDoorCards
import Derived.Test.YtbpjceffkchmbaaDoorTie
import Derived.OpenShut
import Derived.Deep.DeepHandedRow
namespace Go.Proofs.YtbpjceffkchmbaaDoor
open Go.ChangeShapes Go.WideShapes Go.ChangeAt Go.RowKit Go.Joins
theorem gVar : Tryd.prog.globalNamed "loop.example/discretetomography/impl.dirSteps" = some 0 := by kernel_rfl
theorem gVarType : (Tryd.prog.globals[0]?).map (·.type) = some 74 := by kernel_rfl
theorem gVarCells : Tryd.prog.cellsOf 74 = 16 := by kernel_rfl
theorem gRowCells : Tryd.prog.cellsOf 73 = 2 := by kernel_rfl
theorem gIntCells : Tryd.prog.cellsOf 3 = 1 := by kernel_rfl
/-- What the row's list gives. -/
theorem laidFacts {W : World} (h : laidMetH Tryd.prog Rows.fnMomentsGhostRow.laid W) : Dirs W := by
  have h0 : laidMet Tryd.prog [("loop.example/discretetomography/impl.dirSteps", Rows.laid_loop_example_discretetomography_impl_dirSteps)] W := h
  have h1 : laidMet Tryd.prog [("loop.example/discretetomography/impl.dirSteps", gridData [[1, 0], [0, 1], [1, 1], [1, -1], [2, 1], [1, 2], [2, -1], [1, -2]])] W := h0
  have hc := grid_of_head gVar gVarType Tryd.underlying74 Tryd.underlying73 Tryd.underlying3 gIntCells gRowCells gVarCells h1
  refine ⟨lt_of_cell (hc 0 [1, 0] rfl (by omega) 0 (by decide)), fun d hd => ?_, fun d hd => ?_⟩
  · rcases nat8 hd with rfl | rfl | rfl | rfl | rfl | rfl | rfl | rfl
    · exact hc 0 [1, 0] rfl (by omega) 0 (by decide)
    · exact hc 1 [0, 1] rfl (by omega) 0 (by decide)
    · exact hc 2 [1, 1] rfl (by omega) 0 (by decide)
    · exact hc 3 [1, -1] rfl (by omega) 0 (by decide)
    · exact hc 4 [2, 1] rfl (by omega) 0 (by decide)
    · exact hc 5 [1, 2] rfl (by omega) 0 (by decide)
    · exact hc 6 [2, -1] rfl (by omega) 0 (by decide)
    · exact hc 7 [1, -2] rfl (by omega) 0 (by decide)
  · rcases nat8 hd with rfl | rfl | rfl | rfl | rfl | rfl | rfl | rfl
    · exact hc 0 [1, 0] rfl (by omega) 1 (by decide)
    · exact hc 1 [0, 1] rfl (by omega) 1 (by decide)
    · exact hc 2 [1, 1] rfl (by omega) 1 (by decide)
    · exact hc 3 [1, -1] rfl (by omega) 1 (by decide)
    · exact hc 4 [2, 1] rfl (by omega) 1 (by decide)
    · exact hc 5 [1, 2] rfl (by omega) 1 (by decide)
    · exact hc 6 [2, -1] rfl (by omega) 1 (by decide)
    · exact hc 7 [1, -2] rfl (by omega) 1 (by decide)
/-- A table's object, its cells given. -/
def layTab (cs : List Value) : Obj → Obj
  | .cells _ t frozen => .cells cs.toArray t frozen
  | o => o
/-- A world for the witness: the settled one, the variables holding what is laid. -/
noncomputable def laidWorld (os : Os) : World :=
  { World.holding Tryd.prog os ⟨#[], #[], []⟩ with heap := (World.holding Tryd.prog os ⟨#[], #[], []⟩).heap.modify 0 (layTab [.int .i64 1, .int .i64 0, .int .i64 0, .int .i64 1, .int .i64 1, .int .i64 1, .int .i64 1, .int .i64 (-1), .int .i64 2, .int .i64 1, .int .i64 1, .int .i64 2, .int .i64 2, .int .i64 (-1), .int .i64 1, .int .i64 (-2)]) }
theorem laid_met (os : Os) : laidMet Tryd.prog Rows.fnMomentsGhostRow.laid ((laidWorld os).forCall (fun _ _ => 0) ⟨#[], #[.slice none 0 0, .slice none 0 0], []⟩).memory :=
  laidMet_of_run' 8 (by kernel_rfl) (by kernel_rfl)
theorem laid_reads (os : Os) {H : Type} (enc : TypeId × Value → H) : ∃ d places, DataW.whole enc Tryd.prog ((laidWorld os).forCall (fun _ _ => 0) ⟨#[], #[.slice none 0 0, .slice none 0 0], []⟩).memory Tryd.f4.params.toList Rows.fnMomentsGhostSpec.vars false #[Value.slice none 0 0, Value.slice none 0 0].toList 8 = some (d, [gridData [[1, 0], [0, 1], [1, 1], [1, -1], [2, 1], [1, 2], [2, -1], [1, -2]]], places) :=
  ⟨[.nil, .nil], MemPlace.row ⟨0, 0, none⟩ 16, by kernel_rfl⟩
set_option maxRecDepth 100000 in
theorem momentsGhost_lifted (os : Os) (started : os.Started) (H : Type) (enc : TypeId × Value → H) (F : Stop.Interp) :
    ReturnsInHanded {} Tryd.checked os 4 .any ((OpenSpec.ofChange Rows.fnMomentsGhostSpec).preRow enc Tryd.prog Tryd.f4 Rows.fnMomentsGhostRow.domain false Rows.fnMomentsGhostRow.laid) (((OpenSpec.ofChange Rows.fnMomentsGhostSpec).at F).post enc Tryd.prog Tryd.f4 false true false false) := by
  obtain ⟨d, places, hx⟩ := laid_reads os enc
  refine returnsInHanded_of_row (C := Tryd.checked) (s := OpenSpec.ofChange Rows.fnMomentsGhostSpec) own_knob started (by kernel_rfl) Tryd.func4
    (witness_row_at (enc := enc) (C := Tryd.checked) false (laidWorld os) #[.slice none 0 0, .slice none 0 0] rfl (by kernel_rfl) (by kernel_rfl) (by kernel_rfl)
      (OpenSpec.preRow_of_cond 8 hx (by kernel_rfl) (fun k hk => by cases hk) (by kernel_rfl) (laid_met os))) ?_
  intro W base args ds gs before hval0 hW _ _ _ hL _ _
  have hW' := hW
  obtain ⟨p, q, hA0, hV, rfl, _, _⟩ := hW
  have hA : DataW.TrodAll enc Tryd.prog W 0 (fun _ => true) true Tryd.f4.params.toList args.toList ds p := hA0
  have hval : ∀ (j : Nat) t v, Tryd.f4.params[j]? = some t → args[j]? = some v → Value.okWide Tryd.prog W .any base t v := hval0
  rw [Tryd.params4] at hA hval
  obtain ⟨v0, v1, d0, d1, p0, p1, rfl, rfl, rfl, h0, h1⟩ := trodAll_two hA
  obtain ⟨a0, len0, cap0, rfl⟩ := okWide_slice Tryd.underlying22 (hval 0 22 v0 rfl rfl)
  obtain ⟨a1, len1, cap1, rfl⟩ := okWide_slice Tryd.underlying22 (hval 1 22 v1 rfl rfl)
  have k0 := h0
  have lt0 : ∀ x ∈ p0, x.block < W.heap.size := by obtain ⟨m, hm⟩ := k0; exact DataW.trod_lt m _ _ _ hm
  have k1 := h1
  have lt1 : ∀ x ∈ p1, x.block < W.heap.size := by obtain ⟨m, hm⟩ := k1; exact DataW.trod_lt m _ _ _ hm
  obtain ⟨fuel0, hf0⟩ := h0
  obtain ⟨A0, ln0, cp0, hvv0, hlc0, hcode0⟩ := open_code Tryd.underlying22 Tryd.underlying5 (by kernel_rfl) (by simpa [Value.cells] using hf0)
  rw [hvv0] at k0 hW' ⊢
  clear hA0 hval0
  refine (momentsGhost_walk A0 ln0 cp0 hlc0 a1 len1 cap1 W hcode0 (laidFacts hL)).mono fun e W' ⟨he, bel⟩ => ?_
  subst he
  obtain ⟨dv, rfl, hVs⟩ := vars_stay gVar gVarType (by kernel_rfl) (of_decide_eq_true (by kernel_rfl)) hV bel
  exact ⟨_, rfl, _, _, _, [], _, _, hW', trodAll_mk1 (shut_bool Tryd.underlying4 _), trodAll_mk2 (Below.trod laid_out (by kernel_rfl) (of_decide_eq_true (by kernel_rfl)) k0 bel lt0) (Below.trod laid_out (by kernel_rfl) (of_decide_eq_true (by kernel_rfl)) k1 bel lt1), hVs, bel.frame _, fun h => by cases h⟩
theorem fnMomentsGhost_said : Rows.FnMomentsGhostSaid :=
  OpenClaim.holds_of_cond 4 Tryd.f4 rfl rfl rfl rfl rfl rfl rfl ⟨rfl, rfl, rfl, rfl, rfl⟩ rfl rfl rfl rfl rfl (by kernel_rfl) Tryd.func4 (by kernel_rfl)
    (of_decide_eq_true (by kernel_rfl)) (by unfold Func.isWrapper; first | (rw [if_pos (by decide +kernel)]; kernel_rfl) | (rw [if_neg (by decide +kernel)]; exact ⟨rfl, rfl⟩))
    (fun os started H enc _ F => by rw [OpenClaim.pre_eq_preRow]; exact momentsGhost_lifted os started H enc F)
theorem momentsGhost_plain (f : FuncId) (fn : Func) (hf : Tryd.pinned.checked.prog.funcNamed "loop.example/discretetomography/laws.FnMomentsGhost" = some f) (hfn : Tryd.pinned.checked.prog.funcs[f]? = some fn) :
    false = Tryd.pinned.checked.prog.looks [] ∧ ∀ (j : Nat) t, fn.params[j]? = some t → Tryd.pinned.checked.prog.wantsStandIn t = false := by
  obtain rfl : f = 4 := Option.some.inj ((show Tryd.prog.funcNamed "loop.example/discretetomography/laws.FnMomentsGhost" = some 4 by kernel_rfl).symm.trans hf) |>.symm
  obtain rfl : fn = Tryd.f4 := (Option.some.inj (Tryd.func4.symm.trans hfn)).symm
  refine ⟨by kernel_rfl, fun j t ht => ?_⟩
  rw [Tryd.params4] at ht
  obtain rfl : t = 22 := by simpa using Array.mem_of_getElem? ht
  exact (show Tryd.prog.wantsStandIn 22 = false by kernel_rfl)
/-- The card. -/
theorem fnMomentsGhost_proved : Rows.FnMomentsGhostCardSaid :=
  Claim7.holds_tied_plain_at .later [] _ _ _ _ fnMomentsGhost_said (fun _ h => by cases h) (by kernel_rfl) (fun _ h => by cases h) fnMomentsGhost_row_tie rfl ⟨rfl, rfl⟩ (by kernel_rfl) rfl momentsGhost_plain (by kernel_rfl)
#print axioms fnMomentsGhost_proved
end Go.Proofs.YtbpjceffkchmbaaDoor
