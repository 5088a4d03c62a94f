/-
  NARROWER THAN 'FOR EVERY INPUT', by the rows' own cells (each row's printed sentence says how): FnExactMomentLines: laid · FnCross: laid · FnLinesSteps: laid · FnLines: laid · FnMomentsGhost: laid · FnCrossSame: laid · FnPolyEdges: laid.
  DERIVED. THE GIVEN ROWS OF THIS SEAT. 7 by the template 'for every input the law returns true; each argument reads behind the call as it read before'; 0 by the template 'total and deterministic' (their statements: YtinjidejhmahmaaDoorTotals.lean).
  GIVEN WITH THE SEED: the statements are not yours to turn. If you find one false, say at which input.
  Laid BY PROGRAM, IN A SANDBOX (cutbox-rows.mjs): the forced cells as the released guide's own fill.sh prints them over the translation ace12768118fd6a6… (all of the seat's roots in one cut). By AI agents, Wed Nov 11 2026. No macro, syntax, notation, axiom, sorry.
-/
import Derived.Test.YtinjidejhmahmaaDoorChecked
import GoSem.Claim
import GoSem.ClaimJoined
import GoSem.ClaimMapViews
import Derived.JoinedTies
import Derived.KernelRfl
namespace Go.Proofs.YtinjidejhmahmaaDoor
/- THE CELL 'sum', in the pinned program and in every row, IS THE sha256 OF THE DUMP (.gsa) THAT YtinjidejhmahmaaDoorProg.lean LOADS. Nothing in Lean hashes anything: it is a label: what it is worth is what the hold of that sum in a sandbox is worth. -/
noncomputable def Tryd.pinned : Pinned := { name := "ytinjidejhmahmaadoor", sum := "ace12768118fd6a66b568f1d114df73a8ad7b1c9f904023a8f689efb55fe4f9c", checked := Tryd.checked }
namespace Rows
def none {H : Type} : Left H := { results := [], args := [] }

/- WHAT THE LISTED PACKAGE-LEVEL VARIABLES READ AS WHEN THE CALL BEGINS. Each datum BY PROGRAM (the guide's laid-datum.mjs) off the statement by which the dump's own 'gosem.cut.vars' lays the variable. In a bare row this is a premise. The card (YtinjidejhmahmaaDoorCards.lean) ties it to the program's text. -/
def laid_loop_example_discretetomography_impl_dirSteps {H : Type} : DataW H := .agg [.agg [.lit (.int .i64 1), .lit (.int .i64 0)], .agg [.lit (.int .i64 0), .lit (.int .i64 1)], .agg [.lit (.int .i64 1), .lit (.int .i64 1)], .agg [.lit (.int .i64 1), .lit (.int .i64 (-1))], .agg [.lit (.int .i64 2), .lit (.int .i64 1)], .agg [.lit (.int .i64 1), .lit (.int .i64 2)], .agg [.lit (.int .i64 2), .lit (.int .i64 (-1))], .agg [.lit (.int .i64 1), .lit (.int .i64 (-2))]]
def laid_math_bits_deBruijn32tab {H : Type} : DataW H := .agg [.lit (.int .u8 0), .lit (.int .u8 1), .lit (.int .u8 28), .lit (.int .u8 2), .lit (.int .u8 29), .lit (.int .u8 14), .lit (.int .u8 24), .lit (.int .u8 3), .lit (.int .u8 30), .lit (.int .u8 22), .lit (.int .u8 20), .lit (.int .u8 15), .lit (.int .u8 25), .lit (.int .u8 17), .lit (.int .u8 4), .lit (.int .u8 8), .lit (.int .u8 31), .lit (.int .u8 27), .lit (.int .u8 13), .lit (.int .u8 23), .lit (.int .u8 21), .lit (.int .u8 19), .lit (.int .u8 16), .lit (.int .u8 7), .lit (.int .u8 26), .lit (.int .u8 12), .lit (.int .u8 18), .lit (.int .u8 6), .lit (.int .u8 11), .lit (.int .u8 5), .lit (.int .u8 10), .lit (.int .u8 9)]
def laid_math_bits_deBruijn64tab {H : Type} : DataW H := .agg [.lit (.int .u8 0), .lit (.int .u8 1), .lit (.int .u8 56), .lit (.int .u8 2), .lit (.int .u8 57), .lit (.int .u8 49), .lit (.int .u8 28), .lit (.int .u8 3), .lit (.int .u8 61), .lit (.int .u8 58), .lit (.int .u8 42), .lit (.int .u8 50), .lit (.int .u8 38), .lit (.int .u8 29), .lit (.int .u8 17), .lit (.int .u8 4), .lit (.int .u8 62), .lit (.int .u8 47), .lit (.int .u8 59), .lit (.int .u8 36), .lit (.int .u8 45), .lit (.int .u8 43), .lit (.int .u8 51), .lit (.int .u8 22), .lit (.int .u8 53), .lit (.int .u8 39), .lit (.int .u8 33), .lit (.int .u8 30), .lit (.int .u8 24), .lit (.int .u8 18), .lit (.int .u8 12), .lit (.int .u8 5), .lit (.int .u8 63), .lit (.int .u8 55), .lit (.int .u8 48), .lit (.int .u8 27), .lit (.int .u8 60), .lit (.int .u8 41), .lit (.int .u8 37), .lit (.int .u8 16), .lit (.int .u8 46), .lit (.int .u8 35), .lit (.int .u8 44), .lit (.int .u8 21), .lit (.int .u8 52), .lit (.int .u8 32), .lit (.int .u8 23), .lit (.int .u8 11), .lit (.int .u8 54), .lit (.int .u8 26), .lit (.int .u8 40), .lit (.int .u8 15), .lit (.int .u8 34), .lit (.int .u8 20), .lit (.int .u8 31), .lit (.int .u8 10), .lit (.int .u8 25), .lit (.int .u8 14), .lit (.int .u8 19), .lit (.int .u8 9), .lit (.int .u8 13), .lit (.int .u8 8), .lit (.int .u8 7), .lit (.int .u8 6)]
def laid_loop_example_discretetomography_impl_sideSteps {H : Type} : DataW H := .agg [.agg [.lit (.int .i64 (-1)), .lit (.int .i64 0)], .agg [.lit (.int .i64 0), .lit (.int .i64 (-1))], .agg [.lit (.int .i64 0), .lit (.int .i64 1)], .agg [.lit (.int .i64 1), .lit (.int .i64 0)]]

/-- 'laws.FnExactMomentLines': WHATEVER THE INPUT: true; the input reads as it did. -/
def fnExactMomentLinesSpec : ChangeSpec := { name := "fnExactMomentLines", vars := ["loop.example/discretetomography/impl.dirSteps"], fn := fun _ => fun
  | [d1, d2, g1] => { results := [.lit (.bool true)], args := [d1, d2], vars := [g1] }
  | _ => none }
def fnExactMomentLinesRow : OpenClaim := { program := "ytinjidejhmahmaadoor", sum := "ace12768118fd6a66b568f1d114df73a8ad7b1c9f904023a8f689efb55fe4f9c", func := "loop.example/discretetomography/laws.FnExactMomentLines", spec := "fnExactMomentLines", unfollowed := true, recurses := true, named := ["loop.example/discretetomography/impl.dirSteps"], apart := false, laid := [("loop.example/discretetomography/impl.dirSteps", laid_loop_example_discretetomography_impl_dirSteps)] }
def FnExactMomentLinesSaid : Prop := fnExactMomentLinesRow.holds Tryd.pinned (OpenSpec.ofChange fnExactMomentLinesSpec)

/-- ITS FALSE NEIGHBOUR: 'it returns false'. Refute it at one input. -/
def fnExactMomentLinesWrong : ChangeSpec := { name := "fnExactMomentLines", vars := ["loop.example/discretetomography/impl.dirSteps"], fn := fun _ => fun
  | [d1, d2, g1] => { results := [.lit (.bool false)], args := [d1, d2], vars := [g1] }
  | _ => none }
def FnExactMomentLinesWrongFalsely : Prop := fnExactMomentLinesRow.holds Tryd.pinned (OpenSpec.ofChange fnExactMomentLinesWrong)

/-- 'laws.FnCross': WHATEVER THE INPUT: true; the input reads as it did. -/
def fnCrossSpec : ChangeSpec := { name := "fnCross", vars := ["loop.example/discretetomography/impl.dirSteps"], fn := fun _ => fun
  | [d, g1] => { results := [.lit (.bool true)], args := [d], vars := [g1] }
  | _ => none }
def fnCrossRow : OpenClaim := { program := "ytinjidejhmahmaadoor", sum := "ace12768118fd6a66b568f1d114df73a8ad7b1c9f904023a8f689efb55fe4f9c", func := "loop.example/discretetomography/laws.FnCross", spec := "fnCross", unfollowed := true, recurses := true, named := ["loop.example/discretetomography/impl.dirSteps"], apart := false, laid := [("loop.example/discretetomography/impl.dirSteps", laid_loop_example_discretetomography_impl_dirSteps)] }
def FnCrossSaid : Prop := fnCrossRow.holds Tryd.pinned (OpenSpec.ofChange fnCrossSpec)

/-- ITS FALSE NEIGHBOUR: 'it returns false'. Refute it at one input. -/
def fnCrossWrong : ChangeSpec := { name := "fnCross", vars := ["loop.example/discretetomography/impl.dirSteps"], fn := fun _ => fun
  | [d, g1] => { results := [.lit (.bool false)], args := [d], vars := [g1] }
  | _ => none }
def FnCrossWrongFalsely : Prop := fnCrossRow.holds Tryd.pinned (OpenSpec.ofChange fnCrossWrong)

/-- 'laws.FnLinesSteps': WHATEVER THE INPUT: true; the input reads as it did. -/
def fnLinesStepsSpec : ChangeSpec := { name := "fnLinesSteps", vars := ["loop.example/discretetomography/impl.dirSteps"], fn := fun _ => fun
  | [d, g1] => { results := [.lit (.bool true)], args := [d], vars := [g1] }
  | _ => none }
def fnLinesStepsRow : OpenClaim := { program := "ytinjidejhmahmaadoor", sum := "ace12768118fd6a66b568f1d114df73a8ad7b1c9f904023a8f689efb55fe4f9c", func := "loop.example/discretetomography/laws.FnLinesSteps", spec := "fnLinesSteps", unfollowed := true, recurses := true, named := ["loop.example/discretetomography/impl.dirSteps"], apart := false, laid := [("loop.example/discretetomography/impl.dirSteps", laid_loop_example_discretetomography_impl_dirSteps)] }
def FnLinesStepsSaid : Prop := fnLinesStepsRow.holds Tryd.pinned (OpenSpec.ofChange fnLinesStepsSpec)

/-- ITS FALSE NEIGHBOUR: 'it returns false'. Refute it at one input. -/
def fnLinesStepsWrong : ChangeSpec := { name := "fnLinesSteps", vars := ["loop.example/discretetomography/impl.dirSteps"], fn := fun _ => fun
  | [d, g1] => { results := [.lit (.bool false)], args := [d], vars := [g1] }
  | _ => none }
def FnLinesStepsWrongFalsely : Prop := fnLinesStepsRow.holds Tryd.pinned (OpenSpec.ofChange fnLinesStepsWrong)

/-- 'laws.FnLines': WHATEVER THE INPUT: true; the input reads as it did. -/
def fnLinesSpec : ChangeSpec := { name := "fnLines", vars := ["loop.example/discretetomography/impl.dirSteps"], fn := fun _ => fun
  | [d, g1] => { results := [.lit (.bool true)], args := [d], vars := [g1] }
  | _ => none }
def fnLinesRow : OpenClaim := { program := "ytinjidejhmahmaadoor", sum := "ace12768118fd6a66b568f1d114df73a8ad7b1c9f904023a8f689efb55fe4f9c", func := "loop.example/discretetomography/laws.FnLines", spec := "fnLines", unfollowed := true, recurses := true, named := ["loop.example/discretetomography/impl.dirSteps"], apart := false, laid := [("loop.example/discretetomography/impl.dirSteps", laid_loop_example_discretetomography_impl_dirSteps)] }
def FnLinesSaid : Prop := fnLinesRow.holds Tryd.pinned (OpenSpec.ofChange fnLinesSpec)

/-- ITS FALSE NEIGHBOUR: 'it returns false'. Refute it at one input. -/
def fnLinesWrong : ChangeSpec := { name := "fnLines", vars := ["loop.example/discretetomography/impl.dirSteps"], fn := fun _ => fun
  | [d, g1] => { results := [.lit (.bool false)], args := [d], vars := [g1] }
  | _ => none }
def FnLinesWrongFalsely : Prop := fnLinesRow.holds Tryd.pinned (OpenSpec.ofChange fnLinesWrong)

/-- 'laws.FnMomentsGhost': WHATEVER THE INPUT: true; the input reads as it did. -/
def fnMomentsGhostSpec : ChangeSpec := { name := "fnMomentsGhost", vars := ["loop.example/discretetomography/impl.dirSteps"], fn := fun _ => fun
  | [d1, d2, g1] => { results := [.lit (.bool true)], args := [d1, d2], vars := [g1] }
  | _ => none }
def fnMomentsGhostRow : OpenClaim := { program := "ytinjidejhmahmaadoor", sum := "ace12768118fd6a66b568f1d114df73a8ad7b1c9f904023a8f689efb55fe4f9c", func := "loop.example/discretetomography/laws.FnMomentsGhost", spec := "fnMomentsGhost", unfollowed := true, recurses := true, named := ["loop.example/discretetomography/impl.dirSteps"], apart := false, laid := [("loop.example/discretetomography/impl.dirSteps", laid_loop_example_discretetomography_impl_dirSteps)] }
def FnMomentsGhostSaid : Prop := fnMomentsGhostRow.holds Tryd.pinned (OpenSpec.ofChange fnMomentsGhostSpec)

/-- ITS FALSE NEIGHBOUR: 'it returns false'. Refute it at one input. -/
def fnMomentsGhostWrong : ChangeSpec := { name := "fnMomentsGhost", vars := ["loop.example/discretetomography/impl.dirSteps"], fn := fun _ => fun
  | [d1, d2, g1] => { results := [.lit (.bool false)], args := [d1, d2], vars := [g1] }
  | _ => none }
def FnMomentsGhostWrongFalsely : Prop := fnMomentsGhostRow.holds Tryd.pinned (OpenSpec.ofChange fnMomentsGhostWrong)

/-- 'laws.FnCrossSame': WHATEVER THE INPUT: true; the input reads as it did. -/
def fnCrossSameSpec : ChangeSpec := { name := "fnCrossSame", vars := ["loop.example/discretetomography/impl.dirSteps"], fn := fun _ => fun
  | [d, g1] => { results := [.lit (.bool true)], args := [d], vars := [g1] }
  | _ => none }
def fnCrossSameRow : OpenClaim := { program := "ytinjidejhmahmaadoor", sum := "ace12768118fd6a66b568f1d114df73a8ad7b1c9f904023a8f689efb55fe4f9c", func := "loop.example/discretetomography/laws.FnCrossSame", spec := "fnCrossSame", unfollowed := true, recurses := true, named := ["loop.example/discretetomography/impl.dirSteps"], apart := false, laid := [("loop.example/discretetomography/impl.dirSteps", laid_loop_example_discretetomography_impl_dirSteps)] }
def FnCrossSameSaid : Prop := fnCrossSameRow.holds Tryd.pinned (OpenSpec.ofChange fnCrossSameSpec)

/-- ITS FALSE NEIGHBOUR: 'it returns false'. Refute it at one input. -/
def fnCrossSameWrong : ChangeSpec := { name := "fnCrossSame", vars := ["loop.example/discretetomography/impl.dirSteps"], fn := fun _ => fun
  | [d, g1] => { results := [.lit (.bool false)], args := [d], vars := [g1] }
  | _ => none }
def FnCrossSameWrongFalsely : Prop := fnCrossSameRow.holds Tryd.pinned (OpenSpec.ofChange fnCrossSameWrong)

/-- 'laws.FnPolyEdges': WHATEVER THE INPUT: true; the input reads as it did. -/
def fnPolyEdgesSpec : ChangeSpec := { name := "fnPolyEdges", vars := ["loop.example/discretetomography/impl.sideSteps"], fn := fun _ => fun
  | [d, g1] => { results := [.lit (.bool true)], args := [d], vars := [g1] }
  | _ => none }
def fnPolyEdgesRow : OpenClaim := { program := "ytinjidejhmahmaadoor", sum := "ace12768118fd6a66b568f1d114df73a8ad7b1c9f904023a8f689efb55fe4f9c", func := "loop.example/discretetomography/laws.FnPolyEdges", spec := "fnPolyEdges", unfollowed := true, recurses := true, named := ["math/bits.deBruijn32tab", "math/bits.deBruijn64tab", "loop.example/discretetomography/impl.sideSteps"], apart := false, laid := [("math/bits.deBruijn32tab", laid_math_bits_deBruijn32tab), ("math/bits.deBruijn64tab", laid_math_bits_deBruijn64tab), ("loop.example/discretetomography/impl.sideSteps", laid_loop_example_discretetomography_impl_sideSteps)] }
def FnPolyEdgesSaid : Prop := fnPolyEdgesRow.holds Tryd.pinned (OpenSpec.ofChange fnPolyEdgesSpec)

/-- ITS FALSE NEIGHBOUR: 'it returns false'. Refute it at one input. -/
def fnPolyEdgesWrong : ChangeSpec := { name := "fnPolyEdges", vars := ["loop.example/discretetomography/impl.sideSteps"], fn := fun _ => fun
  | [d, g1] => { results := [.lit (.bool false)], args := [d], vars := [g1] }
  | _ => none }
def FnPolyEdgesWrongFalsely : Prop := fnPolyEdgesRow.holds Tryd.pinned (OpenSpec.ofChange fnPolyEdgesWrong)

/- THE SECOND FORM. 'bulk': how many values and letters a reading holds, each counted each time it is reached (what is shared counts as often as it is met; a slice's spare places count too). A statement '..UptoSaid' is the law's where the arguments, and the package variables that the reading takes, are together of bulk at most 1048576: NARROWER than '..Said'. Prove '..Said' where nothing that the law and all that it calls make is longer than what came in: it says more and counts as full. Else prove '..UptoSaid'. A law counts once. -/
mutual
def uptoBulk {H : Type} : DataW H → Nat
  | .lit (.string bytes) => bytes.length + 1
  | .lit _ => 1
  | .nil => 1
  | .ptr d => uptoBulk d + 1
  | .slice elems spare => uptoBulkAll elems + uptoBulkAll spare + 1
  | .agg parts => uptoBulkAll parts + 1
  | .iface _ d => uptoBulk d + 1
  | .map entries => uptoBulkEntries entries + 1
  | .held _ => 1
def uptoBulkAll {H : Type} : List (DataW H) → Nat
  | [] => 0
  | d :: r => uptoBulk d + uptoBulkAll r
def uptoBulkEntries {H : Type} : List (Lit × DataW H) → Nat
  | [] => 0
  | x :: r => uptoBulkEntry x + uptoBulkEntries r
def uptoBulkEntry {H : Type} : Lit × DataW H → Nat
  | (.string bytes, d) => bytes.length + uptoBulk d + 1
  | (_, d) => uptoBulk d + 1
 end
def uptoSmall : (H : Type) → List (DataW H) → Bool := fun _ ds => decide (uptoBulkAll ds ≤ 1048576)
def OpenSpec.upto (s : _root_.Go.ChangeSpec) : _root_.Go.OpenSpec := { _root_.Go.OpenSpec.ofChange s with cond := some uptoSmall }

/-- 'laws.FnExactMomentLines', WHERE WHAT IT READS IS OF BULK AT MOST 1048576: true; the input reads as it did. -/
def fnExactMomentLinesUptoRow : OpenClaim := { program := "ytinjidejhmahmaadoor", sum := "ace12768118fd6a66b568f1d114df73a8ad7b1c9f904023a8f689efb55fe4f9c", func := "loop.example/discretetomography/laws.FnExactMomentLines", spec := "fnExactMomentLines", unfollowed := true, recurses := true, named := ["loop.example/discretetomography/impl.dirSteps"], apart := false, laid := [("loop.example/discretetomography/impl.dirSteps", laid_loop_example_discretetomography_impl_dirSteps)], narrowed := true }
def FnExactMomentLinesUptoSaid : Prop := fnExactMomentLinesUptoRow.holds Tryd.pinned (OpenSpec.upto fnExactMomentLinesSpec)

/-- 'laws.FnCross', WHERE WHAT IT READS IS OF BULK AT MOST 1048576: true; the input reads as it did. -/
def fnCrossUptoRow : OpenClaim := { program := "ytinjidejhmahmaadoor", sum := "ace12768118fd6a66b568f1d114df73a8ad7b1c9f904023a8f689efb55fe4f9c", func := "loop.example/discretetomography/laws.FnCross", spec := "fnCross", unfollowed := true, recurses := true, named := ["loop.example/discretetomography/impl.dirSteps"], apart := false, laid := [("loop.example/discretetomography/impl.dirSteps", laid_loop_example_discretetomography_impl_dirSteps)], narrowed := true }
def FnCrossUptoSaid : Prop := fnCrossUptoRow.holds Tryd.pinned (OpenSpec.upto fnCrossSpec)

/-- 'laws.FnLinesSteps', WHERE WHAT IT READS IS OF BULK AT MOST 1048576: true; the input reads as it did. -/
def fnLinesStepsUptoRow : OpenClaim := { program := "ytinjidejhmahmaadoor", sum := "ace12768118fd6a66b568f1d114df73a8ad7b1c9f904023a8f689efb55fe4f9c", func := "loop.example/discretetomography/laws.FnLinesSteps", spec := "fnLinesSteps", unfollowed := true, recurses := true, named := ["loop.example/discretetomography/impl.dirSteps"], apart := false, laid := [("loop.example/discretetomography/impl.dirSteps", laid_loop_example_discretetomography_impl_dirSteps)], narrowed := true }
def FnLinesStepsUptoSaid : Prop := fnLinesStepsUptoRow.holds Tryd.pinned (OpenSpec.upto fnLinesStepsSpec)

/-- 'laws.FnLines', WHERE WHAT IT READS IS OF BULK AT MOST 1048576: true; the input reads as it did. -/
def fnLinesUptoRow : OpenClaim := { program := "ytinjidejhmahmaadoor", sum := "ace12768118fd6a66b568f1d114df73a8ad7b1c9f904023a8f689efb55fe4f9c", func := "loop.example/discretetomography/laws.FnLines", spec := "fnLines", unfollowed := true, recurses := true, named := ["loop.example/discretetomography/impl.dirSteps"], apart := false, laid := [("loop.example/discretetomography/impl.dirSteps", laid_loop_example_discretetomography_impl_dirSteps)], narrowed := true }
def FnLinesUptoSaid : Prop := fnLinesUptoRow.holds Tryd.pinned (OpenSpec.upto fnLinesSpec)

/-- 'laws.FnMomentsGhost', WHERE WHAT IT READS IS OF BULK AT MOST 1048576: true; the input reads as it did. -/
def fnMomentsGhostUptoRow : OpenClaim := { program := "ytinjidejhmahmaadoor", sum := "ace12768118fd6a66b568f1d114df73a8ad7b1c9f904023a8f689efb55fe4f9c", func := "loop.example/discretetomography/laws.FnMomentsGhost", spec := "fnMomentsGhost", unfollowed := true, recurses := true, named := ["loop.example/discretetomography/impl.dirSteps"], apart := false, laid := [("loop.example/discretetomography/impl.dirSteps", laid_loop_example_discretetomography_impl_dirSteps)], narrowed := true }
def FnMomentsGhostUptoSaid : Prop := fnMomentsGhostUptoRow.holds Tryd.pinned (OpenSpec.upto fnMomentsGhostSpec)

/-- 'laws.FnCrossSame', WHERE WHAT IT READS IS OF BULK AT MOST 1048576: true; the input reads as it did. -/
def fnCrossSameUptoRow : OpenClaim := { program := "ytinjidejhmahmaadoor", sum := "ace12768118fd6a66b568f1d114df73a8ad7b1c9f904023a8f689efb55fe4f9c", func := "loop.example/discretetomography/laws.FnCrossSame", spec := "fnCrossSame", unfollowed := true, recurses := true, named := ["loop.example/discretetomography/impl.dirSteps"], apart := false, laid := [("loop.example/discretetomography/impl.dirSteps", laid_loop_example_discretetomography_impl_dirSteps)], narrowed := true }
def FnCrossSameUptoSaid : Prop := fnCrossSameUptoRow.holds Tryd.pinned (OpenSpec.upto fnCrossSameSpec)

/-- 'laws.FnPolyEdges', WHERE WHAT IT READS IS OF BULK AT MOST 1048576: true; the input reads as it did. -/
def fnPolyEdgesUptoRow : OpenClaim := { program := "ytinjidejhmahmaadoor", sum := "ace12768118fd6a66b568f1d114df73a8ad7b1c9f904023a8f689efb55fe4f9c", func := "loop.example/discretetomography/laws.FnPolyEdges", spec := "fnPolyEdges", unfollowed := true, recurses := true, named := ["math/bits.deBruijn32tab", "math/bits.deBruijn64tab", "loop.example/discretetomography/impl.sideSteps"], apart := false, laid := [("math/bits.deBruijn32tab", laid_math_bits_deBruijn32tab), ("math/bits.deBruijn64tab", laid_math_bits_deBruijn64tab), ("loop.example/discretetomography/impl.sideSteps", laid_loop_example_discretetomography_impl_sideSteps)], narrowed := true }
def FnPolyEdgesUptoSaid : Prop := fnPolyEdgesUptoRow.holds Tryd.pinned (OpenSpec.upto fnPolyEdgesSpec)

end Rows
end Go.Proofs.YtinjidejhmahmaaDoor
