/-
  NARROWER THAN 'FOR EVERY INPUT', by the rows' own cells (each row's printed sentence says how): FnLines: laid · FnMomentsGhost: laid · FnCrossSame: laid.
  DERIVED. THE GIVEN ROWS OF THIS SEAT. 3 by the template 'for every input the law returns true; each argument reads behind the call as it read before'; 0 by the template 'total and deterministic' (their statements: YtbpjceffkchmbaaDoorTotals.lean).
  GIVEN WITH THE SEED: the statements are not yours to turn. If you find one false, say at which input.
  Laid BY PROGRAM, IN A SANDBOX (cutbox-rows.mjs): the forced cells as the released guide's own fill.sh prints them over the translation 51c053de59ab0626… (all of the seat's roots in one cut). By AI agents, Wed Nov 11 2026. No macro, syntax, notation, axiom, sorry.
-/
import Derived.Test.YtbpjceffkchmbaaDoorChecked
import GoSem.Claim
import GoSem.ClaimJoined
import GoSem.ClaimMapViews
import Derived.JoinedTies
import Derived.KernelRfl
namespace Go.Proofs.YtbpjceffkchmbaaDoor
/- THE CELL 'sum', in the pinned program and in every row, IS THE sha256 OF THE DUMP (.gsa) THAT YtbpjceffkchmbaaDoorProg.lean LOADS. Nothing in Lean hashes anything: it is a label: what it is worth is what the hold of that sum in a sandbox is worth. -/
noncomputable def Tryd.pinned : Pinned := { name := "ytbpjceffkchmbaadoor", sum := "51c053de59ab06269716b38967c864441aa2037c7a4adbc62836e0ccb24de7fc", checked := Tryd.checked }
namespace Rows
def none {H : Type} : Left H := { results := [], args := [] }

/- WHAT THE LISTED PACKAGE-LEVEL VARIABLES READ AS WHEN THE CALL BEGINS. Each datum BY PROGRAM (the guide's laid-datum.mjs) off the statement by which the dump's own 'gosem.cut.vars' lays the variable. In a bare row this is a premise. The card (YtbpjceffkchmbaaDoorCards.lean) ties it to the program's text. -/
def laid_loop_example_discretetomography_impl_dirSteps {H : Type} : DataW H := .agg [.agg [.lit (.int .i64 1), .lit (.int .i64 0)], .agg [.lit (.int .i64 0), .lit (.int .i64 1)], .agg [.lit (.int .i64 1), .lit (.int .i64 1)], .agg [.lit (.int .i64 1), .lit (.int .i64 (-1))], .agg [.lit (.int .i64 2), .lit (.int .i64 1)], .agg [.lit (.int .i64 1), .lit (.int .i64 2)], .agg [.lit (.int .i64 2), .lit (.int .i64 (-1))], .agg [.lit (.int .i64 1), .lit (.int .i64 (-2))]]

/-- 'laws.FnLines': WHATEVER THE INPUT: true; the input reads as it did. -/
def fnLinesSpec : ChangeSpec := { name := "fnLines", vars := ["loop.example/discretetomography/impl.dirSteps"], fn := fun _ => fun
  | [d, g1] => { results := [.lit (.bool true)], args := [d], vars := [g1] }
  | _ => none }
def fnLinesRow : OpenClaim := { program := "ytbpjceffkchmbaadoor", sum := "51c053de59ab06269716b38967c864441aa2037c7a4adbc62836e0ccb24de7fc", func := "loop.example/discretetomography/laws.FnLines", spec := "fnLines", unfollowed := true, recurses := true, named := ["loop.example/discretetomography/impl.dirSteps"], apart := false, laid := [("loop.example/discretetomography/impl.dirSteps", laid_loop_example_discretetomography_impl_dirSteps)] }
def FnLinesSaid : Prop := fnLinesRow.holds Tryd.pinned (OpenSpec.ofChange fnLinesSpec)

/-- ITS FALSE NEIGHBOUR: 'it returns false'. Refute it at one input. -/
def fnLinesWrong : ChangeSpec := { name := "fnLines", vars := ["loop.example/discretetomography/impl.dirSteps"], fn := fun _ => fun
  | [d, g1] => { results := [.lit (.bool false)], args := [d], vars := [g1] }
  | _ => none }
def FnLinesWrongFalsely : Prop := fnLinesRow.holds Tryd.pinned (OpenSpec.ofChange fnLinesWrong)

/-- 'laws.FnMomentsGhost': WHATEVER THE INPUT: true; the input reads as it did. -/
def fnMomentsGhostSpec : ChangeSpec := { name := "fnMomentsGhost", vars := ["loop.example/discretetomography/impl.dirSteps"], fn := fun _ => fun
  | [d1, d2, g1] => { results := [.lit (.bool true)], args := [d1, d2], vars := [g1] }
  | _ => none }
def fnMomentsGhostRow : OpenClaim := { program := "ytbpjceffkchmbaadoor", sum := "51c053de59ab06269716b38967c864441aa2037c7a4adbc62836e0ccb24de7fc", func := "loop.example/discretetomography/laws.FnMomentsGhost", spec := "fnMomentsGhost", unfollowed := true, recurses := true, named := ["loop.example/discretetomography/impl.dirSteps"], apart := false, laid := [("loop.example/discretetomography/impl.dirSteps", laid_loop_example_discretetomography_impl_dirSteps)] }
def FnMomentsGhostSaid : Prop := fnMomentsGhostRow.holds Tryd.pinned (OpenSpec.ofChange fnMomentsGhostSpec)

/-- ITS FALSE NEIGHBOUR: 'it returns false'. Refute it at one input. -/
def fnMomentsGhostWrong : ChangeSpec := { name := "fnMomentsGhost", vars := ["loop.example/discretetomography/impl.dirSteps"], fn := fun _ => fun
  | [d1, d2, g1] => { results := [.lit (.bool false)], args := [d1, d2], vars := [g1] }
  | _ => none }
def FnMomentsGhostWrongFalsely : Prop := fnMomentsGhostRow.holds Tryd.pinned (OpenSpec.ofChange fnMomentsGhostWrong)

/-- 'laws.FnCrossSame': WHATEVER THE INPUT: true; the input reads as it did. -/
def fnCrossSameSpec : ChangeSpec := { name := "fnCrossSame", vars := ["loop.example/discretetomography/impl.dirSteps"], fn := fun _ => fun
  | [d, g1] => { results := [.lit (.bool true)], args := [d], vars := [g1] }
  | _ => none }
def fnCrossSameRow : OpenClaim := { program := "ytbpjceffkchmbaadoor", sum := "51c053de59ab06269716b38967c864441aa2037c7a4adbc62836e0ccb24de7fc", func := "loop.example/discretetomography/laws.FnCrossSame", spec := "fnCrossSame", unfollowed := true, recurses := true, named := ["loop.example/discretetomography/impl.dirSteps"], apart := false, laid := [("loop.example/discretetomography/impl.dirSteps", laid_loop_example_discretetomography_impl_dirSteps)] }
def FnCrossSameSaid : Prop := fnCrossSameRow.holds Tryd.pinned (OpenSpec.ofChange fnCrossSameSpec)

/-- ITS FALSE NEIGHBOUR: 'it returns false'. Refute it at one input. -/
def fnCrossSameWrong : ChangeSpec := { name := "fnCrossSame", vars := ["loop.example/discretetomography/impl.dirSteps"], fn := fun _ => fun
  | [d, g1] => { results := [.lit (.bool false)], args := [d], vars := [g1] }
  | _ => none }
def FnCrossSameWrongFalsely : Prop := fnCrossSameRow.holds Tryd.pinned (OpenSpec.ofChange fnCrossSameWrong)

/- THE SECOND FORM. 'bulk': how many values and letters a reading holds, each counted each time it is reached (what is shared counts as often as it is met; a slice's spare places count too). A statement '..UptoSaid' is the law's where the arguments, and the package variables that the reading takes, are together of bulk at most 1048576: NARROWER than '..Said'. Prove '..Said' where nothing that the law and all that it calls make is longer than what came in: it says more and counts as full. Else prove '..UptoSaid'. A law counts once. -/
mutual
def uptoBulk {H : Type} : DataW H → Nat
  | .lit (.string bytes) => bytes.length + 1
  | .lit _ => 1
  | .nil => 1
  | .ptr d => uptoBulk d + 1
  | .slice elems spare => uptoBulkAll elems + uptoBulkAll spare + 1
  | .agg parts => uptoBulkAll parts + 1
  | .iface _ d => uptoBulk d + 1
  | .map entries => uptoBulkEntries entries + 1
  | .held _ => 1
def uptoBulkAll {H : Type} : List (DataW H) → Nat
  | [] => 0
  | d :: r => uptoBulk d + uptoBulkAll r
def uptoBulkEntries {H : Type} : List (Lit × DataW H) → Nat
  | [] => 0
  | x :: r => uptoBulkEntry x + uptoBulkEntries r
def uptoBulkEntry {H : Type} : Lit × DataW H → Nat
  | (.string bytes, d) => bytes.length + uptoBulk d + 1
  | (_, d) => uptoBulk d + 1
 end
def uptoSmall : (H : Type) → List (DataW H) → Bool := fun _ ds => decide (uptoBulkAll ds ≤ 1048576)
def OpenSpec.upto (s : _root_.Go.ChangeSpec) : _root_.Go.OpenSpec := { _root_.Go.OpenSpec.ofChange s with cond := some uptoSmall }

/-- 'laws.FnLines', WHERE WHAT IT READS IS OF BULK AT MOST 1048576: true; the input reads as it did. -/
def fnLinesUptoRow : OpenClaim := { program := "ytbpjceffkchmbaadoor", sum := "51c053de59ab06269716b38967c864441aa2037c7a4adbc62836e0ccb24de7fc", func := "loop.example/discretetomography/laws.FnLines", spec := "fnLines", unfollowed := true, recurses := true, named := ["loop.example/discretetomography/impl.dirSteps"], apart := false, laid := [("loop.example/discretetomography/impl.dirSteps", laid_loop_example_discretetomography_impl_dirSteps)], narrowed := true }
def FnLinesUptoSaid : Prop := fnLinesUptoRow.holds Tryd.pinned (OpenSpec.upto fnLinesSpec)

/-- 'laws.FnMomentsGhost', WHERE WHAT IT READS IS OF BULK AT MOST 1048576: true; the input reads as it did. -/
def fnMomentsGhostUptoRow : OpenClaim := { program := "ytbpjceffkchmbaadoor", sum := "51c053de59ab06269716b38967c864441aa2037c7a4adbc62836e0ccb24de7fc", func := "loop.example/discretetomography/laws.FnMomentsGhost", spec := "fnMomentsGhost", unfollowed := true, recurses := true, named := ["loop.example/discretetomography/impl.dirSteps"], apart := false, laid := [("loop.example/discretetomography/impl.dirSteps", laid_loop_example_discretetomography_impl_dirSteps)], narrowed := true }
def FnMomentsGhostUptoSaid : Prop := fnMomentsGhostUptoRow.holds Tryd.pinned (OpenSpec.upto fnMomentsGhostSpec)

/-- 'laws.FnCrossSame', WHERE WHAT IT READS IS OF BULK AT MOST 1048576: true; the input reads as it did. -/
def fnCrossSameUptoRow : OpenClaim := { program := "ytbpjceffkchmbaadoor", sum := "51c053de59ab06269716b38967c864441aa2037c7a4adbc62836e0ccb24de7fc", func := "loop.example/discretetomography/laws.FnCrossSame", spec := "fnCrossSame", unfollowed := true, recurses := true, named := ["loop.example/discretetomography/impl.dirSteps"], apart := false, laid := [("loop.example/discretetomography/impl.dirSteps", laid_loop_example_discretetomography_impl_dirSteps)], narrowed := true }
def FnCrossSameUptoSaid : Prop := fnCrossSameUptoRow.holds Tryd.pinned (OpenSpec.upto fnCrossSameSpec)

end Rows
end Go.Proofs.YtbpjceffkchmbaaDoor
