/-
  No cell of these rows narrows 'for every input' (looked for: loops, veiled, ifaces, maps, wideKeys, modest, calm, conditions, laid).
  DERIVED. THE GIVEN ROWS OF THIS SEAT. 11 by the template 'for every input the law returns true; each argument reads behind the call as it read before'; 0 by the template 'total and deterministic' (their statements: YtlckhakgmbjdbaaTotals.lean).
  GIVEN WITH THE SEED: the statements are not yours to turn. If you find one false, say at which input.
  Laid BY PROGRAM, IN A SANDBOX (cutbox-rows.mjs): the forced cells as the released guide's own fill.sh prints them over the translation a89cd265e73c68e5… (all of the seat's roots in one cut). By AI agents, Wed Nov 11 2026. No macro, syntax, notation, axiom, sorry.
-/
import Derived.Test.YtlckhakgmbjdbaaChecked
import GoSem.Claim
import GoSem.ClaimJoined
import GoSem.ClaimMapViews
import Derived.JoinedTies
import Derived.KernelRfl
namespace Go.Proofs.Ytlckhakgmbjdbaa
/- THE CELL 'sum', in the pinned program and in every row, IS THE sha256 OF THE DUMP (.gsa) THAT YtlckhakgmbjdbaaProg.lean LOADS. Nothing in Lean hashes anything: it is a label: what it is worth is what the hold of that sum in a sandbox is worth. -/
noncomputable def Try.pinned : Pinned := { name := "ytlckhakgmbjdbaa", sum := "a89cd265e73c68e54f098d65d10abc04562ae8859fbe1dfc9a30e1815779de9a", checked := Try.checked }
namespace Rows
def none {H : Type} : Left H := { results := [], args := [] }

/-- 'laws.FnExactMomentCross': WHATEVER THE INPUT: true; the input reads as it did. -/
def fnExactMomentCrossSpec : ChangeSpec := { name := "fnExactMomentCross", fn := fun _ => fun
  | [d] => { results := [.lit (.bool true)], args := [d] }
  | _ => none }
def fnExactMomentCrossRow : OpenClaim := { program := "ytlckhakgmbjdbaa", sum := "a89cd265e73c68e54f098d65d10abc04562ae8859fbe1dfc9a30e1815779de9a", func := "loop.example/discretetomography/laws.FnExactMomentCross", spec := "fnExactMomentCross", unfollowed := true, recurses := true, apart := false }
def FnExactMomentCrossSaid : Prop := fnExactMomentCrossRow.holds Try.pinned (OpenSpec.ofChange fnExactMomentCrossSpec)

/-- ITS FALSE NEIGHBOUR: 'it returns false'. Refute it at one input. -/
def fnExactMomentCrossWrong : ChangeSpec := { name := "fnExactMomentCross", fn := fun _ => fun
  | [d] => { results := [.lit (.bool false)], args := [d] }
  | _ => none }
def FnExactMomentCrossWrongFalsely : Prop := fnExactMomentCrossRow.holds Try.pinned (OpenSpec.ofChange fnExactMomentCrossWrong)

/-- 'laws.FnExactMomentSquares': WHATEVER THE INPUT: true; the input reads as it did. -/
def fnExactMomentSquaresSpec : ChangeSpec := { name := "fnExactMomentSquares", fn := fun _ => fun
  | [d] => { results := [.lit (.bool true)], args := [d] }
  | _ => none }
def fnExactMomentSquaresRow : OpenClaim := { program := "ytlckhakgmbjdbaa", sum := "a89cd265e73c68e54f098d65d10abc04562ae8859fbe1dfc9a30e1815779de9a", func := "loop.example/discretetomography/laws.FnExactMomentSquares", spec := "fnExactMomentSquares", unfollowed := true, recurses := true, apart := false }
def FnExactMomentSquaresSaid : Prop := fnExactMomentSquaresRow.holds Try.pinned (OpenSpec.ofChange fnExactMomentSquaresSpec)

/-- ITS FALSE NEIGHBOUR: 'it returns false'. Refute it at one input. -/
def fnExactMomentSquaresWrong : ChangeSpec := { name := "fnExactMomentSquares", fn := fun _ => fun
  | [d] => { results := [.lit (.bool false)], args := [d] }
  | _ => none }
def FnExactMomentSquaresWrongFalsely : Prop := fnExactMomentSquaresRow.holds Try.pinned (OpenSpec.ofChange fnExactMomentSquaresWrong)

/-- 'laws.FnExactMomentSums': WHATEVER THE INPUT: true; the input reads as it did. -/
def fnExactMomentSumsSpec : ChangeSpec := { name := "fnExactMomentSums", fn := fun _ => fun
  | [d] => { results := [.lit (.bool true)], args := [d] }
  | _ => none }
def fnExactMomentSumsRow : OpenClaim := { program := "ytlckhakgmbjdbaa", sum := "a89cd265e73c68e54f098d65d10abc04562ae8859fbe1dfc9a30e1815779de9a", func := "loop.example/discretetomography/laws.FnExactMomentSums", spec := "fnExactMomentSums", unfollowed := true, recurses := true, apart := false }
def FnExactMomentSumsSaid : Prop := fnExactMomentSumsRow.holds Try.pinned (OpenSpec.ofChange fnExactMomentSumsSpec)

/-- ITS FALSE NEIGHBOUR: 'it returns false'. Refute it at one input. -/
def fnExactMomentSumsWrong : ChangeSpec := { name := "fnExactMomentSums", fn := fun _ => fun
  | [d] => { results := [.lit (.bool false)], args := [d] }
  | _ => none }
def FnExactMomentSumsWrongFalsely : Prop := fnExactMomentSumsRow.holds Try.pinned (OpenSpec.ofChange fnExactMomentSumsWrong)

/-- 'laws.FnSquaresTurn': WHATEVER THE INPUT: true; the input reads as it did. -/
def fnSquaresTurnSpec : ChangeSpec := { name := "fnSquaresTurn", fn := fun _ => fun
  | [d] => { results := [.lit (.bool true)], args := [d] }
  | _ => none }
def fnSquaresTurnRow : OpenClaim := { program := "ytlckhakgmbjdbaa", sum := "a89cd265e73c68e54f098d65d10abc04562ae8859fbe1dfc9a30e1815779de9a", func := "loop.example/discretetomography/laws.FnSquaresTurn", spec := "fnSquaresTurn", unfollowed := true, recurses := true, apart := false }
def FnSquaresTurnSaid : Prop := fnSquaresTurnRow.holds Try.pinned (OpenSpec.ofChange fnSquaresTurnSpec)

/-- ITS FALSE NEIGHBOUR: 'it returns false'. Refute it at one input. -/
def fnSquaresTurnWrong : ChangeSpec := { name := "fnSquaresTurn", fn := fun _ => fun
  | [d] => { results := [.lit (.bool false)], args := [d] }
  | _ => none }
def FnSquaresTurnWrongFalsely : Prop := fnSquaresTurnRow.holds Try.pinned (OpenSpec.ofChange fnSquaresTurnWrong)

/-- 'laws.FnCrossTurn': WHATEVER THE INPUT: true; the input reads as it did. -/
def fnCrossTurnSpec : ChangeSpec := { name := "fnCrossTurn", fn := fun _ => fun
  | [d] => { results := [.lit (.bool true)], args := [d] }
  | _ => none }
def fnCrossTurnRow : OpenClaim := { program := "ytlckhakgmbjdbaa", sum := "a89cd265e73c68e54f098d65d10abc04562ae8859fbe1dfc9a30e1815779de9a", func := "loop.example/discretetomography/laws.FnCrossTurn", spec := "fnCrossTurn", unfollowed := true, recurses := true, apart := false }
def FnCrossTurnSaid : Prop := fnCrossTurnRow.holds Try.pinned (OpenSpec.ofChange fnCrossTurnSpec)

/-- ITS FALSE NEIGHBOUR: 'it returns false'. Refute it at one input. -/
def fnCrossTurnWrong : ChangeSpec := { name := "fnCrossTurn", fn := fun _ => fun
  | [d] => { results := [.lit (.bool false)], args := [d] }
  | _ => none }
def FnCrossTurnWrongFalsely : Prop := fnCrossTurnRow.holds Try.pinned (OpenSpec.ofChange fnCrossTurnWrong)

/-- 'laws.FnMomentsPut': WHATEVER THE INPUT: true; the input reads as it did. -/
def fnMomentsPutSpec : ChangeSpec := { name := "fnMomentsPut", fn := fun _ => fun
  | [d1, d2] => { results := [.lit (.bool true)], args := [d1, d2] }
  | _ => none }
def fnMomentsPutRow : OpenClaim := { program := "ytlckhakgmbjdbaa", sum := "a89cd265e73c68e54f098d65d10abc04562ae8859fbe1dfc9a30e1815779de9a", func := "loop.example/discretetomography/laws.FnMomentsPut", spec := "fnMomentsPut", unfollowed := true, recurses := true, apart := false }
def FnMomentsPutSaid : Prop := fnMomentsPutRow.holds Try.pinned (OpenSpec.ofChange fnMomentsPutSpec)

/-- ITS FALSE NEIGHBOUR: 'it returns false'. Refute it at one input. -/
def fnMomentsPutWrong : ChangeSpec := { name := "fnMomentsPut", fn := fun _ => fun
  | [d1, d2] => { results := [.lit (.bool false)], args := [d1, d2] }
  | _ => none }
def FnMomentsPutWrongFalsely : Prop := fnMomentsPutRow.holds Try.pinned (OpenSpec.ofChange fnMomentsPutWrong)

/-- 'laws.FnSquaresSpread': WHATEVER THE INPUT: true; the input reads as it did. -/
def fnSquaresSpreadSpec : ChangeSpec := { name := "fnSquaresSpread", fn := fun _ => fun
  | [d] => { results := [.lit (.bool true)], args := [d] }
  | _ => none }
def fnSquaresSpreadRow : OpenClaim := { program := "ytlckhakgmbjdbaa", sum := "a89cd265e73c68e54f098d65d10abc04562ae8859fbe1dfc9a30e1815779de9a", func := "loop.example/discretetomography/laws.FnSquaresSpread", spec := "fnSquaresSpread", unfollowed := true, recurses := true, apart := false }
def FnSquaresSpreadSaid : Prop := fnSquaresSpreadRow.holds Try.pinned (OpenSpec.ofChange fnSquaresSpreadSpec)

/-- ITS FALSE NEIGHBOUR: 'it returns false'. Refute it at one input. -/
def fnSquaresSpreadWrong : ChangeSpec := { name := "fnSquaresSpread", fn := fun _ => fun
  | [d] => { results := [.lit (.bool false)], args := [d] }
  | _ => none }
def FnSquaresSpreadWrongFalsely : Prop := fnSquaresSpreadRow.holds Try.pinned (OpenSpec.ofChange fnSquaresSpreadWrong)

/-- 'laws.FnMoments': WHATEVER THE INPUT: true; the input reads as it did. -/
def fnMomentsSpec : ChangeSpec := { name := "fnMoments", fn := fun _ => fun
  | [d] => { results := [.lit (.bool true)], args := [d] }
  | _ => none }
def fnMomentsRow : OpenClaim := { program := "ytlckhakgmbjdbaa", sum := "a89cd265e73c68e54f098d65d10abc04562ae8859fbe1dfc9a30e1815779de9a", func := "loop.example/discretetomography/laws.FnMoments", spec := "fnMoments", unfollowed := true, recurses := true, apart := false }
def FnMomentsSaid : Prop := fnMomentsRow.holds Try.pinned (OpenSpec.ofChange fnMomentsSpec)

/-- ITS FALSE NEIGHBOUR: 'it returns false'. Refute it at one input. -/
def fnMomentsWrong : ChangeSpec := { name := "fnMoments", fn := fun _ => fun
  | [d] => { results := [.lit (.bool false)], args := [d] }
  | _ => none }
def FnMomentsWrongFalsely : Prop := fnMomentsRow.holds Try.pinned (OpenSpec.ofChange fnMomentsWrong)

/-- 'laws.FnSquares': WHATEVER THE INPUT: true; the input reads as it did. -/
def fnSquaresSpec : ChangeSpec := { name := "fnSquares", fn := fun _ => fun
  | [d] => { results := [.lit (.bool true)], args := [d] }
  | _ => none }
def fnSquaresRow : OpenClaim := { program := "ytlckhakgmbjdbaa", sum := "a89cd265e73c68e54f098d65d10abc04562ae8859fbe1dfc9a30e1815779de9a", func := "loop.example/discretetomography/laws.FnSquares", spec := "fnSquares", unfollowed := true, recurses := true, apart := false }
def FnSquaresSaid : Prop := fnSquaresRow.holds Try.pinned (OpenSpec.ofChange fnSquaresSpec)

/-- ITS FALSE NEIGHBOUR: 'it returns false'. Refute it at one input. -/
def fnSquaresWrong : ChangeSpec := { name := "fnSquares", fn := fun _ => fun
  | [d] => { results := [.lit (.bool false)], args := [d] }
  | _ => none }
def FnSquaresWrongFalsely : Prop := fnSquaresRow.holds Try.pinned (OpenSpec.ofChange fnSquaresWrong)

/-- 'laws.FnMomentsTurn': WHATEVER THE INPUT: true; the input reads as it did. -/
def fnMomentsTurnSpec : ChangeSpec := { name := "fnMomentsTurn", fn := fun _ => fun
  | [d] => { results := [.lit (.bool true)], args := [d] }
  | _ => none }
def fnMomentsTurnRow : OpenClaim := { program := "ytlckhakgmbjdbaa", sum := "a89cd265e73c68e54f098d65d10abc04562ae8859fbe1dfc9a30e1815779de9a", func := "loop.example/discretetomography/laws.FnMomentsTurn", spec := "fnMomentsTurn", unfollowed := true, recurses := true, apart := false }
def FnMomentsTurnSaid : Prop := fnMomentsTurnRow.holds Try.pinned (OpenSpec.ofChange fnMomentsTurnSpec)

/-- ITS FALSE NEIGHBOUR: 'it returns false'. Refute it at one input. -/
def fnMomentsTurnWrong : ChangeSpec := { name := "fnMomentsTurn", fn := fun _ => fun
  | [d] => { results := [.lit (.bool false)], args := [d] }
  | _ => none }
def FnMomentsTurnWrongFalsely : Prop := fnMomentsTurnRow.holds Try.pinned (OpenSpec.ofChange fnMomentsTurnWrong)

/-- 'laws.FnMomentsSwitch': WHATEVER THE INPUT: true; the input reads as it did. -/
def fnMomentsSwitchSpec : ChangeSpec := { name := "fnMomentsSwitch", fn := fun _ => fun
  | [d] => { results := [.lit (.bool true)], args := [d] }
  | _ => none }
def fnMomentsSwitchRow : OpenClaim := { program := "ytlckhakgmbjdbaa", sum := "a89cd265e73c68e54f098d65d10abc04562ae8859fbe1dfc9a30e1815779de9a", func := "loop.example/discretetomography/laws.FnMomentsSwitch", spec := "fnMomentsSwitch", unfollowed := true, recurses := true, apart := false }
def FnMomentsSwitchSaid : Prop := fnMomentsSwitchRow.holds Try.pinned (OpenSpec.ofChange fnMomentsSwitchSpec)

/-- ITS FALSE NEIGHBOUR: 'it returns false'. Refute it at one input. -/
def fnMomentsSwitchWrong : ChangeSpec := { name := "fnMomentsSwitch", fn := fun _ => fun
  | [d] => { results := [.lit (.bool false)], args := [d] }
  | _ => none }
def FnMomentsSwitchWrongFalsely : Prop := fnMomentsSwitchRow.holds Try.pinned (OpenSpec.ofChange fnMomentsSwitchWrong)

/- THE SECOND FORM. 'bulk': how many values and letters a reading holds, each counted each time it is reached (what is shared counts as often as it is met; a slice's spare places count too). A statement '..UptoSaid' is the law's where the arguments, and the package variables that the reading takes, are together of bulk at most 1048576: NARROWER than '..Said'. Prove '..Said' where nothing that the law and all that it calls make is longer than what came in: it says more and counts as full. Else prove '..UptoSaid'. A law counts once. -/
mutual
def uptoBulk {H : Type} : DataW H → Nat
  | .lit (.string bytes) => bytes.length + 1
  | .lit _ => 1
  | .nil => 1
  | .ptr d => uptoBulk d + 1
  | .slice elems spare => uptoBulkAll elems + uptoBulkAll spare + 1
  | .agg parts => uptoBulkAll parts + 1
  | .iface _ d => uptoBulk d + 1
  | .map entries => uptoBulkEntries entries + 1
  | .held _ => 1
def uptoBulkAll {H : Type} : List (DataW H) → Nat
  | [] => 0
  | d :: r => uptoBulk d + uptoBulkAll r
def uptoBulkEntries {H : Type} : List (Lit × DataW H) → Nat
  | [] => 0
  | x :: r => uptoBulkEntry x + uptoBulkEntries r
def uptoBulkEntry {H : Type} : Lit × DataW H → Nat
  | (.string bytes, d) => bytes.length + uptoBulk d + 1
  | (_, d) => uptoBulk d + 1
 end
def uptoSmall : (H : Type) → List (DataW H) → Bool := fun _ ds => decide (uptoBulkAll ds ≤ 1048576)
def OpenSpec.upto (s : _root_.Go.ChangeSpec) : _root_.Go.OpenSpec := { _root_.Go.OpenSpec.ofChange s with cond := some uptoSmall }

/-- 'laws.FnExactMomentCross', WHERE WHAT IT READS IS OF BULK AT MOST 1048576: true; the input reads as it did. -/
def fnExactMomentCrossUptoRow : OpenClaim := { program := "ytlckhakgmbjdbaa", sum := "a89cd265e73c68e54f098d65d10abc04562ae8859fbe1dfc9a30e1815779de9a", func := "loop.example/discretetomography/laws.FnExactMomentCross", spec := "fnExactMomentCross", unfollowed := true, recurses := true, apart := false, narrowed := true }
def FnExactMomentCrossUptoSaid : Prop := fnExactMomentCrossUptoRow.holds Try.pinned (OpenSpec.upto fnExactMomentCrossSpec)

/-- 'laws.FnExactMomentSquares', WHERE WHAT IT READS IS OF BULK AT MOST 1048576: true; the input reads as it did. -/
def fnExactMomentSquaresUptoRow : OpenClaim := { program := "ytlckhakgmbjdbaa", sum := "a89cd265e73c68e54f098d65d10abc04562ae8859fbe1dfc9a30e1815779de9a", func := "loop.example/discretetomography/laws.FnExactMomentSquares", spec := "fnExactMomentSquares", unfollowed := true, recurses := true, apart := false, narrowed := true }
def FnExactMomentSquaresUptoSaid : Prop := fnExactMomentSquaresUptoRow.holds Try.pinned (OpenSpec.upto fnExactMomentSquaresSpec)

/-- 'laws.FnExactMomentSums', WHERE WHAT IT READS IS OF BULK AT MOST 1048576: true; the input reads as it did. -/
def fnExactMomentSumsUptoRow : OpenClaim := { program := "ytlckhakgmbjdbaa", sum := "a89cd265e73c68e54f098d65d10abc04562ae8859fbe1dfc9a30e1815779de9a", func := "loop.example/discretetomography/laws.FnExactMomentSums", spec := "fnExactMomentSums", unfollowed := true, recurses := true, apart := false, narrowed := true }
def FnExactMomentSumsUptoSaid : Prop := fnExactMomentSumsUptoRow.holds Try.pinned (OpenSpec.upto fnExactMomentSumsSpec)

/-- 'laws.FnSquaresTurn', WHERE WHAT IT READS IS OF BULK AT MOST 1048576: true; the input reads as it did. -/
def fnSquaresTurnUptoRow : OpenClaim := { program := "ytlckhakgmbjdbaa", sum := "a89cd265e73c68e54f098d65d10abc04562ae8859fbe1dfc9a30e1815779de9a", func := "loop.example/discretetomography/laws.FnSquaresTurn", spec := "fnSquaresTurn", unfollowed := true, recurses := true, apart := false, narrowed := true }
def FnSquaresTurnUptoSaid : Prop := fnSquaresTurnUptoRow.holds Try.pinned (OpenSpec.upto fnSquaresTurnSpec)

/-- 'laws.FnCrossTurn', WHERE WHAT IT READS IS OF BULK AT MOST 1048576: true; the input reads as it did. -/
def fnCrossTurnUptoRow : OpenClaim := { program := "ytlckhakgmbjdbaa", sum := "a89cd265e73c68e54f098d65d10abc04562ae8859fbe1dfc9a30e1815779de9a", func := "loop.example/discretetomography/laws.FnCrossTurn", spec := "fnCrossTurn", unfollowed := true, recurses := true, apart := false, narrowed := true }
def FnCrossTurnUptoSaid : Prop := fnCrossTurnUptoRow.holds Try.pinned (OpenSpec.upto fnCrossTurnSpec)

/-- 'laws.FnMomentsPut', WHERE WHAT IT READS IS OF BULK AT MOST 1048576: true; the input reads as it did. -/
def fnMomentsPutUptoRow : OpenClaim := { program := "ytlckhakgmbjdbaa", sum := "a89cd265e73c68e54f098d65d10abc04562ae8859fbe1dfc9a30e1815779de9a", func := "loop.example/discretetomography/laws.FnMomentsPut", spec := "fnMomentsPut", unfollowed := true, recurses := true, apart := false, narrowed := true }
def FnMomentsPutUptoSaid : Prop := fnMomentsPutUptoRow.holds Try.pinned (OpenSpec.upto fnMomentsPutSpec)

/-- 'laws.FnSquaresSpread', WHERE WHAT IT READS IS OF BULK AT MOST 1048576: true; the input reads as it did. -/
def fnSquaresSpreadUptoRow : OpenClaim := { program := "ytlckhakgmbjdbaa", sum := "a89cd265e73c68e54f098d65d10abc04562ae8859fbe1dfc9a30e1815779de9a", func := "loop.example/discretetomography/laws.FnSquaresSpread", spec := "fnSquaresSpread", unfollowed := true, recurses := true, apart := false, narrowed := true }
def FnSquaresSpreadUptoSaid : Prop := fnSquaresSpreadUptoRow.holds Try.pinned (OpenSpec.upto fnSquaresSpreadSpec)

/-- 'laws.FnMoments', WHERE WHAT IT READS IS OF BULK AT MOST 1048576: true; the input reads as it did. -/
def fnMomentsUptoRow : OpenClaim := { program := "ytlckhakgmbjdbaa", sum := "a89cd265e73c68e54f098d65d10abc04562ae8859fbe1dfc9a30e1815779de9a", func := "loop.example/discretetomography/laws.FnMoments", spec := "fnMoments", unfollowed := true, recurses := true, apart := false, narrowed := true }
def FnMomentsUptoSaid : Prop := fnMomentsUptoRow.holds Try.pinned (OpenSpec.upto fnMomentsSpec)

/-- 'laws.FnSquares', WHERE WHAT IT READS IS OF BULK AT MOST 1048576: true; the input reads as it did. -/
def fnSquaresUptoRow : OpenClaim := { program := "ytlckhakgmbjdbaa", sum := "a89cd265e73c68e54f098d65d10abc04562ae8859fbe1dfc9a30e1815779de9a", func := "loop.example/discretetomography/laws.FnSquares", spec := "fnSquares", unfollowed := true, recurses := true, apart := false, narrowed := true }
def FnSquaresUptoSaid : Prop := fnSquaresUptoRow.holds Try.pinned (OpenSpec.upto fnSquaresSpec)

/-- 'laws.FnMomentsTurn', WHERE WHAT IT READS IS OF BULK AT MOST 1048576: true; the input reads as it did. -/
def fnMomentsTurnUptoRow : OpenClaim := { program := "ytlckhakgmbjdbaa", sum := "a89cd265e73c68e54f098d65d10abc04562ae8859fbe1dfc9a30e1815779de9a", func := "loop.example/discretetomography/laws.FnMomentsTurn", spec := "fnMomentsTurn", unfollowed := true, recurses := true, apart := false, narrowed := true }
def FnMomentsTurnUptoSaid : Prop := fnMomentsTurnUptoRow.holds Try.pinned (OpenSpec.upto fnMomentsTurnSpec)

/-- 'laws.FnMomentsSwitch', WHERE WHAT IT READS IS OF BULK AT MOST 1048576: true; the input reads as it did. -/
def fnMomentsSwitchUptoRow : OpenClaim := { program := "ytlckhakgmbjdbaa", sum := "a89cd265e73c68e54f098d65d10abc04562ae8859fbe1dfc9a30e1815779de9a", func := "loop.example/discretetomography/laws.FnMomentsSwitch", spec := "fnMomentsSwitch", unfollowed := true, recurses := true, apart := false, narrowed := true }
def FnMomentsSwitchUptoSaid : Prop := fnMomentsSwitchUptoRow.holds Try.pinned (OpenSpec.upto fnMomentsSwitchSpec)

end Rows
end Go.Proofs.Ytlckhakgmbjdbaa
