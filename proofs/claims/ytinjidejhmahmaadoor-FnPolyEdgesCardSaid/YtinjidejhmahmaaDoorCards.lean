/-
  DERIVED. GIVEN WITH THE SEED: THE CARDS: each row of YtinjidejhmahmaaDoorRows.lean that lists a variable, with what it lists TIED to the program's text (the seventh form; the later family's looks); each row that meets fmt, with fmt's text TOLD by the authors' own Lean function (tested against real Go, not proved from fmt's source: count such statements apart). THE CARD IS WHAT COUNTS. Prove the row's statement (the work); the ties are given (YtinjidejhmahmaaDoorTie.lean); close each card by the builder's one call (the guide's Derived/Test/ToyasCard.lean, 'card_holds'). Laid BY PROGRAM, IN A SANDBOX (cutbox-door.mjs). By AI agents, Wed Nov 11 2026. No macro, syntax, notation, axiom, sorry.
-/
import Derived.Test.YtinjidejhmahmaaDoorRows
import GoSem.ClaimSeven
namespace Go.Proofs.YtinjidejhmahmaaDoor
namespace Rows

/-- THE TIED CARD OF 'laws.FnExactMomentLines'. -/
def fnExactMomentLinesCard : Claim7 := { stood := { row := fnExactMomentLinesRow, standIns := [], harness := (true, "10eea9ce86fb8d186d013fcfde8395a979f6858eb851a0ff48db8e818895c765"), looks := false }, kinds := [], alts := [], laidByText := true, laidKinds := [.data], laidTests := true, laidLooks := .later }
def FnExactMomentLinesCardSaid : Prop := Claim7.holds Tryd.pinned (.plain (OpenSpec.ofChange fnExactMomentLinesSpec)) fnExactMomentLinesCard

/-- THE TIED CARD OF 'laws.FnCross'. -/
def fnCrossCard : Claim7 := { stood := { row := fnCrossRow, standIns := [], harness := (true, "10eea9ce86fb8d186d013fcfde8395a979f6858eb851a0ff48db8e818895c765"), looks := false }, kinds := [], alts := [], laidByText := true, laidKinds := [.data], laidTests := true, laidLooks := .later }
def FnCrossCardSaid : Prop := Claim7.holds Tryd.pinned (.plain (OpenSpec.ofChange fnCrossSpec)) fnCrossCard

/-- THE TIED CARD OF 'laws.FnLinesSteps'. -/
def fnLinesStepsCard : Claim7 := { stood := { row := fnLinesStepsRow, standIns := [], harness := (true, "10eea9ce86fb8d186d013fcfde8395a979f6858eb851a0ff48db8e818895c765"), looks := false }, kinds := [], alts := [], laidByText := true, laidKinds := [.data], laidTests := true, laidLooks := .later }
def FnLinesStepsCardSaid : Prop := Claim7.holds Tryd.pinned (.plain (OpenSpec.ofChange fnLinesStepsSpec)) fnLinesStepsCard

/-- THE TIED CARD OF 'laws.FnLines'. -/
def fnLinesCard : Claim7 := { stood := { row := fnLinesRow, standIns := [], harness := (true, "10eea9ce86fb8d186d013fcfde8395a979f6858eb851a0ff48db8e818895c765"), looks := false }, kinds := [], alts := [], laidByText := true, laidKinds := [.data], laidTests := true, laidLooks := .later }
def FnLinesCardSaid : Prop := Claim7.holds Tryd.pinned (.plain (OpenSpec.ofChange fnLinesSpec)) fnLinesCard

/-- THE TIED CARD OF 'laws.FnMomentsGhost'. -/
def fnMomentsGhostCard : Claim7 := { stood := { row := fnMomentsGhostRow, standIns := [], harness := (true, "10eea9ce86fb8d186d013fcfde8395a979f6858eb851a0ff48db8e818895c765"), looks := false }, kinds := [], alts := [], laidByText := true, laidKinds := [.data], laidTests := true, laidLooks := .later }
def FnMomentsGhostCardSaid : Prop := Claim7.holds Tryd.pinned (.plain (OpenSpec.ofChange fnMomentsGhostSpec)) fnMomentsGhostCard

/-- THE TIED CARD OF 'laws.FnCrossSame'. -/
def fnCrossSameCard : Claim7 := { stood := { row := fnCrossSameRow, standIns := [], harness := (true, "10eea9ce86fb8d186d013fcfde8395a979f6858eb851a0ff48db8e818895c765"), looks := false }, kinds := [], alts := [], laidByText := true, laidKinds := [.data], laidTests := true, laidLooks := .later }
def FnCrossSameCardSaid : Prop := Claim7.holds Tryd.pinned (.plain (OpenSpec.ofChange fnCrossSameSpec)) fnCrossSameCard

/-- THE TIED CARD OF 'laws.FnPolyEdges'. -/
def fnPolyEdgesCard : Claim7 := { stood := { row := fnPolyEdgesRow, standIns := [], harness := (true, "10eea9ce86fb8d186d013fcfde8395a979f6858eb851a0ff48db8e818895c765"), looks := false }, kinds := [], alts := [], laidByText := true, laidKinds := [.data, .data, .data], laidTests := true, laidLooks := .later }
def FnPolyEdgesCardSaid : Prop := Claim7.holds Tryd.pinned (.plain (OpenSpec.ofChange fnPolyEdgesSpec)) fnPolyEdgesCard

/-- THE SECOND FORM's CARD OF 'laws.FnExactMomentLines'. -/
def fnExactMomentLinesUptoCard : Claim7 := { stood := { row := fnExactMomentLinesUptoRow, standIns := [], harness := (true, "10eea9ce86fb8d186d013fcfde8395a979f6858eb851a0ff48db8e818895c765"), looks := false }, kinds := [], alts := [], laidByText := true, laidKinds := [.data], laidTests := true, laidLooks := .later }
def FnExactMomentLinesUptoCardSaid : Prop := Claim7.holds Tryd.pinned (.plain (OpenSpec.upto fnExactMomentLinesSpec)) fnExactMomentLinesUptoCard

/-- THE SECOND FORM's CARD OF 'laws.FnCross'. -/
def fnCrossUptoCard : Claim7 := { stood := { row := fnCrossUptoRow, standIns := [], harness := (true, "10eea9ce86fb8d186d013fcfde8395a979f6858eb851a0ff48db8e818895c765"), looks := false }, kinds := [], alts := [], laidByText := true, laidKinds := [.data], laidTests := true, laidLooks := .later }
def FnCrossUptoCardSaid : Prop := Claim7.holds Tryd.pinned (.plain (OpenSpec.upto fnCrossSpec)) fnCrossUptoCard

/-- THE SECOND FORM's CARD OF 'laws.FnLinesSteps'. -/
def fnLinesStepsUptoCard : Claim7 := { stood := { row := fnLinesStepsUptoRow, standIns := [], harness := (true, "10eea9ce86fb8d186d013fcfde8395a979f6858eb851a0ff48db8e818895c765"), looks := false }, kinds := [], alts := [], laidByText := true, laidKinds := [.data], laidTests := true, laidLooks := .later }
def FnLinesStepsUptoCardSaid : Prop := Claim7.holds Tryd.pinned (.plain (OpenSpec.upto fnLinesStepsSpec)) fnLinesStepsUptoCard

/-- THE SECOND FORM's CARD OF 'laws.FnLines'. -/
def fnLinesUptoCard : Claim7 := { stood := { row := fnLinesUptoRow, standIns := [], harness := (true, "10eea9ce86fb8d186d013fcfde8395a979f6858eb851a0ff48db8e818895c765"), looks := false }, kinds := [], alts := [], laidByText := true, laidKinds := [.data], laidTests := true, laidLooks := .later }
def FnLinesUptoCardSaid : Prop := Claim7.holds Tryd.pinned (.plain (OpenSpec.upto fnLinesSpec)) fnLinesUptoCard

/-- THE SECOND FORM's CARD OF 'laws.FnMomentsGhost'. -/
def fnMomentsGhostUptoCard : Claim7 := { stood := { row := fnMomentsGhostUptoRow, standIns := [], harness := (true, "10eea9ce86fb8d186d013fcfde8395a979f6858eb851a0ff48db8e818895c765"), looks := false }, kinds := [], alts := [], laidByText := true, laidKinds := [.data], laidTests := true, laidLooks := .later }
def FnMomentsGhostUptoCardSaid : Prop := Claim7.holds Tryd.pinned (.plain (OpenSpec.upto fnMomentsGhostSpec)) fnMomentsGhostUptoCard

/-- THE SECOND FORM's CARD OF 'laws.FnCrossSame'. -/
def fnCrossSameUptoCard : Claim7 := { stood := { row := fnCrossSameUptoRow, standIns := [], harness := (true, "10eea9ce86fb8d186d013fcfde8395a979f6858eb851a0ff48db8e818895c765"), looks := false }, kinds := [], alts := [], laidByText := true, laidKinds := [.data], laidTests := true, laidLooks := .later }
def FnCrossSameUptoCardSaid : Prop := Claim7.holds Tryd.pinned (.plain (OpenSpec.upto fnCrossSameSpec)) fnCrossSameUptoCard

/-- THE SECOND FORM's CARD OF 'laws.FnPolyEdges'. -/
def fnPolyEdgesUptoCard : Claim7 := { stood := { row := fnPolyEdgesUptoRow, standIns := [], harness := (true, "10eea9ce86fb8d186d013fcfde8395a979f6858eb851a0ff48db8e818895c765"), looks := false }, kinds := [], alts := [], laidByText := true, laidKinds := [.data, .data, .data], laidTests := true, laidLooks := .later }
def FnPolyEdgesUptoCardSaid : Prop := Claim7.holds Tryd.pinned (.plain (OpenSpec.upto fnPolyEdgesSpec)) fnPolyEdgesUptoCard
end Rows
end Go.Proofs.YtinjidejhmahmaaDoor
