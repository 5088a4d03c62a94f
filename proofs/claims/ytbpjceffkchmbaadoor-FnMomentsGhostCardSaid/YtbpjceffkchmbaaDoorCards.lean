/-
  DERIVED. GIVEN WITH THE SEED: THE CARDS: each row of YtbpjceffkchmbaaDoorRows.lean that lists a variable, with what it lists TIED to the program's text (the seventh form; the later family's looks); each row that meets fmt, with fmt's text TOLD by the authors' own Lean function (tested against real Go, not proved from fmt's source: count such statements apart). THE CARD IS WHAT COUNTS. Prove the row's statement (the work); the ties are given (YtbpjceffkchmbaaDoorTie.lean); close each card by the builder's one call (the guide's Derived/Test/ToyasCard.lean, 'card_holds'). Laid BY PROGRAM, IN A SANDBOX (cutbox-door.mjs). By AI agents, Wed Nov 11 2026. No macro, syntax, notation, axiom, sorry.
-/
import Derived.Test.YtbpjceffkchmbaaDoorRows
import GoSem.ClaimSeven
namespace Go.Proofs.YtbpjceffkchmbaaDoor
namespace Rows

/-- THE TIED CARD OF 'laws.FnLines'. -/
def fnLinesCard : Claim7 := { stood := { row := fnLinesRow, standIns := [], harness := (true, "b404478ea52bb547ba0d9687f9c44405272c68bf4358b54d61d572fe68619807"), looks := false }, kinds := [], alts := [], laidByText := true, laidKinds := [.data], laidTests := true, laidLooks := .later }
def FnLinesCardSaid : Prop := Claim7.holds Tryd.pinned (.plain (OpenSpec.ofChange fnLinesSpec)) fnLinesCard

/-- THE TIED CARD OF 'laws.FnMomentsGhost'. -/
def fnMomentsGhostCard : Claim7 := { stood := { row := fnMomentsGhostRow, standIns := [], harness := (true, "b404478ea52bb547ba0d9687f9c44405272c68bf4358b54d61d572fe68619807"), looks := false }, kinds := [], alts := [], laidByText := true, laidKinds := [.data], laidTests := true, laidLooks := .later }
def FnMomentsGhostCardSaid : Prop := Claim7.holds Tryd.pinned (.plain (OpenSpec.ofChange fnMomentsGhostSpec)) fnMomentsGhostCard

/-- THE TIED CARD OF 'laws.FnCrossSame'. -/
def fnCrossSameCard : Claim7 := { stood := { row := fnCrossSameRow, standIns := [], harness := (true, "b404478ea52bb547ba0d9687f9c44405272c68bf4358b54d61d572fe68619807"), looks := false }, kinds := [], alts := [], laidByText := true, laidKinds := [.data], laidTests := true, laidLooks := .later }
def FnCrossSameCardSaid : Prop := Claim7.holds Tryd.pinned (.plain (OpenSpec.ofChange fnCrossSameSpec)) fnCrossSameCard

/-- THE SECOND FORM's CARD OF 'laws.FnLines'. -/
def fnLinesUptoCard : Claim7 := { stood := { row := fnLinesUptoRow, standIns := [], harness := (true, "b404478ea52bb547ba0d9687f9c44405272c68bf4358b54d61d572fe68619807"), looks := false }, kinds := [], alts := [], laidByText := true, laidKinds := [.data], laidTests := true, laidLooks := .later }
def FnLinesUptoCardSaid : Prop := Claim7.holds Tryd.pinned (.plain (OpenSpec.upto fnLinesSpec)) fnLinesUptoCard

/-- THE SECOND FORM's CARD OF 'laws.FnMomentsGhost'. -/
def fnMomentsGhostUptoCard : Claim7 := { stood := { row := fnMomentsGhostUptoRow, standIns := [], harness := (true, "b404478ea52bb547ba0d9687f9c44405272c68bf4358b54d61d572fe68619807"), looks := false }, kinds := [], alts := [], laidByText := true, laidKinds := [.data], laidTests := true, laidLooks := .later }
def FnMomentsGhostUptoCardSaid : Prop := Claim7.holds Tryd.pinned (.plain (OpenSpec.upto fnMomentsGhostSpec)) fnMomentsGhostUptoCard

/-- THE SECOND FORM's CARD OF 'laws.FnCrossSame'. -/
def fnCrossSameUptoCard : Claim7 := { stood := { row := fnCrossSameUptoRow, standIns := [], harness := (true, "b404478ea52bb547ba0d9687f9c44405272c68bf4358b54d61d572fe68619807"), looks := false }, kinds := [], alts := [], laidByText := true, laidKinds := [.data], laidTests := true, laidLooks := .later }
def FnCrossSameUptoCardSaid : Prop := Claim7.holds Tryd.pinned (.plain (OpenSpec.upto fnCrossSameSpec)) fnCrossSameUptoCard
end Rows
end Go.Proofs.YtbpjceffkchmbaaDoor
