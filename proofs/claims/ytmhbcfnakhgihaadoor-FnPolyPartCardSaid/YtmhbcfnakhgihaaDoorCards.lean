/-
  DERIVED. GIVEN WITH THE SEED: THE CARDS: each row of YtmhbcfnakhgihaaDoorRows.lean that lists a variable, with what it lists TIED to the program's text (the seventh form; the later family's looks); each row that meets fmt, with fmt's text TOLD by the authors' own Lean function (tested against real Go, not proved from fmt's source: count such statements apart). THE CARD IS WHAT COUNTS. Prove the row's statement (the work); the ties are given (YtmhbcfnakhgihaaDoorTie.lean); close each card by the builder's one call (the guide's Derived/Test/ToyasCard.lean, 'card_holds'). Laid BY PROGRAM, IN A SANDBOX (cutbox-door.mjs). By AI agents, Wed Nov 11 2026. No macro, syntax, notation, axiom, sorry.
-/
import Derived.Test.YtmhbcfnakhgihaaDoorRows
import GoSem.ClaimSeven
namespace Go.Proofs.YtmhbcfnakhgihaaDoor
namespace Rows

/-- THE TIED CARD OF 'laws.FnExactImagePoly'. -/
def fnExactImagePolyCard : Claim7 := { stood := { row := fnExactImagePolyRow, standIns := [], harness := (true, "2e0b1414a1acb24e88117bb0cbe657780114df1b0dc1deb85777d6a0e3a3ab95"), looks := false }, kinds := [], alts := [], laidByText := true, laidKinds := [.data, .data], laidTests := true, laidLooks := .later }
def FnExactImagePolyCardSaid : Prop := Claim7.holds Tryd.pinned (.plain (OpenSpec.ofChange fnExactImagePolySpec)) fnExactImagePolyCard

/-- THE TIED CARD OF 'laws.FnPolyPart'. -/
def fnPolyPartCard : Claim7 := { stood := { row := fnPolyPartRow, standIns := [], harness := (true, "2e0b1414a1acb24e88117bb0cbe657780114df1b0dc1deb85777d6a0e3a3ab95"), looks := false }, kinds := [], alts := [], laidByText := true, laidKinds := [.data, .data], laidTests := true, laidLooks := .later }
def FnPolyPartCardSaid : Prop := Claim7.holds Tryd.pinned (.plain (OpenSpec.ofChange fnPolyPartSpec)) fnPolyPartCard

/-- THE TIED CARD OF 'laws.FnPoly'. -/
def fnPolyCard : Claim7 := { stood := { row := fnPolyRow, standIns := [], harness := (true, "2e0b1414a1acb24e88117bb0cbe657780114df1b0dc1deb85777d6a0e3a3ab95"), looks := false }, kinds := [], alts := [], laidByText := true, laidKinds := [.data, .data], laidTests := true, laidLooks := .later }
def FnPolyCardSaid : Prop := Claim7.holds Tryd.pinned (.plain (OpenSpec.ofChange fnPolySpec)) fnPolyCard

/-- THE TIED CARD OF 'laws.FnConvexParts'. -/
def fnConvexPartsCard : Claim7 := { stood := { row := fnConvexPartsRow, standIns := [], harness := (true, "2e0b1414a1acb24e88117bb0cbe657780114df1b0dc1deb85777d6a0e3a3ab95"), looks := false }, kinds := [], alts := [], laidByText := true, laidKinds := [.data, .data], laidTests := true, laidLooks := .later }
def FnConvexPartsCardSaid : Prop := Claim7.holds Tryd.pinned (.plain (OpenSpec.ofChange fnConvexPartsSpec)) fnConvexPartsCard

/-- THE SECOND FORM's CARD OF 'laws.FnExactImagePoly'. -/
def fnExactImagePolyUptoCard : Claim7 := { stood := { row := fnExactImagePolyUptoRow, standIns := [], harness := (true, "2e0b1414a1acb24e88117bb0cbe657780114df1b0dc1deb85777d6a0e3a3ab95"), looks := false }, kinds := [], alts := [], laidByText := true, laidKinds := [.data, .data], laidTests := true, laidLooks := .later }
def FnExactImagePolyUptoCardSaid : Prop := Claim7.holds Tryd.pinned (.plain (OpenSpec.upto fnExactImagePolySpec)) fnExactImagePolyUptoCard

/-- THE SECOND FORM's CARD OF 'laws.FnPolyPart'. -/
def fnPolyPartUptoCard : Claim7 := { stood := { row := fnPolyPartUptoRow, standIns := [], harness := (true, "2e0b1414a1acb24e88117bb0cbe657780114df1b0dc1deb85777d6a0e3a3ab95"), looks := false }, kinds := [], alts := [], laidByText := true, laidKinds := [.data, .data], laidTests := true, laidLooks := .later }
def FnPolyPartUptoCardSaid : Prop := Claim7.holds Tryd.pinned (.plain (OpenSpec.upto fnPolyPartSpec)) fnPolyPartUptoCard

/-- THE SECOND FORM's CARD OF 'laws.FnPoly'. -/
def fnPolyUptoCard : Claim7 := { stood := { row := fnPolyUptoRow, standIns := [], harness := (true, "2e0b1414a1acb24e88117bb0cbe657780114df1b0dc1deb85777d6a0e3a3ab95"), looks := false }, kinds := [], alts := [], laidByText := true, laidKinds := [.data, .data], laidTests := true, laidLooks := .later }
def FnPolyUptoCardSaid : Prop := Claim7.holds Tryd.pinned (.plain (OpenSpec.upto fnPolySpec)) fnPolyUptoCard

/-- THE SECOND FORM's CARD OF 'laws.FnConvexParts'. -/
def fnConvexPartsUptoCard : Claim7 := { stood := { row := fnConvexPartsUptoRow, standIns := [], harness := (true, "2e0b1414a1acb24e88117bb0cbe657780114df1b0dc1deb85777d6a0e3a3ab95"), looks := false }, kinds := [], alts := [], laidByText := true, laidKinds := [.data, .data], laidTests := true, laidLooks := .later }
def FnConvexPartsUptoCardSaid : Prop := Claim7.holds Tryd.pinned (.plain (OpenSpec.upto fnConvexPartsSpec)) fnConvexPartsUptoCard
end Rows
end Go.Proofs.YtmhbcfnakhgihaaDoor
