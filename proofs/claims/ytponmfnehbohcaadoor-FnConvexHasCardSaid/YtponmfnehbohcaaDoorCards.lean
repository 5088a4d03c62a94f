/-
  DERIVED. GIVEN WITH THE SEED: THE CARDS: each row of YtponmfnehbohcaaDoorRows.lean that lists a variable, with what it lists TIED to the program's text (the seventh form; the later family's looks); each row that meets fmt, with fmt's text TOLD by the authors' own Lean function (tested against real Go, not proved from fmt's source: count such statements apart). THE CARD IS WHAT COUNTS. Prove the row's statement (the work); the ties are given (YtponmfnehbohcaaDoorTie.lean); close each card by the builder's one call (the guide's Derived/Test/ToyasCard.lean, 'card_holds'). Laid BY PROGRAM, IN A SANDBOX (cutbox-door.mjs). By AI agents, Wed Nov 11 2026. No macro, syntax, notation, axiom, sorry.
-/
import Derived.Test.YtponmfnehbohcaaDoorRows
import GoSem.ClaimSeven
namespace Go.Proofs.YtponmfnehbohcaaDoor
namespace Rows

/-- THE TIED CARD OF 'laws.FnPolyCount'. -/
def fnPolyCountCard : Claim7 := { stood := { row := fnPolyCountRow, standIns := [], harness := (true, "f014caa72a15372a2f30a5c9a3121bc50ced0d206bbee98443da733d112e5511"), looks := false }, kinds := [], alts := [], laidByText := true, laidKinds := [.data, .data], laidTests := true, laidLooks := .later }
def FnPolyCountCardSaid : Prop := Claim7.holds Tryd.pinned (.plain (OpenSpec.ofChange fnPolyCountSpec)) fnPolyCountCard

/-- THE TIED CARD OF 'laws.FnExactConvexCount'. -/
def fnExactConvexCountCard : Claim7 := { stood := { row := fnExactConvexCountRow, standIns := [], harness := (true, "f014caa72a15372a2f30a5c9a3121bc50ced0d206bbee98443da733d112e5511"), looks := false }, kinds := [], alts := [], laidByText := true, laidKinds := [.data, .data], laidTests := true, laidLooks := .later }
def FnExactConvexCountCardSaid : Prop := Claim7.holds Tryd.pinned (.plain (OpenSpec.ofChange fnExactConvexCountSpec)) fnExactConvexCountCard

/-- THE TIED CARD OF 'laws.FnConvexHas'. -/
def fnConvexHasCard : Claim7 := { stood := { row := fnConvexHasRow, standIns := [], harness := (true, "f014caa72a15372a2f30a5c9a3121bc50ced0d206bbee98443da733d112e5511"), looks := false }, kinds := [], alts := [], laidByText := true, laidKinds := [.data, .data], laidTests := true, laidLooks := .later }
def FnConvexHasCardSaid : Prop := Claim7.holds Tryd.pinned (.plain (OpenSpec.ofChange fnConvexHasSpec)) fnConvexHasCard

/-- THE TIED CARD OF 'laws.FnConvexCount'. -/
def fnConvexCountCard : Claim7 := { stood := { row := fnConvexCountRow, standIns := [], harness := (true, "f014caa72a15372a2f30a5c9a3121bc50ced0d206bbee98443da733d112e5511"), looks := false }, kinds := [], alts := [], laidByText := true, laidKinds := [.data, .data], laidTests := true, laidLooks := .later }
def FnConvexCountCardSaid : Prop := Claim7.holds Tryd.pinned (.plain (OpenSpec.ofChange fnConvexCountSpec)) fnConvexCountCard

/-- THE TIED CARD OF 'laws.FnExactPolyCount'. -/
def fnExactPolyCountCard : Claim7 := { stood := { row := fnExactPolyCountRow, standIns := [], harness := (true, "f014caa72a15372a2f30a5c9a3121bc50ced0d206bbee98443da733d112e5511"), looks := false }, kinds := [], alts := [], laidByText := true, laidKinds := [.data, .data], laidTests := true, laidLooks := .later }
def FnExactPolyCountCardSaid : Prop := Claim7.holds Tryd.pinned (.plain (OpenSpec.ofChange fnExactPolyCountSpec)) fnExactPolyCountCard

/-- THE TIED CARD OF 'laws.FnPolyCountHas'. -/
def fnPolyCountHasCard : Claim7 := { stood := { row := fnPolyCountHasRow, standIns := [], harness := (true, "f014caa72a15372a2f30a5c9a3121bc50ced0d206bbee98443da733d112e5511"), looks := false }, kinds := [], alts := [], laidByText := true, laidKinds := [.data, .data], laidTests := true, laidLooks := .later }
def FnPolyCountHasCardSaid : Prop := Claim7.holds Tryd.pinned (.plain (OpenSpec.ofChange fnPolyCountHasSpec)) fnPolyCountHasCard

/-- THE SECOND FORM's CARD OF 'laws.FnPolyCount'. -/
def fnPolyCountUptoCard : Claim7 := { stood := { row := fnPolyCountUptoRow, standIns := [], harness := (true, "f014caa72a15372a2f30a5c9a3121bc50ced0d206bbee98443da733d112e5511"), looks := false }, kinds := [], alts := [], laidByText := true, laidKinds := [.data, .data], laidTests := true, laidLooks := .later }
def FnPolyCountUptoCardSaid : Prop := Claim7.holds Tryd.pinned (.plain (OpenSpec.upto fnPolyCountSpec)) fnPolyCountUptoCard

/-- THE SECOND FORM's CARD OF 'laws.FnExactConvexCount'. -/
def fnExactConvexCountUptoCard : Claim7 := { stood := { row := fnExactConvexCountUptoRow, standIns := [], harness := (true, "f014caa72a15372a2f30a5c9a3121bc50ced0d206bbee98443da733d112e5511"), looks := false }, kinds := [], alts := [], laidByText := true, laidKinds := [.data, .data], laidTests := true, laidLooks := .later }
def FnExactConvexCountUptoCardSaid : Prop := Claim7.holds Tryd.pinned (.plain (OpenSpec.upto fnExactConvexCountSpec)) fnExactConvexCountUptoCard

/-- THE SECOND FORM's CARD OF 'laws.FnConvexHas'. -/
def fnConvexHasUptoCard : Claim7 := { stood := { row := fnConvexHasUptoRow, standIns := [], harness := (true, "f014caa72a15372a2f30a5c9a3121bc50ced0d206bbee98443da733d112e5511"), looks := false }, kinds := [], alts := [], laidByText := true, laidKinds := [.data, .data], laidTests := true, laidLooks := .later }
def FnConvexHasUptoCardSaid : Prop := Claim7.holds Tryd.pinned (.plain (OpenSpec.upto fnConvexHasSpec)) fnConvexHasUptoCard

/-- THE SECOND FORM's CARD OF 'laws.FnConvexCount'. -/
def fnConvexCountUptoCard : Claim7 := { stood := { row := fnConvexCountUptoRow, standIns := [], harness := (true, "f014caa72a15372a2f30a5c9a3121bc50ced0d206bbee98443da733d112e5511"), looks := false }, kinds := [], alts := [], laidByText := true, laidKinds := [.data, .data], laidTests := true, laidLooks := .later }
def FnConvexCountUptoCardSaid : Prop := Claim7.holds Tryd.pinned (.plain (OpenSpec.upto fnConvexCountSpec)) fnConvexCountUptoCard

/-- THE SECOND FORM's CARD OF 'laws.FnExactPolyCount'. -/
def fnExactPolyCountUptoCard : Claim7 := { stood := { row := fnExactPolyCountUptoRow, standIns := [], harness := (true, "f014caa72a15372a2f30a5c9a3121bc50ced0d206bbee98443da733d112e5511"), looks := false }, kinds := [], alts := [], laidByText := true, laidKinds := [.data, .data], laidTests := true, laidLooks := .later }
def FnExactPolyCountUptoCardSaid : Prop := Claim7.holds Tryd.pinned (.plain (OpenSpec.upto fnExactPolyCountSpec)) fnExactPolyCountUptoCard

/-- THE SECOND FORM's CARD OF 'laws.FnPolyCountHas'. -/
def fnPolyCountHasUptoCard : Claim7 := { stood := { row := fnPolyCountHasUptoRow, standIns := [], harness := (true, "f014caa72a15372a2f30a5c9a3121bc50ced0d206bbee98443da733d112e5511"), looks := false }, kinds := [], alts := [], laidByText := true, laidKinds := [.data, .data], laidTests := true, laidLooks := .later }
def FnPolyCountHasUptoCardSaid : Prop := Claim7.holds Tryd.pinned (.plain (OpenSpec.upto fnPolyCountHasSpec)) fnPolyCountHasUptoCard
end Rows
end Go.Proofs.YtponmfnehbohcaaDoor
