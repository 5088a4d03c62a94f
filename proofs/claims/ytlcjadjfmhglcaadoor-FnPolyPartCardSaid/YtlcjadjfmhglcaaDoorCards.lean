/-
  DERIVED. GIVEN WITH THE SEED: THE CARDS: each row of YtlcjadjfmhglcaaDoorRows.lean that lists a variable, with what it lists TIED to the program's text (the seventh form; the later family's looks); each row that meets fmt, with fmt's text TOLD by the authors' own Lean function (tested against real Go, not proved from fmt's source: count such statements apart). THE CARD IS WHAT COUNTS. Prove the row's statement (the work); the ties are given (YtlcjadjfmhglcaaDoorTie.lean); close each card by the builder's one call (the guide's Derived/Test/ToyasCard.lean, 'card_holds'). Laid BY PROGRAM, IN A SANDBOX (cutbox-door.mjs). By AI agents, Wed Nov 11 2026. No macro, syntax, notation, axiom, sorry.
-/
import Derived.Test.YtlcjadjfmhglcaaDoorRows
import GoSem.ClaimSeven
namespace Go.Proofs.YtlcjadjfmhglcaaDoor
namespace Rows

/-- THE TIED CARD OF 'laws.FnConvexFirst'. -/
def fnConvexFirstCard : Claim7 := { stood := { row := fnConvexFirstRow, standIns := [], harness := (true, "571a53b2b2406f949eb29f9234d1108fcda8972a5d62ae00f29688a25c35f2c2"), looks := false }, kinds := [], alts := [], laidByText := true, laidKinds := [.data, .data], laidTests := true, laidLooks := .later }
def FnConvexFirstCardSaid : Prop := Claim7.holds Tryd.pinned (.plain (OpenSpec.ofChange fnConvexFirstSpec)) fnConvexFirstCard

/-- THE TIED CARD OF 'laws.FnPolyCount'. -/
def fnPolyCountCard : Claim7 := { stood := { row := fnPolyCountRow, standIns := [], harness := (true, "571a53b2b2406f949eb29f9234d1108fcda8972a5d62ae00f29688a25c35f2c2"), looks := false }, kinds := [], alts := [], laidByText := true, laidKinds := [.data, .data], laidTests := true, laidLooks := .later }
def FnPolyCountCardSaid : Prop := Claim7.holds Tryd.pinned (.plain (OpenSpec.ofChange fnPolyCountSpec)) fnPolyCountCard

/-- THE TIED CARD OF 'laws.FnExactImagePoly'. -/
def fnExactImagePolyCard : Claim7 := { stood := { row := fnExactImagePolyRow, standIns := [], harness := (true, "571a53b2b2406f949eb29f9234d1108fcda8972a5d62ae00f29688a25c35f2c2"), looks := false }, kinds := [], alts := [], laidByText := true, laidKinds := [.data, .data], laidTests := true, laidLooks := .later }
def FnExactImagePolyCardSaid : Prop := Claim7.holds Tryd.pinned (.plain (OpenSpec.ofChange fnExactImagePolySpec)) fnExactImagePolyCard

/-- THE TIED CARD OF 'laws.FnExactConvexCount'. -/
def fnExactConvexCountCard : Claim7 := { stood := { row := fnExactConvexCountRow, standIns := [], harness := (true, "571a53b2b2406f949eb29f9234d1108fcda8972a5d62ae00f29688a25c35f2c2"), looks := false }, kinds := [], alts := [], laidByText := true, laidKinds := [.data, .data], laidTests := true, laidLooks := .later }
def FnExactConvexCountCardSaid : Prop := Claim7.holds Tryd.pinned (.plain (OpenSpec.ofChange fnExactConvexCountSpec)) fnExactConvexCountCard

/-- THE TIED CARD OF 'laws.FnPolyPart'. -/
def fnPolyPartCard : Claim7 := { stood := { row := fnPolyPartRow, standIns := [], harness := (true, "571a53b2b2406f949eb29f9234d1108fcda8972a5d62ae00f29688a25c35f2c2"), looks := false }, kinds := [], alts := [], laidByText := true, laidKinds := [.data, .data], laidTests := true, laidLooks := .later }
def FnPolyPartCardSaid : Prop := Claim7.holds Tryd.pinned (.plain (OpenSpec.ofChange fnPolyPartSpec)) fnPolyPartCard

/-- THE TIED CARD OF 'laws.FnExactConvexFirst'. -/
def fnExactConvexFirstCard : Claim7 := { stood := { row := fnExactConvexFirstRow, standIns := [], harness := (true, "571a53b2b2406f949eb29f9234d1108fcda8972a5d62ae00f29688a25c35f2c2"), looks := false }, kinds := [], alts := [], laidByText := true, laidKinds := [.data, .data], laidTests := true, laidLooks := .later }
def FnExactConvexFirstCardSaid : Prop := Claim7.holds Tryd.pinned (.plain (OpenSpec.ofChange fnExactConvexFirstSpec)) fnExactConvexFirstCard

/-- THE TIED CARD OF 'laws.FnConvexHas'. -/
def fnConvexHasCard : Claim7 := { stood := { row := fnConvexHasRow, standIns := [], harness := (true, "571a53b2b2406f949eb29f9234d1108fcda8972a5d62ae00f29688a25c35f2c2"), looks := false }, kinds := [], alts := [], laidByText := true, laidKinds := [.data, .data], laidTests := true, laidLooks := .later }
def FnConvexHasCardSaid : Prop := Claim7.holds Tryd.pinned (.plain (OpenSpec.ofChange fnConvexHasSpec)) fnConvexHasCard

/-- THE TIED CARD OF 'laws.FnPoly'. -/
def fnPolyCard : Claim7 := { stood := { row := fnPolyRow, standIns := [], harness := (true, "571a53b2b2406f949eb29f9234d1108fcda8972a5d62ae00f29688a25c35f2c2"), looks := false }, kinds := [], alts := [], laidByText := true, laidKinds := [.data, .data], laidTests := true, laidLooks := .later }
def FnPolyCardSaid : Prop := Claim7.holds Tryd.pinned (.plain (OpenSpec.ofChange fnPolySpec)) fnPolyCard

/-- THE TIED CARD OF 'laws.FnConvexCount'. -/
def fnConvexCountCard : Claim7 := { stood := { row := fnConvexCountRow, standIns := [], harness := (true, "571a53b2b2406f949eb29f9234d1108fcda8972a5d62ae00f29688a25c35f2c2"), looks := false }, kinds := [], alts := [], laidByText := true, laidKinds := [.data, .data], laidTests := true, laidLooks := .later }
def FnConvexCountCardSaid : Prop := Claim7.holds Tryd.pinned (.plain (OpenSpec.ofChange fnConvexCountSpec)) fnConvexCountCard

/-- THE TIED CARD OF 'laws.FnExactPolyCount'. -/
def fnExactPolyCountCard : Claim7 := { stood := { row := fnExactPolyCountRow, standIns := [], harness := (true, "571a53b2b2406f949eb29f9234d1108fcda8972a5d62ae00f29688a25c35f2c2"), looks := false }, kinds := [], alts := [], laidByText := true, laidKinds := [.data, .data], laidTests := true, laidLooks := .later }
def FnExactPolyCountCardSaid : Prop := Claim7.holds Tryd.pinned (.plain (OpenSpec.ofChange fnExactPolyCountSpec)) fnExactPolyCountCard

/-- THE TIED CARD OF 'laws.FnPolyCountHas'. -/
def fnPolyCountHasCard : Claim7 := { stood := { row := fnPolyCountHasRow, standIns := [], harness := (true, "571a53b2b2406f949eb29f9234d1108fcda8972a5d62ae00f29688a25c35f2c2"), looks := false }, kinds := [], alts := [], laidByText := true, laidKinds := [.data, .data], laidTests := true, laidLooks := .later }
def FnPolyCountHasCardSaid : Prop := Claim7.holds Tryd.pinned (.plain (OpenSpec.ofChange fnPolyCountHasSpec)) fnPolyCountHasCard

/-- THE TIED CARD OF 'laws.FnConvexAll'. -/
def fnConvexAllCard : Claim7 := { stood := { row := fnConvexAllRow, standIns := [], harness := (true, "571a53b2b2406f949eb29f9234d1108fcda8972a5d62ae00f29688a25c35f2c2"), looks := false }, kinds := [], alts := [], laidByText := true, laidKinds := [.data, .data], laidTests := true, laidLooks := .later }
def FnConvexAllCardSaid : Prop := Claim7.holds Tryd.pinned (.plain (OpenSpec.ofChange fnConvexAllSpec)) fnConvexAllCard

/-- THE TIED CARD OF 'laws.FnConvexParts'. -/
def fnConvexPartsCard : Claim7 := { stood := { row := fnConvexPartsRow, standIns := [], harness := (true, "571a53b2b2406f949eb29f9234d1108fcda8972a5d62ae00f29688a25c35f2c2"), looks := false }, kinds := [], alts := [], laidByText := true, laidKinds := [.data, .data], laidTests := true, laidLooks := .later }
def FnConvexPartsCardSaid : Prop := Claim7.holds Tryd.pinned (.plain (OpenSpec.ofChange fnConvexPartsSpec)) fnConvexPartsCard

/-- THE SECOND FORM's CARD OF 'laws.FnConvexFirst'. -/
def fnConvexFirstUptoCard : Claim7 := { stood := { row := fnConvexFirstUptoRow, standIns := [], harness := (true, "571a53b2b2406f949eb29f9234d1108fcda8972a5d62ae00f29688a25c35f2c2"), looks := false }, kinds := [], alts := [], laidByText := true, laidKinds := [.data, .data], laidTests := true, laidLooks := .later }
def FnConvexFirstUptoCardSaid : Prop := Claim7.holds Tryd.pinned (.plain (OpenSpec.upto fnConvexFirstSpec)) fnConvexFirstUptoCard

/-- THE SECOND FORM's CARD OF 'laws.FnPolyCount'. -/
def fnPolyCountUptoCard : Claim7 := { stood := { row := fnPolyCountUptoRow, standIns := [], harness := (true, "571a53b2b2406f949eb29f9234d1108fcda8972a5d62ae00f29688a25c35f2c2"), looks := false }, kinds := [], alts := [], laidByText := true, laidKinds := [.data, .data], laidTests := true, laidLooks := .later }
def FnPolyCountUptoCardSaid : Prop := Claim7.holds Tryd.pinned (.plain (OpenSpec.upto fnPolyCountSpec)) fnPolyCountUptoCard

/-- THE SECOND FORM's CARD OF 'laws.FnExactImagePoly'. -/
def fnExactImagePolyUptoCard : Claim7 := { stood := { row := fnExactImagePolyUptoRow, standIns := [], harness := (true, "571a53b2b2406f949eb29f9234d1108fcda8972a5d62ae00f29688a25c35f2c2"), looks := false }, kinds := [], alts := [], laidByText := true, laidKinds := [.data, .data], laidTests := true, laidLooks := .later }
def FnExactImagePolyUptoCardSaid : Prop := Claim7.holds Tryd.pinned (.plain (OpenSpec.upto fnExactImagePolySpec)) fnExactImagePolyUptoCard

/-- THE SECOND FORM's CARD OF 'laws.FnExactConvexCount'. -/
def fnExactConvexCountUptoCard : Claim7 := { stood := { row := fnExactConvexCountUptoRow, standIns := [], harness := (true, "571a53b2b2406f949eb29f9234d1108fcda8972a5d62ae00f29688a25c35f2c2"), looks := false }, kinds := [], alts := [], laidByText := true, laidKinds := [.data, .data], laidTests := true, laidLooks := .later }
def FnExactConvexCountUptoCardSaid : Prop := Claim7.holds Tryd.pinned (.plain (OpenSpec.upto fnExactConvexCountSpec)) fnExactConvexCountUptoCard

/-- THE SECOND FORM's CARD OF 'laws.FnPolyPart'. -/
def fnPolyPartUptoCard : Claim7 := { stood := { row := fnPolyPartUptoRow, standIns := [], harness := (true, "571a53b2b2406f949eb29f9234d1108fcda8972a5d62ae00f29688a25c35f2c2"), looks := false }, kinds := [], alts := [], laidByText := true, laidKinds := [.data, .data], laidTests := true, laidLooks := .later }
def FnPolyPartUptoCardSaid : Prop := Claim7.holds Tryd.pinned (.plain (OpenSpec.upto fnPolyPartSpec)) fnPolyPartUptoCard

/-- THE SECOND FORM's CARD OF 'laws.FnExactConvexFirst'. -/
def fnExactConvexFirstUptoCard : Claim7 := { stood := { row := fnExactConvexFirstUptoRow, standIns := [], harness := (true, "571a53b2b2406f949eb29f9234d1108fcda8972a5d62ae00f29688a25c35f2c2"), looks := false }, kinds := [], alts := [], laidByText := true, laidKinds := [.data, .data], laidTests := true, laidLooks := .later }
def FnExactConvexFirstUptoCardSaid : Prop := Claim7.holds Tryd.pinned (.plain (OpenSpec.upto fnExactConvexFirstSpec)) fnExactConvexFirstUptoCard

/-- THE SECOND FORM's CARD OF 'laws.FnConvexHas'. -/
def fnConvexHasUptoCard : Claim7 := { stood := { row := fnConvexHasUptoRow, standIns := [], harness := (true, "571a53b2b2406f949eb29f9234d1108fcda8972a5d62ae00f29688a25c35f2c2"), looks := false }, kinds := [], alts := [], laidByText := true, laidKinds := [.data, .data], laidTests := true, laidLooks := .later }
def FnConvexHasUptoCardSaid : Prop := Claim7.holds Tryd.pinned (.plain (OpenSpec.upto fnConvexHasSpec)) fnConvexHasUptoCard

/-- THE SECOND FORM's CARD OF 'laws.FnPoly'. -/
def fnPolyUptoCard : Claim7 := { stood := { row := fnPolyUptoRow, standIns := [], harness := (true, "571a53b2b2406f949eb29f9234d1108fcda8972a5d62ae00f29688a25c35f2c2"), looks := false }, kinds := [], alts := [], laidByText := true, laidKinds := [.data, .data], laidTests := true, laidLooks := .later }
def FnPolyUptoCardSaid : Prop := Claim7.holds Tryd.pinned (.plain (OpenSpec.upto fnPolySpec)) fnPolyUptoCard

/-- THE SECOND FORM's CARD OF 'laws.FnConvexCount'. -/
def fnConvexCountUptoCard : Claim7 := { stood := { row := fnConvexCountUptoRow, standIns := [], harness := (true, "571a53b2b2406f949eb29f9234d1108fcda8972a5d62ae00f29688a25c35f2c2"), looks := false }, kinds := [], alts := [], laidByText := true, laidKinds := [.data, .data], laidTests := true, laidLooks := .later }
def FnConvexCountUptoCardSaid : Prop := Claim7.holds Tryd.pinned (.plain (OpenSpec.upto fnConvexCountSpec)) fnConvexCountUptoCard

/-- THE SECOND FORM's CARD OF 'laws.FnExactPolyCount'. -/
def fnExactPolyCountUptoCard : Claim7 := { stood := { row := fnExactPolyCountUptoRow, standIns := [], harness := (true, "571a53b2b2406f949eb29f9234d1108fcda8972a5d62ae00f29688a25c35f2c2"), looks := false }, kinds := [], alts := [], laidByText := true, laidKinds := [.data, .data], laidTests := true, laidLooks := .later }
def FnExactPolyCountUptoCardSaid : Prop := Claim7.holds Tryd.pinned (.plain (OpenSpec.upto fnExactPolyCountSpec)) fnExactPolyCountUptoCard

/-- THE SECOND FORM's CARD OF 'laws.FnPolyCountHas'. -/
def fnPolyCountHasUptoCard : Claim7 := { stood := { row := fnPolyCountHasUptoRow, standIns := [], harness := (true, "571a53b2b2406f949eb29f9234d1108fcda8972a5d62ae00f29688a25c35f2c2"), looks := false }, kinds := [], alts := [], laidByText := true, laidKinds := [.data, .data], laidTests := true, laidLooks := .later }
def FnPolyCountHasUptoCardSaid : Prop := Claim7.holds Tryd.pinned (.plain (OpenSpec.upto fnPolyCountHasSpec)) fnPolyCountHasUptoCard

/-- THE SECOND FORM's CARD OF 'laws.FnConvexAll'. -/
def fnConvexAllUptoCard : Claim7 := { stood := { row := fnConvexAllUptoRow, standIns := [], harness := (true, "571a53b2b2406f949eb29f9234d1108fcda8972a5d62ae00f29688a25c35f2c2"), looks := false }, kinds := [], alts := [], laidByText := true, laidKinds := [.data, .data], laidTests := true, laidLooks := .later }
def FnConvexAllUptoCardSaid : Prop := Claim7.holds Tryd.pinned (.plain (OpenSpec.upto fnConvexAllSpec)) fnConvexAllUptoCard

/-- THE SECOND FORM's CARD OF 'laws.FnConvexParts'. -/
def fnConvexPartsUptoCard : Claim7 := { stood := { row := fnConvexPartsUptoRow, standIns := [], harness := (true, "571a53b2b2406f949eb29f9234d1108fcda8972a5d62ae00f29688a25c35f2c2"), looks := false }, kinds := [], alts := [], laidByText := true, laidKinds := [.data, .data], laidTests := true, laidLooks := .later }
def FnConvexPartsUptoCardSaid : Prop := Claim7.holds Tryd.pinned (.plain (OpenSpec.upto fnConvexPartsSpec)) fnConvexPartsUptoCard
end Rows
end Go.Proofs.YtlcjadjfmhglcaaDoor
