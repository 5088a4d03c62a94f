/-
  DERIVED. GIVEN WITH THE SEED: THE CARDS: each row of YtilahcpjjaikgaaDoorRows.lean that lists a variable, with what it lists TIED to the program's text (the seventh form; the later family's looks); each row that meets fmt, with fmt's text TOLD by the authors' own Lean function (tested against real Go, not proved from fmt's source: count such statements apart). THE CARD IS WHAT COUNTS. Prove the row's statement (the work); the ties are given (YtilahcpjjaikgaaDoorTie.lean); close each card by the builder's one call (the guide's Derived/Test/ToyasCard.lean, 'card_holds'). Laid BY PROGRAM, IN A SANDBOX (cutbox-door.mjs). By AI agents, Wed Nov 11 2026. No macro, syntax, notation, axiom, sorry.
-/
import Derived.Test.YtilahcpjjaikgaaDoorRows
import GoSem.ClaimSeven
namespace Go.Proofs.YtilahcpjjaikgaaDoor
namespace Rows

/-- THE TIED CARD OF 'laws.FnConvexFirst'. -/
def fnConvexFirstCard : Claim7 := { stood := { row := fnConvexFirstRow, standIns := [], harness := (true, "752e01dafb558d3fc9ee3a37c256d139f0dd16e953674e3be948fe7d7a16960a"), looks := false }, kinds := [], alts := [], laidByText := true, laidKinds := [.data, .data], laidTests := true, laidLooks := .later }
def FnConvexFirstCardSaid : Prop := Claim7.holds Tryd.pinned (.plain (OpenSpec.ofChange fnConvexFirstSpec)) fnConvexFirstCard

/-- THE TIED CARD OF 'laws.FnExactConvexFirst'. -/
def fnExactConvexFirstCard : Claim7 := { stood := { row := fnExactConvexFirstRow, standIns := [], harness := (true, "752e01dafb558d3fc9ee3a37c256d139f0dd16e953674e3be948fe7d7a16960a"), looks := false }, kinds := [], alts := [], laidByText := true, laidKinds := [.data, .data], laidTests := true, laidLooks := .later }
def FnExactConvexFirstCardSaid : Prop := Claim7.holds Tryd.pinned (.plain (OpenSpec.ofChange fnExactConvexFirstSpec)) fnExactConvexFirstCard

/-- THE TIED CARD OF 'laws.FnConvexAll'. -/
def fnConvexAllCard : Claim7 := { stood := { row := fnConvexAllRow, standIns := [], harness := (true, "752e01dafb558d3fc9ee3a37c256d139f0dd16e953674e3be948fe7d7a16960a"), looks := false }, kinds := [], alts := [], laidByText := true, laidKinds := [.data, .data], laidTests := true, laidLooks := .later }
def FnConvexAllCardSaid : Prop := Claim7.holds Tryd.pinned (.plain (OpenSpec.ofChange fnConvexAllSpec)) fnConvexAllCard

/-- THE SECOND FORM's CARD OF 'laws.FnConvexFirst'. -/
def fnConvexFirstUptoCard : Claim7 := { stood := { row := fnConvexFirstUptoRow, standIns := [], harness := (true, "752e01dafb558d3fc9ee3a37c256d139f0dd16e953674e3be948fe7d7a16960a"), looks := false }, kinds := [], alts := [], laidByText := true, laidKinds := [.data, .data], laidTests := true, laidLooks := .later }
def FnConvexFirstUptoCardSaid : Prop := Claim7.holds Tryd.pinned (.plain (OpenSpec.upto fnConvexFirstSpec)) fnConvexFirstUptoCard

/-- THE SECOND FORM's CARD OF 'laws.FnExactConvexFirst'. -/
def fnExactConvexFirstUptoCard : Claim7 := { stood := { row := fnExactConvexFirstUptoRow, standIns := [], harness := (true, "752e01dafb558d3fc9ee3a37c256d139f0dd16e953674e3be948fe7d7a16960a"), looks := false }, kinds := [], alts := [], laidByText := true, laidKinds := [.data, .data], laidTests := true, laidLooks := .later }
def FnExactConvexFirstUptoCardSaid : Prop := Claim7.holds Tryd.pinned (.plain (OpenSpec.upto fnExactConvexFirstSpec)) fnExactConvexFirstUptoCard

/-- THE SECOND FORM's CARD OF 'laws.FnConvexAll'. -/
def fnConvexAllUptoCard : Claim7 := { stood := { row := fnConvexAllUptoRow, standIns := [], harness := (true, "752e01dafb558d3fc9ee3a37c256d139f0dd16e953674e3be948fe7d7a16960a"), looks := false }, kinds := [], alts := [], laidByText := true, laidKinds := [.data, .data], laidTests := true, laidLooks := .later }
def FnConvexAllUptoCardSaid : Prop := Claim7.holds Tryd.pinned (.plain (OpenSpec.upto fnConvexAllSpec)) fnConvexAllUptoCard
end Rows
end Go.Proofs.YtilahcpjjaikgaaDoor
