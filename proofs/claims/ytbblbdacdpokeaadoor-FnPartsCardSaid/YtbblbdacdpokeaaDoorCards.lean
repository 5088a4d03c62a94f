/-
  DERIVED. GIVEN WITH THE SEED: THE CARDS: each row of YtbblbdacdpokeaaDoorRows.lean that lists a variable, with what it lists TIED to the program's text (the seventh form; the later family's looks); each row that meets fmt, with fmt's text TOLD by the authors' own Lean function (tested against real Go, not proved from fmt's source: count such statements apart). THE CARD IS WHAT COUNTS. Prove the row's statement (the work); the ties are given (YtbblbdacdpokeaaDoorTie.lean); close each card by the builder's one call (the guide's Derived/Test/ToyasCard.lean, 'card_holds'). Laid BY PROGRAM, IN A SANDBOX (cutbox-door.mjs). By AI agents, Wed Nov 11 2026. No macro, syntax, notation, axiom, sorry.
-/
import Derived.Test.YtbblbdacdpokeaaDoorRows
import GoSem.ClaimSeven
namespace Go.Proofs.YtbblbdacdpokeaaDoor
namespace Rows

/-- THE TIED CARD OF 'laws.FnParts'. -/
def fnPartsCard : Claim7 := { stood := { row := fnPartsRow, standIns := [], harness := (true, "699888db3e58fae1a7f3bfaaa4221f18a4ef2404df44325bac5392830289405f"), looks := false }, kinds := [], alts := [], laidByText := true, laidKinds := [.data, .data], laidTests := true, laidLooks := .later }
def FnPartsCardSaid : Prop := Claim7.holds Tryd.pinned (.plain (OpenSpec.ofChange fnPartsSpec)) fnPartsCard

/-- THE TIED CARD OF 'laws.FnConvexParts'. -/
def fnConvexPartsCard : Claim7 := { stood := { row := fnConvexPartsRow, standIns := [], harness := (true, "699888db3e58fae1a7f3bfaaa4221f18a4ef2404df44325bac5392830289405f"), looks := false }, kinds := [], alts := [], laidByText := true, laidKinds := [.data, .data], laidTests := true, laidLooks := .later }
def FnConvexPartsCardSaid : Prop := Claim7.holds Tryd.pinned (.plain (OpenSpec.ofChange fnConvexPartsSpec)) fnConvexPartsCard

/-- THE SECOND FORM's CARD OF 'laws.FnParts'. -/
def fnPartsUptoCard : Claim7 := { stood := { row := fnPartsUptoRow, standIns := [], harness := (true, "699888db3e58fae1a7f3bfaaa4221f18a4ef2404df44325bac5392830289405f"), looks := false }, kinds := [], alts := [], laidByText := true, laidKinds := [.data, .data], laidTests := true, laidLooks := .later }
def FnPartsUptoCardSaid : Prop := Claim7.holds Tryd.pinned (.plain (OpenSpec.upto fnPartsSpec)) fnPartsUptoCard

/-- THE SECOND FORM's CARD OF 'laws.FnConvexParts'. -/
def fnConvexPartsUptoCard : Claim7 := { stood := { row := fnConvexPartsUptoRow, standIns := [], harness := (true, "699888db3e58fae1a7f3bfaaa4221f18a4ef2404df44325bac5392830289405f"), looks := false }, kinds := [], alts := [], laidByText := true, laidKinds := [.data, .data], laidTests := true, laidLooks := .later }
def FnConvexPartsUptoCardSaid : Prop := Claim7.holds Tryd.pinned (.plain (OpenSpec.upto fnConvexPartsSpec)) fnConvexPartsUptoCard
end Rows
end Go.Proofs.YtbblbdacdpokeaaDoor
