/-
  No cell of these rows narrows 'for every input' (looked for: loops, veiled, ifaces, maps, wideKeys, modest, calm, conditions, laid).
  DERIVED. THE GIVEN ROWS OF THIS SEAT. 13 by the template 'for every input the law returns true; each argument reads behind the call as it read before'; 0 by the template 'total and deterministic' (their statements: YtbblbdacdpokeaaTotals.lean).
  GIVEN WITH THE SEED: the statements are not yours to turn. If you find one false, say at which input.
  Laid BY PROGRAM, IN A SANDBOX (cutbox-rows.mjs): the forced cells as the released guide's own fill.sh prints them over the translation 49fd45040e05a66d… (all of the seat's roots in one cut). By AI agents, Wed Nov 11 2026. No macro, syntax, notation, axiom, sorry.
-/
import Derived.Test.YtbblbdacdpokeaaChecked
import GoSem.Claim
import GoSem.ClaimJoined
import GoSem.ClaimMapViews
import Derived.JoinedTies
import Derived.KernelRfl
namespace Go.Proofs.Ytbblbdacdpokeaa
/- THE CELL 'sum', in the pinned program and in every row, IS THE sha256 OF THE DUMP (.gsa) THAT YtbblbdacdpokeaaProg.lean LOADS. Nothing in Lean hashes anything: it is a label: what it is worth is what the hold of that sum in a sandbox is worth. -/
noncomputable def Try.pinned : Pinned := { name := "ytbblbdacdpokeaa", sum := "49fd45040e05a66dc05e13857ab774a9d86d5b67be15ec5d94cdbcb38335e65e", checked := Try.checked }
namespace Rows
def none {H : Type} : Left H := { results := [], args := [] }

/-- 'laws.FnExactImageHoles': WHATEVER THE INPUT: true; the input reads as it did. -/
def fnExactImageHolesSpec : ChangeSpec := { name := "fnExactImageHoles", fn := fun _ => fun
  | [d] => { results := [.lit (.bool true)], args := [d] }
  | _ => none }
def fnExactImageHolesRow : OpenClaim := { program := "ytbblbdacdpokeaa", sum := "49fd45040e05a66dc05e13857ab774a9d86d5b67be15ec5d94cdbcb38335e65e", func := "loop.example/discretetomography/laws.FnExactImageHoles", spec := "fnExactImageHoles", unfollowed := true, recurses := true, apart := false }
def FnExactImageHolesSaid : Prop := fnExactImageHolesRow.holds Try.pinned (OpenSpec.ofChange fnExactImageHolesSpec)

/-- ITS FALSE NEIGHBOUR: 'it returns false'. Refute it at one input. -/
def fnExactImageHolesWrong : ChangeSpec := { name := "fnExactImageHoles", fn := fun _ => fun
  | [d] => { results := [.lit (.bool false)], args := [d] }
  | _ => none }
def FnExactImageHolesWrongFalsely : Prop := fnExactImageHolesRow.holds Try.pinned (OpenSpec.ofChange fnExactImageHolesWrong)

/-- 'laws.FnPartsPut': WHATEVER THE INPUT: true; the input reads as it did. -/
def fnPartsPutSpec : ChangeSpec := { name := "fnPartsPut", fn := fun _ => fun
  | [d1, d2] => { results := [.lit (.bool true)], args := [d1, d2] }
  | _ => none }
def fnPartsPutRow : OpenClaim := { program := "ytbblbdacdpokeaa", sum := "49fd45040e05a66dc05e13857ab774a9d86d5b67be15ec5d94cdbcb38335e65e", func := "loop.example/discretetomography/laws.FnPartsPut", spec := "fnPartsPut", unfollowed := true, recurses := true, apart := false }
def FnPartsPutSaid : Prop := fnPartsPutRow.holds Try.pinned (OpenSpec.ofChange fnPartsPutSpec)

/-- ITS FALSE NEIGHBOUR: 'it returns false'. Refute it at one input. -/
def fnPartsPutWrong : ChangeSpec := { name := "fnPartsPut", fn := fun _ => fun
  | [d1, d2] => { results := [.lit (.bool false)], args := [d1, d2] }
  | _ => none }
def FnPartsPutWrongFalsely : Prop := fnPartsPutRow.holds Try.pinned (OpenSpec.ofChange fnPartsPutWrong)

/-- 'laws.FnPart': WHATEVER THE INPUT: true; the input reads as it did. -/
def fnPartSpec : ChangeSpec := { name := "fnPart", fn := fun _ => fun
  | [d] => { results := [.lit (.bool true)], args := [d] }
  | _ => none }
def fnPartRow : OpenClaim := { program := "ytbblbdacdpokeaa", sum := "49fd45040e05a66dc05e13857ab774a9d86d5b67be15ec5d94cdbcb38335e65e", func := "loop.example/discretetomography/laws.FnPart", spec := "fnPart", unfollowed := true, recurses := true, apart := false }
def FnPartSaid : Prop := fnPartRow.holds Try.pinned (OpenSpec.ofChange fnPartSpec)

/-- ITS FALSE NEIGHBOUR: 'it returns false'. Refute it at one input. -/
def fnPartWrong : ChangeSpec := { name := "fnPart", fn := fun _ => fun
  | [d] => { results := [.lit (.bool false)], args := [d] }
  | _ => none }
def FnPartWrongFalsely : Prop := fnPartRow.holds Try.pinned (OpenSpec.ofChange fnPartWrong)

/-- 'laws.FnPartRest': WHATEVER THE INPUT: true; the input reads as it did. -/
def fnPartRestSpec : ChangeSpec := { name := "fnPartRest", fn := fun _ => fun
  | [d] => { results := [.lit (.bool true)], args := [d] }
  | _ => none }
def fnPartRestRow : OpenClaim := { program := "ytbblbdacdpokeaa", sum := "49fd45040e05a66dc05e13857ab774a9d86d5b67be15ec5d94cdbcb38335e65e", func := "loop.example/discretetomography/laws.FnPartRest", spec := "fnPartRest", unfollowed := true, recurses := true, apart := false }
def FnPartRestSaid : Prop := fnPartRestRow.holds Try.pinned (OpenSpec.ofChange fnPartRestSpec)

/-- ITS FALSE NEIGHBOUR: 'it returns false'. Refute it at one input. -/
def fnPartRestWrong : ChangeSpec := { name := "fnPartRest", fn := fun _ => fun
  | [d] => { results := [.lit (.bool false)], args := [d] }
  | _ => none }
def FnPartRestWrongFalsely : Prop := fnPartRestRow.holds Try.pinned (OpenSpec.ofChange fnPartRestWrong)

/-- 'laws.FnExactImageFill': WHATEVER THE INPUT: true; the input reads as it did. -/
def fnExactImageFillSpec : ChangeSpec := { name := "fnExactImageFill", fn := fun _ => fun
  | [d] => { results := [.lit (.bool true)], args := [d] }
  | _ => none }
def fnExactImageFillRow : OpenClaim := { program := "ytbblbdacdpokeaa", sum := "49fd45040e05a66dc05e13857ab774a9d86d5b67be15ec5d94cdbcb38335e65e", func := "loop.example/discretetomography/laws.FnExactImageFill", spec := "fnExactImageFill", unfollowed := true, recurses := true, apart := false }
def FnExactImageFillSaid : Prop := fnExactImageFillRow.holds Try.pinned (OpenSpec.ofChange fnExactImageFillSpec)

/-- ITS FALSE NEIGHBOUR: 'it returns false'. Refute it at one input. -/
def fnExactImageFillWrong : ChangeSpec := { name := "fnExactImageFill", fn := fun _ => fun
  | [d] => { results := [.lit (.bool false)], args := [d] }
  | _ => none }
def FnExactImageFillWrongFalsely : Prop := fnExactImageFillRow.holds Try.pinned (OpenSpec.ofChange fnExactImageFillWrong)

/-- 'laws.FnHoles': WHATEVER THE INPUT: true; the input reads as it did. -/
def fnHolesSpec : ChangeSpec := { name := "fnHoles", fn := fun _ => fun
  | [d] => { results := [.lit (.bool true)], args := [d] }
  | _ => none }
def fnHolesRow : OpenClaim := { program := "ytbblbdacdpokeaa", sum := "49fd45040e05a66dc05e13857ab774a9d86d5b67be15ec5d94cdbcb38335e65e", func := "loop.example/discretetomography/laws.FnHoles", spec := "fnHoles", unfollowed := true, recurses := true, apart := false }
def FnHolesSaid : Prop := fnHolesRow.holds Try.pinned (OpenSpec.ofChange fnHolesSpec)

/-- ITS FALSE NEIGHBOUR: 'it returns false'. Refute it at one input. -/
def fnHolesWrong : ChangeSpec := { name := "fnHoles", fn := fun _ => fun
  | [d] => { results := [.lit (.bool false)], args := [d] }
  | _ => none }
def FnHolesWrongFalsely : Prop := fnHolesRow.holds Try.pinned (OpenSpec.ofChange fnHolesWrong)

/-- 'laws.FnEuler': WHATEVER THE INPUT: true; the input reads as it did. -/
def fnEulerSpec : ChangeSpec := { name := "fnEuler", fn := fun _ => fun
  | [d] => { results := [.lit (.bool true)], args := [d] }
  | _ => none }
def fnEulerRow : OpenClaim := { program := "ytbblbdacdpokeaa", sum := "49fd45040e05a66dc05e13857ab774a9d86d5b67be15ec5d94cdbcb38335e65e", func := "loop.example/discretetomography/laws.FnEuler", spec := "fnEuler", unfollowed := true, recurses := true, apart := false }
def FnEulerSaid : Prop := fnEulerRow.holds Try.pinned (OpenSpec.ofChange fnEulerSpec)

/-- ITS FALSE NEIGHBOUR: 'it returns false'. Refute it at one input. -/
def fnEulerWrong : ChangeSpec := { name := "fnEuler", fn := fun _ => fun
  | [d] => { results := [.lit (.bool false)], args := [d] }
  | _ => none }
def FnEulerWrongFalsely : Prop := fnEulerRow.holds Try.pinned (OpenSpec.ofChange fnEulerWrong)

/-- 'laws.FnEulerTurn': WHATEVER THE INPUT: true; the input reads as it did. -/
def fnEulerTurnSpec : ChangeSpec := { name := "fnEulerTurn", fn := fun _ => fun
  | [d] => { results := [.lit (.bool true)], args := [d] }
  | _ => none }
def fnEulerTurnRow : OpenClaim := { program := "ytbblbdacdpokeaa", sum := "49fd45040e05a66dc05e13857ab774a9d86d5b67be15ec5d94cdbcb38335e65e", func := "loop.example/discretetomography/laws.FnEulerTurn", spec := "fnEulerTurn", unfollowed := true, recurses := true, apart := false }
def FnEulerTurnSaid : Prop := fnEulerTurnRow.holds Try.pinned (OpenSpec.ofChange fnEulerTurnSpec)

/-- ITS FALSE NEIGHBOUR: 'it returns false'. Refute it at one input. -/
def fnEulerTurnWrong : ChangeSpec := { name := "fnEulerTurn", fn := fun _ => fun
  | [d] => { results := [.lit (.bool false)], args := [d] }
  | _ => none }
def FnEulerTurnWrongFalsely : Prop := fnEulerTurnRow.holds Try.pinned (OpenSpec.ofChange fnEulerTurnWrong)

/-- 'laws.FnFill': WHATEVER THE INPUT: true; the input reads as it did. -/
def fnFillSpec : ChangeSpec := { name := "fnFill", fn := fun _ => fun
  | [d] => { results := [.lit (.bool true)], args := [d] }
  | _ => none }
def fnFillRow : OpenClaim := { program := "ytbblbdacdpokeaa", sum := "49fd45040e05a66dc05e13857ab774a9d86d5b67be15ec5d94cdbcb38335e65e", func := "loop.example/discretetomography/laws.FnFill", spec := "fnFill", unfollowed := true, recurses := true, apart := false }
def FnFillSaid : Prop := fnFillRow.holds Try.pinned (OpenSpec.ofChange fnFillSpec)

/-- ITS FALSE NEIGHBOUR: 'it returns false'. Refute it at one input. -/
def fnFillWrong : ChangeSpec := { name := "fnFill", fn := fun _ => fun
  | [d] => { results := [.lit (.bool false)], args := [d] }
  | _ => none }
def FnFillWrongFalsely : Prop := fnFillRow.holds Try.pinned (OpenSpec.ofChange fnFillWrong)

/-- 'laws.FnPartPart': WHATEVER THE INPUT: true; the input reads as it did. -/
def fnPartPartSpec : ChangeSpec := { name := "fnPartPart", fn := fun _ => fun
  | [d] => { results := [.lit (.bool true)], args := [d] }
  | _ => none }
def fnPartPartRow : OpenClaim := { program := "ytbblbdacdpokeaa", sum := "49fd45040e05a66dc05e13857ab774a9d86d5b67be15ec5d94cdbcb38335e65e", func := "loop.example/discretetomography/laws.FnPartPart", spec := "fnPartPart", unfollowed := true, recurses := true, apart := false }
def FnPartPartSaid : Prop := fnPartPartRow.holds Try.pinned (OpenSpec.ofChange fnPartPartSpec)

/-- ITS FALSE NEIGHBOUR: 'it returns false'. Refute it at one input. -/
def fnPartPartWrong : ChangeSpec := { name := "fnPartPart", fn := fun _ => fun
  | [d] => { results := [.lit (.bool false)], args := [d] }
  | _ => none }
def FnPartPartWrongFalsely : Prop := fnPartPartRow.holds Try.pinned (OpenSpec.ofChange fnPartPartWrong)

/-- 'laws.FnPartsSum': WHATEVER THE INPUT: true; the input reads as it did. -/
def fnPartsSumSpec : ChangeSpec := { name := "fnPartsSum", fn := fun _ => fun
  | [d] => { results := [.lit (.bool true)], args := [d] }
  | _ => none }
def fnPartsSumRow : OpenClaim := { program := "ytbblbdacdpokeaa", sum := "49fd45040e05a66dc05e13857ab774a9d86d5b67be15ec5d94cdbcb38335e65e", func := "loop.example/discretetomography/laws.FnPartsSum", spec := "fnPartsSum", unfollowed := true, recurses := true, apart := false }
def FnPartsSumSaid : Prop := fnPartsSumRow.holds Try.pinned (OpenSpec.ofChange fnPartsSumSpec)

/-- ITS FALSE NEIGHBOUR: 'it returns false'. Refute it at one input. -/
def fnPartsSumWrong : ChangeSpec := { name := "fnPartsSum", fn := fun _ => fun
  | [d] => { results := [.lit (.bool false)], args := [d] }
  | _ => none }
def FnPartsSumWrongFalsely : Prop := fnPartsSumRow.holds Try.pinned (OpenSpec.ofChange fnPartsSumWrong)

/-- 'laws.FnPartSame': WHATEVER THE INPUT: true; the input reads as it did. -/
def fnPartSameSpec : ChangeSpec := { name := "fnPartSame", fn := fun _ => fun
  | [d1, d2] => { results := [.lit (.bool true)], args := [d1, d2] }
  | _ => none }
def fnPartSameRow : OpenClaim := { program := "ytbblbdacdpokeaa", sum := "49fd45040e05a66dc05e13857ab774a9d86d5b67be15ec5d94cdbcb38335e65e", func := "loop.example/discretetomography/laws.FnPartSame", spec := "fnPartSame", unfollowed := true, recurses := true, apart := false }
def FnPartSameSaid : Prop := fnPartSameRow.holds Try.pinned (OpenSpec.ofChange fnPartSameSpec)

/-- ITS FALSE NEIGHBOUR: 'it returns false'. Refute it at one input. -/
def fnPartSameWrong : ChangeSpec := { name := "fnPartSame", fn := fun _ => fun
  | [d1, d2] => { results := [.lit (.bool false)], args := [d1, d2] }
  | _ => none }
def FnPartSameWrongFalsely : Prop := fnPartSameRow.holds Try.pinned (OpenSpec.ofChange fnPartSameWrong)

/-- 'laws.FnFillEuler': WHATEVER THE INPUT: true; the input reads as it did. -/
def fnFillEulerSpec : ChangeSpec := { name := "fnFillEuler", fn := fun _ => fun
  | [d] => { results := [.lit (.bool true)], args := [d] }
  | _ => none }
def fnFillEulerRow : OpenClaim := { program := "ytbblbdacdpokeaa", sum := "49fd45040e05a66dc05e13857ab774a9d86d5b67be15ec5d94cdbcb38335e65e", func := "loop.example/discretetomography/laws.FnFillEuler", spec := "fnFillEuler", unfollowed := true, recurses := true, apart := false }
def FnFillEulerSaid : Prop := fnFillEulerRow.holds Try.pinned (OpenSpec.ofChange fnFillEulerSpec)

/-- ITS FALSE NEIGHBOUR: 'it returns false'. Refute it at one input. -/
def fnFillEulerWrong : ChangeSpec := { name := "fnFillEuler", fn := fun _ => fun
  | [d] => { results := [.lit (.bool false)], args := [d] }
  | _ => none }
def FnFillEulerWrongFalsely : Prop := fnFillEulerRow.holds Try.pinned (OpenSpec.ofChange fnFillEulerWrong)

/- THE SECOND FORM. 'bulk': how many values and letters a reading holds, each counted each time it is reached (what is shared counts as often as it is met; a slice's spare places count too). A statement '..UptoSaid' is the law's where the arguments, and the package variables that the reading takes, are together of bulk at most 1048576: NARROWER than '..Said'. Prove '..Said' where nothing that the law and all that it calls make is longer than what came in: it says more and counts as full. Else prove '..UptoSaid'. A law counts once. -/
mutual
def uptoBulk {H : Type} : DataW H → Nat
  | .lit (.string bytes) => bytes.length + 1
  | .lit _ => 1
  | .nil => 1
  | .ptr d => uptoBulk d + 1
  | .slice elems spare => uptoBulkAll elems + uptoBulkAll spare + 1
  | .agg parts => uptoBulkAll parts + 1
  | .iface _ d => uptoBulk d + 1
  | .map entries => uptoBulkEntries entries + 1
  | .held _ => 1
def uptoBulkAll {H : Type} : List (DataW H) → Nat
  | [] => 0
  | d :: r => uptoBulk d + uptoBulkAll r
def uptoBulkEntries {H : Type} : List (Lit × DataW H) → Nat
  | [] => 0
  | x :: r => uptoBulkEntry x + uptoBulkEntries r
def uptoBulkEntry {H : Type} : Lit × DataW H → Nat
  | (.string bytes, d) => bytes.length + uptoBulk d + 1
  | (_, d) => uptoBulk d + 1
 end
def uptoSmall : (H : Type) → List (DataW H) → Bool := fun _ ds => decide (uptoBulkAll ds ≤ 1048576)
def OpenSpec.upto (s : _root_.Go.ChangeSpec) : _root_.Go.OpenSpec := { _root_.Go.OpenSpec.ofChange s with cond := some uptoSmall }

/-- 'laws.FnExactImageHoles', WHERE WHAT IT READS IS OF BULK AT MOST 1048576: true; the input reads as it did. -/
def fnExactImageHolesUptoRow : OpenClaim := { program := "ytbblbdacdpokeaa", sum := "49fd45040e05a66dc05e13857ab774a9d86d5b67be15ec5d94cdbcb38335e65e", func := "loop.example/discretetomography/laws.FnExactImageHoles", spec := "fnExactImageHoles", unfollowed := true, recurses := true, apart := false, narrowed := true }
def FnExactImageHolesUptoSaid : Prop := fnExactImageHolesUptoRow.holds Try.pinned (OpenSpec.upto fnExactImageHolesSpec)

/-- 'laws.FnPartsPut', WHERE WHAT IT READS IS OF BULK AT MOST 1048576: true; the input reads as it did. -/
def fnPartsPutUptoRow : OpenClaim := { program := "ytbblbdacdpokeaa", sum := "49fd45040e05a66dc05e13857ab774a9d86d5b67be15ec5d94cdbcb38335e65e", func := "loop.example/discretetomography/laws.FnPartsPut", spec := "fnPartsPut", unfollowed := true, recurses := true, apart := false, narrowed := true }
def FnPartsPutUptoSaid : Prop := fnPartsPutUptoRow.holds Try.pinned (OpenSpec.upto fnPartsPutSpec)

/-- 'laws.FnPart', WHERE WHAT IT READS IS OF BULK AT MOST 1048576: true; the input reads as it did. -/
def fnPartUptoRow : OpenClaim := { program := "ytbblbdacdpokeaa", sum := "49fd45040e05a66dc05e13857ab774a9d86d5b67be15ec5d94cdbcb38335e65e", func := "loop.example/discretetomography/laws.FnPart", spec := "fnPart", unfollowed := true, recurses := true, apart := false, narrowed := true }
def FnPartUptoSaid : Prop := fnPartUptoRow.holds Try.pinned (OpenSpec.upto fnPartSpec)

/-- 'laws.FnPartRest', WHERE WHAT IT READS IS OF BULK AT MOST 1048576: true; the input reads as it did. -/
def fnPartRestUptoRow : OpenClaim := { program := "ytbblbdacdpokeaa", sum := "49fd45040e05a66dc05e13857ab774a9d86d5b67be15ec5d94cdbcb38335e65e", func := "loop.example/discretetomography/laws.FnPartRest", spec := "fnPartRest", unfollowed := true, recurses := true, apart := false, narrowed := true }
def FnPartRestUptoSaid : Prop := fnPartRestUptoRow.holds Try.pinned (OpenSpec.upto fnPartRestSpec)

/-- 'laws.FnExactImageFill', WHERE WHAT IT READS IS OF BULK AT MOST 1048576: true; the input reads as it did. -/
def fnExactImageFillUptoRow : OpenClaim := { program := "ytbblbdacdpokeaa", sum := "49fd45040e05a66dc05e13857ab774a9d86d5b67be15ec5d94cdbcb38335e65e", func := "loop.example/discretetomography/laws.FnExactImageFill", spec := "fnExactImageFill", unfollowed := true, recurses := true, apart := false, narrowed := true }
def FnExactImageFillUptoSaid : Prop := fnExactImageFillUptoRow.holds Try.pinned (OpenSpec.upto fnExactImageFillSpec)

/-- 'laws.FnHoles', WHERE WHAT IT READS IS OF BULK AT MOST 1048576: true; the input reads as it did. -/
def fnHolesUptoRow : OpenClaim := { program := "ytbblbdacdpokeaa", sum := "49fd45040e05a66dc05e13857ab774a9d86d5b67be15ec5d94cdbcb38335e65e", func := "loop.example/discretetomography/laws.FnHoles", spec := "fnHoles", unfollowed := true, recurses := true, apart := false, narrowed := true }
def FnHolesUptoSaid : Prop := fnHolesUptoRow.holds Try.pinned (OpenSpec.upto fnHolesSpec)

/-- 'laws.FnEuler', WHERE WHAT IT READS IS OF BULK AT MOST 1048576: true; the input reads as it did. -/
def fnEulerUptoRow : OpenClaim := { program := "ytbblbdacdpokeaa", sum := "49fd45040e05a66dc05e13857ab774a9d86d5b67be15ec5d94cdbcb38335e65e", func := "loop.example/discretetomography/laws.FnEuler", spec := "fnEuler", unfollowed := true, recurses := true, apart := false, narrowed := true }
def FnEulerUptoSaid : Prop := fnEulerUptoRow.holds Try.pinned (OpenSpec.upto fnEulerSpec)

/-- 'laws.FnEulerTurn', WHERE WHAT IT READS IS OF BULK AT MOST 1048576: true; the input reads as it did. -/
def fnEulerTurnUptoRow : OpenClaim := { program := "ytbblbdacdpokeaa", sum := "49fd45040e05a66dc05e13857ab774a9d86d5b67be15ec5d94cdbcb38335e65e", func := "loop.example/discretetomography/laws.FnEulerTurn", spec := "fnEulerTurn", unfollowed := true, recurses := true, apart := false, narrowed := true }
def FnEulerTurnUptoSaid : Prop := fnEulerTurnUptoRow.holds Try.pinned (OpenSpec.upto fnEulerTurnSpec)

/-- 'laws.FnFill', WHERE WHAT IT READS IS OF BULK AT MOST 1048576: true; the input reads as it did. -/
def fnFillUptoRow : OpenClaim := { program := "ytbblbdacdpokeaa", sum := "49fd45040e05a66dc05e13857ab774a9d86d5b67be15ec5d94cdbcb38335e65e", func := "loop.example/discretetomography/laws.FnFill", spec := "fnFill", unfollowed := true, recurses := true, apart := false, narrowed := true }
def FnFillUptoSaid : Prop := fnFillUptoRow.holds Try.pinned (OpenSpec.upto fnFillSpec)

/-- 'laws.FnPartPart', WHERE WHAT IT READS IS OF BULK AT MOST 1048576: true; the input reads as it did. -/
def fnPartPartUptoRow : OpenClaim := { program := "ytbblbdacdpokeaa", sum := "49fd45040e05a66dc05e13857ab774a9d86d5b67be15ec5d94cdbcb38335e65e", func := "loop.example/discretetomography/laws.FnPartPart", spec := "fnPartPart", unfollowed := true, recurses := true, apart := false, narrowed := true }
def FnPartPartUptoSaid : Prop := fnPartPartUptoRow.holds Try.pinned (OpenSpec.upto fnPartPartSpec)

/-- 'laws.FnPartsSum', WHERE WHAT IT READS IS OF BULK AT MOST 1048576: true; the input reads as it did. -/
def fnPartsSumUptoRow : OpenClaim := { program := "ytbblbdacdpokeaa", sum := "49fd45040e05a66dc05e13857ab774a9d86d5b67be15ec5d94cdbcb38335e65e", func := "loop.example/discretetomography/laws.FnPartsSum", spec := "fnPartsSum", unfollowed := true, recurses := true, apart := false, narrowed := true }
def FnPartsSumUptoSaid : Prop := fnPartsSumUptoRow.holds Try.pinned (OpenSpec.upto fnPartsSumSpec)

/-- 'laws.FnPartSame', WHERE WHAT IT READS IS OF BULK AT MOST 1048576: true; the input reads as it did. -/
def fnPartSameUptoRow : OpenClaim := { program := "ytbblbdacdpokeaa", sum := "49fd45040e05a66dc05e13857ab774a9d86d5b67be15ec5d94cdbcb38335e65e", func := "loop.example/discretetomography/laws.FnPartSame", spec := "fnPartSame", unfollowed := true, recurses := true, apart := false, narrowed := true }
def FnPartSameUptoSaid : Prop := fnPartSameUptoRow.holds Try.pinned (OpenSpec.upto fnPartSameSpec)

/-- 'laws.FnFillEuler', WHERE WHAT IT READS IS OF BULK AT MOST 1048576: true; the input reads as it did. -/
def fnFillEulerUptoRow : OpenClaim := { program := "ytbblbdacdpokeaa", sum := "49fd45040e05a66dc05e13857ab774a9d86d5b67be15ec5d94cdbcb38335e65e", func := "loop.example/discretetomography/laws.FnFillEuler", spec := "fnFillEuler", unfollowed := true, recurses := true, apart := false, narrowed := true }
def FnFillEulerUptoSaid : Prop := fnFillEulerUptoRow.holds Try.pinned (OpenSpec.upto fnFillEulerSpec)

end Rows
end Go.Proofs.Ytbblbdacdpokeaa
