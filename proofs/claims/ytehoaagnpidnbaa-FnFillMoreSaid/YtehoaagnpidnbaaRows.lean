/-
  No cell of these rows narrows 'for every input' (looked for: loops, veiled, ifaces, maps, wideKeys, modest, calm, conditions, laid).
  DERIVED. THE GIVEN ROWS OF THIS SEAT. 4 by the template 'for every input the law returns true; each argument reads behind the call as it read before'; 0 by the template 'total and deterministic' (their statements: YtehoaagnpidnbaaTotals.lean).
  GIVEN WITH THE SEED: the statements are not yours to turn. If you find one false, say at which input.
  Laid BY PROGRAM, IN A SANDBOX (cutbox-rows.mjs): the forced cells as the released guide's own fill.sh prints them over the translation 9ec154c2b1680d0b… (all of the seat's roots in one cut). By AI agents, Wed Nov 11 2026. No macro, syntax, notation, axiom, sorry.
-/
import Derived.Test.YtehoaagnpidnbaaChecked
import GoSem.Claim
import GoSem.ClaimJoined
import GoSem.ClaimMapViews
import Derived.JoinedTies
import Derived.KernelRfl
namespace Go.Proofs.Ytehoaagnpidnbaa
/- THE CELL 'sum', in the pinned program and in every row, IS THE sha256 OF THE DUMP (.gsa) THAT YtehoaagnpidnbaaProg.lean LOADS. Nothing in Lean hashes anything: it is a label: what it is worth is what the hold of that sum in a sandbox is worth. -/
noncomputable def Try.pinned : Pinned := { name := "ytehoaagnpidnbaa", sum := "9ec154c2b1680d0b4caf32beb28e12e027741e77782ee6eb52969c6e98cc073c", checked := Try.checked }
namespace Rows
def none {H : Type} : Left H := { results := [], args := [] }

/-- 'laws.FnExactFillImage': WHATEVER THE INPUT: true; the input reads as it did. -/
def fnExactFillImageSpec : ChangeSpec := { name := "fnExactFillImage", fn := fun _ => fun
  | [d1, d2] => { results := [.lit (.bool true)], args := [d1, d2] }
  | _ => none }
def fnExactFillImageRow : OpenClaim := { program := "ytehoaagnpidnbaa", sum := "9ec154c2b1680d0b4caf32beb28e12e027741e77782ee6eb52969c6e98cc073c", func := "loop.example/discretetomography/laws.FnExactFillImage", spec := "fnExactFillImage", apart := false }
def FnExactFillImageSaid : Prop := fnExactFillImageRow.holds Try.pinned (OpenSpec.ofChange fnExactFillImageSpec)

/-- ITS FALSE NEIGHBOUR: 'it returns false'. Refute it at one input. -/
def fnExactFillImageWrong : ChangeSpec := { name := "fnExactFillImage", fn := fun _ => fun
  | [d1, d2] => { results := [.lit (.bool false)], args := [d1, d2] }
  | _ => none }
def FnExactFillImageWrongFalsely : Prop := fnExactFillImageRow.holds Try.pinned (OpenSpec.ofChange fnExactFillImageWrong)

/-- 'laws.FnFillMore': WHATEVER THE INPUT: true; the input reads as it did. -/
def fnFillMoreSpec : ChangeSpec := { name := "fnFillMore", fn := fun _ => fun
  | [d1, d2] => { results := [.lit (.bool true)], args := [d1, d2] }
  | _ => none }
def fnFillMoreRow : OpenClaim := { program := "ytehoaagnpidnbaa", sum := "9ec154c2b1680d0b4caf32beb28e12e027741e77782ee6eb52969c6e98cc073c", func := "loop.example/discretetomography/laws.FnFillMore", spec := "fnFillMore", apart := false }
def FnFillMoreSaid : Prop := fnFillMoreRow.holds Try.pinned (OpenSpec.ofChange fnFillMoreSpec)

/-- ITS FALSE NEIGHBOUR: 'it returns false'. Refute it at one input. -/
def fnFillMoreWrong : ChangeSpec := { name := "fnFillMore", fn := fun _ => fun
  | [d1, d2] => { results := [.lit (.bool false)], args := [d1, d2] }
  | _ => none }
def FnFillMoreWrongFalsely : Prop := fnFillMoreRow.holds Try.pinned (OpenSpec.ofChange fnFillMoreWrong)

/-- 'laws.FnFillImageOther': WHATEVER THE INPUT: true; the input reads as it did. -/
def fnFillImageOtherSpec : ChangeSpec := { name := "fnFillImageOther", fn := fun _ => fun
  | [d] => { results := [.lit (.bool true)], args := [d] }
  | _ => none }
def fnFillImageOtherRow : OpenClaim := { program := "ytehoaagnpidnbaa", sum := "9ec154c2b1680d0b4caf32beb28e12e027741e77782ee6eb52969c6e98cc073c", func := "loop.example/discretetomography/laws.FnFillImageOther", spec := "fnFillImageOther", apart := false }
def FnFillImageOtherSaid : Prop := fnFillImageOtherRow.holds Try.pinned (OpenSpec.ofChange fnFillImageOtherSpec)

/-- ITS FALSE NEIGHBOUR: 'it returns false'. Refute it at one input. -/
def fnFillImageOtherWrong : ChangeSpec := { name := "fnFillImageOther", fn := fun _ => fun
  | [d] => { results := [.lit (.bool false)], args := [d] }
  | _ => none }
def FnFillImageOtherWrongFalsely : Prop := fnFillImageOtherRow.holds Try.pinned (OpenSpec.ofChange fnFillImageOtherWrong)

/-- 'laws.FnFillTurn': WHATEVER THE INPUT: true; the input reads as it did. -/
def fnFillTurnSpec : ChangeSpec := { name := "fnFillTurn", fn := fun _ => fun
  | [d] => { results := [.lit (.bool true)], args := [d] }
  | _ => none }
def fnFillTurnRow : OpenClaim := { program := "ytehoaagnpidnbaa", sum := "9ec154c2b1680d0b4caf32beb28e12e027741e77782ee6eb52969c6e98cc073c", func := "loop.example/discretetomography/laws.FnFillTurn", spec := "fnFillTurn", unfollowed := true, recurses := true, apart := false }
def FnFillTurnSaid : Prop := fnFillTurnRow.holds Try.pinned (OpenSpec.ofChange fnFillTurnSpec)

/-- ITS FALSE NEIGHBOUR: 'it returns false'. Refute it at one input. -/
def fnFillTurnWrong : ChangeSpec := { name := "fnFillTurn", fn := fun _ => fun
  | [d] => { results := [.lit (.bool false)], args := [d] }
  | _ => none }
def FnFillTurnWrongFalsely : Prop := fnFillTurnRow.holds Try.pinned (OpenSpec.ofChange fnFillTurnWrong)

/- THE SECOND FORM. 'bulk': how many values and letters a reading holds, each counted each time it is reached (what is shared counts as often as it is met; a slice's spare places count too). A statement '..UptoSaid' is the law's where the arguments, and the package variables that the reading takes, are together of bulk at most 1048576: NARROWER than '..Said'. Prove '..Said' where nothing that the law and all that it calls make is longer than what came in: it says more and counts as full. Else prove '..UptoSaid'. A law counts once. -/
mutual
def uptoBulk {H : Type} : DataW H → Nat
  | .lit (.string bytes) => bytes.length + 1
  | .lit _ => 1
  | .nil => 1
  | .ptr d => uptoBulk d + 1
  | .slice elems spare => uptoBulkAll elems + uptoBulkAll spare + 1
  | .agg parts => uptoBulkAll parts + 1
  | .iface _ d => uptoBulk d + 1
  | .map entries => uptoBulkEntries entries + 1
  | .held _ => 1
def uptoBulkAll {H : Type} : List (DataW H) → Nat
  | [] => 0
  | d :: r => uptoBulk d + uptoBulkAll r
def uptoBulkEntries {H : Type} : List (Lit × DataW H) → Nat
  | [] => 0
  | x :: r => uptoBulkEntry x + uptoBulkEntries r
def uptoBulkEntry {H : Type} : Lit × DataW H → Nat
  | (.string bytes, d) => bytes.length + uptoBulk d + 1
  | (_, d) => uptoBulk d + 1
 end
def uptoSmall : (H : Type) → List (DataW H) → Bool := fun _ ds => decide (uptoBulkAll ds ≤ 1048576)
def OpenSpec.upto (s : _root_.Go.ChangeSpec) : _root_.Go.OpenSpec := { _root_.Go.OpenSpec.ofChange s with cond := some uptoSmall }

/-- 'laws.FnExactFillImage', WHERE WHAT IT READS IS OF BULK AT MOST 1048576: true; the input reads as it did. -/
def fnExactFillImageUptoRow : OpenClaim := { program := "ytehoaagnpidnbaa", sum := "9ec154c2b1680d0b4caf32beb28e12e027741e77782ee6eb52969c6e98cc073c", func := "loop.example/discretetomography/laws.FnExactFillImage", spec := "fnExactFillImage", apart := false, narrowed := true }
def FnExactFillImageUptoSaid : Prop := fnExactFillImageUptoRow.holds Try.pinned (OpenSpec.upto fnExactFillImageSpec)

/-- 'laws.FnFillMore', WHERE WHAT IT READS IS OF BULK AT MOST 1048576: true; the input reads as it did. -/
def fnFillMoreUptoRow : OpenClaim := { program := "ytehoaagnpidnbaa", sum := "9ec154c2b1680d0b4caf32beb28e12e027741e77782ee6eb52969c6e98cc073c", func := "loop.example/discretetomography/laws.FnFillMore", spec := "fnFillMore", apart := false, narrowed := true }
def FnFillMoreUptoSaid : Prop := fnFillMoreUptoRow.holds Try.pinned (OpenSpec.upto fnFillMoreSpec)

/-- 'laws.FnFillImageOther', WHERE WHAT IT READS IS OF BULK AT MOST 1048576: true; the input reads as it did. -/
def fnFillImageOtherUptoRow : OpenClaim := { program := "ytehoaagnpidnbaa", sum := "9ec154c2b1680d0b4caf32beb28e12e027741e77782ee6eb52969c6e98cc073c", func := "loop.example/discretetomography/laws.FnFillImageOther", spec := "fnFillImageOther", apart := false, narrowed := true }
def FnFillImageOtherUptoSaid : Prop := fnFillImageOtherUptoRow.holds Try.pinned (OpenSpec.upto fnFillImageOtherSpec)

/-- 'laws.FnFillTurn', WHERE WHAT IT READS IS OF BULK AT MOST 1048576: true; the input reads as it did. -/
def fnFillTurnUptoRow : OpenClaim := { program := "ytehoaagnpidnbaa", sum := "9ec154c2b1680d0b4caf32beb28e12e027741e77782ee6eb52969c6e98cc073c", func := "loop.example/discretetomography/laws.FnFillTurn", spec := "fnFillTurn", unfollowed := true, recurses := true, apart := false, narrowed := true }
def FnFillTurnUptoSaid : Prop := fnFillTurnUptoRow.holds Try.pinned (OpenSpec.upto fnFillTurnSpec)

end Rows
end Go.Proofs.Ytehoaagnpidnbaa
