/-
  No cell of these rows narrows 'for every input' (looked for: loops, veiled, ifaces, maps, wideKeys, modest, calm, conditions, laid).
  DERIVED. THE GIVEN ROWS OF THIS SEAT. 12 by the template 'for every input the law returns true; each argument reads behind the call as it read before'; 0 by the template 'total and deterministic' (their statements: YtodofomcoolbhaaTotals.lean).
  GIVEN WITH THE SEED: the statements are not yours to turn. If you find one false, say at which input.
  Laid BY PROGRAM, IN A SANDBOX (cutbox-rows.mjs): the forced cells as the released guide's own fill.sh prints them over the translation 4c3c6c28672f1507… (all of the seat's roots in one cut). By AI agents, Wed Nov 11 2026. No macro, syntax, notation, axiom, sorry.
-/
import Derived.Test.YtodofomcoolbhaaChecked
import GoSem.Claim
import GoSem.ClaimJoined
import GoSem.ClaimMapViews
import Derived.JoinedTies
import Derived.KernelRfl
namespace Go.Proofs.Ytodofomcoolbhaa
/- THE CELL 'sum', in the pinned program and in every row, IS THE sha256 OF THE DUMP (.gsa) THAT YtodofomcoolbhaaProg.lean LOADS. Nothing in Lean hashes anything: it is a label: what it is worth is what the hold of that sum in a sandbox is worth. -/
noncomputable def Try.pinned : Pinned := { name := "ytodofomcoolbhaa", sum := "4c3c6c28672f150771fca3224a4f03f5fab1533f3b5ddb381024fa0a069b1e7c", checked := Try.checked }
namespace Rows
def none {H : Type} : Left H := { results := [], args := [] }

/-- 'laws.FnExactFillFits': WHATEVER THE INPUT: true; the input reads as it did. -/
def fnExactFillFitsSpec : ChangeSpec := { name := "fnExactFillFits", fn := fun _ => fun
  | [d1, d2, d3] => { results := [.lit (.bool true)], args := [d1, d2, d3] }
  | _ => none }
def fnExactFillFitsRow : OpenClaim := { program := "ytodofomcoolbhaa", sum := "4c3c6c28672f150771fca3224a4f03f5fab1533f3b5ddb381024fa0a069b1e7c", func := "loop.example/discretetomography/laws.FnExactFillFits", spec := "fnExactFillFits", apart := false }
def FnExactFillFitsSaid : Prop := fnExactFillFitsRow.holds Try.pinned (OpenSpec.ofChange fnExactFillFitsSpec)

/-- ITS FALSE NEIGHBOUR: 'it returns false'. Refute it at one input. -/
def fnExactFillFitsWrong : ChangeSpec := { name := "fnExactFillFits", fn := fun _ => fun
  | [d1, d2, d3] => { results := [.lit (.bool false)], args := [d1, d2, d3] }
  | _ => none }
def FnExactFillFitsWrongFalsely : Prop := fnExactFillFitsRow.holds Try.pinned (OpenSpec.ofChange fnExactFillFitsWrong)

/-- 'laws.FnFillFits': WHATEVER THE INPUT: true; the input reads as it did. -/
def fnFillFitsSpec : ChangeSpec := { name := "fnFillFits", fn := fun _ => fun
  | [d1, d2] => { results := [.lit (.bool true)], args := [d1, d2] }
  | _ => none }
def fnFillFitsRow : OpenClaim := { program := "ytodofomcoolbhaa", sum := "4c3c6c28672f150771fca3224a4f03f5fab1533f3b5ddb381024fa0a069b1e7c", func := "loop.example/discretetomography/laws.FnFillFits", spec := "fnFillFits", unfollowed := true, recurses := true, apart := false }
def FnFillFitsSaid : Prop := fnFillFitsRow.holds Try.pinned (OpenSpec.ofChange fnFillFitsSpec)

/-- ITS FALSE NEIGHBOUR: 'it returns false'. Refute it at one input. -/
def fnFillFitsWrong : ChangeSpec := { name := "fnFillFits", fn := fun _ => fun
  | [d1, d2] => { results := [.lit (.bool false)], args := [d1, d2] }
  | _ => none }
def FnFillFitsWrongFalsely : Prop := fnFillFitsRow.holds Try.pinned (OpenSpec.ofChange fnFillFitsWrong)

/-- 'laws.FnExactFillImage': WHATEVER THE INPUT: true; the input reads as it did. -/
def fnExactFillImageSpec : ChangeSpec := { name := "fnExactFillImage", fn := fun _ => fun
  | [d1, d2] => { results := [.lit (.bool true)], args := [d1, d2] }
  | _ => none }
def fnExactFillImageRow : OpenClaim := { program := "ytodofomcoolbhaa", sum := "4c3c6c28672f150771fca3224a4f03f5fab1533f3b5ddb381024fa0a069b1e7c", func := "loop.example/discretetomography/laws.FnExactFillImage", spec := "fnExactFillImage", apart := false }
def FnExactFillImageSaid : Prop := fnExactFillImageRow.holds Try.pinned (OpenSpec.ofChange fnExactFillImageSpec)

/-- ITS FALSE NEIGHBOUR: 'it returns false'. Refute it at one input. -/
def fnExactFillImageWrong : ChangeSpec := { name := "fnExactFillImage", fn := fun _ => fun
  | [d1, d2] => { results := [.lit (.bool false)], args := [d1, d2] }
  | _ => none }
def FnExactFillImageWrongFalsely : Prop := fnExactFillImageRow.holds Try.pinned (OpenSpec.ofChange fnExactFillImageWrong)

/-- 'laws.FnExactFillMost': WHATEVER THE INPUT: true; the input reads as it did. -/
def fnExactFillMostSpec : ChangeSpec := { name := "fnExactFillMost", fn := fun _ => fun
  | [d1, d2] => { results := [.lit (.bool true)], args := [d1, d2] }
  | _ => none }
def fnExactFillMostRow : OpenClaim := { program := "ytodofomcoolbhaa", sum := "4c3c6c28672f150771fca3224a4f03f5fab1533f3b5ddb381024fa0a069b1e7c", func := "loop.example/discretetomography/laws.FnExactFillMost", spec := "fnExactFillMost", unfollowed := true, recurses := true, apart := false }
def FnExactFillMostSaid : Prop := fnExactFillMostRow.holds Try.pinned (OpenSpec.ofChange fnExactFillMostSpec)

/-- ITS FALSE NEIGHBOUR: 'it returns false'. Refute it at one input. -/
def fnExactFillMostWrong : ChangeSpec := { name := "fnExactFillMost", fn := fun _ => fun
  | [d1, d2] => { results := [.lit (.bool false)], args := [d1, d2] }
  | _ => none }
def FnExactFillMostWrongFalsely : Prop := fnExactFillMostRow.holds Try.pinned (OpenSpec.ofChange fnExactFillMostWrong)

/-- 'laws.FnFillMore': WHATEVER THE INPUT: true; the input reads as it did. -/
def fnFillMoreSpec : ChangeSpec := { name := "fnFillMore", fn := fun _ => fun
  | [d1, d2] => { results := [.lit (.bool true)], args := [d1, d2] }
  | _ => none }
def fnFillMoreRow : OpenClaim := { program := "ytodofomcoolbhaa", sum := "4c3c6c28672f150771fca3224a4f03f5fab1533f3b5ddb381024fa0a069b1e7c", func := "loop.example/discretetomography/laws.FnFillMore", spec := "fnFillMore", apart := false }
def FnFillMoreSaid : Prop := fnFillMoreRow.holds Try.pinned (OpenSpec.ofChange fnFillMoreSpec)

/-- ITS FALSE NEIGHBOUR: 'it returns false'. Refute it at one input. -/
def fnFillMoreWrong : ChangeSpec := { name := "fnFillMore", fn := fun _ => fun
  | [d1, d2] => { results := [.lit (.bool false)], args := [d1, d2] }
  | _ => none }
def FnFillMoreWrongFalsely : Prop := fnFillMoreRow.holds Try.pinned (OpenSpec.ofChange fnFillMoreWrong)

/-- 'laws.FnFillImageOther': WHATEVER THE INPUT: true; the input reads as it did. -/
def fnFillImageOtherSpec : ChangeSpec := { name := "fnFillImageOther", fn := fun _ => fun
  | [d] => { results := [.lit (.bool true)], args := [d] }
  | _ => none }
def fnFillImageOtherRow : OpenClaim := { program := "ytodofomcoolbhaa", sum := "4c3c6c28672f150771fca3224a4f03f5fab1533f3b5ddb381024fa0a069b1e7c", func := "loop.example/discretetomography/laws.FnFillImageOther", spec := "fnFillImageOther", apart := false }
def FnFillImageOtherSaid : Prop := fnFillImageOtherRow.holds Try.pinned (OpenSpec.ofChange fnFillImageOtherSpec)

/-- ITS FALSE NEIGHBOUR: 'it returns false'. Refute it at one input. -/
def fnFillImageOtherWrong : ChangeSpec := { name := "fnFillImageOther", fn := fun _ => fun
  | [d] => { results := [.lit (.bool false)], args := [d] }
  | _ => none }
def FnFillImageOtherWrongFalsely : Prop := fnFillImageOtherRow.holds Try.pinned (OpenSpec.ofChange fnFillImageOtherWrong)

/-- 'laws.FnFillTurn': WHATEVER THE INPUT: true; the input reads as it did. -/
def fnFillTurnSpec : ChangeSpec := { name := "fnFillTurn", fn := fun _ => fun
  | [d] => { results := [.lit (.bool true)], args := [d] }
  | _ => none }
def fnFillTurnRow : OpenClaim := { program := "ytodofomcoolbhaa", sum := "4c3c6c28672f150771fca3224a4f03f5fab1533f3b5ddb381024fa0a069b1e7c", func := "loop.example/discretetomography/laws.FnFillTurn", spec := "fnFillTurn", unfollowed := true, recurses := true, apart := false }
def FnFillTurnSaid : Prop := fnFillTurnRow.holds Try.pinned (OpenSpec.ofChange fnFillTurnSpec)

/-- ITS FALSE NEIGHBOUR: 'it returns false'. Refute it at one input. -/
def fnFillTurnWrong : ChangeSpec := { name := "fnFillTurn", fn := fun _ => fun
  | [d] => { results := [.lit (.bool false)], args := [d] }
  | _ => none }
def FnFillTurnWrongFalsely : Prop := fnFillTurnRow.holds Try.pinned (OpenSpec.ofChange fnFillTurnWrong)

/-- 'laws.FnFillMostMore': WHATEVER THE INPUT: true; the input reads as it did. -/
def fnFillMostMoreSpec : ChangeSpec := { name := "fnFillMostMore", fn := fun _ => fun
  | [d1, d2] => { results := [.lit (.bool true)], args := [d1, d2] }
  | _ => none }
def fnFillMostMoreRow : OpenClaim := { program := "ytodofomcoolbhaa", sum := "4c3c6c28672f150771fca3224a4f03f5fab1533f3b5ddb381024fa0a069b1e7c", func := "loop.example/discretetomography/laws.FnFillMostMore", spec := "fnFillMostMore", unfollowed := true, recurses := true, apart := false }
def FnFillMostMoreSaid : Prop := fnFillMostMoreRow.holds Try.pinned (OpenSpec.ofChange fnFillMostMoreSpec)

/-- ITS FALSE NEIGHBOUR: 'it returns false'. Refute it at one input. -/
def fnFillMostMoreWrong : ChangeSpec := { name := "fnFillMostMore", fn := fun _ => fun
  | [d1, d2] => { results := [.lit (.bool false)], args := [d1, d2] }
  | _ => none }
def FnFillMostMoreWrongFalsely : Prop := fnFillMostMoreRow.holds Try.pinned (OpenSpec.ofChange fnFillMostMoreWrong)

/-- 'laws.FnFillMost': WHATEVER THE INPUT: true; the input reads as it did. -/
def fnFillMostSpec : ChangeSpec := { name := "fnFillMost", fn := fun _ => fun
  | [d] => { results := [.lit (.bool true)], args := [d] }
  | _ => none }
def fnFillMostRow : OpenClaim := { program := "ytodofomcoolbhaa", sum := "4c3c6c28672f150771fca3224a4f03f5fab1533f3b5ddb381024fa0a069b1e7c", func := "loop.example/discretetomography/laws.FnFillMost", spec := "fnFillMost", unfollowed := true, recurses := true, apart := false }
def FnFillMostSaid : Prop := fnFillMostRow.holds Try.pinned (OpenSpec.ofChange fnFillMostSpec)

/-- ITS FALSE NEIGHBOUR: 'it returns false'. Refute it at one input. -/
def fnFillMostWrong : ChangeSpec := { name := "fnFillMost", fn := fun _ => fun
  | [d] => { results := [.lit (.bool false)], args := [d] }
  | _ => none }
def FnFillMostWrongFalsely : Prop := fnFillMostRow.holds Try.pinned (OpenSpec.ofChange fnFillMostWrong)

/-- 'laws.FnFillNone': WHATEVER THE INPUT: true; the input reads as it did. -/
def fnFillNoneSpec : ChangeSpec := { name := "fnFillNone", fn := fun _ => fun
  | [d] => { results := [.lit (.bool true)], args := [d] }
  | _ => none }
def fnFillNoneRow : OpenClaim := { program := "ytodofomcoolbhaa", sum := "4c3c6c28672f150771fca3224a4f03f5fab1533f3b5ddb381024fa0a069b1e7c", func := "loop.example/discretetomography/laws.FnFillNone", spec := "fnFillNone", unfollowed := true, recurses := true, apart := false }
def FnFillNoneSaid : Prop := fnFillNoneRow.holds Try.pinned (OpenSpec.ofChange fnFillNoneSpec)

/-- ITS FALSE NEIGHBOUR: 'it returns false'. Refute it at one input. -/
def fnFillNoneWrong : ChangeSpec := { name := "fnFillNone", fn := fun _ => fun
  | [d] => { results := [.lit (.bool false)], args := [d] }
  | _ => none }
def FnFillNoneWrongFalsely : Prop := fnFillNoneRow.holds Try.pinned (OpenSpec.ofChange fnFillNoneWrong)

/-- 'laws.FnFillMostExcess': WHATEVER THE INPUT: true; the input reads as it did. -/
def fnFillMostExcessSpec : ChangeSpec := { name := "fnFillMostExcess", fn := fun _ => fun
  | [d] => { results := [.lit (.bool true)], args := [d] }
  | _ => none }
def fnFillMostExcessRow : OpenClaim := { program := "ytodofomcoolbhaa", sum := "4c3c6c28672f150771fca3224a4f03f5fab1533f3b5ddb381024fa0a069b1e7c", func := "loop.example/discretetomography/laws.FnFillMostExcess", spec := "fnFillMostExcess", unfollowed := true, recurses := true, apart := false }
def FnFillMostExcessSaid : Prop := fnFillMostExcessRow.holds Try.pinned (OpenSpec.ofChange fnFillMostExcessSpec)

/-- ITS FALSE NEIGHBOUR: 'it returns false'. Refute it at one input. -/
def fnFillMostExcessWrong : ChangeSpec := { name := "fnFillMostExcess", fn := fun _ => fun
  | [d] => { results := [.lit (.bool false)], args := [d] }
  | _ => none }
def FnFillMostExcessWrongFalsely : Prop := fnFillMostExcessRow.holds Try.pinned (OpenSpec.ofChange fnFillMostExcessWrong)

/-- 'laws.FnFillMostConsistent': WHATEVER THE INPUT: true; the input reads as it did. -/
def fnFillMostConsistentSpec : ChangeSpec := { name := "fnFillMostConsistent", fn := fun _ => fun
  | [d] => { results := [.lit (.bool true)], args := [d] }
  | _ => none }
def fnFillMostConsistentRow : OpenClaim := { program := "ytodofomcoolbhaa", sum := "4c3c6c28672f150771fca3224a4f03f5fab1533f3b5ddb381024fa0a069b1e7c", func := "loop.example/discretetomography/laws.FnFillMostConsistent", spec := "fnFillMostConsistent", unfollowed := true, recurses := true, apart := false }
def FnFillMostConsistentSaid : Prop := fnFillMostConsistentRow.holds Try.pinned (OpenSpec.ofChange fnFillMostConsistentSpec)

/-- ITS FALSE NEIGHBOUR: 'it returns false'. Refute it at one input. -/
def fnFillMostConsistentWrong : ChangeSpec := { name := "fnFillMostConsistent", fn := fun _ => fun
  | [d] => { results := [.lit (.bool false)], args := [d] }
  | _ => none }
def FnFillMostConsistentWrongFalsely : Prop := fnFillMostConsistentRow.holds Try.pinned (OpenSpec.ofChange fnFillMostConsistentWrong)

/- THE SECOND FORM. 'bulk': how many values and letters a reading holds, each counted each time it is reached (what is shared counts as often as it is met; a slice's spare places count too). A statement '..UptoSaid' is the law's where the arguments, and the package variables that the reading takes, are together of bulk at most 1048576: NARROWER than '..Said'. Prove '..Said' where nothing that the law and all that it calls make is longer than what came in: it says more and counts as full. Else prove '..UptoSaid'. A law counts once. -/
mutual
def uptoBulk {H : Type} : DataW H → Nat
  | .lit (.string bytes) => bytes.length + 1
  | .lit _ => 1
  | .nil => 1
  | .ptr d => uptoBulk d + 1
  | .slice elems spare => uptoBulkAll elems + uptoBulkAll spare + 1
  | .agg parts => uptoBulkAll parts + 1
  | .iface _ d => uptoBulk d + 1
  | .map entries => uptoBulkEntries entries + 1
  | .held _ => 1
def uptoBulkAll {H : Type} : List (DataW H) → Nat
  | [] => 0
  | d :: r => uptoBulk d + uptoBulkAll r
def uptoBulkEntries {H : Type} : List (Lit × DataW H) → Nat
  | [] => 0
  | x :: r => uptoBulkEntry x + uptoBulkEntries r
def uptoBulkEntry {H : Type} : Lit × DataW H → Nat
  | (.string bytes, d) => bytes.length + uptoBulk d + 1
  | (_, d) => uptoBulk d + 1
 end
def uptoSmall : (H : Type) → List (DataW H) → Bool := fun _ ds => decide (uptoBulkAll ds ≤ 1048576)
def OpenSpec.upto (s : _root_.Go.ChangeSpec) : _root_.Go.OpenSpec := { _root_.Go.OpenSpec.ofChange s with cond := some uptoSmall }

/-- 'laws.FnExactFillFits', WHERE WHAT IT READS IS OF BULK AT MOST 1048576: true; the input reads as it did. -/
def fnExactFillFitsUptoRow : OpenClaim := { program := "ytodofomcoolbhaa", sum := "4c3c6c28672f150771fca3224a4f03f5fab1533f3b5ddb381024fa0a069b1e7c", func := "loop.example/discretetomography/laws.FnExactFillFits", spec := "fnExactFillFits", apart := false, narrowed := true }
def FnExactFillFitsUptoSaid : Prop := fnExactFillFitsUptoRow.holds Try.pinned (OpenSpec.upto fnExactFillFitsSpec)

/-- 'laws.FnFillFits', WHERE WHAT IT READS IS OF BULK AT MOST 1048576: true; the input reads as it did. -/
def fnFillFitsUptoRow : OpenClaim := { program := "ytodofomcoolbhaa", sum := "4c3c6c28672f150771fca3224a4f03f5fab1533f3b5ddb381024fa0a069b1e7c", func := "loop.example/discretetomography/laws.FnFillFits", spec := "fnFillFits", unfollowed := true, recurses := true, apart := false, narrowed := true }
def FnFillFitsUptoSaid : Prop := fnFillFitsUptoRow.holds Try.pinned (OpenSpec.upto fnFillFitsSpec)

/-- 'laws.FnExactFillImage', WHERE WHAT IT READS IS OF BULK AT MOST 1048576: true; the input reads as it did. -/
def fnExactFillImageUptoRow : OpenClaim := { program := "ytodofomcoolbhaa", sum := "4c3c6c28672f150771fca3224a4f03f5fab1533f3b5ddb381024fa0a069b1e7c", func := "loop.example/discretetomography/laws.FnExactFillImage", spec := "fnExactFillImage", apart := false, narrowed := true }
def FnExactFillImageUptoSaid : Prop := fnExactFillImageUptoRow.holds Try.pinned (OpenSpec.upto fnExactFillImageSpec)

/-- 'laws.FnExactFillMost', WHERE WHAT IT READS IS OF BULK AT MOST 1048576: true; the input reads as it did. -/
def fnExactFillMostUptoRow : OpenClaim := { program := "ytodofomcoolbhaa", sum := "4c3c6c28672f150771fca3224a4f03f5fab1533f3b5ddb381024fa0a069b1e7c", func := "loop.example/discretetomography/laws.FnExactFillMost", spec := "fnExactFillMost", unfollowed := true, recurses := true, apart := false, narrowed := true }
def FnExactFillMostUptoSaid : Prop := fnExactFillMostUptoRow.holds Try.pinned (OpenSpec.upto fnExactFillMostSpec)

/-- 'laws.FnFillMore', WHERE WHAT IT READS IS OF BULK AT MOST 1048576: true; the input reads as it did. -/
def fnFillMoreUptoRow : OpenClaim := { program := "ytodofomcoolbhaa", sum := "4c3c6c28672f150771fca3224a4f03f5fab1533f3b5ddb381024fa0a069b1e7c", func := "loop.example/discretetomography/laws.FnFillMore", spec := "fnFillMore", apart := false, narrowed := true }
def FnFillMoreUptoSaid : Prop := fnFillMoreUptoRow.holds Try.pinned (OpenSpec.upto fnFillMoreSpec)

/-- 'laws.FnFillImageOther', WHERE WHAT IT READS IS OF BULK AT MOST 1048576: true; the input reads as it did. -/
def fnFillImageOtherUptoRow : OpenClaim := { program := "ytodofomcoolbhaa", sum := "4c3c6c28672f150771fca3224a4f03f5fab1533f3b5ddb381024fa0a069b1e7c", func := "loop.example/discretetomography/laws.FnFillImageOther", spec := "fnFillImageOther", apart := false, narrowed := true }
def FnFillImageOtherUptoSaid : Prop := fnFillImageOtherUptoRow.holds Try.pinned (OpenSpec.upto fnFillImageOtherSpec)

/-- 'laws.FnFillTurn', WHERE WHAT IT READS IS OF BULK AT MOST 1048576: true; the input reads as it did. -/
def fnFillTurnUptoRow : OpenClaim := { program := "ytodofomcoolbhaa", sum := "4c3c6c28672f150771fca3224a4f03f5fab1533f3b5ddb381024fa0a069b1e7c", func := "loop.example/discretetomography/laws.FnFillTurn", spec := "fnFillTurn", unfollowed := true, recurses := true, apart := false, narrowed := true }
def FnFillTurnUptoSaid : Prop := fnFillTurnUptoRow.holds Try.pinned (OpenSpec.upto fnFillTurnSpec)

/-- 'laws.FnFillMostMore', WHERE WHAT IT READS IS OF BULK AT MOST 1048576: true; the input reads as it did. -/
def fnFillMostMoreUptoRow : OpenClaim := { program := "ytodofomcoolbhaa", sum := "4c3c6c28672f150771fca3224a4f03f5fab1533f3b5ddb381024fa0a069b1e7c", func := "loop.example/discretetomography/laws.FnFillMostMore", spec := "fnFillMostMore", unfollowed := true, recurses := true, apart := false, narrowed := true }
def FnFillMostMoreUptoSaid : Prop := fnFillMostMoreUptoRow.holds Try.pinned (OpenSpec.upto fnFillMostMoreSpec)

/-- 'laws.FnFillMost', WHERE WHAT IT READS IS OF BULK AT MOST 1048576: true; the input reads as it did. -/
def fnFillMostUptoRow : OpenClaim := { program := "ytodofomcoolbhaa", sum := "4c3c6c28672f150771fca3224a4f03f5fab1533f3b5ddb381024fa0a069b1e7c", func := "loop.example/discretetomography/laws.FnFillMost", spec := "fnFillMost", unfollowed := true, recurses := true, apart := false, narrowed := true }
def FnFillMostUptoSaid : Prop := fnFillMostUptoRow.holds Try.pinned (OpenSpec.upto fnFillMostSpec)

/-- 'laws.FnFillNone', WHERE WHAT IT READS IS OF BULK AT MOST 1048576: true; the input reads as it did. -/
def fnFillNoneUptoRow : OpenClaim := { program := "ytodofomcoolbhaa", sum := "4c3c6c28672f150771fca3224a4f03f5fab1533f3b5ddb381024fa0a069b1e7c", func := "loop.example/discretetomography/laws.FnFillNone", spec := "fnFillNone", unfollowed := true, recurses := true, apart := false, narrowed := true }
def FnFillNoneUptoSaid : Prop := fnFillNoneUptoRow.holds Try.pinned (OpenSpec.upto fnFillNoneSpec)

/-- 'laws.FnFillMostExcess', WHERE WHAT IT READS IS OF BULK AT MOST 1048576: true; the input reads as it did. -/
def fnFillMostExcessUptoRow : OpenClaim := { program := "ytodofomcoolbhaa", sum := "4c3c6c28672f150771fca3224a4f03f5fab1533f3b5ddb381024fa0a069b1e7c", func := "loop.example/discretetomography/laws.FnFillMostExcess", spec := "fnFillMostExcess", unfollowed := true, recurses := true, apart := false, narrowed := true }
def FnFillMostExcessUptoSaid : Prop := fnFillMostExcessUptoRow.holds Try.pinned (OpenSpec.upto fnFillMostExcessSpec)

/-- 'laws.FnFillMostConsistent', WHERE WHAT IT READS IS OF BULK AT MOST 1048576: true; the input reads as it did. -/
def fnFillMostConsistentUptoRow : OpenClaim := { program := "ytodofomcoolbhaa", sum := "4c3c6c28672f150771fca3224a4f03f5fab1533f3b5ddb381024fa0a069b1e7c", func := "loop.example/discretetomography/laws.FnFillMostConsistent", spec := "fnFillMostConsistent", unfollowed := true, recurses := true, apart := false, narrowed := true }
def FnFillMostConsistentUptoSaid : Prop := fnFillMostConsistentUptoRow.holds Try.pinned (OpenSpec.upto fnFillMostConsistentSpec)

end Rows
end Go.Proofs.Ytodofomcoolbhaa
