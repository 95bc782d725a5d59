/-
  No cell of these rows narrows 'for every input' (looked for: loops, veiled, ifaces, maps, wideKeys, modest, calm, conditions, laid).
  DERIVED. THE GIVEN ROWS OF THIS SEAT. 12 by the template 'for every input the law returns true; each argument reads behind the call as it read before'; 0 by the template 'total and deterministic' (their statements: YtocaopabpjfhhaaTotals.lean).
  GIVEN WITH THE SEED: the statements are not yours to turn. If you find one false, say at which input.
  Laid BY PROGRAM, IN A SANDBOX (cutbox-rows.mjs): the forced cells as the released guide's own fill.sh prints them over the translation 894b495b0facbc21… (all of the seat's roots in one cut). By AI agents, Wed Nov 11 2026. No macro, syntax, notation, axiom, sorry.
-/
import Derived.Test.YtocaopabpjfhhaaChecked
import GoSem.Claim
import GoSem.ClaimJoined
import GoSem.ClaimMapViews
import Derived.JoinedTies
import Derived.KernelRfl
namespace Go.Proofs.Ytocaopabpjfhhaa
/- THE CELL 'sum', in the pinned program and in every row, IS THE sha256 OF THE DUMP (.gsa) THAT YtocaopabpjfhhaaProg.lean LOADS. Nothing in Lean hashes anything: it is a label: what it is worth is what the hold of that sum in a sandbox is worth. -/
noncomputable def Try.pinned : Pinned := { name := "ytocaopabpjfhhaa", sum := "894b495b0facbc212259633a64cf0bda8b92d17501eaa0b553389e73e8e26238", checked := Try.checked }
namespace Rows
def none {H : Type} : Left H := { results := [], args := [] }

/-- 'laws.FnExactPauseAfter': WHATEVER THE INPUT: true; the input reads as it did. -/
def fnExactPauseAfterSpec : ChangeSpec := { name := "fnExactPauseAfter", fn := fun _ => fun
  | [d] => { results := [.lit (.bool true)], args := [d] }
  | _ => none }
def fnExactPauseAfterRow : OpenClaim := { program := "ytocaopabpjfhhaa", sum := "894b495b0facbc212259633a64cf0bda8b92d17501eaa0b553389e73e8e26238", func := "loop.example/feedbridge/laws.FnExactPauseAfter", spec := "fnExactPauseAfter", apart := false }
def FnExactPauseAfterSaid : Prop := fnExactPauseAfterRow.holds Try.pinned (OpenSpec.ofChange fnExactPauseAfterSpec)

/-- ITS FALSE NEIGHBOUR: 'it returns false'. Refute it at one input. -/
def fnExactPauseAfterWrong : ChangeSpec := { name := "fnExactPauseAfter", fn := fun _ => fun
  | [d] => { results := [.lit (.bool false)], args := [d] }
  | _ => none }
def FnExactPauseAfterWrongFalsely : Prop := fnExactPauseAfterRow.holds Try.pinned (OpenSpec.ofChange fnExactPauseAfterWrong)

/-- 'laws.FnExactCursorText': WHATEVER THE INPUT: true; the input reads as it did. -/
def fnExactCursorTextSpec : ChangeSpec := { name := "fnExactCursorText", fn := fun _ => fun
  | [d1, d2] => { results := [.lit (.bool true)], args := [d1, d2] }
  | _ => none }
def fnExactCursorTextRow : OpenClaim := { program := "ytocaopabpjfhhaa", sum := "894b495b0facbc212259633a64cf0bda8b92d17501eaa0b553389e73e8e26238", func := "loop.example/feedbridge/laws.FnExactCursorText", spec := "fnExactCursorText", apart := false }
def FnExactCursorTextSaid : Prop := fnExactCursorTextRow.holds Try.pinned (OpenSpec.ofChange fnExactCursorTextSpec)

/-- ITS FALSE NEIGHBOUR: 'it returns false'. Refute it at one input. -/
def fnExactCursorTextWrong : ChangeSpec := { name := "fnExactCursorText", fn := fun _ => fun
  | [d1, d2] => { results := [.lit (.bool false)], args := [d1, d2] }
  | _ => none }
def FnExactCursorTextWrongFalsely : Prop := fnExactCursorTextRow.holds Try.pinned (OpenSpec.ofChange fnExactCursorTextWrong)

/-- 'laws.FnExactReadCursor': WHATEVER THE INPUT: true; the input reads as it did. -/
def fnExactReadCursorSpec : ChangeSpec := { name := "fnExactReadCursor", fn := fun _ => fun
  | [d1, d2] => { results := [.lit (.bool true)], args := [d1, d2] }
  | _ => none }
def fnExactReadCursorRow : OpenClaim := { program := "ytocaopabpjfhhaa", sum := "894b495b0facbc212259633a64cf0bda8b92d17501eaa0b553389e73e8e26238", func := "loop.example/feedbridge/laws.FnExactReadCursor", spec := "fnExactReadCursor", apart := false }
def FnExactReadCursorSaid : Prop := fnExactReadCursorRow.holds Try.pinned (OpenSpec.ofChange fnExactReadCursorSpec)

/-- ITS FALSE NEIGHBOUR: 'it returns false'. Refute it at one input. -/
def fnExactReadCursorWrong : ChangeSpec := { name := "fnExactReadCursor", fn := fun _ => fun
  | [d1, d2] => { results := [.lit (.bool false)], args := [d1, d2] }
  | _ => none }
def FnExactReadCursorWrongFalsely : Prop := fnExactReadCursorRow.holds Try.pinned (OpenSpec.ofChange fnExactReadCursorWrong)

/-- 'laws.FnExactPageOf': WHATEVER THE INPUT: true; the input reads as it did. -/
def fnExactPageOfSpec : ChangeSpec := { name := "fnExactPageOf", fn := fun _ => fun
  | [d1, d2, d3] => { results := [.lit (.bool true)], args := [d1, d2, d3] }
  | _ => none }
def fnExactPageOfRow : OpenClaim := { program := "ytocaopabpjfhhaa", sum := "894b495b0facbc212259633a64cf0bda8b92d17501eaa0b553389e73e8e26238", func := "loop.example/feedbridge/laws.FnExactPageOf", spec := "fnExactPageOf", apart := false }
def FnExactPageOfSaid : Prop := fnExactPageOfRow.holds Try.pinned (OpenSpec.ofChange fnExactPageOfSpec)

/-- ITS FALSE NEIGHBOUR: 'it returns false'. Refute it at one input. -/
def fnExactPageOfWrong : ChangeSpec := { name := "fnExactPageOf", fn := fun _ => fun
  | [d1, d2, d3] => { results := [.lit (.bool false)], args := [d1, d2, d3] }
  | _ => none }
def FnExactPageOfWrongFalsely : Prop := fnExactPageOfRow.holds Try.pinned (OpenSpec.ofChange fnExactPageOfWrong)

/-- 'laws.FnPauseAfter': WHATEVER THE INPUT: true; the input reads as it did. -/
def fnPauseAfterSpec : ChangeSpec := { name := "fnPauseAfter", fn := fun _ => fun
  | [d] => { results := [.lit (.bool true)], args := [d] }
  | _ => none }
def fnPauseAfterRow : OpenClaim := { program := "ytocaopabpjfhhaa", sum := "894b495b0facbc212259633a64cf0bda8b92d17501eaa0b553389e73e8e26238", func := "loop.example/feedbridge/laws.FnPauseAfter", spec := "fnPauseAfter", apart := false }
def FnPauseAfterSaid : Prop := fnPauseAfterRow.holds Try.pinned (OpenSpec.ofChange fnPauseAfterSpec)

/-- ITS FALSE NEIGHBOUR: 'it returns false'. Refute it at one input. -/
def fnPauseAfterWrong : ChangeSpec := { name := "fnPauseAfter", fn := fun _ => fun
  | [d] => { results := [.lit (.bool false)], args := [d] }
  | _ => none }
def FnPauseAfterWrongFalsely : Prop := fnPauseAfterRow.holds Try.pinned (OpenSpec.ofChange fnPauseAfterWrong)

/-- 'laws.FnCursorText': WHATEVER THE INPUT: true; the input reads as it did. -/
def fnCursorTextSpec : ChangeSpec := { name := "fnCursorText", fn := fun _ => fun
  | [d] => { results := [.lit (.bool true)], args := [d] }
  | _ => none }
def fnCursorTextRow : OpenClaim := { program := "ytocaopabpjfhhaa", sum := "894b495b0facbc212259633a64cf0bda8b92d17501eaa0b553389e73e8e26238", func := "loop.example/feedbridge/laws.FnCursorText", spec := "fnCursorText", apart := false }
def FnCursorTextSaid : Prop := fnCursorTextRow.holds Try.pinned (OpenSpec.ofChange fnCursorTextSpec)

/-- ITS FALSE NEIGHBOUR: 'it returns false'. Refute it at one input. -/
def fnCursorTextWrong : ChangeSpec := { name := "fnCursorText", fn := fun _ => fun
  | [d] => { results := [.lit (.bool false)], args := [d] }
  | _ => none }
def FnCursorTextWrongFalsely : Prop := fnCursorTextRow.holds Try.pinned (OpenSpec.ofChange fnCursorTextWrong)

/-- 'laws.FnPageOf': WHATEVER THE INPUT: true; the input reads as it did. -/
def fnPageOfSpec : ChangeSpec := { name := "fnPageOf", fn := fun _ => fun
  | [d] => { results := [.lit (.bool true)], args := [d] }
  | _ => none }
def fnPageOfRow : OpenClaim := { program := "ytocaopabpjfhhaa", sum := "894b495b0facbc212259633a64cf0bda8b92d17501eaa0b553389e73e8e26238", func := "loop.example/feedbridge/laws.FnPageOf", spec := "fnPageOf", apart := false }
def FnPageOfSaid : Prop := fnPageOfRow.holds Try.pinned (OpenSpec.ofChange fnPageOfSpec)

/-- ITS FALSE NEIGHBOUR: 'it returns false'. Refute it at one input. -/
def fnPageOfWrong : ChangeSpec := { name := "fnPageOf", fn := fun _ => fun
  | [d] => { results := [.lit (.bool false)], args := [d] }
  | _ => none }
def FnPageOfWrongFalsely : Prop := fnPageOfRow.holds Try.pinned (OpenSpec.ofChange fnPageOfWrong)

/-- 'laws.FnExactPagesOf': WHATEVER THE INPUT: true; the input reads as it did. -/
def fnExactPagesOfSpec : ChangeSpec := { name := "fnExactPagesOf", fn := fun _ => fun
  | [d1, d2] => { results := [.lit (.bool true)], args := [d1, d2] }
  | _ => none }
def fnExactPagesOfRow : OpenClaim := { program := "ytocaopabpjfhhaa", sum := "894b495b0facbc212259633a64cf0bda8b92d17501eaa0b553389e73e8e26238", func := "loop.example/feedbridge/laws.FnExactPagesOf", spec := "fnExactPagesOf", apart := false }
def FnExactPagesOfSaid : Prop := fnExactPagesOfRow.holds Try.pinned (OpenSpec.ofChange fnExactPagesOfSpec)

/-- ITS FALSE NEIGHBOUR: 'it returns false'. Refute it at one input. -/
def fnExactPagesOfWrong : ChangeSpec := { name := "fnExactPagesOf", fn := fun _ => fun
  | [d1, d2] => { results := [.lit (.bool false)], args := [d1, d2] }
  | _ => none }
def FnExactPagesOfWrongFalsely : Prop := fnExactPagesOfRow.holds Try.pinned (OpenSpec.ofChange fnExactPagesOfWrong)

/-- 'laws.FnReadCursor': WHATEVER THE INPUT: true; the input reads as it did. -/
def fnReadCursorSpec : ChangeSpec := { name := "fnReadCursor", fn := fun _ => fun
  | [d] => { results := [.lit (.bool true)], args := [d] }
  | _ => none }
def fnReadCursorRow : OpenClaim := { program := "ytocaopabpjfhhaa", sum := "894b495b0facbc212259633a64cf0bda8b92d17501eaa0b553389e73e8e26238", func := "loop.example/feedbridge/laws.FnReadCursor", spec := "fnReadCursor", apart := false }
def FnReadCursorSaid : Prop := fnReadCursorRow.holds Try.pinned (OpenSpec.ofChange fnReadCursorSpec)

/-- ITS FALSE NEIGHBOUR: 'it returns false'. Refute it at one input. -/
def fnReadCursorWrong : ChangeSpec := { name := "fnReadCursor", fn := fun _ => fun
  | [d] => { results := [.lit (.bool false)], args := [d] }
  | _ => none }
def FnReadCursorWrongFalsely : Prop := fnReadCursorRow.holds Try.pinned (OpenSpec.ofChange fnReadCursorWrong)

/-- 'laws.FnDeliveriesValid': WHATEVER THE INPUT: true; the input reads as it did. -/
def fnDeliveriesValidSpec : ChangeSpec := { name := "fnDeliveriesValid", fn := fun _ => fun
  | [d] => { results := [.lit (.bool true)], args := [d] }
  | _ => none }
def fnDeliveriesValidRow : OpenClaim := { program := "ytocaopabpjfhhaa", sum := "894b495b0facbc212259633a64cf0bda8b92d17501eaa0b553389e73e8e26238", func := "loop.example/feedbridge/laws.FnDeliveriesValid", spec := "fnDeliveriesValid", apart := false }
def FnDeliveriesValidSaid : Prop := fnDeliveriesValidRow.holds Try.pinned (OpenSpec.ofChange fnDeliveriesValidSpec)

/-- ITS FALSE NEIGHBOUR: 'it returns false'. Refute it at one input. -/
def fnDeliveriesValidWrong : ChangeSpec := { name := "fnDeliveriesValid", fn := fun _ => fun
  | [d] => { results := [.lit (.bool false)], args := [d] }
  | _ => none }
def FnDeliveriesValidWrongFalsely : Prop := fnDeliveriesValidRow.holds Try.pinned (OpenSpec.ofChange fnDeliveriesValidWrong)

/-- 'laws.FnExactDeliveriesValid': WHATEVER THE INPUT: true; the input reads as it did. -/
def fnExactDeliveriesValidSpec : ChangeSpec := { name := "fnExactDeliveriesValid", fn := fun _ => fun
  | [d] => { results := [.lit (.bool true)], args := [d] }
  | _ => none }
def fnExactDeliveriesValidRow : OpenClaim := { program := "ytocaopabpjfhhaa", sum := "894b495b0facbc212259633a64cf0bda8b92d17501eaa0b553389e73e8e26238", func := "loop.example/feedbridge/laws.FnExactDeliveriesValid", spec := "fnExactDeliveriesValid", apart := false }
def FnExactDeliveriesValidSaid : Prop := fnExactDeliveriesValidRow.holds Try.pinned (OpenSpec.ofChange fnExactDeliveriesValidSpec)

/-- ITS FALSE NEIGHBOUR: 'it returns false'. Refute it at one input. -/
def fnExactDeliveriesValidWrong : ChangeSpec := { name := "fnExactDeliveriesValid", fn := fun _ => fun
  | [d] => { results := [.lit (.bool false)], args := [d] }
  | _ => none }
def FnExactDeliveriesValidWrongFalsely : Prop := fnExactDeliveriesValidRow.holds Try.pinned (OpenSpec.ofChange fnExactDeliveriesValidWrong)

/-- 'laws.FnPagesOf': WHATEVER THE INPUT: true; the input reads as it did. -/
def fnPagesOfSpec : ChangeSpec := { name := "fnPagesOf", fn := fun _ => fun
  | [d] => { results := [.lit (.bool true)], args := [d] }
  | _ => none }
def fnPagesOfRow : OpenClaim := { program := "ytocaopabpjfhhaa", sum := "894b495b0facbc212259633a64cf0bda8b92d17501eaa0b553389e73e8e26238", func := "loop.example/feedbridge/laws.FnPagesOf", spec := "fnPagesOf", apart := false }
def FnPagesOfSaid : Prop := fnPagesOfRow.holds Try.pinned (OpenSpec.ofChange fnPagesOfSpec)

/-- ITS FALSE NEIGHBOUR: 'it returns false'. Refute it at one input. -/
def fnPagesOfWrong : ChangeSpec := { name := "fnPagesOf", fn := fun _ => fun
  | [d] => { results := [.lit (.bool false)], args := [d] }
  | _ => none }
def FnPagesOfWrongFalsely : Prop := fnPagesOfRow.holds Try.pinned (OpenSpec.ofChange fnPagesOfWrong)

/- THE SECOND FORM. 'bulk': how many values and letters a reading holds, each counted each time it is reached (what is shared counts as often as it is met; a slice's spare places count too). A statement '..UptoSaid' is the law's where the arguments, and the package variables that the reading takes, are together of bulk at most 1048576: NARROWER than '..Said'. Prove '..Said' where nothing that the law and all that it calls make is longer than what came in: it says more and counts as full. Else prove '..UptoSaid'. A law counts once. -/
mutual
def uptoBulk {H : Type} : DataW H → Nat
  | .lit (.string bytes) => bytes.length + 1
  | .lit _ => 1
  | .nil => 1
  | .ptr d => uptoBulk d + 1
  | .slice elems spare => uptoBulkAll elems + uptoBulkAll spare + 1
  | .agg parts => uptoBulkAll parts + 1
  | .iface _ d => uptoBulk d + 1
  | .map entries => uptoBulkEntries entries + 1
  | .held _ => 1
def uptoBulkAll {H : Type} : List (DataW H) → Nat
  | [] => 0
  | d :: r => uptoBulk d + uptoBulkAll r
def uptoBulkEntries {H : Type} : List (Lit × DataW H) → Nat
  | [] => 0
  | x :: r => uptoBulkEntry x + uptoBulkEntries r
def uptoBulkEntry {H : Type} : Lit × DataW H → Nat
  | (.string bytes, d) => bytes.length + uptoBulk d + 1
  | (_, d) => uptoBulk d + 1
 end
def uptoSmall : (H : Type) → List (DataW H) → Bool := fun _ ds => decide (uptoBulkAll ds ≤ 1048576)
def OpenSpec.upto (s : _root_.Go.ChangeSpec) : _root_.Go.OpenSpec := { _root_.Go.OpenSpec.ofChange s with cond := some uptoSmall }

/-- 'laws.FnExactPauseAfter', WHERE WHAT IT READS IS OF BULK AT MOST 1048576: true; the input reads as it did. -/
def fnExactPauseAfterUptoRow : OpenClaim := { program := "ytocaopabpjfhhaa", sum := "894b495b0facbc212259633a64cf0bda8b92d17501eaa0b553389e73e8e26238", func := "loop.example/feedbridge/laws.FnExactPauseAfter", spec := "fnExactPauseAfter", apart := false, narrowed := true }
def FnExactPauseAfterUptoSaid : Prop := fnExactPauseAfterUptoRow.holds Try.pinned (OpenSpec.upto fnExactPauseAfterSpec)

/-- 'laws.FnExactCursorText', WHERE WHAT IT READS IS OF BULK AT MOST 1048576: true; the input reads as it did. -/
def fnExactCursorTextUptoRow : OpenClaim := { program := "ytocaopabpjfhhaa", sum := "894b495b0facbc212259633a64cf0bda8b92d17501eaa0b553389e73e8e26238", func := "loop.example/feedbridge/laws.FnExactCursorText", spec := "fnExactCursorText", apart := false, narrowed := true }
def FnExactCursorTextUptoSaid : Prop := fnExactCursorTextUptoRow.holds Try.pinned (OpenSpec.upto fnExactCursorTextSpec)

/-- 'laws.FnExactReadCursor', WHERE WHAT IT READS IS OF BULK AT MOST 1048576: true; the input reads as it did. -/
def fnExactReadCursorUptoRow : OpenClaim := { program := "ytocaopabpjfhhaa", sum := "894b495b0facbc212259633a64cf0bda8b92d17501eaa0b553389e73e8e26238", func := "loop.example/feedbridge/laws.FnExactReadCursor", spec := "fnExactReadCursor", apart := false, narrowed := true }
def FnExactReadCursorUptoSaid : Prop := fnExactReadCursorUptoRow.holds Try.pinned (OpenSpec.upto fnExactReadCursorSpec)

/-- 'laws.FnExactPageOf', WHERE WHAT IT READS IS OF BULK AT MOST 1048576: true; the input reads as it did. -/
def fnExactPageOfUptoRow : OpenClaim := { program := "ytocaopabpjfhhaa", sum := "894b495b0facbc212259633a64cf0bda8b92d17501eaa0b553389e73e8e26238", func := "loop.example/feedbridge/laws.FnExactPageOf", spec := "fnExactPageOf", apart := false, narrowed := true }
def FnExactPageOfUptoSaid : Prop := fnExactPageOfUptoRow.holds Try.pinned (OpenSpec.upto fnExactPageOfSpec)

/-- 'laws.FnPauseAfter', WHERE WHAT IT READS IS OF BULK AT MOST 1048576: true; the input reads as it did. -/
def fnPauseAfterUptoRow : OpenClaim := { program := "ytocaopabpjfhhaa", sum := "894b495b0facbc212259633a64cf0bda8b92d17501eaa0b553389e73e8e26238", func := "loop.example/feedbridge/laws.FnPauseAfter", spec := "fnPauseAfter", apart := false, narrowed := true }
def FnPauseAfterUptoSaid : Prop := fnPauseAfterUptoRow.holds Try.pinned (OpenSpec.upto fnPauseAfterSpec)

/-- 'laws.FnCursorText', WHERE WHAT IT READS IS OF BULK AT MOST 1048576: true; the input reads as it did. -/
def fnCursorTextUptoRow : OpenClaim := { program := "ytocaopabpjfhhaa", sum := "894b495b0facbc212259633a64cf0bda8b92d17501eaa0b553389e73e8e26238", func := "loop.example/feedbridge/laws.FnCursorText", spec := "fnCursorText", apart := false, narrowed := true }
def FnCursorTextUptoSaid : Prop := fnCursorTextUptoRow.holds Try.pinned (OpenSpec.upto fnCursorTextSpec)

/-- 'laws.FnPageOf', WHERE WHAT IT READS IS OF BULK AT MOST 1048576: true; the input reads as it did. -/
def fnPageOfUptoRow : OpenClaim := { program := "ytocaopabpjfhhaa", sum := "894b495b0facbc212259633a64cf0bda8b92d17501eaa0b553389e73e8e26238", func := "loop.example/feedbridge/laws.FnPageOf", spec := "fnPageOf", apart := false, narrowed := true }
def FnPageOfUptoSaid : Prop := fnPageOfUptoRow.holds Try.pinned (OpenSpec.upto fnPageOfSpec)

/-- 'laws.FnExactPagesOf', WHERE WHAT IT READS IS OF BULK AT MOST 1048576: true; the input reads as it did. -/
def fnExactPagesOfUptoRow : OpenClaim := { program := "ytocaopabpjfhhaa", sum := "894b495b0facbc212259633a64cf0bda8b92d17501eaa0b553389e73e8e26238", func := "loop.example/feedbridge/laws.FnExactPagesOf", spec := "fnExactPagesOf", apart := false, narrowed := true }
def FnExactPagesOfUptoSaid : Prop := fnExactPagesOfUptoRow.holds Try.pinned (OpenSpec.upto fnExactPagesOfSpec)

/-- 'laws.FnReadCursor', WHERE WHAT IT READS IS OF BULK AT MOST 1048576: true; the input reads as it did. -/
def fnReadCursorUptoRow : OpenClaim := { program := "ytocaopabpjfhhaa", sum := "894b495b0facbc212259633a64cf0bda8b92d17501eaa0b553389e73e8e26238", func := "loop.example/feedbridge/laws.FnReadCursor", spec := "fnReadCursor", apart := false, narrowed := true }
def FnReadCursorUptoSaid : Prop := fnReadCursorUptoRow.holds Try.pinned (OpenSpec.upto fnReadCursorSpec)

/-- 'laws.FnDeliveriesValid', WHERE WHAT IT READS IS OF BULK AT MOST 1048576: true; the input reads as it did. -/
def fnDeliveriesValidUptoRow : OpenClaim := { program := "ytocaopabpjfhhaa", sum := "894b495b0facbc212259633a64cf0bda8b92d17501eaa0b553389e73e8e26238", func := "loop.example/feedbridge/laws.FnDeliveriesValid", spec := "fnDeliveriesValid", apart := false, narrowed := true }
def FnDeliveriesValidUptoSaid : Prop := fnDeliveriesValidUptoRow.holds Try.pinned (OpenSpec.upto fnDeliveriesValidSpec)

/-- 'laws.FnExactDeliveriesValid', WHERE WHAT IT READS IS OF BULK AT MOST 1048576: true; the input reads as it did. -/
def fnExactDeliveriesValidUptoRow : OpenClaim := { program := "ytocaopabpjfhhaa", sum := "894b495b0facbc212259633a64cf0bda8b92d17501eaa0b553389e73e8e26238", func := "loop.example/feedbridge/laws.FnExactDeliveriesValid", spec := "fnExactDeliveriesValid", apart := false, narrowed := true }
def FnExactDeliveriesValidUptoSaid : Prop := fnExactDeliveriesValidUptoRow.holds Try.pinned (OpenSpec.upto fnExactDeliveriesValidSpec)

/-- 'laws.FnPagesOf', WHERE WHAT IT READS IS OF BULK AT MOST 1048576: true; the input reads as it did. -/
def fnPagesOfUptoRow : OpenClaim := { program := "ytocaopabpjfhhaa", sum := "894b495b0facbc212259633a64cf0bda8b92d17501eaa0b553389e73e8e26238", func := "loop.example/feedbridge/laws.FnPagesOf", spec := "fnPagesOf", apart := false, narrowed := true }
def FnPagesOfUptoSaid : Prop := fnPagesOfUptoRow.holds Try.pinned (OpenSpec.upto fnPagesOfSpec)

end Rows
end Go.Proofs.Ytocaopabpjfhhaa
