/-
  No cell of these rows narrows 'for every input' (looked for: loops, veiled, ifaces, maps, wideKeys, modest, calm, conditions, laid).
  DERIVED. THE GIVEN ROWS OF THIS SEAT. 6 by the template 'for every input the law returns true; each argument reads behind the call as it read before'; 0 by the template 'total and deterministic' (their statements: YtlfjnaeepblhiaaTotals.lean).
  GIVEN WITH THE SEED: the statements are not yours to turn. If you find one false, say at which input.
  Laid BY PROGRAM, IN A SANDBOX (cutbox-rows.mjs): the forced cells as the released guide's own fill.sh prints them over the translation 337202b862f807bb… (all of the seat's roots in one cut). By AI agents, Wed Nov 11 2026. No macro, syntax, notation, axiom, sorry.
-/
import Derived.Test.YtlfjnaeepblhiaaChecked
import GoSem.Claim
import GoSem.ClaimJoined
import GoSem.ClaimMapViews
import Derived.JoinedTies
import Derived.KernelRfl
namespace Go.Proofs.Ytlfjnaeepblhiaa
/- THE CELL 'sum', in the pinned program and in every row, IS THE sha256 OF THE DUMP (.gsa) THAT YtlfjnaeepblhiaaProg.lean LOADS. Nothing in Lean hashes anything: it is a label: what it is worth is what the hold of that sum in a sandbox is worth. -/
noncomputable def Try.pinned : Pinned := { name := "ytlfjnaeepblhiaa", sum := "337202b862f807bb0d2b3ba7162c5f1f8a33840251b99aa11cbdf9be9d357e7b", checked := Try.checked }
namespace Rows
def none {H : Type} : Left H := { results := [], args := [] }

/-- 'laws.FnLastActivity': WHATEVER THE INPUT: true; the input reads as it did. -/
def fnLastActivitySpec : ChangeSpec := { name := "fnLastActivity", fn := fun _ => fun
  | [d] => { results := [.lit (.bool true)], args := [d] }
  | _ => none }
def fnLastActivityRow : OpenClaim := { program := "ytlfjnaeepblhiaa", sum := "337202b862f807bb0d2b3ba7162c5f1f8a33840251b99aa11cbdf9be9d357e7b", func := "loop.example/feedbridge/laws.FnLastActivity", spec := "fnLastActivity", apart := false }
def FnLastActivitySaid : Prop := fnLastActivityRow.holds Try.pinned (OpenSpec.ofChange fnLastActivitySpec)

/-- ITS FALSE NEIGHBOUR: 'it returns false'. Refute it at one input. -/
def fnLastActivityWrong : ChangeSpec := { name := "fnLastActivity", fn := fun _ => fun
  | [d] => { results := [.lit (.bool false)], args := [d] }
  | _ => none }
def FnLastActivityWrongFalsely : Prop := fnLastActivityRow.holds Try.pinned (OpenSpec.ofChange fnLastActivityWrong)

/-- 'laws.FnExactLastActivity': WHATEVER THE INPUT: true; the input reads as it did. -/
def fnExactLastActivitySpec : ChangeSpec := { name := "fnExactLastActivity", fn := fun _ => fun
  | [d1, d2] => { results := [.lit (.bool true)], args := [d1, d2] }
  | _ => none }
def fnExactLastActivityRow : OpenClaim := { program := "ytlfjnaeepblhiaa", sum := "337202b862f807bb0d2b3ba7162c5f1f8a33840251b99aa11cbdf9be9d357e7b", func := "loop.example/feedbridge/laws.FnExactLastActivity", spec := "fnExactLastActivity", apart := false }
def FnExactLastActivitySaid : Prop := fnExactLastActivityRow.holds Try.pinned (OpenSpec.ofChange fnExactLastActivitySpec)

/-- ITS FALSE NEIGHBOUR: 'it returns false'. Refute it at one input. -/
def fnExactLastActivityWrong : ChangeSpec := { name := "fnExactLastActivity", fn := fun _ => fun
  | [d1, d2] => { results := [.lit (.bool false)], args := [d1, d2] }
  | _ => none }
def FnExactLastActivityWrongFalsely : Prop := fnExactLastActivityRow.holds Try.pinned (OpenSpec.ofChange fnExactLastActivityWrong)

/-- 'laws.FnKnownKeys': WHATEVER THE INPUT: true; the input reads as it did. -/
def fnKnownKeysSpec : ChangeSpec := { name := "fnKnownKeys", fn := fun _ => fun
  | [d] => { results := [.lit (.bool true)], args := [d] }
  | _ => none }
def fnKnownKeysRow : OpenClaim := { program := "ytlfjnaeepblhiaa", sum := "337202b862f807bb0d2b3ba7162c5f1f8a33840251b99aa11cbdf9be9d357e7b", func := "loop.example/feedbridge/laws.FnKnownKeys", spec := "fnKnownKeys", unfollowed := true, recurses := true, apart := false }
def FnKnownKeysSaid : Prop := fnKnownKeysRow.holds Try.pinned (OpenSpec.ofChange fnKnownKeysSpec)

/-- ITS FALSE NEIGHBOUR: 'it returns false'. Refute it at one input. -/
def fnKnownKeysWrong : ChangeSpec := { name := "fnKnownKeys", fn := fun _ => fun
  | [d] => { results := [.lit (.bool false)], args := [d] }
  | _ => none }
def FnKnownKeysWrongFalsely : Prop := fnKnownKeysRow.holds Try.pinned (OpenSpec.ofChange fnKnownKeysWrong)

/-- 'laws.FnExactKnownKeys': WHATEVER THE INPUT: true; the input reads as it did. -/
def fnExactKnownKeysSpec : ChangeSpec := { name := "fnExactKnownKeys", fn := fun _ => fun
  | [d1, d2] => { results := [.lit (.bool true)], args := [d1, d2] }
  | _ => none }
def fnExactKnownKeysRow : OpenClaim := { program := "ytlfjnaeepblhiaa", sum := "337202b862f807bb0d2b3ba7162c5f1f8a33840251b99aa11cbdf9be9d357e7b", func := "loop.example/feedbridge/laws.FnExactKnownKeys", spec := "fnExactKnownKeys", unfollowed := true, recurses := true, apart := false }
def FnExactKnownKeysSaid : Prop := fnExactKnownKeysRow.holds Try.pinned (OpenSpec.ofChange fnExactKnownKeysSpec)

/-- ITS FALSE NEIGHBOUR: 'it returns false'. Refute it at one input. -/
def fnExactKnownKeysWrong : ChangeSpec := { name := "fnExactKnownKeys", fn := fun _ => fun
  | [d1, d2] => { results := [.lit (.bool false)], args := [d1, d2] }
  | _ => none }
def FnExactKnownKeysWrongFalsely : Prop := fnExactKnownKeysRow.holds Try.pinned (OpenSpec.ofChange fnExactKnownKeysWrong)

/-- 'laws.FnTellChanges': WHATEVER THE INPUT: true; the input reads as it did. -/
def fnTellChangesSpec : ChangeSpec := { name := "fnTellChanges", fn := fun _ => fun
  | [d] => { results := [.lit (.bool true)], args := [d] }
  | _ => none }
def fnTellChangesRow : OpenClaim := { program := "ytlfjnaeepblhiaa", sum := "337202b862f807bb0d2b3ba7162c5f1f8a33840251b99aa11cbdf9be9d357e7b", func := "loop.example/feedbridge/laws.FnTellChanges", spec := "fnTellChanges", unfollowed := true, recurses := true, apart := false }
def FnTellChangesSaid : Prop := fnTellChangesRow.holds Try.pinned (OpenSpec.ofChange fnTellChangesSpec)

/-- ITS FALSE NEIGHBOUR: 'it returns false'. Refute it at one input. -/
def fnTellChangesWrong : ChangeSpec := { name := "fnTellChanges", fn := fun _ => fun
  | [d] => { results := [.lit (.bool false)], args := [d] }
  | _ => none }
def FnTellChangesWrongFalsely : Prop := fnTellChangesRow.holds Try.pinned (OpenSpec.ofChange fnTellChangesWrong)

/-- 'laws.FnExactTellChanges': WHATEVER THE INPUT: true; the input reads as it did. -/
def fnExactTellChangesSpec : ChangeSpec := { name := "fnExactTellChanges", fn := fun _ => fun
  | [d1, d2, d3, d4] => { results := [.lit (.bool true)], args := [d1, d2, d3, d4] }
  | _ => none }
def fnExactTellChangesRow : OpenClaim := { program := "ytlfjnaeepblhiaa", sum := "337202b862f807bb0d2b3ba7162c5f1f8a33840251b99aa11cbdf9be9d357e7b", func := "loop.example/feedbridge/laws.FnExactTellChanges", spec := "fnExactTellChanges", unfollowed := true, recurses := true, apart := false }
def FnExactTellChangesSaid : Prop := fnExactTellChangesRow.holds Try.pinned (OpenSpec.ofChange fnExactTellChangesSpec)

/-- ITS FALSE NEIGHBOUR: 'it returns false'. Refute it at one input. -/
def fnExactTellChangesWrong : ChangeSpec := { name := "fnExactTellChanges", fn := fun _ => fun
  | [d1, d2, d3, d4] => { results := [.lit (.bool false)], args := [d1, d2, d3, d4] }
  | _ => none }
def FnExactTellChangesWrongFalsely : Prop := fnExactTellChangesRow.holds Try.pinned (OpenSpec.ofChange fnExactTellChangesWrong)

/- THE SECOND FORM. 'bulk': how many values and letters a reading holds, each counted each time it is reached (what is shared counts as often as it is met; a slice's spare places count too). A statement '..UptoSaid' is the law's where the arguments, and the package variables that the reading takes, are together of bulk at most 1048576: NARROWER than '..Said'. Prove '..Said' where nothing that the law and all that it calls make is longer than what came in: it says more and counts as full. Else prove '..UptoSaid'. A law counts once. -/
mutual
def uptoBulk {H : Type} : DataW H → Nat
  | .lit (.string bytes) => bytes.length + 1
  | .lit _ => 1
  | .nil => 1
  | .ptr d => uptoBulk d + 1
  | .slice elems spare => uptoBulkAll elems + uptoBulkAll spare + 1
  | .agg parts => uptoBulkAll parts + 1
  | .iface _ d => uptoBulk d + 1
  | .map entries => uptoBulkEntries entries + 1
  | .held _ => 1
def uptoBulkAll {H : Type} : List (DataW H) → Nat
  | [] => 0
  | d :: r => uptoBulk d + uptoBulkAll r
def uptoBulkEntries {H : Type} : List (Lit × DataW H) → Nat
  | [] => 0
  | x :: r => uptoBulkEntry x + uptoBulkEntries r
def uptoBulkEntry {H : Type} : Lit × DataW H → Nat
  | (.string bytes, d) => bytes.length + uptoBulk d + 1
  | (_, d) => uptoBulk d + 1
 end
def uptoSmall : (H : Type) → List (DataW H) → Bool := fun _ ds => decide (uptoBulkAll ds ≤ 1048576)
def OpenSpec.upto (s : _root_.Go.ChangeSpec) : _root_.Go.OpenSpec := { _root_.Go.OpenSpec.ofChange s with cond := some uptoSmall }

/-- 'laws.FnLastActivity', WHERE WHAT IT READS IS OF BULK AT MOST 1048576: true; the input reads as it did. -/
def fnLastActivityUptoRow : OpenClaim := { program := "ytlfjnaeepblhiaa", sum := "337202b862f807bb0d2b3ba7162c5f1f8a33840251b99aa11cbdf9be9d357e7b", func := "loop.example/feedbridge/laws.FnLastActivity", spec := "fnLastActivity", apart := false, narrowed := true }
def FnLastActivityUptoSaid : Prop := fnLastActivityUptoRow.holds Try.pinned (OpenSpec.upto fnLastActivitySpec)

/-- 'laws.FnExactLastActivity', WHERE WHAT IT READS IS OF BULK AT MOST 1048576: true; the input reads as it did. -/
def fnExactLastActivityUptoRow : OpenClaim := { program := "ytlfjnaeepblhiaa", sum := "337202b862f807bb0d2b3ba7162c5f1f8a33840251b99aa11cbdf9be9d357e7b", func := "loop.example/feedbridge/laws.FnExactLastActivity", spec := "fnExactLastActivity", apart := false, narrowed := true }
def FnExactLastActivityUptoSaid : Prop := fnExactLastActivityUptoRow.holds Try.pinned (OpenSpec.upto fnExactLastActivitySpec)

/-- 'laws.FnKnownKeys', WHERE WHAT IT READS IS OF BULK AT MOST 1048576: true; the input reads as it did. -/
def fnKnownKeysUptoRow : OpenClaim := { program := "ytlfjnaeepblhiaa", sum := "337202b862f807bb0d2b3ba7162c5f1f8a33840251b99aa11cbdf9be9d357e7b", func := "loop.example/feedbridge/laws.FnKnownKeys", spec := "fnKnownKeys", unfollowed := true, recurses := true, apart := false, narrowed := true }
def FnKnownKeysUptoSaid : Prop := fnKnownKeysUptoRow.holds Try.pinned (OpenSpec.upto fnKnownKeysSpec)

/-- 'laws.FnExactKnownKeys', WHERE WHAT IT READS IS OF BULK AT MOST 1048576: true; the input reads as it did. -/
def fnExactKnownKeysUptoRow : OpenClaim := { program := "ytlfjnaeepblhiaa", sum := "337202b862f807bb0d2b3ba7162c5f1f8a33840251b99aa11cbdf9be9d357e7b", func := "loop.example/feedbridge/laws.FnExactKnownKeys", spec := "fnExactKnownKeys", unfollowed := true, recurses := true, apart := false, narrowed := true }
def FnExactKnownKeysUptoSaid : Prop := fnExactKnownKeysUptoRow.holds Try.pinned (OpenSpec.upto fnExactKnownKeysSpec)

/-- 'laws.FnTellChanges', WHERE WHAT IT READS IS OF BULK AT MOST 1048576: true; the input reads as it did. -/
def fnTellChangesUptoRow : OpenClaim := { program := "ytlfjnaeepblhiaa", sum := "337202b862f807bb0d2b3ba7162c5f1f8a33840251b99aa11cbdf9be9d357e7b", func := "loop.example/feedbridge/laws.FnTellChanges", spec := "fnTellChanges", unfollowed := true, recurses := true, apart := false, narrowed := true }
def FnTellChangesUptoSaid : Prop := fnTellChangesUptoRow.holds Try.pinned (OpenSpec.upto fnTellChangesSpec)

/-- 'laws.FnExactTellChanges', WHERE WHAT IT READS IS OF BULK AT MOST 1048576: true; the input reads as it did. -/
def fnExactTellChangesUptoRow : OpenClaim := { program := "ytlfjnaeepblhiaa", sum := "337202b862f807bb0d2b3ba7162c5f1f8a33840251b99aa11cbdf9be9d357e7b", func := "loop.example/feedbridge/laws.FnExactTellChanges", spec := "fnExactTellChanges", unfollowed := true, recurses := true, apart := false, narrowed := true }
def FnExactTellChangesUptoSaid : Prop := fnExactTellChangesUptoRow.holds Try.pinned (OpenSpec.upto fnExactTellChangesSpec)

end Rows
end Go.Proofs.Ytlfjnaeepblhiaa
