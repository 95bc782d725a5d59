/-
  No cell of these rows narrows 'for every input' (looked for: loops, veiled, ifaces, maps, wideKeys, modest, calm, conditions, laid).
  DERIVED. THE GIVEN ROWS OF THIS SEAT. 3 by the template 'for every input the law returns true; each argument reads behind the call as it read before'; 0 by the template 'total and deterministic' (their statements: YtbnoonaefcogdaaTotals.lean).
  GIVEN WITH THE SEED: the statements are not yours to turn. If you find one false, say at which input.
  Laid BY PROGRAM, IN A SANDBOX (cutbox-rows.mjs): the forced cells as the released guide's own fill.sh prints them over the translation d2980f85017215c2… (all of the seat's roots in one cut). By AI agents, Wed Nov 11 2026. No macro, syntax, notation, axiom, sorry.
-/
import Derived.Test.YtbnoonaefcogdaaChecked
import GoSem.Claim
import GoSem.ClaimJoined
import GoSem.ClaimMapViews
import Derived.JoinedTies
import Derived.KernelRfl
namespace Go.Proofs.Ytbnoonaefcogdaa
/- THE CELL 'sum', in the pinned program and in every row, IS THE sha256 OF THE DUMP (.gsa) THAT YtbnoonaefcogdaaProg.lean LOADS. Nothing in Lean hashes anything: it is a label: what it is worth is what the hold of that sum in a sandbox is worth. -/
noncomputable def Try.pinned : Pinned := { name := "ytbnoonaefcogdaa", sum := "d2980f85017215c292bb470b4f137e8ca1d4e0dc74f17adbef32df16fdc789ec", checked := Try.checked }
namespace Rows
def none {H : Type} : Left H := { results := [], args := [] }

/-- 'laws.FnDeliveriesValid': WHATEVER THE INPUT: true; the input reads as it did. -/
def fnDeliveriesValidSpec : ChangeSpec := { name := "fnDeliveriesValid", fn := fun _ => fun
  | [d] => { results := [.lit (.bool true)], args := [d] }
  | _ => none }
def fnDeliveriesValidRow : OpenClaim := { program := "ytbnoonaefcogdaa", sum := "d2980f85017215c292bb470b4f137e8ca1d4e0dc74f17adbef32df16fdc789ec", func := "loop.example/feedbridge/laws.FnDeliveriesValid", spec := "fnDeliveriesValid", apart := false }
def FnDeliveriesValidSaid : Prop := fnDeliveriesValidRow.holds Try.pinned (OpenSpec.ofChange fnDeliveriesValidSpec)

/-- ITS FALSE NEIGHBOUR: 'it returns false'. Refute it at one input. -/
def fnDeliveriesValidWrong : ChangeSpec := { name := "fnDeliveriesValid", fn := fun _ => fun
  | [d] => { results := [.lit (.bool false)], args := [d] }
  | _ => none }
def FnDeliveriesValidWrongFalsely : Prop := fnDeliveriesValidRow.holds Try.pinned (OpenSpec.ofChange fnDeliveriesValidWrong)

/-- 'laws.FnExactDeliveriesValid': WHATEVER THE INPUT: true; the input reads as it did. -/
def fnExactDeliveriesValidSpec : ChangeSpec := { name := "fnExactDeliveriesValid", fn := fun _ => fun
  | [d] => { results := [.lit (.bool true)], args := [d] }
  | _ => none }
def fnExactDeliveriesValidRow : OpenClaim := { program := "ytbnoonaefcogdaa", sum := "d2980f85017215c292bb470b4f137e8ca1d4e0dc74f17adbef32df16fdc789ec", func := "loop.example/feedbridge/laws.FnExactDeliveriesValid", spec := "fnExactDeliveriesValid", apart := false }
def FnExactDeliveriesValidSaid : Prop := fnExactDeliveriesValidRow.holds Try.pinned (OpenSpec.ofChange fnExactDeliveriesValidSpec)

/-- ITS FALSE NEIGHBOUR: 'it returns false'. Refute it at one input. -/
def fnExactDeliveriesValidWrong : ChangeSpec := { name := "fnExactDeliveriesValid", fn := fun _ => fun
  | [d] => { results := [.lit (.bool false)], args := [d] }
  | _ => none }
def FnExactDeliveriesValidWrongFalsely : Prop := fnExactDeliveriesValidRow.holds Try.pinned (OpenSpec.ofChange fnExactDeliveriesValidWrong)

/-- 'laws.FnDueAt': WHATEVER THE INPUT: true; the input reads as it did. -/
def fnDueAtSpec : ChangeSpec := { name := "fnDueAt", fn := fun _ => fun
  | [d] => { results := [.lit (.bool true)], args := [d] }
  | _ => none }
def fnDueAtRow : OpenClaim := { program := "ytbnoonaefcogdaa", sum := "d2980f85017215c292bb470b4f137e8ca1d4e0dc74f17adbef32df16fdc789ec", func := "loop.example/feedbridge/laws.FnDueAt", spec := "fnDueAt", apart := false }
def FnDueAtSaid : Prop := fnDueAtRow.holds Try.pinned (OpenSpec.ofChange fnDueAtSpec)

/-- ITS FALSE NEIGHBOUR: 'it returns false'. Refute it at one input. -/
def fnDueAtWrong : ChangeSpec := { name := "fnDueAt", fn := fun _ => fun
  | [d] => { results := [.lit (.bool false)], args := [d] }
  | _ => none }
def FnDueAtWrongFalsely : Prop := fnDueAtRow.holds Try.pinned (OpenSpec.ofChange fnDueAtWrong)

/- THE SECOND FORM. 'bulk': how many values and letters a reading holds, each counted each time it is reached (what is shared counts as often as it is met; a slice's spare places count too). A statement '..UptoSaid' is the law's where the arguments, and the package variables that the reading takes, are together of bulk at most 1048576: NARROWER than '..Said'. Prove '..Said' where nothing that the law and all that it calls make is longer than what came in: it says more and counts as full. Else prove '..UptoSaid'. A law counts once. -/
mutual
def uptoBulk {H : Type} : DataW H → Nat
  | .lit (.string bytes) => bytes.length + 1
  | .lit _ => 1
  | .nil => 1
  | .ptr d => uptoBulk d + 1
  | .slice elems spare => uptoBulkAll elems + uptoBulkAll spare + 1
  | .agg parts => uptoBulkAll parts + 1
  | .iface _ d => uptoBulk d + 1
  | .map entries => uptoBulkEntries entries + 1
  | .held _ => 1
def uptoBulkAll {H : Type} : List (DataW H) → Nat
  | [] => 0
  | d :: r => uptoBulk d + uptoBulkAll r
def uptoBulkEntries {H : Type} : List (Lit × DataW H) → Nat
  | [] => 0
  | x :: r => uptoBulkEntry x + uptoBulkEntries r
def uptoBulkEntry {H : Type} : Lit × DataW H → Nat
  | (.string bytes, d) => bytes.length + uptoBulk d + 1
  | (_, d) => uptoBulk d + 1
 end
def uptoSmall : (H : Type) → List (DataW H) → Bool := fun _ ds => decide (uptoBulkAll ds ≤ 1048576)
def OpenSpec.upto (s : _root_.Go.ChangeSpec) : _root_.Go.OpenSpec := { _root_.Go.OpenSpec.ofChange s with cond := some uptoSmall }

/-- 'laws.FnDeliveriesValid', WHERE WHAT IT READS IS OF BULK AT MOST 1048576: true; the input reads as it did. -/
def fnDeliveriesValidUptoRow : OpenClaim := { program := "ytbnoonaefcogdaa", sum := "d2980f85017215c292bb470b4f137e8ca1d4e0dc74f17adbef32df16fdc789ec", func := "loop.example/feedbridge/laws.FnDeliveriesValid", spec := "fnDeliveriesValid", apart := false, narrowed := true }
def FnDeliveriesValidUptoSaid : Prop := fnDeliveriesValidUptoRow.holds Try.pinned (OpenSpec.upto fnDeliveriesValidSpec)

/-- 'laws.FnExactDeliveriesValid', WHERE WHAT IT READS IS OF BULK AT MOST 1048576: true; the input reads as it did. -/
def fnExactDeliveriesValidUptoRow : OpenClaim := { program := "ytbnoonaefcogdaa", sum := "d2980f85017215c292bb470b4f137e8ca1d4e0dc74f17adbef32df16fdc789ec", func := "loop.example/feedbridge/laws.FnExactDeliveriesValid", spec := "fnExactDeliveriesValid", apart := false, narrowed := true }
def FnExactDeliveriesValidUptoSaid : Prop := fnExactDeliveriesValidUptoRow.holds Try.pinned (OpenSpec.upto fnExactDeliveriesValidSpec)

/-- 'laws.FnDueAt', WHERE WHAT IT READS IS OF BULK AT MOST 1048576: true; the input reads as it did. -/
def fnDueAtUptoRow : OpenClaim := { program := "ytbnoonaefcogdaa", sum := "d2980f85017215c292bb470b4f137e8ca1d4e0dc74f17adbef32df16fdc789ec", func := "loop.example/feedbridge/laws.FnDueAt", spec := "fnDueAt", apart := false, narrowed := true }
def FnDueAtUptoSaid : Prop := fnDueAtUptoRow.holds Try.pinned (OpenSpec.upto fnDueAtSpec)

end Rows
end Go.Proofs.Ytbnoonaefcogdaa
