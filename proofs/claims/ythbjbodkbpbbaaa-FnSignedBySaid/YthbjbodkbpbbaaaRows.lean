/-
  No cell of these rows narrows 'for every input' (looked for: loops, veiled, ifaces, maps, wideKeys, modest, calm, conditions, laid).
  DERIVED. THE GIVEN ROWS OF THIS SEAT. 11 by the template 'for every input the law returns true; each argument reads behind the call as it read before'; 0 by the template 'total and deterministic' (their statements: YthbjbodkbpbbaaaTotals.lean).
  GIVEN WITH THE SEED: the statements are not yours to turn. If you find one false, say at which input.
  Laid BY PROGRAM, IN A SANDBOX (cutbox-rows.mjs): the forced cells as the released guide's own fill.sh prints them over the translation 7754a8485817d1ae… (all of the seat's roots in one cut). By AI agents, Wed Nov 11 2026. No macro, syntax, notation, axiom, sorry.
-/
import Derived.Test.YthbjbodkbpbbaaaChecked
import GoSem.Claim
import GoSem.ClaimJoined
import GoSem.ClaimMapViews
import Derived.JoinedTies
import Derived.KernelRfl
namespace Go.Proofs.Ythbjbodkbpbbaaa
/- THE CELL 'sum', in the pinned program and in every row, IS THE sha256 OF THE DUMP (.gsa) THAT YthbjbodkbpbbaaaProg.lean LOADS. Nothing in Lean hashes anything: it is a label: what it is worth is what the hold of that sum in a sandbox is worth. -/
noncomputable def Try.pinned : Pinned := { name := "ythbjbodkbpbbaaa", sum := "7754a8485817d1ae969610147c8acb2c156c36cd9b55b21c928132cbc2494e85", checked := Try.checked }
namespace Rows
def none {H : Type} : Left H := { results := [], args := [] }

/-- 'laws.FnOpenNumber': WHATEVER THE INPUT: true; the input reads as it did. -/
def fnOpenNumberSpec : ChangeSpec := { name := "fnOpenNumber", fn := fun _ => fun
  | [d] => { results := [.lit (.bool true)], args := [d] }
  | _ => none }
def fnOpenNumberRow : OpenClaim := { program := "ythbjbodkbpbbaaa", sum := "7754a8485817d1ae969610147c8acb2c156c36cd9b55b21c928132cbc2494e85", func := "loop.example/feedbridge/laws.FnOpenNumber", spec := "fnOpenNumber", apart := false }
def FnOpenNumberSaid : Prop := fnOpenNumberRow.holds Try.pinned (OpenSpec.ofChange fnOpenNumberSpec)

/-- ITS FALSE NEIGHBOUR: 'it returns false'. Refute it at one input. -/
def fnOpenNumberWrong : ChangeSpec := { name := "fnOpenNumber", fn := fun _ => fun
  | [d] => { results := [.lit (.bool false)], args := [d] }
  | _ => none }
def FnOpenNumberWrongFalsely : Prop := fnOpenNumberRow.holds Try.pinned (OpenSpec.ofChange fnOpenNumberWrong)

/-- 'laws.FnExactSignatureRight': WHATEVER THE INPUT: true; the input reads as it did. -/
def fnExactSignatureRightSpec : ChangeSpec := { name := "fnExactSignatureRight", fn := fun _ => fun
  | [d] => { results := [.lit (.bool true)], args := [d] }
  | _ => none }
def fnExactSignatureRightRow : OpenClaim := { program := "ythbjbodkbpbbaaa", sum := "7754a8485817d1ae969610147c8acb2c156c36cd9b55b21c928132cbc2494e85", func := "loop.example/feedbridge/laws.FnExactSignatureRight", spec := "fnExactSignatureRight", apart := false }
def FnExactSignatureRightSaid : Prop := fnExactSignatureRightRow.holds Try.pinned (OpenSpec.ofChange fnExactSignatureRightSpec)

/-- ITS FALSE NEIGHBOUR: 'it returns false'. Refute it at one input. -/
def fnExactSignatureRightWrong : ChangeSpec := { name := "fnExactSignatureRight", fn := fun _ => fun
  | [d] => { results := [.lit (.bool false)], args := [d] }
  | _ => none }
def FnExactSignatureRightWrongFalsely : Prop := fnExactSignatureRightRow.holds Try.pinned (OpenSpec.ofChange fnExactSignatureRightWrong)

/-- 'laws.FnKeyValid': WHATEVER THE INPUT: true; the input reads as it did. -/
def fnKeyValidSpec : ChangeSpec := { name := "fnKeyValid", fn := fun _ => fun
  | [d] => { results := [.lit (.bool true)], args := [d] }
  | _ => none }
def fnKeyValidRow : OpenClaim := { program := "ythbjbodkbpbbaaa", sum := "7754a8485817d1ae969610147c8acb2c156c36cd9b55b21c928132cbc2494e85", func := "loop.example/feedbridge/laws.FnKeyValid", spec := "fnKeyValid", apart := false }
def FnKeyValidSaid : Prop := fnKeyValidRow.holds Try.pinned (OpenSpec.ofChange fnKeyValidSpec)

/-- ITS FALSE NEIGHBOUR: 'it returns false'. Refute it at one input. -/
def fnKeyValidWrong : ChangeSpec := { name := "fnKeyValid", fn := fun _ => fun
  | [d] => { results := [.lit (.bool false)], args := [d] }
  | _ => none }
def FnKeyValidWrongFalsely : Prop := fnKeyValidRow.holds Try.pinned (OpenSpec.ofChange fnKeyValidWrong)

/-- 'laws.FnExactSignNumber': WHATEVER THE INPUT: true; the input reads as it did. -/
def fnExactSignNumberSpec : ChangeSpec := { name := "fnExactSignNumber", fn := fun _ => fun
  | [d1, d2] => { results := [.lit (.bool true)], args := [d1, d2] }
  | _ => none }
def fnExactSignNumberRow : OpenClaim := { program := "ythbjbodkbpbbaaa", sum := "7754a8485817d1ae969610147c8acb2c156c36cd9b55b21c928132cbc2494e85", func := "loop.example/feedbridge/laws.FnExactSignNumber", spec := "fnExactSignNumber", apart := false }
def FnExactSignNumberSaid : Prop := fnExactSignNumberRow.holds Try.pinned (OpenSpec.ofChange fnExactSignNumberSpec)

/-- ITS FALSE NEIGHBOUR: 'it returns false'. Refute it at one input. -/
def fnExactSignNumberWrong : ChangeSpec := { name := "fnExactSignNumber", fn := fun _ => fun
  | [d1, d2] => { results := [.lit (.bool false)], args := [d1, d2] }
  | _ => none }
def FnExactSignNumberWrongFalsely : Prop := fnExactSignNumberRow.holds Try.pinned (OpenSpec.ofChange fnExactSignNumberWrong)

/-- 'laws.FnKeyModulus': WHATEVER THE INPUT: true; the input reads as it did. -/
def fnKeyModulusSpec : ChangeSpec := { name := "fnKeyModulus", fn := fun _ => fun
  | [d] => { results := [.lit (.bool true)], args := [d] }
  | _ => none }
def fnKeyModulusRow : OpenClaim := { program := "ythbjbodkbpbbaaa", sum := "7754a8485817d1ae969610147c8acb2c156c36cd9b55b21c928132cbc2494e85", func := "loop.example/feedbridge/laws.FnKeyModulus", spec := "fnKeyModulus", apart := false }
def FnKeyModulusSaid : Prop := fnKeyModulusRow.holds Try.pinned (OpenSpec.ofChange fnKeyModulusSpec)

/-- ITS FALSE NEIGHBOUR: 'it returns false'. Refute it at one input. -/
def fnKeyModulusWrong : ChangeSpec := { name := "fnKeyModulus", fn := fun _ => fun
  | [d] => { results := [.lit (.bool false)], args := [d] }
  | _ => none }
def FnKeyModulusWrongFalsely : Prop := fnKeyModulusRow.holds Try.pinned (OpenSpec.ofChange fnKeyModulusWrong)

/-- 'laws.FnSignNumber': WHATEVER THE INPUT: true; the input reads as it did. -/
def fnSignNumberSpec : ChangeSpec := { name := "fnSignNumber", fn := fun _ => fun
  | [d] => { results := [.lit (.bool true)], args := [d] }
  | _ => none }
def fnSignNumberRow : OpenClaim := { program := "ythbjbodkbpbbaaa", sum := "7754a8485817d1ae969610147c8acb2c156c36cd9b55b21c928132cbc2494e85", func := "loop.example/feedbridge/laws.FnSignNumber", spec := "fnSignNumber", apart := false }
def FnSignNumberSaid : Prop := fnSignNumberRow.holds Try.pinned (OpenSpec.ofChange fnSignNumberSpec)

/-- ITS FALSE NEIGHBOUR: 'it returns false'. Refute it at one input. -/
def fnSignNumberWrong : ChangeSpec := { name := "fnSignNumber", fn := fun _ => fun
  | [d] => { results := [.lit (.bool false)], args := [d] }
  | _ => none }
def FnSignNumberWrongFalsely : Prop := fnSignNumberRow.holds Try.pinned (OpenSpec.ofChange fnSignNumberWrong)

/-- 'laws.FnExactSignText': WHATEVER THE INPUT: true; the input reads as it did. -/
def fnExactSignTextSpec : ChangeSpec := { name := "fnExactSignText", fn := fun _ => fun
  | [d1, d2] => { results := [.lit (.bool true)], args := [d1, d2] }
  | _ => none }
def fnExactSignTextRow : OpenClaim := { program := "ythbjbodkbpbbaaa", sum := "7754a8485817d1ae969610147c8acb2c156c36cd9b55b21c928132cbc2494e85", func := "loop.example/feedbridge/laws.FnExactSignText", spec := "fnExactSignText", apart := false }
def FnExactSignTextSaid : Prop := fnExactSignTextRow.holds Try.pinned (OpenSpec.ofChange fnExactSignTextSpec)

/-- ITS FALSE NEIGHBOUR: 'it returns false'. Refute it at one input. -/
def fnExactSignTextWrong : ChangeSpec := { name := "fnExactSignText", fn := fun _ => fun
  | [d1, d2] => { results := [.lit (.bool false)], args := [d1, d2] }
  | _ => none }
def FnExactSignTextWrongFalsely : Prop := fnExactSignTextRow.holds Try.pinned (OpenSpec.ofChange fnExactSignTextWrong)

/-- 'laws.FnExactSignedBy': WHATEVER THE INPUT: true; the input reads as it did. -/
def fnExactSignedBySpec : ChangeSpec := { name := "fnExactSignedBy", fn := fun _ => fun
  | [d1, d2] => { results := [.lit (.bool true)], args := [d1, d2] }
  | _ => none }
def fnExactSignedByRow : OpenClaim := { program := "ythbjbodkbpbbaaa", sum := "7754a8485817d1ae969610147c8acb2c156c36cd9b55b21c928132cbc2494e85", func := "loop.example/feedbridge/laws.FnExactSignedBy", spec := "fnExactSignedBy", apart := false }
def FnExactSignedBySaid : Prop := fnExactSignedByRow.holds Try.pinned (OpenSpec.ofChange fnExactSignedBySpec)

/-- ITS FALSE NEIGHBOUR: 'it returns false'. Refute it at one input. -/
def fnExactSignedByWrong : ChangeSpec := { name := "fnExactSignedBy", fn := fun _ => fun
  | [d1, d2] => { results := [.lit (.bool false)], args := [d1, d2] }
  | _ => none }
def FnExactSignedByWrongFalsely : Prop := fnExactSignedByRow.holds Try.pinned (OpenSpec.ofChange fnExactSignedByWrong)

/-- 'laws.FnSignatureRight': WHATEVER THE INPUT: true; the input reads as it did. -/
def fnSignatureRightSpec : ChangeSpec := { name := "fnSignatureRight", fn := fun _ => fun
  | [d] => { results := [.lit (.bool true)], args := [d] }
  | _ => none }
def fnSignatureRightRow : OpenClaim := { program := "ythbjbodkbpbbaaa", sum := "7754a8485817d1ae969610147c8acb2c156c36cd9b55b21c928132cbc2494e85", func := "loop.example/feedbridge/laws.FnSignatureRight", spec := "fnSignatureRight", apart := false }
def FnSignatureRightSaid : Prop := fnSignatureRightRow.holds Try.pinned (OpenSpec.ofChange fnSignatureRightSpec)

/-- ITS FALSE NEIGHBOUR: 'it returns false'. Refute it at one input. -/
def fnSignatureRightWrong : ChangeSpec := { name := "fnSignatureRight", fn := fun _ => fun
  | [d] => { results := [.lit (.bool false)], args := [d] }
  | _ => none }
def FnSignatureRightWrongFalsely : Prop := fnSignatureRightRow.holds Try.pinned (OpenSpec.ofChange fnSignatureRightWrong)

/-- 'laws.FnSignText': WHATEVER THE INPUT: true; the input reads as it did. -/
def fnSignTextSpec : ChangeSpec := { name := "fnSignText", fn := fun _ => fun
  | [d] => { results := [.lit (.bool true)], args := [d] }
  | _ => none }
def fnSignTextRow : OpenClaim := { program := "ythbjbodkbpbbaaa", sum := "7754a8485817d1ae969610147c8acb2c156c36cd9b55b21c928132cbc2494e85", func := "loop.example/feedbridge/laws.FnSignText", spec := "fnSignText", apart := false }
def FnSignTextSaid : Prop := fnSignTextRow.holds Try.pinned (OpenSpec.ofChange fnSignTextSpec)

/-- ITS FALSE NEIGHBOUR: 'it returns false'. Refute it at one input. -/
def fnSignTextWrong : ChangeSpec := { name := "fnSignText", fn := fun _ => fun
  | [d] => { results := [.lit (.bool false)], args := [d] }
  | _ => none }
def FnSignTextWrongFalsely : Prop := fnSignTextRow.holds Try.pinned (OpenSpec.ofChange fnSignTextWrong)

/-- 'laws.FnSignedBy': WHATEVER THE INPUT: true; the input reads as it did. -/
def fnSignedBySpec : ChangeSpec := { name := "fnSignedBy", fn := fun _ => fun
  | [d] => { results := [.lit (.bool true)], args := [d] }
  | _ => none }
def fnSignedByRow : OpenClaim := { program := "ythbjbodkbpbbaaa", sum := "7754a8485817d1ae969610147c8acb2c156c36cd9b55b21c928132cbc2494e85", func := "loop.example/feedbridge/laws.FnSignedBy", spec := "fnSignedBy", apart := false }
def FnSignedBySaid : Prop := fnSignedByRow.holds Try.pinned (OpenSpec.ofChange fnSignedBySpec)

/-- ITS FALSE NEIGHBOUR: 'it returns false'. Refute it at one input. -/
def fnSignedByWrong : ChangeSpec := { name := "fnSignedBy", fn := fun _ => fun
  | [d] => { results := [.lit (.bool false)], args := [d] }
  | _ => none }
def FnSignedByWrongFalsely : Prop := fnSignedByRow.holds Try.pinned (OpenSpec.ofChange fnSignedByWrong)

/- THE SECOND FORM. 'bulk': how many values and letters a reading holds, each counted each time it is reached (what is shared counts as often as it is met; a slice's spare places count too). A statement '..UptoSaid' is the law's where the arguments, and the package variables that the reading takes, are together of bulk at most 1048576: NARROWER than '..Said'. Prove '..Said' where nothing that the law and all that it calls make is longer than what came in: it says more and counts as full. Else prove '..UptoSaid'. A law counts once. -/
mutual
def uptoBulk {H : Type} : DataW H → Nat
  | .lit (.string bytes) => bytes.length + 1
  | .lit _ => 1
  | .nil => 1
  | .ptr d => uptoBulk d + 1
  | .slice elems spare => uptoBulkAll elems + uptoBulkAll spare + 1
  | .agg parts => uptoBulkAll parts + 1
  | .iface _ d => uptoBulk d + 1
  | .map entries => uptoBulkEntries entries + 1
  | .held _ => 1
def uptoBulkAll {H : Type} : List (DataW H) → Nat
  | [] => 0
  | d :: r => uptoBulk d + uptoBulkAll r
def uptoBulkEntries {H : Type} : List (Lit × DataW H) → Nat
  | [] => 0
  | x :: r => uptoBulkEntry x + uptoBulkEntries r
def uptoBulkEntry {H : Type} : Lit × DataW H → Nat
  | (.string bytes, d) => bytes.length + uptoBulk d + 1
  | (_, d) => uptoBulk d + 1
 end
def uptoSmall : (H : Type) → List (DataW H) → Bool := fun _ ds => decide (uptoBulkAll ds ≤ 1048576)
def OpenSpec.upto (s : _root_.Go.ChangeSpec) : _root_.Go.OpenSpec := { _root_.Go.OpenSpec.ofChange s with cond := some uptoSmall }

/-- 'laws.FnOpenNumber', WHERE WHAT IT READS IS OF BULK AT MOST 1048576: true; the input reads as it did. -/
def fnOpenNumberUptoRow : OpenClaim := { program := "ythbjbodkbpbbaaa", sum := "7754a8485817d1ae969610147c8acb2c156c36cd9b55b21c928132cbc2494e85", func := "loop.example/feedbridge/laws.FnOpenNumber", spec := "fnOpenNumber", apart := false, narrowed := true }
def FnOpenNumberUptoSaid : Prop := fnOpenNumberUptoRow.holds Try.pinned (OpenSpec.upto fnOpenNumberSpec)

/-- 'laws.FnExactSignatureRight', WHERE WHAT IT READS IS OF BULK AT MOST 1048576: true; the input reads as it did. -/
def fnExactSignatureRightUptoRow : OpenClaim := { program := "ythbjbodkbpbbaaa", sum := "7754a8485817d1ae969610147c8acb2c156c36cd9b55b21c928132cbc2494e85", func := "loop.example/feedbridge/laws.FnExactSignatureRight", spec := "fnExactSignatureRight", apart := false, narrowed := true }
def FnExactSignatureRightUptoSaid : Prop := fnExactSignatureRightUptoRow.holds Try.pinned (OpenSpec.upto fnExactSignatureRightSpec)

/-- 'laws.FnKeyValid', WHERE WHAT IT READS IS OF BULK AT MOST 1048576: true; the input reads as it did. -/
def fnKeyValidUptoRow : OpenClaim := { program := "ythbjbodkbpbbaaa", sum := "7754a8485817d1ae969610147c8acb2c156c36cd9b55b21c928132cbc2494e85", func := "loop.example/feedbridge/laws.FnKeyValid", spec := "fnKeyValid", apart := false, narrowed := true }
def FnKeyValidUptoSaid : Prop := fnKeyValidUptoRow.holds Try.pinned (OpenSpec.upto fnKeyValidSpec)

/-- 'laws.FnExactSignNumber', WHERE WHAT IT READS IS OF BULK AT MOST 1048576: true; the input reads as it did. -/
def fnExactSignNumberUptoRow : OpenClaim := { program := "ythbjbodkbpbbaaa", sum := "7754a8485817d1ae969610147c8acb2c156c36cd9b55b21c928132cbc2494e85", func := "loop.example/feedbridge/laws.FnExactSignNumber", spec := "fnExactSignNumber", apart := false, narrowed := true }
def FnExactSignNumberUptoSaid : Prop := fnExactSignNumberUptoRow.holds Try.pinned (OpenSpec.upto fnExactSignNumberSpec)

/-- 'laws.FnKeyModulus', WHERE WHAT IT READS IS OF BULK AT MOST 1048576: true; the input reads as it did. -/
def fnKeyModulusUptoRow : OpenClaim := { program := "ythbjbodkbpbbaaa", sum := "7754a8485817d1ae969610147c8acb2c156c36cd9b55b21c928132cbc2494e85", func := "loop.example/feedbridge/laws.FnKeyModulus", spec := "fnKeyModulus", apart := false, narrowed := true }
def FnKeyModulusUptoSaid : Prop := fnKeyModulusUptoRow.holds Try.pinned (OpenSpec.upto fnKeyModulusSpec)

/-- 'laws.FnSignNumber', WHERE WHAT IT READS IS OF BULK AT MOST 1048576: true; the input reads as it did. -/
def fnSignNumberUptoRow : OpenClaim := { program := "ythbjbodkbpbbaaa", sum := "7754a8485817d1ae969610147c8acb2c156c36cd9b55b21c928132cbc2494e85", func := "loop.example/feedbridge/laws.FnSignNumber", spec := "fnSignNumber", apart := false, narrowed := true }
def FnSignNumberUptoSaid : Prop := fnSignNumberUptoRow.holds Try.pinned (OpenSpec.upto fnSignNumberSpec)

/-- 'laws.FnExactSignText', WHERE WHAT IT READS IS OF BULK AT MOST 1048576: true; the input reads as it did. -/
def fnExactSignTextUptoRow : OpenClaim := { program := "ythbjbodkbpbbaaa", sum := "7754a8485817d1ae969610147c8acb2c156c36cd9b55b21c928132cbc2494e85", func := "loop.example/feedbridge/laws.FnExactSignText", spec := "fnExactSignText", apart := false, narrowed := true }
def FnExactSignTextUptoSaid : Prop := fnExactSignTextUptoRow.holds Try.pinned (OpenSpec.upto fnExactSignTextSpec)

/-- 'laws.FnExactSignedBy', WHERE WHAT IT READS IS OF BULK AT MOST 1048576: true; the input reads as it did. -/
def fnExactSignedByUptoRow : OpenClaim := { program := "ythbjbodkbpbbaaa", sum := "7754a8485817d1ae969610147c8acb2c156c36cd9b55b21c928132cbc2494e85", func := "loop.example/feedbridge/laws.FnExactSignedBy", spec := "fnExactSignedBy", apart := false, narrowed := true }
def FnExactSignedByUptoSaid : Prop := fnExactSignedByUptoRow.holds Try.pinned (OpenSpec.upto fnExactSignedBySpec)

/-- 'laws.FnSignatureRight', WHERE WHAT IT READS IS OF BULK AT MOST 1048576: true; the input reads as it did. -/
def fnSignatureRightUptoRow : OpenClaim := { program := "ythbjbodkbpbbaaa", sum := "7754a8485817d1ae969610147c8acb2c156c36cd9b55b21c928132cbc2494e85", func := "loop.example/feedbridge/laws.FnSignatureRight", spec := "fnSignatureRight", apart := false, narrowed := true }
def FnSignatureRightUptoSaid : Prop := fnSignatureRightUptoRow.holds Try.pinned (OpenSpec.upto fnSignatureRightSpec)

/-- 'laws.FnSignText', WHERE WHAT IT READS IS OF BULK AT MOST 1048576: true; the input reads as it did. -/
def fnSignTextUptoRow : OpenClaim := { program := "ythbjbodkbpbbaaa", sum := "7754a8485817d1ae969610147c8acb2c156c36cd9b55b21c928132cbc2494e85", func := "loop.example/feedbridge/laws.FnSignText", spec := "fnSignText", apart := false, narrowed := true }
def FnSignTextUptoSaid : Prop := fnSignTextUptoRow.holds Try.pinned (OpenSpec.upto fnSignTextSpec)

/-- 'laws.FnSignedBy', WHERE WHAT IT READS IS OF BULK AT MOST 1048576: true; the input reads as it did. -/
def fnSignedByUptoRow : OpenClaim := { program := "ythbjbodkbpbbaaa", sum := "7754a8485817d1ae969610147c8acb2c156c36cd9b55b21c928132cbc2494e85", func := "loop.example/feedbridge/laws.FnSignedBy", spec := "fnSignedBy", apart := false, narrowed := true }
def FnSignedByUptoSaid : Prop := fnSignedByUptoRow.holds Try.pinned (OpenSpec.upto fnSignedBySpec)

end Rows
end Go.Proofs.Ythbjbodkbpbbaaa
