/-
  No cell of these rows narrows 'for every input' (looked for: loops, veiled, ifaces, maps, wideKeys, modest, calm, conditions, laid).
  DERIVED. THE GIVEN ROWS OF THIS SEAT. 8 by the template 'for every input the law returns true; each argument reads behind the call as it read before'; 0 by the template 'total and deterministic' (their statements: YtcpepjnmjiffcaaTotals.lean).
  GIVEN WITH THE SEED: the statements are not yours to turn. If you find one false, say at which input.
  Laid BY PROGRAM, IN A SANDBOX (cutbox-rows.mjs): the forced cells as the released guide's own fill.sh prints them over the translation 89ea005f1c31d609… (all of the seat's roots in one cut). By AI agents, Wed Nov 11 2026. No macro, syntax, notation, axiom, sorry.
-/
import Derived.Test.YtcpepjnmjiffcaaChecked
import GoSem.Claim
import GoSem.ClaimJoined
import GoSem.ClaimMapViews
import Derived.JoinedTies
import Derived.KernelRfl
namespace Go.Proofs.Ytcpepjnmjiffcaa
/- THE CELL 'sum', in the pinned program and in every row, IS THE sha256 OF THE DUMP (.gsa) THAT YtcpepjnmjiffcaaProg.lean LOADS. Nothing in Lean hashes anything: it is a label: what it is worth is what the hold of that sum in a sandbox is worth. -/
noncomputable def Try.pinned : Pinned := { name := "ytcpepjnmjiffcaa", sum := "89ea005f1c31d609a4e889509ddeda792d0524aebf74b661c4dfaca99a6e06c7", checked := Try.checked }
namespace Rows
def none {H : Type} : Left H := { results := [], args := [] }

/-- 'laws.FnExactTurnsValid': WHATEVER THE INPUT: true; the input reads as it did. -/
def fnExactTurnsValidSpec : ChangeSpec := { name := "fnExactTurnsValid", fn := fun _ => fun
  | [d] => { results := [.lit (.bool true)], args := [d] }
  | _ => none }
def fnExactTurnsValidRow : OpenClaim := { program := "ytcpepjnmjiffcaa", sum := "89ea005f1c31d609a4e889509ddeda792d0524aebf74b661c4dfaca99a6e06c7", func := "loop.example/feedbridge/laws.FnExactTurnsValid", spec := "fnExactTurnsValid", apart := false }
def FnExactTurnsValidSaid : Prop := fnExactTurnsValidRow.holds Try.pinned (OpenSpec.ofChange fnExactTurnsValidSpec)

/-- ITS FALSE NEIGHBOUR: 'it returns false'. Refute it at one input. -/
def fnExactTurnsValidWrong : ChangeSpec := { name := "fnExactTurnsValid", fn := fun _ => fun
  | [d] => { results := [.lit (.bool false)], args := [d] }
  | _ => none }
def FnExactTurnsValidWrongFalsely : Prop := fnExactTurnsValidRow.holds Try.pinned (OpenSpec.ofChange fnExactTurnsValidWrong)

/-- 'laws.FnExactKeyOn': WHATEVER THE INPUT: true; the input reads as it did. -/
def fnExactKeyOnSpec : ChangeSpec := { name := "fnExactKeyOn", fn := fun _ => fun
  | [d1, d2] => { results := [.lit (.bool true)], args := [d1, d2] }
  | _ => none }
def fnExactKeyOnRow : OpenClaim := { program := "ytcpepjnmjiffcaa", sum := "89ea005f1c31d609a4e889509ddeda792d0524aebf74b661c4dfaca99a6e06c7", func := "loop.example/feedbridge/laws.FnExactKeyOn", spec := "fnExactKeyOn", apart := false }
def FnExactKeyOnSaid : Prop := fnExactKeyOnRow.holds Try.pinned (OpenSpec.ofChange fnExactKeyOnSpec)

/-- ITS FALSE NEIGHBOUR: 'it returns false'. Refute it at one input. -/
def fnExactKeyOnWrong : ChangeSpec := { name := "fnExactKeyOn", fn := fun _ => fun
  | [d1, d2] => { results := [.lit (.bool false)], args := [d1, d2] }
  | _ => none }
def FnExactKeyOnWrongFalsely : Prop := fnExactKeyOnRow.holds Try.pinned (OpenSpec.ofChange fnExactKeyOnWrong)

/-- 'laws.FnTurnsValid': WHATEVER THE INPUT: true; the input reads as it did. -/
def fnTurnsValidSpec : ChangeSpec := { name := "fnTurnsValid", fn := fun _ => fun
  | [d] => { results := [.lit (.bool true)], args := [d] }
  | _ => none }
def fnTurnsValidRow : OpenClaim := { program := "ytcpepjnmjiffcaa", sum := "89ea005f1c31d609a4e889509ddeda792d0524aebf74b661c4dfaca99a6e06c7", func := "loop.example/feedbridge/laws.FnTurnsValid", spec := "fnTurnsValid", apart := false }
def FnTurnsValidSaid : Prop := fnTurnsValidRow.holds Try.pinned (OpenSpec.ofChange fnTurnsValidSpec)

/-- ITS FALSE NEIGHBOUR: 'it returns false'. Refute it at one input. -/
def fnTurnsValidWrong : ChangeSpec := { name := "fnTurnsValid", fn := fun _ => fun
  | [d] => { results := [.lit (.bool false)], args := [d] }
  | _ => none }
def FnTurnsValidWrongFalsely : Prop := fnTurnsValidRow.holds Try.pinned (OpenSpec.ofChange fnTurnsValidWrong)

/-- 'laws.FnKeyOn': WHATEVER THE INPUT: true; the input reads as it did. -/
def fnKeyOnSpec : ChangeSpec := { name := "fnKeyOn", fn := fun _ => fun
  | [d] => { results := [.lit (.bool true)], args := [d] }
  | _ => none }
def fnKeyOnRow : OpenClaim := { program := "ytcpepjnmjiffcaa", sum := "89ea005f1c31d609a4e889509ddeda792d0524aebf74b661c4dfaca99a6e06c7", func := "loop.example/feedbridge/laws.FnKeyOn", spec := "fnKeyOn", apart := false }
def FnKeyOnSaid : Prop := fnKeyOnRow.holds Try.pinned (OpenSpec.ofChange fnKeyOnSpec)

/-- ITS FALSE NEIGHBOUR: 'it returns false'. Refute it at one input. -/
def fnKeyOnWrong : ChangeSpec := { name := "fnKeyOn", fn := fun _ => fun
  | [d] => { results := [.lit (.bool false)], args := [d] }
  | _ => none }
def FnKeyOnWrongFalsely : Prop := fnKeyOnRow.holds Try.pinned (OpenSpec.ofChange fnKeyOnWrong)

/-- 'laws.FnExactAddTurn': WHATEVER THE INPUT: true; the input reads as it did. -/
def fnExactAddTurnSpec : ChangeSpec := { name := "fnExactAddTurn", fn := fun _ => fun
  | [d1, d2] => { results := [.lit (.bool true)], args := [d1, d2] }
  | _ => none }
def fnExactAddTurnRow : OpenClaim := { program := "ytcpepjnmjiffcaa", sum := "89ea005f1c31d609a4e889509ddeda792d0524aebf74b661c4dfaca99a6e06c7", func := "loop.example/feedbridge/laws.FnExactAddTurn", spec := "fnExactAddTurn", apart := false }
def FnExactAddTurnSaid : Prop := fnExactAddTurnRow.holds Try.pinned (OpenSpec.ofChange fnExactAddTurnSpec)

/-- ITS FALSE NEIGHBOUR: 'it returns false'. Refute it at one input. -/
def fnExactAddTurnWrong : ChangeSpec := { name := "fnExactAddTurn", fn := fun _ => fun
  | [d1, d2] => { results := [.lit (.bool false)], args := [d1, d2] }
  | _ => none }
def FnExactAddTurnWrongFalsely : Prop := fnExactAddTurnRow.holds Try.pinned (OpenSpec.ofChange fnExactAddTurnWrong)

/-- 'laws.FnAddTurn': WHATEVER THE INPUT: true; the input reads as it did. -/
def fnAddTurnSpec : ChangeSpec := { name := "fnAddTurn", fn := fun _ => fun
  | [d] => { results := [.lit (.bool true)], args := [d] }
  | _ => none }
def fnAddTurnRow : OpenClaim := { program := "ytcpepjnmjiffcaa", sum := "89ea005f1c31d609a4e889509ddeda792d0524aebf74b661c4dfaca99a6e06c7", func := "loop.example/feedbridge/laws.FnAddTurn", spec := "fnAddTurn", apart := false }
def FnAddTurnSaid : Prop := fnAddTurnRow.holds Try.pinned (OpenSpec.ofChange fnAddTurnSpec)

/-- ITS FALSE NEIGHBOUR: 'it returns false'. Refute it at one input. -/
def fnAddTurnWrong : ChangeSpec := { name := "fnAddTurn", fn := fun _ => fun
  | [d] => { results := [.lit (.bool false)], args := [d] }
  | _ => none }
def FnAddTurnWrongFalsely : Prop := fnAddTurnRow.holds Try.pinned (OpenSpec.ofChange fnAddTurnWrong)

/-- 'laws.FnExactSignedOn': WHATEVER THE INPUT: true; the input reads as it did. -/
def fnExactSignedOnSpec : ChangeSpec := { name := "fnExactSignedOn", fn := fun _ => fun
  | [d1, d2, d3] => { results := [.lit (.bool true)], args := [d1, d2, d3] }
  | _ => none }
def fnExactSignedOnRow : OpenClaim := { program := "ytcpepjnmjiffcaa", sum := "89ea005f1c31d609a4e889509ddeda792d0524aebf74b661c4dfaca99a6e06c7", func := "loop.example/feedbridge/laws.FnExactSignedOn", spec := "fnExactSignedOn", apart := false }
def FnExactSignedOnSaid : Prop := fnExactSignedOnRow.holds Try.pinned (OpenSpec.ofChange fnExactSignedOnSpec)

/-- ITS FALSE NEIGHBOUR: 'it returns false'. Refute it at one input. -/
def fnExactSignedOnWrong : ChangeSpec := { name := "fnExactSignedOn", fn := fun _ => fun
  | [d1, d2, d3] => { results := [.lit (.bool false)], args := [d1, d2, d3] }
  | _ => none }
def FnExactSignedOnWrongFalsely : Prop := fnExactSignedOnRow.holds Try.pinned (OpenSpec.ofChange fnExactSignedOnWrong)

/-- 'laws.FnSignedOn': WHATEVER THE INPUT: true; the input reads as it did. -/
def fnSignedOnSpec : ChangeSpec := { name := "fnSignedOn", fn := fun _ => fun
  | [d] => { results := [.lit (.bool true)], args := [d] }
  | _ => none }
def fnSignedOnRow : OpenClaim := { program := "ytcpepjnmjiffcaa", sum := "89ea005f1c31d609a4e889509ddeda792d0524aebf74b661c4dfaca99a6e06c7", func := "loop.example/feedbridge/laws.FnSignedOn", spec := "fnSignedOn", apart := false }
def FnSignedOnSaid : Prop := fnSignedOnRow.holds Try.pinned (OpenSpec.ofChange fnSignedOnSpec)

/-- ITS FALSE NEIGHBOUR: 'it returns false'. Refute it at one input. -/
def fnSignedOnWrong : ChangeSpec := { name := "fnSignedOn", fn := fun _ => fun
  | [d] => { results := [.lit (.bool false)], args := [d] }
  | _ => none }
def FnSignedOnWrongFalsely : Prop := fnSignedOnRow.holds Try.pinned (OpenSpec.ofChange fnSignedOnWrong)

/- THE SECOND FORM. 'bulk': how many values and letters a reading holds, each counted each time it is reached (what is shared counts as often as it is met; a slice's spare places count too). A statement '..UptoSaid' is the law's where the arguments, and the package variables that the reading takes, are together of bulk at most 1048576: NARROWER than '..Said'. Prove '..Said' where nothing that the law and all that it calls make is longer than what came in: it says more and counts as full. Else prove '..UptoSaid'. A law counts once. -/
mutual
def uptoBulk {H : Type} : DataW H → Nat
  | .lit (.string bytes) => bytes.length + 1
  | .lit _ => 1
  | .nil => 1
  | .ptr d => uptoBulk d + 1
  | .slice elems spare => uptoBulkAll elems + uptoBulkAll spare + 1
  | .agg parts => uptoBulkAll parts + 1
  | .iface _ d => uptoBulk d + 1
  | .map entries => uptoBulkEntries entries + 1
  | .held _ => 1
def uptoBulkAll {H : Type} : List (DataW H) → Nat
  | [] => 0
  | d :: r => uptoBulk d + uptoBulkAll r
def uptoBulkEntries {H : Type} : List (Lit × DataW H) → Nat
  | [] => 0
  | x :: r => uptoBulkEntry x + uptoBulkEntries r
def uptoBulkEntry {H : Type} : Lit × DataW H → Nat
  | (.string bytes, d) => bytes.length + uptoBulk d + 1
  | (_, d) => uptoBulk d + 1
 end
def uptoSmall : (H : Type) → List (DataW H) → Bool := fun _ ds => decide (uptoBulkAll ds ≤ 1048576)
def OpenSpec.upto (s : _root_.Go.ChangeSpec) : _root_.Go.OpenSpec := { _root_.Go.OpenSpec.ofChange s with cond := some uptoSmall }

/-- 'laws.FnExactTurnsValid', WHERE WHAT IT READS IS OF BULK AT MOST 1048576: true; the input reads as it did. -/
def fnExactTurnsValidUptoRow : OpenClaim := { program := "ytcpepjnmjiffcaa", sum := "89ea005f1c31d609a4e889509ddeda792d0524aebf74b661c4dfaca99a6e06c7", func := "loop.example/feedbridge/laws.FnExactTurnsValid", spec := "fnExactTurnsValid", apart := false, narrowed := true }
def FnExactTurnsValidUptoSaid : Prop := fnExactTurnsValidUptoRow.holds Try.pinned (OpenSpec.upto fnExactTurnsValidSpec)

/-- 'laws.FnExactKeyOn', WHERE WHAT IT READS IS OF BULK AT MOST 1048576: true; the input reads as it did. -/
def fnExactKeyOnUptoRow : OpenClaim := { program := "ytcpepjnmjiffcaa", sum := "89ea005f1c31d609a4e889509ddeda792d0524aebf74b661c4dfaca99a6e06c7", func := "loop.example/feedbridge/laws.FnExactKeyOn", spec := "fnExactKeyOn", apart := false, narrowed := true }
def FnExactKeyOnUptoSaid : Prop := fnExactKeyOnUptoRow.holds Try.pinned (OpenSpec.upto fnExactKeyOnSpec)

/-- 'laws.FnTurnsValid', WHERE WHAT IT READS IS OF BULK AT MOST 1048576: true; the input reads as it did. -/
def fnTurnsValidUptoRow : OpenClaim := { program := "ytcpepjnmjiffcaa", sum := "89ea005f1c31d609a4e889509ddeda792d0524aebf74b661c4dfaca99a6e06c7", func := "loop.example/feedbridge/laws.FnTurnsValid", spec := "fnTurnsValid", apart := false, narrowed := true }
def FnTurnsValidUptoSaid : Prop := fnTurnsValidUptoRow.holds Try.pinned (OpenSpec.upto fnTurnsValidSpec)

/-- 'laws.FnKeyOn', WHERE WHAT IT READS IS OF BULK AT MOST 1048576: true; the input reads as it did. -/
def fnKeyOnUptoRow : OpenClaim := { program := "ytcpepjnmjiffcaa", sum := "89ea005f1c31d609a4e889509ddeda792d0524aebf74b661c4dfaca99a6e06c7", func := "loop.example/feedbridge/laws.FnKeyOn", spec := "fnKeyOn", apart := false, narrowed := true }
def FnKeyOnUptoSaid : Prop := fnKeyOnUptoRow.holds Try.pinned (OpenSpec.upto fnKeyOnSpec)

/-- 'laws.FnExactAddTurn', WHERE WHAT IT READS IS OF BULK AT MOST 1048576: true; the input reads as it did. -/
def fnExactAddTurnUptoRow : OpenClaim := { program := "ytcpepjnmjiffcaa", sum := "89ea005f1c31d609a4e889509ddeda792d0524aebf74b661c4dfaca99a6e06c7", func := "loop.example/feedbridge/laws.FnExactAddTurn", spec := "fnExactAddTurn", apart := false, narrowed := true }
def FnExactAddTurnUptoSaid : Prop := fnExactAddTurnUptoRow.holds Try.pinned (OpenSpec.upto fnExactAddTurnSpec)

/-- 'laws.FnAddTurn', WHERE WHAT IT READS IS OF BULK AT MOST 1048576: true; the input reads as it did. -/
def fnAddTurnUptoRow : OpenClaim := { program := "ytcpepjnmjiffcaa", sum := "89ea005f1c31d609a4e889509ddeda792d0524aebf74b661c4dfaca99a6e06c7", func := "loop.example/feedbridge/laws.FnAddTurn", spec := "fnAddTurn", apart := false, narrowed := true }
def FnAddTurnUptoSaid : Prop := fnAddTurnUptoRow.holds Try.pinned (OpenSpec.upto fnAddTurnSpec)

/-- 'laws.FnExactSignedOn', WHERE WHAT IT READS IS OF BULK AT MOST 1048576: true; the input reads as it did. -/
def fnExactSignedOnUptoRow : OpenClaim := { program := "ytcpepjnmjiffcaa", sum := "89ea005f1c31d609a4e889509ddeda792d0524aebf74b661c4dfaca99a6e06c7", func := "loop.example/feedbridge/laws.FnExactSignedOn", spec := "fnExactSignedOn", apart := false, narrowed := true }
def FnExactSignedOnUptoSaid : Prop := fnExactSignedOnUptoRow.holds Try.pinned (OpenSpec.upto fnExactSignedOnSpec)

/-- 'laws.FnSignedOn', WHERE WHAT IT READS IS OF BULK AT MOST 1048576: true; the input reads as it did. -/
def fnSignedOnUptoRow : OpenClaim := { program := "ytcpepjnmjiffcaa", sum := "89ea005f1c31d609a4e889509ddeda792d0524aebf74b661c4dfaca99a6e06c7", func := "loop.example/feedbridge/laws.FnSignedOn", spec := "fnSignedOn", apart := false, narrowed := true }
def FnSignedOnUptoSaid : Prop := fnSignedOnUptoRow.holds Try.pinned (OpenSpec.upto fnSignedOnSpec)

end Rows
end Go.Proofs.Ytcpepjnmjiffcaa
