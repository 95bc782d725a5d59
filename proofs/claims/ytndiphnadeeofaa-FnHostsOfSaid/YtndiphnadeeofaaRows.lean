/-
  No cell of these rows narrows 'for every input' (looked for: loops, veiled, ifaces, maps, wideKeys, modest, calm, conditions, laid).
  DERIVED. THE GIVEN ROWS OF THIS SEAT. 10 by the template 'for every input the law returns true; each argument reads behind the call as it read before'; 0 by the template 'total and deterministic' (their statements: YtndiphnadeeofaaTotals.lean).
  GIVEN WITH THE SEED: the statements are not yours to turn. If you find one false, say at which input.
  Laid BY PROGRAM, IN A SANDBOX (cutbox-rows.mjs): the forced cells as the released guide's own fill.sh prints them over the translation dbdc8124a7b585bc… (all of the seat's roots in one cut). By AI agents, Wed Nov 11 2026. No macro, syntax, notation, axiom, sorry.
-/
import Derived.Test.YtndiphnadeeofaaChecked
import GoSem.Claim
import GoSem.ClaimJoined
import GoSem.ClaimMapViews
import Derived.JoinedTies
import Derived.KernelRfl
namespace Go.Proofs.Ytndiphnadeeofaa
/- THE CELL 'sum', in the pinned program and in every row, IS THE sha256 OF THE DUMP (.gsa) THAT YtndiphnadeeofaaProg.lean LOADS. Nothing in Lean hashes anything: it is a label: what it is worth is what the hold of that sum in a sandbox is worth. -/
noncomputable def Try.pinned : Pinned := { name := "ytndiphnadeeofaa", sum := "dbdc8124a7b585bcab20d85f09f8e2f0fbb33418174d8e47ac961704a1e8f03d", checked := Try.checked }
namespace Rows
def none {H : Type} : Left H := { results := [], args := [] }

/-- 'laws.FnExactFollowersValid': WHATEVER THE INPUT: true; the input reads as it did. -/
def fnExactFollowersValidSpec : ChangeSpec := { name := "fnExactFollowersValid", fn := fun _ => fun
  | [d] => { results := [.lit (.bool true)], args := [d] }
  | _ => none }
def fnExactFollowersValidRow : OpenClaim := { program := "ytndiphnadeeofaa", sum := "dbdc8124a7b585bcab20d85f09f8e2f0fbb33418174d8e47ac961704a1e8f03d", func := "loop.example/feedbridge/laws.FnExactFollowersValid", spec := "fnExactFollowersValid", apart := false }
def FnExactFollowersValidSaid : Prop := fnExactFollowersValidRow.holds Try.pinned (OpenSpec.ofChange fnExactFollowersValidSpec)

/-- ITS FALSE NEIGHBOUR: 'it returns false'. Refute it at one input. -/
def fnExactFollowersValidWrong : ChangeSpec := { name := "fnExactFollowersValid", fn := fun _ => fun
  | [d] => { results := [.lit (.bool false)], args := [d] }
  | _ => none }
def FnExactFollowersValidWrongFalsely : Prop := fnExactFollowersValidRow.holds Try.pinned (OpenSpec.ofChange fnExactFollowersValidWrong)

/-- 'laws.FnFollowersValid': WHATEVER THE INPUT: true; the input reads as it did. -/
def fnFollowersValidSpec : ChangeSpec := { name := "fnFollowersValid", fn := fun _ => fun
  | [d] => { results := [.lit (.bool true)], args := [d] }
  | _ => none }
def fnFollowersValidRow : OpenClaim := { program := "ytndiphnadeeofaa", sum := "dbdc8124a7b585bcab20d85f09f8e2f0fbb33418174d8e47ac961704a1e8f03d", func := "loop.example/feedbridge/laws.FnFollowersValid", spec := "fnFollowersValid", apart := false }
def FnFollowersValidSaid : Prop := fnFollowersValidRow.holds Try.pinned (OpenSpec.ofChange fnFollowersValidSpec)

/-- ITS FALSE NEIGHBOUR: 'it returns false'. Refute it at one input. -/
def fnFollowersValidWrong : ChangeSpec := { name := "fnFollowersValid", fn := fun _ => fun
  | [d] => { results := [.lit (.bool false)], args := [d] }
  | _ => none }
def FnFollowersValidWrongFalsely : Prop := fnFollowersValidRow.holds Try.pinned (OpenSpec.ofChange fnFollowersValidWrong)

/-- 'laws.FnHostsOf': WHATEVER THE INPUT: true; the input reads as it did. -/
def fnHostsOfSpec : ChangeSpec := { name := "fnHostsOf", fn := fun _ => fun
  | [d] => { results := [.lit (.bool true)], args := [d] }
  | _ => none }
def fnHostsOfRow : OpenClaim := { program := "ytndiphnadeeofaa", sum := "dbdc8124a7b585bcab20d85f09f8e2f0fbb33418174d8e47ac961704a1e8f03d", func := "loop.example/feedbridge/laws.FnHostsOf", spec := "fnHostsOf", apart := false }
def FnHostsOfSaid : Prop := fnHostsOfRow.holds Try.pinned (OpenSpec.ofChange fnHostsOfSpec)

/-- ITS FALSE NEIGHBOUR: 'it returns false'. Refute it at one input. -/
def fnHostsOfWrong : ChangeSpec := { name := "fnHostsOf", fn := fun _ => fun
  | [d] => { results := [.lit (.bool false)], args := [d] }
  | _ => none }
def FnHostsOfWrongFalsely : Prop := fnHostsOfRow.holds Try.pinned (OpenSpec.ofChange fnHostsOfWrong)

/-- 'laws.FnExactHostsOf': WHATEVER THE INPUT: true; the input reads as it did. -/
def fnExactHostsOfSpec : ChangeSpec := { name := "fnExactHostsOf", fn := fun _ => fun
  | [d] => { results := [.lit (.bool true)], args := [d] }
  | _ => none }
def fnExactHostsOfRow : OpenClaim := { program := "ytndiphnadeeofaa", sum := "dbdc8124a7b585bcab20d85f09f8e2f0fbb33418174d8e47ac961704a1e8f03d", func := "loop.example/feedbridge/laws.FnExactHostsOf", spec := "fnExactHostsOf", apart := false }
def FnExactHostsOfSaid : Prop := fnExactHostsOfRow.holds Try.pinned (OpenSpec.ofChange fnExactHostsOfSpec)

/-- ITS FALSE NEIGHBOUR: 'it returns false'. Refute it at one input. -/
def fnExactHostsOfWrong : ChangeSpec := { name := "fnExactHostsOf", fn := fun _ => fun
  | [d] => { results := [.lit (.bool false)], args := [d] }
  | _ => none }
def FnExactHostsOfWrongFalsely : Prop := fnExactHostsOfRow.holds Try.pinned (OpenSpec.ofChange fnExactHostsOfWrong)

/-- 'laws.FnExactNamesAt': WHATEVER THE INPUT: true; the input reads as it did. -/
def fnExactNamesAtSpec : ChangeSpec := { name := "fnExactNamesAt", fn := fun _ => fun
  | [d1, d2] => { results := [.lit (.bool true)], args := [d1, d2] }
  | _ => none }
def fnExactNamesAtRow : OpenClaim := { program := "ytndiphnadeeofaa", sum := "dbdc8124a7b585bcab20d85f09f8e2f0fbb33418174d8e47ac961704a1e8f03d", func := "loop.example/feedbridge/laws.FnExactNamesAt", spec := "fnExactNamesAt", apart := false }
def FnExactNamesAtSaid : Prop := fnExactNamesAtRow.holds Try.pinned (OpenSpec.ofChange fnExactNamesAtSpec)

/-- ITS FALSE NEIGHBOUR: 'it returns false'. Refute it at one input. -/
def fnExactNamesAtWrong : ChangeSpec := { name := "fnExactNamesAt", fn := fun _ => fun
  | [d1, d2] => { results := [.lit (.bool false)], args := [d1, d2] }
  | _ => none }
def FnExactNamesAtWrongFalsely : Prop := fnExactNamesAtRow.holds Try.pinned (OpenSpec.ofChange fnExactNamesAtWrong)

/-- 'laws.FnExactUnfollow': WHATEVER THE INPUT: true; the input reads as it did. -/
def fnExactUnfollowSpec : ChangeSpec := { name := "fnExactUnfollow", fn := fun _ => fun
  | [d1, d2] => { results := [.lit (.bool true)], args := [d1, d2] }
  | _ => none }
def fnExactUnfollowRow : OpenClaim := { program := "ytndiphnadeeofaa", sum := "dbdc8124a7b585bcab20d85f09f8e2f0fbb33418174d8e47ac961704a1e8f03d", func := "loop.example/feedbridge/laws.FnExactUnfollow", spec := "fnExactUnfollow", apart := false }
def FnExactUnfollowSaid : Prop := fnExactUnfollowRow.holds Try.pinned (OpenSpec.ofChange fnExactUnfollowSpec)

/-- ITS FALSE NEIGHBOUR: 'it returns false'. Refute it at one input. -/
def fnExactUnfollowWrong : ChangeSpec := { name := "fnExactUnfollow", fn := fun _ => fun
  | [d1, d2] => { results := [.lit (.bool false)], args := [d1, d2] }
  | _ => none }
def FnExactUnfollowWrongFalsely : Prop := fnExactUnfollowRow.holds Try.pinned (OpenSpec.ofChange fnExactUnfollowWrong)

/-- 'laws.FnNamesAt': WHATEVER THE INPUT: true; the input reads as it did. -/
def fnNamesAtSpec : ChangeSpec := { name := "fnNamesAt", fn := fun _ => fun
  | [d] => { results := [.lit (.bool true)], args := [d] }
  | _ => none }
def fnNamesAtRow : OpenClaim := { program := "ytndiphnadeeofaa", sum := "dbdc8124a7b585bcab20d85f09f8e2f0fbb33418174d8e47ac961704a1e8f03d", func := "loop.example/feedbridge/laws.FnNamesAt", spec := "fnNamesAt", apart := false }
def FnNamesAtSaid : Prop := fnNamesAtRow.holds Try.pinned (OpenSpec.ofChange fnNamesAtSpec)

/-- ITS FALSE NEIGHBOUR: 'it returns false'. Refute it at one input. -/
def fnNamesAtWrong : ChangeSpec := { name := "fnNamesAt", fn := fun _ => fun
  | [d] => { results := [.lit (.bool false)], args := [d] }
  | _ => none }
def FnNamesAtWrongFalsely : Prop := fnNamesAtRow.holds Try.pinned (OpenSpec.ofChange fnNamesAtWrong)

/-- 'laws.FnExactFollow': WHATEVER THE INPUT: true; the input reads as it did. -/
def fnExactFollowSpec : ChangeSpec := { name := "fnExactFollow", fn := fun _ => fun
  | [d1, d2] => { results := [.lit (.bool true)], args := [d1, d2] }
  | _ => none }
def fnExactFollowRow : OpenClaim := { program := "ytndiphnadeeofaa", sum := "dbdc8124a7b585bcab20d85f09f8e2f0fbb33418174d8e47ac961704a1e8f03d", func := "loop.example/feedbridge/laws.FnExactFollow", spec := "fnExactFollow", apart := false }
def FnExactFollowSaid : Prop := fnExactFollowRow.holds Try.pinned (OpenSpec.ofChange fnExactFollowSpec)

/-- ITS FALSE NEIGHBOUR: 'it returns false'. Refute it at one input. -/
def fnExactFollowWrong : ChangeSpec := { name := "fnExactFollow", fn := fun _ => fun
  | [d1, d2] => { results := [.lit (.bool false)], args := [d1, d2] }
  | _ => none }
def FnExactFollowWrongFalsely : Prop := fnExactFollowRow.holds Try.pinned (OpenSpec.ofChange fnExactFollowWrong)

/-- 'laws.FnFollow': WHATEVER THE INPUT: true; the input reads as it did. -/
def fnFollowSpec : ChangeSpec := { name := "fnFollow", fn := fun _ => fun
  | [d] => { results := [.lit (.bool true)], args := [d] }
  | _ => none }
def fnFollowRow : OpenClaim := { program := "ytndiphnadeeofaa", sum := "dbdc8124a7b585bcab20d85f09f8e2f0fbb33418174d8e47ac961704a1e8f03d", func := "loop.example/feedbridge/laws.FnFollow", spec := "fnFollow", apart := false }
def FnFollowSaid : Prop := fnFollowRow.holds Try.pinned (OpenSpec.ofChange fnFollowSpec)

/-- ITS FALSE NEIGHBOUR: 'it returns false'. Refute it at one input. -/
def fnFollowWrong : ChangeSpec := { name := "fnFollow", fn := fun _ => fun
  | [d] => { results := [.lit (.bool false)], args := [d] }
  | _ => none }
def FnFollowWrongFalsely : Prop := fnFollowRow.holds Try.pinned (OpenSpec.ofChange fnFollowWrong)

/-- 'laws.FnUnfollow': WHATEVER THE INPUT: true; the input reads as it did. -/
def fnUnfollowSpec : ChangeSpec := { name := "fnUnfollow", fn := fun _ => fun
  | [d] => { results := [.lit (.bool true)], args := [d] }
  | _ => none }
def fnUnfollowRow : OpenClaim := { program := "ytndiphnadeeofaa", sum := "dbdc8124a7b585bcab20d85f09f8e2f0fbb33418174d8e47ac961704a1e8f03d", func := "loop.example/feedbridge/laws.FnUnfollow", spec := "fnUnfollow", apart := false }
def FnUnfollowSaid : Prop := fnUnfollowRow.holds Try.pinned (OpenSpec.ofChange fnUnfollowSpec)

/-- ITS FALSE NEIGHBOUR: 'it returns false'. Refute it at one input. -/
def fnUnfollowWrong : ChangeSpec := { name := "fnUnfollow", fn := fun _ => fun
  | [d] => { results := [.lit (.bool false)], args := [d] }
  | _ => none }
def FnUnfollowWrongFalsely : Prop := fnUnfollowRow.holds Try.pinned (OpenSpec.ofChange fnUnfollowWrong)

/- THE SECOND FORM. 'bulk': how many values and letters a reading holds, each counted each time it is reached (what is shared counts as often as it is met; a slice's spare places count too). A statement '..UptoSaid' is the law's where the arguments, and the package variables that the reading takes, are together of bulk at most 1048576: NARROWER than '..Said'. Prove '..Said' where nothing that the law and all that it calls make is longer than what came in: it says more and counts as full. Else prove '..UptoSaid'. A law counts once. -/
mutual
def uptoBulk {H : Type} : DataW H → Nat
  | .lit (.string bytes) => bytes.length + 1
  | .lit _ => 1
  | .nil => 1
  | .ptr d => uptoBulk d + 1
  | .slice elems spare => uptoBulkAll elems + uptoBulkAll spare + 1
  | .agg parts => uptoBulkAll parts + 1
  | .iface _ d => uptoBulk d + 1
  | .map entries => uptoBulkEntries entries + 1
  | .held _ => 1
def uptoBulkAll {H : Type} : List (DataW H) → Nat
  | [] => 0
  | d :: r => uptoBulk d + uptoBulkAll r
def uptoBulkEntries {H : Type} : List (Lit × DataW H) → Nat
  | [] => 0
  | x :: r => uptoBulkEntry x + uptoBulkEntries r
def uptoBulkEntry {H : Type} : Lit × DataW H → Nat
  | (.string bytes, d) => bytes.length + uptoBulk d + 1
  | (_, d) => uptoBulk d + 1
 end
def uptoSmall : (H : Type) → List (DataW H) → Bool := fun _ ds => decide (uptoBulkAll ds ≤ 1048576)
def OpenSpec.upto (s : _root_.Go.ChangeSpec) : _root_.Go.OpenSpec := { _root_.Go.OpenSpec.ofChange s with cond := some uptoSmall }

/-- 'laws.FnExactFollowersValid', WHERE WHAT IT READS IS OF BULK AT MOST 1048576: true; the input reads as it did. -/
def fnExactFollowersValidUptoRow : OpenClaim := { program := "ytndiphnadeeofaa", sum := "dbdc8124a7b585bcab20d85f09f8e2f0fbb33418174d8e47ac961704a1e8f03d", func := "loop.example/feedbridge/laws.FnExactFollowersValid", spec := "fnExactFollowersValid", apart := false, narrowed := true }
def FnExactFollowersValidUptoSaid : Prop := fnExactFollowersValidUptoRow.holds Try.pinned (OpenSpec.upto fnExactFollowersValidSpec)

/-- 'laws.FnFollowersValid', WHERE WHAT IT READS IS OF BULK AT MOST 1048576: true; the input reads as it did. -/
def fnFollowersValidUptoRow : OpenClaim := { program := "ytndiphnadeeofaa", sum := "dbdc8124a7b585bcab20d85f09f8e2f0fbb33418174d8e47ac961704a1e8f03d", func := "loop.example/feedbridge/laws.FnFollowersValid", spec := "fnFollowersValid", apart := false, narrowed := true }
def FnFollowersValidUptoSaid : Prop := fnFollowersValidUptoRow.holds Try.pinned (OpenSpec.upto fnFollowersValidSpec)

/-- 'laws.FnHostsOf', WHERE WHAT IT READS IS OF BULK AT MOST 1048576: true; the input reads as it did. -/
def fnHostsOfUptoRow : OpenClaim := { program := "ytndiphnadeeofaa", sum := "dbdc8124a7b585bcab20d85f09f8e2f0fbb33418174d8e47ac961704a1e8f03d", func := "loop.example/feedbridge/laws.FnHostsOf", spec := "fnHostsOf", apart := false, narrowed := true }
def FnHostsOfUptoSaid : Prop := fnHostsOfUptoRow.holds Try.pinned (OpenSpec.upto fnHostsOfSpec)

/-- 'laws.FnExactHostsOf', WHERE WHAT IT READS IS OF BULK AT MOST 1048576: true; the input reads as it did. -/
def fnExactHostsOfUptoRow : OpenClaim := { program := "ytndiphnadeeofaa", sum := "dbdc8124a7b585bcab20d85f09f8e2f0fbb33418174d8e47ac961704a1e8f03d", func := "loop.example/feedbridge/laws.FnExactHostsOf", spec := "fnExactHostsOf", apart := false, narrowed := true }
def FnExactHostsOfUptoSaid : Prop := fnExactHostsOfUptoRow.holds Try.pinned (OpenSpec.upto fnExactHostsOfSpec)

/-- 'laws.FnExactNamesAt', WHERE WHAT IT READS IS OF BULK AT MOST 1048576: true; the input reads as it did. -/
def fnExactNamesAtUptoRow : OpenClaim := { program := "ytndiphnadeeofaa", sum := "dbdc8124a7b585bcab20d85f09f8e2f0fbb33418174d8e47ac961704a1e8f03d", func := "loop.example/feedbridge/laws.FnExactNamesAt", spec := "fnExactNamesAt", apart := false, narrowed := true }
def FnExactNamesAtUptoSaid : Prop := fnExactNamesAtUptoRow.holds Try.pinned (OpenSpec.upto fnExactNamesAtSpec)

/-- 'laws.FnExactUnfollow', WHERE WHAT IT READS IS OF BULK AT MOST 1048576: true; the input reads as it did. -/
def fnExactUnfollowUptoRow : OpenClaim := { program := "ytndiphnadeeofaa", sum := "dbdc8124a7b585bcab20d85f09f8e2f0fbb33418174d8e47ac961704a1e8f03d", func := "loop.example/feedbridge/laws.FnExactUnfollow", spec := "fnExactUnfollow", apart := false, narrowed := true }
def FnExactUnfollowUptoSaid : Prop := fnExactUnfollowUptoRow.holds Try.pinned (OpenSpec.upto fnExactUnfollowSpec)

/-- 'laws.FnNamesAt', WHERE WHAT IT READS IS OF BULK AT MOST 1048576: true; the input reads as it did. -/
def fnNamesAtUptoRow : OpenClaim := { program := "ytndiphnadeeofaa", sum := "dbdc8124a7b585bcab20d85f09f8e2f0fbb33418174d8e47ac961704a1e8f03d", func := "loop.example/feedbridge/laws.FnNamesAt", spec := "fnNamesAt", apart := false, narrowed := true }
def FnNamesAtUptoSaid : Prop := fnNamesAtUptoRow.holds Try.pinned (OpenSpec.upto fnNamesAtSpec)

/-- 'laws.FnExactFollow', WHERE WHAT IT READS IS OF BULK AT MOST 1048576: true; the input reads as it did. -/
def fnExactFollowUptoRow : OpenClaim := { program := "ytndiphnadeeofaa", sum := "dbdc8124a7b585bcab20d85f09f8e2f0fbb33418174d8e47ac961704a1e8f03d", func := "loop.example/feedbridge/laws.FnExactFollow", spec := "fnExactFollow", apart := false, narrowed := true }
def FnExactFollowUptoSaid : Prop := fnExactFollowUptoRow.holds Try.pinned (OpenSpec.upto fnExactFollowSpec)

/-- 'laws.FnFollow', WHERE WHAT IT READS IS OF BULK AT MOST 1048576: true; the input reads as it did. -/
def fnFollowUptoRow : OpenClaim := { program := "ytndiphnadeeofaa", sum := "dbdc8124a7b585bcab20d85f09f8e2f0fbb33418174d8e47ac961704a1e8f03d", func := "loop.example/feedbridge/laws.FnFollow", spec := "fnFollow", apart := false, narrowed := true }
def FnFollowUptoSaid : Prop := fnFollowUptoRow.holds Try.pinned (OpenSpec.upto fnFollowSpec)

/-- 'laws.FnUnfollow', WHERE WHAT IT READS IS OF BULK AT MOST 1048576: true; the input reads as it did. -/
def fnUnfollowUptoRow : OpenClaim := { program := "ytndiphnadeeofaa", sum := "dbdc8124a7b585bcab20d85f09f8e2f0fbb33418174d8e47ac961704a1e8f03d", func := "loop.example/feedbridge/laws.FnUnfollow", spec := "fnUnfollow", apart := false, narrowed := true }
def FnUnfollowUptoSaid : Prop := fnUnfollowUptoRow.holds Try.pinned (OpenSpec.upto fnUnfollowSpec)

end Rows
end Go.Proofs.Ytndiphnadeeofaa
