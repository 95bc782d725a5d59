/-
  NARROWER THAN 'FOR EVERY INPUT', by the rows' own cells (each row's printed sentence says how): FnTakeActivity: laid · FnExactTakeActivity: laid · FnTakeLines: laid · FnExactTakeLines: laid.
  DERIVED. THE GIVEN ROWS OF THIS SEAT. 4 by the template 'for every input the law returns true; each argument reads behind the call as it read before'; 0 by the template 'total and deterministic' (their statements: YtoagpfdhbcgdcaaDoorTotals.lean).
  GIVEN WITH THE SEED: the statements are not yours to turn. If you find one false, say at which input.
  Laid BY PROGRAM, IN A SANDBOX (cutbox-rows.mjs): the forced cells as the released guide's own fill.sh prints them over the translation fc16bce0f6daad8a… (all of the seat's roots in one cut). By AI agents, Wed Nov 11 2026. No macro, syntax, notation, axiom, sorry.
-/
import Derived.Test.YtoagpfdhbcgdcaaDoorChecked
import GoSem.PinnedTables
import GoSem.Claim
import GoSem.ClaimJoined
import GoSem.ClaimMapViews
import Derived.JoinedTies
import Derived.KernelRfl
namespace Go.Proofs.YtoagpfdhbcgdcaaDoor
/- THE CELL 'sum', in the pinned program and in every row, IS THE sha256 OF THE DUMP (.gsa) THAT YtoagpfdhbcgdcaaDoorProg.lean LOADS. Nothing in Lean hashes anything: it is a label: what it is worth is what the hold of that sum in a sandbox is worth. -/
noncomputable def Tryd.pinned : Pinned := { name := "ytoagpfdhbcgdcaadoor", sum := "fc16bce0f6daad8a943a8dcc1ca4f9abac5679930d14de99c3edeeeca2d49114", checked := Tryd.checked }
namespace Rows
def none {H : Type} : Left H := { results := [], args := [] }

/- WHAT THE LISTED PACKAGE-LEVEL VARIABLES READ AS WHEN THE CALL BEGINS. Each datum BY PROGRAM (the guide's laid-datum.mjs) off the statement by which the dump's own 'gosem.cut.vars' lays the variable. In a bare row this is a premise. The card (YtoagpfdhbcgdcaaDoorCards.lean) ties it to the program's text. -/
def laid_loop_example_feedbridge_impl_kindWords {H : Type} : DataW H := .agg [.lit (.string [99, 114, 101, 97, 116, 101]), .lit (.string [117, 112, 100, 97, 116, 101]), .lit (.string [100, 101, 108, 101, 116, 101]), .lit (.string [102, 111, 108, 108, 111, 119]), .lit (.string [97, 99, 99, 101, 112, 116]), .lit (.string [117, 110, 100, 111])]
def laid_unicode_utf8_acceptRanges {H : Type} : DataW H := .agg [.agg [.lit (.int .u8 128), .lit (.int .u8 191)], .agg [.lit (.int .u8 160), .lit (.int .u8 191)], .agg [.lit (.int .u8 128), .lit (.int .u8 159)], .agg [.lit (.int .u8 144), .lit (.int .u8 191)], .agg [.lit (.int .u8 128), .lit (.int .u8 143)], .agg [.lit (.int .u8 0), .lit (.int .u8 0)], .agg [.lit (.int .u8 0), .lit (.int .u8 0)], .agg [.lit (.int .u8 0), .lit (.int .u8 0)], .agg [.lit (.int .u8 0), .lit (.int .u8 0)], .agg [.lit (.int .u8 0), .lit (.int .u8 0)], .agg [.lit (.int .u8 0), .lit (.int .u8 0)], .agg [.lit (.int .u8 0), .lit (.int .u8 0)], .agg [.lit (.int .u8 0), .lit (.int .u8 0)], .agg [.lit (.int .u8 0), .lit (.int .u8 0)], .agg [.lit (.int .u8 0), .lit (.int .u8 0)], .agg [.lit (.int .u8 0), .lit (.int .u8 0)]]
/-- One of Go's own tables, pinned by name: the form's constant. -/
def laid_unicode_utf8_first : DataW Unit := Go.Pinned.utf8First

/-- 'laws.FnTakeActivity': WHATEVER THE INPUT: true; the input reads as it did. -/
def fnTakeActivitySpec : ChangeSpec := { name := "fnTakeActivity", vars := ["loop.example/feedbridge/impl.kindWords"], fn := fun _ => fun
  | [d, g1] => { results := [.lit (.bool true)], args := [d], vars := [g1] }
  | _ => none }
def fnTakeActivityRow : OpenClaim := { program := "ytoagpfdhbcgdcaadoor", sum := "fc16bce0f6daad8a943a8dcc1ca4f9abac5679930d14de99c3edeeeca2d49114", func := "loop.example/feedbridge/laws.FnTakeActivity", spec := "fnTakeActivity", named := ["loop.example/feedbridge/impl.kindWords"], apart := false, laid := [("loop.example/feedbridge/impl.kindWords", laid_loop_example_feedbridge_impl_kindWords)] }
def FnTakeActivitySaid : Prop := fnTakeActivityRow.holds Tryd.pinned (OpenSpec.ofChange fnTakeActivitySpec)

/-- ITS FALSE NEIGHBOUR: 'it returns false'. Refute it at one input. -/
def fnTakeActivityWrong : ChangeSpec := { name := "fnTakeActivity", vars := ["loop.example/feedbridge/impl.kindWords"], fn := fun _ => fun
  | [d, g1] => { results := [.lit (.bool false)], args := [d], vars := [g1] }
  | _ => none }
def FnTakeActivityWrongFalsely : Prop := fnTakeActivityRow.holds Tryd.pinned (OpenSpec.ofChange fnTakeActivityWrong)

/-- 'laws.FnExactTakeActivity': WHATEVER THE INPUT: true; the input reads as it did. -/
def fnExactTakeActivitySpec : ChangeSpec := { name := "fnExactTakeActivity", vars := ["loop.example/feedbridge/impl.kindWords"], fn := fun _ => fun
  | [d1, d2, g1] => { results := [.lit (.bool true)], args := [d1, d2], vars := [g1] }
  | _ => none }
def fnExactTakeActivityRow : OpenClaim := { program := "ytoagpfdhbcgdcaadoor", sum := "fc16bce0f6daad8a943a8dcc1ca4f9abac5679930d14de99c3edeeeca2d49114", func := "loop.example/feedbridge/laws.FnExactTakeActivity", spec := "fnExactTakeActivity", named := ["loop.example/feedbridge/impl.kindWords"], apart := false, laid := [("loop.example/feedbridge/impl.kindWords", laid_loop_example_feedbridge_impl_kindWords)] }
def FnExactTakeActivitySaid : Prop := fnExactTakeActivityRow.holds Tryd.pinned (OpenSpec.ofChange fnExactTakeActivitySpec)

/-- ITS FALSE NEIGHBOUR: 'it returns false'. Refute it at one input. -/
def fnExactTakeActivityWrong : ChangeSpec := { name := "fnExactTakeActivity", vars := ["loop.example/feedbridge/impl.kindWords"], fn := fun _ => fun
  | [d1, d2, g1] => { results := [.lit (.bool false)], args := [d1, d2], vars := [g1] }
  | _ => none }
def FnExactTakeActivityWrongFalsely : Prop := fnExactTakeActivityRow.holds Tryd.pinned (OpenSpec.ofChange fnExactTakeActivityWrong)

/-- 'laws.FnTakeLines': WHATEVER THE INPUT: true; the input reads as it did. -/
def fnTakeLinesSpec : ChangeSpec := { name := "fnTakeLines", vars := ["loop.example/feedbridge/impl.kindWords"], fn := fun _ => fun
  | [d, g1] => { results := [.lit (.bool true)], args := [d], vars := [g1] }
  | _ => none }
def fnTakeLinesRow : OpenClaim := { program := "ytoagpfdhbcgdcaadoor", sum := "fc16bce0f6daad8a943a8dcc1ca4f9abac5679930d14de99c3edeeeca2d49114", func := "loop.example/feedbridge/laws.FnTakeLines", spec := "fnTakeLines", inPlace := ["internal/bytealg.CountString", "internal/bytealg.IndexByteString", "internal/bytealg.IndexString"], named := ["unicode/utf8.first", "unicode/utf8.acceptRanges", "internal/bytealg.MaxLen", "loop.example/feedbridge/impl.kindWords"], apart := false, laid := [("unicode/utf8.acceptRanges", laid_unicode_utf8_acceptRanges), ("loop.example/feedbridge/impl.kindWords", laid_loop_example_feedbridge_impl_kindWords), ("unicode/utf8.first", laid_unicode_utf8_first)] }
def FnTakeLinesSaid : Prop := fnTakeLinesRow.holds Tryd.pinned (OpenSpec.ofChange fnTakeLinesSpec)

/-- ITS FALSE NEIGHBOUR: 'it returns false'. Refute it at one input. -/
def fnTakeLinesWrong : ChangeSpec := { name := "fnTakeLines", vars := ["loop.example/feedbridge/impl.kindWords"], fn := fun _ => fun
  | [d, g1] => { results := [.lit (.bool false)], args := [d], vars := [g1] }
  | _ => none }
def FnTakeLinesWrongFalsely : Prop := fnTakeLinesRow.holds Tryd.pinned (OpenSpec.ofChange fnTakeLinesWrong)

/-- 'laws.FnExactTakeLines': WHATEVER THE INPUT: true; the input reads as it did. -/
def fnExactTakeLinesSpec : ChangeSpec := { name := "fnExactTakeLines", vars := ["loop.example/feedbridge/impl.kindWords"], fn := fun _ => fun
  | [d1, d2, g1] => { results := [.lit (.bool true)], args := [d1, d2], vars := [g1] }
  | _ => none }
def fnExactTakeLinesRow : OpenClaim := { program := "ytoagpfdhbcgdcaadoor", sum := "fc16bce0f6daad8a943a8dcc1ca4f9abac5679930d14de99c3edeeeca2d49114", func := "loop.example/feedbridge/laws.FnExactTakeLines", spec := "fnExactTakeLines", inPlace := ["internal/bytealg.CountString", "internal/bytealg.IndexByteString", "internal/bytealg.IndexString"], named := ["unicode/utf8.first", "unicode/utf8.acceptRanges", "internal/bytealg.MaxLen", "loop.example/feedbridge/impl.kindWords"], apart := false, laid := [("unicode/utf8.acceptRanges", laid_unicode_utf8_acceptRanges), ("loop.example/feedbridge/impl.kindWords", laid_loop_example_feedbridge_impl_kindWords), ("unicode/utf8.first", laid_unicode_utf8_first)] }
def FnExactTakeLinesSaid : Prop := fnExactTakeLinesRow.holds Tryd.pinned (OpenSpec.ofChange fnExactTakeLinesSpec)

/-- ITS FALSE NEIGHBOUR: 'it returns false'. Refute it at one input. -/
def fnExactTakeLinesWrong : ChangeSpec := { name := "fnExactTakeLines", vars := ["loop.example/feedbridge/impl.kindWords"], fn := fun _ => fun
  | [d1, d2, g1] => { results := [.lit (.bool false)], args := [d1, d2], vars := [g1] }
  | _ => none }
def FnExactTakeLinesWrongFalsely : Prop := fnExactTakeLinesRow.holds Tryd.pinned (OpenSpec.ofChange fnExactTakeLinesWrong)

/- THE SECOND FORM. 'bulk': how many values and letters a reading holds, each counted each time it is reached (what is shared counts as often as it is met; a slice's spare places count too). A statement '..UptoSaid' is the law's where the arguments, and the package variables that the reading takes, are together of bulk at most 1048576: NARROWER than '..Said'. Prove '..Said' where nothing that the law and all that it calls make is longer than what came in: it says more and counts as full. Else prove '..UptoSaid'. A law counts once. -/
mutual
def uptoBulk {H : Type} : DataW H → Nat
  | .lit (.string bytes) => bytes.length + 1
  | .lit _ => 1
  | .nil => 1
  | .ptr d => uptoBulk d + 1
  | .slice elems spare => uptoBulkAll elems + uptoBulkAll spare + 1
  | .agg parts => uptoBulkAll parts + 1
  | .iface _ d => uptoBulk d + 1
  | .map entries => uptoBulkEntries entries + 1
  | .held _ => 1
def uptoBulkAll {H : Type} : List (DataW H) → Nat
  | [] => 0
  | d :: r => uptoBulk d + uptoBulkAll r
def uptoBulkEntries {H : Type} : List (Lit × DataW H) → Nat
  | [] => 0
  | x :: r => uptoBulkEntry x + uptoBulkEntries r
def uptoBulkEntry {H : Type} : Lit × DataW H → Nat
  | (.string bytes, d) => bytes.length + uptoBulk d + 1
  | (_, d) => uptoBulk d + 1
 end
def uptoSmall : (H : Type) → List (DataW H) → Bool := fun _ ds => decide (uptoBulkAll ds ≤ 1048576)
def OpenSpec.upto (s : _root_.Go.ChangeSpec) : _root_.Go.OpenSpec := { _root_.Go.OpenSpec.ofChange s with cond := some uptoSmall }

/-- 'laws.FnTakeActivity', WHERE WHAT IT READS IS OF BULK AT MOST 1048576: true; the input reads as it did. -/
def fnTakeActivityUptoRow : OpenClaim := { program := "ytoagpfdhbcgdcaadoor", sum := "fc16bce0f6daad8a943a8dcc1ca4f9abac5679930d14de99c3edeeeca2d49114", func := "loop.example/feedbridge/laws.FnTakeActivity", spec := "fnTakeActivity", named := ["loop.example/feedbridge/impl.kindWords"], apart := false, laid := [("loop.example/feedbridge/impl.kindWords", laid_loop_example_feedbridge_impl_kindWords)], narrowed := true }
def FnTakeActivityUptoSaid : Prop := fnTakeActivityUptoRow.holds Tryd.pinned (OpenSpec.upto fnTakeActivitySpec)

/-- 'laws.FnExactTakeActivity', WHERE WHAT IT READS IS OF BULK AT MOST 1048576: true; the input reads as it did. -/
def fnExactTakeActivityUptoRow : OpenClaim := { program := "ytoagpfdhbcgdcaadoor", sum := "fc16bce0f6daad8a943a8dcc1ca4f9abac5679930d14de99c3edeeeca2d49114", func := "loop.example/feedbridge/laws.FnExactTakeActivity", spec := "fnExactTakeActivity", named := ["loop.example/feedbridge/impl.kindWords"], apart := false, laid := [("loop.example/feedbridge/impl.kindWords", laid_loop_example_feedbridge_impl_kindWords)], narrowed := true }
def FnExactTakeActivityUptoSaid : Prop := fnExactTakeActivityUptoRow.holds Tryd.pinned (OpenSpec.upto fnExactTakeActivitySpec)

/-- 'laws.FnTakeLines', WHERE WHAT IT READS IS OF BULK AT MOST 1048576: true; the input reads as it did. -/
def fnTakeLinesUptoRow : OpenClaim := { program := "ytoagpfdhbcgdcaadoor", sum := "fc16bce0f6daad8a943a8dcc1ca4f9abac5679930d14de99c3edeeeca2d49114", func := "loop.example/feedbridge/laws.FnTakeLines", spec := "fnTakeLines", inPlace := ["internal/bytealg.CountString", "internal/bytealg.IndexByteString", "internal/bytealg.IndexString"], named := ["unicode/utf8.first", "unicode/utf8.acceptRanges", "internal/bytealg.MaxLen", "loop.example/feedbridge/impl.kindWords"], apart := false, laid := [("unicode/utf8.acceptRanges", laid_unicode_utf8_acceptRanges), ("loop.example/feedbridge/impl.kindWords", laid_loop_example_feedbridge_impl_kindWords), ("unicode/utf8.first", laid_unicode_utf8_first)], narrowed := true }
def FnTakeLinesUptoSaid : Prop := fnTakeLinesUptoRow.holds Tryd.pinned (OpenSpec.upto fnTakeLinesSpec)

/-- 'laws.FnExactTakeLines', WHERE WHAT IT READS IS OF BULK AT MOST 1048576: true; the input reads as it did. -/
def fnExactTakeLinesUptoRow : OpenClaim := { program := "ytoagpfdhbcgdcaadoor", sum := "fc16bce0f6daad8a943a8dcc1ca4f9abac5679930d14de99c3edeeeca2d49114", func := "loop.example/feedbridge/laws.FnExactTakeLines", spec := "fnExactTakeLines", inPlace := ["internal/bytealg.CountString", "internal/bytealg.IndexByteString", "internal/bytealg.IndexString"], named := ["unicode/utf8.first", "unicode/utf8.acceptRanges", "internal/bytealg.MaxLen", "loop.example/feedbridge/impl.kindWords"], apart := false, laid := [("unicode/utf8.acceptRanges", laid_unicode_utf8_acceptRanges), ("loop.example/feedbridge/impl.kindWords", laid_loop_example_feedbridge_impl_kindWords), ("unicode/utf8.first", laid_unicode_utf8_first)], narrowed := true }
def FnExactTakeLinesUptoSaid : Prop := fnExactTakeLinesUptoRow.holds Tryd.pinned (OpenSpec.upto fnExactTakeLinesSpec)

end Rows
end Go.Proofs.YtoagpfdhbcgdcaaDoor
