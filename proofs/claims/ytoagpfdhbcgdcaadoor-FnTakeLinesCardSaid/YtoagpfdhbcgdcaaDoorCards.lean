/-
  DERIVED. GIVEN WITH THE SEED: THE CARDS: each row of YtoagpfdhbcgdcaaDoorRows.lean that lists a variable, with what it lists TIED to the program's text (the seventh form; the later family's looks); each row that meets fmt, with fmt's text TOLD by the authors' own Lean function (tested against real Go, not proved from fmt's source: count such statements apart). THE CARD IS WHAT COUNTS. Prove the row's statement (the work); the ties are given (YtoagpfdhbcgdcaaDoorTie.lean); close each card by the builder's one call (the guide's Derived/Test/ToyasCard.lean, 'card_holds'). Laid BY PROGRAM, IN A SANDBOX (cutbox-door.mjs). By AI agents, Wed Nov 11 2026. No macro, syntax, notation, axiom, sorry.
-/
import Derived.Test.YtoagpfdhbcgdcaaDoorRows
import GoSem.ClaimSeven
namespace Go.Proofs.YtoagpfdhbcgdcaaDoor
namespace Rows

/-- THE TIED CARD OF 'laws.FnTakeActivity'. -/
def fnTakeActivityCard : Claim7 := { stood := { row := fnTakeActivityRow, standIns := [], harness := (true, "9339793f18c1396e6b223999eef8421c8ff91fbaada16c3909fe7f6164329fc1"), looks := false }, kinds := [], alts := [], laidByText := true, laidKinds := [.data], laidTests := true, laidLooks := .later }
def FnTakeActivityCardSaid : Prop := Claim7.holds Tryd.pinned (.plain (OpenSpec.ofChange fnTakeActivitySpec)) fnTakeActivityCard

/-- THE TIED CARD OF 'laws.FnExactTakeActivity'. -/
def fnExactTakeActivityCard : Claim7 := { stood := { row := fnExactTakeActivityRow, standIns := [], harness := (true, "9339793f18c1396e6b223999eef8421c8ff91fbaada16c3909fe7f6164329fc1"), looks := false }, kinds := [], alts := [], laidByText := true, laidKinds := [.data], laidTests := true, laidLooks := .later }
def FnExactTakeActivityCardSaid : Prop := Claim7.holds Tryd.pinned (.plain (OpenSpec.ofChange fnExactTakeActivitySpec)) fnExactTakeActivityCard

/-- THE TIED CARD OF 'laws.FnTakeLines'. -/
def fnTakeLinesCard : Claim7 := { stood := { row := fnTakeLinesRow, standIns := [], harness := (true, "9339793f18c1396e6b223999eef8421c8ff91fbaada16c3909fe7f6164329fc1"), looks := false }, kinds := [], alts := [], laidByText := true, laidKinds := [.data, .data, .pinned], laidTests := true, laidLooks := .later }
def FnTakeLinesCardSaid : Prop := Claim7.holds Tryd.pinned (.plain (OpenSpec.ofChange fnTakeLinesSpec)) fnTakeLinesCard

/-- THE TIED CARD OF 'laws.FnExactTakeLines'. -/
def fnExactTakeLinesCard : Claim7 := { stood := { row := fnExactTakeLinesRow, standIns := [], harness := (true, "9339793f18c1396e6b223999eef8421c8ff91fbaada16c3909fe7f6164329fc1"), looks := false }, kinds := [], alts := [], laidByText := true, laidKinds := [.data, .data, .pinned], laidTests := true, laidLooks := .later }
def FnExactTakeLinesCardSaid : Prop := Claim7.holds Tryd.pinned (.plain (OpenSpec.ofChange fnExactTakeLinesSpec)) fnExactTakeLinesCard

/-- THE SECOND FORM's CARD OF 'laws.FnTakeActivity'. -/
def fnTakeActivityUptoCard : Claim7 := { stood := { row := fnTakeActivityUptoRow, standIns := [], harness := (true, "9339793f18c1396e6b223999eef8421c8ff91fbaada16c3909fe7f6164329fc1"), looks := false }, kinds := [], alts := [], laidByText := true, laidKinds := [.data], laidTests := true, laidLooks := .later }
def FnTakeActivityUptoCardSaid : Prop := Claim7.holds Tryd.pinned (.plain (OpenSpec.upto fnTakeActivitySpec)) fnTakeActivityUptoCard

/-- THE SECOND FORM's CARD OF 'laws.FnExactTakeActivity'. -/
def fnExactTakeActivityUptoCard : Claim7 := { stood := { row := fnExactTakeActivityUptoRow, standIns := [], harness := (true, "9339793f18c1396e6b223999eef8421c8ff91fbaada16c3909fe7f6164329fc1"), looks := false }, kinds := [], alts := [], laidByText := true, laidKinds := [.data], laidTests := true, laidLooks := .later }
def FnExactTakeActivityUptoCardSaid : Prop := Claim7.holds Tryd.pinned (.plain (OpenSpec.upto fnExactTakeActivitySpec)) fnExactTakeActivityUptoCard

/-- THE SECOND FORM's CARD OF 'laws.FnTakeLines'. -/
def fnTakeLinesUptoCard : Claim7 := { stood := { row := fnTakeLinesUptoRow, standIns := [], harness := (true, "9339793f18c1396e6b223999eef8421c8ff91fbaada16c3909fe7f6164329fc1"), looks := false }, kinds := [], alts := [], laidByText := true, laidKinds := [.data, .data, .pinned], laidTests := true, laidLooks := .later }
def FnTakeLinesUptoCardSaid : Prop := Claim7.holds Tryd.pinned (.plain (OpenSpec.upto fnTakeLinesSpec)) fnTakeLinesUptoCard

/-- THE SECOND FORM's CARD OF 'laws.FnExactTakeLines'. -/
def fnExactTakeLinesUptoCard : Claim7 := { stood := { row := fnExactTakeLinesUptoRow, standIns := [], harness := (true, "9339793f18c1396e6b223999eef8421c8ff91fbaada16c3909fe7f6164329fc1"), looks := false }, kinds := [], alts := [], laidByText := true, laidKinds := [.data, .data, .pinned], laidTests := true, laidLooks := .later }
def FnExactTakeLinesUptoCardSaid : Prop := Claim7.holds Tryd.pinned (.plain (OpenSpec.upto fnExactTakeLinesSpec)) fnExactTakeLinesUptoCard
end Rows
end Go.Proofs.YtoagpfdhbcgdcaaDoor
