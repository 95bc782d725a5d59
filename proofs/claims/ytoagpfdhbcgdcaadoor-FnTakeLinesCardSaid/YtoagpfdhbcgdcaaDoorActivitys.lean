/- The contracts of the laws' functions over lists: Activity. -/
import Derived.Test.YtoagpfdhbcgdcaaDoorG2
import Derived.Test.YtoagpfdhbcgdcaaDoorG1
namespace Go.Proofs.YtoagpfdhbcgdcaaDoor
open Go.RowKit
set_option linter.unusedVariables false
abbrev Ac := Int × Int × ByteArray × ByteArray × ByteArray
abbrev acC (x : Ac) : List Value := [.int .i64 x.1, .int .i64 x.2.1, .string x.2.2.1, .string x.2.2.2.1, .string x.2.2.2.2]
theorem acC_len (x : Ac) : (acC x).length = 5 := rfl
abbrev acs (xs : List Ac) : List Value := flat acC xs
theorem Sl.ac {w : World} {A : Option Addr} {n c : Nat} {xs : List Ac} (h : Sl w A n c 5 (acs xs)) {j : Nat} (hj : j < n) :
    ∃ ad e f a b s, A = some ad ∧ xs[j]? = some (e, f, a, b, s) ∧ w.cell? (ad.add (j * 5)) = some (.int .i64 e) ∧ w.cell? ⟨(ad.add (j * 5)).block, (ad.add (j * 5)).off + 1, none⟩ = some (.int .i64 f) ∧ w.cell? ⟨(ad.add (j * 5)).block, (ad.add (j * 5)).off + 2, none⟩ = some (.string a) ∧ w.cell? ⟨(ad.add (j * 5)).block, (ad.add (j * 5)).off + 3, none⟩ = some (.string b) ∧ w.cell? ⟨(ad.add (j * 5)).block, (ad.add (j * 5)).off + 4, none⟩ = some (.string s) := by
  obtain ⟨ad, ⟨e, f, a, b, s⟩, h1, h2, h3⟩ := h.elem acC_len (by omega) hj
  exact ⟨ad, e, f, a, b, s, h1, h2, h3 0 _ rfl, by rw [addr_step _ _ _ (by omega)]; exact h3 1 _ rfl, by rw [addr_step _ _ _ (by omega)]; exact h3 2 _ rfl, by rw [addr_step _ _ _ (by omega)]; exact h3 3 _ rfl, by rw [addr_step _ _ _ (by omega)]; exact h3 4 _ rfl⟩
theorem acs_at {xs : List Ac} {j : Nat} {a b s : ByteArray} {e f : Int} (h : xs[j]? = some (e, f, a, b, s)) : (acs xs)[j * 5]? = some (.int .i64 e) ∧ (acs xs)[j * 5 + 1]? = some (.int .i64 f) ∧ (acs xs)[j * 5 + 2]? = some (.string a) ∧ (acs xs)[j * 5 + 3]? = some (.string b) ∧ (acs xs)[j * 5 + 4]? = some (.string s) := by
  exact ⟨flat_get acC_len h (show 0 < 5 by omega), flat_get acC_len h (show 1 < 5 by omega), flat_get acC_len h (show 2 < 5 by omega), flat_get acC_len h (show 3 < 5 by omega), flat_get acC_len h (show 4 < 5 by omega)⟩
theorem eltActivity : Elt Tryd.prog 90 30 5 64 := elt_mk (z := .agg #[.int .i64 0, .int .i64 0, .string ⟨#[]⟩, .string ⟨#[]⟩, .string ⟨#[]⟩]) (by kernel_rfl) rfl Tryd.underlying90 (by decide)
/-- The marks from k on. -/
def acMark (k n : Nat) : List Ac := (List.range n).map fun j => (((k + j * 5 : Nat) : Int), ((k + j * 5 + 1 : Nat) : Int), mtB (k + j * 5 + 2), mtB (k + j * 5 + 3), mtB (k + j * 5 + 4))
theorem acMark_len (k n : Nat) : (acMark k n).length = n := by simp [acMark]
theorem acMark_at {k n j : Nat} (h : j < n) : (acMark k n)[j]? = some (((k + j * 5 : Nat) : Int), ((k + j * 5 + 1 : Nat) : Int), mtB (k + j * 5 + 2), mtB (k + j * 5 + 3), mtB (k + j * 5 + 4)) := by simp [acMark, h]
end Go.Proofs.YtoagpfdhbcgdcaaDoor
