/- What TakeLines comes to. -/
import Derived.Test.YtoagpfdhbcgdcaaDoorRdAcI
import Derived.Test.YtoagpfdhbcgdcaaDoorRdAcS
import Derived.Test.YtoagpfdhbcgdcaaDoorTakeI
import Derived.Test.YtoagpfdhbcgdcaaDoorTakeS
import Derived.Test.YtoagpfdhbcgdcaaDoorTrSt
import Derived.Test.YtoagpfdhbcgdcaaDoorPlainTake
namespace Go.Proofs.YtoagpfdhbcgdcaaDoor
open Go.RowKit
set_option linter.unusedVariables false
set_option linter.unusedSimpArgs false
abbrev TlSt := List Hd × List Int × Int
def tlStep (st : TlSt) (l : ByteArray) : TlSt := if (raV l).2 = true then (tkF st.1 st.2.1 (raV l).1.1 (raV l).1.2.1 (raV l).1.2.2.1 (raV l).1.2.2.2.1 (raV l).1.2.2.2.2, tkZ st.1 st.2.1 (raV l).1.1 (raV l).1.2.1 (raV l).1.2.2.1 (raV l).1.2.2.2.1 (raV l).1.2.2.2.2, st.2.2 + tkN st.1 st.2.1 (raV l).1.1 (raV l).1.2.1 (raV l).1.2.2.1 (raV l).1.2.2.2.1 (raV l).1.2.2.2.2) else st
@[irreducible] def tlTo (xs : List Hd) (zs : List Int) (ls : List ByteArray) (k : Nat) : TlSt := (ls.take k).foldl tlStep (xs, zs, 0)
@[irreducible] def tlV (xs : List Hd) (zs : List Int) (ls : List ByteArray) : TlSt := if ibV xs zs = true ∧ ls.length ≤ 30 then ls.foldl tlStep (xs, zs, 0) else ([], [], -1)
section
variable {xs : List Hd} {zs : List Int} {ls : List ByteArray} {k : Nat} {l : ByteArray}
theorem tlTo_eq : tlTo xs zs ls k = (ls.take k).foldl tlStep (xs, zs, 0) := by unfold tlTo; rfl
theorem tlTo_zero : tlTo xs zs ls 0 = (xs, zs, 0) := by unfold tlTo; rfl
theorem tlTo_next (h : ls[k]? = some l) : tlTo xs zs ls (k + 1) = tlStep (tlTo xs zs ls k) l := by
  rw [tlTo_eq, tlTo_eq, List.take_add_one, h, List.foldl_append]; rfl
theorem tl_no1 (h : ibV xs zs = false) : tlV xs zs ls = ([], [], -1) := by unfold tlV; rw [if_neg (by rw [h]; simp)]
theorem tl_no2 (h : ¬ ls.length ≤ 30) : tlV xs zs ls = ([], [], -1) := by unfold tlV; rw [if_neg (fun e => h e.2)]
theorem tl_yes (h : ibV xs zs = true) (hl : ls.length ≤ 30) : tlV xs zs ls = tlTo xs zs ls ls.length := by unfold tlV; rw [if_pos ⟨h, hl⟩, tlTo_eq, List.take_length]
theorem tlStep_yes {F : List Hd} {Z : List Int} {q : Int} {kd mk : Int} {a b s : ByteArray} (h : raV l = ((kd, mk, a, b, s), true)) : tlStep (F, Z, q) l = (tkF F Z kd mk a b s, tkZ F Z kd mk a b s, q + tkN F Z kd mk a b s) := by unfold tlStep; rw [h, if_pos rfl]
theorem tlStep_no {F : List Hd} {Z : List Int} {q : Int} {x : Ac} (h : raV l = (x, false)) : tlStep (F, Z, q) l = (F, Z, q) := by unfold tlStep; rw [h, if_neg (by simp)]
theorem tkN_range {F : List Hd} {Z : List Int} {kd mk : Int} {a b s : ByteArray} (h1 : ibV F Z = true) (h2 : avalV kd mk a b s = true) : 0 ≤ tkN F Z kd mk a b s ∧ tkN F Z kd mk a b s ≤ 1 := by
  by_cases h : adig kd mk a b s ∈ Z
  · rw [(tk_old h1 h2 h).2.2]; omega
  · rw [(tk_new h1 h2 h).2.2]; omega
/-- The inbox stays valid, and not more is new than lines are read. -/
theorem step_inv {st : TlSt} (h : ibV st.1 st.2.1 = true) (l : ByteArray) : ibV (tlStep st l).1 (tlStep st l).2.1 = true ∧ st.2.2 ≤ (tlStep st l).2.2 ∧ (tlStep st l).2.2 ≤ st.2.2 + 1 := by
  unfold tlStep
  by_cases hr : (raV l).2 = true
  · rw [if_pos hr]
    have hv := ra_valid hr
    have hn := tkN_range h hv
    exact ⟨tk_valid h hv, by show st.2.2 ≤ st.2.2 + _; omega, by show st.2.2 + _ ≤ _; omega⟩
  · rw [if_neg hr]; exact ⟨h, Int.le_refl _, by omega⟩
theorem fold_inv : ∀ (ls : List ByteArray) (st : TlSt), ibV st.1 st.2.1 = true → ibV (ls.foldl tlStep st).1 (ls.foldl tlStep st).2.1 = true ∧ st.2.2 ≤ (ls.foldl tlStep st).2.2 ∧ (ls.foldl tlStep st).2.2 ≤ st.2.2 + ls.length
  | [], st, h => ⟨h, Int.le_refl _, by simp⟩
  | l :: ls, st, h => by
    obtain ⟨h1, h2, h3⟩ := step_inv h l
    obtain ⟨h4, h5, h6⟩ := fold_inv ls (tlStep st l) h1
    refine ⟨h4, Int.le_trans h2 h5, ?_⟩
    simp only [List.foldl_cons, List.length_cons]
    push_cast
    omega
theorem tlTo_inv (h : ibV xs zs = true) (k : Nat) : ibV (tlTo xs zs ls k).1 (tlTo xs zs ls k).2.1 = true ∧ 0 ≤ (tlTo xs zs ls k).2.2 ∧ (tlTo xs zs ls k).2.2 ≤ k := by
  rw [tlTo_eq]
  obtain ⟨h1, h2, h3⟩ := fold_inv (ls.take k) (xs, zs, 0) h
  refine ⟨h1, h2, ?_⟩
  have : (ls.take k).length ≤ k := by simp; omega
  have h4 : ((xs, zs, (0 : Int)) : TlSt).2.2 = 0 := rfl
  omega
theorem fol_hdok (h : folV xs = true) : hdOk xs := by
  intro x hx
  have hv := (folV_iff.1 h).2.1 x hx
  have h1 : wordV x.1 = true ∧ wordV x.2 = true := by unfold val at hv; unfold hvalV at hv; simpa using hv
  have a := (wordV_iff.1 h1.1).2.1
  have b := (wordV_iff.1 h1.2).2.1
  exact ⟨by omega, by omega⟩
theorem ib_hdok (h : ibV xs zs = true) : hdOk xs := fol_hdok (ib_parts h).1
end
theorem IbVal.weak {N : Nat} {F : List Hd} {Z : List Int} {P : Prop} {v : Value} {a : World} (h : IbVal N F Z P v a) : IbVal N F Z False v a := by
  obtain ⟨C, n, c, D, m, d, e, o, s, t, p⟩ := h
  exact ⟨C, n, c, D, m, d, e, o, s, t, fun hp => hp.elim⟩
end Go.Proofs.YtoagpfdhbcgdcaaDoor
