/- A region that draws its order, makes one block and stores a struct into it. -/
import Derived.Test.YtoagpfdhbcgdcaaDoorG3
import Derived.Test.YtoagpfdhbcgdcaaDoorDrawAc
namespace Go.Proofs.YtoagpfdhbcgdcaaDoor
open Go.RowKit
set_option linter.unusedVariables false
def TrO (d st i : Nat) (a b : World) : Prop := if i = d then True else if i = st then b.heap.size = a.heap.size else a = b
theorem TrO.size {d st i : Nat} {a b : World} (h : TrO d st i a b) (hi : i ≠ d) : b.heap.size = a.heap.size := by
  unfold TrO at h
  rw [if_neg hi] at h
  by_cases hs : i = st
  · rwa [if_pos hs] at h
  · rw [if_neg hs] at h; rw [h]
theorem TrO.same {d st i : Nat} {a b : World} (h : TrO d st i a b) (h1 : i ≠ d) (h2 : i ≠ st) : a = b := by
  unfold TrO at h
  rwa [if_neg h1, if_neg h2] at h
theorem TrO.rfl' {d st i : Nat} {a : World} (h1 : i ≠ d) (h2 : i ≠ st) : TrO d st i a a := by unfold TrO; rw [if_neg h1, if_neg h2]
theorem TrO.new {d st : Nat} {a b : World} : TrO d st d a b := by unfold TrO; rw [if_pos rfl]; trivial
theorem TrO.store {d st : Nat} {a b : World} (h : st ≠ d) (hs : b.heap.size = a.heap.size) : TrO d st st a b := by unfold TrO; rw [if_neg h, if_pos rfl]; exact hs
def WO (N : Nat) (W0 : World) (P : World → Prop) (u : World) : Prop := Below N W0 u ∧ (u.heap.size = N ∨ (N < u.heap.size ∧ P u))
theorem WO.first {W0 : World} {P : World → Prop} : WO W0.heap.size W0 P W0.drew := ⟨(Below.refl _ _).drew, .inl rfl⟩
theorem WO.new {N : Nat} {W0 u : World} {P : World → Prop} {o : Obj} (h : WO N W0 P u) (hN : u.heap.size = N) (hP : P (u.alloc o)) : WO N W0 P (u.alloc o) :=
  ⟨h.1.alloc (Nat.le_of_eq hN.symm) o, .inr ⟨by rw [← hN]; simp, hP⟩⟩
def Row2 (N : Nat) (T : TypeId) (u : World) : Prop := ∃ x y, u.heap[N]? = some (.cells #[x, y] T (0, 0))
def Row5 (N : Nat) (T : TypeId) (u : World) : Prop := ∃ x y z p q, u.heap[N]? = some (.cells #[x, y, z, p, q] T (0, 0))
theorem WO.row {N : Nat} {W0 u : World} {P : World → Prop} (h : WO N W0 P u) (hN : N < u.heap.size) : P u := by
  rcases h.2 with e | e
  · omega
  · exact e.2
theorem WO.store {N : Nat} {W0 u u' : World} {P : World → Prop} (h : WO N W0 P u) (hN : N < u.heap.size) (G : u.grownBy u' (some N)) (hP : P u') : WO N W0 P u' :=
  ⟨h.1.grown G (Nat.le_of_lt hN) (by rintro _ ⟨rfl⟩; exact Nat.le_refl _), .inr ⟨Nat.lt_of_lt_of_le hN G.size, hP⟩⟩
end Go.Proofs.YtoagpfdhbcgdcaaDoor
