/- The contracts of the draws of a key with a number, and with a text. -/
import Derived.Test.YtcpepjnmjiffcaaDrawText
import Derived.Test.YtcpepjnmjiffcaaDrawKey
import Derived.Test.YtcpepjnmjiffcaaSign
namespace Go.Proofs.Ytcpepjnmjiffcaa
open Go.RowKit
set_option linter.unusedVariables false
set_option linter.unusedSimpArgs false
/-- Behind the reader's opening: the result's block lies ahead of the reader. -/
theorem rowAt {w w' : World} {r : Nat} {o : Obj} (h : w.heap[r]? = some o) {g : Nat} (G : w.grownBy w' (some g)) (hne : r ≠ g) : w'.heap[r]? = some o :=
  (G.block r (Array.getElem?_eq_some_iff.1 h).1 (fun e => by injection e with e; exact hne e)).trans h
/-- A store into a block that holds no bytes: the reader's bytes lie elsewhere. -/
theorem rd_set {w : World} {r g p i : Nat} {cs : Array Value} {v : Value} {T : TypeId} (h : Rd w g p) (hX : w.heap[r]? = some (.cells cs T (0, 0))) (hn : ∀ (j : Nat) (x : Int), cs[j]? ≠ some (Value.int .u8 x)) (hne : r ≠ g) : Rd (w.setCell ⟨r, i, none⟩ v) g p := by
  obtain ⟨A, n, c, xs, hg, hs, hx, hn', hA⟩ := h
  have key : bytes xs ≠ [] → ∀ ad, A = some ad → ad.block ≠ r := by
    intro hv ad ha e
    subst ha
    cases xs with
    | nil => exact hv rfl
    | cons x0 xt =>
      obtain ⟨ad', had, hc⟩ := hs.see.ad (k := 0) (by simp)
      cases had
      have h0 := hc 0 (.int .u8 x0) rfl
      rw [addr_zero] at h0
      unfold World.cell? at h0
      rw [e, hX] at h0
      revert h0
      cases ad.spot with
      | some _ => intro h0; simp at h0
      | none => intro h0; exact hn _ _ h0
  have s1 := hs.see.setCell (p := ⟨r, i, none⟩) key v
  refine ⟨A, n, c, xs, ?_, ⟨s1, hs.len, hs.cap, hs.max⟩, hx, hn', hA⟩
  rw [heap_setCell_other _ ⟨r, i, none⟩ g _ (fun e => hne e.symm)]
  exact hg
theorem rd_key {w : World} {r g p : Nat} {x y z a b e : Int} {T : TypeId} (h : Rd w g p) (hX : w.heap[r]? = some (.cells #[.int .i64 x, .int .i64 y, .int .i64 z] T (0, 0))) (hne : r ≠ g) :
    Rd (((w.setCell ⟨r, 0, none⟩ (.int .i64 a)).setCell ⟨r, 1, none⟩ (.int .i64 b)).setCell ⟨r, 2, none⟩ (.int .i64 e)) g p := by
  have h1 := heap_setCell_same w r 0 _ T (.int .i64 a) hX
  have h2 := heap_setCell_same _ r 1 _ T (.int .i64 b) h1
  have nb : ∀ (p q s : Int) (j : Nat) (x : Int), (#[Value.int .i64 p, Value.int .i64 q, Value.int .i64 s] : Array Value)[j]? ≠ some (.int .u8 x) := by
    intro p q s j x
    rcases j with _ | _ | _ | j <;> simp
  refine rd_set (rd_set (rd_set h hX (nb _ _ _) hne) h1 ?_ hne) h2 ?_ hne
  · simpa using nb a y z
  · simpa using nb a b z
end Go.Proofs.Ytcpepjnmjiffcaa
