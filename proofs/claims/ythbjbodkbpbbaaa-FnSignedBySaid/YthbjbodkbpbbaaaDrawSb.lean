/- The contracts of the draws of a signature for the laws, and of one with a key. -/
import Derived.Test.YthbjbodkbpbbaaaDrawSigned
import Derived.Test.YthbjbodkbpbbaaaDrawSg
namespace Go.Proofs.Ythbjbodkbpbbaaa
open Go.RowKit
set_option linter.unusedVariables false
set_option linter.unusedSimpArgs false
theorem nb4 (s : ByteArray) (m x q : Int) (j : Nat) (y : Int) : (#[Value.string s, Value.int .i64 m, Value.int .i64 x, Value.int .i64 q] : Array Value)[j]? ≠ some (.int .u8 y) := by
  rcases j with _ | _ | _ | _ | j <;> simp
/-- Four stores into a block of a signature that lies ahead of the reader. -/
theorem rd_sig {w : World} {r g p : Nat} {s s' : ByteArray} {m x q m' x' q' : Int} {T : TypeId} (h : Rd w g p) (hX : w.heap[r]? = some (.cells #[.string s, .int .i64 m, .int .i64 x, .int .i64 q] T (0, 0))) (hne : r ≠ g) :
    Rd ((((w.setCell ⟨r, 0, none⟩ (.string s')).setCell ⟨r, 1, none⟩ (.int .i64 m')).setCell ⟨r, 2, none⟩ (.int .i64 x')).setCell ⟨r, 3, none⟩ (.int .i64 q')) g p := by
  have h1 := heap_setCell_same w r 0 _ T (.string s') hX
  have h2 := heap_setCell_same _ r 1 _ T (.int .i64 m') h1
  have h3 := heap_setCell_same _ r 2 _ T (.int .i64 x') h2
  refine rd_set (rd_set (rd_set (rd_set h hX (nb4 _ _ _ _) hne) h1 ?_ hne) h2 ?_ hne) h3 ?_ hne
  · simpa using nb4 s' m x q
  · simpa using nb4 s' m' x q
  · simpa using nb4 s' m' x' q
set_option maxHeartbeats 1000000 in
theorem drawSigRight_any (A : Option Addr) (n c : Nat) (xs : List Int) (w : World) (h : Row .u8 w A n c xs) :
    Calls Try.prog 38 #[.slice A n c] w fun e' w' => ∃ (s : ByteArray) (m x q : Int), e' = .returned (sigA s m x q) ∧ s.size ≤ 200 ∧ Below w.heap.size w w' := by
  have hb := h.byte
  have hr0 : (w.alloc (.cells #[.string ⟨#[]⟩, .int .i64 0, .int .i64 0, .int .i64 0] 32)).heap[w.heap.size]? = some (.cells #[.string ⟨#[]⟩, .int .i64 0, .int .i64 0, .int .i64 0] 32 (0, 0)) := alloc_new' rfl
  have b0 : Below w.heap.size w (w.alloc (.cells #[.string ⟨#[]⟩, .int .i64 0, .int .i64 0, .int .i64 0] 32)) := (Below.refl _ _).alloc (Nat.le_refl _) _
  have hz0 : (w.alloc (.cells #[.string ⟨#[]⟩, .int .i64 0, .int .i64 0, .int .i64 0] 32)).heap.size = w.heap.size + 1 := by simp
  go_enter Try.func38, Try.ntmps38
  go_wp2_with fail
  refine (open_any A n c xs _ (h.sl.alloc _) hb).mono ?_
  rintro e' w1 ⟨rfl, R1, B1⟩
  rw [hz0] at R1 B1
  have r1 := (B1.block w.heap.size (by omega)).trans hr0
  have T1 := b0.trans (B1.mono (Nat.le_succ _))
  clear B1 hr0 b0 h hb hz0
  go_wp2_with fail
  refine (signed_any (w.heap.size + 1) _ _ R1 (by omega)).mono ?_
  rintro e' w2 ⟨s, m, x, q, rfl, hs, p2, l1, l2, R2, G2⟩
  have r2 := rowAt r1 G2 (by omega)
  have T2 := T1.grown G2 T1.size (by rintro _ ⟨rfl⟩; omega)
  clear R1 R2 G2 r1 T1
  have f0 := frozen_of_row w2 w.heap.size 0 _ _ r2
  have f1 := frozen_of_row w2 w.heap.size 1 _ _ r2
  have f2 := frozen_of_row w2 w.heap.size 2 _ _ r2
  have f3 := frozen_of_row w2 w.heap.size 3 _ _ r2
  have z0 := cell_of_row w2 w.heap.size 0 _ _ _ r2
  have z1 := cell_of_row w2 w.heap.size 1 _ _ _ r2
  have z2 := cell_of_row w2 w.heap.size 2 _ _ _ r2
  have z3 := cell_of_row w2 w.heap.size 3 _ _ _ r2
  go_wp2
  have ks := row4 (a := .string s) (b := .int .i64 m) (c := .int .i64 x) (d := .int .i64 q) r2
  have T5 := T2.grown ks.2 T2.size (by rintro _ ⟨rfl⟩; exact Nat.le_refl _)
  revert ks T5
  generalize ((((w2.setCell ⟨w.heap.size, 0, none⟩ (.string s)).setCell ⟨w.heap.size, 1, none⟩ (.int .i64 m)).setCell ⟨w.heap.size, 2, none⟩ (.int .i64 x)).setCell ⟨w.heap.size, 3, none⟩ (.int .i64 q)) = V
  intro ks T5
  have v0 := cell_of_row V w.heap.size 0 _ _ _ ks.1
  have v1 := cell_of_row V w.heap.size 1 _ _ _ ks.1
  have v2 := cell_of_row V w.heap.size 2 _ _ _ ks.1
  have v3 := cell_of_row V w.heap.size 3 _ _ _ ks.1
  exact bodyPost_ret (v := sigA s m x q) (by simp [results, Try.results38, go_sem, v0, v1, v2, v3]) rfl ⟨s, m, x, q, rfl, hs, T5⟩
end Go.Proofs.Ythbjbodkbpbbaaa
