/- The contracts of the draws of a signature for the laws, and of one with a key. -/
import Derived.Test.YtcpepjnmjiffcaaDrawSigned
import Derived.Test.YtcpepjnmjiffcaaDrawSg
namespace Go.Proofs.Ytcpepjnmjiffcaa
open Go.RowKit
set_option linter.unusedVariables false
set_option linter.unusedSimpArgs false
theorem nb4 (s : ByteArray) (m x q : Int) (j : Nat) (y : Int) : (#[Value.string s, Value.int .i64 m, Value.int .i64 x, Value.int .i64 q] : Array Value)[j]? ≠ some (.int .u8 y) := by
  rcases j with _ | _ | _ | _ | j <;> simp
/-- Four stores into a block of a signature that lies ahead of the reader. -/
theorem rd_sig {w : World} {r g p : Nat} {s s' : ByteArray} {m x q m' x' q' : Int} {T : TypeId} (h : Rd w g p) (hX : w.heap[r]? = some (.cells #[.string s, .int .i64 m, .int .i64 x, .int .i64 q] T (0, 0))) (hne : r ≠ g) :
    Rd ((((w.setCell ⟨r, 0, none⟩ (.string s')).setCell ⟨r, 1, none⟩ (.int .i64 m')).setCell ⟨r, 2, none⟩ (.int .i64 x')).setCell ⟨r, 3, none⟩ (.int .i64 q')) g p := by
  have h1 := heap_setCell_same w r 0 _ T (.string s') hX
  have h2 := heap_setCell_same _ r 1 _ T (.int .i64 m') h1
  have h3 := heap_setCell_same _ r 2 _ T (.int .i64 x') h2
  refine rd_set (rd_set (rd_set (rd_set h hX (nb4 _ _ _ _) hne) h1 ?_ hne) h2 ?_ hne) h3 ?_ hne
  · simpa using nb4 s' m x q
  · simpa using nb4 s' m' x q
  · simpa using nb4 s' m' x' q
end Go.Proofs.Ytcpepjnmjiffcaa
