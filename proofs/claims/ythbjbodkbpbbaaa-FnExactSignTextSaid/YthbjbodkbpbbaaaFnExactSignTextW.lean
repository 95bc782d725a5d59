/- The walk of FnExactSignText: it returns true and turns nothing that was there. -/
import Derived.Test.YthbjbodkbpbbaaaSignText
namespace Go.Proofs.Ythbjbodkbpbbaaa.fnExactSignText
open Go.RowKit
set_option linter.unusedVariables false
set_option linter.unusedSimpArgs false
theorem eqSigned_same (s : ByteArray) (m x g : Int) (w : World) : Calls Try.prog 35 #[sigA s m x g, sigA s m x g] w fun e' w' => e' = .returned (.bool true) ∧ Ext.of w w' := by
  have z2 : (!(s.toList == s.toList)) = false := by simp
  go_enter Try.func35, Try.ntmps35
  go_wp2
  go_ret
  exact ⟨rfl, ((Ext.of.refl _).alloc _).alloc _⟩
set_option maxHeartbeats 1000000 in
theorem walk (a b e : Int) (s : ByteArray) (w : World) (w0 : (Lit.int .i64 a).wf = true) (w1 : (Lit.int .i64 b).wf = true) (w2 : (Lit.int .i64 e).wf = true) (w3 : s.size ≤ maxLen) :
    Calls Try.prog 9 #[keyA a b e, .string s] w fun e' w' => e' = .returned (.bool true) ∧ Below w.heap.size w w' := by
  clear w0 w1 w2
  have hs : s.size ≤ 9223372036854775807 := by unfold maxLen at w3; omega
  clear w3
  have hE : Ext.of w (w.alloc (.cells #[.int .i64 a, .int .i64 b, .int .i64 e] 39)) := (Ext.of.refl _).alloc _
  have hk : (w.alloc (.cells #[.int .i64 a, .int .i64 b, .int .i64 e] 39)).heap[w.heap.size]? = some (.cells #[.int .i64 a, .int .i64 b, .int .i64 e] 39 (0, 0)) := alloc_new' rfl
  have k0 := cell_of_row _ w.heap.size 0 _ _ _ hk
  have k1 := cell_of_row _ w.heap.size 1 _ _ _ hk
  have k2 := cell_of_row _ w.heap.size 2 _ _ _ hk
  clear hk
  by_cases hn : 1048576 < s.size
  · clear k0 k1 k2
    go_enter Try.func9, Try.ntmps9
    go_wp2
    go_ret
    exact ⟨rfl, hE.below⟩
  · obtain ⟨s', m, x, g, p, hV⟩ : ∃ s' m x g p, sgV a b e s = ((s', m, x, g), p) := ⟨_, _, _, _, _, rfl⟩
    have CS := fun W => sgnS_any a b e s W hs
    have CI := fun W => sgnI_any a b e s W hs
    rw [hV] at CS CI
    dsimp only [SigRes] at CS CI
    clear hV hs
    go_enter Try.func9, Try.ntmps9
    go_wp2_with fail
    refine (toKey_any _ _ _ _).mono ?_
    rintro e' w1 ⟨rfl, x1⟩
    have hE1 := hE.trans x1
    have k0 := x1.cell k0
    have k1 := x1.cell k1
    have k2 := x1.cell k2
    clear hE x1
    go_wp2_with fail
    refine (CS _).mono ?_
    rintro e' w2 ⟨rfl, b2⟩
    have x2 := (Ext.of_below b2).alloc (.cells #[.string s', .int .i64 m, .int .i64 x, .int .i64 g] 32)
    have g2 : (w2.alloc (.cells #[.string s', .int .i64 m, .int .i64 x, .int .i64 g] 32)).heap[w2.heap.size]? = some (.cells #[.string s', .int .i64 m, .int .i64 x, .int .i64 g] 32 (0, 0)) := alloc_new' rfl
    have hE2 := hE1.trans x2
    have k0 := x2.cell k0
    have k1 := x2.cell k1
    have k2 := x2.cell k2
    clear hE1 x2 b2
    have HG2 := hid g2
    clear g2
    go_wp2_with fail
    refine (toKey_any _ _ _ _).mono ?_
    rintro e' w3 ⟨rfl, x3⟩
    have hE3 := hE2.trans x3
    have g3 := (x3.block (Array.getElem?_eq_some_iff.1 HG2.out).1).trans HG2.out
    clear hE2 x3 k0 k1 k2 HG2
    have HG3 := hid g3
    clear g3
    go_wp2_with fail
    refine (CI _).mono ?_
    rintro e' w4 ⟨rfl, b4⟩
    have x4 := (Ext.of_below b4).alloc (.cells #[.string s', .int .i64 m, .int .i64 x, .int .i64 g] 32)
    have g4 : (w4.alloc (.cells #[.string s', .int .i64 m, .int .i64 x, .int .i64 g] 32)).heap[w4.heap.size]? = some (.cells #[.string s', .int .i64 m, .int .i64 x, .int .i64 g] 32 (0, 0)) := alloc_new' rfl
    have hE4 := hE3.trans x4
    have g3 := (x4.block (Array.getElem?_eq_some_iff.1 HG3.out).1).trans HG3.out
    clear hE3 x4 b4 HG3
    have p0 := cell_of_row _ w2.heap.size 0 _ _ _ g3
    have p1 := cell_of_row _ w2.heap.size 1 _ _ _ g3
    have p2 := cell_of_row _ w2.heap.size 2 _ _ _ g3
    have p3 := cell_of_row _ w2.heap.size 3 _ _ _ g3
    have q0 := cell_of_row _ w4.heap.size 0 _ _ _ g4
    have q1 := cell_of_row _ w4.heap.size 1 _ _ _ g4
    have q2 := cell_of_row _ w4.heap.size 2 _ _ _ g4
    have q3 := cell_of_row _ w4.heap.size 3 _ _ _ g4
    clear g3 g4
    go_wp2_with fail
    refine (eqSigned_same _ _ _ _ _).mono ?_
    rintro e' w5 ⟨rfl, x5⟩
    have hE5 := hE4.trans x5
    clear hE4 x5 p0 p1 p2 p3 q0 q1 q2 q3
    go_wp2_with fail
    go_ret
    exact ⟨rfl, hE5.below⟩
end Go.Proofs.Ythbjbodkbpbbaaa.fnExactSignText
