/- The walk of FnSignText: it returns true and turns nothing that was there. -/
import Derived.Test.YthbjbodkbpbbaaaDrawSg
import Derived.Test.YthbjbodkbpbbaaaSignText
import Derived.Laws.StructEq
namespace Go.Proofs.Ythbjbodkbpbbaaa.fnSignText
open Go.RowKit
set_option linter.unusedVariables false
set_option linter.unusedSimpArgs false
theorem neqSigned (s : ByteArray) (m x g : Int) (W : World) : (binOp .neq 32 (sigA s m x g) (sigA s m x g)).run Try.prog W = .ok (.bool false) W := by
  rw [run_neq_struct, run_equalIn_agg _ _ _ _ _ (by kernel_rfl) (by kernel_rfl)]
  simp [go_sem, Op.eqFields]
theorem eqlSigned (s : ByteArray) (m x g : Int) (W : World) : (binOp .eql 32 (sigA s m x g) (sigA s m x g)).run Try.prog W = .ok (.bool true) W := by
  rw [run_eql_struct, run_equalIn_agg _ _ _ _ _ (by kernel_rfl) (by kernel_rfl)]
  simp [go_sem, Op.eqFields]
theorem sgV_cases (a b e : Int) (s : ByteArray) : sgV a b e s = ((⟨#[]⟩, 0, 0, 0), false) ∨ (sgV a b e s = ((s, a * b, e, signF a b e (digF s % (a * b))), true) ∧ byV s (a * b) e (signF a b e (digF s % (a * b))) a b e = true) := by
  cases ht : textV s with
  | false => exact .inl (sgV_no1 ht)
  | true =>
    cases hv : keyV a b e with
    | false => exact .inl (sgV_no2 hv)
    | true => exact .inr ⟨sgV_yes ht hv, (signed_right hv ht).2⟩
set_option maxHeartbeats 1000000 in
theorem walk (a0 : Option Addr) (len0 cap0 : Nat) (z0 : List Int) (w : World) (w0 : Row .u8 w a0 len0 cap0 z0) :
    Calls Try.prog 12 #[.slice a0 len0 cap0] w fun e w' => e = .returned (.bool true) ∧ Below w.heap.size w w' := by
  have hmax := w0.sl.max
  have hcap := w0.sl.cap
  unfold maxLen at hmax
  by_cases hn : 1048576 < len0
  · go_enter Try.func12, Try.ntmps12
    go_wp2
    go_ret
    exact ⟨rfl, Below.refl _ _⟩
  · go_enter Try.func12, Try.ntmps12
    go_wp2_with fail
    refine (drawSignText_any _ _ _ _ _ w0).mono ?_
    rintro e' w1 ⟨a, b, e, s, rfl, hs, T1⟩
    clear w0 hmax hcap hn
    have ks : (w1.alloc (.cells #[.int .i64 a, .int .i64 b, .int .i64 e] 36)).heap[w1.heap.size]? = some (.cells #[.int .i64 a, .int .i64 b, .int .i64 e] 36 (0, 0)) := alloc_new' rfl
    have TV := T1.alloc T1.size (.cells #[.int .i64 a, .int .i64 b, .int .i64 e] 36)
    have HK := hid (And.intro ks TV)
    clear ks TV
    go_wp2_with fail
    obtain ⟨ks, TV⟩ := HK.out
    clear HK
    revert ks TV
    generalize (w1.alloc (.cells #[.int .i64 a, .int .i64 b, .int .i64 e] 36)) = V
    intro ks TV
    have B0 := hid (cell_of_row V w1.heap.size 0 _ _ _ ks)
    have B1 := hid (cell_of_row V w1.heap.size 1 _ _ _ ks)
    have B2 := hid (cell_of_row V w1.heap.size 2 _ _ _ ks)
    have HTV := hid TV
    clear ks TV T1
    have fin : ∀ W, Ext.of V W → Below w.heap.size w W := fun W X => HTV.out.trans (X.below.mono HTV.out.size)
    have hs' : s.size ≤ 9223372036854775807 := by omega
    obtain ⟨s', m, x, g, p, hV⟩ : ∃ s' m x g p, sgV a b e s = ((s', m, x, g), p) := ⟨_, _, _, _, _, rfl⟩
    have CS := fun W => sgnS_any a b e s W hs'
    have CI := fun W => sgnI_any a b e s W hs'
    have hc := sgV_cases a b e s
    rw [hV] at CS CI hc
    dsimp only [SigRes] at CS CI
    have HC := hid hc
    have HS := hid hs'
    clear hV hc hs hs'
    have hN := neqSigned s' m x g
    refine (CI _).mono ?_
    rintro e' w2 ⟨rfl, b2⟩
    have X2 := (Ext.of_below b2).alloc (.cells #[.string s', .int .i64 m, .int .i64 x, .int .i64 g] 32)
    have g2 : (w2.alloc (.cells #[.string s', .int .i64 m, .int .i64 x, .int .i64 g] 32)).heap[w2.heap.size]? = some (.cells #[.string s', .int .i64 m, .int .i64 x, .int .i64 g] 32 (0, 0)) := alloc_new' rfl
    have HG2 := hid g2
    clear b2 g2
    have bx0 := X2.cell B0.out
    have bx1 := X2.cell B1.out
    have bx2 := X2.cell B2.out
    go_wp2_with fail
    clear bx0 bx1 bx2
    refine (CS _).mono ?_
    rintro e' w3 ⟨rfl, b3⟩
    have x3 := (Ext.of_below b3).alloc (.cells #[.string s', .int .i64 m, .int .i64 x, .int .i64 g] 32)
    have g3 : (w3.alloc (.cells #[.string s', .int .i64 m, .int .i64 x, .int .i64 g] 32)).heap[w3.heap.size]? = some (.cells #[.string s', .int .i64 m, .int .i64 x, .int .i64 g] 32 (0, 0)) := alloc_new' rfl
    have g2 := (x3.block (Array.getElem?_eq_some_iff.1 HG2.out).1).trans HG2.out
    have X3 := X2.trans x3
    clear b3 x3 X2 CI CS HG2
    have p0 := cell_of_row _ w2.heap.size 0 _ _ _ g2
    have p1 := cell_of_row _ w2.heap.size 1 _ _ _ g2
    have p2 := cell_of_row _ w2.heap.size 2 _ _ _ g2
    have p3 := cell_of_row _ w2.heap.size 3 _ _ _ g2
    have q0 := cell_of_row _ w3.heap.size 0 _ _ _ g3
    have q1 := cell_of_row _ w3.heap.size 1 _ _ _ g3
    have q2 := cell_of_row _ w3.heap.size 2 _ _ _ g3
    have q3 := cell_of_row _ w3.heap.size 3 _ _ _ g3
    clear g2 g3
    rcases HC.out with h | ⟨h, hby⟩
    · simp only [Prod.mk.injEq] at h
      obtain ⟨⟨rfl, rfl, rfl, rfl⟩, rfl⟩ := h
      have hE := eqlSigned ⟨#[]⟩ 0 0 0
      go_wp2_with (go_at_call 17; refine (alive_any _).mono ?_; rintro e w' ⟨rfl, rfl⟩)
      go_ret
      exact ⟨rfl, fin _ X3⟩
    · simp only [Prod.mk.injEq] at h
      obtain ⟨⟨rfl, hm, hx, hg⟩, rfl⟩ := h
      have CB := fun W => byI_any s' m x g a b e W HS.out
      have hby' : byV s' m x g a b e = true := by rw [hg, hm, hx]; exact hby
      rw [hby'] at CB
      clear hm hx hg hby hby' HC
      have t0 : (s'.toList == s'.toList) = true := by simp
      have bx0 := X3.cell B0.out
      have bx1 := X3.cell B1.out
      have bx2 := X3.cell B2.out
      go_wp2_with fail
      refine (CB _).mono ?_
      rintro e' w4 ⟨rfl, x4⟩
      have X4 := X3.trans x4
      clear x4 X3 p0 p1 p2 p3 q0 q1 q2 q3 bx0 bx1 bx2
      go_wp2_with fail
      go_ret
      exact ⟨rfl, fin _ X4⟩
end Go.Proofs.Ythbjbodkbpbbaaa.fnSignText
