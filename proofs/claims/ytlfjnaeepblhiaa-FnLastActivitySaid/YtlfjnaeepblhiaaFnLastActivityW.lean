/- The walk of FnLastActivity: it returns true and turns nothing that was there. -/
import Derived.Test.YtlfjnaeepblhiaaLastAcS
import Derived.Test.YtlfjnaeepblhiaaDrawLast
namespace Go.Proofs.Ytlfjnaeepblhiaa.fnLastActivity
open Go.RowKit
set_option linter.unusedVariables false
set_option linter.unusedSimpArgs false
theorem eqlZero (W : World) : (binOp .eql 29 (acA 0 0 ⟨#[]⟩ ⟨#[]⟩ ⟨#[]⟩) (acA 0 0 ⟨#[]⟩ ⟨#[]⟩ ⟨#[]⟩)).run Try.prog W = .ok (.bool true) W := by
  rw [run_eql_struct, run_equalIn_agg _ _ _ _ _ (by kernel_rfl) (by kernel_rfl)]
  simp [go_sem, Op.eqFields]
set_option maxHeartbeats 2000000 in
set_option maxRecDepth 4000 in
theorem walk (a0 : Option Addr) (len0 cap0 : Nat) (z0 : List Int) (w : World) (w0 : Row .u8 w a0 len0 cap0 z0) :
    Calls Try.prog 3 #[.slice a0 len0 cap0] w fun e w' => e = .returned (.bool true) ∧ Below w.heap.size w w' := by
  have hmax := w0.sl.max
  have hcap := w0.sl.cap
  unfold maxLen at hmax
  have hZ := eqlZero
  have hN := neqActivity
  by_cases hn : 1048576 < len0
  · go_enter Try.func3, Try.ntmps3
    go_wp2
    go_ret
    exact ⟨rfl, Below.refl _ _⟩
  · go_enter Try.func3, Try.ntmps3
    go_wp2_with fail
    refine (drawLast_any _ _ _ _ _ w0).mono ?_
    rintro e1 w1 ⟨B1, k1, dq, ys, key, rfl, o1, hok, hk1, hs, T1⟩
    have HOK := hid hok
    clear w0 hmax hcap hn hok hs
    obtain ⟨e, f, a, b, s, p, hV⟩ : ∃ e f a b s p, lastV ys key = ((e, f, a, b, s), p) := ⟨_, _, _, _, _, _, rfl⟩
    have CS := fun A n c W (hS : Sl W A n c 5 (acs ys)) => lastS_any A n c ys key W hS HOK.out
    have CI := fun A n c W (hS : Sl W A n c 5 (acs ys)) => lastIm_any A n c ys key W hS HOK.out
    rw [hV] at CS CI
    dsimp only [AcRes] at CS CI
    have LAW := hid (last_cases ys key)
    rw [hV] at LAW
    clear hV
    have hQ := acQ_yes e f a b s
    go_wp2_with fail
    refine (CI _ _ _ _ (own_sl o1)).mono ?_
    rintro e1 w2 ⟨rfl, x2⟩
    have o1 := (own_ext o1 x2).alloc (.cells #[.int .i64 e, .int .i64 f, .string a, .string b, .string s] 29)
    have T2 := (below_next T1 x2.below).alloc (below_next T1 x2.below).size (.cells #[.int .i64 e, .int .i64 f, .string a, .string b, .string s] 29)
    have h5 : (w2.alloc (.cells #[.int .i64 e, .int .i64 f, .string a, .string b, .string s] 29)).heap[w2.heap.size]? = some (.cells #[.int .i64 e, .int .i64 f, .string a, .string b, .string s] 29 (0, 0)) := alloc_new' rfl
    clear x2 T1 CI
    go_wp2_with fail
    refine (CS _ _ _ _ (own_sl o1)).mono ?_
    rintro e1 w3 ⟨rfl, x3⟩
    have h5 := alloc_old (o := (.cells #[.int .i64 e, .int .i64 f, .string a, .string b, .string s] 29)) ((x3.block (Array.getElem?_eq_some_iff.1 h5).1).trans h5)
    have o1 := (own_ext o1 x3).alloc (.cells #[.int .i64 e, .int .i64 f, .string a, .string b, .string s] 29)
    have T3 := (below_next T2 x3.below).alloc (below_next T2 x3.below).size (.cells #[.int .i64 e, .int .i64 f, .string a, .string b, .string s] 29)
    have h7 : (w3.alloc (.cells #[.int .i64 e, .int .i64 f, .string a, .string b, .string s] 29)).heap[w3.heap.size]? = some (.cells #[.int .i64 e, .int .i64 f, .string a, .string b, .string s] 29 (0, 0)) := alloc_new' rfl
    clear x3 T2 CS
    have c0 := cell_of_row _ w2.heap.size 0 _ _ _ h5
    have c1 := cell_of_row _ w2.heap.size 1 _ _ _ h5
    have c2 := cell_of_row _ w2.heap.size 2 _ _ _ h5
    have c3 := cell_of_row _ w2.heap.size 3 _ _ _ h5
    have c4 := cell_of_row _ w2.heap.size 4 _ _ _ h5
    have d0 := cell_of_row _ w3.heap.size 0 _ _ _ h7
    have d1 := cell_of_row _ w3.heap.size 1 _ _ _ h7
    have d2 := cell_of_row _ w3.heap.size 2 _ _ _ h7
    have d3 := cell_of_row _ w3.heap.size 3 _ _ _ h7
    have d4 := cell_of_row _ w3.heap.size 4 _ _ _ h7
    clear h7
    cases p with
    | false =>
      have E : (e, f, a, b, s) = ((0 : Int), (0 : Int), (⟨#[]⟩ : ByteArray), (⟨#[]⟩ : ByteArray), (⟨#[]⟩ : ByteArray)) := by
        rcases LAW.out with h | ⟨y, h, _⟩
        · injection h
        · injection h with _ h; cases h
      injection E with E1 E
      injection E with E2 E
      injection E with E3 E
      injection E with E4 E5
      subst E1 E2 E3 E4 E5
      go_wp2_with (go_at_call 12; refine (alive_any _).mono ?_; rintro e' w' ⟨rfl, rfl⟩)
      go_ret
      exact ⟨rfl, T3⟩
    | true =>
      have L := hid (show s = key ∧ ∀ (j : Nat) (x : Ac), ys[j]? = some x → x.2.2.2.2 = key → x.2.1 ≤ f by
        rcases LAW.out with h | ⟨y, h, h1, h2⟩
        · injection h with _ h; cases h
        · injection h with h _; subst h; exact ⟨h1, h2⟩)
      clear LAW
      go_wp2_with fail
      go_loopw [9] (fun i wr => ∃ i' : Nat, i' ≤ k1 ∧ i = .int .i64 i' ∧ wr.ownsRow w.heap.size 29 5 (.slice B1 k1 dq) k1 (acs ys) ∧ wr.heap[w2.heap.size]? = some (.cells #[.int .i64 e, .int .i64 f, .string a, .string b, .string s] 29 (0, 0)) ∧ Below w.heap.size w wr) (fun i _ => k1 - (intOf i).toNat)
      case atStart => exact ⟨0, Nat.zero_le _, rfl, o1, h5, T3⟩
      case round =>
        clear o1 h5 T3 c0 c1 c2 c3 c4 d0 d1 d2 d3 d4
        obtain ⟨i, hi, rfl, o1, h5, T5⟩ := hrel
        have c0 := cell_of_row wr w2.heap.size 0 _ _ _ h5
        have c1 := cell_of_row wr w2.heap.size 1 _ _ _ h5
        have c2 := cell_of_row wr w2.heap.size 2 _ _ _ h5
        have c3 := cell_of_row wr w2.heap.size 3 _ _ _ h5
        have c4 := cell_of_row wr w2.heap.size 4 _ _ _ h5
        by_cases hlt : i < k1
        · obtain ⟨ad, e', f', a', b', s', hA, hab, y0, y1, y2, y3, y4⟩ := (own_sl o1).ac hlt
          subst hA
          cases x1 : (s'.toList == key.toList) with
          | false =>
            clear hab
            go_wp2_with fail
            go_quiet (fail)
            go_wp2_with fail
            go_roundw
            case rel => exact ⟨i + 1, by omega, by go_num, own_drewN o1 _, h5, below_drewN T5 _⟩
            case measure => simp [intOf]; omega
          | true =>
            have hle := L.out.2 i _ hab (bytes_yes x1)
            have x2 : decide (f < f') = false := by simp; exact hle
            clear hab hle
            go_wp2_with fail
            go_quiet (fail)
            go_wp2_with fail
            go_roundw
            case rel => exact ⟨i + 1, by omega, by go_num, own_drewN o1 _, h5, below_drewN T5 _⟩
            case measure => simp [intOf]; omega
        · obtain rfl : i = k1 := by omega
          have he : (s.toList == key.toList) = true := by rw [L.out.1]; simp
          go_wp2_with fail
          go_ret
          exact ⟨rfl, T5⟩
end Go.Proofs.Ytlfjnaeepblhiaa.fnLastActivity
