/- The contracts of activities: whether one is valid, and the laws' copies of them. -/
import Derived.Test.YtlfjnaeepblhiaaHandle
namespace Go.Proofs.Ytlfjnaeepblhiaa
open Go.RowKit
set_option linter.unusedVariables false
set_option linter.unusedSimpArgs false

abbrev acA (k m : Int) (a b s : ByteArray) : Value := .agg #[.int .i64 k, .int .i64 m, .string a, .string b, .string s]
@[irreducible] def acQ (k m : Int) (a b s : ByteArray) (k' m' : Int) (a' b' s' : ByteArray) : Bool := decide ((k, m, a, b, s) = (k', m', a', b', s'))
theorem acQ_yes (k m : Int) (a b s : ByteArray) : acQ k m a b s k m a b s = true := by unfold acQ; simp
theorem acQ_no {k m k' m' : Int} {a b s a' b' s' : ByteArray} (e : ¬ (k, m, a, b, s) = (k', m', a', b', s')) : acQ k m a b s k' m' a' b' s' = false := by unfold acQ; exact decide_eq_false e
theorem acQ_eq (k m : Int) (a b s : ByteArray) (k' m' : Int) (a' b' s' : ByteArray) : acQ k m a b s k' m' a' b' s' = ((k == k') && ((m == m') && (hdQ a b a' b' && (s.toList == s'.toList)))) := by
  rw [bytes_eq]; unfold acQ hdQ; rw [Bool.eq_iff_iff]; simp [and_assoc]
/-- Whether an activity is valid. -/
@[irreducible] def avalV (k m : Int) (a b s : ByteArray) : Bool := inB k 0 5 && (inB m 0 1000000000 && (hvalV a b && wordV s))
section
variable {k m : Int} {a b s : ByteArray}
theorem aval_no1 (h : inB k 0 5 = false) : avalV k m a b s = false := by unfold avalV; rw [h]; rfl
theorem aval_no2 (h : inB m 0 1000000000 = false) : avalV k m a b s = false := by unfold avalV; rw [h]; simp
theorem aval_no3 (h : hvalV a b = false) : avalV k m a b s = false := by unfold avalV; rw [h]; simp
theorem aval_yes (h1 : inB k 0 5 = true) (h2 : inB m 0 1000000000 = true) (h3 : hvalV a b = true) : avalV k m a b s = wordV s := by unfold avalV; rw [h1, h2, h3]; rfl
end
set_option maxHeartbeats 1000000 in
theorem avalI_any (k m : Int) (a b s : ByteArray) (w : World) (ha : a.size ≤ 9223372036854775807) (hb : b.size ≤ 9223372036854775807) (hs : s.size ≤ 9223372036854775807) : Calls Try.prog 21 #[acA k m a b s] w fun e' w' => e' = .returned (.bool (avalV k m a b s)) ∧ Ext.of w w' := by
  have hE : Ext.of w (w.alloc (.cells #[.int .i64 k, .int .i64 m, .string a, .string b, .string s] 29)) := (Ext.of.refl _).alloc _
  have hc : (w.alloc (.cells #[.int .i64 k, .int .i64 m, .string a, .string b, .string s] 29)).heap[w.heap.size]? = some (.cells #[.int .i64 k, .int .i64 m, .string a, .string b, .string s] 29 (0, 0)) := alloc_new' rfl
  have d4 := cell_of_row _ w.heap.size 4 _ _ _ hc
  have C := fun W => hvalI_any a b W ha hb
  have CW := fun W => wordI_any s W hs
  clear ha hb hs hc
  go_enter Try.func21, Try.ntmps21
  cases x1 : inB k 0 5 with
  | false =>
    have R := hid_ (aval_no1 (m := m) (a := a) (b := b) (s := s) x1)
    go_wp2_with (go_at_call 56; refine (within_any _ _ _ _).mono ?_; rintro e' w' ⟨rfl, rfl⟩)
    go_ret
    exact ⟨ret_bool R.out.symm, hE⟩
  | true =>
    cases x2 : inB m 0 1000000000 with
    | false =>
      have R := hid_ (aval_no2 (k := k) (a := a) (b := b) (s := s) x2)
      go_wp2_with (go_at_call 56; refine (within_any _ _ _ _).mono ?_; rintro e' w' ⟨rfl, rfl⟩)
      go_ret
      exact ⟨ret_bool R.out.symm, hE⟩
    | true =>
      cases x3 : hvalV a b with
      | false =>
        have R := hid_ (aval_no3 (k := k) (m := m) (s := s) x3)
        rw [x3] at C
        clear x3
        go_wp2_with (go_at_call 56; refine (within_any _ _ _ _).mono ?_; rintro e' w' ⟨rfl, rfl⟩)
        refine (C _).mono ?_
        rintro e' w1 ⟨rfl, y1⟩
        go_wp2_with fail
        go_ret
        exact ⟨ret_bool R.out.symm, hE.trans y1⟩
      | true =>
        have R := hid_ (aval_yes (s := s) x1 x2 x3)
        rw [x3] at C
        clear x3
        go_wp2_with (go_at_call 56; refine (within_any _ _ _ _).mono ?_; rintro e' w' ⟨rfl, rfl⟩)
        refine (C _).mono ?_
        rintro e' w1 ⟨rfl, y1⟩
        have d4 := y1.cell d4
        have hE := hE.trans y1
        clear y1
        go_wp2_with fail
        refine (CW _).mono ?_
        rintro e' w2 ⟨rfl, rfl⟩
        go_wp2_with fail
        go_ret
        exact ⟨ret_bool R.out.symm, hE⟩
set_option maxHeartbeats 1000000 in
theorem avalS_any (k m : Int) (a b s : ByteArray) (w : World) (ha : a.size ≤ 9223372036854775807) (hb : b.size ≤ 9223372036854775807) (hs : s.size ≤ 9223372036854775807) : Calls Try.prog 46 #[acA k m a b s] w fun e' w' => e' = .returned (.bool (avalV k m a b s)) ∧ Ext.of w w' := by
  have hE : Ext.of w (w.alloc (.cells #[.int .i64 k, .int .i64 m, .string a, .string b, .string s] 29)) := (Ext.of.refl _).alloc _
  have hc : (w.alloc (.cells #[.int .i64 k, .int .i64 m, .string a, .string b, .string s] 29)).heap[w.heap.size]? = some (.cells #[.int .i64 k, .int .i64 m, .string a, .string b, .string s] 29 (0, 0)) := alloc_new' rfl
  have d4 := cell_of_row _ w.heap.size 4 _ _ _ hc
  have C := fun W => hvalS_any a b W ha hb
  have CW := fun W => wordS_any s W hs
  clear ha hb hs hc
  go_enter Try.func46, Try.ntmps46
  cases x1 : inB k 0 5 with
  | false =>
    have R := hid_ (aval_no1 (m := m) (a := a) (b := b) (s := s) x1)
    go_wp2_with (go_at_call 65; refine (l1In_any _ _ _ _).mono ?_; rintro e' w' ⟨rfl, rfl⟩)
    go_ret
    exact ⟨ret_bool R.out.symm, hE⟩
  | true =>
    cases x2 : inB m 0 1000000000 with
    | false =>
      have R := hid_ (aval_no2 (k := k) (a := a) (b := b) (s := s) x2)
      go_wp2_with (go_at_call 65; refine (l1In_any _ _ _ _).mono ?_; rintro e' w' ⟨rfl, rfl⟩)
      go_ret
      exact ⟨ret_bool R.out.symm, hE⟩
    | true =>
      cases x3 : hvalV a b with
      | false =>
        have R := hid_ (aval_no3 (k := k) (m := m) (s := s) x3)
        rw [x3] at C
        clear x3
        go_wp2_with (go_at_call 65; refine (l1In_any _ _ _ _).mono ?_; rintro e' w' ⟨rfl, rfl⟩)
        refine (C _).mono ?_
        rintro e' w1 ⟨rfl, y1⟩
        go_wp2_with fail
        go_ret
        exact ⟨ret_bool R.out.symm, hE.trans y1⟩
      | true =>
        have R := hid_ (aval_yes (s := s) x1 x2 x3)
        rw [x3] at C
        clear x3
        go_wp2_with (go_at_call 65; refine (l1In_any _ _ _ _).mono ?_; rintro e' w' ⟨rfl, rfl⟩)
        refine (C _).mono ?_
        rintro e' w1 ⟨rfl, y1⟩
        have d4 := y1.cell d4
        have hE := hE.trans y1
        clear y1
        go_wp2_with fail
        refine (CW _).mono ?_
        rintro e' w2 ⟨rfl, rfl⟩
        go_wp2_with fail
        go_ret
        exact ⟨ret_bool R.out.symm, hE⟩
theorem eqActivity_any (k m : Int) (a b s : ByteArray) (k' m' : Int) (a' b' s' : ByteArray) (w : World) : Calls Try.prog 15 #[acA k m a b s, acA k' m' a' b' s'] w fun e1 w' => e1 = .returned (.bool (acQ k m a b s k' m' a' b' s')) ∧ Ext.of w w' := by
  rw [acQ_eq]
  have hE : Ext.of w ((w.alloc (.cells #[.int .i64 k, .int .i64 m, .string a, .string b, .string s] 29)).alloc (.cells #[.int .i64 k', .int .i64 m', .string a', .string b', .string s'] 29)) := ((Ext.of.refl _).alloc _).alloc _
  have h1 : ((w.alloc (.cells #[.int .i64 k, .int .i64 m, .string a, .string b, .string s] 29)).alloc (.cells #[.int .i64 k', .int .i64 m', .string a', .string b', .string s'] 29)).heap[w.heap.size]? = some (.cells #[.int .i64 k, .int .i64 m, .string a, .string b, .string s] 29 (0, 0)) := alloc_old (alloc_new' rfl)
  have h2 : ((w.alloc (.cells #[.int .i64 k, .int .i64 m, .string a, .string b, .string s] 29)).alloc (.cells #[.int .i64 k', .int .i64 m', .string a', .string b', .string s'] 29)).heap[w.heap.size + 1]? = some (.cells #[.int .i64 k', .int .i64 m', .string a', .string b', .string s'] 29 (0, 0)) := alloc_new' (by simp)
  have c4 := cell_of_row _ w.heap.size 4 _ _ _ h1
  have d4 := cell_of_row _ (w.heap.size + 1) 4 _ _ _ h2
  clear h1 h2
  have C := fun W => eqHandle_any a b a' b' W
  cases x1 : (k == k') with
  | false =>
    clear c4 d4
    go_enter Try.func15, Try.ntmps15
    go_wp2_with fail
    go_ret
    exact ⟨rfl, hE⟩
  | true =>
    cases x2 : (m == m') with
    | false =>
      clear c4 d4
      go_enter Try.func15, Try.ntmps15
      go_wp2_with fail
      go_ret
      exact ⟨rfl, hE⟩
    | true =>
      cases x3 : hdQ a b a' b' with
      | false =>
        rw [x3] at C
        clear c4 d4 x3
        go_enter Try.func15, Try.ntmps15
        go_wp2_with fail
        refine (C _).mono ?_
        rintro e' w1 ⟨rfl, y1⟩
        go_wp2_with fail
        go_ret
        exact ⟨rfl, hE.trans y1⟩
      | true =>
        rw [x3] at C
        clear x3
        cases x4 : (s.toList == s'.toList)
        all_goals
          have z4 := congrArg (!·) x4
          simp only [Bool.not_false, Bool.not_true] at z4
          go_enter Try.func15, Try.ntmps15
          go_wp2_with fail
          refine (C _).mono ?_
          rintro e' w1 ⟨rfl, y1⟩
          have c5 := y1.cell c4
          have d5 := y1.cell d4
          go_wp2_with fail
          go_ret
          exact ⟨rfl, hE.trans y1⟩
theorem toActivity_any (k m : Int) (a b s : ByteArray) (w : World) : Calls Try.prog 49 #[acA k m a b s] w fun e' w' => e' = .returned (acA k m a b s) ∧ Ext.of w w' := by
  go_enter Try.func49, Try.ntmps49
  go_wp2_with fail
  generalize hW : ((w.alloc (Obj.cells #[Value.int IntKind.i64 k, Value.int IntKind.i64 m, Value.string a, Value.string b, Value.string s] 77)).alloc (Obj.cells #[Value.int IntKind.i64 0, Value.int IntKind.i64 0, Value.string ⟨#[]⟩, Value.string ⟨#[]⟩, Value.string ⟨#[]⟩] 29)).alloc (Obj.cells #[Value.int IntKind.i64 k, Value.int IntKind.i64 m, Value.string ⟨#[]⟩, Value.string ⟨#[]⟩, Value.string ⟨#[]⟩] 29) = W
  have hE : Ext.of w W := by rw [← hW]; exact (((Ext.of.refl _).alloc _).alloc _).alloc _
  have h0 : W.heap[w.heap.size]? = some (.cells #[.int .i64 k, .int .i64 m, .string a, .string b, .string s] 77 (0, 0)) := by rw [← hW]; exact alloc_old (alloc_old (alloc_new' rfl))
  have h1 : W.heap[w.heap.size + 1]? = some (.cells #[.int .i64 0, .int .i64 0, .string ⟨#[]⟩, .string ⟨#[]⟩, .string ⟨#[]⟩] 29 (0, 0)) := by rw [← hW]; exact alloc_old (alloc_new' (by simp))
  have h2 : W.heap[w.heap.size + 2]? = some (.cells #[.int .i64 k, .int .i64 m, .string ⟨#[]⟩, .string ⟨#[]⟩, .string ⟨#[]⟩] 29 (0, 0)) := by rw [← hW]; exact alloc_new' (by simp)
  clear hW
  refine (toHandle_any a b W).mono ?_
  rintro e' w1 ⟨rfl, x1⟩
  have g0 := (x1.block (Array.getElem?_eq_some_iff.1 h0).1).trans h0
  have g1 := (x1.block (Array.getElem?_eq_some_iff.1 h1).1).trans h1
  have g2 := (x1.block (Array.getElem?_eq_some_iff.1 h2).1).trans h2
  have hE1 := hE.trans x1
  clear hE x1 h0 h1 h2
  have b4 := cell_of_row w1 w.heap.size 4 _ _ _ g0

  have c0 := cell_of_row w1 (w.heap.size + 1) 0 _ _ _ g1
  have c1 := cell_of_row w1 (w.heap.size + 1) 1 _ _ _ g1
  have c2 := cell_of_row w1 (w.heap.size + 1) 2 _ _ _ g1
  have c3 := cell_of_row w1 (w.heap.size + 1) 3 _ _ _ g1
  have c4 := cell_of_row w1 (w.heap.size + 1) 4 _ _ _ g1
  have fc0 := frozen_of_row w1 (w.heap.size + 1) 0 _ _ g1
  have fc1 := frozen_of_row w1 (w.heap.size + 1) 1 _ _ g1
  have fc2 := frozen_of_row w1 (w.heap.size + 1) 2 _ _ g1
  have fc3 := frozen_of_row w1 (w.heap.size + 1) 3 _ _ g1
  have fc4 := frozen_of_row w1 (w.heap.size + 1) 4 _ _ g1
  have d0 := cell_of_row w1 (w.heap.size + 2) 0 _ _ _ g2
  have d1 := cell_of_row w1 (w.heap.size + 2) 1 _ _ _ g2
  have d2 := cell_of_row w1 (w.heap.size + 2) 2 _ _ _ g2
  have d3 := cell_of_row w1 (w.heap.size + 2) 3 _ _ _ g2
  have d4 := cell_of_row w1 (w.heap.size + 2) 4 _ _ _ g2
  have fd0 := frozen_of_row w1 (w.heap.size + 2) 0 _ _ g2
  have fd1 := frozen_of_row w1 (w.heap.size + 2) 1 _ _ g2
  have fd2 := frozen_of_row w1 (w.heap.size + 2) 2 _ _ g2
  have fd3 := frozen_of_row w1 (w.heap.size + 2) 3 _ _ g2
  have fd4 := frozen_of_row w1 (w.heap.size + 2) 4 _ _ g2
  clear g0 g1 g2
  go_wp2
  refine bodyPost_ret (v := acA k m a b s) (by simp [results, Try.results49, go_sem, c0, c1, c2, c3, c4]) rfl ⟨rfl, Ext.of_below ?_⟩
  exact (((((((hE1.below.setCell (by dsimp; omega) _).setCell (by dsimp; omega) _).setCell (by dsimp; omega) _).setCell (by dsimp; omega) _).setCell (by dsimp; omega) _).setCell (by dsimp; omega) _).setCell (by dsimp; omega) _).setCell (by dsimp; omega) _
theorem szActivity_any (k m : Int) (a b s : ByteArray) (l : Int) (h0 : 0 ≤ l) (h1 : l ≤ 1048576) (w : World) (ha : a.size ≤ 9223372036854775807) (hb : b.size ≤ 9223372036854775807) (hs : s.size ≤ 9223372036854775807) : Calls Try.prog 48 #[acA k m a b s, .int .i64 l] w fun e' w' => ∃ r : Int, e' = .returned (.int .i64 r) ∧ -1 ≤ r ∧ r ≤ l ∧ Ext.of w w' := by
  have hE : Ext.of w (w.alloc (.cells #[.int .i64 k, .int .i64 m, .string a, .string b, .string s] 77)) := (Ext.of.refl _).alloc _
  have hc : (w.alloc (.cells #[.int .i64 k, .int .i64 m, .string a, .string b, .string s] 77)).heap[w.heap.size]? = some (.cells #[.int .i64 k, .int .i64 m, .string a, .string b, .string s] 77 (0, 0)) := alloc_new' rfl
  have d4 := cell_of_row _ w.heap.size 4 _ _ _ hc
  clear hc
  go_enter Try.func48, Try.ntmps48
  go_wp2_with fail
  refine (szHandle_any a b l h0 h1 _ ha hb).mono ?_
  rintro e' w1 ⟨r, rfl, r0, r1, y1⟩
  have d4 := y1.cell d4
  have hE := hE.trans y1
  clear y1
  by_cases hr : r < 0
  · go_wp2_with fail
    go_ret
    exact ⟨_, rfl, by omega, by omega, hE⟩
  · by_cases hq : r - s.size < 0
    · go_wp2_with fail
      go_ret
      exact ⟨_, rfl, by omega, by omega, hE⟩
    · go_wp2_with fail
      go_ret
      exact ⟨_, rfl, by omega, by omega, hE⟩
set_option maxHeartbeats 1000000 in
theorem neqActivity (k m : Int) (a b s : ByteArray) (k' m' : Int) (a' b' s' : ByteArray) (W : World) : (binOp .neq 29 (acA k m a b s) (acA k' m' a' b' s')).run Try.prog W = .ok (.bool (!acQ k m a b s k' m' a' b' s')) W := by
  have D : hdQ a b a' b' = ((a.toList == a'.toList) && (b.toList == b'.toList)) := by
    unfold hdQ
    rw [bytes_eq, bytes_eq, Bool.eq_iff_iff]; simp
  rw [acQ_eq, D, run_neq_struct, run_equalIn_agg _ _ _ _ _ (by kernel_rfl) (by kernel_rfl)]
  by_cases x0 : k = k' <;> by_cases x1 : m = m' <;> cases x2 : (a.toList == a'.toList) <;> cases x3 : (b.toList == b'.toList) <;> cases x4 : (s.toList == s'.toList) <;> simp [go_sem, Op.eqFields, x0, x1, x2, x3, x4]
def acOk (xs : List (Int × Int × ByteArray × ByteArray × ByteArray)) : Prop := ∀ x ∈ xs, x.2.2.1.size ≤ 9223372036854775807 ∧ x.2.2.2.1.size ≤ 9223372036854775807 ∧ x.2.2.2.2.size ≤ 9223372036854775807
end Go.Proofs.Ytlfjnaeepblhiaa
