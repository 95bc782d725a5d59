/- The contracts of LastActivity, the program's and the reference's. -/
import Derived.Test.YtlfjnaeepblhiaaHeard
import Derived.BigQuiet
namespace Go.Proofs.Ytlfjnaeepblhiaa
open Go.RowKit
set_option linter.unusedVariables false
set_option linter.unusedSimpArgs false
def AcRes (v : Ac × Bool) (e : Ending) : Prop := e = .returned (.tuple #[acA v.1.1 v.1.2.1 v.1.2.2.1 v.1.2.2.2.1 v.1.2.2.2.2, .bool v.2])
theorem bytes_yes {a b : ByteArray} (h : (a.toList == b.toList) = true) : a = b := by rw [bytes_eq] at h; exact of_decide_eq_true h
theorem bytes_no {a b : ByteArray} (h : (a.toList == b.toList) = false) : ¬ a = b := by rw [bytes_eq] at h; exact of_decide_eq_false h
set_option maxHeartbeats 2000000 in
set_option maxRecDepth 4000 in
theorem lastIm_any (A : Option Addr) (n c : Nat) (xs : List Ac) (key : ByteArray) (w : World) (h : Sl w A n c 5 (acs xs)) (hok : acOk xs) :
    Calls Try.prog 10 #[.slice A n c, .string key] w fun e w' => AcRes (lastV xs key) e ∧ Ext.of w w' := by
  have hlx : xs.length = n := h.count acC_len (by omega)
  have hmx := h.max
  have hcx := h.cap
  unfold maxLen at hmx
  have HOK := hid hok
  clear hok
  go_enter Try.func10, Try.ntmps10
  go_wp2_with fail
  generalize hW : w.alloc (Obj.cells #[Value.int IntKind.i64 0, Value.int IntKind.i64 0, Value.string ⟨#[]⟩, Value.string ⟨#[]⟩, Value.string ⟨#[]⟩] 29) = W
  have hE : Ext.of w W := by rw [← hW]; exact (Ext.of.refl _).alloc _
  have h4 : W.heap[w.heap.size]? = some (.cells #[Value.int IntKind.i64 0, Value.int IntKind.i64 0, Value.string ⟨#[]⟩, Value.string ⟨#[]⟩, Value.string ⟨#[]⟩] 29 (0, 0)) := by rw [← hW]; exact alloc_new' rfl
  clear hW
  refine (heardI_any _ _ _ xs _ (h.ext hE) HOK.out).mono ?_
  rintro e1 w1 ⟨rfl, x1⟩
  have hE := hE.trans x1
  have h4 := (x1.block (Array.getElem?_eq_some_iff.1 h4).1).trans h4
  clear x1
  cases hv : heardV xs with
  | false =>
    have R := hid (last_no (key := key) hv)
    clear hv
    have z0 := cell_of_row w1 w.heap.size 0 _ _ _ h4
    have z1 := cell_of_row w1 w.heap.size 1 _ _ _ h4
    have z2 := cell_of_row w1 w.heap.size 2 _ _ _ h4
    have z3 := cell_of_row w1 w.heap.size 3 _ _ _ h4
    have z4 := cell_of_row w1 w.heap.size 4 _ _ _ h4
    have fz0 := frozen_of_row w1 w.heap.size 0 _ _ h4
    have fz1 := frozen_of_row w1 w.heap.size 1 _ _ h4
    have fz2 := frozen_of_row w1 w.heap.size 2 _ _ h4
    have fz3 := frozen_of_row w1 w.heap.size 3 _ _ h4
    have fz4 := frozen_of_row w1 w.heap.size 4 _ _ h4
    clear h4
    go_wp2_with fail
    refine bodyPost_ret (v := .tuple #[acA 0 0 ⟨#[]⟩ ⟨#[]⟩ ⟨#[]⟩, .bool false]) (by simp [results, Try.results10, go_sem, z0, z1, z2, z3, z4]) rfl ⟨by rw [R.out]; rfl, Ext.of_below ?_⟩
    exact (((((hE.below.setCell (by dsimp; omega) _).setCell (by dsimp; omega) _).setCell (by dsimp; omega) _).setCell (by dsimp; omega) _).setCell (by dsimp; omega) _)
  | true =>
    have R := hid (last_yes (key := key) hv)
    have hn : n ≤ 30 := by have := (heard_len hv).1; omega
    clear hv
    go_wp2_with fail
    go_loopw [6, 15] (fun q i wr => ∃ (k : Nat), k ≤ n ∧ i = .int .i64 k ∧ q = .int .i64 (lastI xs key k) ∧ Ext.of w wr ∧ wr.heap[w.heap.size]? = some (.cells #[Value.int IntKind.i64 0, Value.int IntKind.i64 0, Value.string ⟨#[]⟩, Value.string ⟨#[]⟩, Value.string ⟨#[]⟩] 29 (0, 0))) (fun _ i _ => n - (intOf i).toNat)
    case atStart => exact ⟨0, Nat.zero_le _, rfl, rfl, hE, h4⟩
    case round =>
      clear hE h4
      obtain ⟨k, hk, rfl, rfl, hE, h4⟩ := hrel
      obtain ⟨L, hL⟩ : ∃ L, lastI xs key k = L := ⟨_, rfl⟩
      rw [hL]
      have hL1 : -1 ≤ L ∧ L < k := by rw [← hL]; exact lastI_range xs key k
      by_cases hlt : k < n
      · obtain ⟨ad, e, f, a, b, s, rfl, hab, c0, c1, c2, c3, c4⟩ := (h.ext hE).ac hlt
        have hE2 : Ext.of w (wr.alloc (Obj.cells #[Value.int IntKind.i64 e, Value.int IntKind.i64 f, Value.string a, Value.string b, Value.string s] 29)) := hE.alloc _
        have h5 : (wr.alloc (Obj.cells #[Value.int IntKind.i64 e, Value.int IntKind.i64 f, Value.string a, Value.string b, Value.string s] 29)).heap[w.heap.size]? = some (.cells #[Value.int IntKind.i64 0, Value.int IntKind.i64 0, Value.string ⟨#[]⟩, Value.string ⟨#[]⟩, Value.string ⟨#[]⟩] 29 (0, 0)) := alloc_old h4
        have hc : (wr.alloc (Obj.cells #[Value.int IntKind.i64 e, Value.int IntKind.i64 f, Value.string a, Value.string b, Value.string s] 29)).heap[wr.heap.size]? = some (.cells #[Value.int IntKind.i64 e, Value.int IntKind.i64 f, Value.string a, Value.string b, Value.string s] 29 (0, 0)) := alloc_new' rfl
        have hS := h.ext hE2
        cases x1 : (s.toList == key.toList) with
        | false =>
          have N := hid (lastI_other hab (bytes_no x1))
          clear hab
          go_wp2_with fail
          generalize wr.alloc (Obj.cells #[Value.int IntKind.i64 e, Value.int IntKind.i64 f, Value.string a, Value.string b, Value.string s] 29) = W2 at *
          have d0 := cell_of_row W2 wr.heap.size 0 _ _ _ hc
          have d1 := cell_of_row W2 wr.heap.size 1 _ _ _ hc
          have d2 := cell_of_row W2 wr.heap.size 2 _ _ _ hc
          have d3 := cell_of_row W2 wr.heap.size 3 _ _ _ hc
          have d4 := cell_of_row W2 wr.heap.size 4 _ _ _ hc
          clear hc
          go_quiet (fail)
          go_wp2_with fail
          go_roundw
          case rel => exact ⟨k + 1, by omega, by go_num, by rw [N.out, hL], hE2.drewN _, h5⟩
          case measure => simp [intOf]; omega
        | true =>
          by_cases hl : L < 0
          · have N := hid (lastI_take hab (bytes_yes x1) (by rw [hL]; exact hl))
            clear hab
            go_wp2_with fail
            generalize wr.alloc (Obj.cells #[Value.int IntKind.i64 e, Value.int IntKind.i64 f, Value.string a, Value.string b, Value.string s] 29) = W2 at *
            have d0 := cell_of_row W2 wr.heap.size 0 _ _ _ hc
            have d1 := cell_of_row W2 wr.heap.size 1 _ _ _ hc
            have d2 := cell_of_row W2 wr.heap.size 2 _ _ _ hc
            have d3 := cell_of_row W2 wr.heap.size 3 _ _ _ hc
            have d4 := cell_of_row W2 wr.heap.size 4 _ _ _ hc
            clear hc
            go_quiet (fail)
            go_wp2_with fail
            go_roundw
            case rel => exact ⟨k + 1, by omega, by go_num, by rw [N.out], hE2.drewN _, h5⟩
            case measure => simp [intOf]; omega
          · obtain ⟨j, rfl⟩ : ∃ j : Nat, L = j := ⟨L.toNat, by omega⟩
            obtain ⟨ad', e', f', a', b', s', hA, hab', _, p1, _, _, _⟩ := hS.ac (j := j) (by omega)
            injection hA with hA
            subst hA
            have hjn : j < n := by omega
            have hjn' : (j : Int) < n := by omega
            have hj0 : (0 : Int) ≤ j := by omega
            cases x2 : decide (f' ≤ f) with
            | true =>
              have N := hid (lastI_more hab (bytes_yes x1) (by rw [hL]; exact hab') (of_decide_eq_true x2))
              clear hab hab'
              go_wp2_with fail
              generalize wr.alloc (Obj.cells #[Value.int IntKind.i64 e, Value.int IntKind.i64 f, Value.string a, Value.string b, Value.string s] 29) = W2 at *
              have d0 := cell_of_row W2 wr.heap.size 0 _ _ _ hc
              have d1 := cell_of_row W2 wr.heap.size 1 _ _ _ hc
              have d2 := cell_of_row W2 wr.heap.size 2 _ _ _ hc
              have d3 := cell_of_row W2 wr.heap.size 3 _ _ _ hc
              have d4 := cell_of_row W2 wr.heap.size 4 _ _ _ hc
              clear hc
              go_quiet (fail)
              go_wp2_with fail
              go_roundw
              case rel => exact ⟨k + 1, by omega, by go_num, by rw [N.out], hE2.drewN _, h5⟩
              case measure => simp [intOf]; omega
            | false =>
              have N := hid (lastI_less hab (by rw [hL]; exact hl) (by rw [hL]; exact hab') (of_decide_eq_false x2))
              clear hab hab'
              go_wp2_with fail
              generalize wr.alloc (Obj.cells #[Value.int IntKind.i64 e, Value.int IntKind.i64 f, Value.string a, Value.string b, Value.string s] 29) = W2 at *
              have d0 := cell_of_row W2 wr.heap.size 0 _ _ _ hc
              have d1 := cell_of_row W2 wr.heap.size 1 _ _ _ hc
              have d2 := cell_of_row W2 wr.heap.size 2 _ _ _ hc
              have d3 := cell_of_row W2 wr.heap.size 3 _ _ _ hc
              have d4 := cell_of_row W2 wr.heap.size 4 _ _ _ hc
              clear hc
              go_quiet (fail)
              go_wp2_with fail
              go_roundw
              case rel => exact ⟨k + 1, by omega, by go_num, by rw [N.out, hL], hE2.drewN _, h5⟩
              case measure => simp [intOf]; omega
      · obtain rfl : k = n := by omega
        have z0 := cell_of_row wr w.heap.size 0 _ _ _ h4
        have z1 := cell_of_row wr w.heap.size 1 _ _ _ h4
        have z2 := cell_of_row wr w.heap.size 2 _ _ _ h4
        have z3 := cell_of_row wr w.heap.size 3 _ _ _ h4
        have z4 := cell_of_row wr w.heap.size 4 _ _ _ h4
        have fz0 := frozen_of_row wr w.heap.size 0 _ _ h4
        have fz1 := frozen_of_row wr w.heap.size 1 _ _ h4
        have fz2 := frozen_of_row wr w.heap.size 2 _ _ h4
        have fz3 := frozen_of_row wr w.heap.size 3 _ _ h4
        have fz4 := frozen_of_row wr w.heap.size 4 _ _ h4
        clear h4
        rw [hlx, hL] at R
        by_cases hl : L < 0
        · have N := hid (R.out.trans (lastOf_no xs hl))
          go_wp2_with fail
          refine bodyPost_ret (v := .tuple #[acA 0 0 ⟨#[]⟩ ⟨#[]⟩ ⟨#[]⟩, .bool false]) (by simp [results, Try.results10, go_sem, z0, z1, z2, z3, z4]) rfl ⟨by rw [N.out]; rfl, Ext.of_below ?_⟩
          exact (((((hE.below.setCell (by dsimp; omega) _).setCell (by dsimp; omega) _).setCell (by dsimp; omega) _).setCell (by dsimp; omega) _).setCell (by dsimp; omega) _)
        · obtain ⟨j, rfl⟩ : ∃ j : Nat, L = j := ⟨L.toNat, by omega⟩
          obtain ⟨ad, e, f, a, b, s, rfl, hab, c0, c1, c2, c3, c4⟩ := (h.ext hE).ac (j := j) (by omega)
          have N := hid (R.out.trans (lastOf_yes hl hab))
          clear hab
          go_wp2_with fail
          refine bodyPost_ret (v := .tuple #[acA e f a b s, .bool true]) (by simp [results, Try.results10, go_sem, z0, z1, z2, z3, z4]) rfl ⟨by rw [N.out]; rfl, Ext.of_below ?_⟩
          exact (((((hE.below.setCell (by dsimp; omega) _).setCell (by dsimp; omega) _).setCell (by dsimp; omega) _).setCell (by dsimp; omega) _).setCell (by dsimp; omega) _)
end Go.Proofs.Ytlfjnaeepblhiaa
