/- The contract of LastActivity, the reference's. -/
import Derived.Test.YtlfjnaeepblhiaaLastAc
import Derived.Test.YtlfjnaeepblhiaaMem
namespace Go.Proofs.Ytlfjnaeepblhiaa
open Go.RowKit
set_option linter.unusedVariables false
set_option linter.unusedSimpArgs false
theorem lastOf_eq (xs : List Ac) (i : Int) : lastOf xs i = ((lastOf xs i).1, decide (0 ≤ i)) := by
  unfold lastOf
  split
  · simp; omega
  · simp; omega
set_option maxHeartbeats 2000000 in
set_option maxRecDepth 4000 in
theorem lastS_any (A : Option Addr) (n c : Nat) (xs : List Ac) (key : ByteArray) (w : World) (h : Sl w A n c 5 (acs xs)) (hok : acOk xs) :
    Calls Try.prog 11 #[.slice A n c, .string key] w fun e w' => AcRes (lastV xs key) e ∧ Ext.of w w' := by
  have hlx : xs.length = n := h.count acC_len (by omega)
  have hmx := h.max
  have hcx := h.cap
  unfold maxLen at hmx
  have HOK := hid hok
  clear hok
  go_enter Try.func11, Try.ntmps11
  go_wp2_with fail
  have hB : Below w.heap.size w ((w.alloc (Obj.cells #[Value.int IntKind.i64 0, Value.int IntKind.i64 0, Value.string ⟨#[]⟩, Value.string ⟨#[]⟩, Value.string ⟨#[]⟩] 29)).alloc (Obj.cells #[Value.int IntKind.i64 0, Value.int IntKind.i64 0, Value.string ⟨#[]⟩, Value.string ⟨#[]⟩, Value.string ⟨#[]⟩] 29)) := (((Ext.of.refl w).alloc _).alloc _).below
  have h4 : ((w.alloc (Obj.cells #[Value.int IntKind.i64 0, Value.int IntKind.i64 0, Value.string ⟨#[]⟩, Value.string ⟨#[]⟩, Value.string ⟨#[]⟩] 29)).alloc (Obj.cells #[Value.int IntKind.i64 0, Value.int IntKind.i64 0, Value.string ⟨#[]⟩, Value.string ⟨#[]⟩, Value.string ⟨#[]⟩] 29)).heap[w.heap.size]? = some (.cells #[Value.int IntKind.i64 0, Value.int IntKind.i64 0, Value.string ⟨#[]⟩, Value.string ⟨#[]⟩, Value.string ⟨#[]⟩] 29 (0, 0)) := alloc_old (alloc_new' rfl)
  have own : ((w.alloc (Obj.cells #[Value.int IntKind.i64 0, Value.int IntKind.i64 0, Value.string ⟨#[]⟩, Value.string ⟨#[]⟩, Value.string ⟨#[]⟩] 29)).alloc (Obj.cells #[Value.int IntKind.i64 0, Value.int IntKind.i64 0, Value.string ⟨#[]⟩, Value.string ⟨#[]⟩, Value.string ⟨#[]⟩] 29)).ownsRow (w.heap.size + 1) 29 5 (.slice (some ⟨w.heap.size + 1, 0, none⟩) 1 1) 1 [.int .i64 0, .int .i64 0, .string ⟨#[]⟩, .string ⟨#[]⟩, .string ⟨#[]⟩] := own_lit (w.alloc (Obj.cells #[Value.int IntKind.i64 0, Value.int IntKind.i64 0, Value.string ⟨#[]⟩, Value.string ⟨#[]⟩, Value.string ⟨#[]⟩] 29)) [.int .i64 0, .int .i64 0, .string ⟨#[]⟩, .string ⟨#[]⟩, .string ⟨#[]⟩] 29 5 1 (w.heap.size + 1) (by simp) rfl (by unfold maxLen; omega)
  go_loopw [7, 8] (fun q i wr => ∃ (k : Nat) (e0 f0 : Int) (a0 b0 s0 : ByteArray), k ≤ n ∧ i = .int .i64 k ∧ q = .bool (decide (0 ≤ lastI xs key k)) ∧ Hid ((lastOf xs (lastI xs key k)).1 = (e0, f0, a0, b0, s0)) ∧ Hid (hvTo xs k = true) ∧ Hid (0 < k → n ≤ 30) ∧ Below w.heap.size w wr ∧ wr.heap[w.heap.size]? = some (.cells #[Value.int IntKind.i64 0, Value.int IntKind.i64 0, Value.string ⟨#[]⟩, Value.string ⟨#[]⟩, Value.string ⟨#[]⟩] 29 (0, 0)) ∧ wr.ownsRow (w.heap.size + 1) 29 5 (.slice (some ⟨w.heap.size + 1, 0, none⟩) 1 1) 1 [.int .i64 e0, .int .i64 f0, .string a0, .string b0, .string s0]) (fun _ i _ => n - (intOf i).toNat)
  case atStart => exact ⟨0, 0, 0, ⟨#[]⟩, ⟨#[]⟩, ⟨#[]⟩, Nat.zero_le _, rfl, rfl, rfl, rfl, fun h => by omega, hB, h4, own⟩
  case round =>
    clear hB h4 own
    obtain ⟨k, e0, f0, a0, b0, s0, hk, rfl, rfl, hout, hto, hsm, hB, h4, own⟩ := hrel
    obtain ⟨L, hL⟩ : ∃ L, lastI xs key k = L := ⟨_, rfl⟩
    rw [hL] at hout ⊢
    have hL1 : -1 ≤ L ∧ L < k := by rw [← hL]; exact lastI_range xs key k
    by_cases hlt : k < n
    · obtain ⟨ad, e, f, a, b, s, rfl, hab, c0, c1, c2, c3, c4⟩ := (h.below hB).ac hlt
      have HV := hid (HOK.out _ (List.mem_of_getElem? hab))
      cases hv : avalV e f a b s with
      | false =>
        have R := hid (last_no (key := key) (heard_not hab hv))
        have C := fun W => avalS_any e f a b s W HV.out.1 HV.out.2.1 HV.out.2.2
        rw [hv] at C
        clear hab hto hv hsm hout
        go_wp2_with fail
        refine (C _).mono ?_
        rintro e1 w2 ⟨rfl, x2⟩
        have hB := below_next hB x2.below
        have h4 := (x2.block (Array.getElem?_eq_some_iff.1 h4).1).trans h4
        have own := own_ext own x2
        clear x2 C
        have z0 := cell_of_row w2 w.heap.size 0 _ _ _ h4
        have z1 := cell_of_row w2 w.heap.size 1 _ _ _ h4
        have z2 := cell_of_row w2 w.heap.size 2 _ _ _ h4
        have z3 := cell_of_row w2 w.heap.size 3 _ _ _ h4
        have z4 := cell_of_row w2 w.heap.size 4 _ _ _ h4
        have fz0 := frozen_of_row w2 w.heap.size 0 _ _ h4
        have fz1 := frozen_of_row w2 w.heap.size 1 _ _ h4
        have fz2 := frozen_of_row w2 w.heap.size 2 _ _ h4
        have fz3 := frozen_of_row w2 w.heap.size 3 _ _ h4
        have fz4 := frozen_of_row w2 w.heap.size 4 _ _ h4
        clear h4 own c0 c1 c2 c3 c4
        go_wp2_with fail
        refine bodyPost_ret (v := .tuple #[acA 0 0 ⟨#[]⟩ ⟨#[]⟩ ⟨#[]⟩, .bool false]) (by simp [results, Try.results11, go_sem, z0, z1, z2, z3, z4]) rfl ⟨by rw [R.out]; rfl, Ext.of_below ?_⟩
        exact (((((hB.setCell (by dsimp; omega) _).setCell (by dsimp; omega) _).setCell (by dsimp; omega) _).setCell (by dsimp; omega) _).setCell (by dsimp; omega) _)
      | true =>
        have C := fun W => avalS_any e f a b s W HV.out.1 HV.out.2.1 HV.out.2.2
        rw [hv] at C
        by_cases hn : n ≤ 30
        · have R := hid (show hvTo xs (k + 1) = true by rw [hvTo_next hab, hto.out, show acVal (e, f, a, b, s) = true from hv]; rfl)
          have H30 := hid (fun (_ : 0 < k + 1) => hn)
          clear hto hv hsm
          go_wp2_with fail
          refine (C _).mono ?_
          rintro e1 w2 ⟨rfl, x2⟩
          have hB := below_next hB x2.below
          have h4 := (x2.block (Array.getElem?_eq_some_iff.1 h4).1).trans h4
          have own := own_ext own x2
          clear x2 C
          have c0 := (h.below hB).ac hlt
          obtain ⟨ad2, e2, f2, a2, b2, s2, hA, hab2, c0, c1, c2, c3, c4⟩ := c0
          injection hA with hA
          subst hA
          rw [hab] at hab2
          injection hab2 with hab2
          injection hab2 with q1 q2
          injection q2 with q2 q3
          injection q3 with q3 q4
          injection q4 with q4 q5
          subst q1 q2 q3 q4 q5
          obtain ⟨o0, ho0, hc0⟩ := own_old (k := 0) own (show 0 < 1 * 5 by omega)
          have hf0 := own.frozenAt 0
          obtain ⟨o1, ho1, hc1⟩ := own_old (k := 1) own (show 1 < 1 * 5 by omega)
          have hf1 := own.frozenAt 1
          obtain ⟨o2, ho2, hc2⟩ := own_old (k := 2) own (show 2 < 1 * 5 by omega)
          have hf2 := own.frozenAt 2
          obtain ⟨o3, ho3, hc3⟩ := own_old (k := 3) own (show 3 < 1 * 5 by omega)
          have hf3 := own.frozenAt 3
          obtain ⟨o4, ho4, hc4⟩ := own_old (k := 4) own (show 4 < 1 * 5 by omega)
          have hf4 := own.frozenAt 4
          injection ho1 with ho1
          subst ho1
          cases x1 : (s.toList == key.toList) with
          | false =>
            have N := hid (lastI_other hab (bytes_no x1))
            clear hab
            go_wp2_with fail
            go_quiet (fail)
            go_wp2_with fail
            go_roundw
            case rel => exact ⟨k + 1, e0, f0, a0, b0, s0, by omega, by go_num, by rw [N.out, hL], by rw [N.out, hL]; exact hout, R, H30, below_drewN hB _, h4, own⟩
            case measure => simp [intOf]; omega
          | true =>
            by_cases hl : L < 0
            · have N := hid (lastI_take hab (bytes_yes x1) (by rw [hL]; exact hl))
              have M := hid (lastOf_yes (i := (k : Int)) (by omega) (by simpa using hab))
              clear hab
              rw [show decide (0 ≤ L) = false by simp; omega]
              go_wp2_with fail
              go_quiet (fail)
              go_wp2_with fail
              go_roundw
              case rel => exact ⟨k + 1, e, f, a, b, s, by omega, by go_num, by rw [N.out]; simp, by rw [N.out]; exact congrArg Prod.fst M.out, R, H30, (Below.setCell (Below.setCell (Below.setCell (Below.setCell (Below.setCell (below_drewN hB _) (by dsimp; omega) _) (by dsimp; omega) _) (by dsimp; omega) _) (by dsimp; omega) _) (by dsimp; omega) _), ((Below.heap_setCell _ _ _ _ (by dsimp; omega)).trans ((Below.heap_setCell _ _ _ _ (by dsimp; omega)).trans ((Below.heap_setCell _ _ _ _ (by dsimp; omega)).trans ((Below.heap_setCell _ _ _ _ (by dsimp; omega)).trans ((Below.heap_setCell _ _ _ _ (by dsimp; omega)).trans h4))))), ((((((own_drewN own _).stored 0 _).1.stored 1 _).1.stored 2 _).1.stored 3 _).1.stored 4 _).1⟩
              case measure => simp [intOf]; omega
            · rw [show decide (0 ≤ L) = true by simp; omega]
              obtain ⟨j, rfl⟩ : ∃ j : Nat, L = j := ⟨L.toNat, by omega⟩
              have hab0 : xs[((j : Int)).toNat]? = some (e0, f0, a0, b0, s0) := by
                obtain ⟨y, hy⟩ : ∃ y, xs[((j : Int)).toNat]? = some y := ⟨_, List.getElem?_eq_getElem (by rw [hlx]; omega)⟩
                have := hout.out
                rw [lastOf_yes hl hy] at this
                rw [hy, show y = (e0, f0, a0, b0, s0) from this]
              cases x2 : decide (f0 ≤ f) with
              | true =>
                have N := hid (lastI_more hab (bytes_yes x1) (by rw [hL]; exact hab0) (of_decide_eq_true x2))
                have M := hid (lastOf_yes (i := (k : Int)) (by omega) (by simpa using hab))
                clear hab hab0
                go_wp2_with fail
                go_quiet (fail)
                go_wp2_with fail
                go_roundw
                case rel => exact ⟨k + 1, e, f, a, b, s, by omega, by go_num, by rw [N.out]; simp, by rw [N.out]; exact congrArg Prod.fst M.out, R, H30, (Below.setCell (Below.setCell (Below.setCell (Below.setCell (Below.setCell (below_drewN hB _) (by dsimp; omega) _) (by dsimp; omega) _) (by dsimp; omega) _) (by dsimp; omega) _) (by dsimp; omega) _), ((Below.heap_setCell _ _ _ _ (by dsimp; omega)).trans ((Below.heap_setCell _ _ _ _ (by dsimp; omega)).trans ((Below.heap_setCell _ _ _ _ (by dsimp; omega)).trans ((Below.heap_setCell _ _ _ _ (by dsimp; omega)).trans ((Below.heap_setCell _ _ _ _ (by dsimp; omega)).trans h4))))), ((((((own_drewN own _).stored 0 _).1.stored 1 _).1.stored 2 _).1.stored 3 _).1.stored 4 _).1⟩
                case measure => simp [intOf]; omega
              | false =>
                have N := hid (lastI_less hab (by rw [hL]; exact hl) (by rw [hL]; exact hab0) (of_decide_eq_false x2))
                clear hab hab0
                go_wp2_with fail
                go_quiet (fail)
                go_wp2_with fail
                go_roundw
                case rel => exact ⟨k + 1, e0, f0, a0, b0, s0, by omega, by go_num, by rw [N.out, hL]; simp, by rw [N.out, hL]; exact hout, R, H30, below_drewN hB _, h4, own⟩
                case measure => simp [intOf]; omega
        · have R := hid (last_no (key := key) (heard_big (xs := xs) (by omega)))
          clear hab hto hv hsm hout
          go_wp2_with fail
          refine (C _).mono ?_
          rintro e1 w2 ⟨rfl, x2⟩
          have hB := below_next hB x2.below
          have h4 := (x2.block (Array.getElem?_eq_some_iff.1 h4).1).trans h4
          have own := own_ext own x2
          clear x2 C
          have z0 := cell_of_row w2 w.heap.size 0 _ _ _ h4
          have z1 := cell_of_row w2 w.heap.size 1 _ _ _ h4
          have z2 := cell_of_row w2 w.heap.size 2 _ _ _ h4
          have z3 := cell_of_row w2 w.heap.size 3 _ _ _ h4
          have z4 := cell_of_row w2 w.heap.size 4 _ _ _ h4
          have fz0 := frozen_of_row w2 w.heap.size 0 _ _ h4
          have fz1 := frozen_of_row w2 w.heap.size 1 _ _ h4
          have fz2 := frozen_of_row w2 w.heap.size 2 _ _ h4
          have fz3 := frozen_of_row w2 w.heap.size 3 _ _ h4
          have fz4 := frozen_of_row w2 w.heap.size 4 _ _ h4
          clear h4 own c0 c1 c2 c3 c4
          go_wp2_with fail
          refine bodyPost_ret (v := .tuple #[acA 0 0 ⟨#[]⟩ ⟨#[]⟩ ⟨#[]⟩, .bool false]) (by simp [results, Try.results11, go_sem, z0, z1, z2, z3, z4]) rfl ⟨by rw [R.out]; rfl, Ext.of_below ?_⟩
          exact (((((hB.setCell (by dsimp; omega) _).setCell (by dsimp; omega) _).setCell (by dsimp; omega) _).setCell (by dsimp; omega) _).setCell (by dsimp; omega) _)
    · obtain rfl : k = n := by omega
      have hn : k ≤ 30 := by
        rcases Nat.eq_zero_or_pos k with h0 | h0
        · omega
        · exact hsm.out h0
      have R := hid ((last_yes (key := key) (heard_yes (xs := xs) (by omega) (by rw [hlx]; exact hto.out))).trans (by rw [hlx, hL, lastOf_eq, hout.out]))
      clear hto hsm hout
      have z0 := cell_of_row wr w.heap.size 0 _ _ _ h4
      have z1 := cell_of_row wr w.heap.size 1 _ _ _ h4
      have z2 := cell_of_row wr w.heap.size 2 _ _ _ h4
      have z3 := cell_of_row wr w.heap.size 3 _ _ _ h4
      have z4 := cell_of_row wr w.heap.size 4 _ _ _ h4
      have fz0 := frozen_of_row wr w.heap.size 0 _ _ h4
      have fz1 := frozen_of_row wr w.heap.size 1 _ _ h4
      have fz2 := frozen_of_row wr w.heap.size 2 _ _ h4
      have fz3 := frozen_of_row wr w.heap.size 3 _ _ h4
      have fz4 := frozen_of_row wr w.heap.size 4 _ _ h4
      obtain ⟨o0, ho0, hc0⟩ := own_old (k := 0) own (show 0 < 1 * 5 by omega)
      have hf0 := own.frozenAt 0
      obtain ⟨o1, ho1, hc1⟩ := own_old (k := 1) own (show 1 < 1 * 5 by omega)
      have hf1 := own.frozenAt 1
      obtain ⟨o2, ho2, hc2⟩ := own_old (k := 2) own (show 2 < 1 * 5 by omega)
      have hf2 := own.frozenAt 2
      obtain ⟨o3, ho3, hc3⟩ := own_old (k := 3) own (show 3 < 1 * 5 by omega)
      have hf3 := own.frozenAt 3
      obtain ⟨o4, ho4, hc4⟩ := own_old (k := 4) own (show 4 < 1 * 5 by omega)
      have hf4 := own.frozenAt 4
      injection ho0 with ho0
      injection ho1 with ho1
      injection ho2 with ho2
      injection ho3 with ho3
      injection ho4 with ho4
      subst ho0 ho1 ho2 ho3 ho4
      clear h4
      go_wp2_with fail
      refine bodyPost_ret (v := .tuple #[acA e0 f0 a0 b0 s0, .bool (decide (0 ≤ L))]) (by simp [results, Try.results11, go_sem, z0, z1, z2, z3, z4]) rfl ⟨by rw [R.out]; rfl, Ext.of_below ?_⟩
      exact (((((hB.setCell (by dsimp; omega) _).setCell (by dsimp; omega) _).setCell (by dsimp; omega) _).setCell (by dsimp; omega) _).setCell (by dsimp; omega) _)
end Go.Proofs.Ytlfjnaeepblhiaa
