/- The contract of deliveries, the reference's: whether they are valid. -/
import Derived.Test.YtbnoonaefcogdaaDelV
namespace Go.Proofs.Ytbnoonaefcogdaa
open Go.RowKit
set_option linter.unusedVariables false
set_option linter.unusedSimpArgs false
set_option maxRecDepth 4000 in
set_option maxHeartbeats 4000000 in
theorem dlS_any (A : Option Addr) (n c : Nat) (xs : List Dl) (w : World) (h : Sl w A n c 4 (dls xs)) (hok : dlOk xs) :
    Calls Try.prog 8 #[.slice A n c] w fun e w' => e = .returned (.bool (dlV xs)) ∧ Ext.of w w' := by
  have hlx : xs.length = n := h.count dlC_len (by omega)
  have hmx := h.max
  have hcx := h.cap
  unfold maxLen at hmx
  go_enter Try.func8, Try.ntmps8
  go_wp2
  go_loopg [3] n (fun g i wr => ∃ (k : Nat) (z : Ext), k ≤ n ∧ g = n - k ∧ i = .int .i64 k ∧ wr = More w z ∧ Hid (dlTo xs k = true))
  case atStart => exact ⟨0, _, Nat.zero_le _, by omega, rfl, more_refl w, rfl⟩
  case round =>
    obtain ⟨k, z, hk, hg, rfl, rfl, hto⟩ := hrel
    have HG := hid hg
    clear hg
    by_cases hlt : k < n
    · obtain ⟨ad, m, a, t, y, rfl, hab, c0, c1, c2, c3⟩ := (h.more z).dl hlt
      have HV := hid (hok _ (List.mem_of_getElem? hab))
      cases x1 : inB m 0 1000000000 with
      | false =>
        have R := hid (dlV_self (k := k) (by omega) (dlSelf_no hab (by simp [x1])))
        clear hab hto
        go_wp2_with fail
        generalize hW : (More w z).alloc (Obj.cells #[Value.int IntKind.i64 m, Value.string a, Value.int IntKind.i64 t, Value.int IntKind.i64 y] 28) = W
        have hE : Ext.of w W := by rw [← hW]; exact (Ext.of.alloc ⟨z, rfl⟩ _)
        have eW : Ext.of (More w z) W := by rw [← hW]; exact Ext.of.alloc (Ext.of.refl _) _
        have hc : W.heap[(More w z).heap.size]? = some (.cells #[Value.int IntKind.i64 m, Value.string a, Value.int IntKind.i64 t, Value.int IntKind.i64 y] 28 (0, 0)) := by rw [← hW]; exact alloc_new' rfl
        have d0 := cell_of_row W (More w z).heap.size 0 _ _ _ hc
        have d1 := cell_of_row W (More w z).heap.size 1 _ _ _ hc
        have d2 := cell_of_row W (More w z).heap.size 2 _ _ _ hc
        have d3 := cell_of_row W (More w z).heap.size 3 _ _ _ hc
        have d0 := more_cell d0
        have d1 := more_cell d1
        have d2 := more_cell d2
        have d3 := more_cell d3
        clear hW hc eW c0 c1 c2 c3
        refine wp_region_more (by kernel_rfl) (by kernel_rfl) ?_
        repeat (go_big_quiet_step (first | exact more_same (l1In_any _ _ _ _) | exact more_same (wordS_any _ _ HV.out)))
        refine wpQuiet_nil ?_
        rintro _ ⟨z1, rfl⟩
        go_wp2_with fail
        go_ret
        exact ⟨ret_bool R.out.symm, hE.trans ⟨z1, rfl⟩⟩
      | true =>
        cases x4 : inB y 0 1000000000 with
        | false =>
          have R := hid (dlV_self (k := k) (by omega) (dlSelf_no hab (by simp [x1, x4])))
          clear hab hto
          go_wp2_with fail
          generalize hW : (More w z).alloc (Obj.cells #[Value.int IntKind.i64 m, Value.string a, Value.int IntKind.i64 t, Value.int IntKind.i64 y] 28) = W
          have hE : Ext.of w W := by rw [← hW]; exact (Ext.of.alloc ⟨z, rfl⟩ _)
          have eW : Ext.of (More w z) W := by rw [← hW]; exact Ext.of.alloc (Ext.of.refl _) _
          have hc : W.heap[(More w z).heap.size]? = some (.cells #[Value.int IntKind.i64 m, Value.string a, Value.int IntKind.i64 t, Value.int IntKind.i64 y] 28 (0, 0)) := by rw [← hW]; exact alloc_new' rfl
          have d0 := cell_of_row W (More w z).heap.size 0 _ _ _ hc
          have d1 := cell_of_row W (More w z).heap.size 1 _ _ _ hc
          have d2 := cell_of_row W (More w z).heap.size 2 _ _ _ hc
          have d3 := cell_of_row W (More w z).heap.size 3 _ _ _ hc
          have d0 := more_cell d0
          have d1 := more_cell d1
          have d2 := more_cell d2
          have d3 := more_cell d3
          clear hW hc eW c0 c1 c2 c3
          refine wp_region_more (by kernel_rfl) (by kernel_rfl) ?_
          repeat (go_big_quiet_step (first | exact more_same (l1In_any _ _ _ _) | exact more_same (wordS_any _ _ HV.out)))
          refine wpQuiet_nil ?_
          rintro _ ⟨z1, rfl⟩
          go_wp2_with fail
          go_ret
          exact ⟨ret_bool R.out.symm, hE.trans ⟨z1, rfl⟩⟩
        | true =>
          cases x2 : wordV a with
          | false =>
            have R := hid (dlV_self (k := k) (by omega) (dlSelf_no hab (by simp [x1, x4, x2])))
            clear hab hto
            go_wp2_with fail
            generalize hW : (More w z).alloc (Obj.cells #[Value.int IntKind.i64 m, Value.string a, Value.int IntKind.i64 t, Value.int IntKind.i64 y] 28) = W
            have hE : Ext.of w W := by rw [← hW]; exact (Ext.of.alloc ⟨z, rfl⟩ _)
            have eW : Ext.of (More w z) W := by rw [← hW]; exact Ext.of.alloc (Ext.of.refl _) _
            have hc : W.heap[(More w z).heap.size]? = some (.cells #[Value.int IntKind.i64 m, Value.string a, Value.int IntKind.i64 t, Value.int IntKind.i64 y] 28 (0, 0)) := by rw [← hW]; exact alloc_new' rfl
            have d0 := cell_of_row W (More w z).heap.size 0 _ _ _ hc
            have d1 := cell_of_row W (More w z).heap.size 1 _ _ _ hc
            have d2 := cell_of_row W (More w z).heap.size 2 _ _ _ hc
            have d3 := cell_of_row W (More w z).heap.size 3 _ _ _ hc
            have d0 := more_cell d0
            have d1 := more_cell d1
            have d2 := more_cell d2
            have d3 := more_cell d3
            clear hW hc eW c0 c1 c2 c3
            refine wp_region_more (by kernel_rfl) (by kernel_rfl) ?_
            repeat (go_big_quiet_step (first | exact more_same (l1In_any _ _ _ _) | exact more_same (wordS_any _ _ HV.out)))
            refine wpQuiet_nil ?_
            rintro _ ⟨z1, rfl⟩
            go_wp2_with fail
            go_ret
            exact ⟨ret_bool R.out.symm, hE.trans ⟨z1, rfl⟩⟩
          | true =>
            cases x3 : inB t 0 5 with
            | false =>
              have R := hid (dlV_self (k := k) (by omega) (dlSelf_no hab (by simp [x1, x4, x2, x3])))
              clear hab hto
              go_wp2_with fail
              generalize hW : (More w z).alloc (Obj.cells #[Value.int IntKind.i64 m, Value.string a, Value.int IntKind.i64 t, Value.int IntKind.i64 y] 28) = W
              have hE : Ext.of w W := by rw [← hW]; exact (Ext.of.alloc ⟨z, rfl⟩ _)
              have eW : Ext.of (More w z) W := by rw [← hW]; exact Ext.of.alloc (Ext.of.refl _) _
              have hc : W.heap[(More w z).heap.size]? = some (.cells #[Value.int IntKind.i64 m, Value.string a, Value.int IntKind.i64 t, Value.int IntKind.i64 y] 28 (0, 0)) := by rw [← hW]; exact alloc_new' rfl
              have d0 := cell_of_row W (More w z).heap.size 0 _ _ _ hc
              have d1 := cell_of_row W (More w z).heap.size 1 _ _ _ hc
              have d2 := cell_of_row W (More w z).heap.size 2 _ _ _ hc
              have d3 := cell_of_row W (More w z).heap.size 3 _ _ _ hc
              have d0 := more_cell d0
              have d1 := more_cell d1
              have d2 := more_cell d2
              have d3 := more_cell d3
              clear hW hc eW c0 c1 c2 c3
              refine wp_region_more (by kernel_rfl) (by kernel_rfl) ?_
              repeat (go_big_quiet_step (first | exact more_same (l1In_any _ _ _ _) | exact more_same (wordS_any _ _ HV.out)))
              refine wpQuiet_nil ?_
              rintro _ ⟨z1, rfl⟩
              go_wp2_with fail
              go_ret
              exact ⟨ret_bool R.out.symm, hE.trans ⟨z1, rfl⟩⟩
            | true =>
              have hx : (inB m 0 1000000000 && (wordV a && (inB t 0 5 && inB y 0 1000000000))) = true := by simp [x1, x2, x3, x4]
              by_cases hk0 : k = 0
              · have HS := hid (show dlSelf xs k = true by subst hk0; exact dlSelf_0 hab hx)
                have t0 : decide (0 < k) = false := by simp; omega
                have HAB := hid hab
                clear hab
                have HK := hid hk0; clear hk0
                go_wp2_with fail
                generalize hW : (More w z).alloc (Obj.cells #[Value.int IntKind.i64 m, Value.string a, Value.int IntKind.i64 t, Value.int IntKind.i64 y] 28) = W
                have hE : Ext.of w W := by rw [← hW]; exact (Ext.of.alloc ⟨z, rfl⟩ _)
                have eW : Ext.of (More w z) W := by rw [← hW]; exact Ext.of.alloc (Ext.of.refl _) _
                have hc : W.heap[(More w z).heap.size]? = some (.cells #[Value.int IntKind.i64 m, Value.string a, Value.int IntKind.i64 t, Value.int IntKind.i64 y] 28 (0, 0)) := by rw [← hW]; exact alloc_new' rfl
                have d0 := cell_of_row W (More w z).heap.size 0 _ _ _ hc
                have d1 := cell_of_row W (More w z).heap.size 1 _ _ _ hc
                have d2 := cell_of_row W (More w z).heap.size 2 _ _ _ hc
                have d3 := cell_of_row W (More w z).heap.size 3 _ _ _ hc
                have D0 := more_cell d0
                have D1 := more_cell d1
                have D2 := more_cell d2
                have D3 := more_cell d3
                clear hW c0 c1 c2 c3
                refine wp_region_more (by kernel_rfl) (by kernel_rfl) ?_
                repeat (go_big_quiet_step (first | exact more_same (l1In_any _ _ _ _) | exact more_same (wordS_any _ _ HV.out)))
                refine wpQuiet_nil ?_
                rintro _ ⟨z1, rfl⟩
                clear D0 D1 D2 D3
                go_wp2_with fail
                clear t0 x1 x2 x3 x4 hx
                go_loopg [5] k (fun g2 i wr => ∃ (j : Nat) (z2 : Ext), j ≤ k ∧ g2 = k - j ∧ i = .int .i64 j ∧ wr = More W z2 ∧ Hid (dlNew xs k j = true))
                case atStart => exact ⟨0, _, Nat.zero_le _, by omega, rfl, rfl, rfl⟩
                case round =>
                  obtain ⟨j, z2, hj, hg2, rfl, rfl, hnew⟩ := hrel
                  have HG2 := hid hg2
                  clear hg2
                  by_cases hjk : j < k
                  · obtain ⟨ad', m', a', t', y', hA, hab', p0, p1, p2, p3⟩ := (h.more z).dl (j := j) (by omega)
                    injection hA with hA
                    subst hA
                    have p0 := more_cell (eW.cell p0) z2
                    have p1 := more_cell (eW.cell p1) z2
                    have p2 := more_cell (eW.cell p2) z2
                    have p3 := more_cell (eW.cell p3) z2
                    have e0 := more_cell d0 z2
                    have e1 := more_cell d1 z2
                    have e2 := more_cell d2 z2
                    have e3 := more_cell d3 z2
                    have hT := dlTwin_eq hab' HAB.out
                    cases t1 : (m' == m) with
                    | false =>
                      rw [t1] at hT
                      simp only [Bool.false_and] at hT
                      have R := hid (show dlNew xs k (j + 1) = true by rw [dlNew_succ, hnew.out, hT]; simp)
                      clear hab' hT hnew hto
                      have E0 := more_cell e0
                      have E1 := more_cell e1
                      have P0 := more_cell p0
                      have P1 := more_cell p1
                      clear e0 e1 e2 e3 p0 p1 p2 p3
                      go_wp2_with fail
                      refine wp_region_more (by kernel_rfl) (by kernel_rfl) ?_
                      repeat (go_big_quiet_step (fail))
                      refine wpQuiet_nil ?_
                      rintro _ ⟨z4, rfl⟩
                      have HX : Ext.of W (More (More W z2) z4) := (show Ext.of W (More W z2) from ⟨z2, rfl⟩).trans ⟨z4, rfl⟩
                      go_wp2_with fail
                      go_roundg (k - (j + 1))
                      case measure => have := HG2.out; omega
                      case rel => obtain ⟨z3, hz3⟩ := HX; exact ⟨j + 1, z3, by omega, rfl, by go_num, hz3, R⟩
                    | true =>
                      cases t2 : (a'.toList == a.toList) with
                      | false =>
                        rw [t1, t2] at hT
                        simp only [Bool.and_false] at hT
                        have R := hid (show dlNew xs k (j + 1) = true by rw [dlNew_succ, hnew.out, hT]; simp)
                        clear hab' hT hnew hto
                        have E0 := more_cell e0
                        have E1 := more_cell e1
                        have P0 := more_cell p0
                        have P1 := more_cell p1
                        clear e0 e1 e2 e3 p0 p1 p2 p3
                        go_wp2_with fail
                        refine wp_region_more (by kernel_rfl) (by kernel_rfl) ?_
                        repeat (go_big_quiet_step (fail))
                        refine wpQuiet_nil ?_
                        rintro _ ⟨z4, rfl⟩
                        have HX : Ext.of W (More (More W z2) z4) := (show Ext.of W (More W z2) from ⟨z2, rfl⟩).trans ⟨z4, rfl⟩
                        go_wp2_with fail
                        go_roundg (k - (j + 1))
                        case measure => have := HG2.out; omega
                        case rel => obtain ⟨z3, hz3⟩ := HX; exact ⟨j + 1, z3, by omega, rfl, by go_num, hz3, R⟩
                      | true =>
                        rw [t1, t2] at hT
                        have R := hid (dlV_twin (k := k) (j := j) (by omega) hjk hT)
                        clear hab' hT hnew hto
                        have E0 := more_cell e0
                        have E1 := more_cell e1
                        have P0 := more_cell p0
                        have P1 := more_cell p1
                        clear e0 e1 e2 e3 p0 p1 p2 p3
                        go_wp2_with fail
                        refine wp_region_more (by kernel_rfl) (by kernel_rfl) ?_
                        repeat (go_big_quiet_step (fail))
                        refine wpQuiet_nil ?_
                        rintro _ ⟨z4, rfl⟩
                        have HX : Ext.of W (More (More W z2) z4) := (show Ext.of W (More W z2) from ⟨z2, rfl⟩).trans ⟨z4, rfl⟩
                        go_wp2_with fail
                        go_ret
                        exact ⟨ret_bool R.out.symm, hE.trans HX⟩
                  · obtain rfl : j = k := by omega
                    have R := hid (show dlTo xs (j + 1) = true by rw [dlTo_succ, hto.out]; unfold dlAt; rw [HS.out, hnew.out]; rfl)
                    have HX : Ext.of w (More W z2) := hE.trans ⟨z2, rfl⟩
                    clear hnew hto d0 d1 d2 d3
                    go_wp2_with fail
                    go_roundg (n - (j + 1))
                    case measure => have := HG.out; omega
                    case rel => obtain ⟨z3, hz3⟩ := HX; exact ⟨j + 1, z3, by omega, rfl, by go_num, hz3, R⟩
              · obtain ⟨ad'', m'', a'', t'', y'', hA'', hab'', q0, q1, q2, q3⟩ := (h.more z).dl (j := k - 1) (by omega)
                injection hA'' with hA''
                subst hA''
                have hS := dlSelf_s hab hab'' (by omega) hx
                have hk1 : 0 < k := by omega
                clear hk0 hab''
                by_cases hyy : y'' ≤ y
                · have HS := hid (show dlSelf xs k = true by rw [hS]; simpa using hyy)
                  have t1 : decide (y < y'') = false := by simp; omega
                  have HAB := hid hab
                  clear hab hS
                  go_wp2_with fail
                  generalize hW : (More w z).alloc (Obj.cells #[Value.int IntKind.i64 m, Value.string a, Value.int IntKind.i64 t, Value.int IntKind.i64 y] 28) = W
                  have hE : Ext.of w W := by rw [← hW]; exact (Ext.of.alloc ⟨z, rfl⟩ _)
                  have eW : Ext.of (More w z) W := by rw [← hW]; exact Ext.of.alloc (Ext.of.refl _) _
                  have hc : W.heap[(More w z).heap.size]? = some (.cells #[Value.int IntKind.i64 m, Value.string a, Value.int IntKind.i64 t, Value.int IntKind.i64 y] 28 (0, 0)) := by rw [← hW]; exact alloc_new' rfl
                  have d0 := cell_of_row W (More w z).heap.size 0 _ _ _ hc
                  have d1 := cell_of_row W (More w z).heap.size 1 _ _ _ hc
                  have d2 := cell_of_row W (More w z).heap.size 2 _ _ _ hc
                  have d3 := cell_of_row W (More w z).heap.size 3 _ _ _ hc
                  have D0 := more_cell d0
                  have D1 := more_cell d1
                  have D2 := more_cell d2
                  have D3 := more_cell d3
                  have Q3 := more_cell (eW.cell q3)
                  clear hW c0 c1 c2 c3 q0 q1 q2 q3
                  refine wp_region_more (by kernel_rfl) (by kernel_rfl) ?_
                  repeat (go_big_quiet_step (first | exact more_same (l1In_any _ _ _ _) | exact more_same (wordS_any _ _ HV.out)))
                  refine wpQuiet_nil ?_
                  rintro _ ⟨z1, rfl⟩
                  clear D0 D1 D2 D3 Q3
                  go_wp2_with fail
                  clear t1 x1 x2 x3 x4 hx hyy
                  go_loopg [5] k (fun g2 i wr => ∃ (j : Nat) (z2 : Ext), j ≤ k ∧ g2 = k - j ∧ i = .int .i64 j ∧ wr = More W z2 ∧ Hid (dlNew xs k j = true))
                  case atStart => exact ⟨0, _, Nat.zero_le _, by omega, rfl, rfl, rfl⟩
                  case round =>
                    obtain ⟨j, z2, hj, hg2, rfl, rfl, hnew⟩ := hrel
                    have HG2 := hid hg2
                    clear hg2
                    by_cases hjk : j < k
                    · obtain ⟨ad', m', a', t', y', hA, hab', p0, p1, p2, p3⟩ := (h.more z).dl (j := j) (by omega)
                      injection hA with hA
                      subst hA
                      have p0 := more_cell (eW.cell p0) z2
                      have p1 := more_cell (eW.cell p1) z2
                      have p2 := more_cell (eW.cell p2) z2
                      have p3 := more_cell (eW.cell p3) z2
                      have e0 := more_cell d0 z2
                      have e1 := more_cell d1 z2
                      have e2 := more_cell d2 z2
                      have e3 := more_cell d3 z2
                      have hT := dlTwin_eq hab' HAB.out
                      cases t1 : (m' == m) with
                      | false =>
                        rw [t1] at hT
                        simp only [Bool.false_and] at hT
                        have R := hid (show dlNew xs k (j + 1) = true by rw [dlNew_succ, hnew.out, hT]; simp)
                        clear hab' hT hnew hto
                        have E0 := more_cell e0
                        have E1 := more_cell e1
                        have P0 := more_cell p0
                        have P1 := more_cell p1
                        clear e0 e1 e2 e3 p0 p1 p2 p3
                        go_wp2_with fail
                        refine wp_region_more (by kernel_rfl) (by kernel_rfl) ?_
                        repeat (go_big_quiet_step (fail))
                        refine wpQuiet_nil ?_
                        rintro _ ⟨z4, rfl⟩
                        have HX : Ext.of W (More (More W z2) z4) := (show Ext.of W (More W z2) from ⟨z2, rfl⟩).trans ⟨z4, rfl⟩
                        go_wp2_with fail
                        go_roundg (k - (j + 1))
                        case measure => have := HG2.out; omega
                        case rel => obtain ⟨z3, hz3⟩ := HX; exact ⟨j + 1, z3, by omega, rfl, by go_num, hz3, R⟩
                      | true =>
                        cases t2 : (a'.toList == a.toList) with
                        | false =>
                          rw [t1, t2] at hT
                          simp only [Bool.and_false] at hT
                          have R := hid (show dlNew xs k (j + 1) = true by rw [dlNew_succ, hnew.out, hT]; simp)
                          clear hab' hT hnew hto
                          have E0 := more_cell e0
                          have E1 := more_cell e1
                          have P0 := more_cell p0
                          have P1 := more_cell p1
                          clear e0 e1 e2 e3 p0 p1 p2 p3
                          go_wp2_with fail
                          refine wp_region_more (by kernel_rfl) (by kernel_rfl) ?_
                          repeat (go_big_quiet_step (fail))
                          refine wpQuiet_nil ?_
                          rintro _ ⟨z4, rfl⟩
                          have HX : Ext.of W (More (More W z2) z4) := (show Ext.of W (More W z2) from ⟨z2, rfl⟩).trans ⟨z4, rfl⟩
                          go_wp2_with fail
                          go_roundg (k - (j + 1))
                          case measure => have := HG2.out; omega
                          case rel => obtain ⟨z3, hz3⟩ := HX; exact ⟨j + 1, z3, by omega, rfl, by go_num, hz3, R⟩
                        | true =>
                          rw [t1, t2] at hT
                          have R := hid (dlV_twin (k := k) (j := j) (by omega) hjk hT)
                          clear hab' hT hnew hto
                          have E0 := more_cell e0
                          have E1 := more_cell e1
                          have P0 := more_cell p0
                          have P1 := more_cell p1
                          clear e0 e1 e2 e3 p0 p1 p2 p3
                          go_wp2_with fail
                          refine wp_region_more (by kernel_rfl) (by kernel_rfl) ?_
                          repeat (go_big_quiet_step (fail))
                          refine wpQuiet_nil ?_
                          rintro _ ⟨z4, rfl⟩
                          have HX : Ext.of W (More (More W z2) z4) := (show Ext.of W (More W z2) from ⟨z2, rfl⟩).trans ⟨z4, rfl⟩
                          go_wp2_with fail
                          go_ret
                          exact ⟨ret_bool R.out.symm, hE.trans HX⟩
                    · obtain rfl : j = k := by omega
                      have R := hid (show dlTo xs (j + 1) = true by rw [dlTo_succ, hto.out]; unfold dlAt; rw [HS.out, hnew.out]; rfl)
                      have HX : Ext.of w (More W z2) := hE.trans ⟨z2, rfl⟩
                      clear hnew hto d0 d1 d2 d3
                      go_wp2_with fail
                      go_roundg (n - (j + 1))
                      case measure => have := HG.out; omega
                      case rel => obtain ⟨z3, hz3⟩ := HX; exact ⟨j + 1, z3, by omega, rfl, by go_num, hz3, R⟩
                · have R := hid (dlV_self (k := k) (by omega) (show dlSelf xs k = false by rw [hS]; simp; omega))
                  have t1 : decide (y < y'') = true := by simp; omega
                  clear hab hS hto
                  go_wp2_with fail
                  generalize hW : (More w z).alloc (Obj.cells #[Value.int IntKind.i64 m, Value.string a, Value.int IntKind.i64 t, Value.int IntKind.i64 y] 28) = W
                  have hE : Ext.of w W := by rw [← hW]; exact (Ext.of.alloc ⟨z, rfl⟩ _)
                  have eW : Ext.of (More w z) W := by rw [← hW]; exact Ext.of.alloc (Ext.of.refl _) _
                  have hc : W.heap[(More w z).heap.size]? = some (.cells #[Value.int IntKind.i64 m, Value.string a, Value.int IntKind.i64 t, Value.int IntKind.i64 y] 28 (0, 0)) := by rw [← hW]; exact alloc_new' rfl
                  have d0 := cell_of_row W (More w z).heap.size 0 _ _ _ hc
                  have d1 := cell_of_row W (More w z).heap.size 1 _ _ _ hc
                  have d2 := cell_of_row W (More w z).heap.size 2 _ _ _ hc
                  have d3 := cell_of_row W (More w z).heap.size 3 _ _ _ hc
                  have D0 := more_cell d0
                  have D1 := more_cell d1
                  have D2 := more_cell d2
                  have D3 := more_cell d3
                  have Q3 := more_cell (eW.cell q3)
                  clear hW c0 c1 c2 c3 q0 q1 q2 q3
                  refine wp_region_more (by kernel_rfl) (by kernel_rfl) ?_
                  repeat (go_big_quiet_step (first | exact more_same (l1In_any _ _ _ _) | exact more_same (wordS_any _ _ HV.out)))
                  refine wpQuiet_nil ?_
                  rintro _ ⟨z1, rfl⟩
                  clear D0 D1 D2 D3 Q3
                  go_wp2_with fail
                  go_ret
                  exact ⟨ret_bool R.out.symm, hE.trans ⟨z1, rfl⟩⟩
    · obtain rfl : k = n := by omega
      have R := hid (dlV_end (xs := xs) (by rw [hlx]; exact hto.out))
      rw [hlx] at R
      go_wp2
      go_ret
      exact ⟨ret_bool (by rw [R.out]; simp; omega), ⟨_, rfl⟩⟩
end Go.Proofs.Ytbnoonaefcogdaa
