/- The contracts of deliveries: whether they are valid. -/
import Derived.Test.YtbnoonaefcogdaaDeliverys
namespace Go.Proofs.Ytbnoonaefcogdaa
open Go.RowKit
set_option linter.unusedVariables false
set_option linter.unusedSimpArgs false

theorem getD_of {α : Type} {xs : List α} {k : Nat} {x d : α} (h : xs[k]? = some x) : xs.getD k d = x := by rw [List.getD_eq_getElem?_getD, h]; rfl
/-- Whether two deliveries of a list are of the same number to the same host. -/
@[irreducible] def dlTwin (xs : List Dl) (j k : Nat) : Bool := decide ((xs.getD j default).1 = (xs.getD k default).1 ∧ (xs.getD j default).2.1 = (xs.getD k default).2.1)
def dlNew (xs : List Dl) (k j : Nat) : Bool := (List.range j).all fun i => !dlTwin xs i k
/-- What a list of deliveries is asked at a place, but for what stands ahead of it. -/
@[irreducible] def dlSelf (xs : List Dl) (k : Nat) : Bool :=
  (inB (xs.getD k default).1 0 1000000000 && (wordV (xs.getD k default).2.1 && (inB (xs.getD k default).2.2.1 0 5 && inB (xs.getD k default).2.2.2 0 1000000000))) && (decide (k = 0) || decide ((xs.getD (k - 1) default).2.2.2 ≤ (xs.getD k default).2.2.2))
@[irreducible] def dlAt (xs : List Dl) (k : Nat) : Bool := dlSelf xs k && dlNew xs k k
def dlTo (xs : List Dl) (k : Nat) : Bool := (List.range k).all (dlAt xs)
/-- Whether deliveries are valid. -/
@[irreducible] def dlV (xs : List Dl) : Bool := decide (xs.length ≤ 10) && dlTo xs xs.length
theorem dlNew_succ (xs : List Dl) (k j : Nat) : dlNew xs k (j + 1) = (dlNew xs k j && !dlTwin xs j k) := by unfold dlNew; rw [List.range_succ, List.all_append]; simp
theorem dlNew_not {xs : List Dl} {k n j : Nat} (hj : j < n) (h : dlTwin xs j k = true) : dlNew xs k n = false := by
  unfold dlNew
  rw [Bool.eq_false_iff]
  intro e
  rw [List.all_eq_true] at e
  have := e j (List.mem_range.2 hj)
  rw [h] at this; cases this
theorem dlTo_succ (xs : List Dl) (k : Nat) : dlTo xs (k + 1) = (dlTo xs k && dlAt xs k) := by unfold dlTo; rw [List.range_succ, List.all_append]; simp
theorem dlTo_at {xs : List Dl} {k n : Nat} (h : dlTo xs n = true) (hk : k < n) : dlAt xs k = true := by
  unfold dlTo at h; rw [List.all_eq_true] at h; exact h k (List.mem_range.2 hk)
theorem dlTo_not {xs : List Dl} {k n : Nat} (hk : k < n) (h : dlAt xs k = false) : dlTo xs n = false := by
  rw [Bool.eq_false_iff]
  intro e
  rw [dlTo_at e hk] at h; cases h
theorem dlV_big {xs : List Dl} (h : ¬ xs.length ≤ 10) : dlV xs = false := by unfold dlV; simp [h]
theorem dlV_not {xs : List Dl} {k : Nat} (hk : k < xs.length) (h : dlAt xs k = false) : dlV xs = false := by unfold dlV; rw [dlTo_not hk h]; simp
theorem dlV_yes {xs : List Dl} (h : xs.length ≤ 10) (h' : dlTo xs xs.length = true) : dlV xs = true := by unfold dlV; simp [h, h']
theorem dlV_end {xs : List Dl} (h' : dlTo xs xs.length = true) : dlV xs = decide (xs.length ≤ 10) := by unfold dlV; simp [h']
theorem dlV_len {xs : List Dl} (h : dlV xs = true) : xs.length ≤ 10 ∧ dlTo xs xs.length = true := by unfold dlV at h; simpa using h
theorem dlV_self {xs : List Dl} {k : Nat} (hk : k < xs.length) (h : dlSelf xs k = false) : dlV xs = false := dlV_not hk (by unfold dlAt; rw [h]; rfl)
theorem dlV_twin {xs : List Dl} {k j : Nat} (hk : k < xs.length) (hj : j < k) (h : dlTwin xs j k = true) : dlV xs = false := dlV_not hk (by unfold dlAt; rw [dlNew_not hj h]; simp)
section
variable {xs : List Dl} {k : Nat} {m t y m' t' y' : Int} {a a' : ByteArray}
theorem dlSelf_no (h : xs[k]? = some (m, a, t, y)) (x : (inB m 0 1000000000 && (wordV a && (inB t 0 5 && inB y 0 1000000000))) = false) : dlSelf xs k = false := by unfold dlSelf; rw [getD_of h, x]; rfl
theorem dlSelf_0 (h : xs[0]? = some (m, a, t, y)) (x : (inB m 0 1000000000 && (wordV a && (inB t 0 5 && inB y 0 1000000000))) = true) : dlSelf xs 0 = true := by unfold dlSelf; rw [getD_of h, x]; rfl
theorem dlSelf_s (h : xs[k]? = some (m, a, t, y)) (h' : xs[k - 1]? = some (m', a', t', y')) (hk : 0 < k) (x : (inB m 0 1000000000 && (wordV a && (inB t 0 5 && inB y 0 1000000000))) = true) : dlSelf xs k = decide (y' ≤ y) := by
  unfold dlSelf; rw [getD_of h, getD_of h', x]; simp [show ¬ k = 0 by omega]
theorem dlTwin_eq {j : Nat} (h : xs[j]? = some (m', a', t', y')) (h' : xs[k]? = some (m, a, t, y)) : dlTwin xs j k = ((m' == m) && (a'.toList == a.toList)) := by
  unfold dlTwin; rw [getD_of h, getD_of h', bytes_eq, Bool.eq_iff_iff]; simp
end
set_option maxHeartbeats 4000000 in
theorem dlI_any (A : Option Addr) (n c : Nat) (xs : List Dl) (w : World) (h : Sl w A n c 4 (dls xs)) (hok : dlOk xs) :
    Calls Try.prog 7 #[.slice A n c] w fun e w' => e = .returned (.bool (dlV xs)) ∧ Ext.of w w' := by
  have hlx : xs.length = n := h.count dlC_len (by omega)
  have hmx := h.max
  have hcx := h.cap
  unfold maxLen at hmx
  by_cases hn : n ≤ 10
  · go_enter Try.func7, Try.ntmps7
    go_wp2
    go_loopg [12] n (fun g i wr => ∃ (k : Nat) (z : Ext), k ≤ n ∧ g = n - k ∧ i = .int .i64 k ∧ wr = More w z ∧ Hid (dlTo xs k = true))
    case atStart => exact ⟨0, _, Nat.zero_le _, by omega, rfl, more_refl w, rfl⟩
    case round =>
      obtain ⟨k, z, hk, hg, rfl, rfl, hto⟩ := hrel
      have HG := hid hg
      clear hg
      by_cases hlt : k < n
      · obtain ⟨ad, m, a, t, y, rfl, hab, c0, c1, c2, c3⟩ := (h.more z).dl hlt
        have HV := hid (hok _ (List.mem_of_getElem? hab))
        cases x1 : inB m 0 1000000000 with
        | false =>
          have R := hid (dlV_self (k := k) (by omega) (dlSelf_no hab (by simp [x1])))
          clear hab hto
          go_wp2_with fail
          generalize hW : (More w z).alloc (Obj.cells #[Value.int IntKind.i64 m, Value.string a, Value.int IntKind.i64 t, Value.int IntKind.i64 y] 28) = W
          have hE : Ext.of w W := by rw [← hW]; exact (Ext.of.alloc ⟨z, rfl⟩ _)
          have eW : Ext.of (More w z) W := by rw [← hW]; exact Ext.of.alloc (Ext.of.refl _) _
          have hc : W.heap[(More w z).heap.size]? = some (.cells #[Value.int IntKind.i64 m, Value.string a, Value.int IntKind.i64 t, Value.int IntKind.i64 y] 28 (0, 0)) := by rw [← hW]; exact alloc_new' rfl
          have d0 := cell_of_row W (More w z).heap.size 0 _ _ _ hc
          have d1 := cell_of_row W (More w z).heap.size 1 _ _ _ hc
          have d2 := cell_of_row W (More w z).heap.size 2 _ _ _ hc
          have d3 := cell_of_row W (More w z).heap.size 3 _ _ _ hc
          clear hW hc eW c0 c1 c2 c3
          go_wp2_with (first | (go_at_call 18; refine (within_any _ _ _ _).mono ?_; rintro e1 w' ⟨rfl, rfl⟩) | (go_at_call 19; refine (wordI_any _ _ HV.out).mono ?_; rintro e1 w' ⟨rfl, rfl⟩))
          go_ret
          exact ⟨ret_bool R.out.symm, hE⟩
        | true =>
          cases x2 : wordV a with
          | false =>
            have R := hid (dlV_self (k := k) (by omega) (dlSelf_no hab (by simp [x1, x2])))
            clear hab hto
            go_wp2_with fail
            generalize hW : (More w z).alloc (Obj.cells #[Value.int IntKind.i64 m, Value.string a, Value.int IntKind.i64 t, Value.int IntKind.i64 y] 28) = W
            have hE : Ext.of w W := by rw [← hW]; exact (Ext.of.alloc ⟨z, rfl⟩ _)
            have eW : Ext.of (More w z) W := by rw [← hW]; exact Ext.of.alloc (Ext.of.refl _) _
            have hc : W.heap[(More w z).heap.size]? = some (.cells #[Value.int IntKind.i64 m, Value.string a, Value.int IntKind.i64 t, Value.int IntKind.i64 y] 28 (0, 0)) := by rw [← hW]; exact alloc_new' rfl
            have d0 := cell_of_row W (More w z).heap.size 0 _ _ _ hc
            have d1 := cell_of_row W (More w z).heap.size 1 _ _ _ hc
            have d2 := cell_of_row W (More w z).heap.size 2 _ _ _ hc
            have d3 := cell_of_row W (More w z).heap.size 3 _ _ _ hc
            clear hW hc eW c0 c1 c2 c3
            go_wp2_with (first | (go_at_call 18; refine (within_any _ _ _ _).mono ?_; rintro e1 w' ⟨rfl, rfl⟩) | (go_at_call 19; refine (wordI_any _ _ HV.out).mono ?_; rintro e1 w' ⟨rfl, rfl⟩))
            go_ret
            exact ⟨ret_bool R.out.symm, hE⟩
          | true =>
            cases x3 : inB t 0 5 with
            | false =>
              have R := hid (dlV_self (k := k) (by omega) (dlSelf_no hab (by simp [x1, x2, x3])))
              clear hab hto
              go_wp2_with fail
              generalize hW : (More w z).alloc (Obj.cells #[Value.int IntKind.i64 m, Value.string a, Value.int IntKind.i64 t, Value.int IntKind.i64 y] 28) = W
              have hE : Ext.of w W := by rw [← hW]; exact (Ext.of.alloc ⟨z, rfl⟩ _)
              have eW : Ext.of (More w z) W := by rw [← hW]; exact Ext.of.alloc (Ext.of.refl _) _
              have hc : W.heap[(More w z).heap.size]? = some (.cells #[Value.int IntKind.i64 m, Value.string a, Value.int IntKind.i64 t, Value.int IntKind.i64 y] 28 (0, 0)) := by rw [← hW]; exact alloc_new' rfl
              have d0 := cell_of_row W (More w z).heap.size 0 _ _ _ hc
              have d1 := cell_of_row W (More w z).heap.size 1 _ _ _ hc
              have d2 := cell_of_row W (More w z).heap.size 2 _ _ _ hc
              have d3 := cell_of_row W (More w z).heap.size 3 _ _ _ hc
              clear hW hc eW c0 c1 c2 c3
              go_wp2_with (first | (go_at_call 18; refine (within_any _ _ _ _).mono ?_; rintro e1 w' ⟨rfl, rfl⟩) | (go_at_call 19; refine (wordI_any _ _ HV.out).mono ?_; rintro e1 w' ⟨rfl, rfl⟩))
              go_ret
              exact ⟨ret_bool R.out.symm, hE⟩
            | true =>
              cases x4 : inB y 0 1000000000 with
              | false =>
                have R := hid (dlV_self (k := k) (by omega) (dlSelf_no hab (by simp [x1, x2, x3, x4])))
                clear hab hto
                go_wp2_with fail
                generalize hW : (More w z).alloc (Obj.cells #[Value.int IntKind.i64 m, Value.string a, Value.int IntKind.i64 t, Value.int IntKind.i64 y] 28) = W
                have hE : Ext.of w W := by rw [← hW]; exact (Ext.of.alloc ⟨z, rfl⟩ _)
                have eW : Ext.of (More w z) W := by rw [← hW]; exact Ext.of.alloc (Ext.of.refl _) _
                have hc : W.heap[(More w z).heap.size]? = some (.cells #[Value.int IntKind.i64 m, Value.string a, Value.int IntKind.i64 t, Value.int IntKind.i64 y] 28 (0, 0)) := by rw [← hW]; exact alloc_new' rfl
                have d0 := cell_of_row W (More w z).heap.size 0 _ _ _ hc
                have d1 := cell_of_row W (More w z).heap.size 1 _ _ _ hc
                have d2 := cell_of_row W (More w z).heap.size 2 _ _ _ hc
                have d3 := cell_of_row W (More w z).heap.size 3 _ _ _ hc
                clear hW hc eW c0 c1 c2 c3
                go_wp2_with (first | (go_at_call 18; refine (within_any _ _ _ _).mono ?_; rintro e1 w' ⟨rfl, rfl⟩) | (go_at_call 19; refine (wordI_any _ _ HV.out).mono ?_; rintro e1 w' ⟨rfl, rfl⟩))
                go_ret
                exact ⟨ret_bool R.out.symm, hE⟩
              | true =>
                have hx : (inB m 0 1000000000 && (wordV a && (inB t 0 5 && inB y 0 1000000000))) = true := by simp [x1, x2, x3, x4]
                by_cases hk0 : k = 0
                · have HS := hid (show dlSelf xs k = true by subst hk0; exact dlSelf_0 hab hx)
                  have t0 : decide (0 < k) = false := by simp; omega
                  have HAB := hid hab
                  clear hab
                  have HK := hid hk0; clear hk0
                  go_wp2_with fail
                  generalize hW : (More w z).alloc (Obj.cells #[Value.int IntKind.i64 m, Value.string a, Value.int IntKind.i64 t, Value.int IntKind.i64 y] 28) = W
                  have hE : Ext.of w W := by rw [← hW]; exact (Ext.of.alloc ⟨z, rfl⟩ _)
                  have eW : Ext.of (More w z) W := by rw [← hW]; exact Ext.of.alloc (Ext.of.refl _) _
                  have hc : W.heap[(More w z).heap.size]? = some (.cells #[Value.int IntKind.i64 m, Value.string a, Value.int IntKind.i64 t, Value.int IntKind.i64 y] 28 (0, 0)) := by rw [← hW]; exact alloc_new' rfl
                  have d0 := cell_of_row W (More w z).heap.size 0 _ _ _ hc
                  have d1 := cell_of_row W (More w z).heap.size 1 _ _ _ hc
                  have d2 := cell_of_row W (More w z).heap.size 2 _ _ _ hc
                  have d3 := cell_of_row W (More w z).heap.size 3 _ _ _ hc
                  go_wp2_with (first | (go_at_call 18; refine (within_any _ _ _ _).mono ?_; rintro e1 w' ⟨rfl, rfl⟩) | (go_at_call 19; refine (wordI_any _ _ HV.out).mono ?_; rintro e1 w' ⟨rfl, rfl⟩))
                  have D0 := more_cell d0
                  have D1 := more_cell d1
                  have D2 := more_cell d2
                  have D3 := more_cell d3
                  clear hW c0 c1 c2 c3
                  refine wp_region_more (by kernel_rfl) (by kernel_rfl) ?_
                  repeat (go_big_quiet_step (fail))
                  refine wpQuiet_nil ?_
                  rintro _ ⟨z1, rfl⟩
                  clear D0 D1 D2 D3
                  go_wp2_with fail
                  clear t0 x1 x2 x3 x4 hx
                  go_loopg [56] k (fun g2 i wr => ∃ (j : Nat) (z2 : Ext), j ≤ k ∧ g2 = k - j ∧ i = .int .i64 j ∧ wr = More W z2 ∧ Hid (dlNew xs k j = true))
                  case atStart => exact ⟨0, _, Nat.zero_le _, by omega, rfl, rfl, rfl⟩
                  case round =>
                    obtain ⟨j, z2, hj, hg2, rfl, rfl, hnew⟩ := hrel
                    have HG2 := hid hg2
                    clear hg2
                    by_cases hjk : j < k
                    · obtain ⟨ad', m', a', t', y', hA, hab', p0, p1, p2, p3⟩ := (h.more z).dl (j := j) (by omega)
                      injection hA with hA
                      subst hA
                      have p0 := more_cell (eW.cell p0) z2
                      have p1 := more_cell (eW.cell p1) z2
                      have p2 := more_cell (eW.cell p2) z2
                      have p3 := more_cell (eW.cell p3) z2
                      have e0 := more_cell d0 z2
                      have e1 := more_cell d1 z2
                      have e2 := more_cell d2 z2
                      have e3 := more_cell d3 z2
                      have hT := dlTwin_eq hab' HAB.out
                      cases t1 : (m' == m) with
                      | false =>
                        rw [t1] at hT
                        simp only [Bool.false_and] at hT
                        have R := hid (show dlNew xs k (j + 1) = true by rw [dlNew_succ, hnew.out, hT]; simp)
                        clear hab' hT hnew hto
                        have E0 : ((More W z2).alloc (Obj.cells #[Value.int IntKind.i64 m', Value.string a', Value.int IntKind.i64 t', Value.int IntKind.i64 y'] 28)).cell? ⟨(More w z).heap.size, 0, none⟩ = _ := (Ext.of.alloc (Ext.of.refl _) _).cell e0
                        have E1 : ((More W z2).alloc (Obj.cells #[Value.int IntKind.i64 m', Value.string a', Value.int IntKind.i64 t', Value.int IntKind.i64 y'] 28)).cell? ⟨(More w z).heap.size, 1, none⟩ = _ := (Ext.of.alloc (Ext.of.refl _) _).cell e1
                        clear e0 e1 e2 e3
                        go_wp2_with fail
                        have HX : Ext.of W ((More W z2).alloc (Obj.cells #[Value.int IntKind.i64 m', Value.string a', Value.int IntKind.i64 t', Value.int IntKind.i64 y'] 28)) := Ext.of.alloc ⟨z2, rfl⟩ _
                        go_roundg (k - (j + 1))
                        case measure => have := HG2.out; omega
                        case rel => obtain ⟨z3, hz3⟩ := HX; exact ⟨j + 1, z3, by omega, rfl, by go_num, hz3, R⟩
                      | true =>
                        cases t2 : (a'.toList == a.toList) with
                        | false =>
                          rw [t1, t2] at hT
                          simp only [Bool.and_false] at hT
                          have R := hid (show dlNew xs k (j + 1) = true by rw [dlNew_succ, hnew.out, hT]; simp)
                          clear hab' hT hnew hto
                          have E0 : ((More W z2).alloc (Obj.cells #[Value.int IntKind.i64 m', Value.string a', Value.int IntKind.i64 t', Value.int IntKind.i64 y'] 28)).cell? ⟨(More w z).heap.size, 0, none⟩ = _ := (Ext.of.alloc (Ext.of.refl _) _).cell e0
                          have E1 : ((More W z2).alloc (Obj.cells #[Value.int IntKind.i64 m', Value.string a', Value.int IntKind.i64 t', Value.int IntKind.i64 y'] 28)).cell? ⟨(More w z).heap.size, 1, none⟩ = _ := (Ext.of.alloc (Ext.of.refl _) _).cell e1
                          clear e0 e1 e2 e3
                          go_wp2_with fail
                          have HX : Ext.of W ((More W z2).alloc (Obj.cells #[Value.int IntKind.i64 m', Value.string a', Value.int IntKind.i64 t', Value.int IntKind.i64 y'] 28)) := Ext.of.alloc ⟨z2, rfl⟩ _
                          go_roundg (k - (j + 1))
                          case measure => have := HG2.out; omega
                          case rel => obtain ⟨z3, hz3⟩ := HX; exact ⟨j + 1, z3, by omega, rfl, by go_num, hz3, R⟩
                        | true =>
                          rw [t1, t2] at hT
                          have R := hid (dlV_twin (k := k) (j := j) (by omega) hjk hT)
                          clear hab' hT hnew hto
                          have E0 : ((More W z2).alloc (Obj.cells #[Value.int IntKind.i64 m', Value.string a', Value.int IntKind.i64 t', Value.int IntKind.i64 y'] 28)).cell? ⟨(More w z).heap.size, 0, none⟩ = _ := (Ext.of.alloc (Ext.of.refl _) _).cell e0
                          have E1 : ((More W z2).alloc (Obj.cells #[Value.int IntKind.i64 m', Value.string a', Value.int IntKind.i64 t', Value.int IntKind.i64 y'] 28)).cell? ⟨(More w z).heap.size, 1, none⟩ = _ := (Ext.of.alloc (Ext.of.refl _) _).cell e1
                          clear e0 e1 e2 e3
                          go_wp2_with fail
                          have HX : Ext.of W ((More W z2).alloc (Obj.cells #[Value.int IntKind.i64 m', Value.string a', Value.int IntKind.i64 t', Value.int IntKind.i64 y'] 28)) := Ext.of.alloc ⟨z2, rfl⟩ _
                          go_ret
                          exact ⟨ret_bool R.out.symm, hE.trans HX⟩
                    · obtain rfl : j = k := by omega
                      have R := hid (show dlTo xs (j + 1) = true by rw [dlTo_succ, hto.out]; unfold dlAt; rw [HS.out, hnew.out]; rfl)
                      have HX : Ext.of w (More W z2) := hE.trans ⟨z2, rfl⟩
                      clear hnew hto d0 d1 d2 d3
                      go_wp2_with fail
                      go_roundg (n - (j + 1))
                      case measure => have := HG.out; omega
                      case rel => obtain ⟨z3, hz3⟩ := HX; exact ⟨j + 1, z3, by omega, rfl, by go_num, hz3, R⟩
                · obtain ⟨ad'', m'', a'', t'', y'', hA'', hab'', q0, q1, q2, q3⟩ := (h.more z).dl (j := k - 1) (by omega)
                  injection hA'' with hA''
                  subst hA''
                  have hS := dlSelf_s hab hab'' (by omega) hx
                  have hk1 : 0 < k := by omega
                  clear hk0 hab''
                  by_cases hyy : y'' ≤ y
                  · have HS := hid (show dlSelf xs k = true by rw [hS]; simpa using hyy)
                    have t1 : decide (y < y'') = false := by simp; omega
                    have HAB := hid hab
                    clear hab hS
                    go_wp2_with fail
                    generalize hW : (More w z).alloc (Obj.cells #[Value.int IntKind.i64 m, Value.string a, Value.int IntKind.i64 t, Value.int IntKind.i64 y] 28) = W
                    have hE : Ext.of w W := by rw [← hW]; exact (Ext.of.alloc ⟨z, rfl⟩ _)
                    have eW : Ext.of (More w z) W := by rw [← hW]; exact Ext.of.alloc (Ext.of.refl _) _
                    have hc : W.heap[(More w z).heap.size]? = some (.cells #[Value.int IntKind.i64 m, Value.string a, Value.int IntKind.i64 t, Value.int IntKind.i64 y] 28 (0, 0)) := by rw [← hW]; exact alloc_new' rfl
                    have d0 := cell_of_row W (More w z).heap.size 0 _ _ _ hc
                    have d1 := cell_of_row W (More w z).heap.size 1 _ _ _ hc
                    have d2 := cell_of_row W (More w z).heap.size 2 _ _ _ hc
                    have d3 := cell_of_row W (More w z).heap.size 3 _ _ _ hc
                    go_wp2_with (first | (go_at_call 18; refine (within_any _ _ _ _).mono ?_; rintro e1 w' ⟨rfl, rfl⟩) | (go_at_call 19; refine (wordI_any _ _ HV.out).mono ?_; rintro e1 w' ⟨rfl, rfl⟩))
                    have D0 := more_cell d0
                    have D1 := more_cell d1
                    have D2 := more_cell d2
                    have D3 := more_cell d3
                    have Q3 := more_cell (eW.cell q3)
                    clear hW c0 c1 c2 c3 q0 q1 q2 q3
                    refine wp_region_more (by kernel_rfl) (by kernel_rfl) ?_
                    repeat (go_big_quiet_step (fail))
                    refine wpQuiet_nil ?_
                    rintro _ ⟨z1, rfl⟩
                    clear D0 D1 D2 D3 Q3
                    go_wp2_with fail
                    clear t1 x1 x2 x3 x4 hx hyy
                    go_loopg [56] k (fun g2 i wr => ∃ (j : Nat) (z2 : Ext), j ≤ k ∧ g2 = k - j ∧ i = .int .i64 j ∧ wr = More W z2 ∧ Hid (dlNew xs k j = true))
                    case atStart => exact ⟨0, _, Nat.zero_le _, by omega, rfl, rfl, rfl⟩
                    case round =>
                      obtain ⟨j, z2, hj, hg2, rfl, rfl, hnew⟩ := hrel
                      have HG2 := hid hg2
                      clear hg2
                      by_cases hjk : j < k
                      · obtain ⟨ad', m', a', t', y', hA, hab', p0, p1, p2, p3⟩ := (h.more z).dl (j := j) (by omega)
                        injection hA with hA
                        subst hA
                        have p0 := more_cell (eW.cell p0) z2
                        have p1 := more_cell (eW.cell p1) z2
                        have p2 := more_cell (eW.cell p2) z2
                        have p3 := more_cell (eW.cell p3) z2
                        have e0 := more_cell d0 z2
                        have e1 := more_cell d1 z2
                        have e2 := more_cell d2 z2
                        have e3 := more_cell d3 z2
                        have hT := dlTwin_eq hab' HAB.out
                        cases t1 : (m' == m) with
                        | false =>
                          rw [t1] at hT
                          simp only [Bool.false_and] at hT
                          have R := hid (show dlNew xs k (j + 1) = true by rw [dlNew_succ, hnew.out, hT]; simp)
                          clear hab' hT hnew hto
                          have E0 : ((More W z2).alloc (Obj.cells #[Value.int IntKind.i64 m', Value.string a', Value.int IntKind.i64 t', Value.int IntKind.i64 y'] 28)).cell? ⟨(More w z).heap.size, 0, none⟩ = _ := (Ext.of.alloc (Ext.of.refl _) _).cell e0
                          have E1 : ((More W z2).alloc (Obj.cells #[Value.int IntKind.i64 m', Value.string a', Value.int IntKind.i64 t', Value.int IntKind.i64 y'] 28)).cell? ⟨(More w z).heap.size, 1, none⟩ = _ := (Ext.of.alloc (Ext.of.refl _) _).cell e1
                          clear e0 e1 e2 e3
                          go_wp2_with fail
                          have HX : Ext.of W ((More W z2).alloc (Obj.cells #[Value.int IntKind.i64 m', Value.string a', Value.int IntKind.i64 t', Value.int IntKind.i64 y'] 28)) := Ext.of.alloc ⟨z2, rfl⟩ _
                          go_roundg (k - (j + 1))
                          case measure => have := HG2.out; omega
                          case rel => obtain ⟨z3, hz3⟩ := HX; exact ⟨j + 1, z3, by omega, rfl, by go_num, hz3, R⟩
                        | true =>
                          cases t2 : (a'.toList == a.toList) with
                          | false =>
                            rw [t1, t2] at hT
                            simp only [Bool.and_false] at hT
                            have R := hid (show dlNew xs k (j + 1) = true by rw [dlNew_succ, hnew.out, hT]; simp)
                            clear hab' hT hnew hto
                            have E0 : ((More W z2).alloc (Obj.cells #[Value.int IntKind.i64 m', Value.string a', Value.int IntKind.i64 t', Value.int IntKind.i64 y'] 28)).cell? ⟨(More w z).heap.size, 0, none⟩ = _ := (Ext.of.alloc (Ext.of.refl _) _).cell e0
                            have E1 : ((More W z2).alloc (Obj.cells #[Value.int IntKind.i64 m', Value.string a', Value.int IntKind.i64 t', Value.int IntKind.i64 y'] 28)).cell? ⟨(More w z).heap.size, 1, none⟩ = _ := (Ext.of.alloc (Ext.of.refl _) _).cell e1
                            clear e0 e1 e2 e3
                            go_wp2_with fail
                            have HX : Ext.of W ((More W z2).alloc (Obj.cells #[Value.int IntKind.i64 m', Value.string a', Value.int IntKind.i64 t', Value.int IntKind.i64 y'] 28)) := Ext.of.alloc ⟨z2, rfl⟩ _
                            go_roundg (k - (j + 1))
                            case measure => have := HG2.out; omega
                            case rel => obtain ⟨z3, hz3⟩ := HX; exact ⟨j + 1, z3, by omega, rfl, by go_num, hz3, R⟩
                          | true =>
                            rw [t1, t2] at hT
                            have R := hid (dlV_twin (k := k) (j := j) (by omega) hjk hT)
                            clear hab' hT hnew hto
                            have E0 : ((More W z2).alloc (Obj.cells #[Value.int IntKind.i64 m', Value.string a', Value.int IntKind.i64 t', Value.int IntKind.i64 y'] 28)).cell? ⟨(More w z).heap.size, 0, none⟩ = _ := (Ext.of.alloc (Ext.of.refl _) _).cell e0
                            have E1 : ((More W z2).alloc (Obj.cells #[Value.int IntKind.i64 m', Value.string a', Value.int IntKind.i64 t', Value.int IntKind.i64 y'] 28)).cell? ⟨(More w z).heap.size, 1, none⟩ = _ := (Ext.of.alloc (Ext.of.refl _) _).cell e1
                            clear e0 e1 e2 e3
                            go_wp2_with fail
                            have HX : Ext.of W ((More W z2).alloc (Obj.cells #[Value.int IntKind.i64 m', Value.string a', Value.int IntKind.i64 t', Value.int IntKind.i64 y'] 28)) := Ext.of.alloc ⟨z2, rfl⟩ _
                            go_ret
                            exact ⟨ret_bool R.out.symm, hE.trans HX⟩
                      · obtain rfl : j = k := by omega
                        have R := hid (show dlTo xs (j + 1) = true by rw [dlTo_succ, hto.out]; unfold dlAt; rw [HS.out, hnew.out]; rfl)
                        have HX : Ext.of w (More W z2) := hE.trans ⟨z2, rfl⟩
                        clear hnew hto d0 d1 d2 d3
                        go_wp2_with fail
                        go_roundg (n - (j + 1))
                        case measure => have := HG.out; omega
                        case rel => obtain ⟨z3, hz3⟩ := HX; exact ⟨j + 1, z3, by omega, rfl, by go_num, hz3, R⟩
                  · have R := hid (dlV_self (k := k) (by omega) (show dlSelf xs k = false by rw [hS]; simp; omega))
                    have t1 : decide (y < y'') = true := by simp; omega
                    clear hab hS hto
                    go_wp2_with fail
                    generalize hW : (More w z).alloc (Obj.cells #[Value.int IntKind.i64 m, Value.string a, Value.int IntKind.i64 t, Value.int IntKind.i64 y] 28) = W
                    have hE : Ext.of w W := by rw [← hW]; exact (Ext.of.alloc ⟨z, rfl⟩ _)
                    have eW : Ext.of (More w z) W := by rw [← hW]; exact Ext.of.alloc (Ext.of.refl _) _
                    have hc : W.heap[(More w z).heap.size]? = some (.cells #[Value.int IntKind.i64 m, Value.string a, Value.int IntKind.i64 t, Value.int IntKind.i64 y] 28 (0, 0)) := by rw [← hW]; exact alloc_new' rfl
                    have d0 := cell_of_row W (More w z).heap.size 0 _ _ _ hc
                    have d1 := cell_of_row W (More w z).heap.size 1 _ _ _ hc
                    have d2 := cell_of_row W (More w z).heap.size 2 _ _ _ hc
                    have d3 := cell_of_row W (More w z).heap.size 3 _ _ _ hc
                    go_wp2_with (first | (go_at_call 18; refine (within_any _ _ _ _).mono ?_; rintro e1 w' ⟨rfl, rfl⟩) | (go_at_call 19; refine (wordI_any _ _ HV.out).mono ?_; rintro e1 w' ⟨rfl, rfl⟩))
                    have D0 := more_cell d0
                    have D1 := more_cell d1
                    have D2 := more_cell d2
                    have D3 := more_cell d3
                    have Q3 := more_cell (eW.cell q3)
                    clear hW c0 c1 c2 c3 q0 q1 q2 q3
                    refine wp_region_more (by kernel_rfl) (by kernel_rfl) ?_
                    repeat (go_big_quiet_step (fail))
                    refine wpQuiet_nil ?_
                    rintro _ ⟨z1, rfl⟩
                    clear D0 D1 D2 D3 Q3
                    go_wp2_with fail
                    go_ret
                    exact ⟨ret_bool R.out.symm, hE.trans ⟨z1, rfl⟩⟩
      · obtain rfl : k = n := by omega
        have R := hid (dlV_yes (xs := xs) (by omega) (by rw [hlx]; exact hto.out))
        go_wp2
        go_ret
        exact ⟨ret_bool R.out.symm, ⟨_, rfl⟩⟩
  · have R := hid (dlV_big (xs := xs) (by omega))
    go_enter Try.func7, Try.ntmps7
    go_wp2
    go_ret
    exact ⟨ret_bool R.out.symm, Ext.of.refl _⟩
end Go.Proofs.Ytbnoonaefcogdaa
