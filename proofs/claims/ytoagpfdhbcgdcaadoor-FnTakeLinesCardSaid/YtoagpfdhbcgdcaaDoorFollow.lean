/- The contracts of followers: whether a list of them is valid. -/
import Derived.Test.YtoagpfdhbcgdcaaDoorHandles
namespace Go.Proofs.YtoagpfdhbcgdcaaDoor
open Go.RowKit
set_option linter.unusedVariables false

/-- What a list of followers is asked at a place. -/
@[irreducible] def folAt (xs : List Hd) (k : Nat) : Bool := hvalV (xs.getD k default).1 (xs.getD k default).2 && (decide (k = 0) || hbefV (xs.getD (k - 1) default).1 (xs.getD (k - 1) default).2 (xs.getD k default).1 (xs.getD k default).2)
def folTo (xs : List Hd) (k : Nat) : Bool := (List.range k).all (folAt xs)
/-- Whether followers are valid. -/
@[irreducible] def folV (xs : List Hd) : Bool := decide (xs.length ≤ 10) && folTo xs xs.length
theorem getD_of {α : Type} {xs : List α} {k : Nat} {x d : α} (h : xs[k]? = some x) : xs.getD k d = x := by rw [List.getD_eq_getElem?_getD, h]; rfl
theorem folTo_succ (xs : List Hd) (k : Nat) : folTo xs (k + 1) = (folTo xs k && folAt xs k) := by unfold folTo; rw [List.range_succ, List.all_append]; simp
theorem folTo_not {xs : List Hd} {k n : Nat} (hk : k < n) (h : folAt xs k = false) : folTo xs n = false := by
  unfold folTo
  rw [Bool.eq_false_iff]
  intro e
  rw [List.all_eq_true] at e
  have := e k (List.mem_range.2 hk)
  rw [h] at this; cases this
theorem folV_big {xs : List Hd} (h : ¬ xs.length ≤ 10) : folV xs = false := by unfold folV; simp [h]
theorem folV_not {xs : List Hd} {k : Nat} (hk : k < xs.length) (h : folAt xs k = false) : folV xs = false := by unfold folV; rw [folTo_not hk h]; simp
theorem folV_yes {xs : List Hd} (h : xs.length ≤ 10) (h' : folTo xs xs.length = true) : folV xs = true := by unfold folV; simp [h, h']
theorem folV_end {xs : List Hd} (h' : folTo xs xs.length = true) : folV xs = decide (xs.length ≤ 10) := by unfold folV; simp [h']
section
variable {xs : List Hd} {k : Nat} {a b a' b' : ByteArray}
theorem folAt_no (h : xs[k]? = some (a, b)) (e : hvalV a b = false) : folAt xs k = false := by unfold folAt; rw [getD_of h]; simp [e]
theorem folAt_0 (h : xs[0]? = some (a, b)) (e : hvalV a b = true) : folAt xs 0 = true := by unfold folAt; rw [getD_of h]; simp [e]
theorem folAt_s (h : xs[k + 1]? = some (a, b)) (h' : xs[k]? = some (a', b')) (e : hvalV a b = true) : folAt xs (k + 1) = hbefV a' b' a b := by unfold folAt; rw [getD_of h, Nat.add_sub_cancel, getD_of h']; simp [e]
end
set_option maxHeartbeats 1000000 in
theorem folI_any (A : Option Addr) (n c : Nat) (xs : List Hd) (w : World) (h : Sl w A n c 2 (hds xs)) (hok : hdOk xs) :
    Calls Tryd.prog 48 #[.slice A n c] w fun e w' => e = .returned (.bool (folV xs)) ∧ Ext.of w w' := by
  have hlx : xs.length = n := h.count hdC_len (by omega)
  have hmx := h.max
  have hcx := h.cap
  unfold maxLen at hmx
  by_cases hn : n ≤ 10
  · go_enter Tryd.func48, Tryd.ntmps48
    go_wp2
    go_loopw [10] (fun i wr => ∃ (k : Nat) (y : Ext), k ≤ n ∧ i = .int .i64 k ∧ wr = More w y ∧ Hid (folTo xs k = true)) (fun i _ => n - (intOf i).toNat)
    case atStart => exact ⟨0, _, Nat.zero_le _, rfl, more_refl w, rfl⟩
    case round =>
      obtain ⟨k, y, hk, rfl, rfl, hto⟩ := hrel
      by_cases hlt : k < n
      · obtain ⟨ad, a, b, rfl, hab, c0, c1⟩ := (h.more y).hd hlt
        have hva := hok _ (List.mem_of_getElem? hab)
        have HV := hid hva; clear hva
        cases hv : hvalV a b with
        | false =>
          have R := hid (folV_not (k := k) (by omega) (folAt_no hab hv))
          have C := fun W => hvalI_any a b W HV.out.1 HV.out.2
          rw [hv] at C
          clear hab hto hv
          go_wp2
          generalize hW : (More w y).alloc (Obj.cells #[Value.string a, Value.string b] 28) = W
          have hE : Ext.of w W := by rw [← hW]; exact (Ext.of.alloc ⟨y, rfl⟩ _)
          have hc : W.heap[(More w y).heap.size]? = some (.cells #[Value.string a, Value.string b] 28 (0, 0)) := by rw [← hW]; exact alloc_new' rfl
          have d0 := more_cell (cell_of_row W (More w y).heap.size 0 _ _ _ hc)
          have d1 := more_cell (cell_of_row W (More w y).heap.size 1 _ _ _ hc)
          clear hc hW c0 c1
          refine wp_region_more (by kernel_rfl) (by kernel_rfl) ?_
          repeat (go_big_quiet_step (exact more_of (C _)))
          refine wpQuiet_nil ?_
          rintro _ ⟨z, rfl⟩
          go_wp2
          go_ret
          exact ⟨ret_bool R.out.symm, hE.trans ⟨z, rfl⟩⟩
        | true =>
          have C := fun W => hvalI_any a b W HV.out.1 HV.out.2
          rw [hv] at C
          by_cases hk0 : k = 0
          · have R := hid (show folTo xs (k + 1) = true by rw [folTo_succ, hto.out, show folAt xs k = true by subst hk0; exact folAt_0 hab hv]; rfl)
            have t0 : decide (0 < k) = false := by simp; omega
            clear hab hto hv
            have HK := hid hk0; clear hk0
            go_wp2
            generalize hW : (More w y).alloc (Obj.cells #[Value.string a, Value.string b] 28) = W
            have hE : Ext.of w W := by rw [← hW]; exact (Ext.of.alloc ⟨y, rfl⟩ _)
            have hc : W.heap[(More w y).heap.size]? = some (.cells #[Value.string a, Value.string b] 28 (0, 0)) := by rw [← hW]; exact alloc_new' rfl
            have d0 := more_cell (cell_of_row W (More w y).heap.size 0 _ _ _ hc)
            have d1 := more_cell (cell_of_row W (More w y).heap.size 1 _ _ _ hc)
            clear hc hW c0 c1
            refine wp_region_more (by kernel_rfl) (by kernel_rfl) ?_
            repeat (go_big_quiet_step (exact more_of (C _)))
            refine wpQuiet_nil ?_
            rintro _ ⟨z, rfl⟩
            go_wp2
            obtain ⟨z', hz'⟩ := hE.trans ⟨z, rfl⟩
            go_roundw
            case rel => exact ⟨k + 1, z', by omega, by go_num, hz', R⟩
            case measure => simp [intOf]; omega
          · have hk1 : 0 < k := by omega
            clear hk0
            obtain ⟨ad', a', b', hA, hab', p0, p1⟩ := (h.more y).hd (j := k - 1) (by omega)
            injection hA with hA
            subst hA
            have hS : folAt xs k = hbefV a' b' a b := by have := folAt_s (k := k - 1) (by rw [Nat.sub_add_cancel hk1]; exact hab) hab' hv; rwa [Nat.sub_add_cancel hk1] at this
            cases hb : hbefV a' b' a b with
            | false =>
              have R := hid (folV_not (k := k) (by omega) (hS.trans hb))
              have Cb := fun W => hbefI_any a' b' a b W
              rw [hb] at Cb
              clear hab hab' hto hv hS hb
              go_wp2
              generalize hW : (More w y).alloc (Obj.cells #[Value.string a, Value.string b] 28) = W
              have hE : Ext.of w W := by rw [← hW]; exact (Ext.of.alloc ⟨y, rfl⟩ _)
              have hc : W.heap[(More w y).heap.size]? = some (.cells #[Value.string a, Value.string b] 28 (0, 0)) := by rw [← hW]; exact alloc_new' rfl
              have d0 := more_cell (cell_of_row W (More w y).heap.size 0 _ _ _ hc)
              have d1 := more_cell (cell_of_row W (More w y).heap.size 1 _ _ _ hc)
              have e0 := more_cell (show W.cell? _ = _ by rw [← hW]; exact (Ext.of.alloc (Ext.of.refl _) _).cell p0)
              have e1 := more_cell (show W.cell? _ = _ by rw [← hW]; exact (Ext.of.alloc (Ext.of.refl _) _).cell p1)
              clear hc hW c0 c1 p0 p1
              refine wp_region_more (by kernel_rfl) (by kernel_rfl) ?_
              repeat (go_big_quiet_step (first | exact more_of (C _) | exact more_of (Cb _)))
              refine wpQuiet_nil ?_
              rintro _ ⟨z, rfl⟩
              go_wp2
              go_ret
              exact ⟨ret_bool R.out.symm, hE.trans ⟨z, rfl⟩⟩
            | true =>
              have R := hid (show folTo xs (k + 1) = true by rw [folTo_succ, hto.out, hS, hb]; rfl)
              have Cb := fun W => hbefI_any a' b' a b W
              rw [hb] at Cb
              clear hab hab' hto hv hS hb
              go_wp2
              generalize hW : (More w y).alloc (Obj.cells #[Value.string a, Value.string b] 28) = W
              have hE : Ext.of w W := by rw [← hW]; exact (Ext.of.alloc ⟨y, rfl⟩ _)
              have hc : W.heap[(More w y).heap.size]? = some (.cells #[Value.string a, Value.string b] 28 (0, 0)) := by rw [← hW]; exact alloc_new' rfl
              have d0 := more_cell (cell_of_row W (More w y).heap.size 0 _ _ _ hc)
              have d1 := more_cell (cell_of_row W (More w y).heap.size 1 _ _ _ hc)
              have e0 := more_cell (show W.cell? _ = _ by rw [← hW]; exact (Ext.of.alloc (Ext.of.refl _) _).cell p0)
              have e1 := more_cell (show W.cell? _ = _ by rw [← hW]; exact (Ext.of.alloc (Ext.of.refl _) _).cell p1)
              clear hc hW c0 c1 p0 p1
              refine wp_region_more (by kernel_rfl) (by kernel_rfl) ?_
              repeat (go_big_quiet_step (first | exact more_of (C _) | exact more_of (Cb _)))
              refine wpQuiet_nil ?_
              rintro _ ⟨z, rfl⟩
              go_wp2
              obtain ⟨z', hz'⟩ := hE.trans ⟨z, rfl⟩
              go_roundw
              case rel => exact ⟨k + 1, z', by omega, by go_num, hz', R⟩
              case measure => simp [intOf]; omega
      · obtain rfl : k = n := by omega
        have R := hid (folV_yes (xs := xs) (by omega) (by rw [hlx]; exact hto.out))
        go_wp2
        go_ret
        exact ⟨ret_bool R.out.symm, ⟨_, rfl⟩⟩
  · have R := hid (folV_big (xs := xs) (by omega))
    go_enter Tryd.func48, Tryd.ntmps48
    go_wp2
    go_ret
    exact ⟨ret_bool R.out.symm, Ext.of.refl _⟩
set_option maxHeartbeats 1000000 in
theorem folS_any (A : Option Addr) (n c : Nat) (xs : List Hd) (w : World) (h : Sl w A n c 2 (hds xs)) (hok : hdOk xs) :
    Calls Tryd.prog 79 #[.slice A n c] w fun e w' => e = .returned (.bool (folV xs)) ∧ Ext.of w w' := by
  have hlx : xs.length = n := h.count hdC_len (by omega)
  have hmx := h.max
  have hcx := h.cap
  unfold maxLen at hmx
  go_enter Tryd.func79, Tryd.ntmps79
  go_wp2
  go_loopw [3] (fun i wr => ∃ (k : Nat) (y : Ext), k ≤ n ∧ i = .int .i64 k ∧ wr = More w y ∧ Hid (folTo xs k = true)) (fun i _ => n - (intOf i).toNat)
  case atStart => exact ⟨0, _, Nat.zero_le _, rfl, more_refl w, rfl⟩
  case round =>
    obtain ⟨k, y, hk, rfl, rfl, hto⟩ := hrel
    by_cases hlt : k < n
    · obtain ⟨ad, a, b, rfl, hab, c0, c1⟩ := (h.more y).hd hlt
      have hva := hok _ (List.mem_of_getElem? hab)
      have HV := hid hva; clear hva
      cases hv : hvalV a b with
      | false =>
        have R := hid (folV_not (k := k) (by omega) (folAt_no hab hv))
        have C := fun W => hvalS_any a b W HV.out.1 HV.out.2
        rw [hv] at C
        clear hab hto hv
        generalize hW : More w y = W at *
        have hE : Ext.of w W := by rw [← hW]; exact ⟨y, rfl⟩
        have d0 := more_cell c0
        have d1 := more_cell c1
        clear hW c0 c1
        go_wp2
        refine wp_region_more (by kernel_rfl) (by kernel_rfl) ?_
        repeat (go_big_quiet_step (exact more_of (C _)))
        refine wpQuiet_nil ?_
        rintro _ ⟨z, rfl⟩
        go_wp2
        go_ret
        exact ⟨ret_bool R.out.symm, hE.trans ⟨z, rfl⟩⟩
      | true =>
        have C := fun W => hvalS_any a b W HV.out.1 HV.out.2
        rw [hv] at C
        by_cases hk0 : k = 0
        · have R := hid (show folTo xs (k + 1) = true by rw [folTo_succ, hto.out, show folAt xs k = true by subst hk0; exact folAt_0 hab hv]; rfl)
          have t0 : decide (0 < k) = false := by simp; omega
          clear hab hto hv
          have HK := hid hk0; clear hk0
          generalize hW : More w y = W at *
          have hE : Ext.of w W := by rw [← hW]; exact ⟨y, rfl⟩
          have d0 := more_cell c0
          have d1 := more_cell c1
          clear hW c0 c1
          go_wp2
          refine wp_region_more (by kernel_rfl) (by kernel_rfl) ?_
          repeat (go_big_quiet_step (exact more_of (C _)))
          refine wpQuiet_nil ?_
          rintro _ ⟨z, rfl⟩
          go_wp2
          obtain ⟨z', hz'⟩ := hE.trans ⟨z, rfl⟩
          go_roundw
          case rel => exact ⟨k + 1, z', by omega, by go_num, hz', R⟩
          case measure => simp [intOf]; omega
        · have hk1 : 0 < k := by omega
          clear hk0
          obtain ⟨ad', a', b', hA, hab', p0, p1⟩ := (h.more y).hd (j := k - 1) (by omega)
          injection hA with hA
          subst hA
          have hS : folAt xs k = hbefV a' b' a b := by have := folAt_s (k := k - 1) (by rw [Nat.sub_add_cancel hk1]; exact hab) hab' hv; rwa [Nat.sub_add_cancel hk1] at this
          cases hb : hbefV a' b' a b with
          | false =>
            have R := hid (folV_not (k := k) (by omega) (hS.trans hb))
            have Cb := fun W => hbefS_any a' b' a b W
            rw [hb] at Cb
            clear hab hab' hto hv hS hb
            generalize hW : More w y = W at *
            have hE : Ext.of w W := by rw [← hW]; exact ⟨y, rfl⟩
            have d0 := more_cell c0
            have d1 := more_cell c1
            have e0 := more_cell p0
            have e1 := more_cell p1
            clear hW c0 c1 p0 p1
            go_wp2
            refine wp_region_more (by kernel_rfl) (by kernel_rfl) ?_
            repeat (go_big_quiet_step (first | exact more_of (C _) | exact more_of (Cb _)))
            refine wpQuiet_nil ?_
            rintro _ ⟨z, rfl⟩
            go_wp2
            go_ret
            exact ⟨ret_bool R.out.symm, hE.trans ⟨z, rfl⟩⟩
          | true =>
            have R := hid (show folTo xs (k + 1) = true by rw [folTo_succ, hto.out, hS, hb]; rfl)
            have Cb := fun W => hbefS_any a' b' a b W
            rw [hb] at Cb
            clear hab hab' hto hv hS hb
            generalize hW : More w y = W at *
            have hE : Ext.of w W := by rw [← hW]; exact ⟨y, rfl⟩
            have d0 := more_cell c0
            have d1 := more_cell c1
            have e0 := more_cell p0
            have e1 := more_cell p1
            clear hW c0 c1 p0 p1
            go_wp2
            refine wp_region_more (by kernel_rfl) (by kernel_rfl) ?_
            repeat (go_big_quiet_step (first | exact more_of (C _) | exact more_of (Cb _)))
            refine wpQuiet_nil ?_
            rintro _ ⟨z, rfl⟩
            go_wp2
            obtain ⟨z', hz'⟩ := hE.trans ⟨z, rfl⟩
            go_roundw
            case rel => exact ⟨k + 1, z', by omega, by go_num, hz', R⟩
            case measure => simp [intOf]; omega
    · obtain rfl : k = n := by omega
      have R := hid (folV_end (xs := xs) (by rw [hlx]; exact hto.out))
      rw [hlx] at R
      go_wp2
      go_ret
      exact ⟨ret_bool (by rw [R.out]; simp; omega), ⟨_, rfl⟩⟩
end Go.Proofs.YtoagpfdhbcgdcaaDoor
