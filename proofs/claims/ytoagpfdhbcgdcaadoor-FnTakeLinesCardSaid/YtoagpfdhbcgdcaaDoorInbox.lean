/- The contracts of inboxes: whether one is valid; the program's and the reference's. -/
import Derived.Test.YtoagpfdhbcgdcaaDoorFollow
import Derived.Test.YtoagpfdhbcgdcaaDoorG3
namespace Go.Proofs.YtoagpfdhbcgdcaaDoor
open Go.RowKit
set_option linter.unusedVariables false
set_option linter.unusedSimpArgs false
abbrev ibA (A : Option Addr) (n c : Nat) (B : Option Addr) (m d : Nat) : Value := .agg #[.slice A n c, .slice B m d]
/-- What digests are asked at a place. -/
@[irreducible] def seenAt (zs : List Int) (k : Nat) : Bool := inB (zs.getD k 0) 0 999982 && !decide (zs.getD k 0 ∈ zs.take k)
def seenTo (zs : List Int) (k : Nat) : Bool := (List.range k).all (seenAt zs)
/-- Whether an inbox is valid. -/
@[irreducible] def ibV (xs : List Hd) (zs : List Int) : Bool := folV xs && (decide (zs.length ≤ 12) && seenTo zs zs.length)
theorem seenTo_succ (zs : List Int) (k : Nat) : seenTo zs (k + 1) = (seenTo zs k && seenAt zs k) := by unfold seenTo; rw [List.range_succ, List.all_append]; simp
theorem seenTo_not {zs : List Int} {k n : Nat} (hk : k < n) (h : seenAt zs k = false) : seenTo zs n = false := by
  unfold seenTo
  rw [Bool.eq_false_iff]
  intro e
  rw [List.all_eq_true] at e
  have := e k (List.mem_range.2 hk)
  rw [h] at this; cases this
section
variable {xs : List Hd} {zs : List Int} {k : Nat} {x : Int}
theorem ib_no1 (h : folV xs = false) : ibV xs zs = false := by unfold ibV; simp [h]
theorem ib_no2 (h : ¬ zs.length ≤ 12) : ibV xs zs = false := by unfold ibV; simp [h]
theorem ib_no3 (hk : k < zs.length) (h : seenAt zs k = false) : ibV xs zs = false := by unfold ibV; rw [seenTo_not hk h]; simp
theorem ib_yes (h1 : folV xs = true) (h2 : zs.length ≤ 12) (h3 : seenTo zs zs.length = true) : ibV xs zs = true := by unfold ibV; simp [h1, h2, h3]
theorem ib_end (h3 : seenTo zs zs.length = true) : ibV xs zs = (folV xs && decide (zs.length ≤ 12)) := by unfold ibV; simp [h3]
theorem ib_parts (h : ibV xs zs = true) : folV xs = true ∧ zs.length ≤ 12 ∧ seenTo zs zs.length = true := by unfold ibV at h; simpa using h
theorem seen_no1 (h : zs[k]? = some x) (e : inB x 0 999982 = false) : seenAt zs k = false := by unfold seenAt; rw [getD_of h]; simp [e]
theorem seen_eq (h : zs[k]? = some x) (e : inB x 0 999982 = true) : seenAt zs k = !decide (x ∈ zs.take k) := by unfold seenAt; rw [getD_of h]; simp [e]
end
theorem ints_take (zs : List Int) (k : Nat) : (ints zs).take k = ints (zs.take k) := by simp [ints]
theorem Sl.int {w : World} {A : Option Addr} {n c : Nat} {zs : List Int} (h : Sl w A n c 1 (ints zs)) {k : Nat} (hk : k < n) : ∃ ad x, A = some ad ∧ zs[k]? = some x ∧ w.cell? (ad.add k) = some (.int .i64 x) := by
  have hl : zs.length = n := by have := h.len; simpa using this
  obtain ⟨ad, hA, hs⟩ := h.see.ad (k := k) (by rw [h.len]; omega)
  obtain ⟨x, gx, gx'⟩ := ints_at (xs := zs) (k := k) (by omega)
  exact ⟨ad, x, hA, gx, hs k _ gx'⟩
theorem idx_any (B : Option Addr) (m d : Nat) (zs : List Int) (x : Int) (w : World) (h : Sl w B m d 1 (ints zs)) :
    Calls Tryd.prog 73 #[.slice B m d, .int .i64 x] w fun e w' => ∃ r : Int, e = .returned (.int .i64 r) ∧ decide (0 ≤ r) = decide (x ∈ zs) ∧ w = w' := by
  have hl : zs.length = m := by have := h.len; simpa using this
  have hmx := h.max
  have hcx := h.cap
  unfold maxLen at hmx
  have HL := hid hl
  clear hl
  go_enter Tryd.func73, Tryd.ntmps73
  go_wp2
  go_loopw [8] (fun i wr => ∃ (k : Nat), k ≤ m ∧ i = .int .i64 k ∧ wr = w ∧ Hid (x ∉ zs.take k)) (fun i _ => m - (intOf i).toNat)
  case atStart => exact ⟨0, Nat.zero_le _, rfl, rfl, by show x ∉ zs.take 0; simp⟩
  case round =>
    obtain ⟨k, hk, rfl, rfl, hno⟩ := hrel
    by_cases hlt : k < m
    · obtain ⟨ad, y, rfl, hy, c0⟩ := h.int hlt
      by_cases he : x = y
      · subst he
        have R := hid (show decide ((0 : Int) ≤ (k : Int)) = decide (x ∈ zs) by simp [List.mem_of_getElem? hy])
        clear hy hno
        go_wp2
        go_ret
        exact ⟨_, rfl, R.out, rfl⟩
      · have t0 : (x == y) = false := by simpa using he
        have N := hid (show x ∉ zs.take (k + 1) by rw [List.take_add_one, hy]; simp only [Option.toList_some, List.mem_append, List.mem_singleton]; rintro (h1 | h1); exact hno.out h1; exact he h1)
        clear hy hno he
        go_wp2
        go_roundw
        case rel => exact ⟨k + 1, by omega, by go_num, trivial, N⟩
        case measure => simp [intOf]; omega
    · obtain rfl : k = m := by omega
      have R := hid (show decide ((0 : Int) ≤ -1) = decide (x ∈ zs) by have h1 := hno.out; rw [← HL.out, List.take_length] at h1; simp [h1])
      clear hno
      go_wp2
      go_ret
      exact ⟨_, rfl, R.out, rfl⟩
theorem cont_any (B : Option Addr) (m d : Nat) (zs : List Int) (x : Int) (w : World) (h : Sl w B m d 1 (ints zs)) :
    Calls Tryd.prog 35 #[.slice B m d, .int .i64 x] w fun e w' => e = .returned (.bool (decide (x ∈ zs))) ∧ w = w' := by
  go_enter Tryd.func35, Tryd.ntmps35
  go_wp2_with fail
  refine (idx_any B m d zs x w h).mono ?_
  rintro e w1 ⟨r, rfl, hr, rfl⟩
  have HR := hid hr
  clear hr
  go_wp2
  go_ret
  exact ⟨ret_bool HR.out, rfl⟩
set_option maxHeartbeats 2000000 in
theorem ibI_any (A : Option Addr) (n c : Nat) (xs : List Hd) (B : Option Addr) (m d : Nat) (zs : List Int) (w : World) (h : Sl w A n c 2 (hds xs)) (hok : hdOk xs) (hz : Sl w B m d 1 (ints zs)) :
    Calls Tryd.prog 12 #[ibA A n c B m d] w fun e w' => e = .returned (.bool (ibV xs zs)) ∧ Ext.of w w' := by
  have hl : zs.length = m := by have := hz.len; simpa using this
  have HL := hid hl
  have hmx := hz.max
  have hcx := hz.cap
  unfold maxLen at hmx
  have hE : Ext.of w (w.alloc (.cells #[.slice A n c, .slice B m d] 26)) := (Ext.of.refl _).alloc _
  have hc : (w.alloc (.cells #[.slice A n c, .slice B m d] 26)).heap[w.heap.size]? = some (.cells #[.slice A n c, .slice B m d] 26 (0, 0)) := alloc_new' rfl
  have d0 := cell_of_row _ w.heap.size 0 _ _ _ hc
  have d1 := cell_of_row _ w.heap.size 1 _ _ _ hc
  have C := fun W (hW : Sl W A n c 2 (hds xs)) => folI_any A n c xs W hW hok
  clear hc hok hl
  go_enter Tryd.func12, Tryd.ntmps12
  cases hv : folV xs with
  | false =>
    have R := hid (ib_no1 (zs := zs) hv)
    rw [hv] at C
    clear hv
    go_wp2_with fail
    refine (C _ (h.ext hE)).mono ?_
    rintro e w1 ⟨rfl, x1⟩
    go_wp2_with fail
    go_ret
    exact ⟨ret_bool R.out.symm, hE.trans x1⟩
  | true =>
    have HV := hid hv
    rw [hv] at C
    clear hv
    go_wp2_with fail
    refine (C _ (h.ext hE)).mono ?_
    rintro e w1 ⟨rfl, x1⟩
    have d0 := x1.cell d0
    have d1 := x1.cell d1
    have hE := hE.trans x1
    clear x1 C
    by_cases hm : 12 < m
    · have R := hid (ib_no2 (xs := xs) (zs := zs) (by rw [HL.out]; omega))
      go_wp2_with fail
      go_ret
      exact ⟨ret_bool R.out.symm, hE⟩
    · go_wp2_with fail
      go_loopw [18] (fun i wr => ∃ (k : Nat) (z : Ext), k ≤ m ∧ i = .int .i64 k ∧ wr = More w1 z ∧ Hid (seenTo zs k = true)) (fun i _ => m - (intOf i).toNat)
      case atStart => exact ⟨0, _, Nat.zero_le _, rfl, more_refl w1, rfl⟩
      case round =>
        obtain ⟨k, z, hk, rfl, rfl, hto⟩ := hrel
        have hE2 := hE.trans ⟨z, rfl⟩
        have e1 := more_cell d1 z
        by_cases hlt : k < m
        · have sz := hz.ext hE2
          obtain ⟨ad, x, rfl, hx, c0⟩ := sz.int hlt
          have s1 := sz.sub0 (m := k) hk
          rw [Nat.mul_one, ints_take] at s1
          cases ht : inB x 0 999982 with
          | false =>
            have R := hid (ib_no3 (xs := xs) (k := k) (by rw [HL.out]; exact hlt) (seen_no1 hx ht))
            clear hx hto
            go_wp2_with (go_at_call 49; refine (within_any _ _ _ _).mono ?_; rintro e w' ⟨rfl, rfl⟩)
            go_ret
            exact ⟨ret_bool R.out.symm, hE2⟩
          | true =>
            have CC := cont_any (some ad) k d (zs.take k) x (More w1 z) s1
            have hs := seen_eq hx ht
            cases hin : decide (x ∈ zs.take k) with
            | true =>
              rw [hin] at CC hs
              have R := hid (ib_no3 (xs := xs) (k := k) (by rw [HL.out]; exact hlt) hs)
              clear hx hto hs hin s1 sz
              go_wp2_with (go_at_call 49; refine (within_any _ _ _ _).mono ?_; rintro e w' ⟨rfl, rfl⟩)
              refine CC.mono ?_
              rintro e w2 ⟨rfl, rfl⟩
              go_wp2_with fail
              go_ret
              exact ⟨ret_bool R.out.symm, hE2⟩
            | false =>
              rw [hin] at CC hs
              have R := hid (show seenTo zs (k + 1) = true by rw [seenTo_succ, hto.out, hs]; rfl)
              clear hx hto hs hin s1 sz
              go_wp2_with (go_at_call 49; refine (within_any _ _ _ _).mono ?_; rintro e w' ⟨rfl, rfl⟩)
              refine CC.mono ?_
              rintro e w2 ⟨rfl, rfl⟩
              go_wp2_with fail
              go_roundw
              case rel => exact ⟨k + 1, z, by omega, by go_num, rfl, R⟩
              case measure => simp [intOf]; omega
        · obtain rfl : k = m := by omega
          have R := hid (ib_yes HV.out (by rw [HL.out]; omega) (by rw [HL.out]; exact hto.out))
          clear hto
          go_wp2_with fail
          go_ret
          exact ⟨ret_bool R.out.symm, hE2⟩
set_option maxHeartbeats 2000000 in
theorem ibS_any (A : Option Addr) (n c : Nat) (xs : List Hd) (B : Option Addr) (m d : Nat) (zs : List Int) (w : World) (h : Sl w A n c 2 (hds xs)) (hok : hdOk xs) (hz : Sl w B m d 1 (ints zs)) :
    Calls Tryd.prog 39 #[ibA A n c B m d] w fun e w' => e = .returned (.bool (ibV xs zs)) ∧ Ext.of w w' := by
  have hl : zs.length = m := by have := hz.len; simpa using this
  have HL := hid hl
  have hmx := hz.max
  have hcx := hz.cap
  unfold maxLen at hmx
  have hE : Ext.of w (w.alloc (.cells #[.slice A n c, .slice B m d] 26)) := (Ext.of.refl _).alloc _
  have hc : (w.alloc (.cells #[.slice A n c, .slice B m d] 26)).heap[w.heap.size]? = some (.cells #[.slice A n c, .slice B m d] 26 (0, 0)) := alloc_new' rfl
  have d0 := cell_of_row _ w.heap.size 0 _ _ _ hc
  have d1 := cell_of_row _ w.heap.size 1 _ _ _ hc
  have C := fun W (hW : Sl W A n c 2 (hds xs)) => folS_any A n c xs W hW hok
  clear hc hok hl
  go_enter Tryd.func39, Tryd.ntmps39
  go_wp2_with fail
  generalize w.alloc (.cells #[.slice A n c, .slice B m d] 26) = V at *
  go_loopg [3] m (fun g i wr => ∃ (k : Nat) (z : Ext), k ≤ m ∧ Hid (g = m - k) ∧ i = .int .i64 k ∧ wr = More V z ∧ Hid (seenTo zs k = true))
  case atStart => exact ⟨0, _, Nat.zero_le _, (by show m = m - 0; omega), rfl, more_refl V, rfl⟩
  case round =>
    obtain ⟨k, z, hk, hg, rfl, rfl, hto⟩ := hrel
    have hE2 := hE.trans ⟨z, rfl⟩
    have e0 := more_cell d0 z
    have e1 := more_cell d1 z
    by_cases hlt : k < m
    · have sz := hz.ext hE2
      obtain ⟨ad, x, rfl, hx, c0⟩ := sz.int hlt
      cases ht : inB x 0 999982 with
      | false =>
        have R := hid (ib_no3 (xs := xs) (k := k) (by rw [HL.out]; exact hlt) (seen_no1 hx ht))
        clear hx hto
        go_wp2_with (go_at_call 78; refine (l1In_any _ _ _ _).mono ?_; rintro e w' ⟨rfl, rfl⟩)
        go_ret
        exact ⟨ret_bool R.out.symm, hE2⟩
      | true =>
        have hs := seen_eq hx ht
        have HX := hid hx
        clear hx
        go_wp2_with (go_at_call 78; refine (l1In_any _ _ _ _).mono ?_; rintro e w' ⟨rfl, rfl⟩)
        clear ht
        go_loopg [4] k (fun g2 i wr => ∃ (j : Nat) (z2 : Ext), j ≤ k ∧ Hid (g2 = k - j) ∧ i = .int .i64 j ∧ wr = More (More V z) z2 ∧ Hid (x ∉ zs.take j))
        case atStart => exact ⟨0, _, Nat.zero_le _, (by show k = k - 0; omega), rfl, more_refl _, (by show x ∉ zs.take 0; simp)⟩
        case round =>
          obtain ⟨j, z2, hj, hg2, rfl, rfl, hno⟩ := hrel
          by_cases hjk : j < k
          · obtain ⟨ad', y, hA, hy, c1⟩ := sz.int (k := j) (by omega)
            injection hA with hA
            subst hA
            have f1 := more_cell2 e1 z2
            have g0 := more_cell2 c0 z2
            have g1 := more_cell2 c1 z2
            by_cases he : y = x
            · subst he
              have R := hid (ib_no3 (xs := xs) (k := k) (by rw [HL.out]; exact hlt) (by rw [hs]; simp only [Bool.not_eq_false', decide_eq_true_eq]; exact List.mem_of_getElem? (i := j) (by rw [List.getElem?_take, if_pos hjk]; exact hy)))
              clear hs hy hno hto c0 c1 e0 e1
              go_wp2_with fail
              refine wp_region_more (by kernel_rfl) (by kernel_rfl) ?_
              repeat (go_big_quiet_step (fail))
              refine wpQuiet_nil ?_
              rintro _ ⟨z4, rfl⟩
              go_wp2_with fail
              go_ret
              exact ⟨ret_bool R.out.symm, (hE2.trans ⟨z2, rfl⟩).trans ⟨z4, rfl⟩⟩
            · have t0 : (y == x) = false := by simpa using he
              have N := hid (show x ∉ zs.take (j + 1) by rw [List.take_add_one, hy]; simp only [Option.toList_some, List.mem_append, List.mem_singleton]; rintro (h1 | h1); exact hno.out h1; exact he h1.symm)
              clear hs hy hno hto he c0 c1 e0 e1
              go_wp2_with fail
              refine wp_region_more (by kernel_rfl) (by kernel_rfl) ?_
              repeat (go_big_quiet_step (fail))
              refine wpQuiet_nil ?_
              rintro _ ⟨z4, rfl⟩
              go_wp2_with fail
              go_roundg (k - (j + 1))
              case measure => have := hg2.out; omega
              case rel => exact ⟨j + 1, _, by omega, rfl, by go_num, more_more _ _ _, N⟩
          · obtain rfl : j = k := by omega
            have R := hid (show seenTo zs (j + 1) = true by rw [seenTo_succ, hto.out, hs]; simp [hno.out])
            clear hs hno hto
            go_wp2_with fail
            go_roundg (m - (j + 1))
            case measure => have := hg.out; omega
            case rel => exact ⟨j + 1, _, by omega, rfl, by go_num, more_more _ _ _, R⟩
    · obtain rfl : k = m := by omega
      have R := hid (ib_end (xs := xs) (zs := zs) (by rw [HL.out]; exact hto.out))
      rw [HL.out] at R
      clear hto
      cases hv : folV xs with
      | false =>
        rw [hv] at C R
        clear hv
        go_wp2_with fail
        refine (C _ (h.ext hE2)).mono ?_
        rintro e w1 ⟨rfl, x1⟩
        go_wp2_with fail
        go_ret
        exact ⟨ret_bool (by rw [R.out]; rfl), hE2.trans x1⟩
      | true =>
        rw [hv] at C R
        clear hv
        go_wp2_with fail
        refine (C _ (h.ext hE2)).mono ?_
        rintro e w1 ⟨rfl, x1⟩
        have e1 := x1.cell e1
        go_wp2_with fail
        go_ret
        exact ⟨ret_bool (by rw [R.out]; simp; omega), hE2.trans x1⟩
end Go.Proofs.YtoagpfdhbcgdcaaDoor
