/- The contracts of Follow and Unfollow, the program's and the reference's. -/
import Derived.Test.YtoagpfdhbcgdcaaDoorPlainFol
import Derived.Test.YtoagpfdhbcgdcaaDoorHandleMem
namespace Go.Proofs.YtoagpfdhbcgdcaaDoor
open Go.RowKit
set_option linter.unusedVariables false
set_option linter.unusedSimpArgs false

theorem hdQ_of {n h m k : ByteArray} (e : (n, h) = (m, k)) : hdQ n h m k = true := by injection e with e1 e2; subst e1 e2; exact hdQ_yes _ _
theorem eqlHandle (n h m k : ByteArray) (W : World) : (binOp .eql 28 (hdA n h) (hdA m k)).run Tryd.prog W = .ok (.bool (hdQ n h m k)) W := by
  have D : hdQ n h m k = ((n.toList == m.toList) && (h.toList == k.toList)) := by
    unfold hdQ
    rw [bytes_eq, bytes_eq, Bool.eq_iff_iff]; simp
  rw [D]
  rw [run_eql_struct, run_equalIn_agg _ _ _ _ _ (by kernel_rfl) (by kernel_rfl)]
  by_cases e : n.toList = m.toList <;> by_cases f : h.toList = k.toList <;> simp [go_sem, Op.eqFields, e, f]
theorem neqHandle' (n h m k : ByteArray) (W : World) : (binOp .neq 28 (hdA n h) (hdA m k)).run Tryd.prog W = .ok (.bool (!hdQ n h m k)) W := by
  have D : hdQ n h m k = ((n.toList == m.toList) && (h.toList == k.toList)) := by
    unfold hdQ
    rw [bytes_eq, bytes_eq, Bool.eq_iff_iff]; simp
  rw [D]
  rw [run_neq_struct, run_equalIn_agg _ _ _ _ _ (by kernel_rfl) (by kernel_rfl)]
  by_cases e : n.toList = m.toList <;> by_cases f : h.toList = k.toList <;> simp [go_sem, Op.eqFields, e, f]
theorem indexHandle_any (A : Option Addr) (n c : Nat) (xs : List Hd) (p q : ByteArray) (w : World) (h : Sl w A n c 2 (hds xs)) :
    Calls Tryd.prog 76 #[.slice A n c, hdA p q] w fun e w' => ∃ r : Int, e = .returned (.int .i64 r) ∧ ((r = -1 ∧ (p, q) ∉ xs) ∨ ∃ k : Nat, r = k ∧ xs[k]? = some (p, q)) ∧ Ext.of w w' := by
  have hlx : xs.length = n := h.count hdC_len (by omega)
  have hmx := h.max
  have hcx := h.cap
  unfold maxLen at hmx
  have hQ := eqlHandle
  go_enter Tryd.func76, Tryd.ntmps76
  go_wp2
  have hE0 : Ext.of w (w.alloc (Obj.cells #[Value.string p, Value.string q] 28)) := (Ext.of.refl _).alloc _
  have hc : (w.alloc (Obj.cells #[Value.string p, Value.string q] 28)).heap[w.heap.size]? = some (.cells #[Value.string p, Value.string q] 28 (0, 0)) := alloc_new' rfl
  have h' := h.alloc (Obj.cells #[Value.string p, Value.string q] 28)
  generalize hW : w.alloc (Obj.cells #[Value.string p, Value.string q] 28) = W at *
  clear hW h
  have p0 : W.cell? ⟨w.heap.size, 0, none⟩ = some (.string p) := cell_of_row W w.heap.size 0 _ _ _ hc
  have p1 : W.cell? ⟨w.heap.size, 1, none⟩ = some (.string q) := cell_of_row W w.heap.size 1 _ _ _ hc
  go_loopw [8] (fun i wr => ∃ (k : Nat) (y : Ext), k ≤ n ∧ i = .int .i64 k ∧ wr = More W y ∧ Hid (∀ j, j < k → xs[j]? ≠ some (p, q))) (fun i _ => n - (intOf i).toNat)
  case atStart => exact ⟨0, _, Nat.zero_le _, rfl, more_refl W, fun j hj => by omega⟩
  case round =>
    obtain ⟨k, y, hk, rfl, rfl, hno⟩ := hrel
    by_cases hlt : k < n
    · obtain ⟨ad, a, b, rfl, hab, c0, c1⟩ := h'.hd hlt
      have e0 := more_cell2 c0 y
      have e1 := more_cell2 c1 y
      have f0 := more_cell2 p0 y
      have f1 := more_cell2 p1 y
      clear c0 c1
      cases D : hdQ p q a b with
      | true =>
        have R := hid (show xs[k]? = some (p, q) by
          rw [hab]
          unfold hdQ at D
          rw [decide_eq_true_iff] at D
          rw [D])
        clear hab hno p0 p1
        go_wp2
        refine wp_region_more (by kernel_rfl) (by kernel_rfl) ?_
        repeat (go_big_quiet_step (fail))
        refine wpQuiet_nil ?_
        rintro _ ⟨z, rfl⟩
        go_wp2
        go_ret
        exact ⟨_, rfl, .inr ⟨k, rfl, R.out⟩, hE0.trans ⟨_, more_more _ _ _⟩⟩
      | false =>
        have R := hid (show ∀ j, j < k + 1 → xs[j]? ≠ some (p, q) from fun j hj e => by
          by_cases ej : j = k
          · subst ej
            rw [hab] at e
            injection e with e
            rw [hdQ_of e.symm] at D; cases D
          · exact hno.out j (by omega) e)
        clear hab hno
        go_wp2
        refine wp_region_more (by kernel_rfl) (by kernel_rfl) ?_
        repeat (go_big_quiet_step (fail))
        refine wpQuiet_nil ?_
        rintro _ ⟨z, rfl⟩
        go_wp2
        go_roundw
        case rel => exact ⟨k + 1, _, by omega, by go_num, more_more _ _ _, R⟩
        case measure => simp [intOf]; omega
    · obtain rfl : k = n := by omega
      have R := hid (show (p, q) ∉ xs from fun e => by
        obtain ⟨j, hj, ej⟩ := List.getElem_of_mem e
        exact hno.out j (by omega) (by rw [List.getElem?_eq_getElem hj, ej]))
      go_wp2
      go_ret
      exact ⟨_, rfl, .inl ⟨rfl, R.out⟩, hE0.trans ⟨y, rfl⟩⟩
theorem ret_sb {v v' : Value} {a b : Bool} (hv : v = v') (h : a = b) : Ending.returned (.tuple #[v, .bool a]) = .returned (.tuple #[v', .bool b]) := by rw [h, hv]
theorem unfollowI_any (A : Option Addr) (n c : Nat) (xs : List Hd) (p q : ByteArray) (w : World) (h : Sl w A n c 2 (hds xs)) (hok : hdOk xs) :
    Calls Tryd.prog 38 #[.slice A n c, hdA p q] w fun e w' => ∃ B k d, e = .returned (.tuple #[.slice B k d, .bool (unfollowV xs (p, q)).2]) ∧ w'.ownsRow w.heap.size 28 2 (.slice B k d) k (hds (unfollowV xs (p, q)).1) ∧ Below w.heap.size w w' := by
  have hlx : xs.length = n := h.count hdC_len (by omega)
  have hmx := h.max
  have hcx := h.cap
  unfold maxLen at hmx
  cases hv : folV xs with
  | false =>
    have R := hid (unfollow_no (x := (p, q)) hv)
    have C := fun W (hW : Sl W A n c 2 (hds xs)) => folI_any A n c xs W hW hok
    rw [hv] at C
    clear hv hok hlx
    go_enter Tryd.func38, Tryd.ntmps38
    go_wp2_with fail
    refine (C _ (h.alloc _)).mono ?_
    rintro e w1 ⟨rfl, x1⟩
    go_wp2
    go_ret2
    exact ⟨_, _, _, ret_sb rfl (by rw [R.out]), by rw [R.out]; exact World.ownsRow_nil _ _ _ _, (((Ext.of.refl _).alloc _).trans x1).below⟩
  | true =>
    have hV := folV_iff.1 hv
    have hn := hV.1
    rw [hlx] at hn
    have R := hid (unfollow_yes (x := (p, q)) hv)
    have C := fun W (hW : Sl W A n c 2 (hds xs)) => folI_any A n c xs W hW hok
    rw [hv] at C
    have HV := hid hV
    have HL := hid hlx
    clear hv hok hlx hV
    go_enter Tryd.func38, Tryd.ntmps38
    go_wp2_with fail
    refine (C _ (h.alloc _)).mono ?_
    rintro e w1 ⟨rfl, x1⟩
    have hE : Ext.of w w1 := ((Ext.of.refl _).alloc _).trans x1
    have hc : w1.heap[w.heap.size]? = some (.cells #[Value.string p, Value.string q] 28 (0, 0)) := (x1.block (by simp)).trans (alloc_new' rfl)
    have p0 : w1.cell? ⟨w.heap.size, 0, none⟩ = some (.string p) := cell_of_row w1 w.heap.size 0 _ _ _ hc
    have p1 : w1.cell? ⟨w.heap.size, 1, none⟩ = some (.string q) := cell_of_row w1 w.heap.size 1 _ _ _ hc
    clear x1 hc C
    go_wp2_with fail
    refine (indexHandle_any _ _ _ _ _ _ _ (h.ext hE)).mono ?_
    rintro e w2 ⟨r, rfl, hr, x2⟩
    have hE2 := hE.trans x2
    clear x2 hE p0 p1
    rcases hr with ⟨rfl, hno⟩ | ⟨k, rfl, hk⟩
    · have N := hid (rem_none hno)
      have M := hid (show hasL xs (p, q) = false by rw [Bool.eq_false_iff]; intro e; exact hno (hasL_iff.1 e))
      clear hno
      go_wp2_with fail
      refine (copyHandle_any _ _ _ _ _ (h.ext hE2) (by omega)).mono ?_
      rintro e w3 ⟨B, d, rfl, o3, b3⟩
      go_wp2
      go_ret2
      exact ⟨B, _, d, ret_sb rfl (by rw [R.out, M.out]), by rw [R.out, N.out]; exact own_lower o3 hE2.size, below_next hE2.below b3⟩
    · have hkn : k < n := by have := (List.getElem?_eq_some_iff.1 hk).1; rwa [HL.out] at this
      have N := hid (rem_at HV.out.2.2 hk)
      have M := hid (show hasL xs (p, q) = true from hasL_iff.2 (List.mem_of_getElem? hk))
      clear hk
      go_wp2_with fail
      refine (withoutAtHandle_any _ _ _ _ _ _ (h.ext hE2) (by omega) hkn).mono ?_
      rintro e w3 ⟨B, d, rfl, o3, b3⟩
      go_wp2
      go_ret2
      exact ⟨B, _, d, ret_sb rfl (by rw [R.out, M.out]), by rw [R.out, N.out]; exact own_lower o3 hE2.size, below_next hE2.below b3⟩
theorem insL_ok {xs : List Hd} {p q : ByteArray} (h : hdOk xs) (hp : p.size ≤ 9223372036854775807) (hq : q.size ≤ 9223372036854775807) : hdOk (insL xs (p, q)) := by
  intro x hx
  unfold insL at hx
  rw [List.mem_append, List.mem_cons] at hx
  rcases hx with hx | rfl | hx
  · exact h x (List.takeWhile_subset _ hx)
  · exact ⟨hp, hq⟩
  · exact h x (List.dropWhile_subset _ hx)
set_option maxHeartbeats 2000000 in
theorem followI_any (A : Option Addr) (n c : Nat) (xs : List Hd) (p q : ByteArray) (w : World) (h : Sl w A n c 2 (hds xs)) (hok : hdOk xs) (hp : p.size ≤ 9223372036854775807) (hq : q.size ≤ 9223372036854775807) :
    Calls Tryd.prog 37 #[.slice A n c, hdA p q] w fun e w' => ∃ B k d, e = .returned (.tuple #[.slice B k d, .bool (followV xs (p, q)).2]) ∧ w'.ownsRow w.heap.size 28 2 (.slice B k d) k (hds (followV xs (p, q)).1) ∧ Below w.heap.size w w' := by
  have hlx : xs.length = n := h.count hdC_len (by omega)
  have hmx := h.max
  have hcx := h.cap
  unfold maxLen at hmx
  cases hv : folV xs with
  | false =>
    have R := hid (follow_no (x := (p, q)) hv)
    have C := fun W (hW : Sl W A n c 2 (hds xs)) => folI_any A n c xs W hW hok
    rw [hv] at C
    clear hv hok hlx
    go_enter Tryd.func37, Tryd.ntmps37
    go_wp2_with fail
    refine (C _ (h.alloc _)).mono ?_
    rintro e w1 ⟨rfl, x1⟩
    go_wp2
    go_ret2
    exact ⟨_, _, _, ret_sb rfl (by rw [R.out]), by rw [R.out]; exact World.ownsRow_nil _ _ _ _, (((Ext.of.refl _).alloc _).trans x1).below⟩
  | true =>
    have hV := folV_iff.1 hv
    have hn := hV.1
    rw [hlx] at hn
    have C := fun W (hW : Sl W A n c 2 (hds xs)) => folI_any A n c xs W hW hok
    rw [hv] at C
    have HV := hid hv
    have HO := hid (insL_ok hok hp hq)
    have HL := hid hlx
    clear hv hok hlx hV
    go_enter Tryd.func37, Tryd.ntmps37
    go_wp2_with fail
    refine (C _ (h.alloc _)).mono ?_
    rintro e w1 ⟨rfl, x1⟩
    have hE : Ext.of w w1 := ((Ext.of.refl _).alloc _).trans x1
    have hc : w1.heap[w.heap.size]? = some (.cells #[Value.string p, Value.string q] 28 (0, 0)) := (x1.block (by simp)).trans (alloc_new' rfl)
    have p0 : w1.cell? ⟨w.heap.size, 0, none⟩ = some (.string p) := cell_of_row w1 w.heap.size 0 _ _ _ hc
    have p1 : w1.cell? ⟨w.heap.size, 1, none⟩ = some (.string q) := cell_of_row w1 w.heap.size 1 _ _ _ hc
    clear x1 hc C
    go_wp2
    go_loopw [6] (fun i wr => ∃ (k : Nat) (y : Ext), k ≤ n ∧ i = .int .i64 k ∧ wr = More w1 y ∧ Hid (∀ j z, j < k → xs[j]? = some z → bef z (p, q) = true)) (fun i _ => n - (intOf i).toNat)
    case atStart => exact ⟨0, _, Nat.zero_le _, rfl, more_refl w1, fun j z hj => by omega⟩
    case round =>
      obtain ⟨k, y, hk, rfl, rfl, hto⟩ := hrel
      have g0 := more_cell2 p0 y
      have g1 := more_cell2 p1 y
      have hEy : Ext.of w (More w1 y) := hE.trans ⟨y, rfl⟩
      by_cases hgo : ∃ a b, xs[k]? = some (a, b) ∧ bef (a, b) (p, q) = true
      · obtain ⟨a, b, hab, hb⟩ := hgo
        have hlt : k < n := by have := (List.getElem?_eq_some_iff.1 hab).1; rwa [HL.out] at this
        obtain ⟨ad, a', b', rfl, hab', c0, c1⟩ := (h.ext hEy).hd hlt
        rw [hab] at hab'
        simp only [Option.some.injEq, Prod.mk.injEq] at hab'
        obtain ⟨rfl, rfl⟩ := hab'
        have e0 := more_cell c0
        have e1 := more_cell c1
        have R := hid (show ∀ j z, j < k + 1 → xs[j]? = some z → bef z (p, q) = true from fun j z hj hz => by
          by_cases ej : j = k
          · subst ej; rw [hab] at hz; injection hz with hz; subst hz; exact hb
          · exact hto.out j z (by omega) hz)
        have Cb := fun W => hbefI_any a b p q W
        have hb' : hbefV a b p q = true := hb
        rw [hb'] at Cb
        clear c0 c1 hab hb hb' hto p0 p1 hEy
        go_wp2
        refine wp_region_more (by kernel_rfl) (by kernel_rfl) ?_
        repeat (go_big_quiet_step (exact more_of (Cb _)))
        refine wpQuiet_nil ?_
        rintro _ ⟨z, rfl⟩
        go_wp2
        go_roundw
        case rel => exact ⟨k + 1, _, by omega, by go_num, more_more _ _ _, R⟩
        case measure => simp [intOf]; omega
      · have N := hid (ins_at (x := (p, q)) (fun j z hj hz => hto.out j z hj hz) (by rw [HL.out]; exact hk) (fun z hz => by
          rw [Bool.eq_false_iff]; intro e; exact hgo ⟨z.1, z.2, hz, e⟩))
        have hgo' : k < n → ∃ ad a b, A = some ad ∧ hbefV a b p q = false ∧ (∀ x, (More (More w1 y) x).cell? (ad.add (k * 2)) = some (.string a)) ∧ ∀ x, (More (More w1 y) x).cell? ⟨(ad.add (k * 2)).block, (ad.add (k * 2)).off + 1, none⟩ = some (.string b) := fun hlt => by
          obtain ⟨ad, a, b, hA, hab, c0, c1⟩ := (h.ext hEy).hd hlt
          exact ⟨ad, a, b, hA, by rw [Bool.eq_false_iff]; exact fun e => hgo ⟨a, b, hab, e⟩, more_cell c0, more_cell c1⟩
        clear hgo hto
        by_cases hlt : k < n
        obtain ⟨ad, a, b, rfl, hb, e0, e1⟩ := hgo' hlt
        have Cb := fun W => hbefI_any a b p q W
        rw [hb] at Cb
        clear hb
        rotate_left
        have Cb : True := trivial
        all_goals
          clear hgo'
          go_wp2
          refine wp_region_more (by kernel_rfl) (by kernel_rfl) ?_
          repeat (go_big_quiet_step (exact more_of (Cb _)))
          refine wpQuiet_nil ?_
          rintro _ ⟨z, rfl⟩
          have hE2 := hEy.trans ⟨z, rfl⟩
          have q0 := g0 z
          have q1 := g1 z
          clear g0 g1 p0 p1 hEy Cb hE
          go_wp2_with fail
          refine (withAtHandle_any _ _ _ k _ p q _ (h.ext hE2) (by omega) hk).mono ?_
          rintro e w3 ⟨B, d, rfl, o3, b3⟩
          rw [← N.out] at o3
          have T3 := below_next hE2.below b3
          have o3 := own_lower o3 hE2.size
          have C2 := fun W (hW : Sl W B (n + 1) d 2 (hds (insL xs (p, q)))) => folI_any B (n + 1) d (insL xs (p, q)) W hW HO.out
          clear q0 q1 hE2 b3
          cases hm : folV (insL xs (p, q)) with
          | false =>
            have R := hid (follow_not HV.out hm)
            rw [hm] at C2
            clear hm
            go_wp2_with fail
            refine (C2 _ (own_sl o3)).mono ?_
            rintro e w4 ⟨rfl, x4⟩
            have T4 := below_next T3 x4.below
            clear T3 x4 o3 C2
            go_wp2_with fail
            refine (copyHandle_any _ _ _ _ _ (h.below T4) (by omega)).mono ?_
            rintro e w5 ⟨B5, d5, rfl, o5, b5⟩
            go_wp2
            go_ret2
            exact ⟨B5, _, d5, ret_sb rfl (by rw [R.out]), by rw [R.out]; exact own_lower o5 T4.size, below_next T4 b5⟩
          | true =>
            have R := hid (follow_yes HV.out hm)
            rw [hm] at C2
            clear hm
            go_wp2_with fail
            refine (C2 _ (own_sl o3)).mono ?_
            rintro e w4 ⟨rfl, x4⟩
            go_wp2
            go_ret2
            exact ⟨B, _, d, ret_sb rfl (by rw [R.out]), by rw [R.out]; exact own_ext o3 x4, below_next T3 x4.below⟩
end Go.Proofs.YtoagpfdhbcgdcaaDoor
