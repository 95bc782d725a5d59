/- The contracts of NewItems, ChangedItems and GoneKeys, the program's. -/
import Derived.Test.YtlfjnaeepblhiaaChangeV
import Derived.Test.YtlfjnaeepblhiaaItemMem
namespace Go.Proofs.Ytlfjnaeepblhiaa
open Go.RowKit
set_option linter.unusedVariables false
set_option linter.unusedSimpArgs false
set_option maxRecDepth 4000 in
set_option maxHeartbeats 4000000 in
theorem newI_any (A : Option Addr) (n c : Nat) (xs : List Im) (B : Option Addr) (m d : Nat) (ys : List Im) (w : World) (h : Sl w A n c 4 (ims xs)) (hx : imOk xs) (h' : Sl w B m d 4 (ims ys)) (hy : imOk ys) :
    Calls Try.prog 61 #[.slice A n c, .slice B m d] w fun e w' => ∃ C q e', e = .returned (.slice C q e') ∧ w'.ownsRow w.heap.size 57 4 (.slice C q e') q (ims (newV xs ys)) ∧ Below w.heap.size w w' := by
  have hl : ys.length = m := h'.count imC_len (by omega)
  have HL := hid hl
  have C1 := fun W (S : Sl W A n c 4 (ims xs)) => fdI_any A n c xs W S hx
  have C2 := fun W (S : Sl W B m d 4 (ims ys)) => fdI_any B m d ys W S hy
  have C3 := fun W key (S : Sl W A n c 4 (ims xs)) => numI_any A n c xs key W S
  clear hx hy hl
  go_enter Try.func61, Try.ntmps61
  go_wp2_with fail
  refine (C1 _ h).mono ?_
  rintro e w1 ⟨rfl, x1⟩
  cases hv : fdV xs with
  | false =>
    have R := hid (new_no (xs := xs) (ys := ys) (by rw [hv]; simp))
    clear hv
    go_wp2_with fail
    go_ret
    exact ⟨none, 0, 0, rfl, by rw [R.out]; exact World.ownsRow_nil _ _ _ _, x1.below⟩
  | true =>
    go_wp2_with fail
    refine (C2 _ (h'.ext x1)).mono ?_
    rintro e w2 ⟨rfl, x2⟩
    have hE := x1.trans x2
    clear x1 x2
    cases hv' : fdV ys with
    | false =>
      have R := hid (new_no (xs := xs) (ys := ys) (by rw [hv']; simp))
      clear hv hv'
      go_wp2_with fail
      go_ret
      exact ⟨none, 0, 0, rfl, by rw [R.out]; exact World.ownsRow_nil _ _ _ _, hE.below⟩
    | true =>
      have R := hid (new_yes (xs := xs) (ys := ys) ⟨hv, hv'⟩)
      have hm8 : m ≤ 8 := by have := (fd_parts hv').1; have := HL.out; omega
      clear hv hv' C1 C2
      have hB := hE.below
      clear hE
      go_wp2_with fail
      go_loopw [5, 18] (fun v i wr => ∃ (k q e' : Nat) (C : Option Addr) (zs : List Im), k ≤ m ∧ i = .int .i64 k ∧ v = .slice C q e' ∧ wr.ownsRow w.heap.size 57 4 (.slice C q e') q (ims zs) ∧ Hid (zs = newTo xs ys k) ∧ q ≤ k ∧ Below w.heap.size w wr) (fun _ i _ => m - (intOf i).toNat)
      case atStart => exact ⟨0, 0, 0, none, [], Nat.zero_le _, rfl, rfl, World.ownsRow_nil _ _ _ _, rfl, Nat.le_refl _, hB⟩
      case round =>
        clear hB
        obtain ⟨k, q, e', C, zs, hk, rfl, rfl, O, hzs, hqk, hB⟩ := hrel
        by_cases hlt : k < m
        · obtain ⟨ad, a, b, s, f, rfl, hab, c0, c1, c2, c3⟩ := (h'.below hB).im hlt
          have hc : (wr.alloc (.cells #[.string a, .string b, .string s, .int .i64 f] 57)).heap[wr.heap.size]? = some (.cells #[.string a, .string b, .string s, .int .i64 f] 57 (0, 0)) := alloc_new' rfl
          have O1 := O.alloc (.cells #[.string a, .string b, .string s, .int .i64 f] 57)
          have hB1 := hB.alloc hB.size (.cells #[.string a, .string b, .string s, .int .i64 f] 57)
          have d0 := cell_of_row _ wr.heap.size 0 _ _ _ hc
          go_wp2_with fail
          generalize wr.alloc (.cells #[.string a, .string b, .string s, .int .i64 f] 57) = W at *
          generalize wr.heap.size = g at *
          refine (C3 _ a (h.below hB1)).mono ?_
          rintro e w3 ⟨rfl, x3⟩
          have O2 := own_ext O1 x3
          have hB2 := below_next hB1 x3.below
          replace hc := (x3.block (Array.getElem?_eq_some_iff.1 hc).1).trans hc
          clear O O1 hB1 x3 c0 c1 c2 c3 d0
          have d0 := cell_of_row _ g 0 _ _ _ hc
          have d1 := cell_of_row _ g 1 _ _ _ hc
          have d2 := cell_of_row _ g 2 _ _ _ hc
          have d3 := cell_of_row _ g 3 _ _ _ hc
          by_cases hneg : numV xs a < 0
          · have N := hid (newTo_yes (xs := xs) hab (by rw [isNew_num]; exact decide_eq_true hneg))
            rw [← hzs.out] at N
            clear hzs hab hc
            generalize numV xs a = r at *
            have HB := hid hB2.size
            go_wp2_with (at_builtin; refine wpList_append_see _ rfl (.tmp 27) (.tmp 29) eltItem rfl w.heap.size _ q (ims zs) rfl (O2.alloc _) (some ⟨w3.heap.size, 0, none⟩) 1 1 (imC (a, b, s, f)) rfl (see_new _ (imC (a, b, s, f)) _ _ rfl) (by simp) rfl (imC_one _) (by unfold maxLen; omega) (by omega) (Nat.le_trans HB.out (by simp)) ?_; intro v4 w4 O4 G4 _)
            rw [show ims zs ++ imC (a, b, s, f) = ims (zs ++ [(a, b, s, f)]) by simp [flat]] at O4
            have hB4 := (hB2.alloc hB2.size (.cells (imC (a, b, s, f)).toArray 57)).grown G4 (Nat.le_trans HB.out (by simp)) (fun q hq => (O2.lt q hq).1)
            obtain ⟨B4, d4', rfl, _⟩ := own_form O4
            clear O2 G4 hB2
            go_wp2_with fail
            go_roundw
            case rel => exact ⟨k + 1, q + 1, d4', B4, zs ++ [(a, b, s, f)], by omega, by go_num, rfl, O4, N.out.symm, by omega, hB4⟩
            case measure => simp [intOf]; omega
          · have N := hid (newTo_no (xs := xs) hab (by rw [isNew_num]; exact decide_eq_false hneg))
            rw [← hzs.out] at N
            clear hzs hab hc
            generalize numV xs a = r at *
            go_wp2_with fail
            go_roundw
            case rel => exact ⟨k + 1, q, e', C, zs, by omega, by go_num, rfl, O2, N.out.symm, by omega, hB2⟩
            case measure => simp [intOf]; omega
        · obtain rfl : k = m := by omega
          have N := hid (show newV xs ys = zs by rw [R.out, HL.out]; exact hzs.out.symm)
          have t0 : decide ((k : Int) < (k : Int)) = false := by simp
          clear hzs
          go_wp2_with fail
          go_ret
          exact ⟨C, q, e', rfl, by rw [N.out]; exact O, hB⟩
set_option maxRecDepth 4000 in
set_option maxHeartbeats 4000000 in
theorem chI_any (A : Option Addr) (n c : Nat) (xs : List Im) (B : Option Addr) (m d : Nat) (ys : List Im) (w : World) (h : Sl w A n c 4 (ims xs)) (hx : imOk xs) (h' : Sl w B m d 4 (ims ys)) (hy : imOk ys) :
    Calls Try.prog 62 #[.slice A n c, .slice B m d] w fun e w' => ∃ C q e', e = .returned (.slice C q e') ∧ w'.ownsRow w.heap.size 57 4 (.slice C q e') q (ims (chV xs ys)) ∧ Below w.heap.size w w' := by
  have hl : ys.length = m := h'.count imC_len (by omega)
  have HL := hid hl
  have HX := hid (show xs.length = n from h.count imC_len (by omega))
  have C1 := fun W (S : Sl W A n c 4 (ims xs)) => fdI_any A n c xs W S hx
  have C2 := fun W (S : Sl W B m d 4 (ims ys)) => fdI_any B m d ys W S hy
  have C3 := fun W key (S : Sl W A n c 4 (ims xs)) => numI_any A n c xs key W S
  clear hx hy hl
  go_enter Try.func62, Try.ntmps62
  go_wp2_with fail
  refine (C1 _ h).mono ?_
  rintro e w1 ⟨rfl, x1⟩
  cases hv : fdV xs with
  | false =>
    have R := hid (ch_no (xs := xs) (ys := ys) (by rw [hv]; simp))
    clear hv
    go_wp2_with fail
    go_ret
    exact ⟨none, 0, 0, rfl, by rw [R.out]; exact World.ownsRow_nil _ _ _ _, x1.below⟩
  | true =>
    go_wp2_with fail
    refine (C2 _ (h'.ext x1)).mono ?_
    rintro e w2 ⟨rfl, x2⟩
    have hE := x1.trans x2
    clear x1 x2
    cases hv' : fdV ys with
    | false =>
      have R := hid (ch_no (xs := xs) (ys := ys) (by rw [hv']; simp))
      clear hv hv'
      go_wp2_with fail
      go_ret
      exact ⟨none, 0, 0, rfl, by rw [R.out]; exact World.ownsRow_nil _ _ _ _, hE.below⟩
    | true =>
      have R := hid (ch_yes (xs := xs) (ys := ys) ⟨hv, hv'⟩)
      have hm8 : m ≤ 8 := by have := (fd_parts hv').1; have := HL.out; omega
      clear hv hv' C1 C2
      have hB := hE.below
      clear hE
      go_wp2_with fail
      go_loopw [5, 19] (fun v i wr => ∃ (k q e' : Nat) (C : Option Addr) (zs : List Im), k ≤ m ∧ i = .int .i64 k ∧ v = .slice C q e' ∧ wr.ownsRow w.heap.size 57 4 (.slice C q e') q (ims zs) ∧ Hid (zs = chTo xs ys k) ∧ q ≤ k ∧ Below w.heap.size w wr) (fun _ i _ => m - (intOf i).toNat)
      case atStart => exact ⟨0, 0, 0, none, [], Nat.zero_le _, rfl, rfl, World.ownsRow_nil _ _ _ _, rfl, Nat.le_refl _, hB⟩
      case round =>
        clear hB
        obtain ⟨k, q, e', C, zs, hk, rfl, rfl, O, hzs, hqk, hB⟩ := hrel
        by_cases hlt : k < m
        · obtain ⟨ad, a, b, s, f, rfl, hab, c0, c1, c2, c3⟩ := (h'.below hB).im hlt
          have hc : (wr.alloc (.cells #[.string a, .string b, .string s, .int .i64 f] 57)).heap[wr.heap.size]? = some (.cells #[.string a, .string b, .string s, .int .i64 f] 57 (0, 0)) := alloc_new' rfl
          have O1 := O.alloc (.cells #[.string a, .string b, .string s, .int .i64 f] 57)
          have hB1 := hB.alloc hB.size (.cells #[.string a, .string b, .string s, .int .i64 f] 57)
          have d0 := cell_of_row _ wr.heap.size 0 _ _ _ hc
          go_wp2_with fail
          generalize wr.alloc (.cells #[.string a, .string b, .string s, .int .i64 f] 57) = W at *
          generalize wr.heap.size = g at *
          refine (C3 _ a (h.below hB1)).mono ?_
          rintro e w3 ⟨rfl, x3⟩
          have O2 := own_ext O1 x3
          have hB2 := below_next hB1 x3.below
          replace hc := (x3.block (Array.getElem?_eq_some_iff.1 hc).1).trans hc
          clear O O1 hB1 x3 c0 c1 c2 c3 d0
          have d0 := cell_of_row _ g 0 _ _ _ hc
          have d1 := cell_of_row _ g 1 _ _ _ hc
          have d2 := cell_of_row _ g 2 _ _ _ hc
          have d3 := cell_of_row _ g 3 _ _ _ hc
          by_cases hneg : numV xs a < 0
          · have N := hid (chTo_no (xs := xs) hab (isCh_no (k := a) hneg))
            rw [← hzs.out] at N
            clear hzs hab hc
            generalize numV xs a = r at *
            have t1 : decide (0 ≤ r) = false := by simp; omega
            have g0 := more_cell d0
            have g1 := more_cell d1
            have g2 := more_cell d2
            have g3 := more_cell d3
            go_wp2_with fail
            refine wp_region_more (by kernel_rfl) (by kernel_rfl) ?_
            repeat (go_big_quiet_step (fail))
            refine wpQuiet_nil ?_
            rintro _ ⟨z, rfl⟩
            have x4 : Ext.of w3 (More w3 z) := ⟨z, rfl⟩
            have O3 := own_ext O2 x4
            have hB3 := below_next hB2 x4.below
            have y0 := g0 z
            have y1 := g1 z
            have y2 := g2 z
            have y3 := g3 z
            clear O2 hB2 x4 g0 g1 g2 g3 d0 d1 d2 d3
            go_wp2_with fail
            go_roundw
            case rel => exact ⟨k + 1, q, e', C, zs, by omega, by go_num, rfl, O3, N.out.symm, by omega, hB3⟩
            case measure => simp [intOf]; omega
          · obtain ⟨j, hj⟩ := Int.eq_ofNat_of_zero_le (Int.not_lt.1 hneg)
            have hjn : j < n := by have := (num_lt xs a).2; have := HX.out; omega
            obtain ⟨ad', a', b', s', f', rfl, hxy, p0, p1, p2, p3⟩ := (h.below hB2).im hjn
            have E := isCh_at (b := b) (s := s) (d := f) hj hxy
            have hN := fun W => neqItem a' b' s' f' a b s f W
            rw [hj] at *
            clear hj hneg hxy
            have q0 := more_cell p0
            have q1 := more_cell p1
            have q2 := more_cell p2
            have q3 := more_cell p3
            clear p0 p1 p2 p3
            have g0 := more_cell d0
            have g1 := more_cell d1
            have g2 := more_cell d2
            have g3 := more_cell d3
            cases hq : imQ a' b' s' f' a b s f with
            | true =>
              rw [hq] at hN E
              have N := hid (chTo_no (xs := xs) hab E)
              rw [← hzs.out] at N
              clear hzs hab hc hq E
              go_wp2_with fail
              refine wp_region_more (by kernel_rfl) (by kernel_rfl) ?_
              repeat (go_big_quiet_step (fail))
              refine wpQuiet_nil ?_
              rintro _ ⟨z, rfl⟩
              have x4 : Ext.of w3 (More w3 z) := ⟨z, rfl⟩
              have O3 := own_ext O2 x4
              have hB3 := below_next hB2 x4.below
              have y0 := g0 z
              have y1 := g1 z
              have y2 := g2 z
              have y3 := g3 z
              clear O2 hB2 x4 g0 g1 g2 g3 d0 d1 d2 d3
              go_wp2_with fail
              go_roundw
              case rel => exact ⟨k + 1, q, e', C, zs, by omega, by go_num, rfl, O3, N.out.symm, by omega, hB3⟩
              case measure => simp [intOf]; omega
            | false =>
              rw [hq] at hN E
              have N := hid (chTo_yes (xs := xs) hab E)
              rw [← hzs.out] at N
              clear hzs hab hc hq E
              go_wp2_with fail
              refine wp_region_more (by kernel_rfl) (by kernel_rfl) ?_
              repeat (go_big_quiet_step (fail))
              refine wpQuiet_nil ?_
              rintro _ ⟨z, rfl⟩
              have x4 : Ext.of w3 (More w3 z) := ⟨z, rfl⟩
              have O3 := own_ext O2 x4
              have hB3 := below_next hB2 x4.below
              have y0 := g0 z
              have y1 := g1 z
              have y2 := g2 z
              have y3 := g3 z
              clear O2 hB2 x4 g0 g1 g2 g3 d0 d1 d2 d3
              have HB := hid hB3.size
              go_wp2_with (at_builtin; refine wpList_append_see _ rfl (.tmp 37) (.tmp 39) eltItem rfl w.heap.size _ q (ims zs) rfl (O3.alloc _) (some ⟨(More w3 z).heap.size, 0, none⟩) 1 1 (imC (a, b, s, f)) rfl (see_new _ (imC (a, b, s, f)) _ _ rfl) (by simp) rfl (imC_one _) (by unfold maxLen; omega) (by omega) (Nat.le_trans HB.out (by simp)) ?_; intro v4 w4 O4 G4 _)
              rw [show ims zs ++ imC (a, b, s, f) = ims (zs ++ [(a, b, s, f)]) by simp [flat]] at O4
              have hB4 := (hB3.alloc hB3.size (.cells (imC (a, b, s, f)).toArray 57)).grown G4 (Nat.le_trans HB.out (by simp)) (fun q hq => (O3.lt q hq).1)
              obtain ⟨B4, d4', rfl, _⟩ := own_form O4
              clear O3 G4 hB3
              go_wp2_with fail
              go_roundw
              case rel => exact ⟨k + 1, q + 1, d4', B4, zs ++ [(a, b, s, f)], by omega, by go_num, rfl, O4, N.out.symm, by omega, hB4⟩
              case measure => simp [intOf]; omega
        · obtain rfl : k = m := by omega
          have N := hid (show chV xs ys = zs by rw [R.out, HL.out]; exact hzs.out.symm)
          have t0 : decide ((k : Int) < (k : Int)) = false := by simp
          clear hzs
          go_wp2_with fail
          go_ret
          exact ⟨C, q, e', rfl, by rw [N.out]; exact O, hB⟩
end Go.Proofs.Ytlfjnaeepblhiaa
