/- The contracts of NewItems and ChangedItems, the reference's. -/
import Derived.Test.YtlfjnaeepblhiaaChangeV
import Derived.Test.YtlfjnaeepblhiaaItemMem
namespace Go.Proofs.Ytlfjnaeepblhiaa
open Go.RowKit
set_option linter.unusedVariables false
set_option linter.unusedSimpArgs false
/-- A round behind another one: both feeds are valid. -/
def okAt (xs ys : List Im) (k : Nat) : Prop := 0 < k → fdV xs = true ∧ fdV ys = true
/-- Whether ItemWith finds a key. -/
theorem isNew_iw {xs : List Im} {a : ByteArray} {r : ByteArray × ByteArray × Int} (hv : fdV xs = true) : isNew xs (a, r) = !(iwV xs a).2 := by
  rw [isNew_num]
  by_cases h : numV xs a < 0
  · rw [iw_no2 h, decide_eq_true h]; rfl
  · obtain ⟨j, hj⟩ := Int.eq_ofNat_of_zero_le (Int.not_lt.1 h)
    obtain ⟨x, hx, _⟩ := num_at hj
    rw [iw_yes hv hj hx, decide_eq_false h]; rfl
theorem isCh_iw {xs : List Im} {a b s : ByteArray} {d : Int} (hv : fdV xs = true) : isCh xs (a, b, s, d) = ((iwV xs a).2 && !imQ (iwV xs a).1.1 (iwV xs a).1.2.1 (iwV xs a).1.2.2.1 (iwV xs a).1.2.2.2 a b s d) := by
  by_cases h : numV xs a < 0
  · rw [iw_no2 h, isCh_no (k := a) h]; rfl
  · obtain ⟨j, hj⟩ := Int.eq_ofNat_of_zero_le (Int.not_lt.1 h)
    obtain ⟨x, hx, _⟩ := num_at hj
    rw [iw_yes hv hj hx, isCh_at (a' := x.1) (b' := x.2.1) (s' := x.2.2.1) (d' := x.2.2.2) hj hx]; rfl
set_option maxRecDepth 4000 in
set_option maxHeartbeats 4000000 in
theorem newS_any (A : Option Addr) (n c : Nat) (xs : List Im) (B : Option Addr) (m d : Nat) (ys : List Im) (w : World) (h : Sl w A n c 4 (ims xs)) (hx : imOk xs) (h' : Sl w B m d 4 (ims ys)) (hy : imOk ys) :
    Calls Try.prog 67 #[.slice A n c, .slice B m d] w fun e w' => ∃ C q e', e = .returned (.slice C q e') ∧ w'.ownsRow w.heap.size 57 4 (.slice C q e') q (ims (newV xs ys)) ∧ Below w.heap.size w w' := by
  have hl : ys.length = m := h'.count imC_len (by omega)
  have HL := hid hl
  have hmx := h'.max
  have hcx := h'.cap
  unfold maxLen at hmx
  have C1 := fun W (S : Sl W A n c 4 (ims xs)) => fdS_any A n c xs W S hx
  have C2 := fun W (S : Sl W B m d 4 (ims ys)) => fdS_any B m d ys W S hy
  have C3 := fun W key (S : Sl W A n c 4 (ims xs)) => iwS_any A n c xs key W S hx
  clear hx hy hl
  have O0 := own_empty w 57 4
  have hB0 : Below w.heap.size w (w.alloc (.cells #[] 57)) := (Below.refl _ _).alloc (Nat.le_refl _) _
  go_enter Try.func67, Try.ntmps67
  go_wp2_with fail
  go_loopw [5, 6] (fun v i wr => ∃ (k q e' : Nat) (C : Option Addr) (zs : List Im), k ≤ m ∧ i = .int .i64 k ∧ v = .slice C q e' ∧ wr.ownsRow w.heap.size 57 4 (.slice C q e') q (ims zs) ∧ Hid (zs = newTo xs ys k) ∧ q ≤ k ∧ okAt xs ys k ∧ Below w.heap.size w wr) (fun _ i _ => m - (intOf i).toNat)
  case atStart => exact ⟨0, 0, 0, _, [], Nat.zero_le _, rfl, rfl, O0, rfl, Nat.le_refl _, (fun h => absurd h (Nat.lt_irrefl _)), hB0⟩
  case round =>
    clear O0 hB0
    obtain ⟨k, q, e', C, zs, hk, rfl, rfl, O, hzs, hqk, hok, hB⟩ := hrel
    by_cases hlt : k < m
    · cases hv : fdV xs with
      | false =>
        have k0 : k = 0 := by
          rcases Nat.eq_zero_or_pos k with h0 | h0
          · exact h0
          · have := (hok h0).1; rw [hv] at this; cases this
        have R := hid (new_no (xs := xs) (ys := ys) (by rw [hv]; simp))
        have Z := hid (show zs = [] by rw [hzs.out, k0]; rfl)
        rw [hv] at C1
        clear hv hzs hok k0
        go_wp2_with fail
        refine (C1 _ (h.below hB)).mono ?_
        rintro e w1 ⟨rfl, x1⟩
        go_wp2_with fail
        go_ret
        exact ⟨C, q, e', rfl, by rw [R.out, ← Z.out]; exact own_ext O x1, below_next hB x1.below⟩
      | true =>
        rw [hv] at C1
        have HV := hid hv
        clear hv
        go_wp2_with fail
        refine (C1 _ (h.below hB)).mono ?_
        rintro e w1 ⟨rfl, x1⟩
        have O1 := own_ext O x1
        have hB1 := below_next hB x1.below
        clear O hB x1 C1
        cases hv' : fdV ys with
        | false =>
          have k0 : k = 0 := by
            rcases Nat.eq_zero_or_pos k with h0 | h0
            · exact h0
            · have := (hok h0).2; rw [hv'] at this; cases this
          have R := hid (new_no (xs := xs) (ys := ys) (by rw [hv']; simp))
          have Z := hid (show zs = [] by rw [hzs.out, k0]; rfl)
          rw [hv'] at C2
          clear hv' hzs hok k0
          go_wp2_with fail
          refine (C2 _ (h'.below hB1)).mono ?_
          rintro e w2 ⟨rfl, x2⟩
          go_wp2_with fail
          go_ret
          exact ⟨C, q, e', rfl, by rw [R.out, ← Z.out]; exact own_ext O1 x2, below_next hB1 x2.below⟩
        | true =>
          rw [hv'] at C2
          have HV' := hid hv'
          have hm8 : m ≤ 8 := by have := (fd_parts hv').1; have := HL.out; omega
          clear hv' hok
          go_wp2_with fail
          refine (C2 _ (h'.below hB1)).mono ?_
          rintro e w2 ⟨rfl, x2⟩
          have O2 := own_ext O1 x2
          have hB2 := below_next hB1 x2.below
          clear O1 hB1 x2 C2
          obtain ⟨ad, a, b, s, f, rfl, hab, c0, c1, c2, c3⟩ := (h'.below hB2).im hlt
          go_wp2_with fail
          refine (C3 _ a (h.below hB2)).mono ?_
          rintro e w3 ⟨hres, x3⟩
          have O3 := own_ext O2 x3
          have hB3 := below_next hB2 x3.below
          have c0 := x3.cell c0
          have c1 := x3.cell c1
          have c2 := x3.cell c2
          have c3 := x3.cell c3
          clear O2 hB2 x3 C3
          unfold ImRes at hres
          subst hres
          have hnum := isNew_iw (xs := xs) (a := a) (r := (b, s, f)) HV.out
          generalize iwV xs a = v at *
          obtain ⟨⟨a', b', s', f'⟩, ok⟩ := v
          simp only at hnum
          have xW : Ext.of w3 (w3.alloc (.cells #[.string a', .string b', .string s', .int .i64 f'] 57)) := (Ext.of.refl _).alloc _
          have O4 := O3.alloc (.cells #[.string a', .string b', .string s', .int .i64 f'] 57)
          have hB4 := hB3.alloc hB3.size (.cells #[.string a', .string b', .string s', .int .i64 f'] 57)
          replace c0 := xW.cell c0
          replace c1 := xW.cell c1
          replace c2 := xW.cell c2
          replace c3 := xW.cell c3
          clear O3 hB3 xW
          generalize hW : w3.alloc (.cells #[.string a', .string b', .string s', .int .i64 f'] 57) = W at *
          have HB := hid hB4.size
          cases ok with
          | true =>
            have N := hid (newTo_no hab hnum)
            rw [← hzs.out] at N
            clear hzs hab hnum
            go_wp2_with (rw [hW])
            go_roundw
            case rel => exact ⟨k + 1, q, e', C, zs, by omega, by go_num, rfl, O4, N.out.symm, by omega, (fun _ => ⟨HV.out, HV'.out⟩), hB4⟩
            case measure => simp [intOf]; omega
          | false =>
            have N := hid (newTo_yes hab hnum)
            rw [← hzs.out] at N
            clear hzs hab hnum
            go_wp2_with (first | rw [hW] | (at_builtin; refine wpList_append_see _ rfl (.tmp 36) (.tmp 41) eltItem rfl w.heap.size _ q (ims zs) rfl (O4.alloc _) (some ⟨W.heap.size, 0, none⟩) 1 1 (imC (a, b, s, f)) rfl (see_new _ (imC (a, b, s, f)) _ _ rfl) (by simp) rfl (imC_one _) (by unfold maxLen; omega) (by omega) (Nat.le_trans HB.out (by simp)) ?_; intro v4 w4 O5 G5 _))
            rw [show ims zs ++ imC (a, b, s, f) = ims (zs ++ [(a, b, s, f)]) by simp [flat]] at O5
            have hB5 := (hB4.alloc hB4.size (.cells (imC (a, b, s, f)).toArray 57)).grown G5 (Nat.le_trans HB.out (by simp)) (fun q hq => (O4.lt q hq).1)
            obtain ⟨B4, d4', rfl, _⟩ := own_form O5
            clear O4 G5 hB4
            go_wp2_with fail
            go_roundw
            case rel => exact ⟨k + 1, q + 1, d4', B4, zs ++ [(a, b, s, f)], by omega, by go_num, rfl, O5, N.out.symm, by omega, (fun _ => ⟨HV.out, HV'.out⟩), hB5⟩
            case measure => simp [intOf]; omega
    · have hke : k = m := by omega
      have N := hid (show newV xs ys = zs by
        by_cases hv : fdV xs = true ∧ fdV ys = true
        · rw [new_yes hv, HL.out, hzs.out, hke]
        · rw [new_no hv, hzs.out]
          rcases Nat.eq_zero_or_pos k with h0 | h0
          · rw [h0]; rfl
          · exact absurd (hok h0) hv)
      have t0 : decide ((k : Int) < (m : Int)) = false := by simp; omega
      clear hzs hok hke
      go_wp2_with fail
      go_ret
      exact ⟨C, q, e', rfl, by rw [N.out]; exact O, hB⟩
set_option maxRecDepth 4000 in
set_option maxHeartbeats 4000000 in
theorem chS_any (A : Option Addr) (n c : Nat) (xs : List Im) (B : Option Addr) (m d : Nat) (ys : List Im) (w : World) (h : Sl w A n c 4 (ims xs)) (hx : imOk xs) (h' : Sl w B m d 4 (ims ys)) (hy : imOk ys) :
    Calls Try.prog 68 #[.slice A n c, .slice B m d] w fun e w' => ∃ C q e', e = .returned (.slice C q e') ∧ w'.ownsRow w.heap.size 57 4 (.slice C q e') q (ims (chV xs ys)) ∧ Below w.heap.size w w' := by
  have hl : ys.length = m := h'.count imC_len (by omega)
  have HL := hid hl
  have hmx := h'.max
  have hcx := h'.cap
  unfold maxLen at hmx
  have C1 := fun W (S : Sl W A n c 4 (ims xs)) => fdS_any A n c xs W S hx
  have C2 := fun W (S : Sl W B m d 4 (ims ys)) => fdS_any B m d ys W S hy
  have C3 := fun W key (S : Sl W A n c 4 (ims xs)) => iwS_any A n c xs key W S hx
  clear hx hy hl
  have O0 := own_empty w 57 4
  have hB0 : Below w.heap.size w (w.alloc (.cells #[] 57)) := (Below.refl _ _).alloc (Nat.le_refl _) _
  go_enter Try.func68, Try.ntmps68
  go_wp2_with fail
  go_loopw [5, 6] (fun v i wr => ∃ (k q e' : Nat) (C : Option Addr) (zs : List Im), k ≤ m ∧ i = .int .i64 k ∧ v = .slice C q e' ∧ wr.ownsRow w.heap.size 57 4 (.slice C q e') q (ims zs) ∧ Hid (zs = chTo xs ys k) ∧ q ≤ k ∧ okAt xs ys k ∧ Below w.heap.size w wr) (fun _ i _ => m - (intOf i).toNat)
  case atStart => exact ⟨0, 0, 0, _, [], Nat.zero_le _, rfl, rfl, O0, rfl, Nat.le_refl _, (fun h => absurd h (Nat.lt_irrefl _)), hB0⟩
  case round =>
    clear O0 hB0
    obtain ⟨k, q, e', C, zs, hk, rfl, rfl, O, hzs, hqk, hok, hB⟩ := hrel
    by_cases hlt : k < m
    · cases hv : fdV xs with
      | false =>
        have k0 : k = 0 := by
          rcases Nat.eq_zero_or_pos k with h0 | h0
          · exact h0
          · have := (hok h0).1; rw [hv] at this; cases this
        have R := hid (ch_no (xs := xs) (ys := ys) (by rw [hv]; simp))
        have Z := hid (show zs = [] by rw [hzs.out, k0]; rfl)
        rw [hv] at C1
        clear hv hzs hok k0
        go_wp2_with fail
        refine (C1 _ (h.below hB)).mono ?_
        rintro e w1 ⟨rfl, x1⟩
        go_wp2_with fail
        go_ret
        exact ⟨C, q, e', rfl, by rw [R.out, ← Z.out]; exact own_ext O x1, below_next hB x1.below⟩
      | true =>
        rw [hv] at C1
        have HV := hid hv
        clear hv
        go_wp2_with fail
        refine (C1 _ (h.below hB)).mono ?_
        rintro e w1 ⟨rfl, x1⟩
        have O1 := own_ext O x1
        have hB1 := below_next hB x1.below
        clear O hB x1 C1
        cases hv' : fdV ys with
        | false =>
          have k0 : k = 0 := by
            rcases Nat.eq_zero_or_pos k with h0 | h0
            · exact h0
            · have := (hok h0).2; rw [hv'] at this; cases this
          have R := hid (ch_no (xs := xs) (ys := ys) (by rw [hv']; simp))
          have Z := hid (show zs = [] by rw [hzs.out, k0]; rfl)
          rw [hv'] at C2
          clear hv' hzs hok k0
          go_wp2_with fail
          refine (C2 _ (h'.below hB1)).mono ?_
          rintro e w2 ⟨rfl, x2⟩
          go_wp2_with fail
          go_ret
          exact ⟨C, q, e', rfl, by rw [R.out, ← Z.out]; exact own_ext O1 x2, below_next hB1 x2.below⟩
        | true =>
          rw [hv'] at C2
          have HV' := hid hv'
          have hm8 : m ≤ 8 := by have := (fd_parts hv').1; have := HL.out; omega
          clear hv' hok
          go_wp2_with fail
          refine (C2 _ (h'.below hB1)).mono ?_
          rintro e w2 ⟨rfl, x2⟩
          have O2 := own_ext O1 x2
          have hB2 := below_next hB1 x2.below
          clear O1 hB1 x2 C2
          obtain ⟨ad, a, b, s, f, rfl, hab, c0, c1, c2, c3⟩ := (h'.below hB2).im hlt
          go_wp2_with fail
          refine (C3 _ a (h.below hB2)).mono ?_
          rintro e w3 ⟨hres, x3⟩
          have O3 := own_ext O2 x3
          have hB3 := below_next hB2 x3.below
          have c0 := x3.cell c0
          have c1 := x3.cell c1
          have c2 := x3.cell c2
          have c3 := x3.cell c3
          clear O2 hB2 x3 C3
          unfold ImRes at hres
          subst hres
          have hch := isCh_iw (xs := xs) (a := a) (b := b) (s := s) (d := f) HV.out
          generalize iwV xs a = v at *
          obtain ⟨⟨a', b', s', f'⟩, ok⟩ := v
          simp only at hch
          have hc : (w3.alloc (.cells #[.string a', .string b', .string s', .int .i64 f'] 57)).heap[w3.heap.size]? = some (.cells #[.string a', .string b', .string s', .int .i64 f'] 57 (0, 0)) := alloc_new' rfl
          have xW : Ext.of w3 (w3.alloc (.cells #[.string a', .string b', .string s', .int .i64 f'] 57)) := (Ext.of.refl _).alloc _
          have O4 := O3.alloc (.cells #[.string a', .string b', .string s', .int .i64 f'] 57)
          have hB4 := hB3.alloc hB3.size (.cells #[.string a', .string b', .string s', .int .i64 f'] 57)
          replace c0 := xW.cell c0
          replace c1 := xW.cell c1
          replace c2 := xW.cell c2
          replace c3 := xW.cell c3
          clear O3 hB3 xW
          generalize hW : w3.alloc (.cells #[.string a', .string b', .string s', .int .i64 f'] 57) = W at *
          generalize hg : w3.heap.size = g at *
          have q0 := more_cell (cell_of_row _ g 0 _ _ _ hc)
          have q1 := more_cell (cell_of_row _ g 1 _ _ _ hc)
          have q2 := more_cell (cell_of_row _ g 2 _ _ _ hc)
          have q3 := more_cell (cell_of_row _ g 3 _ _ _ hc)
          have g0 := more_cell c0
          have g1 := more_cell c1
          have g2 := more_cell c2
          have g3 := more_cell c3
          clear hc c0 c1 c2 c3
          have hN := fun W => neqItem a' b' s' f' a b s f W
          cases ok with
          | false =>
            simp only [Bool.false_and] at hch
            have N := hid (chTo_no (xs := xs) hab hch)
            rw [← hzs.out] at N
            clear hzs hab hch
            go_wp2_with (rw [hW, hg])
            refine wp_region_more (by kernel_rfl) (by kernel_rfl) ?_
            repeat (go_big_quiet_step (fail))
            refine wpQuiet_nil ?_
            rintro _ ⟨z, rfl⟩
            have x4 : Ext.of W (More W z) := ⟨z, rfl⟩
            have O5 := own_ext O4 x4
            have hB5 := below_next hB4 x4.below
            have y0 := g0 z
            have y1 := g1 z
            have y2 := g2 z
            have y3 := g3 z
            clear O4 hB4 x4 g0 g1 g2 g3 q0 q1 q2 q3
            go_wp2_with fail
            go_roundw
            case rel => exact ⟨k + 1, q, e', C, zs, by omega, by go_num, rfl, O5, N.out.symm, by omega, (fun _ => ⟨HV.out, HV'.out⟩), hB5⟩
            case measure => simp [intOf]; omega
          | true =>
            cases hq : imQ a' b' s' f' a b s f with
            | true =>
              rw [hq] at hN hch
              simp only [Bool.and_true, Bool.not_true] at hch
              clear hq
              have N := hid (chTo_no (xs := xs) hab hch)
              rw [← hzs.out] at N
              clear hzs hab hch
              go_wp2_with fail
              refine wp_region_more (by kernel_rfl) (by kernel_rfl) ?_
              repeat (go_big_quiet_step (fail))
              refine wpQuiet_nil ?_
              rintro _ ⟨z, rfl⟩
              have x4 : Ext.of W (More W z) := ⟨z, rfl⟩
              have O5 := own_ext O4 x4
              have hB5 := below_next hB4 x4.below
              have y0 := g0 z
              have y1 := g1 z
              have y2 := g2 z
              have y3 := g3 z
              clear O4 hB4 x4 g0 g1 g2 g3 q0 q1 q2 q3
              go_wp2_with fail
              go_roundw
              case rel => exact ⟨k + 1, q, e', C, zs, by omega, by go_num, rfl, O5, N.out.symm, by omega, (fun _ => ⟨HV.out, HV'.out⟩), hB5⟩
              case measure => simp [intOf]; omega
            | false =>
              rw [hq] at hN hch
              simp only [Bool.and_self, Bool.not_false, Bool.and_true] at hch
              clear hq
              have N := hid (chTo_yes (xs := xs) hab hch)
              rw [← hzs.out] at N
              clear hzs hab hch
              go_wp2_with fail
              refine wp_region_more (by kernel_rfl) (by kernel_rfl) ?_
              repeat (go_big_quiet_step (fail))
              refine wpQuiet_nil ?_
              rintro _ ⟨z, rfl⟩
              have x4 : Ext.of W (More W z) := ⟨z, rfl⟩
              have O5 := own_ext O4 x4
              have hB5 := below_next hB4 x4.below
              have y0 := g0 z
              have y1 := g1 z
              have y2 := g2 z
              have y3 := g3 z
              clear O4 hB4 x4 g0 g1 g2 g3 q0 q1 q2 q3
              have HB := hid hB5.size
              go_wp2_with (at_builtin; refine wpList_append_see _ rfl (.tmp 43) (.tmp 48) eltItem rfl w.heap.size _ q (ims zs) rfl (O5.alloc _) (some ⟨(More W z).heap.size, 0, none⟩) 1 1 (imC (a, b, s, f)) rfl (see_new _ (imC (a, b, s, f)) _ _ rfl) (by simp) rfl (imC_one _) (by unfold maxLen; omega) (by omega) (Nat.le_trans HB.out (by simp)) ?_; intro v4 w4 O6 G6 _)
              rw [show ims zs ++ imC (a, b, s, f) = ims (zs ++ [(a, b, s, f)]) by simp [flat]] at O6
              have hB6 := (hB5.alloc hB5.size (.cells (imC (a, b, s, f)).toArray 57)).grown G6 (Nat.le_trans HB.out (by simp)) (fun q hq => (O5.lt q hq).1)
              obtain ⟨B4, d4', rfl, _⟩ := own_form O6
              clear O5 G6 hB5
              go_wp2_with fail
              go_roundw
              case rel => exact ⟨k + 1, q + 1, d4', B4, zs ++ [(a, b, s, f)], by omega, by go_num, rfl, O6, N.out.symm, by omega, (fun _ => ⟨HV.out, HV'.out⟩), hB6⟩
              case measure => simp [intOf]; omega
    · have hke : k = m := by omega
      have N := hid (show chV xs ys = zs by
        by_cases hv : fdV xs = true ∧ fdV ys = true
        · rw [ch_yes hv, HL.out, hzs.out, hke]
        · rw [ch_no hv, hzs.out]
          rcases Nat.eq_zero_or_pos k with h0 | h0
          · rw [h0]; rfl
          · exact absurd (hok h0) hv)
      have t0 : decide ((k : Int) < (m : Int)) = false := by simp; omega
      clear hzs hok hke
      go_wp2_with fail
      go_ret
      exact ⟨C, q, e', rfl, by rw [N.out]; exact O, hB⟩
end Go.Proofs.Ytlfjnaeepblhiaa
