/- The contract of KnownKeys, the reference's. -/
import Derived.Test.YtlfjnaeepblhiaaKnown
namespace Go.Proofs.Ytlfjnaeepblhiaa
open Go.RowKit
set_option linter.unusedVariables false
set_option linter.unusedSimpArgs false
theorem Sl.acAt {w : World} {A : Option Addr} {n c : Nat} {xs : List Ac} (h : Sl w A n c 5 (acs xs)) {j : Nat} (hj : j < n) {e f : Int} {a b s : ByteArray} (hab : xs[j]? = some (e, f, a, b, s)) :
    ∃ ad, A = some ad ∧ w.cell? (ad.add (j * 5)) = some (.int .i64 e) ∧ w.cell? ⟨(ad.add (j * 5)).block, (ad.add (j * 5)).off + 1, none⟩ = some (.int .i64 f) ∧ w.cell? ⟨(ad.add (j * 5)).block, (ad.add (j * 5)).off + 2, none⟩ = some (.string a) ∧ w.cell? ⟨(ad.add (j * 5)).block, (ad.add (j * 5)).off + 3, none⟩ = some (.string b) ∧ w.cell? ⟨(ad.add (j * 5)).block, (ad.add (j * 5)).off + 4, none⟩ = some (.string s) := by
  obtain ⟨ad, e', f', a', b', s', hA, h2, c0, c1, c2, c3, c4⟩ := h.ac hj
  rw [hab] at h2
  injection h2 with h2
  injection h2 with q1 h2
  injection h2 with q2 h2
  injection h2 with q3 h2
  injection h2 with q4 q5
  subst q1 q2 q3 q4 q5
  exact ⟨ad, hA, c0, c1, c2, c3, c4⟩
theorem delK_skip {ks : List St} {s y : ByteArray} {j : Nat} (hy : ks[j]? = some y) (h : (y.toList == s.toList) = true) : delK (ks.take (j + 1)) s = delK (ks.take j) s := by
  unfold delK; rw [List.take_add_one, hy, List.filter_append]; simp [h]
theorem delK_take {ks : List St} {s y : ByteArray} {j : Nat} (hy : ks[j]? = some y) (h : (y.toList == s.toList) = false) : delK (ks.take (j + 1)) s = delK (ks.take j) s ++ [y] := by
  unfold delK; rw [List.take_add_one, hy, List.filter_append]; simp [h]
set_option maxHeartbeats 4000000 in
set_option maxRecDepth 4000 in
theorem knownS_any (B : Option Addr) (m d : Nat) (keys : List St) (A : Option Addr) (n c : Nat) (xs : List Ac) (w : World) (hk : Sl w B m d 1 (sts keys)) (h : Sl w A n c 5 (acs xs)) (hok : acOk xs) (hm : m ≤ 1048576) :
    Calls Try.prog 20 #[.slice B m d, .slice A n c] w fun e w' => ∃ B' m' d', e = .returned (.slice B' m' d') ∧ w'.ownsRow w.heap.size 9 1 (.slice B' m' d') m' (sts (knownV keys xs)) ∧ Below w.heap.size w w' := by
  have hlx : xs.length = n := h.count acC_len (by omega)
  have hmx := h.max
  have hcx := h.cap
  unfold maxLen at hmx
  have HOK := hid hok
  clear hok
  have O0 := own_empty w 9 1
  have hk0 := hk.alloc (.cells #[] 9)
  have hB0 := (Below.refl w.heap.size w).alloc (Nat.le_refl _) (.cells #[] 9)
  go_enter Try.func20, Try.ntmps20
  go_wp2_with (at_builtin; refine wpList_append_see _ rfl (.tmp 9) (.tmp 10) eltString rfl w.heap.size (.slice (some ⟨w.heap.size, 0, none⟩) 0 0) 0 [] rfl O0 B m d (sts keys) rfl hk0.see (hk0.of_none (by decide)) hk0.len (flat_one stC_one _) (by unfold maxLen; omega) (by omega) hB0.size ?_; intro v1 w1 O1 G1 _)
  rw [Nat.zero_add, List.nil_append] at O1
  have hB1 := hB0.grown G1 hB0.size (fun q hq => by simp [Value.ownBlock] at hq; omega)
  obtain ⟨B1, d1, rfl, _⟩ := own_form O1
  clear O0 hk0 hB0 G1 hk
  go_wp2_with fail
  go_loopg [5, 6] n (fun g v i wr => ∃ (k m' d' : Nat) (B' : Option Addr) (ks : List St), k ≤ n ∧ g = n - k ∧ i = .int .i64 k ∧ v = .slice B' m' d' ∧ wr.ownsRow w.heap.size 9 1 (.slice B' m' d') m' (sts ks) ∧ Hid (ks = knownTo keys xs k) ∧ Hid (hvTo xs k = true) ∧ Hid (0 < k → n ≤ 30) ∧ m' ≤ m + k ∧ Below w.heap.size w wr)
  case atStart => exact ⟨0, _, _, _, _, Nat.zero_le _, by omega, rfl, rfl, O1, rfl, rfl, fun h => by omega, Nat.le_refl _, hB1⟩
  case round =>
    clear O1 hB1
    obtain ⟨k, m', d', B', ks, hk, hg, rfl, rfl, O5, hks, hto, hsm, hm', hB⟩ := hrel
    have HG := hid hg
    clear hg
    by_cases hlt : k < n
    · obtain ⟨ad, e, f, a, b, s, rfl, hab, c0, c1, c2, c3, c4⟩ := (h.below hB).ac hlt
      have HV := hid (HOK.out _ (List.mem_of_getElem? hab))
      have C := fun W => avalS_any e f a b s W HV.out.1 HV.out.2.1 HV.out.2.2
      have HAB := hid hab
      clear hab
      cases hv : avalV e f a b s with
      | false =>
        have R := hid (known_no (keys := keys) (heard_not HAB.out hv))
        rw [hv] at C
        clear hv
        go_wp2_with fail
        refine (C _).mono ?_
        rintro e1 w2 ⟨rfl, x2⟩
        have hB := below_next hB x2.below
        clear x2 C c0 c1 c2 c3 c4
        have O0 := own_empty w2 9 1
        clear O5 hks hto hsm
        go_wp2_with fail
        go_ret
        exact ⟨_, 0, 0, rfl, by rw [R.out]; exact own_lower O0 hB.size, hB.alloc hB.size _⟩
      | true =>
        rw [hv] at C
        by_cases hn : n ≤ 30
        · have HTO := hid (show hvTo xs (k + 1) = true by rw [hvTo_next HAB.out, hto.out, show acVal (e, f, a, b, s) = true from hv]; rfl)
          have H30 := hid (fun (_ : 0 < k + 1) => hn)
          have N := hid (knownTo_next (keys := keys) HAB.out)
          rw [← hks.out] at N
          clear hv hto hsm hks
          go_wp2_with fail
          refine (C _).mono ?_
          rintro e1 w2 ⟨rfl, x2⟩
          have hB := below_next hB x2.below
          have O5 := own_ext O5 x2
          have HOUT := hid (fun q hq => (O5.lt q hq).2)
          have hb1 := hid hB.size
          have O7 := own_empty w2 9 1
          have O5 := O5.alloc (.cells #[] 9)
          have hB := hB.alloc hB.size (.cells #[] 9)
          clear x2 C c0 c1 c2 c3 c4
          go_wp2_with fail
          go_loopg [7, 8] m' (fun g2 r j wr => ∃ (jj m7 d7 : Nat) (B7 : Option Addr), jj ≤ m' ∧ g2 = m' - jj ∧ j = .int .i64 jj ∧ r = .slice B7 m7 d7 ∧ wr.ownsRow w2.heap.size 9 1 (.slice B7 m7 d7) m7 (sts (delK (ks.take jj) s)) ∧ wr.ownsRow w.heap.size 9 1 (.slice B' m' d') m' (sts ks) ∧ m7 ≤ jj ∧ w2.heap.size ≤ wr.heap.size ∧ Below w.heap.size w wr)
          case atStart => exact ⟨0, 0, 0, _, Nat.zero_le _, by omega, rfl, rfl, O7, O5, Nat.le_refl _, by simp, hB⟩
          case round =>
            clear O7 O5 hB
            obtain ⟨jj, m7, d7, B7, hjj, hg2, rfl, rfl, O7, O5, hm7, hw2, hB⟩ := hrel
            have HG2 := hid hg2
            clear hg2
            by_cases hj : jj < m'
            · obtain ⟨ak, y, rfl, hy, cy⟩ := (own_sl O5).st hj
              obtain ⟨ad', hA, c0, c1, c2, c3, c4⟩ := (h.below hB).acAt hlt HAB.out
              injection hA with hA
              subst hA
              clear c0 c1 c2 c3
              cases t1 : (y.toList == s.toList) with
              | true =>
                have t2 := congrArg (!·) t1
                simp only [Bool.not_true] at t2
                have D := hid (delK_skip hy t1)
                clear hy
                go_wp2_with fail
                have cy0 := cy
                have cy := more_cell cy
                have c4 := more_cell c4
                refine wp_region_more (by kernel_rfl) (by kernel_rfl) ?_
                repeat (go_big_quiet_step (fail))
                refine wpQuiet_nil ?_
                rintro _ ⟨z, rfl⟩
                have hX : Ext.of wr (More wr z) := ⟨z, rfl⟩
                have O7 := own_ext O7 hX
                have O5 := own_ext O5 hX
                have hB := below_next hB hX.below
                have cy0 := hX.cell cy0
                clear cy c4
                have hw2 := Nat.le_trans hw2 hX.below.size
                rw [← D.out] at O7
                clear hX cy0
                generalize More wr z = W3 at *
                go_wp2_with fail
                go_roundg (m' - (jj + 1))
                case measure => have := HG2.out; omega
                case rel => exact ⟨jj + 1, m7, d7, B7, by omega, rfl, by go_num, rfl, O7, O5, by omega, hw2, hB⟩
              | false =>
                have t2 := congrArg (!·) t1
                simp only [Bool.not_false] at t2
                have D := hid (delK_take hy t1)
                clear hy
                go_wp2_with fail
                have cy0 := cy
                have cy := more_cell cy
                have c4 := more_cell c4
                refine wp_region_more (by kernel_rfl) (by kernel_rfl) ?_
                repeat (go_big_quiet_step (fail))
                refine wpQuiet_nil ?_
                rintro _ ⟨z, rfl⟩
                have hX : Ext.of wr (More wr z) := ⟨z, rfl⟩
                have O7 := own_ext O7 hX
                have O5 := own_ext O5 hX
                have hB := below_next hB hX.below
                have cy0 := hX.cell cy0
                clear cy c4
                have hw2 := Nat.le_trans hw2 hX.below.size
                generalize More wr z = W3 at *
                have HB := hid (show w2.heap.size ≤ (W3.alloc (.cells (stC y).toArray 9)).heap.size from Nat.le_trans hw2 (by simp))
                clear hX
                go_wp2_with (at_builtin; refine wpList_append_see _ rfl (.tmp 47) (.tmp 52) eltString rfl w2.heap.size _ m7 (sts (delK (ks.take jj) s)) rfl (O7.alloc _) (some ⟨W3.heap.size, 0, none⟩) 1 1 (stC y) rfl (see_new _ (stC y) _ _ rfl) (by simp) rfl (stC_one _) (by unfold maxLen; omega) (by omega) HB.out ?_; intro v4 w4 O4 G4 _)
                rw [show sts (delK (ks.take jj) s) ++ stC y = sts ((delK (ks.take jj) s) ++ [y]) by simp [flat]] at O4
                rw [← D.out] at O4
                have hB4 := (hB.alloc hB.size (.cells (stC y).toArray 9)).grown G4 (Nat.le_trans hb1.out HB.out) (fun q hq => Nat.le_trans hb1.out (O7.lt q hq).1)
                have O5 := (O5.alloc (.cells (stC y).toArray 9)).kept G4 (by
                  right
                  intro e
                  have h1 := HOUT.out _ rfl
                  have h2 := (O7.lt _ e.symm).1
                  omega)
                obtain ⟨B4, d4', rfl, _⟩ := own_form O4
                have hw4 := Nat.le_trans HB.out G4.size
                clear O7 G4 hB
                go_wp2_with fail
                go_roundg (m' - (jj + 1))
                case measure => have := HG2.out; omega
                case rel => exact ⟨jj + 1, m7 + 1, d4', B4, by omega, rfl, by go_num, rfl, O4, O5, by omega, hw4, hB4⟩
            · obtain rfl : jj = m' := by omega
              have h5 := own_count O5 stC_len (by omega)
              rw [List.take_of_length_le (by omega)] at O7
              have h7 := own_count O7 stC_len (by omega)
              obtain ⟨ad', hA, c0, c1, c2, c3, c4⟩ := (h.below hB).acAt hlt HAB.out
              injection hA with hA
              subst hA
              rcases (show e = 2 ∨ e = 0 ∨ e = 1 ∨ (¬ e = 0 ∧ ¬ e = 1 ∧ ¬ e = 2) by omega) with he | he | he | ⟨e0, e1, e2⟩
              · have z2 : (e == 2) = true := by simp; omega
                have N2 := hid (show delK ks s = knownTo keys xs (k + 1) by rw [N.out, he, kStep_del])
                have O7 := own_lower O7 hb1.out
                clear he h5 h7 N O5
                go_wp2_with fail
                go_roundg (n - (k + 1))
                case measure => have := HG.out; omega
                case rel => exact ⟨k + 1, m7, d7, B7, _, by omega, rfl, by go_num, rfl, O7, N2, HTO, H30, by omega, hB⟩
              · have z2 : (e == 2) = false := by simp; omega
                have z0 : (e == 0) = true := by simp; omega
                have hkd : e = 0 ∨ e = 1 := by omega
                clear he
                cases hh : hasK ks s with
                | true =>
                  have hl := delK_len hh
                  have e7 : ((m7 : Int) == (jj : Int)) = false := by simp; omega
                  have N2 := hid (show ks = knownTo keys xs (k + 1) by rw [N.out, kStep_has hkd hh])
                  clear hh hl hkd h7 h5 N O7
                  go_wp2_with fail
                  go_roundg (n - (k + 1))
                  case measure => have := HG.out; omega
                  case rel => exact ⟨k + 1, jj, d', B', ks, by omega, rfl, by go_num, rfl, O5, N2, HTO, H30, by omega, hB⟩
                | false =>
                  have hl := congrArg List.length (delK_id hh)
                  have e7 : ((m7 : Int) == (jj : Int)) = true := by simp; omega
                  have N2 := hid (show ks ++ [s] = knownTo keys xs (k + 1) by rw [N.out, kStep_new hkd hh])
                  have HB := hid (show w.heap.size ≤ (wr.alloc (.cells (stC s).toArray 9)).heap.size from Nat.le_trans hB.size (by simp))
                  clear hh hl hkd h7 h5 N O7
                  go_wp2_with (at_builtin; refine wpList_append_see _ rfl (.tmp 70) (.tmp 76) eltString rfl w.heap.size _ jj (sts (ks)) rfl (O5.alloc _) (some ⟨wr.heap.size, 0, none⟩) 1 1 (stC s) rfl (see_new _ (stC s) _ _ rfl) (by simp) rfl (stC_one _) (by unfold maxLen; omega) (by omega) HB.out ?_; intro v4 w4 O4 G4 _)
                  rw [show sts (ks) ++ stC s = sts ((ks) ++ [s]) by simp [flat]] at O4
                  have hB4 := (hB.alloc hB.size (.cells (stC s).toArray 9)).grown G4 HB.out (fun q hq => (O5.lt q hq).1)
                  obtain ⟨B4, d4', rfl, _⟩ := own_form O4
                  clear O5 G4 hB
                  go_wp2_with fail
                  go_roundg (n - (k + 1))
                  case measure => have := HG.out; omega
                  case rel => exact ⟨k + 1, jj + 1, d4', B4, ks ++ [s], by omega, rfl, by go_num, rfl, O4, N2, HTO, H30, by omega, hB4⟩
              · have z2 : (e == 2) = false := by simp; omega
                have z0 : (e == 0) = false := by simp; omega
                have z1 : (e == 1) = true := by simp; omega
                have hkd : e = 0 ∨ e = 1 := by omega
                clear he
                cases hh : hasK ks s with
                | true =>
                  have hl := delK_len hh
                  have e7 : ((m7 : Int) == (jj : Int)) = false := by simp; omega
                  have N2 := hid (show ks = knownTo keys xs (k + 1) by rw [N.out, kStep_has hkd hh])
                  clear hh hl hkd h7 h5 N O7
                  go_wp2_with fail
                  go_roundg (n - (k + 1))
                  case measure => have := HG.out; omega
                  case rel => exact ⟨k + 1, jj, d', B', ks, by omega, rfl, by go_num, rfl, O5, N2, HTO, H30, by omega, hB⟩
                | false =>
                  have hl := congrArg List.length (delK_id hh)
                  have e7 : ((m7 : Int) == (jj : Int)) = true := by simp; omega
                  have N2 := hid (show ks ++ [s] = knownTo keys xs (k + 1) by rw [N.out, kStep_new hkd hh])
                  have HB := hid (show w.heap.size ≤ (wr.alloc (.cells (stC s).toArray 9)).heap.size from Nat.le_trans hB.size (by simp))
                  clear hh hl hkd h7 h5 N O7
                  go_wp2_with (at_builtin; refine wpList_append_see _ rfl (.tmp 70) (.tmp 76) eltString rfl w.heap.size _ jj (sts (ks)) rfl (O5.alloc _) (some ⟨wr.heap.size, 0, none⟩) 1 1 (stC s) rfl (see_new _ (stC s) _ _ rfl) (by simp) rfl (stC_one _) (by unfold maxLen; omega) (by omega) HB.out ?_; intro v4 w4 O4 G4 _)
                  rw [show sts (ks) ++ stC s = sts ((ks) ++ [s]) by simp [flat]] at O4
                  have hB4 := (hB.alloc hB.size (.cells (stC s).toArray 9)).grown G4 HB.out (fun q hq => (O5.lt q hq).1)
                  obtain ⟨B4, d4', rfl, _⟩ := own_form O4
                  clear O5 G4 hB
                  go_wp2_with fail
                  go_roundg (n - (k + 1))
                  case measure => have := HG.out; omega
                  case rel => exact ⟨k + 1, jj + 1, d4', B4, ks ++ [s], by omega, rfl, by go_num, rfl, O4, N2, HTO, H30, by omega, hB4⟩
              · have z0 : (e == 0) = false := by simp; omega
                have z1 : (e == 1) = false := by simp; omega
                have z2 : (e == 2) = false := by simp; omega
                have N2 := hid (show ks = knownTo keys xs (k + 1) by rw [N.out, kStep_not e0 e1 e2])
                clear e0 e1 e2 h5 h7 N O7
                go_wp2_with fail
                go_roundg (n - (k + 1))
                case measure => have := HG.out; omega
                case rel => exact ⟨k + 1, jj, d', B', ks, by omega, rfl, by go_num, rfl, O5, N2, HTO, H30, by omega, hB⟩
        · have R := hid (known_no (keys := keys) (heard_big (xs := xs) (by omega)))
          clear hv
          go_wp2_with fail
          refine (C _).mono ?_
          rintro e1 w2 ⟨rfl, x2⟩
          have hB := below_next hB x2.below
          clear x2 C c0 c1 c2 c3 c4
          have O0 := own_empty w2 9 1
          clear O5 hks hto hsm
          go_wp2_with fail
          go_ret
          exact ⟨_, 0, 0, rfl, by rw [R.out]; exact own_lower O0 hB.size, hB.alloc hB.size _⟩
    · obtain rfl : k = n := by omega
      have hn : k ≤ 30 := by
        rcases Nat.eq_zero_or_pos k with h0 | h0
        · omega
        · exact hsm.out h0
      have R := hid ((known_yes (keys := keys) (heard_yes (xs := xs) (by omega) (by rw [hlx]; exact hto.out))).trans (by rw [hlx, ← hks.out]))
      clear hto hsm hks
      go_wp2_with fail
      go_ret
      exact ⟨B', m', d', rfl, by rw [R.out]; exact O5, hB⟩
end Go.Proofs.Ytlfjnaeepblhiaa
