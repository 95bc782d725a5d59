/- The walk of FnKnownKeys: it returns true and turns nothing that was there. -/
import Derived.Test.YtlfjnaeepblhiaaKnownS
import Derived.Test.YtlfjnaeepblhiaaDrawKnown
namespace Go.Proofs.Ytlfjnaeepblhiaa.fnKnownKeys
open Go.RowKit
set_option linter.unusedVariables false
set_option linter.unusedSimpArgs false
theorem hasK_del (ks : List St) (s : ByteArray) : hasK (delK ks s) s = false := by
  unfold hasK delK
  rw [List.any_eq_false]
  intro x hx
  have := (List.mem_filter.1 hx).2
  simpa using this
theorem hasK_step {ks : List St} {x : Ac} : (x.1 = 2 → hasK (kStep ks x) x.2.2.2.2 = false) ∧ (x.1 = 0 → hasK (kStep ks x) x.2.2.2.2 = true) := by
  refine ⟨fun h => ?_, fun h => ?_⟩
  · unfold kStep; rw [if_pos h]; exact hasK_del _ _
  · unfold kStep
    rw [if_neg (by rw [h]; decide), if_pos (.inl h)]
    split
    · assumption
    · unfold hasK; rw [List.any_append]; simp
theorem hasK_more {zs : List St} {x y : ByteArray} {k : Nat} (h : zs[k]? = some y) : hasK (zs.take (k + 1)) x = (hasK (zs.take k) x || y.toList == x.toList) := by
  unfold hasK; rw [List.take_add_one, h, List.any_append]; simp
/-- What the last activity says of the keys. -/
theorem known_last {keys : List St} {xs : List Ac} {n : Nat} {x : Ac} (hl : xs.length = n + 1) (hx : xs[n]? = some x) (hn : n + 1 ≤ 30) (hv : hvTo xs (n + 1) = true) : (x.1 = 2 → hasK (knownV keys xs) x.2.2.2.2 = false) ∧ (x.1 = 0 → hasK (knownV keys xs) x.2.2.2.2 = true) := by
  rw [known_yes (heard_yes (by omega) (by rw [hl]; exact hv)), hl, knownTo_next hx]
  exact hasK_step
set_option maxHeartbeats 2000000 in
set_option maxRecDepth 8000 in
theorem walk (a0 : Option Addr) (len0 cap0 : Nat) (z0 : List Int) (w : World) (w0 : Row .u8 w a0 len0 cap0 z0) :
    Calls Try.prog 5 #[.slice a0 len0 cap0] w fun e w' => e = .returned (.bool true) ∧ Below w.heap.size w w' := by
  have hmax := w0.sl.max
  have hcap := w0.sl.cap
  unfold maxLen at hmax
  by_cases hn : 1048576 < len0
  · go_enter Try.func5, Try.ntmps5
    go_wp2
    go_ret
    exact ⟨rfl, Below.refl _ _⟩
  · go_enter Try.func5, Try.ntmps5
    go_wp2_with fail
    refine (drawKnown_any _ _ _ _ _ w0).mono ?_
    rintro e1 w1 ⟨B, m, dk, ks, C, n, q, xs, rfl, ok, hm, oc, hok, hn31, T1⟩
    have HOK := hid hok
    have hm2 : m ≤ 1048576 := Nat.le_trans hm (by decide)
    clear w0 hmax hcap hn hok
    have HLX := hid (own_count oc acC_len (by omega))
    go_wp2_with fail
    refine (knownI_any _ _ _ ks _ _ _ xs _ (own_sl ok) (own_sl oc) HOK.out hm2).mono ?_
    rintro e1 w2 ⟨Bg, kg, dg, rfl, og, b⟩
    have og := own_lower og T1.size
    have ok := own_below ok b
    have oc := own_below oc b
    have T2 := below_next T1 b
    clear b T1
    go_wp2_with fail
    refine (knownS_any _ _ _ ks _ _ _ xs _ (own_sl ok) (own_sl oc) HOK.out hm2).mono ?_
    rintro e1 w3 ⟨Bw, kw, dw, rfl, ow, b⟩
    have ow := own_lower ow T2.size
    have og := own_below og b
    have ok := own_below ok b
    have oc := own_below oc b
    have T3 := below_next T2 b
    clear b T2
    go_wp2_with fail
    refine (sameTexts_any _ _ _ _ _ _ _ _ _ (own_sl og) (own_sl ow)).mono ?_
    rintro e1 w4 ⟨rfl, x⟩
    have og := own_ext og x
    have ok := own_ext ok x
    have oc := own_ext oc x
    have T4 := below_next T3 x.below
    have hz : decide (knownV ks xs = knownV ks xs) = true := by simp
    clear x T3 ow
    rcases Nat.eq_zero_or_pos n with hn0 | hn0
    · subst hn0
      have E : xs = [] := by cases xs with | nil => rfl | cons x t => have := HLX.out; simp at this
      subst E
      rw [show knownV ks [] = ks by rw [known_yes (heard_yes (by simp) rfl)]; rfl] at og hz ⊢
      go_wp2_with fail
      refine (sameTexts_any _ _ _ _ _ _ _ _ _ (own_sl og) (own_sl ok)).mono ?_
      rintro e1 w5 ⟨rfl, x⟩
      have T5 := below_next T4 x.below
      clear x T4
      go_wp2_with (go_at_call 12; refine (alive_any _).mono ?_; rintro e' w' ⟨rfl, rfl⟩)
      go_ret
      exact ⟨rfl, T5⟩
    · by_cases hbig : 30 < n
      · go_wp2_with (go_at_call 12; refine (alive_any _).mono ?_; rintro e' w' ⟨rfl, rfl⟩)
        go_ret
        exact ⟨rfl, T4⟩
      · obtain ⟨p, rfl⟩ : ∃ p, n = p + 1 := ⟨n - 1, by omega⟩
        obtain ⟨ad, e, f, a, b, s, hA, hab, c0, c1, c2, c3, c4⟩ := (own_sl oc).ac (j := p) (by omega)
        subst hA
        have hp : ((p + 1 : Nat) : Int) - 1 = (p : Int) := by omega
        have hp0 : (((p + 1 : Nat) : Int) == 0) = false := by simp; omega
        have hp1 : ((p : Int) + 1 == 0) = false := by simp; omega
        have HAB := hid hab
        have HV := hid (HOK.out _ (List.mem_of_getElem? hab))
        have LAW := hid (fun h => known_last (keys := ks) HLX.out.symm hab (by omega) h)
        clear hab
        go_wp2_with fail
        have oc := oc.alloc (.cells #[.int .i64 e, .int .i64 f, .string a, .string b, .string s] 29)
        have og := og.alloc (.cells #[.int .i64 e, .int .i64 f, .string a, .string b, .string s] 29)
        have T5 := T4.alloc T4.size (.cells #[.int .i64 e, .int .i64 f, .string a, .string b, .string s] 29)
        have h6 : (w4.alloc (.cells #[.int .i64 e, .int .i64 f, .string a, .string b, .string s] 29)).heap[w4.heap.size]? = some (.cells #[.int .i64 e, .int .i64 f, .string a, .string b, .string s] 29 (0, 0)) := alloc_new' rfl
        clear ok T4 c0 c1 c2 c3 c4
        generalize hW5 : w4.alloc (.cells #[.int .i64 e, .int .i64 f, .string a, .string b, .string s] 29) = w5 at *
        clear hW5
        refine (avalI_any e f a b s _ HV.out.1 HV.out.2.1 HV.out.2.2).mono ?_
        rintro e1 w6 ⟨rfl, x⟩
        have oc := own_ext oc x
        have og := own_ext og x
        have T6 := below_next T5 x.below
        have h6 := (x.block (Array.getElem?_eq_some_iff.1 h6).1).trans h6
        clear x T5
        cases hv : avalV e f a b s with
        | false =>
          have hz0 : kg = 0 := by
            have h1 := own_count og stC_len (by omega)
            rw [known_no (heard_not HAB.out hv)] at h1
            exact h1
          subst hz0
          go_wp2_with (go_at_call 12; refine (alive_any _).mono ?_; rintro e' w' ⟨rfl, rfl⟩)
          go_ret
          exact ⟨rfl, T6⟩
        | true =>
          clear hv
          go_wp2_with fail
          go_loopw [7, 8] (fun v i wr => ∃ k : Nat, k ≤ p + 1 ∧ i = .int .i64 k ∧ v = .bool (hvTo xs k) ∧ wr.ownsRow w.heap.size 29 5 (.slice (some ad) (p + 1) q) (p + 1) (acs xs) ∧ wr.ownsRow w.heap.size 9 1 (.slice Bg kg dg) kg (sts (knownV ks xs)) ∧ wr.heap[w4.heap.size]? = some (.cells #[.int .i64 e, .int .i64 f, .string a, .string b, .string s] 29 (0, 0)) ∧ Below w.heap.size w wr) (fun _ i _ => p + 1 - (intOf i).toNat)
          case atStart => exact ⟨0, Nat.zero_le _, rfl, rfl, oc, og, h6, T6⟩
          case round =>
            clear oc og h6 T6
            obtain ⟨k, hk, rfl, rfl, oc, og, h6, T6⟩ := hrel
            by_cases hlt : k < p + 1
            · obtain ⟨ad', e', f', a', b', s', hA, hab, c0, c1, c2, c3, c4⟩ := (own_sl oc).ac (j := k) hlt
              injection hA with hA
              subst hA
              have hV' := HOK.out _ (List.mem_of_getElem? hab)
              have N := hid (hvTo_next hab)
              have HV' := hid hV'
              clear hV' hab
              cases ht : hvTo xs k with
              | true =>
                rw [ht] at N
                go_wp2_with fail
                refine (avalI_any e' f' a' b' s' _ HV'.out.1 HV'.out.2.1 HV'.out.2.2).mono ?_
                rintro e1 w7 ⟨rfl, x⟩
                have oc := own_ext oc x
                have og := own_ext og x
                have T7 := below_next T6 x.below
                have h6 := (x.block (Array.getElem?_eq_some_iff.1 h6).1).trans h6
                clear x T6 c0 c1 c2 c3 c4
                go_wp2_with fail
                go_roundw
                case rel => exact ⟨k + 1, by omega, by go_num, by rw [N.out]; rfl, oc, og, h6, T7⟩
                case measure => simp [intOf]; omega
              | false =>
                rw [ht] at N
                go_wp2_with fail
                go_roundw
                case rel => exact ⟨k + 1, by omega, by go_num, by rw [N.out]; rfl, oc, og, h6, T6⟩
                case measure => simp [intOf]; omega
            · obtain rfl : k = p + 1 := by omega
              obtain ⟨V, hV⟩ : ∃ V, hvTo xs (p + 1) = V := ⟨_, rfl⟩
              rw [hV]
              have HVV := hid hV
              clear hV
              have hcg := (own_sl og).cap
              have hmg := (own_sl og).max
              unfold maxLen at hmg
              have hkg : kg ≤ 9223372036854775807 := Nat.le_trans hcg hmg
              clear hcg hmg
              go_wp2_with fail
              go_loopw [9, 10, 91] (fun v i u wr => ∃ k : Nat, True ∧ k ≤ kg ∧ i = .int .i64 k ∧ v = .bool (hasK ((knownV ks xs).take k) s) ∧ wr.ownsRow w.heap.size 9 1 (.slice Bg kg dg) kg (sts (knownV ks xs)) ∧ wr.heap[w4.heap.size]? = some (.cells #[.int .i64 e, .int .i64 f, .string a, .string b, .string s] 29 (0, 0)) ∧ Below w.heap.size w wr) (fun _ i _ _ => kg - (intOf i).toNat)
              case atStart => exact ⟨0, trivial, Nat.zero_le _, rfl, rfl, og, h6, T6⟩
              case round =>
                clear og h6 T6
                obtain ⟨j, _, hj, rfl, rfl, og, h6, T6⟩ := hrel
                have d0 := cell_of_row wr w4.heap.size 0 _ _ _ h6
                have d1 := cell_of_row wr w4.heap.size 1 _ _ _ h6
                have d2 := cell_of_row wr w4.heap.size 2 _ _ _ h6
                have d3 := cell_of_row wr w4.heap.size 3 _ _ _ h6
                have d4 := cell_of_row wr w4.heap.size 4 _ _ _ h6
                by_cases hjk : j < kg
                · obtain ⟨ag, y, hA2, hy, cy⟩ := (own_sl og).st hjk
                  subst hA2
                  have N := hid (hasK_more (x := s) hy)
                  clear hy
                  cases ht : hasK ((knownV ks xs).take j) s with
                  | true =>
                    rw [ht] at N
                    go_wp2_with fail
                    go_quiet (fail)
                    go_wp2_with fail
                    go_roundw
                    case rel => exact ⟨j + 1, trivial, by omega, by go_num, by rw [N.out]; rfl, own_drewN og _, h6, below_drewN T6 _⟩
                    case measure => simp [intOf]; omega
                  | false =>
                    rw [ht] at N
                    cases hq : (y.toList == s.toList)
                    all_goals
                      rw [hq] at N
                      go_wp2_with fail
                      go_quiet (fail)
                      go_wp2_with fail
                      go_roundw
                      case rel => exact ⟨j + 1, trivial, by omega, by go_num, by rw [N.out]; rfl, own_drewN og _, h6, below_drewN T6 _⟩
                      case measure => simp [intOf]; omega
                · obtain rfl : j = kg := by omega
                  have hlg := own_count og stC_len (by omega)
                  rw [List.take_of_length_le (by omega)]
                  have HLW := hid (fun h => LAW.out h)
                  clear LAW hlg
                  cases V with
                  | false =>
                    go_wp2_with fail
                    go_ret
                    exact ⟨rfl, T6⟩
                  | true =>
                    have L := HLW.out HVV.out
                    by_cases e2 : e = 2
                    · have hf := L.1 e2
                      rw [hf]
                      clear L hf
                      subst e2
                      go_wp2_with fail
                      go_ret
                      exact ⟨rfl, T6⟩
                    · by_cases e0 : e = 0
                      · have hf := L.2 e0
                        rw [hf]
                        clear L hf
                        subst e0
                        go_wp2_with fail
                        go_ret
                        exact ⟨rfl, T6⟩
                      · clear L
                        cases hasK (knownV ks xs) s
                        all_goals
                          go_wp2_with fail
                          go_ret
                          exact ⟨rfl, T6⟩
end Go.Proofs.Ytlfjnaeepblhiaa.fnKnownKeys
