/- The walk of FnTellChanges: it returns true and turns nothing that was there. -/
import Derived.Test.YtlfjnaeepblhiaaTellI
import Derived.Test.YtlfjnaeepblhiaaTellS
import Derived.Test.YtlfjnaeepblhiaaPlainTell
import Derived.Test.YtlfjnaeepblhiaaDrawTell
namespace Go.Proofs.Ytlfjnaeepblhiaa.fnTellChanges
open Go.RowKit
set_option linter.unusedVariables false
set_option linter.unusedSimpArgs false
theorem neqHd (n h m k : ByteArray) (W : World) : (binOp .neq 27 (hdA n h) (hdA m k)).run Try.prog W = .ok (.bool (!hdQ n h m k)) W := by
  have D : hdQ n h m k = ((n.toList == m.toList) && (h.toList == k.toList)) := by
    unfold hdQ
    rw [bytes_eq, bytes_eq, Bool.eq_iff_iff]; simp
  rw [D]
  rw [run_neq_struct, run_equalIn_agg _ _ _ _ _ (by kernel_rfl) (by kernel_rfl)]
  by_cases e : n.toList = m.toList <;> by_cases f : h.toList = k.toList <;> simp [go_sem, Op.eqFields, e, f]
set_option maxHeartbeats 16000000 in
set_option maxRecDepth 8000 in
theorem walk (a0 : Option Addr) (len0 cap0 : Nat) (z0 : List Int) (w : World) (w0 : Row .u8 w a0 len0 cap0 z0) :
    Calls Try.prog 7 #[.slice a0 len0 cap0] w fun e w' => e = .returned (.bool true) ∧ Below w.heap.size w w' := by
  have hmax := w0.sl.max
  have hcap := w0.sl.cap
  unfold maxLen at hmax
  by_cases hn : 1048576 < len0
  · go_enter Try.func7, Try.ntmps7
    go_wp2
    go_ret
    exact ⟨rfl, Below.refl _ _⟩
  · go_enter Try.func7, Try.ntmps7
    go_wp2_with fail
    refine (drawTell_any _ _ _ _ _ w0).mono ?_
    rintro e1 w1 ⟨a, b, mm, A, k, d, xs, C, q, e2, ys, rfl, ha, hb, hm0, hm1, oa, ob, hx, hy, hk7, hq9, T1⟩
    have ha' : a.size ≤ 9223372036854775807 := by omega
    have hb' : b.size ≤ 9223372036854775807 := by omega
    have HS := hid (And.intro ha' hb')
    have HX := hid hx
    have HY := hid hy
    have HOK := hid (tell_ok (m := mm) ha' hb' hx hy)
    clear w0 hmax hcap hn hx hy ha hb ha' hb'
    have hI : (w1.alloc (.cells #[.string a, .string b] 27)).heap[w1.heap.size]? = some (.cells #[.string a, .string b] 27 (0, 0)) := alloc_new' rfl
    have oa := oa.alloc (.cells #[.string a, .string b] 27)
    have ob := ob.alloc (.cells #[.string a, .string b] 27)
    have T2 := T1.alloc T1.size (.cells #[.string a, .string b] 27)
    have c0 := cell_of_row _ w1.heap.size 0 _ _ _ hI
    have c1 := cell_of_row _ w1.heap.size 1 _ _ _ hI
    clear T1
    go_wp2_with fail
    clear c0 c1
    generalize hW : w1.alloc (.cells #[.string a, .string b] 27) = w2 at *
    generalize hH : w1.heap.size = h at *
    clear hW hH
    have HZ2 := hid T2.size
    refine (tellI_any a b mm _ _ _ xs _ _ _ ys _ HS.out.1 HS.out.2 (own_sl oa) HX.out (own_sl ob) HY.out).mono ?_
    rintro e1 w3 ⟨G, kg, dg, rfl, og, x⟩
    have oa := own_below oa x
    have ob := own_below ob x
    replace hI := (x.block _ (Array.getElem?_eq_some_iff.1 hI).1).trans hI
    have T3 := below_next T2 x
    clear x T2
    have og := own_lower og HZ2.out
    have c0 := cell_of_row _ h 0 _ _ _ hI
    have c1 := cell_of_row _ h 1 _ _ _ hI
    go_wp2_with fail
    clear c0 c1
    refine (tellS_any a b mm _ _ _ xs _ _ _ ys _ HS.out.1 HS.out.2 (own_sl oa) HX.out (own_sl ob) HY.out).mono ?_
    rintro e1 w4 ⟨Gw, kw, dw, rfl, ow, x⟩
    have oa := own_below oa x
    have ob := own_below ob x
    have og := own_below og x
    replace hI := (x.block _ (Array.getElem?_eq_some_iff.1 hI).1).trans hI
    have T4 := below_next T3 x
    clear x T3
    go_wp2_with fail
    refine (sameActivities_any _ _ _ _ _ _ _ _ _ (own_sl og) (own_sl ow)).mono ?_
    rintro e1 w5 ⟨rfl, x⟩
    have oa := own_ext oa x
    have ob := own_ext ob x
    have og := own_ext og x
    replace hI := (x.below.block _ (Array.getElem?_eq_some_iff.1 hI).1).trans hI
    have T5 := below_next T4 x.below
    clear x T4
    clear ow
    have hz : decide (tellV a b mm xs ys = tellV a b mm xs ys) = true := by simp
    have c0 := cell_of_row _ h 0 _ _ _ hI
    have c1 := cell_of_row _ h 1 _ _ _ hI
    go_wp2_with fail
    clear c0 c1 hz
    refine (hvalI_any a b _ HS.out.1 HS.out.2).mono ?_
    rintro e1 w6 ⟨rfl, x⟩
    have oa := own_ext oa x
    have ob := own_ext ob x
    have og := own_ext og x
    replace hI := (x.below.block _ (Array.getElem?_eq_some_iff.1 hI).1).trans hI
    have T6 := below_next T5 x.below
    clear x T5
    cases hv : hvalV a b with
    | false =>
      have R : tellV a b mm xs ys = [] := tell_no1 hv
      have hz0 : kg = 0 := by have h1 := own_count og acC_len (by omega); rw [R] at h1; exact h1
      subst hz0
      go_wp2_with (go_at_call 12; refine (alive_any _).mono ?_; rintro e' w' ⟨rfl, rfl⟩)
      go_ret
      exact ⟨rfl, T6⟩
    | true =>
      have HV := hid hv
      clear hv
      by_cases hneg : mm < 0
      · have t0 : decide (mm < 0) = true := by simpa using hneg
        have R : tellV a b mm xs ys = [] := tell_no2 (inB_no (by omega))
        have hz0 : kg = 0 := by have h1 := own_count og acC_len (by omega); rw [R] at h1; exact h1
        subst hz0
        go_wp2_with (go_at_call 12; refine (alive_any _).mono ?_; rintro e' w' ⟨rfl, rfl⟩)
        go_ret
        exact ⟨rfl, T6⟩
      · have t0 : decide (mm < 0) = false := by simpa using hneg
        by_cases hbig : 1000000 < mm
        · have t1 : decide (1000000 < mm) = true := by simpa using hbig
          have R : tellV a b mm xs ys = [] := tell_no2 (inB_no (by omega))
          have hz0 : kg = 0 := by have h1 := own_count og acC_len (by omega); rw [R] at h1; exact h1
          subst hz0
          go_wp2_with (go_at_call 12; refine (alive_any _).mono ?_; rintro e' w' ⟨rfl, rfl⟩)
          go_ret
          exact ⟨rfl, T6⟩
        · have t1 : decide (1000000 < mm) = false := by simpa using hbig
          have HM := hid (show inB mm 0 1000000 = true from inB_yes ⟨by omega, by omega⟩)
          go_wp2_with fail
          refine (fdI_any _ _ _ xs _ (own_sl oa) HX.out).mono ?_
          rintro e1 w7 ⟨rfl, x⟩
          have oa := own_ext oa x
          have ob := own_ext ob x
          have og := own_ext og x
          replace hI := (x.below.block _ (Array.getElem?_eq_some_iff.1 hI).1).trans hI
          have T7 := below_next T6 x.below
          clear x T6
          cases hv : fdV xs with
          | false =>
            have R : tellV a b mm xs ys = [] := tell_no3 hv
            have hz0 : kg = 0 := by have h1 := own_count og acC_len (by omega); rw [R] at h1; exact h1
            subst hz0
            go_wp2_with (go_at_call 12; refine (alive_any _).mono ?_; rintro e' w' ⟨rfl, rfl⟩)
            go_ret
            exact ⟨rfl, T7⟩
          | true =>
            have HF := hid hv
            clear hv
            go_wp2_with fail
            refine (fdI_any _ _ _ ys _ (own_sl ob) HY.out).mono ?_
            rintro e1 w8 ⟨rfl, x⟩
            have oa := own_ext oa x
            have ob := own_ext ob x
            have og := own_ext og x
            replace hI := (x.below.block _ (Array.getElem?_eq_some_iff.1 hI).1).trans hI
            have T8 := below_next T7 x.below
            clear x T7
            cases hv : fdV ys with
            | false =>
              have R : tellV a b mm xs ys = [] := tell_no4 hv
              have hz0 : kg = 0 := by have h1 := own_count og acC_len (by omega); rw [R] at h1; exact h1
              subst hz0
              go_wp2_with (go_at_call 12; refine (alive_any _).mono ?_; rintro e' w' ⟨rfl, rfl⟩)
              go_ret
              exact ⟨rfl, T8⟩
            | true =>
              have HF2 := hid hv
              clear hv
              clear t0 t1
              have HXA := hid (fun j (e : (Value.slice A k d).ownBlock = some j) => (oa.lt j e).2)
              have HXB := hid (fun j (e : (Value.slice C q e2).ownBlock = some j) => (ob.lt j e).2)
              have HXG := hid (fun j (e : (Value.slice G kg dg).ownBlock = some j) => (og.lt j e).2)
              have HXH := hid (Array.getElem?_eq_some_iff.1 hI).1
              have HSZ := hid T8.size
              have ok := own_empty w8 9 1
              replace oa := oa.alloc (.cells #[] 9)
              replace ob := ob.alloc (.cells #[] 9)
              replace og := og.alloc (.cells #[] 9)
              replace hI := alloc_old (o := .cells #[] 9) hI
              have T9 := T8.alloc T8.size (.cells #[] 9)
              clear T8
              have HKC := hid (own_count oa imC_len (by omega))
              have hN9 : w8.heap.size ≤ (w8.alloc (.cells #[] 9)).heap.size := by simp
              go_wp2_with fail
              generalize hWW : w8.alloc (.cells #[] 9) = w9 at *
              generalize hNN : w8.heap.size = M at *
              clear hWW hNN
              go_loopw [8, 9] (fun v i wr => ∃ (j e3 : Nat) (K : Option Addr), j ≤ k ∧ i = .int .i64 j ∧ v = .slice K j e3 ∧ wr.ownsRow M 9 1 (.slice K j e3) j (sts (keysOf (xs.take j))) ∧ wr.ownsRow w.heap.size 57 4 (.slice A k d) k (ims xs) ∧ wr.ownsRow w.heap.size 57 4 (.slice C q e2) q (ims ys) ∧ wr.ownsRow w.heap.size 29 5 (.slice G kg dg) kg (acs (tellV a b mm xs ys)) ∧ wr.heap[h]? = some (.cells #[.string a, .string b] 27 (0, 0)) ∧ M ≤ wr.heap.size ∧ Below w.heap.size w wr) (fun _ i _ => k - (intOf i).toNat)
              case atStart => exact ⟨0, 0, _, Nat.zero_le _, rfl, rfl, ok, oa, ob, og, hI, hN9, T9⟩
              case round =>
                clear ok oa ob og hI hN9 T9
                obtain ⟨j, e3, K, hj, rfl, rfl, ok, oa, ob, og, hI, hN, T9⟩ := hrel
                by_cases hlt : j < k
                · obtain ⟨ad, a', b', s', f', hA, hab, c0, c1, c2, c3⟩ := (own_sl oa).im hlt
                  subst hA
                  have N := hid (keysTo_next hab)
                  clear hab c1 c2 c3
                  have okA := ok.alloc (.cells (stC a').toArray 9)
                  have oa := oa.alloc (.cells (stC a').toArray 9)
                  have ob := ob.alloc (.cells (stC a').toArray 9)
                  have og := og.alloc (.cells (stC a').toArray 9)
                  have hI := alloc_old (o := (.cells (stC a').toArray 9)) hI
                  have T9 := T9.alloc T9.size (.cells (stC a').toArray 9)
                  have HNN := hid hN
                  go_wp2_with (at_builtin; refine wpList_append_see _ rfl (.tmp 72) (.tmp 78) eltString rfl M _ j _ rfl okA (some ⟨wr.heap.size, 0, none⟩) 1 1 (stC a') rfl (see_new _ (stC a') _ _ rfl) (by simp) rfl (stC_one _) (by unfold maxLen; omega) (by omega) (Nat.le_trans HNN.out (by simp)) ?_; intro v4 w4 O4 G4 H4)
                  rw [show sts (keysOf (xs.take j)) ++ stC a' = sts (keysOf (xs.take j) ++ [a']) by simp [flat], ← N.out] at O4
                  replace oa := own_stay oa okA HXA.out G4
                  replace ob := own_stay ob okA HXB.out G4
                  replace og := own_stay og okA HXG.out G4
                  replace hI := (G4.block _ (Array.getElem?_eq_some_iff.1 hI).1 (fun e => by have := (okA.lt _ e.symm).1; have := HXH.out; omega)).trans hI
                  replace T9 := T9.grown G4 T9.size (fun p hp => by have := (okA.lt p hp).1; have := HSZ.out; omega)
                  have hN4 : M ≤ w4.heap.size := Nat.le_trans HNN.out (Nat.le_trans (by simp) G4.size)
                  obtain ⟨B4, d4, rfl, _⟩ := own_form O4
                  clear okA ok G4 H4 c0
                  go_wp2_with fail
                  go_roundw
                  case rel => exact ⟨j + 1, d4, B4, by omega, by go_num, rfl, O4, oa, ob, og, hI, hN4, T9⟩
                  case measure => simp [intOf]; omega
                · have hje : j = k := by omega
                  have t0 : decide ((j : Int) < (k : Int)) = false := by simp; omega
                  rw [show xs.take j = xs by rw [hje, HKC.out, List.take_length]] at ok
                  have hj7 : j ≤ 1048576 := by omega
                  clear hje HXA HXB HXG HXH oa hN
                  have okw := own_lower ok HSZ.out
                  clear ok
                  go_wp2_with fail
                  clear t0 hlt
                  have HLG := hid (own_count og acC_len (by omega))
                  have hg24 : kg ≤ 24 := by have h1 := HLG.out; rw [tell_yes HV.out HM.out HF.out HF2.out, numT_len] at h1; have := told_len (xs := xs) (ys := ys); omega
                  go_loopw [10] (fun i wr => ∃ p : Nat, p ≤ kg ∧ i = .int .i64 p ∧ wr.ownsRow w.heap.size 9 1 (.slice K j e3) j (sts (keysOf xs)) ∧ wr.ownsRow w.heap.size 57 4 (.slice C q e2) q (ims ys) ∧ wr.ownsRow w.heap.size 29 5 (.slice G kg dg) kg (acs (tellV a b mm xs ys)) ∧ wr.heap[h]? = some (.cells #[.string a, .string b] 27 (0, 0)) ∧ Below w.heap.size w wr) (fun i _ => kg - (intOf i).toNat)
                  case atStart => exact ⟨0, Nat.zero_le _, rfl, okw, ob, og, hI, T9⟩
                  case round =>
                    clear okw ob og hI T9
                    obtain ⟨p, hp, rfl, ok, ob, og, hI, T9⟩ := hrel
                    by_cases hlt : p < kg
                    · obtain ⟨ad, e, f, a', b', s, hA, hab, c0, c1, c2, c3, c4⟩ := (own_sl og).ac (j := p) hlt
                      subst hA
                      obtain ⟨hv, hf, h3, h4⟩ := tell_at HV.out HM.out HF.out HF2.out hab
                      have hs := (HOK.out _ (List.mem_of_getElem? hab)).2.2
                      simp only at hf h3 h4 hs
                      unfold acVal at hv
                      simp only at hv
                      subst hf h3 h4
                      have CA := fun W => avalI_any e (mm + p) a' b' s W HS.out.1 HS.out.2 hs
                      rw [hv] at CA
                      have hN := fun W => neqHd a' b' a' b' W
                      rw [hdQ_yes] at hN
                      have d0 := cell_of_row _ h 0 _ _ _ hI
                      have d1 := cell_of_row _ h 1 _ _ _ hI
                      replace c0 := more_cell c0
                      replace c1 := more_cell c1
                      replace c2 := more_cell c2
                      replace c3 := more_cell c3
                      replace c4 := more_cell c4
                      replace d0 := more_cell d0
                      replace d1 := more_cell d1
                      clear hab hv hs
                      have hmp : -9223372036854775808 ≤ mm + (p : Int) ∧ mm + (p : Int) ≤ 9223372036854775807 := by omega
                      go_wp2_with fail
                      refine wp_region_more (by kernel_rfl) (by kernel_rfl) ?_
                      repeat (go_big_quiet_step (first | exact more_of (CA _) | fail))
                      refine wpQuiet_nil ?_
                      rintro _ ⟨z, rfl⟩
                      have x : Ext.of wr (More wr z) := ⟨z, rfl⟩
                      have ok := own_ext ok x
                      have ob := own_ext ob x
                      have og := own_ext og x
                      replace hI := (x.below.block _ (Array.getElem?_eq_some_iff.1 hI).1).trans hI
                      have T10 := below_next T9 x.below
                      clear x T9 c0 c1 c2 c3 c4 d0 d1 CA hN
                      go_wp2_with fail
                      go_roundw
                      case rel => exact ⟨p + 1, by omega, by go_num, ok, ob, og, hI, T10⟩
                      case measure => simp [intOf]; omega
                    · have t0 : decide ((p : Int) < (kg : Int)) = false := by simp; omega
                      go_wp2_with fail
                      clear t0
                      refine (knownI_any _ _ _ (keysOf xs) _ _ _ (tellV a b mm xs ys) _ (own_sl ok) (own_sl og) HOK.out hj7).mono ?_
                      rintro e1 w11 ⟨Kn, kn, dn, rfl, on, x⟩
                      have on := own_lower on T9.size
                      have ob := own_below ob x
                      have T10 := below_next T9 x
                      clear x T9 ok og hI
                      have HLN := hid (own_count on stC_len (by omega))
                      have HLY := hid (own_count ob imC_len (by omega))
                      have hkn : kn = q := by have h1 := HLN.out; have h2 := HLY.out; rw [tell_len HV.out HM.out HF.out HF2.out] at h1; omega
                      have HTI := hid (fun (j : Nat) (s : ByteArray) (hs : (knownV (keysOf xs) (tellV a b mm xs ys))[j]? = some s) => tell_iw HV.out HM.out HF.out HF2.out hs)
                      clear HLN HLY
                      generalize knownV (keysOf xs) (tellV a b mm xs ys) = kl at *
                      go_wp2_with fail
                      go_loopw [12] (fun i wr => ∃ p : Nat, p ≤ kn ∧ i = .int .i64 p ∧ wr.ownsRow w.heap.size 9 1 (.slice Kn kn dn) kn (sts kl) ∧ wr.ownsRow w.heap.size 57 4 (.slice C q e2) q (ims ys) ∧ Below w.heap.size w wr) (fun i _ => kn - (intOf i).toNat)
                      case atStart => exact ⟨0, Nat.zero_le _, rfl, on, ob, T10⟩
                      case round =>
                        clear on ob T10
                        obtain ⟨p2, hp2, rfl, on, ob, T10⟩ := hrel
                        by_cases hlt2 : p2 < kn
                        · obtain ⟨ad, s, hA, hs, c0⟩ := (own_sl on).st (j := p2) hlt2
                          subst hA
                          have HT := hid (HTI.out _ _ hs)
                          clear hs
                          go_wp2_with fail
                          refine (iwI_any _ _ _ ys s _ (own_sl ob) HY.out).mono ?_
                          rintro e1 w12 ⟨hres, x⟩
                          have on := own_ext on x
                          have ob := own_ext ob x
                          have T11 := below_next T10 x.below
                          clear x T10 c0
                          unfold ImRes at hres
                          subst hres
                          have ht := HT.out
                          clear HT
                          generalize iwV ys s = v at *
                          obtain ⟨⟨a', b', s', f'⟩, ok⟩ := v
                          simp only at ht
                          subst ht
                          have on := on.alloc (.cells #[.string a', .string b', .string s', .int .i64 f'] 57)
                          have ob := ob.alloc (.cells #[.string a', .string b', .string s', .int .i64 f'] 57)
                          have T12 := T11.alloc T11.size (.cells #[.string a', .string b', .string s', .int .i64 f'] 57)
                          clear T11
                          go_wp2_with fail
                          go_roundw
                          case rel => exact ⟨p2 + 1, by omega, by go_num, on, ob, T12⟩
                          case measure => simp [intOf]; omega
                        · have t0 : decide ((p2 : Int) < (kn : Int)) = false := by simp; omega
                          subst hkn
                          go_wp2_with fail
                          go_ret
                          exact ⟨rfl, T10⟩
end Go.Proofs.Ytlfjnaeepblhiaa.fnTellChanges
