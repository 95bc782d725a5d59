/- The walk of FnExactKnownKeys: it returns true and turns nothing that was there. -/
import Derived.Test.YtlfjnaeepblhiaaKnownS
namespace Go.Proofs.Ytlfjnaeepblhiaa.fnExactKnownKeys
open Go.RowKit
set_option linter.unusedVariables false
set_option linter.unusedSimpArgs false
theorem szStringS_sum (A : Option Addr) (n c : Nat) (xs : List St) (l : Int) (w : World) (h : Sl w A n c 1 (sts xs)) (h0 : 0 ≤ l) (h1 : l ≤ 1048576) (hx : stOk xs) :
    Calls Try.prog 22 #[.slice A n c, .int .i64 l] w fun e w' => ∃ r : Int, e = .returned (.int .i64 r) ∧ -1 ≤ r ∧ r ≤ l ∧ (0 ≤ r → r + n ≤ l) ∧ Ext.of w w' := by
  have hmx := h.max
  have hcx := h.cap
  unfold maxLen at hmx
  by_cases hn : l - n < 0
  · go_enter Try.func22, Try.ntmps22
    go_wp2
    go_ret
    exact ⟨_, rfl, by omega, by omega, fun h => by omega, Ext.of.refl _⟩
  · have hn' : (n : Int) ≤ l := by omega
    go_enter Try.func22, Try.ntmps22
    go_wp2
    go_loopw [1, 5] (fun q i wr => ∃ (k : Nat) (r : Int), k ≤ n ∧ i = .int .i64 k ∧ q = .int .i64 r ∧ 0 ≤ r ∧ r + n ≤ l ∧ Ext.of w wr) (fun _ i _ => n - (intOf i).toNat)
    case atStart => exact ⟨0, _, Nat.zero_le _, rfl, rfl, by omega, by omega, Ext.of.refl _⟩
    case round =>
      obtain ⟨k, r, hk, rfl, rfl, r0, r1, hE⟩ := hrel
      by_cases hlt : k < n
      · obtain ⟨ad, a, rfl, hab, c0⟩ := (h.ext hE).st hlt
        have hs := hx _ (List.mem_of_getElem? hab)
        clear hab
        have HS := hid hs; clear hs
        have hsz := HS.out
        by_cases hr : r - a.size < 0
        · go_wp2
          go_ret
          exact ⟨_, rfl, by omega, by omega, fun h => by omega, hE⟩
        · go_wp2
          go_roundw
          case rel => exact ⟨k + 1, _, by omega, by go_num, rfl, by omega, by omega, hE⟩
          case measure => simp [intOf]; omega
      · obtain rfl : k = n := by omega
        go_wp2
        go_ret
        exact ⟨_, rfl, by omega, by omega, fun _ => by omega, hE⟩
theorem kStep_len (ks : List St) (x : Ac) : (kStep ks x).length ≤ ks.length + 1 := by
  unfold kStep delK
  split
  · exact Nat.le_succ_of_le (List.length_filter_le _ _)
  · split
    · split <;> simp
    · simp
theorem fold_len : ∀ (xs : List Ac) (ks : List St), (xs.foldl kStep ks).length ≤ ks.length + xs.length
  | [], ks => by simp
  | x :: xs, ks => by
    have h1 := fold_len xs (kStep ks x)
    have h2 := kStep_len ks x
    simp only [List.foldl_cons, List.length_cons]
    omega
theorem knownV_len (ks : List St) (xs : List Ac) : (knownV ks xs).length ≤ ks.length + xs.length := by
  unfold knownV
  split
  · exact fold_len xs ks
  · simp
set_option maxHeartbeats 2000000 in
set_option maxRecDepth 100000 in
theorem walk (a0 : Option Addr) (len0 cap0 : Nat) (z0 : List St) (a1 : Option Addr) (len1 cap1 : Nat) (z1 : List Ac) (w : World) (w0 : Sl w a0 len0 cap0 1 (sts z0) ∧ stOk z0) (w1 : Sl w a1 len1 cap1 5 (acs z1) ∧ acOk z1) :
    Calls Try.prog 6 #[.slice a0 len0 cap0, .slice a1 len1 cap1] w fun e w' => e = .returned (.bool true) ∧ Below w.heap.size w w' := by
  obtain ⟨S0, hok0⟩ := w0
  have HOK0 := hid hok0
  clear hok0
  obtain ⟨S1, hok1⟩ := w1
  have HOK1 := hid hok1
  clear hok1
  have hl0 : z0.length = len0 := S0.count stC_len (by omega)
  have hl1 : z1.length = len1 := S1.count acC_len (by omega)
  have HL := hid (And.intro hl0 hl1)
  clear hl0 hl1
  have T0 := Below.refl w.heap.size w
  go_enter Try.func6, Try.ntmps6
  go_wp2_with fail
  refine (szStringS_sum _ _ _ z0 1048576 _ (S0.below T0) (by omega) (by omega) HOK0.out).mono ?_
  rintro e y1 ⟨r0, rfl, r00, r01, r02, x⟩
  have T1 := below_next T0 x.below
  clear x T0
  by_cases hr0 : r0 < 0
  · clear r02
    go_wp2_with fail
    go_ret
    exact ⟨rfl, T1⟩
  · have hs0 : r0 + len0 ≤ 1048576 := r02 (by omega)
    have hn0 : len0 ≤ 1048576 := by omega
    clear r02
    go_wp2_with fail
    refine (szActivityS_any _ _ _ z1 r0 _ (S1.below T1) (by omega) (by omega) HOK1.out).mono ?_
    rintro e y2 ⟨r1, rfl, r10, r11, r12, x⟩
    have T2 := below_next T1 x.below
    clear x T1
    by_cases hr1 : r1 < 0
    · clear r12
      go_wp2_with fail
      go_ret
      exact ⟨rfl, T2⟩
    · have hs1 : len1 + len0 ≤ 1048576 := by have := r12 (by omega); omega
      have hn1 : len1 ≤ 1048576 := by omega
      have HQ := hid (show (knownV z0 z1).length ≤ 1048576 by have h1 := knownV_len z0 z1; rw [HL.out.1, HL.out.2] at h1; omega)
      clear r12 hs1 hs0
      go_wp2_with fail
      refine (toStringS_any _ _ _ z0 _ (S0.below T2) hn0).mono ?_
      rintro e y3 ⟨rfl, oa, b⟩
      have oa := own_lower oa T2.size
      have T3 := below_next T2 b
      clear b T2
      go_wp2_with fail
      refine (toActivityS_any _ _ _ z1 _ (S1.below T3) hn1).mono ?_
      rintro e y4 ⟨rfl, ob, b⟩
      have ob := own_lower ob T3.size
      have oa := own_below oa b
      have T4 := below_next T3 b
      clear b T3
      go_wp2_with fail
      refine (knownS_any _ _ _ z0 _ _ _ z1 _ (own_sl oa) (own_sl ob) HOK1.out hn0).mono ?_
      rintro e y5 ⟨Bw, kw, dw, rfl, ow, b⟩
      have ow := own_lower ow T4.size
      have oa := own_below oa b
      have ob := own_below ob b
      have T5 := below_next T4 b
      clear b T4
      clear oa ob
      go_wp2_with fail
      refine (toStringS_any _ _ _ z0 _ (S0.below T5) hn0).mono ?_
      rintro e y6 ⟨rfl, ox, b⟩
      have P_ow_ox := hid (own_apart ow ox (Nat.le_refl _))
      have ox := own_lower ox T5.size
      have ow := own_below ow b
      have T6 := below_next T5 b
      clear b T5
      go_wp2_with fail
      refine (toActivityS_any _ _ _ z1 _ (S1.below T6) hn1).mono ?_
      rintro e y7 ⟨rfl, ol, b⟩
      have P_ow_ol := hid (own_apart ow ol (Nat.le_refl _))
      have P_ol_ox := hid (own_apart' ox ol (Nat.le_refl _))
      have ol := own_lower ol T6.size
      have ow := own_below ow b
      have ox := own_below ox b
      have T7 := below_next T6 b
      clear b T6
      go_wp2_with fail
      refine (knownI_any _ _ _ z0 _ _ _ z1 _ (own_sl ox) (own_sl ol) HOK1.out hn0).mono ?_
      rintro e y8 ⟨Bg, kg, dg, rfl, og, b⟩
      have P_ow_og := hid (own_apart ow og (Nat.le_refl _))
      have P_og_ox := hid (own_apart' ox og (Nat.le_refl _))
      have P_og_ol := hid (own_apart' ol og (Nat.le_refl _))
      have og := own_lower og T7.size
      have ow := own_below ow b
      have ox := own_below ox b
      have ol := own_below ol b
      have T8 := below_next T7 b
      clear b T7
      go_wp2_with fail
      refine (eqStringS_any _ _ _ _ _ _ _ _ _ (own_sl og) (own_sl ow)).mono ?_
      rintro e y9 ⟨rfl, x⟩
      have ow := own_ext ow x
      have ox := own_ext ox x
      have ol := own_ext ol x
      have og := own_ext og x
      have T9 := below_next T8 x.below
      clear x T8
      go_wp2_with fail
      refine (toStringS_any _ _ _ z0 _ (S0.below T9) hn0).mono ?_
      rintro e y10 ⟨rfl, oa, b⟩
      have oa := own_lower oa T9.size
      have ow := own_below ow b
      have ox := own_below ox b
      have ol := own_below ol b
      have og := own_below og b
      have T10 := below_next T9 b
      clear b T9
      go_wp2_with fail
      refine (eqStringS_any _ _ _ _ _ _ _ _ _ (own_sl ox) (own_sl oa)).mono ?_
      rintro e y11 ⟨rfl, x⟩
      have ow := own_ext ow x
      have ox := own_ext ox x
      have ol := own_ext ol x
      have og := own_ext og x
      have oa := own_ext oa x
      have T11 := below_next T10 x.below
      clear x T10
      clear oa
      go_wp2_with fail
      refine (toActivityS_any _ _ _ z1 _ (S1.below T11) hn1).mono ?_
      rintro e y12 ⟨rfl, oa, b⟩
      have oa := own_lower oa T11.size
      have ow := own_below ow b
      have ox := own_below ox b
      have ol := own_below ol b
      have og := own_below og b
      have T12 := below_next T11 b
      clear b T11
      go_wp2_with fail
      refine (eqActivityS_any _ _ _ _ _ _ _ _ _ (own_sl ol) (own_sl oa)).mono ?_
      rintro e y13 ⟨rfl, x⟩
      have ow := own_ext ow x
      have ox := own_ext ox x
      have ol := own_ext ol x
      have og := own_ext og x
      have oa := own_ext oa x
      have T13 := below_next T12 x.below
      clear x T12
      clear oa
      go_wp2_with fail
      refine (markStringS_any _ _ _ _ 1 rfl _ _ _ ox hn0 (by omega) (by omega)).mono ?_
      rintro e y14 ⟨rfl, ox, g⟩
      have ow := ow.kept g P_ow_ox.out
      have ol := ol.kept g P_ol_ox.out
      have og := og.kept g P_og_ox.out
      have T14 := T13.grown g T13.size (fun k hk => (ox.lt k hk).1)
      clear g T13
      clear ox
      go_wp2_with fail
      refine (markActivityS_any _ _ _ _ (1 + len0) (by push_cast; rfl) _ _ _ ol hn1 (by omega) (by omega)).mono ?_
      rintro e y15 ⟨rfl, ol, g⟩
      have ow := ow.kept g P_ow_ol.out
      have og := og.kept g P_og_ol.out
      have T15 := T14.grown g T14.size (fun k hk => (ol.lt k hk).1)
      clear g T14
      clear ol
      go_wp2_with fail
      refine (eqStringS_any _ _ _ _ _ _ _ _ _ (own_sl og) (own_sl ow)).mono ?_
      rintro e y16 ⟨rfl, x⟩
      have ow := own_ext ow x
      have og := own_ext og x
      have T16 := below_next T15 x.below
      clear x T15
      have hk : kg ≤ 1048576 := by have h1 := own_count og stC_len (by omega); have h2 := HQ.out; omega
      go_wp2_with fail
      refine (markStringS_any _ _ _ _ 1 rfl _ _ _ og hk (by omega) (by omega)).mono ?_
      rintro e y17 ⟨rfl, og, g⟩
      have ow := ow.kept g P_ow_og.out
      have T17 := T16.grown g T16.size (fun k hk => (og.lt k hk).1)
      clear g T16
      go_wp2_with fail
      refine (heldStringS_any _ _ _ _ 1 rfl _ (own_sl og) hk (by omega) (by omega)).mono ?_
      rintro e y18 ⟨rfl, x⟩
      have ow := own_ext ow x
      have og := own_ext og x
      have T18 := below_next T17 x.below
      clear x T17
      go_wp2_with fail
      refine (toStringS_any _ _ _ z0 _ (S0.below T18) hn0).mono ?_
      rintro e y19 ⟨rfl, oa, b⟩
      have oa := own_lower oa T18.size
      have ow := own_below ow b
      have og := own_below og b
      have T19 := below_next T18 b
      clear b T18
      go_wp2_with fail
      refine (toActivityS_any _ _ _ z1 _ (S1.below T19) hn1).mono ?_
      rintro e y20 ⟨rfl, ob, b⟩
      have ob := own_lower ob T19.size
      have ow := own_below ow b
      have og := own_below og b
      have oa := own_below oa b
      have T20 := below_next T19 b
      clear b T19
      go_wp2_with fail
      refine (knownI_any _ _ _ z0 _ _ _ z1 _ (own_sl oa) (own_sl ob) HOK1.out hn0).mono ?_
      rintro e y21 ⟨Bh, kh, dh, rfl, oh, b⟩
      have oh := own_lower oh T20.size
      have ow := own_below ow b
      have og := own_below og b
      have oa := own_below oa b
      have ob := own_below ob b
      have T21 := below_next T20 b
      clear b T20
      clear oa ob
      go_wp2_with fail
      refine (eqStringS_any _ _ _ _ _ _ _ _ _ (own_sl oh) (own_sl ow)).mono ?_
      rintro e y22 ⟨rfl, x⟩
      have ow := own_ext ow x
      have og := own_ext og x
      have oh := own_ext oh x
      have T22 := below_next T21 x.below
      clear x T21
      clear oh ow
      go_wp2_with fail
      refine (heldStringS_any _ _ _ _ 1 rfl _ (own_sl og) hk (by omega) (by omega)).mono ?_
      rintro e y23 ⟨rfl, x⟩
      have og := own_ext og x
      have T23 := below_next T22 x.below
      clear x T22
      go_wp2_with fail
      go_ret
      exact ⟨rfl, T23⟩
end Go.Proofs.Ytlfjnaeepblhiaa.fnExactKnownKeys
