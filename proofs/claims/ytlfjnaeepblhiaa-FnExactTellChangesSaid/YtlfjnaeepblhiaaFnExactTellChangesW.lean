/- The walk of FnExactTellChanges: it returns true and turns nothing that was there. -/
import Derived.Test.YtlfjnaeepblhiaaTellI
import Derived.Test.YtlfjnaeepblhiaaTellS
namespace Go.Proofs.Ytlfjnaeepblhiaa.fnExactTellChanges
open Go.RowKit
set_option linter.unusedVariables false
set_option linter.unusedSimpArgs false
abbrev hdC (x : ByteArray × ByteArray) : List Value := [.string x.1, .string x.2]
theorem tellV_len (a b : ByteArray) (m : Int) (xs ys : List Im) : (tellV a b m xs ys).length ≤ 24 := by
  unfold tellV
  split
  · rw [numT_len, told_parts]
    have h1 : (keysOf (newV xs ys)).length ≤ 8 := by unfold keysOf; rw [List.length_map]; exact new_le
    have h2 : (keysOf (chV xs ys)).length ≤ 8 := by unfold keysOf; rw [List.length_map]; exact ch_le
    have h3 : (goneV xs ys).length ≤ 8 := gone_le
    unfold ofKind
    rw [List.length_append, List.length_append]
    have e1 : ∀ (k : Int) (l : List ByteArray), (l.map fun s => (k, s)).length = l.length := fun k l => by simp
    rw [e1, e1, e1]
    omega
  · simp
set_option maxHeartbeats 4000000 in
set_option maxRecDepth 100000 in
theorem walk (c00 c01 : ByteArray) (a1 : Int) (a2 : Option Addr) (len2 cap2 : Nat) (z2 : List Im) (a3 : Option Addr) (len3 cap3 : Nat) (z3 : List Im) (w : World) (w0 : c00.size ≤ 9223372036854775807 ∧ c01.size ≤ 9223372036854775807) (w1 : (Lit.int .i64 a1).wf = true) (w2 : Sl w a2 len2 cap2 4 (ims z2) ∧ imOk z2) (w3 : Sl w a3 len3 cap3 4 (ims z3) ∧ imOk z3) :
    Calls Try.prog 8 #[hdA c00 c01, .int .i64 a1, .slice a2 len2 cap2, .slice a3 len3 cap3] w fun e w' => e = .returned (.bool true) ∧ Below w.heap.size w w' := by
  obtain ⟨S2, hok2⟩ := w2
  obtain ⟨S3, hok3⟩ := w3
  have HOK2 := hid hok2
  have HOK3 := hid hok3
  have HS0 := hid w0
  clear hok2 hok3 w1 w0
  have B0 : Below w.heap.size w (w.alloc (.cells #[.string c00, .string c01] 60)) := (Below.refl _ _).alloc (Nat.le_refl _) _
  have bx0 : (w.alloc (.cells #[.string c00, .string c01] 60)).cell? ⟨w.heap.size, 0, none⟩ = some (.string c00) := cell_of_row _ w.heap.size 0 _ _ _ (alloc_new' rfl)
  have bx1 : (w.alloc (.cells #[.string c00, .string c01] 60)).cell? ⟨w.heap.size, 1, none⟩ = some (.string c01) := cell_of_row _ w.heap.size 1 _ _ _ (alloc_new' rfl)
  have S2 := S2.below B0
  have S3 := S3.below B0
  have hRL := tellV_len c00 c01 a1 z2 z3
  have HRL := hid hRL
  clear hRL
  go_enter Try.func8, Try.ntmps8
  go_wp2_with fail
  generalize hV0 : w.alloc (.cells #[.string c00, .string c01] 60) = V0 at *
  clear hV0
  have HLT := hid (World.block_lt_of_cell? V0 _ bx0)
  have HBX0 := hid bx0
  have HBX1 := hid bx1
  clear bx0 bx1
  have T0 := Below.refl V0.heap.size V0
  refine (szHandle_any _ _ 1048576 (by omega) (by omega) _ HS0.out.1 HS0.out.2).mono ?_
  rintro e v0 ⟨r0, rfl, r00, r01, x⟩
  have T1 := below_next T0 x.below
  clear x T0
  by_cases hr0 : r0 < 0
  · go_wp2_with fail
    go_ret
    exact ⟨rfl, B0.trans (T1.mono B0.size)⟩
  · have hr0' : 0 ≤ r0 := by omega
    go_wp2_with fail
    refine (szItemS_any _ _ _ z2 r0 _ (S2.below T1) (by omega) (by omega) HOK2.out).mono ?_
    rintro e v2 ⟨r2, rfl, r20, r21, r22, x⟩
    have T2 := below_next T1 x.below
    clear x T1
    by_cases hr2 : r2 < 0
    · clear r22
      go_wp2_with fail
      go_ret
      exact ⟨rfl, B0.trans (T2.mono B0.size)⟩
    · have hn2 : len2 ≤ 1048576 := by have := r22 (by omega); omega
      clear r22
      go_wp2_with fail
      refine (szItemS_any _ _ _ z3 r2 _ (S3.below T2) (by omega) (by omega) HOK3.out).mono ?_
      rintro e v3 ⟨r3, rfl, r30, r31, r32, x⟩
      have T3 := below_next T2 x.below
      clear x T2
      by_cases hr3 : r3 < 0
      · clear r32
        go_wp2_with fail
        go_ret
        exact ⟨rfl, B0.trans (T3.mono B0.size)⟩
      · have hn3 : len3 ≤ 1048576 := by have := r32 (by omega); omega
        clear r32
        have bx0 := (T3.cell (p := ⟨w.heap.size, 0, none⟩) HLT.out).trans HBX0.out
        have bx1 := (T3.cell (p := ⟨w.heap.size, 1, none⟩) HLT.out).trans HBX1.out
        go_wp2_with fail
        clear bx0 bx1
        refine (toHandle_any _ _ _).mono ?_
        rintro e y ⟨rfl, x⟩
        have T4 := below_next T3 x.below
        clear x T3
        go_wp2_with fail
        refine (toItemS_any _ _ _ z2 _ (S2.below T4) hn2).mono ?_
        rintro e y ⟨rfl, oa, b⟩
        have oa := own_lower oa T4.size
        have T5 := below_next T4 b
        clear b T4
        go_wp2_with fail
        refine (toItemS_any _ _ _ z3 _ (S3.below T5) hn3).mono ?_
        rintro e y ⟨rfl, ob, b⟩
        have ob := own_lower ob T5.size
        have oa := own_below oa b
        have T6 := below_next T5 b
        clear b T5
        go_wp2_with fail
        refine (tellS_any c00 c01 a1 _ _ _ z2 _ _ _ z3 _ HS0.out.1 HS0.out.2 (own_sl oa) HOK2.out (own_sl ob) HOK3.out).mono ?_
        rintro e y ⟨Bw, kw, dw, rfl, ow, b⟩
        have ow := own_lower ow T6.size
        have oa := own_below oa b
        have ob := own_below ob b
        have T7 := below_next T6 b
        clear b T6
        clear oa ob
        go_wp2_with fail
        refine (toItemS_any _ _ _ z2 _ (S2.below T7) hn2).mono ?_
        rintro e y ⟨rfl, ox, b⟩
        have P_ow_ox := hid (own_apart ow ox (Nat.le_refl _))
        have ox := own_lower ox T7.size
        have ow := own_below ow b
        have T8 := below_next T7 b
        clear b T7
        go_wp2_with fail
        refine (toItemS_any _ _ _ z3 _ (S3.below T8) hn3).mono ?_
        rintro e y ⟨rfl, ol, b⟩
        have P_ow_ol := hid (own_apart ow ol (Nat.le_refl _))
        have P_ol_ox := hid (own_apart' ox ol (Nat.le_refl _))
        have ol := own_lower ol T8.size
        have ow := own_below ow b
        have ox := own_below ox b
        have T9 := below_next T8 b
        clear b T8
        have bx0 := (T9.cell (p := ⟨w.heap.size, 0, none⟩) HLT.out).trans HBX0.out
        have bx1 := (T9.cell (p := ⟨w.heap.size, 1, none⟩) HLT.out).trans HBX1.out
        go_wp2_with fail
        clear bx0 bx1
        refine (toHandle_any _ _ _).mono ?_
        rintro e y ⟨rfl, x⟩
        have ow := own_ext ow x
        have ox := own_ext ox x
        have ol := own_ext ol x
        have T10 := below_next T9 x.below
        clear x T9
        go_wp2_with fail
        refine (tellI_any c00 c01 a1 _ _ _ z2 _ _ _ z3 _ HS0.out.1 HS0.out.2 (own_sl ox) HOK2.out (own_sl ol) HOK3.out).mono ?_
        rintro e y ⟨Bg, kg, dg, rfl, og, b⟩
        have P_ow_og := hid (own_apart ow og (Nat.le_refl _))
        have P_og_ox := hid (own_apart' ox og (Nat.le_refl _))
        have P_og_ol := hid (own_apart' ol og (Nat.le_refl _))
        have og := own_lower og T10.size
        have ow := own_below ow b
        have ox := own_below ox b
        have ol := own_below ol b
        have T11 := below_next T10 b
        clear b T10
        go_wp2_with fail
        refine (eqActivityS_any _ _ _ _ _ _ _ _ _ (own_sl og) (own_sl ow)).mono ?_
        rintro e y ⟨rfl, x⟩
        have ow := own_ext ow x
        have ox := own_ext ox x
        have ol := own_ext ol x
        have og := own_ext og x
        have T12 := below_next T11 x.below
        clear x T11
        go_wp2_with fail
        refine (toItemS_any _ _ _ z2 _ (S2.below T12) hn2).mono ?_
        rintro e y ⟨rfl, oa, b⟩
        have oa := own_lower oa T12.size
        have ow := own_below ow b
        have ox := own_below ox b
        have ol := own_below ol b
        have og := own_below og b
        have T13 := below_next T12 b
        clear b T12
        go_wp2_with fail
        refine (eqItemS_any _ _ _ _ _ _ _ _ _ (own_sl ox) (own_sl oa)).mono ?_
        rintro e y ⟨rfl, x⟩
        have ow := own_ext ow x
        have ox := own_ext ox x
        have ol := own_ext ol x
        have og := own_ext og x
        have oa := own_ext oa x
        have T14 := below_next T13 x.below
        clear x T13
        clear oa
        go_wp2_with fail
        refine (toItemS_any _ _ _ z3 _ (S3.below T14) hn3).mono ?_
        rintro e y ⟨rfl, oa, b⟩
        have oa := own_lower oa T14.size
        have ow := own_below ow b
        have ox := own_below ox b
        have ol := own_below ol b
        have og := own_below og b
        have T15 := below_next T14 b
        clear b T14
        go_wp2_with fail
        refine (eqItemS_any _ _ _ _ _ _ _ _ _ (own_sl ol) (own_sl oa)).mono ?_
        rintro e y ⟨rfl, x⟩
        have ow := own_ext ow x
        have ox := own_ext ox x
        have ol := own_ext ol x
        have og := own_ext og x
        have oa := own_ext oa x
        have T16 := below_next T15 x.below
        clear x T15
        clear oa
        go_wp2_with fail
        refine (markItemS_any _ _ _ _ 1 rfl _ _ _ ox hn2 (by omega) (by omega)).mono ?_
        rintro e y ⟨rfl, ox, g⟩
        have ow := ow.kept g P_ow_ox.out
        have ol := ol.kept g P_ol_ox.out
        have og := og.kept g P_og_ox.out
        have T17 := T16.grown g T16.size (fun k hk => (ox.lt k hk).1)
        clear g T16
        clear ox
        go_wp2_with fail
        refine (markItemS_any _ _ _ _ (1 + len2 * 4) (by push_cast; rfl) _ _ _ ol hn3 (by omega) (by omega)).mono ?_
        rintro e y ⟨rfl, ol, g⟩
        have ow := ow.kept g P_ow_ol.out
        have og := og.kept g P_og_ol.out
        have T18 := T17.grown g T17.size (fun k hk => (ol.lt k hk).1)
        clear g T17
        clear ol
        go_wp2_with fail
        refine (eqActivityS_any _ _ _ _ _ _ _ _ _ (own_sl og) (own_sl ow)).mono ?_
        rintro e y ⟨rfl, x⟩
        have ow := own_ext ow x
        have og := own_ext og x
        have T19 := below_next T18 x.below
        clear x T18
        have hk : kg ≤ 1048576 := by have h1 := own_count og acC_len (by omega); have h2 := HRL.out; omega
        go_wp2_with fail
        refine (markActivityS_any _ _ _ _ 1 rfl _ _ _ og hk (by omega) (by omega)).mono ?_
        rintro e y ⟨rfl, og, g⟩
        have ow := ow.kept g P_ow_og.out
        have T20 := T19.grown g T19.size (fun k hk => (og.lt k hk).1)
        clear g T19
        go_wp2_with fail
        refine (heldActivityS_any _ _ _ _ 1 rfl _ (own_sl og) hk (by omega) (by omega)).mono ?_
        rintro e y ⟨rfl, x⟩
        have ow := own_ext ow x
        have og := own_ext og x
        have T21 := below_next T20 x.below
        clear x T20
        have bx0 := (T21.cell (p := ⟨w.heap.size, 0, none⟩) HLT.out).trans HBX0.out
        have bx1 := (T21.cell (p := ⟨w.heap.size, 1, none⟩) HLT.out).trans HBX1.out
        go_wp2_with fail
        clear bx0 bx1
        refine (toHandle_any _ _ _).mono ?_
        rintro e y ⟨rfl, x⟩
        have ow := own_ext ow x
        have og := own_ext og x
        have T22 := below_next T21 x.below
        clear x T21
        go_wp2_with fail
        refine (toItemS_any _ _ _ z2 _ (S2.below T22) hn2).mono ?_
        rintro e y ⟨rfl, oa, b⟩
        have oa := own_lower oa T22.size
        have ow := own_below ow b
        have og := own_below og b
        have T23 := below_next T22 b
        clear b T22
        go_wp2_with fail
        refine (toItemS_any _ _ _ z3 _ (S3.below T23) hn3).mono ?_
        rintro e y ⟨rfl, ob, b⟩
        have ob := own_lower ob T23.size
        have ow := own_below ow b
        have og := own_below og b
        have oa := own_below oa b
        have T24 := below_next T23 b
        clear b T23
        go_wp2_with fail
        refine (tellI_any c00 c01 a1 _ _ _ z2 _ _ _ z3 _ HS0.out.1 HS0.out.2 (own_sl oa) HOK2.out (own_sl ob) HOK3.out).mono ?_
        rintro e y ⟨Bh, kh, dh, rfl, oh, b⟩
        have oh := own_lower oh T24.size
        have ow := own_below ow b
        have og := own_below og b
        have oa := own_below oa b
        have ob := own_below ob b
        have T25 := below_next T24 b
        clear b T24
        clear oa ob
        go_wp2_with fail
        refine (eqActivityS_any _ _ _ _ _ _ _ _ _ (own_sl oh) (own_sl ow)).mono ?_
        rintro e y ⟨rfl, x⟩
        have ow := own_ext ow x
        have og := own_ext og x
        have oh := own_ext oh x
        have T26 := below_next T25 x.below
        clear x T25
        clear oh ow
        go_wp2_with fail
        refine (heldActivityS_any _ _ _ _ 1 rfl _ (own_sl og) hk (by omega) (by omega)).mono ?_
        rintro e y ⟨rfl, x⟩
        have og := own_ext og x
        have T27 := below_next T26 x.below
        clear x T26
        go_wp2_with fail
        go_ret
        exact ⟨rfl, B0.trans (T27.mono B0.size)⟩
end Go.Proofs.Ytlfjnaeepblhiaa.fnExactTellChanges
