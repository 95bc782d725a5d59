/- The walk of FnExactAddTurn: it returns true and turns nothing that was there. -/
import Derived.Test.YtcpepjnmjiffcaaAddTurn
namespace Go.Proofs.Ytcpepjnmjiffcaa.fnExactAddTurn
open Go.RowKit
set_option linter.unusedVariables false
set_option linter.unusedSimpArgs false
set_option maxHeartbeats 2000000 in
set_option maxRecDepth 100000 in
theorem walk (a0 : Option Addr) (len0 cap0 : Nat) (z0 : List Tn) (c10 : Int) (c11 : Int) (c12 : Int) (c13 : Int) (w : World) (w0 : Sl w a0 len0 cap0 4 (tns z0) ∧ tnOk z0) (w1 : True) :
    Calls Try.prog 7 #[.slice a0 len0 cap0, tnA c10 c11 c12 c13] w fun e w' => e = .returned (.bool true) ∧ Below w.heap.size w w' := by
  obtain ⟨S0, hok0⟩ := w0
  have HOK0 := hid hok0
  clear hok0
  have B0 : Below w.heap.size w (w.alloc (Obj.cells #[Value.int IntKind.i64 c10, Value.int IntKind.i64 c11, Value.int IntKind.i64 c12, Value.int IntKind.i64 c13] 45)) := (Below.refl _ _).alloc (Nat.le_refl _) _
  have bx0 : (w.alloc (Obj.cells #[Value.int IntKind.i64 c10, Value.int IntKind.i64 c11, Value.int IntKind.i64 c12, Value.int IntKind.i64 c13] 45)).cell? ⟨w.heap.size, 0, none⟩ = some (Value.int IntKind.i64 c10) := cell_of_row _ w.heap.size 0 _ _ _ (alloc_new' rfl)
  have bx1 : (w.alloc (Obj.cells #[Value.int IntKind.i64 c10, Value.int IntKind.i64 c11, Value.int IntKind.i64 c12, Value.int IntKind.i64 c13] 45)).cell? ⟨w.heap.size, 1, none⟩ = some (Value.int IntKind.i64 c11) := cell_of_row _ w.heap.size 1 _ _ _ (alloc_new' rfl)
  have bx2 : (w.alloc (Obj.cells #[Value.int IntKind.i64 c10, Value.int IntKind.i64 c11, Value.int IntKind.i64 c12, Value.int IntKind.i64 c13] 45)).cell? ⟨w.heap.size, 2, none⟩ = some (Value.int IntKind.i64 c12) := cell_of_row _ w.heap.size 2 _ _ _ (alloc_new' rfl)
  have bx3 : (w.alloc (Obj.cells #[Value.int IntKind.i64 c10, Value.int IntKind.i64 c11, Value.int IntKind.i64 c12, Value.int IntKind.i64 c13] 45)).cell? ⟨w.heap.size, 3, none⟩ = some (Value.int IntKind.i64 c13) := cell_of_row _ w.heap.size 3 _ _ _ (alloc_new' rfl)
  have S0 := S0.below B0
  go_enter Try.func7, Try.ntmps7
  go_wp2_with fail
  generalize hV0 : w.alloc (Obj.cells #[Value.int IntKind.i64 c10, Value.int IntKind.i64 c11, Value.int IntKind.i64 c12, Value.int IntKind.i64 c13] 45) = V0 at *
  clear hV0
  have HLT := hid (World.block_lt_of_cell? V0 _ bx0)
  have HBX0 := hid bx0
  have HBX1 := hid bx1
  have HBX2 := hid bx2
  have HBX3 := hid bx3
  clear bx0 bx1 bx2 bx3
  have T0 := Below.refl V0.heap.size V0
  refine (szTurnS_any _ _ _ z0 1048576 _ (S0.below T0) (by omega) (by omega)).mono ?_
  rintro e v0 ⟨r0, rfl, r00, r01, r02, x0⟩
  have T1 := below_next T0 x0.below
  by_cases hr0 : r0 < 0
  · clear r02 x0
    go_wp2_with fail
    go_ret
    exact ⟨rfl, B0.trans (T1.mono B0.size)⟩
  · have hn0 : len0 ≤ 1048576 := by have := r02 (by omega); omega
    clear r02 x0 T0
    have bx0 := (T1.cell (p := ⟨w.heap.size, 0, none⟩) HLT.out).trans HBX0.out
    have bx1 := (T1.cell (p := ⟨w.heap.size, 1, none⟩) HLT.out).trans HBX1.out
    have bx2 := (T1.cell (p := ⟨w.heap.size, 2, none⟩) HLT.out).trans HBX2.out
    have bx3 := (T1.cell (p := ⟨w.heap.size, 3, none⟩) HLT.out).trans HBX3.out
    go_wp2
    generalize hwq : v0 = wq at *
    clear hwq
    have SQ0 := S0.below T1
    refine wp_region_steps (W := fun _ w' => Ext.of wq w') (Tr := fun a b => Ext.of a b) (F := fun i v w' => match i with
        | 0 => v = .slice a0 len0 cap0
        | 1 => ∃ B d, v = .slice B len0 d ∧ w'.ownsRow wq.heap.size 39 4 (.slice B len0 d) len0 (tns z0)
        | 2 => v = tnA c10 c11 c12 c13
        | 3 => v = tnA c10 c11 c12 c13
        | 4 => ∃ B k d, v = .tuple #[.slice B k d, .bool (addV z0 (c10, c11, c12, c13)).2] ∧ w'.ownsRow wq.heap.size 39 4 (.slice B k d) k (tns (addV z0 (c10, c11, c12, c13)).1)
        | 5 => ∃ B k d, v = .tuple #[.slice B k d, .bool (addV z0 (c10, c11, c12, c13)).2] ∧ w'.ownsRow wq.heap.size 39 4 (.slice B k d) k (tns (addV z0 (c10, c11, c12, c13)).1)
        | 6 => ∃ B k d, v = .slice B k d ∧ w'.ownsRow wq.heap.size 39 4 (.slice B k d) k (tns (addV z0 (c10, c11, c12, c13)).1)
        | 7 => v = .bool (addV z0 (c10, c11, c12, c13)).2
        | 8 => ∃ B k d, v = .slice B k d ∧ w'.ownsRow wq.heap.size 39 4 (.slice B k d) k (tns (addV z0 (c10, c11, c12, c13)).1)
        | 9 => v = .bool (addV z0 (c10, c11, c12, c13)).2
        | _ => True) (by kernel_rfl) (by kernel_rfl) ?_ ?_ ?_ ?_
    · exact Ext.of.drew (Ext.of.refl _)
    · intro kk a b i v hW hT hF
      match i with
      | 0 => exact hF
      | 1 => obtain ⟨B, d, h1, h2⟩ := hF; exact ⟨B, d, h1, own_ext h2 hT⟩
      | 2 => exact hF
      | 3 => exact hF
      | 4 => obtain ⟨B, k, d, h1, h2⟩ := hF; exact ⟨B, k, d, h1, own_ext h2 hT⟩
      | 5 => obtain ⟨B, k, d, h1, h2⟩ := hF; exact ⟨B, k, d, h1, own_ext h2 hT⟩
      | 6 => obtain ⟨B, k, d, h1, h2⟩ := hF; exact ⟨B, k, d, h1, own_ext h2 hT⟩
      | 7 => exact hF
      | 8 => obtain ⟨B, k, d, h1, h2⟩ := hF; exact ⟨B, k, d, h1, own_ext h2 hT⟩
      | 9 => exact hF
      | _ + 10 => trivial
    · refine ⟨fun kk ρ u hkk hc hf hb hW hd => ?_, ?_⟩
      · exact yield_move _ rfl ⟨hb 0 (by kernel_rfl), hW, Ext.of.refl _⟩
      refine ⟨fun kk ρ u hkk hc hf hb hW hd => ?_, ?_⟩
      · have e0 : ρ (.tmp 22) = .slice a0 len0 cap0 := hd.1 rfl rfl
        clear hd hb
        refine yield_call 13 #[.slice a0 len0 cap0] (by simp [go_sem, hc, hf, e0]) ?_
        refine (toTurnS_any _ _ _ z0 u (SQ0.ext hW) hn0).mono ?_
        rintro e' w' ⟨rfl, o, b⟩
        exact ⟨_, rfl, ⟨_, _, rfl, own_lower o hW.size⟩, hW.trans (Ext.of_below b), Ext.of_below b⟩
      refine ⟨fun kk ρ u hkk hc hf hb hW hd => ?_, ?_⟩
      · have e0 : ρ (.tmp 3) = .pointer (some ⟨w.heap.size, 0, none⟩) := hb 3 (by kernel_rfl)
        clear hd hb
        have x0 := hW.cell bx0
        have x1 := hW.cell bx1
        have x2 := hW.cell bx2
        have x3 := hW.cell bx3
        exact yield_value (w' := u) (tnA c10 c11 c12 c13) (by simp [go_sem, hc, hf, e0, x0, x1, x2, x3]) ⟨rfl, hW, Ext.of.refl _⟩
      refine ⟨fun kk ρ u hkk hc hf hb hW hd => ?_, ?_⟩
      · have e0 : ρ (.tmp 24) = tnA c10 c11 c12 c13 := hd.1 rfl rfl
        clear hd hb
        refine yield_call 23 #[tnA c10 c11 c12 c13] (by simp [go_sem, hc, hf, e0]) ?_
        refine (toTurn_any _ _ _ _ u).mono ?_
        rintro e' w' ⟨rfl, x⟩
        exact ⟨_, rfl, rfl, hW.trans x, x⟩
      refine ⟨fun kk ρ u hkk hc hf hb hW hd => ?_, ?_⟩
      · obtain ⟨B0, d0, e0, o0⟩ : ∃ B d, ρ (.tmp 23) = .slice B len0 d ∧ u.ownsRow wq.heap.size 39 4 (.slice B len0 d) len0 (tns z0) := hd.1 rfl rfl
        have e1 : ρ (.tmp 25) = tnA c10 c11 c12 c13 := hd.2.1 rfl rfl
        clear hd hb
        refine yield_call 22 #[.slice B0 len0 d0, tnA c10 c11 c12 c13] (by simp [go_sem, hc, hf, e0, e1]) ?_
        refine (addTurnS_any _ _ _ z0 c10 c11 c12 c13 u (own_sl o0)).mono ?_
        rintro e' w' ⟨B, k, d, rfl, o, b⟩
        exact ⟨_, rfl, ⟨_, _, _, rfl, own_lower o hW.size⟩, hW.trans (Ext.of_below b), Ext.of_below b⟩
      refine ⟨fun kk ρ u hkk hc hf hb hW hd => ?_, ?_⟩
      · exact yield_move _ rfl ⟨hd.1 rfl rfl, hW, Ext.of.refl _⟩
      refine ⟨fun kk ρ u hkk hc hf hb hW hd => ?_, ?_⟩
      · obtain ⟨B0, k0, d0, e0, o0⟩ : ∃ B k d, ρ (.tmp 21) = .tuple #[.slice B k d, .bool (addV z0 (c10, c11, c12, c13)).2] ∧ u.ownsRow wq.heap.size 39 4 (.slice B k d) k (tns (addV z0 (c10, c11, c12, c13)).1) := hd.1 rfl rfl
        clear hd hb
        exact yield_value (w' := u) (.slice B0 k0 d0) (by simp [go_sem, hc, hf, e0]) ⟨⟨_, _, _, rfl, o0⟩, hW, Ext.of.refl _⟩
      refine ⟨fun kk ρ u hkk hc hf hb hW hd => ?_, ?_⟩
      · obtain ⟨B0, k0, d0, e0, o0⟩ : ∃ B k d, ρ (.tmp 21) = .tuple #[.slice B k d, .bool (addV z0 (c10, c11, c12, c13)).2] ∧ u.ownsRow wq.heap.size 39 4 (.slice B k d) k (tns (addV z0 (c10, c11, c12, c13)).1) := hd.1 rfl rfl
        clear hd hb
        exact yield_value (w' := u) (.bool (addV z0 (c10, c11, c12, c13)).2) (by simp [go_sem, hc, hf, e0]) ⟨rfl, hW, Ext.of.refl _⟩
      refine ⟨fun kk ρ u hkk hc hf hb hW hd => ?_, ?_⟩
      · exact yield_assign _ rfl ⟨hd.1 rfl rfl, hW, Ext.of.refl _⟩
      refine ⟨fun kk ρ u hkk hc hf hb hW hd => ?_, ?_⟩
      · exact yield_assign _ rfl ⟨hd.1 rfl rfl, hW, Ext.of.refl _⟩
      trivial
    intro env wv hW hF
    obtain ⟨Bw, kw, dw, ew, ow⟩ := hF 8 (of_decide_eq_true (by kernel_rfl))
    have ev : env 9 = .bool (addV z0 (c10, c11, c12, c13)).2 := hF 9 (of_decide_eq_true (by kernel_rfl))
    clear hF
    have hr : List.range 104 = [0, 1, 2, 3, 4, 5, 6, 7, 8, 9, 10, 11, 12, 13, 14, 15, 16, 17, 18, 19, 20, 21, 22, 23, 24, 25, 26, 27, 28, 29, 30, 31, 32, 33, 34, 35, 36, 37, 38, 39, 40, 41, 42, 43, 44, 45, 46, 47, 48, 49, 50, 51, 52, 53, 54, 55, 56, 57, 58, 59, 60, 61, 62, 63, 64, 65, 66, 67, 68, 69, 70, 71, 72, 73, 74, 75, 76, 77, 78, 79, 80, 81, 82, 83, 84, 85, 86, 87, 88, 89, 90, 91, 92, 93, 94, 95, 96, 97, 98, 99, 100, 101, 102, 103] := rfl
    unfold after
    simp only [List.size_toArray, List.length_cons, List.length_nil, Nat.reduceAdd, hr, List.map_cons, List.map_nil]
    simp [idxOf, List.findIdx?, List.findIdx?.go, ew, ev]
    clear hr
    have ow := own_lower ow T1.size
    have T2 := below_next T1 hW.below
    clear hW T1 bx0 bx1 bx2 bx3 SQ0 ew ev
    go_wp2_with fail
    refine (toTurnS_any _ _ _ z0 _ (S0.below T2) hn0).mono ?_
    rintro e y3 ⟨rfl, ox, b3⟩
    have P_ow_ox := hid (own_apart ow ox (Nat.le_refl _))
    have ox := own_lower ox T2.size
    have ow := own_below ow b3
    have T3 := below_next T2 b3
    clear b3 T2
    have bx0 := (T3.cell (p := ⟨w.heap.size, 0, none⟩) HLT.out).trans HBX0.out
    have bx1 := (T3.cell (p := ⟨w.heap.size, 1, none⟩) HLT.out).trans HBX1.out
    have bx2 := (T3.cell (p := ⟨w.heap.size, 2, none⟩) HLT.out).trans HBX2.out
    have bx3 := (T3.cell (p := ⟨w.heap.size, 3, none⟩) HLT.out).trans HBX3.out
    go_wp2_with fail
    clear bx0 bx1 bx2 bx3
    refine (toTurn_any _ _ _ _ _).mono ?_
    rintro e y4 ⟨rfl, x4⟩
    have ow := own_ext ow x4
    have ox := own_ext ox x4
    have T4 := below_next T3 x4.below
    clear x4 T3
    go_wp2_with fail
    refine (addTurnI_any _ _ _ z0 c10 c11 c12 c13 _ (own_sl ox)).mono ?_
    rintro e y5 ⟨B5, k5, d5, rfl, og, b5⟩
    have P_ow_og := hid (own_apart ow og (Nat.le_refl _))
    have P_og_ox := hid (own_apart' ox og (Nat.le_refl _))
    have og := own_lower og T4.size
    have ow := own_below ow b5
    have ox := own_below ox b5
    have T5 := below_next T4 b5
    clear b5 T4
    go_wp2_with fail
    refine (eqTurnS_any _ _ _ _ _ _ _ _ _ (own_sl og) (own_sl ow)).mono ?_
    rintro e y6 ⟨rfl, x6⟩
    have ow := own_ext ow x6
    have ox := own_ext ox x6
    have og := own_ext og x6
    have T6 := below_next T5 x6.below
    clear x6 T5
    go_wp2_with fail
    refine (toTurnS_any _ _ _ z0 _ (S0.below T6) hn0).mono ?_
    rintro e y7 ⟨rfl, oa, b7⟩
    have oa := own_lower oa T6.size
    have ow := own_below ow b7
    have ox := own_below ox b7
    have og := own_below og b7
    have T7 := below_next T6 b7
    clear b7 T6
    go_wp2_with fail
    refine (eqTurnS_any _ _ _ _ _ _ _ _ _ (own_sl ox) (own_sl oa)).mono ?_
    rintro e y8 ⟨rfl, x8⟩
    have ow := own_ext ow x8
    have ox := own_ext ox x8
    have og := own_ext og x8
    have oa := own_ext oa x8
    have T8 := below_next T7 x8.below
    clear x8 T7
    clear oa
    go_wp2_with fail
    refine (markTurnS_any _ _ _ _ 1 rfl _ _ _ ox hn0 (by omega) (by omega)).mono ?_
    rintro e y9 ⟨rfl, ox, g9⟩
    have ow := ow.kept g9 P_ow_ox.out
    have og := og.kept g9 P_og_ox.out
    have T9 := T8.grown g9 T8.size (fun k hk => (ox.lt k hk).1)
    clear g9 T8
    clear ox
    go_wp2_with fail
    refine (eqTurnS_any _ _ _ _ _ _ _ _ _ (own_sl og) (own_sl ow)).mono ?_
    rintro e y10 ⟨rfl, x10⟩
    have ow := own_ext ow x10
    have og := own_ext og x10
    have T10 := below_next T9 x10.below
    clear x10 T9
    have hk : k5 ≤ 1048576 := by have h1 := own_count og tnC_len (by omega); have h2 := addV_len z0 (c10, c11, c12, c13); omega
    go_wp2_with fail
    refine (markTurnS_any _ _ _ _ 1 rfl _ _ _ og hk (by omega) (by omega)).mono ?_
    rintro e y11 ⟨rfl, og, g11⟩
    have ow := ow.kept g11 P_ow_og.out
    have T11 := T10.grown g11 T10.size (fun k hk => (og.lt k hk).1)
    clear g11 T10
    go_wp2_with fail
    refine (heldTurnS_any _ _ _ _ 1 rfl _ (own_sl og) hk (by omega) (by omega)).mono ?_
    rintro e y12 ⟨rfl, x12⟩
    have ow := own_ext ow x12
    have og := own_ext og x12
    have T12 := below_next T11 x12.below
    clear x12 T11
    have bx0 := (T12.cell (p := ⟨w.heap.size, 0, none⟩) HLT.out).trans HBX0.out
    have bx1 := (T12.cell (p := ⟨w.heap.size, 1, none⟩) HLT.out).trans HBX1.out
    have bx2 := (T12.cell (p := ⟨w.heap.size, 2, none⟩) HLT.out).trans HBX2.out
    have bx3 := (T12.cell (p := ⟨w.heap.size, 3, none⟩) HLT.out).trans HBX3.out
    go_wp2
    generalize hwq : y12 = wq at *
    clear hwq
    have SQ0 := S0.below T12
    refine wp_region_steps (W := fun _ w' => Ext.of wq w') (Tr := fun a b => Ext.of a b) (F := fun i v w' => match i with
        | 0 => v = .slice a0 len0 cap0
        | 1 => ∃ B d, v = .slice B len0 d ∧ w'.ownsRow wq.heap.size 39 4 (.slice B len0 d) len0 (tns z0)
        | 2 => v = tnA c10 c11 c12 c13
        | 3 => v = tnA c10 c11 c12 c13
        | 4 => ∃ B k d, v = .tuple #[.slice B k d, .bool (addV z0 (c10, c11, c12, c13)).2] ∧ w'.ownsRow wq.heap.size 39 4 (.slice B k d) k (tns (addV z0 (c10, c11, c12, c13)).1)
        | 5 => ∃ B k d, v = .tuple #[.slice B k d, .bool (addV z0 (c10, c11, c12, c13)).2] ∧ w'.ownsRow wq.heap.size 39 4 (.slice B k d) k (tns (addV z0 (c10, c11, c12, c13)).1)
        | 6 => ∃ B k d, v = .slice B k d ∧ w'.ownsRow wq.heap.size 39 4 (.slice B k d) k (tns (addV z0 (c10, c11, c12, c13)).1)
        | 7 => v = .bool (addV z0 (c10, c11, c12, c13)).2
        | 8 => ∃ B k d, v = .slice B k d ∧ w'.ownsRow wq.heap.size 39 4 (.slice B k d) k (tns (addV z0 (c10, c11, c12, c13)).1)
        | 9 => v = .bool (addV z0 (c10, c11, c12, c13)).2
        | _ => True) (by kernel_rfl) (by kernel_rfl) ?_ ?_ ?_ ?_
    · exact Ext.of.drew (Ext.of.refl _)
    · intro kk a b i v hW hT hF
      match i with
      | 0 => exact hF
      | 1 => obtain ⟨B, d, h1, h2⟩ := hF; exact ⟨B, d, h1, own_ext h2 hT⟩
      | 2 => exact hF
      | 3 => exact hF
      | 4 => obtain ⟨B, k, d, h1, h2⟩ := hF; exact ⟨B, k, d, h1, own_ext h2 hT⟩
      | 5 => obtain ⟨B, k, d, h1, h2⟩ := hF; exact ⟨B, k, d, h1, own_ext h2 hT⟩
      | 6 => obtain ⟨B, k, d, h1, h2⟩ := hF; exact ⟨B, k, d, h1, own_ext h2 hT⟩
      | 7 => exact hF
      | 8 => obtain ⟨B, k, d, h1, h2⟩ := hF; exact ⟨B, k, d, h1, own_ext h2 hT⟩
      | 9 => exact hF
      | _ + 10 => trivial
    · refine ⟨fun kk ρ u hkk hc hf hb hW hd => ?_, ?_⟩
      · exact yield_move _ rfl ⟨hb 0 (by kernel_rfl), hW, Ext.of.refl _⟩
      refine ⟨fun kk ρ u hkk hc hf hb hW hd => ?_, ?_⟩
      · have e0 : ρ (.tmp 80) = .slice a0 len0 cap0 := hd.1 rfl rfl
        clear hd hb
        refine yield_call 13 #[.slice a0 len0 cap0] (by simp [go_sem, hc, hf, e0]) ?_
        refine (toTurnS_any _ _ _ z0 u (SQ0.ext hW) hn0).mono ?_
        rintro e' w' ⟨rfl, o, b⟩
        exact ⟨_, rfl, ⟨_, _, rfl, own_lower o hW.size⟩, hW.trans (Ext.of_below b), Ext.of_below b⟩
      refine ⟨fun kk ρ u hkk hc hf hb hW hd => ?_, ?_⟩
      · have e0 : ρ (.tmp 3) = .pointer (some ⟨w.heap.size, 0, none⟩) := hb 3 (by kernel_rfl)
        clear hd hb
        have x0 := hW.cell bx0
        have x1 := hW.cell bx1
        have x2 := hW.cell bx2
        have x3 := hW.cell bx3
        exact yield_value (w' := u) (tnA c10 c11 c12 c13) (by simp [go_sem, hc, hf, e0, x0, x1, x2, x3]) ⟨rfl, hW, Ext.of.refl _⟩
      refine ⟨fun kk ρ u hkk hc hf hb hW hd => ?_, ?_⟩
      · have e0 : ρ (.tmp 82) = tnA c10 c11 c12 c13 := hd.1 rfl rfl
        clear hd hb
        refine yield_call 23 #[tnA c10 c11 c12 c13] (by simp [go_sem, hc, hf, e0]) ?_
        refine (toTurn_any _ _ _ _ u).mono ?_
        rintro e' w' ⟨rfl, x⟩
        exact ⟨_, rfl, rfl, hW.trans x, x⟩
      refine ⟨fun kk ρ u hkk hc hf hb hW hd => ?_, ?_⟩
      · obtain ⟨B0, d0, e0, o0⟩ : ∃ B d, ρ (.tmp 81) = .slice B len0 d ∧ u.ownsRow wq.heap.size 39 4 (.slice B len0 d) len0 (tns z0) := hd.1 rfl rfl
        have e1 : ρ (.tmp 83) = tnA c10 c11 c12 c13 := hd.2.1 rfl rfl
        clear hd hb
        refine yield_call 24 #[.slice B0 len0 d0, tnA c10 c11 c12 c13] (by simp [go_sem, hc, hf, e0, e1]) ?_
        refine (addTurnI_any _ _ _ z0 c10 c11 c12 c13 u (own_sl o0)).mono ?_
        rintro e' w' ⟨B, k, d, rfl, o, b⟩
        exact ⟨_, rfl, ⟨_, _, _, rfl, own_lower o hW.size⟩, hW.trans (Ext.of_below b), Ext.of_below b⟩
      refine ⟨fun kk ρ u hkk hc hf hb hW hd => ?_, ?_⟩
      · exact yield_move _ rfl ⟨hd.1 rfl rfl, hW, Ext.of.refl _⟩
      refine ⟨fun kk ρ u hkk hc hf hb hW hd => ?_, ?_⟩
      · obtain ⟨B0, k0, d0, e0, o0⟩ : ∃ B k d, ρ (.tmp 79) = .tuple #[.slice B k d, .bool (addV z0 (c10, c11, c12, c13)).2] ∧ u.ownsRow wq.heap.size 39 4 (.slice B k d) k (tns (addV z0 (c10, c11, c12, c13)).1) := hd.1 rfl rfl
        clear hd hb
        exact yield_value (w' := u) (.slice B0 k0 d0) (by simp [go_sem, hc, hf, e0]) ⟨⟨_, _, _, rfl, o0⟩, hW, Ext.of.refl _⟩
      refine ⟨fun kk ρ u hkk hc hf hb hW hd => ?_, ?_⟩
      · obtain ⟨B0, k0, d0, e0, o0⟩ : ∃ B k d, ρ (.tmp 79) = .tuple #[.slice B k d, .bool (addV z0 (c10, c11, c12, c13)).2] ∧ u.ownsRow wq.heap.size 39 4 (.slice B k d) k (tns (addV z0 (c10, c11, c12, c13)).1) := hd.1 rfl rfl
        clear hd hb
        exact yield_value (w' := u) (.bool (addV z0 (c10, c11, c12, c13)).2) (by simp [go_sem, hc, hf, e0]) ⟨rfl, hW, Ext.of.refl _⟩
      refine ⟨fun kk ρ u hkk hc hf hb hW hd => ?_, ?_⟩
      · exact yield_assign _ rfl ⟨hd.1 rfl rfl, hW, Ext.of.refl _⟩
      refine ⟨fun kk ρ u hkk hc hf hb hW hd => ?_, ?_⟩
      · exact yield_assign _ rfl ⟨hd.1 rfl rfl, hW, Ext.of.refl _⟩
      trivial
    intro env wv hW hF
    have ow := own_ext ow hW
    have og := own_ext og hW
    obtain ⟨Bw, kw, dw, ew, oh⟩ := hF 8 (of_decide_eq_true (by kernel_rfl))
    have ev : env 9 = .bool (addV z0 (c10, c11, c12, c13)).2 := hF 9 (of_decide_eq_true (by kernel_rfl))
    clear hF
    have hr : List.range 104 = [0, 1, 2, 3, 4, 5, 6, 7, 8, 9, 10, 11, 12, 13, 14, 15, 16, 17, 18, 19, 20, 21, 22, 23, 24, 25, 26, 27, 28, 29, 30, 31, 32, 33, 34, 35, 36, 37, 38, 39, 40, 41, 42, 43, 44, 45, 46, 47, 48, 49, 50, 51, 52, 53, 54, 55, 56, 57, 58, 59, 60, 61, 62, 63, 64, 65, 66, 67, 68, 69, 70, 71, 72, 73, 74, 75, 76, 77, 78, 79, 80, 81, 82, 83, 84, 85, 86, 87, 88, 89, 90, 91, 92, 93, 94, 95, 96, 97, 98, 99, 100, 101, 102, 103] := rfl
    unfold after
    simp only [List.size_toArray, List.length_cons, List.length_nil, Nat.reduceAdd, hr, List.map_cons, List.map_nil]
    simp [idxOf, List.findIdx?, List.findIdx?.go, ew, ev]
    clear hr
    have oh := own_lower oh T12.size
    have T13 := below_next T12 hW.below
    clear hW T12 bx0 bx1 bx2 bx3 SQ0 ew ev
    go_wp2_with fail
    refine (eqTurnS_any _ _ _ _ _ _ _ _ _ (own_sl oh) (own_sl ow)).mono ?_
    rintro e y14 ⟨rfl, x14⟩
    have ow := own_ext ow x14
    have og := own_ext og x14
    have oh := own_ext oh x14
    have T14 := below_next T13 x14.below
    clear x14 T13
    clear oh ow
    go_wp2_with fail
    refine (heldTurnS_any _ _ _ _ 1 rfl _ (own_sl og) hk (by omega) (by omega)).mono ?_
    rintro e y15 ⟨rfl, x15⟩
    have og := own_ext og x15
    have T15 := below_next T14 x15.below
    clear x15 T14
    go_wp2_with fail
    go_ret
    exact ⟨rfl, B0.trans (T15.mono B0.size)⟩
end Go.Proofs.Ytcpepjnmjiffcaa.fnExactAddTurn
