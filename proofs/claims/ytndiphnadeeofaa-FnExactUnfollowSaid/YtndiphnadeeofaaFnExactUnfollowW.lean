/- The walk of FnExactUnfollow: it returns true and turns nothing that was there. -/
import Derived.Test.YtndiphnadeeofaaFollowingS
namespace Go.Proofs.Ytndiphnadeeofaa.fnExactUnfollow
open Go.RowKit
set_option linter.unusedVariables false
set_option linter.unusedSimpArgs false
set_option maxHeartbeats 2000000 in
set_option maxRecDepth 100000 in
theorem walk (a0 : Option Addr) (len0 cap0 : Nat) (z0 : List Hd) (c10 c11 : ByteArray) (w : World) (w0 : Sl w a0 len0 cap0 2 (hds z0) ∧ hdOk z0) (w1 : c10.size ≤ 9223372036854775807 ∧ c11.size ≤ 9223372036854775807) :
    Calls Try.prog 8 #[.slice a0 len0 cap0, hdA c10 c11] w fun e w' => e = .returned (.bool true) ∧ Below w.heap.size w w' := by
  obtain ⟨S0, hok0⟩ := w0
  have HOK0 := hid hok0
  clear hok0
  have B0 : Below w.heap.size w (w.alloc (Obj.cells #[Value.string c10, Value.string c11] 42)) := (Below.refl _ _).alloc (Nat.le_refl _) _
  have bx0 : (w.alloc (Obj.cells #[Value.string c10, Value.string c11] 42)).cell? ⟨w.heap.size, 0, none⟩ = some (.string c10) := cell_of_row _ w.heap.size 0 _ _ _ (alloc_new' rfl)
  have bx1 : (w.alloc (Obj.cells #[Value.string c10, Value.string c11] 42)).cell? ⟨w.heap.size, 1, none⟩ = some (.string c11) := cell_of_row _ w.heap.size 1 _ _ _ (alloc_new' rfl)
  have S0 := S0.below B0
  go_enter Try.func8, Try.ntmps8
  go_wp2_with fail
  generalize hV0 : w.alloc (Obj.cells #[Value.string c10, Value.string c11] 42) = V0 at *
  clear hV0
  have HLT := hid (World.block_lt_of_cell? V0 _ bx0)
  have HBX0 := hid bx0
  have HBX1 := hid bx1
  clear bx0 bx1
  have T0 := Below.refl V0.heap.size V0
  refine (szHandleS_any _ _ _ z0 1048576 _ (S0.below T0) (by omega) (by omega) HOK0.out).mono ?_
  rintro e v0 ⟨r0, rfl, r00, r01, r02, x0⟩
  have T1 := below_next T0 x0.below
  by_cases hr0 : r0 < 0
  · clear r02 x0
    go_wp2_with fail
    go_ret
    exact ⟨rfl, B0.trans (T1.mono B0.size)⟩
  · have hn0 : len0 ≤ 1048576 := by have := r02 (by omega); omega
    clear r02 x0 T0
    have bx0 := (T1.cell (p := ⟨w.heap.size, 0, none⟩) HLT.out).trans HBX0.out
    have bx1 := (T1.cell (p := ⟨w.heap.size, 1, none⟩) HLT.out).trans HBX1.out
    go_wp2_with fail
    clear bx0 bx1
    refine (szHandle_any _ _ r0 (by omega) (by omega) _ w1.1 w1.2).mono ?_
    rintro e v1 ⟨r1, rfl, r10, r11, x1⟩
    have T2 := below_next T1 x1.below
    by_cases hr1 : r1 < 0
    · clear x1
      go_wp2_with fail
      go_ret
      exact ⟨rfl, B0.trans (T2.mono B0.size)⟩
    · clear x1 T1
      have bx0 := (T2.cell (p := ⟨w.heap.size, 0, none⟩) HLT.out).trans HBX0.out
      have bx1 := (T2.cell (p := ⟨w.heap.size, 1, none⟩) HLT.out).trans HBX1.out
      go_wp2
      generalize hwq : v1 = wq at *
      clear hwq
      have SQ0 := S0.below T2
      refine wp_region_steps (W := fun _ w' => Ext.of wq w') (Tr := fun a b => Ext.of a b) (F := fun i v w' => match i with
          | 0 => v = .slice a0 len0 cap0
          | 1 => ∃ B d, v = .slice B len0 d ∧ w'.ownsRow wq.heap.size 33 2 (.slice B len0 d) len0 (hds z0)
          | 2 => v = hdA c10 c11
          | 3 => v = hdA c10 c11
          | 4 => ∃ B k d, v = .tuple #[.slice B k d, .bool (unfollowV z0 (c10, c11)).2] ∧ w'.ownsRow wq.heap.size 33 2 (.slice B k d) k (hds (unfollowV z0 (c10, c11)).1)
          | 5 => ∃ B k d, v = .tuple #[.slice B k d, .bool (unfollowV z0 (c10, c11)).2] ∧ w'.ownsRow wq.heap.size 33 2 (.slice B k d) k (hds (unfollowV z0 (c10, c11)).1)
          | 6 => ∃ B k d, v = .slice B k d ∧ w'.ownsRow wq.heap.size 33 2 (.slice B k d) k (hds (unfollowV z0 (c10, c11)).1)
          | 7 => v = .bool (unfollowV z0 (c10, c11)).2
          | 8 => ∃ B k d, v = .slice B k d ∧ w'.ownsRow wq.heap.size 33 2 (.slice B k d) k (hds (unfollowV z0 (c10, c11)).1)
          | 9 => v = .bool (unfollowV z0 (c10, c11)).2
          | _ => True) (by kernel_rfl) (by kernel_rfl) ?_ ?_ ?_ ?_
      · exact Ext.of.drew (Ext.of.refl _)
      · intro kk a b i v hW hT hF
        match i with
        | 0 => exact hF
        | 1 => obtain ⟨B, d, h1, h2⟩ := hF; exact ⟨B, d, h1, own_ext h2 hT⟩
        | 2 => exact hF
        | 3 => exact hF
        | 4 => obtain ⟨B, k, d, h1, h2⟩ := hF; exact ⟨B, k, d, h1, own_ext h2 hT⟩
        | 5 => obtain ⟨B, k, d, h1, h2⟩ := hF; exact ⟨B, k, d, h1, own_ext h2 hT⟩
        | 6 => obtain ⟨B, k, d, h1, h2⟩ := hF; exact ⟨B, k, d, h1, own_ext h2 hT⟩
        | 7 => exact hF
        | 8 => obtain ⟨B, k, d, h1, h2⟩ := hF; exact ⟨B, k, d, h1, own_ext h2 hT⟩
        | 9 => exact hF
        | _ + 10 => trivial
      · refine ⟨fun kk ρ u hkk hc hf hb hW hd => ?_, ?_⟩
        · exact yield_move _ rfl ⟨hb 0 (by kernel_rfl), hW, Ext.of.refl _⟩
        refine ⟨fun kk ρ u hkk hc hf hb hW hd => ?_, ?_⟩
        · have e0 : ρ (.tmp 27) = .slice a0 len0 cap0 := hd.1 rfl rfl
          clear hd hb
          refine yield_call 15 #[.slice a0 len0 cap0] (by simp [go_sem, hc, hf, e0]) ?_
          refine (toHandleS_any _ _ _ z0 u (SQ0.ext hW) hn0).mono ?_
          rintro e' w' ⟨rfl, o, b⟩
          exact ⟨_, rfl, ⟨_, _, rfl, own_lower o hW.size⟩, hW.trans (Ext.of_below b), Ext.of_below b⟩
        refine ⟨fun kk ρ u hkk hc hf hb hW hd => ?_, ?_⟩
        · have e0 : ρ (.tmp 3) = .pointer (some ⟨w.heap.size, 0, none⟩) := hb 3 (by kernel_rfl)
          clear hd hb
          have x0 := hW.cell bx0
          have x1 := hW.cell bx1
          exact yield_value (w' := u) (hdA c10 c11) (by simp [go_sem, hc, hf, e0, x0, x1]) ⟨rfl, hW, Ext.of.refl _⟩
        refine ⟨fun kk ρ u hkk hc hf hb hW hd => ?_, ?_⟩
        · have e0 : ρ (.tmp 29) = hdA c10 c11 := hd.1 rfl rfl
          clear hd hb
          refine yield_call 32 #[hdA c10 c11] (by simp [go_sem, hc, hf, e0]) ?_
          refine (toHandle_any _ _ u).mono ?_
          rintro e' w' ⟨rfl, x⟩
          exact ⟨_, rfl, rfl, hW.trans x, x⟩
        refine ⟨fun kk ρ u hkk hc hf hb hW hd => ?_, ?_⟩
        · obtain ⟨B0, d0, e0, o0⟩ : ∃ B d, ρ (.tmp 28) = .slice B len0 d ∧ u.ownsRow wq.heap.size 33 2 (.slice B len0 d) len0 (hds z0) := hd.1 rfl rfl
          have e1 : ρ (.tmp 30) = hdA c10 c11 := hd.2.1 rfl rfl
          clear hd hb
          refine yield_call 31 #[.slice B0 len0 d0, hdA c10 c11] (by simp [go_sem, hc, hf, e0, e1]) ?_
          refine (unfollowS_any _ _ _ z0 c10 c11 u (own_sl o0) HOK0.out).mono ?_
          rintro e' w' ⟨B, k, d, rfl, o, b⟩
          exact ⟨_, rfl, ⟨_, _, _, rfl, own_lower o hW.size⟩, hW.trans (Ext.of_below b), Ext.of_below b⟩
        refine ⟨fun kk ρ u hkk hc hf hb hW hd => ?_, ?_⟩
        · exact yield_move _ rfl ⟨hd.1 rfl rfl, hW, Ext.of.refl _⟩
        refine ⟨fun kk ρ u hkk hc hf hb hW hd => ?_, ?_⟩
        · obtain ⟨B0, k0, d0, e0, o0⟩ : ∃ B k d, ρ (.tmp 26) = .tuple #[.slice B k d, .bool (unfollowV z0 (c10, c11)).2] ∧ u.ownsRow wq.heap.size 33 2 (.slice B k d) k (hds (unfollowV z0 (c10, c11)).1) := hd.1 rfl rfl
          clear hd hb
          exact yield_value (w' := u) (.slice B0 k0 d0) (by simp [go_sem, hc, hf, e0]) ⟨⟨_, _, _, rfl, o0⟩, hW, Ext.of.refl _⟩
        refine ⟨fun kk ρ u hkk hc hf hb hW hd => ?_, ?_⟩
        · obtain ⟨B0, k0, d0, e0, o0⟩ : ∃ B k d, ρ (.tmp 26) = .tuple #[.slice B k d, .bool (unfollowV z0 (c10, c11)).2] ∧ u.ownsRow wq.heap.size 33 2 (.slice B k d) k (hds (unfollowV z0 (c10, c11)).1) := hd.1 rfl rfl
          clear hd hb
          exact yield_value (w' := u) (.bool (unfollowV z0 (c10, c11)).2) (by simp [go_sem, hc, hf, e0]) ⟨rfl, hW, Ext.of.refl _⟩
        refine ⟨fun kk ρ u hkk hc hf hb hW hd => ?_, ?_⟩
        · exact yield_assign _ rfl ⟨hd.1 rfl rfl, hW, Ext.of.refl _⟩
        refine ⟨fun kk ρ u hkk hc hf hb hW hd => ?_, ?_⟩
        · exact yield_assign _ rfl ⟨hd.1 rfl rfl, hW, Ext.of.refl _⟩
        trivial
      intro env wv hW hF
      obtain ⟨Bw, kw, dw, ew, ow⟩ := hF 8 (of_decide_eq_true (by kernel_rfl))
      have ev : env 9 = .bool (unfollowV z0 (c10, c11)).2 := hF 9 (of_decide_eq_true (by kernel_rfl))
      clear hF
      have hr : List.range 109 = [0, 1, 2, 3, 4, 5, 6, 7, 8, 9, 10, 11, 12, 13, 14, 15, 16, 17, 18, 19, 20, 21, 22, 23, 24, 25, 26, 27, 28, 29, 30, 31, 32, 33, 34, 35, 36, 37, 38, 39, 40, 41, 42, 43, 44, 45, 46, 47, 48, 49, 50, 51, 52, 53, 54, 55, 56, 57, 58, 59, 60, 61, 62, 63, 64, 65, 66, 67, 68, 69, 70, 71, 72, 73, 74, 75, 76, 77, 78, 79, 80, 81, 82, 83, 84, 85, 86, 87, 88, 89, 90, 91, 92, 93, 94, 95, 96, 97, 98, 99, 100, 101, 102, 103, 104, 105, 106, 107, 108] := rfl
      unfold after
      simp only [List.size_toArray, List.length_cons, List.length_nil, Nat.reduceAdd, hr, List.map_cons, List.map_nil]
      simp [idxOf, List.findIdx?, List.findIdx?.go, ew, ev]
      clear hr
      have ow := own_lower ow T2.size
      have T3 := below_next T2 hW.below
      clear hW T2 bx0 bx1 SQ0 ew ev
      go_wp2_with fail
      refine (toHandleS_any _ _ _ z0 _ (S0.below T3) hn0).mono ?_
      rintro e y4 ⟨rfl, ox, b4⟩
      have P_ow_ox := hid (own_apart ow ox (Nat.le_refl _))
      have ox := own_lower ox T3.size
      have ow := own_below ow b4
      have T4 := below_next T3 b4
      clear b4 T3
      have bx0 := (T4.cell (p := ⟨w.heap.size, 0, none⟩) HLT.out).trans HBX0.out
      have bx1 := (T4.cell (p := ⟨w.heap.size, 1, none⟩) HLT.out).trans HBX1.out
      go_wp2_with fail
      clear bx0 bx1
      refine (toHandle_any _ _ _).mono ?_
      rintro e y5 ⟨rfl, x5⟩
      have ow := own_ext ow x5
      have ox := own_ext ox x5
      have T5 := below_next T4 x5.below
      clear x5 T4
      go_wp2_with fail
      refine (unfollowI_any _ _ _ z0 c10 c11 _ (own_sl ox) HOK0.out).mono ?_
      rintro e y6 ⟨B6, k6, d6, rfl, og, b6⟩
      have P_ow_og := hid (own_apart ow og (Nat.le_refl _))
      have P_og_ox := hid (own_apart' ox og (Nat.le_refl _))
      have og := own_lower og T5.size
      have ow := own_below ow b6
      have ox := own_below ox b6
      have T6 := below_next T5 b6
      clear b6 T5
      go_wp2_with fail
      refine (eqHandleS_any _ _ _ _ _ _ _ _ _ (own_sl og) (own_sl ow)).mono ?_
      rintro e y7 ⟨rfl, x7⟩
      have ow := own_ext ow x7
      have ox := own_ext ox x7
      have og := own_ext og x7
      have T7 := below_next T6 x7.below
      clear x7 T6
      go_wp2_with fail
      refine (toHandleS_any _ _ _ z0 _ (S0.below T7) hn0).mono ?_
      rintro e y8 ⟨rfl, oa, b8⟩
      have oa := own_lower oa T7.size
      have ow := own_below ow b8
      have ox := own_below ox b8
      have og := own_below og b8
      have T8 := below_next T7 b8
      clear b8 T7
      go_wp2_with fail
      refine (eqHandleS_any _ _ _ _ _ _ _ _ _ (own_sl ox) (own_sl oa)).mono ?_
      rintro e y9 ⟨rfl, x9⟩
      have ow := own_ext ow x9
      have ox := own_ext ox x9
      have og := own_ext og x9
      have oa := own_ext oa x9
      have T9 := below_next T8 x9.below
      clear x9 T8
      clear oa
      go_wp2_with fail
      refine (markHandleS_any _ _ _ _ 1 rfl _ _ _ ox hn0 (by omega) (by omega)).mono ?_
      rintro e y10 ⟨rfl, ox, g10⟩
      have ow := ow.kept g10 P_ow_ox.out
      have og := og.kept g10 P_og_ox.out
      have T10 := T9.grown g10 T9.size (fun k hk => (ox.lt k hk).1)
      clear g10 T9
      clear ox
      go_wp2_with fail
      refine (eqHandleS_any _ _ _ _ _ _ _ _ _ (own_sl og) (own_sl ow)).mono ?_
      rintro e y11 ⟨rfl, x11⟩
      have ow := own_ext ow x11
      have og := own_ext og x11
      have T11 := below_next T10 x11.below
      clear x11 T10
      have hk : k6 ≤ 1048576 := by have h1 := own_count og hdC_len (by omega); have h2 := unfollowV_len z0 (c10, c11); omega
      go_wp2_with fail
      refine (markHandleS_any _ _ _ _ 1 rfl _ _ _ og hk (by omega) (by omega)).mono ?_
      rintro e y12 ⟨rfl, og, g12⟩
      have ow := ow.kept g12 P_ow_og.out
      have T12 := T11.grown g12 T11.size (fun k hk => (og.lt k hk).1)
      clear g12 T11
      go_wp2_with fail
      refine (heldHandleS_any _ _ _ _ 1 rfl _ (own_sl og) hk (by omega) (by omega)).mono ?_
      rintro e y13 ⟨rfl, x13⟩
      have ow := own_ext ow x13
      have og := own_ext og x13
      have T13 := below_next T12 x13.below
      clear x13 T12
      have bx0 := (T13.cell (p := ⟨w.heap.size, 0, none⟩) HLT.out).trans HBX0.out
      have bx1 := (T13.cell (p := ⟨w.heap.size, 1, none⟩) HLT.out).trans HBX1.out
      go_wp2
      generalize hwq : y13 = wq at *
      clear hwq
      have SQ0 := S0.below T13
      refine wp_region_steps (W := fun _ w' => Ext.of wq w') (Tr := fun a b => Ext.of a b) (F := fun i v w' => match i with
          | 0 => v = .slice a0 len0 cap0
          | 1 => ∃ B d, v = .slice B len0 d ∧ w'.ownsRow wq.heap.size 33 2 (.slice B len0 d) len0 (hds z0)
          | 2 => v = hdA c10 c11
          | 3 => v = hdA c10 c11
          | 4 => ∃ B k d, v = .tuple #[.slice B k d, .bool (unfollowV z0 (c10, c11)).2] ∧ w'.ownsRow wq.heap.size 33 2 (.slice B k d) k (hds (unfollowV z0 (c10, c11)).1)
          | 5 => ∃ B k d, v = .tuple #[.slice B k d, .bool (unfollowV z0 (c10, c11)).2] ∧ w'.ownsRow wq.heap.size 33 2 (.slice B k d) k (hds (unfollowV z0 (c10, c11)).1)
          | 6 => ∃ B k d, v = .slice B k d ∧ w'.ownsRow wq.heap.size 33 2 (.slice B k d) k (hds (unfollowV z0 (c10, c11)).1)
          | 7 => v = .bool (unfollowV z0 (c10, c11)).2
          | 8 => ∃ B k d, v = .slice B k d ∧ w'.ownsRow wq.heap.size 33 2 (.slice B k d) k (hds (unfollowV z0 (c10, c11)).1)
          | 9 => v = .bool (unfollowV z0 (c10, c11)).2
          | _ => True) (by kernel_rfl) (by kernel_rfl) ?_ ?_ ?_ ?_
      · exact Ext.of.drew (Ext.of.refl _)
      · intro kk a b i v hW hT hF
        match i with
        | 0 => exact hF
        | 1 => obtain ⟨B, d, h1, h2⟩ := hF; exact ⟨B, d, h1, own_ext h2 hT⟩
        | 2 => exact hF
        | 3 => exact hF
        | 4 => obtain ⟨B, k, d, h1, h2⟩ := hF; exact ⟨B, k, d, h1, own_ext h2 hT⟩
        | 5 => obtain ⟨B, k, d, h1, h2⟩ := hF; exact ⟨B, k, d, h1, own_ext h2 hT⟩
        | 6 => obtain ⟨B, k, d, h1, h2⟩ := hF; exact ⟨B, k, d, h1, own_ext h2 hT⟩
        | 7 => exact hF
        | 8 => obtain ⟨B, k, d, h1, h2⟩ := hF; exact ⟨B, k, d, h1, own_ext h2 hT⟩
        | 9 => exact hF
        | _ + 10 => trivial
      · refine ⟨fun kk ρ u hkk hc hf hb hW hd => ?_, ?_⟩
        · exact yield_move _ rfl ⟨hb 0 (by kernel_rfl), hW, Ext.of.refl _⟩
        refine ⟨fun kk ρ u hkk hc hf hb hW hd => ?_, ?_⟩
        · have e0 : ρ (.tmp 85) = .slice a0 len0 cap0 := hd.1 rfl rfl
          clear hd hb
          refine yield_call 15 #[.slice a0 len0 cap0] (by simp [go_sem, hc, hf, e0]) ?_
          refine (toHandleS_any _ _ _ z0 u (SQ0.ext hW) hn0).mono ?_
          rintro e' w' ⟨rfl, o, b⟩
          exact ⟨_, rfl, ⟨_, _, rfl, own_lower o hW.size⟩, hW.trans (Ext.of_below b), Ext.of_below b⟩
        refine ⟨fun kk ρ u hkk hc hf hb hW hd => ?_, ?_⟩
        · have e0 : ρ (.tmp 3) = .pointer (some ⟨w.heap.size, 0, none⟩) := hb 3 (by kernel_rfl)
          clear hd hb
          have x0 := hW.cell bx0
          have x1 := hW.cell bx1
          exact yield_value (w' := u) (hdA c10 c11) (by simp [go_sem, hc, hf, e0, x0, x1]) ⟨rfl, hW, Ext.of.refl _⟩
        refine ⟨fun kk ρ u hkk hc hf hb hW hd => ?_, ?_⟩
        · have e0 : ρ (.tmp 87) = hdA c10 c11 := hd.1 rfl rfl
          clear hd hb
          refine yield_call 32 #[hdA c10 c11] (by simp [go_sem, hc, hf, e0]) ?_
          refine (toHandle_any _ _ u).mono ?_
          rintro e' w' ⟨rfl, x⟩
          exact ⟨_, rfl, rfl, hW.trans x, x⟩
        refine ⟨fun kk ρ u hkk hc hf hb hW hd => ?_, ?_⟩
        · obtain ⟨B0, d0, e0, o0⟩ : ∃ B d, ρ (.tmp 86) = .slice B len0 d ∧ u.ownsRow wq.heap.size 33 2 (.slice B len0 d) len0 (hds z0) := hd.1 rfl rfl
          have e1 : ρ (.tmp 88) = hdA c10 c11 := hd.2.1 rfl rfl
          clear hd hb
          refine yield_call 33 #[.slice B0 len0 d0, hdA c10 c11] (by simp [go_sem, hc, hf, e0, e1]) ?_
          refine (unfollowI_any _ _ _ z0 c10 c11 u (own_sl o0) HOK0.out).mono ?_
          rintro e' w' ⟨B, k, d, rfl, o, b⟩
          exact ⟨_, rfl, ⟨_, _, _, rfl, own_lower o hW.size⟩, hW.trans (Ext.of_below b), Ext.of_below b⟩
        refine ⟨fun kk ρ u hkk hc hf hb hW hd => ?_, ?_⟩
        · exact yield_move _ rfl ⟨hd.1 rfl rfl, hW, Ext.of.refl _⟩
        refine ⟨fun kk ρ u hkk hc hf hb hW hd => ?_, ?_⟩
        · obtain ⟨B0, k0, d0, e0, o0⟩ : ∃ B k d, ρ (.tmp 84) = .tuple #[.slice B k d, .bool (unfollowV z0 (c10, c11)).2] ∧ u.ownsRow wq.heap.size 33 2 (.slice B k d) k (hds (unfollowV z0 (c10, c11)).1) := hd.1 rfl rfl
          clear hd hb
          exact yield_value (w' := u) (.slice B0 k0 d0) (by simp [go_sem, hc, hf, e0]) ⟨⟨_, _, _, rfl, o0⟩, hW, Ext.of.refl _⟩
        refine ⟨fun kk ρ u hkk hc hf hb hW hd => ?_, ?_⟩
        · obtain ⟨B0, k0, d0, e0, o0⟩ : ∃ B k d, ρ (.tmp 84) = .tuple #[.slice B k d, .bool (unfollowV z0 (c10, c11)).2] ∧ u.ownsRow wq.heap.size 33 2 (.slice B k d) k (hds (unfollowV z0 (c10, c11)).1) := hd.1 rfl rfl
          clear hd hb
          exact yield_value (w' := u) (.bool (unfollowV z0 (c10, c11)).2) (by simp [go_sem, hc, hf, e0]) ⟨rfl, hW, Ext.of.refl _⟩
        refine ⟨fun kk ρ u hkk hc hf hb hW hd => ?_, ?_⟩
        · exact yield_assign _ rfl ⟨hd.1 rfl rfl, hW, Ext.of.refl _⟩
        refine ⟨fun kk ρ u hkk hc hf hb hW hd => ?_, ?_⟩
        · exact yield_assign _ rfl ⟨hd.1 rfl rfl, hW, Ext.of.refl _⟩
        trivial
      intro env wv hW hF
      have ow := own_ext ow hW
      have og := own_ext og hW
      obtain ⟨Bw, kw, dw, ew, oh⟩ := hF 8 (of_decide_eq_true (by kernel_rfl))
      have ev : env 9 = .bool (unfollowV z0 (c10, c11)).2 := hF 9 (of_decide_eq_true (by kernel_rfl))
      clear hF
      have hr : List.range 109 = [0, 1, 2, 3, 4, 5, 6, 7, 8, 9, 10, 11, 12, 13, 14, 15, 16, 17, 18, 19, 20, 21, 22, 23, 24, 25, 26, 27, 28, 29, 30, 31, 32, 33, 34, 35, 36, 37, 38, 39, 40, 41, 42, 43, 44, 45, 46, 47, 48, 49, 50, 51, 52, 53, 54, 55, 56, 57, 58, 59, 60, 61, 62, 63, 64, 65, 66, 67, 68, 69, 70, 71, 72, 73, 74, 75, 76, 77, 78, 79, 80, 81, 82, 83, 84, 85, 86, 87, 88, 89, 90, 91, 92, 93, 94, 95, 96, 97, 98, 99, 100, 101, 102, 103, 104, 105, 106, 107, 108] := rfl
      unfold after
      simp only [List.size_toArray, List.length_cons, List.length_nil, Nat.reduceAdd, hr, List.map_cons, List.map_nil]
      simp [idxOf, List.findIdx?, List.findIdx?.go, ew, ev]
      clear hr
      have oh := own_lower oh T13.size
      have T14 := below_next T13 hW.below
      clear hW T13 bx0 bx1 SQ0 ew ev
      go_wp2_with fail
      refine (eqHandleS_any _ _ _ _ _ _ _ _ _ (own_sl oh) (own_sl ow)).mono ?_
      rintro e y15 ⟨rfl, x15⟩
      have ow := own_ext ow x15
      have og := own_ext og x15
      have oh := own_ext oh x15
      have T15 := below_next T14 x15.below
      clear x15 T14
      clear oh ow
      go_wp2_with fail
      refine (heldHandleS_any _ _ _ _ 1 rfl _ (own_sl og) hk (by omega) (by omega)).mono ?_
      rintro e y16 ⟨rfl, x16⟩
      have og := own_ext og x16
      have T16 := below_next T15 x16.below
      clear x16 T15
      go_wp2_with fail
      go_ret
      exact ⟨rfl, B0.trans (T16.mono B0.size)⟩
end Go.Proofs.Ytndiphnadeeofaa.fnExactUnfollow
