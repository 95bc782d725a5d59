/- The walk of FnExactSignedOn: it returns true and turns nothing that was there. -/
import Derived.Test.YtcpepjnmjiffcaaSignedOn
namespace Go.Proofs.Ytcpepjnmjiffcaa.fnExactSignedOn
open Go.RowKit
set_option linter.unusedVariables false
set_option linter.unusedSimpArgs false
set_option maxHeartbeats 2000000 in
set_option maxRecDepth 100000 in
theorem walk (a0 : Option Addr) (len0 cap0 : Nat) (z0 : List Tn) (s : ByteArray) (m x g : Int) (a2 : Int) (w : World) (w0 : Sl w a0 len0 cap0 4 (tns z0) ∧ tnOk z0) (w1 : s.size ≤ maxLen) (w1' : (Lit.int .i64 m).wf = true) (w1x : (Lit.int .i64 x).wf = true) (w1g : (Lit.int .i64 g).wf = true) (hw2 : (Lit.int .i64 a2).wf = true) :
    Calls Try.prog 9 #[.slice a0 len0 cap0, sigA s m x g, .int .i64 a2] w fun e w' => e = .returned (.bool true) ∧ Below w.heap.size w w' := by
  obtain ⟨S, _⟩ := w0
  clear w1' w1x w1g
  have hs : s.size ≤ 9223372036854775807 := by unfold maxLen at w1; omega
  have HW2 := hid hw2
  have B0 : Below w.heap.size w (w.alloc (.cells #[.string s, .int .i64 m, .int .i64 x, .int .i64 g] 54)) := (Below.refl _ _).alloc (Nat.le_refl _) _
  have hc : (w.alloc (.cells #[.string s, .int .i64 m, .int .i64 x, .int .i64 g] 54)).heap[w.heap.size]? = some (.cells #[.string s, .int .i64 m, .int .i64 x, .int .i64 g] 54 (0, 0)) := alloc_new' rfl
  have S := S.below B0
  go_enter Try.func9, Try.ntmps9
  go_wp2_with fail
  generalize hV0 : w.alloc (.cells #[.string s, .int .i64 m, .int .i64 x, .int .i64 g] 54) = V0 at *
  clear hV0
  have HBX := hid hc
  have HLT := hid (Array.getElem?_eq_some_iff.1 hc).1
  clear hc hw2
  refine (szTurnS_any _ _ _ z0 1048576 _ S (by omega) (by omega)).mono ?_
  rintro e1 v1 ⟨r, rfl, r0, r1, r2, x1⟩
  have T1 := x1.below
  by_cases hr : r < 0
  · clear r2 x1
    go_wp2_with fail
    go_ret
    exact ⟨rfl, B0.trans (T1.mono B0.size)⟩
  · have hn : len0 ≤ 1048576 := by have := r2 (by omega); omega
    clear r2 x1
    obtain ⟨k, rfl⟩ := Int.eq_ofNat_of_zero_le (show 0 ≤ r by omega)
    have hb := (T1.block _ HLT.out).trans HBX.out
    have bx0 := cell_of_row _ w.heap.size 0 _ _ _ hb
    have bx1 := cell_of_row _ w.heap.size 1 _ _ _ hb
    have bx2 := cell_of_row _ w.heap.size 2 _ _ _ hb
    have bx3 := cell_of_row _ w.heap.size 3 _ _ _ hb
    clear hb
    go_wp2_with fail
    clear bx0 bx1 bx2 bx3
    by_cases hk : s.size ≤ k
    · refine (szSigned_yes s m x g k (by omega) hk _).mono ?_
      rintro e1 wq ⟨rfl, x2⟩
      have T2 := below_next T1 x2.below
      have hb := (T2.block _ HLT.out).trans HBX.out
      have bx0 := cell_of_row _ w.heap.size 0 _ _ _ hb
      have bx1 := cell_of_row _ w.heap.size 1 _ _ _ hb
      have bx2 := cell_of_row _ w.heap.size 2 _ _ _ hb
      have bx3 := cell_of_row _ w.heap.size 3 _ _ _ hb
      have SQ0 := S.below T2
      have hpos : decide ((k : Int) - s.size < 0) = false := by simp; omega
      have hw2 := HW2.out
      clear hb x2 T1
      go_wp2_with fail
      refine wp_region_steps (W := fun _ w' => Ext.of wq w') (Tr := fun a b => Ext.of a b) (F := fun i v w' => match i with
          | 0 => v = .slice a0 len0 cap0
          | 1 => ∃ B d, v = .slice B len0 d ∧ w'.ownsRow wq.heap.size 39 4 (.slice B len0 d) len0 (tns z0)
          | 2 => v = sigA s m x g
          | 3 => v = sigA s m x g
          | 4 => v = .int .i64 a2
          | 5 => v = .bool (onV z0 s m x g a2)
          | 6 => v = .bool (onV z0 s m x g a2)
          | _ => True) (by kernel_rfl) (by kernel_rfl) ?_ ?_ ?_ ?_
      · exact Ext.of.drew (Ext.of.refl _)
      · intro kk a b i v hW hT hF
        match i with
        | 0 => exact hF
        | 1 => obtain ⟨B, d, h1, h2⟩ := hF; exact ⟨B, d, h1, own_ext h2 hT⟩
        | 2 => exact hF
        | 3 => exact hF
        | 4 => exact hF
        | 5 => exact hF
        | 6 => exact hF
        | _ + 7 => trivial
      · refine ⟨fun kk ρ u hkk hc hf hb hW hd => ?_, ?_⟩
        · exact yield_move _ rfl ⟨hb 0 (by kernel_rfl), hW, Ext.of.refl _⟩
        refine ⟨fun kk ρ u hkk hc hf hb hW hd => ?_, ?_⟩
        · have e0 : ρ (.tmp 21) = .slice a0 len0 cap0 := hd.1 rfl rfl
          clear hd hb
          refine yield_call 13 #[.slice a0 len0 cap0] (by simp [go_sem, hc, hf, e0]) ?_
          refine (toTurnS_any _ _ _ z0 u (SQ0.ext hW) hn).mono ?_
          rintro e' w' ⟨rfl, o, b⟩
          exact ⟨_, rfl, ⟨_, _, rfl, own_lower o hW.size⟩, hW.trans (Ext.of_below b), Ext.of_below b⟩
        refine ⟨fun kk ρ u hkk hc hf hb hW hd => ?_, ?_⟩
        · have e0 : ρ (.tmp 4) = .pointer (some ⟨w.heap.size, 0, none⟩) := hb 4 (by kernel_rfl)
          clear hd hb
          have x0 := hW.cell bx0
          have x1 := hW.cell bx1
          have x2 := hW.cell bx2
          have x3 := hW.cell bx3
          exact yield_value (w' := u) (sigA s m x g) (by simp [go_sem, hc, hf, e0, x0, x1, x2, x3]) ⟨rfl, hW, Ext.of.refl _⟩
        refine ⟨fun kk ρ u hkk hc hf hb hW hd => ?_, ?_⟩
        · have e0 : ρ (.tmp 23) = sigA s m x g := hd.1 rfl rfl
          clear hd hb
          refine yield_call 31 #[sigA s m x g] (by simp [go_sem, hc, hf, e0]) ?_
          refine (toSigned_any _ _ _ _ u).mono ?_
          rintro e' w' ⟨rfl, x⟩
          exact ⟨_, rfl, rfl, hW.trans x, x⟩
        refine ⟨fun kk ρ u hkk hc hf hb hW hd => ?_, ?_⟩
        · exact yield_move _ rfl ⟨hb 2 (by kernel_rfl), hW, Ext.of.refl _⟩
        refine ⟨fun kk ρ u hkk hc hf hb hW hd => ?_, ?_⟩
        · obtain ⟨B0, d0, e0, o0⟩ : ∃ B d, ρ (.tmp 22) = .slice B len0 d ∧ u.ownsRow wq.heap.size 39 4 (.slice B len0 d) len0 (tns z0) := hd.1 rfl rfl
          have e1 : ρ (.tmp 24) = sigA s m x g := hd.2.1 rfl rfl
          have e2 : ρ (.tmp 25) = .int .i64 a2 := hd.2.2.1 rfl rfl
          clear hd hb
          refine yield_call 30 #[.slice B0 len0 d0, sigA s m x g, .int .i64 a2] (by simp [go_sem, hc, hf, e0, e1, e2]) ?_
          refine (signedOnS_any _ _ _ z0 s m x g a2 u (own_sl o0) hs hw2).mono ?_
          rintro e' w' ⟨rfl, x⟩
          exact ⟨_, rfl, rfl, hW.trans x, x⟩
        refine ⟨fun kk ρ u hkk hc hf hb hW hd => ?_, ?_⟩
        · exact yield_assign _ rfl ⟨hd.1 rfl rfl, hW, Ext.of.refl _⟩
        trivial
      intro env wv hW hF
      have ev : env 6 = .bool (onV z0 s m x g a2) := hF 6 (of_decide_eq_true (by kernel_rfl))
      clear hF
      have hr : List.range 42 = [0, 1, 2, 3, 4, 5, 6, 7, 8, 9, 10, 11, 12, 13, 14, 15, 16, 17, 18, 19, 20, 21, 22, 23, 24, 25, 26, 27, 28, 29, 30, 31, 32, 33, 34, 35, 36, 37, 38, 39, 40, 41] := rfl
      unfold after
      simp only [List.size_toArray, List.length_cons, List.length_nil, Nat.reduceAdd, hr, List.map_cons, List.map_nil]
      simp [idxOf, List.findIdx?, List.findIdx?.go, ev]
      clear hr
      have T3 := below_next T2 hW.below
      clear hW T2 bx0 bx1 bx2 bx3 SQ0 ev
      go_wp2_with fail
      refine (toTurnS_any _ _ _ z0 _ (S.below T3) hn).mono ?_
      rintro e1 w4 ⟨rfl, o4, b4⟩
      have T4 := below_next T3 b4
      clear b4 T3
      have hb := (T4.block _ HLT.out).trans HBX.out
      have bx0 := cell_of_row _ w.heap.size 0 _ _ _ hb
      have bx1 := cell_of_row _ w.heap.size 1 _ _ _ hb
      have bx2 := cell_of_row _ w.heap.size 2 _ _ _ hb
      have bx3 := cell_of_row _ w.heap.size 3 _ _ _ hb
      clear hb
      go_wp2_with fail
      clear bx0 bx1 bx2 bx3
      refine (toSigned_any _ _ _ _ _).mono ?_
      rintro e1 w5 ⟨rfl, x5⟩
      have o5 := own_ext o4 x5
      have T5 := below_next T4 x5.below
      clear o4 x5 T4
      go_wp2_with fail
      refine (signedOnI_any _ _ _ z0 s m x g a2 _ (own_sl o5) hs HW2.out).mono ?_
      rintro e1 w6 ⟨rfl, x6⟩
      have o6 := own_ext o5 x6
      have T6 := below_next T5 x6.below
      clear o5 x6 T5
      go_wp2_with fail
      refine (toTurnS_any _ _ _ z0 _ (S.below T6) hn).mono ?_
      rintro e1 w7 ⟨rfl, o7, b7⟩
      have T7 := below_next T6 b7
      have o8 := own_below o6 b7
      clear o6 b7 T6
      go_wp2_with fail
      refine (eqTurnS_any _ _ _ _ _ _ z0 z0 _ (own_sl o8) (own_sl o7)).mono ?_
      rintro e1 w8 ⟨rfl, x8⟩
      have T8 := below_next T7 x8.below
      clear o7 o8 x8 T7
      go_wp2_with fail
      go_ret
      exact ⟨rfl, B0.trans (T8.mono B0.size)⟩
    · refine (szSigned_no s m x g k (by omega) hk w1 _).mono ?_
      rintro e1 v2 ⟨rfl, x2⟩
      have T2 := below_next T1 x2.below
      clear x2
      go_wp2_with fail
      go_ret
      exact ⟨rfl, B0.trans (T2.mono B0.size)⟩
end Go.Proofs.Ytcpepjnmjiffcaa.fnExactSignedOn
