/- The contract of ReadHandle, the reference's. -/
import Derived.Test.YtoagpfdhbcgdcaaDoorRdHd
import Derived.Test.YtoagpfdhbcgdcaaDoorOne
namespace Go.Proofs.YtoagpfdhbcgdcaaDoor
open Go.RowKit
set_option linter.unusedVariables false
set_option linter.unusedSimpArgs false
set_option maxRecDepth 8000 in
set_option maxHeartbeats 4000000 in
theorem rhS_any (s : ByteArray) (w : World) (hs : s.size < 4294967281) : Calls Tryd.prog 95 #[.string s] w fun e w' => e = .returned (.tuple #[hdA (rhV s).1.1 (rhV s).1.2, .bool (rhV s).2]) ∧ Ext.of w w' := by
  have hr0 : (w.alloc (.cells #[.string ⟨#[]⟩, .string ⟨#[]⟩] 28)).heap[w.heap.size]? = some (.cells #[.string ⟨#[]⟩, .string ⟨#[]⟩] 28 (0, 0)) := alloc_new' rfl
  have B0 : Below w.heap.size w (w.alloc (.cells #[.string ⟨#[]⟩, .string ⟨#[]⟩] 28)) := (Below.refl _ _).alloc (Nat.le_refl _) _
  go_enter Tryd.func95, Tryd.ntmps95
  go_wp2_with fail
  generalize w.alloc (.cells #[.string ⟨#[]⟩, .string ⟨#[]⟩] 28) = W0 at *
  go_loopw [4] (fun i wr => ∃ k : Nat, 1 ≤ k ∧ (k ≤ s.size ∨ k = 1) ∧ i = .int .i64 k ∧ Hid (noAt s k) ∧ wr = W0) (fun i _ => s.size - (intOf i).toNat)
  case atStart => exact ⟨1, Nat.le_refl _, .inr rfl, rfl, (fun j h1 h2 => by omega), rfl⟩
  case round =>
    obtain ⟨k, hk1, hk, rfl, hno, rfl⟩ := hrel
    by_cases hlt : k < s.size
    · have hbk := byteAt_get (s := s) (j := k) hlt
      by_cases hc : byteAt s k = 64
      · have hc' : (s[k]'hlt).toNat = 64 := by rw [← hbk]; exact hc
        have t1 : (((s[k]'hlt).toNat : Int) == 64) = true := by rw [hc']; rfl
        obtain ⟨e1, e2, e3⟩ := cut_at hno.out hk1 hlt hc
        have HX := hid (fun h => htext_is hk1 hlt hc h)
        have E1 := hid e1
        have E2 := hid e2
        have E3 := hid e3
        clear hno hbk hc e1 e2 e3 hk
        have sz1 : (s.extract 1 k).size ≤ 9223372036854775807 := by rw [ByteArray.size_extract]; omega
        have sz2 : (s.extract (k + 1) s.size).size ≤ 9223372036854775807 := by rw [ByteArray.size_extract]; omega
        have C2 := fun W => hvalS_any (s.extract 1 k) (s.extract (k + 1) s.size) W sz1 sz2
        have C3 := fun W => htextS_any (s.extract 1 k) (s.extract (k + 1) s.size) W sz1 sz2
        clear sz1 sz2
        have hk1w : -9223372036854775808 ≤ (k : Int) + 1 ∧ (k : Int) + 1 ≤ 9223372036854775807 := by omega
        have hkc : 0 ≤ (k : Int) + 1 ∧ (k : Int) + 1 ≤ (s.size : Int) := by omega
        have hka : 1 ≤ (k : Int) := by omega
        have hkb : (k : Int) ≤ (s.size : Int) := by omega
        go_wp2_with fail
        refine wp_region_ghost (d := 8) (G := fun u => u.heap.size = wr.heap.size) (W := fun _ u => WO wr.heap.size wr (Row2 wr.heap.size 28) u) (dead := fun _ _ => false) (Tr := fun i a b => TrO 8 9 i a b) (F := fun i v w' => match i with
            | 0 => v = .string s
            | 1 => v = .int .i64 k
            | 2 => v = .string (s.extract 1 k)
            | 3 => v = .string s
            | 4 => v = .int .i64 k
            | 5 => v = .int .i64 ((k : Int) + 1)
            | 6 => v = .string (s.extract (k + 1) s.size)
            | 7 => v = hdA (s.extract 1 k) (s.extract (k + 1) s.size)
            | 8 => v = .pointer (some ⟨wr.heap.size, 0, none⟩) ∧ wr.heap.size < w'.heap.size
            | 9 => w'.heap[wr.heap.size]? = some (.cells #[.string (s.extract 1 k), .string (s.extract (k + 1) s.size)] 28 (0, 0))
            | _ => True) (by kernel_rfl) (by kernel_rfl) (by kernel_rfl) WO.first rfl ?_ ?_ ?_ ?_
        · intro i kk a b hi hne hW hT hG
          exact (hT.size hne).trans hG
        · intro i j kk a b v hi hj hne hdd haa hW hT hF
          match j with
          | 0 => exact hF
          | 1 => exact hF
          | 2 => exact hF
          | 3 => exact hF
          | 4 => exact hF
          | 5 => exact hF
          | 6 => exact hF
          | 7 => exact hF
          | 8 => exact ⟨hF.1, by rw [hT.size hne]; exact hF.2⟩
          | 9 =>
            by_cases hi2 : i = 8
            · subst hi2; exact absurd (haa.symm.trans (show ancB _ _ _ _ = true by kernel_rfl)) (by decide)
            · have hT2 : a = b := hT.same hi2 hne
              rw [← hT2]; exact hF
          | _ + 10 => trivial
        · refine ⟨fun kk ρ u hkk hc hf hb hW hd hgh => ?_, ?_⟩
          · exact yield_move _ rfl ⟨hb 0 (by kernel_rfl), hW, TrO.rfl' (by decide) (by decide)⟩
          refine ⟨fun kk ρ u hkk hc hf hb hW hd hgh => ?_, ?_⟩
          · exact yield_move _ rfl ⟨hb 4 (by kernel_rfl), hW, TrO.rfl' (by decide) (by decide)⟩
          refine ⟨fun kk ρ u hkk hc hf hb hW hd hgh => ?_, ?_⟩
          · have e0 : ρ (.tmp 23) = .string s := hd.1 rfl rfl
            have e1 : ρ (.tmp 24) = .int .i64 k := hd.2.1 rfl rfl
            exact yield_value (w' := u) (.string (s.extract 1 k)) (by simp [go_sem, hc, hf, e0, e1, IntWalk.i64_in, hk1w, hkc, hka, hkb, hk1, hlt, Nat.le_of_lt hlt]) ⟨rfl, hW, TrO.rfl' (by decide) (by decide)⟩
          refine ⟨fun kk ρ u hkk hc hf hb hW hd hgh => ?_, ?_⟩
          · exact yield_move _ rfl ⟨hb 0 (by kernel_rfl), hW, TrO.rfl' (by decide) (by decide)⟩
          refine ⟨fun kk ρ u hkk hc hf hb hW hd hgh => ?_, ?_⟩
          · exact yield_move _ rfl ⟨hb 4 (by kernel_rfl), hW, TrO.rfl' (by decide) (by decide)⟩
          refine ⟨fun kk ρ u hkk hc hf hb hW hd hgh => ?_, ?_⟩
          · have e0 : ρ (.tmp 27) = .int .i64 k := hd.1 rfl rfl
            exact yield_value (w' := u) (.int .i64 ((k : Int) + 1)) (by simp [go_sem, hc, hf, e0, IntWalk.i64_in, hk1w]) ⟨rfl, hW, TrO.rfl' (by decide) (by decide)⟩
          refine ⟨fun kk ρ u hkk hc hf hb hW hd hgh => ?_, ?_⟩
          · have e0 : ρ (.tmp 26) = .string s := hd.1 rfl rfl
            have e1 : ρ (.tmp 28) = .int .i64 ((k : Int) + 1) := hd.2.1 rfl rfl
            exact yield_value (w' := u) (.string (s.extract (k + 1) s.size)) (by simp [go_sem, hc, hf, e0, e1, IntWalk.i64_in, hk1w, hkc, hka, hkb, hk1, hlt, Nat.le_of_lt hlt]) ⟨rfl, hW, TrO.rfl' (by decide) (by decide)⟩
          refine ⟨fun kk ρ u hkk hc hf hb hW hd hgh => ?_, ?_⟩
          · have e0 : ρ (.tmp 25) = .string (s.extract 1 k) := hd.1 rfl rfl
            have e1 : ρ (.tmp 29) = .string (s.extract (k + 1) s.size) := hd.2.1 rfl rfl
            exact yield_value (w' := u) (hdA (s.extract 1 k) (s.extract (k + 1) s.size)) (by simp [go_sem, hc, hf, e0, e1]) ⟨rfl, hW, TrO.rfl' (by decide) (by decide)⟩
          refine ⟨fun kk ρ u hkk hc hf hb hW hd hgh => ?_, ?_⟩
          · have hsz : u.heap.size = wr.heap.size := hgh (by kernel_rfl)
            have hnew := alloc_new' (w := u) (B := wr.heap.size) (cs := #[.string ⟨#[]⟩, .string ⟨#[]⟩]) (T := 28) hsz.symm
            exact yield_value (w' := u.alloc (.cells #[.string ⟨#[]⟩, .string ⟨#[]⟩] 28)) (.pointer (some ⟨wr.heap.size, 0, none⟩)) (by simp [go_sem, hc, hf, hsz]) ⟨⟨rfl, by rw [← hsz]; simp⟩, hW.new hsz ⟨_, _, hnew⟩, TrO.new⟩
          refine ⟨fun kk ρ u hkk hc hf hb hW hd hgh => ?_, ?_⟩
          · have hF0 : ρ (.tmp 5) = .pointer (some ⟨wr.heap.size, 0, none⟩) ∧ wr.heap.size < u.heap.size := hd.1 rfl rfl
            obtain ⟨e0, hlt⟩ := hF0
            have e1 : ρ (.tmp 30) = (.agg #[.string (s.extract 1 k), .string (s.extract (k + 1) s.size)]) := hd.2.1 rfl rfl
            obtain ⟨x, y, hX⟩ := hW.row hlt
            have f0 := frozen_of_row u wr.heap.size 0 _ _ hX
            have f1 := frozen_of_row u wr.heap.size 1 _ _ hX
            have z0 := cell_of_row u wr.heap.size 0 _ _ _ hX
            have z1 := cell_of_row u wr.heap.size 1 _ _ _ hX
            have ks := row2 (a := .string (s.extract 1 k)) (b := .string (s.extract (k + 1) s.size)) hX
            unfold Yield
            simp [go_sem, hc, hf, e0, e1, f0, f1, z0, z1]
            exact ⟨ks.1, hW.store hlt ks.2 ⟨_, _, ks.1⟩, TrO.store (by decide) (by simp)⟩
          trivial
        intro env w5 hW hF
        have hrow : w5.heap[wr.heap.size]? = some (.cells #[.string (s.extract 1 k), .string (s.extract (k + 1) s.size)] 28 (0, 0)) := hF 9 (of_decide_eq_true (by kernel_rfl)) (fun i hi => rfl)
        have hptr : env 8 = .pointer (some ⟨wr.heap.size, 0, none⟩) := (hF 8 (of_decide_eq_true (by kernel_rfl)) (fun i hi => rfl)).1
        have hW5 := hW.1
        clear hF hW
        have hrng : List.range 42 = [0, 1, 2, 3, 4, 5, 6, 7, 8, 9, 10, 11, 12, 13, 14, 15, 16, 17, 18, 19, 20, 21, 22, 23, 24, 25, 26, 27, 28, 29, 30, 31, 32, 33, 34, 35, 36, 37, 38, 39, 40, 41] := by kernel_rfl
        unfold after
        simp only [List.size_toArray, List.length_cons, List.length_nil, Nat.reduceAdd, hrng, List.map_cons, List.map_nil]
        simp [idxOf, List.findIdx?, List.findIdx?.go, hptr]
        clear hrng hptr
        have B1 := B0.trans (hW5.mono B0.size)
        have hr1 := (hW5.block _ (Array.getElem?_eq_some_iff.1 hr0).1).trans hr0
        have hgN : w.heap.size < wr.heap.size := (Array.getElem?_eq_some_iff.1 hr0).1
        clear B0 hr0 hW5
        have y0 := cell_of_row _ wr.heap.size 0 _ _ _ hrow
        have y1 := cell_of_row _ wr.heap.size 1 _ _ _ hrow
        go_wp2_with fail
        clear y0 y1
        generalize wr.heap.size = N at *
        refine (C2 w5).mono ?_
        rintro e w6 ⟨rfl, x6⟩
        have B2 := B1.trans (x6.below.mono B1.size)
        have hr2 := (x6.below.block _ (Array.getElem?_eq_some_iff.1 hr1).1).trans hr1
        have hrow2 := (x6.below.block _ (Array.getElem?_eq_some_iff.1 hrow).1).trans hrow
        clear B1 hr1 hrow x6 C2
        cases hv : hvalV (s.extract 1 k) (s.extract (k + 1) s.size) with
        | false =>
          have R := hid (rh_no3 (s := s) (by rw [E2.out, E3.out]; exact hv))
          clear hv
          have ks := row2 (a := .string ⟨#[]⟩) (b := .string ⟨#[]⟩) hr2
          have B9 := B2.grown ks.2 B2.size (by rintro _ ⟨rfl⟩; exact Nat.le_refl _)
          have f0 := frozen_of_row _ w.heap.size 0 _ _ hr2
          have f1 := frozen_of_row _ w.heap.size 1 _ _ hr2
          have x0 := cell_of_row _ w.heap.size 0 _ _ _ hr2
          have x1 := cell_of_row _ w.heap.size 1 _ _ _ hr2
          have v0 := cell_of_row _ w.heap.size 0 _ _ _ ks.1
          have v1 := cell_of_row _ w.heap.size 1 _ _ _ ks.1
          go_wp2_with fail
          exact bodyPost_ret (v := .tuple #[hdA ⟨#[]⟩ ⟨#[]⟩, .bool false]) (by simp [results, Tryd.results95, go_sem, v0, v1]) rfl ⟨by rw [R.out], Ext.of_below B9⟩
        | true =>
          have HV := hid hv
          clear hv
          have y0 := cell_of_row _ N 0 _ _ _ hrow2
          have y1 := cell_of_row _ N 1 _ _ _ hrow2
          go_wp2_with fail
          clear y0 y1
          refine (C3 w6).mono ?_
          rintro e w7 ⟨rfl, x7⟩
          have B3 := B2.trans (x7.below.mono B2.size)
          have hr3 := (x7.below.block _ (Array.getElem?_eq_some_iff.1 hr2).1).trans hr2
          have hrow3 := (x7.below.block _ (Array.getElem?_eq_some_iff.1 hrow2).1).trans hrow2
          clear B2 hr2 hrow2 x7 C3
          cases hp : preV s with
          | false =>
            have R := hid (rh_no1 hp)
            have he : ((htextV (s.extract 1 k) (s.extract (k + 1) s.size)).toList == s.toList) = false := by rw [str_eq]; exact decide_eq_false fun e => by have := (HX.out HV.out).1 e; rw [hp] at this; cases this
            clear hp
            have ks := row2 (a := .string ⟨#[]⟩) (b := .string ⟨#[]⟩) hr3
            have B9 := B3.grown ks.2 B3.size (by rintro _ ⟨rfl⟩; exact Nat.le_refl _)
            have f0 := frozen_of_row _ w.heap.size 0 _ _ hr3
            have f1 := frozen_of_row _ w.heap.size 1 _ _ hr3
            have x0 := cell_of_row _ w.heap.size 0 _ _ _ hr3
            have x1 := cell_of_row _ w.heap.size 1 _ _ _ hr3
            have v0 := cell_of_row _ w.heap.size 0 _ _ _ ks.1
            have v1 := cell_of_row _ w.heap.size 1 _ _ _ ks.1
            go_wp2_with fail
            exact bodyPost_ret (v := .tuple #[hdA ⟨#[]⟩ ⟨#[]⟩, .bool false]) (by simp [results, Tryd.results95, go_sem, v0, v1]) rfl ⟨by rw [R.out], Ext.of_below B9⟩
          | true =>
            have R := hid (rh_yes hp E1.out (by rw [E2.out, E3.out]; exact HV.out))
            have he : ((htextV (s.extract 1 k) (s.extract (k + 1) s.size)).toList == s.toList) = true := by rw [str_eq]; exact decide_eq_true ((HX.out HV.out).2 hp)
            rw [E2.out, E3.out] at R
            clear hp
            have y0 := cell_of_row _ N 0 _ _ _ hrow3
            have y1 := cell_of_row _ N 1 _ _ _ hrow3
            have ks := row2 (a := .string (s.extract 1 k)) (b := .string (s.extract (k + 1) s.size)) hr3
            have B9 := B3.grown ks.2 B3.size (by rintro _ ⟨rfl⟩; exact Nat.le_refl _)
            have f0 := frozen_of_row _ w.heap.size 0 _ _ hr3
            have f1 := frozen_of_row _ w.heap.size 1 _ _ hr3
            have x0 := cell_of_row _ w.heap.size 0 _ _ _ hr3
            have x1 := cell_of_row _ w.heap.size 1 _ _ _ hr3
            have v0 := cell_of_row _ w.heap.size 0 _ _ _ ks.1
            have v1 := cell_of_row _ w.heap.size 1 _ _ _ ks.1
            go_wp2_with fail
            exact bodyPost_ret (v := .tuple #[hdA (s.extract 1 k) (s.extract (k + 1) s.size), .bool true]) (by simp [results, Tryd.results95, go_sem, v0, v1]) rfl ⟨by rw [R.out], Ext.of_below B9⟩
      · have hc' : ¬ (s[k]'hlt).toNat = 64 := by rw [← hbk]; exact hc
        have t1 : (((s[k]'hlt).toNat : Int) == 64) = false := by rw [beq_eq_false_iff_ne]; omega
        have N := hid (show noAt s (k + 1) from fun j h1 h2 => by
          rcases Nat.lt_succ_iff_lt_or_eq.1 h2 with h3 | h3
          · exact hno.out j h1 h3
          · rw [h3]; exact hc)
        clear hno hbk hc
        go_wp2_with fail
        go_roundw
        case rel => exact ⟨k + 1, by omega, .inl (by omega), by go_num, N, by first | rfl | trivial⟩
        case measure => simp [intOf]; omega
    · have R := hid (rh_no2 (s := s) (cut_none (fun j h1 h2 => hno.out j h1 (by omega))))
      have t0 : decide ((k : Int) < (s.size : Int)) = false := by simp; omega
      have t2 : decide ((s.size : Int) ≤ (k : Int)) = true := by simp; omega
      clear hno
      have ks := row2 (a := .string ⟨#[]⟩) (b := .string ⟨#[]⟩) hr0
      have B9 := B0.grown ks.2 B0.size (by rintro _ ⟨rfl⟩; exact Nat.le_refl _)
      have f0 := frozen_of_row _ w.heap.size 0 _ _ hr0
      have f1 := frozen_of_row _ w.heap.size 1 _ _ hr0
      have x0 := cell_of_row _ w.heap.size 0 _ _ _ hr0
      have x1 := cell_of_row _ w.heap.size 1 _ _ _ hr0
      have v0 := cell_of_row _ w.heap.size 0 _ _ _ ks.1
      have v1 := cell_of_row _ w.heap.size 1 _ _ _ ks.1
      go_wp2_with fail
      exact bodyPost_ret (v := .tuple #[hdA ⟨#[]⟩ ⟨#[]⟩, .bool false]) (by simp [results, Tryd.results95, go_sem, v0, v1]) rfl ⟨by rw [R.out], Ext.of_below B9⟩
end Go.Proofs.YtoagpfdhbcgdcaaDoor
