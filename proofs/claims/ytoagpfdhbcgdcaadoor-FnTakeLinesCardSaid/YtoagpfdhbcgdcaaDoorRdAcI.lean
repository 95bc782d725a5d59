/- The contract of ReadActivity, the program's. -/
import Derived.Test.YtoagpfdhbcgdcaaDoorRdAcW
namespace Go.Proofs.YtoagpfdhbcgdcaaDoor
open Go.RowKit
set_option linter.unusedVariables false
set_option linter.unusedSimpArgs false
set_option maxRecDepth 8000 in
set_option maxHeartbeats 8000000 in
theorem raI_any (s : ByteArray) (w : World) (hs : s.size < 4294967281) (hM : ML w) (hK : KW w) : Calls Tryd.prog 64 #[.string s] w fun e w' => e = .returned (.tuple #[acA (raV s).1.1 (raV s).1.2.1 (raV s).1.2.2.1 (raV s).1.2.2.2.1 (raV s).1.2.2.2.2, .bool (raV s).2]) ∧ Ext.of w w' := by
  have hr0 : (w.alloc (.cells #[.int .i64 0, .int .i64 0, .string ⟨#[]⟩, .string ⟨#[]⟩, .string ⟨#[]⟩] 30)).heap[w.heap.size]? = some (.cells #[.int .i64 0, .int .i64 0, .string ⟨#[]⟩, .string ⟨#[]⟩, .string ⟨#[]⟩] 30 (0, 0)) := alloc_new' rfl
  have B0 : Below w.heap.size w (w.alloc (.cells #[.int .i64 0, .int .i64 0, .string ⟨#[]⟩, .string ⟨#[]⟩, .string ⟨#[]⟩] 30)) := (Below.refl _ _).alloc (Nat.le_refl _) _
  have hM0 := hM.below B0
  have hK0 := hK.below B0
  clear hM hK
  go_enter Tryd.func64, Tryd.ntmps64
  go_wp2_with fail
  generalize w.alloc (.cells #[.int .i64 0, .int .i64 0, .string ⟨#[]⟩, .string ⟨#[]⟩, .string ⟨#[]⟩] 30) = W0 at *
  refine (split_any s W0 hs hM0).mono ?_
  rintro e w1 ⟨rfl, hw1⟩
  have x1 : Ext.of W0 w1 := by rw [hw1]; exact (Ext.of.refl _).alloc _
  have hp1 : w1.heap[W0.heap.size]? = some (.cells ((wordsV s).map Value.string).toArray 9 (0, 0)) := by rw [hw1]; exact alloc_new' rfl
  have B1 := B0.trans (x1.below.mono B0.size)
  have hr1 := (x1.below.block _ (Array.getElem?_eq_some_iff.1 hr0).1).trans hr0
  have hM1 := hM0.ext x1
  have hK1 := hK0.ext x1
  have hgN : w.heap.size < W0.heap.size := (Array.getElem?_eq_some_iff.1 hr0).1
  clear B0 hr0 hM0 hK0 x1 hw1
  generalize W0.heap.size = g at *
  by_cases h4 : (wordsV s).length = 4
  · obtain ⟨p0, p1, p2, p3, hw⟩ : ∃ p0 p1 p2 p3, wordsV s = [p0, p1, p2, p3] := by
      match hw : wordsV s, h4 with
      | [a, b, c, d], _ => exact ⟨a, b, c, d, rfl⟩
    have RA := ra_four hw
    have hs1 := words_size (s := s) (x := p1) (by rw [hw]; simp)
    have hs2 := words_size (s := s) (x := p2) (by rw [hw]; simp)
    have hs3 := words_size (s := s) (x := p3) (by rw [hw]; simp)
    have hsr := rh_size p2
    rw [hw] at hp1 ⊢
    have HRA := hid RA
    clear RA hw h4
    have CM := fun W => rmI_any p1 W (by omega)
    have CV := fun W => avalI_any (kdV p0) (rmV p1) (rhV p2).1.1 (rhV p2).1.2 p3 W (by omega) (by omega) (by omega)
    have CH := fun W (h : ML W) => rhI_any p2 W (by omega) h
    clear hs1 hs2 hs3 hsr
    have c2 : w1.cell? ⟨g, 2, none⟩ = some (.string p2) := cell_of_row _ g 2 _ _ _ hp1
    go_wp2_with fail
    clear c2
    refine (CH w1 hM1).mono ?_
    rintro e w2 ⟨rfl, x2⟩
    have B2 := B1.trans (x2.below.mono B1.size)
    have hr2 := (x2.below.block _ (Array.getElem?_eq_some_iff.1 hr1).1).trans hr1
    have hp2 := (x2.below.block _ (Array.getElem?_eq_some_iff.1 hp1).1).trans hp1
    have hK2 := hK1.ext x2
    clear B1 hr1 hp1 hM1 hK1 x2 CH
    have RWN := hid (fun h => raW_no (p0 := p0) (p1 := p1) (p2 := p2) (p3 := p3) h)
    have RWY := hid (fun h => raW_yes (p0 := p0) (p1 := p1) (p2 := p2) (p3 := p3) h)
    generalize (rhV p2).1.1 = ha at *
    generalize (rhV p2).1.2 = hq at *
    have hI : (w2.alloc (.cells #[.string ha, .string hq] 28)).heap[w2.heap.size]? = some (.cells #[.string ha, .string hq] 28 (0, 0)) := alloc_new' rfl
    have B3 := B2.alloc B2.size (.cells #[.string ha, .string hq] 28)
    have hr3 := alloc_old (o := (.cells #[.string ha, .string hq] 28)) hr2
    have hp3 := alloc_old (o := (.cells #[.string ha, .string hq] 28)) hp2
    have hK3 := hK2.ext ((Ext.of.refl w2).alloc (.cells #[.string ha, .string hq] 28))
    clear B2 hr2 hp2 hK2
    go_wp2_with fail
    generalize hV : w2.alloc (.cells #[.string ha, .string hq] 28) = V at *
    generalize hBB : w2.heap.size = hb2 at *
    clear hV hBB
    have CC := fun (u : World) (h : Below V.heap.size V u) => (h.block _ (Array.getElem?_eq_some_iff.1 hp3).1).trans hp3
    have CI := fun (u : World) (h : Below V.heap.size V u) => (h.block _ (Array.getElem?_eq_some_iff.1 hI).1).trans hI
    refine wp_region_ghost (d := 13) (G := fun u => u.heap.size = V.heap.size) (W := fun _ u => WO V.heap.size V (Row5 V.heap.size 30) u) (dead := fun _ _ => false) (Tr := fun i a b => TrO 13 14 i a b) (F := fun i v w' => match i with
        | 0 => v = .slice (some ⟨g, 0, none⟩) 4 4
        | 1 => v = .pointer (some ⟨g, 0, none⟩)
        | 2 => v = .string p0
        | 3 => v = .int .i64 (kdV p0)
        | 4 => v = .slice (some ⟨g, 0, none⟩) 4 4
        | 5 => v = .pointer (some ⟨g, 1, none⟩)
        | 6 => v = .string p1
        | 7 => v = .int .i64 (rmV p1)
        | 8 => v = hdA ha hq
        | 9 => v = .slice (some ⟨g, 0, none⟩) 4 4
        | 10 => v = .pointer (some ⟨g, 3, none⟩)
        | 11 => v = .string p3
        | 12 => v = acA (kdV p0) (rmV p1) ha hq p3
        | 13 => v = .pointer (some ⟨V.heap.size, 0, none⟩) ∧ V.heap.size < w'.heap.size
        | 14 => w'.heap[V.heap.size]? = some (.cells #[.int .i64 (kdV p0), .int .i64 (rmV p1), .string ha, .string hq, .string p3] 30 (0, 0))
        | _ => True) (by kernel_rfl) (by kernel_rfl) (by kernel_rfl) WO.first rfl ?_ ?_ ?_ ?_
    · intro i kk a b hi hne hW hT hG
      exact (hT.size hne).trans hG
    · intro i j kk a b v hi hj hne hdd haa hW hT hF
      match j with
      | 0 => exact hF
      | 1 => exact hF
      | 2 => exact hF
      | 3 => exact hF
      | 4 => exact hF
      | 5 => exact hF
      | 6 => exact hF
      | 7 => exact hF
      | 8 => exact hF
      | 9 => exact hF
      | 10 => exact hF
      | 11 => exact hF
      | 12 => exact hF
      | 13 => exact ⟨hF.1, by rw [hT.size hne]; exact hF.2⟩
      | 14 =>
        by_cases hi2 : i = 13
        · subst hi2; exact absurd (haa.symm.trans (show ancB _ _ _ _ = true by kernel_rfl)) (by decide)
        · have hT2 : a = b := hT.same hi2 hne
          rw [← hT2]; exact hF
      | _ + 15 => trivial
    · refine ⟨fun kk ρ u hkk hc hf hb hW hd hgh => ?_, ?_⟩
      · exact yield_move _ rfl ⟨hb 4 (by kernel_rfl), hW, TrO.rfl' (by decide) (by decide)⟩
      refine ⟨fun kk ρ u hkk hc hf hb hW hd hgh => ?_, ?_⟩
      · have e0 : ρ (.tmp 21) = .slice (some ⟨g, 0, none⟩) 4 4 := hd.1 rfl rfl
        exact yield_value (w' := u) (.pointer (some ⟨g, 0, none⟩)) (by simp [go_sem, hc, hf, e0, IntWalk.i64_in, Addr.add]) ⟨rfl, hW, TrO.rfl' (by decide) (by decide)⟩
      refine ⟨fun kk ρ u hkk hc hf hb hW hd hgh => ?_, ?_⟩
      · have e0 : ρ (.tmp 22) = .pointer (some ⟨g, 0, none⟩) := hd.1 rfl rfl
        have hCC := CC u hW.1
        have y0 : u.cell? ⟨g, 0, none⟩ = some (.string p0) := cell_of_row _ g 0 _ _ _ hCC
        exact yield_value (w' := u) (.string p0) (by simp [go_sem, hc, hf, e0, y0]) ⟨rfl, hW, TrO.rfl' (by decide) (by decide)⟩
      refine ⟨fun kk ρ u hkk hc hf hb hW hd hgh => ?_, ?_⟩
      · have e0 : ρ (.tmp 23) = .string p0 := hd.1 rfl rfl
        refine yield_call 91 #[.string p0] (by simp [go_sem, hc, hf, e0]) ?_
        refine (kdI_any p0 u (hK3.below hW.1)).mono ?_
        rintro e' w' ⟨rfl, rfl⟩
        exact ⟨_, rfl, rfl, hW, TrO.rfl' (by decide) (by decide)⟩
      refine ⟨fun kk ρ u hkk hc hf hb hW hd hgh => ?_, ?_⟩
      · exact yield_move _ rfl ⟨hb 4 (by kernel_rfl), hW, TrO.rfl' (by decide) (by decide)⟩
      refine ⟨fun kk ρ u hkk hc hf hb hW hd hgh => ?_, ?_⟩
      · have e0 : ρ (.tmp 25) = .slice (some ⟨g, 0, none⟩) 4 4 := hd.1 rfl rfl
        exact yield_value (w' := u) (.pointer (some ⟨g, 1, none⟩)) (by simp [go_sem, hc, hf, e0, IntWalk.i64_in, Addr.add]) ⟨rfl, hW, TrO.rfl' (by decide) (by decide)⟩
      refine ⟨fun kk ρ u hkk hc hf hb hW hd hgh => ?_, ?_⟩
      · have e0 : ρ (.tmp 26) = .pointer (some ⟨g, 1, none⟩) := hd.1 rfl rfl
        have hCC := CC u hW.1
        have y0 : u.cell? ⟨g, 1, none⟩ = some (.string p1) := cell_of_row _ g 1 _ _ _ hCC
        exact yield_value (w' := u) (.string p1) (by simp [go_sem, hc, hf, e0, y0]) ⟨rfl, hW, TrO.rfl' (by decide) (by decide)⟩
      refine ⟨fun kk ρ u hkk hc hf hb hW hd hgh => ?_, ?_⟩
      · have e0 : ρ (.tmp 27) = .string p1 := hd.1 rfl rfl
        refine yield_call 92 #[.string p1] (by simp [go_sem, hc, hf, e0]) ?_
        refine (CM u).mono ?_
        rintro e' w' ⟨rfl, rfl⟩
        exact ⟨_, rfl, rfl, hW, TrO.rfl' (by decide) (by decide)⟩
      refine ⟨fun kk ρ u hkk hc hf hb hW hd hgh => ?_, ?_⟩
      · have e0 : ρ (.tmp 5) = .pointer (some ⟨hb2, 0, none⟩) := hb 5 (by kernel_rfl)
        have hCI := CI u hW.1
        have y0 := cell_of_row u hb2 0 _ _ _ hCI
        have y1 := cell_of_row u hb2 1 _ _ _ hCI
        exact yield_value (w' := u) (hdA ha hq) (by simp [go_sem, hc, hf, e0, y0, y1]) ⟨rfl, hW, TrO.rfl' (by decide) (by decide)⟩
      refine ⟨fun kk ρ u hkk hc hf hb hW hd hgh => ?_, ?_⟩
      · exact yield_move _ rfl ⟨hb 4 (by kernel_rfl), hW, TrO.rfl' (by decide) (by decide)⟩
      refine ⟨fun kk ρ u hkk hc hf hb hW hd hgh => ?_, ?_⟩
      · have e0 : ρ (.tmp 30) = .slice (some ⟨g, 0, none⟩) 4 4 := hd.1 rfl rfl
        exact yield_value (w' := u) (.pointer (some ⟨g, 3, none⟩)) (by simp [go_sem, hc, hf, e0, IntWalk.i64_in, Addr.add]) ⟨rfl, hW, TrO.rfl' (by decide) (by decide)⟩
      refine ⟨fun kk ρ u hkk hc hf hb hW hd hgh => ?_, ?_⟩
      · have e0 : ρ (.tmp 31) = .pointer (some ⟨g, 3, none⟩) := hd.1 rfl rfl
        have hCC := CC u hW.1
        have y0 : u.cell? ⟨g, 3, none⟩ = some (.string p3) := cell_of_row _ g 3 _ _ _ hCC
        exact yield_value (w' := u) (.string p3) (by simp [go_sem, hc, hf, e0, y0]) ⟨rfl, hW, TrO.rfl' (by decide) (by decide)⟩
      refine ⟨fun kk ρ u hkk hc hf hb hW hd hgh => ?_, ?_⟩
      · have e0 : ρ (.tmp 24) = .int .i64 (kdV p0) := hd.1 rfl rfl
        have e1 : ρ (.tmp 28) = .int .i64 (rmV p1) := hd.2.1 rfl rfl
        have e2 : ρ (.tmp 29) = hdA ha hq := hd.2.2.1 rfl rfl
        have e3 : ρ (.tmp 32) = .string p3 := hd.2.2.2.1 rfl rfl
        exact yield_value (w' := u) (acA (kdV p0) (rmV p1) ha hq p3) (by simp [go_sem, hc, hf, e0, e1, e2, e3]) ⟨rfl, hW, TrO.rfl' (by decide) (by decide)⟩
      refine ⟨fun kk ρ u hkk hc hf hb hW hd hgh => ?_, ?_⟩
      · have hsz : u.heap.size = V.heap.size := hgh (by kernel_rfl)
        have hnew := alloc_new' (w := u) (B := V.heap.size) (cs := #[.int .i64 0, .int .i64 0, .string ⟨#[]⟩, .string ⟨#[]⟩, .string ⟨#[]⟩]) (T := 30) hsz.symm
        exact yield_value (w' := u.alloc (.cells #[.int .i64 0, .int .i64 0, .string ⟨#[]⟩, .string ⟨#[]⟩, .string ⟨#[]⟩] 30)) (.pointer (some ⟨V.heap.size, 0, none⟩)) (by simp [go_sem, hc, hf, hsz]) ⟨⟨rfl, by rw [← hsz]; simp⟩, hW.new hsz ⟨_, _, _, _, _, hnew⟩, TrO.new⟩
      refine ⟨fun kk ρ u hkk hc hf hb hW hd hgh => ?_, ?_⟩
      · have hF0 : ρ (.tmp 7) = .pointer (some ⟨V.heap.size, 0, none⟩) ∧ V.heap.size < u.heap.size := hd.1 rfl rfl
        obtain ⟨e0, hlt⟩ := hF0
        have e1 : ρ (.tmp 33) = (.agg #[.int .i64 (kdV p0), .int .i64 (rmV p1), .string ha, .string hq, .string p3]) := hd.2.1 rfl rfl
        obtain ⟨x, y, z, p, q, hX⟩ := hW.row hlt
        have f0 := frozen_of_row u V.heap.size 0 _ _ hX
        have f1 := frozen_of_row u V.heap.size 1 _ _ hX
        have f2 := frozen_of_row u V.heap.size 2 _ _ hX
        have f3 := frozen_of_row u V.heap.size 3 _ _ hX
        have f4 := frozen_of_row u V.heap.size 4 _ _ hX
        have z0 := cell_of_row u V.heap.size 0 _ _ _ hX
        have z1 := cell_of_row u V.heap.size 1 _ _ _ hX
        have z2 := cell_of_row u V.heap.size 2 _ _ _ hX
        have z3 := cell_of_row u V.heap.size 3 _ _ _ hX
        have z4 := cell_of_row u V.heap.size 4 _ _ _ hX
        have ks := row5 (a := .int .i64 (kdV p0)) (b := .int .i64 (rmV p1)) (c := .string ha) (d := .string hq) (e := .string p3) hX
        unfold Yield
        simp [go_sem, hc, hf, e0, e1, f0, f1, f2, f3, f4, z0, z1, z2, z3, z4]
        exact ⟨ks.1, hW.store hlt ks.2 ⟨_, _, _, _, _, ks.1⟩, TrO.store (by decide) (by simp)⟩
      trivial
    intro env w5 hW hF
    have hrow : w5.heap[V.heap.size]? = some (.cells #[.int .i64 (kdV p0), .int .i64 (rmV p1), .string ha, .string hq, .string p3] 30 (0, 0)) := hF 14 (of_decide_eq_true (by kernel_rfl)) (fun i hi => rfl)
    have hptr : env 13 = .pointer (some ⟨V.heap.size, 0, none⟩) := (hF 13 (of_decide_eq_true (by kernel_rfl)) (fun i hi => rfl)).1
    have hW5 := hW.1
    clear hF hW
    have hrng : List.range 39 = [0, 1, 2, 3, 4, 5, 6, 7, 8, 9, 10, 11, 12, 13, 14, 15, 16, 17, 18, 19, 20, 21, 22, 23, 24, 25, 26, 27, 28, 29, 30, 31, 32, 33, 34, 35, 36, 37, 38] := by kernel_rfl
    unfold after
    simp only [List.size_toArray, List.length_cons, List.length_nil, Nat.reduceAdd, hrng, List.map_cons, List.map_nil]
    simp [idxOf, List.findIdx?, List.findIdx?.go, hptr]
    clear hrng hptr
    have B4 := B3.trans (hW5.mono B3.size)
    have hr4 := (hW5.block _ (Array.getElem?_eq_some_iff.1 hr3).1).trans hr3
    clear B3 hr3 hp3 hI hK3 CC CI CM hW5
    have y0 := cell_of_row _ V.heap.size 0 _ _ _ hrow
    have y1 := cell_of_row _ V.heap.size 1 _ _ _ hrow
    have y2 := cell_of_row _ V.heap.size 2 _ _ _ hrow
    have y3 := cell_of_row _ V.heap.size 3 _ _ _ hrow
    have y4 := cell_of_row _ V.heap.size 4 _ _ _ hrow
    go_wp2_with fail
    clear y0 y1 y2 y3 y4
    generalize V.heap.size = N at *
    refine (CV w5).mono ?_
    rintro e w6 ⟨rfl, x6⟩
    have B5 := B4.trans (x6.below.mono B4.size)
    have hr5 := (x6.below.block _ (Array.getElem?_eq_some_iff.1 hr4).1).trans hr4
    have hrow2 := (x6.below.block _ (Array.getElem?_eq_some_iff.1 hrow).1).trans hrow
    clear B4 hr4 hrow x6 CV
    cases hv : avalV (kdV p0) (rmV p1) ha hq p3 with
    | false =>
      have R := hid (HRA.out.trans (RWN.out hv))
      clear hv HRA
      have ks := row5 (a := (.int .i64 0)) (b := (.int .i64 0)) (c := (.string ⟨#[]⟩)) (d := (.string ⟨#[]⟩)) (e := (.string ⟨#[]⟩)) hr5
      have B9 := B5.grown ks.2 B5.size (by rintro _ ⟨rfl⟩; exact Nat.le_refl _)
      have f0 := frozen_of_row _ w.heap.size 0 _ _ hr5
      have f1 := frozen_of_row _ w.heap.size 1 _ _ hr5
      have f2 := frozen_of_row _ w.heap.size 2 _ _ hr5
      have f3 := frozen_of_row _ w.heap.size 3 _ _ hr5
      have f4 := frozen_of_row _ w.heap.size 4 _ _ hr5
      have x0 := cell_of_row _ w.heap.size 0 _ _ _ hr5
      have x1 := cell_of_row _ w.heap.size 1 _ _ _ hr5
      have x2 := cell_of_row _ w.heap.size 2 _ _ _ hr5
      have x3 := cell_of_row _ w.heap.size 3 _ _ _ hr5
      have x4 := cell_of_row _ w.heap.size 4 _ _ _ hr5
      have v0 := cell_of_row _ w.heap.size 0 _ _ _ ks.1
      have v1 := cell_of_row _ w.heap.size 1 _ _ _ ks.1
      have v2 := cell_of_row _ w.heap.size 2 _ _ _ ks.1
      have v3 := cell_of_row _ w.heap.size 3 _ _ _ ks.1
      have v4 := cell_of_row _ w.heap.size 4 _ _ _ ks.1
      go_wp2_with fail
      exact bodyPost_ret (v := .tuple #[acA 0 0 ⟨#[]⟩ ⟨#[]⟩ ⟨#[]⟩, .bool false]) (by simp [results, Tryd.results64, go_sem, v0, v1, v2, v3, v4]) rfl ⟨by rw [R.out]; try rfl, Ext.of_below B9⟩
    | true =>
      have R := hid (HRA.out.trans (RWY.out hv))
      clear hv HRA
      have y0 := cell_of_row _ N 0 _ _ _ hrow2
      have y1 := cell_of_row _ N 1 _ _ _ hrow2
      have y2 := cell_of_row _ N 2 _ _ _ hrow2
      have y3 := cell_of_row _ N 3 _ _ _ hrow2
      have y4 := cell_of_row _ N 4 _ _ _ hrow2
      have ks := row5 (a := (.int .i64 (kdV p0))) (b := (.int .i64 (rmV p1))) (c := (.string ha)) (d := (.string hq)) (e := (.string p3)) hr5
      have B9 := B5.grown ks.2 B5.size (by rintro _ ⟨rfl⟩; exact Nat.le_refl _)
      have f0 := frozen_of_row _ w.heap.size 0 _ _ hr5
      have f1 := frozen_of_row _ w.heap.size 1 _ _ hr5
      have f2 := frozen_of_row _ w.heap.size 2 _ _ hr5
      have f3 := frozen_of_row _ w.heap.size 3 _ _ hr5
      have f4 := frozen_of_row _ w.heap.size 4 _ _ hr5
      have x0 := cell_of_row _ w.heap.size 0 _ _ _ hr5
      have x1 := cell_of_row _ w.heap.size 1 _ _ _ hr5
      have x2 := cell_of_row _ w.heap.size 2 _ _ _ hr5
      have x3 := cell_of_row _ w.heap.size 3 _ _ _ hr5
      have x4 := cell_of_row _ w.heap.size 4 _ _ _ hr5
      have v0 := cell_of_row _ w.heap.size 0 _ _ _ ks.1
      have v1 := cell_of_row _ w.heap.size 1 _ _ _ ks.1
      have v2 := cell_of_row _ w.heap.size 2 _ _ _ ks.1
      have v3 := cell_of_row _ w.heap.size 3 _ _ _ ks.1
      have v4 := cell_of_row _ w.heap.size 4 _ _ _ ks.1
      go_wp2_with fail
      exact bodyPost_ret (v := .tuple #[acA (kdV p0) (rmV p1) ha hq p3, .bool true]) (by simp [results, Tryd.results64, go_sem, v0, v1, v2, v3, v4]) rfl ⟨by rw [R.out]; try rfl, Ext.of_below B9⟩
  · have R := hid (ra_not h4)
    have t0 : ((wordsV s).length : Int) == 4 ↔ False := by simp; omega
    clear hp1 hK1 hM1
    have t1 : (((wordsV s).length : Int) == 4) = false := by rw [beq_eq_false_iff_ne]; omega
    clear t0
    have ks := row5 (a := (.int .i64 0)) (b := (.int .i64 0)) (c := (.string ⟨#[]⟩)) (d := (.string ⟨#[]⟩)) (e := (.string ⟨#[]⟩)) hr1
    have B9 := B1.grown ks.2 B1.size (by rintro _ ⟨rfl⟩; exact Nat.le_refl _)
    have f0 := frozen_of_row _ w.heap.size 0 _ _ hr1
    have f1 := frozen_of_row _ w.heap.size 1 _ _ hr1
    have f2 := frozen_of_row _ w.heap.size 2 _ _ hr1
    have f3 := frozen_of_row _ w.heap.size 3 _ _ hr1
    have f4 := frozen_of_row _ w.heap.size 4 _ _ hr1
    have x0 := cell_of_row _ w.heap.size 0 _ _ _ hr1
    have x1 := cell_of_row _ w.heap.size 1 _ _ _ hr1
    have x2 := cell_of_row _ w.heap.size 2 _ _ _ hr1
    have x3 := cell_of_row _ w.heap.size 3 _ _ _ hr1
    have x4 := cell_of_row _ w.heap.size 4 _ _ _ hr1
    have v0 := cell_of_row _ w.heap.size 0 _ _ _ ks.1
    have v1 := cell_of_row _ w.heap.size 1 _ _ _ ks.1
    have v2 := cell_of_row _ w.heap.size 2 _ _ _ ks.1
    have v3 := cell_of_row _ w.heap.size 3 _ _ _ ks.1
    have v4 := cell_of_row _ w.heap.size 4 _ _ _ ks.1
    go_wp2_with fail
    exact bodyPost_ret (v := .tuple #[acA 0 0 ⟨#[]⟩ ⟨#[]⟩ ⟨#[]⟩, .bool false]) (by simp [results, Tryd.results64, go_sem, v0, v1, v2, v3, v4]) rfl ⟨by rw [R.out]; try rfl, Ext.of_below B9⟩
end Go.Proofs.YtoagpfdhbcgdcaaDoor
