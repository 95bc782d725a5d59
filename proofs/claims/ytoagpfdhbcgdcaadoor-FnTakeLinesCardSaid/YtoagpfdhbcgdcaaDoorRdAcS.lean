/- The contract of ReadActivity, the reference's. -/
import Derived.Test.YtoagpfdhbcgdcaaDoorRdAcW
namespace Go.Proofs.YtoagpfdhbcgdcaaDoor
open Go.RowKit
set_option linter.unusedVariables false
set_option linter.unusedSimpArgs false
/-- One cell of a block is stored. -/
theorem setAt {w : World} {r i : Nat} {cs : Array Value} {T : TypeId} {v : Value} (hz : w.heap[r]? = some (.cells cs T (0, 0))) : (w.setCell ⟨r, i, none⟩ v).heap[r]? = some (.cells (cs.setIfInBounds i v) T (0, 0)) ∧ w.grownBy (w.setCell ⟨r, i, none⟩ v) (some r) := by
  refine ⟨by simpa using heap_setCell_same w r i cs T v hz, rfl, rfl, rfl, by simp, fun k _ hk' => ?_⟩
  exact heap_setCell_other _ ⟨r, i, none⟩ k _ (fun e => hk' (by rw [e]))
theorem kdTo_range (s : ByteArray) : ∀ k, -1 ≤ kdTo s k ∧ kdTo s k < k
  | 0 => by unfold kdTo; omega
  | k + 1 => by have := kdTo_range s k; unfold kdTo; split <;> omega
theorem own_four {u : World} {base g ec : Nat} {p0 p1 p2 p3 : ByteArray} (O : u.ownsRow base 9 1 (.slice (some ⟨g, 0, none⟩) 4 ec) 4 (sts [p0, p1, p2, p3])) :
    u.cell? ⟨g, 0, none⟩ = some (.string p0) ∧ u.cell? ⟨g, 1, none⟩ = some (.string p1) ∧ u.cell? ⟨g, 2, none⟩ = some (.string p2) ∧ u.cell? ⟨g, 3, none⟩ = some (.string p3) := by
  refine ⟨?_, ?_, ?_, ?_⟩
  · obtain ⟨v, h1, h2⟩ := own_old O (k := 0) (by omega); rw [h2]; exact h1.symm
  · obtain ⟨v, h1, h2⟩ := own_old O (k := 1) (by omega); rw [h2]; exact h1.symm
  · obtain ⟨v, h1, h2⟩ := own_old O (k := 2) (by omega); rw [h2]; exact h1.symm
  · obtain ⟨v, h1, h2⟩ := own_old O (k := 3) (by omega); rw [h2]; exact h1.symm
set_option maxRecDepth 8000 in
set_option maxHeartbeats 16000000 in
theorem raS_any (s : ByteArray) (w : World) (hs : s.size < 4294967281) : Calls Tryd.prog 65 #[.string s] w fun e w' => e = .returned (.tuple #[acA (raV s).1.1 (raV s).1.2.1 (raV s).1.2.2.1 (raV s).1.2.2.2.1 (raV s).1.2.2.2.2, .bool (raV s).2]) ∧ Ext.of w w' := by
  have hr0 : (w.alloc (.cells #[.int .i64 0, .int .i64 0, .string ⟨#[]⟩, .string ⟨#[]⟩, .string ⟨#[]⟩] 30)).heap[w.heap.size]? = some (.cells #[.int .i64 0, .int .i64 0, .string ⟨#[]⟩, .string ⟨#[]⟩, .string ⟨#[]⟩] 30 (0, 0)) := alloc_new' rfl
  have B0 : Below w.heap.size w (w.alloc (.cells #[.int .i64 0, .int .i64 0, .string ⟨#[]⟩, .string ⟨#[]⟩, .string ⟨#[]⟩] 30)) := (Below.refl _ _).alloc (Nat.le_refl _) _
  go_enter Tryd.func65, Tryd.ntmps65
  go_wp2_with fail
  generalize w.alloc (.cells #[.int .i64 0, .int .i64 0, .string ⟨#[]⟩, .string ⟨#[]⟩, .string ⟨#[]⟩] 30) = W0 at *
  refine (wordsS_any s W0 hs).mono ?_
  rintro e w1 ⟨C, n, ec, rfl, O, b1⟩
  have hgN : w.heap.size < W0.heap.size := (Array.getElem?_eq_some_iff.1 hr0).1
  have B1 := B0.trans (b1.mono B0.size)
  have hr1 := (b1.block _ hgN).trans hr0
  have HLW := hid (fun j (e : (Value.slice C n ec).ownBlock = some j) => (O.lt j e).1)
  have O := own_lower O B0.size
  have hnl := own_count O stC_len (by omega)
  have HG := hid hgN
  clear B0 hr0 b1 hgN
  by_cases h4 : (wordsV s).length = 4
  · obtain ⟨p0, p1, p2, p3, hw⟩ : ∃ p0 p1 p2 p3, wordsV s = [p0, p1, p2, p3] := by
      match hw : wordsV s, h4 with
      | [a, b, c, d], _ => exact ⟨a, b, c, d, rfl⟩
    have HRA := hid (ra_four hw)
    have hs1 := words_size (s := s) (x := p1) (by rw [hw]; simp)
    have hs2 := words_size (s := s) (x := p2) (by rw [hw]; simp)
    have hs3 := words_size (s := s) (x := p3) (by rw [hw]; simp)
    have hsr := rh_size p2
    obtain rfl : n = 4 := by omega
    rw [hw] at O
    obtain ⟨g, rfl⟩ : ∃ g, C = some ⟨g, 0, none⟩ := by
      obtain ⟨A', c', hv, _, _, h3⟩ := own_form O
      injection hv with h5 _ _
      subst h5
      rcases h3 with rfl | ⟨g, h3, _⟩
      · obtain ⟨ad, y, hA2, _⟩ := (own_sl O).st (j := 0) (by omega)
        cases hA2
      · exact ⟨g, h3⟩
    have CM := fun W => rmS_any p1 W (by omega)
    have CV := fun W => avalS_any (kdV p0) (rmV p1) (rhV p2).1.1 (rhV p2).1.2 p3 W (by omega) (by omega) (by omega)
    have CH := fun W => rhS_any p2 W (by omega)
    have RWN := hid (fun h => raW_no (p0 := p0) (p1 := p1) (p2 := p2) (p3 := p3) h)
    have RWY := hid (fun h => raW_yes (p0 := p0) (p1 := p1) (p2 := p2) (p3 := p3) h)
    have RWH := hid (fun h => raW_hd (p0 := p0) (p1 := p1) (p2 := p2) (p3 := p3) h)
    have hgl := (O.lt g rfl).2
    clear hs1 hs2 hs3 hsr hw h4 hnl
    go_wp2_with fail
    have CO := fun (u : World) (h : Below w1.heap.size w1 u) => own_four (own_below O h)
    refine wp_region_ghost (d := 8) (G := fun u => u.heap.size = w1.heap.size) (W := fun _ u => WO w1.heap.size w1 (Row5 w1.heap.size 30) u) (dead := fun _ _ => false) (Tr := fun i a b => TrO 8 9 i a b) (F := fun i v w' => match i with
        | 0 => v = .slice (some ⟨g, 0, none⟩) 4 ec
        | 1 => v = .pointer (some ⟨g, 1, none⟩)
        | 2 => v = .string p1
        | 3 => v = .int .i64 (rmV p1)
        | 4 => v = .slice (some ⟨g, 0, none⟩) 4 ec
        | 5 => v = .pointer (some ⟨g, 3, none⟩)
        | 6 => v = .string p3
        | 7 => v = acA (-1) (rmV p1) ⟨#[]⟩ ⟨#[]⟩ p3
        | 8 => v = .pointer (some ⟨w1.heap.size, 0, none⟩) ∧ w1.heap.size < w'.heap.size
        | 9 => w'.heap[w1.heap.size]? = some (.cells #[.int .i64 (-1), .int .i64 (rmV p1), .string ⟨#[]⟩, .string ⟨#[]⟩, .string p3] 30 (0, 0))
        | _ => True) (by kernel_rfl) (by kernel_rfl) (by kernel_rfl) WO.first rfl ?_ ?_ ?_ ?_
    · intro i kk a b hi hne hW hT hG
      exact (hT.size hne).trans hG
    · intro i j kk a b v hi hj hne hdd haa hW hT hF
      match j with
      | 0 => exact hF
      | 1 => exact hF
      | 2 => exact hF
      | 3 => exact hF
      | 4 => exact hF
      | 5 => exact hF
      | 6 => exact hF
      | 7 => exact hF
      | 8 => exact ⟨hF.1, by rw [hT.size hne]; exact hF.2⟩
      | 9 =>
        by_cases hi2 : i = 8
        · subst hi2; exact absurd (haa.symm.trans (show ancB _ _ _ _ = true by kernel_rfl)) (by decide)
        · have hT2 : a = b := hT.same hi2 hne
          rw [← hT2]; exact hF
      | _ + 10 => trivial
    · refine ⟨fun kk ρ u hkk hc hf hb hW hd hgh => ?_, ?_⟩
      · exact yield_move _ rfl ⟨hb 4 (by kernel_rfl), hW, TrO.rfl' (by decide) (by decide)⟩
      refine ⟨fun kk ρ u hkk hc hf hb hW hd hgh => ?_, ?_⟩
      · have e0 : ρ (.tmp 15) = .slice (some ⟨g, 0, none⟩) 4 ec := hd.1 rfl rfl
        exact yield_value (w' := u) (.pointer (some ⟨g, 1, none⟩)) (by simp [go_sem, hc, hf, e0, IntWalk.i64_in, Addr.add]) ⟨rfl, hW, TrO.rfl' (by decide) (by decide)⟩
      refine ⟨fun kk ρ u hkk hc hf hb hW hd hgh => ?_, ?_⟩
      · have e0 : ρ (.tmp 16) = .pointer (some ⟨g, 1, none⟩) := hd.1 rfl rfl
        have y0 : u.cell? ⟨g, 1, none⟩ = some (.string p1) := (CO u hW.1).2.1
        exact yield_value (w' := u) (.string p1) (by simp [go_sem, hc, hf, e0, y0]) ⟨rfl, hW, TrO.rfl' (by decide) (by decide)⟩
      refine ⟨fun kk ρ u hkk hc hf hb hW hd hgh => ?_, ?_⟩
      · have e0 : ρ (.tmp 17) = .string p1 := hd.1 rfl rfl
        refine yield_call 94 #[.string p1] (by simp [go_sem, hc, hf, e0]) ?_
        refine (CM u).mono ?_
        rintro e' w' ⟨rfl, rfl⟩
        exact ⟨_, rfl, rfl, hW, TrO.rfl' (by decide) (by decide)⟩
      refine ⟨fun kk ρ u hkk hc hf hb hW hd hgh => ?_, ?_⟩
      · exact yield_move _ rfl ⟨hb 4 (by kernel_rfl), hW, TrO.rfl' (by decide) (by decide)⟩
      refine ⟨fun kk ρ u hkk hc hf hb hW hd hgh => ?_, ?_⟩
      · have e0 : ρ (.tmp 19) = .slice (some ⟨g, 0, none⟩) 4 ec := hd.1 rfl rfl
        exact yield_value (w' := u) (.pointer (some ⟨g, 3, none⟩)) (by simp [go_sem, hc, hf, e0, IntWalk.i64_in, Addr.add]) ⟨rfl, hW, TrO.rfl' (by decide) (by decide)⟩
      refine ⟨fun kk ρ u hkk hc hf hb hW hd hgh => ?_, ?_⟩
      · have e0 : ρ (.tmp 20) = .pointer (some ⟨g, 3, none⟩) := hd.1 rfl rfl
        have y0 : u.cell? ⟨g, 3, none⟩ = some (.string p3) := (CO u hW.1).2.2.2
        exact yield_value (w' := u) (.string p3) (by simp [go_sem, hc, hf, e0, y0]) ⟨rfl, hW, TrO.rfl' (by decide) (by decide)⟩
      refine ⟨fun kk ρ u hkk hc hf hb hW hd hgh => ?_, ?_⟩
      · have e0 : ρ (.tmp 18) = .int .i64 (rmV p1) := hd.1 rfl rfl
        have e1 : ρ (.tmp 21) = .string p3 := hd.2.1 rfl rfl
        exact yield_value (w' := u) (acA (-1) (rmV p1) ⟨#[]⟩ ⟨#[]⟩ p3) (by simp [go_sem, hc, hf, e0, e1]) ⟨rfl, hW, TrO.rfl' (by decide) (by decide)⟩
      refine ⟨fun kk ρ u hkk hc hf hb hW hd hgh => ?_, ?_⟩
      · have hsz : u.heap.size = w1.heap.size := hgh (by kernel_rfl)
        have hnew := alloc_new' (w := u) (B := w1.heap.size) (cs := #[.int .i64 0, .int .i64 0, .string ⟨#[]⟩, .string ⟨#[]⟩, .string ⟨#[]⟩]) (T := 30) hsz.symm
        exact yield_value (w' := u.alloc (.cells #[.int .i64 0, .int .i64 0, .string ⟨#[]⟩, .string ⟨#[]⟩, .string ⟨#[]⟩] 30)) (.pointer (some ⟨w1.heap.size, 0, none⟩)) (by simp [go_sem, hc, hf, hsz]) ⟨⟨rfl, by rw [← hsz]; simp⟩, hW.new hsz ⟨_, _, _, _, _, hnew⟩, TrO.new⟩
      refine ⟨fun kk ρ u hkk hc hf hb hW hd hgh => ?_, ?_⟩
      · have hF0 : ρ (.tmp 5) = .pointer (some ⟨w1.heap.size, 0, none⟩) ∧ w1.heap.size < u.heap.size := hd.1 rfl rfl
        obtain ⟨e0, hlt⟩ := hF0
        have e1 : ρ (.tmp 22) = (.agg #[.int .i64 (-1), .int .i64 (rmV p1), .string ⟨#[]⟩, .string ⟨#[]⟩, .string p3]) := hd.2.1 rfl rfl
        obtain ⟨x, y, z, p, q, hX⟩ := hW.row hlt
        have f0 := frozen_of_row u w1.heap.size 0 _ _ hX
        have f1 := frozen_of_row u w1.heap.size 1 _ _ hX
        have f2 := frozen_of_row u w1.heap.size 2 _ _ hX
        have f3 := frozen_of_row u w1.heap.size 3 _ _ hX
        have f4 := frozen_of_row u w1.heap.size 4 _ _ hX
        have z0 := cell_of_row u w1.heap.size 0 _ _ _ hX
        have z1 := cell_of_row u w1.heap.size 1 _ _ _ hX
        have z2 := cell_of_row u w1.heap.size 2 _ _ _ hX
        have z3 := cell_of_row u w1.heap.size 3 _ _ _ hX
        have z4 := cell_of_row u w1.heap.size 4 _ _ _ hX
        have ks := row5 (a := .int .i64 (-1)) (b := .int .i64 (rmV p1)) (c := .string ⟨#[]⟩) (d := .string ⟨#[]⟩) (e := .string p3) hX
        unfold Yield
        simp [go_sem, hc, hf, e0, e1, f0, f1, f2, f3, f4, z0, z1, z2, z3, z4]
        exact ⟨ks.1, hW.store hlt ks.2 ⟨_, _, _, _, _, ks.1⟩, TrO.store (by decide) (by simp)⟩
      trivial
    intro env w5 hW hF
    have hrow : w5.heap[w1.heap.size]? = some (.cells #[.int .i64 (-1), .int .i64 (rmV p1), .string ⟨#[]⟩, .string ⟨#[]⟩, .string p3] 30 (0, 0)) := hF 9 (of_decide_eq_true (by kernel_rfl)) (fun i hi => rfl)
    have hptr : env 8 = .pointer (some ⟨w1.heap.size, 0, none⟩) := (hF 8 (of_decide_eq_true (by kernel_rfl)) (fun i hi => rfl)).1
    have hW5 := hW.1
    clear hF hW
    have hrng : List.range 55 = [0, 1, 2, 3, 4, 5, 6, 7, 8, 9, 10, 11, 12, 13, 14, 15, 16, 17, 18, 19, 20, 21, 22, 23, 24, 25, 26, 27, 28, 29, 30, 31, 32, 33, 34, 35, 36, 37, 38, 39, 40, 41, 42, 43, 44, 45, 46, 47, 48, 49, 50, 51, 52, 53, 54] := by kernel_rfl
    unfold after
    simp only [List.size_toArray, List.length_cons, List.length_nil, Nat.reduceAdd, hrng, List.map_cons, List.map_nil]
    simp [idxOf, List.findIdx?, List.findIdx?.go, hptr]
    clear hrng hptr
    have B2 := B1.trans (hW5.mono B1.size)
    have hr2 := (hW5.block _ (Array.getElem?_eq_some_iff.1 hr1).1).trans hr1
    have O2 := own_below O hW5
    have HGN := hid (show g < w1.heap.size from hgl)
    have hwN : w.heap.size < w1.heap.size := (Array.getElem?_eq_some_iff.1 hr1).1
    clear B1 hr1 O CO CM hW5
    generalize w1.heap.size = N at *
    go_wp2_with fail
    go_loopw [6] (fun i wr => ∃ (k : Nat) (v : Int), k ≤ 6 ∧ i = .int .i64 k ∧ Hid (v = kdTo p0 k) ∧ wr.heap[N]? = some (.cells #[.int .i64 v, .int .i64 (rmV p1), .string ⟨#[]⟩, .string ⟨#[]⟩, .string p3] 30 (0, 0)) ∧ wr.ownsRow w.heap.size 9 1 (.slice (some ⟨g, 0, none⟩) 4 ec) 4 (sts [p0, p1, p2, p3]) ∧ wr.heap[w.heap.size]? = some (.cells #[.int .i64 0, .int .i64 0, .string ⟨#[]⟩, .string ⟨#[]⟩, .string ⟨#[]⟩] 30 (0, 0)) ∧ Below w.heap.size w wr) (fun i _ => 6 - (intOf i).toNat)
    case atStart => exact ⟨0, -1, by omega, rfl, rfl, hrow, O2, hr2, B2⟩
    case round =>
      clear hrow O2 hr2 B2
      obtain ⟨k, v, hk, rfl, hv, hrow, O2, hr2, B2⟩ := hrel
      obtain rfl | hk6 : k = 6 ∨ k < 6 := by omega
      · have hv6 : v = kdV p0 := by rw [hv.out, kd_all]
        subst hv6
        clear hv
        obtain ⟨_, _, y2, _⟩ := own_four O2
        go_wp2_with fail
        clear y2
        refine (CH wr).mono ?_
        rintro e w3 ⟨rfl, x3⟩
        have B3 := B2.trans (x3.below.mono B2.size)
        have hr3 := (x3.below.block _ (Array.getElem?_eq_some_iff.1 hr2).1).trans hr2
        have hrow3 := (x3.below.block _ (Array.getElem?_eq_some_iff.1 hrow).1).trans hrow
        clear B2 hr2 hrow O2 x3 CH
        generalize (rhV p2).1.1 = ha at *
        generalize (rhV p2).1.2 = hq at *
        have hI : (w3.alloc (.cells #[.string ha, .string hq] 28)).heap[w3.heap.size]? = some (.cells #[.string ha, .string hq] 28 (0, 0)) := alloc_new' rfl
        have B4 := B3.alloc B3.size (.cells #[.string ha, .string hq] 28)
        have hr4 := alloc_old (o := (.cells #[.string ha, .string hq] 28)) hr3
        have hrow4 := alloc_old (o := (.cells #[.string ha, .string hq] 28)) hrow3
        clear B3 hr3 hrow3
        have c0 := cell_of_row _ w3.heap.size 0 _ _ _ hI
        have c1 := cell_of_row _ w3.heap.size 1 _ _ _ hI
        have z2 := cell_of_row _ N 2 _ _ _ hrow4
        have z3 := cell_of_row _ N 3 _ _ _ hrow4
        have f2 := frozen_of_row _ N 2 _ _ hrow4
        have f3 := frozen_of_row _ N 3 _ _ hrow4
        have S1 := setAt (i := 2) (v := .string ha) hrow4
        have S2 := setAt (i := 3) (v := .string hq) S1.1
        have hrow5 : (((w3.alloc (.cells #[.string ha, .string hq] 28)).setCell ⟨N, 2, none⟩ (.string ha)).setCell ⟨N, 3, none⟩ (.string hq)).heap[N]? = some (.cells #[.int .i64 (kdV p0), .int .i64 (rmV p1), .string ha, .string hq, .string p3] 30 (0, 0)) := by have := S2.1; simpa using this
        have B5 := (B4.grown S1.2 B4.size (by rintro _ ⟨rfl⟩; omega)).grown S2.2 (Nat.le_trans B4.size S1.2.size) (by rintro _ ⟨rfl⟩; omega)
        have hr5 := (S2.2.block _ (Nat.lt_of_lt_of_le (Array.getElem?_eq_some_iff.1 hr4).1 S1.2.size) (fun e => by injection e with e; omega)).trans ((S1.2.block _ (Array.getElem?_eq_some_iff.1 hr4).1 (fun e => by injection e with e; omega)).trans hr4)
        clear S1 S2 B4 hr4 hrow4 hI
        cases hok : (rhV p2).2 with
        | false =>
          have R := hid (HRA.out.trans (RWH.out hok))
          clear hok HRA
          have ks := row5 (a := (.int .i64 0)) (b := (.int .i64 0)) (c := (.string ⟨#[]⟩)) (d := (.string ⟨#[]⟩)) (e := (.string ⟨#[]⟩)) hr5
          have B9 := B5.grown ks.2 B5.size (by rintro _ ⟨rfl⟩; exact Nat.le_refl _)
          have f0 := frozen_of_row _ w.heap.size 0 _ _ hr5
          have f1 := frozen_of_row _ w.heap.size 1 _ _ hr5
          have f2 := frozen_of_row _ w.heap.size 2 _ _ hr5
          have f3 := frozen_of_row _ w.heap.size 3 _ _ hr5
          have f4 := frozen_of_row _ w.heap.size 4 _ _ hr5
          have x0 := cell_of_row _ w.heap.size 0 _ _ _ hr5
          have x1 := cell_of_row _ w.heap.size 1 _ _ _ hr5
          have x2 := cell_of_row _ w.heap.size 2 _ _ _ hr5
          have x3 := cell_of_row _ w.heap.size 3 _ _ _ hr5
          have x4 := cell_of_row _ w.heap.size 4 _ _ _ hr5
          have v0 := cell_of_row _ w.heap.size 0 _ _ _ ks.1
          have v1 := cell_of_row _ w.heap.size 1 _ _ _ ks.1
          have v2 := cell_of_row _ w.heap.size 2 _ _ _ ks.1
          have v3 := cell_of_row _ w.heap.size 3 _ _ _ ks.1
          have v4 := cell_of_row _ w.heap.size 4 _ _ _ ks.1
          go_wp2_with fail
          exact bodyPost_ret (v := .tuple #[acA 0 0 ⟨#[]⟩ ⟨#[]⟩ ⟨#[]⟩, .bool false]) (by simp [results, Tryd.results65, go_sem, v0, v1, v2, v3, v4]) rfl ⟨by rw [R.out]; try rfl, Ext.of_below B9⟩
        | true =>
          clear hok
          have u0 := cell_of_row _ N 0 _ _ _ hrow5
          have u1 := cell_of_row _ N 1 _ _ _ hrow5
          have u2 := cell_of_row _ N 2 _ _ _ hrow5
          have u3 := cell_of_row _ N 3 _ _ _ hrow5
          have u4 := cell_of_row _ N 4 _ _ _ hrow5
          go_wp2_with fail
          clear c0 c1 z2 z3 f2 f3 u0 u1 u2 u3 u4
          generalize (((w3.alloc (.cells #[.string ha, .string hq] 28)).setCell ⟨N, 2, none⟩ (.string ha)).setCell ⟨N, 3, none⟩ (.string hq)) = w5 at *
          refine (CV w5).mono ?_
          rintro e w6 ⟨rfl, x6⟩
          have B6 := B5.trans (x6.below.mono B5.size)
          have hr6 := (x6.below.block _ (Array.getElem?_eq_some_iff.1 hr5).1).trans hr5
          have hrow6 := (x6.below.block _ (Array.getElem?_eq_some_iff.1 hrow5).1).trans hrow5
          clear B5 hr5 hrow5 x6 CV
          cases hv : avalV (kdV p0) (rmV p1) ha hq p3 with
          | false =>
            have R := hid (HRA.out.trans (RWN.out hv))
            clear hv HRA
            have ks := row5 (a := (.int .i64 0)) (b := (.int .i64 0)) (c := (.string ⟨#[]⟩)) (d := (.string ⟨#[]⟩)) (e := (.string ⟨#[]⟩)) hr6
            have B9 := B6.grown ks.2 B6.size (by rintro _ ⟨rfl⟩; exact Nat.le_refl _)
            have f0 := frozen_of_row _ w.heap.size 0 _ _ hr6
            have f1 := frozen_of_row _ w.heap.size 1 _ _ hr6
            have f2 := frozen_of_row _ w.heap.size 2 _ _ hr6
            have f3 := frozen_of_row _ w.heap.size 3 _ _ hr6
            have f4 := frozen_of_row _ w.heap.size 4 _ _ hr6
            have x0 := cell_of_row _ w.heap.size 0 _ _ _ hr6
            have x1 := cell_of_row _ w.heap.size 1 _ _ _ hr6
            have x2 := cell_of_row _ w.heap.size 2 _ _ _ hr6
            have x3 := cell_of_row _ w.heap.size 3 _ _ _ hr6
            have x4 := cell_of_row _ w.heap.size 4 _ _ _ hr6
            have v0 := cell_of_row _ w.heap.size 0 _ _ _ ks.1
            have v1 := cell_of_row _ w.heap.size 1 _ _ _ ks.1
            have v2 := cell_of_row _ w.heap.size 2 _ _ _ ks.1
            have v3 := cell_of_row _ w.heap.size 3 _ _ _ ks.1
            have v4 := cell_of_row _ w.heap.size 4 _ _ _ ks.1
            go_wp2_with fail
            exact bodyPost_ret (v := .tuple #[acA 0 0 ⟨#[]⟩ ⟨#[]⟩ ⟨#[]⟩, .bool false]) (by simp [results, Tryd.results65, go_sem, v0, v1, v2, v3, v4]) rfl ⟨by rw [R.out]; try rfl, Ext.of_below B9⟩
          | true =>
            have R := hid (HRA.out.trans (RWY.out hv))
            clear hv HRA
            have u0 := cell_of_row _ N 0 _ _ _ hrow6
            have u1 := cell_of_row _ N 1 _ _ _ hrow6
            have u2 := cell_of_row _ N 2 _ _ _ hrow6
            have u3 := cell_of_row _ N 3 _ _ _ hrow6
            have u4 := cell_of_row _ N 4 _ _ _ hrow6
            have ks := row5 (a := (.int .i64 (kdV p0))) (b := (.int .i64 (rmV p1))) (c := (.string ha)) (d := (.string hq)) (e := (.string p3)) hr6
            have B9 := B6.grown ks.2 B6.size (by rintro _ ⟨rfl⟩; exact Nat.le_refl _)
            have f0 := frozen_of_row _ w.heap.size 0 _ _ hr6
            have f1 := frozen_of_row _ w.heap.size 1 _ _ hr6
            have f2 := frozen_of_row _ w.heap.size 2 _ _ hr6
            have f3 := frozen_of_row _ w.heap.size 3 _ _ hr6
            have f4 := frozen_of_row _ w.heap.size 4 _ _ hr6
            have x0 := cell_of_row _ w.heap.size 0 _ _ _ hr6
            have x1 := cell_of_row _ w.heap.size 1 _ _ _ hr6
            have x2 := cell_of_row _ w.heap.size 2 _ _ _ hr6
            have x3 := cell_of_row _ w.heap.size 3 _ _ _ hr6
            have x4 := cell_of_row _ w.heap.size 4 _ _ _ hr6
            have v0 := cell_of_row _ w.heap.size 0 _ _ _ ks.1
            have v1 := cell_of_row _ w.heap.size 1 _ _ _ ks.1
            have v2 := cell_of_row _ w.heap.size 2 _ _ _ ks.1
            have v3 := cell_of_row _ w.heap.size 3 _ _ _ ks.1
            have v4 := cell_of_row _ w.heap.size 4 _ _ _ ks.1
            go_wp2_with fail
            exact bodyPost_ret (v := .tuple #[acA (kdV p0) (rmV p1) ha hq p3, .bool true]) (by simp [results, Tryd.results65, go_sem, v0, v1, v2, v3, v4]) rfl ⟨by rw [R.out]; try rfl, Ext.of_below B9⟩
      · have hKA : (#[.string ⟨#[99, 114, 101, 97, 116, 101]⟩, .string ⟨#[117, 112, 100, 97, 116, 101]⟩, .string ⟨#[100, 101, 108, 101, 116, 101]⟩, .string ⟨#[102, 111, 108, 108, 111, 119]⟩, .string ⟨#[97, 99, 99, 101, 112, 116]⟩, .string ⟨#[117, 110, 100, 111]⟩] : Array Value)[k]? = some (.string (kindW k)) := kindW_at (k := (k : Int)) (by omega) (by omega)
        have CO := fun (u : World) (h : Ext.of wr u) => own_four (own_ext O2 h)
        have hk6I : (k : Int) < 6 := by omega
        go_wp2_with fail
        refine wp_region_live (W := fun _ u => Ext.of wr u) (dead := fun _ _ => false) (Tr := fun _ a b => Ext.of a b) (F := fun i v w' => match i with
            | 0 => ∃ B, v = .slice (some ⟨B, 0, none⟩) 6 6 ∧ w'.heap[B]? = some (.cells #[.string ⟨#[99, 114, 101, 97, 116, 101]⟩, .string ⟨#[117, 112, 100, 97, 116, 101]⟩, .string ⟨#[100, 101, 108, 101, 116, 101]⟩, .string ⟨#[102, 111, 108, 108, 111, 119]⟩, .string ⟨#[97, 99, 99, 101, 112, 116]⟩, .string ⟨#[117, 110, 100, 111]⟩] 9 (0, 0))
            | 1 => v = .int .i64 k
            | 2 => ∃ B, v = .pointer (some ⟨B, k, none⟩) ∧ w'.heap[B]? = some (.cells #[.string ⟨#[99, 114, 101, 97, 116, 101]⟩, .string ⟨#[117, 112, 100, 97, 116, 101]⟩, .string ⟨#[100, 101, 108, 101, 116, 101]⟩, .string ⟨#[102, 111, 108, 108, 111, 119]⟩, .string ⟨#[97, 99, 99, 101, 112, 116]⟩, .string ⟨#[117, 110, 100, 111]⟩] 9 (0, 0))
            | 3 => v = .string (kindW k)
            | 4 => v = .slice (some ⟨g, 0, none⟩) 4 ec
            | 5 => v = .pointer (some ⟨g, 0, none⟩)
            | 6 => v = .string p0
            | 7 => v = .bool (decide (kindW k = p0))
            | _ => True) (by kernel_rfl) (by kernel_rfl) (by kernel_rfl) ?_ ?_ ?_ ?_
        · exact Ext.of_below (Below.refl _ _).drew
        · intro i j kk a b v hi hj hne hdd haa hW hT hF
          match j with
          | 0 => obtain ⟨B, h1, h2⟩ := hF; exact ⟨B, h1, (hT.below.block _ (Array.getElem?_eq_some_iff.1 h2).1).trans h2⟩
          | 1 => exact hF
          | 2 => obtain ⟨B, h1, h2⟩ := hF; exact ⟨B, h1, (hT.below.block _ (Array.getElem?_eq_some_iff.1 h2).1).trans h2⟩
          | 3 => exact hF
          | 4 => exact hF
          | 5 => exact hF
          | 6 => exact hF
          | 7 => exact hF
          | _ + 8 => trivial
        · refine ⟨fun kk ρ u hkk hc hf hb hW hd => ?_, ?_⟩
          · refine yield_call 83 #[] (by simp [go_sem, hc, hf]) ?_
            refine (l10_any _).mono ?_
            rintro e w3 ⟨rfl, hr, x3⟩
            exact ⟨_, rfl, ⟨_, rfl, hr⟩, hW.trans x3, x3⟩
          refine ⟨fun kk ρ u hkk hc hf hb hW hd => ?_, ?_⟩
          · exact yield_move _ rfl ⟨hb 6 (by kernel_rfl), hW, Ext.of.refl _⟩
          refine ⟨fun kk ρ u hkk hc hf hb hW hd => ?_, ?_⟩
          · obtain ⟨B, e0, h2⟩ : ∃ B, ρ (.tmp 27) = .slice (some ⟨B, 0, none⟩) 6 6 ∧ u.heap[B]? = some (.cells #[.string ⟨#[99, 114, 101, 97, 116, 101]⟩, .string ⟨#[117, 112, 100, 97, 116, 101]⟩, .string ⟨#[100, 101, 108, 101, 116, 101]⟩, .string ⟨#[102, 111, 108, 108, 111, 119]⟩, .string ⟨#[97, 99, 99, 101, 112, 116]⟩, .string ⟨#[117, 110, 100, 111]⟩] 9 (0, 0)) := hd.1 rfl rfl
            have e1 : ρ (.tmp 28) = .int .i64 k := hd.2.1 rfl rfl
            exact yield_value (w' := u) (.pointer (some ⟨B, k, none⟩)) (by simp [go_sem, hc, hf, e0, e1, IntWalk.i64_in, hk6I, hk6, addr_own]) ⟨⟨B, rfl, h2⟩, hW, Ext.of.refl _⟩
          refine ⟨fun kk ρ u hkk hc hf hb hW hd => ?_, ?_⟩
          · obtain ⟨B, e0, h2⟩ : ∃ B, ρ (.tmp 29) = .pointer (some ⟨B, k, none⟩) ∧ u.heap[B]? = some (.cells #[.string ⟨#[99, 114, 101, 97, 116, 101]⟩, .string ⟨#[117, 112, 100, 97, 116, 101]⟩, .string ⟨#[100, 101, 108, 101, 116, 101]⟩, .string ⟨#[102, 111, 108, 108, 111, 119]⟩, .string ⟨#[97, 99, 99, 101, 112, 116]⟩, .string ⟨#[117, 110, 100, 111]⟩] 9 (0, 0)) := hd.1 rfl rfl
            have y0 := (cell_of_row u B k _ _ _ h2).trans hKA
            exact yield_value (w' := u) (.string (kindW k)) (by simp [go_sem, hc, hf, e0, y0]) ⟨rfl, hW, Ext.of.refl _⟩
          refine ⟨fun kk ρ u hkk hc hf hb hW hd => ?_, ?_⟩
          · exact yield_move _ rfl ⟨hb 4 (by kernel_rfl), hW, Ext.of.refl _⟩
          refine ⟨fun kk ρ u hkk hc hf hb hW hd => ?_, ?_⟩
          · have e0 : ρ (.tmp 31) = .slice (some ⟨g, 0, none⟩) 4 ec := hd.1 rfl rfl
            exact yield_value (w' := u) (.pointer (some ⟨g, 0, none⟩)) (by simp [go_sem, hc, hf, e0, IntWalk.i64_in, addr_zero]) ⟨rfl, hW, Ext.of.refl _⟩
          refine ⟨fun kk ρ u hkk hc hf hb hW hd => ?_, ?_⟩
          · have e0 : ρ (.tmp 32) = .pointer (some ⟨g, 0, none⟩) := hd.1 rfl rfl
            have y0 := (CO u hW).1
            exact yield_value (w' := u) (.string p0) (by simp [go_sem, hc, hf, e0, y0]) ⟨rfl, hW, Ext.of.refl _⟩
          refine ⟨fun kk ρ u hkk hc hf hb hW hd => ?_, ?_⟩
          · have e0 : ρ (.tmp 30) = .string (kindW k) := hd.1 rfl rfl
            have e1 : ρ (.tmp 33) = .string p0 := hd.2.1 rfl rfl
            exact yield_value (w' := u) (.bool (decide (kindW k = p0))) (by simp [go_sem, hc, hf, e0, e1]; try rw [← str_eq]; try rfl) ⟨rfl, hW, Ext.of.refl _⟩
          trivial
        intro env w5 hW hF
        have e7 : env 7 = .bool (decide (kindW k = p0)) := hF 7 (of_decide_eq_true (by kernel_rfl)) (fun i hi => rfl)
        have O5 := own_ext O2 hW
        have hr5 := (hW.below.block _ (Array.getElem?_eq_some_iff.1 hr2).1).trans hr2
        have hrow5 := (hW.below.block _ (Array.getElem?_eq_some_iff.1 hrow).1).trans hrow
        have B5 := B2.trans (hW.below.mono B2.size)
        have hgN : g < N := HGN.out
        clear hF O2 hr2 hrow B2 CO hKA hW
        have hrng : List.range 55 = [0, 1, 2, 3, 4, 5, 6, 7, 8, 9, 10, 11, 12, 13, 14, 15, 16, 17, 18, 19, 20, 21, 22, 23, 24, 25, 26, 27, 28, 29, 30, 31, 32, 33, 34, 35, 36, 37, 38, 39, 40, 41, 42, 43, 44, 45, 46, 47, 48, 49, 50, 51, 52, 53, 54] := by kernel_rfl
        unfold after
        simp only [List.size_toArray, List.length_cons, List.length_nil, Nat.reduceAdd, hrng, List.map_cons, List.map_nil]
        simp [idxOf, List.findIdx?, List.findIdx?.go, e7]
        clear hrng e7
        by_cases he : kindW k = p0
        · have K := hid (show (k : Int) = kdTo p0 (k + 1) by rw [kdTo, if_pos he.symm])
          have hd : decide (kindW k = p0) = true := decide_eq_true he
          rw [hd] at *
          clear he hd hv
          have z0 := cell_of_row _ N 0 _ _ _ hrow5
          have f0 := frozen_of_row _ N 0 _ _ hrow5
          have S1 := setAt (i := 0) (v := .int .i64 k) hrow5
          have hrow6 : (w5.setCell ⟨N, 0, none⟩ (.int .i64 k)).heap[N]? = some (.cells #[.int .i64 k, .int .i64 (rmV p1), .string ⟨#[]⟩, .string ⟨#[]⟩, .string p3] 30 (0, 0)) := by have := S1.1; simpa using this
          have B6 := B5.grown S1.2 B5.size (by rintro _ ⟨rfl⟩; omega)
          have hr6 := (S1.2.block _ (Array.getElem?_eq_some_iff.1 hr5).1 (fun e => by injection e with e; omega)).trans hr5
          have O6 := O5.kept S1.2 (.inr (by intro e; have e : some g = some N := e; injection e with e; omega))
          clear S1 B5 hr5 O5 hrow5
          go_wp2_with fail
          refine ⟨?_, ?_⟩
          · (repeat apply Exists.intro)
            refine ⟨?_, rfl⟩
            exact ⟨k + 1, k, by omega, by go_num, K, hrow6, O6, hr6, B6⟩
          · simp [intOf]; omega
        · have K := hid (show v = kdTo p0 (k + 1) by rw [kdTo, if_neg (fun e => he e.symm), hv.out])
          have hd : decide (kindW k = p0) = false := decide_eq_false he
          rw [hd] at *
          clear he hd hv
          go_wp2_with fail
          refine ⟨?_, ?_⟩
          · (repeat apply Exists.intro)
            refine ⟨?_, rfl⟩
            exact ⟨k + 1, v, by omega, by go_num, K, hrow5, O5, hr5, B5⟩
          · simp [intOf]; omega
  · have R := hid (ra_not h4)
    have hn4 : (n : Int) ≠ 4 := by omega
    have t1 : ((n : Int) == 4) = false := by rw [beq_eq_false_iff_ne]; exact hn4
    clear O hnl
    have ks := row5 (a := (.int .i64 0)) (b := (.int .i64 0)) (c := (.string ⟨#[]⟩)) (d := (.string ⟨#[]⟩)) (e := (.string ⟨#[]⟩)) hr1
    have B9 := B1.grown ks.2 B1.size (by rintro _ ⟨rfl⟩; exact Nat.le_refl _)
    have f0 := frozen_of_row _ w.heap.size 0 _ _ hr1
    have f1 := frozen_of_row _ w.heap.size 1 _ _ hr1
    have f2 := frozen_of_row _ w.heap.size 2 _ _ hr1
    have f3 := frozen_of_row _ w.heap.size 3 _ _ hr1
    have f4 := frozen_of_row _ w.heap.size 4 _ _ hr1
    have x0 := cell_of_row _ w.heap.size 0 _ _ _ hr1
    have x1 := cell_of_row _ w.heap.size 1 _ _ _ hr1
    have x2 := cell_of_row _ w.heap.size 2 _ _ _ hr1
    have x3 := cell_of_row _ w.heap.size 3 _ _ _ hr1
    have x4 := cell_of_row _ w.heap.size 4 _ _ _ hr1
    have v0 := cell_of_row _ w.heap.size 0 _ _ _ ks.1
    have v1 := cell_of_row _ w.heap.size 1 _ _ _ ks.1
    have v2 := cell_of_row _ w.heap.size 2 _ _ _ ks.1
    have v3 := cell_of_row _ w.heap.size 3 _ _ _ ks.1
    have v4 := cell_of_row _ w.heap.size 4 _ _ _ ks.1
    go_wp2_with fail
    exact bodyPost_ret (v := .tuple #[acA 0 0 ⟨#[]⟩ ⟨#[]⟩ ⟨#[]⟩, .bool false]) (by simp [results, Tryd.results65, go_sem, v0, v1, v2, v3, v4]) rfl ⟨by rw [R.out]; try rfl, Ext.of_below B9⟩
end Go.Proofs.YtoagpfdhbcgdcaaDoor
