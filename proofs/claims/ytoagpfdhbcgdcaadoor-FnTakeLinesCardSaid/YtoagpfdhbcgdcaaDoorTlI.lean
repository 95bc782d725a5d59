/- The contract of TakeLines, the program's. -/
import Derived.Test.YtoagpfdhbcgdcaaDoorTlV
namespace Go.Proofs.YtoagpfdhbcgdcaaDoor
open Go.RowKit
set_option linter.unusedVariables false
set_option linter.unusedSimpArgs false
set_option maxRecDepth 8000 in
set_option maxHeartbeats 16000000 in
theorem tlI_any (A : Option Addr) (n c : Nat) (xs : List Hd) (B : Option Addr) (m d : Nat) (zs : List Int) (La : Option Addr) (nl cl : Nat) (ls : List ByteArray) (w : World) (hM : ML w) (hK : KW w) (h : Sl w A n c 2 (hds xs)) (hok : hdOk xs) (hz : Sl w B m d 1 (ints zs)) (hl : Sl w La nl cl 1 (sts ls)) (hls : ∀ l ∈ ls, l.size < 4294967281) :
    Calls Tryd.prog 21 #[ibA A n c B m d, .slice La nl cl] w fun e w' => TkRes w.heap.size (tlV xs zs ls).1 (tlV xs zs ls).2.1 (tlV xs zs ls).2.2 True e w' ∧ Below w.heap.size w w' := by
  have hlx : xs.length = n := h.count hdC_len (by omega)
  have hlz : zs.length = m := by have := hz.len; simpa using this
  have hll : ls.length = nl := hl.count stC_len (by omega)
  have HLX := hid hlx
  have HLZ := hid hlz
  have HLL := hid hll
  have HLS := hid hls
  have hmx := hz.max
  have hcx := hz.cap
  unfold maxLen at hmx
  have hmxl := hl.max
  have hcxl := hl.cap
  unfold maxLen at hmxl
  have hE : Ext.of w ((w.alloc (.cells #[.slice A n c, .slice B m d] 26)).alloc (.cells #[.slice none 0 0, .slice none 0 0] 26)) := ((Ext.of.refl _).alloc _).alloc _
  have hx : ((w.alloc (.cells #[.slice A n c, .slice B m d] 26)).alloc (.cells #[.slice none 0 0, .slice none 0 0] 26)).heap[w.heap.size]? = some (.cells #[.slice A n c, .slice B m d] 26 (0, 0)) := alloc_old (alloc_new' rfl)
  have hr : ((w.alloc (.cells #[.slice A n c, .slice B m d] 26)).alloc (.cells #[.slice none 0 0, .slice none 0 0] 26)).heap[w.heap.size + 1]? = some (.cells #[.slice none 0 0, .slice none 0 0] 26 (0, 0)) := alloc_new' (by simp)
  have CI := fun W (h1 : Sl W A n c 2 (hds xs)) (h2 : Sl W B m d 1 (ints zs)) => ibI_any A n c xs B m d zs W h1 hok h2
  clear hok hlx hlz hll hls
  go_enter Tryd.func21, Tryd.ntmps21
  go_wp2_with fail
  generalize (w.alloc (.cells #[.slice A n c, .slice B m d] 26)).alloc (.cells #[.slice none 0 0, .slice none 0 0] 26) = V at *
  cases hv : ibV xs zs with
  | false =>
    have R := hid (tl_no1 (ls := ls) hv)
    rw [hv] at CI
    have b0 := cell_of_row V w.heap.size 0 _ _ _ hx
    have b1 := cell_of_row V w.heap.size 1 _ _ _ hx
    clear hv
    go_wp2_with fail
    refine (CI _ (h.ext hE) (hz.ext hE)).mono ?_
    rintro e w1 ⟨rfl, x1⟩
    replace hE := hE.trans x1
    replace hr := (x1.block (Array.getElem?_eq_some_iff.1 hr).1).trans hr
    replace hx := (x1.block (Array.getElem?_eq_some_iff.1 hx).1).trans hx
    clear x1 b0 b1 CI
    have r0 := cell_of_row _ (w.heap.size + 1) 0 _ _ _ hr
    have r1 := cell_of_row _ (w.heap.size + 1) 1 _ _ _ hr
    have fr0 := frozen_of_row _ (w.heap.size + 1) 0 _ _ hr
    have fr1 := frozen_of_row _ (w.heap.size + 1) 1 _ _ hr
    have hrr := set_ib1 (v := .slice none 0 0) (set_ib0 (v := .slice none 0 0) hr)
    have v0 := cell_of_row _ (w.heap.size + 1) 0 _ _ _ hrr
    have v1 := cell_of_row _ (w.heap.size + 1) 1 _ _ _ hrr
    have hB := hE.below
    have hBB := hid ((hB.setCell (p := ⟨w.heap.size + 1, 0, none⟩) (by dsimp; omega) (.slice none 0 0)).setCell (p := ⟨w.heap.size + 1, 1, none⟩) (by dsimp; omega) (.slice none 0 0))
    clear hr hrr hB hx
    go_wp2_with fail
    refine bodyPost_ret (v := .tuple #[ibA none 0 0 none 0 0, .int .i64 (-1)]) (by simp [results, Tryd.results21, go_sem, v0, v1]) rfl ⟨?_, ?_⟩
    · rw [R.out]
      exact ⟨none, 0, 0, none, 0, 0, rfl, World.ownsRow_nil _ _ _ _, Sl.nil_ _ _, ty_none _ _, fun _ => World.ownsRow_nil _ _ _ _⟩
    · exact hBB.out
  | true =>
    have HV := hid hv
    rw [hv] at CI
    have b0 := cell_of_row V w.heap.size 0 _ _ _ hx
    have b1 := cell_of_row V w.heap.size 1 _ _ _ hx
    clear hv
    go_wp2_with fail
    refine (CI _ (h.ext hE) (hz.ext hE)).mono ?_
    rintro e w0 ⟨rfl, x1⟩
    replace hE := hE.trans x1
    replace hr := (x1.block (Array.getElem?_eq_some_iff.1 hr).1).trans hr
    replace hx := (x1.block (Array.getElem?_eq_some_iff.1 hx).1).trans hx
    clear x1 b0 b1 CI
    by_cases hbig : 30 < nl
    · have R := hid (tl_no2 (xs := xs) (zs := zs) (ls := ls) (by have := HLL.out; omega))
      have t0 : decide ((30 : Int) < (nl : Int)) = true := by simp; omega
      have t1 : decide (30 < nl) = true := by simpa using hbig
      have r0 := cell_of_row _ (w.heap.size + 1) 0 _ _ _ hr
      have r1 := cell_of_row _ (w.heap.size + 1) 1 _ _ _ hr
      have fr0 := frozen_of_row _ (w.heap.size + 1) 0 _ _ hr
      have fr1 := frozen_of_row _ (w.heap.size + 1) 1 _ _ hr
      have hrr := set_ib1 (v := .slice none 0 0) (set_ib0 (v := .slice none 0 0) hr)
      have v0 := cell_of_row _ (w.heap.size + 1) 0 _ _ _ hrr
      have v1 := cell_of_row _ (w.heap.size + 1) 1 _ _ _ hrr
      have hB := hE.below
      have hBB := hid ((hB.setCell (p := ⟨w.heap.size + 1, 0, none⟩) (by dsimp; omega) (.slice none 0 0)).setCell (p := ⟨w.heap.size + 1, 1, none⟩) (by dsimp; omega) (.slice none 0 0))
      clear hr hrr hB hx
      go_wp2_with fail
      refine bodyPost_ret (v := .tuple #[ibA none 0 0 none 0 0, .int .i64 (-1)]) (by simp [results, Tryd.results21, go_sem, v0, v1]) rfl ⟨?_, ?_⟩
      · rw [R.out]
        exact ⟨none, 0, 0, none, 0, 0, rfl, World.ownsRow_nil _ _ _ _, Sl.nil_ _ _, ty_none _ _, fun _ => World.ownsRow_nil _ _ _ _⟩
      · exact hBB.out
    · have R := hid (tl_yes (ls := ls) HV.out (by have := HLL.out; omega))
      have t0 : decide ((30 : Int) < (nl : Int)) = false := by simp; omega
      have t1 : decide (30 < nl) = false := by simpa using hbig
      have hnl : nl ≤ 30 := by omega
      clear hbig
      have p0 := cell_of_row w0 w.heap.size 0 _ _ _ hx
      have p1 := cell_of_row w0 w.heap.size 1 _ _ _ hx
      have S1 := h.ext hE
      have S2 := hz.ext hE
      have hn : n ≤ 10 := by have h1 := (folV_iff.1 (ib_parts HV.out).1).1; rw [HLX.out] at h1; exact h1
      have hm : m ≤ 12 := by have h1 := (ib_parts HV.out).2.1; rw [HLZ.out] at h1; exact h1
      have hw0 : w.heap.size + 1 < w0.heap.size := (Array.getElem?_eq_some_iff.1 hr).1
      go_wp2_with fail
      refine wp_region_ghost (d := 7) (G := NoIb w0.heap.size) (W := fun _ w' => Below w0.heap.size w0 w') (dead := fun i j => i == 8 && (j != 7 && j != 8)) (Tr := TrIb 8 7) (F := fun i v w' => match i with
          | 0 => v = .pointer (some ⟨w.heap.size, 0, none⟩)
          | 1 => v = .slice A n c
          | 2 => w'.ownsRow w0.heap.size 28 2 v n (hds xs)
          | 3 => v = .pointer (some ⟨w.heap.size, 1, none⟩)
          | 4 => v = .slice B m d
          | 5 => w'.ownsRow w0.heap.size 3 1 v m (ints zs)
          | 6 => ∃ A1 c1 A2 c2, v = ibA A1 n c1 A2 m c2 ∧ w'.ownsRow w0.heap.size 28 2 (.slice A1 n c1) n (hds xs) ∧ w'.ownsRow w0.heap.size 3 1 (.slice A2 m c2) m (ints zs)
          | 7 => IbPtr w0.heap.size v w'
          | 8 => IbDone w0.heap.size n m xs zs w'
          | _ => True) (by kernel_rfl) (by kernel_rfl) (by kernel_rfl) ?_ ?_ ?_ ?_ ?_ ?_
      · exact below_drewN (Below.refl _ _) 1
      · exact NoIb.start w0
      · intro i kk a b hi hne hW hT hG; exact NoIb.tr hG hT hne
      · intro i j kk a b v hi hj hne hdd haa hW hT hF
        by_cases es : i = 8
        · subst es
          match j with
          | 0 => exact absurd hdd (by decide)
          | 1 => exact absurd hdd (by decide)
          | 2 => exact absurd hdd (by decide)
          | 3 => exact absurd hdd (by decide)
          | 4 => exact absurd hdd (by decide)
          | 5 => exact absurd hdd (by decide)
          | 6 => exact absurd hdd (by decide)
          | 7 => exact IbPtr.tr hF hT (by decide)
          | 8 => exact absurd rfl hne
          | _ + 9 => simp at hj; omega
        · have hB := hT.other es
          match j with
          | 0 => exact hF
          | 1 => exact hF
          | 2 => exact own_below hF hB
          | 3 => exact hF
          | 4 => exact hF
          | 5 => exact own_below hF hB
          | 6 => obtain ⟨A1, c1, A2, c2, e, O1, O2⟩ := hF; exact ⟨A1, c1, A2, c2, e, own_below O1 hB, own_below O2 hB⟩
          | 7 => exact IbPtr.tr hF hT hne
          | 8 =>
            match i with
            | 0 => exact absurd (haa.symm.trans (show ancB _ _ _ _ = true by kernel_rfl)) (by decide)
            | 1 => exact absurd (haa.symm.trans (show ancB _ _ _ _ = true by kernel_rfl)) (by decide)
            | 2 => exact absurd (haa.symm.trans (show ancB _ _ _ _ = true by kernel_rfl)) (by decide)
            | 3 => exact absurd (haa.symm.trans (show ancB _ _ _ _ = true by kernel_rfl)) (by decide)
            | 4 => exact absurd (haa.symm.trans (show ancB _ _ _ _ = true by kernel_rfl)) (by decide)
            | 5 => exact absurd (haa.symm.trans (show ancB _ _ _ _ = true by kernel_rfl)) (by decide)
            | 6 => exact absurd (haa.symm.trans (show ancB _ _ _ _ = true by kernel_rfl)) (by decide)
            | 7 => exact absurd (haa.symm.trans (show ancB _ _ _ _ = true by kernel_rfl)) (by decide)
            | 8 => exact absurd rfl es
            | _ + 9 => simp at hi; omega
          | _ + 9 => simp at hj; omega
      · refine ⟨fun kk ρ u hkk hc hf hb hW hd hg => ?_, ?_⟩
        · have e1 : ρ (.tmp 2) = .pointer (some ⟨w.heap.size, 0, none⟩) := hb 2 (by kernel_rfl)
          clear hd hb hg
          exact yield_value (w' := u) (.pointer (some ⟨w.heap.size, 0, none⟩)) (by simp [go_sem, hc, hf, e1]) ⟨rfl, hW, TrIb.same (by decide) _⟩
        refine ⟨fun kk ρ u hkk hc hf hb hW hd hg => ?_, ?_⟩
        · have e1 : ρ (.tmp 22) = .pointer (some ⟨w.heap.size, 0, none⟩) := hd.1 rfl rfl
          clear hd hb hg
          have x0 := (hW.cell (World.block_lt_of_cell? _ _ p0)).trans p0
          exact yield_value (w' := u) (.slice A n c) (by simp [go_sem, hc, hf, e1, x0]) ⟨rfl, hW, TrIb.same (by decide) _⟩
        refine ⟨fun kk ρ u hkk hc hf hb hW hd hg => ?_, ?_⟩
        · have e1 : ρ (.tmp 23) = .slice A n c := hd.1 rfl rfl
          clear hd hb hg
          have s1 := S1.below hW
          have hz := hW.size
          refine yield_call 31 #[.slice A n c] (by simp [go_sem, hc, hf, e1]) ?_
          refine (copyHd_new A n c xs w0.heap.size _ s1 (by omega) hz).mono ?_
          rintro e w' ⟨v', rfl, O, Nw⟩
          exact ⟨_, rfl, O, below_next hW Nw.below, TrIb.new (by decide) (by decide) Nw⟩
        refine ⟨fun kk ρ u hkk hc hf hb hW hd hg => ?_, ?_⟩
        · have e1 : ρ (.tmp 2) = .pointer (some ⟨w.heap.size, 0, none⟩) := hb 2 (by kernel_rfl)
          clear hd hb hg
          exact yield_value (w' := u) (.pointer (some ⟨w.heap.size, 1, none⟩)) (by simp [go_sem, hc, hf, e1]) ⟨rfl, hW, TrIb.same (by decide) _⟩
        refine ⟨fun kk ρ u hkk hc hf hb hW hd hg => ?_, ?_⟩
        · have e1 : ρ (.tmp 25) = .pointer (some ⟨w.heap.size, 1, none⟩) := hd.1 rfl rfl
          clear hd hb hg
          have x0 := (hW.cell (World.block_lt_of_cell? _ _ p1)).trans p1
          exact yield_value (w' := u) (.slice B m d) (by simp [go_sem, hc, hf, e1, x0]) ⟨rfl, hW, TrIb.same (by decide) _⟩
        refine ⟨fun kk ρ u hkk hc hf hb hW hd hg => ?_, ?_⟩
        · have e1 : ρ (.tmp 26) = .slice B m d := hd.1 rfl rfl
          clear hd hb hg
          have s1 := S2.below hW
          have hz := hW.size
          refine yield_call 32 #[.slice B m d] (by simp [go_sem, hc, hf, e1]) ?_
          refine (copyInt_new B m d zs w0.heap.size _ s1 (by omega) hz).mono ?_
          rintro e w' ⟨v', rfl, O, Nw⟩
          exact ⟨_, rfl, O, below_next hW Nw.below, TrIb.new (by decide) (by decide) Nw⟩
        refine ⟨fun kk ρ u hkk hc hf hb hW hd hg => ?_, ?_⟩
        · have O1 : u.ownsRow w0.heap.size 28 2 (ρ (.tmp 24)) n (hds xs) := hd.1 rfl rfl
          have O2 : u.ownsRow w0.heap.size 3 1 (ρ (.tmp 27)) m (ints zs) := hd.2.1 rfl rfl
          clear hd hb hg
          obtain ⟨A1, c1, q1, _⟩ := own_form O1
          obtain ⟨A2, c2, q2, _⟩ := own_form O2
          rw [q1] at O1
          rw [q2] at O2
          exact yield_value (w' := u) (ibA A1 n c1 A2 m c2) (by simp [go_sem, hc, hf, q1, q2]) ⟨⟨A1, c1, A2, c2, rfl, O1, O2⟩, hW, TrIb.same (by decide) _⟩
        refine ⟨fun kk ρ u hkk hc hf hb hW hd hg => ?_, ?_⟩
        · have hz := hW.size
          exact yield_value (w' := u.alloc (.cells #[.slice none 0 0, .slice none 0 0] 26)) (.pointer (some ⟨u.heap.size, 0, none⟩)) (by simp [go_sem, hc, hf]) ⟨IbPtr.new (hg rfl) hz _ _, hW.alloc hz _, TrIb.al (by decide) _ _⟩
        refine ⟨fun kk ρ u hkk hc hf hb hW hd hg => ?_, ?_⟩
        · obtain ⟨g, e0, hgN, hblk, hu⟩ : IbPtr w0.heap.size (ρ (.tmp 6)) u := hd.1 rfl rfl
          obtain ⟨A1, c1, A2, c2, e8, O1, O2⟩ : ∃ A1 c1 A2 c2, ρ (.tmp 28) = ibA A1 n c1 A2 m c2 ∧ u.ownsRow w0.heap.size 28 2 (.slice A1 n c1) n (hds xs) ∧ u.ownsRow w0.heap.size 3 1 (.slice A2 m c2) m (ints zs) := hd.2.1 rfl rfl
          have K := ib_store (N := w0.heap.size) ⟨g, rfl, hgN, hblk, hu⟩ O1 O2 8 7
          obtain ⟨c3, c4, hblk⟩ := hblk
          have f0 := frozen_of_row u g 0 _ _ hblk
          have f1 := frozen_of_row u g 1 _ _ hblk
          have z0 := cell_of_row u g 0 _ _ _ hblk
          have z1 := cell_of_row u g 1 _ _ _ hblk
          clear hd hb hg hu hblk
          unfold Yield
          simp [go_sem, hc, hf, e0, e8, f0, f1, z0, z1]
          exact ⟨K.1, hW.grown K.2.2 hW.size (by rintro _ ⟨rfl⟩; exact hgN), K.2.1⟩
        trivial
      intro env w2 B2 hF
      obtain ⟨g2, e9, hg2, ⟨c0, c1, hb2⟩, _⟩ : IbPtr w0.heap.size (env 7) w2 := hF 7 (of_decide_eq_true (by kernel_rfl)) (fun i hi => by match i with | 0 | 1 | 2 | 3 | 4 | 5 | 6 | 7 | 8 => rfl | _ + 9 => simp at hi; omega)
      have D : IbDone w0.heap.size n m xs zs w2 := hF 8 (of_decide_eq_true (by kernel_rfl)) (fun i hi => by match i with | 0 | 1 | 2 | 3 | 4 | 5 | 6 | 7 | 8 => rfl | _ + 9 => simp at hi; omega)
      obtain ⟨v1, v2, ec, o1, o2⟩ := D g2 _ hg2 hb2
      simp at ec
      obtain ⟨rfl, rfl⟩ := ec
      clear hF D
      obtain ⟨C1, d1, rfl, _⟩ := own_form o1
      obtain ⟨C2, d2, rfl, _⟩ := own_form o2
      have hr : List.range 54 = [0, 1, 2, 3, 4, 5, 6, 7, 8, 9, 10, 11, 12, 13, 14, 15, 16, 17, 18, 19, 20, 21, 22, 23, 24, 25, 26, 27, 28, 29, 30, 31, 32, 33, 34, 35, 36, 37, 38, 39, 40, 41, 42, 43, 44, 45, 46, 47, 48, 49, 50, 51, 52, 53] := by kernel_rfl
      unfold after
      simp only [List.size_toArray, List.length_cons, List.length_nil, Nat.reduceAdd, hr, List.map_cons, List.map_nil]
      simp [idxOf, List.findIdx?, List.findIdx?.go, e9]
      clear hr e9
      replace hr := (B2.block _ (by omega)).trans hr
      have T2 := below_next hE.below B2
      replace o1 := own_lower o1 hE.size
      replace o2 := own_lower o2 hE.size
      have hg3 : w.heap.size + 1 < g2 := by omega
      have I2 : IbIn w.heap.size g2 xs zs True w2 := ⟨C1, n, d1, C2, m, d2, hb2, o1, own_sl o2, ty_own o2, fun _ => o2⟩
      have Z0 := hid (tlTo_zero (xs := xs) (zs := zs) (ls := ls)).symm
      clear p0 p1 S1 S2 hE B2 hw0 hg2 hx hb2 o1 o2 t0 t1 h hz hn hm hmx hcx
      go_wp2_with fail
      go_loopw [7, 31] (fun fr i wr => ∃ (k : Nat) (F : List Hd) (Z : List Int) (q : Int), k ≤ nl ∧ i = .int .i64 k ∧ fr = .int .i64 q ∧ Hid ((F, Z, q) = tlTo xs zs ls k) ∧ IbIn w.heap.size g2 F Z True wr ∧ wr.heap[w.heap.size + 1]? = some (.cells #[.slice none 0 0, .slice none 0 0] 26 (0, 0)) ∧ Below w.heap.size w wr) (fun _ i _ => nl - (intOf i).toNat)
      case atStart => exact ⟨0, xs, zs, 0, Nat.zero_le _, rfl, rfl, Z0, I2, hr, T2⟩
      case round =>
        clear I2 hr T2 Z0
        obtain ⟨k, F, Z, q, hk, rfl, rfl, hst, IN, hr, hB⟩ := hrel
        have hinv := tlTo_inv (ls := ls) HV.out k
        rw [← hst.out] at hinv
        obtain ⟨hib, hq0, hqk⟩ := hinv
        simp only at hib hq0 hqk
        have HIB := hid hib
        clear hib
        by_cases hlt : k < nl
        · obtain ⟨ad, l, hA, hab, c0⟩ := (hl.below hB).st hlt
          subst hA
          have hsz := HLS.out _ (List.mem_of_getElem? hab)
          have N := hid (tlTo_next (xs := xs) (zs := zs) hab)
          rw [← hst.out] at N
          have RV := hid (fun hr => ra_valid (s := l) hr)
          have RS := ra_size l
          have CR := raI_any l wr hsz (hM.below hB) (hK.below hB)
          have RST := hid (And.intro (fun kd mk a b s (h : raV l = ((kd, mk, a, b, s), true)) => tlStep_yes (F := F) (Z := Z) (q := q) h) (fun x (h : raV l = (x, false)) => tlStep_no (F := F) (Z := Z) (q := q) h))
          clear hst hab
          generalize hra : raV l = rv at *
          obtain ⟨⟨kd, mk, a, b, s⟩, ok⟩ := rv
          simp only at RS CR
          obtain ⟨rs1, rs2, rs3⟩ := RS
          have HRS := hid (show a.size ≤ 9223372036854775807 ∧ b.size ≤ 9223372036854775807 ∧ s.size ≤ 9223372036854775807 by omega)
          clear hra rs1 rs2 rs3 hsz
          go_wp2_with fail
          clear c0
          refine CR.mono ?_
          rintro e w3 ⟨rfl, x3⟩
          have hB3 := below_next hB x3.below
          replace hr := (x3.below.block _ (Array.getElem?_eq_some_iff.1 hr).1).trans hr
          replace IN := IN.below x3.below
          clear hB x3 CR
          have hA5 : (w3.alloc (.cells #[.int .i64 kd, .int .i64 mk, .string a, .string b, .string s] 30)).heap[w3.heap.size]? = some (.cells #[.int .i64 kd, .int .i64 mk, .string a, .string b, .string s] 30 (0, 0)) := alloc_new' rfl
          have bx : Below w3.heap.size w3 (w3.alloc (.cells #[.int .i64 kd, .int .i64 mk, .string a, .string b, .string s] 30)) := (Below.refl _ _).alloc (Nat.le_refl _) _
          replace hB3 := below_next hB3 bx
          replace hr := alloc_old (o := (.cells #[.int .i64 kd, .int .i64 mk, .string a, .string b, .string s] 30)) hr
          replace IN := IN.below bx
          clear bx
          cases ok with
          | false =>
            have N2 := hid (show (F, Z, q) = tlTo xs zs ls (k + 1) by rw [N.out, RST.out.2 _ rfl])
            clear N RST hA5
            go_wp2_with fail
            go_roundw
            case rel => exact ⟨k + 1, F, Z, q, by omega, by go_num, rfl, N2, IN, hr, hB3⟩
            case measure => simp [intOf]; omega
          | true =>
            have N2 := hid (show (tkF F Z kd mk a b s, tkZ F Z kd mk a b s, q + tkN F Z kd mk a b s) = tlTo xs zs ls (k + 1) by rw [N.out, RST.out.1 _ _ _ _ _ rfl])
            have hnr := tkN_range HIB.out (RV.out rfl)
            obtain ⟨C, n3, c3, D, m3, d3, hb3, s3, s4⟩ := IN.sls
            have a0 := cell_of_row _ w3.heap.size 0 _ _ _ hA5
            have a1 := cell_of_row _ w3.heap.size 1 _ _ _ hA5
            have a2 := cell_of_row _ w3.heap.size 2 _ _ _ hA5
            have a3 := cell_of_row _ w3.heap.size 3 _ _ _ hA5
            have a4 := cell_of_row _ w3.heap.size 4 _ _ _ hA5
            have i0 := cell_of_row _ g2 0 _ _ _ hb3
            have i1 := cell_of_row _ g2 1 _ _ _ hb3
            have CT := takeI_any C n3 c3 F D m3 d3 Z kd mk a b s (w3.alloc (.cells #[.int .i64 kd, .int .i64 mk, .string a, .string b, .string s] 30)) (hK.below hB3) s3 (ib_hdok HIB.out) s4 HRS.out.1 HRS.out.2.1 HRS.out.2.2
            clear N RST s3 s4 RV IN
            go_wp2_with fail
            clear a0 a1 a2 a3 a4 i0 i1 hA5
            generalize w3.alloc (.cells #[.int .i64 kd, .int .i64 mk, .string a, .string b, .string s] 30) = W3 at *
            refine CT.mono ?_
            rintro e w4 ⟨hres, b4⟩
            obtain ⟨v, rfl, hv4⟩ := tkRes_val hres
            replace hv4 := hv4.lower hB3.size
            replace hr := (b4.block _ (Array.getElem?_eq_some_iff.1 hr).1).trans hr
            replace hb3 := (b4.block _ (Array.getElem?_eq_some_iff.1 hb3).1).trans hb3
            have hB4 := below_next hB3 b4
            clear hres b4 CT hB3
            have hsum : -9223372036854775808 ≤ q + tkN F Z kd mk a b s ∧ q + tkN F Z kd mk a b s ≤ 9223372036854775807 := by omega
            obtain ⟨C4, n4, c4, D4, m4, d4, rfl, I5⟩ := hv4.stored hb3
            have i0 := cell_of_row _ g2 0 _ _ _ hb3
            have i1 := cell_of_row _ g2 1 _ _ _ hb3
            have fi0 := frozen_of_row _ g2 0 _ _ hb3
            have fi1 := frozen_of_row _ g2 1 _ _ hb3
            have hr5 : ((w4.setCell ⟨g2, 0, none⟩ (.slice C4 n4 c4)).setCell ⟨g2, 1, none⟩ (.slice D4 m4 d4)).heap[w.heap.size + 1]? = some (.cells #[.slice none 0 0, .slice none 0 0] 26 (0, 0)) := set_else (by omega) (set_else (by omega) hr)
            have hB5 := (hB4.setCell (p := ⟨g2, 0, none⟩) (by dsimp; omega) (.slice C4 n4 c4)).setCell (p := ⟨g2, 1, none⟩) (by dsimp; omega) (.slice D4 m4 d4)
            clear hr hb3 hB4
            generalize hTN : tkN F Z kd mk a b s = tn at *
            clear hTN
            go_wp2_with fail
            go_roundw
            case rel => exact ⟨k + 1, _, _, _, by omega, by go_num, rfl, N2, I5, hr5, hB5⟩
            case measure => simp [intOf]; omega
        · have hke : k = nl := by omega
          have R2 := hid (show tlV xs zs ls = (F, Z, q) by rw [R.out, HLL.out, hst.out, hke])
          have t0 : decide ((k : Int) < (nl : Int)) = false := by simp; omega
          clear hke hst
          obtain ⟨C, n3, c3, D, m3, d3, hb3, oF, sZ, tZ, pZ⟩ := IN
          have i0 := cell_of_row _ g2 0 _ _ _ hb3
          have i1 := cell_of_row _ g2 1 _ _ _ hb3
          have r0 := cell_of_row _ (w.heap.size + 1) 0 _ _ _ hr
          have r1 := cell_of_row _ (w.heap.size + 1) 1 _ _ _ hr
          have fr0 := frozen_of_row _ (w.heap.size + 1) 0 _ _ hr
          have fr1 := frozen_of_row _ (w.heap.size + 1) 1 _ _ hr
          have hrr := set_ib1 (v := .slice D m3 d3) (set_ib0 (v := .slice C n3 c3) hr)
          have v0 := cell_of_row _ (w.heap.size + 1) 0 _ _ _ hrr
          have v1 := cell_of_row _ (w.heap.size + 1) 1 _ _ _ hrr
          have hs : StIb wr ((wr.setCell ⟨w.heap.size + 1, 0, none⟩ (.slice C n3 c3)).setCell ⟨w.heap.size + 1, 1, none⟩ (.slice D m3 d3)) := ⟨w.heap.size + 1, _, _, _, _, hr, rfl⟩
          have hBB := hid ((hB.setCell (p := ⟨w.heap.size + 1, 0, none⟩) (by dsimp; omega) (.slice C n3 c3)).setCell (p := ⟨w.heap.size + 1, 1, none⟩) (by dsimp; omega) (.slice D m3 d3))
          have FIN := hid (show TkRes w.heap.size F Z q True (.returned (.tuple #[ibA C n3 c3 D m3 d3, .int .i64 q])) ((wr.setCell ⟨w.heap.size + 1, 0, none⟩ (.slice C n3 c3)).setCell ⟨w.heap.size + 1, 1, none⟩ (.slice D m3 d3)) from ⟨C, n3, c3, D, m3, d3, rfl, hs.own oF (by decide), hs.sl sZ tZ (by decide), hs.ty tZ (by decide), fun hp => hs.own (pZ hp) (by decide)⟩)
          clear hr hrr hB hb3 oF sZ tZ pZ hs
          go_wp2_with fail
          refine bodyPost_ret (v := .tuple #[ibA C n3 c3 D m3 d3, .int .i64 q]) (by simp [results, Tryd.results21, go_sem, v0, v1]) rfl ⟨?_, ?_⟩
          · rw [R2.out]; exact FIN.out
          · exact hBB.out
end Go.Proofs.YtoagpfdhbcgdcaaDoor
