/- The walk of FnExactTakeActivity: it returns true and turns nothing that was there. -/
import Derived.Test.YtoagpfdhbcgdcaaDoorTakeS
import Derived.Test.YtoagpfdhbcgdcaaDoorTakeI
import Derived.Test.YtoagpfdhbcgdcaaDoorIbMark
import Derived.Test.YtoagpfdhbcgdcaaDoorTrSt
namespace Go.Proofs.YtoagpfdhbcgdcaaDoor.fnExactTakeActivity
open Go.RowKit
set_option linter.unusedVariables false
set_option linter.unusedSimpArgs false
set_option maxRecDepth 8000
set_option maxHeartbeats 20000000 in
theorem walk (A : Option Addr) (n c : Nat) (xs : List Hd) (B : Option Addr) (m d : Nat) (zs : List Int) (kd mk : Int) (a b s : ByteArray) (w : World) (hK : KW w) (w0 : Sl w A n c 2 (hds xs) ∧ hdOk xs) (w1 : Sl w B m d 1 (ints zs)) (ha : a.size ≤ 9223372036854775807) (hb : b.size ≤ 9223372036854775807) (hs : s.size ≤ 9223372036854775807) :
    Calls Tryd.prog 4 #[ibA A n c B m d, acA kd mk a b s] w fun e w' => e = .returned (.bool true) ∧ Below w.heap.size w w' := by
  obtain ⟨S1, hok⟩ := w0
  have HOK := hid hok
  have S2 := w1
  clear hok w1
  have hE : Ext.of w ((w.alloc (.cells #[.slice A n c, .slice B m d] 41)).alloc (.cells #[.int .i64 kd, .int .i64 mk, .string a, .string b, .string s] 44)) := ((Ext.of.refl _).alloc _).alloc _
  have hx : ((w.alloc (.cells #[.slice A n c, .slice B m d] 41)).alloc (.cells #[.int .i64 kd, .int .i64 mk, .string a, .string b, .string s] 44)).heap[w.heap.size]? = some (.cells #[.slice A n c, .slice B m d] 41 (0, 0)) := alloc_old (alloc_new' rfl)
  have hA : ((w.alloc (.cells #[.slice A n c, .slice B m d] 41)).alloc (.cells #[.int .i64 kd, .int .i64 mk, .string a, .string b, .string s] 44)).heap[w.heap.size + 1]? = some (.cells #[.int .i64 kd, .int .i64 mk, .string a, .string b, .string s] 44 (0, 0)) := alloc_new' (by simp)
  go_enter Tryd.func4, Tryd.ntmps4
  have b0 := cell_of_row _ w.heap.size 0 _ _ _ hx
  have b1 := cell_of_row _ w.heap.size 1 _ _ _ hx
  go_wp2_with fail
  generalize ((w.alloc (.cells #[.slice A n c, .slice B m d] 41)).alloc (.cells #[.int .i64 kd, .int .i64 mk, .string a, .string b, .string s] 44)) = V at *
  have hVw := hE.below
  refine (szInbox_le _ _ _ xs _ _ _ zs 1048576 _ (S1.ext hE) HOK.out (S2.ext hE) (by omega) (by omega)).mono ?_
  rintro e1 v1 ⟨r, rfl, hrl, hr, x1⟩
  by_cases hr0 : r < 0
  · clear hr
    go_wp2_with fail
    go_ret
    exact ⟨rfl, (hE.trans x1).below⟩
  · obtain ⟨hn, hm⟩ := hr (by omega)
    clear hr
    have V1 := x1.below
    have hx := (x1.below.block _ (Array.getElem?_eq_some_iff.1 hx).1).trans hx
    have hA := (x1.below.block _ (Array.getElem?_eq_some_iff.1 hA).1).trans hA
    have hE := hE.trans x1
    have a0 := cell_of_row _ (w.heap.size + 1) 0 _ _ _ hA
    have a1 := cell_of_row _ (w.heap.size + 1) 1 _ _ _ hA
    have a2 := cell_of_row _ (w.heap.size + 1) 2 _ _ _ hA
    have a3 := cell_of_row _ (w.heap.size + 1) 3 _ _ _ hA
    have a4 := cell_of_row _ (w.heap.size + 1) 4 _ _ _ hA
    clear x1 V1 b0 b1
    go_wp2_with fail
    refine (szActivity_any kd mk a b s r (by omega) (by omega) _ ha hb hs).mono ?_
    rintro e1 v2 ⟨r2, rfl, r3, r4, x1⟩
    by_cases hr2 : r2 < 0
    · go_wp2_with fail
      go_ret
      exact ⟨rfl, (hE.trans x1).below⟩
    · have hE := hE.trans x1
      have hx := (x1.below.block _ (Array.getElem?_eq_some_iff.1 hx).1).trans hx
      have hA := (x1.below.block _ (Array.getElem?_eq_some_iff.1 hA).1).trans hA
      clear x1 a0 a1 a2 a3 a4
      obtain ⟨w0, hw0⟩ : ∃ w0, w0 = v2 := ⟨_, rfl⟩
      subst hw0
      have KV := hid (hK.ext hE)
      have S1 := S1.ext hE
      have S2 := S2.ext hE
      have hVw := hE.below
      have TS := fun W C n' D m' (h1 : Sl W C n n' 2 (hds xs)) (h2 : Sl W D m m' 1 (ints zs)) => takeS_any C n n' xs D m m' zs kd mk a b s W h1 HOK.out h2 ha hb hs
      have TI := fun W (hW : KW W) C n' D m' (h1 : Sl W C n n' 2 (hds xs)) (h2 : Sl W D m m' 1 (ints zs)) => takeI_any C n n' xs D m m' zs kd mk a b s W hW h1 HOK.out h2 ha hb hs
      have FL := tkF_len xs zs kd mk a b s
      have ZL := tkZ_len xs zs kd mk a b s
      generalize tkF xs zs kd mk a b s = F at *
      generalize tkZ xs zs kd mk a b s = Z at *
      generalize tkN xs zs kd mk a b s = q at *
      have b0 := cell_of_row _ w.heap.size 0 _ _ _ hx
      have b1 := cell_of_row _ w.heap.size 1 _ _ _ hx
      have a0 := cell_of_row _ (w.heap.size + 1) 0 _ _ _ hA
      have a1 := cell_of_row _ (w.heap.size + 1) 1 _ _ _ hA
      have a2 := cell_of_row _ (w.heap.size + 1) 2 _ _ _ hA
      have a3 := cell_of_row _ (w.heap.size + 1) 3 _ _ _ hA
      have a4 := cell_of_row _ (w.heap.size + 1) 4 _ _ _ hA
      go_wp2_with fail
      refine wp_region_env (W := fun _ w' => Ext.of w0 w') (dead := fun i j => i == 9 && (j == 0 || j == 1 || j == 2 || j == 3 || j == 4 || j == 6)) (Tr := TrSt 9) (F := fun i env w' => match i with
          | 0 => env 0 = ibA A n c B m d
          | 1 => ∃ C D, env 1 = ibA C n n D m m ∧ Sl w' C n n 2 (hds xs) ∧ Sl w' D m m 1 (ints zs)
          | 2 => env 2 = acA kd mk a b s
          | 3 => env 3 = acA kd mk a b s
          | 4 => ∃ v, env 4 = .tuple #[v, .int .i64 q] ∧ IbVal w0.heap.size F Z (zs.length < 12) v w'
          | 5 => ∃ v, env 5 = .tuple #[v, .int .i64 q] ∧ IbVal w0.heap.size F Z (zs.length < 12) v w'
          | 6 => ∃ v, env 6 = v ∧ IbVal w0.heap.size F Z (zs.length < 12) v w'
          | 7 => env 7 = .int .i64 q
          | 8 => ∃ g, env 8 = .pointer (some ⟨g, 0, none⟩) ∧ w0.heap.size ≤ g ∧ ∃ c0 c1, w'.heap[g]? = some (.cells #[c0, c1] 26 (0, 0))
          | 9 => ∃ g, env 8 = .pointer (some ⟨g, 0, none⟩) ∧ w0.heap.size ≤ g ∧ IbIn w0.heap.size g F Z (zs.length < 12) w'
          | 10 => env 10 = .int .i64 q
          | _ => True) (by kernel_rfl) (by kernel_rfl) (by kernel_rfl) ?_ ?_ ?_ ?_ ?_
      · exact Ext.of.drew (Ext.of.refl _)
      · intro j env env' w hj he hF
        match j with
        | 0 => exact (he 0 (.inl rfl)).symm.trans hF
        | 1 => obtain ⟨C, D, e, r⟩ := hF; exact ⟨C, D, (he 1 (.inl rfl)).symm.trans e, r⟩
        | 2 => exact (he 2 (.inl rfl)).symm.trans hF
        | 3 => exact (he 3 (.inl rfl)).symm.trans hF
        | 4 => obtain ⟨v, e, r⟩ := hF; exact ⟨v, (he 4 (.inl rfl)).symm.trans e, r⟩
        | 5 => obtain ⟨v, e, r⟩ := hF; exact ⟨v, (he 5 (.inl rfl)).symm.trans e, r⟩
        | 6 => obtain ⟨v, e, r⟩ := hF; exact ⟨v, (he 6 (.inl rfl)).symm.trans e, r⟩
        | 7 => exact (he 7 (.inl rfl)).symm.trans hF
        | 8 => obtain ⟨g, e, r⟩ := hF; exact ⟨g, (he 8 (.inl rfl)).symm.trans e, r⟩
        | 9 => obtain ⟨g, e, r⟩ := hF; exact ⟨g, (he 8 (.inr (by kernel_rfl))).symm.trans e, r⟩
        | 10 => exact (he 10 (.inl rfl)).symm.trans hF
        | _ + 11 => exact hF
      · intro i j kk env a b hi hj hne hdd haa hW hT hF
        by_cases es : i = 9
        · subst es
          have hS := hT.store
          match j with
          | 0 => exact absurd hdd (by decide)
          | 1 => exact absurd hdd (by decide)
          | 2 => exact absurd hdd (by decide)
          | 3 => exact absurd hdd (by decide)
          | 4 => exact absurd hdd (by decide)
          | 5 => obtain ⟨v, e, h⟩ := hF; exact ⟨v, e, h.st hS⟩
          | 6 => exact absurd hdd (by decide)
          | 7 => exact hF
          | 8 => obtain ⟨g, e, h1, h2⟩ := hF; exact ⟨g, e, h1, hS.blk h2⟩
          | 9 => exact absurd rfl hne
          | 10 => exact hF
          | _ + 11 => exact hF
        · have hB := hT.other es
          match j with
          | 0 => exact hF
          | 1 => obtain ⟨C, D, e, s1, s2⟩ := hF; exact ⟨C, D, e, s1.ext hB, s2.ext hB⟩
          | 2 => exact hF
          | 3 => exact hF
          | 4 => obtain ⟨v, e, h⟩ := hF; exact ⟨v, e, h.below hB.below⟩
          | 5 => obtain ⟨v, e, h⟩ := hF; exact ⟨v, e, h.below hB.below⟩
          | 6 => obtain ⟨v, e, h⟩ := hF; exact ⟨v, e, h.below hB.below⟩
          | 7 => exact hF
          | 8 => obtain ⟨g, e, h1, c0, c1, h2⟩ := hF; exact ⟨g, e, h1, c0, c1, (hB.block (Array.getElem?_eq_some_iff.1 h2).1).trans h2⟩
          | 9 =>
            obtain ⟨g, e, h1, h2⟩ := hF; exact ⟨g, e, h1, h2.below hB.below⟩
          | 10 => exact hF
          | _ + 11 => exact hF
      · refine ⟨fun kk ρ env u hk hc hf hg ht hW hd => ?_, ?_⟩
        · have p0 : ρ (.tmp 2) = .pointer (some ⟨w.heap.size, 0, none⟩) := (ht 2).trans (by kernel_rfl)
          have y0 := hW.cell b0
          have y1 := hW.cell b1
          exact yield_value (w' := u) (ibA A n c B m d) (by simp [go_sem, hc, hf, p0, y0, y1]) ⟨upd_same _ _ _, hW, TrSt.ext (by decide) (Ext.of.refl _)⟩
        refine ⟨fun kk ρ env u hk hc hf hg ht hW hd => ?_, ?_⟩
        · have e0 : ρ (.tmp 27) = env 0 := (ht 27).trans (by kernel_rfl)
          have q0 : env 0 = ibA A n c B m d := hd.1 rfl
          rw [q0] at e0
          have s1 := S1.ext hW
          have s2 := S2.ext hW
          refine yield_call 15 #[ibA A n c B m d] (by simp [go_sem, hc, hf, e0]) ?_
          refine (toInbox_any A n c xs B m d zs _ s1 s2 hn hm).mono ?_
          rintro e w' ⟨C, D, rfl, s3, s4, x⟩
          exact ⟨_, rfl, ⟨C, D, upd_same _ _ _, s3, s4⟩, hW.trans x, TrSt.ext (by decide) x⟩
        refine ⟨fun kk ρ env u hk hc hf hg ht hW hd => ?_, ?_⟩
        · have p0 : ρ (.tmp 3) = .pointer (some ⟨w.heap.size + 1, 0, none⟩) := (ht 3).trans (by kernel_rfl)
          have y0 := hW.cell a0
          have y1 := hW.cell a1
          have y2 := hW.cell a2
          have y3 := hW.cell a3
          have y4 := hW.cell a4
          exact yield_value (w' := u) (acA kd mk a b s) (by simp [go_sem, hc, hf, p0, y0, y1, y2, y3, y4]) ⟨upd_same _ _ _, hW, TrSt.ext (by decide) (Ext.of.refl _)⟩
        refine ⟨fun kk ρ env u hk hc hf hg ht hW hd => ?_, ?_⟩
        · have e2 : ρ (.tmp 29) = env 2 := (ht 29).trans (by kernel_rfl)
          have q0 : env 2 = acA kd mk a b s := hd.1 rfl
          rw [q0] at e2
          refine yield_call 16 #[acA kd mk a b s] (by simp [go_sem, hc, hf, e2]) ?_
          refine (toActivity_any kd mk a b s _).mono ?_
          rintro e w' ⟨rfl, x⟩
          exact ⟨_, rfl, upd_same _ _ _, hW.trans x, TrSt.ext (by decide) x⟩
        refine ⟨fun kk ρ env u hk hc hf hg ht hW hd => ?_, ?_⟩
        · have e1 : ρ (.tmp 28) = env 1 := (ht 28).trans (by kernel_rfl)
          obtain ⟨C, D, q0, s1, s2⟩ : ∃ C D, env 1 = ibA C n n D m m ∧ Sl u C n n 2 (hds xs) ∧ Sl u D m m 1 (ints zs) := hd.1 rfl
          rw [q0] at e1
          have e3 : ρ (.tmp 30) = env 3 := (ht 30).trans (by kernel_rfl)
          have q1 : env 3 = acA kd mk a b s := hd.2.1 rfl
          rw [q1] at e3
          refine yield_call 9 #[ibA C n n D m m, acA kd mk a b s] (by simp [go_sem, hc, hf, e1, e3]) ?_
          refine (TS _ C n D m s1 s2).mono ?_
          rintro e w' ⟨h1, h2⟩
          obtain ⟨v, rfl, h⟩ := tkRes_val h1
          have x := Ext.of_below h2
          exact ⟨_, rfl, ⟨v, upd_same _ _ _, h.lower hW.size⟩, hW.trans x, TrSt.ext (by decide) x⟩
        refine ⟨fun kk ρ env u hk hc hf hg ht hW hd => ?_, ?_⟩
        · have e4 : ρ (.tmp 31) = env 4 := (ht 31).trans (by kernel_rfl)
          obtain ⟨v, q0, h⟩ : ∃ v, env 4 = .tuple #[v, .int .i64 q] ∧ IbVal w0.heap.size F Z (zs.length < 12) v u := hd.1 rfl
          rw [q0] at e4
          refine yield_move _ rfl ?_
          exact ⟨⟨v, (upd_same _ _ _).trans e4, h⟩, hW, TrSt.ext (by decide) (Ext.of.refl _)⟩
        refine ⟨fun kk ρ env u hk hc hf hg ht hW hd => ?_, ?_⟩
        · have e5 : ρ (.tmp 26) = env 5 := (ht 26).trans (by kernel_rfl)
          obtain ⟨v, q0, h⟩ : ∃ v, env 5 = .tuple #[v, .int .i64 q] ∧ IbVal w0.heap.size F Z (zs.length < 12) v u := hd.1 rfl
          rw [q0] at e5
          exact yield_value (w' := u) v (by simp [go_sem, hc, hf, e5]) ⟨⟨v, upd_same _ _ _, h⟩, hW, TrSt.ext (by decide) (Ext.of.refl _)⟩
        refine ⟨fun kk ρ env u hk hc hf hg ht hW hd => ?_, ?_⟩
        · have e5 : ρ (.tmp 26) = env 5 := (ht 26).trans (by kernel_rfl)
          obtain ⟨v, q0, h⟩ : ∃ v, env 5 = .tuple #[v, .int .i64 q] ∧ IbVal w0.heap.size F Z (zs.length < 12) v u := hd.1 rfl
          rw [q0] at e5
          exact yield_value (w' := u) (.int .i64 q) (by simp [go_sem, hc, hf, e5]) ⟨upd_same _ _ _, hW, TrSt.ext (by decide) (Ext.of.refl _)⟩
        refine ⟨fun kk ρ env u hk hc hf hg ht hW hd => ?_, ?_⟩
        · have x : Ext.of u (u.alloc (.cells #[.slice none 0 0, .slice none 0 0] 26)) := (Ext.of.refl _).alloc _
          exact yield_value (w' := u.alloc (.cells #[.slice none 0 0, .slice none 0 0] 26)) (.pointer (some ⟨u.heap.size, 0, none⟩)) (by simp [go_sem, hc, hf]) ⟨⟨u.heap.size, upd_same _ _ _, hW.size, _, _, alloc_new' rfl⟩, hW.trans x, TrSt.ext (by decide) x⟩
        refine ⟨fun kk ρ env u hk hc hf hg ht hW hd => ?_, ?_⟩
        · have e8 : ρ (.tmp 6) = env 8 := (ht 6).trans (by kernel_rfl)
          have e6 : ρ (.tmp 32) = env 6 := (ht 32).trans (by kernel_rfl)
          obtain ⟨g, qg, hgN, hb2⟩ : ∃ g, env 8 = .pointer (some ⟨g, 0, none⟩) ∧ w0.heap.size ≤ g ∧ ∃ c0 c1, u.heap[g]? = some (.cells #[c0, c1] 26 (0, 0)) := hd.1 rfl
          obtain ⟨v, qv, h⟩ : ∃ v, env 6 = v ∧ IbVal w0.heap.size F Z (zs.length < 12) v u := hd.2.1 rfl
          rw [qg] at e8
          obtain ⟨c0, c1, hb⟩ := hb2
          obtain ⟨C, n1, c2, D, m1, d2, rfl, hin⟩ := h.stored hb
          rw [qv] at e6
          have f0 := frozen_of_row u g 0 _ _ hb
          have f1 := frozen_of_row u g 1 _ _ hb
          have y0 := cell_of_row u g 0 _ _ _ hb
          have y1 := cell_of_row u g 1 _ _ _ hb
          unfold Yield
          simp [go_sem, hc, hf, e8, e6, f0, f1, y0, y1]
          exact ⟨⟨g, (upd_other env _ (by decide)).trans qg, hgN, hin⟩, Ext.of_below ((hW.below.setCell (p := ⟨g, 0, none⟩) (by dsimp; omega) _).setCell (p := ⟨g, 1, none⟩) (by dsimp; omega) _), TrSt.mk hb⟩
        refine ⟨fun kk ρ env u hk hc hf hg ht hW hd => ?_, ?_⟩
        · have e7 : ρ (.tmp 33) = env 7 := (ht 33).trans (by kernel_rfl)
          have q0 : env 7 = .int .i64 q := hd.1 rfl
          exact yield_assign _ rfl ⟨(upd_same _ _ _).trans (e7.trans q0), hW, TrSt.ext (by decide) (Ext.of.refl _)⟩
        trivial
      intro env w8 hW hF
      obtain ⟨g6, eg6, lg6, Ig6⟩ : ∃ g, env 8 = .pointer (some ⟨g, 0, none⟩) ∧ w0.heap.size ≤ g ∧ IbIn w0.heap.size g F Z (zs.length < 12) w8 := hF 9 (of_decide_eq_true (by kernel_rfl)) (fun i hi => by match i with | 0 | 1 | 2 | 3 | 4 | 5 | 6 | 7 | 8 | 9 | 10 => rfl | _ + 11 => simp at hi; omega)
      have qg6 : env 10 = .int .i64 q := hF 10 (of_decide_eq_true (by kernel_rfl)) (fun i hi => by match i with | 0 | 1 | 2 | 3 | 4 | 5 | 6 | 7 | 8 | 9 | 10 => rfl | _ + 11 => simp at hi; omega)
      clear hF
      have hr : List.range 109 = [0, 1, 2, 3, 4, 5, 6, 7, 8, 9, 10, 11, 12, 13, 14, 15, 16, 17, 18, 19, 20, 21, 22, 23, 24, 25, 26, 27, 28, 29, 30, 31, 32, 33, 34, 35, 36, 37, 38, 39, 40, 41, 42, 43, 44, 45, 46, 47, 48, 49, 50, 51, 52, 53, 54, 55, 56, 57, 58, 59, 60, 61, 62, 63, 64, 65, 66, 67, 68, 69, 70, 71, 72, 73, 74, 75, 76, 77, 78, 79, 80, 81, 82, 83, 84, 85, 86, 87, 88, 89, 90, 91, 92, 93, 94, 95, 96, 97, 98, 99, 100, 101, 102, 103, 104, 105, 106, 107, 108] := by kernel_rfl
      unfold after
      simp only [List.size_toArray, List.length_cons, List.length_nil, Nat.reduceAdd, hr, List.map_cons, List.map_nil]
      simp [idxOf, List.findIdx?, List.findIdx?.go, eg6, qg6]
      clear hr
      clear eg6 qg6
      obtain ⟨C6, n6, c6, D6, m6, d6, h6, s6a, s6b⟩ := Ig6.sls
      have KA := hW.below
      generalize w0 = wA at *
      have K8 := Below.refl w8.heap.size w8
      have hA8 : wA.heap.size ≤ w8.heap.size := KA.size
      clear hW Ig6 lg6 a0 a1 a2 a3 a4 b0 b1
      have hx8 := (KA.block _ (Array.getElem?_eq_some_iff.1 hx).1).trans hx
      have b0 := cell_of_row _ w.heap.size 0 _ _ _ hx8
      have b1 := cell_of_row _ w.heap.size 1 _ _ _ hx8
      go_wp2_with fail
      refine (toInbox_own A n c xs B m d zs _ (S1.below KA) (S2.below KA) hn hm).mono ?_
      rintro e1 w9 ⟨C3, D3, rfl, o8a, o8b, x9⟩
      have KA := below_next KA x9.below
      have K8 := below_next K8 x9.below
      clear b0 b1 hx8
      have hb8 : (w9.alloc (.cells #[.slice C3 n n, .slice D3 m m] 26)).heap[w9.heap.size]? = some (.cells #[.slice C3 n n, .slice D3 m m] 26 (0, 0)) := alloc_new' rfl
      have KA := KA.alloc KA.size (.cells #[.slice C3 n n, .slice D3 m m] 26)
      have K8 := K8.alloc K8.size (.cells #[.slice C3 n n, .slice D3 m m] 26)
      have o8a := o8a.alloc (.cells #[.slice C3 n n, .slice D3 m m] 26)
      have o8b := o8b.alloc (.cells #[.slice C3 n n, .slice D3 m m] 26)
      clear x9
      go_wp2_with fail
      generalize w9.alloc (.cells #[.slice C3 n n, .slice D3 m m] 26) = w0 at *
      generalize w9.heap.size = g8 at *
      have KV := hid (KV.out.below KA)
      have hAc := (KA.block _ (Array.getElem?_eq_some_iff.1 hA).1).trans hA
      have a0 := cell_of_row _ (w.heap.size + 1) 0 _ _ _ hAc
      have a1 := cell_of_row _ (w.heap.size + 1) 1 _ _ _ hAc
      have a2 := cell_of_row _ (w.heap.size + 1) 2 _ _ _ hAc
      have a3 := cell_of_row _ (w.heap.size + 1) 3 _ _ _ hAc
      have a4 := cell_of_row _ (w.heap.size + 1) 4 _ _ _ hAc
      have z0 := cell_of_row _ g8 0 _ _ _ hb8
      have z1 := cell_of_row _ g8 1 _ _ _ hb8
      refine wp_region_env (W := fun _ w' => Ext.of w0 w') (dead := fun i j => i == 8 && (j == 0 || j == 1 || j == 2 || j == 3 || j == 5)) (Tr := TrSt 8) (F := fun i env w' => match i with
          | 0 => env 0 = ibA C3 n n D3 m m
          | 1 => env 1 = acA kd mk a b s
          | 2 => env 2 = acA kd mk a b s
          | 3 => ∃ v, env 3 = .tuple #[v, .int .i64 q] ∧ IbVal w0.heap.size F Z (True) v w'
          | 4 => ∃ v, env 4 = .tuple #[v, .int .i64 q] ∧ IbVal w0.heap.size F Z (True) v w'
          | 5 => ∃ v, env 5 = v ∧ IbVal w0.heap.size F Z (True) v w'
          | 6 => env 6 = .int .i64 q
          | 7 => ∃ g, env 7 = .pointer (some ⟨g, 0, none⟩) ∧ w0.heap.size ≤ g ∧ ∃ c0 c1, w'.heap[g]? = some (.cells #[c0, c1] 26 (0, 0))
          | 8 => ∃ g, env 7 = .pointer (some ⟨g, 0, none⟩) ∧ w0.heap.size ≤ g ∧ IbIn w0.heap.size g F Z (True) w'
          | 9 => env 9 = .int .i64 q
          | _ => True) (by kernel_rfl) (by kernel_rfl) (by kernel_rfl) ?_ ?_ ?_ ?_ ?_
      · exact Ext.of.drew (Ext.of.refl _)
      · intro j env env' w hj he hF
        match j with
        | 0 => exact (he 0 (.inl rfl)).symm.trans hF
        | 1 => exact (he 1 (.inl rfl)).symm.trans hF
        | 2 => exact (he 2 (.inl rfl)).symm.trans hF
        | 3 => obtain ⟨v, e, r⟩ := hF; exact ⟨v, (he 3 (.inl rfl)).symm.trans e, r⟩
        | 4 => obtain ⟨v, e, r⟩ := hF; exact ⟨v, (he 4 (.inl rfl)).symm.trans e, r⟩
        | 5 => obtain ⟨v, e, r⟩ := hF; exact ⟨v, (he 5 (.inl rfl)).symm.trans e, r⟩
        | 6 => exact (he 6 (.inl rfl)).symm.trans hF
        | 7 => obtain ⟨g, e, r⟩ := hF; exact ⟨g, (he 7 (.inl rfl)).symm.trans e, r⟩
        | 8 => obtain ⟨g, e, r⟩ := hF; exact ⟨g, (he 7 (.inr (by kernel_rfl))).symm.trans e, r⟩
        | 9 => exact (he 9 (.inl rfl)).symm.trans hF
        | _ + 10 => exact hF
      · intro i j kk env a b hi hj hne hdd haa hW hT hF
        by_cases es : i = 8
        · subst es
          have hS := hT.store
          match j with
          | 0 => exact absurd hdd (by decide)
          | 1 => exact absurd hdd (by decide)
          | 2 => exact absurd hdd (by decide)
          | 3 => exact absurd hdd (by decide)
          | 4 => obtain ⟨v, e, h⟩ := hF; exact ⟨v, e, h.st hS⟩
          | 5 => exact absurd hdd (by decide)
          | 6 => exact hF
          | 7 => obtain ⟨g, e, h1, h2⟩ := hF; exact ⟨g, e, h1, hS.blk h2⟩
          | 8 => exact absurd rfl hne
          | 9 => exact hF
          | _ + 10 => exact hF
        · have hB := hT.other es
          match j with
          | 0 => exact hF
          | 1 => exact hF
          | 2 => exact hF
          | 3 => obtain ⟨v, e, h⟩ := hF; exact ⟨v, e, h.below hB.below⟩
          | 4 => obtain ⟨v, e, h⟩ := hF; exact ⟨v, e, h.below hB.below⟩
          | 5 => obtain ⟨v, e, h⟩ := hF; exact ⟨v, e, h.below hB.below⟩
          | 6 => exact hF
          | 7 => obtain ⟨g, e, h1, c0, c1, h2⟩ := hF; exact ⟨g, e, h1, c0, c1, (hB.block (Array.getElem?_eq_some_iff.1 h2).1).trans h2⟩
          | 8 =>
            obtain ⟨g, e, h1, h2⟩ := hF; exact ⟨g, e, h1, h2.below hB.below⟩
          | 9 => exact hF
          | _ + 10 => exact hF
      · refine ⟨fun kk ρ env u hk hc hf hg ht hW hd => ?_, ?_⟩
        · have p0 : ρ (.tmp 8) = .pointer (some ⟨g8, 0, none⟩) := (ht 8).trans (by kernel_rfl)
          have y0 := hW.cell z0
          have y1 := hW.cell z1
          exact yield_value (w' := u) (ibA C3 n n D3 m m) (by simp [go_sem, hc, hf, p0, y0, y1]) ⟨upd_same _ _ _, hW, TrSt.ext (by decide) (Ext.of.refl _)⟩
        refine ⟨fun kk ρ env u hk hc hf hg ht hW hd => ?_, ?_⟩
        · have p0 : ρ (.tmp 3) = .pointer (some ⟨w.heap.size + 1, 0, none⟩) := (ht 3).trans (by kernel_rfl)
          have y0 := hW.cell a0
          have y1 := hW.cell a1
          have y2 := hW.cell a2
          have y3 := hW.cell a3
          have y4 := hW.cell a4
          exact yield_value (w' := u) (acA kd mk a b s) (by simp [go_sem, hc, hf, p0, y0, y1, y2, y3, y4]) ⟨upd_same _ _ _, hW, TrSt.ext (by decide) (Ext.of.refl _)⟩
        refine ⟨fun kk ρ env u hk hc hf hg ht hW hd => ?_, ?_⟩
        · have e1 : ρ (.tmp 38) = env 1 := (ht 38).trans (by kernel_rfl)
          have q0 : env 1 = acA kd mk a b s := hd.1 rfl
          rw [q0] at e1
          refine yield_call 16 #[acA kd mk a b s] (by simp [go_sem, hc, hf, e1]) ?_
          refine (toActivity_any kd mk a b s _).mono ?_
          rintro e w' ⟨rfl, x⟩
          exact ⟨_, rfl, upd_same _ _ _, hW.trans x, TrSt.ext (by decide) x⟩
        refine ⟨fun kk ρ env u hk hc hf hg ht hW hd => ?_, ?_⟩
        · have e0 : ρ (.tmp 37) = env 0 := (ht 37).trans (by kernel_rfl)
          have q0 : env 0 = ibA C3 n n D3 m m := hd.1 rfl
          rw [q0] at e0
          have e2 : ρ (.tmp 39) = env 2 := (ht 39).trans (by kernel_rfl)
          have q1 : env 2 = acA kd mk a b s := hd.2.1 rfl
          rw [q1] at e2
          refine yield_call 8 #[ibA C3 n n D3 m m, acA kd mk a b s] (by simp [go_sem, hc, hf, e0, e2]) ?_
          refine (TI _ (KV.out.ext hW) C3 n D3 m (own_sl (own_ext o8a hW)) (own_sl (own_ext o8b hW))).mono ?_
          rintro e w' ⟨h1, h2⟩
          obtain ⟨v, rfl, h⟩ := tkRes_val h1
          have x := Ext.of_below h2
          exact ⟨_, rfl, ⟨v, upd_same _ _ _, h.lower hW.size⟩, hW.trans x, TrSt.ext (by decide) x⟩
        refine ⟨fun kk ρ env u hk hc hf hg ht hW hd => ?_, ?_⟩
        · have e3 : ρ (.tmp 40) = env 3 := (ht 40).trans (by kernel_rfl)
          obtain ⟨v, q0, h⟩ : ∃ v, env 3 = .tuple #[v, .int .i64 q] ∧ IbVal w0.heap.size F Z (True) v u := hd.1 rfl
          rw [q0] at e3
          refine yield_move _ rfl ?_
          exact ⟨⟨v, (upd_same _ _ _).trans e3, h⟩, hW, TrSt.ext (by decide) (Ext.of.refl _)⟩
        refine ⟨fun kk ρ env u hk hc hf hg ht hW hd => ?_, ?_⟩
        · have e4 : ρ (.tmp 36) = env 4 := (ht 36).trans (by kernel_rfl)
          obtain ⟨v, q0, h⟩ : ∃ v, env 4 = .tuple #[v, .int .i64 q] ∧ IbVal w0.heap.size F Z (True) v u := hd.1 rfl
          rw [q0] at e4
          exact yield_value (w' := u) v (by simp [go_sem, hc, hf, e4]) ⟨⟨v, upd_same _ _ _, h⟩, hW, TrSt.ext (by decide) (Ext.of.refl _)⟩
        refine ⟨fun kk ρ env u hk hc hf hg ht hW hd => ?_, ?_⟩
        · have e4 : ρ (.tmp 36) = env 4 := (ht 36).trans (by kernel_rfl)
          obtain ⟨v, q0, h⟩ : ∃ v, env 4 = .tuple #[v, .int .i64 q] ∧ IbVal w0.heap.size F Z (True) v u := hd.1 rfl
          rw [q0] at e4
          exact yield_value (w' := u) (.int .i64 q) (by simp [go_sem, hc, hf, e4]) ⟨upd_same _ _ _, hW, TrSt.ext (by decide) (Ext.of.refl _)⟩
        refine ⟨fun kk ρ env u hk hc hf hg ht hW hd => ?_, ?_⟩
        · have x : Ext.of u (u.alloc (.cells #[.slice none 0 0, .slice none 0 0] 26)) := (Ext.of.refl _).alloc _
          exact yield_value (w' := u.alloc (.cells #[.slice none 0 0, .slice none 0 0] 26)) (.pointer (some ⟨u.heap.size, 0, none⟩)) (by simp [go_sem, hc, hf]) ⟨⟨u.heap.size, upd_same _ _ _, hW.size, _, _, alloc_new' rfl⟩, hW.trans x, TrSt.ext (by decide) x⟩
        refine ⟨fun kk ρ env u hk hc hf hg ht hW hd => ?_, ?_⟩
        · have e7 : ρ (.tmp 9) = env 7 := (ht 9).trans (by kernel_rfl)
          have e5 : ρ (.tmp 41) = env 5 := (ht 41).trans (by kernel_rfl)
          obtain ⟨g, qg, hgN, hb2⟩ : ∃ g, env 7 = .pointer (some ⟨g, 0, none⟩) ∧ w0.heap.size ≤ g ∧ ∃ c0 c1, u.heap[g]? = some (.cells #[c0, c1] 26 (0, 0)) := hd.1 rfl
          obtain ⟨v, qv, h⟩ : ∃ v, env 5 = v ∧ IbVal w0.heap.size F Z (True) v u := hd.2.1 rfl
          rw [qg] at e7
          obtain ⟨c0, c1, hb⟩ := hb2
          obtain ⟨C, n1, c2, D, m1, d2, rfl, hin⟩ := h.stored hb
          rw [qv] at e5
          have f0 := frozen_of_row u g 0 _ _ hb
          have f1 := frozen_of_row u g 1 _ _ hb
          have y0 := cell_of_row u g 0 _ _ _ hb
          have y1 := cell_of_row u g 1 _ _ _ hb
          unfold Yield
          simp [go_sem, hc, hf, e7, e5, f0, f1, y0, y1]
          exact ⟨⟨g, (upd_other env _ (by decide)).trans qg, hgN, hin⟩, Ext.of_below ((hW.below.setCell (p := ⟨g, 0, none⟩) (by dsimp; omega) _).setCell (p := ⟨g, 1, none⟩) (by dsimp; omega) _), TrSt.mk hb⟩
        refine ⟨fun kk ρ env u hk hc hf hg ht hW hd => ?_, ?_⟩
        · have e6 : ρ (.tmp 42) = env 6 := (ht 42).trans (by kernel_rfl)
          have q0 : env 6 = .int .i64 q := hd.1 rfl
          exact yield_assign _ rfl ⟨(upd_same _ _ _).trans (e6.trans q0), hW, TrSt.ext (by decide) (Ext.of.refl _)⟩
        trivial
      intro env w11 hW hF
      obtain ⟨g9, eg9, lg9, Ig9⟩ : ∃ g, env 7 = .pointer (some ⟨g, 0, none⟩) ∧ w0.heap.size ≤ g ∧ IbIn w0.heap.size g F Z (True) w11 := hF 8 (of_decide_eq_true (by kernel_rfl)) (fun i hi => by match i with | 0 | 1 | 2 | 3 | 4 | 5 | 6 | 7 | 8 | 9 => rfl | _ + 10 => simp at hi; omega)
      have qg9 : env 9 = .int .i64 q := hF 9 (of_decide_eq_true (by kernel_rfl)) (fun i hi => by match i with | 0 | 1 | 2 | 3 | 4 | 5 | 6 | 7 | 8 | 9 => rfl | _ + 10 => simp at hi; omega)
      clear hF
      have hr : List.range 109 = [0, 1, 2, 3, 4, 5, 6, 7, 8, 9, 10, 11, 12, 13, 14, 15, 16, 17, 18, 19, 20, 21, 22, 23, 24, 25, 26, 27, 28, 29, 30, 31, 32, 33, 34, 35, 36, 37, 38, 39, 40, 41, 42, 43, 44, 45, 46, 47, 48, 49, 50, 51, 52, 53, 54, 55, 56, 57, 58, 59, 60, 61, 62, 63, 64, 65, 66, 67, 68, 69, 70, 71, 72, 73, 74, 75, 76, 77, 78, 79, 80, 81, 82, 83, 84, 85, 86, 87, 88, 89, 90, 91, 92, 93, 94, 95, 96, 97, 98, 99, 100, 101, 102, 103, 104, 105, 106, 107, 108] := by kernel_rfl
      unfold after
      simp only [List.size_toArray, List.length_cons, List.length_nil, Nat.reduceAdd, hr, List.map_cons, List.map_nil]
      simp [idxOf, List.findIdx?, List.findIdx?.go, eg9, qg9]
      clear hr
      clear eg9 qg9
      obtain ⟨C9, n9, c9, D9, m9, d9, h9, o9a, o9b, en9, em9⟩ := Ig9.parts
      have hn9 : n9 ≤ 11 := by omega
      have hm9 : m9 ≤ 13 := by omega
      have X8a := hid (fun k (e : (Value.slice C3 n n).ownBlock = some k) => (o8a.lt k e).2)
      have X8b := hid (fun k (e : (Value.slice D3 m m).ownBlock = some k) => (o8b.lt k e).2)
      have h8N : w8.heap.size ≤ w0.heap.size := K8.size
      have L8a := hid (fun k (e : (Value.slice C3 n n).ownBlock = some k) => (o8a.lt k e).1)
      have L8b := hid (fun k (e : (Value.slice D3 m m).ownBlock = some k) => (o8b.lt k e).1)
      have I8a := hid (fun (e : (Value.slice C3 n n).ownBlock = some g9) => (show False by have := (o8a.lt g9 e).2; omega))
      have I8b := hid (fun (e : (Value.slice D3 m m).ownBlock = some g9) => (show False by have := (o8b.lt g9 e).2; omega))
      have o8a := own_ext o8a hW
      have o8b := own_ext o8b hW
      have hb8 := (hW.block (Array.getElem?_eq_some_iff.1 hb8).1).trans hb8
      have KA := below_next KA hW.below
      have K8 := below_next K8 hW.below
      clear hW KV hAc a0 a1 a2 a3 a4 z0 z1 en9 em9 Ig9 lg9 FL ZL
      generalize w0.heap.size = N10 at *
      have hq : (q == q) = true := by simp
      have h6c := (K8.block _ (Array.getElem?_eq_some_iff.1 h6).1).trans h6
      have y0 := cell_of_row _ g9 0 _ _ _ h9
      have y1 := cell_of_row _ g9 1 _ _ _ h9
      have v0 := cell_of_row _ g6 0 _ _ _ h6c
      have v1 := cell_of_row _ g6 1 _ _ _ h6c
      go_wp2_with fail
      refine (eqInbox_same _ _ _ _ _ _ _ _ _ _ _ _ F Z _ (own_sl o9a) (own_sl o9b) (s6a.below K8) (s6b.below K8)).mono ?_
      rintro e1 w12 ⟨rfl, x1⟩
      clear h6c y0 y1 v0 v1
      have hb8 := (x1.below.block _ (Array.getElem?_eq_some_iff.1 hb8).1).trans hb8
      have h9 := (x1.below.block _ (Array.getElem?_eq_some_iff.1 h9).1).trans h9
      have o8a := own_below o8a x1.below
      have o8b := own_below o8b x1.below
      have o9a := own_below o9a x1.below
      have o9b := own_below o9b x1.below
      have KA := below_next KA x1.below
      have K8 := below_next K8 x1.below
      clear x1
      have hxc := (KA.block _ (Array.getElem?_eq_some_iff.1 hx).1).trans hx
      have b0 := cell_of_row _ w.heap.size 0 _ _ _ hxc
      have b1 := cell_of_row _ w.heap.size 1 _ _ _ hxc
      have z0 := cell_of_row _ g8 0 _ _ _ hb8
      have z1 := cell_of_row _ g8 1 _ _ _ hb8
      have S1c := S1.below KA
      have S2c := S2.below KA
      go_wp2_with fail
      generalize hw12 : w12 = w0 at *
      refine wp_region_env (W := fun _ w' => Ext.of w0 w') (dead := fun i j => i == 99 && (false)) (Tr := TrSt 99) (F := fun i env w' => match i with
          | 0 => env 0 = ibA C3 n n D3 m m
          | 1 => env 1 = ibA A n c B m d
          | 2 => ∃ C D, env 2 = ibA C n n D m m ∧ Sl w' C n n 2 (hds xs) ∧ Sl w' D m m 1 (ints zs)
          | 3 => env 3 = .bool true
          | 4 => env 4 = .bool false
          | _ => True) (by kernel_rfl) (by kernel_rfl) (by kernel_rfl) ?_ ?_ ?_ ?_ ?_
      · exact Ext.of.drew (Ext.of.refl _)
      · intro j env env' w hj he hF
        match j with
        | 0 => exact (he 0 (.inl rfl)).symm.trans hF
        | 1 => exact (he 1 (.inl rfl)).symm.trans hF
        | 2 => obtain ⟨C, D, e, r⟩ := hF; exact ⟨C, D, (he 2 (.inl rfl)).symm.trans e, r⟩
        | 3 => exact (he 3 (.inl rfl)).symm.trans hF
        | 4 => exact (he 4 (.inl rfl)).symm.trans hF
        | _ + 5 => exact hF
      · intro i j kk env a b hi hj hne hdd haa hW hT hF
        by_cases es : i = 99
        · subst es
          exact absurd hi (of_decide_eq_false (by kernel_rfl))
        · have hB := hT.other es
          match j with
          | 0 => exact hF
          | 1 => exact hF
          | 2 => obtain ⟨C, D, e, s1, s2⟩ := hF; exact ⟨C, D, e, s1.ext hB, s2.ext hB⟩
          | 3 => exact hF
          | 4 => exact hF
          | _ + 5 => exact hF
      · refine ⟨fun kk ρ env u hk hc hf hg ht hW hd => ?_, ?_⟩
        · have p0 : ρ (.tmp 8) = .pointer (some ⟨g8, 0, none⟩) := (ht 8).trans (by kernel_rfl)
          have y0 := hW.cell z0
          have y1 := hW.cell z1
          exact yield_value (w' := u) (ibA C3 n n D3 m m) (by simp [go_sem, hc, hf, p0, y0, y1]) ⟨upd_same _ _ _, hW, TrSt.ext (by decide) (Ext.of.refl _)⟩
        refine ⟨fun kk ρ env u hk hc hf hg ht hW hd => ?_, ?_⟩
        · have p0 : ρ (.tmp 2) = .pointer (some ⟨w.heap.size, 0, none⟩) := (ht 2).trans (by kernel_rfl)
          have y0 := hW.cell b0
          have y1 := hW.cell b1
          exact yield_value (w' := u) (ibA A n c B m d) (by simp [go_sem, hc, hf, p0, y0, y1]) ⟨upd_same _ _ _, hW, TrSt.ext (by decide) (Ext.of.refl _)⟩
        refine ⟨fun kk ρ env u hk hc hf hg ht hW hd => ?_, ?_⟩
        · have e1 : ρ (.tmp 53) = env 1 := (ht 53).trans (by kernel_rfl)
          have q1 : env 1 = ibA A n c B m d := hd.1 rfl
          rw [q1] at e1
          refine yield_call 15 #[ibA A n c B m d] (by simp [go_sem, hc, hf, e1]) ?_
          refine (toInbox_any A n c xs B m d zs _ (S1c.ext hW) (S2c.ext hW) hn hm).mono ?_
          rintro e w' ⟨C, D, rfl, s3, s4, x⟩
          exact ⟨_, rfl, ⟨C, D, upd_same _ _ _, s3, s4⟩, hW.trans x, TrSt.ext (by decide) x⟩
        refine ⟨fun kk ρ env u hk hc hf hg ht hW hd => ?_, ?_⟩
        · have e0 : ρ (.tmp 52) = env 0 := (ht 52).trans (by kernel_rfl)
          have e2 : ρ (.tmp 54) = env 2 := (ht 54).trans (by kernel_rfl)
          have q0 : env 0 = ibA C3 n n D3 m m := hd.1 rfl
          obtain ⟨C, D, q2, s3, s4⟩ : ∃ C D, env 2 = ibA C n n D m m ∧ Sl u C n n 2 (hds xs) ∧ Sl u D m m 1 (ints zs) := hd.2.1 rfl
          rw [q0] at e0
          rw [q2] at e2
          refine yield_call 17 #[ibA C3 n n D3 m m, ibA C n n D m m] (by simp [go_sem, hc, hf, e0, e2]) ?_
          refine (eqInbox_same _ _ _ _ _ _ _ _ _ _ _ _ xs zs _ (own_sl (own_ext o8a hW)) (own_sl (own_ext o8b hW)) s3 s4).mono ?_
          rintro e w' ⟨rfl, x⟩
          exact ⟨_, rfl, upd_same _ _ _, hW.trans x, TrSt.ext (by decide) x⟩
        refine ⟨fun kk ρ env u hk hc hf hg ht hW hd => ?_, ?_⟩
        · have e3 : ρ (.tmp 55) = env 3 := (ht 55).trans (by kernel_rfl)
          have q3 : env 3 = .bool true := hd.1 rfl
          rw [q3] at e3
          exact yield_value (w' := u) (.bool false) (by simp [go_sem, hc, hf, e3]) ⟨upd_same _ _ _, hW, TrSt.ext (by decide) (Ext.of.refl _)⟩
        trivial
      intro env w13 hW hF
      have ev : env 4 = .bool false := hF 4 (of_decide_eq_true (by kernel_rfl)) (fun i hi => by match i with | 0 | 1 | 2 | 3 | 4 => rfl | _ + 5 => simp at hi; omega)
      clear hF
      have hr : List.range 109 = [0, 1, 2, 3, 4, 5, 6, 7, 8, 9, 10, 11, 12, 13, 14, 15, 16, 17, 18, 19, 20, 21, 22, 23, 24, 25, 26, 27, 28, 29, 30, 31, 32, 33, 34, 35, 36, 37, 38, 39, 40, 41, 42, 43, 44, 45, 46, 47, 48, 49, 50, 51, 52, 53, 54, 55, 56, 57, 58, 59, 60, 61, 62, 63, 64, 65, 66, 67, 68, 69, 70, 71, 72, 73, 74, 75, 76, 77, 78, 79, 80, 81, 82, 83, 84, 85, 86, 87, 88, 89, 90, 91, 92, 93, 94, 95, 96, 97, 98, 99, 100, 101, 102, 103, 104, 105, 106, 107, 108] := by kernel_rfl
      unfold after
      simp only [List.size_toArray, List.length_cons, List.length_nil, Nat.reduceAdd, hr, List.map_cons, List.map_nil]
      simp [idxOf, List.findIdx?, List.findIdx?.go, ev]
      clear hr
      clear ev b0 b1 z0 z1 hxc S1c S2c
      have x1 := hW
      clear hW
      have hb8 := (x1.below.block _ (Array.getElem?_eq_some_iff.1 hb8).1).trans hb8
      have h9 := (x1.below.block _ (Array.getElem?_eq_some_iff.1 h9).1).trans h9
      have o8a := own_below o8a x1.below
      have o8b := own_below o8b x1.below
      have o9a := own_below o9a x1.below
      have o9b := own_below o9b x1.below
      have KA := below_next KA x1.below
      have K8 := below_next K8 x1.below
      clear x1
      have z0 := cell_of_row _ g8 0 _ _ _ hb8
      have z1 := cell_of_row _ g8 1 _ _ _ hb8
      go_wp2_with fail
      refine (markInbox_any C3 n n D3 m m 1 1 rfl _ _ _ _ _ o8a o8b hn hm (by omega) (by omega)).mono ?_
      rintro e1 w14 ⟨rfl, _, _, u, g1, g2⟩
      have o9a := own_row o9a g1 (fun k e => X8a.out k e)
      have o9b := own_row o9b g1 (fun k e => X8a.out k e)
      have KA := KA.grown g1 KA.size (fun k e => Nat.le_trans hA8 (L8a.out k e))
      have K8 := K8.grown g1 K8.size (fun k e => L8a.out k e)
      have h9 := (g1.block _ (Array.getElem?_eq_some_iff.1 h9).1 (fun e => I8a.out e.symm)).trans h9
      have o9a := own_row o9a g2 (fun k e => X8b.out k e)
      have o9b := own_row o9b g2 (fun k e => X8b.out k e)
      have KA := KA.grown g2 KA.size (fun k e => Nat.le_trans hA8 (L8b.out k e))
      have K8 := K8.grown g2 K8.size (fun k e => L8b.out k e)
      have h9 := (g2.block _ (Array.getElem?_eq_some_iff.1 h9).1 (fun e => I8b.out e.symm)).trans h9
      clear g1 g2 hb8 z0 z1 X8a X8b L8a L8b I8a I8b
      obtain ⟨k1, hk1⟩ : ∃ k1, k1 = 1 + n * 2 + m := ⟨_, rfl⟩
      rw [← hk1]
      have hk2 : k1 ≤ 1 + 3 * 1048576 := by omega
      clear hk1
      have h6c := (K8.block _ (Array.getElem?_eq_some_iff.1 h6).1).trans h6
      have y0 := cell_of_row _ g9 0 _ _ _ h9
      have y1 := cell_of_row _ g9 1 _ _ _ h9
      have v0 := cell_of_row _ g6 0 _ _ _ h6c
      have v1 := cell_of_row _ g6 1 _ _ _ h6c
      go_wp2_with fail
      refine (eqInbox_same _ _ _ _ _ _ _ _ _ _ _ _ F Z _ (own_sl o9a) (own_sl o9b) (s6a.below K8) (s6b.below K8)).mono ?_
      rintro e1 w15 ⟨rfl, x1⟩
      clear h6c y0 y1 v0 v1
      have h9 := (x1.below.block _ (Array.getElem?_eq_some_iff.1 h9).1).trans h9
      have o9a := own_below o9a x1.below
      have o9b := own_below o9b x1.below
      have KA := below_next KA x1.below
      have K8 := below_next K8 x1.below
      clear x1
      have y0 := cell_of_row _ g9 0 _ _ _ h9
      have y1 := cell_of_row _ g9 1 _ _ _ h9
      go_wp2_with fail
      refine (markInbox_any C9 n9 c9 D9 m9 d9 1 1 rfl _ _ _ _ _ o9a o9b (by omega) (by omega) (by omega) (by omega)).mono ?_
      rintro e1 w16 ⟨rfl, m9a, m9b, u, g1, g2⟩
      have I9a := hid (fun (e : (Value.slice C9 n9 c9).ownBlock = some g9) => own_ne o9a h9 (by decide) e)
      have I9b := hid (fun (e : (Value.slice D9 m9 d9).ownBlock = some g9) => own_ne o9b h9 (by decide) e)
      have KA := KA.grown g1 KA.size (fun k e => Nat.le_trans (Nat.le_trans hA8 h8N) (o9a.lt k e).1)
      have K8 := K8.grown g1 K8.size (fun k e => Nat.le_trans h8N (o9a.lt k e).1)
      have h9 := (g1.block _ (Array.getElem?_eq_some_iff.1 h9).1 (fun e => I9a.out e.symm)).trans h9
      have KA := KA.grown g2 KA.size (fun k e => Nat.le_trans (Nat.le_trans hA8 h8N) (o9b.lt k e).1)
      have K8 := K8.grown g2 K8.size (fun k e => Nat.le_trans h8N (o9b.lt k e).1)
      have h9 := (g2.block _ (Array.getElem?_eq_some_iff.1 h9).1 (fun e => I9b.out e.symm)).trans h9
      have o9a := m9a
      have o9b := m9b
      clear g1 g2 m9a m9b I9a I9b y0 y1
      obtain ⟨k3, hk3⟩ : ∃ k3, k3 = 1 + n9 * 2 + m9 := ⟨_, rfl⟩
      have HK3 := hid hk3
      have hk4 : k3 ≤ 100 := by omega
      rw [← hk3]
      clear hk3
      have y0 := cell_of_row _ g9 0 _ _ _ h9
      have y1 := cell_of_row _ g9 1 _ _ _ h9
      go_wp2_with fail
      refine (heldInbox_any C9 n9 c9 D9 m9 d9 1 1 rfl _ (own_sl o9a) (own_sl o9b) (by omega) (by omega) (by omega) (by omega)).mono ?_
      rintro e1 w17 ⟨rfl, x1⟩
      rw [← HK3.out]
      clear y0 y1
      have h9 := (x1.below.block _ (Array.getElem?_eq_some_iff.1 h9).1).trans h9
      have o9a := own_below o9a x1.below
      have o9b := own_below o9b x1.below
      have KA := below_next KA x1.below
      have K8 := below_next K8 x1.below
      clear x1
      have KV := hid ((hK.ext hE).below KA)
      have hxc := (KA.block _ (Array.getElem?_eq_some_iff.1 hx).1).trans hx
      have hAc := (KA.block _ (Array.getElem?_eq_some_iff.1 hA).1).trans hA
      have b0 := cell_of_row _ w.heap.size 0 _ _ _ hxc
      have b1 := cell_of_row _ w.heap.size 1 _ _ _ hxc
      have a0 := cell_of_row _ (w.heap.size + 1) 0 _ _ _ hAc
      have a1 := cell_of_row _ (w.heap.size + 1) 1 _ _ _ hAc
      have a2 := cell_of_row _ (w.heap.size + 1) 2 _ _ _ hAc
      have a3 := cell_of_row _ (w.heap.size + 1) 3 _ _ _ hAc
      have a4 := cell_of_row _ (w.heap.size + 1) 4 _ _ _ hAc
      have S1A := hid S1
      have S1 := S1.below KA
      have S2 := S2.below KA
      go_wp2_with fail
      generalize w17 = w0 at *
      refine wp_region_env (W := fun _ w' => Ext.of w0 w') (dead := fun i j => i == 9 && (j == 0 || j == 1 || j == 2 || j == 3 || j == 4 || j == 6)) (Tr := TrSt 9) (F := fun i env w' => match i with
          | 0 => env 0 = ibA A n c B m d
          | 1 => ∃ C D, env 1 = ibA C n n D m m ∧ Sl w' C n n 2 (hds xs) ∧ Sl w' D m m 1 (ints zs)
          | 2 => env 2 = acA kd mk a b s
          | 3 => env 3 = acA kd mk a b s
          | 4 => ∃ v, env 4 = .tuple #[v, .int .i64 q] ∧ IbVal w0.heap.size F Z (True) v w'
          | 5 => ∃ v, env 5 = .tuple #[v, .int .i64 q] ∧ IbVal w0.heap.size F Z (True) v w'
          | 6 => ∃ v, env 6 = v ∧ IbVal w0.heap.size F Z (True) v w'
          | 7 => env 7 = .int .i64 q
          | 8 => ∃ g, env 8 = .pointer (some ⟨g, 0, none⟩) ∧ w0.heap.size ≤ g ∧ ∃ c0 c1, w'.heap[g]? = some (.cells #[c0, c1] 26 (0, 0))
          | 9 => ∃ g, env 8 = .pointer (some ⟨g, 0, none⟩) ∧ w0.heap.size ≤ g ∧ IbIn w0.heap.size g F Z (True) w'
          | 10 => env 10 = .int .i64 q
          | _ => True) (by kernel_rfl) (by kernel_rfl) (by kernel_rfl) ?_ ?_ ?_ ?_ ?_
      · exact Ext.of.drew (Ext.of.refl _)
      · intro j env env' w hj he hF
        match j with
        | 0 => exact (he 0 (.inl rfl)).symm.trans hF
        | 1 => obtain ⟨C, D, e, r⟩ := hF; exact ⟨C, D, (he 1 (.inl rfl)).symm.trans e, r⟩
        | 2 => exact (he 2 (.inl rfl)).symm.trans hF
        | 3 => exact (he 3 (.inl rfl)).symm.trans hF
        | 4 => obtain ⟨v, e, r⟩ := hF; exact ⟨v, (he 4 (.inl rfl)).symm.trans e, r⟩
        | 5 => obtain ⟨v, e, r⟩ := hF; exact ⟨v, (he 5 (.inl rfl)).symm.trans e, r⟩
        | 6 => obtain ⟨v, e, r⟩ := hF; exact ⟨v, (he 6 (.inl rfl)).symm.trans e, r⟩
        | 7 => exact (he 7 (.inl rfl)).symm.trans hF
        | 8 => obtain ⟨g, e, r⟩ := hF; exact ⟨g, (he 8 (.inl rfl)).symm.trans e, r⟩
        | 9 => obtain ⟨g, e, r⟩ := hF; exact ⟨g, (he 8 (.inr (by kernel_rfl))).symm.trans e, r⟩
        | 10 => exact (he 10 (.inl rfl)).symm.trans hF
        | _ + 11 => exact hF
      · intro i j kk env a b hi hj hne hdd haa hW hT hF
        by_cases es : i = 9
        · subst es
          have hS := hT.store
          match j with
          | 0 => exact absurd hdd (by decide)
          | 1 => exact absurd hdd (by decide)
          | 2 => exact absurd hdd (by decide)
          | 3 => exact absurd hdd (by decide)
          | 4 => exact absurd hdd (by decide)
          | 5 => obtain ⟨v, e, h⟩ := hF; exact ⟨v, e, h.st hS⟩
          | 6 => exact absurd hdd (by decide)
          | 7 => exact hF
          | 8 => obtain ⟨g, e, h1, h2⟩ := hF; exact ⟨g, e, h1, hS.blk h2⟩
          | 9 => exact absurd rfl hne
          | 10 => exact hF
          | _ + 11 => exact hF
        · have hB := hT.other es
          match j with
          | 0 => exact hF
          | 1 => obtain ⟨C, D, e, s1, s2⟩ := hF; exact ⟨C, D, e, s1.ext hB, s2.ext hB⟩
          | 2 => exact hF
          | 3 => exact hF
          | 4 => obtain ⟨v, e, h⟩ := hF; exact ⟨v, e, h.below hB.below⟩
          | 5 => obtain ⟨v, e, h⟩ := hF; exact ⟨v, e, h.below hB.below⟩
          | 6 => obtain ⟨v, e, h⟩ := hF; exact ⟨v, e, h.below hB.below⟩
          | 7 => exact hF
          | 8 => obtain ⟨g, e, h1, c0, c1, h2⟩ := hF; exact ⟨g, e, h1, c0, c1, (hB.block (Array.getElem?_eq_some_iff.1 h2).1).trans h2⟩
          | 9 =>
            obtain ⟨g, e, h1, h2⟩ := hF; exact ⟨g, e, h1, h2.below hB.below⟩
          | 10 => exact hF
          | _ + 11 => exact hF
      · refine ⟨fun kk ρ env u hk hc hf hg ht hW hd => ?_, ?_⟩
        · have p0 : ρ (.tmp 2) = .pointer (some ⟨w.heap.size, 0, none⟩) := (ht 2).trans (by kernel_rfl)
          have y0 := hW.cell b0
          have y1 := hW.cell b1
          exact yield_value (w' := u) (ibA A n c B m d) (by simp [go_sem, hc, hf, p0, y0, y1]) ⟨upd_same _ _ _, hW, TrSt.ext (by decide) (Ext.of.refl _)⟩
        refine ⟨fun kk ρ env u hk hc hf hg ht hW hd => ?_, ?_⟩
        · have e0 : ρ (.tmp 85) = env 0 := (ht 85).trans (by kernel_rfl)
          have q0 : env 0 = ibA A n c B m d := hd.1 rfl
          rw [q0] at e0
          have s1 := S1.ext hW
          have s2 := S2.ext hW
          refine yield_call 15 #[ibA A n c B m d] (by simp [go_sem, hc, hf, e0]) ?_
          refine (toInbox_any A n c xs B m d zs _ s1 s2 hn hm).mono ?_
          rintro e w' ⟨C, D, rfl, s3, s4, x⟩
          exact ⟨_, rfl, ⟨C, D, upd_same _ _ _, s3, s4⟩, hW.trans x, TrSt.ext (by decide) x⟩
        refine ⟨fun kk ρ env u hk hc hf hg ht hW hd => ?_, ?_⟩
        · have p0 : ρ (.tmp 3) = .pointer (some ⟨w.heap.size + 1, 0, none⟩) := (ht 3).trans (by kernel_rfl)
          have y0 := hW.cell a0
          have y1 := hW.cell a1
          have y2 := hW.cell a2
          have y3 := hW.cell a3
          have y4 := hW.cell a4
          exact yield_value (w' := u) (acA kd mk a b s) (by simp [go_sem, hc, hf, p0, y0, y1, y2, y3, y4]) ⟨upd_same _ _ _, hW, TrSt.ext (by decide) (Ext.of.refl _)⟩
        refine ⟨fun kk ρ env u hk hc hf hg ht hW hd => ?_, ?_⟩
        · have e2 : ρ (.tmp 87) = env 2 := (ht 87).trans (by kernel_rfl)
          have q0 : env 2 = acA kd mk a b s := hd.1 rfl
          rw [q0] at e2
          refine yield_call 16 #[acA kd mk a b s] (by simp [go_sem, hc, hf, e2]) ?_
          refine (toActivity_any kd mk a b s _).mono ?_
          rintro e w' ⟨rfl, x⟩
          exact ⟨_, rfl, upd_same _ _ _, hW.trans x, TrSt.ext (by decide) x⟩
        refine ⟨fun kk ρ env u hk hc hf hg ht hW hd => ?_, ?_⟩
        · have e1 : ρ (.tmp 86) = env 1 := (ht 86).trans (by kernel_rfl)
          obtain ⟨C, D, q0, s1, s2⟩ : ∃ C D, env 1 = ibA C n n D m m ∧ Sl u C n n 2 (hds xs) ∧ Sl u D m m 1 (ints zs) := hd.1 rfl
          rw [q0] at e1
          have e3 : ρ (.tmp 88) = env 3 := (ht 88).trans (by kernel_rfl)
          have q1 : env 3 = acA kd mk a b s := hd.2.1 rfl
          rw [q1] at e3
          refine yield_call 8 #[ibA C n n D m m, acA kd mk a b s] (by simp [go_sem, hc, hf, e1, e3]) ?_
          refine (TI _ (KV.out.ext hW) C n D m s1 s2).mono ?_
          rintro e w' ⟨h1, h2⟩
          obtain ⟨v, rfl, h⟩ := tkRes_val h1
          have x := Ext.of_below h2
          exact ⟨_, rfl, ⟨v, upd_same _ _ _, h.lower hW.size⟩, hW.trans x, TrSt.ext (by decide) x⟩
        refine ⟨fun kk ρ env u hk hc hf hg ht hW hd => ?_, ?_⟩
        · have e4 : ρ (.tmp 89) = env 4 := (ht 89).trans (by kernel_rfl)
          obtain ⟨v, q0, h⟩ : ∃ v, env 4 = .tuple #[v, .int .i64 q] ∧ IbVal w0.heap.size F Z (True) v u := hd.1 rfl
          rw [q0] at e4
          refine yield_move _ rfl ?_
          exact ⟨⟨v, (upd_same _ _ _).trans e4, h⟩, hW, TrSt.ext (by decide) (Ext.of.refl _)⟩
        refine ⟨fun kk ρ env u hk hc hf hg ht hW hd => ?_, ?_⟩
        · have e5 : ρ (.tmp 84) = env 5 := (ht 84).trans (by kernel_rfl)
          obtain ⟨v, q0, h⟩ : ∃ v, env 5 = .tuple #[v, .int .i64 q] ∧ IbVal w0.heap.size F Z (True) v u := hd.1 rfl
          rw [q0] at e5
          exact yield_value (w' := u) v (by simp [go_sem, hc, hf, e5]) ⟨⟨v, upd_same _ _ _, h⟩, hW, TrSt.ext (by decide) (Ext.of.refl _)⟩
        refine ⟨fun kk ρ env u hk hc hf hg ht hW hd => ?_, ?_⟩
        · have e5 : ρ (.tmp 84) = env 5 := (ht 84).trans (by kernel_rfl)
          obtain ⟨v, q0, h⟩ : ∃ v, env 5 = .tuple #[v, .int .i64 q] ∧ IbVal w0.heap.size F Z (True) v u := hd.1 rfl
          rw [q0] at e5
          exact yield_value (w' := u) (.int .i64 q) (by simp [go_sem, hc, hf, e5]) ⟨upd_same _ _ _, hW, TrSt.ext (by decide) (Ext.of.refl _)⟩
        refine ⟨fun kk ρ env u hk hc hf hg ht hW hd => ?_, ?_⟩
        · have x : Ext.of u (u.alloc (.cells #[.slice none 0 0, .slice none 0 0] 26)) := (Ext.of.refl _).alloc _
          exact yield_value (w' := u.alloc (.cells #[.slice none 0 0, .slice none 0 0] 26)) (.pointer (some ⟨u.heap.size, 0, none⟩)) (by simp [go_sem, hc, hf]) ⟨⟨u.heap.size, upd_same _ _ _, hW.size, _, _, alloc_new' rfl⟩, hW.trans x, TrSt.ext (by decide) x⟩
        refine ⟨fun kk ρ env u hk hc hf hg ht hW hd => ?_, ?_⟩
        · have e8 : ρ (.tmp 14) = env 8 := (ht 14).trans (by kernel_rfl)
          have e6 : ρ (.tmp 90) = env 6 := (ht 90).trans (by kernel_rfl)
          obtain ⟨g, qg, hgN, hb2⟩ : ∃ g, env 8 = .pointer (some ⟨g, 0, none⟩) ∧ w0.heap.size ≤ g ∧ ∃ c0 c1, u.heap[g]? = some (.cells #[c0, c1] 26 (0, 0)) := hd.1 rfl
          obtain ⟨v, qv, h⟩ : ∃ v, env 6 = v ∧ IbVal w0.heap.size F Z (True) v u := hd.2.1 rfl
          rw [qg] at e8
          obtain ⟨c0, c1, hb⟩ := hb2
          obtain ⟨C, n1, c2, D, m1, d2, rfl, hin⟩ := h.stored hb
          rw [qv] at e6
          have f0 := frozen_of_row u g 0 _ _ hb
          have f1 := frozen_of_row u g 1 _ _ hb
          have y0 := cell_of_row u g 0 _ _ _ hb
          have y1 := cell_of_row u g 1 _ _ _ hb
          unfold Yield
          simp [go_sem, hc, hf, e8, e6, f0, f1, y0, y1]
          exact ⟨⟨g, (upd_other env _ (by decide)).trans qg, hgN, hin⟩, Ext.of_below ((hW.below.setCell (p := ⟨g, 0, none⟩) (by dsimp; omega) _).setCell (p := ⟨g, 1, none⟩) (by dsimp; omega) _), TrSt.mk hb⟩
        refine ⟨fun kk ρ env u hk hc hf hg ht hW hd => ?_, ?_⟩
        · have e7 : ρ (.tmp 91) = env 7 := (ht 91).trans (by kernel_rfl)
          have q0 : env 7 = .int .i64 q := hd.1 rfl
          exact yield_assign _ rfl ⟨(upd_same _ _ _).trans (e7.trans q0), hW, TrSt.ext (by decide) (Ext.of.refl _)⟩
        trivial
      intro env w18 hW hF
      obtain ⟨g14, eg14, lg14, Ig14⟩ : ∃ g, env 8 = .pointer (some ⟨g, 0, none⟩) ∧ w0.heap.size ≤ g ∧ IbIn w0.heap.size g F Z (True) w18 := hF 9 (of_decide_eq_true (by kernel_rfl)) (fun i hi => by match i with | 0 | 1 | 2 | 3 | 4 | 5 | 6 | 7 | 8 | 9 | 10 => rfl | _ + 11 => simp at hi; omega)
      have qg14 : env 10 = .int .i64 q := hF 10 (of_decide_eq_true (by kernel_rfl)) (fun i hi => by match i with | 0 | 1 | 2 | 3 | 4 | 5 | 6 | 7 | 8 | 9 | 10 => rfl | _ + 11 => simp at hi; omega)
      clear hF
      have hr : List.range 109 = [0, 1, 2, 3, 4, 5, 6, 7, 8, 9, 10, 11, 12, 13, 14, 15, 16, 17, 18, 19, 20, 21, 22, 23, 24, 25, 26, 27, 28, 29, 30, 31, 32, 33, 34, 35, 36, 37, 38, 39, 40, 41, 42, 43, 44, 45, 46, 47, 48, 49, 50, 51, 52, 53, 54, 55, 56, 57, 58, 59, 60, 61, 62, 63, 64, 65, 66, 67, 68, 69, 70, 71, 72, 73, 74, 75, 76, 77, 78, 79, 80, 81, 82, 83, 84, 85, 86, 87, 88, 89, 90, 91, 92, 93, 94, 95, 96, 97, 98, 99, 100, 101, 102, 103, 104, 105, 106, 107, 108] := by kernel_rfl
      unfold after
      simp only [List.size_toArray, List.length_cons, List.length_nil, Nat.reduceAdd, hr, List.map_cons, List.map_nil]
      simp [idxOf, List.findIdx?, List.findIdx?.go, eg14, qg14]
      clear hr
      clear eg14 qg14
      obtain ⟨C14, n14, c14, D14, m14, d14, h14, o14a, o14b, rfl, rfl⟩ := Ig14.parts
      have x1 := hW
      clear hW KV hAc hxc a0 a1 a2 a3 a4 b0 b1 Ig14 lg14 S1 S2 S1A
      have h9 := (x1.below.block _ (Array.getElem?_eq_some_iff.1 h9).1).trans h9
      have o9a := own_below o9a x1.below
      have o9b := own_below o9b x1.below
      have KA := below_next KA x1.below
      have K8 := below_next K8 x1.below
      clear x1
      have h6c := (K8.block _ (Array.getElem?_eq_some_iff.1 h6).1).trans h6
      have y0 := cell_of_row _ g14 0 _ _ _ h14
      have y1 := cell_of_row _ g14 1 _ _ _ h14
      have v0 := cell_of_row _ g6 0 _ _ _ h6c
      have v1 := cell_of_row _ g6 1 _ _ _ h6c
      go_wp2_with fail
      refine (eqInbox_same _ _ _ _ _ _ _ _ _ _ _ _ F Z _ (own_sl o14a) (own_sl o14b) (s6a.below K8) (s6b.below K8)).mono ?_
      rintro e1 w19 ⟨rfl, x1⟩
      clear h6c y0 y1 v0 v1
      have h9 := (x1.below.block _ (Array.getElem?_eq_some_iff.1 h9).1).trans h9
      have o9a := own_below o9a x1.below
      have o9b := own_below o9b x1.below
      have KA := below_next KA x1.below
      have K8 := below_next K8 x1.below
      clear x1
      clear o14a o14b h14
      have y0 := cell_of_row _ g9 0 _ _ _ h9
      have y1 := cell_of_row _ g9 1 _ _ _ h9
      go_wp2_with fail
      refine (heldInbox_any C9 n9 c9 D9 m9 d9 1 1 rfl _ (own_sl o9a) (own_sl o9b) (by omega) (by omega) (by omega) (by omega)).mono ?_
      rintro e1 w20 ⟨rfl, x1⟩
      rw [← HK3.out]
      clear y0 y1
      have KA := below_next KA x1.below
      go_wp2_with fail
      go_ret
      exact ⟨rfl, below_next hE.below KA⟩
end Go.Proofs.YtoagpfdhbcgdcaaDoor.fnExactTakeActivity
