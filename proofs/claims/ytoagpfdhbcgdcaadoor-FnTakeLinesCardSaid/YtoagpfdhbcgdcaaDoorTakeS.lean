/- The contract of TakeActivity, the reference's. -/
import Derived.Test.YtoagpfdhbcgdcaaDoorTake
import Derived.Test.YtoagpfdhbcgdcaaDoorAcTextS
import Derived.Test.YtoagpfdhbcgdcaaDoorFollowingS
namespace Go.Proofs.YtoagpfdhbcgdcaaDoor
open Go.RowKit
set_option linter.unusedVariables false
set_option linter.unusedSimpArgs false
set_option maxRecDepth 8000
set_option maxHeartbeats 8000000 in
theorem takeS_any (A : Option Addr) (n c : Nat) (xs : List Hd) (B : Option Addr) (m d : Nat) (zs : List Int) (kd mk : Int) (a b s : ByteArray) (w : World) (h : Sl w A n c 2 (hds xs)) (hok : hdOk xs) (hz : Sl w B m d 1 (ints zs)) (ha : a.size ≤ 9223372036854775807) (hb : b.size ≤ 9223372036854775807) (hs : s.size ≤ 9223372036854775807) :
    Calls Tryd.prog 9 #[ibA A n c B m d, acA kd mk a b s] w fun e w' => TkRes w.heap.size (tkF xs zs kd mk a b s) (tkZ xs zs kd mk a b s) (tkN xs zs kd mk a b s) (zs.length < 12) e w' ∧ Below w.heap.size w w' := by
  have hl : zs.length = m := by have := hz.len; simpa using this
  have hlx : xs.length = n := h.count hdC_len (by omega)
  have HL := hid hl
  have HLX := hid hlx
  have HOK := hid hok
  have hmx := hz.max
  have hcx := hz.cap
  unfold maxLen at hmx
  have hE : Ext.of w (((w.alloc (.cells #[.slice A n c, .slice B m d] 26)).alloc (.cells #[.int .i64 kd, .int .i64 mk, .string a, .string b, .string s] 30)).alloc (.cells #[.slice none 0 0, .slice none 0 0] 26)) := (((Ext.of.refl _).alloc _).alloc _).alloc _
  have hx : (((w.alloc (.cells #[.slice A n c, .slice B m d] 26)).alloc (.cells #[.int .i64 kd, .int .i64 mk, .string a, .string b, .string s] 30)).alloc (.cells #[.slice none 0 0, .slice none 0 0] 26)).heap[w.heap.size]? = some (.cells #[.slice A n c, .slice B m d] 26 (0, 0)) := alloc_old (alloc_old (alloc_new' rfl))
  have hA : (((w.alloc (.cells #[.slice A n c, .slice B m d] 26)).alloc (.cells #[.int .i64 kd, .int .i64 mk, .string a, .string b, .string s] 30)).alloc (.cells #[.slice none 0 0, .slice none 0 0] 26)).heap[w.heap.size + 1]? = some (.cells #[.int .i64 kd, .int .i64 mk, .string a, .string b, .string s] 30 (0, 0)) := alloc_old (alloc_new' (by simp))
  have hr : (((w.alloc (.cells #[.slice A n c, .slice B m d] 26)).alloc (.cells #[.int .i64 kd, .int .i64 mk, .string a, .string b, .string s] 30)).alloc (.cells #[.slice none 0 0, .slice none 0 0] 26)).heap[w.heap.size + 2]? = some (.cells #[.slice none 0 0, .slice none 0 0] 26 (0, 0)) := alloc_new' (by simp)
  have CI := fun W (h1 : Sl W A n c 2 (hds xs)) (h2 : Sl W B m d 1 (ints zs)) => ibS_any A n c xs B m d zs W h1 hok h2
  have CA := fun W => avalS_any kd mk a b s W ha hb hs
  have CT := fun W => atextS_any kd mk a b s W ha hb hs
  have CD := fun W => digS_any (atextV kd mk a b s) W (by have := atext_size kd mk a b s; omega)
  rw [adig_eq] at CD
  have CF := fun W (h1 : Sl W A n c 2 (hds xs)) => followS_any A n c xs a b W h1 hok ha hb
  have CU := fun W (h1 : Sl W A n c 2 (hds xs)) => unfollowS_any A n c xs a b W h1 hok
  clear hok hl hlx
  go_enter Tryd.func9, Tryd.ntmps9
  go_wp2_with fail
  generalize (((w.alloc (.cells #[.slice A n c, .slice B m d] 26)).alloc (.cells #[.int .i64 kd, .int .i64 mk, .string a, .string b, .string s] 30)).alloc (.cells #[.slice none 0 0, .slice none 0 0] 26)) = V at *
  cases hv : ibV xs zs with
  | false =>
    have R := hid (tk_no (xs := xs) (zs := zs) (kd := kd) (mk := mk) (a := a) (b := b) (s := s) (fun h => by rw [hv] at h; cases h.1))
    rw [hv] at CI
    have b0 := cell_of_row V w.heap.size 0 _ _ _ hx
    have b1 := cell_of_row V w.heap.size 1 _ _ _ hx
    clear hv
    go_wp2_with fail
    refine (CI _ (h.ext hE) (hz.ext hE)).mono ?_
    rintro e w1 ⟨rfl, x1⟩
    have hE := hE.trans x1
    have hr := (x1.block (Array.getElem?_eq_some_iff.1 hr).1).trans hr
    have hB := hE.below
    have r0 := cell_of_row _ (w.heap.size + 2) 0 _ _ _ hr
    have r1 := cell_of_row _ (w.heap.size + 2) 1 _ _ _ hr
    have fr0 := frozen_of_row _ (w.heap.size + 2) 0 _ _ hr
    have fr1 := frozen_of_row _ (w.heap.size + 2) 1 _ _ hr
    have hrr := set_ib1 (v := .slice none 0 0) (set_ib0 (v := .slice none 0 0) hr)
    have v0 := cell_of_row _ (w.heap.size + 2) 0 _ _ _ hrr
    have v1 := cell_of_row _ (w.heap.size + 2) 1 _ _ _ hrr
    have hBB := hid ((hB.setCell (p := ⟨w.heap.size + 2, 0, none⟩) (by dsimp; omega) (.slice none 0 0)).setCell (p := ⟨w.heap.size + 2, 1, none⟩) (by dsimp; omega) (.slice none 0 0))
    clear hr hrr hB x1 hx hA
    go_wp2_with fail
    refine bodyPost_ret (v := .tuple #[ibA none 0 0 none 0 0, .int .i64 (-1)]) (by simp [results, Tryd.results9, go_sem, v0, v1]) rfl ⟨?_, ?_⟩
    · rw [R.out.1, R.out.2.1, R.out.2.2]
      exact ⟨none, 0, 0, none, 0, 0, rfl, World.ownsRow_nil _ _ _ _, Sl.nil_ _ _, ty_none _ _, fun _ => World.ownsRow_nil _ _ _ _⟩
    · exact hBB.out
  | true =>
    have HV := hid hv
    rw [hv] at CI
    have b0 := cell_of_row V w.heap.size 0 _ _ _ hx
    have b1 := cell_of_row V w.heap.size 1 _ _ _ hx
    clear hv
    go_wp2_with fail
    refine (CI _ (h.ext hE) (hz.ext hE)).mono ?_
    rintro e w1 ⟨rfl, x1⟩
    have hE := hE.trans x1
    have hr := (x1.block (Array.getElem?_eq_some_iff.1 hr).1).trans hr
    have hx := (x1.block (Array.getElem?_eq_some_iff.1 hx).1).trans hx
    have hA := (x1.block (Array.getElem?_eq_some_iff.1 hA).1).trans hA
    clear x1 b0 b1 CI
    cases ha2 : avalV kd mk a b s with
    | false =>
      have R := hid (tk_no (xs := xs) (zs := zs) (kd := kd) (mk := mk) (a := a) (b := b) (s := s) (fun h => by rw [ha2] at h; cases h.2))
      rw [ha2] at CA
      have a0 := cell_of_row w1 (w.heap.size + 1) 0 _ _ _ hA
      have a1 := cell_of_row w1 (w.heap.size + 1) 1 _ _ _ hA
      have a2 := cell_of_row w1 (w.heap.size + 1) 2 _ _ _ hA
      have a3 := cell_of_row w1 (w.heap.size + 1) 3 _ _ _ hA
      have a4 := cell_of_row w1 (w.heap.size + 1) 4 _ _ _ hA
      clear ha2
      go_wp2_with fail
      refine (CA _).mono ?_
      rintro e w1 ⟨rfl, x1⟩
      have hE := hE.trans x1
      have hr := (x1.block (Array.getElem?_eq_some_iff.1 hr).1).trans hr
      have hB := hE.below
      have r0 := cell_of_row _ (w.heap.size + 2) 0 _ _ _ hr
      have r1 := cell_of_row _ (w.heap.size + 2) 1 _ _ _ hr
      have fr0 := frozen_of_row _ (w.heap.size + 2) 0 _ _ hr
      have fr1 := frozen_of_row _ (w.heap.size + 2) 1 _ _ hr
      have hrr := set_ib1 (v := .slice none 0 0) (set_ib0 (v := .slice none 0 0) hr)
      have v0 := cell_of_row _ (w.heap.size + 2) 0 _ _ _ hrr
      have v1 := cell_of_row _ (w.heap.size + 2) 1 _ _ _ hrr
      have hBB := hid ((hB.setCell (p := ⟨w.heap.size + 2, 0, none⟩) (by dsimp; omega) (.slice none 0 0)).setCell (p := ⟨w.heap.size + 2, 1, none⟩) (by dsimp; omega) (.slice none 0 0))
      clear hr hrr hB x1 hx hA
      go_wp2_with fail
      refine bodyPost_ret (v := .tuple #[ibA none 0 0 none 0 0, .int .i64 (-1)]) (by simp [results, Tryd.results9, go_sem, v0, v1]) rfl ⟨?_, ?_⟩
      · rw [R.out.1, R.out.2.1, R.out.2.2]
        exact ⟨none, 0, 0, none, 0, 0, rfl, World.ownsRow_nil _ _ _ _, Sl.nil_ _ _, ty_none _ _, fun _ => World.ownsRow_nil _ _ _ _⟩
      · exact hBB.out
    | true =>
      have HVA := hid ha2
      rw [ha2] at CA
      have a0 := cell_of_row w1 (w.heap.size + 1) 0 _ _ _ hA
      have a1 := cell_of_row w1 (w.heap.size + 1) 1 _ _ _ hA
      have a2 := cell_of_row w1 (w.heap.size + 1) 2 _ _ _ hA
      have a3 := cell_of_row w1 (w.heap.size + 1) 3 _ _ _ hA
      have a4 := cell_of_row w1 (w.heap.size + 1) 4 _ _ _ hA
      clear ha2
      go_wp2_with fail
      refine (CA _).mono ?_
      rintro e w0 ⟨rfl, x1⟩
      have hE := hE.trans x1
      have hr := (x1.block (Array.getElem?_eq_some_iff.1 hr).1).trans hr
      have hx := (x1.block (Array.getElem?_eq_some_iff.1 hx).1).trans hx
      have hA := (x1.block (Array.getElem?_eq_some_iff.1 hA).1).trans hA
      clear x1 a0 a1 a2 a3 a4 CA
      have p0 := cell_of_row w0 w.heap.size 0 _ _ _ hx
      have p1 := cell_of_row w0 w.heap.size 1 _ _ _ hx
      have S1 := h.ext hE
      have S2 := hz.ext hE
      have hn : n ≤ 10 := by have h1 := (folV_iff.1 (ib_parts HV.out).1).1; rw [HLX.out] at h1; exact h1
      have hm : m ≤ 12 := by have h1 := (ib_parts HV.out).2.1; rw [HL.out] at h1; exact h1
      have hw0 : w.heap.size + 2 < w0.heap.size := (Array.getElem?_eq_some_iff.1 hr).1
      go_wp2_with fail
      refine wp_region_ghost (d := 9) (G := NoIb w0.heap.size) (W := fun _ w' => Below w0.heap.size w0 w') (dead := fun i j => i == 10 && (j != 9 && j != 10)) (Tr := TrIb 10 9) (F := fun i v w' => match i with
          | 0 => LitAt w0.heap.size 28 v w'
          | 1 => v = .pointer (some ⟨w.heap.size, 0, none⟩)
          | 2 => v = .slice A n c
          | 3 => w'.ownsRow w0.heap.size 28 2 v n (hds xs)
          | 4 => LitAt w0.heap.size 3 v w'
          | 5 => v = .pointer (some ⟨w.heap.size, 1, none⟩)
          | 6 => v = .slice B m d
          | 7 => w'.ownsRow w0.heap.size 3 1 v m (ints zs)
          | 8 => ∃ A1 c1 A2 c2, v = ibA A1 n c1 A2 m c2 ∧ w'.ownsRow w0.heap.size 28 2 (.slice A1 n c1) n (hds xs) ∧ w'.ownsRow w0.heap.size 3 1 (.slice A2 m c2) m (ints zs)
          | 9 => IbPtr w0.heap.size v w'
          | 10 => IbDone w0.heap.size n m xs zs w'
          | _ => True) (by kernel_rfl) (by kernel_rfl) (by kernel_rfl) ?_ ?_ ?_ ?_ ?_ ?_
      · exact below_drewN (Below.refl _ _) 1
      · exact NoIb.start w0
      · intro i kk a b hi hne hW hT hG; exact NoIb.tr hG hT hne
      · intro i j kk a b v hi hj hne hdd haa hW hT hF
        by_cases es : i = 10
        · subst es
          match j with
          | 0 => exact absurd hdd (by decide)
          | 1 => exact absurd hdd (by decide)
          | 2 => exact absurd hdd (by decide)
          | 3 => exact absurd hdd (by decide)
          | 4 => exact absurd hdd (by decide)
          | 5 => exact absurd hdd (by decide)
          | 6 => exact absurd hdd (by decide)
          | 7 => exact absurd hdd (by decide)
          | 8 => exact absurd hdd (by decide)
          | 9 => exact IbPtr.tr hF hT (by decide)
          | 10 => exact absurd rfl hne
          | _ + 11 => simp at hj; omega
        · have hB := hT.other es
          match j with
          | 0 => exact LitAt.below hF hB
          | 1 => exact hF
          | 2 => exact hF
          | 3 => exact own_below hF hB
          | 4 => exact LitAt.below hF hB
          | 5 => exact hF
          | 6 => exact hF
          | 7 => exact own_below hF hB
          | 8 => obtain ⟨A1, c1, A2, c2, e, O1, O2⟩ := hF; exact ⟨A1, c1, A2, c2, e, own_below O1 hB, own_below O2 hB⟩
          | 9 => exact IbPtr.tr hF hT hne
          | 10 =>
            match i with
            | 0 => exact absurd (haa.symm.trans (show ancB _ _ _ _ = true by kernel_rfl)) (by decide)
            | 1 => exact absurd (haa.symm.trans (show ancB _ _ _ _ = true by kernel_rfl)) (by decide)
            | 2 => exact absurd (haa.symm.trans (show ancB _ _ _ _ = true by kernel_rfl)) (by decide)
            | 3 => exact absurd (haa.symm.trans (show ancB _ _ _ _ = true by kernel_rfl)) (by decide)
            | 4 => exact absurd (haa.symm.trans (show ancB _ _ _ _ = true by kernel_rfl)) (by decide)
            | 5 => exact absurd (haa.symm.trans (show ancB _ _ _ _ = true by kernel_rfl)) (by decide)
            | 6 => exact absurd (haa.symm.trans (show ancB _ _ _ _ = true by kernel_rfl)) (by decide)
            | 7 => exact absurd (haa.symm.trans (show ancB _ _ _ _ = true by kernel_rfl)) (by decide)
            | 8 => exact absurd (haa.symm.trans (show ancB _ _ _ _ = true by kernel_rfl)) (by decide)
            | 9 => exact absurd (haa.symm.trans (show ancB _ _ _ _ = true by kernel_rfl)) (by decide)
            | 10 => exact absurd rfl es
            | _ + 11 => simp at hi; omega
          | _ + 11 => simp at hj; omega
      · refine ⟨fun kk ρ u hkk hc hf hb hW hd hg => ?_, ?_⟩
        · have hz := hW.size
          exact yield_value (w' := u.alloc (.cells #[] 28)) (.slice (some ⟨u.heap.size, 0, none⟩) 0 0) (by simp [go_sem, hc]) ⟨⟨_, rfl, hz, alloc_new' rfl⟩, hW.alloc hz _, TrIb.lit (by decide) (by decide) _ _⟩
        refine ⟨fun kk ρ u hkk hc hf hb hW hd hg => ?_, ?_⟩
        · have e1 : ρ (.tmp 2) = .pointer (some ⟨w.heap.size, 0, none⟩) := hb 2 (by kernel_rfl)
          clear hd hb hg
          exact yield_value (w' := u) (.pointer (some ⟨w.heap.size, 0, none⟩)) (by simp [go_sem, hc, hf, e1]) ⟨rfl, hW, TrIb.same (by decide) _⟩
        refine ⟨fun kk ρ u hkk hc hf hb hW hd hg => ?_, ?_⟩
        · have e1 : ρ (.tmp 23) = .pointer (some ⟨w.heap.size, 0, none⟩) := hd.1 rfl rfl
          clear hd hb hg
          have x0 := (hW.cell (World.block_lt_of_cell? _ _ p0)).trans p0
          exact yield_value (w' := u) (.slice A n c) (by simp [go_sem, hc, hf, e1, x0]) ⟨rfl, hW, TrIb.same (by decide) _⟩
        refine ⟨fun kk ρ u hkk hc hf hb hW hd hg => ?_, ?_⟩
        · obtain ⟨g, e1, hgN, hgc⟩ : LitAt w0.heap.size 28 (ρ (.tmp 22)) u := hd.1 rfl rfl
          have e2 : ρ (.tmp 24) = .slice A n c := hd.2.1 rfl rfl
          clear hd hb hg
          have s1 := S1.below hW
          have hz := hW.size
          refine yield_append_new (.tmp 22) (.tmp 24) eltHandle rfl w0.heap.size _ (.inr ⟨g, rfl⟩) e1 (own_lit0 hgN hgc) A n c (hds xs) e2 s1.see (s1.of_none (by decide)) s1.len (flat_one hdC_one _) (by unfold maxLen; omega) (by omega) hz ?_
          intro v' w' O Nw
          exact ⟨O, below_next hW Nw.below, TrIb.new (by decide) (by decide) Nw⟩
        refine ⟨fun kk ρ u hkk hc hf hb hW hd hg => ?_, ?_⟩
        · have hz := hW.size
          exact yield_value (w' := u.alloc (.cells #[] 3)) (.slice (some ⟨u.heap.size, 0, none⟩) 0 0) (by simp [go_sem, hc]) ⟨⟨_, rfl, hz, alloc_new' rfl⟩, hW.alloc hz _, TrIb.lit (by decide) (by decide) _ _⟩
        refine ⟨fun kk ρ u hkk hc hf hb hW hd hg => ?_, ?_⟩
        · have e1 : ρ (.tmp 2) = .pointer (some ⟨w.heap.size, 0, none⟩) := hb 2 (by kernel_rfl)
          clear hd hb hg
          exact yield_value (w' := u) (.pointer (some ⟨w.heap.size, 1, none⟩)) (by simp [go_sem, hc, hf, e1]) ⟨rfl, hW, TrIb.same (by decide) _⟩
        refine ⟨fun kk ρ u hkk hc hf hb hW hd hg => ?_, ?_⟩
        · have e1 : ρ (.tmp 27) = .pointer (some ⟨w.heap.size, 1, none⟩) := hd.1 rfl rfl
          clear hd hb hg
          have x0 := (hW.cell (World.block_lt_of_cell? _ _ p1)).trans p1
          exact yield_value (w' := u) (.slice B m d) (by simp [go_sem, hc, hf, e1, x0]) ⟨rfl, hW, TrIb.same (by decide) _⟩
        refine ⟨fun kk ρ u hkk hc hf hb hW hd hg => ?_, ?_⟩
        · obtain ⟨g, e1, hgN, hgc⟩ : LitAt w0.heap.size 3 (ρ (.tmp 26)) u := hd.1 rfl rfl
          have e2 : ρ (.tmp 28) = .slice B m d := hd.2.1 rfl rfl
          clear hd hb hg
          have s1 := S2.below hW
          have hz := hW.size
          refine yield_append_new (.tmp 26) (.tmp 28) eltInt rfl w0.heap.size _ (.inr ⟨g, rfl⟩) e1 (own_lit0 hgN hgc) B m d (ints zs) e2 s1.see (s1.of_none (by decide)) s1.len (ints_oneCell _ _) (by unfold maxLen; omega) (by omega) hz ?_
          intro v' w' O Nw
          exact ⟨O, below_next hW Nw.below, TrIb.new (by decide) (by decide) Nw⟩
        refine ⟨fun kk ρ u hkk hc hf hb hW hd hg => ?_, ?_⟩
        · have O1 : u.ownsRow w0.heap.size 28 2 (ρ (.tmp 25)) n (hds xs) := hd.1 rfl rfl
          have O2 : u.ownsRow w0.heap.size 3 1 (ρ (.tmp 29)) m (ints zs) := hd.2.1 rfl rfl
          clear hd hb hg
          obtain ⟨A1, c1, q1, _⟩ := own_form O1
          obtain ⟨A2, c2, q2, _⟩ := own_form O2
          rw [q1] at O1
          rw [q2] at O2
          exact yield_value (w' := u) (ibA A1 n c1 A2 m c2) (by simp [go_sem, hc, hf, q1, q2]) ⟨⟨A1, c1, A2, c2, rfl, O1, O2⟩, hW, TrIb.same (by decide) _⟩
        refine ⟨fun kk ρ u hkk hc hf hb hW hd hg => ?_, ?_⟩
        · have hz := hW.size
          exact yield_value (w' := u.alloc (.cells #[.slice none 0 0, .slice none 0 0] 26)) (.pointer (some ⟨u.heap.size, 0, none⟩)) (by simp [go_sem, hc, hf]) ⟨IbPtr.new (hg rfl) hz _ _, hW.alloc hz _, TrIb.al (by decide) _ _⟩
        refine ⟨fun kk ρ u hkk hc hf hb hW hd hg => ?_, ?_⟩
        · obtain ⟨g, e0, hgN, hblk, hu⟩ : IbPtr w0.heap.size (ρ (.tmp 6)) u := hd.1 rfl rfl
          obtain ⟨A1, c1, A2, c2, e8, O1, O2⟩ : ∃ A1 c1 A2 c2, ρ (.tmp 30) = ibA A1 n c1 A2 m c2 ∧ u.ownsRow w0.heap.size 28 2 (.slice A1 n c1) n (hds xs) ∧ u.ownsRow w0.heap.size 3 1 (.slice A2 m c2) m (ints zs) := hd.2.1 rfl rfl
          have K := ib_store (N := w0.heap.size) ⟨g, rfl, hgN, hblk, hu⟩ O1 O2 10 9
          obtain ⟨c3, c4, hblk⟩ := hblk
          have f0 := frozen_of_row u g 0 _ _ hblk
          have f1 := frozen_of_row u g 1 _ _ hblk
          have z0 := cell_of_row u g 0 _ _ _ hblk
          have z1 := cell_of_row u g 1 _ _ _ hblk
          clear hd hb hg hu hblk
          unfold Yield
          simp [go_sem, hc, hf, e0, e8, f0, f1, z0, z1]
          exact ⟨K.1, hW.grown K.2.2 hW.size (by rintro _ ⟨rfl⟩; exact hgN), K.2.1⟩
        trivial
      intro env w2 B2 hF
      obtain ⟨g2, e9, hg2, ⟨c0, c1, hb2⟩, _⟩ : IbPtr w0.heap.size (env 9) w2 := hF 9 (of_decide_eq_true (by kernel_rfl)) (fun i hi => by match i with | 0 | 1 | 2 | 3 | 4 | 5 | 6 | 7 | 8 | 9 | 10 => rfl | _ + 11 => simp at hi; omega)
      have D : IbDone w0.heap.size n m xs zs w2 := hF 10 (of_decide_eq_true (by kernel_rfl)) (fun i hi => by match i with | 0 | 1 | 2 | 3 | 4 | 5 | 6 | 7 | 8 | 9 | 10 => rfl | _ + 11 => simp at hi; omega)
      obtain ⟨v1, v2, ec, o1, o2⟩ := D g2 _ hg2 hb2
      simp at ec
      obtain ⟨rfl, rfl⟩ := ec
      clear hF D
      obtain ⟨C1, d1, rfl, _⟩ := own_form o1
      obtain ⟨C2, d2, rfl, _⟩ := own_form o2
      have hr : List.range 90 = [0, 1, 2, 3, 4, 5, 6, 7, 8, 9, 10, 11, 12, 13, 14, 15, 16, 17, 18, 19, 20, 21, 22, 23, 24, 25, 26, 27, 28, 29, 30, 31, 32, 33, 34, 35, 36, 37, 38, 39, 40, 41, 42, 43, 44, 45, 46, 47, 48, 49, 50, 51, 52, 53, 54, 55, 56, 57, 58, 59, 60, 61, 62, 63, 64, 65, 66, 67, 68, 69, 70, 71, 72, 73, 74, 75, 76, 77, 78, 79, 80, 81, 82, 83, 84, 85, 86, 87, 88, 89] := by kernel_rfl
      unfold after
      simp only [List.size_toArray, List.length_cons, List.length_nil, Nat.reduceAdd, hr, List.map_cons, List.map_nil]
      simp [idxOf, List.findIdx?, List.findIdx?.go, e9]
      clear hr e9
      have hx := (B2.block _ (by omega)).trans hx
      have hA := (B2.block _ (by omega)).trans hA
      have hr := (B2.block _ (by omega)).trans hr
      have T2 := below_next hE.below B2
      have o1 := own_lower o1 hE.size
      have o2 := own_lower o2 hE.size
      have hg3 : w.heap.size + 2 < g2 := by omega
      clear p0 p1 S1 S2 hE B2 hw0 hg2
      have a0 := cell_of_row w2 (w.heap.size + 1) 0 _ _ _ hA
      have a1 := cell_of_row w2 (w.heap.size + 1) 1 _ _ _ hA
      have a2 := cell_of_row w2 (w.heap.size + 1) 2 _ _ _ hA
      have a3 := cell_of_row w2 (w.heap.size + 1) 3 _ _ _ hA
      have a4 := cell_of_row w2 (w.heap.size + 1) 4 _ _ _ hA
      go_wp2_with fail
      refine (CT _).mono ?_
      rintro e w3 ⟨rfl, x3⟩
      have hr := (x3.block (Array.getElem?_eq_some_iff.1 hr).1).trans hr
      have hx := (x3.block (Array.getElem?_eq_some_iff.1 hx).1).trans hx
      have hA := (x3.block (Array.getElem?_eq_some_iff.1 hA).1).trans hA
      have hb2 := (x3.block (Array.getElem?_eq_some_iff.1 hb2).1).trans hb2
      have o1 := own_ext o1 x3
      have o2 := own_ext o2 x3
      have T3 := below_next T2 x3.below
      clear x3 T2 CT a0 a1 a2 a3 a4
      go_wp2_with fail
      refine (CD _).mono ?_
      rintro e w4 ⟨rfl, x3⟩
      have hr := (x3.block (Array.getElem?_eq_some_iff.1 hr).1).trans hr
      have hx := (x3.block (Array.getElem?_eq_some_iff.1 hx).1).trans hx
      have hA := (x3.block (Array.getElem?_eq_some_iff.1 hA).1).trans hA
      have hb2 := (x3.block (Array.getElem?_eq_some_iff.1 hb2).1).trans hb2
      have o1 := own_ext o1 x3
      have o2 := own_ext o2 x3
      have T4 := below_next T3 x3.below
      clear x3 T3 CD
      have b0 := cell_of_row w4 w.heap.size 0 _ _ _ hx
      have b1 := cell_of_row w4 w.heap.size 1 _ _ _ hx
      have S2 := hz.below T4
      go_wp2_with fail
      go_loop [8] (fun i => ∃ k : Nat, k ≤ m ∧ i = .int .i64 k ∧ Hid (adig kd mk a b s ∉ zs.take k)) (fun i => m - (intOf i).toNat)
      case atStart => exact ⟨0, Nat.zero_le _, rfl, (by show adig kd mk a b s ∉ zs.take 0; simp)⟩
      case round =>
        obtain ⟨k, hk, rfl, hno⟩ := hrel
        by_cases hlt : k < m
        · obtain ⟨ad, y, rfl, hy, c0⟩ := S2.int hlt
          by_cases he : y = adig kd mk a b s
          · have R := hid (tk_old (kd := kd) (mk := mk) (a := a) (b := b) (s := s) HV.out HVA.out (by rw [← he]; exact List.mem_of_getElem? hy))
            have tb : (y == adig kd mk a b s) = true := by simpa using he
            have HNE := hid (fun (_ : ints zs ≠ []) => sl_off o2 hr (by decide))
            have SL2 := own_sl o2
            have hw := hid T4
            have r0 := cell_of_row w4 (w.heap.size + 2) 0 _ _ _ hr
            have r1 := cell_of_row w4 (w.heap.size + 2) 1 _ _ _ hr
            have fr0 := frozen_of_row w4 (w.heap.size + 2) 0 _ _ hr
            have fr1 := frozen_of_row w4 (w.heap.size + 2) 1 _ _ hr
            have y0 := cell_of_row w4 g2 0 _ _ _ hb2
            have y1 := cell_of_row w4 g2 1 _ _ _ hb2
            have fy0 := frozen_of_row w4 g2 0 _ _ hb2
            have fy1 := frozen_of_row w4 g2 1 _ _ hb2
            have hrr := set_ib1 (v := .slice C2 m d2) (set_ib0 (v := .slice C1 n d1) hr)
            have O1 := hid (own_setIb (i := 1) (u := .slice C2 m d2) (own_setIb (i := 0) (u := .slice C1 n d1) o1 hr (by decide)) (set_ib0 hr) (by decide))
            have SS := hid ((SL2.setIb (g := w.heap.size + 2) (i := 0) (u := .slice C1 n d1) HNE.out).setIb (g := w.heap.size + 2) (i := 1) (u := .slice C2 m d2) HNE.out)
            have OO := hid (show zs.length < 12 → _ from fun hlt => own_setIb (i := 1) (u := .slice C2 m d2) (own_setIb (i := 0) (u := .slice C1 n d1) ((fun _ => o2) hlt) hr (by decide)) (set_ib0 hr) (by decide))
            have TYY := hid (((ty_own o2).set (i := 0) (v := .slice C1 n d1) hr (by decide)).set (i := 1) (v := .slice C2 m d2) (set_ib0 hr) (by decide))
            have v0 := cell_of_row _ (w.heap.size + 2) 0 _ _ _ hrr
            have v1 := cell_of_row _ (w.heap.size + 2) 1 _ _ _ hrr
            have hBB := hid ((hw.out.setCell (p := ⟨w.heap.size + 2, 0, none⟩) (by dsimp; omega) (.slice C1 n d1)).setCell (p := ⟨w.heap.size + 2, 1, none⟩) (by dsimp; omega) (.slice C2 m d2))
            clear hr hb2 hrr hw hx hA hy hno he SL2
            go_wp2_with fail
            refine bodyPost_ret (v := .tuple #[ibA C1 n d1 C2 m d2, .int .i64 0]) (by simp [results, Tryd.results9, go_sem, v0, v1]) rfl ⟨?_, ?_⟩
            · rw [R.out.1, R.out.2.1, R.out.2.2]
              exact ⟨C1, n, d1, C2, m, d2, rfl, O1.out, SS.out, TYY.out, OO.out⟩
            · exact hBB.out
          · have tb : (y == adig kd mk a b s) = false := by simpa using he
            have N := hid (not_mem_next hy hno.out he)
            clear hy hno he
            go_wp2_with fail
            go_round
            case rel => exact ⟨k + 1, by omega, by go_num, N⟩
            case measure => simp [intOf]; omega
        · obtain rfl : k = m := by omega
          have N0 := hid (show adig kd mk a b s ∉ zs by have h1 := hno.out; rw [← HL.out, List.take_length] at h1; exact h1)
          have RN := hid (tk_new (kd := kd) (mk := mk) (a := a) (b := b) (s := s) HV.out HVA.out N0.out)
          clear hno
          by_cases h3 : kd = 3
          · have tb3 : (kd == 3) = true := by simpa using h3
            have RF := hid (RN.out.1.trans (if_pos h3))
            clear h3
            by_cases h12 : k = 12
            · have hkk : 12 ≤ k := by omega
              have H12 := hid h12
              clear h12
              have hm4 : k ≤ 4000 := by omega
              clear hm
              have o2a := o2.alloc (.cells #[.int .i64 (adig kd mk a b s)] 3)
              have hb2a := alloc_old (o := .cells #[.int .i64 (adig kd mk a b s)] 3) hb2
              have hne2 := own_ne o2a hb2a (by decide)
              have y1 := cell_of_row w4 g2 1 _ _ _ hb2
              have HX := hid (And.intro hx (And.intro hA (And.intro hr (And.intro o1 T4))))
              have HB := hid (show w.heap.size ≤ (w4.alloc (.cells #[.int .i64 (adig kd mk a b s)] 3)).heap.size from Nat.le_trans T4.size (by simp))
              clear hx hA hr o1 T4 S2
              go_wp2_with (at_builtin; refine wpList_append_see _ rfl _ _ eltInt rfl w.heap.size _ k (ints zs) rfl o2a _ 1 1 [.int .i64 (adig kd mk a b s)] rfl (see_new _ [.int .i64 (adig kd mk a b s)] _ _ rfl) (fun e => by cases e) rfl (ints_oneCell _ [adig kd mk a b s]) (by unfold maxLen; omega) (by omega) HB.out ?_
                           intro v5 w5 o5 g5 _
                           have hb5 := (g5.block g2 (Array.getElem?_eq_some_iff.1 hb2a).1 (fun e => hne2 e.symm)).trans hb2a
                           have z1 := cell_of_row w5 g2 1 _ _ _ hb5
                           have fz1 := frozen_of_row w5 g2 1 _ _ hb5
                           obtain ⟨C5, d5, rfl, hcm5, hcm6, _⟩ := own_form o5
                           have hd1 : ¬ d5 = 1 := by omega
                           have hx := alloc_old (o := .cells #[.int .i64 (adig kd mk a b s)] 3) HX.out.1
                           have hA := alloc_old (o := .cells #[.int .i64 (adig kd mk a b s)] 3) HX.out.2.1
                           have hr := alloc_old (o := .cells #[.int .i64 (adig kd mk a b s)] 3) HX.out.2.2.1
                           have hx := (g5.block _ (Array.getElem?_eq_some_iff.1 hx).1 (fun e => own_ne o2a hx (by decide) e.symm)).trans hx
                           have hA := (g5.block _ (Array.getElem?_eq_some_iff.1 hA).1 (fun e => own_ne o2a hA (by decide) e.symm)).trans hA
                           have hr := (g5.block _ (Array.getElem?_eq_some_iff.1 hr).1 (fun e => own_ne o2a hr (by decide) e.symm)).trans hr
                           have o1 := (HX.out.2.2.2.1.alloc (.cells #[.int .i64 (adig kd mk a b s)] 3)).kept g5 (own_own_ne (HX.out.2.2.2.1.alloc _) o2a (by decide))
                           have T5 := (HX.out.2.2.2.2.alloc HX.out.2.2.2.2.size (.cells #[.int .i64 (adig kd mk a b s)] 3)).grown g5 HB.out (fun q hq => (o2.lt q hq).1)
                           rw [show ints zs ++ [Value.int .i64 (adig kd mk a b s)] = ints (zs ++ [adig kd mk a b s]) by simp [ints]] at o5
                           clear o2a hb2a hne2 y1 HX HB hb2 o2 g5 b0 b1
                           have o1 := own_setIb (i := 1) (u := .slice C5 (k + 1) d5) o1 hb5 (by decide)
                           have o5 := own_setIb (i := 1) (u := .slice C5 (k + 1) d5) o5 hb5 (by decide)
                           have hx := set_else (g := g2) (i := 1) (v := .slice C5 (k + 1) d5) (by omega) hx
                           have hA := set_else (g := g2) (i := 1) (v := .slice C5 (k + 1) d5) (by omega) hA
                           have hr := set_else (g := g2) (i := 1) (v := .slice C5 (k + 1) d5) (by omega) hr
                           have T5 := T5.setCell (p := ⟨g2, 1, none⟩) (by dsimp; omega) (.slice C5 (k + 1) d5)
                           have hb5 := set_ib1 (v := .slice C5 (k + 1) d5) hb5
                           have o1 := own_setIb (i := 1) (u := .slice (C5.map (fun x => (⟨x.block, x.off + 1, none⟩ : Addr))) k (d5 - 1)) o1 hb5 (by decide)
                           have o5 := own_setIb (i := 1) (u := .slice (C5.map (fun x => (⟨x.block, x.off + 1, none⟩ : Addr))) k (d5 - 1)) o5 hb5 (by decide)
                           have hx := set_else (g := g2) (i := 1) (v := .slice (C5.map (fun x => (⟨x.block, x.off + 1, none⟩ : Addr))) k (d5 - 1)) (by omega) hx
                           have hA := set_else (g := g2) (i := 1) (v := .slice (C5.map (fun x => (⟨x.block, x.off + 1, none⟩ : Addr))) k (d5 - 1)) (by omega) hA
                           have hr := set_else (g := g2) (i := 1) (v := .slice (C5.map (fun x => (⟨x.block, x.off + 1, none⟩ : Addr))) k (d5 - 1)) (by omega) hr
                           have T5 := T5.setCell (p := ⟨g2, 1, none⟩) (by dsimp; omega) (.slice (C5.map (fun x => (⟨x.block, x.off + 1, none⟩ : Addr))) k (d5 - 1))
                           have hb5 := set_ib1 (v := .slice (C5.map (fun x => (⟨x.block, x.off + 1, none⟩ : Addr))) k (d5 - 1)) hb5
                           have hb2 := hb5
                           have SL := (own_sl o5).cut (k := 1) (K := 1) (by omega) rfl
                           rw [if_neg hd1, ints_drop, Nat.add_sub_cancel, add1_fun] at SL
                           have HNE := hid (fun (_ : ints ((zs ++ [adig kd mk a b s]).drop 1) ≠ []) => sl_offs (sl_off o5 hr (by decide)))
                           have HN2 := hid (fun (_ : ints ((zs ++ [adig kd mk a b s]).drop 1) ≠ []) => sl_offs (sl_off o5 hb2 (by decide)))
                           have RZ := hid (RN.out.2.1.trans (if_pos (by rw [HL.out]; exact H12.out)))
                           have TY5 := ty_map (ty_own o5)
                           have a0 := cell_of_row _ (w.heap.size + 1) 0 _ _ _ hA
                           have a1 := cell_of_row _ (w.heap.size + 1) 1 _ _ _ hA
                           have a2 := cell_of_row _ (w.heap.size + 1) 2 _ _ _ hA
                           have a3 := cell_of_row _ (w.heap.size + 1) 3 _ _ _ hA
                           have a4 := cell_of_row _ (w.heap.size + 1) 4 _ _ _ hA
                           have b0 := cell_of_row _ w.heap.size 0 _ _ _ hx
                           have b1 := cell_of_row _ w.heap.size 1 _ _ _ hx
                           have S1 := h.below T5)
              refine (CF _ S1).mono ?_
              rintro e w6 ⟨C6, k6, d6, rfl, o6, b6⟩
              have o6 := own_lower o6 T5.size
              have hr := (b6.block _ (Array.getElem?_eq_some_iff.1 hr).1).trans hr
              have hb2 := (b6.block _ (Array.getElem?_eq_some_iff.1 hb2).1).trans hb2
              have T6 := below_next T5 b6
              have SL6 := SL.below b6
              have TY5 := TY5.below b6
              have TY5 := TY5.set (i := 0) (v := .slice C6 k6 d6) hb2 (by decide)
              have z0 := cell_of_row w6 g2 0 _ _ _ hb2
              have fz0 := frozen_of_row w6 g2 0 _ _ hb2
              clear a0 a1 a2 a3 a4 b0 b1 S1 b6 hx hA o1 z1 fz1 o5
              have o6 := own_setIb (i := 0) (u := .slice C6 k6 d6) o6 hb2 (by decide)
              have SL6 := SL6.setIb (g := g2) (i := 0) (u := .slice C6 k6 d6) HN2.out
              have hr := set_else (g := g2) (i := 0) (v := .slice C6 k6 d6) (by omega) hr
              have T6 := T6.setCell (p := ⟨g2, 0, none⟩) (by dsimp; omega) (.slice C6 k6 d6)
              have hb2 := set_ib0 (v := .slice C6 k6 d6) hb2
              have hw := hid T6
              have r0 := cell_of_row _ (w.heap.size + 2) 0 _ _ _ hr
              have r1 := cell_of_row _ (w.heap.size + 2) 1 _ _ _ hr
              have fr0 := frozen_of_row _ (w.heap.size + 2) 0 _ _ hr
              have fr1 := frozen_of_row _ (w.heap.size + 2) 1 _ _ hr
              have y0 := cell_of_row _ g2 0 _ _ _ hb2
              have y1 := cell_of_row _ g2 1 _ _ _ hb2
              have fy0 := frozen_of_row _ g2 0 _ _ hb2
              have fy1 := frozen_of_row _ g2 1 _ _ hb2
              have hrr := set_ib1 (v := .slice (C5.map (fun x => (⟨x.block, x.off + 1, none⟩ : Addr))) k (d5 - 1)) (set_ib0 (v := .slice C6 k6 d6) hr)
              have O1 := hid (own_setIb (i := 1) (u := .slice (C5.map (fun x => (⟨x.block, x.off + 1, none⟩ : Addr))) k (d5 - 1)) (own_setIb (i := 0) (u := .slice C6 k6 d6) o6 hr (by decide)) (set_ib0 hr) (by decide))
              have SS := hid ((SL6.setIb (g := w.heap.size + 2) (i := 0) (u := .slice C6 k6 d6) HNE.out).setIb (g := w.heap.size + 2) (i := 1) (u := .slice (C5.map (fun x => (⟨x.block, x.off + 1, none⟩ : Addr))) k (d5 - 1)) HNE.out)
              have TYY := hid (((TY5).set (i := 0) (v := .slice C6 k6 d6) hr (by decide)).set (i := 1) (v := .slice (C5.map (fun x => (⟨x.block, x.off + 1, none⟩ : Addr))) k (d5 - 1)) (set_ib0 hr) (by decide))
              have v0 := cell_of_row _ (w.heap.size + 2) 0 _ _ _ hrr
              have v1 := cell_of_row _ (w.heap.size + 2) 1 _ _ _ hrr
              have hBB := hid ((hw.out.setCell (p := ⟨w.heap.size + 2, 0, none⟩) (by dsimp; omega) (.slice C6 k6 d6)).setCell (p := ⟨w.heap.size + 2, 1, none⟩) (by dsimp; omega) (.slice (C5.map (fun x => (⟨x.block, x.off + 1, none⟩ : Addr))) k (d5 - 1)))
              clear hr hb2 hrr hw SL6
              go_wp2_with fail
              refine bodyPost_ret (v := .tuple #[ibA C6 k6 d6 (C5.map (fun x => (⟨x.block, x.off + 1, none⟩ : Addr))) k (d5 - 1), .int .i64 1]) (by simp [results, Tryd.results9, go_sem, v0, v1]) rfl ⟨?_, ?_⟩
              · rw [RF.out, RZ.out, RN.out.2.2]
                exact ⟨C6, k6, d6, (C5.map (fun x => (⟨x.block, x.off + 1, none⟩ : Addr))), k, (d5 - 1), rfl, O1.out, SS.out, TYY.out, fun hlt => absurd hlt (by rw [HL.out]; omega)⟩
              · exact hBB.out
            · have hkk : k < 12 := by omega
              clear h12
              have o2a := o2.alloc (.cells #[.int .i64 (adig kd mk a b s)] 3)
              have hb2a := alloc_old (o := .cells #[.int .i64 (adig kd mk a b s)] 3) hb2
              have hne2 := own_ne o2a hb2a (by decide)
              have y1 := cell_of_row w4 g2 1 _ _ _ hb2
              have HX := hid (And.intro hx (And.intro hA (And.intro hr (And.intro o1 T4))))
              have HB := hid (show w.heap.size ≤ (w4.alloc (.cells #[.int .i64 (adig kd mk a b s)] 3)).heap.size from Nat.le_trans T4.size (by simp))
              clear hx hA hr o1 T4 S2
              go_wp2_with (at_builtin; refine wpList_append_see _ rfl _ _ eltInt rfl w.heap.size _ k (ints zs) rfl o2a _ 1 1 [.int .i64 (adig kd mk a b s)] rfl (see_new _ [.int .i64 (adig kd mk a b s)] _ _ rfl) (fun e => by cases e) rfl (ints_oneCell _ [adig kd mk a b s]) (by unfold maxLen; omega) (by omega) HB.out ?_
                           intro v5 w5 o5 g5 _
                           have hb5 := (g5.block g2 (Array.getElem?_eq_some_iff.1 hb2a).1 (fun e => hne2 e.symm)).trans hb2a
                           have z1 := cell_of_row w5 g2 1 _ _ _ hb5
                           have fz1 := frozen_of_row w5 g2 1 _ _ hb5
                           obtain ⟨C5, d5, rfl, hcm5, hcm6, _⟩ := own_form o5
                           have hx := alloc_old (o := .cells #[.int .i64 (adig kd mk a b s)] 3) HX.out.1
                           have hA := alloc_old (o := .cells #[.int .i64 (adig kd mk a b s)] 3) HX.out.2.1
                           have hr := alloc_old (o := .cells #[.int .i64 (adig kd mk a b s)] 3) HX.out.2.2.1
                           have hx := (g5.block _ (Array.getElem?_eq_some_iff.1 hx).1 (fun e => own_ne o2a hx (by decide) e.symm)).trans hx
                           have hA := (g5.block _ (Array.getElem?_eq_some_iff.1 hA).1 (fun e => own_ne o2a hA (by decide) e.symm)).trans hA
                           have hr := (g5.block _ (Array.getElem?_eq_some_iff.1 hr).1 (fun e => own_ne o2a hr (by decide) e.symm)).trans hr
                           have o1 := (HX.out.2.2.2.1.alloc (.cells #[.int .i64 (adig kd mk a b s)] 3)).kept g5 (own_own_ne (HX.out.2.2.2.1.alloc _) o2a (by decide))
                           have T5 := (HX.out.2.2.2.2.alloc HX.out.2.2.2.2.size (.cells #[.int .i64 (adig kd mk a b s)] 3)).grown g5 HB.out (fun q hq => (o2.lt q hq).1)
                           rw [show ints zs ++ [Value.int .i64 (adig kd mk a b s)] = ints (zs ++ [adig kd mk a b s]) by simp [ints]] at o5
                           clear o2a hb2a hne2 y1 HX HB hb2 o2 g5 b0 b1
                           have o1 := own_setIb (i := 1) (u := .slice C5 (k + 1) d5) o1 hb5 (by decide)
                           have o5 := own_setIb (i := 1) (u := .slice C5 (k + 1) d5) o5 hb5 (by decide)
                           have hx := set_else (g := g2) (i := 1) (v := .slice C5 (k + 1) d5) (by omega) hx
                           have hA := set_else (g := g2) (i := 1) (v := .slice C5 (k + 1) d5) (by omega) hA
                           have hr := set_else (g := g2) (i := 1) (v := .slice C5 (k + 1) d5) (by omega) hr
                           have T5 := T5.setCell (p := ⟨g2, 1, none⟩) (by dsimp; omega) (.slice C5 (k + 1) d5)
                           have hb5 := set_ib1 (v := .slice C5 (k + 1) d5) hb5
                           have hb2 := hb5
                           have SL := own_sl o5
                           have HNE := hid (fun (_ : ints (zs ++ [adig kd mk a b s]) ≠ []) => sl_off o5 hr (by decide))
                           have HN2 := hid (fun (_ : ints (zs ++ [adig kd mk a b s]) ≠ []) => sl_off o5 hb2 (by decide))
                           have RZ := hid (RN.out.2.1.trans (if_neg (by rw [HL.out]; omega)))
                           have TY5 := ty_own o5
                           have a0 := cell_of_row _ (w.heap.size + 1) 0 _ _ _ hA
                           have a1 := cell_of_row _ (w.heap.size + 1) 1 _ _ _ hA
                           have a2 := cell_of_row _ (w.heap.size + 1) 2 _ _ _ hA
                           have a3 := cell_of_row _ (w.heap.size + 1) 3 _ _ _ hA
                           have a4 := cell_of_row _ (w.heap.size + 1) 4 _ _ _ hA
                           have b0 := cell_of_row _ w.heap.size 0 _ _ _ hx
                           have b1 := cell_of_row _ w.heap.size 1 _ _ _ hx
                           have S1 := h.below T5)
              refine (CF _ S1).mono ?_
              rintro e w6 ⟨C6, k6, d6, rfl, o6, b6⟩
              have o6 := own_lower o6 T5.size
              have hr := (b6.block _ (Array.getElem?_eq_some_iff.1 hr).1).trans hr
              have hb2 := (b6.block _ (Array.getElem?_eq_some_iff.1 hb2).1).trans hb2
              have T6 := below_next T5 b6
              have SL6 := SL.below b6
              have TY5 := TY5.below b6
              have TY5 := TY5.set (i := 0) (v := .slice C6 k6 d6) hb2 (by decide)
              have o5 := own_below o5 b6
              have z0 := cell_of_row w6 g2 0 _ _ _ hb2
              have fz0 := frozen_of_row w6 g2 0 _ _ hb2
              clear a0 a1 a2 a3 a4 b0 b1 S1 b6 hx hA o1 z1 fz1
              have o6 := own_setIb (i := 0) (u := .slice C6 k6 d6) o6 hb2 (by decide)
              have o5 := own_setIb (i := 0) (u := .slice C6 k6 d6) o5 hb2 (by decide)
              have SL6 := SL6.setIb (g := g2) (i := 0) (u := .slice C6 k6 d6) HN2.out
              have hr := set_else (g := g2) (i := 0) (v := .slice C6 k6 d6) (by omega) hr
              have T6 := T6.setCell (p := ⟨g2, 0, none⟩) (by dsimp; omega) (.slice C6 k6 d6)
              have hb2 := set_ib0 (v := .slice C6 k6 d6) hb2
              have hw := hid T6
              have r0 := cell_of_row _ (w.heap.size + 2) 0 _ _ _ hr
              have r1 := cell_of_row _ (w.heap.size + 2) 1 _ _ _ hr
              have fr0 := frozen_of_row _ (w.heap.size + 2) 0 _ _ hr
              have fr1 := frozen_of_row _ (w.heap.size + 2) 1 _ _ hr
              have y0 := cell_of_row _ g2 0 _ _ _ hb2
              have y1 := cell_of_row _ g2 1 _ _ _ hb2
              have fy0 := frozen_of_row _ g2 0 _ _ hb2
              have fy1 := frozen_of_row _ g2 1 _ _ hb2
              have hrr := set_ib1 (v := .slice C5 (k + 1) d5) (set_ib0 (v := .slice C6 k6 d6) hr)
              have O1 := hid (own_setIb (i := 1) (u := .slice C5 (k + 1) d5) (own_setIb (i := 0) (u := .slice C6 k6 d6) o6 hr (by decide)) (set_ib0 hr) (by decide))
              have SS := hid ((SL6.setIb (g := w.heap.size + 2) (i := 0) (u := .slice C6 k6 d6) HNE.out).setIb (g := w.heap.size + 2) (i := 1) (u := .slice C5 (k + 1) d5) HNE.out)
              have OO := hid (show zs.length < 12 → _ from fun hlt => own_setIb (i := 1) (u := .slice C5 (k + 1) d5) (own_setIb (i := 0) (u := .slice C6 k6 d6) ((fun _ => o5) hlt) hr (by decide)) (set_ib0 hr) (by decide))
              have TYY := hid (((TY5).set (i := 0) (v := .slice C6 k6 d6) hr (by decide)).set (i := 1) (v := .slice C5 (k + 1) d5) (set_ib0 hr) (by decide))
              have v0 := cell_of_row _ (w.heap.size + 2) 0 _ _ _ hrr
              have v1 := cell_of_row _ (w.heap.size + 2) 1 _ _ _ hrr
              have hBB := hid ((hw.out.setCell (p := ⟨w.heap.size + 2, 0, none⟩) (by dsimp; omega) (.slice C6 k6 d6)).setCell (p := ⟨w.heap.size + 2, 1, none⟩) (by dsimp; omega) (.slice C5 (k + 1) d5))
              clear hr hb2 hrr hw SL6
              go_wp2_with fail
              refine bodyPost_ret (v := .tuple #[ibA C6 k6 d6 C5 (k + 1) d5, .int .i64 1]) (by simp [results, Tryd.results9, go_sem, v0, v1]) rfl ⟨?_, ?_⟩
              · rw [RF.out, RZ.out, RN.out.2.2]
                exact ⟨C6, k6, d6, C5, (k + 1), d5, rfl, O1.out, SS.out, TYY.out, OO.out⟩
              · exact hBB.out
          · have tb3 : (kd == 3) = false := by simpa using h3
            by_cases h5 : kd = 5
            · have tb5 : (kd == 5) = true := by simpa using h5
              have RF := hid (RN.out.1.trans ((if_neg h3).trans (if_pos h5)))
              clear h3 h5
              by_cases h12 : k = 12
              · have hkk : 12 ≤ k := by omega
                have H12 := hid h12
                clear h12
                have hm4 : k ≤ 4000 := by omega
                clear hm
                have o2a := o2.alloc (.cells #[.int .i64 (adig kd mk a b s)] 3)
                have hb2a := alloc_old (o := .cells #[.int .i64 (adig kd mk a b s)] 3) hb2
                have hne2 := own_ne o2a hb2a (by decide)
                have y1 := cell_of_row w4 g2 1 _ _ _ hb2
                have HX := hid (And.intro hx (And.intro hA (And.intro hr (And.intro o1 T4))))
                have HB := hid (show w.heap.size ≤ (w4.alloc (.cells #[.int .i64 (adig kd mk a b s)] 3)).heap.size from Nat.le_trans T4.size (by simp))
                clear hx hA hr o1 T4 S2
                go_wp2_with (at_builtin; refine wpList_append_see _ rfl _ _ eltInt rfl w.heap.size _ k (ints zs) rfl o2a _ 1 1 [.int .i64 (adig kd mk a b s)] rfl (see_new _ [.int .i64 (adig kd mk a b s)] _ _ rfl) (fun e => by cases e) rfl (ints_oneCell _ [adig kd mk a b s]) (by unfold maxLen; omega) (by omega) HB.out ?_
                             intro v5 w5 o5 g5 _
                             have hb5 := (g5.block g2 (Array.getElem?_eq_some_iff.1 hb2a).1 (fun e => hne2 e.symm)).trans hb2a
                             have z1 := cell_of_row w5 g2 1 _ _ _ hb5
                             have fz1 := frozen_of_row w5 g2 1 _ _ hb5
                             obtain ⟨C5, d5, rfl, hcm5, hcm6, _⟩ := own_form o5
                             have hd1 : ¬ d5 = 1 := by omega
                             have hx := alloc_old (o := .cells #[.int .i64 (adig kd mk a b s)] 3) HX.out.1
                             have hA := alloc_old (o := .cells #[.int .i64 (adig kd mk a b s)] 3) HX.out.2.1
                             have hr := alloc_old (o := .cells #[.int .i64 (adig kd mk a b s)] 3) HX.out.2.2.1
                             have hx := (g5.block _ (Array.getElem?_eq_some_iff.1 hx).1 (fun e => own_ne o2a hx (by decide) e.symm)).trans hx
                             have hA := (g5.block _ (Array.getElem?_eq_some_iff.1 hA).1 (fun e => own_ne o2a hA (by decide) e.symm)).trans hA
                             have hr := (g5.block _ (Array.getElem?_eq_some_iff.1 hr).1 (fun e => own_ne o2a hr (by decide) e.symm)).trans hr
                             have o1 := (HX.out.2.2.2.1.alloc (.cells #[.int .i64 (adig kd mk a b s)] 3)).kept g5 (own_own_ne (HX.out.2.2.2.1.alloc _) o2a (by decide))
                             have T5 := (HX.out.2.2.2.2.alloc HX.out.2.2.2.2.size (.cells #[.int .i64 (adig kd mk a b s)] 3)).grown g5 HB.out (fun q hq => (o2.lt q hq).1)
                             rw [show ints zs ++ [Value.int .i64 (adig kd mk a b s)] = ints (zs ++ [adig kd mk a b s]) by simp [ints]] at o5
                             clear o2a hb2a hne2 y1 HX HB hb2 o2 g5 b0 b1
                             have o1 := own_setIb (i := 1) (u := .slice C5 (k + 1) d5) o1 hb5 (by decide)
                             have o5 := own_setIb (i := 1) (u := .slice C5 (k + 1) d5) o5 hb5 (by decide)
                             have hx := set_else (g := g2) (i := 1) (v := .slice C5 (k + 1) d5) (by omega) hx
                             have hA := set_else (g := g2) (i := 1) (v := .slice C5 (k + 1) d5) (by omega) hA
                             have hr := set_else (g := g2) (i := 1) (v := .slice C5 (k + 1) d5) (by omega) hr
                             have T5 := T5.setCell (p := ⟨g2, 1, none⟩) (by dsimp; omega) (.slice C5 (k + 1) d5)
                             have hb5 := set_ib1 (v := .slice C5 (k + 1) d5) hb5
                             have o1 := own_setIb (i := 1) (u := .slice (C5.map (fun x => (⟨x.block, x.off + 1, none⟩ : Addr))) k (d5 - 1)) o1 hb5 (by decide)
                             have o5 := own_setIb (i := 1) (u := .slice (C5.map (fun x => (⟨x.block, x.off + 1, none⟩ : Addr))) k (d5 - 1)) o5 hb5 (by decide)
                             have hx := set_else (g := g2) (i := 1) (v := .slice (C5.map (fun x => (⟨x.block, x.off + 1, none⟩ : Addr))) k (d5 - 1)) (by omega) hx
                             have hA := set_else (g := g2) (i := 1) (v := .slice (C5.map (fun x => (⟨x.block, x.off + 1, none⟩ : Addr))) k (d5 - 1)) (by omega) hA
                             have hr := set_else (g := g2) (i := 1) (v := .slice (C5.map (fun x => (⟨x.block, x.off + 1, none⟩ : Addr))) k (d5 - 1)) (by omega) hr
                             have T5 := T5.setCell (p := ⟨g2, 1, none⟩) (by dsimp; omega) (.slice (C5.map (fun x => (⟨x.block, x.off + 1, none⟩ : Addr))) k (d5 - 1))
                             have hb5 := set_ib1 (v := .slice (C5.map (fun x => (⟨x.block, x.off + 1, none⟩ : Addr))) k (d5 - 1)) hb5
                             have hb2 := hb5
                             have SL := (own_sl o5).cut (k := 1) (K := 1) (by omega) rfl
                             rw [if_neg hd1, ints_drop, Nat.add_sub_cancel, add1_fun] at SL
                             have HNE := hid (fun (_ : ints ((zs ++ [adig kd mk a b s]).drop 1) ≠ []) => sl_offs (sl_off o5 hr (by decide)))
                             have HN2 := hid (fun (_ : ints ((zs ++ [adig kd mk a b s]).drop 1) ≠ []) => sl_offs (sl_off o5 hb2 (by decide)))
                             have RZ := hid (RN.out.2.1.trans (if_pos (by rw [HL.out]; exact H12.out)))
                             have TY5 := ty_map (ty_own o5)
                             have a0 := cell_of_row _ (w.heap.size + 1) 0 _ _ _ hA
                             have a1 := cell_of_row _ (w.heap.size + 1) 1 _ _ _ hA
                             have a2 := cell_of_row _ (w.heap.size + 1) 2 _ _ _ hA
                             have a3 := cell_of_row _ (w.heap.size + 1) 3 _ _ _ hA
                             have a4 := cell_of_row _ (w.heap.size + 1) 4 _ _ _ hA
                             have b0 := cell_of_row _ w.heap.size 0 _ _ _ hx
                             have b1 := cell_of_row _ w.heap.size 1 _ _ _ hx
                             have S1 := h.below T5)
                refine (CU _ S1).mono ?_
                rintro e w6 ⟨C6, k6, d6, rfl, o6, b6⟩
                have o6 := own_lower o6 T5.size
                have hr := (b6.block _ (Array.getElem?_eq_some_iff.1 hr).1).trans hr
                have hb2 := (b6.block _ (Array.getElem?_eq_some_iff.1 hb2).1).trans hb2
                have T6 := below_next T5 b6
                have SL6 := SL.below b6
                have TY5 := TY5.below b6
                have TY5 := TY5.set (i := 0) (v := .slice C6 k6 d6) hb2 (by decide)
                have z0 := cell_of_row w6 g2 0 _ _ _ hb2
                have fz0 := frozen_of_row w6 g2 0 _ _ hb2
                clear a0 a1 a2 a3 a4 b0 b1 S1 b6 hx hA o1 z1 fz1 o5
                have o6 := own_setIb (i := 0) (u := .slice C6 k6 d6) o6 hb2 (by decide)
                have SL6 := SL6.setIb (g := g2) (i := 0) (u := .slice C6 k6 d6) HN2.out
                have hr := set_else (g := g2) (i := 0) (v := .slice C6 k6 d6) (by omega) hr
                have T6 := T6.setCell (p := ⟨g2, 0, none⟩) (by dsimp; omega) (.slice C6 k6 d6)
                have hb2 := set_ib0 (v := .slice C6 k6 d6) hb2
                have hw := hid T6
                have r0 := cell_of_row _ (w.heap.size + 2) 0 _ _ _ hr
                have r1 := cell_of_row _ (w.heap.size + 2) 1 _ _ _ hr
                have fr0 := frozen_of_row _ (w.heap.size + 2) 0 _ _ hr
                have fr1 := frozen_of_row _ (w.heap.size + 2) 1 _ _ hr
                have y0 := cell_of_row _ g2 0 _ _ _ hb2
                have y1 := cell_of_row _ g2 1 _ _ _ hb2
                have fy0 := frozen_of_row _ g2 0 _ _ hb2
                have fy1 := frozen_of_row _ g2 1 _ _ hb2
                have hrr := set_ib1 (v := .slice (C5.map (fun x => (⟨x.block, x.off + 1, none⟩ : Addr))) k (d5 - 1)) (set_ib0 (v := .slice C6 k6 d6) hr)
                have O1 := hid (own_setIb (i := 1) (u := .slice (C5.map (fun x => (⟨x.block, x.off + 1, none⟩ : Addr))) k (d5 - 1)) (own_setIb (i := 0) (u := .slice C6 k6 d6) o6 hr (by decide)) (set_ib0 hr) (by decide))
                have SS := hid ((SL6.setIb (g := w.heap.size + 2) (i := 0) (u := .slice C6 k6 d6) HNE.out).setIb (g := w.heap.size + 2) (i := 1) (u := .slice (C5.map (fun x => (⟨x.block, x.off + 1, none⟩ : Addr))) k (d5 - 1)) HNE.out)
                have TYY := hid (((TY5).set (i := 0) (v := .slice C6 k6 d6) hr (by decide)).set (i := 1) (v := .slice (C5.map (fun x => (⟨x.block, x.off + 1, none⟩ : Addr))) k (d5 - 1)) (set_ib0 hr) (by decide))
                have v0 := cell_of_row _ (w.heap.size + 2) 0 _ _ _ hrr
                have v1 := cell_of_row _ (w.heap.size + 2) 1 _ _ _ hrr
                have hBB := hid ((hw.out.setCell (p := ⟨w.heap.size + 2, 0, none⟩) (by dsimp; omega) (.slice C6 k6 d6)).setCell (p := ⟨w.heap.size + 2, 1, none⟩) (by dsimp; omega) (.slice (C5.map (fun x => (⟨x.block, x.off + 1, none⟩ : Addr))) k (d5 - 1)))
                clear hr hb2 hrr hw SL6
                go_wp2_with fail
                refine bodyPost_ret (v := .tuple #[ibA C6 k6 d6 (C5.map (fun x => (⟨x.block, x.off + 1, none⟩ : Addr))) k (d5 - 1), .int .i64 1]) (by simp [results, Tryd.results9, go_sem, v0, v1]) rfl ⟨?_, ?_⟩
                · rw [RF.out, RZ.out, RN.out.2.2]
                  exact ⟨C6, k6, d6, (C5.map (fun x => (⟨x.block, x.off + 1, none⟩ : Addr))), k, (d5 - 1), rfl, O1.out, SS.out, TYY.out, fun hlt => absurd hlt (by rw [HL.out]; omega)⟩
                · exact hBB.out
              · have hkk : k < 12 := by omega
                clear h12
                have o2a := o2.alloc (.cells #[.int .i64 (adig kd mk a b s)] 3)
                have hb2a := alloc_old (o := .cells #[.int .i64 (adig kd mk a b s)] 3) hb2
                have hne2 := own_ne o2a hb2a (by decide)
                have y1 := cell_of_row w4 g2 1 _ _ _ hb2
                have HX := hid (And.intro hx (And.intro hA (And.intro hr (And.intro o1 T4))))
                have HB := hid (show w.heap.size ≤ (w4.alloc (.cells #[.int .i64 (adig kd mk a b s)] 3)).heap.size from Nat.le_trans T4.size (by simp))
                clear hx hA hr o1 T4 S2
                go_wp2_with (at_builtin; refine wpList_append_see _ rfl _ _ eltInt rfl w.heap.size _ k (ints zs) rfl o2a _ 1 1 [.int .i64 (adig kd mk a b s)] rfl (see_new _ [.int .i64 (adig kd mk a b s)] _ _ rfl) (fun e => by cases e) rfl (ints_oneCell _ [adig kd mk a b s]) (by unfold maxLen; omega) (by omega) HB.out ?_
                             intro v5 w5 o5 g5 _
                             have hb5 := (g5.block g2 (Array.getElem?_eq_some_iff.1 hb2a).1 (fun e => hne2 e.symm)).trans hb2a
                             have z1 := cell_of_row w5 g2 1 _ _ _ hb5
                             have fz1 := frozen_of_row w5 g2 1 _ _ hb5
                             obtain ⟨C5, d5, rfl, hcm5, hcm6, _⟩ := own_form o5
                             have hx := alloc_old (o := .cells #[.int .i64 (adig kd mk a b s)] 3) HX.out.1
                             have hA := alloc_old (o := .cells #[.int .i64 (adig kd mk a b s)] 3) HX.out.2.1
                             have hr := alloc_old (o := .cells #[.int .i64 (adig kd mk a b s)] 3) HX.out.2.2.1
                             have hx := (g5.block _ (Array.getElem?_eq_some_iff.1 hx).1 (fun e => own_ne o2a hx (by decide) e.symm)).trans hx
                             have hA := (g5.block _ (Array.getElem?_eq_some_iff.1 hA).1 (fun e => own_ne o2a hA (by decide) e.symm)).trans hA
                             have hr := (g5.block _ (Array.getElem?_eq_some_iff.1 hr).1 (fun e => own_ne o2a hr (by decide) e.symm)).trans hr
                             have o1 := (HX.out.2.2.2.1.alloc (.cells #[.int .i64 (adig kd mk a b s)] 3)).kept g5 (own_own_ne (HX.out.2.2.2.1.alloc _) o2a (by decide))
                             have T5 := (HX.out.2.2.2.2.alloc HX.out.2.2.2.2.size (.cells #[.int .i64 (adig kd mk a b s)] 3)).grown g5 HB.out (fun q hq => (o2.lt q hq).1)
                             rw [show ints zs ++ [Value.int .i64 (adig kd mk a b s)] = ints (zs ++ [adig kd mk a b s]) by simp [ints]] at o5
                             clear o2a hb2a hne2 y1 HX HB hb2 o2 g5 b0 b1
                             have o1 := own_setIb (i := 1) (u := .slice C5 (k + 1) d5) o1 hb5 (by decide)
                             have o5 := own_setIb (i := 1) (u := .slice C5 (k + 1) d5) o5 hb5 (by decide)
                             have hx := set_else (g := g2) (i := 1) (v := .slice C5 (k + 1) d5) (by omega) hx
                             have hA := set_else (g := g2) (i := 1) (v := .slice C5 (k + 1) d5) (by omega) hA
                             have hr := set_else (g := g2) (i := 1) (v := .slice C5 (k + 1) d5) (by omega) hr
                             have T5 := T5.setCell (p := ⟨g2, 1, none⟩) (by dsimp; omega) (.slice C5 (k + 1) d5)
                             have hb5 := set_ib1 (v := .slice C5 (k + 1) d5) hb5
                             have hb2 := hb5
                             have SL := own_sl o5
                             have HNE := hid (fun (_ : ints (zs ++ [adig kd mk a b s]) ≠ []) => sl_off o5 hr (by decide))
                             have HN2 := hid (fun (_ : ints (zs ++ [adig kd mk a b s]) ≠ []) => sl_off o5 hb2 (by decide))
                             have RZ := hid (RN.out.2.1.trans (if_neg (by rw [HL.out]; omega)))
                             have TY5 := ty_own o5
                             have a0 := cell_of_row _ (w.heap.size + 1) 0 _ _ _ hA
                             have a1 := cell_of_row _ (w.heap.size + 1) 1 _ _ _ hA
                             have a2 := cell_of_row _ (w.heap.size + 1) 2 _ _ _ hA
                             have a3 := cell_of_row _ (w.heap.size + 1) 3 _ _ _ hA
                             have a4 := cell_of_row _ (w.heap.size + 1) 4 _ _ _ hA
                             have b0 := cell_of_row _ w.heap.size 0 _ _ _ hx
                             have b1 := cell_of_row _ w.heap.size 1 _ _ _ hx
                             have S1 := h.below T5)
                refine (CU _ S1).mono ?_
                rintro e w6 ⟨C6, k6, d6, rfl, o6, b6⟩
                have o6 := own_lower o6 T5.size
                have hr := (b6.block _ (Array.getElem?_eq_some_iff.1 hr).1).trans hr
                have hb2 := (b6.block _ (Array.getElem?_eq_some_iff.1 hb2).1).trans hb2
                have T6 := below_next T5 b6
                have SL6 := SL.below b6
                have TY5 := TY5.below b6
                have TY5 := TY5.set (i := 0) (v := .slice C6 k6 d6) hb2 (by decide)
                have o5 := own_below o5 b6
                have z0 := cell_of_row w6 g2 0 _ _ _ hb2
                have fz0 := frozen_of_row w6 g2 0 _ _ hb2
                clear a0 a1 a2 a3 a4 b0 b1 S1 b6 hx hA o1 z1 fz1
                have o6 := own_setIb (i := 0) (u := .slice C6 k6 d6) o6 hb2 (by decide)
                have o5 := own_setIb (i := 0) (u := .slice C6 k6 d6) o5 hb2 (by decide)
                have SL6 := SL6.setIb (g := g2) (i := 0) (u := .slice C6 k6 d6) HN2.out
                have hr := set_else (g := g2) (i := 0) (v := .slice C6 k6 d6) (by omega) hr
                have T6 := T6.setCell (p := ⟨g2, 0, none⟩) (by dsimp; omega) (.slice C6 k6 d6)
                have hb2 := set_ib0 (v := .slice C6 k6 d6) hb2
                have hw := hid T6
                have r0 := cell_of_row _ (w.heap.size + 2) 0 _ _ _ hr
                have r1 := cell_of_row _ (w.heap.size + 2) 1 _ _ _ hr
                have fr0 := frozen_of_row _ (w.heap.size + 2) 0 _ _ hr
                have fr1 := frozen_of_row _ (w.heap.size + 2) 1 _ _ hr
                have y0 := cell_of_row _ g2 0 _ _ _ hb2
                have y1 := cell_of_row _ g2 1 _ _ _ hb2
                have fy0 := frozen_of_row _ g2 0 _ _ hb2
                have fy1 := frozen_of_row _ g2 1 _ _ hb2
                have hrr := set_ib1 (v := .slice C5 (k + 1) d5) (set_ib0 (v := .slice C6 k6 d6) hr)
                have O1 := hid (own_setIb (i := 1) (u := .slice C5 (k + 1) d5) (own_setIb (i := 0) (u := .slice C6 k6 d6) o6 hr (by decide)) (set_ib0 hr) (by decide))
                have SS := hid ((SL6.setIb (g := w.heap.size + 2) (i := 0) (u := .slice C6 k6 d6) HNE.out).setIb (g := w.heap.size + 2) (i := 1) (u := .slice C5 (k + 1) d5) HNE.out)
                have OO := hid (show zs.length < 12 → _ from fun hlt => own_setIb (i := 1) (u := .slice C5 (k + 1) d5) (own_setIb (i := 0) (u := .slice C6 k6 d6) ((fun _ => o5) hlt) hr (by decide)) (set_ib0 hr) (by decide))
                have TYY := hid (((TY5).set (i := 0) (v := .slice C6 k6 d6) hr (by decide)).set (i := 1) (v := .slice C5 (k + 1) d5) (set_ib0 hr) (by decide))
                have v0 := cell_of_row _ (w.heap.size + 2) 0 _ _ _ hrr
                have v1 := cell_of_row _ (w.heap.size + 2) 1 _ _ _ hrr
                have hBB := hid ((hw.out.setCell (p := ⟨w.heap.size + 2, 0, none⟩) (by dsimp; omega) (.slice C6 k6 d6)).setCell (p := ⟨w.heap.size + 2, 1, none⟩) (by dsimp; omega) (.slice C5 (k + 1) d5))
                clear hr hb2 hrr hw SL6
                go_wp2_with fail
                refine bodyPost_ret (v := .tuple #[ibA C6 k6 d6 C5 (k + 1) d5, .int .i64 1]) (by simp [results, Tryd.results9, go_sem, v0, v1]) rfl ⟨?_, ?_⟩
                · rw [RF.out, RZ.out, RN.out.2.2]
                  exact ⟨C6, k6, d6, C5, (k + 1), d5, rfl, O1.out, SS.out, TYY.out, OO.out⟩
                · exact hBB.out
            · have tb5 : (kd == 5) = false := by simpa using h5
              have RF := hid (RN.out.1.trans ((if_neg h3).trans (if_neg h5)))
              clear h3 h5
              by_cases h12 : k = 12
              · have hkk : 12 ≤ k := by omega
                have H12 := hid h12
                clear h12
                have hm4 : k ≤ 4000 := by omega
                clear hm
                have o2a := o2.alloc (.cells #[.int .i64 (adig kd mk a b s)] 3)
                have hb2a := alloc_old (o := .cells #[.int .i64 (adig kd mk a b s)] 3) hb2
                have hne2 := own_ne o2a hb2a (by decide)
                have y1 := cell_of_row w4 g2 1 _ _ _ hb2
                have HX := hid (And.intro hx (And.intro hA (And.intro hr (And.intro o1 T4))))
                have HB := hid (show w.heap.size ≤ (w4.alloc (.cells #[.int .i64 (adig kd mk a b s)] 3)).heap.size from Nat.le_trans T4.size (by simp))
                clear hx hA hr o1 T4 S2
                go_wp2_with (at_builtin; refine wpList_append_see _ rfl _ _ eltInt rfl w.heap.size _ k (ints zs) rfl o2a _ 1 1 [.int .i64 (adig kd mk a b s)] rfl (see_new _ [.int .i64 (adig kd mk a b s)] _ _ rfl) (fun e => by cases e) rfl (ints_oneCell _ [adig kd mk a b s]) (by unfold maxLen; omega) (by omega) HB.out ?_
                             intro v5 w5 o5 g5 _
                             have hb5 := (g5.block g2 (Array.getElem?_eq_some_iff.1 hb2a).1 (fun e => hne2 e.symm)).trans hb2a
                             have z1 := cell_of_row w5 g2 1 _ _ _ hb5
                             have fz1 := frozen_of_row w5 g2 1 _ _ hb5
                             obtain ⟨C5, d5, rfl, hcm5, hcm6, _⟩ := own_form o5
                             have hd1 : ¬ d5 = 1 := by omega
                             have hx := alloc_old (o := .cells #[.int .i64 (adig kd mk a b s)] 3) HX.out.1
                             have hA := alloc_old (o := .cells #[.int .i64 (adig kd mk a b s)] 3) HX.out.2.1
                             have hr := alloc_old (o := .cells #[.int .i64 (adig kd mk a b s)] 3) HX.out.2.2.1
                             have hx := (g5.block _ (Array.getElem?_eq_some_iff.1 hx).1 (fun e => own_ne o2a hx (by decide) e.symm)).trans hx
                             have hA := (g5.block _ (Array.getElem?_eq_some_iff.1 hA).1 (fun e => own_ne o2a hA (by decide) e.symm)).trans hA
                             have hr := (g5.block _ (Array.getElem?_eq_some_iff.1 hr).1 (fun e => own_ne o2a hr (by decide) e.symm)).trans hr
                             have o1 := (HX.out.2.2.2.1.alloc (.cells #[.int .i64 (adig kd mk a b s)] 3)).kept g5 (own_own_ne (HX.out.2.2.2.1.alloc _) o2a (by decide))
                             have T5 := (HX.out.2.2.2.2.alloc HX.out.2.2.2.2.size (.cells #[.int .i64 (adig kd mk a b s)] 3)).grown g5 HB.out (fun q hq => (o2.lt q hq).1)
                             rw [show ints zs ++ [Value.int .i64 (adig kd mk a b s)] = ints (zs ++ [adig kd mk a b s]) by simp [ints]] at o5
                             clear o2a hb2a hne2 y1 HX HB hb2 o2 g5 b0 b1
                             have o1 := own_setIb (i := 1) (u := .slice C5 (k + 1) d5) o1 hb5 (by decide)
                             have o5 := own_setIb (i := 1) (u := .slice C5 (k + 1) d5) o5 hb5 (by decide)
                             have hx := set_else (g := g2) (i := 1) (v := .slice C5 (k + 1) d5) (by omega) hx
                             have hA := set_else (g := g2) (i := 1) (v := .slice C5 (k + 1) d5) (by omega) hA
                             have hr := set_else (g := g2) (i := 1) (v := .slice C5 (k + 1) d5) (by omega) hr
                             have T5 := T5.setCell (p := ⟨g2, 1, none⟩) (by dsimp; omega) (.slice C5 (k + 1) d5)
                             have hb5 := set_ib1 (v := .slice C5 (k + 1) d5) hb5
                             have o1 := own_setIb (i := 1) (u := .slice (C5.map (fun x => (⟨x.block, x.off + 1, none⟩ : Addr))) k (d5 - 1)) o1 hb5 (by decide)
                             have o5 := own_setIb (i := 1) (u := .slice (C5.map (fun x => (⟨x.block, x.off + 1, none⟩ : Addr))) k (d5 - 1)) o5 hb5 (by decide)
                             have hx := set_else (g := g2) (i := 1) (v := .slice (C5.map (fun x => (⟨x.block, x.off + 1, none⟩ : Addr))) k (d5 - 1)) (by omega) hx
                             have hA := set_else (g := g2) (i := 1) (v := .slice (C5.map (fun x => (⟨x.block, x.off + 1, none⟩ : Addr))) k (d5 - 1)) (by omega) hA
                             have hr := set_else (g := g2) (i := 1) (v := .slice (C5.map (fun x => (⟨x.block, x.off + 1, none⟩ : Addr))) k (d5 - 1)) (by omega) hr
                             have T5 := T5.setCell (p := ⟨g2, 1, none⟩) (by dsimp; omega) (.slice (C5.map (fun x => (⟨x.block, x.off + 1, none⟩ : Addr))) k (d5 - 1))
                             have hb5 := set_ib1 (v := .slice (C5.map (fun x => (⟨x.block, x.off + 1, none⟩ : Addr))) k (d5 - 1)) hb5
                             have hb2 := hb5
                             have SL := (own_sl o5).cut (k := 1) (K := 1) (by omega) rfl
                             rw [if_neg hd1, ints_drop, Nat.add_sub_cancel, add1_fun] at SL
                             have HNE := hid (fun (_ : ints ((zs ++ [adig kd mk a b s]).drop 1) ≠ []) => sl_offs (sl_off o5 hr (by decide)))
                             have HN2 := hid (fun (_ : ints ((zs ++ [adig kd mk a b s]).drop 1) ≠ []) => sl_offs (sl_off o5 hb2 (by decide)))
                             have RZ := hid (RN.out.2.1.trans (if_pos (by rw [HL.out]; exact H12.out)))
                             have TY5 := ty_map (ty_own o5)
                             have a0 := cell_of_row _ (w.heap.size + 1) 0 _ _ _ hA
                             have a1 := cell_of_row _ (w.heap.size + 1) 1 _ _ _ hA
                             have a2 := cell_of_row _ (w.heap.size + 1) 2 _ _ _ hA
                             have a3 := cell_of_row _ (w.heap.size + 1) 3 _ _ _ hA
                             have a4 := cell_of_row _ (w.heap.size + 1) 4 _ _ _ hA
                             have hw := hid T5
                             have r0 := cell_of_row _ (w.heap.size + 2) 0 _ _ _ hr
                             have r1 := cell_of_row _ (w.heap.size + 2) 1 _ _ _ hr
                             have fr0 := frozen_of_row _ (w.heap.size + 2) 0 _ _ hr
                             have fr1 := frozen_of_row _ (w.heap.size + 2) 1 _ _ hr
                             have y0 := cell_of_row _ g2 0 _ _ _ hb2
                             have y1 := cell_of_row _ g2 1 _ _ _ hb2
                             have fy0 := frozen_of_row _ g2 0 _ _ hb2
                             have fy1 := frozen_of_row _ g2 1 _ _ hb2
                             have hrr := set_ib1 (v := .slice (C5.map (fun x => (⟨x.block, x.off + 1, none⟩ : Addr))) k (d5 - 1)) (set_ib0 (v := .slice C1 n d1) hr)
                             have O1 := hid (own_setIb (i := 1) (u := .slice (C5.map (fun x => (⟨x.block, x.off + 1, none⟩ : Addr))) k (d5 - 1)) (own_setIb (i := 0) (u := .slice C1 n d1) o1 hr (by decide)) (set_ib0 hr) (by decide))
                             have SS := hid ((SL.setIb (g := w.heap.size + 2) (i := 0) (u := .slice C1 n d1) HNE.out).setIb (g := w.heap.size + 2) (i := 1) (u := .slice (C5.map (fun x => (⟨x.block, x.off + 1, none⟩ : Addr))) k (d5 - 1)) HNE.out)
                             have TYY := hid (((TY5).set (i := 0) (v := .slice C1 n d1) hr (by decide)).set (i := 1) (v := .slice (C5.map (fun x => (⟨x.block, x.off + 1, none⟩ : Addr))) k (d5 - 1)) (set_ib0 hr) (by decide))
                             have v0 := cell_of_row _ (w.heap.size + 2) 0 _ _ _ hrr
                             have v1 := cell_of_row _ (w.heap.size + 2) 1 _ _ _ hrr
                             have hBB := hid ((hw.out.setCell (p := ⟨w.heap.size + 2, 0, none⟩) (by dsimp; omega) (.slice C1 n d1)).setCell (p := ⟨w.heap.size + 2, 1, none⟩) (by dsimp; omega) (.slice (C5.map (fun x => (⟨x.block, x.off + 1, none⟩ : Addr))) k (d5 - 1)))
                             clear hr hb2 hrr hw SL hx hA)
                refine bodyPost_ret (v := .tuple #[ibA C1 n d1 (C5.map (fun x => (⟨x.block, x.off + 1, none⟩ : Addr))) k (d5 - 1), .int .i64 1]) (by simp [results, Tryd.results9, go_sem, v0, v1]) rfl ⟨?_, ?_⟩
                · rw [RF.out, RZ.out, RN.out.2.2]
                  exact ⟨C1, n, d1, (C5.map (fun x => (⟨x.block, x.off + 1, none⟩ : Addr))), k, (d5 - 1), rfl, O1.out, SS.out, TYY.out, fun hlt => absurd hlt (by rw [HL.out]; omega)⟩
                · exact hBB.out
              · have hkk : k < 12 := by omega
                clear h12
                have o2a := o2.alloc (.cells #[.int .i64 (adig kd mk a b s)] 3)
                have hb2a := alloc_old (o := .cells #[.int .i64 (adig kd mk a b s)] 3) hb2
                have hne2 := own_ne o2a hb2a (by decide)
                have y1 := cell_of_row w4 g2 1 _ _ _ hb2
                have HX := hid (And.intro hx (And.intro hA (And.intro hr (And.intro o1 T4))))
                have HB := hid (show w.heap.size ≤ (w4.alloc (.cells #[.int .i64 (adig kd mk a b s)] 3)).heap.size from Nat.le_trans T4.size (by simp))
                clear hx hA hr o1 T4 S2
                go_wp2_with (at_builtin; refine wpList_append_see _ rfl _ _ eltInt rfl w.heap.size _ k (ints zs) rfl o2a _ 1 1 [.int .i64 (adig kd mk a b s)] rfl (see_new _ [.int .i64 (adig kd mk a b s)] _ _ rfl) (fun e => by cases e) rfl (ints_oneCell _ [adig kd mk a b s]) (by unfold maxLen; omega) (by omega) HB.out ?_
                             intro v5 w5 o5 g5 _
                             have hb5 := (g5.block g2 (Array.getElem?_eq_some_iff.1 hb2a).1 (fun e => hne2 e.symm)).trans hb2a
                             have z1 := cell_of_row w5 g2 1 _ _ _ hb5
                             have fz1 := frozen_of_row w5 g2 1 _ _ hb5
                             obtain ⟨C5, d5, rfl, hcm5, hcm6, _⟩ := own_form o5
                             have hx := alloc_old (o := .cells #[.int .i64 (adig kd mk a b s)] 3) HX.out.1
                             have hA := alloc_old (o := .cells #[.int .i64 (adig kd mk a b s)] 3) HX.out.2.1
                             have hr := alloc_old (o := .cells #[.int .i64 (adig kd mk a b s)] 3) HX.out.2.2.1
                             have hx := (g5.block _ (Array.getElem?_eq_some_iff.1 hx).1 (fun e => own_ne o2a hx (by decide) e.symm)).trans hx
                             have hA := (g5.block _ (Array.getElem?_eq_some_iff.1 hA).1 (fun e => own_ne o2a hA (by decide) e.symm)).trans hA
                             have hr := (g5.block _ (Array.getElem?_eq_some_iff.1 hr).1 (fun e => own_ne o2a hr (by decide) e.symm)).trans hr
                             have o1 := (HX.out.2.2.2.1.alloc (.cells #[.int .i64 (adig kd mk a b s)] 3)).kept g5 (own_own_ne (HX.out.2.2.2.1.alloc _) o2a (by decide))
                             have T5 := (HX.out.2.2.2.2.alloc HX.out.2.2.2.2.size (.cells #[.int .i64 (adig kd mk a b s)] 3)).grown g5 HB.out (fun q hq => (o2.lt q hq).1)
                             rw [show ints zs ++ [Value.int .i64 (adig kd mk a b s)] = ints (zs ++ [adig kd mk a b s]) by simp [ints]] at o5
                             clear o2a hb2a hne2 y1 HX HB hb2 o2 g5 b0 b1
                             have o1 := own_setIb (i := 1) (u := .slice C5 (k + 1) d5) o1 hb5 (by decide)
                             have o5 := own_setIb (i := 1) (u := .slice C5 (k + 1) d5) o5 hb5 (by decide)
                             have hx := set_else (g := g2) (i := 1) (v := .slice C5 (k + 1) d5) (by omega) hx
                             have hA := set_else (g := g2) (i := 1) (v := .slice C5 (k + 1) d5) (by omega) hA
                             have hr := set_else (g := g2) (i := 1) (v := .slice C5 (k + 1) d5) (by omega) hr
                             have T5 := T5.setCell (p := ⟨g2, 1, none⟩) (by dsimp; omega) (.slice C5 (k + 1) d5)
                             have hb5 := set_ib1 (v := .slice C5 (k + 1) d5) hb5
                             have hb2 := hb5
                             have SL := own_sl o5
                             have HNE := hid (fun (_ : ints (zs ++ [adig kd mk a b s]) ≠ []) => sl_off o5 hr (by decide))
                             have HN2 := hid (fun (_ : ints (zs ++ [adig kd mk a b s]) ≠ []) => sl_off o5 hb2 (by decide))
                             have RZ := hid (RN.out.2.1.trans (if_neg (by rw [HL.out]; omega)))
                             have TY5 := ty_own o5
                             have a0 := cell_of_row _ (w.heap.size + 1) 0 _ _ _ hA
                             have a1 := cell_of_row _ (w.heap.size + 1) 1 _ _ _ hA
                             have a2 := cell_of_row _ (w.heap.size + 1) 2 _ _ _ hA
                             have a3 := cell_of_row _ (w.heap.size + 1) 3 _ _ _ hA
                             have a4 := cell_of_row _ (w.heap.size + 1) 4 _ _ _ hA
                             have hw := hid T5
                             have r0 := cell_of_row _ (w.heap.size + 2) 0 _ _ _ hr
                             have r1 := cell_of_row _ (w.heap.size + 2) 1 _ _ _ hr
                             have fr0 := frozen_of_row _ (w.heap.size + 2) 0 _ _ hr
                             have fr1 := frozen_of_row _ (w.heap.size + 2) 1 _ _ hr
                             have y0 := cell_of_row _ g2 0 _ _ _ hb2
                             have y1 := cell_of_row _ g2 1 _ _ _ hb2
                             have fy0 := frozen_of_row _ g2 0 _ _ hb2
                             have fy1 := frozen_of_row _ g2 1 _ _ hb2
                             have hrr := set_ib1 (v := .slice C5 (k + 1) d5) (set_ib0 (v := .slice C1 n d1) hr)
                             have O1 := hid (own_setIb (i := 1) (u := .slice C5 (k + 1) d5) (own_setIb (i := 0) (u := .slice C1 n d1) o1 hr (by decide)) (set_ib0 hr) (by decide))
                             have SS := hid ((SL.setIb (g := w.heap.size + 2) (i := 0) (u := .slice C1 n d1) HNE.out).setIb (g := w.heap.size + 2) (i := 1) (u := .slice C5 (k + 1) d5) HNE.out)
                             have OO := hid (show zs.length < 12 → _ from fun hlt => own_setIb (i := 1) (u := .slice C5 (k + 1) d5) (own_setIb (i := 0) (u := .slice C1 n d1) ((fun _ => o5) hlt) hr (by decide)) (set_ib0 hr) (by decide))
                             have TYY := hid (((TY5).set (i := 0) (v := .slice C1 n d1) hr (by decide)).set (i := 1) (v := .slice C5 (k + 1) d5) (set_ib0 hr) (by decide))
                             have v0 := cell_of_row _ (w.heap.size + 2) 0 _ _ _ hrr
                             have v1 := cell_of_row _ (w.heap.size + 2) 1 _ _ _ hrr
                             have hBB := hid ((hw.out.setCell (p := ⟨w.heap.size + 2, 0, none⟩) (by dsimp; omega) (.slice C1 n d1)).setCell (p := ⟨w.heap.size + 2, 1, none⟩) (by dsimp; omega) (.slice C5 (k + 1) d5))
                             clear hr hb2 hrr hw SL hx hA)
                refine bodyPost_ret (v := .tuple #[ibA C1 n d1 C5 (k + 1) d5, .int .i64 1]) (by simp [results, Tryd.results9, go_sem, v0, v1]) rfl ⟨?_, ?_⟩
                · rw [RF.out, RZ.out, RN.out.2.2]
                  exact ⟨C1, n, d1, C5, (k + 1), d5, rfl, O1.out, SS.out, TYY.out, OO.out⟩
                · exact hBB.out
end Go.Proofs.YtoagpfdhbcgdcaaDoor
