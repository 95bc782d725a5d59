/- The walk of FnExactInboxValid: it returns true and turns nothing that was there. -/
import Derived.Test.YtoagpfdhbcgdcaaInboxTo
import Derived.Test.YtoagpfdhbcgdcaaOrder
namespace Go.Proofs.Ytoagpfdhbcgdcaa.fnExactInboxValid
open Go.RowKit
set_option linter.unusedVariables false
set_option linter.unusedSimpArgs false
set_option maxHeartbeats 2000000 in
theorem walk (A : Option Addr) (n c : Nat) (xs : List Hd) (B : Option Addr) (m d : Nat) (zs : List Int) (w : World) (w0 : Sl w A n c 2 (hds xs) ∧ hdOk xs) (w1 : Sl w B m d 1 (ints zs)) :
    Calls Try.prog 3 #[ibA A n c B m d] w fun e w' => e = .returned (.bool true) ∧ Below w.heap.size w w' := by
  obtain ⟨S1, hok⟩ := w0
  have HOK := hid hok
  have S2 := w1
  clear hok w1
  have hE : Ext.of w (w.alloc (.cells #[.slice A n c, .slice B m d] 25)) := (Ext.of.refl _).alloc _
  have hb : (w.alloc (.cells #[.slice A n c, .slice B m d] 25)).heap[w.heap.size]? = some (.cells #[.slice A n c, .slice B m d] 25 (0, 0)) := alloc_new' rfl
  have b0 := cell_of_row _ w.heap.size 0 _ _ _ hb
  have b1 := cell_of_row _ w.heap.size 1 _ _ _ hb
  go_enter Try.func3, Try.ntmps3
  go_wp2_with fail
  generalize w.alloc (.cells #[.slice A n c, .slice B m d] 25) = W0 at *
  refine (szInbox_any _ _ _ xs _ _ _ zs 1048576 _ (S1.ext hE) HOK.out (S2.ext hE) (by omega) (by omega)).mono ?_
  rintro e1 w1 ⟨r, rfl, hr, x1⟩
  have hE := hE.trans x1
  have b0 := x1.cell b0
  have b1 := x1.cell b1
  have hb := (x1.block (Array.getElem?_eq_some_iff.1 hb).1).trans hb
  clear x1
  by_cases hr0 : r < 0
  · clear hr
    go_wp2_with fail
    go_ret
    exact ⟨rfl, hE.below⟩
  · obtain ⟨hn, hm⟩ := hr (by omega)
    clear hr
    go_wp2_with fail
    refine (toInbox_any _ _ _ xs _ _ _ zs _ (S1.ext hE) (S2.ext hE) hn hm).mono ?_
    rintro e1 w2 ⟨C, D, rfl, S3, S4, x2⟩
    have hE := hE.trans x2
    have hb := (x2.block (Array.getElem?_eq_some_iff.1 hb).1).trans hb
    clear x2 b0 b1
    go_wp2_with fail
    refine (ibS_any _ _ _ xs _ _ _ zs _ S3 HOK.out S4).mono ?_
    rintro e1 w2 ⟨rfl, x2⟩
    have hE := hE.trans x2
    have hb := (x2.block (Array.getElem?_eq_some_iff.1 hb).1).trans hb
    have b0 := cell_of_row _ w.heap.size 0 _ _ _ hb
    have b1 := cell_of_row _ w.heap.size 1 _ _ _ hb
    clear x2 S3 S4
    go_wp2_with fail
    refine (toInbox_any _ _ _ xs _ _ _ zs _ (S1.ext hE) (S2.ext hE) hn hm).mono ?_
    rintro e1 w3 ⟨C, D, rfl, S3, S4, x3⟩
    have hE := (hE.trans x3).alloc (.cells #[.slice C n n, .slice D m m] 30)
    have hb := alloc_old (o := (.cells #[.slice C n n, .slice D m m] 30)) ((x3.block (Array.getElem?_eq_some_iff.1 hb).1).trans hb)
    have h5 : (w3.alloc (.cells #[.slice C n n, .slice D m m] 30)).heap[w3.heap.size]? = some (.cells #[.slice C n n, .slice D m m] 30 (0, 0)) := alloc_new' rfl
    have S3 := S3.alloc (.cells #[.slice C n n, .slice D m m] 30)
    have S4 := S4.alloc (.cells #[.slice C n n, .slice D m m] 30)
    have c0 := cell_of_row _ w3.heap.size 0 _ _ _ h5
    have c1 := cell_of_row _ w3.heap.size 1 _ _ _ h5
    clear x3 b0 b1
    go_wp2_with fail
    generalize w3.alloc (.cells #[.slice C n n, .slice D m m] 30) = W3 at *
    refine (ibI_any _ _ _ xs _ _ _ zs _ S3 HOK.out S4).mono ?_
    rintro e1 W4 ⟨rfl, x4⟩
    have hE := hE.trans x4
    have S3 := S3.ext x4
    have S4 := S4.ext x4
    have c0 := x4.cell c0
    have c1 := x4.cell c1
    have hb := (x4.block (Array.getElem?_eq_some_iff.1 hb).1).trans hb
    have b0 := cell_of_row _ w.heap.size 0 _ _ _ hb
    have b1 := cell_of_row _ w.heap.size 1 _ _ _ hb
    have S1 := S1.ext hE
    have S2 := S2.ext hE
    clear x4 h5 hb
    obtain ⟨V, hV⟩ : ∃ V, ibV xs zs = V := ⟨_, rfl⟩
    rw [hV]
    clear hV
    have hq : (V == V) = true := by simp
    go_wp2_with fail
    refine wp_region_steps (W := fun _ w' => Ext.of W4 w') (Tr := fun a b => Ext.of a b) (F := fun i v w' => match i with
        | 0 => v = ibA C n n D m m
        | 1 => v = ibA A n c B m d
        | 2 => ∃ E F, v = ibA E n n F m m ∧ Sl w' E n n 2 (hds xs) ∧ Sl w' F m m 1 (ints zs)
        | 3 => v = .bool true
        | 4 => v = .bool false
        | _ => True) (by kernel_rfl) (by kernel_rfl) ?_ ?_ ?_ ?_
    · exact Ext.of.drew (Ext.of.refl _)
    · intro kk a b i v hW hT hF
      match i with
      | 0 => exact hF
      | 1 => exact hF
      | 2 => obtain ⟨E, F, e, s1, s2⟩ := hF; exact ⟨E, F, e, s1.ext hT, s2.ext hT⟩
      | 3 => exact hF
      | 4 => exact hF
      | _ + 5 => trivial
    · refine ⟨fun kk ρ u hkk hc hf hb hW hd => ?_, ?_⟩
      · have e0 : ρ (.tmp 5) = .pointer (some ⟨w3.heap.size, 0, none⟩) := hb 5 (by kernel_rfl)
        clear hd hb
        have x0 := hW.cell c0
        have x1 := hW.cell c1
        exact yield_value (w' := u) (ibA C n n D m m) (by simp [go_sem, hc, hf, e0, x0, x1]) ⟨rfl, hW, Ext.of.refl _⟩
      refine ⟨fun kk ρ u hkk hc hf hb hW hd => ?_, ?_⟩
      · have e0 : ρ (.tmp 1) = .pointer (some ⟨w.heap.size, 0, none⟩) := hb 1 (by kernel_rfl)
        clear hd hb
        have x0 := hW.cell b0
        have x1 := hW.cell b1
        exact yield_value (w' := u) (ibA A n c B m d) (by simp [go_sem, hc, hf, e0, x0, x1]) ⟨rfl, hW, Ext.of.refl _⟩
      refine ⟨fun kk ρ u hkk hc hf hb hW hd => ?_, ?_⟩
      · have e0 : ρ (.tmp 23) = ibA A n c B m d := hd.1 rfl rfl
        clear hd hb
        have s1 := S1.ext hW
        have s2 := S2.ext hW
        refine yield_call 7 #[ibA A n c B m d] (by simp [go_sem, hc, hf, e0]) ?_
        refine (toInbox_any _ _ _ xs _ _ _ zs _ s1 s2 hn hm).mono ?_
        rintro e' w' ⟨E, F, rfl, s3, s4, x⟩
        exact ⟨_, rfl, ⟨E, F, rfl, s3, s4⟩, hW.trans x, x⟩
      refine ⟨fun kk ρ u hkk hc hf hb hW hd => ?_, ?_⟩
      · have e0 : ρ (.tmp 22) = ibA C n n D m m := hd.1 rfl rfl
        obtain ⟨E, F, e1, SE, SF⟩ : ∃ E F, ρ (.tmp 24) = ibA E n n F m m ∧ Sl u E n n 2 (hds xs) ∧ Sl u F m m 1 (ints zs) := hd.2.1 rfl rfl
        clear hd hb
        refine yield_call 9 #[ibA C n n D m m, ibA E n n F m m] (by simp [go_sem, hc, hf, e0, e1]) ?_
        refine (eqInbox_same _ _ _ _ _ _ _ _ _ _ _ _ xs zs _ (S3.ext hW) (S4.ext hW) SE SF).mono ?_
        rintro e' w' ⟨rfl, x⟩
        exact ⟨_, rfl, rfl, hW.trans x, x⟩
      refine ⟨fun kk ρ u hkk hc hf hb hW hd => ?_, ?_⟩
      · have e0 : ρ (.tmp 25) = .bool true := hd.1 rfl rfl
        clear hd hb
        exact yield_value (w' := u) (.bool false) (by simp [go_sem, hc, hf, e0]) ⟨rfl, hW, Ext.of.refl _⟩
      trivial
    intro env wv hW hF
    have ev : env 4 = .bool false := hF 4 (of_decide_eq_true (by kernel_rfl))
    clear hF
    have hr : List.range 27 = [0, 1, 2, 3, 4, 5, 6, 7, 8, 9, 10, 11, 12, 13, 14, 15, 16, 17, 18, 19, 20, 21, 22, 23, 24, 25, 26] := rfl
    unfold after
    simp only [List.size_toArray, List.length_cons, List.length_nil, Nat.reduceAdd, hr, List.map_cons, List.map_nil]
    simp [idxOf, List.findIdx?, List.findIdx?.go, ev]
    clear hr
    go_wp2_with fail
    go_ret
    exact ⟨rfl, (hE.trans hW).below⟩
end Go.Proofs.Ytoagpfdhbcgdcaa.fnExactInboxValid
