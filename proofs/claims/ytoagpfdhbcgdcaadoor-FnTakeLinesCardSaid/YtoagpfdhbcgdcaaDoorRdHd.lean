/- The contracts of ReadHandle, the program's and the reference's. -/
import Derived.Test.YtoagpfdhbcgdcaaDoorShelf
import Derived.Test.YtoagpfdhbcgdcaaDoorRdMark
import Derived.Test.YtoagpfdhbcgdcaaDoorAcTextS
import Derived.Test.YtoagpfdhbcgdcaaDoorG3
import Derived.BigQuiet
namespace Go.Proofs.YtoagpfdhbcgdcaaDoor
open Go.RowKit Go.Lib
set_option linter.unusedVariables false
set_option linter.unusedSimpArgs false
@[irreducible] def rhN (s : ByteArray) : ByteArray := ⟨(cutV (s.extract 1 s.size)).1.toArray⟩
@[irreducible] def rhH (s : ByteArray) : ByteArray := ⟨(cutV (s.extract 1 s.size)).2.1.toArray⟩
@[irreducible] def rhF (s : ByteArray) : Bool := (cutV (s.extract 1 s.size)).2.2
/-- What ReadHandle returns. -/
@[irreducible] def rhV (s : ByteArray) : (ByteArray × ByteArray) × Bool := if preV s = true ∧ rhF s = true ∧ hvalV (rhN s) (rhH s) = true then ((rhN s, rhH s), true) else ((⟨#[]⟩, ⟨#[]⟩), false)
section
variable {s : ByteArray}
theorem rh_no1 (h : preV s = false) : rhV s = ((⟨#[]⟩, ⟨#[]⟩), false) := by unfold rhV; rw [if_neg (by rw [h]; simp)]
theorem rh_no2 (h : rhF s = false) : rhV s = ((⟨#[]⟩, ⟨#[]⟩), false) := by unfold rhV; rw [if_neg (by rw [h]; simp)]
theorem rh_no3 (h : hvalV (rhN s) (rhH s) = false) : rhV s = ((⟨#[]⟩, ⟨#[]⟩), false) := by unfold rhV; rw [if_neg (by rw [h]; simp)]
theorem rh_yes (h1 : preV s = true) (h2 : rhF s = true) (h3 : hvalV (rhN s) (rhH s) = true) : rhV s = ((rhN s, rhH s), true) := by unfold rhV; rw [if_pos ⟨h1, h2, h3⟩]
theorem ext1_list : (s.extract 1 s.size).data.toList = s.data.toList.drop 1 := by
  rw [ByteArray.data_extract, Array.toList_extract, List.extract_eq_take_drop]
  exact List.take_of_length_le (by simp)
theorem cut_sizes (t : ByteArray) : (cutV t).1.length ≤ t.size ∧ (cutV t).2.1.length ≤ t.size := by
  rw [cutV_eq]
  unfold cut
  have : t.data.toList.length = t.size := by simp
  split
  · simp only [List.length_take, List.length_drop]; omega
  · simp only [List.length_nil]; omega
theorem rhN_size : (rhN s).size ≤ s.size := by
  have h := (cut_sizes (s.extract 1 s.size)).1
  have h2 : (s.extract 1 s.size).size ≤ s.size := by rw [ByteArray.size_extract]; omega
  unfold rhN
  have : (⟨(cutV (s.extract 1 s.size)).1.toArray⟩ : ByteArray).size = (cutV (s.extract 1 s.size)).1.length := List.size_toArray
  omega
theorem rhH_size : (rhH s).size ≤ s.size := by
  have h := (cut_sizes (s.extract 1 s.size)).2
  have h2 : (s.extract 1 s.size).size ≤ s.size := by rw [ByteArray.size_extract]; omega
  unfold rhH
  have : (⟨(cutV (s.extract 1 s.size)).2.1.toArray⟩ : ByteArray).size = (cutV (s.extract 1 s.size)).2.1.length := List.size_toArray
  omega
theorem pre_size (h : preV s = true) : 1 ≤ s.size := by
  rw [preV_eq] at h
  have : s.data.toList.length = s.size := by simp
  unfold hasPrefix at h
  cases hx : s.data.toList with
  | nil => rw [hx] at h; simp [List.isPrefixOf] at h
  | cons a t => rw [hx] at this; simp at this; omega
end
theorem cut2_any (s : ByteArray) (w : World) (hs : s.size < 4294967281) (hM : ML w) :
    Calls Tryd.prog 99 #[.string (s.extract 1 s.size), .string ⟨#[64]⟩] w fun e w' => e = .returned (.tuple #[.string (rhN s), .string (rhH s), .bool (rhF s)]) ∧ Ext.of w w' := by
  have h2 : (s.extract 1 s.size).size ≤ s.size := by rw [ByteArray.size_extract]; omega
  unfold rhN rhH rhF
  exact cut_any _ w (by omega) hM
set_option maxHeartbeats 4000000 in
theorem rhI_any (s : ByteArray) (w : World) (hs : s.size < 4294967281) (hM : ML w) : Calls Tryd.prog 90 #[.string s] w fun e w' => e = .returned (.tuple #[hdA (rhV s).1.1 (rhV s).1.2, .bool (rhV s).2]) ∧ Ext.of w w' := by
  have hN := rhN_size (s := s)
  have hH := rhH_size (s := s)
  have hr0 : (w.alloc (.cells #[.string ⟨#[]⟩, .string ⟨#[]⟩] 28)).heap[w.heap.size]? = some (.cells #[.string ⟨#[]⟩, .string ⟨#[]⟩] 28 (0, 0)) := alloc_new' rfl
  have B0 : Below w.heap.size w (w.alloc (.cells #[.string ⟨#[]⟩, .string ⟨#[]⟩] 28)) := (Below.refl _ _).alloc (Nat.le_refl _) _
  have hM0 := hM.below B0
  have C1 := fun W (hW : ML W) => cut2_any s W hs hW
  have C2 := fun W => hvalI_any (rhN s) (rhH s) W (by omega) (by omega)
  clear hN hH hM
  go_enter Tryd.func90, Tryd.ntmps90
  go_wp2_with fail
  generalize w.alloc (.cells #[.string ⟨#[]⟩, .string ⟨#[]⟩] 28) = W0 at *
  refine (pre_any s W0).mono ?_
  rintro e w1 ⟨rfl, rfl⟩
  cases hp : preV s with
  | false =>
    have R := hid (rh_no1 hp)
    have ks := row2 (a := .string ⟨#[]⟩) (b := .string ⟨#[]⟩) hr0
    have B9 := B0.grown ks.2 B0.size (by rintro _ ⟨rfl⟩; exact Nat.le_refl _)
    have f0 := frozen_of_row _ w.heap.size 0 _ _ hr0
    have f1 := frozen_of_row _ w.heap.size 1 _ _ hr0
    have x0 := cell_of_row _ w.heap.size 0 _ _ _ hr0
    have x1 := cell_of_row _ w.heap.size 1 _ _ _ hr0
    have v0 := cell_of_row _ w.heap.size 0 _ _ _ ks.1
    have v1 := cell_of_row _ w.heap.size 1 _ _ _ ks.1
    go_wp2_with fail
    exact bodyPost_ret (v := .tuple #[hdA ⟨#[]⟩ ⟨#[]⟩, .bool false]) (by simp [results, Tryd.results90, go_sem, v0, v1]) rfl ⟨by rw [R.out], Ext.of_below B9⟩
  | true =>
    have h1 := pre_size hp
    have HP := hid hp
    clear hp
    go_wp2_with fail
    refine (C1 W0 hM0).mono ?_
    rintro e w1 ⟨rfl, x1⟩
    have B1 := B0.trans (x1.below.mono B0.size)
    have hr1 := (x1.below.block _ (Array.getElem?_eq_some_iff.1 hr0).1).trans hr0
    have hI : (w1.alloc (.cells #[.string (rhN s), .string (rhH s)] 28)).heap[w1.heap.size]? = some (.cells #[.string (rhN s), .string (rhH s)] 28 (0, 0)) := alloc_new' rfl
    have B2 := B1.alloc B1.size (.cells #[.string (rhN s), .string (rhH s)] 28)
    have hr2 := alloc_old (o := (.cells #[.string (rhN s), .string (rhH s)] 28)) hr1
    clear B0 hr0 hM0 x1 B1 hr1 C1
    cases hf : rhF s with
    | false =>
      have R := hid (rh_no2 hf)
      clear hf
      have ks := row2 (a := .string ⟨#[]⟩) (b := .string ⟨#[]⟩) hr2
      have B9 := B2.grown ks.2 B2.size (by rintro _ ⟨rfl⟩; exact Nat.le_refl _)
      have f0 := frozen_of_row _ w.heap.size 0 _ _ hr2
      have f1 := frozen_of_row _ w.heap.size 1 _ _ hr2
      have x0 := cell_of_row _ w.heap.size 0 _ _ _ hr2
      have x1 := cell_of_row _ w.heap.size 1 _ _ _ hr2
      have v0 := cell_of_row _ w.heap.size 0 _ _ _ ks.1
      have v1 := cell_of_row _ w.heap.size 1 _ _ _ ks.1
      go_wp2_with fail
      exact bodyPost_ret (v := .tuple #[hdA ⟨#[]⟩ ⟨#[]⟩, .bool false]) (by simp [results, Tryd.results90, go_sem, v0, v1]) rfl ⟨by rw [R.out], Ext.of_below B9⟩
    | true =>
      have HF := hid hf
      clear hf
      have y0 := cell_of_row _ w1.heap.size 0 _ _ _ hI
      have y1 := cell_of_row _ w1.heap.size 1 _ _ _ hI
      go_wp2_with fail
      clear y0 y1
      generalize w1.alloc (.cells #[.string (rhN s), .string (rhH s)] 28) = W2 at *
      generalize w1.heap.size = g at *
      refine (C2 W2).mono ?_
      rintro e w3 ⟨rfl, x3⟩
      have B3 := B2.trans (x3.below.mono B2.size)
      have hr3 := (x3.below.block _ (Array.getElem?_eq_some_iff.1 hr2).1).trans hr2
      have hI3 := (x3.below.block _ (Array.getElem?_eq_some_iff.1 hI).1).trans hI
      clear B2 hr2 hI x3
      cases hv : hvalV (rhN s) (rhH s) with
      | false =>
        have R := hid (rh_no3 hv)
        clear hv
        have ks := row2 (a := .string ⟨#[]⟩) (b := .string ⟨#[]⟩) hr3
        have B9 := B3.grown ks.2 B3.size (by rintro _ ⟨rfl⟩; exact Nat.le_refl _)
        have f0 := frozen_of_row _ w.heap.size 0 _ _ hr3
        have f1 := frozen_of_row _ w.heap.size 1 _ _ hr3
        have x0 := cell_of_row _ w.heap.size 0 _ _ _ hr3
        have x1 := cell_of_row _ w.heap.size 1 _ _ _ hr3
        have v0 := cell_of_row _ w.heap.size 0 _ _ _ ks.1
        have v1 := cell_of_row _ w.heap.size 1 _ _ _ ks.1
        go_wp2_with fail
        exact bodyPost_ret (v := .tuple #[hdA ⟨#[]⟩ ⟨#[]⟩, .bool false]) (by simp [results, Tryd.results90, go_sem, v0, v1]) rfl ⟨by rw [R.out], Ext.of_below B9⟩
      | true =>
        have R := hid (rh_yes HP.out HF.out hv)
        clear hv
        have y0 := cell_of_row _ g 0 _ _ _ hI3
        have y1 := cell_of_row _ g 1 _ _ _ hI3
        have ks := row2 (a := .string (rhN s)) (b := .string (rhH s)) hr3
        have B9 := B3.grown ks.2 B3.size (by rintro _ ⟨rfl⟩; exact Nat.le_refl _)
        have f0 := frozen_of_row _ w.heap.size 0 _ _ hr3
        have f1 := frozen_of_row _ w.heap.size 1 _ _ hr3
        have x0 := cell_of_row _ w.heap.size 0 _ _ _ hr3
        have x1 := cell_of_row _ w.heap.size 1 _ _ _ hr3
        have v0 := cell_of_row _ w.heap.size 0 _ _ _ ks.1
        have v1 := cell_of_row _ w.heap.size 1 _ _ _ ks.1
        go_wp2_with fail
        exact bodyPost_ret (v := .tuple #[hdA (rhN s) (rhH s), .bool true]) (by simp [results, Tryd.results90, go_sem, v0, v1]) rfl ⟨by rw [R.out], Ext.of_below B9⟩
/-- No sign '@' between the first byte and k. -/
def noAt (s : ByteArray) (k : Nat) : Prop := ∀ j, 1 ≤ j → j < k → byteAt s j ≠ 64
theorem byteAt_list {s : ByteArray} {j : Nat} (h : j < s.size) : s.data.toList[j]? = some s[j] := by
  have h' : j < s.data.toList.length := Nat.lt_of_lt_of_le h (Nat.le_of_eq (by simp))
  rw [List.getElem?_eq_getElem h']; rfl
theorem cut_none {s : ByteArray} (h : noAt s s.size) : rhF s = false := by
  unfold rhF
  rw [cutV_eq, ext1_list]
  unfold cut
  have e : index (s.data.toList.drop 1) [64] = -1 := by
    rcases index_spec (s.data.toList.drop 1) [64] with ⟨e, _⟩ | ⟨i, e, h1, h2, _⟩
    · exact e
    · exfalso
      unfold occAt at h2
      rw [List.drop_drop] at h2
      cases hx : s.data.toList.drop (1 + i) with
      | nil => rw [hx] at h2; simp [List.isPrefixOf] at h2
      | cons c t =>
        rw [hx] at h2
        simp [List.isPrefixOf] at h2
        have hlen : s.data.toList.length = s.size := by simp
        have hlt : 1 + i < s.size := by
          have := congrArg List.length hx
          simp only [List.length_drop, List.length_cons] at this
          omega
        have hc : s.data.toList[1 + i]? = some c := by rw [← List.head?_drop, hx]; rfl
        rw [byteAt_list hlt] at hc
        injection hc with hc
        refine h (1 + i) (by omega) hlt ?_
        rw [byteAt_get hlt, hc, ← h2]; rfl
  rw [e, if_neg (by decide)]
theorem cut_at {s : ByteArray} {k : Nat} (h : noAt s k) (h1 : 1 ≤ k) (hk : k < s.size) (hc : byteAt s k = 64) : rhF s = true ∧ rhN s = s.extract 1 k ∧ rhH s = s.extract (k + 1) s.size := by
  have hlen : s.data.toList.length = s.size := by simp
  have e : index (s.data.toList.drop 1) [64] = ((k - 1 : Nat) : Int) := by
    refine index_first (by rw [List.length_drop]; omega) ?_ fun j hj => ?_
    · unfold occAt
      rw [List.drop_drop, show 1 + (k - 1) = k by omega, List.drop_eq_getElem_cons (by omega)]
      have : s.data.toList[k]'(by omega) = 64 := by
        rw [byteAt_get hk] at hc
        have h2 := byteAt_list hk
        rw [List.getElem?_eq_getElem (by omega)] at h2
        injection h2 with h2
        rw [h2, ← UInt8.toNat_inj]; exact hc
      rw [this]; simp [List.isPrefixOf]
    · unfold occAt
      rw [List.drop_drop, List.drop_eq_getElem_cons (by omega)]
      have hne := h (1 + j) (by omega) (by omega)
      rw [byteAt_get (by omega)] at hne
      have h2 := byteAt_list (s := s) (j := 1 + j) (by omega)
      rw [List.getElem?_eq_getElem (by omega)] at h2
      injection h2 with h2
      rw [h2]
      simp [List.isPrefixOf]
      intro e; exact hne (by rw [← e]; rfl)
  unfold rhF rhN rhH
  rw [cutV_eq, ext1_list]
  unfold cut
  rw [e, if_pos (by omega)]
  refine ⟨rfl, ?_, ?_⟩
  · apply ba_list
    rw [ByteArray.data_extract, Array.toList_extract, List.extract_eq_take_drop]
    simp
  · apply ba_list
    rw [ByteArray.data_extract, Array.toList_extract, List.extract_eq_take_drop, List.take_of_length_le (l := List.drop (k + 1) s.data.toList) (by simp)]
    show (s.data.toList.drop 1).drop ((k - 1 : Nat) + 1) = _
    rw [List.drop_drop, show 1 + (k - 1 + 1) = k + 1 by omega]
/-- A handle's text begins with its sign. -/
theorem htext_is {s : ByteArray} {k : Nat} (h1 : 1 ≤ k) (hk : k < s.size) (hc : byteAt s k = 64) (hv : hvalV (s.extract 1 k) (s.extract (k + 1) s.size) = true) : htextV (s.extract 1 k) (s.extract (k + 1) s.size) = s ↔ preV s = true := by
  have hlen : s.data.toList.length = s.size := by simp
  have hk64 : s.data.toList[k]'(by omega) = 64 := by
    rw [byteAt_get hk] at hc
    have h2 := byteAt_list hk
    rw [List.getElem?_eq_getElem (by omega)] at h2
    injection h2 with h2
    rw [h2, ← UInt8.toNat_inj]; exact hc
  obtain ⟨a, t, hat⟩ : ∃ a t, s.data.toList = a :: t := by
    cases hx : s.data.toList with
    | nil => rw [hx] at hlen; simp at hlen; omega
    | cons a t => exact ⟨a, t, rfl⟩
  have hs : s.data.toList = [a] ++ (s.extract 1 k).data.toList ++ [64] ++ (s.extract (k + 1) s.size).data.toList := by
    rw [ByteArray.data_extract, Array.toList_extract, List.extract_eq_take_drop, ByteArray.data_extract, Array.toList_extract, List.extract_eq_take_drop, List.take_of_length_le (l := List.drop (k + 1) s.data.toList) (by simp)]
    have h2 : s.data.toList.drop k = 64 :: s.data.toList.drop (k + 1) := by rw [List.drop_eq_getElem_cons (by omega), hk64]
    have h3 : s.data.toList.take k = [a] ++ (s.data.toList.drop 1).take (k - 1) := by
      obtain ⟨k', rfl⟩ : ∃ k', k = k' + 1 := ⟨k - 1, by omega⟩
      rw [hat]; rfl
    have h4 := List.take_append_drop k s.data.toList
    rw [h2, h3] at h4
    simpa using h4.symm
  rw [htext_yes hv, preV_eq]
  constructor
  · intro e
    rw [← e]
    unfold hasPrefix
    simp [List.isPrefixOf]
  · intro hp
    apply ba_list
    have h0 : a = 64 := by
      unfold hasPrefix at hp
      rw [hat] at hp
      simp [List.isPrefixOf] at hp
      exact hp.symm
    rw [hs, h0]
    simp
end Go.Proofs.YtoagpfdhbcgdcaaDoor
