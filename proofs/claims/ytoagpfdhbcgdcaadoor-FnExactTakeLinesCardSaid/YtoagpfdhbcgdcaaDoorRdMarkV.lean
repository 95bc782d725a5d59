/- What ReadMark reads: the texts of numbers, and no others. -/
import Derived.Test.YtoagpfdhbcgdcaaDoorG2
namespace Go.Proofs.YtoagpfdhbcgdcaaDoor
open Go.RowKit
set_option linter.unusedVariables false
set_option linter.unusedSimpArgs false
/-- The number that the first k bytes write. -/
@[irreducible] def numTo (s : ByteArray) (k : Nat) : Int := ((s.data.toList.take k).map (fun c => dv (c.toNat : Int))).foldl (fun n d => n * 36 + d) 0
def valL (l : List UInt8) : Int := (l.map (fun c => dv (c.toNat : Int))).foldl (fun n d => n * 36 + d) 0
theorem numTo_val (s : ByteArray) (k : Nat) : numTo s k = valL (s.data.toList.take k) := by unfold numTo valL; rfl
theorem head_app {l m : List UInt8} (h : l ≠ []) : (l ++ m).head? = l.head? := by cases l with | nil => exact absurd rfl h | cons x t => rfl
theorem valL_snoc (l : List UInt8) (c : UInt8) : valL (l ++ [c]) = valL l * 36 + dv (c.toNat : Int) := by unfold valL; rw [List.map_append, List.foldl_append]; rfl
theorem numTo_zero (s : ByteArray) : numTo s 0 = 0 := by rw [numTo_val]; rfl
theorem take_snoc {s : ByteArray} {k : Nat} (h : k < s.size) : s.data.toList.take (k + 1) = s.data.toList.take k ++ [s[k]] := by
  have h' : k < s.data.toList.length := by simpa using h
  rw [List.take_add_one, List.getElem?_eq_getElem h']
  rfl
theorem numTo_next {s : ByteArray} {k : Nat} (h : k < s.size) : numTo s (k + 1) = numTo s k * 36 + dv (s[k].toNat : Int) := by rw [numTo_val, numTo_val, take_snoc h, valL_snoc]
/-- A digit's value. -/
theorem dv_wc {c : Nat} (h : isWc c) : 0 ≤ dv (c : Int) ∧ dv (c : Int) ≤ 35 := by
  unfold dv
  unfold isWc at h
  rcases h with h | h
  · rw [if_pos ⟨by omega, by omega⟩]; omega
  · rw [if_neg (by omega), if_pos ⟨by omega, by omega⟩]; omega
def okL (l : List UInt8) : Prop := ∀ c ∈ l, isWc c.toNat
theorem valL_le : ∀ (n : Nat) (l : List UInt8), l.length = n → okL l → 0 ≤ valL l ∧ valL l < 36 ^ n
  | 0, l, hl, _ => by
    have : l = [] := List.eq_nil_of_length_eq_zero hl
    subst this; decide
  | n + 1, l, hl, h => by
    obtain ⟨t, c, rfl⟩ : ∃ t c, l = t ++ [c] := ⟨l.dropLast, l.getLast (by intro e; rw [e] at hl; simp at hl), (List.dropLast_concat_getLast _).symm⟩
    have ht : t.length = n := by simp at hl; exact hl
    have h1 := valL_le n t ht (fun x hx => h x (by simp [hx]))
    have h2 := dv_wc (h c (by simp))
    rw [valL_snoc, Int.pow_succ]
    omega
/-- All bytes ahead of k are digits. -/
def okTo (s : ByteArray) (k : Nat) : Prop := ∀ j, j < k → isWc (byteAt s j)
theorem okTo_next {s : ByteArray} {k : Nat} (h : okTo s k) (hk : isWc (byteAt s k)) : okTo s (k + 1) := fun j hj => by
  rcases Nat.lt_succ_iff_lt_or_eq.1 hj with h1 | h1
  · exact h j h1
  · rw [h1]; exact hk
theorem okTo_list {s : ByteArray} {k : Nat} (h : okTo s k) (hk : k ≤ s.size) : okL (s.data.toList.take k) := by
  intro c hc
  obtain ⟨j, hj, rfl⟩ := List.mem_take_iff_getElem.1 hc
  have hj' : j < s.size := by have : s.data.toList.length = s.size := by simp
                              omega
  have := h j (by omega)
  rw [byteAt_get hj'] at this
  exact this
theorem numTo_le {s : ByteArray} {k : Nat} (h : okTo s k) (hk : k ≤ s.size) : 0 ≤ numTo s k ∧ numTo s k < 36 ^ k := by
  rw [numTo_val]
  exact valL_le k _ (by simp; omega) (okTo_list h hk)
/-- What ReadMark asks. -/
def rmP (s : ByteArray) : Prop := 1 ≤ s.size ∧ s.size ≤ 6 ∧ ¬ (1 < s.size ∧ byteAt s 0 = 48) ∧ okTo s s.size ∧ numTo s s.size ≤ 1000000000
instance (s : ByteArray) (k : Nat) : Decidable (okTo s k) := by unfold okTo; infer_instance
instance (s : ByteArray) : Decidable (rmP s) := by unfold rmP; infer_instance
/-- What ReadMark returns. -/
@[irreducible] def rmV (s : ByteArray) : Int := if rmP s then numTo s s.size else -1
theorem rm_yes {s : ByteArray} (h : rmP s) : rmV s = numTo s s.size := by unfold rmV; rw [if_pos h]
theorem rm_no {s : ByteArray} (h : ¬ rmP s) : rmV s = -1 := by unfold rmV; rw [if_neg h]
theorem rm_range (s : ByteArray) : -1 ≤ rmV s ∧ rmV s ≤ 1000000000 := by
  unfold rmV
  split
  · rename_i h
    have := numTo_le h.2.2.2.1 (Nat.le_refl _)
    have := h.2.2.2.2
    omega
  · omega
/-! ### The texts of numbers -/
theorem dig_back : ∀ c : UInt8, isWc c.toNat → dig36 (dv (c.toNat : Int)).toNat = ⟨#[c]⟩ := by
  have : ∀ n : Fin 256, isWc n.val → dig36 (dv (n.val : Int)).toNat = ⟨#[UInt8.ofNat n.val]⟩ := by
    unfold dig36 dv isWc; decide +kernel
  intro c hc
  have h := this ⟨c.toNat, c.toNat_lt⟩ hc
  simpa using h
theorem dig_wc : ∀ d : Nat, d < 36 → ∃ c : UInt8, dig36 d = ⟨#[c]⟩ ∧ isWc c.toNat ∧ dv (c.toNat : Int) = d := by
  have : ∀ d : Fin 36, ∃ n : Fin 256, dig36 d.val = ⟨#[UInt8.ofNat n.val]⟩ ∧ isWc n.val ∧ dv (n.val : Int) = d.val := by
    unfold dig36 dv isWc; decide +kernel
  intro d hd
  obtain ⟨n, h1, h2, h3⟩ := this ⟨d, hd⟩
  have hn : (UInt8.ofNat n.val).toNat = n.val := by simp
  exact ⟨UInt8.ofNat n.val, h1, by rw [hn]; exact h2, by rw [hn]; exact h3⟩
theorem mkT_app (n : Nat) (t : ByteArray) : mkT n t = mkT n ⟨#[]⟩ ++ t := by
  induction n using Nat.strongRecOn generalizing t with
  | ind n ih =>
    by_cases h : n < 36
    · rw [mkT_end h, mkT_end h]; exact (ByteArray.empty_append (b := t)).symm
    · rw [mkT_more h, mkT_more h, ih (n / 36) (by omega), ih (n / 36) (by omega) (dig36 (n / 36 % 36) ++ ⟨#[]⟩)]
      rw [ByteArray.append_assoc]
      congr 1
      rw [ByteArray.append_assoc]
      congr 1
/-- The text of a number. -/
def mkM (n : Nat) : ByteArray := mkT n (dig36 (n % 36))
theorem mkM_lt {n : Nat} (h : n < 36) : mkM n = dig36 n := by unfold mkM; rw [mkT_end h, Nat.mod_eq_of_lt h]
theorem mkM_ge {n : Nat} (h : ¬ n < 36) : mkM n = mkM (n / 36) ++ dig36 (n % 36) := by
  unfold mkM
  rw [mkT_more h, mkT_app, mkT_app (n / 36) (dig36 (n / 36 % 36)), ByteArray.append_assoc]
theorem valL_pos : ∀ (t : List UInt8), okL t → t.head? ≠ some 48 → t ≠ [] → 1 ≤ valL t := by
  intro t
  suffices H : ∀ (n : Nat) (t : List UInt8), t.length = n → okL t → t.head? ≠ some 48 → t ≠ [] → 1 ≤ valL t from H _ t rfl
  intro n
  induction n with
  | zero => intro t hl _ _ hne; exact absurd (List.eq_nil_of_length_eq_zero hl) hne
  | succ n ih =>
    intro t hl ho hh hne
    obtain ⟨u, c, rfl⟩ : ∃ u c, t = u ++ [c] := ⟨t.dropLast, t.getLast hne, (List.dropLast_concat_getLast _).symm⟩
    have hc := ho c (by simp)
    have h2 := dv_wc hc
    rw [valL_snoc]
    by_cases hu : u = []
    · subst hu
      have h48 : c ≠ 48 := by intro e; subst e; exact hh rfl
      have hcn : c.toNat ≠ 48 := fun e => h48 (by rw [← UInt8.toNat_inj]; exact e)
      have : dv (c.toNat : Int) ≠ 0 := by
        unfold dv
        unfold isWc at hc
        rcases hc with hc | hc
        · rw [if_pos ⟨by omega, by omega⟩]; omega
        · rw [if_neg (by omega), if_pos ⟨by omega, by omega⟩]; omega
      have e : valL [] = 0 := rfl
      omega
    · have := ih u (by simp at hl; exact hl) (fun x hx => ho x (by simp [hx])) (by rwa [head_app hu] at hh) hu
      omega
/-- A text of digits without a zero ahead is its number's text. -/
theorem mkM_val : ∀ (k : Nat) (l : List UInt8), l.length = k + 1 → okL l → (1 < l.length → l.head? ≠ some 48) → mkM (valL l).toNat = ⟨l.toArray⟩
  | 0, l, hl, h, _ => by
    obtain ⟨c, rfl⟩ : ∃ c, l = [c] := by
      match l, hl with
      | [c], _ => exact ⟨c, rfl⟩
    have hc := h c (by simp)
    have h2 := dv_wc hc
    have e : valL [c] = dv (c.toNat : Int) := by unfold valL; simp
    rw [e, mkM_lt (by omega), dig_back c hc]
  | k + 1, l, hl, h, hz => by
    obtain ⟨t, c, rfl⟩ : ∃ t c, l = t ++ [c] := ⟨l.dropLast, l.getLast (by intro e; rw [e] at hl; simp at hl), (List.dropLast_concat_getLast _).symm⟩
    have ht : t.length = k + 1 := by simp at hl; exact hl
    have hht : t.head? ≠ some 48 := by
      have := hz (by simp; omega)
      rwa [head_app (by intro e; rw [e] at ht; simp at ht)] at this
    have hot : okL t := fun x hx => h x (by simp [hx])
    have ih := mkM_val k t ht hot (fun _ => hht)
    have h1 := valL_le _ t rfl hot
    have hc := h c (by simp)
    have h2 := dv_wc hc
    have hpos : 1 ≤ valL t := valL_pos t hot hht (by intro e; rw [e] at ht; simp at ht)
    rw [valL_snoc, mkM_ge (by omega), show (valL t * 36 + dv (c.toNat : Int)).toNat / 36 = (valL t).toNat by omega, ih, show (valL t * 36 + dv (c.toNat : Int)).toNat % 36 = (dv (c.toNat : Int)).toNat by omega, dig_back c hc]
    apply ByteArray.ext
    simp
/-- The text of a number has digits alone, and no zero ahead. -/
theorem mkM_facts (n : Nat) : okL (mkM n).data.toList ∧ (mkM n).data.toList ≠ [] ∧ (1 < (mkM n).data.toList.length → (mkM n).data.toList.head? ≠ some 48) ∧ (0 < n → (mkM n).data.toList.head? ≠ some 48) ∧ valL (mkM n).data.toList = n := by
  induction n using Nat.strongRecOn with
  | ind n ih =>
    by_cases h : n < 36
    · obtain ⟨c, e1, e2, e3⟩ := dig_wc n h
      rw [mkM_lt h, e1]
      refine ⟨?_, by simp, by simp, fun hn e => ?_, ?_⟩
      · intro x hx; simp at hx; subst hx; exact e2
      · simp at e; subst e
        have : dv ((48 : UInt8).toNat : Int) = 0 := by unfold dv; decide
        omega
      · show valL [c] = _
        unfold valL; simpa using e3
    · obtain ⟨i1, i2, i3, i4, i5⟩ := ih (n / 36) (by omega)
      obtain ⟨c, e1, e2, e3⟩ := dig_wc (n % 36) (by omega)
      have el : (mkM n).data.toList = (mkM (n / 36)).data.toList ++ [c] := by rw [mkM_ge h, e1]; simp
      have hh : (mkM n).data.toList.head? ≠ some 48 := by rw [el, head_app i2]; exact i4 (by omega)
      refine ⟨?_, by rw [el]; simp, fun _ => hh, fun _ => hh, ?_⟩
      · rw [el]; intro x hx
        rw [List.mem_append] at hx
        rcases hx with hx | hx
        · exact i1 x hx
        · simp at hx; subst hx; exact e2
      · rw [el, valL_snoc, i5, e3]; omega
theorem mkM_size : ∀ (k n : Nat), n < 36 ^ (k + 1) → (mkM n).size ≤ k + 1
  | 0, n, h => by rw [mkM_lt (by simpa using h), dig36_one (by simpa using h)]; omega
  | k + 1, n, h => by
    by_cases hn : n < 36
    · rw [mkM_lt hn, dig36_one hn]; omega
    · rw [mkM_ge hn, ByteArray.size_append, dig36_one (by omega)]
      have := mkM_size k (n / 36) (by rw [Nat.pow_succ] at h; omega)
      omega
theorem ba_list {a b : ByteArray} (h : a.data.toList = b.data.toList) : a = b := by
  apply ByteArray.ext
  exact Array.toList_inj.1 h
theorem byteAt_head {s : ByteArray} (h : 1 ≤ s.size) : s.data.toList.head? = some 48 ↔ byteAt s 0 = 48 := by
  have h' : 0 < s.data.toList.length := Nat.lt_of_lt_of_le h (Nat.le_of_eq (by simp))
  unfold byteAt
  rw [List.head?_eq_getElem?, List.getD_eq_getElem?_getD, List.getElem?_eq_getElem h']
  constructor
  · intro e; injection e with e; rw [Option.getD_some, e]; rfl
  · intro e; rw [Option.getD_some] at e; congr 1; rw [← UInt8.toNat_inj]; exact e
/-- The texts that ReadMark reads are those that the number writes again. -/
theorem rm_mark {s : ByteArray} {k : Nat} (hk : k = min s.size 7) (h0 : 1 ≤ s.size) (hok : okTo s k) : markV (numTo s k) = s ↔ rmP s := by
  have hb := numTo_le hok (by omega)
  have hks : k ≤ s.size := by omega
  constructor
  · intro e
    have hr : 0 ≤ numTo s k ∧ numTo s k ≤ 1000000000 := Classical.byContradiction fun hn => by
      rw [markV_no hn] at e
      rw [← e] at h0
      exact absurd h0 (by decide)
    rw [markV_yes hr] at e
    have e' : mkM (numTo s k).toNat = s := e
    have hs6 : s.size ≤ 6 := by
      rw [← e']
      exact mkM_size 5 _ (by omega)
    have hkk : k = s.size := by omega
    obtain ⟨i1, i2, i3, i4, i5⟩ := mkM_facts (numTo s k).toNat
    rw [e'] at i3
    refine ⟨h0, hs6, fun hz => ?_, by rw [← hkk]; exact hok, by rw [← hkk]; exact hr.2⟩
    exact i3 (by simpa using hz.1) ((byteAt_head h0).2 hz.2)
  · rintro ⟨h1, h2, h3, h4, h5⟩
    have hkk : k = s.size := by omega
    subst hkk
    have hr : 0 ≤ numTo s s.size ∧ numTo s s.size ≤ 1000000000 := ⟨hb.1, h5⟩
    rw [markV_yes hr]
    show mkM (numTo s s.size).toNat = s
    have hl : s.data.toList.take s.size = s.data.toList := List.take_of_length_le (by simp)
    have hL := okTo_list h4 (Nat.le_refl _)
    rw [hl] at hL
    rw [numTo_val, hl, mkM_val (s.size - 1) s.data.toList (by simp; omega) hL (fun hlt e => h3 ⟨by simpa using hlt, (byteAt_head h0).1 e⟩)]
theorem rm_empty {s : ByteArray} (h : s.size = 0) : ¬ rmP s := fun hp => by have := hp.1; omega
theorem rm_digit {s : ByteArray} {k : Nat} (hk : k < s.size) (h : ¬ isWc (byteAt s k)) : ¬ rmP s := fun hp => h (hp.2.2.2.1 k hk)
end Go.Proofs.YtoagpfdhbcgdcaaDoor
