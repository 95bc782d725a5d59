/- What an activity's coming leaves is a valid inbox, and the same one coming again changes nothing. -/
import Derived.Test.YtoagpfdhbcgdcaaDoorTake
namespace Go.Proofs.YtoagpfdhbcgdcaaDoor
open Go.RowKit
set_option linter.unusedVariables false
set_option linter.unusedSimpArgs false
/-! ### Texts of small bytes -/
def Tcs (s : ByteArray) : Prop := ∀ b ∈ s.data.toList, isTc b.toNat
theorem tcs_app {a b : ByteArray} (ha : Tcs a) (hb : Tcs b) : Tcs (a ++ b) := by
  intro x hx
  have e : (a ++ b).data = a.data ++ b.data := ByteArray.data_append ..
  rw [e, Array.toList_append, List.mem_append] at hx
  rcases hx with hx | hx
  · exact ha x hx
  · exact hb x hx
theorem tcs_textV {s : ByteArray} (h : s.size ≤ 80) (hs : Tcs s) : textV s = true := by
  refine textV_yes ⟨h, fun j hj => ?_⟩
  unfold byteAt
  have hj' : j < s.data.toList.length := by simpa using hj
  rw [List.getD_eq_getElem?_getD, List.getElem?_eq_getElem hj', Option.getD_some]
  exact hs _ (List.getElem_mem _)
theorem tcs_word {s : ByteArray} (h : wordV s = true) : Tcs s := by
  obtain ⟨_, _, _, h4⟩ := wordV_iff.1 h
  intro x hx
  obtain ⟨j, hj, rfl⟩ := List.mem_iff_getElem.1 hx
  have := h4 j (by simpa using hj)
  unfold byteAt at this
  rw [List.getD_eq_getElem?_getD, List.getElem?_eq_getElem hj, Option.getD_some] at this
  unfold isWc at this
  unfold isTc
  omega
theorem tcs_dig {d : Nat} (h : d < 36) : Tcs (dig36 d) := by
  have hall : ∀ d : Fin 36, ∀ b ∈ (dig36 d.val).data.toList, isTc b.toNat := by decide +kernel
  exact hall ⟨d, h⟩
theorem tcs_mkT : ∀ (n : Nat) (t : ByteArray), Tcs t → Tcs (mkT n t) := by
  intro n
  induction n using Nat.strongRecOn with
  | _ n ih =>
    intro t ht
    by_cases h : n < 36
    · rw [mkT_end h]; exact ht
    · rw [mkT_more h]; exact ih (n / 36) (by omega) _ (tcs_app (tcs_dig (Nat.mod_lt _ (by omega))) ht)
theorem mkT_small : ∀ (k n : Nat) (t : ByteArray), n < 36 ^ (k + 1) → (mkT n t).size ≤ t.size + k := by
  intro k
  induction k with
  | zero => intro n t h; rw [mkT_end (by simpa using h)]; omega
  | succ k ih =>
    intro n t h
    by_cases h' : n < 36
    · rw [mkT_end h']; omega
    · rw [mkT_more h']
      have h2 : n / 36 < 36 ^ (k + 1) := by rw [Nat.div_lt_iff_lt_mul (by omega)]; rw [Nat.pow_succ] at h; exact h
      have := ih (n / 36) (dig36 (n / 36 % 36) ++ t) h2
      rw [ByteArray.size_append, dig36_one (Nat.mod_lt _ (by omega))] at this
      omega
theorem tcs_nil : Tcs (⟨#[]⟩ : ByteArray) := by intro x hx; simp at hx
theorem tcs_mark (m : Int) : Tcs (markV m) := by
  by_cases h : 0 ≤ m ∧ m ≤ 1000000000
  · rw [markV_yes h]; exact tcs_mkT _ _ (tcs_dig (Nat.mod_lt _ (by omega)))
  · rw [markV_no h]; exact tcs_nil
theorem mark_small (m : Int) : (markV m).size ≤ 6 := by
  by_cases h : 0 ≤ m ∧ m ≤ 1000000000
  · rw [markV_yes h]
    have h1 : m.toNat < 36 ^ (5 + 1) := by
      have : m.toNat ≤ 1000000000 := by omega
      exact Nat.lt_of_le_of_lt this (by decide)
    have := mkT_small 5 m.toNat (dig36 (m.toNat % 36)) h1
    rw [dig36_one (Nat.mod_lt _ (by omega))] at this
    omega
  · rw [markV_no h]; exact Nat.zero_le _
theorem tcs_kind {k : Int} (h0 : 0 ≤ k) (h1 : k ≤ 5) : Tcs (kindW k) := by
  have hall : ∀ j : Fin 6, ∀ b ∈ (kindW (j.val : Int)).data.toList, isTc b.toNat := by unfold kindW; decide +kernel
  obtain ⟨j, rfl⟩ := Int.eq_ofNat_of_zero_le h0
  exact hall ⟨j, by omega⟩
theorem tcs_sp : Tcs (⟨#[32]⟩ : ByteArray) := by unfold Tcs; decide +kernel
theorem tcs_at : Tcs (⟨#[64]⟩ : ByteArray) := by unfold Tcs; decide +kernel
theorem tcs_htext (a b : ByteArray) : Tcs (htextV a b) := by
  cases h : hvalV a b with
  | false => rw [htext_no h]; exact tcs_nil
  | true =>
    rw [htext_yes h]
    unfold hvalV at h
    rw [Bool.and_eq_true] at h
    exact tcs_app (tcs_app (tcs_app tcs_at (tcs_word h.1)) tcs_at) (tcs_word h.2)
section
variable {xs : List Hd} {zs : List Int} {kd mk : Int} {a b s : ByteArray}
theorem atext_text (h : avalV kd mk a b s = true) : textV (atextV kd mk a b s) = true := by
  have h1 := kindW_size kd
  have h2 := mark_small mk
  have h3 := htext_size a b
  have h4 := aval_parts h
  have hw : wordV s = true := by unfold avalV at h; simp only [Bool.and_eq_true] at h; exact h.2.2.2
  rw [atext_yes h]
  refine tcs_textV ?_ (tcs_app (tcs_app (tcs_app (tcs_app (tcs_app (tcs_app (tcs_kind h4.1 h4.2.1) tcs_sp) (tcs_mark _)) tcs_sp) (tcs_htext _ _)) tcs_sp) (tcs_word hw))
  simp only [ByteArray.size_append]
  have s1 : (⟨#[32]⟩ : ByteArray).size = 1 := rfl
  omega
theorem adig_in (h : avalV kd mk a b s = true) : inB (adig kd mk a b s) 0 999982 = true := by
  rw [← adig_eq, digV_yes (atext_text h)]
  have := digTo_lt (atextV kd mk a b s) (atextV kd mk a b s).size
  exact inB_yes ⟨by omega, by omega⟩
/-! ### Digests -/
theorem seenTo_iff (zs : List Int) (n : Nat) : seenTo zs n = true ↔ ∀ k, k < n → seenAt zs k = true := by
  unfold seenTo
  rw [List.all_eq_true]
  simp [List.mem_range]
theorem seen_at (zs : List Int) {k : Nat} {x : Int} (h : zs[k]? = some x) : seenAt zs k = true ↔ inB x 0 999982 = true ∧ x ∉ zs.take k := by
  unfold seenAt
  rw [getD_of h]
  simp
theorem seen_snoc {d : Int} (h : seenTo zs zs.length = true) (hd : inB d 0 999982 = true) (hn : d ∉ zs) : seenTo (zs ++ [d]) (zs ++ [d]).length = true := by
  rw [seenTo_iff] at h ⊢
  intro k hk
  rw [List.length_append, List.length_singleton] at hk
  by_cases e : k = zs.length
  · subst e
    rw [seen_at (zs ++ [d]) (x := d) (by simp), List.take_left]
    exact ⟨hd, hn⟩
  · have hk' : k < zs.length := by omega
    have := h k hk'
    rw [seen_at zs (List.getElem?_eq_getElem hk')] at this
    rw [seen_at (zs ++ [d]) (x := zs[k]) (by rw [List.getElem?_append_left hk']; exact List.getElem?_eq_getElem hk'), List.take_append_of_le_length (by omega)]
    exact this
theorem seen_drop {ys : List Int} (h : seenTo ys ys.length = true) : seenTo (ys.drop 1) (ys.drop 1).length = true := by
  cases ys with
  | nil => exact h
  | cons y t =>
    rw [seenTo_iff] at h ⊢
    intro k hk
    have hk' : k < t.length := by simpa using hk
    have := h (k + 1) (by simpa using hk')
    rw [seen_at (y :: t) (x := t[k]) (by simp [List.getElem?_eq_getElem hk'])] at this
    rw [show (y :: t).drop 1 = t from rfl, seen_at t (List.getElem?_eq_getElem hk')]
    refine ⟨this.1, fun hm => this.2 ?_⟩
    rw [List.take_succ_cons]
    exact List.mem_cons_of_mem _ hm
/-! ### Followers -/
theorem fol_follow (h : folV xs = true) (x : Hd) : folV (followV xs x).1 = true := by
  cases h' : folV (insL xs x) with
  | true => rw [follow_yes h h']; exact h'
  | false => rw [follow_not h h']; exact h
theorem fol_unfollow (h : folV xs = true) (x : Hd) : folV (unfollowV xs x).1 = true := by
  rw [unfollow_yes h]
  obtain ⟨f1, f2, f3⟩ := folV_iff.1 h
  have hs : (remL xs x).Sublist xs := List.filter_sublist
  exact folV_iff.2 ⟨Nat.le_trans hs.length_le f1, fun y hy => f2 y (hs.subset hy), f3.sublist hs⟩
/-- What is left is valid. -/
theorem tk_valid (h1 : ibV xs zs = true) (h2 : avalV kd mk a b s = true) : ibV (tkF xs zs kd mk a b s) (tkZ xs zs kd mk a b s) = true := by
  obtain ⟨p1, p2, p3⟩ := ib_parts h1
  by_cases hd : adig kd mk a b s ∈ zs
  · rw [(tk_old h1 h2 hd).1, (tk_old h1 h2 hd).2.1]; exact h1
  · rw [(tk_new h1 h2 hd).1, (tk_new h1 h2 hd).2.1]
    have q1 : folV (if kd = 3 then (followV xs (a, b)).1 else if kd = 5 then (unfollowV xs (a, b)).1 else xs) = true := by
      split
      · exact fol_follow p1 _
      · split
        · exact fol_unfollow p1 _
        · exact p1
    have q2 := seen_snoc p3 (adig_in h2) hd
    refine ib_yes q1 ?_ ?_
    · split
      · rename_i hl; simp [hl]
      · simp; omega
    · split
      · exact seen_drop q2
      · exact q2
theorem tk_there (h1 : ibV xs zs = true) (h2 : avalV kd mk a b s = true) : adig kd mk a b s ∈ tkZ xs zs kd mk a b s := by
  by_cases hd : adig kd mk a b s ∈ zs
  · rw [(tk_old h1 h2 hd).2.1]; exact hd
  · rw [(tk_new h1 h2 hd).2.1]
    split
    · rename_i hl
      rw [List.drop_append_of_le_length (by omega)]
      simp
    · simp
/-- Taken again it changes nothing. -/
theorem tk_again (h1 : ibV xs zs = true) (h2 : avalV kd mk a b s = true) : tkF (tkF xs zs kd mk a b s) (tkZ xs zs kd mk a b s) kd mk a b s = tkF xs zs kd mk a b s ∧
    tkZ (tkF xs zs kd mk a b s) (tkZ xs zs kd mk a b s) kd mk a b s = tkZ xs zs kd mk a b s ∧ tkN (tkF xs zs kd mk a b s) (tkZ xs zs kd mk a b s) kd mk a b s = 0 :=
  tk_old (tk_valid h1 h2) h2 (tk_there h1 h2)
/-- All that the law asks. -/
theorem tk_law (xs : List Hd) (zs : List Int) (kd mk : Int) (a b s : ByteArray) :
    (tkN xs zs kd mk a b s = -1 ∧ tkF xs zs kd mk a b s = [] ∧ tkZ xs zs kd mk a b s = []) ∨
    ((tkN xs zs kd mk a b s = 1 ∨ tkN xs zs kd mk a b s = 0 ∧ tkF xs zs kd mk a b s = xs ∧ tkZ xs zs kd mk a b s = zs) ∧ ibV (tkF xs zs kd mk a b s) (tkZ xs zs kd mk a b s) = true ∧
      tkF (tkF xs zs kd mk a b s) (tkZ xs zs kd mk a b s) kd mk a b s = tkF xs zs kd mk a b s ∧ tkZ (tkF xs zs kd mk a b s) (tkZ xs zs kd mk a b s) kd mk a b s = tkZ xs zs kd mk a b s ∧ tkN (tkF xs zs kd mk a b s) (tkZ xs zs kd mk a b s) kd mk a b s = 0) := by
  by_cases h : ibV xs zs = true ∧ avalV kd mk a b s = true
  · refine .inr ⟨?_, tk_valid h.1 h.2, tk_again h.1 h.2⟩
    by_cases hd : adig kd mk a b s ∈ zs
    · obtain ⟨e1, e2, e3⟩ := tk_old h.1 h.2 hd
      exact .inr ⟨e3, e1, e2⟩
    · exact .inl (tk_new h.1 h.2 hd).2.2
  · obtain ⟨e1, e2, e3⟩ := tk_no h
    exact .inl ⟨e3, e1, e2⟩
end
end Go.Proofs.YtoagpfdhbcgdcaaDoor
