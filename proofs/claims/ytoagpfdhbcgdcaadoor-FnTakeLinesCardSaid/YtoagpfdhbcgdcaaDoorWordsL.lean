/- The words of a line, plainly: what strings.Split comes to. -/
import Derived.Test.YtoagpfdhbcgdcaaDoorShelf
import Derived.Test.YtoagpfdhbcgdcaaDoorRdMark
namespace Go.Proofs.YtoagpfdhbcgdcaaDoor
open Go.RowKit Go.Lib
set_option linter.unusedVariables false
set_option linter.unusedSimpArgs false
def spL : List UInt8 → List (List UInt8)
  | [] => [[]]
  | c :: t => if c = 32 then [] :: spL t else match spL t with
    | [] => [[c]]
    | x :: xs => (c :: x) :: xs
theorem spL_ne : ∀ l, spL l ≠ []
  | [] => by simp [spL]
  | c :: t => by
    unfold spL
    split
    · simp
    · split <;> simp
theorem spL_cons {c : UInt8} {t : List UInt8} {x : List UInt8} {xs : List (List UInt8)} (h : c ≠ 32) (e : spL t = x :: xs) : spL (c :: t) = (c :: x) :: xs := by
  rw [spL, if_neg h, e]
theorem splitK_sp : ∀ l : List UInt8, splitK [32] 0 (count l [32]) l = spL l
  | [] => by
    have e : index [] [32] = -1 := by unfold index; rfl
    rw [count_miss e]
    rfl
  | b :: l => by
    have ih := splitK_sp l
    by_cases hb : b = 32
    · subst hb
      have e : index (32 :: l) [32] = ((0 : Nat) : Int) := by unfold index; simp [List.isPrefixOf]
      rw [count_hit (by simp) e, Nat.add_comm, splitK]
      rw [show (index (32 :: l) [32] == -1) = false by rw [e]; rfl]
      rw [e]
      show [] :: splitK [32] 0 (count l [32]) l = spL (32 :: l)
      rw [ih, spL, if_pos rfl]
    · have hp : List.isPrefixOf [32] (b :: l) = false := by simp [List.isPrefixOf]; exact fun e => hb e.symm
      rcases index_spec l [32] with ⟨e, _⟩ | ⟨i, e, _⟩
      · have e2 : index (b :: l) [32] = -1 := by unfold index; rw [hp, e]; rfl
        rw [count_miss e] at ih
        rw [count_miss e2]
        have ih' : spL l = [l] := ih.symm
        rw [spL_cons hb ih']
        rfl
      · have e2 : index (b :: l) [32] = ((i + 1 : Nat) : Int) := by
          unfold index
          rw [hp, e]
          have : ((i : Int) == -1) = false := by rw [beq_eq_false_iff_ne]; omega
          rw [this]
          simp
        rw [count_hit (by simp) e, Nat.add_comm, splitK, show (index l [32] == -1) = false by rw [e, beq_eq_false_iff_ne]; omega, e] at ih
        rw [count_hit (by simp) e2, Nat.add_comm, splitK, show (index (b :: l) [32] == -1) = false by rw [e2, beq_eq_false_iff_ne]; omega, e2]
        simp only [Bool.false_eq_true, if_false, Int.toNat_natCast, List.length_singleton, Nat.add_zero] at ih ⊢
        rw [spL_cons hb ih.symm]
        rfl
theorem words_list (s : ByteArray) : (wordsV s).map (·.data.toList) = spL s.data.toList := by
  rw [wordsV_eq, splitB_data]
  exact splitK_sp _
theorem spL_space (l : List UInt8) : spL (l ++ [32]) = spL l ++ [[]] := by
  induction l with
  | nil => rfl
  | cons b l ih =>
    by_cases hb : b = 32
    · subst hb
      rw [List.cons_append, spL, if_pos rfl, ih, spL, if_pos rfl]; rfl
    · obtain ⟨x, xs, e⟩ : ∃ x xs, spL l = x :: xs := by
        cases h : spL l with
        | nil => exact absurd h (spL_ne l)
        | cons x xs => exact ⟨x, xs, rfl⟩
      rw [e] at ih
      rw [List.cons_append, spL_cons hb ih, spL_cons hb e]; rfl
theorem spL_more (l : List UInt8) {c : UInt8} (h : c ≠ 32) : ∃ us x, spL l = us ++ [x] ∧ spL (l ++ [c]) = us ++ [x ++ [c]] := by
  induction l with
  | nil => exact ⟨[], [], rfl, by rw [List.nil_append, spL_cons h (show spL [] = [] :: [] from rfl)]; rfl⟩
  | cons b l ih =>
    obtain ⟨us, x, e1, e2⟩ := ih
    by_cases hb : b = 32
    · subst hb
      exact ⟨[] :: us, x, by rw [spL, if_pos rfl, e1]; rfl, by rw [List.cons_append, spL, if_pos rfl, e2]; rfl⟩
    · cases us with
      | nil => exact ⟨[], b :: x, by rw [spL_cons hb e1]; rfl, by rw [List.cons_append, spL_cons hb e2]; rfl⟩
      | cons u us => exact ⟨(b :: u) :: us, x, by rw [spL_cons hb e1]; rfl, by rw [List.cons_append, spL_cons hb e2]; rfl⟩
/-- The words of the first k bytes. -/
@[irreducible] def wL (s : ByteArray) (k : Nat) : List ByteArray := (spL (s.data.toList.take k)).map fun l => ⟨l.toArray⟩
theorem wL_eq (s : ByteArray) (k : Nat) : wL s k = (spL (s.data.toList.take k)).map fun l => ⟨l.toArray⟩ := by unfold wL; rfl
theorem wL_zero (s : ByteArray) : wL s 0 = [⟨#[]⟩] := by rw [wL_eq]; rfl
theorem wL_end (s : ByteArray) : wL s s.size = wordsV s := by
  rw [wL_eq, List.take_of_length_le (by simp), ← words_list, List.map_map]
  exact List.map_id' _
theorem wL_space {s : ByteArray} {k : Nat} (h : k < s.size) (hc : s[k] = 32) : wL s (k + 1) = wL s k ++ [⟨#[]⟩] := by
  rw [wL_eq, wL_eq, take_snoc h, hc, spL_space, List.map_append]; rfl
theorem ext_one {s : ByteArray} {k : Nat} (h : k < s.size) : s.extract k (k + 1) = ⟨#[s[k]]⟩ := by
  apply ba_list
  rw [show (s.extract k (k + 1)).data.toList = (s.data.toList.take (k + 1)).drop k by rw [ByteArray.data_extract, Array.toList_extract, List.extract_eq_take_drop, List.drop_take]]
  rw [take_snoc h, List.drop_append_of_le_length (by simp; omega), List.drop_of_length_le (by simp; omega)]
  rfl
theorem wL_more {s : ByteArray} {k : Nat} (h : k < s.size) (hc : s[k] ≠ 32) : ∃ us x, wL s k = us ++ [x] ∧ wL s (k + 1) = us ++ [x ++ s.extract k (k + 1)] := by
  obtain ⟨us, x, e1, e2⟩ := spL_more (s.data.toList.take k) hc
  refine ⟨us.map fun l => ⟨l.toArray⟩, ⟨x.toArray⟩, by rw [wL_eq, e1, List.map_append]; rfl, ?_⟩
  rw [wL_eq, take_snoc h, e2, List.map_append, ext_one h]
  have e3 : (⟨(x ++ [s[k]]).toArray⟩ : ByteArray) = ⟨x.toArray⟩ ++ ⟨#[s[k]]⟩ := by apply ba_list; simp
  show _ ++ [(⟨(x ++ [s[k]]).toArray⟩ : ByteArray)] = _
  rw [e3]
theorem wL_len (s : ByteArray) (k : Nat) : 1 ≤ (wL s k).length ∧ (wL s k).length ≤ k + 1 := by
  have H : ∀ l, 1 ≤ (spL l).length ∧ (spL l).length ≤ l.length + 1 := by
    intro l
    induction l with
    | nil => exact ⟨Nat.le_refl _, Nat.le_refl _⟩
    | cons b l ih =>
      rw [spL]
      split
      · simp only [List.length_cons]; omega
      · cases h : spL l with
        | nil => exact absurd h (spL_ne l)
        | cons x xs => rw [h] at ih; simp only [List.length_cons] at ih ⊢; omega
  rw [wL_eq, List.length_map]
  have := H (s.data.toList.take k)
  have h2 : (s.data.toList.take k).length ≤ k := by simp; omega
  omega
theorem wL_size {s : ByteArray} {k : Nat} {x : ByteArray} (hx : x ∈ wL s k) : x.size ≤ s.size := by
  have H : ∀ l x, x ∈ spL l → x.length ≤ l.length := by
    intro l
    induction l with
    | nil => intro x hx; simp [spL] at hx; subst hx; simp
    | cons b l ih =>
      intro x hx
      rw [spL] at hx
      split at hx
      · rw [List.mem_cons] at hx
        rcases hx with rfl | hx
        · simp
        · have := ih x hx; simp only [List.length_cons]; omega
      · cases h : spL l with
        | nil => exact absurd h (spL_ne l)
        | cons y ys =>
          rw [h] at hx
          simp only [List.mem_cons] at hx
          rcases hx with rfl | hx
          · have := ih y (by rw [h]; simp); simp only [List.length_cons]; omega
          · have := ih x (by rw [h]; simp [hx]); simp only [List.length_cons]; omega
  rw [wL_eq] at hx
  obtain ⟨l, hl, rfl⟩ := List.mem_map.1 hx
  have h1 := H _ _ hl
  have h2 : (s.data.toList.take k).length ≤ s.size := by simp; omega
  have h3 : (⟨l.toArray⟩ : ByteArray).size = l.length := by simp [ByteArray.size]
  omega
theorem words_size {s x : ByteArray} (hx : x ∈ wordsV s) : x.size ≤ s.size := by rw [← wL_end] at hx; exact wL_size hx
end Go.Proofs.YtoagpfdhbcgdcaaDoor
