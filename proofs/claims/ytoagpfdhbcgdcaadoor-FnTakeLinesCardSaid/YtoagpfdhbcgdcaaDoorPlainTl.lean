/- The plain law of FnTakeLines: two parts of the lines lead to the same; what was read once is not new. -/
import Derived.Test.YtoagpfdhbcgdcaaDoorTlV
namespace Go.Proofs.YtoagpfdhbcgdcaaDoor
open Go.RowKit
set_option linter.unusedVariables false
set_option linter.unusedSimpArgs false
/-- A line's digest, if it can be read, lies among these. -/
def lineIn (l : ByteArray) (Z : List Int) : Prop := (raV l).2 = true → adig (raV l).1.1 (raV l).1.2.1 (raV l).1.2.2.1 (raV l).1.2.2.2.1 (raV l).1.2.2.2.2 ∈ Z
theorem step_old {st : TlSt} (h : ibV st.1 st.2.1 = true) {l : ByteArray} (hl : lineIn l st.2.1) : tlStep st l = st := by
  obtain ⟨F, Z, q⟩ := st
  unfold tlStep
  by_cases hr : (raV l).2 = true
  · rw [if_pos hr]
    obtain ⟨e1, e2, e3⟩ := tk_old h (ra_valid hr) (hl hr)
    simp only at e1 e2 e3 ⊢
    rw [e1, e2, e3, Int.add_zero]
  · rw [if_neg hr]
theorem fold_old : ∀ (ls : List ByteArray) (st : TlSt), ibV st.1 st.2.1 = true → (∀ l ∈ ls, lineIn l st.2.1) → ls.foldl tlStep st = st
  | [], st, _, _ => rfl
  | l :: ls, st, h, hl => by
    rw [List.foldl_cons, step_old h (hl l (List.mem_cons_self ..))]
    exact fold_old ls st h (fun x hx => hl x (List.mem_cons_of_mem _ hx))
theorem step_shift (F : List Hd) (Z : List Int) (q r : Int) (l : ByteArray) : tlStep (F, Z, q + r) l = ((tlStep (F, Z, r) l).1, (tlStep (F, Z, r) l).2.1, q + (tlStep (F, Z, r) l).2.2) := by
  unfold tlStep
  by_cases hr : (raV l).2 = true
  · rw [if_pos hr, if_pos hr]; simp only [Int.add_assoc]
  · rw [if_neg hr, if_neg hr]
theorem fold_shift : ∀ (ls : List ByteArray) (F : List Hd) (Z : List Int) (q r : Int), ls.foldl tlStep (F, Z, q + r) = ((ls.foldl tlStep (F, Z, r)).1, (ls.foldl tlStep (F, Z, r)).2.1, q + (ls.foldl tlStep (F, Z, r)).2.2)
  | [], F, Z, q, r => rfl
  | l :: ls, F, Z, q, r => by
    rw [List.foldl_cons, List.foldl_cons, step_shift]
    generalize tlStep (F, Z, r) l = st
    obtain ⟨F', Z', r'⟩ := st
    exact fold_shift ls F' Z' q r'
theorem fold_there : ∀ (ls : List ByteArray) (st : TlSt), ibV st.1 st.2.1 = true → (st.2.1.length : Int) + ((ls.foldl tlStep st).2.2 - st.2.2) ≤ 12 → (∀ d ∈ st.2.1, d ∈ (ls.foldl tlStep st).2.1) ∧ ∀ l ∈ ls, lineIn l (ls.foldl tlStep st).2.1
  | [], st, _, _ => ⟨fun d h => h, fun l h => by cases h⟩
  | l :: ls, st, h, hlen => by
    have hs := step_inv h l
    have hf := fold_inv ls (tlStep st l) hs.1
    rw [List.foldl_cons] at hlen ⊢
    by_cases hr : (raV l).2 = true
    · by_cases hd : adig (raV l).1.1 (raV l).1.2.1 (raV l).1.2.2.1 (raV l).1.2.2.2.1 (raV l).1.2.2.2.2 ∈ st.2.1
      · have e := step_old h (l := l) (fun _ => hd)
        rw [e] at hlen ⊢
        obtain ⟨h1, h2⟩ := fold_there ls st h hlen
        refine ⟨h1, fun x hx => ?_⟩
        rcases List.mem_cons.1 hx with rfl | hx
        · exact fun _ => h1 _ hd
        · exact h2 x hx
      · obtain ⟨F, Z, q⟩ := st
        obtain ⟨_, e2, e3⟩ := tk_new h (ra_valid hr) hd
        simp only at e2 e3 hlen hd
        have s2 : (tlStep (F, Z, q) l).2.1 = tkZ F Z (raV l).1.1 (raV l).1.2.1 (raV l).1.2.2.1 (raV l).1.2.2.2.1 (raV l).1.2.2.2.2 := by unfold tlStep; rw [if_pos hr]
        have s3 : (tlStep (F, Z, q) l).2.2 = q + 1 := by unfold tlStep; rw [if_pos hr]; simp only [e3]
        have h12 : Z.length ≠ 12 := by
          have h5 := hf.2.1
          rw [s3] at h5
          intro e
          rw [e] at hlen
          push_cast at hlen
          omega
        rw [if_neg h12] at e2
        rw [e2] at s2
        obtain ⟨h1, h2⟩ := fold_there ls (tlStep (F, Z, q) l) hs.1 (by rw [s2, s3, List.length_append, List.length_singleton]; push_cast; omega)
        rw [s2] at h1
        refine ⟨fun d hd' => h1 d (List.mem_append_left _ hd'), fun x hx => ?_⟩
        rcases List.mem_cons.1 hx with rfl | hx
        · exact fun _ => h1 _ (List.mem_append_right _ (List.mem_singleton.2 rfl))
        · exact h2 x hx
    · have e : tlStep st l = st := by unfold tlStep; rw [if_neg hr]
      rw [e] at hlen ⊢
      obtain ⟨h1, h2⟩ := fold_there ls st h hlen
      refine ⟨h1, fun x hx => ?_⟩
      rcases List.mem_cons.1 hx with rfl | hx
      · exact fun hr' => absurd hr' hr
      · exact h2 x hx
theorem tl_fold {xs : List Hd} {zs : List Int} {ls : List ByteArray} (h : ibV xs zs = true) (hl : ls.length ≤ 30) : tlV xs zs ls = ls.foldl tlStep (xs, zs, 0) := by unfold tlV; rw [if_pos ⟨h, hl⟩]
/-- All that the law asks. -/
theorem tl_law (xs : List Hd) (zs : List Int) (ls : List ByteArray) (k : Nat) :
    ((tlV xs zs ls).2.2 = -1 ∧ (tlV xs zs ls).1 = [] ∧ (tlV xs zs ls).2.1 = []) ∨
    (0 ≤ (tlV xs zs ls).2.2 ∧ (tlV xs zs ls).2.2 ≤ 30 ∧ ibV (tlV xs zs ls).1 (tlV xs zs ls).2.1 = true ∧ ibV (tlV xs zs (ls.take k)).1 (tlV xs zs (ls.take k)).2.1 = true ∧
      (tlV (tlV xs zs (ls.take k)).1 (tlV xs zs (ls.take k)).2.1 (ls.drop k)).1 = (tlV xs zs ls).1 ∧
      (tlV (tlV xs zs (ls.take k)).1 (tlV xs zs (ls.take k)).2.1 (ls.drop k)).2.1 = (tlV xs zs ls).2.1 ∧
      (tlV xs zs (ls.take k)).2.2 + (tlV (tlV xs zs (ls.take k)).1 (tlV xs zs (ls.take k)).2.1 (ls.drop k)).2.2 = (tlV xs zs ls).2.2 ∧
      (12 < (zs.length : Int) + (tlV xs zs ls).2.2 ∨ (tlV (tlV xs zs ls).1 (tlV xs zs ls).2.1 ls).2.2 = 0)) := by
  by_cases h : ibV xs zs = true
  · by_cases hl : ls.length ≤ 30
    · have ht : (ls.take k).length ≤ 30 := by simp; omega
      have hd : (ls.drop k).length ≤ 30 := by simp; omega
      have iv := fold_inv ls (xs, zs, 0) h
      have it := fold_inv (ls.take k) (xs, zs, 0) h
      rw [tl_fold h hl, tl_fold h ht, tl_fold it.1 hd, tl_fold iv.1 hl]
      have hcat : ls.foldl tlStep (xs, zs, 0) = (ls.drop k).foldl tlStep ((ls.take k).foldl tlStep (xs, zs, 0)) := by
        rw [← List.foldl_append, List.take_append_drop]
      have hsh := fold_shift (ls.drop k) ((ls.take k).foldl tlStep (xs, zs, 0)).1 ((ls.take k).foldl tlStep (xs, zs, 0)).2.1 ((ls.take k).foldl tlStep (xs, zs, 0)).2.2 0
      rw [Int.add_zero] at hsh
      have hcat2 := hcat.trans hsh
      refine .inr ⟨iv.2.1, ?_, iv.1, it.1, ?_, ?_, ?_, ?_⟩
      · have h3 := iv.2.2
        simp only at h3
        omega
      · rw [hcat2]
      · rw [hcat2]
      · rw [hcat2]
      · by_cases h12 : 12 < (zs.length : Int) + (ls.foldl tlStep (xs, zs, 0)).2.2
        · exact .inl h12
        · refine .inr ?_
          obtain ⟨_, h2⟩ := fold_there ls (xs, zs, 0) h (by simp only; omega)
          rw [fold_old ls ((ls.foldl tlStep (xs, zs, 0)).1, (ls.foldl tlStep (xs, zs, 0)).2.1, 0) iv.1 h2]
    · rw [tl_no2 hl]; exact .inl ⟨rfl, rfl, rfl⟩
  · rw [tl_no1 (by simpa using h)]; exact .inl ⟨rfl, rfl, rfl⟩
end Go.Proofs.YtoagpfdhbcgdcaaDoor
