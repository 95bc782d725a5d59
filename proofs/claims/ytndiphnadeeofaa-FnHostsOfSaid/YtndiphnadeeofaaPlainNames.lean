/- The plain law: who is named at a host follows, and the names rise. -/
import Derived.Test.YtndiphnadeeofaaPlainFol2
namespace Go.Proofs.Ytndiphnadeeofaa
open Go.RowKit
set_option linter.unusedVariables false
theorem less_self (a : ByteArray) : Op.bytesLess a.toList a.toList = false := by
  rw [Bool.eq_false_iff]
  intro h
  have := bef_irrefl ((⟨#[]⟩ : ByteArray), a)
  rw [bef_iff.2 (.inl h)] at this; cases this
theorem less_flip {a b : ByteArray} (h : Op.bytesLess a.toList b.toList = true) : Op.bytesLess b.toList a.toList = false ∧ (b.toList == a.toList) = false := by
  refine ⟨?_, ?_⟩
  · rw [Bool.eq_false_iff]
    intro h'
    have := less_trans h h'
    rw [less_self] at this; cases this
  · rw [Bool.eq_false_iff]
    intro h'
    rw [eq_of_beq h', less_self] at h; cases h
theorem names_law (ys : List Hd) (s : ByteArray) : ∀ k x, (namesV ys s)[k]? = some x → (unfollowV ys (x, s)).2 = true ∧ ∀ x', 0 < k → (namesV ys s)[k - 1]? = some x' → Op.bytesLess x'.toList x.toList = true := by
  cases h : folV ys with
  | false => rw [namesV_no h]; intro k x hx; simp at hx
  | true =>
    rw [namesV_yes h]
    obtain ⟨f1, f2, f3⟩ := folV_iff.1 h
    have hp : (namesL ys s).Pairwise (fun a b => Op.bytesLess a.toList b.toList = true) := by
      unfold namesL
      rw [List.pairwise_map]
      refine List.Pairwise.imp_of_mem ?_ (f3.sublist List.filter_sublist)
      intro x y hx hy hb
      have ex : x.2.toList = s.toList := eq_of_beq (List.mem_filter.1 hx).2
      have ey : y.2.toList = s.toList := eq_of_beq (List.mem_filter.1 hy).2
      rcases bef_iff.1 hb with h1 | h1
      · exfalso
        have hb' : bef ((⟨#[]⟩ : ByteArray), x.2) (⟨#[]⟩, y.2) = true := bef_iff.2 (.inl h1)
        have e2 : x.2 = y.2 := toList_inj (ex.trans ey.symm)
        rw [e2, bef_irrefl] at hb'; cases hb'
      · exact h1.2
    intro k x hx
    refine ⟨?_, ?_⟩
    · rw [unfollow_yes h]
      have hm := List.mem_of_getElem? hx
      unfold namesL at hm
      obtain ⟨⟨a, b⟩, hm1, rfl⟩ := List.mem_map.1 hm
      obtain ⟨hm2, e⟩ := List.mem_filter.1 hm1
      have e' : b = s := toList_inj (eq_of_beq e)
      subst e'
      exact hasL_iff.2 hm2
    · intro x' hk hx'
      obtain ⟨l1, e1⟩ := List.getElem?_eq_some_iff.1 hx
      obtain ⟨l2, e2⟩ := List.getElem?_eq_some_iff.1 hx'
      rw [← e1, ← e2]
      exact List.pairwise_iff_getElem.1 hp _ _ l2 l1 (by omega)
theorem namesV_ten (ys : List Hd) (s : ByteArray) : (namesV ys s).length ≤ 10 := by
  cases h : folV ys with
  | false => rw [namesV_no h]; simp
  | true => rw [namesV_yes h]; exact Nat.le_trans (namesL_le _ _) (folV_len h)
end Go.Proofs.Ytndiphnadeeofaa
