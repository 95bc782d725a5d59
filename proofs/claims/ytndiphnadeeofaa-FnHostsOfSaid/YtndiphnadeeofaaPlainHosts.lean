/- The plain law: the hosts rise, each has a follower, and together they have all of them. -/
import Derived.Test.YtndiphnadeeofaaPlainNames
namespace Go.Proofs.Ytndiphnadeeofaa
open Go.RowKit
set_option linter.unusedVariables false
theorem hosts_mem {xs : List Hd} : ∀ i, i < xs.length → (xs.getD i default).2 ∈ hostsTo xs xs.length := by
  intro i
  induction i with
  | zero => intro hi; unfold hostsTo; exact List.mem_map.2 ⟨0, List.mem_filter.2 ⟨List.mem_range.2 hi, hostAt_0 xs⟩, rfl⟩
  | succ i ih =>
    intro hi
    cases e : hostAt xs (i + 1) with
    | true => unfold hostsTo; exact List.mem_map.2 ⟨i + 1, List.mem_filter.2 ⟨List.mem_range.2 hi, e⟩, rfl⟩
    | false =>
      have h1 := ih (by omega)
      have e' : ((xs.getD (i + 1 - 1) default).2.toList == (xs.getD (i + 1) default).2.toList) = true := by
        cases hq : ((xs.getD (i + 1 - 1) default).2.toList == (xs.getD (i + 1) default).2.toList) with
        | true => rfl
        | false => unfold hostAt at e; rw [hq] at e; simp at e
      have h2 : (xs.getD i default).2 = (xs.getD (i + 1) default).2 := toList_inj (eq_of_beq e')
      rw [← h2]; exact h1
theorem hosts_rise {xs : List Hd} (h3 : xs.Pairwise (fun x y => bef x y = true)) : (hostsTo xs xs.length).Pairwise (fun a b => Op.bytesLess a.toList b.toList = true) := by
  have g : ∀ i (hi : i < xs.length), xs.getD i default = xs[i] := fun i hi => getD_of (List.getElem?_eq_getElem hi)
  have key : ∀ i j, i < j → j < xs.length → Op.bytesLess (xs.getD i default).2.toList (xs.getD j default).2.toList = true ∨ (xs.getD i default).2.toList = (xs.getD j default).2.toList := by
    intro i j hij hj
    rw [g i (by omega), g j hj]
    rcases bef_iff.1 (List.pairwise_iff_getElem.1 h3 i j (by omega) hj hij) with h | h
    · exact .inl h
    · exact .inr h.1
  unfold hostsTo
  rw [List.pairwise_map]
  refine List.Pairwise.imp_of_mem ?_ (List.pairwise_lt_range.sublist List.filter_sublist)
  intro i j hi hj hlt
  have hj1 : j < xs.length := List.mem_range.1 (List.mem_filter.1 hj).1
  have hj2 : hostAt xs j = true := (List.mem_filter.1 hj).2
  have hs : Op.bytesLess (xs.getD (j - 1) default).2.toList (xs.getD j default).2.toList = true := by
    rcases key (j - 1) j (by omega) hj1 with h | h
    · exact h
    · exfalso
      unfold hostAt at hj2
      rw [h] at hj2
      simp at hj2
      omega
  rcases Nat.lt_or_ge i (j - 1) with h | h
  · rcases key i (j - 1) h (by omega) with h' | h'
    · exact less_trans h' hs
    · rw [h']; exact hs
  · obtain rfl : i = j - 1 := by omega
    exact hs
def cntL (xs : List Hd) (h : ByteArray) : Nat := (namesL xs h).length
theorem cnt_cons (x : Hd) (xs : List Hd) (h : ByteArray) : cntL (x :: xs) h = (x.2.toList == h.toList).toNat + cntL xs h := by
  unfold cntL namesL
  rw [List.filter_cons]
  cases e : (x.2.toList == h.toList) <;> simp <;> omega
theorem sum_add (H : List ByteArray) (f g : ByteArray → Nat) : (H.map fun h => f h + g h).sum = (H.map f).sum + (H.map g).sum := by
  induction H with
  | nil => rfl
  | cons c H ih => simp only [List.map_cons, List.sum_cons, ih]; omega
theorem sum_zero (H : List ByteArray) (f : ByteArray → Nat) (h : ∀ x ∈ H, f x = 0) : (H.map f).sum = 0 := by
  induction H with
  | nil => rfl
  | cons c H ih => simp only [List.map_cons, List.sum_cons, h c (by simp), ih (fun x hx => h x (by simp [hx]))]
theorem sum_one (b : ByteArray) : ∀ H : List ByteArray, H.Pairwise (fun a b => Op.bytesLess a.toList b.toList = true) → b ∈ H → (H.map fun h => (b.toList == h.toList).toNat).sum = 1 := by
  intro H
  induction H with
  | nil => intro _ h; cases h
  | cons c H ih =>
    intro hp hb
    obtain ⟨p1, p2⟩ := List.pairwise_cons.1 hp
    simp only [List.map_cons, List.sum_cons]
    by_cases e : b = c
    · subst e
      rw [sum_zero H _ (fun x hx => by rw [show (b.toList == x.toList) = false from by rw [Bool.eq_false_iff]; intro h'; have := p1 x hx; rw [eq_of_beq h', less_self] at this; cases this]; rfl)]
      simp
    · have hb' : b ∈ H := by
        rcases List.mem_cons.1 hb with h | h
        · exact absurd h e
        · exact h
      rw [ih p2 hb', bytes_ne e]
      rfl
theorem sum_count (H : List ByteArray) (hn : H.Pairwise (fun a b => Op.bytesLess a.toList b.toList = true)) : ∀ xs : List Hd, (∀ x ∈ xs, x.2 ∈ H) → (H.map (cntL xs)).sum = xs.length := by
  intro xs
  induction xs with
  | nil => intro _; exact sum_zero H _ (fun x _ => rfl)
  | cons x xs ih =>
    intro hm
    have h1 : H.map (cntL (x :: xs)) = H.map (fun h => (x.2.toList == h.toList).toNat + cntL xs h) := by
      congr 1; funext h; exact cnt_cons x xs h
    rw [h1, sum_add, sum_one _ _ hn (hm x (by simp)), ih (fun y hy => hm y (by simp [hy]))]
    simp; omega
def sumTo (H : List ByteArray) (c : ByteArray → Nat) (k : Nat) : Nat := ((H.take k).map c).sum
theorem sumTo_succ {H : List ByteArray} {c : ByteArray → Nat} {k : Nat} {x : ByteArray} (h : H[k]? = some x) : sumTo H c (k + 1) = sumTo H c k + c x := by
  unfold sumTo
  rw [List.take_add_one, h, List.map_append, List.sum_append]
  simp
theorem hosts_law {ys : List Hd} (h : folV ys = true) :
    (∀ k x, (hostsV ys)[k]? = some x → 0 < (namesV ys x).length ∧ ∀ x', 0 < k → (hostsV ys)[k - 1]? = some x' → Op.bytesLess x'.toList x.toList = true) ∧
    sumTo (hostsV ys) (fun x => (namesV ys x).length) (hostsV ys).length = ys.length := by
  obtain ⟨f1, f2, f3⟩ := folV_iff.1 h
  have hp := hosts_rise f3
  rw [hostsV_yes h]
  refine ⟨fun k x hx => ⟨?_, fun x' hk hx' => ?_⟩, ?_⟩
  · rw [namesV_yes h]
    have hm := List.mem_of_getElem? hx
    unfold hostsTo at hm
    obtain ⟨j, hj, rfl⟩ := List.mem_map.1 hm
    have hj1 : j < ys.length := List.mem_range.1 (List.mem_filter.1 hj).1
    rw [show ys.getD j default = ys[j] from getD_of (List.getElem?_eq_getElem hj1)]
    exact List.length_pos_of_mem (a := ys[j].1) (by unfold namesL; exact List.mem_map.2 ⟨ys[j], List.mem_filter.2 ⟨List.getElem_mem hj1, beq_self_eq_true _⟩, rfl⟩)
  · obtain ⟨l1, e1⟩ := List.getElem?_eq_some_iff.1 hx
    obtain ⟨l2, e2⟩ := List.getElem?_eq_some_iff.1 hx'
    rw [← e1, ← e2]
    exact List.pairwise_iff_getElem.1 hp _ _ l2 l1 (by omega)
  · unfold sumTo
    rw [List.take_length]
    have hc : (fun x => (namesV ys x).length) = cntL ys := by funext x; unfold cntL; rw [namesV_yes h]
    rw [hc]
    refine sum_count _ hp ys (fun x hx => ?_)
    obtain ⟨i, hi, rfl⟩ := List.getElem_of_mem hx
    have := hosts_mem i hi
    rwa [show ys.getD i default = ys[i] from getD_of (List.getElem?_eq_getElem hi)] at this
theorem hostsV_ten (ys : List Hd) : (hostsV ys).length ≤ 10 := by
  cases h : folV ys with
  | false => rw [hostsV_no h]; simp
  | true => rw [hostsV_yes h]; exact Nat.le_trans (hostsTo_le _ _) (folV_len h)
end Go.Proofs.Ytndiphnadeeofaa
