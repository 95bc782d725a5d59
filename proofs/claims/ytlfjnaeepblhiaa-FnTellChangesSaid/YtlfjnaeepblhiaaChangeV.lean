/- What NewItems, ChangedItems and GoneKeys come to. -/
import Derived.Test.YtlfjnaeepblhiaaFeedS
namespace Go.Proofs.Ytlfjnaeepblhiaa
open Go.RowKit
set_option linter.unusedVariables false
set_option linter.unusedSimpArgs false
def isNew (xs : List Im) (x : Im) : Bool := !hasI xs x.1
/-- Whether a feed has the key with another item. -/
def isCh (xs : List Im) (x : Im) : Bool := decide (0 ≤ numV xs x.1) && !decide (xs.getD (numV xs x.1).toNat default = x)
def newTo (xs ys : List Im) (k : Nat) : List Im := (ys.take k).filter (isNew xs)
def chTo (xs ys : List Im) (k : Nat) : List Im := (ys.take k).filter (isCh xs)
@[irreducible] def newV (xs ys : List Im) : List Im := if fdV xs = true ∧ fdV ys = true then ys.filter (isNew xs) else []
@[irreducible] def chV (xs ys : List Im) : List Im := if fdV xs = true ∧ fdV ys = true then ys.filter (isCh xs) else []
@[irreducible] def goneV (xs ys : List Im) : List ByteArray := keysOf (newV ys xs)
section
variable {xs ys : List Im} {k : Nat} {x : Im}
theorem newTo_yes (h : ys[k]? = some x) (hx : isNew xs x = true) : newTo xs ys (k + 1) = newTo xs ys k ++ [x] := by
  unfold newTo; rw [List.take_add_one, h, List.filter_append]; simp [hx]
theorem newTo_no (h : ys[k]? = some x) (hx : isNew xs x = false) : newTo xs ys (k + 1) = newTo xs ys k := by
  unfold newTo; rw [List.take_add_one, h, List.filter_append]; simp [hx]
theorem chTo_yes (h : ys[k]? = some x) (hx : isCh xs x = true) : chTo xs ys (k + 1) = chTo xs ys k ++ [x] := by
  unfold chTo; rw [List.take_add_one, h, List.filter_append]; simp [hx]
theorem chTo_no (h : ys[k]? = some x) (hx : isCh xs x = false) : chTo xs ys (k + 1) = chTo xs ys k := by
  unfold chTo; rw [List.take_add_one, h, List.filter_append]; simp [hx]
theorem new_no (h : ¬ (fdV xs = true ∧ fdV ys = true)) : newV xs ys = [] := by unfold newV; rw [if_neg h]
theorem ch_no (h : ¬ (fdV xs = true ∧ fdV ys = true)) : chV xs ys = [] := by unfold chV; rw [if_neg h]
theorem new_yes (h : fdV xs = true ∧ fdV ys = true) : newV xs ys = newTo xs ys ys.length := by unfold newV newTo; rw [if_pos h, List.take_length]
theorem ch_yes (h : fdV xs = true ∧ fdV ys = true) : chV xs ys = chTo xs ys ys.length := by unfold chV chTo; rw [if_pos h, List.take_length]
theorem isNew_num : isNew xs x = decide (numV xs x.1 < 0) := by
  unfold isNew
  cases h : hasI xs x.1 with
  | true => have := mt (num_neg xs x.1).1 (fun hn => hn (hasI_iff.1 h)); rw [decide_eq_false this]; rfl
  | false => rw [decide_eq_true ((num_neg xs x.1).2 (hasI_not.1 h))]; rfl
theorem isCh_no {k : ByteArray} {a b s : ByteArray} {d : Int} (h : numV xs a < 0) : isCh xs (a, b, s, d) = false := by unfold isCh; rw [decide_eq_false (by show ¬ 0 ≤ numV xs a; omega)]; rfl
theorem isCh_at {a b s a' b' s' : ByteArray} {d d' : Int} {j : Nat} (h : numV xs a = j) (hy : xs[j]? = some (a', b', s', d')) : isCh xs (a, b, s, d) = !imQ a' b' s' d' a b s d := by
  unfold isCh imQ
  simp only
  rw [h, Int.toNat_natCast, List.getD_eq_getElem?_getD, hy, decide_eq_true (show (0 : Int) ≤ (j : Int) by omega)]
  rfl
end
end Go.Proofs.Ytlfjnaeepblhiaa
