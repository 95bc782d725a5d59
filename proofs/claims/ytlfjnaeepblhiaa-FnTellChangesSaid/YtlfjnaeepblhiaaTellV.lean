/- What TellChanges comes to. -/
import Derived.Test.YtlfjnaeepblhiaaChangeV
import Derived.Test.YtlfjnaeepblhiaaActivitys
namespace Go.Proofs.Ytlfjnaeepblhiaa
open Go.RowKit
set_option linter.unusedVariables false
set_option linter.unusedSimpArgs false
abbrev Told := Int × ByteArray
/-- The activities for told changes, numbered. -/
def numT (m : Int) (a b : ByteArray) : Nat → List Told → List Ac
  | _, [] => []
  | i, t :: ts => (t.1, m + i, a, b, t.2) :: numT m a b (i + 1) ts
theorem numT_app (m : Int) (a b : ByteArray) (i : Nat) (ts us : List Told) : numT m a b i (ts ++ us) = numT m a b i ts ++ numT m a b (i + ts.length) us := by
  induction ts generalizing i with
  | nil => rfl
  | cons t ts ih => rw [List.cons_append, numT, numT, ih, List.cons_append, List.length_cons, show i + 1 + ts.length = i + (ts.length + 1) by omega]
theorem numT_len (m : Int) (a b : ByteArray) (i : Nat) (ts : List Told) : (numT m a b i ts).length = ts.length := by
  induction ts generalizing i with
  | nil => rfl
  | cons t ts ih => rw [numT, List.length_cons, List.length_cons, ih]
theorem numT_snoc (m : Int) (a b : ByteArray) (ts : List Told) (t : Told) : numT m a b 0 (ts ++ [t]) = numT m a b 0 ts ++ [(t.1, m + ts.length, a, b, t.2)] := by
  rw [numT_app, Nat.zero_add]; rfl
theorem numT_at {m : Int} {a b : ByteArray} {i j : Nat} {ts : List Told} {t : Told} (h : ts[j]? = some t) : (numT m a b i ts)[j]? = some (t.1, m + (i + j : Nat), a, b, t.2) := by
  induction ts generalizing i j with
  | nil => simp at h
  | cons u ts ih =>
    cases j with
    | zero => simp at h; subst h; rfl
    | succ j =>
      rw [numT, List.getElem?_cons_succ]
      rw [List.getElem?_cons_succ] at h
      rw [ih h, show i + 1 + j = i + (j + 1) by omega]
/-- One kind for all keys. -/
def ofKind (k : Int) (ks : List ByteArray) : List Told := ks.map fun s => (k, s)
@[irreducible] def toldV (xs ys : List Im) : List Told := ofKind 0 (keysOf (newV xs ys)) ++ ofKind 1 (keysOf (chV xs ys)) ++ ofKind 2 (goneV xs ys)
def tellOk (a b : ByteArray) (m : Int) (xs ys : List Im) : Bool := hvalV a b && (inB m 0 1000000 && (fdV xs && fdV ys))
/-- What TellChanges returns. -/
@[irreducible] def tellV (a b : ByteArray) (m : Int) (xs ys : List Im) : List Ac := if tellOk a b m xs ys = true then numT m a b 0 (toldV xs ys) else []
section
variable {a b : ByteArray} {m : Int} {xs ys : List Im}
theorem tell_no1 (h : hvalV a b = false) : tellV a b m xs ys = [] := by unfold tellV tellOk; rw [h]; rfl
theorem tell_no2 (h : inB m 0 1000000 = false) : tellV a b m xs ys = [] := by unfold tellV tellOk; rw [h]; simp
theorem tell_no3 (h : fdV xs = false) : tellV a b m xs ys = [] := by unfold tellV tellOk; rw [h]; simp
theorem tell_no4 (h : fdV ys = false) : tellV a b m xs ys = [] := by unfold tellV tellOk; rw [h]; simp
theorem tell_yes (h1 : hvalV a b = true) (h2 : inB m 0 1000000 = true) (h3 : fdV xs = true) (h4 : fdV ys = true) : tellV a b m xs ys = numT m a b 0 (toldV xs ys) := by unfold tellV tellOk; rw [h1, h2, h3, h4]; rfl
theorem told_parts : toldV xs ys = ofKind 0 (keysOf (newV xs ys)) ++ ofKind 1 (keysOf (chV xs ys)) ++ ofKind 2 (goneV xs ys) := by unfold toldV; rfl
theorem new_le : (newV xs ys).length ≤ 8 := by
  unfold newV; split
  · rename_i h; exact Nat.le_trans (List.length_filter_le _ _) (fd_parts h.2).1
  · simp
theorem ch_le : (chV xs ys).length ≤ 8 := by
  unfold chV; split
  · rename_i h; exact Nat.le_trans (List.length_filter_le _ _) (fd_parts h.2).1
  · simp
theorem gone_le : (goneV xs ys).length ≤ 8 := by unfold goneV keysOf; rw [List.length_map]; exact new_le
/-- The first k of a part's keys. -/
def toldTo (zs : List Told) (k : Int) (ks : List ByteArray) (j : Nat) : List Told := zs ++ ofKind k (ks.take j)
theorem toldTo_0 (zs : List Told) (k : Int) (ks : List ByteArray) : toldTo zs k ks 0 = zs := by unfold toldTo ofKind; simp
theorem toldTo_next (zs : List Told) (k : Int) {ks : List ByteArray} {j : Nat} {s : ByteArray} (h : ks[j]? = some s) : toldTo zs k ks (j + 1) = toldTo zs k ks j ++ [(k, s)] := by
  unfold toldTo ofKind; rw [List.take_add_one, h]; simp
theorem toldTo_all (zs : List Told) (k : Int) (ks : List ByteArray) : toldTo zs k ks ks.length = zs ++ ofKind k ks := by unfold toldTo; rw [List.take_length]
theorem toldTo_len (zs : List Told) (k : Int) (ks : List ByteArray) {j : Nat} (h : j ≤ ks.length) : (toldTo zs k ks j).length = zs.length + j := by
  unfold toldTo ofKind; simp; omega
theorem keys_at {xs : List Im} {j : Nat} {a b s : ByteArray} {d : Int} (h : xs[j]? = some (a, b, s, d)) : (keysOf xs)[j]? = some a := by rw [List.getElem?_map, h]; rfl
end
end Go.Proofs.Ytlfjnaeepblhiaa
