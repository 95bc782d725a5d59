/- What TakeActivity comes to. -/
import Derived.Test.YtoagpfdhbcgdcaaDoorG2
import Derived.Test.YtoagpfdhbcgdcaaDoorG4
import Derived.Test.YtoagpfdhbcgdcaaDoorIbReg
import Derived.Test.YtoagpfdhbcgdcaaDoorPlainFol
namespace Go.Proofs.YtoagpfdhbcgdcaaDoor
open Go.RowKit
set_option linter.unusedVariables false
set_option linter.unusedSimpArgs false
section
variable {xs : List Hd} {zs : List Int} {kd mk : Int} {a b s : ByteArray}
/-- The digest of an activity. -/
@[irreducible] def adig (kd mk : Int) (a b s : ByteArray) : Int := digV (atextV kd mk a b s)
theorem adig_eq : digV (atextV kd mk a b s) = adig kd mk a b s := by unfold adig; rfl
@[irreducible] def tkF (xs : List Hd) (zs : List Int) (kd mk : Int) (a b s : ByteArray) : List Hd :=
  if ibV xs zs = true ∧ avalV kd mk a b s = true then (if adig kd mk a b s ∈ zs then xs else if kd = 3 then (followV xs (a, b)).1 else if kd = 5 then (unfollowV xs (a, b)).1 else xs) else []
@[irreducible] def tkZ (xs : List Hd) (zs : List Int) (kd mk : Int) (a b s : ByteArray) : List Int :=
  if ibV xs zs = true ∧ avalV kd mk a b s = true then (if adig kd mk a b s ∈ zs then zs else if zs.length = 12 then (zs ++ [adig kd mk a b s]).drop 1 else zs ++ [adig kd mk a b s]) else []
@[irreducible] def tkN (xs : List Hd) (zs : List Int) (kd mk : Int) (a b s : ByteArray) : Int :=
  if ibV xs zs = true ∧ avalV kd mk a b s = true then (if adig kd mk a b s ∈ zs then 0 else 1) else -1
theorem tk_no (h : ¬ (ibV xs zs = true ∧ avalV kd mk a b s = true)) : tkF xs zs kd mk a b s = [] ∧ tkZ xs zs kd mk a b s = [] ∧ tkN xs zs kd mk a b s = -1 := by
  unfold tkF tkZ tkN; rw [if_neg h, if_neg h, if_neg h]; exact ⟨rfl, rfl, rfl⟩
theorem tk_old (h1 : ibV xs zs = true) (h2 : avalV kd mk a b s = true) (h : adig kd mk a b s ∈ zs) : tkF xs zs kd mk a b s = xs ∧ tkZ xs zs kd mk a b s = zs ∧ tkN xs zs kd mk a b s = 0 := by
  unfold tkF tkZ tkN; have h12 := And.intro h1 h2; refine ⟨?_, ?_, ?_⟩ <;> rw [if_pos h12, if_pos h]
theorem tk_new (h1 : ibV xs zs = true) (h2 : avalV kd mk a b s = true) (h : adig kd mk a b s ∉ zs) : tkF xs zs kd mk a b s = (if kd = 3 then (followV xs (a, b)).1 else if kd = 5 then (unfollowV xs (a, b)).1 else xs) ∧
    tkZ xs zs kd mk a b s = (if zs.length = 12 then (zs ++ [adig kd mk a b s]).drop 1 else zs ++ [adig kd mk a b s]) ∧ tkN xs zs kd mk a b s = 1 := by
  unfold tkF tkZ tkN; have h12 := And.intro h1 h2; refine ⟨?_, ?_, ?_⟩ <;> rw [if_pos h12, if_neg h]
theorem not_mem_next {x y : Int} {k : Nat} (hy : zs[k]? = some y) (hn : x ∉ zs.take k) (he : ¬ y = x) : x ∉ zs.take (k + 1) := by
  rw [List.take_add_one, hy]
  simp only [Option.toList_some, List.mem_append, List.mem_singleton]
  rintro (h1 | h1)
  · exact hn h1
  · exact he h1.symm
end
/-- The block of an address holds things of type T. -/
def Ty (w : World) (D : Option Addr) (T : TypeId) : Prop := ∀ ad, D = some ad → ∃ cs, w.heap[ad.block]? = some (.cells cs T (0, 0))
theorem ty_none (w : World) (T : TypeId) : Ty w none T := fun _ e => by cases e
theorem ty_own {w : World} {base n c : Nat} {A : Option Addr} {e : TypeId} {size : Nat} {vs : List Value} (o : w.ownsRow base e size (.slice A n c) n vs) : Ty w A e := by
  intro ad e'
  subst e'
  rcases o.2 with ⟨q, _⟩ | ⟨g, cap, cur, q, _, hg, _⟩
  · cases q
  · injection q with q _ _
    injection q with q
    subst q
    exact ⟨cur, hg⟩
theorem ty_map {w : World} {A : Option Addr} {T : TypeId} (h : Ty w A T) : Ty w (A.map (fun x => (⟨x.block, x.off + 1, none⟩ : Addr))) T := by
  intro ad e
  cases A with
  | none => cases e
  | some a => injection e with e; subst e; exact h a rfl
theorem Ty.below {w w' : World} {A : Option Addr} {T : TypeId} (h : Ty w A T) (hb : Below w.heap.size w w') : Ty w' A T := by
  intro ad e
  obtain ⟨cs, hc⟩ := h ad e
  exact ⟨cs, (hb.block _ (Array.getElem?_eq_some_iff.1 hc).1).trans hc⟩
theorem Ty.ne {w : World} {A : Option Addr} {T T' : TypeId} {g : Nat} {cs : Array Value} (h : Ty w A T) (hg : w.heap[g]? = some (.cells cs T' (0, 0))) (hT : T ≠ T') : ∀ ad, A = some ad → ad.block ≠ g := by
  intro ad e hk
  obtain ⟨ds, hd⟩ := h ad e
  rw [hk, hg] at hd
  injection hd with hd
  injection hd with _ hd
  exact hT hd.symm
theorem Ty.set {w : World} {A : Option Addr} {T : TypeId} {g i : Nat} {v : Value} {cs : Array Value} (h : Ty w A T) (hg : w.heap[g]? = some (.cells cs 26 (0, 0))) (hT : T ≠ 26) : Ty (w.setCell ⟨g, i, none⟩ v) A T := by
  intro ad e
  obtain ⟨ds, hd⟩ := h ad e
  exact ⟨ds, (heap_setCell_other w ⟨g, i, none⟩ ad.block v (h.ne hg hT ad e)).trans hd⟩
/-- What a call of TakeActivity leaves: an inbox of rows of its own (the digests', where none was cut off). -/
def TkRes (N : Nat) (F : List Hd) (Z : List Int) (q : Int) (P : Prop) (e : Ending) (w' : World) : Prop :=
  ∃ C n' c' D m' d', e = .returned (.tuple #[ibA C n' c' D m' d', .int .i64 q]) ∧ w'.ownsRow N 28 2 (.slice C n' c') n' (hds F) ∧ Sl w' D m' d' 1 (ints Z) ∧ Ty w' D 3 ∧ (P → w'.ownsRow N 3 1 (.slice D m' d') m' (ints Z))
theorem own_ne {w : World} {base : Nat} {e T : TypeId} {size n g : Nat} {v : Value} {vs : List Value} {cs : Array Value} (o : w.ownsRow base e size v n vs) (hg : w.heap[g]? = some (.cells cs T (0, 0))) (hT : e ≠ T) : v.ownBlock ≠ some g := by
  rcases o.2 with ⟨rfl, rfl⟩ | ⟨q, cap, cur, rfl, _, hq, _⟩
  · intro e; cases e
  · intro e'
    simp [Value.ownBlock] at e'
    subst e'
    rw [hg] at hq
    injection hq with hq
    injection hq with _ hq
    exact hT hq.symm
theorem own_setIb {w : World} {base : Nat} {e : TypeId} {size n g i : Nat} {v u : Value} {vs : List Value} {cs : Array Value} (o : w.ownsRow base e size v n vs) (hg : w.heap[g]? = some (.cells cs 26 (0, 0))) (hT : e ≠ 26) : (w.setCell ⟨g, i, none⟩ u).ownsRow base e size v n vs :=
  ownsRow_setCell_other o (by have := own_ne o hg hT; simpa using this) u
theorem set_ib0 {w : World} {g : Nat} {c0 c1 v : Value} (h : w.heap[g]? = some (.cells #[c0, c1] 26 (0, 0))) : (w.setCell ⟨g, 0, none⟩ v).heap[g]? = some (.cells #[v, c1] 26 (0, 0)) := by simpa using heap_setCell_same w g 0 _ _ v h
theorem set_ib1 {w : World} {g : Nat} {c0 c1 v : Value} (h : w.heap[g]? = some (.cells #[c0, c1] 26 (0, 0))) : (w.setCell ⟨g, 1, none⟩ v).heap[g]? = some (.cells #[c0, v] 26 (0, 0)) := by simpa using heap_setCell_same w g 1 _ _ v h
theorem set_else {w : World} {g k : Nat} {i : Nat} {v : Value} {o : Obj} (hk : k ≠ g) (h : w.heap[k]? = some o) : (w.setCell ⟨g, i, none⟩ v).heap[k]? = some o := (heap_setCell_other w ⟨g, i, none⟩ k v hk).trans h
theorem Sl.setIb {w : World} {A : Option Addr} {n c size : Nat} {vs : List Value} {g i : Nat} {u : Value} (h : Sl w A n c size vs) (hne : vs ≠ [] → ∀ ad, A = some ad → ad.block ≠ g) : Sl (w.setCell ⟨g, i, none⟩ u) A n c size vs :=
  ⟨h.see.setCell (p := ⟨g, i, none⟩) hne u, h.len, h.cap, h.max⟩
theorem own_own_ne {w : World} {b1 b2 : Nat} {e1 e2 : TypeId} {s1 s2 n1 n2 : Nat} {v1 v2 : Value} {x1 x2 : List Value} (o : w.ownsRow b1 e1 s1 v1 n1 x1) (o' : w.ownsRow b2 e2 s2 v2 n2 x2) (hT : e1 ≠ e2) : v1.ownBlock = none ∨ v1.ownBlock ≠ v2.ownBlock := by
  cases hv : v1.ownBlock with
  | none => exact .inl rfl
  | some k =>
    refine .inr fun e => ?_
    rcases o'.2 with ⟨rfl, rfl⟩ | ⟨q, cap, cur, rfl, _, hq, _⟩
    · cases e
    · have e : k = q := by injection e
      subst e
      exact own_ne o hq hT hv
theorem sl_off {w : World} {base n c k : Nat} {A : Option Addr} {e T : TypeId} {size : Nat} {vs : List Value} {cs : Array Value} (o : w.ownsRow base e size (.slice A n c) n vs) (hg : w.heap[k]? = some (.cells cs T (0, 0))) (hT : e ≠ T) : ∀ ad, A = some ad → ad.block ≠ k := by
  intro ad e' hk
  subst e'
  have := own_ne o hg hT
  obtain ⟨A', c', q, _, _, q2⟩ := own_form o
  injection q with q _ _
  subst q
  rcases q2 with q2 | ⟨g, q2, _⟩
  · cases q2
  · injection q2 with q2
    subst q2
    simp only at hk
    exact this (by rw [← hk]; rfl)
theorem sl_off1 {A : Option Addr} {k K : Nat} (h : ∀ ad, A = some ad → ad.block ≠ k) : ∀ ad, A.map (fun x => x.add K) = some ad → ad.block ≠ k := by
  intro ad e
  cases A with
  | none => cases e
  | some a =>
    injection e with e
    subst e
    show (a.add K).block ≠ k
    rw [addr_block]
    exact h a rfl
theorem add1_fun : (fun x : Addr => x.add 1) = (fun x => (⟨x.block, x.off + 1, none⟩ : Addr)) := by funext x; simp [Addr.add]
theorem sl_offs {A : Option Addr} {k : Nat} (h : ∀ ad, A = some ad → ad.block ≠ k) : ∀ ad, A.map (fun x => (⟨x.block, x.off + 1, none⟩ : Addr)) = some ad → ad.block ≠ k := by
  rw [← add1_fun]; exact sl_off1 h
theorem ints_drop (zs : List Int) (k : Nat) : (ints zs).drop k = ints (zs.drop k) := by simp [ints]
theorem blk_ne {w : World} {g q : Nat} {cs ds : Array Value} {T T' : TypeId} (h : w.heap[g]? = some (.cells cs T (0, 0))) (h' : w.heap[q]? = some (.cells ds T' (0, 0))) (hT : T ≠ T') : g ≠ q := by
  rintro rfl
  rw [h] at h'
  injection h' with h'
  injection h' with _ h'
  exact hT h'
end Go.Proofs.YtoagpfdhbcgdcaaDoor
