/- How worlds turn in a region that makes blocks and stores an inbox into one of them. -/
import Derived.Test.YtoagpfdhbcgdcaaDoorTake
import Derived.Test.YtoagpfdhbcgdcaaDoorG3
namespace Go.Proofs.YtoagpfdhbcgdcaaDoor
open Go.RowKit
set_option linter.unusedVariables false
/-- Both cells of a block that holds an inbox are written. -/
structure StIb (a b : World) : Prop where
  turn : ∃ g c0 c1 v0 v1, a.heap[g]? = some (.cells #[c0, c1] 26 (0, 0)) ∧ b = (a.setCell ⟨g, 0, none⟩ v0).setCell ⟨g, 1, none⟩ v1
def TrSt (st i : Nat) (a b : World) : Prop := if i = st then StIb a b else Ext.of a b
theorem TrSt.other {st i : Nat} {a b : World} (h : TrSt st i a b) (hi : i ≠ st) : Ext.of a b := by unfold TrSt at h; rwa [if_neg hi] at h
theorem TrSt.store {st : Nat} {a b : World} (h : TrSt st st a b) : StIb a b := by unfold TrSt at h; rwa [if_pos rfl] at h
theorem TrSt.ext {st i : Nat} {a b : World} (hi : i ≠ st) (h : Ext.of a b) : TrSt st i a b := by unfold TrSt; rwa [if_neg hi]
theorem TrSt.mk {st g : Nat} {a : World} {c0 c1 v0 v1 : Value} (h : a.heap[g]? = some (.cells #[c0, c1] 26 (0, 0))) : TrSt st st a ((a.setCell ⟨g, 0, none⟩ v0).setCell ⟨g, 1, none⟩ v1) := by
  unfold TrSt; rw [if_pos rfl]; exact ⟨g, c0, c1, v0, v1, h, rfl⟩
theorem StIb.own {a b : World} (h : StIb a b) {base size n : Nat} {e : TypeId} {v : Value} {vs : List Value} (o : a.ownsRow base e size v n vs) (hT : e ≠ 26) : b.ownsRow base e size v n vs := by
  obtain ⟨g, c0, c1, v0, v1, hg, rfl⟩ := h.turn
  exact own_setIb (own_setIb o hg hT) (set_ib0 hg) hT
theorem StIb.ty {a b : World} (h : StIb a b) {A : Option Addr} {T : TypeId} (o : Ty a A T) (hT : T ≠ 26) : Ty b A T := by
  obtain ⟨g, c0, c1, v0, v1, hg, rfl⟩ := h.turn
  exact (o.set hg hT).set (set_ib0 hg) hT
theorem StIb.sl {a b : World} (h : StIb a b) {A : Option Addr} {n c size : Nat} {vs : List Value} {T : TypeId} (s : Sl a A n c size vs) (o : Ty a A T) (hT : T ≠ 26) : Sl b A n c size vs := by
  obtain ⟨g, c0, c1, v0, v1, hg, rfl⟩ := h.turn
  exact (s.setIb (g := g) (i := 0) (u := v0) (fun _ => o.ne hg hT)).setIb (g := g) (i := 1) (u := v1) (fun _ => (o.set (i := 0) (v := v0) hg hT).ne (set_ib0 (v := v0) hg) hT)
theorem StIb.blk {a b : World} (h : StIb a b) {q : Nat} (hq : ∃ c0 c1, a.heap[q]? = some (.cells #[c0, c1] 26 (0, 0))) : ∃ c0 c1, b.heap[q]? = some (.cells #[c0, c1] 26 (0, 0)) := by
  obtain ⟨g, c0, c1, v0, v1, hg, rfl⟩ := h.turn
  by_cases e : q = g
  · subst e; exact ⟨_, _, set_ib1 (set_ib0 hg)⟩
  · obtain ⟨d0, d1, hd⟩ := hq
    exact ⟨d0, d1, set_else e (set_else e hd)⟩
/-- What a call leaves of an inbox, and that it lasts. -/
def IbVal (N : Nat) (F : List Hd) (Z : List Int) (P : Prop) (v : Value) (w : World) : Prop :=
  ∃ C n' c' D m' d', v = ibA C n' c' D m' d' ∧ w.ownsRow N 28 2 (.slice C n' c') n' (hds F) ∧ Sl w D m' d' 1 (ints Z) ∧ Ty w D 3 ∧ (P → w.ownsRow N 3 1 (.slice D m' d') m' (ints Z))
theorem IbVal.below {N : Nat} {F : List Hd} {Z : List Int} {P : Prop} {v : Value} {a b : World} (h : IbVal N F Z P v a) (hb : Below a.heap.size a b) : IbVal N F Z P v b := by
  obtain ⟨C, n, c, D, m, d, e, o, s, t, p⟩ := h
  exact ⟨C, n, c, D, m, d, e, own_below o hb, s.below hb, t.below hb, fun hp => own_below (p hp) hb⟩
theorem IbVal.st {N : Nat} {F : List Hd} {Z : List Int} {P : Prop} {v : Value} {a b : World} (h : IbVal N F Z P v a) (hs : StIb a b) : IbVal N F Z P v b := by
  obtain ⟨C, n, c, D, m, d, e, o, s, t, p⟩ := h
  exact ⟨C, n, c, D, m, d, e, hs.own o (by decide), hs.sl s t (by decide), hs.ty t (by decide), fun hp => hs.own (p hp) (by decide)⟩
theorem IbVal.lower {N M : Nat} {F : List Hd} {Z : List Int} {P : Prop} {v : Value} {a : World} (h : IbVal N F Z P v a) (hM : M ≤ N) : IbVal M F Z P v a := by
  obtain ⟨C, n, c, D, m, d, e, o, s, t, p⟩ := h
  exact ⟨C, n, c, D, m, d, e, own_lower o hM, s, t, fun hp => own_lower (p hp) hM⟩
theorem tkRes_val {N : Nat} {F : List Hd} {Z : List Int} {q : Int} {P : Prop} {e : Ending} {w : World} (h : TkRes N F Z q P e w) : ∃ v, e = .returned (.tuple #[v, .int .i64 q]) ∧ IbVal N F Z P v w := by
  obtain ⟨C, n, c, D, m, d, he, o, s, t, p⟩ := h
  exact ⟨_, he, C, n, c, D, m, d, rfl, o, s, t, p⟩
/-- An inbox in a block. -/
def IbIn (N g : Nat) (F : List Hd) (Z : List Int) (P : Prop) (w : World) : Prop :=
  ∃ C n' c' D m' d', w.heap[g]? = some (.cells #[.slice C n' c', .slice D m' d'] 26 (0, 0)) ∧ w.ownsRow N 28 2 (.slice C n' c') n' (hds F) ∧ Sl w D m' d' 1 (ints Z) ∧ Ty w D 3 ∧ (P → w.ownsRow N 3 1 (.slice D m' d') m' (ints Z))
theorem IbIn.below {N g : Nat} {F : List Hd} {Z : List Int} {P : Prop} {a b : World} (h : IbIn N g F Z P a) (hb : Below a.heap.size a b) : IbIn N g F Z P b := by
  obtain ⟨C, n, c, D, m, d, e, o, s, t, p⟩ := h
  exact ⟨C, n, c, D, m, d, (hb.block _ (Array.getElem?_eq_some_iff.1 e).1).trans e, own_below o hb, s.below hb, t.below hb, fun hp => own_below (p hp) hb⟩
theorem IbVal.stored {N g : Nat} {F : List Hd} {Z : List Int} {P : Prop} {v : Value} {a : World} (h : IbVal N F Z P v a) {c0 c1 : Value} (hg : a.heap[g]? = some (.cells #[c0, c1] 26 (0, 0))) :
    ∃ C n' c' D m' d', v = ibA C n' c' D m' d' ∧ IbIn N g F Z P ((a.setCell ⟨g, 0, none⟩ (.slice C n' c')).setCell ⟨g, 1, none⟩ (.slice D m' d')) := by
  obtain ⟨C, n, c, D, m, d, e, o, s, t, p⟩ := h
  have hs : StIb a ((a.setCell ⟨g, 0, none⟩ (.slice C n c)).setCell ⟨g, 1, none⟩ (.slice D m d)) := ⟨g, c0, c1, _, _, hg, rfl⟩
  exact ⟨C, n, c, D, m, d, e, C, n, c, D, m, d, set_ib1 (set_ib0 hg), hs.own o (by decide), hs.sl s t (by decide), hs.ty t (by decide), fun hp => hs.own (p hp) (by decide)⟩
theorem IbIn.parts {N g : Nat} {F : List Hd} {Z : List Int} {w : World} (h : IbIn N g F Z True w) : ∃ C n c D m d, w.heap[g]? = some (.cells #[.slice C n c, .slice D m d] 26 (0, 0)) ∧ w.ownsRow N 28 2 (.slice C n c) n (hds F) ∧ w.ownsRow N 3 1 (.slice D m d) m (ints Z) ∧ n = F.length ∧ m = Z.length := by
  obtain ⟨C, n, c, D, m, d, e, o, s, t, p⟩ := h
  exact ⟨C, n, c, D, m, d, e, o, p trivial, own_count o hdC_len (by omega), by have := s.len; simpa using this.symm⟩
theorem IbIn.sls {N g : Nat} {F : List Hd} {Z : List Int} {P : Prop} {w : World} (h : IbIn N g F Z P w) : ∃ C n c D m d, w.heap[g]? = some (.cells #[.slice C n c, .slice D m d] 26 (0, 0)) ∧ Sl w C n c 2 (hds F) ∧ Sl w D m d 1 (ints Z) := by
  obtain ⟨C, n, c, D, m, d, e, o, s, t, p⟩ := h
  exact ⟨C, n, c, D, m, d, e, own_sl o, s⟩
theorem insL_len (xs : List Hd) (x : Hd) : (insL xs x).length ≤ xs.length + 1 := by
  unfold insL
  rw [List.length_append, List.length_cons]
  have := congrArg List.length (List.takeWhile_append_dropWhile (p := fun z => bef z x) (l := xs))
  rw [List.length_append] at this
  omega
theorem tkZ_len (xs : List Hd) (zs : List Int) (kd mk : Int) (a b s : ByteArray) : (tkZ xs zs kd mk a b s).length ≤ 13 := by
  by_cases h : ibV xs zs = true ∧ avalV kd mk a b s = true
  · have hz := (ib_parts h.1).2.1
    by_cases hd : adig kd mk a b s ∈ zs
    · rw [(tk_old h.1 h.2 hd).2.1]; omega
    · rw [(tk_new h.1 h.2 hd).2.1]
      split <;> simp <;> omega
  · rw [(tk_no h).2.1]; simp
theorem tkF_len (xs : List Hd) (zs : List Int) (kd mk : Int) (a b s : ByteArray) : (tkF xs zs kd mk a b s).length ≤ 11 := by
  by_cases h : ibV xs zs = true ∧ avalV kd mk a b s = true
  · have hf := (folV_iff.1 (ib_parts h.1).1).1
    have hff := (ib_parts h.1).1
    by_cases hd : adig kd mk a b s ∈ zs
    · rw [(tk_old h.1 h.2 hd).1]; omega
    · rw [(tk_new h.1 h.2 hd).1]
      split
      · have := insL_len xs (a, b)
        cases hm : folV (insL xs (a, b)) with
        | true => rw [follow_yes hff hm]; simp only; omega
        | false => rw [follow_not hff hm]; simp only; omega
      · split
        · rw [unfollow_yes hff]
          have : (remL xs (a, b)).length ≤ xs.length := List.length_filter_le _ _
          simp only; omega
        · omega
  · rw [(tk_no h).1]; simp
theorem own_row {w w' : World} {base size n : Nat} {e : TypeId} {v : Value} {vs : List Value} {row : Option Nat} (h : w.ownsRow base e size v n vs) (G : w.grownBy w' row) (hr : ∀ k, row = some k → k < base) : w'.ownsRow base e size v n vs := by
  refine h.kept G ?_
  cases hv : v.ownBlock with
  | none => exact .inl rfl
  | some k => exact .inr (fun e => by have h1 := (h.lt k hv).1; have h2 := hr k e.symm; omega)
end Go.Proofs.YtoagpfdhbcgdcaaDoor
