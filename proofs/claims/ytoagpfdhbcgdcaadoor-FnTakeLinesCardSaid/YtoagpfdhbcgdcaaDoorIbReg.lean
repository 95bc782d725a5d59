/- A region that builds an inbox of two copies: how its facts last. -/
import Derived.Test.YtoagpfdhbcgdcaaDoorG3
import Derived.Test.YtoagpfdhbcgdcaaDoorInbox
import Derived.Test.YtoagpfdhbcgdcaaDoorHandleMem
namespace Go.Proofs.YtoagpfdhbcgdcaaDoor
open Go.RowKit
set_option linter.unusedVariables false
set_option linter.unusedSimpArgs false
def IbBlk (w : World) (g : Nat) : Prop := ∃ c0 c1, w.heap[g]? = some (.cells #[c0, c1] 26 (0, 0))
/-- No block from N on is an inbox. -/
def NoIb (N : Nat) (w : World) : Prop := ∀ (g : Nat) (cs : Array Value), N ≤ g → w.heap[g]? ≠ some (.cells cs 26 (0, 0))
/-- The one block from N on that is an inbox. -/
def IbPtr (N : Nat) (v : Value) (w : World) : Prop := ∃ g, v = .pointer (some ⟨g, 0, none⟩) ∧ N ≤ g ∧ IbBlk w g ∧ ∀ (g' : Nat) (cs : Array Value), N ≤ g' → w.heap[g']? = some (.cells cs 26 (0, 0)) → g' = g
/-- Every inbox from N on holds these followers and digests. -/
def IbDone (N n m : Nat) (xs : List Hd) (zs : List Int) (w : World) : Prop := ∀ (g : Nat) (cs : Array Value), N ≤ g → w.heap[g]? = some (.cells cs 26 (0, 0)) → ∃ v1 v2, cs = #[v1, v2] ∧ w.ownsRow N 28 2 v1 n (hds xs) ∧ w.ownsRow N 3 1 v2 m (ints zs)
def LitAt (N : Nat) (T : TypeId) (v : Value) (w : World) : Prop := ∃ g, v = .slice (some ⟨g, 0, none⟩) 0 0 ∧ N ≤ g ∧ w.heap[g]? = some (.cells #[] T (0, 0))
theorem LitAt.below {N : Nat} {T : TypeId} {v : Value} {a b : World} (h : LitAt N T v a) (hb : Below a.heap.size a b) : LitAt N T v b := by
  obtain ⟨g, e, hN, hg⟩ := h
  exact ⟨g, e, hN, (hb.block g (Array.getElem?_eq_some_iff.1 hg).1).trans hg⟩
/-- Operation st stores into an inbox, al allocs one; the others make other blocks alone. -/
def TrIb (st al i : Nat) (a b : World) : Prop :=
  if i = st then (∀ (g : Nat) (cs : Array Value), b.heap[g]? = some (.cells cs 26 (0, 0)) → ∃ cs' : Array Value, a.heap[g]? = some (.cells cs' 26 (0, 0))) ∧ (∀ g, IbBlk a g → IbBlk b g)
  else Below a.heap.size a b ∧ (i ≠ al → ∀ (g : Nat) (cs : Array Value), a.heap.size ≤ g → b.heap[g]? ≠ some (.cells cs 26 (0, 0)))
theorem TrIb.other {st al i : Nat} {a b : World} (h : TrIb st al i a b) (hi : i ≠ st) : Below a.heap.size a b := by unfold TrIb at h; rw [if_neg hi] at h; exact h.1
theorem TrIb.same {st al i : Nat} (hi : i ≠ st) (a : World) : TrIb st al i a a := by
  unfold TrIb; rw [if_neg hi]
  exact ⟨Below.refl _ _, fun _ g cs hg e => by have := (Array.getElem?_eq_some_iff.1 e).1; omega⟩
theorem TrIb.new {st al i : Nat} (hi : i ≠ st) {T : TypeId} (hT : T ≠ 26) {a b : World} (h : New T a b) : TrIb st al i a b := by
  unfold TrIb; rw [if_neg hi]
  exact ⟨h.below, fun _ => h.typed hT⟩
theorem TrIb.lit {st al i : Nat} (hi : i ≠ st) {T : TypeId} (hT : T ≠ 26) (a : World) (cs : Array Value) : TrIb st al i a (a.alloc (.cells cs T)) := TrIb.new hi hT (.inr ⟨0, cs, rfl⟩)
theorem TrIb.al {st al : Nat} (hi : al ≠ st) (a : World) (o : Obj) : TrIb st al al a (a.alloc o) := by
  unfold TrIb; rw [if_neg hi]
  exact ⟨(Below.refl _ _).alloc (Nat.le_refl _) _, fun h => absurd rfl h⟩
theorem IbPtr.tr {N st al i : Nat} {v : Value} {a b : World} (h : IbPtr N v a) (hT : TrIb st al i a b) (hi : i ≠ al) : IbPtr N v b := by
  obtain ⟨g, e, hN, hb, hu⟩ := h
  unfold TrIb at hT
  by_cases es : i = st
  · rw [if_pos es] at hT
    exact ⟨g, e, hN, hT.2 g hb, fun g' cs hg' hc => by obtain ⟨cs', hc'⟩ := hT.1 g' cs hc; exact hu g' cs' hg' hc'⟩
  · rw [if_neg es] at hT
    obtain ⟨c0, c1, hc⟩ := hb
    refine ⟨g, e, hN, ⟨c0, c1, (hT.1.block g (Array.getElem?_eq_some_iff.1 hc).1).trans hc⟩, fun g' cs hg' hc' => ?_⟩
    rcases Nat.lt_or_ge g' a.heap.size with hlt | hge
    · exact hu g' cs hg' ((hT.1.block g' hlt).symm.trans hc')
    · exact absurd hc' (hT.2 hi g' cs hge)
theorem NoIb.tr {N st al i : Nat} {a b : World} (h : NoIb N a) (hT : TrIb st al i a b) (hi : i ≠ al) : NoIb N b := by
  intro g cs hg hc
  unfold TrIb at hT
  by_cases es : i = st
  · rw [if_pos es] at hT
    obtain ⟨cs', hc'⟩ := hT.1 g cs hc
    exact h g cs' hg hc'
  · rw [if_neg es] at hT
    rcases Nat.lt_or_ge g a.heap.size with hlt | hge
    · exact h g cs hg ((hT.1.block g hlt).symm.trans hc)
    · exact hT.2 hi g cs hge hc
theorem NoIb.start (w : World) : NoIb w.heap.size w := fun g cs hg e => by have := (Array.getElem?_eq_some_iff.1 e).1; omega
theorem IbPtr.new {N : Nat} {a : World} (h : NoIb N a) (hN : N ≤ a.heap.size) (c0 c1 : Value) : IbPtr N (.pointer (some ⟨a.heap.size, 0, none⟩)) (a.alloc (.cells #[c0, c1] 26)) := by
  refine ⟨_, rfl, hN, ⟨c0, c1, alloc_new' rfl⟩, fun g' cs hg' hc => ?_⟩
  have hlt : g' < (a.alloc (.cells #[c0, c1] 26)).heap.size := (Array.getElem?_eq_some_iff.1 hc).1
  rw [World.size_alloc] at hlt
  rcases Nat.lt_or_ge g' a.heap.size with h1 | h1
  · refine absurd ?_ (h g' cs hg')
    exact ((((Below.refl a.heap.size a).alloc (Nat.le_refl _) _).block g' h1).symm).trans hc
  · omega
/-- The store of both copies. -/
theorem ib_store {N g n m : Nat} {xs : List Hd} {zs : List Int} {a : World} {v1 v2 : Value} (hg : IbPtr N (.pointer (some ⟨g, 0, none⟩)) a) (o1 : a.ownsRow N 28 2 v1 n (hds xs)) (o2 : a.ownsRow N 3 1 v2 m (ints zs)) (st al : Nat) :
    IbDone N n m xs zs ((a.setCell ⟨g, 0, none⟩ v1).setCell ⟨g, 1, none⟩ v2) ∧ TrIb st al st a ((a.setCell ⟨g, 0, none⟩ v1).setCell ⟨g, 1, none⟩ v2) ∧ a.grownBy ((a.setCell ⟨g, 0, none⟩ v1).setCell ⟨g, 1, none⟩ v2) (some g) := by
  obtain ⟨g', e, hN, ⟨c0, c1, hb⟩, hu⟩ := hg
  injection e with e
  injection e with e
  injection e with e _ _
  subst e
  have h1 : (a.setCell ⟨g, 0, none⟩ v1).heap[g]? = some (.cells #[v1, c1] 26 (0, 0)) := by simpa using heap_setCell_same a g 0 _ _ v1 hb
  have h2 : ((a.setCell ⟨g, 0, none⟩ v1).setCell ⟨g, 1, none⟩ v2).heap[g]? = some (.cells #[v1, v2] 26 (0, 0)) := by simpa using heap_setCell_same _ g 1 _ _ v2 h1
  have hk : ∀ k, k ≠ g → ((a.setCell ⟨g, 0, none⟩ v1).setCell ⟨g, 1, none⟩ v2).heap[k]? = a.heap[k]? := fun k hk => by
    rw [heap_setCell_other _ ⟨g, 1, none⟩ k _ hk, heap_setCell_other _ ⟨g, 0, none⟩ k _ hk]
  have G : a.grownBy ((a.setCell ⟨g, 0, none⟩ v1).setCell ⟨g, 1, none⟩ v2) (some g) := ⟨rfl, rfl, rfl, by simp, fun k _ hne => hk k (fun e => hne (by rw [e]))⟩
  have ne : ∀ {e' size' n' : Nat} {v' : Value} {vs' : List Value}, e' ≠ 26 → a.ownsRow N e' size' v' n' vs' → ((a.setCell ⟨g, 0, none⟩ v1).setCell ⟨g, 1, none⟩ v2).ownsRow N e' size' v' n' vs' := fun {e' size' n' v' vs'} hne o => by
    refine o.kept G ?_
    rcases o.2 with ⟨rfl, rfl⟩ | ⟨q, cap, cur, rfl, _, hq, _⟩
    · exact .inl rfl
    · refine .inr fun e => ?_
      simp [Value.ownBlock] at e
      subst e
      rw [hb] at hq
      injection hq with hq
      injection hq with _ hq
      exact hne hq.symm
  refine ⟨fun g' cs hg' hc => ?_, ?_, G⟩
  · have : g' = g := by
      by_cases e : g' = g
      · exact e
      · rw [hk g' e] at hc; exact hu g' cs hg' hc
    subst this
    rw [h2] at hc
    injection hc with hc
    injection hc with hc
    exact ⟨v1, v2, hc.symm, ne (by decide) o1, ne (by decide) o2⟩
  · unfold TrIb
    rw [if_pos rfl]
    refine ⟨fun g' cs hc => ?_, fun g' ⟨d0, d1, hd⟩ => ?_⟩
    · by_cases e : g' = g
      · subst e; exact ⟨_, hb⟩
      · rw [hk g' e] at hc; exact ⟨cs, hc⟩
    · by_cases e : g' = g
      · subst e; exact ⟨_, _, h2⟩
      · exact ⟨d0, d1, (hk g' e).trans hd⟩
theorem copyHd_new (A : Option Addr) (n c : Nat) (xs : List Hd) (N : Nat) (w : World) (h : Sl w A n c 2 (hds xs)) (hn : n ≤ 1048576) (hN : N ≤ w.heap.size) :
    Calls Tryd.prog 31 #[.slice A n c] w fun e w' => ∃ v, e = .returned v ∧ w'.ownsRow N 28 2 v n (hds xs) ∧ New 28 w w' := by
  go_enter Tryd.func31, Tryd.ntmps31
  go_wp2_with (at_builtin; refine wpList_append_new _ rfl _ _ eltHandle rfl N (.slice none 0 0) (.inl rfl) rfl (World.ownsRow_nil _ _ _ _) A n c (hds xs) rfl h.see (h.of_none (by decide)) h.len (flat_one hdC_one _) (by unfold maxLen; omega) (by omega) hN ?_; intro v1 w1 own1 g1)
  have R := hid (And.intro own1 g1)
  clear own1 g1
  go_wp2
  go_ret
  exact ⟨v1, rfl, R.out⟩
theorem copyInt_new (A : Option Addr) (n c : Nat) (xs : List Int) (N : Nat) (w : World) (h : Sl w A n c 1 (ints xs)) (hn : n ≤ 1048576) (hN : N ≤ w.heap.size) :
    Calls Tryd.prog 32 #[.slice A n c] w fun e w' => ∃ v, e = .returned v ∧ w'.ownsRow N 3 1 v n (ints xs) ∧ New 3 w w' := by
  go_enter Tryd.func32, Tryd.ntmps32
  go_wp2_with (at_builtin; refine wpList_append_new _ rfl _ _ eltInt rfl N (.slice none 0 0) (.inl rfl) rfl (World.ownsRow_nil _ _ _ _) A n c (ints xs) rfl h.see (h.of_none (by decide)) h.len (ints_oneCell _ _) (by unfold maxLen; omega) (by omega) hN ?_; intro v1 w1 own1 g1)
  have R := hid (And.intro own1 g1)
  clear own1 g1
  go_wp2
  go_ret
  exact ⟨v1, rfl, R.out⟩
end Go.Proofs.YtoagpfdhbcgdcaaDoor
