/- append onto nothing: the world is as it was, or has one new block of the elements' type. -/
import Derived.Test.YtlfjnaeepblhiaaChain
import Derived.Test.YtlfjnaeepblhiaaMore
namespace Go.Proofs.Ytlfjnaeepblhiaa
open Go.RowKit
set_option linter.unusedVariables false
set_option linter.unusedSimpArgs false
/-- Draws alone, or one new block of type T. -/
def New (T : TypeId) (w w' : World) : Prop := (∃ q, w' = w.drewN q) ∨ ∃ q cs, w' = (w.drewN q).alloc (.cells cs T)
theorem New.below {T : TypeId} {w w' : World} (h : New T w w') : Below w.heap.size w w' := by
  rcases h with ⟨q, rfl⟩ | ⟨q, cs, rfl⟩
  · exact below_drewN (Below.refl _ _) q
  · exact (below_drewN (Below.refl _ _) q).alloc (Nat.le_refl _) _
theorem New.typed {T T' : TypeId} {w w' : World} (h : New T w w') (hT : T ≠ T') : ∀ g cs, w.heap.size ≤ g → w'.heap[g]? ≠ some (.cells cs T' (0, 0)) := by
  intro g cs hg e
  rcases h with ⟨q, rfl⟩ | ⟨q, cs', rfl⟩
  · have hx : g < (w.drewN q).heap.size := (Array.getElem?_eq_some_iff.1 e).1
    have : (w.drewN q).heap.size = w.heap.size := rfl
    omega
  · have hx : g < ((w.drewN q).alloc (.cells cs' T)).heap.size := (Array.getElem?_eq_some_iff.1 e).1
    have h1 : ((w.drewN q).alloc (.cells cs' T)).heap.size = w.heap.size + 1 := by simp
    obtain rfl : g = w.heap.size := by omega
    have h2 : ((w.drewN q).alloc (.cells cs' T)).heap[w.heap.size]? = some (.cells cs' T (0, 0)) := alloc_new' rfl
    rw [h2] at e
    injection e with e
    injection e with _ e
    exact hT e
theorem run_append_new {P : Program} (w : World) {t e : TypeId} {size bytes : Nat} (E : Elt P t e size bytes) (ty : TypeId) (base : Nat) (v : Value) (hv : v = .slice none 0 0 ∨ ∃ g, v = .slice (some ⟨g, 0, none⟩) 0 0) (hown : w.ownsRow base e size v 0 [])
    (A : Option Addr) (m c : Nat) (news : List Value) (hs : See w A news) (hA : A = none → m = 0) (hl : news.length = m * size) (h1 : ∀ u ∈ news, u.oneCell' = true)
    (h63 : m ≤ maxLen) (hbytes : m * bytes ≤ 140737488355328) (hbase : base ≤ w.heap.size) :
    ∃ v' w', (Builtin.append_ #[t, t] ty #[v, .slice A m c]).run P w = .ok v' w' ∧ w'.ownsRow base e size v' m news ∧ New e w w' := by
  obtain ⟨ht, ⟨i, z, hi, hz, hsize, hby, hzs⟩, hpos⟩ := E
  by_cases hm : m = 0
  · subst hm
    have hn : news = [] := List.eq_nil_of_length_eq_zero (by simpa using hl)
    subst hn
    refine ⟨v, w, ?_, hown, .inl ⟨0, rfl⟩⟩
    rcases hv with rfl | ⟨g, rfl⟩ <;> cases A <;> simp [Builtin.append_, run_underlying ht, sizeOf, typeInfo, hi, Builtin.lenOf, Builtin.firstCells, storeCells, loadCells, loadCellsFrom]
  · obtain ⟨ad, rfl⟩ : ∃ ad, A = some ad := by
      cases A with
      | none => exact absurd (hA rfl) hm
      | some ad => exact ⟨ad, rfl⟩
    have hcells : ∀ j u, news[j]? = some u → w.cell? (ad.add j) = some u := by
      intro j u hu
      rcases hs with h | ⟨ad', h, hc⟩
      · subst h; simp at hu
      · injection h with h; subst h; exact hc j u hu
    subst hsize
    subst hby
    have hsmall : m ≤ 9223372036854775807 := by simp only [maxLen] at h63; omega
    have hge := grownCap_ge w m 0 e
    have hcm : grownCap w m 0 e ≤ maxLen := grownCap_le_maxLen w m 0 e h63
    have fin : ((w.drew.alloc (.cells (news.toArray ++ Builtin.zeroCells z.cells (grownCap w m 0 e - m)) e))).ownsRow base e i.size (.slice (some ⟨w.heap.size, 0, none⟩) m (grownCap w m 0 e)) m news := by
      refine ⟨hl, .inr ⟨w.heap.size, _, _, rfl, hbase, heap_alloc_new w.drew _, hge, hcm, ?_, ?_⟩⟩
      · simp only [Array.size_append, List.size_toArray, size_zeroCells, hzs, hl, ← Nat.add_mul]
        congr 1
        omega
      · simp only [Array.toList_append]
        rw [← hl]
        exact List.take_left
    rcases hv with rfl | ⟨g, rfl⟩
    · have hr := run_append_nil (P := P) w t ty e i z ht hi hz ad m c news hl hcells (by omega) (by omega) (by omega)
      exact ⟨_, _, hr, fin, .inr ⟨1, _, rfl⟩⟩
    · have hr := run_append_grow (P := P) w t ty e i z ht hi hz ⟨g, 0, none⟩ 0 0 [] (by simp) (by simp) ad m c news hl hcells (by omega) (by omega) (growslice_fits (by omega) (by simpa using hbytes))
      simp only [Nat.zero_add, List.nil_append, Array.empty_append] at hr
      exact ⟨_, _, hr, fin, .inr ⟨1, _, rfl⟩⟩
theorem yield_append_new {P : Program} {w : World} {o : Oper} {ρ : Operand → Value} {R : Value → World → Prop} (s x : Operand) {t e : TypeId} {size bytes : Nat} (E : Elt P t e size bytes)
    (ho : o.op = .call { callee := .builtin .append, args := #[s, x], argTypes := #[t, t] })
    (base : Nat) (v : Value) (hv : v = .slice none 0 0 ∨ ∃ g, v = .slice (some ⟨g, 0, none⟩) 0 0) (hs : ρ s = v) (hown : w.ownsRow base e size v 0 [])
    (A : Option Addr) (m c : Nat) (news : List Value) (hx : ρ x = .slice A m c) (hsee : See w A news) (hA : A = none → m = 0) (hl : news.length = m * size) (h1 : ∀ u ∈ news, u.oneCell' = true)
    (h63 : m ≤ maxLen) (hbytes : m * bytes ≤ 140737488355328) (hbase : base ≤ w.heap.size)
    (h : ∀ v' w', w'.ownsRow base e size v' m news → New e w w' → R v' w') : Yield P o ρ w R := by
  obtain ⟨v', w', hrun, h2, h3⟩ := run_append_new (P := P) w E o.type base v hv hown A m c news hsee hA hl h1 h63 hbytes hbase
  unfold Yield execOp
  simp only [ho, resolve, invoke, builtin, Sem.run_bind, Sem.run_pure, Result.andThen_ok, List.map_toArray, List.map_cons, List.map_nil, hs, hx, hrun]
  exact h v' w' h2 h3
theorem wpList_append_new {P : Program} (w : World) {ops : Array Oper} {rest : List Oper} {o : Oper} {a : Act} {Q : Exit → Act → World → Prop} (hgd : o.guard = none) (s x : Operand) {t e : TypeId} {size bytes : Nat} (E : Elt P t e size bytes)
    (ho : o.op = .call { callee := .builtin .append, args := #[s, x], argTypes := #[t, t] })
    (base : Nat) (v : Value) (hv : v = .slice none 0 0 ∨ ∃ g, v = .slice (some ⟨g, 0, none⟩) 0 0) (hs : a.eval s = v) (hown : w.ownsRow base e size v 0 [])
    (A : Option Addr) (m c : Nat) (news : List Value) (hx : a.eval x = .slice A m c) (hsee : See w A news) (hA : A = none → m = 0) (hl : news.length = m * size) (h1 : ∀ u ∈ news, u.oneCell' = true)
    (h63 : m ≤ maxLen) (hbytes : m * bytes ≤ 140737488355328) (hbase : base ≤ w.heap.size)
    (h : ∀ v' w', w'.ownsRow base e size v' m news → New e w w' → wpList P ops Q rest (a.put o.dst v') w') : wpList P ops Q (o :: rest) a w := by
  refine wpList_plain hgd fun K hK => ?_
  obtain ⟨v', w', hrun, h2, h3⟩ := run_append_new (P := P) w E o.type base v hv hown A m c news hsee hA hl h1 h63 hbytes hbase
  unfold Oper.wp execOp
  simp only [ho, resolve, invoke, builtin, Sem.run_bind, Sem.run_pure, Result.andThen_ok, List.map_toArray, List.map_cons, List.map_nil, hs, hx, hrun]
  exact hK _ _ (h v' w' h2 h3)
end Go.Proofs.Ytlfjnaeepblhiaa
