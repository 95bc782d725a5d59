/- Words for new slices: a literal's cells, an empty one, and what an append of a list or of one thing leaves. -/
import Derived.Test.YtlfjnaeepblhiaaFlat
namespace Go.Proofs.Ytlfjnaeepblhiaa
open Go.RowKit
set_option linter.unusedVariables false

theorem see_new (w : World) (cs : List Value) (T : TypeId) (B : Nat) (hB : B = w.heap.size) : See (w.alloc (.cells cs.toArray T)) (some ⟨B, 0, none⟩) cs := by
  subst hB
  refine .inr ⟨_, rfl, fun j u hu => ?_⟩
  rw [addr_own, cell_of_row _ _ _ _ _ _ (heap_alloc_new w _)]
  simpa using hu
theorem own_empty (w : World) (e : TypeId) (size : Nat) : (w.alloc (.cells #[] e)).ownsRow w.heap.size e size (.slice (some ⟨w.heap.size, 0, none⟩) 0 0) 0 [] := by
  refine ⟨by simp, .inr ⟨w.heap.size, 0, #[], rfl, Nat.le_refl _, heap_alloc_new w _, Nat.le_refl _, Nat.zero_le _, by simp, by simp⟩⟩
theorem flat_one {α : Type} {f : α → List Value} (h : ∀ x, ∀ u ∈ f x, u.oneCell' = true) (xs : List α) : ∀ u ∈ flat f xs, u.oneCell' = true := by
  intro u hu
  obtain ⟨x, _, hx⟩ := List.mem_flatMap.1 hu
  exact h x u hx
theorem own_count {α : Type} {f : α → List Value} {xs : List α} {w : World} {base : Nat} {e : TypeId} {size n : Nat} {v : Value} (h : w.ownsRow base e size v n (flat f xs)) (hk : ∀ x, (f x).length = size) (hp : 0 < size) : n = xs.length := by
  have := h.1
  rw [flat_length hk] at this
  exact (Nat.eq_of_mul_eq_mul_right hp this).symm
theorem make_run {P : Program} {t e : TypeId} {size bytes : Nat} (E : Elt P t e size bytes) (c : Nat) (C : Int) (hC : C = (c : Int)) (hb : bytes * c ≤ 281474976710656) (hm : c ≤ 9223372036854775807) :
    ∃ cs : Array Value, cs.size = c * size ∧ ∀ W : World, (Instr.makeSlice t (.int .i64 0) (.int .i64 C)).run P W = .ok (.slice (some ⟨W.heap.size, 0, none⟩) 0 c) (W.alloc (.cells cs e)) := by
  obtain ⟨ht, ⟨i, z, hi, hz, hsize, hby, hzs⟩, hpos⟩ := E
  refine ⟨madeCells z.cells (c * size), size_madeCells _ _, fun W => ?_⟩
  have h1 : ((i.bytes * c : Nat) : Int) ≤ 281474976710656 := by rw [hby]; omega
  have hr := run_make (P := P) W t e i z ht hi hz .i64 .i64 0 C (by omega) (by omega) (by rw [hC]; rwa [Int.natCast_mul] at h1) (by omega)
  rw [hr, hC, Int.toNat_natCast, hsize]
  rfl
theorem own_made (w : World) (cs : Array Value) (e : TypeId) (size c B : Nat) (hB : B = w.heap.size) (h : cs.size = c * size) (hm : c ≤ maxLen) : (w.alloc (.cells cs e)).ownsRow B e size (.slice (some ⟨B, 0, none⟩) 0 c) 0 [] := by
  subst hB
  exact ⟨by simp, .inr ⟨w.heap.size, c, cs, rfl, Nat.le_refl _, heap_alloc_new w _, Nat.zero_le _, hm, h, by simp⟩⟩
theorem own_lit (w : World) (cs : List Value) (T : TypeId) (size n B : Nat) (hB : B = w.heap.size) (h : cs.length = n * size) (hn : n ≤ maxLen) : (w.alloc (.cells cs.toArray T)).ownsRow B T size (.slice (some ⟨B, 0, none⟩) n n) n cs := by
  subst hB
  exact ⟨h, .inr ⟨w.heap.size, n, cs.toArray, rfl, Nat.le_refl _, heap_alloc_new w _, Nat.le_refl _, hn, by simpa using h, by simp [← h]⟩⟩
theorem flat_single {α : Type} {f : α → List Value} (x : α) : flat f [x] = f x := by simp [flat]
end Go.Proofs.Ytlfjnaeepblhiaa
