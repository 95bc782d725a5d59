/- What is known of the values of a region that draws: numbers, literals, places; and how worlds turn there. -/
import Derived.Test.YtlfjnaeepblhiaaDraw
import Derived.Test.YtlfjnaeepblhiaaOrder
namespace Go.Proofs.Ytlfjnaeepblhiaa
open Go.RowKit
set_option linter.unusedVariables false

/-- A number between two others. -/
def IsI (lo hi : Int) (v : Value) : Prop := ∃ q : Int, v = .int .i64 q ∧ lo ≤ q ∧ q ≤ hi
/-- A text of at most k bytes. -/
def IsS (k : Nat) (v : Value) : Prop := ∃ s : ByteArray, v = .string s ∧ s.size ≤ k
def IsB (v : Value) : Prop := ∃ b : Bool, v = .bool b
/-- A literal's slice whose elements are of one kind, behind the reader's block. -/
def IsLit (g r n : Nat) (Pr : Value → Prop) (T : TypeId) (v : Value) (w : World) : Prop := ∃ (B : Nat) (L : List Value), v = .slice (some ⟨B, 0, none⟩) n n ∧ g < B ∧ r < B ∧ w.heap[B]? = some (.cells L.toArray T (0, 0)) ∧ L.length = n ∧ ∀ x ∈ L, Pr x
/-- A place in such a literal. -/
def IsAt (g r : Nat) (Pr : Value → Prop) (v : Value) (w : World) : Prop := ∃ (B i : Nat) (x : Value), v = .pointer (some ⟨B, i, none⟩) ∧ g < B ∧ r < B ∧ w.cell? ⟨B, i, none⟩ = some x ∧ Pr x
/-- Blocks come, and only two of the elder ones turn: the reader's and the result's. -/
structure Kept (g r : Nat) (w w' : World) : Prop where
  os : w'.os = w.os
  tape : w'.tape = w.tape
  output : w'.output = w.output
  size : w.heap.size ≤ w'.heap.size
  block : ∀ k, k < w.heap.size → k ≠ g → k ≠ r → w'.heap[k]? = w.heap[k]?
theorem Kept.refl (g r : Nat) (w : World) : Kept g r w w := ⟨rfl, rfl, rfl, Nat.le_refl _, fun _ _ _ _ => rfl⟩
theorem Kept.trans {g r : Nat} {a b c : World} (h : Kept g r a b) (h' : Kept g r b c) : Kept g r a c :=
  ⟨h'.os.trans h.os, h'.tape.trans h.tape, h'.output.trans h.output, Nat.le_trans h.size h'.size, fun k hk h1 h2 => (h'.block k (Nat.lt_of_lt_of_le hk h.size) h1 h2).trans (h.block k hk h1 h2)⟩
theorem Kept.of {g r : Nat} {a b : World} (h : a.grownBy b (some g)) : Kept g r a b := ⟨h.os, h.tape, h.output, h.size, fun k hk h1 _ => h.block k hk (fun e => h1 (by injection e with e))⟩
theorem Kept.alloc (g r : Nat) (w : World) (o : Obj) : Kept g r w (w.alloc o) := .of (World.grownBy_alloc _ _ _)
theorem Kept.drew (g r : Nat) (w : World) : Kept g r w w.drew := ⟨rfl, rfl, rfl, Nat.le_refl _, fun _ _ _ _ => rfl⟩
theorem Kept.below {g r : Nat} {a b : World} (h : Kept g r a b) {B : Nat} (hg : B ≤ g) (hr : B ≤ r) (hB : B ≤ a.heap.size) : Below B a b :=
  ⟨h.os, h.tape, h.output, h.size, fun k hk => h.block k (by omega) (by omega) (by omega)⟩
theorem IsLit.kept {g r n : Nat} {Pr : Value → Prop} {T : TypeId} {v : Value} {w w' : World} (h : IsLit g r n Pr T v w) (hg : Kept g r w w') : IsLit g r n Pr T v w' := by
  obtain ⟨B, L, rfl, hB, hr, hb, e⟩ := h
  exact ⟨B, L, rfl, hB, hr, (hg.block B (Array.getElem?_eq_some_iff.1 hb).1 (by omega) (by omega)).trans hb, e⟩
theorem cell_same {w w' : World} {p : Addr} (h : w'.heap[p.block]? = w.heap[p.block]?) : w'.cell? p = w.cell? p := by
  unfold World.cell?; rw [h]
theorem IsAt.kept {g r : Nat} {Pr : Value → Prop} {v : Value} {w w' : World} (h : IsAt g r Pr v w) (hg : Kept g r w w') : IsAt g r Pr v w' := by
  obtain ⟨B, i, x, rfl, hB, hr, hb, e⟩ := h
  have hlt : B < w.heap.size := by
    apply Classical.byContradiction
    intro hn
    have : w.cell? ⟨B, i, none⟩ = none := by unfold World.cell?; rw [Array.getElem?_eq_none (by show w.heap.size ≤ B; omega)]
    rw [this] at hb; cases hb
  exact ⟨B, i, x, rfl, hB, hr, (cell_same (p := ⟨B, i, none⟩) (hg.block B hlt (by omega) (by omega))).trans hb, e⟩
theorem IsLit.at {g r n : Nat} {Pr : Value → Prop} {T : TypeId} {v : Value} {w : World} (h : IsLit g r n Pr T v w) {q : Int} (h0 : 0 ≤ q) (h1 : q < n) : ∃ B, v = .slice (some ⟨B, 0, none⟩) n n ∧ IsAt g r Pr (.pointer (some ⟨B, q.toNat, none⟩)) w := by
  obtain ⟨B, L, rfl, hB, hr, hb, hl, e⟩ := h
  have hq : q.toNat < L.length := by omega
  refine ⟨B, rfl, B, q.toNat, L[q.toNat], rfl, hB, hr, ?_, e _ (by simp)⟩
  rw [cell_of_row w B q.toNat _ T (0, 0) hb]
  simp [hq]
end Go.Proofs.Ytlfjnaeepblhiaa
