/- Worlds with new blocks and draws alone: the class in which a call that only makes boxes of its own is quiet. -/
import Derived.Test.YthbjbodkbpbbaaaWords
namespace Go.Proofs.Ythbjbodkbpbbaaa
open Go.RowKit

/-- New blocks, and how many draws. -/
structure Ext where
  os : List Obj
  n : Nat
instance : Nonempty Ext := ⟨⟨[], 0⟩⟩
def More (w : World) (x : Ext) : World := { w with heap := w.heap ++ x.os.toArray, drawn := w.drawn + x.n }
theorem more_refl (w : World) : w = More w ⟨[], 0⟩ := by simp [More]
theorem more_drew (w : World) : w.drew = More w ⟨[], 1⟩ := by cases w; simp [More]; rfl
theorem more_drewN (w : World) (k : Nat) : w.drewN k = More w ⟨[], k⟩ := by simp [More, World.drewN]
theorem more_alloc (w : World) (o : Obj) : w.alloc o = More w ⟨[o], 0⟩ := by cases w; simp [More]; rfl
theorem more_more (w : World) (x y : Ext) : More (More w x) y = More w ⟨x.os ++ y.os, x.n + y.n⟩ := by simp [More, Nat.add_assoc]
/-- w' is w with new blocks and draws alone. -/
def Ext.of (w w' : World) : Prop := ∃ x, w' = More w x
theorem Ext.of.refl (w : World) : Ext.of w w := ⟨_, more_refl w⟩
theorem Ext.of.trans {a b c : World} (h : Ext.of a b) (k : Ext.of b c) : Ext.of a c := by
  obtain ⟨x, rfl⟩ := h; obtain ⟨_, rfl⟩ := k; exact ⟨_, more_more _ _ _⟩
theorem Ext.of.alloc {a b : World} (h : Ext.of a b) (o : Obj) : Ext.of a (b.alloc o) := h.trans ⟨_, more_alloc _ _⟩
theorem Ext.of.drew {a b : World} (h : Ext.of a b) : Ext.of a b.drew := h.trans ⟨_, more_drew _⟩
theorem Ext.of.drewN {a b : World} (h : Ext.of a b) (k : Nat) : Ext.of a (b.drewN k) := h.trans ⟨_, more_drewN _ _⟩
theorem more_below (w : World) (x : Ext) : Below w.heap.size w (More w x) :=
  ⟨rfl, rfl, rfl, by simp [More], fun k hk => by simp only [More]; rw [Array.getElem?_append_left hk]⟩
theorem Ext.of.below {w w' : World} (h : Ext.of w w') : Below w.heap.size w w' := by obtain ⟨x, rfl⟩ := h; exact more_below w x
theorem more_cell {w : World} {a : Addr} {v : Value} (h : w.cell? a = some v) : ∀ x, (More w x).cell? a = some v := fun x => ((more_below w x).cell (World.block_lt_of_cell? w a h)).trans h
theorem more_cell2 {w : World} {a : Addr} {v : Value} (h : w.cell? a = some v) (y : Ext) : ∀ x, (More (More w y) x).cell? a = some v := more_cell (more_cell h y)

/-- A region that draws its order, whose operations read and whose calls make new blocks alone: one walk serves every order. -/
theorem wp_region_more {P : Program} {id : Nat} {Q : Exit → Act → World → Prop} {a : Act} {w : World} {l : List Oper} (hm : P.follows .mixedOrders = true) (hB : Region.lexB .any l.toArray = true)
    (h : wpQuiet P l.toArray (fun w' => ∃ x, w' = More w x) (fun a' => ∀ w', (∃ x, w' = More w x) → Q .normal a' w') l a) : (Code.region id l.toArray true).wp P Q a w :=
  wp_region_quiet (C := fun w' => ∃ x, w' = More w x) hm hB ⟨_, more_drew w⟩ (by simpa using h)
/-- A callee's contract, met in such a world. -/
theorem more_of {P : Program} {f : FuncId} {args : Array Value} {w : World} {x : Ext} {v : Value}
    (h : Calls P f args (More w x) fun e w' => e = .returned v ∧ Ext.of (More w x) w') : Calls P f args (More w x) fun e w'' => e = .returned v ∧ ∃ y, w'' = More w y :=
  h.mono fun _ _ ⟨he, _, hy⟩ => ⟨he, _, hy.trans (more_more _ _ _)⟩
theorem more_same {P : Program} {f : FuncId} {args : Array Value} {w : World} {x : Ext} {v : Value}
    (h : Calls P f args (More w x) fun e w' => e = .returned v ∧ More w x = w') : Calls P f args (More w x) fun e w'' => e = .returned v ∧ ∃ y, w'' = More w y :=
  h.mono fun _ _ ⟨he, hy⟩ => ⟨he, _, hy.symm⟩
end Go.Proofs.Ythbjbodkbpbbaaa
