/- Worlds with new blocks and draws alone: the class in which a call that only makes boxes of its own is quiet. -/
import Derived.Test.YtlfjnaeepblhiaaWords
namespace Go.Proofs.Ytlfjnaeepblhiaa
open Go.RowKit

/-- New blocks, and how many draws. -/
structure Ext where
  os : List Obj
  n : Nat
instance : Nonempty Ext := ⟨⟨[], 0⟩⟩
def More (w : World) (x : Ext) : World := { w with heap := w.heap ++ x.os.toArray, drawn := x.n }
theorem more_refl (w : World) : w = More w ⟨[], w.drawn⟩ := by simp [More]
theorem more_drew (w : World) : w.drew = More w ⟨[], w.drawn + 1⟩ := by cases w; simp [More]; rfl
theorem more_drewN (w : World) (k : Nat) : w.drewN k = More w ⟨[], w.drawn + k⟩ := by simp [More, World.drewN]
theorem more_alloc (w : World) (o : Obj) : w.alloc o = More w ⟨[o], w.drawn⟩ := by cases w; simp [More]; rfl
theorem more_more (w : World) (x y : Ext) : More (More w x) y = More w ⟨x.os ++ y.os, y.n⟩ := by simp [More]
theorem more_of_below {w w' : World} (h : Below w.heap.size w w') : ∃ x, w' = More w x := by
  obtain ⟨heap', tape', drawn', os', output'⟩ := w'
  obtain ⟨h1, h2, h3, h4, h5⟩ := h
  simp only at h1 h2 h3 h4 h5
  subst h1 h2 h3
  refine ⟨⟨heap'.toList.drop w.heap.size, drawn'⟩, ?_⟩
  unfold More
  congr 1
  apply Array.ext_getElem?
  intro k
  rw [Array.getElem?_append]
  split
  · rename_i hk; exact h5 k hk
  · rename_i hk
    show heap'[k]? = (List.drop w.heap.size heap'.toList).toArray[k - w.heap.size]?
    simp [Nat.add_sub_cancel' (show w.heap.size ≤ k by omega)]
/-- w' is w with new blocks and draws alone. -/
def Ext.of (w w' : World) : Prop := ∃ x, w' = More w x
theorem Ext.of.refl (w : World) : Ext.of w w := ⟨_, more_refl w⟩
theorem Ext.of.trans {a b c : World} (h : Ext.of a b) (k : Ext.of b c) : Ext.of a c := by
  obtain ⟨x, rfl⟩ := h; obtain ⟨_, rfl⟩ := k; exact ⟨_, more_more _ _ _⟩
theorem Ext.of.alloc {a b : World} (h : Ext.of a b) (o : Obj) : Ext.of a (b.alloc o) := h.trans ⟨_, more_alloc _ _⟩
theorem Ext.of.drew {a b : World} (h : Ext.of a b) : Ext.of a b.drew := h.trans ⟨_, more_drew _⟩
theorem Ext.of.drewN {a b : World} (h : Ext.of a b) (k : Nat) : Ext.of a (b.drewN k) := h.trans ⟨_, more_drewN _ _⟩
theorem more_below (w : World) (x : Ext) : Below w.heap.size w (More w x) :=
  ⟨rfl, rfl, rfl, by simp [More], fun k hk => by simp only [More]; rw [Array.getElem?_append_left hk]⟩
theorem Ext.of.below {w w' : World} (h : Ext.of w w') : Below w.heap.size w w' := by obtain ⟨x, rfl⟩ := h; exact more_below w x
theorem more_cell {w : World} {a : Addr} {v : Value} (h : w.cell? a = some v) : ∀ x, (More w x).cell? a = some v := fun x => ((more_below w x).cell (World.block_lt_of_cell? w a h)).trans h
theorem more_cell2 {w : World} {a : Addr} {v : Value} (h : w.cell? a = some v) (y : Ext) : ∀ x, (More (More w y) x).cell? a = some v := more_cell (more_cell h y)

theorem Ext.of_below {w w' : World} (h : Below w.heap.size w w') : Ext.of w w' := more_of_below h
theorem Ext.of.block {w w' : World} (h : Ext.of w w') {k : Nat} (hk : k < w.heap.size) : w'.heap[k]? = w.heap[k]? := h.below.block k hk
theorem Ext.of.size {w w' : World} (h : Ext.of w w') : w.heap.size ≤ w'.heap.size := h.below.size
theorem Ext.of.cell {w w' : World} (h : Ext.of w w') {p : Addr} {v : Value} (hc : w.cell? p = some v) : w'.cell? p = some v := by obtain ⟨x, rfl⟩ := h; exact more_cell hc x
theorem Sl.ext {w w' : World} {A : Option Addr} {n c size : Nat} {vs : List Value} (h : Sl w A n c size vs) (hx : Ext.of w w') : Sl w' A n c size vs := h.below hx.below
theorem Sl.more {w : World} {A : Option Addr} {n c size : Nat} {vs : List Value} (h : Sl w A n c size vs) (x : Ext) : Sl (More w x) A n c size vs := h.below (more_below w x)
theorem own_more {w : World} {base : Nat} {e : TypeId} {size n : Nat} {v : Value} {vs : List Value} (h : w.ownsRow base e size v n vs) (x : Ext) : (More w x).ownsRow base e size v n vs := own_below h (more_below w x)
theorem own_ext {w w' : World} {base : Nat} {e : TypeId} {size n : Nat} {v : Value} {vs : List Value} (h : w.ownsRow base e size v n vs) (hx : Ext.of w w') : w'.ownsRow base e size v n vs := own_below h hx.below

theorem alloc_new' {w : World} {B : Nat} {cs : Array Value} {T : TypeId} (hB : B = w.heap.size) : (w.alloc (.cells cs T)).heap[B]? = some (.cells cs T (0, 0)) := by subst hB; exact heap_alloc_new w _
theorem alloc_old {w : World} {B : Nat} {o o' : Obj} (h : w.heap[B]? = some o') : (w.alloc o).heap[B]? = some o' := by
  have hlt := (Array.getElem?_eq_some_iff.1 h).1
  exact (Below.heap_alloc w o B hlt).trans h
/-- A region that draws its order, whose operations read and whose calls make new blocks alone: one walk serves every order. -/
theorem wp_region_more {P : Program} {id : Nat} {Q : Exit → Act → World → Prop} {a : Act} {w : World} {l : List Oper} (hm : P.follows .mixedOrders = true) (hB : Region.lexB .any l.toArray = true)
    (h : wpQuiet P l.toArray (fun w' => ∃ x, w' = More w x) (fun a' => ∀ w', (∃ x, w' = More w x) → Q .normal a' w') l a) : (Code.region id l.toArray true).wp P Q a w :=
  wp_region_quiet (C := fun w' => ∃ x, w' = More w x) hm hB ⟨_, more_drew w⟩ (by simpa using h)
/-- A callee's contract, met in such a world. -/
theorem more_of {P : Program} {f : FuncId} {args : Array Value} {w : World} {x : Ext} {v : Value}
    (h : Calls P f args (More w x) fun e w' => e = .returned v ∧ Ext.of (More w x) w') : Calls P f args (More w x) fun e w'' => e = .returned v ∧ ∃ y, w'' = More w y :=
  h.mono fun _ _ ⟨he, _, hy⟩ => ⟨he, _, hy.trans (more_more _ _ _)⟩
theorem more_same {P : Program} {f : FuncId} {args : Array Value} {w : World} {x : Ext} {v : Value}
    (h : Calls P f args (More w x) fun e w' => e = .returned v ∧ More w x = w') : Calls P f args (More w x) fun e w'' => e = .returned v ∧ ∃ y, w'' = More w y :=
  h.mono fun _ _ ⟨he, hy⟩ => ⟨he, _, hy.symm⟩
end Go.Proofs.Ytlfjnaeepblhiaa
