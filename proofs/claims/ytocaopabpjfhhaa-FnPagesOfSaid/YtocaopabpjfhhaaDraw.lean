/- The contracts of the draws that every law shares: the reader is opened; one in n; a page's size. -/
import Derived.Test.YtocaopabpjfhhaaRd
import Derived.Test.YtocaopabpjfhhaaInts
import Derived.Test.YtocaopabpjfhhaaWord
namespace Go.Proofs.Ytocaopabpjfhhaa
open Go.RowKit
set_option linter.unusedVariables false

/-- The reader has picked at most k times more; nothing else that was there has turned. -/
def Turn (w w' : World) (g p k : Nat) : Prop := ∃ p', p ≤ p' ∧ p' ≤ p + k ∧ Rd w' g p' ∧ w.grownBy w' (some g)

theorem Rd.alloc {w : World} {g p : Nat} (h : Rd w g p) (o : Obj) : Rd (w.alloc o) g p := h.below ((Below.refl _ _).alloc (Nat.le_refl _) o)
theorem Rd.new (w : World) (A : Option Addr) (n c : Nat) (xs : List Int) (hs : Sl w A n c 1 (bytes xs)) (hx : ∀ x ∈ xs, 0 ≤ x ∧ x ≤ 255) (hn : n ≤ 2000) :
    Rd (w.alloc (.cells #[.slice A n c, .int .i64 0] 75)) w.heap.size 0 :=
  ⟨A, n, c, xs, heap_alloc_new w _, hs.alloc _, hx, hn, fun hv ad ha => by obtain ⟨ad', h1, h2⟩ := hs.see.lt hv; rw [ha] at h1; injection h1 with h1; subst h1; exact h2⟩

theorem open_any (A : Option Addr) (n c : Nat) (xs : List Int) (w : World) (hs : Sl w A n c 1 (bytes xs)) (hx : ∀ x ∈ xs, 0 ≤ x ∧ x ≤ 255) :
    Calls Try.prog 50 #[.slice A n c] w fun e w' => e = .returned (.pointer (some ⟨w.heap.size, 0, none⟩)) ∧ Rd w' w.heap.size 0 ∧ Below w.heap.size w w' := by
  have hmax := hs.max
  have hcap := hs.cap
  unfold maxLen at hmax
  by_cases hn : 2000 < n
  · have R := hid (Rd.new w A 2000 c (xs.take 2000) (by have := hs.sub0 (m := 2000) (by omega); simpa [bytes, List.map_take] using this) (fun x h => hx x (List.mem_of_mem_take h)) (by omega))
    clear hs hx
    go_enter Try.func50, Try.ntmps50
    go_wp2
    go_ret
    exact ⟨rfl, R.out, (Below.refl _ _).alloc (Nat.le_refl _) _⟩
  · have R := hid (Rd.new w A n c xs hs hx (by omega))
    clear hs hx
    go_enter Try.func50, Try.ntmps50
    go_wp2
    go_ret
    exact ⟨rfl, R.out, (Below.refl _ _).alloc (Nat.le_refl _) _⟩

theorem Turn.refl {w : World} {g p : Nat} (h : Rd w g p) (k : Nat) : Turn w w g p k := ⟨p, by omega, by omega, h, World.grownBy.refl _ _⟩
theorem odd_pos (g p : Nat) (n : Int) (w : World) (h : Rd w g p) (hp : p ≤ 100000) (h1 : 1 ≤ n) (h2 : n ≤ 1048576) :
    Calls Try.prog 55 #[.pointer (some ⟨g, 0, none⟩), .int .i64 n] w fun e w' => ∃ b : Bool, e = .returned (.bool b) ∧ Turn w w' g p 1 := by
  go_enter Try.func55, Try.ntmps55
  go_wp2_with fail
  refine (pick_any g p n w h hp h1 h2).mono ?_
  rintro e w1 ⟨q, rfl, q0, q1, R, G⟩
  go_wp2
  go_ret
  exact ⟨_, rfl, p + 1, by omega, by omega, R, G⟩
theorem odd_zero (g p : Nat) (w : World) (h : Rd w g p) :
    Calls Try.prog 55 #[.pointer (some ⟨g, 0, none⟩), .int .i64 0] w fun e w' => ∃ b : Bool, e = .returned (.bool b) ∧ Turn w w' g p 1 := by
  have T := Turn.refl h 1
  clear h
  go_enter Try.func55, Try.ntmps55
  go_wp2
  go_ret
  exact ⟨_, rfl, T⟩
theorem odd_any (g p : Nat) (n : Int) (w : World) (h : Rd w g p) (hp : p ≤ 100000) (h1 : 0 ≤ n) (h2 : n ≤ 1048576) :
    Calls Try.prog 55 #[.pointer (some ⟨g, 0, none⟩), .int .i64 n] w fun e w' => ∃ b : Bool, e = .returned (.bool b) ∧ Turn w w' g p 1 := by
  by_cases h0 : 1 ≤ n
  · exact odd_pos g p n w h hp h0 h2
  · obtain rfl : n = 0 := by omega
    exact odd_zero g p w h

theorem Turn.below {w w' : World} {g p k : Nat} (h : Turn w w' g p k) {B : Nat} (hg : B ≤ g) (hB : B ≤ w.heap.size) : Below B w w' := by
  obtain ⟨_, _, _, _, G⟩ := h
  exact below_of_grown G hB (by rintro _ ⟨rfl⟩; exact hg)

theorem drawPause_any (A : Option Addr) (n c : Nat) (xs : List Int) (w : World) (h : Row .u8 w A n c xs) :
    Calls Try.prog 27 #[.slice A n c] w fun e w' => ∃ q : Int, e = .returned (.int .i64 q) ∧ 0 ≤ q ∧ q < 9 ∧ Below w.heap.size w w' := by
  go_enter Try.func27, Try.ntmps27
  go_wp2_with fail
  refine (open_any A n c xs w h.sl h.byte).mono ?_
  rintro e w1 ⟨rfl, R1, B1⟩
  go_wp2_with fail
  refine (pick_any _ _ _ _ R1 (by omega) (by omega) (by omega)).mono ?_
  rintro e w2 ⟨q, rfl, q0, q1, R2, G2⟩
  have B2 := B1.grown G2 B1.size (by rintro _ ⟨rfl⟩; exact Nat.le_refl _)
  clear B1 R1 R2 G2
  go_wp2_with fail
  go_ret
  exact ⟨q, rfl, q0, q1, B2⟩
/-- A literal's block, asked at a place behind a turn of the reader. -/
theorem lit_at {W W' : World} {B g : Nat} {L : List Int} {T : TypeId} (hb : W.heap[B]? = some (.cells (ints L).toArray T (0, 0))) (hg : W.grownBy W' (some g)) (hne : B ≠ g) {q : Int} (h0 : 0 ≤ q) (h1 : q < L.length) :
    ∃ x, x ∈ L ∧ W'.cell? ⟨B, q.toNat, none⟩ = some (.int .i64 x) := by
  have hlt := (Array.getElem?_eq_some_iff.1 hb).1
  have hq : q.toNat < L.length := by omega
  refine ⟨L[q.toNat], by simp, ?_⟩
  rw [cell_of_row W' B q.toNat _ T (0, 0) ((hg.block B hlt (by simpa using hne)).trans hb)]
  simp [ints, hq]
theorem alloc_new {w : World} {B : Nat} {cs : Array Value} {T : TypeId} (hB : B = w.heap.size) : (w.alloc (.cells cs T)).heap[B]? = some (.cells cs T (0, 0)) := by subst hB; exact heap_alloc_new w _
theorem size_any (g p : Nat) (w : World) (h : Rd w g p) (hp : p ≤ 90000) :
    Calls Try.prog 53 #[.pointer (some ⟨g, 0, none⟩)] w fun e w' => ∃ q : Int, e = .returned (.int .i64 q) ∧ 0 ≤ q ∧ q ≤ 41 ∧ Turn w w' g p 2 := by
  go_enter Try.func53, Try.ntmps53
  go_wp2_with fail
  refine (pick_any _ _ _ _ h (by omega) (by omega) (by omega)).mono ?_
  rintro e w1 ⟨q, rfl, q0, q1, R1, G1⟩
  have hgl := R1.lt
  go_wp2_with fail
  refine (pick_any _ _ _ _ ((R1.alloc _).alloc _) (by omega) (by omega) (by omega)).mono ?_
  rintro e w2 ⟨q2, rfl, r0, r1, R2, G2⟩
  obtain ⟨x, hx, cx⟩ := lit_at (B := w1.heap.size + 1) (L := [0, 0, 0, 0, 0, 1, 2, 3]) (alloc_new (by simp)) G2 (by omega) r0 (by simpa using r1)
  have x0 : 0 ≤ x ∧ x ≤ 3 := by simp at hx; omega
  obtain ⟨y, hy, cy⟩ := lit_at (B := w1.heap.size) (L := [1 + q, 40, 0, 41]) (alloc_old (alloc_new rfl)) G2 (by omega) x0.1 (by simp; omega)
  have y0 : 0 ≤ y ∧ y ≤ 41 := by simp at hy; omega
  obtain ⟨x0, x3⟩ := x0
  have T : Turn w w2 g p 2 := ⟨p + 1 + 1, by omega, by omega, R2, G1.trans ((World.grownBy_alloc _ _ _).trans ((World.grownBy_alloc _ _ _).trans G2))⟩
  clear hx hy R1 R2 G1 G2 h
  go_wp2_with fail
  go_ret
  exact ⟨y, rfl, y0.1, y0.2, T⟩
theorem drawCursor_any (A : Option Addr) (n c : Nat) (xs : List Int) (w : World) (h : Row .u8 w A n c xs) :
    Calls Try.prog 29 #[.slice A n c] w fun e w' => ∃ q m : Int, e = .returned (.tuple #[.int .i64 q, .int .i64 m]) ∧ -1 ≤ q ∧ q ≤ 41 ∧ 0 ≤ m ∧ m ≤ 41 ∧ Below w.heap.size w w' := by
  go_enter Try.func29, Try.ntmps29
  go_wp2_with fail
  refine (open_any A n c xs w h.sl h.byte).mono ?_
  rintro e w1 ⟨rfl, R1, B1⟩
  go_wp2_with fail
  refine (pick_any _ _ _ _ R1 (by omega) (by omega) (by omega)).mono ?_
  rintro e w2 ⟨q, rfl, q0, q1, R2, G2⟩
  have B2 := B1.grown G2 B1.size (by rintro _ ⟨rfl⟩; exact Nat.le_refl _)
  clear B1 R1 G2
  go_wp2_with fail
  refine (size_any _ _ _ R2 (by omega)).mono ?_
  rintro e w3 ⟨m, rfl, m0, m1, T⟩
  have B3 := B2.trans (T.below (Nat.le_refl _) B2.size)
  clear B2 R2 T
  go_wp2_with fail
  go_ret2
  exact ⟨q - 1, m, rfl, by omega, by omega, m0, m1, B3⟩
end Go.Proofs.Ytocaopabpjfhhaa
