/- The contracts of the draws that every law shares: the reader is opened; one in n; a page's size. -/
import Derived.Test.YtlfjnaeepblhiaaRd
import Derived.Test.YtlfjnaeepblhiaaInts
import Derived.Test.YtlfjnaeepblhiaaWord
namespace Go.Proofs.Ytlfjnaeepblhiaa
open Go.RowKit
set_option linter.unusedVariables false

/-- The reader has picked at most k times more; nothing else that was there has turned. -/
def Turn (w w' : World) (g p k : Nat) : Prop := ∃ p', p ≤ p' ∧ p' ≤ p + k ∧ Rd w' g p' ∧ w.grownBy w' (some g)

theorem Rd.alloc {w : World} {g p : Nat} (h : Rd w g p) (o : Obj) : Rd (w.alloc o) g p := h.below ((Below.refl _ _).alloc (Nat.le_refl _) o)
theorem Rd.new (w : World) (A : Option Addr) (n c : Nat) (xs : List Int) (hs : Sl w A n c 1 (bytes xs)) (hx : ∀ x ∈ xs, 0 ≤ x ∧ x ≤ 255) (hn : n ≤ 2000) :
    Rd (w.alloc (.cells #[.slice A n c, .int .i64 0] 98)) w.heap.size 0 :=
  ⟨A, n, c, xs, heap_alloc_new w _, hs.alloc _, hx, hn, fun hv ad ha => by obtain ⟨ad', h1, h2⟩ := hs.see.lt hv; rw [ha] at h1; injection h1 with h1; subst h1; exact h2⟩

theorem open_any (A : Option Addr) (n c : Nat) (xs : List Int) (w : World) (hs : Sl w A n c 1 (bytes xs)) (hx : ∀ x ∈ xs, 0 ≤ x ∧ x ≤ 255) :
    Calls Try.prog 42 #[.slice A n c] w fun e w' => e = .returned (.pointer (some ⟨w.heap.size, 0, none⟩)) ∧ Rd w' w.heap.size 0 ∧ Below w.heap.size w w' := by
  have hmax := hs.max
  have hcap := hs.cap
  unfold maxLen at hmax
  by_cases hn : 2000 < n
  · have R := hid (Rd.new w A 2000 c (xs.take 2000) (by have := hs.sub0 (m := 2000) (by omega); simpa [bytes, List.map_take] using this) (fun x h => hx x (List.mem_of_mem_take h)) (by omega))
    clear hs hx
    go_enter Try.func42, Try.ntmps42
    go_wp2
    go_ret
    exact ⟨rfl, R.out, (Below.refl _ _).alloc (Nat.le_refl _) _⟩
  · have R := hid (Rd.new w A n c xs hs hx (by omega))
    clear hs hx
    go_enter Try.func42, Try.ntmps42
    go_wp2
    go_ret
    exact ⟨rfl, R.out, (Below.refl _ _).alloc (Nat.le_refl _) _⟩

theorem Turn.refl {w : World} {g p : Nat} (h : Rd w g p) (k : Nat) : Turn w w g p k := ⟨p, by omega, by omega, h, World.grownBy.refl _ _⟩
theorem odd_pos (g p : Nat) (n : Int) (w : World) (h : Rd w g p) (hp : p ≤ 100000) (h1 : 1 ≤ n) (h2 : n ≤ 1048576) :
    Calls Try.prog 76 #[.pointer (some ⟨g, 0, none⟩), .int .i64 n] w fun e w' => ∃ b : Bool, e = .returned (.bool b) ∧ Turn w w' g p 1 := by
  go_enter Try.func76, Try.ntmps76
  go_wp2_with fail
  refine (pick_any g p n w h hp h1 h2).mono ?_
  rintro e w1 ⟨q, rfl, q0, q1, R, G⟩
  go_wp2
  go_ret
  exact ⟨_, rfl, p + 1, by omega, by omega, R, G⟩
theorem odd_zero (g p : Nat) (w : World) (h : Rd w g p) :
    Calls Try.prog 76 #[.pointer (some ⟨g, 0, none⟩), .int .i64 0] w fun e w' => ∃ b : Bool, e = .returned (.bool b) ∧ Turn w w' g p 1 := by
  have T := Turn.refl h 1
  clear h
  go_enter Try.func76, Try.ntmps76
  go_wp2
  go_ret
  exact ⟨_, rfl, T⟩
theorem odd_any (g p : Nat) (n : Int) (w : World) (h : Rd w g p) (hp : p ≤ 100000) (h1 : 0 ≤ n) (h2 : n ≤ 1048576) :
    Calls Try.prog 76 #[.pointer (some ⟨g, 0, none⟩), .int .i64 n] w fun e w' => ∃ b : Bool, e = .returned (.bool b) ∧ Turn w w' g p 1 := by
  by_cases h0 : 1 ≤ n
  · exact odd_pos g p n w h hp h0 h2
  · obtain rfl : n = 0 := by omega
    exact odd_zero g p w h

theorem Turn.below {w w' : World} {g p k : Nat} (h : Turn w w' g p k) {B : Nat} (hg : B ≤ g) (hB : B ≤ w.heap.size) : Below B w w' := by
  obtain ⟨_, _, _, _, G⟩ := h
  exact below_of_grown G hB (by rintro _ ⟨rfl⟩; exact hg)

/-- A literal's block, asked at a place behind a turn of the reader. -/
theorem lit_at {W W' : World} {B g : Nat} {L : List Int} {T : TypeId} (hb : W.heap[B]? = some (.cells (ints L).toArray T (0, 0))) (hg : W.grownBy W' (some g)) (hne : B ≠ g) {q : Int} (h0 : 0 ≤ q) (h1 : q < L.length) :
    ∃ x, x ∈ L ∧ W'.cell? ⟨B, q.toNat, none⟩ = some (.int .i64 x) := by
  have hlt := (Array.getElem?_eq_some_iff.1 hb).1
  have hq : q.toNat < L.length := by omega
  refine ⟨L[q.toNat], by simp, ?_⟩
  rw [cell_of_row W' B q.toNat _ T (0, 0) ((hg.block B hlt (by simpa using hne)).trans hb)]
  simp [ints, hq]
theorem alloc_new {w : World} {B : Nat} {cs : Array Value} {T : TypeId} (hB : B = w.heap.size) : (w.alloc (.cells cs T)).heap[B]? = some (.cells cs T (0, 0)) := by subst hB; exact heap_alloc_new w _
end Go.Proofs.Ytlfjnaeepblhiaa
