/- The contracts of the draws of rotations with a day, and with one more. -/
import Derived.Test.YtcpepjnmjiffcaaDrawTurn
import Derived.Test.YtcpepjnmjiffcaaPlainTurn
namespace Go.Proofs.Ytcpepjnmjiffcaa
open Go.RowKit
set_option linter.unusedVariables false
set_option linter.unusedSimpArgs false
theorem ret_si {v v' : Value} (hv : v = v') (x : Value) : Ending.returned (.tuple #[v, x]) = .returned (.tuple #[v', x]) := by rw [hv]
/-- Behind the reader's opening: the result's block lies ahead of the reader. -/
theorem rowAt {w w' : World} {r : Nat} {o : Obj} (h : w.heap[r]? = some o) {g : Nat} (G : w.grownBy w' (some g)) (hne : r ≠ g) : w'.heap[r]? = some o :=
  (G.block r (Array.getElem?_eq_some_iff.1 h).1 (fun e => by injection e with e; exact hne e)).trans h
/-- Four stores into a block of four cells. -/
theorem row4 {w : World} {r : Nat} {x y z u a b c d : Value} {T : TypeId} (hz : w.heap[r]? = some (.cells #[x, y, z, u] T (0, 0))) :
    ((((w.setCell ⟨r, 0, none⟩ a).setCell ⟨r, 1, none⟩ b).setCell ⟨r, 2, none⟩ c).setCell ⟨r, 3, none⟩ d).heap[r]? = some (.cells #[a, b, c, d] T (0, 0)) ∧ w.grownBy ((((w.setCell ⟨r, 0, none⟩ a).setCell ⟨r, 1, none⟩ b).setCell ⟨r, 2, none⟩ c).setCell ⟨r, 3, none⟩ d) (some r) := by
  have h1 := heap_setCell_same w r 0 _ T a hz
  have h2 := heap_setCell_same _ r 1 _ T b h1
  have h3 := heap_setCell_same _ r 2 _ T c h2
  have h4 := heap_setCell_same _ r 3 _ T d h3
  refine ⟨by simpa using h4, rfl, rfl, rfl, by simp, fun k _ hk' => ?_⟩
  have hk : k ≠ r := fun e => hk' (by rw [e])
  rw [heap_setCell_other _ ⟨r, 3, none⟩ k _ hk, heap_setCell_other _ ⟨r, 2, none⟩ k _ hk, heap_setCell_other _ ⟨r, 1, none⟩ k _ hk, heap_setCell_other _ ⟨r, 0, none⟩ k _ hk]
theorem drawKeyOn_any (A : Option Addr) (n c : Nat) (xs : List Int) (w : World) (h : Row .u8 w A n c xs) :
    Calls Try.prog 21 #[.slice A n c] w fun e w' => ∃ B k d ys q, e = .returned (.tuple #[.slice B k d, .int .i64 q]) ∧ w'.ownsRow w.heap.size 39 4 (.slice B k d) k (tns ys) ∧ k ≤ 8 ∧ -120 ≤ q ∧ q ≤ 119 ∧ Below w.heap.size w w' := by
  go_enter Try.func21, Try.ntmps21
  go_wp2_with fail
  refine (open_any A n c xs w h.sl h.byte).mono ?_
  rintro e w1 ⟨rfl, R1, B1⟩
  go_wp2_with fail
  refine (turns_any _ _ 9 _ R1 (by omega) (by omega) (by omega)).mono ?_
  rintro e w2 ⟨B, k, d, ys, rfl, O, hk, p2, l1, l2, R2, G2⟩
  have T2 := B1.grown G2 B1.size (by rintro _ ⟨rfl⟩; exact Nat.le_refl _)
  have hw1 := R1.lt
  have O := own_lower O (show w.heap.size + 1 ≤ w1.heap.size by omega)
  clear R1 B1 G2
  go_wp2_with fail
  refine (pick_any _ p2 120 _ R2 (by omega) (by omega) (by omega)).mono ?_
  rintro e w3 ⟨q, rfl, q0, q1, R3, G3⟩
  have T3 := T2.grown G3 T2.size (by rintro _ ⟨rfl⟩; exact Nat.le_refl _)
  have O := O.kept G3 (by right; intro e; have := (O.lt _ e).1; omega)
  clear R2 T2 G3
  go_wp2_with fail
  refine (pick_any _ (p2 + 1) 14 _ R3 (by omega) (by omega) (by omega)).mono ?_
  rintro e w4 ⟨r, rfl, r0, r1, R4, G4⟩
  have T4 := T3.grown G4 T3.size (by rintro _ ⟨rfl⟩; exact Nat.le_refl _)
  have O := O.kept G4 (by right; intro e; have := (O.lt _ e).1; omega)
  clear R3 T3 G4 R4
  have hqd := Int.tdiv_eq_ediv_of_nonneg (b := 13) r0
  have hdw := IntWalk.i64_in (r / 13) (by omega)
  have hd : r / 13 = 0 ∨ r / 13 = 1 := by omega
  have hm := IntWalk.i64_in (r / 13 * 120) (by omega)
  have hs := IntWalk.i64_in (q - r / 13 * 120) (by omega)
  have HQ := hid (show -120 ≤ q - r / 13 * 120 ∧ q - r / 13 * 120 ≤ 119 by omega)
  clear hd
  go_wp2_with fail
  go_ret2
  exact ⟨B, k, d, ys, _, rfl, own_lower O (by omega), hk, HQ.out.1, HQ.out.2, T4⟩
set_option maxHeartbeats 1000000 in
theorem drawAddTurn_any (A : Option Addr) (n c : Nat) (xs : List Int) (w : World) (h : Row .u8 w A n c xs) :
    Calls Try.prog 27 #[.slice A n c] w fun e w' => ∃ B k d ys x a b f, e = .returned (.tuple #[.slice B k d, tnA x a b f]) ∧ w'.ownsRow w.heap.size 39 4 (.slice B k d) k (tns ys) ∧ k ≤ 8 ∧ Below w.heap.size w w' := by
  have hb := h.byte
  have hr0 : (w.alloc (.cells #[.int .i64 0, .int .i64 0, .int .i64 0, .int .i64 0] 39)).heap[w.heap.size]? = some (.cells #[.int .i64 0, .int .i64 0, .int .i64 0, .int .i64 0] 39 (0, 0)) := alloc_new' rfl
  have b0 : Below w.heap.size w (w.alloc (.cells #[.int .i64 0, .int .i64 0, .int .i64 0, .int .i64 0] 39)) := (Below.refl _ _).alloc (Nat.le_refl _) _
  have hz0 : (w.alloc (.cells #[.int .i64 0, .int .i64 0, .int .i64 0, .int .i64 0] 39)).heap.size = w.heap.size + 1 := by simp
  go_enter Try.func27, Try.ntmps27
  go_wp2_with fail
  refine (open_any A n c xs _ (h.sl.alloc _) hb).mono ?_
  rintro e w1 ⟨rfl, R1, B1⟩
  rw [hz0] at R1 B1
  have r1 := (B1.block w.heap.size (by omega)).trans hr0
  have T1 := b0.trans (B1.mono (Nat.le_succ _))
  clear B1 hr0 b0 h hb
  go_wp2_with fail
  refine (turns_any (w.heap.size + 1) _ 9 _ R1 (by omega) (by omega) (by omega)).mono ?_
  rintro e w2 ⟨B, k, d, ys, rfl, O, hk, p2, l1, l2, R2, G2⟩
  have r2 := rowAt r1 G2 (by omega)
  have T2 := T1.grown G2 T1.size (by rintro _ ⟨rfl⟩; omega)
  have hw1 := R1.lt
  have O := own_lower O (show w.heap.size + 2 ≤ w1.heap.size by omega)
  clear R1 r1 T1 G2
  go_wp2_with fail
  refine (pick_any _ p2 256 _ R2 (by omega) (by omega) (by omega)).mono ?_
  rintro e w3 ⟨q, rfl, q0, q1, R3, G3⟩
  have r3 := rowAt r2 G3 (by omega)
  have T3 := T2.grown G3 T2.size (by rintro _ ⟨rfl⟩; omega)
  have O := O.kept G3 (by right; intro e; have := (O.lt _ e).1; omega)
  clear R2 T2 G3 r2
  go_wp2_with fail
  refine (drawSign_any _ (p2 + 1) 9 _ R3 (by omega) (by omega) (by omega)).mono ?_
  rintro e w4 ⟨a, b, f, rfl, p4, l5, l6, R4, G4⟩
  have r4 := rowAt r3 G4 (by omega)
  have T4 := T3.grown G4 T3.size (by rintro _ ⟨rfl⟩; omega)
  have O4 := O.kept G4 (by right; intro e; have := (O.lt _ e).1; omega)
  clear O R3 r3 T3 G4 R4
  have f0 := frozen_of_row w4 w.heap.size 0 _ _ r4
  have f1 := frozen_of_row w4 w.heap.size 1 _ _ r4
  have f2 := frozen_of_row w4 w.heap.size 2 _ _ r4
  have f3 := frozen_of_row w4 w.heap.size 3 _ _ r4
  have c0 := cell_of_row w4 w.heap.size 0 _ _ _ r4
  have c1 := cell_of_row w4 w.heap.size 1 _ _ _ r4
  have c2 := cell_of_row w4 w.heap.size 2 _ _ _ r4
  have c3 := cell_of_row w4 w.heap.size 3 _ _ _ r4
  go_wp2
  have ks := row4 (a := .int .i64 q) (b := .int .i64 a) (c := .int .i64 b) (d := .int .i64 f) r4
  have O5 := O4.kept ks.2 (by right; intro e; have := (O4.lt _ e).1; omega)
  have T5 := T4.grown ks.2 T4.size (by rintro _ ⟨rfl⟩; exact Nat.le_refl _)
  revert ks O5 T5
  generalize ((((w4.setCell ⟨w.heap.size, 0, none⟩ (.int .i64 q)).setCell ⟨w.heap.size, 1, none⟩ (.int .i64 a)).setCell ⟨w.heap.size, 2, none⟩ (.int .i64 b)).setCell ⟨w.heap.size, 3, none⟩ (.int .i64 f)) = V
  intro ks O5 T5
  have v0 := cell_of_row V w.heap.size 0 _ _ _ ks.1
  have v1 := cell_of_row V w.heap.size 1 _ _ _ ks.1
  have v2 := cell_of_row V w.heap.size 2 _ _ _ ks.1
  have v3 := cell_of_row V w.heap.size 3 _ _ _ ks.1
  exact bodyPost_ret (v := .tuple #[.slice B k d, tnA q a b f]) (by simp [results, Try.results27, go_sem, v0, v1, v2, v3]) rfl ⟨B, k, d, ys, q, a, b, f, rfl, own_lower O5 (by omega), hk, T5⟩
end Go.Proofs.Ytcpepjnmjiffcaa
