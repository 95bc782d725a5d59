/- The contract of the draw of a key: three numbers, whatever they are. -/
import Derived.Test.YtcpepjnmjiffcaaFacts
import Derived.Test.YtcpepjnmjiffcaaKeys
namespace Go.Proofs.Ytcpepjnmjiffcaa
open Go.RowKit
set_option linter.unusedVariables false
set_option linter.unusedSimpArgs false
/-- Three stores into a block of three cells. -/
theorem key_stored {w : World} {r : Nat} {x y z a b e : Value} {T : TypeId} (hz : w.heap[r]? = some (.cells #[x, y, z] T (0, 0))) (g : Nat) :
    (((w.setCell ⟨r, 0, none⟩ a).setCell ⟨r, 1, none⟩ b).setCell ⟨r, 2, none⟩ e).heap[r]? = some (.cells #[a, b, e] T (0, 0)) ∧ w.grownBy (((w.setCell ⟨r, 0, none⟩ a).setCell ⟨r, 1, none⟩ b).setCell ⟨r, 2, none⟩ e) (some r) := by
  have h1 := heap_setCell_same w r 0 _ T a hz
  have h2 := heap_setCell_same _ r 1 _ T b h1
  have h3 := heap_setCell_same _ r 2 _ T e h2
  refine ⟨by simpa using h3, rfl, rfl, rfl, by simp, fun k _ hk' => ?_⟩
  have hk : k ≠ r := fun e => hk' (by rw [e])
  rw [heap_setCell_other _ ⟨r, 2, none⟩ k _ hk, heap_setCell_other _ ⟨r, 1, none⟩ k _ hk, heap_setCell_other _ ⟨r, 0, none⟩ k _ hk]
def IsKey (v : Value) : Prop := ∃ a b e : Int, v = keyA a b e
/-- The result's block holds three numbers. -/
def KeyAt (r : Nat) (T : TypeId) (w : World) : Prop := ∃ a b e : Int, w.heap[r]? = some (.cells #[.int .i64 a, .int .i64 b, .int .i64 e] T (0, 0))
theorem KeyAt.grown {r : Nat} {T : TypeId} {w w' : World} (h : KeyAt r T w) {row : Option Nat} (hg : w.grownBy w' row) (hne : row ≠ some r) : KeyAt r T w' := by
  obtain ⟨a, b, e, hb⟩ := h
  exact ⟨a, b, e, (hg.block r (Array.getElem?_eq_some_iff.1 hb).1 (fun e => hne e.symm)).trans hb⟩
theorem kept_store {g r : Nat} {a b : World} (h : a.grownBy b (some r)) : Kept g r a b := ⟨h.os, h.tape, h.output, h.size, fun k hk _ h2 => h.block k hk (fun e => h2 (by injection e with e))⟩
theorem kept_turn {g r : Nat} {w W0 w' : World} (G : w.grownBy W0 (some g)) (K : Kept g r W0 w') (hr : w.heap.size ≤ r) : w.grownBy w' (some g) :=
  ⟨K.os.trans G.os, K.tape.trans G.tape, K.output.trans G.output, Nat.le_trans G.size K.size, fun k hk hne => (K.block k (Nat.lt_of_lt_of_le hk G.size) (fun e => hne (by rw [e])) (by omega)).trans (G.block k hk hne)⟩
theorem turn_result {w w2 w' : World} {g r p p' k : Nat} (hr : w.heap.size ≤ r) (hg : g < r) (G : w.grownBy w2 (some g)) (R : Rd w2 g p') (S : w2.grownBy w' (some r)) (h1 : p ≤ p') (h2 : p' ≤ p + k) : Turn w w' g p k :=
  ⟨p', h1, h2, R.grown S (by rintro _ ⟨rfl⟩; exact hg), S.os.trans G.os, S.tape.trans G.tape, S.output.trans G.output, Nat.le_trans G.size S.size,
    fun k hk hne => (S.block k (Nat.lt_of_lt_of_le hk G.size) (fun e => by injection e with e; omega)).trans (G.block k hk hne)⟩
set_option maxHeartbeats 4000000 in
theorem drawSign_any (g p : Nat) (n : Int) (w : World) (h : Rd w g p) (hp : p ≤ 80000) (h1 : 0 ≤ n) (h2 : n ≤ 1048576) :
    Calls Try.prog 50 #[.pointer (some ⟨g, 0, none⟩), .int .i64 n] w fun e' w' => ∃ a b e : Int, e' = .returned (keyA a b e) ∧ Turn w w' g 0 (p + 40) := by
  go_enter Try.func50, Try.ntmps50
  go_wp2_with fail
  refine (odd_any g p n _ (h.alloc _) (by omega) h1 h2).mono ?_
  rintro e' w1 ⟨o, rfl, p1, q0, q1, R1, G1⟩
  cases o with
  | true =>
    go_wp2_with fail
    refine (pick_any g p1 6 _ (R1.alloc _) (by omega) (by omega) (by omega)).mono ?_
    rintro e' w2 ⟨q, rfl, t0, t1, R2, G2⟩
    have hg := h.lt
    have hz : w1.heap[w.heap.size]? = some (.cells #[Value.int IntKind.i64 0, Value.int IntKind.i64 0, Value.int IntKind.i64 0] 30 (0, 0)) := (G1.block _ (by simp) (fun e => by injection e with e; omega)).trans (alloc_new' rfl)
    have hlt1 := (Array.getElem?_eq_some_iff.1 hz).1
    have hz2 : w2.heap[w.heap.size]? = some (.cells #[Value.int IntKind.i64 0, Value.int IntKind.i64 0, Value.int IntKind.i64 0] 30 (0, 0)) := (G2.block _ (by simp; omega) (fun e => by injection e with e; omega)).trans (alloc_old hz)
    have hL : w2.heap[w1.heap.size]? = some (.cells #[Value.int IntKind.i64 0, Value.int IntKind.i64 0, Value.int IntKind.i64 0, Value.int IntKind.i64 61, Value.int IntKind.i64 61, Value.int IntKind.i64 17, Value.int IntKind.i64 61, Value.int IntKind.i64 53, Value.int IntKind.i64 6, Value.int IntKind.i64 60, Value.int IntKind.i64 53, Value.int IntKind.i64 17, Value.int IntKind.i64 7, Value.int IntKind.i64 53, Value.int IntKind.i64 17, Value.int IntKind.i64 61, Value.int IntKind.i64 53, Value.int IntKind.i64 1001] 30 (0, 0)) := (G2.block _ (by simp) (fun e => by injection e with e; omega)).trans (alloc_new' rfl)
    have f0 := frozen_of_row w2 w.heap.size 0 _ _ hz2
    have f1 := frozen_of_row w2 w.heap.size 1 _ _ hz2
    have f2 := frozen_of_row w2 w.heap.size 2 _ _ hz2
    have z0 := cell_of_row w2 w.heap.size 0 _ _ _ hz2
    have z1 := cell_of_row w2 w.heap.size 1 _ _ _ hz2
    have z2 := cell_of_row w2 w.heap.size 2 _ _ _ hz2
    have G : w.grownBy w2 (some g) := (World.grownBy_alloc _ _ _).trans (G1.trans ((World.grownBy_alloc _ _ _).trans G2))
    obtain rfl | rfl | rfl | rfl | rfl | rfl : q = 0 ∨ q = 1 ∨ q = 2 ∨ q = 3 ∨ q = 4 ∨ q = 5 := by omega
    · have c0 := cell_of_row w2 w1.heap.size 0 _ _ _ hL
      have c1 := cell_of_row w2 w1.heap.size 1 _ _ _ hL
      have c2 := cell_of_row w2 w1.heap.size 2 _ _ _ hL
      go_wp2_with fail
      have ks := key_stored (a := .int .i64 0) (b := .int .i64 0) (e := .int .i64 0) hz2 g
      revert ks
      generalize (((w2.setCell ⟨w.heap.size, 0, none⟩ (.int .i64 0)).setCell ⟨w.heap.size, 1, none⟩ (.int .i64 0)).setCell ⟨w.heap.size, 2, none⟩ (.int .i64 0)) = V
      intro ks
      have v0 := cell_of_row V w.heap.size 0 _ _ _ ks.1
      have v1 := cell_of_row V w.heap.size 1 _ _ _ ks.1
      have v2 := cell_of_row V w.heap.size 2 _ _ _ ks.1
      exact bodyPost_ret (v := keyA 0 0 0) (by simp [results, Try.results50, go_sem, v0, v1, v2]) rfl ⟨_, _, _, rfl, turn_result (Nat.le_refl _) hg G R2 ks.2 (by omega) (by omega)⟩
    · have c0 := cell_of_row w2 w1.heap.size 3 _ _ _ hL
      have c1 := cell_of_row w2 w1.heap.size 4 _ _ _ hL
      have c2 := cell_of_row w2 w1.heap.size 5 _ _ _ hL
      go_wp2_with fail
      have ks := key_stored (a := .int .i64 61) (b := .int .i64 61) (e := .int .i64 17) hz2 g
      revert ks
      generalize (((w2.setCell ⟨w.heap.size, 0, none⟩ (.int .i64 61)).setCell ⟨w.heap.size, 1, none⟩ (.int .i64 61)).setCell ⟨w.heap.size, 2, none⟩ (.int .i64 17)) = V
      intro ks
      have v0 := cell_of_row V w.heap.size 0 _ _ _ ks.1
      have v1 := cell_of_row V w.heap.size 1 _ _ _ ks.1
      have v2 := cell_of_row V w.heap.size 2 _ _ _ ks.1
      exact bodyPost_ret (v := keyA 61 61 17) (by simp [results, Try.results50, go_sem, v0, v1, v2]) rfl ⟨_, _, _, rfl, turn_result (Nat.le_refl _) hg G R2 ks.2 (by omega) (by omega)⟩
    · have c0 := cell_of_row w2 w1.heap.size 6 _ _ _ hL
      have c1 := cell_of_row w2 w1.heap.size 7 _ _ _ hL
      have c2 := cell_of_row w2 w1.heap.size 8 _ _ _ hL
      go_wp2_with fail
      have ks := key_stored (a := .int .i64 61) (b := .int .i64 53) (e := .int .i64 6) hz2 g
      revert ks
      generalize (((w2.setCell ⟨w.heap.size, 0, none⟩ (.int .i64 61)).setCell ⟨w.heap.size, 1, none⟩ (.int .i64 53)).setCell ⟨w.heap.size, 2, none⟩ (.int .i64 6)) = V
      intro ks
      have v0 := cell_of_row V w.heap.size 0 _ _ _ ks.1
      have v1 := cell_of_row V w.heap.size 1 _ _ _ ks.1
      have v2 := cell_of_row V w.heap.size 2 _ _ _ ks.1
      exact bodyPost_ret (v := keyA 61 53 6) (by simp [results, Try.results50, go_sem, v0, v1, v2]) rfl ⟨_, _, _, rfl, turn_result (Nat.le_refl _) hg G R2 ks.2 (by omega) (by omega)⟩
    · have c0 := cell_of_row w2 w1.heap.size 9 _ _ _ hL
      have c1 := cell_of_row w2 w1.heap.size 10 _ _ _ hL
      have c2 := cell_of_row w2 w1.heap.size 11 _ _ _ hL
      go_wp2_with fail
      have ks := key_stored (a := .int .i64 60) (b := .int .i64 53) (e := .int .i64 17) hz2 g
      revert ks
      generalize (((w2.setCell ⟨w.heap.size, 0, none⟩ (.int .i64 60)).setCell ⟨w.heap.size, 1, none⟩ (.int .i64 53)).setCell ⟨w.heap.size, 2, none⟩ (.int .i64 17)) = V
      intro ks
      have v0 := cell_of_row V w.heap.size 0 _ _ _ ks.1
      have v1 := cell_of_row V w.heap.size 1 _ _ _ ks.1
      have v2 := cell_of_row V w.heap.size 2 _ _ _ ks.1
      exact bodyPost_ret (v := keyA 60 53 17) (by simp [results, Try.results50, go_sem, v0, v1, v2]) rfl ⟨_, _, _, rfl, turn_result (Nat.le_refl _) hg G R2 ks.2 (by omega) (by omega)⟩
    · have c0 := cell_of_row w2 w1.heap.size 12 _ _ _ hL
      have c1 := cell_of_row w2 w1.heap.size 13 _ _ _ hL
      have c2 := cell_of_row w2 w1.heap.size 14 _ _ _ hL
      go_wp2_with fail
      have ks := key_stored (a := .int .i64 7) (b := .int .i64 53) (e := .int .i64 17) hz2 g
      revert ks
      generalize (((w2.setCell ⟨w.heap.size, 0, none⟩ (.int .i64 7)).setCell ⟨w.heap.size, 1, none⟩ (.int .i64 53)).setCell ⟨w.heap.size, 2, none⟩ (.int .i64 17)) = V
      intro ks
      have v0 := cell_of_row V w.heap.size 0 _ _ _ ks.1
      have v1 := cell_of_row V w.heap.size 1 _ _ _ ks.1
      have v2 := cell_of_row V w.heap.size 2 _ _ _ ks.1
      exact bodyPost_ret (v := keyA 7 53 17) (by simp [results, Try.results50, go_sem, v0, v1, v2]) rfl ⟨_, _, _, rfl, turn_result (Nat.le_refl _) hg G R2 ks.2 (by omega) (by omega)⟩
    · have c0 := cell_of_row w2 w1.heap.size 15 _ _ _ hL
      have c1 := cell_of_row w2 w1.heap.size 16 _ _ _ hL
      have c2 := cell_of_row w2 w1.heap.size 17 _ _ _ hL
      go_wp2_with fail
      have ks := key_stored (a := .int .i64 61) (b := .int .i64 53) (e := .int .i64 1001) hz2 g
      revert ks
      generalize (((w2.setCell ⟨w.heap.size, 0, none⟩ (.int .i64 61)).setCell ⟨w.heap.size, 1, none⟩ (.int .i64 53)).setCell ⟨w.heap.size, 2, none⟩ (.int .i64 1001)) = V
      intro ks
      have v0 := cell_of_row V w.heap.size 0 _ _ _ ks.1
      have v1 := cell_of_row V w.heap.size 1 _ _ _ ks.1
      have v2 := cell_of_row V w.heap.size 2 _ _ _ ks.1
      exact bodyPost_ret (v := keyA 61 53 1001) (by simp [results, Try.results50, go_sem, v0, v1, v2]) rfl ⟨_, _, _, rfl, turn_result (Nat.le_refl _) hg G R2 ks.2 (by omega) (by omega)⟩
  | false =>
    have hg := h.lt
    have hne : some g ≠ some w.heap.size := fun e => by injection e with e; omega
    have hz : w1.heap[w.heap.size]? = some (.cells #[Value.int IntKind.i64 0, Value.int IntKind.i64 0, Value.int IntKind.i64 0] 30 (0, 0)) := (G1.block _ (by simp) (fun e => by injection e with e; omega)).trans (alloc_new' rfl)
    have hlt1 := (Array.getElem?_eq_some_iff.1 hz).1
    have hz0 : KeyAt w.heap.size 30 w1.drew := ⟨0, 0, 0, hz⟩
    clear hz
    go_wp2_with fail
    have next : ∀ k w', (fun k w' => ∃ p', p' ≤ p1 + 1 * k ∧ Rd w' g p' ∧ Kept g w.heap.size w1 w' ∧ KeyAt w.heap.size 30 w') k w' → (fun k w' => ∃ p', p' ≤ p1 + 1 * k ∧ Rd w' g p' ∧ Kept g w.heap.size w1 w' ∧ KeyAt w.heap.size 30 w') (k + 1) w' := fun k w' ⟨p', hp, h⟩ => ⟨p', by omega, h⟩
    refine wp_region_steps (W := fun k w' => ∃ p', p' ≤ p1 + 1 * k ∧ Rd w' g p' ∧ Kept g w.heap.size w1 w' ∧ KeyAt w.heap.size 30 w') (Tr := fun a b => Kept g w.heap.size a b) (F := fun i v w' => match i with
        | 0 => IsLit g w.heap.size 4 (IsI 11 997) 3 v w'
        | 1 => v = .pointer (some ⟨g, 0, none⟩)
        | 2 => IsI 0 3 v
        | 3 => IsAt g w.heap.size (IsI 11 997) v w'
        | 4 => IsI 11 997 v
        | 5 => IsLit g w.heap.size 4 (IsI 13 991) 3 v w'
        | 6 => v = .pointer (some ⟨g, 0, none⟩)
        | 7 => IsI 0 3 v
        | 8 => IsAt g w.heap.size (IsI 13 991) v w'
        | 9 => IsI 13 991 v
        | 10 => IsLit g w.heap.size 4 (IsI 7 37) 3 v w'
        | 11 => v = .pointer (some ⟨g, 0, none⟩)
        | 12 => IsI 0 3 v
        | 13 => IsAt g w.heap.size (IsI 7 37) v w'
        | 14 => IsI 7 37 v
        | 15 => IsKey v
        | _ => True) (by kernel_rfl) (by kernel_rfl) ?_ ?_ ?_ ?_
    · exact ⟨p1, by omega, R1.drewN 1, Kept.drew _ _ _, hz0⟩
    · intro k a b i v hW hT hF
      match i with
      | 0 => exact IsLit.kept hF hT
      | 1 => exact hF
      | 2 => exact hF
      | 3 => exact IsAt.kept hF hT
      | 4 => exact hF
      | 5 => exact IsLit.kept hF hT
      | 6 => exact hF
      | 7 => exact hF
      | 8 => exact IsAt.kept hF hT
      | 9 => exact hF
      | 10 => exact IsLit.kept hF hT
      | 11 => exact hF
      | 12 => exact hF
      | 13 => exact IsAt.kept hF hT
      | 14 => exact hF
      | 15 => exact hF
      | 16 => exact hF
      | _ + 17 => trivial
    · refine ⟨fun k ρ u hk hc hf hb hW hd => ?_, ?_⟩
      · have hk : k < 17 := hk
        obtain ⟨p', hp, hR, hG⟩ := hW
        have hz' := hG.1.size
        have hz := hR.lt
        clear hd hb
        refine yield_value (w' := u.alloc (.cells #[.int .i64 61, .int .i64 59, .int .i64 997, .int .i64 11] 3)) (.slice (some ⟨u.heap.size, 0, none⟩) 4 4) (by simp [go_sem, hc, hf]) ⟨⟨u.heap.size, [.int .i64 61, .int .i64 59, .int .i64 997, .int .i64 11], rfl, by omega, by omega, alloc_new rfl, rfl, ?_⟩, ⟨p', by omega, hR.alloc _, ⟨hG.1.trans (Kept.alloc _ _ _ _), hG.2.grown (World.grownBy_alloc _ _ (some g)) hne⟩⟩, Kept.alloc _ _ _ _⟩
        simp only [List.forall_mem_cons]
        exact ⟨⟨_, rfl, by omega, by omega⟩, ⟨_, rfl, by omega, by omega⟩, ⟨_, rfl, by omega, by omega⟩, ⟨_, rfl, by omega, by omega⟩, fun _ h => by cases h⟩
      refine ⟨fun k ρ u hk hc hf hb hW hd => ?_, ?_⟩
      · have hk : k < 17 := hk
        exact yield_move _ rfl ⟨hb 0 (by kernel_rfl), next _ _ hW, Kept.refl _ _ _⟩
      refine ⟨fun k ρ u hk hc hf hb hW hd => ?_, ?_⟩
      · have hk : k < 17 := hk
        have e0 : (ρ (.tmp 20)) = .pointer (some ⟨g, 0, none⟩) := hd.1 rfl rfl
        obtain ⟨p', hp, hR, hG⟩ := hW
        clear hd hb
        refine yield_call 46 #[.pointer (some ⟨g, 0, none⟩), .int .i64 4] (by simp [go_sem, hc, hf, e0]) ?_
        refine (pick_any _ _ _ _ hR (by omega) (by omega) (by omega) ).mono ?_
        rintro e w3 ⟨q, rfl, q0, q1, R3, G3⟩
        exact ⟨_, rfl, ⟨q, rfl, q0, by omega⟩, ⟨p' + 1, by omega, R3, ⟨hG.1.trans (.of G3), hG.2.grown G3 hne⟩⟩, .of G3⟩
      refine ⟨fun k ρ u hk hc hf hb hW hd => ?_, ?_⟩
      · have hk : k < 17 := hk
        have e0 : IsLit g w.heap.size 4 (IsI 11 997) 3 (ρ (.tmp 19)) u := hd.1 rfl rfl
        obtain ⟨q1, e1, l1, u1⟩ : IsI 0 3 (ρ (.tmp 21)) := hd.2.1 rfl rfl
        clear hd hb
        obtain ⟨B, eB, hA⟩ := IsLit.at e0 (q := q1) (by omega) (by omega)
        clear e0
        exact yield_value (w' := u) _ (by simp [go_sem, hc, hf, eB, e1, IntWalk.i64_in, show q1 < 4 by omega, l1]) ⟨hA, next _ _ hW, Kept.refl _ _ _⟩
      refine ⟨fun k ρ u hk hc hf hb hW hd => ?_, ?_⟩
      · have hk : k < 17 := hk
        have e0 : IsAt g w.heap.size (IsI 11 997) (ρ (.tmp 22)) u := hd.1 rfl rfl
        obtain ⟨B, j, x, eB, _, _, hx, hq⟩ := e0
        clear hd hb
        obtain ⟨q, rfl, hq⟩ := hq
        exact yield_value (w' := u) _ (by simp [go_sem, hc, hf, eB, hx]) ⟨⟨q, rfl, hq⟩, next _ _ hW, Kept.refl _ _ _⟩
      refine ⟨fun k ρ u hk hc hf hb hW hd => ?_, ?_⟩
      · have hk : k < 17 := hk
        obtain ⟨p', hp, hR, hG⟩ := hW
        have hz' := hG.1.size
        have hz := hR.lt
        clear hd hb
        refine yield_value (w' := u.alloc (.cells #[.int .i64 53, .int .i64 47, .int .i64 991, .int .i64 13] 3)) (.slice (some ⟨u.heap.size, 0, none⟩) 4 4) (by simp [go_sem, hc, hf]) ⟨⟨u.heap.size, [.int .i64 53, .int .i64 47, .int .i64 991, .int .i64 13], rfl, by omega, by omega, alloc_new rfl, rfl, ?_⟩, ⟨p', by omega, hR.alloc _, ⟨hG.1.trans (Kept.alloc _ _ _ _), hG.2.grown (World.grownBy_alloc _ _ (some g)) hne⟩⟩, Kept.alloc _ _ _ _⟩
        simp only [List.forall_mem_cons]
        exact ⟨⟨_, rfl, by omega, by omega⟩, ⟨_, rfl, by omega, by omega⟩, ⟨_, rfl, by omega, by omega⟩, ⟨_, rfl, by omega, by omega⟩, fun _ h => by cases h⟩
      refine ⟨fun k ρ u hk hc hf hb hW hd => ?_, ?_⟩
      · have hk : k < 17 := hk
        exact yield_move _ rfl ⟨hb 0 (by kernel_rfl), next _ _ hW, Kept.refl _ _ _⟩
      refine ⟨fun k ρ u hk hc hf hb hW hd => ?_, ?_⟩
      · have hk : k < 17 := hk
        have e0 : (ρ (.tmp 25)) = .pointer (some ⟨g, 0, none⟩) := hd.1 rfl rfl
        obtain ⟨p', hp, hR, hG⟩ := hW
        clear hd hb
        refine yield_call 46 #[.pointer (some ⟨g, 0, none⟩), .int .i64 4] (by simp [go_sem, hc, hf, e0]) ?_
        refine (pick_any _ _ _ _ hR (by omega) (by omega) (by omega) ).mono ?_
        rintro e w3 ⟨q, rfl, q0, q1, R3, G3⟩
        exact ⟨_, rfl, ⟨q, rfl, q0, by omega⟩, ⟨p' + 1, by omega, R3, ⟨hG.1.trans (.of G3), hG.2.grown G3 hne⟩⟩, .of G3⟩
      refine ⟨fun k ρ u hk hc hf hb hW hd => ?_, ?_⟩
      · have hk : k < 17 := hk
        have e0 : IsLit g w.heap.size 4 (IsI 13 991) 3 (ρ (.tmp 24)) u := hd.1 rfl rfl
        obtain ⟨q1, e1, l1, u1⟩ : IsI 0 3 (ρ (.tmp 26)) := hd.2.1 rfl rfl
        clear hd hb
        obtain ⟨B, eB, hA⟩ := IsLit.at e0 (q := q1) (by omega) (by omega)
        clear e0
        exact yield_value (w' := u) _ (by simp [go_sem, hc, hf, eB, e1, IntWalk.i64_in, show q1 < 4 by omega, l1]) ⟨hA, next _ _ hW, Kept.refl _ _ _⟩
      refine ⟨fun k ρ u hk hc hf hb hW hd => ?_, ?_⟩
      · have hk : k < 17 := hk
        have e0 : IsAt g w.heap.size (IsI 13 991) (ρ (.tmp 27)) u := hd.1 rfl rfl
        obtain ⟨B, j, x, eB, _, _, hx, hq⟩ := e0
        clear hd hb
        obtain ⟨q, rfl, hq⟩ := hq
        exact yield_value (w' := u) _ (by simp [go_sem, hc, hf, eB, hx]) ⟨⟨q, rfl, hq⟩, next _ _ hW, Kept.refl _ _ _⟩
      refine ⟨fun k ρ u hk hc hf hb hW hd => ?_, ?_⟩
      · have hk : k < 17 := hk
        obtain ⟨p', hp, hR, hG⟩ := hW
        have hz' := hG.1.size
        have hz := hR.lt
        clear hd hb
        refine yield_value (w' := u.alloc (.cells #[.int .i64 17, .int .i64 7, .int .i64 19, .int .i64 37] 3)) (.slice (some ⟨u.heap.size, 0, none⟩) 4 4) (by simp [go_sem, hc, hf]) ⟨⟨u.heap.size, [.int .i64 17, .int .i64 7, .int .i64 19, .int .i64 37], rfl, by omega, by omega, alloc_new rfl, rfl, ?_⟩, ⟨p', by omega, hR.alloc _, ⟨hG.1.trans (Kept.alloc _ _ _ _), hG.2.grown (World.grownBy_alloc _ _ (some g)) hne⟩⟩, Kept.alloc _ _ _ _⟩
        simp only [List.forall_mem_cons]
        exact ⟨⟨_, rfl, by omega, by omega⟩, ⟨_, rfl, by omega, by omega⟩, ⟨_, rfl, by omega, by omega⟩, ⟨_, rfl, by omega, by omega⟩, fun _ h => by cases h⟩
      refine ⟨fun k ρ u hk hc hf hb hW hd => ?_, ?_⟩
      · have hk : k < 17 := hk
        exact yield_move _ rfl ⟨hb 0 (by kernel_rfl), next _ _ hW, Kept.refl _ _ _⟩
      refine ⟨fun k ρ u hk hc hf hb hW hd => ?_, ?_⟩
      · have hk : k < 17 := hk
        have e0 : (ρ (.tmp 30)) = .pointer (some ⟨g, 0, none⟩) := hd.1 rfl rfl
        obtain ⟨p', hp, hR, hG⟩ := hW
        clear hd hb
        refine yield_call 46 #[.pointer (some ⟨g, 0, none⟩), .int .i64 4] (by simp [go_sem, hc, hf, e0]) ?_
        refine (pick_any _ _ _ _ hR (by omega) (by omega) (by omega) ).mono ?_
        rintro e w3 ⟨q, rfl, q0, q1, R3, G3⟩
        exact ⟨_, rfl, ⟨q, rfl, q0, by omega⟩, ⟨p' + 1, by omega, R3, ⟨hG.1.trans (.of G3), hG.2.grown G3 hne⟩⟩, .of G3⟩
      refine ⟨fun k ρ u hk hc hf hb hW hd => ?_, ?_⟩
      · have hk : k < 17 := hk
        have e0 : IsLit g w.heap.size 4 (IsI 7 37) 3 (ρ (.tmp 29)) u := hd.1 rfl rfl
        obtain ⟨q1, e1, l1, u1⟩ : IsI 0 3 (ρ (.tmp 31)) := hd.2.1 rfl rfl
        clear hd hb
        obtain ⟨B, eB, hA⟩ := IsLit.at e0 (q := q1) (by omega) (by omega)
        clear e0
        exact yield_value (w' := u) _ (by simp [go_sem, hc, hf, eB, e1, IntWalk.i64_in, show q1 < 4 by omega, l1]) ⟨hA, next _ _ hW, Kept.refl _ _ _⟩
      refine ⟨fun k ρ u hk hc hf hb hW hd => ?_, ?_⟩
      · have hk : k < 17 := hk
        have e0 : IsAt g w.heap.size (IsI 7 37) (ρ (.tmp 32)) u := hd.1 rfl rfl
        obtain ⟨B, j, x, eB, _, _, hx, hq⟩ := e0
        clear hd hb
        obtain ⟨q, rfl, hq⟩ := hq
        exact yield_value (w' := u) _ (by simp [go_sem, hc, hf, eB, hx]) ⟨⟨q, rfl, hq⟩, next _ _ hW, Kept.refl _ _ _⟩
      refine ⟨fun k ρ u hk hc hf hb hW hd => ?_, ?_⟩
      · have hk : k < 17 := hk
        obtain ⟨q0, e0, l0, u0⟩ : IsI 11 997 (ρ (.tmp 23)) := hd.1 rfl rfl
        obtain ⟨q1, e1, l1, u1⟩ : IsI 13 991 (ρ (.tmp 28)) := hd.2.1 rfl rfl
        obtain ⟨q2, e2, l2, u2⟩ : IsI 7 37 (ρ (.tmp 33)) := hd.2.2.1 rfl rfl
        clear hd hb
        exact yield_value (w' := u) (.agg #[.int .i64 q0, .int .i64 q1, .int .i64 q2]) (by simp [go_sem, hc, hf, e0, e1, e2]) ⟨⟨_, _, _, rfl⟩, next _ _ hW, Kept.refl _ _ _⟩
      refine ⟨fun k ρ u hk hc hf hb hW hd => ?_, ?_⟩
      · have hk : k < 17 := hk
        have e0 : (ρ (.tmp 4)) = .pointer (some ⟨w.heap.size, 0, none⟩) := hb 4 (by kernel_rfl)
        have e1 : IsKey (ρ (.tmp 34)) := hd.1 rfl rfl
        obtain ⟨a, b, e, e1⟩ := e1
        obtain ⟨p', hp, hR, hG, x, y, z, hX⟩ := hW
        have f0 := frozen_of_row u w.heap.size 0 _ _ hX
        have f1 := frozen_of_row u w.heap.size 1 _ _ hX
        have f2 := frozen_of_row u w.heap.size 2 _ _ hX
        have z0 := cell_of_row u w.heap.size 0 _ _ _ hX
        have z1 := cell_of_row u w.heap.size 1 _ _ _ hX
        have z2 := cell_of_row u w.heap.size 2 _ _ _ hX
        have ks := key_stored (a := .int .i64 a) (b := .int .i64 b) (e := .int .i64 e) hX g
        clear hd hb
        have hS := kept_store (g := g) ks.2
        unfold Yield
        simp [go_sem, hc, hf, e0, e1, f0, f1, f2, z0, z1, z2]
        exact ⟨⟨p', by omega, hR.grown ks.2 (by rintro _ ⟨rfl⟩; exact hg), hG.trans hS, ⟨a, b, e, ks.1⟩⟩, hS⟩
      trivial
    intro env w' hW hF
    obtain ⟨p', hp, hR, hG, hX⟩ := hW
    replace hp : p' ≤ p1 + 1 * 17 := hp
    clear hF next
    have hr : List.range 35 = [0, 1, 2, 3, 4, 5, 6, 7, 8, 9, 10, 11, 12, 13, 14, 15, 16, 17, 18, 19, 20, 21, 22, 23, 24, 25, 26, 27, 28, 29, 30, 31, 32, 33, 34] := rfl
    unfold after
    simp only [List.size_toArray, List.length_cons, List.length_nil, Nat.reduceAdd, hr, List.map_cons, List.map_nil]
    simp [idxOf, List.findIdx?, List.findIdx?.go]
    clear hr
    obtain ⟨a, b, e, hX⟩ := hX
    have v0 := cell_of_row w' w.heap.size 0 _ _ _ hX
    have v1 := cell_of_row w' w.heap.size 1 _ _ _ hX
    have v2 := cell_of_row w' w.heap.size 2 _ _ _ hX
    have Gw1 : w.grownBy w1 (some g) := (World.grownBy_alloc _ _ _).trans G1
    go_wp2
    exact bodyPost_ret (v := keyA a b e) (by simp [results, Try.results50, go_sem, v0, v1, v2]) rfl ⟨_, _, _, rfl, p', Nat.zero_le _, by omega, hR, kept_turn Gw1 hG (Nat.le_refl _)⟩
end Go.Proofs.Ytcpepjnmjiffcaa
