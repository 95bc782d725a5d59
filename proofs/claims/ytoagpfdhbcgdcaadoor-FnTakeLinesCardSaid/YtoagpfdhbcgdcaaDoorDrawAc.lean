/- The contracts of the draws of activities. -/
import Derived.Test.YtoagpfdhbcgdcaaDoorActivityMem
import Derived.Test.YtoagpfdhbcgdcaaDoorG3
namespace Go.Proofs.YtoagpfdhbcgdcaaDoor
open Go.RowKit
set_option linter.unusedVariables false
set_option linter.unusedSimpArgs false
set_option maxHeartbeats 1000000 in
/-- Five stores into a block of five cells. -/
theorem row5 {w : World} {r : Nat} {x y z u v a b c d e : Value} {T : TypeId} (hz : w.heap[r]? = some (.cells #[x, y, z, u, v] T (0, 0))) :
    (((((w.setCell ⟨r, 0, none⟩ a).setCell ⟨r, 1, none⟩ b).setCell ⟨r, 2, none⟩ c).setCell ⟨r, 3, none⟩ d).setCell ⟨r, 4, none⟩ e).heap[r]? = some (.cells #[a, b, c, d, e] T (0, 0)) ∧ w.grownBy (((((w.setCell ⟨r, 0, none⟩ a).setCell ⟨r, 1, none⟩ b).setCell ⟨r, 2, none⟩ c).setCell ⟨r, 3, none⟩ d).setCell ⟨r, 4, none⟩ e) (some r) := by
  have h1 : (w.setCell ⟨r, 0, none⟩ a).heap[r]? = some (.cells #[a, y, z, u, v] T (0, 0)) := by simpa using heap_setCell_same w r 0 _ T a hz
  have h2 := heap_setCell_same _ r 1 _ T b h1
  have h3 := heap_setCell_same _ r 2 _ T c h2
  have h4 := heap_setCell_same _ r 3 _ T d h3
  have h5 := heap_setCell_same _ r 4 _ T e h4
  refine ⟨h5, rfl, rfl, rfl, by simp, fun k _ hk' => ?_⟩
  have hk : k ≠ r := fun e => hk' (by rw [e])
  rw [heap_setCell_other _ ⟨r, 4, none⟩ k _ hk, heap_setCell_other _ ⟨r, 3, none⟩ k _ hk, heap_setCell_other _ ⟨r, 2, none⟩ k _ hk, heap_setCell_other _ ⟨r, 1, none⟩ k _ hk, heap_setCell_other _ ⟨r, 0, none⟩ k _ hk]
theorem turn_rows {w w2 w' : World} {g p r : Nat} (hw : w.heap.size ≤ r) (hg : g < r) (G : w.grownBy w2 (some g)) (R : Rd w2 g p) (S : w2.grownBy w' (some r)) : Rd w' g p ∧ w.grownBy w' (some g) :=
  ⟨R.grown S (by rintro _ ⟨rfl⟩; exact hg), S.os.trans G.os, S.tape.trans G.tape, S.output.trans G.output, Nat.le_trans G.size S.size,
    fun k hk hne => (S.block k (Nat.lt_of_lt_of_le hk G.size) (fun e => by injection e with e; omega)).trans (G.block k hk hne)⟩
def IsAc (v : Value) : Prop := ∃ (k m : Int) (a b s : ByteArray), v = acA k m a b s ∧ a.size ≤ 200 ∧ b.size ≤ 200 ∧ s.size ≤ 200
def AcAt (r : Nat) (w : World) : Prop := ∃ (k m : Int) (a b s : ByteArray), w.heap[r]? = some (.cells #[.int .i64 k, .int .i64 m, .string a, .string b, .string s] 30 (0, 0)) ∧ a.size ≤ 200 ∧ b.size ≤ 200 ∧ s.size ≤ 200
theorem AcAt.grown {r : Nat} {w w' : World} (h : AcAt r w) {row : Option Nat} (hg : w.grownBy w' row) (hne : row ≠ some r) : AcAt r w' := by
  obtain ⟨k, m, a, b, s, hb, hs⟩ := h
  exact ⟨k, m, a, b, s, (hg.block r (Array.getElem?_eq_some_iff.1 hb).1 (fun e => hne e.symm)).trans hb, hs⟩
set_option maxRecDepth 4000 in
set_option maxHeartbeats 4000000 in
theorem activity_any (g p : Nat) (n : Int) (w : World) (h : Rd w g p) (hp : p ≤ 70000) (h1 : 0 ≤ n) (h2 : n ≤ 1048576) :
    Calls Tryd.prog 29 #[.pointer (some ⟨g, 0, none⟩), .int .i64 n] w fun e' w' => ∃ (k m : Int) (a b s : ByteArray), e' = .returned (acA k m a b s) ∧ a.size ≤ 200 ∧ b.size ≤ 200 ∧ s.size ≤ 200 ∧ Turn w w' g 0 (p + 530) := by
  have hgl := h.lt
  have hz0 : (w.alloc (.cells #[.int .i64 0, .int .i64 0, .string ⟨#[]⟩, .string ⟨#[]⟩, .string ⟨#[]⟩] 30)).heap[w.heap.size]? = some (.cells #[.int .i64 0, .int .i64 0, .string ⟨#[]⟩, .string ⟨#[]⟩, .string ⟨#[]⟩] 30 (0, 0)) := alloc_new' rfl
  have G0 : w.grownBy (w.alloc (.cells #[.int .i64 0, .int .i64 0, .string ⟨#[]⟩, .string ⟨#[]⟩, .string ⟨#[]⟩] 30)) (some g) := World.grownBy_alloc _ _ _
  go_enter Tryd.func29, Tryd.ntmps29
  go_wp2_with fail
  refine (odd_any g p n _ (h.alloc _) (by omega) h1 h2).mono ?_
  rintro e' w1 ⟨o, rfl, p1, q0, q1, R1, G1⟩
  have r1 := (G1.block _ (Array.getElem?_eq_some_iff.1 hz0).1 (fun e => by injection e with e; omega)).trans hz0
  have G1 := G0.trans G1
  have z1 := (Array.getElem?_eq_some_iff.1 r1).1
  clear hz0 G0 h
  cases o with
  | true =>
    go_wp2_with fail
    refine (pick_any g p1 5 _ (R1.alloc _) (by omega) (by omega) (by omega)).mono ?_
    rintro e' w2 ⟨q, rfl, t0, t1, R2, G2⟩
    have hL : w2.heap[w1.heap.size]? = some (.cells #[.int .i64 0, .int .i64 0, .string ⟨#[]⟩, .string ⟨#[]⟩, .string ⟨#[]⟩, .int .i64 (-1), .int .i64 0, .string ⟨#[97]⟩, .string ⟨#[98]⟩, .string ⟨#[99]⟩, .int .i64 6, .int .i64 0, .string ⟨#[97]⟩, .string ⟨#[98]⟩, .string ⟨#[99]⟩, .int .i64 0, .int .i64 0, .string ⟨#[97]⟩, .string ⟨#[98]⟩, .string ⟨#[]⟩, .int .i64 0, .int .i64 (-1), .string ⟨#[97]⟩, .string ⟨#[98]⟩, .string ⟨#[99]⟩] 30 (0, 0)) := (G2.block _ (by simp) (fun e => by injection e with e; have := R1.lt; omega)).trans (alloc_new' rfl)
    have G3 := (World.grownBy_alloc w1 (.cells #[.int .i64 0, .int .i64 0, .string ⟨#[]⟩, .string ⟨#[]⟩, .string ⟨#[]⟩, .int .i64 (-1), .int .i64 0, .string ⟨#[97]⟩, .string ⟨#[98]⟩, .string ⟨#[99]⟩, .int .i64 6, .int .i64 0, .string ⟨#[97]⟩, .string ⟨#[98]⟩, .string ⟨#[99]⟩, .int .i64 0, .int .i64 0, .string ⟨#[97]⟩, .string ⟨#[98]⟩, .string ⟨#[]⟩, .int .i64 0, .int .i64 (-1), .string ⟨#[97]⟩, .string ⟨#[98]⟩, .string ⟨#[99]⟩] 30) (some g)).trans G2
    have r2 := (G3.block _ z1 (fun e => by injection e with e; omega)).trans r1
    have G2 := G1.trans G3
    clear G3 R1 r1 G1
    have f0 := frozen_of_row w2 w.heap.size 0 _ _ r2
    have f1 := frozen_of_row w2 w.heap.size 1 _ _ r2
    have f2 := frozen_of_row w2 w.heap.size 2 _ _ r2
    have f3 := frozen_of_row w2 w.heap.size 3 _ _ r2
    have f4 := frozen_of_row w2 w.heap.size 4 _ _ r2
    have y0 := cell_of_row w2 w.heap.size 0 _ _ _ r2
    have y1 := cell_of_row w2 w.heap.size 1 _ _ _ r2
    have y2 := cell_of_row w2 w.heap.size 2 _ _ _ r2
    have y3 := cell_of_row w2 w.heap.size 3 _ _ _ r2
    have y4 := cell_of_row w2 w.heap.size 4 _ _ _ r2
    obtain rfl | rfl | rfl | rfl | rfl : q = 0 ∨ q = 1 ∨ q = 2 ∨ q = 3 ∨ q = 4 := by omega
    · have c0 := cell_of_row w2 w1.heap.size 0 _ _ _ hL
      have c1 := cell_of_row w2 w1.heap.size 1 _ _ _ hL
      have c2 := cell_of_row w2 w1.heap.size 2 _ _ _ hL
      have c3 := cell_of_row w2 w1.heap.size 3 _ _ _ hL
      have c4 := cell_of_row w2 w1.heap.size 4 _ _ _ hL
      go_wp2_with fail
      have ks := row5 (a := (.int .i64 0)) (b := (.int .i64 0)) (c := (.string ⟨#[]⟩)) (d := (.string ⟨#[]⟩)) (e := (.string ⟨#[]⟩)) r2
      have hRG := turn_rows (Nat.le_refl _) hgl G2 R2 ks.2
      revert ks hRG
      generalize (((((w2.setCell ⟨w.heap.size, 0, none⟩ (.int .i64 0)).setCell ⟨w.heap.size, 1, none⟩ (.int .i64 0)).setCell ⟨w.heap.size, 2, none⟩ (.string ⟨#[]⟩)).setCell ⟨w.heap.size, 3, none⟩ (.string ⟨#[]⟩)).setCell ⟨w.heap.size, 4, none⟩ (.string ⟨#[]⟩)) = U
      intro ks hRG
      have v0 := cell_of_row U w.heap.size 0 _ _ _ ks.1
      have v1 := cell_of_row U w.heap.size 1 _ _ _ ks.1
      have v2 := cell_of_row U w.heap.size 2 _ _ _ ks.1
      have v3 := cell_of_row U w.heap.size 3 _ _ _ ks.1
      have v4 := cell_of_row U w.heap.size 4 _ _ _ ks.1
      exact bodyPost_ret (v := acA 0 0 ⟨#[]⟩ ⟨#[]⟩ ⟨#[]⟩) (by simp [results, Tryd.results29, go_sem, v0, v1, v2, v3, v4]) rfl ⟨_, _, _, _, _, rfl, by decide, by decide, by decide, p1 + 1, Nat.zero_le _, by omega, hRG.1, hRG.2⟩
    · have c0 := cell_of_row w2 w1.heap.size 5 _ _ _ hL
      have c1 := cell_of_row w2 w1.heap.size 6 _ _ _ hL
      have c2 := cell_of_row w2 w1.heap.size 7 _ _ _ hL
      have c3 := cell_of_row w2 w1.heap.size 8 _ _ _ hL
      have c4 := cell_of_row w2 w1.heap.size 9 _ _ _ hL
      go_wp2_with fail
      have ks := row5 (a := (.int .i64 (-1))) (b := (.int .i64 0)) (c := (.string ⟨#[97]⟩)) (d := (.string ⟨#[98]⟩)) (e := (.string ⟨#[99]⟩)) r2
      have hRG := turn_rows (Nat.le_refl _) hgl G2 R2 ks.2
      revert ks hRG
      generalize (((((w2.setCell ⟨w.heap.size, 0, none⟩ (.int .i64 (-1))).setCell ⟨w.heap.size, 1, none⟩ (.int .i64 0)).setCell ⟨w.heap.size, 2, none⟩ (.string ⟨#[97]⟩)).setCell ⟨w.heap.size, 3, none⟩ (.string ⟨#[98]⟩)).setCell ⟨w.heap.size, 4, none⟩ (.string ⟨#[99]⟩)) = U
      intro ks hRG
      have v0 := cell_of_row U w.heap.size 0 _ _ _ ks.1
      have v1 := cell_of_row U w.heap.size 1 _ _ _ ks.1
      have v2 := cell_of_row U w.heap.size 2 _ _ _ ks.1
      have v3 := cell_of_row U w.heap.size 3 _ _ _ ks.1
      have v4 := cell_of_row U w.heap.size 4 _ _ _ ks.1
      exact bodyPost_ret (v := acA (-1) 0 ⟨#[97]⟩ ⟨#[98]⟩ ⟨#[99]⟩) (by simp [results, Tryd.results29, go_sem, v0, v1, v2, v3, v4]) rfl ⟨_, _, _, _, _, rfl, by decide, by decide, by decide, p1 + 1, Nat.zero_le _, by omega, hRG.1, hRG.2⟩
    · have c0 := cell_of_row w2 w1.heap.size 10 _ _ _ hL
      have c1 := cell_of_row w2 w1.heap.size 11 _ _ _ hL
      have c2 := cell_of_row w2 w1.heap.size 12 _ _ _ hL
      have c3 := cell_of_row w2 w1.heap.size 13 _ _ _ hL
      have c4 := cell_of_row w2 w1.heap.size 14 _ _ _ hL
      go_wp2_with fail
      have ks := row5 (a := (.int .i64 6)) (b := (.int .i64 0)) (c := (.string ⟨#[97]⟩)) (d := (.string ⟨#[98]⟩)) (e := (.string ⟨#[99]⟩)) r2
      have hRG := turn_rows (Nat.le_refl _) hgl G2 R2 ks.2
      revert ks hRG
      generalize (((((w2.setCell ⟨w.heap.size, 0, none⟩ (.int .i64 6)).setCell ⟨w.heap.size, 1, none⟩ (.int .i64 0)).setCell ⟨w.heap.size, 2, none⟩ (.string ⟨#[97]⟩)).setCell ⟨w.heap.size, 3, none⟩ (.string ⟨#[98]⟩)).setCell ⟨w.heap.size, 4, none⟩ (.string ⟨#[99]⟩)) = U
      intro ks hRG
      have v0 := cell_of_row U w.heap.size 0 _ _ _ ks.1
      have v1 := cell_of_row U w.heap.size 1 _ _ _ ks.1
      have v2 := cell_of_row U w.heap.size 2 _ _ _ ks.1
      have v3 := cell_of_row U w.heap.size 3 _ _ _ ks.1
      have v4 := cell_of_row U w.heap.size 4 _ _ _ ks.1
      exact bodyPost_ret (v := acA 6 0 ⟨#[97]⟩ ⟨#[98]⟩ ⟨#[99]⟩) (by simp [results, Tryd.results29, go_sem, v0, v1, v2, v3, v4]) rfl ⟨_, _, _, _, _, rfl, by decide, by decide, by decide, p1 + 1, Nat.zero_le _, by omega, hRG.1, hRG.2⟩
    · have c0 := cell_of_row w2 w1.heap.size 15 _ _ _ hL
      have c1 := cell_of_row w2 w1.heap.size 16 _ _ _ hL
      have c2 := cell_of_row w2 w1.heap.size 17 _ _ _ hL
      have c3 := cell_of_row w2 w1.heap.size 18 _ _ _ hL
      have c4 := cell_of_row w2 w1.heap.size 19 _ _ _ hL
      go_wp2_with fail
      have ks := row5 (a := (.int .i64 0)) (b := (.int .i64 0)) (c := (.string ⟨#[97]⟩)) (d := (.string ⟨#[98]⟩)) (e := (.string ⟨#[]⟩)) r2
      have hRG := turn_rows (Nat.le_refl _) hgl G2 R2 ks.2
      revert ks hRG
      generalize (((((w2.setCell ⟨w.heap.size, 0, none⟩ (.int .i64 0)).setCell ⟨w.heap.size, 1, none⟩ (.int .i64 0)).setCell ⟨w.heap.size, 2, none⟩ (.string ⟨#[97]⟩)).setCell ⟨w.heap.size, 3, none⟩ (.string ⟨#[98]⟩)).setCell ⟨w.heap.size, 4, none⟩ (.string ⟨#[]⟩)) = U
      intro ks hRG
      have v0 := cell_of_row U w.heap.size 0 _ _ _ ks.1
      have v1 := cell_of_row U w.heap.size 1 _ _ _ ks.1
      have v2 := cell_of_row U w.heap.size 2 _ _ _ ks.1
      have v3 := cell_of_row U w.heap.size 3 _ _ _ ks.1
      have v4 := cell_of_row U w.heap.size 4 _ _ _ ks.1
      exact bodyPost_ret (v := acA 0 0 ⟨#[97]⟩ ⟨#[98]⟩ ⟨#[]⟩) (by simp [results, Tryd.results29, go_sem, v0, v1, v2, v3, v4]) rfl ⟨_, _, _, _, _, rfl, by decide, by decide, by decide, p1 + 1, Nat.zero_le _, by omega, hRG.1, hRG.2⟩
    · have c0 := cell_of_row w2 w1.heap.size 20 _ _ _ hL
      have c1 := cell_of_row w2 w1.heap.size 21 _ _ _ hL
      have c2 := cell_of_row w2 w1.heap.size 22 _ _ _ hL
      have c3 := cell_of_row w2 w1.heap.size 23 _ _ _ hL
      have c4 := cell_of_row w2 w1.heap.size 24 _ _ _ hL
      go_wp2_with fail
      have ks := row5 (a := (.int .i64 0)) (b := (.int .i64 (-1))) (c := (.string ⟨#[97]⟩)) (d := (.string ⟨#[98]⟩)) (e := (.string ⟨#[99]⟩)) r2
      have hRG := turn_rows (Nat.le_refl _) hgl G2 R2 ks.2
      revert ks hRG
      generalize (((((w2.setCell ⟨w.heap.size, 0, none⟩ (.int .i64 0)).setCell ⟨w.heap.size, 1, none⟩ (.int .i64 (-1))).setCell ⟨w.heap.size, 2, none⟩ (.string ⟨#[97]⟩)).setCell ⟨w.heap.size, 3, none⟩ (.string ⟨#[98]⟩)).setCell ⟨w.heap.size, 4, none⟩ (.string ⟨#[99]⟩)) = U
      intro ks hRG
      have v0 := cell_of_row U w.heap.size 0 _ _ _ ks.1
      have v1 := cell_of_row U w.heap.size 1 _ _ _ ks.1
      have v2 := cell_of_row U w.heap.size 2 _ _ _ ks.1
      have v3 := cell_of_row U w.heap.size 3 _ _ _ ks.1
      have v4 := cell_of_row U w.heap.size 4 _ _ _ ks.1
      exact bodyPost_ret (v := acA 0 (-1) ⟨#[97]⟩ ⟨#[98]⟩ ⟨#[99]⟩) (by simp [results, Tryd.results29, go_sem, v0, v1, v2, v3, v4]) rfl ⟨_, _, _, _, _, rfl, by decide, by decide, by decide, p1 + 1, Nat.zero_le _, by omega, hRG.1, hRG.2⟩
  | false =>
    go_wp2_with fail
    refine (pick_any g p1 6 _ R1 (by omega) (by omega) (by omega)).mono ?_
    rintro e' w2 ⟨k, rfl, k0, k1, R2, G2⟩
    have G2' := G1.trans G2
    have r2 := (G2.block _ z1 (fun e => by injection e with e; omega)).trans r1
    clear R1 r1 G1 G2 z1
    go_wp2_with fail
    refine (pick_any g (p1 + 1) 12 _ R2 (by omega) (by omega) (by omega)).mono ?_
    rintro e' w3 ⟨m, rfl, m0, m1, R3, G3⟩
    have G3' := G2'.trans G3
    have r3 := (G3.block _ (Array.getElem?_eq_some_iff.1 r2).1 (fun e => by injection e with e; omega)).trans r2
    clear R2 r2 G2' G3
    go_wp2_with fail
    refine (handle_any g (p1 + 1 + 1) 0 _ R3 (by omega) (by omega) (by omega)).mono ?_
    rintro e' w4 ⟨a, b, rfl, ha, hb, p4, l0, l1, R4, G4⟩
    have G4' := G3'.trans G4
    have r4 := (G4.block _ (Array.getElem?_eq_some_iff.1 r3).1 (fun e => by injection e with e; omega)).trans r3
    clear R3 r3 G3' G4
    go_wp2_with fail
    refine (pick_any g p4 3 _ (R4.alloc _) (by omega) (by omega) (by omega)).mono ?_
    rintro e' w5 ⟨q, rfl, t0, t1, R5, G5⟩
    obtain ⟨x, hx, cx⟩ := litS_at (B := w4.heap.size) (L := [⟨#[107, 49]⟩, ⟨#[107, 50]⟩, ⟨#[107, 51]⟩]) (alloc_new' rfl) G5 (by have := R4.lt; omega) t0 (by simpa using t1)
    have hs : x.size ≤ 200 := by simp at hx; rcases hx with rfl | rfl | rfl <;> decide
    have G6 := (World.grownBy_alloc w4 (.cells #[.string ⟨#[107, 49]⟩, .string ⟨#[107, 50]⟩, .string ⟨#[107, 51]⟩] 9) (some g)).trans G5
    have r5 := (G6.block _ (Array.getElem?_eq_some_iff.1 r4).1 (fun e => by injection e with e; omega)).trans r4
    have G5' := G4'.trans G6
    clear R4 r4 G4' G5 G6 hx
    have f0 := frozen_of_row w5 w.heap.size 0 _ _ r5
    have f1 := frozen_of_row w5 w.heap.size 1 _ _ r5
    have f2 := frozen_of_row w5 w.heap.size 2 _ _ r5
    have f3 := frozen_of_row w5 w.heap.size 3 _ _ r5
    have f4 := frozen_of_row w5 w.heap.size 4 _ _ r5
    have y0 := cell_of_row w5 w.heap.size 0 _ _ _ r5
    have y1 := cell_of_row w5 w.heap.size 1 _ _ _ r5
    have y2 := cell_of_row w5 w.heap.size 2 _ _ _ r5
    have y3 := cell_of_row w5 w.heap.size 3 _ _ _ r5
    have y4 := cell_of_row w5 w.heap.size 4 _ _ _ r5
    go_wp2_with fail
    have ks := row5 (a := (.int .i64 k)) (b := (.int .i64 m)) (c := (.string a)) (d := (.string b)) (e := (.string x)) r5
    have hRG := turn_rows (Nat.le_refl _) hgl G5' R5 ks.2
    revert ks hRG
    generalize (((((w5.setCell ⟨w.heap.size, 0, none⟩ (.int .i64 k)).setCell ⟨w.heap.size, 1, none⟩ (.int .i64 m)).setCell ⟨w.heap.size, 2, none⟩ (.string a)).setCell ⟨w.heap.size, 3, none⟩ (.string b)).setCell ⟨w.heap.size, 4, none⟩ (.string x)) = U
    intro ks hRG
    have v0 := cell_of_row U w.heap.size 0 _ _ _ ks.1
    have v1 := cell_of_row U w.heap.size 1 _ _ _ ks.1
    have v2 := cell_of_row U w.heap.size 2 _ _ _ ks.1
    have v3 := cell_of_row U w.heap.size 3 _ _ _ ks.1
    have v4 := cell_of_row U w.heap.size 4 _ _ _ ks.1
    exact bodyPost_ret (v := acA k m a b x) (by simp [results, Tryd.results29, go_sem, v0, v1, v2, v3, v4]) rfl ⟨_, _, _, _, _, rfl, ha, hb, hs, p4 + 1, Nat.zero_le _, by omega, hRG.1, hRG.2⟩
end Go.Proofs.YtoagpfdhbcgdcaaDoor
