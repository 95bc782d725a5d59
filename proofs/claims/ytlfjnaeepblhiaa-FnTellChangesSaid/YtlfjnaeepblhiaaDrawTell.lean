/- The contract of the draw for TellChanges. -/
import Derived.Test.YtlfjnaeepblhiaaDrawBoth
namespace Go.Proofs.Ytlfjnaeepblhiaa
open Go.RowKit
set_option linter.unusedVariables false
set_option linter.unusedSimpArgs false
set_option maxRecDepth 8000 in
set_option maxHeartbeats 4000000 in
theorem drawTell_any (A0 : Option Addr) (n0 c0 : Nat) (z0 : List Int) (w : World) (h : Row .u8 w A0 n0 c0 z0) :
    Calls Try.prog 28 #[.slice A0 n0 c0] w fun e' w' => ∃ a b mm A k d xs C m e ys, e' = .returned (.tuple #[hdA a b, .int .i64 mm, .slice A k d, .slice C m e]) ∧ a.size ≤ 200 ∧ b.size ≤ 200 ∧ -1 ≤ mm ∧ mm ≤ 1000001 ∧ w'.ownsRow w.heap.size 57 4 (.slice A k d) k (ims xs) ∧ w'.ownsRow w.heap.size 57 4 (.slice C m e) m (ims ys) ∧ imOk xs ∧ imOk ys ∧ k ≤ 7 ∧ m ≤ 9 ∧ Below w.heap.size w w' := by
  have hr0 : (w.alloc (.cells #[.string ⟨#[]⟩, .string ⟨#[]⟩] 27)).heap[w.heap.size]? = some (.cells #[.string ⟨#[]⟩, .string ⟨#[]⟩] 27 (0, 0)) := alloc_new' rfl
  have B0 : Below w.heap.size w (w.alloc (.cells #[.string ⟨#[]⟩, .string ⟨#[]⟩] 27)) := (Below.refl _ _).alloc (Nat.le_refl _) _
  have hs0 := h.sl.below B0
  go_enter Try.func28, Try.ntmps28
  go_wp2_with fail
  generalize hW0 : w.alloc (.cells #[.string ⟨#[]⟩, .string ⟨#[]⟩] 27) = W0 at *
  have hg0 : w.heap.size < W0.heap.size := (Array.getElem?_eq_some_iff.1 hr0).1
  clear hW0
  refine (open_any A0 n0 c0 z0 W0 hs0 h.byte).mono ?_
  rintro e w1 ⟨rfl, R1, b1⟩
  have B1 := B0.trans (b1.mono B0.size)
  have hr1 := (b1.block _ hg0).trans hr0
  clear h hs0 B0 hr0 b1
  generalize W0.heap.size = g at *
  go_wp2_with fail
  refine (handle_any g 0 14 _ R1 (by omega) (by omega) (by omega)).mono ?_
  rintro e w2 ⟨a, b, rfl, ha, hb, p2, l0, l1, R2, G2⟩
  have B2 := B1.grown G2 B1.size (by rintro _ ⟨rfl⟩; omega)
  have hr2 := (G2.block _ (Array.getElem?_eq_some_iff.1 hr1).1 (fun e => by injection e with e; omega)).trans hr1
  clear R1 B1 hr1 G2
  have hI : (w2.alloc (.cells #[.string a, .string b] 27)).heap[w2.heap.size]? = some (.cells #[.string a, .string b] 27 (0, 0)) := alloc_new' rfl
  have R3 := R2.alloc (.cells #[.string a, .string b] 27)
  have B3 := B2.alloc B2.size (.cells #[.string a, .string b] 27)
  have hr3 := alloc_old (o := (.cells #[.string a, .string b] 27)) hr2
  have hgB : g < w2.heap.size := R2.lt
  clear R2 B2 hr2
  go_wp2_with fail
  generalize hV : w2.alloc (.cells #[.string a, .string b] 27) = V at *
  generalize hBB : w2.heap.size = B at *
  clear hV hBB
  refine (pick_any g p2 99 _ R3 (by omega) (by omega) (by omega)).mono ?_
  rintro e w4 ⟨q, rfl, q0, q1, R4, G4⟩
  have B4 := B3.grown G4 B3.size (by rintro _ ⟨rfl⟩; omega)
  have hr4 := (G4.block _ (Array.getElem?_eq_some_iff.1 hr3).1 (fun e => by injection e with e; omega)).trans hr3
  have hI4 := (G4.block _ (Array.getElem?_eq_some_iff.1 hI).1 (fun e => by injection e with e; omega)).trans hI
  clear R3 B3 hr3 hI G4
  have k0 : (w4.alloc (.cells #[.int .i64 q, .int .i64 1000000, .int .i64 1000001, .int .i64 (-1)] 3)).heap[w4.heap.size]? = some (.cells #[.int .i64 q, .int .i64 1000000, .int .i64 1000001, .int .i64 (-1)] 3 (0, 0)) := alloc_new' rfl
  replace k0 := alloc_old (o := (.cells #[.int .i64 0, .int .i64 0, .int .i64 0, .int .i64 0, .int .i64 1, .int .i64 2, .int .i64 3] 3)) k0
  have k1 : ((w4.alloc (.cells #[.int .i64 q, .int .i64 1000000, .int .i64 1000001, .int .i64 (-1)] 3)).alloc (.cells #[.int .i64 0, .int .i64 0, .int .i64 0, .int .i64 0, .int .i64 1, .int .i64 2, .int .i64 3] 3)).heap[w4.heap.size + 1]? = some (.cells #[.int .i64 0, .int .i64 0, .int .i64 0, .int .i64 0, .int .i64 1, .int .i64 2, .int .i64 3] 3 (0, 0)) := alloc_new' (by simp)
  have R5 := (R4.alloc (.cells #[.int .i64 q, .int .i64 1000000, .int .i64 1000001, .int .i64 (-1)] 3)).alloc (.cells #[.int .i64 0, .int .i64 0, .int .i64 0, .int .i64 0, .int .i64 1, .int .i64 2, .int .i64 3] 3)
  have B5 := (B4.alloc B4.size (.cells #[.int .i64 q, .int .i64 1000000, .int .i64 1000001, .int .i64 (-1)] 3)).alloc (Nat.le_trans B4.size (by simp)) (.cells #[.int .i64 0, .int .i64 0, .int .i64 0, .int .i64 0, .int .i64 1, .int .i64 2, .int .i64 3] 3)
  have hr5 := alloc_old (o := (.cells #[.int .i64 0, .int .i64 0, .int .i64 0, .int .i64 0, .int .i64 1, .int .i64 2, .int .i64 3] 3)) (alloc_old (o := (.cells #[.int .i64 q, .int .i64 1000000, .int .i64 1000001, .int .i64 (-1)] 3)) hr4)
  have hI5 := alloc_old (o := (.cells #[.int .i64 0, .int .i64 0, .int .i64 0, .int .i64 0, .int .i64 1, .int .i64 2, .int .i64 3] 3)) (alloc_old (o := (.cells #[.int .i64 q, .int .i64 1000000, .int .i64 1000001, .int .i64 (-1)] 3)) hI4)
  have hg4 : g < w4.heap.size := R4.lt
  clear R4 B4 hr4 hI4
  go_wp2_with fail
  generalize hV : (w4.alloc (.cells #[.int .i64 q, .int .i64 1000000, .int .i64 1000001, .int .i64 (-1)] 3)).alloc (.cells #[.int .i64 0, .int .i64 0, .int .i64 0, .int .i64 0, .int .i64 1, .int .i64 2, .int .i64 3] 3) = V5 at *
  generalize hkk : w4.heap.size = kk at *
  clear hV hkk
  refine (pick_any g (p2 + 1) 7 _ R5 (by omega) (by omega) (by omega)).mono ?_
  rintro e w6 ⟨r, rfl, r0, r1, R6, G6⟩
  have B6 := B5.grown G6 B5.size (by rintro _ ⟨rfl⟩; omega)
  have hr6 := (G6.block _ (Array.getElem?_eq_some_iff.1 hr5).1 (fun e => by injection e with e; omega)).trans hr5
  have hI6 := (G6.block _ (Array.getElem?_eq_some_iff.1 hI5).1 (fun e => by injection e with e; omega)).trans hI5
  replace k0 := (G6.block _ (Array.getElem?_eq_some_iff.1 k0).1 (fun e => by injection e with e; omega)).trans k0
  replace k1 := (G6.block _ (Array.getElem?_eq_some_iff.1 k1).1 (fun e => by injection e with e; omega)).trans k1
  clear R5 B5 hr5 hI5 G6
  have y0 := cell_of_row _ kk 0 _ _ _ k0
  have y1 := cell_of_row _ kk 1 _ _ _ k0
  have y2 := cell_of_row _ kk 2 _ _ _ k0
  have y3 := cell_of_row _ kk 3 _ _ _ k0
  have z0 := cell_of_row _ (kk + 1) 0 _ _ _ k1
  have z1 := cell_of_row _ (kk + 1) 1 _ _ _ k1
  have z2 := cell_of_row _ (kk + 1) 2 _ _ _ k1
  have z3 := cell_of_row _ (kk + 1) 3 _ _ _ k1
  have z4 := cell_of_row _ (kk + 1) 4 _ _ _ k1
  have z5 := cell_of_row _ (kk + 1) 5 _ _ _ k1
  have z6 := cell_of_row _ (kk + 1) 6 _ _ _ k1
  clear k0 k1
  have hp2 : p2 ≤ 40 := by omega
  obtain rfl | rfl | rfl | rfl | rfl | rfl | rfl : r = 0 ∨ r = 1 ∨ r = 2 ∨ r = 3 ∨ r = 4 ∨ r = 5 ∨ r = 6 := by omega
  all_goals
    go_wp2_with fail
    refine (both_any g (p2 + 1 + 1) 12 _ R6 (by omega) (by omega) (by omega)).mono ?_
    rintro e w7 ⟨A, k, d, xs, C, m, e2, ys, rfl, o1, o2, hx, hy, hk, hm, p7, l7, l8, R7, G7⟩
    have B7 := B6.grown G7 B6.size (by rintro _ ⟨rfl⟩; omega)
    have hr7 := (G7.block _ (Array.getElem?_eq_some_iff.1 hr6).1 (fun e => by injection e with e; omega)).trans hr6
    have hI7 := (G7.block _ (Array.getElem?_eq_some_iff.1 hI6).1 (fun e => by injection e with e; omega)).trans hI6
    have hw6 := B6.size
    have hr6l : w.heap.size < w6.heap.size := (Array.getElem?_eq_some_iff.1 hr6).1
    clear B6 hr6 hI6 G7 y0 y1 y2 y3 z0 z1 z2 z3 z4 z5 z6 R6 R7
    have ks := row2 (a := .string a) (b := .string b) hr7
    have q1 := o1.kept ks.2 (by right; intro e; have := (o1.lt _ e).1; omega)
    have q2 := o2.kept ks.2 (by right; intro e; have := (o2.lt _ e).1; omega)
    have q1 := own_lower q1 hw6
    have q2 := own_lower q2 hw6
    have B8 := B7.grown ks.2 B7.size (by rintro _ ⟨rfl⟩; exact Nat.le_refl _)
    have f0 := frozen_of_row _ w.heap.size 0 _ _ hr7
    have f1 := frozen_of_row _ w.heap.size 1 _ _ hr7
    have x0 := cell_of_row _ w.heap.size 0 _ _ _ hr7
    have x1 := cell_of_row _ w.heap.size 1 _ _ _ hr7
    have u0 := cell_of_row _ B 0 _ _ _ hI7
    have u1 := cell_of_row _ B 1 _ _ _ hI7
    have v0 := cell_of_row _ w.heap.size 0 _ _ _ ks.1
    have v1 := cell_of_row _ w.heap.size 1 _ _ _ ks.1
    clear B7 hr7 hI7 ks o1 o2
    go_wp2_with fail
    exact bodyPost_ret (v := .tuple #[hdA a b, .int .i64 _, .slice A k d, .slice C m e2]) (by simp [results, Try.results28, go_sem, v0, v1]; rfl) rfl ⟨a, b, _, A, k, d, xs, C, m, e2, ys, rfl, ha, hb, by omega, by omega, q1, q2, hx, hy, hk, hm, B8⟩
end Go.Proofs.Ytlfjnaeepblhiaa
