/- The contract of the draw of a day. -/
import Derived.Test.YtlfjnaeepblhiaaDrawHd
import Derived.Test.YtlfjnaeepblhiaaInts
namespace Go.Proofs.Ytlfjnaeepblhiaa
open Go.RowKit
set_option linter.unusedVariables false
set_option linter.unusedSimpArgs false
set_option maxRecDepth 8000 in
set_option maxHeartbeats 2000000 in
theorem day_any (g p : Nat) (w : World) (h : Rd w g p) (hp : p ≤ 80000) :
    Calls Try.prog 89 #[.pointer (some ⟨g, 0, none⟩)] w fun e w' => ∃ d : Int, e = .returned (.int .i64 d) ∧ Turn w w' g p 4 := by
  have hgl := h.lt
  go_enter Try.func89, Try.ntmps89
  go_wp2_with fail
  refine (pick_any g p 256 _ h (by omega) (by omega) (by omega)).mono ?_
  rintro e' w1 ⟨a, rfl, a0, a1, R1, G1⟩
  go_wp2_with fail
  refine (pick_any g (p + 1) 256 _ R1 (by omega) (by omega) (by omega)).mono ?_
  rintro e' w2 ⟨b, rfl, b0, b1, R2, G2⟩
  replace G2 := G1.trans G2
  go_wp2_with fail
  refine (pick_any g (p + 1 + 1) 3 _ R2 (by omega) (by omega) (by omega)).mono ?_
  rintro e' w3 ⟨c, rfl, c0, c1, R3, G3⟩
  replace G3 := G2.trans G3
  clear R1 R2 G1 G2 h
  have k0 : (w3.alloc (.cells #[.int .i64 (738000 + a * 7), .int .i64 (b * 5000), .int .i64 0, .int .i64 (1460969 - c)] 3)).heap[w3.heap.size]? = some (.cells #[.int .i64 (738000 + a * 7), .int .i64 (b * 5000), .int .i64 0, .int .i64 (1460969 - c)] 3 (0, 0)) := alloc_new' rfl
  have k1 : ((w3.alloc (.cells #[.int .i64 (738000 + a * 7), .int .i64 (b * 5000), .int .i64 0, .int .i64 (1460969 - c)] 3)).alloc (.cells #[.int .i64 0, .int .i64 0, .int .i64 0, .int .i64 1, .int .i64 2, .int .i64 3] 3)).heap[w3.heap.size + 1]? = some (.cells #[.int .i64 0, .int .i64 0, .int .i64 0, .int .i64 1, .int .i64 2, .int .i64 3] 3 (0, 0)) := alloc_new' (by simp)
  replace k0 := alloc_old (o := (.cells #[.int .i64 0, .int .i64 0, .int .i64 0, .int .i64 1, .int .i64 2, .int .i64 3] 3)) k0
  have G4 := (G3.trans (World.grownBy_alloc w3 (.cells #[.int .i64 (738000 + a * 7), .int .i64 (b * 5000), .int .i64 0, .int .i64 (1460969 - c)] 3) _)).trans (World.grownBy_alloc _ (.cells #[.int .i64 0, .int .i64 0, .int .i64 0, .int .i64 1, .int .i64 2, .int .i64 3] 3) _)
  have R4 := (R3.alloc (.cells #[.int .i64 (738000 + a * 7), .int .i64 (b * 5000), .int .i64 0, .int .i64 (1460969 - c)] 3)).alloc (.cells #[.int .i64 0, .int .i64 0, .int .i64 0, .int .i64 1, .int .i64 2, .int .i64 3] 3)
  have hg3 := R3.lt
  clear R3 G3
  go_wp2_with fail
  generalize hW : (w3.alloc (.cells #[.int .i64 (738000 + a * 7), .int .i64 (b * 5000), .int .i64 0, .int .i64 (1460969 - c)] 3)).alloc (.cells #[.int .i64 0, .int .i64 0, .int .i64 0, .int .i64 1, .int .i64 2, .int .i64 3] 3) = W at *
  clear hW
  generalize hk : w3.heap.size = k at *
  clear hk
  refine (pick_any g (p + 1 + 1 + 1) 6 _ R4 (by omega) (by omega) (by omega)).mono ?_
  rintro e' w5 ⟨q, rfl, q0, q1, R5, G5⟩
  have hz0 := (Array.getElem?_eq_some_iff.1 k0).1
  have hz1 := (Array.getElem?_eq_some_iff.1 k1).1
  replace k0 := (G5.block _ hz0 (fun e => by injection e with e; omega)).trans k0
  replace k1 := (G5.block _ hz1 (fun e => by injection e with e; omega)).trans k1
  have T : Turn w w5 g p 4 := Turn.mk' (p' := p + 1 + 1 + 1 + 1) (by omega) (by omega) R5 (G4.trans G5)
  clear R4 G4 R5 G5
  have y0 := cell_of_row _ k 0 _ _ _ k0
  have y1 := cell_of_row _ k 1 _ _ _ k0
  have y2 := cell_of_row _ k 2 _ _ _ k0
  have y3 := cell_of_row _ k 3 _ _ _ k0
  have z0 := cell_of_row _ (k + 1) 0 _ _ _ k1
  have z1 := cell_of_row _ (k + 1) 1 _ _ _ k1
  have z2 := cell_of_row _ (k + 1) 2 _ _ _ k1
  have z3 := cell_of_row _ (k + 1) 3 _ _ _ k1
  have z4 := cell_of_row _ (k + 1) 4 _ _ _ k1
  have z5 := cell_of_row _ (k + 1) 5 _ _ _ k1
  clear k0 k1 hz0 hz1 hg3
  obtain rfl | rfl | rfl | rfl | rfl | rfl : q = 0 ∨ q = 1 ∨ q = 2 ∨ q = 3 ∨ q = 4 ∨ q = 5 := by omega
  all_goals
    go_wp2_with fail
    go_ret
    exact ⟨_, rfl, T⟩
end Go.Proofs.Ytlfjnaeepblhiaa
