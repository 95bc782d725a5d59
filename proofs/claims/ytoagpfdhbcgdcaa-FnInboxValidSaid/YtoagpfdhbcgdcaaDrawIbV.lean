/- The contract of the draw of an inbox, from a code. -/
import Derived.Test.YtoagpfdhbcgdcaaDrawIb
namespace Go.Proofs.Ytoagpfdhbcgdcaa
open Go.RowKit
set_option linter.unusedVariables false
set_option linter.unusedSimpArgs false
set_option maxRecDepth 8000
theorem drawInbox_any (A : Option Addr) (n c : Nat) (xs : List Int) (w : World) (h : Row .u8 w A n c xs) :
    Calls Try.prog 10 #[.slice A n c] w fun e w' => ∃ v, e = .returned v ∧ DrIb w.heap.size 9 v w' ∧ Below w.heap.size w w' := by
  have hr : (w.alloc (.cells #[.slice none 0 0, .slice none 0 0] 30)).heap[w.heap.size]? = some (.cells #[.slice none 0 0, .slice none 0 0] 30 (0, 0)) := alloc_new' rfl
  have B0 : Below w.heap.size w (w.alloc (.cells #[.slice none 0 0, .slice none 0 0] 30)) := (Below.refl _ _).alloc (Nat.le_refl _) _
  have S := h.sl.alloc (.cells #[.slice none 0 0, .slice none 0 0] 30)
  go_enter Try.func10, Try.ntmps10
  go_wp2_with fail
  refine (open_any A n c xs _ S h.byte).mono ?_
  rintro e w1 ⟨rfl, R1, B1⟩
  replace hr := (B1.block _ (Array.getElem?_eq_some_iff.1 hr).1).trans hr
  have hgl : w.heap.size < (w.alloc (.cells #[.slice none 0 0, .slice none 0 0] 30)).heap.size := by simp
  replace B1 := below_next B0 B1
  generalize hG : (w.alloc (.cells #[.slice none 0 0, .slice none 0 0] 30)).heap.size = g at *
  clear hG B0 S
  go_wp2_with fail
  refine (inbox_any g 0 2 _ R1 (by omega) (by omega) (by omega)).mono ?_
  rintro e w2 ⟨v, rfl, ⟨C, n1, c1, D, m1, d1, ys, zs, rfl, o1, o2, hok, hn1, hm1⟩, p2, l0, l1, R2, G2⟩
  have hr := (G2.block _ (Array.getElem?_eq_some_iff.1 hr).1 (fun e => by injection e with e; omega)).trans hr
  have B2 := B1.grown G2 B1.size (by rintro _ ⟨rfl⟩; omega)
  have o1 := own_lower o1 B1.size
  have o2 := own_lower o2 B1.size
  have y0 := cell_of_row _ w.heap.size 0 _ _ _ hr
  have y1 := cell_of_row _ w.heap.size 1 _ _ _ hr
  have f0 := frozen_of_row _ w.heap.size 0 _ _ hr
  have f1 := frozen_of_row _ w.heap.size 1 _ _ hr
  have q1 := own_setIb (i := 1) (u := .slice D m1 d1) (own_setIb (i := 0) (u := .slice C n1 c1) o1 hr (by decide)) (set_ib0 hr) (by decide)
  have q2 := own_setIb (i := 1) (u := .slice D m1 d1) (own_setIb (i := 0) (u := .slice C n1 c1) o2 hr (by decide)) (set_ib0 hr) (by decide)
  have hr3 := set_ib1 (v := .slice D m1 d1) (set_ib0 (v := .slice C n1 c1) hr)
  have u0 := cell_of_row _ w.heap.size 0 _ _ _ hr3
  have u1 := cell_of_row _ w.heap.size 1 _ _ _ hr3
  have B3 := (B2.setCell (p := ⟨w.heap.size, 0, none⟩) (Nat.le_refl _) (.slice C n1 c1)).setCell (p := ⟨w.heap.size, 1, none⟩) (Nat.le_refl _) (.slice D m1 d1)
  clear hr hr3 o1 o2 R1 R2 G2 B1 B2
  go_wp2_with fail
  exact bodyPost_ret (v := ibA C n1 c1 D m1 d1) (by simp [results, Try.results10, go_sem, u0, u1]) rfl ⟨_, rfl, ⟨_, _, _, _, _, _, ys, zs, rfl, q1, q2, hok, hn1, hm1⟩, B3⟩
end Go.Proofs.Ytoagpfdhbcgdcaa
