/- The laws' functions over inboxes. -/
import Derived.Test.YtoagpfdhbcgdcaaDoorInbox
import Derived.Test.YtoagpfdhbcgdcaaDoorHandles
import Derived.OneCell
namespace Go.Proofs.YtoagpfdhbcgdcaaDoor
open Go.RowKit
set_option linter.unusedVariables false
set_option linter.unusedSimpArgs false
theorem szIntS_any (A : Option Addr) (n c : Nat) (xs : List Int) (l : Int) (w : World) (h : Sl w A n c 1 (ints xs)) (h0 : 0 ≤ l) (h1 : l ≤ 1048576) :
    Calls Tryd.prog 51 #[.slice A n c, .int .i64 l] w fun e w' => ∃ r : Int, e = .returned (.int .i64 r) ∧ -1 ≤ r ∧ r ≤ l ∧ (0 ≤ r → (n : Int) ≤ l) ∧ Ext.of w w' := by
  have hmx := h.max
  have hcx := h.cap
  unfold maxLen at hmx
  by_cases hn : l - n < 0
  all_goals
    go_enter Tryd.func51, Tryd.ntmps51
    go_wp2
    go_ret
    exact ⟨_, rfl, by omega, by omega, fun h => by omega, Ext.of.refl _⟩
theorem szInbox_le (A : Option Addr) (n c : Nat) (xs : List Hd) (B : Option Addr) (m d : Nat) (zs : List Int) (l : Int) (w : World) (h : Sl w A n c 2 (hds xs)) (hok : hdOk xs) (hz : Sl w B m d 1 (ints zs)) (h0 : 0 ≤ l) (h1 : l ≤ 1048576) :
    Calls Tryd.prog 13 #[ibA A n c B m d, .int .i64 l] w fun e w' => ∃ r : Int, e = .returned (.int .i64 r) ∧ r ≤ l ∧ (0 ≤ r → n ≤ 1048576 ∧ m ≤ 1048576) ∧ Ext.of w w' := by
  have hE : Ext.of w (w.alloc (.cells #[.slice A n c, .slice B m d] 41)) := (Ext.of.refl _).alloc _
  have hc : (w.alloc (.cells #[.slice A n c, .slice B m d] 41)).heap[w.heap.size]? = some (.cells #[.slice A n c, .slice B m d] 41 (0, 0)) := alloc_new' rfl
  have d0 := cell_of_row _ w.heap.size 0 _ _ _ hc
  have d1 := cell_of_row _ w.heap.size 1 _ _ _ hc
  have HOK := hid hok
  clear hc hok
  go_enter Tryd.func13, Tryd.ntmps13
  go_wp2_with fail
  refine (szHandleS_any _ _ _ xs l _ (h.ext hE) h0 h1 HOK.out).mono ?_
  rintro e1 w1 ⟨r, rfl, r0, r1, r2, x1⟩
  have hE := hE.trans x1
  have d1 := x1.cell d1
  clear x1 d0
  by_cases hr : r < 0
  · clear r2
    go_wp2_with fail
    go_ret
    exact ⟨_, rfl, by omega, fun h => by omega, hE⟩
  · have hn : n ≤ 1048576 := by have := r2 (by omega); omega
    clear r2
    go_wp2_with fail
    refine (szIntS_any _ _ _ zs r _ (hz.ext hE) (by omega) (by omega)).mono ?_
    rintro e1 w2 ⟨q, rfl, q0, q1, q2, x2⟩
    have hE := hE.trans x2
    clear x2
    by_cases hq : q < 0
    · clear q2
      go_wp2_with fail
      go_ret
      exact ⟨_, rfl, by omega, fun h => by omega, hE⟩
    · have hm : m ≤ 1048576 := by have := q2 (by omega); omega
      clear q2
      go_wp2_with fail
      go_ret
      exact ⟨_, rfl, by omega, fun _ => ⟨hn, hm⟩, hE⟩
theorem szInbox_any (A : Option Addr) (n c : Nat) (xs : List Hd) (B : Option Addr) (m d : Nat) (zs : List Int) (l : Int) (w : World) (h : Sl w A n c 2 (hds xs)) (hok : hdOk xs) (hz : Sl w B m d 1 (ints zs)) (h0 : 0 ≤ l) (h1 : l ≤ 1048576) :
    Calls Tryd.prog 13 #[ibA A n c B m d, .int .i64 l] w fun e w' => ∃ r : Int, e = .returned (.int .i64 r) ∧ (0 ≤ r → n ≤ 1048576 ∧ m ≤ 1048576) ∧ Ext.of w w' := by
  refine (szInbox_le A n c xs B m d zs l w h hok hz h0 h1).mono ?_
  rintro e w' ⟨r, he, _, hr, x⟩
  exact ⟨r, he, hr, x⟩
theorem eqInbox_same (A : Option Addr) (n c : Nat) (B : Option Addr) (m d : Nat) (A' : Option Addr) (n' c' : Nat) (B' : Option Addr) (m' d' : Nat) (xs : List Hd) (zs : List Int) (w : World) (h : Sl w A n c 2 (hds xs)) (hz : Sl w B m d 1 (ints zs)) (h' : Sl w A' n' c' 2 (hds xs)) (hz' : Sl w B' m' d' 1 (ints zs)) :
    Calls Tryd.prog 17 #[ibA A n c B m d, ibA A' n' c' B' m' d'] w fun e w' => e = .returned (.bool true) ∧ Ext.of w w' := by
  have hE : Ext.of w ((w.alloc (.cells #[.slice A n c, .slice B m d] 26)).alloc (.cells #[.slice A' n' c', .slice B' m' d'] 26)) := ((Ext.of.refl _).alloc _).alloc _
  have h1 : ((w.alloc (.cells #[.slice A n c, .slice B m d] 26)).alloc (.cells #[.slice A' n' c', .slice B' m' d'] 26)).heap[w.heap.size]? = some (.cells #[.slice A n c, .slice B m d] 26 (0, 0)) := alloc_old (alloc_new' rfl)
  have h2 : ((w.alloc (.cells #[.slice A n c, .slice B m d] 26)).alloc (.cells #[.slice A' n' c', .slice B' m' d'] 26)).heap[w.heap.size + 1]? = some (.cells #[.slice A' n' c', .slice B' m' d'] 26 (0, 0)) := alloc_new' (by simp)
  have c0 := cell_of_row _ w.heap.size 0 _ _ _ h1
  have c1 := cell_of_row _ w.heap.size 1 _ _ _ h1
  have d0 := cell_of_row _ (w.heap.size + 1) 0 _ _ _ h2
  have d1 := cell_of_row _ (w.heap.size + 1) 1 _ _ _ h2
  clear h1 h2
  have t1 : decide (xs = xs) = true := by simp
  have t2 : decide (zs = zs) = true := by simp
  have C1 := fun W A n c (hx : Sl W A n c 2 (hds xs)) A' n' c' (hy : Sl W A' n' c' 2 (hds xs)) => eqHandleS_any A A' n c n' c' xs xs W hx hy
  have C2 := fun W A n c (hx : Sl W A n c 1 (ints zs)) A' n' c' (hy : Sl W A' n' c' 1 (ints zs)) => eqIntS_any A A' n c n' c' zs zs W hx hy
  rw [t1] at C1
  rw [t2] at C2
  clear t1 t2
  go_enter Tryd.func17, Tryd.ntmps17
  go_wp2_with fail
  refine (C1 _ _ _ _ (h.ext hE) _ _ _ (h'.ext hE)).mono ?_
  rintro e1 w1 ⟨rfl, x1⟩
  have hE := hE.trans x1
  have c1 := x1.cell c1
  have d1 := x1.cell d1
  clear x1 c0 d0
  go_wp2_with fail
  refine (C2 _ _ _ _ (hz.ext hE) _ _ _ (hz'.ext hE)).mono ?_
  rintro e1 w2 ⟨rfl, q, rfl⟩
  go_wp2_with fail
  go_ret
  exact ⟨rfl, hE.drewN q⟩
theorem toInbox_own (A : Option Addr) (n c : Nat) (xs : List Hd) (B : Option Addr) (m d : Nat) (zs : List Int) (w : World) (h : Sl w A n c 2 (hds xs)) (hz : Sl w B m d 1 (ints zs)) (hn : n ≤ 1048576) (hm : m ≤ 1048576) :
    Calls Tryd.prog 15 #[ibA A n c B m d] w fun e w' => ∃ C D, e = .returned (ibA C n n D m m) ∧ w'.ownsRow w.heap.size 28 2 (.slice C n n) n (hds xs) ∧ w'.ownsRow w.heap.size 3 1 (.slice D m m) m (ints zs) ∧ Ext.of w w' := by
  go_enter Tryd.func15, Tryd.ntmps15
  go_wp2_with fail
  generalize hW : ((w.alloc (.cells #[.slice A n c, .slice B m d] 41)).alloc (.cells #[.slice none 0 0, .slice none 0 0] 26)).alloc (.cells #[.slice none 0 0, .slice none 0 0] 26) = W
  have hE : Ext.of w W := by rw [← hW]; exact (((Ext.of.refl _).alloc _).alloc _).alloc _
  have hs : W.heap.size = w.heap.size + 3 := by rw [← hW]; simp
  have h0 : W.heap[w.heap.size]? = some (.cells #[.slice A n c, .slice B m d] 41 (0, 0)) := by rw [← hW]; exact alloc_old (alloc_old (alloc_new' rfl))
  have h1 : W.heap[w.heap.size + 1]? = some (.cells #[.slice none 0 0, .slice none 0 0] 26 (0, 0)) := by rw [← hW]; exact alloc_old (alloc_new' (by simp))
  have h2 : W.heap[w.heap.size + 2]? = some (.cells #[.slice none 0 0, .slice none 0 0] 26 (0, 0)) := by rw [← hW]; exact alloc_new' (by simp)
  clear hW
  refine (toHandleS_any _ _ _ xs _ (h.ext hE) hn).mono ?_
  rintro e1 w1 ⟨rfl, o1, b1⟩
  have g0 := (b1.block _ (Array.getElem?_eq_some_iff.1 h0).1).trans h0
  have g1 := (b1.block _ (Array.getElem?_eq_some_iff.1 h1).1).trans h1
  have g2 := (b1.block _ (Array.getElem?_eq_some_iff.1 h2).1).trans h2
  have T1 := below_next hE.below b1
  rw [hs] at o1
  have x1 := cell_of_row w1 w.heap.size 1 _ _ _ g0
  have z0 := cell_of_row w1 (w.heap.size + 2) 0 _ _ _ g2
  have f0 := frozen_of_row w1 (w.heap.size + 2) 0 _ _ g2
  clear hE h0 h1 h2 b1
  go_wp2_with fail
  have u0 := (Below.heap_setCell w1 ⟨w.heap.size + 1 + 1, 0, none⟩ (.slice (some ⟨w.heap.size + 3, 0, none⟩) n n) w.heap.size (by dsimp; omega)).trans g0
  have u1 := (Below.heap_setCell w1 ⟨w.heap.size + 1 + 1, 0, none⟩ (.slice (some ⟨w.heap.size + 3, 0, none⟩) n n) (w.heap.size + 1) (by dsimp; omega)).trans g1
  have u2 : (w1.setCell ⟨w.heap.size + 1 + 1, 0, none⟩ (.slice (some ⟨w.heap.size + 3, 0, none⟩) n n)).heap[w.heap.size + 2]? = some (.cells #[.slice (some ⟨w.heap.size + 3, 0, none⟩) n n, .slice none 0 0] 26 (0, 0)) := by simpa using heap_setCell_same w1 (w.heap.size + 2) 0 _ _ (.slice (some ⟨w.heap.size + 3, 0, none⟩) n n) g2
  have o1 := ownsRow_setCell_other o1 (a := ⟨w.heap.size + 1 + 1, 0, none⟩) (by simp [Value.ownBlock] <;> omega) (.slice (some ⟨w.heap.size + 3, 0, none⟩) n n)
  have T1 := T1.setCell (p := ⟨w.heap.size + 1 + 1, 0, none⟩) (by dsimp; omega) (.slice (some ⟨w.heap.size + 3, 0, none⟩) n n)
  clear g0 g1 g2 x1 z0 f0
  generalize w1.setCell ⟨w.heap.size + 1 + 1, 0, none⟩ (.slice (some ⟨w.heap.size + 3, 0, none⟩) n n) = U at *
  have x1 := cell_of_row U w.heap.size 1 _ _ _ u0
  go_wp2_with fail
  refine (toIntS_any _ _ _ zs _ (hz.below T1) hm).mono ?_
  rintro e1 w2 ⟨rfl, o2, b2⟩
  have g1 := (b2.block _ (Array.getElem?_eq_some_iff.1 u1).1).trans u1
  have g2 := (b2.block _ (Array.getElem?_eq_some_iff.1 u2).1).trans u2
  have o1 := own_below o1 b2
  have T2 := below_next T1 b2
  have hU := (Array.getElem?_eq_some_iff.1 u2).1
  clear x1 u0 u1 u2 T1 b2
  have c0 := cell_of_row w2 (w.heap.size + 1) 0 _ _ _ g1
  have c1 := cell_of_row w2 (w.heap.size + 1) 1 _ _ _ g1
  have fc0 := frozen_of_row w2 (w.heap.size + 1) 0 _ _ g1
  have fc1 := frozen_of_row w2 (w.heap.size + 1) 1 _ _ g1
  have d0 := cell_of_row w2 (w.heap.size + 2) 0 _ _ _ g2
  have d1 := cell_of_row w2 (w.heap.size + 2) 1 _ _ _ g2
  have fd1 := frozen_of_row w2 (w.heap.size + 2) 1 _ _ g2
  clear g1 g2
  go_wp2_with fail
  refine bodyPost_ret (v := ibA (some ⟨w.heap.size + 3, 0, none⟩) n n (some ⟨U.heap.size, 0, none⟩) m m) (by simp [results, Tryd.results15, go_sem, c0, c1]) rfl ⟨_, _, rfl, ?_, ?_, Ext.of_below ?_⟩
  · exact own_lower (ownsRow_setCell_other (ownsRow_setCell_other (ownsRow_setCell_other o1 (by simp [Value.ownBlock] <;> omega) _) (by simp [Value.ownBlock] <;> omega) _) (by simp [Value.ownBlock] <;> omega) _) (by omega)
  · exact own_lower (ownsRow_setCell_other (ownsRow_setCell_other (ownsRow_setCell_other o2 (by simp [Value.ownBlock] <;> omega) _) (by simp [Value.ownBlock] <;> omega) _) (by simp [Value.ownBlock] <;> omega) _) (by omega)
  · exact ((T2.setCell (by dsimp; omega) _).setCell (by dsimp; omega) _).setCell (by dsimp; omega) _
theorem toInbox_any (A : Option Addr) (n c : Nat) (xs : List Hd) (B : Option Addr) (m d : Nat) (zs : List Int) (w : World) (h : Sl w A n c 2 (hds xs)) (hz : Sl w B m d 1 (ints zs)) (hn : n ≤ 1048576) (hm : m ≤ 1048576) :
    Calls Tryd.prog 15 #[ibA A n c B m d] w fun e w' => ∃ C D, e = .returned (ibA C n n D m m) ∧ Sl w' C n n 2 (hds xs) ∧ Sl w' D m m 1 (ints zs) ∧ Ext.of w w' := by
  refine (toInbox_own A n c xs B m d zs w h hz hn hm).mono ?_
  rintro e w' ⟨C, D, he, o1, o2, x⟩
  exact ⟨C, D, he, own_sl o1, own_sl o2, x⟩
end Go.Proofs.YtoagpfdhbcgdcaaDoor
