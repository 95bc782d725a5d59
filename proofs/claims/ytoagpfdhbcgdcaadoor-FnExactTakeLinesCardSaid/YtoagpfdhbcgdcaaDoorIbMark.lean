/- The laws' marks on inboxes. -/
import Derived.Test.YtoagpfdhbcgdcaaDoorInboxTo
import Derived.Test.YtoagpfdhbcgdcaaDoorTake
namespace Go.Proofs.YtoagpfdhbcgdcaaDoor
open Go.RowKit
set_option linter.unusedVariables false
set_option linter.unusedSimpArgs false
set_option maxHeartbeats 1000000 in
theorem markInbox_nat (A : Option Addr) (n c : Nat) (B : Option Addr) (m d k : Nat) (us vs : List Value) (b1 b2 : Nat) (w : World) (o1 : w.ownsRow b1 28 2 (.slice A n c) n us) (o2 : w.ownsRow b2 3 1 (.slice B m d) m vs) (hn : n ≤ 1048576) (hm : m ≤ 1048576) (hk : 1 ≤ k) (hk2 : k ≤ 1000000) :
    Calls Tryd.prog 18 #[ibA A n c B m d, .int .i64 k] w fun e w' => e = .returned (.int .i64 ((k + n * 2 + m : Nat) : Int)) ∧ w'.ownsRow b1 28 2 (.slice A n c) n (hds (hdMark k n)) ∧ w'.ownsRow b2 3 1 (.slice B m d) m (ints (markN (k + n * 2) m)) ∧ ∃ u, w.grownBy u (Value.slice A n c).ownBlock ∧ u.grownBy w' (Value.slice B m d).ownBlock := by
  have hc : (w.alloc (.cells #[.slice A n c, .slice B m d] 26)).heap[w.heap.size]? = some (.cells #[.slice A n c, .slice B m d] 26 (0, 0)) := alloc_new' rfl
  have d0 := cell_of_row _ w.heap.size 0 _ _ _ hc
  have d1 := cell_of_row _ w.heap.size 1 _ _ _ hc
  have o1 := o1.alloc (.cells #[.slice A n c, .slice B m d] 26)
  have o2 := o2.alloc (.cells #[.slice A n c, .slice B m d] 26)
  have G0 := fun r => World.grownBy_alloc w (.cells #[.slice A n c, .slice B m d] 26) r
  go_enter Tryd.func18, Tryd.ntmps18
  go_wp2_with fail
  refine (markHandleS_any _ _ _ _ k rfl _ _ _ o1 hn hk (by omega)).mono ?_
  rintro e w1 ⟨rfl, o1', g1⟩
  have hc := (g1.block _ (Array.getElem?_eq_some_iff.1 hc).1 (fun e => own_ne o1 hc (by decide) e.symm)).trans hc
  have d1 := cell_of_row w1 w.heap.size 1 _ _ _ hc
  have o2' := o2.kept g1 (own_own_ne o2 o1 (by decide))
  obtain ⟨k', hk'⟩ : ∃ k', k' = k + n * 2 := ⟨_, rfl⟩
  have HK := hid hk'
  have hk3 : k' ≤ 4294967296 - 2000000 := by omega
  rw [← hk']
  clear hc d0 o1 o2 hk'
  go_wp2_with fail
  refine (markIntS_any _ _ _ _ k' rfl _ _ _ o2' hm (by omega)).mono ?_
  rintro e w2 ⟨rfl, o2, g2⟩
  have o1 := o1'.kept g2 (own_own_ne o1' o2' (by decide))
  go_wp2_with fail
  go_ret
  refine ⟨ret_i64 (by have h := HK.out; omega), o1, by rw [← HK.out]; exact o2, w1, (G0 _).trans g1, g2⟩
theorem markInbox_any (A : Option Addr) (n c : Nat) (B : Option Addr) (m d : Nat) (q : Int) (k : Nat) (hq : q = (k : Int)) (us vs : List Value) (b1 b2 : Nat) (w : World) (o1 : w.ownsRow b1 28 2 (.slice A n c) n us) (o2 : w.ownsRow b2 3 1 (.slice B m d) m vs) (hn : n ≤ 1048576) (hm : m ≤ 1048576) (hk : 1 ≤ k) (hk2 : k ≤ 1000000) :
    Calls Tryd.prog 18 #[ibA A n c B m d, .int .i64 q] w fun e w' => e = .returned (.int .i64 ((k + n * 2 + m : Nat) : Int)) ∧ w'.ownsRow b1 28 2 (.slice A n c) n (hds (hdMark k n)) ∧ w'.ownsRow b2 3 1 (.slice B m d) m (ints (markN (k + n * 2) m)) ∧ ∃ u, w.grownBy u (Value.slice A n c).ownBlock ∧ u.grownBy w' (Value.slice B m d).ownBlock := by
  subst hq; exact markInbox_nat A n c B m d k us vs b1 b2 w o1 o2 hn hm hk hk2
set_option maxHeartbeats 1000000 in
theorem heldInbox_any (A : Option Addr) (n c : Nat) (B : Option Addr) (m d : Nat) (q : Int) (k : Nat) (hq : q = (k : Int)) (w : World) (s1 : Sl w A n c 2 (hds (hdMark k n))) (s2 : Sl w B m d 1 (ints (markN (k + n * 2) m))) (hn : n ≤ 1048576) (hm : m ≤ 1048576) (hk : 1 ≤ k) (hk2 : k ≤ 1000000) :
    Calls Tryd.prog 19 #[ibA A n c B m d, .int .i64 q] w fun e w' => e = .returned (.int .i64 ((k + n * 2 + m : Nat) : Int)) ∧ Ext.of w w' := by
  subst hq
  have hE : Ext.of w (w.alloc (.cells #[.slice A n c, .slice B m d] 26)) := (Ext.of.refl _).alloc _
  have hc : (w.alloc (.cells #[.slice A n c, .slice B m d] 26)).heap[w.heap.size]? = some (.cells #[.slice A n c, .slice B m d] 26 (0, 0)) := alloc_new' rfl
  have d0 := cell_of_row _ w.heap.size 0 _ _ _ hc
  have d1 := cell_of_row _ w.heap.size 1 _ _ _ hc
  go_enter Tryd.func19, Tryd.ntmps19
  go_wp2_with fail
  refine (heldHandleS_any _ _ _ _ k rfl _ (s1.ext hE) hn hk (by omega)).mono ?_
  rintro e w1 ⟨rfl, x1⟩
  have hE := hE.trans x1
  have d1 := x1.cell d1
  obtain ⟨k', hk'⟩ : ∃ k', k' = k + n * 2 := ⟨_, rfl⟩
  have HK := hid hk'
  have hk3 : k' ≤ 4294967296 - 2000000 := by omega
  rw [← hk'] at s2 ⊢
  clear hc d0 hk' x1
  go_wp2_with fail
  refine (heldIntS_any _ _ _ _ k' rfl _ (s2.ext hE) hm (by omega)).mono ?_
  rintro e w2 ⟨rfl, rfl⟩
  have hk4 : 0 ≤ ((k' + m : Nat) : Int) := by omega
  go_wp2_with fail
  go_ret
  exact ⟨ret_i64 (by have h := HK.out; omega), hE⟩
end Go.Proofs.YtoagpfdhbcgdcaaDoor
