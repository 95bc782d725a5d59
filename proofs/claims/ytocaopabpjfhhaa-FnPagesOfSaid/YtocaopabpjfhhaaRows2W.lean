/- The contracts of the laws' functions over slices of slices of integers, and of PagesOf, the program's and the reference's. -/
import Derived.Test.YtocaopabpjfhhaaRows2
namespace Go.Proofs.Ytocaopabpjfhhaa
open Go.RowKit
set_option linter.unusedVariables false

set_option maxHeartbeats 1000000 in
theorem eqIntSS_any (A B : Option Addr) (n c m d : Nat) (ps qs : List Pg) (b1 b2 : Nat) (w : World) (hx : Pages w b1 (.slice A n c) ps) (hy : Pages w b2 (.slice B m d) qs) (he : pxs ps = pxs qs) :
    Calls Try.prog 34 #[.slice A n c, .slice B m d] w fun e w' => e = .returned (.bool true) ∧ Ext.of w w' := by
  have hnm : n = m := by rw [← hx.len, ← hy.len]; have := congrArg List.length he; simpa using this
  obtain ⟨hcx, hmx⟩ := hx.caps
  obtain ⟨hcy, hmy⟩ := hy.caps
  unfold maxLen at hmx hmy
  subst hnm
  have HE := hid he
  clear he
  go_enter Try.func34, Try.ntmps34
  go_wp2
  go_loopw [5] (fun i wr => ∃ (k : Nat) (y : Ext), k ≤ n ∧ i = .int .i64 k ∧ wr = More w y) (fun i _ => n - (intOf i).toNat)
  case atStart => exact ⟨0, _, Nat.zero_le _, rfl, more_refl w⟩
  case round =>
    obtain ⟨k, y, hk, rfl, rfl⟩ := hrel
    by_cases hlt : k < n
    · obtain ⟨ad, p, rfl, hp, c0⟩ := hx.at hlt
      obtain ⟨ae, q, rfl, hq, d0⟩ := hy.at hlt
      have e0 := more_cell2 c0 y
      have f0 := more_cell2 d0 y
      have hpq : p.xs = q.xs := by
        have h1 : (pxs ps)[k]? = some p.xs := by simp [pxs, hp]
        have h2 : (pxs qs)[k]? = some q.xs := by simp [pxs, hq]
        rw [HE.out, h2] at h1
        injection h1 with h1
        exact h1.symm
      have C := fun z => eqIntS_any p.A q.A p.n p.c q.n q.c p.xs q.xs (More (More w y) z) (((hx.sl hp).more y).more z) (((hy.sl hq).more y).more z)
      have ht : decide (p.xs = q.xs) = true := decide_eq_true hpq
      rw [ht] at C
      have C := fun z => (C z).mono fun _ _ ⟨he, k, hw⟩ => (⟨he, hw ▸ (Ext.of.refl _).drewN k⟩ : _ ∧ Ext.of _ _)
      clear hpq ht c0 d0 hp hq
      go_wp2
      refine wp_region_more (by kernel_rfl) (by kernel_rfl) ?_
      repeat (go_big_quiet_step (exact more_of (C _)))
      refine wpQuiet_nil ?_
      rintro _ ⟨z, rfl⟩
      go_wp2
      go_roundw
      case rel => exact ⟨k + 1, _, by omega, by go_num, more_more _ _ _⟩
      case measure => simp [intOf]; omega
    · obtain rfl : k = n := by omega
      go_wp2
      go_ret
      exact ⟨rfl, _, rfl⟩
set_option maxHeartbeats 1000000 in
theorem markIntSS_any (A : Option Addr) (n c k : Nat) (ps : List Pg) (base : Nat) (w : World) (h : Pages w base (.slice A n c) ps) (hn : n ≤ 41) (hk : k ≤ 1000000) :
    Calls Try.prog 35 #[.slice A n c, .int .i64 k] w fun e w' => ∃ qs, e = .returned (.int .i64 ((k + offs qs n : Nat) : Int)) ∧ Pages w' base (.slice A n c) qs ∧ Marked k qs n ∧ Turned w w' (pgs ps) := by
  obtain ⟨hcx, hmx⟩ := h.caps
  unfold maxLen at hmx
  have H0 := hid h
  have T0 := hid (Turned.refl w (pgs ps))
  clear h
  go_enter Try.func35, Try.ntmps35
  go_wp2
  go_loopw [1, 5] (fun q i wr => ∃ (j : Nat) (qs : List Pg), j ≤ n ∧ i = .int .i64 j ∧ q = .int .i64 ((k + offs qs j : Nat) : Int) ∧ Hid (Pages wr base (.slice A n c) qs) ∧ Hid (pgs qs = pgs ps) ∧ Hid (Marked k qs j) ∧ Hid (Turned w wr (pgs ps))) (fun _ i _ => n - (intOf i).toNat)
  case atStart => exact ⟨0, ps, Nat.zero_le _, rfl, by rw [offs_zero]; rfl, H0, rfl, (fun i p hi => by omega), T0⟩
  case round =>
    obtain ⟨j, qs, hj, rfl, rfl, hP, hV, hM, hT⟩ := hrel
    clear H0 T0
    by_cases hlt : j < n
    · obtain ⟨ad, p, rfl, hp, c0⟩ := hP.out.at hlt
      have ho := offs_le hP.out.small j
      have hs := hP.out.small j p hp
      have hN := hid (offs_succ hp)
      have HP := hid hp
      generalize hkj : k + offs qs j = kj at *
      have HK := hid hkj
      have hkb : kj ≤ 1000000 + 41 * 41 := by omega
      clear hp ho hkj
      go_wp2_with fail
      refine (markIntS_any p.A p.n p.c kj kj rfl _ base _ (hP.out.inner j p HP.out) (by omega) (by omega)).mono ?_
      rintro e w2 ⟨rfl, o2, g2⟩
      have P2 := hid (hP.out.turn HP.out o2 g2)
      have V2 := hid ((set_v HP.out (markN kj p.n)).trans hV.out)
      have M2 := hid (show Marked k (qs.set j ⟨p.A, p.n, p.c, markN kj p.n⟩) (j + 1) by have := hM.out.next HP.out; rw [HK.out] at this; exact this)
      have T2 := hid (hT.out.next (v := p.v) (by rw [← hV.out]; exact List.mem_map.2 ⟨p, List.mem_of_getElem? HP.out, rfl⟩) g2)
      have E2 := hid (show kj + p.n = k + offs (qs.set j ⟨p.A, p.n, p.c, markN kj p.n⟩) (j + 1) by rw [offs_same (set_n HP.out _), hN.out, ← HK.out]; omega)
      clear hP hV hM hT o2 g2 c0
      rw [E2.out]
      go_wp2
      go_roundw
      case rel => exact ⟨j + 1, _, by omega, by go_num, rfl, P2, V2, M2, T2⟩
      case measure => simp [intOf]; omega
    · obtain rfl : j = n := by omega
      go_wp2
      go_ret
      exact ⟨qs, rfl, hP.out, hM.out, hT.out⟩
set_option maxHeartbeats 1000000 in
theorem heldIntSS_any (A : Option Addr) (n c k : Nat) (ps : List Pg) (base : Nat) (w : World) (h : Pages w base (.slice A n c) ps) (hM : Marked k ps n) (hn : n ≤ 41) (hk : k ≤ 1000000) :
    Calls Try.prog 36 #[.slice A n c, .int .i64 k] w fun e w' => e = .returned (.int .i64 ((k + offs ps n : Nat) : Int)) ∧ w = w' := by
  obtain ⟨hcx, hmx⟩ := h.caps
  unfold maxLen at hmx
  have HM := hid hM
  clear hM
  go_enter Try.func36, Try.ntmps36
  go_wp2
  go_loop [1, 5] (fun q i => ∃ j : Nat, j ≤ n ∧ i = .int .i64 j ∧ q = .int .i64 ((k + offs ps j : Nat) : Int)) (fun _ i => n - (intOf i).toNat)
  case atStart => exact ⟨0, Nat.zero_le _, rfl, by rw [offs_zero]; rfl⟩
  case round =>
    obtain ⟨j, hj, rfl, rfl⟩ := hrel
    by_cases hlt : j < n
    · obtain ⟨ad, p, rfl, hp, c0⟩ := h.at hlt
      have ho := offs_le h.small j
      have hs := h.small j p hp
      have hN := hid (offs_succ hp)
      have S := hid (h.sl hp)
      rw [HM.out j p hlt hp] at S
      generalize hkj : k + offs ps j = kj at *
      have hkb : kj ≤ 1000000 + 41 * 41 := by omega
      have E2 := hid (show kj + p.n = k + offs ps (j + 1) by rw [hN.out, ← hkj]; omega)
      clear hp ho hkj hN
      go_wp2_with fail
      refine (heldIntS_any p.A p.n p.c kj kj rfl _ S.out (by omega) (by omega)).mono ?_
      rintro e w2 ⟨rfl, rfl⟩
      rw [E2.out]
      have E3 := E2.out
      go_wp2
      go_round
      case rel => exact ⟨j + 1, by omega, by go_num, rfl⟩
      case measure => simp [intOf]; omega
    · obtain rfl : j = n := by omega
      go_wp2
      go_ret
      exact ⟨rfl, rfl⟩
/-- Where the numbers of a page's list stand. -/
theorem pg_new {w w' : World} {base : Nat} {V : Value} {ps : List Pg} (P : Pages w base V ps) (hb : base ≤ w.heap.size) {B : Option Addr} {k d : Nat} {xs : List Int}
    (o : w'.ownsRow w.heap.size 3 1 (.slice B k d) k (ints xs)) (b : Below w.heap.size w w') (hs : k ≤ 41) :
    Pages w' base V ps ∧ w'.ownsRow base 3 1 (.slice B k d) k (ints xs) ∧ (∀ j, (Value.slice B k d).ownBlock = some j → Off V ps j) :=
  ⟨P.below b, own_lower o hb, fun j hj => P.off_ge (o.lt j hj).1⟩
theorem Pages.nil (w : World) (base : Nat) : Pages w base (.slice none 0 0) [] :=
  ⟨World.ownsRow_nil _ _ _ _, fun i p h => by simp at h, fun i j p q _ h => by simp at h, fun i p h => by simp at h, fun i p h => by simp at h⟩
theorem Pages.empty (w : World) : Pages (w.alloc (.cells #[] 28)) w.heap.size (.slice (some ⟨w.heap.size, 0, none⟩) 0 0) [] :=
  ⟨own_empty w _ 1, fun i p h => by simp at h, fun i j p q _ h => by simp at h, fun i p h => by simp at h, fun i p h => by simp at h⟩
theorem Pages.alloc {w : World} {base : Nat} {V : Value} {ps : List Pg} (h : Pages w base V ps) (o : Obj) : Pages (w.alloc o) base V ps := h.ext ((Ext.of.refl _).alloc o)
end Go.Proofs.Ytocaopabpjfhhaa
