/- The contracts of the laws' functions over lists: Handle. -/
import Derived.Test.YtoagpfdhbcgdcaaDoorG2
import Derived.Test.YtoagpfdhbcgdcaaDoorG1
namespace Go.Proofs.YtoagpfdhbcgdcaaDoor
open Go.RowKit
set_option linter.unusedVariables false
abbrev Hd := ByteArray × ByteArray
abbrev hdC (x : Hd) : List Value := [.string x.1, .string x.2]
theorem hdC_len (x : Hd) : (hdC x).length = 2 := rfl
abbrev hds (xs : List Hd) : List Value := flat hdC xs
theorem Sl.hd {w : World} {A : Option Addr} {n c : Nat} {xs : List Hd} (h : Sl w A n c 2 (hds xs)) {j : Nat} (hj : j < n) :
    ∃ ad a b, A = some ad ∧ xs[j]? = some (a, b) ∧ w.cell? (ad.add (j * 2)) = some (.string a) ∧ w.cell? ⟨(ad.add (j * 2)).block, (ad.add (j * 2)).off + 1, none⟩ = some (.string b) := by
  obtain ⟨ad, ⟨a, b⟩, h1, h2, h3⟩ := h.elem hdC_len (by omega) hj
  exact ⟨ad, a, b, h1, h2, h3 0 _ rfl, by rw [addr_step _ _ _ (by omega)]; exact h3 1 _ rfl⟩
theorem hds_at {xs : List Hd} {j : Nat} {a b : ByteArray} (h : xs[j]? = some (a, b)) : (hds xs)[j * 2]? = some (.string a) ∧ (hds xs)[j * 2 + 1]? = some (.string b) := by
  exact ⟨flat_get hdC_len h (show 0 < 2 by omega), flat_get hdC_len h (show 1 < 2 by omega)⟩
theorem eltHandle : Elt Tryd.prog 23 28 2 32 := elt_mk (z := .agg #[.string ⟨#[]⟩, .string ⟨#[]⟩]) (by kernel_rfl) rfl Tryd.underlying23 (by decide)
theorem toHandleS_any (A : Option Addr) (n c : Nat) (xs : List Hd) (w : World) (h : Sl w A n c 2 (hds xs)) (hn : n ≤ 1048576) :
    Calls Tryd.prog 53 #[.slice A n c] w fun e w' => e = .returned (.slice (some ⟨w.heap.size, 0, none⟩) n n) ∧ w'.ownsRow w.heap.size 28 2 (.slice (some ⟨w.heap.size, 0, none⟩) n n) n (hds xs) ∧ Below w.heap.size w w' := by
  obtain ⟨i0, hi, hz0, hz1, hz2⟩ := info_parts (show (Tryd.prog.info? 28).map (fun i => (i.zero, i.size, i.bytes)) = some (some (.agg #[.string ⟨#[]⟩, .string ⟨#[]⟩]), 2, 32) by kernel_rfl)
  have hlen : xs.length = n := h.count hdC_len (by omega)
  have hflen : (hds xs).length = n * 2 := h.len
  go_enter Tryd.func53, Tryd.ntmps53
  go_wp2_with (at_make; refine wpList_make_full _ rfl _ _ 23 rfl w.heap.size 28 i0 (.agg #[.string ⟨#[]⟩, .string ⟨#[]⟩]) 2 Tryd.underlying23 hi hz0 hz1 .i64 .i64 n n n rfl rfl rfl rfl (by rw [hz2]; omega) (by unfold maxLen; omega) (Nat.le_refl _) ?_; intro w1 hown hg)
  have hb : Below w.heap.size w w1 := below_of_grown hg (Nat.le_refl _) (by simp)
  go_loopw [4] (fun i wr => ∃ (k : Nat) (vs : List Value), k ≤ n ∧ i = .int .i64 k ∧ wr.ownsRow w.heap.size 28 2 (.slice (some ⟨w.heap.size, 0, none⟩) n n) n vs ∧ vs.take (k * 2) = (hds xs).take (k * 2) ∧ Below w.heap.size w wr) (fun i _ => n - (intOf i).toNat)
  case atStart => exact ⟨0, _, Nat.zero_le _, rfl, hown, by rw [Nat.zero_mul]; rfl, hb⟩
  case round =>
    obtain ⟨k, vs, hk, rfl, hown, htk, hb⟩ := hrel
    by_cases hlt : k < n
    · obtain ⟨ad, a, b, rfl, hab, c0, c1⟩ := (h.below hb).hd hlt
      obtain ⟨p0, p1⟩ := hds_at hab
      go_wp2_with (go_at_call 55; refine (toHandle_any _ _ _).mono ?_; rintro e' w' ⟨rfl, hE⟩; have hown := own_ext hown hE; have hb := below_next hb hE.below
                   obtain ⟨o0, ho0, hc0⟩ := own_old hown (pair_lt0 hlt (show 0 < 2 by omega))
                   have hf0 := hown.frozenAt (k * 2)
                   obtain ⟨o1, ho1, hc1⟩ := own_old hown (pair_lt hlt (show 1 < 2 by omega))
                   have hf1 := hown.frozenAt (k * 2 + 1))
      have S0 := hown.stored (k * 2) (.string a)
      have S1 := S0.1.stored (k * 2 + 1) (.string b)
      have T0 := take_set_snoc (k := k * 2) htk (by have h1 := hown.1; have h2 := pair_lt hlt (show 0 < 2 by omega); omega) p0
      have T1 := take_set_snoc (k := k * 2 + 1) T0 (by have h1 := S0.1.1; have h2 := pair_lt hlt (show 1 < 2 by omega); omega) p1
      have hb2 := hb.grown (S0.2.trans S1.2) hb.size (by rintro _ ⟨rfl⟩; exact Nat.le_refl _)
      go_roundw
      case rel => exact ⟨k + 1, _, by omega, by go_num, S1.1, by rw [Nat.succ_mul]; exact T1, hb2⟩
      case measure => simp [intOf]; omega
    · obtain rfl : k = n := by omega
      have R : vs = hds xs := by
        have h1 := hown.1
        rw [List.take_of_length_le (by omega), List.take_of_length_le (by omega)] at htk
        exact htk
      subst R
      have R := hid (And.intro hown hb)
      clear hown hb htk
      go_wp2
      go_ret
      exact ⟨rfl, R.out⟩
theorem szHandleS_any (A : Option Addr) (n c : Nat) (xs : List Hd) (l : Int) (w : World) (h : Sl w A n c 2 (hds xs)) (h0 : 0 ≤ l) (h1 : l ≤ 1048576) (hx : hdOk xs) :
    Calls Tryd.prog 50 #[.slice A n c, .int .i64 l] w fun e w' => ∃ r : Int, e = .returned (.int .i64 r) ∧ -1 ≤ r ∧ r ≤ l ∧ (0 ≤ r → (n : Int) ≤ l) ∧ Ext.of w w' := by
  have hmx := h.max
  have hcx := h.cap
  unfold maxLen at hmx
  by_cases hn : l - n < 0
  · go_enter Tryd.func50, Tryd.ntmps50
    go_wp2
    go_ret
    exact ⟨_, rfl, by omega, by omega, fun h => by omega, Ext.of.refl _⟩
  · have hn' : (n : Int) ≤ l := by omega
    go_enter Tryd.func50, Tryd.ntmps50
    go_wp2
    go_loopw [1, 5] (fun q i wr => ∃ (k : Nat) (r : Int), k ≤ n ∧ i = .int .i64 k ∧ q = .int .i64 r ∧ 0 ≤ r ∧ r ≤ l ∧ Ext.of w wr) (fun _ i _ => n - (intOf i).toNat)
    case atStart => exact ⟨0, _, Nat.zero_le _, rfl, rfl, by omega, by omega, Ext.of.refl _⟩
    case round =>
      obtain ⟨k, r, hk, rfl, rfl, r0, r1, hE⟩ := hrel
      by_cases hlt : k < n
      · obtain ⟨ad, a, b, rfl, hab, c0, c1⟩ := (h.ext hE).hd hlt
        have hs := hx _ (List.mem_of_getElem? hab)
        clear hab
        have HS := hid hs; clear hs
        go_wp2_with fail
        refine (szHandle_any _ _ r r0 (by omega) _ HS.out.1 HS.out.2).mono ?_
        rintro e' w' ⟨r2, rfl, r3, r4, hE2⟩
        have hE3 := hE.trans hE2
        clear c0 hE hE2
        by_cases hr : r2 < 0
        · go_wp2
          go_ret
          exact ⟨_, rfl, by omega, by omega, fun h => by omega, hE3⟩
        · go_wp2
          go_roundw
          case rel => exact ⟨k + 1, _, by omega, by go_num, rfl, by omega, by omega, hE3⟩
          case measure => simp [intOf]; omega
      · obtain rfl : k = n := by omega
        go_wp2
        go_ret
        exact ⟨_, rfl, by omega, by omega, fun _ => hn', hE⟩
theorem eqHandleS_any (A B : Option Addr) (n c m d : Nat) (xs ys : List Hd) (w : World) (hx : Sl w A n c 2 (hds xs)) (hy : Sl w B m d 2 (hds ys)) :
    Calls Tryd.prog 56 #[.slice A n c, .slice B m d] w fun e w' => e = .returned (.bool (decide (xs = ys))) ∧ Ext.of w w' := by
  have hlx : xs.length = n := hx.count hdC_len (by omega)
  have hly : ys.length = m := hy.count hdC_len (by omega)
  have hmx := hx.max
  have hmy := hy.max
  have hcx := hx.cap
  have hcy := hy.cap
  unfold maxLen at hmx hmy
  by_cases hnm : n = m
  · subst hnm
    go_enter Tryd.func56, Tryd.ntmps56
    go_wp2
    go_loopw [5] (fun i wr => ∃ (k : Nat) (y : Ext), k ≤ n ∧ i = .int .i64 k ∧ wr = More w y ∧ xs.take k = ys.take k) (fun i _ => n - (intOf i).toNat)
    case atStart => exact ⟨0, _, Nat.zero_le _, rfl, more_refl w, rfl⟩
    case round =>
      obtain ⟨k, y, hk, rfl, rfl, htk⟩ := hrel
      by_cases hlt : k < n
      · obtain ⟨ad, a, b, rfl, hab, c0, c1⟩ := hx.hd hlt
        obtain ⟨ae, a', b', rfl, hab', d0, d1⟩ := hy.hd hlt
        have e0 := more_cell2 c0 y
        have f0 := more_cell2 d0 y
        have e1 := more_cell2 c1 y
        have f1 := more_cell2 d1 y
        clear c0 d0 c1 d1
        by_cases he : (a, b) = (a', b')
        · obtain ⟨rfl, rfl⟩ : a = a' ∧ b = b' := by simpa using he
          have R := hid (take_next htk hab hab')
          have D := hdQ_yes a b
          clear hab hab' htk he
          go_wp2
          refine wp_region_more (by kernel_rfl) (by kernel_rfl) ?_
          repeat (go_big_quiet_step (exact more_of (eqHandle_any _ _ _ _ _)))
          refine wpQuiet_nil ?_
          rintro _ ⟨z, rfl⟩
          go_wp2
          go_roundw
          case rel => exact ⟨k + 1, _, by omega, by go_num, more_more _ _ _, R.out⟩
          case measure => simp [intOf]; omega
        · have hne : decide (xs = ys) = false := by
            refine decide_eq_false fun e => he ?_
            subst e
            rw [hab] at hab'
            injection hab'
          have H := hid hne
          have D := hdQ_no he
          clear hab hab' htk hne he
          go_wp2
          refine wp_region_more (by kernel_rfl) (by kernel_rfl) ?_
          repeat (go_big_quiet_step (exact more_of (eqHandle_any _ _ _ _ _)))
          refine wpQuiet_nil ?_
          rintro _ ⟨z, rfl⟩
          go_wp2
          go_ret
          exact ⟨ret_bool H.out.symm, _, more_more _ _ _⟩
      · obtain rfl : k = n := by omega
        have R : xs = ys := by
          rw [List.take_of_length_le (by omega), List.take_of_length_le (by omega)] at htk
          exact htk
        have H := hid (decide_eq_true R)
        clear htk R
        go_wp2
        go_ret
        exact ⟨ret_bool H.out.symm, _, rfl⟩
  · have hne : decide (xs = ys) = false := by
      refine decide_eq_false fun e => hnm ?_
      rw [← hlx, ← hly, e]
    rw [hne]
    have hb1 : ((n : Int) == (m : Int)) = false := by simpa using fun e => hnm (by exact_mod_cast e)
    go_enter Tryd.func56, Tryd.ntmps56
    go_wp2
    go_ret
    exact ⟨rfl, _, more_refl w⟩
/-- The marks from k on. -/
def hdMark (k n : Nat) : List Hd := (List.range n).map fun j => (mtB (k + j * 2), mtB (k + j * 2 + 1))
theorem hdMark_len (k n : Nat) : (hdMark k n).length = n := by simp [hdMark]
theorem hdMark_at {k n j : Nat} (h : j < n) : (hdMark k n)[j]? = some (mtB (k + j * 2), mtB (k + j * 2 + 1)) := by simp [hdMark, h]
set_option maxHeartbeats 1000000 in
theorem markHandleS_nat (A : Option Addr) (n c k : Nat) (vs : List Value) (base : Nat) (w : World) (h : w.ownsRow base 28 2 (.slice A n c) n vs) (hn : n ≤ 1048576) (hk : 1 ≤ k) (hk2 : k ≤ 4294967296) :
    Calls Tryd.prog 58 #[.slice A n c, .int .i64 k] w fun e w' => e = .returned (.int .i64 ((k + n * 2 : Nat) : Int)) ∧ w'.ownsRow base 28 2 (.slice A n c) n (hds (hdMark k n)) ∧ w.grownBy w' (Value.slice A n c).ownBlock := by
  obtain ⟨A', c', hv, h1, h2, h3⟩ := own_form h
  obtain ⟨rfl, rfl⟩ : A = A' ∧ c = c' := by injection hv with a b d; exact ⟨a, d⟩
  clear hv
  unfold maxLen at h2
  have G := hid (World.grownBy.refl w (Value.slice A n c).ownBlock)
  have LF := hid (show (hds (hdMark k n)).length = n * 2 by rw [flat_length hdC_len, hdMark_len])
  go_enter Tryd.func58, Tryd.ntmps58
  go_wp2
  go_loopw [1, 5] (fun q i wr => ∃ (j : Nat) (us : List Value), j ≤ n ∧ i = .int .i64 j ∧ q = .int .i64 ((k + j * 2 : Nat) : Int) ∧ wr.ownsRow base 28 2 (.slice A n c) n us ∧ us.take (j * 2) = (hds (hdMark k n)).take (j * 2) ∧ w.grownBy wr (Value.slice A n c).ownBlock) (fun _ i _ => n - (intOf i).toNat)
  case atStart => exact ⟨0, _, Nat.zero_le _, rfl, by rw [Nat.zero_mul]; rfl, h, by rw [Nat.zero_mul]; rfl, G.out⟩
  case round =>
    obtain ⟨j, us, hj, rfl, rfl, hown, htk, hg⟩ := hrel
    by_cases hlt : j < n
    · obtain ⟨g, rfl, _, _⟩ : ∃ g, A = some ⟨g, 0, none⟩ ∧ base ≤ g ∧ g < w.heap.size := by
        rcases h3 with rfl | h3
        · rcases h.2 with ⟨_, h0⟩ | ⟨g, cap, cur, hv, _⟩
          · omega
          · cases hv
        · exact h3
      obtain ⟨p0, p1⟩ := hds_at (hdMark_at (k := k) hlt)
      have HP := hid (And.intro htk (And.intro p0 p1))
      clear htk p0 p1 h h3 G
      obtain ⟨kj, hkj⟩ : ∃ kj, kj = k + j * 2 := ⟨_, rfl⟩
      rw [← hkj]
      have hkb : kj ≤ 4294967296 + 1048576 * 2 := by omega
      have hk1 : 1 ≤ kj := by omega
      have HK := hid hkj; clear hkj
      have HO0 := hid hown
      have HG0 := hid hg
      clear hown hg
      go_wp2_with fail
      refine (markText_at kj _ (by push_cast; omega) (by omega) (by omega) _).mono ?_
      rintro e' w0 ⟨rfl, hE0⟩
      replace HO0 := hid (own_ext HO0.out hE0)
      replace HG0 := hid (HG0.out.trans (grown_of_below hE0.below _))
      clear hE0
      obtain ⟨o0, ho0, hc0⟩ := own_old HO0.out (pair_lt0 hlt (show 0 < 2 by omega))
      have hf0 := HO0.out.frozenAt (j * 2)
      have HS0 := hid (HO0.out.stored (j * 2) (.string (mtB kj)))
      have HO1 := hid HS0.out.1
      have HG1 := hid (HG0.out.trans HS0.out.2)
      clear ho0 HS0
      go_wp2_with fail
      refine (markText_at (kj + 1) _ (by push_cast; omega) (by omega) (by omega) _).mono ?_
      rintro e' w1 ⟨rfl, hE1⟩
      replace HO1 := hid (own_ext HO1.out hE1)
      replace HG1 := hid (HG1.out.trans (grown_of_below hE1.below _))
      clear hE1
      obtain ⟨o1, ho1, hc1⟩ := own_old HO1.out (pair_lt hlt (show 1 < 2 by omega))
      have hf1 := HO1.out.frozenAt (j * 2 + 1)
      have HS1 := hid (HO1.out.stored (j * 2 + 1) (.string (mtB (kj + 1))))
      have HO2 := hid HS1.out.1
      have HG2 := hid (HG1.out.trans HS1.out.2)
      clear ho1 HS1
      go_wp2
      go_roundw
      case rel =>
        obtain ⟨htk, p0, p1⟩ := HP.out
        rw [← HK.out] at p0 p1
        have T0 := take_set_snoc (k := j * 2) htk (by have h1 := HO0.out.1; have h2 := pair_lt hlt (show 0 < 2 by omega); omega) p0
        have T1 := take_set_snoc (k := j * 2 + 1) T0 (by have h1 := HO1.out.1; have h2 := pair_lt hlt (show 1 < 2 by omega); omega) p1
        exact ⟨j + 1, _, by omega, by go_num, by rw [Nat.succ_mul, ← Nat.add_assoc, ← HK.out]; go_num, HO2.out, by rw [Nat.succ_mul]; exact T1, HG2.out⟩
      case measure => simp [intOf]; omega
    · obtain rfl : j = n := by omega
      have R : us = hds (hdMark k j) := by
        have h1 := hown.1
        rw [List.take_of_length_le (by omega), List.take_of_length_le (by rw [LF.out]; omega)] at htk
        exact htk
      subst R
      have R := hid (And.intro hown hg)
      clear hown hg htk h h3 G
      go_wp2
      go_ret
      exact ⟨rfl, R.out⟩
theorem markHandleS_any (A : Option Addr) (n c : Nat) (q : Int) (k : Nat) (hq : q = (k : Int)) (vs : List Value) (base : Nat) (w : World) (h : w.ownsRow base 28 2 (.slice A n c) n vs) (hn : n ≤ 1048576) (hk : 1 ≤ k) (hk2 : k ≤ 4294967296) :
    Calls Tryd.prog 58 #[.slice A n c, .int .i64 q] w fun e w' => e = .returned (.int .i64 ((k + n * 2 : Nat) : Int)) ∧ w'.ownsRow base 28 2 (.slice A n c) n (hds (hdMark k n)) ∧ w.grownBy w' (Value.slice A n c).ownBlock := by
  subst hq; exact markHandleS_nat A n c k vs base w h hn hk hk2
set_option maxHeartbeats 1000000 in
theorem heldHandleS_nat (A : Option Addr) (n c k : Nat) (w : World) (h : Sl w A n c 2 (hds (hdMark k n))) (hn : n ≤ 1048576) (hk : 1 ≤ k) (hk2 : k ≤ 4294967296) :
    Calls Tryd.prog 60 #[.slice A n c, .int .i64 k] w fun e w' => e = .returned (.int .i64 ((k + n * 2 : Nat) : Int)) ∧ Ext.of w w' := by
  have hmx := h.max
  have hcx := h.cap
  unfold maxLen at hmx
  go_enter Tryd.func60, Tryd.ntmps60
  go_wp2
  go_loopw [1, 5] (fun q i wr => ∃ (j : Nat) (y : Ext), j ≤ n ∧ i = .int .i64 j ∧ q = .int .i64 ((k + j * 2 : Nat) : Int) ∧ wr = More w y) (fun _ i _ => n - (intOf i).toNat)
  case atStart => exact ⟨0, _, Nat.zero_le _, rfl, by rw [Nat.zero_mul]; rfl, more_refl w⟩
  case round =>
    obtain ⟨j, y, hj, rfl, rfl, rfl⟩ := hrel
    by_cases hlt : j < n
    · obtain ⟨ad, a, b, rfl, hab, c0, c1⟩ := (h.more y).hd hlt
      rw [hdMark_at hlt] at hab
      simp only [Option.some.injEq, Prod.mk.injEq] at hab
      obtain ⟨rfl, rfl⟩ := hab
      generalize hkj : k + j * 2 = kj at *
      have hkb : kj ≤ 4294967296 + 1048576 * 2 := by omega
      have hk1 : 1 ≤ kj := by omega
      have HK := hid hkj; clear hkj
      generalize hW : More w y = W at *
      have hE0 : Ext.of w W := by rw [← hW]; exact ⟨y, rfl⟩
      clear hW
      have g00 := more_cell c0
      have g01 := more_cell c1
      clear c0 c1
      go_wp2
      refine wp_region_more (by kernel_rfl) (by kernel_rfl) ?_
      repeat (go_big_quiet_step (exact more_of (markText_at kj _ (by push_cast; omega) (by omega) (by omega) _)))
      refine wpQuiet_nil ?_
      rintro _ ⟨z0, rfl⟩
      have c0 := g00 z0
      have c1 := g01 z0
      clear g00 g01
      generalize hW : More W z0 = W0 at *
      have hE1 : Ext.of w W0 := by rw [← hW]; exact hE0.trans ⟨z0, rfl⟩
      clear hW hE0
      have g11 := more_cell c1
      clear c1
      go_wp2
      refine wp_region_more (by kernel_rfl) (by kernel_rfl) ?_
      repeat (go_big_quiet_step (exact more_of (markText_at (kj + 1) _ (by push_cast; omega) (by omega) (by omega) _)))
      refine wpQuiet_nil ?_
      rintro _ ⟨z1, rfl⟩
      have c1 := g11 z1
      clear g11
      generalize hW : More W0 z1 = W1 at *
      have hE2 : Ext.of w W1 := by rw [← hW]; exact hE1.trans ⟨z1, rfl⟩
      clear hW hE1
      go_wp2
      go_roundw
      case rel =>
        obtain ⟨z, hz⟩ := hE2
        exact ⟨j + 1, z, by omega, by go_num, by rw [Nat.succ_mul, ← Nat.add_assoc, HK.out]; go_num, hz⟩
      case measure => simp [intOf]; omega
    · obtain rfl : j = n := by omega
      go_wp2
      go_ret
      exact ⟨rfl, ⟨_, rfl⟩⟩
theorem heldHandleS_any (A : Option Addr) (n c : Nat) (q : Int) (k : Nat) (hq : q = (k : Int)) (w : World) (h : Sl w A n c 2 (hds (hdMark k n))) (hn : n ≤ 1048576) (hk : 1 ≤ k) (hk2 : k ≤ 4294967296) :
    Calls Tryd.prog 60 #[.slice A n c, .int .i64 q] w fun e w' => e = .returned (.int .i64 ((k + n * 2 : Nat) : Int)) ∧ Ext.of w w' := by
  subst hq; exact heldHandleS_nat A n c k w h hn hk hk2
theorem sameHandles_any (A B : Option Addr) (n c m d : Nat) (xs ys : List Hd) (w : World) (hx : Sl w A n c 2 (hds xs)) (hy : Sl w B m d 2 (hds ys)) :
    Calls Tryd.prog 45 #[.slice A n c, .slice B m d] w fun e w' => e = .returned (.bool (decide (xs = ys))) ∧ Ext.of w w' := by
  have hQ := neqHandle
  have hlx : xs.length = n := hx.count hdC_len (by omega)
  have hly : ys.length = m := hy.count hdC_len (by omega)
  have hmx := hx.max
  have hmy := hy.max
  have hcx := hx.cap
  have hcy := hy.cap
  unfold maxLen at hmx hmy
  by_cases hnm : n = m
  · subst hnm
    go_enter Tryd.func45, Tryd.ntmps45
    go_wp2
    go_loopw [5] (fun i wr => ∃ (k : Nat) (y : Ext), k ≤ n ∧ i = .int .i64 k ∧ wr = More w y ∧ xs.take k = ys.take k) (fun i _ => n - (intOf i).toNat)
    case atStart => exact ⟨0, _, Nat.zero_le _, rfl, more_refl w, rfl⟩
    case round =>
      obtain ⟨k, y, hk, rfl, rfl, htk⟩ := hrel
      by_cases hlt : k < n
      · obtain ⟨ad, a, b, rfl, hab, c0, c1⟩ := hx.hd hlt
        obtain ⟨ae, a', b', rfl, hab', d0, d1⟩ := hy.hd hlt
        have e0 := more_cell2 c0 y
        have f0 := more_cell2 d0 y
        have e1 := more_cell2 c1 y
        have f1 := more_cell2 d1 y
        clear c0 d0 c1 d1
        by_cases he : (a, b) = (a', b')
        · obtain ⟨rfl, rfl⟩ : a = a' ∧ b = b' := by simpa using he
          have R := hid (take_next htk hab hab')
          have D := hdQ_yes a b
          clear hab hab' htk he
          go_wp2
          refine wp_region_more (by kernel_rfl) (by kernel_rfl) ?_
          repeat (go_big_quiet_step (fail))
          refine wpQuiet_nil ?_
          rintro _ ⟨z, rfl⟩
          go_wp2
          go_roundw
          case rel => exact ⟨k + 1, _, by omega, by go_num, more_more _ _ _, R.out⟩
          case measure => simp [intOf]; omega
        · have hne : decide (xs = ys) = false := by
            refine decide_eq_false fun e => he ?_
            subst e
            rw [hab] at hab'
            injection hab'
          have H := hid hne
          have D := hdQ_no he
          clear hab hab' htk hne he
          go_wp2
          refine wp_region_more (by kernel_rfl) (by kernel_rfl) ?_
          repeat (go_big_quiet_step (fail))
          refine wpQuiet_nil ?_
          rintro _ ⟨z, rfl⟩
          go_wp2
          go_ret
          exact ⟨ret_bool H.out.symm, _, more_more _ _ _⟩
      · obtain rfl : k = n := by omega
        have R : xs = ys := by
          rw [List.take_of_length_le (by omega), List.take_of_length_le (by omega)] at htk
          exact htk
        have H := hid (decide_eq_true R)
        clear htk R
        go_wp2
        go_ret
        exact ⟨ret_bool H.out.symm, _, rfl⟩
  · have hne : decide (xs = ys) = false := by
      refine decide_eq_false fun e => hnm ?_
      rw [← hlx, ← hly, e]
    rw [hne]
    have hb1 : ((n : Int) == (m : Int)) = false := by simpa using fun e => hnm (by exact_mod_cast e)
    go_enter Tryd.func45, Tryd.ntmps45
    go_wp2
    go_ret
    exact ⟨rfl, _, more_refl w⟩
end Go.Proofs.YtoagpfdhbcgdcaaDoor
