/- The contracts of the laws' functions over lists: String. -/
import Derived.Test.YtlfjnaeepblhiaaMore
import Derived.Test.YtlfjnaeepblhiaaMarkText
namespace Go.Proofs.Ytlfjnaeepblhiaa
open Go.RowKit
set_option linter.unusedVariables false
abbrev St := ByteArray
abbrev stC (x : St) : List Value := [.string x]
theorem stC_len (x : St) : (stC x).length = 1 := rfl
abbrev sts (xs : List St) : List Value := flat stC xs
theorem Sl.st {w : World} {A : Option Addr} {n c : Nat} {xs : List St} (h : Sl w A n c 1 (sts xs)) {j : Nat} (hj : j < n) :
    ∃ ad a, A = some ad ∧ xs[j]? = some a ∧ w.cell? (ad.add j) = some (.string a) := by
  obtain ⟨ad, a, h1, h2, h3⟩ := h.elem stC_len (by omega) hj
  exact ⟨ad, a, h1, h2, by simpa using h3 0 _ rfl⟩
theorem sts_at {xs : List St} {j : Nat} {a : ByteArray} (h : xs[j]? = some a) : (sts xs)[j]? = some (.string a) := by
  simpa using flat_get stC_len h (show 0 < 1 by omega)
theorem eltString : Elt Try.prog 40 9 1 16 := elt_mk (z := .string ⟨#[]⟩) (by kernel_rfl) rfl Try.underlying40 (by decide)
theorem stQ_yes (a : ByteArray) : True := trivial
theorem bytes_ne {a b : ByteArray} (e : ¬ a = b) : (a.toList == b.toList) = false := by
  rw [beq_eq_false_iff_ne, Ne, ByteArray.toList_eq, ByteArray.toList_eq]
  exact fun h => e (ByteArray.ext (Array.toList_inj.mp h))
theorem stQ_no {a b : ByteArray} (e : ¬ a = b) : (a.toList == b.toList) = false := bytes_ne e
def stOk (xs : List ByteArray) : Prop := ∀ x ∈ xs, x.size ≤ 9223372036854775807
theorem toStringS_any (A : Option Addr) (n c : Nat) (xs : List St) (w : World) (h : Sl w A n c 1 (sts xs)) (hn : n ≤ 1048576) :
    Calls Try.prog 23 #[.slice A n c] w fun e w' => e = .returned (.slice (some ⟨w.heap.size, 0, none⟩) n n) ∧ w'.ownsRow w.heap.size 9 1 (.slice (some ⟨w.heap.size, 0, none⟩) n n) n (sts xs) ∧ Below w.heap.size w w' := by
  obtain ⟨i0, hi, hz0, hz1, hz2⟩ := info_parts (show (Try.prog.info? 9).map (fun i => (i.zero, i.size, i.bytes)) = some (some (.string ⟨#[]⟩), 1, 16) by kernel_rfl)
  have hlen : xs.length = n := h.count stC_len (by omega)
  have hflen : (sts xs).length = n := by have := h.len; rwa [Nat.mul_one] at this
  go_enter Try.func23, Try.ntmps23
  go_wp2_with (at_make; refine wpList_make_full _ rfl _ _ 40 rfl w.heap.size 9 i0 (.string ⟨#[]⟩) 1 Try.underlying40 hi hz0 hz1 .i64 .i64 n n n rfl rfl rfl rfl (by rw [hz2]; omega) (by unfold maxLen; omega) (Nat.le_refl _) ?_; intro w1 hown hg)
  have hb : Below w.heap.size w w1 := below_of_grown hg (Nat.le_refl _) (by simp)
  go_loopw [4] (fun i wr => ∃ (k : Nat) (vs : List Value), k ≤ n ∧ i = .int .i64 k ∧ wr.ownsRow w.heap.size 9 1 (.slice (some ⟨w.heap.size, 0, none⟩) n n) n vs ∧ vs.take (k) = (sts xs).take (k) ∧ Below w.heap.size w wr) (fun i _ => n - (intOf i).toNat)
  case atStart => exact ⟨0, _, Nat.zero_le _, rfl, hown, rfl, hb⟩
  case round =>
    obtain ⟨k, vs, hk, rfl, hown, htk, hb⟩ := hrel
    by_cases hlt : k < n
    · obtain ⟨ad, a, rfl, hab, c0⟩ := (h.below hb).st hlt
      have p0 := sts_at hab
      obtain ⟨o0, ho0, hc0⟩ := own_old (k := k) hown (show k < n * 1 by omega)
      have hf0 := hown.frozenAt (k)
      go_wp2
      have S0 := hown.stored (k) (.string a)
      have T0 := take_set_snoc (k := k) htk (by have h1 := hown.1; omega) p0
      have hb2 := hb.grown (S0.2) hb.size (by rintro _ ⟨rfl⟩; exact Nat.le_refl _)
      go_roundw
      case rel => exact ⟨k + 1, _, by omega, by go_num, S0.1, T0, hb2⟩
      case measure => simp [intOf]; omega
    · obtain rfl : k = n := by omega
      have R : vs = sts xs := by
        have h1 := hown.1
        rw [List.take_of_length_le (by omega), List.take_of_length_le (by omega)] at htk
        exact htk
      subst R
      have R := hid (And.intro hown hb)
      clear hown hb htk
      go_wp2
      go_ret
      exact ⟨rfl, R.out⟩
theorem szStringS_any (A : Option Addr) (n c : Nat) (xs : List St) (l : Int) (w : World) (h : Sl w A n c 1 (sts xs)) (h0 : 0 ≤ l) (h1 : l ≤ 1048576) (hx : stOk xs) :
    Calls Try.prog 22 #[.slice A n c, .int .i64 l] w fun e w' => ∃ r : Int, e = .returned (.int .i64 r) ∧ -1 ≤ r ∧ r ≤ l ∧ (0 ≤ r → (n : Int) ≤ l) ∧ Ext.of w w' := by
  have hmx := h.max
  have hcx := h.cap
  unfold maxLen at hmx
  by_cases hn : l - n < 0
  · go_enter Try.func22, Try.ntmps22
    go_wp2
    go_ret
    exact ⟨_, rfl, by omega, by omega, fun h => by omega, Ext.of.refl _⟩
  · have hn' : (n : Int) ≤ l := by omega
    go_enter Try.func22, Try.ntmps22
    go_wp2
    go_loopw [1, 5] (fun q i wr => ∃ (k : Nat) (r : Int), k ≤ n ∧ i = .int .i64 k ∧ q = .int .i64 r ∧ 0 ≤ r ∧ r ≤ l ∧ Ext.of w wr) (fun _ i _ => n - (intOf i).toNat)
    case atStart => exact ⟨0, _, Nat.zero_le _, rfl, rfl, by omega, by omega, Ext.of.refl _⟩
    case round =>
      obtain ⟨k, r, hk, rfl, rfl, r0, r1, hE⟩ := hrel
      by_cases hlt : k < n
      · obtain ⟨ad, a, rfl, hab, c0⟩ := (h.ext hE).st hlt
        have hs := hx _ (List.mem_of_getElem? hab)
        clear hab
        have HS := hid hs; clear hs
        have hsz := HS.out
        by_cases hr : r - a.size < 0
        · go_wp2
          go_ret
          exact ⟨_, rfl, by omega, by omega, fun h => by omega, hE⟩
        · go_wp2
          go_roundw
          case rel => exact ⟨k + 1, _, by omega, by go_num, rfl, by omega, by omega, hE⟩
          case measure => simp [intOf]; omega
      · obtain rfl : k = n := by omega
        go_wp2
        go_ret
        exact ⟨_, rfl, by omega, by omega, fun _ => hn', hE⟩
theorem eqStringS_any (A B : Option Addr) (n c m d : Nat) (xs ys : List St) (w : World) (hx : Sl w A n c 1 (sts xs)) (hy : Sl w B m d 1 (sts ys)) :
    Calls Try.prog 24 #[.slice A n c, .slice B m d] w fun e w' => e = .returned (.bool (decide (xs = ys))) ∧ Ext.of w w' := by
  have hlx : xs.length = n := hx.count stC_len (by omega)
  have hly : ys.length = m := hy.count stC_len (by omega)
  have hmx := hx.max
  have hmy := hy.max
  have hcx := hx.cap
  have hcy := hy.cap
  unfold maxLen at hmx hmy
  by_cases hnm : n = m
  · subst hnm
    go_enter Try.func24, Try.ntmps24
    go_wp2
    go_loopw [5] (fun i wr => ∃ (k : Nat) (y : Ext), k ≤ n ∧ i = .int .i64 k ∧ wr = More w y ∧ xs.take k = ys.take k) (fun i _ => n - (intOf i).toNat)
    case atStart => exact ⟨0, _, Nat.zero_le _, rfl, more_refl w, rfl⟩
    case round =>
      obtain ⟨k, y, hk, rfl, rfl, htk⟩ := hrel
      by_cases hlt : k < n
      · obtain ⟨ad, a, rfl, hab, c0⟩ := hx.st hlt
        obtain ⟨ae, a', rfl, hab', d0⟩ := hy.st hlt
        have e0 := more_cell2 c0 y
        have f0 := more_cell2 d0 y
        clear c0 d0
        by_cases he : a = a'
        · subst he
          have R := hid (take_next htk hab hab')
          have D := stQ_yes a
          clear hab hab' htk
          go_wp2
          refine wp_region_more (by kernel_rfl) (by kernel_rfl) ?_
          repeat (go_big_quiet_step (fail))
          refine wpQuiet_nil ?_
          rintro _ ⟨z, rfl⟩
          go_wp2
          go_roundw
          case rel => exact ⟨k + 1, _, by omega, by go_num, more_more _ _ _, R.out⟩
          case measure => simp [intOf]; omega
        · have hne : decide (xs = ys) = false := by
            refine decide_eq_false fun e => he ?_
            subst e
            rw [hab] at hab'
            injection hab'
          have H := hid hne
          have D := stQ_no he
          clear hab hab' htk hne he
          go_wp2
          refine wp_region_more (by kernel_rfl) (by kernel_rfl) ?_
          repeat (go_big_quiet_step (fail))
          refine wpQuiet_nil ?_
          rintro _ ⟨z, rfl⟩
          go_wp2
          go_ret
          exact ⟨ret_bool H.out.symm, _, more_more _ _ _⟩
      · obtain rfl : k = n := by omega
        have R : xs = ys := by
          rw [List.take_of_length_le (by omega), List.take_of_length_le (by omega)] at htk
          exact htk
        have H := hid (decide_eq_true R)
        clear htk R
        go_wp2
        go_ret
        exact ⟨ret_bool H.out.symm, _, rfl⟩
  · have hne : decide (xs = ys) = false := by
      refine decide_eq_false fun e => hnm ?_
      rw [← hlx, ← hly, e]
    rw [hne]
    have hb1 : ((n : Int) == (m : Int)) = false := by simpa using fun e => hnm (by exact_mod_cast e)
    go_enter Try.func24, Try.ntmps24
    go_wp2
    go_ret
    exact ⟨rfl, _, more_refl w⟩
/-- The marks from k on. -/
def stMark (k n : Nat) : List St := (List.range n).map fun j => (mtB (k + j))
theorem stMark_len (k n : Nat) : (stMark k n).length = n := by simp [stMark]
theorem stMark_at {k n j : Nat} (h : j < n) : (stMark k n)[j]? = some (mtB (k + j)) := by simp [stMark, h]
set_option maxHeartbeats 1000000 in
theorem markStringS_nat (A : Option Addr) (n c k : Nat) (vs : List Value) (base : Nat) (w : World) (h : w.ownsRow base 9 1 (.slice A n c) n vs) (hn : n ≤ 1048576) (hk : 1 ≤ k) (hk2 : k ≤ 4294967296) :
    Calls Try.prog 25 #[.slice A n c, .int .i64 k] w fun e w' => e = .returned (.int .i64 ((k + n : Nat) : Int)) ∧ w'.ownsRow base 9 1 (.slice A n c) n (sts (stMark k n)) ∧ w.grownBy w' (Value.slice A n c).ownBlock := by
  obtain ⟨A', c', hv, h1, h2, h3⟩ := own_form h
  obtain ⟨rfl, rfl⟩ : A = A' ∧ c = c' := by injection hv with a b d; exact ⟨a, d⟩
  clear hv
  unfold maxLen at h2
  have G := hid (World.grownBy.refl w (Value.slice A n c).ownBlock)
  have LF := hid (show (sts (stMark k n)).length = n by rw [flat_length stC_len, stMark_len, Nat.mul_one])
  go_enter Try.func25, Try.ntmps25
  go_wp2
  go_loopw [1, 5] (fun q i wr => ∃ (j : Nat) (us : List Value), j ≤ n ∧ i = .int .i64 j ∧ q = .int .i64 ((k + j : Nat) : Int) ∧ wr.ownsRow base 9 1 (.slice A n c) n us ∧ us.take (j) = (sts (stMark k n)).take (j) ∧ w.grownBy wr (Value.slice A n c).ownBlock) (fun _ i _ => n - (intOf i).toNat)
  case atStart => exact ⟨0, _, Nat.zero_le _, rfl, rfl, h, rfl, G.out⟩
  case round =>
    obtain ⟨j, us, hj, rfl, rfl, hown, htk, hg⟩ := hrel
    by_cases hlt : j < n
    · obtain ⟨g, rfl, _, _⟩ : ∃ g, A = some ⟨g, 0, none⟩ ∧ base ≤ g ∧ g < w.heap.size := by
        rcases h3 with rfl | h3
        · rcases h.2 with ⟨_, h0⟩ | ⟨g, cap, cur, hv, _⟩
          · omega
          · cases hv
        · exact h3
      have p0 := sts_at (stMark_at (k := k) hlt)
      have HP := hid (And.intro htk p0)
      clear htk p0 h h3 G
      obtain ⟨kj, hkj⟩ : ∃ kj, kj = k + j := ⟨_, rfl⟩
      rw [← hkj]
      have hkb : kj ≤ 4294967296 + 1048576 := by omega
      have hk1 : 1 ≤ kj := by omega
      have HK := hid hkj; clear hkj
      have HO0 := hid hown
      have HG0 := hid hg
      clear hown hg
      go_wp2_with fail
      refine (markText_at kj _ (by push_cast; omega) (by omega) (by omega) _).mono ?_
      rintro e' w0 ⟨rfl, hE0⟩
      replace HO0 := hid (own_ext HO0.out hE0)
      replace HG0 := hid (HG0.out.trans (grown_of_below hE0.below _))
      clear hE0
      obtain ⟨o0, ho0, hc0⟩ := own_old HO0.out (by simpa using hlt)
      have hf0 := HO0.out.frozenAt (j)
      have HS0 := hid (HO0.out.stored (j) (.string (mtB kj)))
      have HO1 := hid HS0.out.1
      have HG1 := hid (HG0.out.trans HS0.out.2)
      clear ho0 HS0
      go_wp2
      go_roundw
      case rel =>
        obtain ⟨htk, p0⟩ := HP.out
        rw [← HK.out] at p0
        have T0 := take_set_snoc (k := j) htk (by have h1 := HO0.out.1; simp at h1; omega) p0
        exact ⟨j + 1, _, by omega, by go_num, by rw [← Nat.add_assoc, ← HK.out]; go_num, HO1.out, T0, HG1.out⟩
      case measure => simp [intOf]; omega
    · obtain rfl : j = n := by omega
      have R : us = sts (stMark k j) := by
        have h1 := hown.1
        rw [List.take_of_length_le (by omega), List.take_of_length_le (by rw [LF.out]; omega)] at htk
        exact htk
      subst R
      have R := hid (And.intro hown hg)
      clear hown hg htk h h3 G
      go_wp2
      go_ret
      exact ⟨rfl, R.out⟩
theorem markStringS_any (A : Option Addr) (n c : Nat) (q : Int) (k : Nat) (hq : q = (k : Int)) (vs : List Value) (base : Nat) (w : World) (h : w.ownsRow base 9 1 (.slice A n c) n vs) (hn : n ≤ 1048576) (hk : 1 ≤ k) (hk2 : k ≤ 4294967296) :
    Calls Try.prog 25 #[.slice A n c, .int .i64 q] w fun e w' => e = .returned (.int .i64 ((k + n : Nat) : Int)) ∧ w'.ownsRow base 9 1 (.slice A n c) n (sts (stMark k n)) ∧ w.grownBy w' (Value.slice A n c).ownBlock := by
  subst hq; exact markStringS_nat A n c k vs base w h hn hk hk2
set_option maxHeartbeats 1000000 in
theorem heldStringS_nat (A : Option Addr) (n c k : Nat) (w : World) (h : Sl w A n c 1 (sts (stMark k n))) (hn : n ≤ 1048576) (hk : 1 ≤ k) (hk2 : k ≤ 4294967296) :
    Calls Try.prog 27 #[.slice A n c, .int .i64 k] w fun e w' => e = .returned (.int .i64 ((k + n : Nat) : Int)) ∧ Ext.of w w' := by
  have hmx := h.max
  have hcx := h.cap
  unfold maxLen at hmx
  go_enter Try.func27, Try.ntmps27
  go_wp2
  go_loopw [1, 5] (fun q i wr => ∃ (j : Nat) (y : Ext), j ≤ n ∧ i = .int .i64 j ∧ q = .int .i64 ((k + j : Nat) : Int) ∧ wr = More w y) (fun _ i _ => n - (intOf i).toNat)
  case atStart => exact ⟨0, _, Nat.zero_le _, rfl, rfl, more_refl w⟩
  case round =>
    obtain ⟨j, y, hj, rfl, rfl, rfl⟩ := hrel
    by_cases hlt : j < n
    · obtain ⟨ad, a, rfl, hab, c0⟩ := (h.more y).st hlt
      rw [stMark_at hlt] at hab
      injection hab with hab
      subst hab
      generalize hkj : k + j = kj at *
      have hkb : kj ≤ 4294967296 + 1048576 := by omega
      have hk1 : 1 ≤ kj := by omega
      have HK := hid hkj; clear hkj
      generalize hW : More w y = W at *
      have hE0 : Ext.of w W := by rw [← hW]; exact ⟨y, rfl⟩
      clear hW
      have g00 := more_cell c0
      clear c0
      go_wp2
      refine wp_region_more (by kernel_rfl) (by kernel_rfl) ?_
      repeat (go_big_quiet_step (exact more_of (markText_at kj _ (by push_cast; omega) (by omega) (by omega) _)))
      refine wpQuiet_nil ?_
      rintro _ ⟨z0, rfl⟩
      have c0 := g00 z0
      clear g00
      generalize hW : More W z0 = W0 at *
      have hE1 : Ext.of w W0 := by rw [← hW]; exact hE0.trans ⟨z0, rfl⟩
      clear hW hE0
      go_wp2
      go_roundw
      case rel =>
        obtain ⟨z, hz⟩ := hE1
        exact ⟨j + 1, z, by omega, by go_num, by rw [← Nat.add_assoc, HK.out]; go_num, hz⟩
      case measure => simp [intOf]; omega
    · obtain rfl : j = n := by omega
      go_wp2
      go_ret
      exact ⟨rfl, ⟨_, rfl⟩⟩
theorem heldStringS_any (A : Option Addr) (n c : Nat) (q : Int) (k : Nat) (hq : q = (k : Int)) (w : World) (h : Sl w A n c 1 (sts (stMark k n))) (hn : n ≤ 1048576) (hk : 1 ≤ k) (hk2 : k ≤ 4294967296) :
    Calls Try.prog 27 #[.slice A n c, .int .i64 q] w fun e w' => e = .returned (.int .i64 ((k + n : Nat) : Int)) ∧ Ext.of w w' := by
  subst hq; exact heldStringS_nat A n c k w h hn hk hk2
theorem sameTexts_any (A B : Option Addr) (n c m d : Nat) (xs ys : List St) (w : World) (hx : Sl w A n c 1 (sts xs)) (hy : Sl w B m d 1 (sts ys)) :
    Calls Try.prog 19 #[.slice A n c, .slice B m d] w fun e w' => e = .returned (.bool (decide (xs = ys))) ∧ Ext.of w w' := by
  have hlx : xs.length = n := hx.count stC_len (by omega)
  have hly : ys.length = m := hy.count stC_len (by omega)
  have hmx := hx.max
  have hmy := hy.max
  have hcx := hx.cap
  have hcy := hy.cap
  unfold maxLen at hmx hmy
  by_cases hnm : n = m
  · subst hnm
    go_enter Try.func19, Try.ntmps19
    go_wp2
    go_loopw [5] (fun i wr => ∃ (k : Nat) (y : Ext), k ≤ n ∧ i = .int .i64 k ∧ wr = More w y ∧ xs.take k = ys.take k) (fun i _ => n - (intOf i).toNat)
    case atStart => exact ⟨0, _, Nat.zero_le _, rfl, more_refl w, rfl⟩
    case round =>
      obtain ⟨k, y, hk, rfl, rfl, htk⟩ := hrel
      by_cases hlt : k < n
      · obtain ⟨ad, a, rfl, hab, c0⟩ := hx.st hlt
        obtain ⟨ae, a', rfl, hab', d0⟩ := hy.st hlt
        have e0 := more_cell2 c0 y
        have f0 := more_cell2 d0 y
        clear c0 d0
        by_cases he : a = a'
        · subst he
          have R := hid (take_next htk hab hab')
          have D := stQ_yes a
          clear hab hab' htk
          go_wp2
          refine wp_region_more (by kernel_rfl) (by kernel_rfl) ?_
          repeat (go_big_quiet_step (fail))
          refine wpQuiet_nil ?_
          rintro _ ⟨z, rfl⟩
          go_wp2
          go_roundw
          case rel => exact ⟨k + 1, _, by omega, by go_num, more_more _ _ _, R.out⟩
          case measure => simp [intOf]; omega
        · have hne : decide (xs = ys) = false := by
            refine decide_eq_false fun e => he ?_
            subst e
            rw [hab] at hab'
            injection hab'
          have H := hid hne
          have D := stQ_no he
          clear hab hab' htk hne he
          go_wp2
          refine wp_region_more (by kernel_rfl) (by kernel_rfl) ?_
          repeat (go_big_quiet_step (fail))
          refine wpQuiet_nil ?_
          rintro _ ⟨z, rfl⟩
          go_wp2
          go_ret
          exact ⟨ret_bool H.out.symm, _, more_more _ _ _⟩
      · obtain rfl : k = n := by omega
        have R : xs = ys := by
          rw [List.take_of_length_le (by omega), List.take_of_length_le (by omega)] at htk
          exact htk
        have H := hid (decide_eq_true R)
        clear htk R
        go_wp2
        go_ret
        exact ⟨ret_bool H.out.symm, _, rfl⟩
  · have hne : decide (xs = ys) = false := by
      refine decide_eq_false fun e => hnm ?_
      rw [← hlx, ← hly, e]
    rw [hne]
    have hb1 : ((n : Int) == (m : Int)) = false := by simpa using fun e => hnm (by exact_mod_cast e)
    go_enter Try.func19, Try.ntmps19
    go_wp2
    go_ret
    exact ⟨rfl, _, more_refl w⟩
end Go.Proofs.Ytlfjnaeepblhiaa
