/- The contracts of the laws' functions over lists: Item. -/
import Derived.Test.YtlfjnaeepblhiaaItem
import Derived.Test.YtlfjnaeepblhiaaMarkText
namespace Go.Proofs.Ytlfjnaeepblhiaa
open Go.RowKit
set_option linter.unusedVariables false
abbrev Im := ByteArray × ByteArray × ByteArray × Int
abbrev imC (x : Im) : List Value := [.string x.1, .string x.2.1, .string x.2.2.1, .int .i64 x.2.2.2]
theorem imC_len (x : Im) : (imC x).length = 4 := rfl
abbrev ims (xs : List Im) : List Value := flat imC xs
theorem Sl.im {w : World} {A : Option Addr} {n c : Nat} {xs : List Im} (h : Sl w A n c 4 (ims xs)) {j : Nat} (hj : j < n) :
    ∃ ad a b s d, A = some ad ∧ xs[j]? = some (a, b, s, d) ∧ w.cell? (ad.add (j * 4)) = some (.string a) ∧ w.cell? ⟨(ad.add (j * 4)).block, (ad.add (j * 4)).off + 1, none⟩ = some (.string b) ∧ w.cell? ⟨(ad.add (j * 4)).block, (ad.add (j * 4)).off + 2, none⟩ = some (.string s) ∧ w.cell? ⟨(ad.add (j * 4)).block, (ad.add (j * 4)).off + 3, none⟩ = some (.int .i64 d) := by
  obtain ⟨ad, ⟨a, b, s, d⟩, h1, h2, h3⟩ := h.elem imC_len (by omega) hj
  exact ⟨ad, a, b, s, d, h1, h2, h3 0 _ rfl, by rw [addr_step _ _ _ (by omega)]; exact h3 1 _ rfl, by rw [addr_step _ _ _ (by omega)]; exact h3 2 _ rfl, by rw [addr_step _ _ _ (by omega)]; exact h3 3 _ rfl⟩
theorem ims_at {xs : List Im} {j : Nat} {a b s : ByteArray} {d : Int} (h : xs[j]? = some (a, b, s, d)) : (ims xs)[j * 4]? = some (.string a) ∧ (ims xs)[j * 4 + 1]? = some (.string b) ∧ (ims xs)[j * 4 + 2]? = some (.string s) ∧ (ims xs)[j * 4 + 3]? = some (.int .i64 d) := by
  exact ⟨flat_get imC_len h (show 0 < 4 by omega), flat_get imC_len h (show 1 < 4 by omega), flat_get imC_len h (show 2 < 4 by omega), flat_get imC_len h (show 3 < 4 by omega)⟩
theorem eltItem : Elt Try.prog 50 57 4 56 := elt_mk (z := .agg #[.string ⟨#[]⟩, .string ⟨#[]⟩, .string ⟨#[]⟩, .int .i64 0]) (by kernel_rfl) rfl Try.underlying50 (by decide)
theorem toItemS_any (A : Option Addr) (n c : Nat) (xs : List Im) (w : World) (h : Sl w A n c 4 (ims xs)) (hn : n ≤ 1048576) :
    Calls Try.prog 38 #[.slice A n c] w fun e w' => e = .returned (.slice (some ⟨w.heap.size, 0, none⟩) n n) ∧ w'.ownsRow w.heap.size 57 4 (.slice (some ⟨w.heap.size, 0, none⟩) n n) n (ims xs) ∧ Below w.heap.size w w' := by
  obtain ⟨i0, hi, hz0, hz1, hz2⟩ := info_parts (show (Try.prog.info? 57).map (fun i => (i.zero, i.size, i.bytes)) = some (some (.agg #[.string ⟨#[]⟩, .string ⟨#[]⟩, .string ⟨#[]⟩, .int .i64 0]), 4, 56) by kernel_rfl)
  have hlen : xs.length = n := h.count imC_len (by omega)
  have hflen : (ims xs).length = n * 4 := h.len
  go_enter Try.func38, Try.ntmps38
  go_wp2_with (at_make; refine wpList_make_full _ rfl _ _ 50 rfl w.heap.size 57 i0 (.agg #[.string ⟨#[]⟩, .string ⟨#[]⟩, .string ⟨#[]⟩, .int .i64 0]) 4 Try.underlying50 hi hz0 hz1 .i64 .i64 n n n rfl rfl rfl rfl (by rw [hz2]; omega) (by unfold maxLen; omega) (Nat.le_refl _) ?_; intro w1 hown hg)
  have hb : Below w.heap.size w w1 := below_of_grown hg (Nat.le_refl _) (by simp)
  go_loopw [4] (fun i wr => ∃ (k : Nat) (vs : List Value), k ≤ n ∧ i = .int .i64 k ∧ wr.ownsRow w.heap.size 57 4 (.slice (some ⟨w.heap.size, 0, none⟩) n n) n vs ∧ vs.take (k * 4) = (ims xs).take (k * 4) ∧ Below w.heap.size w wr) (fun i _ => n - (intOf i).toNat)
  case atStart => exact ⟨0, _, Nat.zero_le _, rfl, hown, by rw [Nat.zero_mul]; rfl, hb⟩
  case round =>
    obtain ⟨k, vs, hk, rfl, hown, htk, hb⟩ := hrel
    by_cases hlt : k < n
    · obtain ⟨ad, a, b, s, d, rfl, hab, c0, c1, c2, c3⟩ := (h.below hb).im hlt
      obtain ⟨p0, p1, p2, p3⟩ := ims_at hab
      go_wp2_with (go_at_call 73; refine (toItem_any _ _ _ _ _).mono ?_; rintro e' w' ⟨rfl, hE⟩; have hown := own_ext hown hE; have hb := below_next hb hE.below
                   obtain ⟨o0, ho0, hc0⟩ := own_old hown (pair_lt0 hlt (show 0 < 4 by omega))
                   have hf0 := hown.frozenAt (k * 4)
                   obtain ⟨o1, ho1, hc1⟩ := own_old hown (pair_lt hlt (show 1 < 4 by omega))
                   have hf1 := hown.frozenAt (k * 4 + 1)
                   obtain ⟨o2, ho2, hc2⟩ := own_old hown (pair_lt hlt (show 2 < 4 by omega))
                   have hf2 := hown.frozenAt (k * 4 + 2)
                   obtain ⟨o3, ho3, hc3⟩ := own_old hown (pair_lt hlt (show 3 < 4 by omega))
                   have hf3 := hown.frozenAt (k * 4 + 3))
      have S0 := hown.stored (k * 4) (.string a)
      have S1 := S0.1.stored (k * 4 + 1) (.string b)
      have S2 := S1.1.stored (k * 4 + 2) (.string s)
      have S3 := S2.1.stored (k * 4 + 3) (.int .i64 d)
      have T0 := take_set_snoc (k := k * 4) htk (by have h1 := hown.1; have h2 := pair_lt hlt (show 0 < 4 by omega); omega) p0
      have T1 := take_set_snoc (k := k * 4 + 1) T0 (by have h1 := S0.1.1; have h2 := pair_lt hlt (show 1 < 4 by omega); omega) p1
      have T2 := take_set_snoc (k := k * 4 + 2) T1 (by have h1 := S1.1.1; have h2 := pair_lt hlt (show 2 < 4 by omega); omega) p2
      have T3 := take_set_snoc (k := k * 4 + 3) T2 (by have h1 := S2.1.1; have h2 := pair_lt hlt (show 3 < 4 by omega); omega) p3
      have hb2 := hb.grown (S0.2.trans (S1.2.trans (S2.2.trans S3.2))) hb.size (by rintro _ ⟨rfl⟩; exact Nat.le_refl _)
      go_roundw
      case rel => exact ⟨k + 1, _, by omega, by go_num, S3.1, by rw [Nat.succ_mul]; exact T3, hb2⟩
      case measure => simp [intOf]; omega
    · obtain rfl : k = n := by omega
      have R : vs = ims xs := by
        have h1 := hown.1
        rw [List.take_of_length_le (by omega), List.take_of_length_le (by omega)] at htk
        exact htk
      subst R
      have R := hid (And.intro hown hb)
      clear hown hb htk
      go_wp2
      go_ret
      exact ⟨rfl, R.out⟩
theorem szItemS_any (A : Option Addr) (n c : Nat) (xs : List Im) (l : Int) (w : World) (h : Sl w A n c 4 (ims xs)) (h0 : 0 ≤ l) (h1 : l ≤ 1048576) (hx : imOk xs) :
    Calls Try.prog 36 #[.slice A n c, .int .i64 l] w fun e w' => ∃ r : Int, e = .returned (.int .i64 r) ∧ -1 ≤ r ∧ r ≤ l ∧ (0 ≤ r → (n : Int) ≤ l) ∧ Ext.of w w' := by
  have hmx := h.max
  have hcx := h.cap
  unfold maxLen at hmx
  by_cases hn : l - n < 0
  · go_enter Try.func36, Try.ntmps36
    go_wp2
    go_ret
    exact ⟨_, rfl, by omega, by omega, fun h => by omega, Ext.of.refl _⟩
  · have hn' : (n : Int) ≤ l := by omega
    go_enter Try.func36, Try.ntmps36
    go_wp2
    go_loopw [1, 5] (fun q i wr => ∃ (k : Nat) (r : Int), k ≤ n ∧ i = .int .i64 k ∧ q = .int .i64 r ∧ 0 ≤ r ∧ r ≤ l ∧ Ext.of w wr) (fun _ i _ => n - (intOf i).toNat)
    case atStart => exact ⟨0, _, Nat.zero_le _, rfl, rfl, by omega, by omega, Ext.of.refl _⟩
    case round =>
      obtain ⟨k, r, hk, rfl, rfl, r0, r1, hE⟩ := hrel
      by_cases hlt : k < n
      · obtain ⟨ad, a, b, s, d, rfl, hab, c0, c1, c2, c3⟩ := (h.ext hE).im hlt
        have hs := hx _ (List.mem_of_getElem? hab)
        clear hab
        have HS := hid hs; clear hs
        go_wp2_with fail
        refine (szItem_any _ _ _ _ r r0 (by omega) _ HS.out.1 HS.out.2.1 HS.out.2.2).mono ?_
        rintro e' w' ⟨r2, rfl, r3, r4, hE2⟩
        have hE3 := hE.trans hE2
        clear c0 hE hE2
        by_cases hr : r2 < 0
        · go_wp2
          go_ret
          exact ⟨_, rfl, by omega, by omega, fun h => by omega, hE3⟩
        · go_wp2
          go_roundw
          case rel => exact ⟨k + 1, _, by omega, by go_num, rfl, by omega, by omega, hE3⟩
          case measure => simp [intOf]; omega
      · obtain rfl : k = n := by omega
        go_wp2
        go_ret
        exact ⟨_, rfl, by omega, by omega, fun _ => hn', hE⟩
theorem eqItemS_any (A B : Option Addr) (n c m d : Nat) (xs ys : List Im) (w : World) (hx : Sl w A n c 4 (ims xs)) (hy : Sl w B m d 4 (ims ys)) :
    Calls Try.prog 39 #[.slice A n c, .slice B m d] w fun e w' => e = .returned (.bool (decide (xs = ys))) ∧ Ext.of w w' := by
  have hlx : xs.length = n := hx.count imC_len (by omega)
  have hly : ys.length = m := hy.count imC_len (by omega)
  have hmx := hx.max
  have hmy := hy.max
  have hcx := hx.cap
  have hcy := hy.cap
  unfold maxLen at hmx hmy
  by_cases hnm : n = m
  · subst hnm
    go_enter Try.func39, Try.ntmps39
    go_wp2
    go_loopw [5] (fun i wr => ∃ (k : Nat) (y : Ext), k ≤ n ∧ i = .int .i64 k ∧ wr = More w y ∧ xs.take k = ys.take k) (fun i _ => n - (intOf i).toNat)
    case atStart => exact ⟨0, _, Nat.zero_le _, rfl, more_refl w, rfl⟩
    case round =>
      obtain ⟨k, y, hk, rfl, rfl, htk⟩ := hrel
      by_cases hlt : k < n
      · obtain ⟨ad, a, b, s, d, rfl, hab, c0, c1, c2, c3⟩ := hx.im hlt
        obtain ⟨ae, a', b', s', d', rfl, hab', d0, d1, d2, d3⟩ := hy.im hlt
        have e0 := more_cell2 c0 y
        have f0 := more_cell2 d0 y
        have e1 := more_cell2 c1 y
        have f1 := more_cell2 d1 y
        have e2 := more_cell2 c2 y
        have f2 := more_cell2 d2 y
        have e3 := more_cell2 c3 y
        have f3 := more_cell2 d3 y
        clear c0 d0 c1 d1 c2 d2 c3 d3
        by_cases he : (a, b, s, d) = (a', b', s', d')
        · obtain ⟨rfl, rfl, rfl, rfl⟩ : a = a' ∧ b = b' ∧ s = s' ∧ d = d' := by simpa using he
          have R := hid (take_next htk hab hab')
          have D := imQ_yes a b s d
          clear hab hab' htk he
          go_wp2
          refine wp_region_more (by kernel_rfl) (by kernel_rfl) ?_
          repeat (go_big_quiet_step (exact more_of (eqItem_any _ _ _ _ _ _ _ _ _)))
          refine wpQuiet_nil ?_
          rintro _ ⟨z, rfl⟩
          go_wp2
          go_roundw
          case rel => exact ⟨k + 1, _, by omega, by go_num, more_more _ _ _, R.out⟩
          case measure => simp [intOf]; omega
        · have hne : decide (xs = ys) = false := by
            refine decide_eq_false fun e => he ?_
            subst e
            rw [hab] at hab'
            injection hab'
          have H := hid hne
          have D := imQ_no he
          clear hab hab' htk hne he
          go_wp2
          refine wp_region_more (by kernel_rfl) (by kernel_rfl) ?_
          repeat (go_big_quiet_step (exact more_of (eqItem_any _ _ _ _ _ _ _ _ _)))
          refine wpQuiet_nil ?_
          rintro _ ⟨z, rfl⟩
          go_wp2
          go_ret
          exact ⟨ret_bool H.out.symm, _, more_more _ _ _⟩
      · obtain rfl : k = n := by omega
        have R : xs = ys := by
          rw [List.take_of_length_le (by omega), List.take_of_length_le (by omega)] at htk
          exact htk
        have H := hid (decide_eq_true R)
        clear htk R
        go_wp2
        go_ret
        exact ⟨ret_bool H.out.symm, _, rfl⟩
  · have hne : decide (xs = ys) = false := by
      refine decide_eq_false fun e => hnm ?_
      rw [← hlx, ← hly, e]
    rw [hne]
    have hb1 : ((n : Int) == (m : Int)) = false := by simpa using fun e => hnm (by exact_mod_cast e)
    go_enter Try.func39, Try.ntmps39
    go_wp2
    go_ret
    exact ⟨rfl, _, more_refl w⟩
/-- The marks from k on. -/
def imMark (k n : Nat) : List Im := (List.range n).map fun j => (mtB (k + j * 4), mtB (k + j * 4 + 1), mtB (k + j * 4 + 2), ((k + j * 4 + 3 : Nat) : Int))
theorem imMark_len (k n : Nat) : (imMark k n).length = n := by simp [imMark]
theorem imMark_at {k n j : Nat} (h : j < n) : (imMark k n)[j]? = some (mtB (k + j * 4), mtB (k + j * 4 + 1), mtB (k + j * 4 + 2), ((k + j * 4 + 3 : Nat) : Int)) := by simp [imMark, h]
set_option maxHeartbeats 1000000 in
theorem markItemS_nat (A : Option Addr) (n c k : Nat) (vs : List Value) (base : Nat) (w : World) (h : w.ownsRow base 57 4 (.slice A n c) n vs) (hn : n ≤ 1048576) (hk : 1 ≤ k) (hk2 : k ≤ 4294967296) :
    Calls Try.prog 40 #[.slice A n c, .int .i64 k] w fun e w' => e = .returned (.int .i64 ((k + n * 4 : Nat) : Int)) ∧ w'.ownsRow base 57 4 (.slice A n c) n (ims (imMark k n)) ∧ w.grownBy w' (Value.slice A n c).ownBlock := by
  obtain ⟨A', c', hv, h1, h2, h3⟩ := own_form h
  obtain ⟨rfl, rfl⟩ : A = A' ∧ c = c' := by injection hv with a b d; exact ⟨a, d⟩
  clear hv
  unfold maxLen at h2
  have G := hid (World.grownBy.refl w (Value.slice A n c).ownBlock)
  have LF := hid (show (ims (imMark k n)).length = n * 4 by rw [flat_length imC_len, imMark_len])
  go_enter Try.func40, Try.ntmps40
  go_wp2
  go_loopw [1, 5] (fun q i wr => ∃ (j : Nat) (us : List Value), j ≤ n ∧ i = .int .i64 j ∧ q = .int .i64 ((k + j * 4 : Nat) : Int) ∧ wr.ownsRow base 57 4 (.slice A n c) n us ∧ us.take (j * 4) = (ims (imMark k n)).take (j * 4) ∧ w.grownBy wr (Value.slice A n c).ownBlock) (fun _ i _ => n - (intOf i).toNat)
  case atStart => exact ⟨0, _, Nat.zero_le _, rfl, by rw [Nat.zero_mul]; rfl, h, by rw [Nat.zero_mul]; rfl, G.out⟩
  case round =>
    obtain ⟨j, us, hj, rfl, rfl, hown, htk, hg⟩ := hrel
    by_cases hlt : j < n
    · obtain ⟨g, rfl, _, _⟩ : ∃ g, A = some ⟨g, 0, none⟩ ∧ base ≤ g ∧ g < w.heap.size := by
        rcases h3 with rfl | h3
        · rcases h.2 with ⟨_, h0⟩ | ⟨g, cap, cur, hv, _⟩
          · omega
          · cases hv
        · exact h3
      obtain ⟨p0, p1, p2, p3⟩ := ims_at (imMark_at (k := k) hlt)
      have HP := hid (And.intro htk (And.intro p0 (And.intro p1 (And.intro p2 p3))))
      clear htk p0 p1 p2 p3 h h3 G
      obtain ⟨kj, hkj⟩ : ∃ kj, kj = k + j * 4 := ⟨_, rfl⟩
      rw [← hkj]
      have hkb : kj ≤ 4294967296 + 1048576 * 4 := by omega
      have hk1 : 1 ≤ kj := by omega
      have HK := hid hkj; clear hkj
      have HO0 := hid hown
      have HG0 := hid hg
      clear hown hg
      go_wp2_with fail
      refine (markText_at kj _ (by push_cast; omega) (by omega) (by omega) _).mono ?_
      rintro e' w0 ⟨rfl, hE0⟩
      replace HO0 := hid (own_ext HO0.out hE0)
      replace HG0 := hid (HG0.out.trans (grown_of_below hE0.below _))
      clear hE0
      obtain ⟨o0, ho0, hc0⟩ := own_old (k := j * 4) HO0.out (pair_lt0 hlt (show 0 < 4 by omega))
      have hf0 := HO0.out.frozenAt (j * 4)
      have HS0 := hid (HO0.out.stored (j * 4) (.string (mtB kj)))
      have HO1 := hid HS0.out.1
      have HG1 := hid (HG0.out.trans HS0.out.2)
      clear ho0 HS0
      go_wp2_with fail
      refine (markText_at (kj + 1) _ (by push_cast; omega) (by omega) (by omega) _).mono ?_
      rintro e' w1 ⟨rfl, hE1⟩
      replace HO1 := hid (own_ext HO1.out hE1)
      replace HG1 := hid (HG1.out.trans (grown_of_below hE1.below _))
      clear hE1
      obtain ⟨o1, ho1, hc1⟩ := own_old (k := j * 4 + 1) HO1.out (pair_lt hlt (show 1 < 4 by omega))
      have hf1 := HO1.out.frozenAt (j * 4 + 1)
      have HS1 := hid (HO1.out.stored (j * 4 + 1) (.string (mtB (kj + 1))))
      have HO2 := hid HS1.out.1
      have HG2 := hid (HG1.out.trans HS1.out.2)
      clear ho1 HS1
      go_wp2_with fail
      refine (markText_at (kj + 2) _ (by push_cast; omega) (by omega) (by omega) _).mono ?_
      rintro e' w2 ⟨rfl, hE2⟩
      replace HO2 := hid (own_ext HO2.out hE2)
      replace HG2 := hid (HG2.out.trans (grown_of_below hE2.below _))
      clear hE2
      obtain ⟨o2, ho2, hc2⟩ := own_old (k := j * 4 + 2) HO2.out (pair_lt hlt (show 2 < 4 by omega))
      have hf2 := HO2.out.frozenAt (j * 4 + 2)
      have HS2 := hid (HO2.out.stored (j * 4 + 2) (.string (mtB (kj + 2))))
      have HO3 := hid HS2.out.1
      have HG3 := hid (HG2.out.trans HS2.out.2)
      clear ho2 HS2
      obtain ⟨o3, ho3, hc3⟩ := own_old (k := j * 4 + 3) HO3.out (pair_lt hlt (show 3 < 4 by omega))
      have hf3 := HO3.out.frozenAt (j * 4 + 3)
      have HS3 := hid (HO3.out.stored (j * 4 + 3) (.int .i64 ((kj : Int) + 1 + 1 + 1)))
      have HO4 := hid HS3.out.1
      have HG4 := hid (HG3.out.trans HS3.out.2)
      clear ho3 HS3
      go_wp2
      go_roundw
      case rel =>
        obtain ⟨htk, p0, p1, p2, p3⟩ := HP.out
        rw [← HK.out] at p0 p1 p2 p3
        have T0 := take_set_snoc (k := j * 4) htk (by have h1 := HO0.out.1; have h2 := pair_lt hlt (show 0 < 4 by omega); omega) p0
        have T1 := take_set_snoc (k := j * 4 + 1) T0 (by have h1 := HO1.out.1; have h2 := pair_lt hlt (show 1 < 4 by omega); omega) p1
        have T2 := take_set_snoc (k := j * 4 + 2) T1 (by have h1 := HO2.out.1; have h2 := pair_lt hlt (show 2 < 4 by omega); omega) p2
        rw [show ((kj + 3 : Nat) : Int) = (kj : Int) + 1 + 1 + 1 by push_cast; omega] at p3
        have T3 := take_set_snoc (k := j * 4 + 3) T2 (by have h1 := HO3.out.1; have h2 := pair_lt hlt (show 3 < 4 by omega); omega) p3
        exact ⟨j + 1, _, by omega, by go_num, by rw [Nat.succ_mul, ← Nat.add_assoc, ← HK.out]; go_num, HO4.out, by rw [Nat.succ_mul]; exact T3, HG4.out⟩
      case measure => simp [intOf]; omega
    · obtain rfl : j = n := by omega
      have R : us = ims (imMark k j) := by
        have h1 := hown.1
        rw [List.take_of_length_le (by omega), List.take_of_length_le (by rw [LF.out]; omega)] at htk
        exact htk
      subst R
      have R := hid (And.intro hown hg)
      clear hown hg htk h h3 G
      go_wp2
      go_ret
      exact ⟨rfl, R.out⟩
theorem markItemS_any (A : Option Addr) (n c : Nat) (q : Int) (k : Nat) (hq : q = (k : Int)) (vs : List Value) (base : Nat) (w : World) (h : w.ownsRow base 57 4 (.slice A n c) n vs) (hn : n ≤ 1048576) (hk : 1 ≤ k) (hk2 : k ≤ 4294967296) :
    Calls Try.prog 40 #[.slice A n c, .int .i64 q] w fun e w' => e = .returned (.int .i64 ((k + n * 4 : Nat) : Int)) ∧ w'.ownsRow base 57 4 (.slice A n c) n (ims (imMark k n)) ∧ w.grownBy w' (Value.slice A n c).ownBlock := by
  subst hq; exact markItemS_nat A n c k vs base w h hn hk hk2
end Go.Proofs.Ytlfjnaeepblhiaa
