/- The contracts of the laws' functions over lists: Activity. -/
import Derived.Test.YtlfjnaeepblhiaaActivity
import Derived.Test.YtlfjnaeepblhiaaMarkText
namespace Go.Proofs.Ytlfjnaeepblhiaa
open Go.RowKit
set_option linter.unusedVariables false
abbrev Ac := Int × Int × ByteArray × ByteArray × ByteArray
abbrev acC (x : Ac) : List Value := [.int .i64 x.1, .int .i64 x.2.1, .string x.2.2.1, .string x.2.2.2.1, .string x.2.2.2.2]
theorem acC_len (x : Ac) : (acC x).length = 5 := rfl
abbrev acs (xs : List Ac) : List Value := flat acC xs
theorem Sl.ac {w : World} {A : Option Addr} {n c : Nat} {xs : List Ac} (h : Sl w A n c 5 (acs xs)) {j : Nat} (hj : j < n) :
    ∃ ad e f a b s, A = some ad ∧ xs[j]? = some (e, f, a, b, s) ∧ w.cell? (ad.add (j * 5)) = some (.int .i64 e) ∧ w.cell? ⟨(ad.add (j * 5)).block, (ad.add (j * 5)).off + 1, none⟩ = some (.int .i64 f) ∧ w.cell? ⟨(ad.add (j * 5)).block, (ad.add (j * 5)).off + 2, none⟩ = some (.string a) ∧ w.cell? ⟨(ad.add (j * 5)).block, (ad.add (j * 5)).off + 3, none⟩ = some (.string b) ∧ w.cell? ⟨(ad.add (j * 5)).block, (ad.add (j * 5)).off + 4, none⟩ = some (.string s) := by
  obtain ⟨ad, ⟨e, f, a, b, s⟩, h1, h2, h3⟩ := h.elem acC_len (by omega) hj
  exact ⟨ad, e, f, a, b, s, h1, h2, h3 0 _ rfl, by rw [addr_step _ _ _ (by omega)]; exact h3 1 _ rfl, by rw [addr_step _ _ _ (by omega)]; exact h3 2 _ rfl, by rw [addr_step _ _ _ (by omega)]; exact h3 3 _ rfl, by rw [addr_step _ _ _ (by omega)]; exact h3 4 _ rfl⟩
theorem acs_at {xs : List Ac} {j : Nat} {a b s : ByteArray} {e f : Int} (h : xs[j]? = some (e, f, a, b, s)) : (acs xs)[j * 5]? = some (.int .i64 e) ∧ (acs xs)[j * 5 + 1]? = some (.int .i64 f) ∧ (acs xs)[j * 5 + 2]? = some (.string a) ∧ (acs xs)[j * 5 + 3]? = some (.string b) ∧ (acs xs)[j * 5 + 4]? = some (.string s) := by
  exact ⟨flat_get acC_len h (show 0 < 5 by omega), flat_get acC_len h (show 1 < 5 by omega), flat_get acC_len h (show 2 < 5 by omega), flat_get acC_len h (show 3 < 5 by omega), flat_get acC_len h (show 4 < 5 by omega)⟩
theorem eltActivity : Elt Try.prog 23 29 5 64 := elt_mk (z := .agg #[.int .i64 0, .int .i64 0, .string ⟨#[]⟩, .string ⟨#[]⟩, .string ⟨#[]⟩]) (by kernel_rfl) rfl Try.underlying23 (by decide)
theorem toActivityS_any (A : Option Addr) (n c : Nat) (xs : List Ac) (w : World) (h : Sl w A n c 5 (acs xs)) (hn : n ≤ 1048576) :
    Calls Try.prog 14 #[.slice A n c] w fun e w' => e = .returned (.slice (some ⟨w.heap.size, 0, none⟩) n n) ∧ w'.ownsRow w.heap.size 29 5 (.slice (some ⟨w.heap.size, 0, none⟩) n n) n (acs xs) ∧ Below w.heap.size w w' := by
  obtain ⟨i0, hi, hz0, hz1, hz2⟩ := info_parts (show (Try.prog.info? 29).map (fun i => (i.zero, i.size, i.bytes)) = some (some (.agg #[.int .i64 0, .int .i64 0, .string ⟨#[]⟩, .string ⟨#[]⟩, .string ⟨#[]⟩]), 5, 64) by kernel_rfl)
  have hlen : xs.length = n := h.count acC_len (by omega)
  have hflen : (acs xs).length = n * 5 := h.len
  go_enter Try.func14, Try.ntmps14
  go_wp2_with (at_make; refine wpList_make_full _ rfl _ _ 23 rfl w.heap.size 29 i0 (.agg #[.int .i64 0, .int .i64 0, .string ⟨#[]⟩, .string ⟨#[]⟩, .string ⟨#[]⟩]) 5 Try.underlying23 hi hz0 hz1 .i64 .i64 n n n rfl rfl rfl rfl (by rw [hz2]; omega) (by unfold maxLen; omega) (Nat.le_refl _) ?_; intro w1 hown hg)
  have hb : Below w.heap.size w w1 := below_of_grown hg (Nat.le_refl _) (by simp)
  go_loopw [4] (fun i wr => ∃ (k : Nat) (vs : List Value), k ≤ n ∧ i = .int .i64 k ∧ wr.ownsRow w.heap.size 29 5 (.slice (some ⟨w.heap.size, 0, none⟩) n n) n vs ∧ vs.take (k * 5) = (acs xs).take (k * 5) ∧ Below w.heap.size w wr) (fun i _ => n - (intOf i).toNat)
  case atStart => exact ⟨0, _, Nat.zero_le _, rfl, hown, by rw [Nat.zero_mul]; rfl, hb⟩
  case round =>
    obtain ⟨k, vs, hk, rfl, hown, htk, hb⟩ := hrel
    by_cases hlt : k < n
    · obtain ⟨ad, e, f, a, b, s, rfl, hab, c0, c1, c2, c3, c4⟩ := (h.below hb).ac hlt
      obtain ⟨p0, p1, p2, p3, p4⟩ := acs_at hab
      go_wp2_with (go_at_call 49; refine (toActivity_any _ _ _ _ _ _).mono ?_; rintro e' w' ⟨rfl, hE⟩; have hown := own_ext hown hE; have hb := below_next hb hE.below
                   obtain ⟨o0, ho0, hc0⟩ := own_old hown (pair_lt0 hlt (show 0 < 5 by omega))
                   have hf0 := hown.frozenAt (k * 5)
                   obtain ⟨o1, ho1, hc1⟩ := own_old hown (pair_lt hlt (show 1 < 5 by omega))
                   have hf1 := hown.frozenAt (k * 5 + 1)
                   obtain ⟨o2, ho2, hc2⟩ := own_old hown (pair_lt hlt (show 2 < 5 by omega))
                   have hf2 := hown.frozenAt (k * 5 + 2)
                   obtain ⟨o3, ho3, hc3⟩ := own_old hown (pair_lt hlt (show 3 < 5 by omega))
                   have hf3 := hown.frozenAt (k * 5 + 3)
                   obtain ⟨o4, ho4, hc4⟩ := own_old hown (pair_lt hlt (show 4 < 5 by omega))
                   have hf4 := hown.frozenAt (k * 5 + 4))
      have S0 := hown.stored (k * 5) (.int .i64 e)
      have S1 := S0.1.stored (k * 5 + 1) (.int .i64 f)
      have S2 := S1.1.stored (k * 5 + 2) (.string a)
      have S3 := S2.1.stored (k * 5 + 3) (.string b)
      have S4 := S3.1.stored (k * 5 + 4) (.string s)
      have T0 := take_set_snoc (k := k * 5) htk (by have h1 := hown.1; have h2 := pair_lt hlt (show 0 < 5 by omega); omega) p0
      have T1 := take_set_snoc (k := k * 5 + 1) T0 (by have h1 := S0.1.1; have h2 := pair_lt hlt (show 1 < 5 by omega); omega) p1
      have T2 := take_set_snoc (k := k * 5 + 2) T1 (by have h1 := S1.1.1; have h2 := pair_lt hlt (show 2 < 5 by omega); omega) p2
      have T3 := take_set_snoc (k := k * 5 + 3) T2 (by have h1 := S2.1.1; have h2 := pair_lt hlt (show 3 < 5 by omega); omega) p3
      have T4 := take_set_snoc (k := k * 5 + 4) T3 (by have h1 := S3.1.1; have h2 := pair_lt hlt (show 4 < 5 by omega); omega) p4
      have hb2 := hb.grown (S0.2.trans (S1.2.trans (S2.2.trans (S3.2.trans S4.2)))) hb.size (by rintro _ ⟨rfl⟩; exact Nat.le_refl _)
      go_roundw
      case rel => exact ⟨k + 1, _, by omega, by go_num, S4.1, by rw [Nat.succ_mul]; exact T4, hb2⟩
      case measure => simp [intOf]; omega
    · obtain rfl : k = n := by omega
      have R : vs = acs xs := by
        have h1 := hown.1
        rw [List.take_of_length_le (by omega), List.take_of_length_le (by omega)] at htk
        exact htk
      subst R
      have R := hid (And.intro hown hb)
      clear hown hb htk
      go_wp2
      go_ret
      exact ⟨rfl, R.out⟩
theorem szActivityS_any (A : Option Addr) (n c : Nat) (xs : List Ac) (l : Int) (w : World) (h : Sl w A n c 5 (acs xs)) (h0 : 0 ≤ l) (h1 : l ≤ 1048576) (hx : acOk xs) :
    Calls Try.prog 13 #[.slice A n c, .int .i64 l] w fun e w' => ∃ r : Int, e = .returned (.int .i64 r) ∧ -1 ≤ r ∧ r ≤ l ∧ (0 ≤ r → (n : Int) ≤ l) ∧ Ext.of w w' := by
  have hmx := h.max
  have hcx := h.cap
  unfold maxLen at hmx
  by_cases hn : l - n < 0
  · go_enter Try.func13, Try.ntmps13
    go_wp2
    go_ret
    exact ⟨_, rfl, by omega, by omega, fun h => by omega, Ext.of.refl _⟩
  · have hn' : (n : Int) ≤ l := by omega
    go_enter Try.func13, Try.ntmps13
    go_wp2
    go_loopw [1, 5] (fun q i wr => ∃ (k : Nat) (r : Int), k ≤ n ∧ i = .int .i64 k ∧ q = .int .i64 r ∧ 0 ≤ r ∧ r ≤ l ∧ Ext.of w wr) (fun _ i _ => n - (intOf i).toNat)
    case atStart => exact ⟨0, _, Nat.zero_le _, rfl, rfl, by omega, by omega, Ext.of.refl _⟩
    case round =>
      obtain ⟨k, r, hk, rfl, rfl, r0, r1, hE⟩ := hrel
      by_cases hlt : k < n
      · obtain ⟨ad, e, f, a, b, s, rfl, hab, c0, c1, c2, c3, c4⟩ := (h.ext hE).ac hlt
        have hs := hx _ (List.mem_of_getElem? hab)
        clear hab
        have HS := hid hs; clear hs
        go_wp2_with fail
        refine (szActivity_any _ _ _ _ _ r r0 (by omega) _ HS.out.1 HS.out.2.1 HS.out.2.2).mono ?_
        rintro e' w' ⟨r2, rfl, r3, r4, hE2⟩
        have hE3 := hE.trans hE2
        clear c0 hE hE2
        by_cases hr : r2 < 0
        · go_wp2
          go_ret
          exact ⟨_, rfl, by omega, by omega, fun h => by omega, hE3⟩
        · go_wp2
          go_roundw
          case rel => exact ⟨k + 1, _, by omega, by go_num, rfl, by omega, by omega, hE3⟩
          case measure => simp [intOf]; omega
      · obtain rfl : k = n := by omega
        go_wp2
        go_ret
        exact ⟨_, rfl, by omega, by omega, fun _ => hn', hE⟩
theorem eqActivityS_any (A B : Option Addr) (n c m d : Nat) (xs ys : List Ac) (w : World) (hx : Sl w A n c 5 (acs xs)) (hy : Sl w B m d 5 (acs ys)) :
    Calls Try.prog 16 #[.slice A n c, .slice B m d] w fun e w' => e = .returned (.bool (decide (xs = ys))) ∧ Ext.of w w' := by
  have hlx : xs.length = n := hx.count acC_len (by omega)
  have hly : ys.length = m := hy.count acC_len (by omega)
  have hmx := hx.max
  have hmy := hy.max
  have hcx := hx.cap
  have hcy := hy.cap
  unfold maxLen at hmx hmy
  by_cases hnm : n = m
  · subst hnm
    go_enter Try.func16, Try.ntmps16
    go_wp2
    go_loopw [5] (fun i wr => ∃ (k : Nat) (y : Ext), k ≤ n ∧ i = .int .i64 k ∧ wr = More w y ∧ xs.take k = ys.take k) (fun i _ => n - (intOf i).toNat)
    case atStart => exact ⟨0, _, Nat.zero_le _, rfl, more_refl w, rfl⟩
    case round =>
      obtain ⟨k, y, hk, rfl, rfl, htk⟩ := hrel
      by_cases hlt : k < n
      · obtain ⟨ad, e, f, a, b, s, rfl, hab, c0, c1, c2, c3, c4⟩ := hx.ac hlt
        obtain ⟨ae, e', f', a', b', s', rfl, hab', d0, d1, d2, d3, d4⟩ := hy.ac hlt
        have e0 := more_cell2 c0 y
        have f0 := more_cell2 d0 y
        have e1 := more_cell2 c1 y
        have f1 := more_cell2 d1 y
        have e2 := more_cell2 c2 y
        have f2 := more_cell2 d2 y
        have e3 := more_cell2 c3 y
        have f3 := more_cell2 d3 y
        have e4 := more_cell2 c4 y
        have f4 := more_cell2 d4 y
        clear c0 d0 c1 d1 c2 d2 c3 d3 c4 d4
        by_cases he : (e, f, a, b, s) = (e', f', a', b', s')
        · obtain ⟨rfl, rfl, rfl, rfl, rfl⟩ : e = e' ∧ f = f' ∧ a = a' ∧ b = b' ∧ s = s' := by simpa using he
          have R := hid (take_next htk hab hab')
          have D := acQ_yes e f a b s
          clear hab hab' htk he
          go_wp2
          refine wp_region_more (by kernel_rfl) (by kernel_rfl) ?_
          repeat (go_big_quiet_step (exact more_of (eqActivity_any _ _ _ _ _ _ _ _ _ _ _)))
          refine wpQuiet_nil ?_
          rintro _ ⟨z, rfl⟩
          go_wp2
          go_roundw
          case rel => exact ⟨k + 1, _, by omega, by go_num, more_more _ _ _, R.out⟩
          case measure => simp [intOf]; omega
        · have hne : decide (xs = ys) = false := by
            refine decide_eq_false fun e => he ?_
            subst e
            rw [hab] at hab'
            injection hab'
          have H := hid hne
          have D := acQ_no he
          clear hab hab' htk hne he
          go_wp2
          refine wp_region_more (by kernel_rfl) (by kernel_rfl) ?_
          repeat (go_big_quiet_step (exact more_of (eqActivity_any _ _ _ _ _ _ _ _ _ _ _)))
          refine wpQuiet_nil ?_
          rintro _ ⟨z, rfl⟩
          go_wp2
          go_ret
          exact ⟨ret_bool H.out.symm, _, more_more _ _ _⟩
      · obtain rfl : k = n := by omega
        have R : xs = ys := by
          rw [List.take_of_length_le (by omega), List.take_of_length_le (by omega)] at htk
          exact htk
        have H := hid (decide_eq_true R)
        clear htk R
        go_wp2
        go_ret
        exact ⟨ret_bool H.out.symm, _, rfl⟩
  · have hne : decide (xs = ys) = false := by
      refine decide_eq_false fun e => hnm ?_
      rw [← hlx, ← hly, e]
    rw [hne]
    have hb1 : ((n : Int) == (m : Int)) = false := by simpa using fun e => hnm (by exact_mod_cast e)
    go_enter Try.func16, Try.ntmps16
    go_wp2
    go_ret
    exact ⟨rfl, _, more_refl w⟩
/-- The marks from k on. -/
def acMark (k n : Nat) : List Ac := (List.range n).map fun j => (((k + j * 5 : Nat) : Int), ((k + j * 5 + 1 : Nat) : Int), mtB (k + j * 5 + 2), mtB (k + j * 5 + 3), mtB (k + j * 5 + 4))
theorem acMark_len (k n : Nat) : (acMark k n).length = n := by simp [acMark]
theorem acMark_at {k n j : Nat} (h : j < n) : (acMark k n)[j]? = some (((k + j * 5 : Nat) : Int), ((k + j * 5 + 1 : Nat) : Int), mtB (k + j * 5 + 2), mtB (k + j * 5 + 3), mtB (k + j * 5 + 4)) := by simp [acMark, h]
set_option maxHeartbeats 1000000 in
theorem markActivityS_nat (A : Option Addr) (n c k : Nat) (vs : List Value) (base : Nat) (w : World) (h : w.ownsRow base 29 5 (.slice A n c) n vs) (hn : n ≤ 1048576) (hk : 1 ≤ k) (hk2 : k ≤ 4294967296) :
    Calls Try.prog 26 #[.slice A n c, .int .i64 k] w fun e w' => e = .returned (.int .i64 ((k + n * 5 : Nat) : Int)) ∧ w'.ownsRow base 29 5 (.slice A n c) n (acs (acMark k n)) ∧ w.grownBy w' (Value.slice A n c).ownBlock := by
  obtain ⟨A', c', hv, h1, h2, h3⟩ := own_form h
  obtain ⟨rfl, rfl⟩ : A = A' ∧ c = c' := by injection hv with a b d; exact ⟨a, d⟩
  clear hv
  unfold maxLen at h2
  have G := hid (World.grownBy.refl w (Value.slice A n c).ownBlock)
  have LF := hid (show (acs (acMark k n)).length = n * 5 by rw [flat_length acC_len, acMark_len])
  go_enter Try.func26, Try.ntmps26
  go_wp2
  go_loopw [1, 5] (fun q i wr => ∃ (j : Nat) (us : List Value), j ≤ n ∧ i = .int .i64 j ∧ q = .int .i64 ((k + j * 5 : Nat) : Int) ∧ wr.ownsRow base 29 5 (.slice A n c) n us ∧ us.take (j * 5) = (acs (acMark k n)).take (j * 5) ∧ w.grownBy wr (Value.slice A n c).ownBlock) (fun _ i _ => n - (intOf i).toNat)
  case atStart => exact ⟨0, _, Nat.zero_le _, rfl, by rw [Nat.zero_mul]; rfl, h, by rw [Nat.zero_mul]; rfl, G.out⟩
  case round =>
    obtain ⟨j, us, hj, rfl, rfl, hown, htk, hg⟩ := hrel
    by_cases hlt : j < n
    · obtain ⟨g, rfl, _, _⟩ : ∃ g, A = some ⟨g, 0, none⟩ ∧ base ≤ g ∧ g < w.heap.size := by
        rcases h3 with rfl | h3
        · rcases h.2 with ⟨_, h0⟩ | ⟨g, cap, cur, hv, _⟩
          · omega
          · cases hv
        · exact h3
      obtain ⟨p0, p1, p2, p3, p4⟩ := acs_at (acMark_at (k := k) hlt)
      have HP := hid (And.intro htk (And.intro p0 (And.intro p1 (And.intro p2 (And.intro p3 p4)))))
      clear htk p0 p1 p2 p3 p4 h h3 G
      obtain ⟨kj, hkj⟩ : ∃ kj, kj = k + j * 5 := ⟨_, rfl⟩
      rw [← hkj]
      have hkb : kj ≤ 4294967296 + 1048576 * 5 := by omega
      have hk1 : 1 ≤ kj := by omega
      have HK := hid hkj; clear hkj
      have HO0 := hid hown
      have HG0 := hid hg
      clear hown hg
      obtain ⟨o0, ho0, hc0⟩ := own_old (k := j * 5) HO0.out (pair_lt0 hlt (show 0 < 5 by omega))
      have hf0 := HO0.out.frozenAt (j * 5)
      have HS0 := hid (HO0.out.stored (j * 5) (.int .i64 ((kj : Int))))
      have HO1 := hid HS0.out.1
      have HG1 := hid (HG0.out.trans HS0.out.2)
      clear ho0 HS0
      obtain ⟨o1, ho1, hc1⟩ := own_old (k := j * 5 + 1) HO1.out (pair_lt hlt (show 1 < 5 by omega))
      have hf1 := HO1.out.frozenAt (j * 5 + 1)
      have HS1 := hid (HO1.out.stored (j * 5 + 1) (.int .i64 ((kj : Int) + 1)))
      have HO2 := hid HS1.out.1
      have HG2 := hid (HG1.out.trans HS1.out.2)
      clear ho1 HS1
      go_wp2_with fail
      refine (markText_at (kj + 2) _ (by push_cast; omega) (by omega) (by omega) _).mono ?_
      rintro e' w2 ⟨rfl, hE2⟩
      replace HO2 := hid (own_ext HO2.out hE2)
      replace HG2 := hid (HG2.out.trans (grown_of_below hE2.below _))
      clear hE2
      obtain ⟨o2, ho2, hc2⟩ := own_old (k := j * 5 + 2) HO2.out (pair_lt hlt (show 2 < 5 by omega))
      have hf2 := HO2.out.frozenAt (j * 5 + 2)
      have HS2 := hid (HO2.out.stored (j * 5 + 2) (.string (mtB (kj + 2))))
      have HO3 := hid HS2.out.1
      have HG3 := hid (HG2.out.trans HS2.out.2)
      clear ho2 HS2
      go_wp2_with fail
      refine (markText_at (kj + 3) _ (by push_cast; omega) (by omega) (by omega) _).mono ?_
      rintro e' w3 ⟨rfl, hE3⟩
      replace HO3 := hid (own_ext HO3.out hE3)
      replace HG3 := hid (HG3.out.trans (grown_of_below hE3.below _))
      clear hE3
      obtain ⟨o3, ho3, hc3⟩ := own_old (k := j * 5 + 2 + 1) HO3.out (pair_lt hlt (show 3 < 5 by omega))
      have hf3 := HO3.out.frozenAt (j * 5 + 2 + 1)
      have HS3 := hid (HO3.out.stored (j * 5 + 2 + 1) (.string (mtB (kj + 3))))
      have HO4 := hid HS3.out.1
      have HG4 := hid (HG3.out.trans HS3.out.2)
      clear ho3 HS3
      go_wp2_with fail
      refine (markText_at (kj + 4) _ (by push_cast; omega) (by omega) (by omega) _).mono ?_
      rintro e' w4 ⟨rfl, hE4⟩
      replace HO4 := hid (own_ext HO4.out hE4)
      replace HG4 := hid (HG4.out.trans (grown_of_below hE4.below _))
      clear hE4
      obtain ⟨o4, ho4, hc4⟩ := own_old (k := j * 5 + 4) HO4.out (pair_lt hlt (show 4 < 5 by omega))
      have hf4 := HO4.out.frozenAt (j * 5 + 4)
      have HS4 := hid (HO4.out.stored (j * 5 + 4) (.string (mtB (kj + 4))))
      have HO5 := hid HS4.out.1
      have HG5 := hid (HG4.out.trans HS4.out.2)
      clear ho4 HS4
      go_wp2
      go_roundw
      case rel =>
        obtain ⟨htk, p0, p1, p2, p3, p4⟩ := HP.out
        rw [← HK.out] at p0 p1 p2 p3 p4
        have T0 := take_set_snoc (k := j * 5) htk (by have h1 := HO0.out.1; have h2 := pair_lt hlt (show 0 < 5 by omega); omega) p0
        rw [show ((kj + 1 : Nat) : Int) = (kj : Int) + 1 by push_cast; omega] at p1
        have T1 := take_set_snoc (k := j * 5 + 1) T0 (by have h1 := HO1.out.1; have h2 := pair_lt hlt (show 1 < 5 by omega); omega) p1
        have T2 := take_set_snoc (k := j * 5 + 2) T1 (by have h1 := HO2.out.1; have h2 := pair_lt hlt (show 2 < 5 by omega); omega) p2
        have T3 := take_set_snoc (k := j * 5 + 2 + 1) T2 (by have h1 := HO3.out.1; have h2 := pair_lt hlt (show 3 < 5 by omega); omega) p3
        have T4 := take_set_snoc (k := j * 5 + 4) T3 (by have h1 := HO4.out.1; have h2 := pair_lt hlt (show 4 < 5 by omega); omega) p4
        exact ⟨j + 1, _, by omega, by go_num, by rw [Nat.succ_mul, ← Nat.add_assoc, ← HK.out]; go_num, HO5.out, by rw [Nat.succ_mul]; exact T4, HG5.out⟩
      case measure => simp [intOf]; omega
    · obtain rfl : j = n := by omega
      have R : us = acs (acMark k j) := by
        have h1 := hown.1
        rw [List.take_of_length_le (by omega), List.take_of_length_le (by rw [LF.out]; omega)] at htk
        exact htk
      subst R
      have R := hid (And.intro hown hg)
      clear hown hg htk h h3 G
      go_wp2
      go_ret
      exact ⟨rfl, R.out⟩
theorem markActivityS_any (A : Option Addr) (n c : Nat) (q : Int) (k : Nat) (hq : q = (k : Int)) (vs : List Value) (base : Nat) (w : World) (h : w.ownsRow base 29 5 (.slice A n c) n vs) (hn : n ≤ 1048576) (hk : 1 ≤ k) (hk2 : k ≤ 4294967296) :
    Calls Try.prog 26 #[.slice A n c, .int .i64 q] w fun e w' => e = .returned (.int .i64 ((k + n * 5 : Nat) : Int)) ∧ w'.ownsRow base 29 5 (.slice A n c) n (acs (acMark k n)) ∧ w.grownBy w' (Value.slice A n c).ownBlock := by
  subst hq; exact markActivityS_nat A n c k vs base w h hn hk hk2
set_option maxHeartbeats 1000000 in
theorem heldActivityS_nat (A : Option Addr) (n c k : Nat) (w : World) (h : Sl w A n c 5 (acs (acMark k n))) (hn : n ≤ 1048576) (hk : 1 ≤ k) (hk2 : k ≤ 4294967296) :
    Calls Try.prog 41 #[.slice A n c, .int .i64 k] w fun e w' => e = .returned (.int .i64 ((k + n * 5 : Nat) : Int)) ∧ Ext.of w w' := by
  have hmx := h.max
  have hcx := h.cap
  unfold maxLen at hmx
  go_enter Try.func41, Try.ntmps41
  go_wp2
  go_loopw [1, 5] (fun q i wr => ∃ (j : Nat) (y : Ext), j ≤ n ∧ i = .int .i64 j ∧ q = .int .i64 ((k + j * 5 : Nat) : Int) ∧ wr = More w y) (fun _ i _ => n - (intOf i).toNat)
  case atStart => exact ⟨0, _, Nat.zero_le _, rfl, by rw [Nat.zero_mul]; rfl, more_refl w⟩
  case round =>
    obtain ⟨j, y, hj, rfl, rfl, rfl⟩ := hrel
    by_cases hlt : j < n
    · obtain ⟨ad, e, f, a, b, s, rfl, hab, c0, c1, c2, c3, c4⟩ := (h.more y).ac hlt
      rw [acMark_at hlt] at hab
      have c3 : (More w y).cell? ⟨(ad.add (j * 5)).block, (ad.add (j * 5)).off + 2 + 1, none⟩ = _ := c3
      simp only [Option.some.injEq, Prod.mk.injEq] at hab
      obtain ⟨rfl, rfl, rfl, rfl, rfl⟩ := hab
      generalize hkj : k + j * 5 = kj at *
      have hkb : kj ≤ 4294967296 + 1048576 * 5 := by omega
      have hk1 : 1 ≤ kj := by omega
      have HK := hid hkj; clear hkj
      generalize hW : More w y = W at *
      have hE0 : Ext.of w W := by rw [← hW]; exact ⟨y, rfl⟩
      clear hW
      have hE1 := hE0; clear hE0
      have hE2 := hE1; clear hE1
      have g22 := more_cell c2
      have g23 := more_cell c3
      have g24 := more_cell c4
      clear c2 c3 c4
      go_wp2
      refine wp_region_more (by kernel_rfl) (by kernel_rfl) ?_
      repeat (go_big_quiet_step (exact more_of (markText_at (kj + 2) _ (by push_cast; omega) (by omega) (by omega) _)))
      refine wpQuiet_nil ?_
      rintro _ ⟨z2, rfl⟩
      have c2 := g22 z2
      have c3 := g23 z2
      have c4 := g24 z2
      clear g22 g23 g24
      generalize hW : More W z2 = W2 at *
      have hE3 : Ext.of w W2 := by rw [← hW]; exact hE2.trans ⟨z2, rfl⟩
      clear hW hE2
      have g33 := more_cell c3
      have g34 := more_cell c4
      clear c3 c4
      go_wp2
      refine wp_region_more (by kernel_rfl) (by kernel_rfl) ?_
      repeat (go_big_quiet_step (exact more_of (markText_at (kj + 3) _ (by push_cast; omega) (by omega) (by omega) _)))
      refine wpQuiet_nil ?_
      rintro _ ⟨z3, rfl⟩
      have c3 := g33 z3
      have c4 := g34 z3
      clear g33 g34
      generalize hW : More W2 z3 = W3 at *
      have hE4 : Ext.of w W3 := by rw [← hW]; exact hE3.trans ⟨z3, rfl⟩
      clear hW hE3
      have g44 := more_cell c4
      clear c4
      go_wp2
      refine wp_region_more (by kernel_rfl) (by kernel_rfl) ?_
      repeat (go_big_quiet_step (exact more_of (markText_at (kj + 4) _ (by push_cast; omega) (by omega) (by omega) _)))
      refine wpQuiet_nil ?_
      rintro _ ⟨z4, rfl⟩
      have c4 := g44 z4
      clear g44
      generalize hW : More W3 z4 = W4 at *
      have hE5 : Ext.of w W4 := by rw [← hW]; exact hE4.trans ⟨z4, rfl⟩
      clear hW hE4
      go_wp2
      go_roundw
      case rel =>
        obtain ⟨z, hz⟩ := hE5
        exact ⟨j + 1, z, by omega, by go_num, by rw [Nat.succ_mul, ← Nat.add_assoc, HK.out]; go_num, hz⟩
      case measure => simp [intOf]; omega
    · obtain rfl : j = n := by omega
      go_wp2
      go_ret
      exact ⟨rfl, ⟨_, rfl⟩⟩
theorem heldActivityS_any (A : Option Addr) (n c : Nat) (q : Int) (k : Nat) (hq : q = (k : Int)) (w : World) (h : Sl w A n c 5 (acs (acMark k n))) (hn : n ≤ 1048576) (hk : 1 ≤ k) (hk2 : k ≤ 4294967296) :
    Calls Try.prog 41 #[.slice A n c, .int .i64 q] w fun e w' => e = .returned (.int .i64 ((k + n * 5 : Nat) : Int)) ∧ Ext.of w w' := by
  subst hq; exact heldActivityS_nat A n c k w h hn hk hk2
theorem sameActivities_any (A B : Option Addr) (n c m d : Nat) (xs ys : List Ac) (w : World) (hx : Sl w A n c 5 (acs xs)) (hy : Sl w B m d 5 (acs ys)) :
    Calls Try.prog 30 #[.slice A n c, .slice B m d] w fun e w' => e = .returned (.bool (decide (xs = ys))) ∧ Ext.of w w' := by
  have hQ := neqActivity
  have hlx : xs.length = n := hx.count acC_len (by omega)
  have hly : ys.length = m := hy.count acC_len (by omega)
  have hmx := hx.max
  have hmy := hy.max
  have hcx := hx.cap
  have hcy := hy.cap
  unfold maxLen at hmx hmy
  by_cases hnm : n = m
  · subst hnm
    go_enter Try.func30, Try.ntmps30
    go_wp2
    go_loopw [5] (fun i wr => ∃ (k : Nat) (y : Ext), k ≤ n ∧ i = .int .i64 k ∧ wr = More w y ∧ xs.take k = ys.take k) (fun i _ => n - (intOf i).toNat)
    case atStart => exact ⟨0, _, Nat.zero_le _, rfl, more_refl w, rfl⟩
    case round =>
      obtain ⟨k, y, hk, rfl, rfl, htk⟩ := hrel
      by_cases hlt : k < n
      · obtain ⟨ad, e, f, a, b, s, rfl, hab, c0, c1, c2, c3, c4⟩ := hx.ac hlt
        obtain ⟨ae, e', f', a', b', s', rfl, hab', d0, d1, d2, d3, d4⟩ := hy.ac hlt
        have e0 := more_cell2 c0 y
        have f0 := more_cell2 d0 y
        have e1 := more_cell2 c1 y
        have f1 := more_cell2 d1 y
        have e2 := more_cell2 c2 y
        have f2 := more_cell2 d2 y
        have e3 := more_cell2 c3 y
        have f3 := more_cell2 d3 y
        have e4 := more_cell2 c4 y
        have f4 := more_cell2 d4 y
        clear c0 d0 c1 d1 c2 d2 c3 d3 c4 d4
        by_cases he : (e, f, a, b, s) = (e', f', a', b', s')
        · obtain ⟨rfl, rfl, rfl, rfl, rfl⟩ : e = e' ∧ f = f' ∧ a = a' ∧ b = b' ∧ s = s' := by simpa using he
          have R := hid (take_next htk hab hab')
          have D := acQ_yes e f a b s
          clear hab hab' htk he
          go_wp2
          refine wp_region_more (by kernel_rfl) (by kernel_rfl) ?_
          repeat (go_big_quiet_step (fail))
          refine wpQuiet_nil ?_
          rintro _ ⟨z, rfl⟩
          go_wp2
          go_roundw
          case rel => exact ⟨k + 1, _, by omega, by go_num, more_more _ _ _, R.out⟩
          case measure => simp [intOf]; omega
        · have hne : decide (xs = ys) = false := by
            refine decide_eq_false fun e => he ?_
            subst e
            rw [hab] at hab'
            injection hab'
          have H := hid hne
          have D := acQ_no he
          clear hab hab' htk hne he
          go_wp2
          refine wp_region_more (by kernel_rfl) (by kernel_rfl) ?_
          repeat (go_big_quiet_step (fail))
          refine wpQuiet_nil ?_
          rintro _ ⟨z, rfl⟩
          go_wp2
          go_ret
          exact ⟨ret_bool H.out.symm, _, more_more _ _ _⟩
      · obtain rfl : k = n := by omega
        have R : xs = ys := by
          rw [List.take_of_length_le (by omega), List.take_of_length_le (by omega)] at htk
          exact htk
        have H := hid (decide_eq_true R)
        clear htk R
        go_wp2
        go_ret
        exact ⟨ret_bool H.out.symm, _, rfl⟩
  · have hne : decide (xs = ys) = false := by
      refine decide_eq_false fun e => hnm ?_
      rw [← hlx, ← hly, e]
    rw [hne]
    have hb1 : ((n : Int) == (m : Int)) = false := by simpa using fun e => hnm (by exact_mod_cast e)
    go_enter Try.func30, Try.ntmps30
    go_wp2
    go_ret
    exact ⟨rfl, _, more_refl w⟩
end Go.Proofs.Ytlfjnaeepblhiaa
