/- The contracts of the laws' functions over lists: Delivery. -/
import Derived.Test.YtbnoonaefcogdaaDelivery
import Derived.Test.YtbnoonaefcogdaaMarkText
namespace Go.Proofs.Ytbnoonaefcogdaa
open Go.RowKit
set_option linter.unusedVariables false
abbrev Dl := Int × ByteArray × Int × Int
abbrev dlC (x : Dl) : List Value := [.int .i64 x.1, .string x.2.1, .int .i64 x.2.2.1, .int .i64 x.2.2.2]
theorem dlC_len (x : Dl) : (dlC x).length = 4 := rfl
abbrev dls (xs : List Dl) : List Value := flat dlC xs
theorem Sl.dl {w : World} {A : Option Addr} {n c : Nat} {xs : List Dl} (h : Sl w A n c 4 (dls xs)) {j : Nat} (hj : j < n) :
    ∃ ad e a t f, A = some ad ∧ xs[j]? = some (e, a, t, f) ∧ w.cell? (ad.add (j * 4)) = some (.int .i64 e) ∧ w.cell? ⟨(ad.add (j * 4)).block, (ad.add (j * 4)).off + 1, none⟩ = some (.string a) ∧ w.cell? ⟨(ad.add (j * 4)).block, (ad.add (j * 4)).off + 2, none⟩ = some (.int .i64 t) ∧ w.cell? ⟨(ad.add (j * 4)).block, (ad.add (j * 4)).off + 3, none⟩ = some (.int .i64 f) := by
  obtain ⟨ad, ⟨e, a, t, f⟩, h1, h2, h3⟩ := h.elem dlC_len (by omega) hj
  exact ⟨ad, e, a, t, f, h1, h2, h3 0 _ rfl, by rw [addr_step _ _ _ (by omega)]; exact h3 1 _ rfl, by rw [addr_step _ _ _ (by omega)]; exact h3 2 _ rfl, by rw [addr_step _ _ _ (by omega)]; exact h3 3 _ rfl⟩
theorem dls_at {xs : List Dl} {j : Nat} {a : ByteArray} {e t f : Int} (h : xs[j]? = some (e, a, t, f)) : (dls xs)[j * 4]? = some (.int .i64 e) ∧ (dls xs)[j * 4 + 1]? = some (.string a) ∧ (dls xs)[j * 4 + 2]? = some (.int .i64 t) ∧ (dls xs)[j * 4 + 3]? = some (.int .i64 f) := by
  exact ⟨flat_get dlC_len h (show 0 < 4 by omega), flat_get dlC_len h (show 1 < 4 by omega), flat_get dlC_len h (show 2 < 4 by omega), flat_get dlC_len h (show 3 < 4 by omega)⟩
theorem eltDelivery : Elt Try.prog 23 28 4 40 := elt_mk (z := .agg #[.int .i64 0, .string ⟨#[]⟩, .int .i64 0, .int .i64 0]) (by kernel_rfl) rfl Try.underlying23 (by decide)
theorem toDeliveryS_any (A : Option Addr) (n c : Nat) (xs : List Dl) (w : World) (h : Sl w A n c 4 (dls xs)) (hn : n ≤ 1048576) :
    Calls Try.prog 11 #[.slice A n c] w fun e w' => e = .returned (.slice (some ⟨w.heap.size, 0, none⟩) n n) ∧ w'.ownsRow w.heap.size 28 4 (.slice (some ⟨w.heap.size, 0, none⟩) n n) n (dls xs) ∧ Below w.heap.size w w' := by
  obtain ⟨i0, hi, hz0, hz1, hz2⟩ := info_parts (show (Try.prog.info? 28).map (fun i => (i.zero, i.size, i.bytes)) = some (some (.agg #[.int .i64 0, .string ⟨#[]⟩, .int .i64 0, .int .i64 0]), 4, 40) by kernel_rfl)
  have hlen : xs.length = n := h.count dlC_len (by omega)
  have hflen : (dls xs).length = n * 4 := h.len
  go_enter Try.func11, Try.ntmps11
  go_wp2_with (at_make; refine wpList_make_full _ rfl _ _ 23 rfl w.heap.size 28 i0 (.agg #[.int .i64 0, .string ⟨#[]⟩, .int .i64 0, .int .i64 0]) 4 Try.underlying23 hi hz0 hz1 .i64 .i64 n n n rfl rfl rfl rfl (by rw [hz2]; omega) (by unfold maxLen; omega) (Nat.le_refl _) ?_; intro w1 hown hg)
  have hb : Below w.heap.size w w1 := below_of_grown hg (Nat.le_refl _) (by simp)
  go_loopw [4] (fun i wr => ∃ (k : Nat) (vs : List Value), k ≤ n ∧ i = .int .i64 k ∧ wr.ownsRow w.heap.size 28 4 (.slice (some ⟨w.heap.size, 0, none⟩) n n) n vs ∧ vs.take (k * 4) = (dls xs).take (k * 4) ∧ Below w.heap.size w wr) (fun i _ => n - (intOf i).toNat)
  case atStart => exact ⟨0, _, Nat.zero_le _, rfl, hown, by rw [Nat.zero_mul]; rfl, hb⟩
  case round =>
    obtain ⟨k, vs, hk, rfl, hown, htk, hb⟩ := hrel
    by_cases hlt : k < n
    · obtain ⟨ad, e, a, t, f, rfl, hab, c0, c1, c2, c3⟩ := (h.below hb).dl hlt
      obtain ⟨p0, p1, p2, p3⟩ := dls_at hab
      go_wp2_with (go_at_call 23; refine (toDelivery_any _ _ _ _ _).mono ?_; rintro e' w' ⟨rfl, hE⟩; have hown := own_ext hown hE; have hb := below_next hb hE.below
                   obtain ⟨o0, ho0, hc0⟩ := own_old hown (pair_lt0 hlt (show 0 < 4 by omega))
                   have hf0 := hown.frozenAt (k * 4)
                   obtain ⟨o1, ho1, hc1⟩ := own_old hown (pair_lt hlt (show 1 < 4 by omega))
                   have hf1 := hown.frozenAt (k * 4 + 1)
                   obtain ⟨o2, ho2, hc2⟩ := own_old hown (pair_lt hlt (show 2 < 4 by omega))
                   have hf2 := hown.frozenAt (k * 4 + 2)
                   obtain ⟨o3, ho3, hc3⟩ := own_old hown (pair_lt hlt (show 3 < 4 by omega))
                   have hf3 := hown.frozenAt (k * 4 + 3))
      have S0 := hown.stored (k * 4) (.int .i64 e)
      have S1 := S0.1.stored (k * 4 + 1) (.string a)
      have S2 := S1.1.stored (k * 4 + 2) (.int .i64 t)
      have S3 := S2.1.stored (k * 4 + 3) (.int .i64 f)
      have T0 := take_set_snoc (k := k * 4) htk (by have h1 := hown.1; have h2 := pair_lt hlt (show 0 < 4 by omega); omega) p0
      have T1 := take_set_snoc (k := k * 4 + 1) T0 (by have h1 := S0.1.1; have h2 := pair_lt hlt (show 1 < 4 by omega); omega) p1
      have T2 := take_set_snoc (k := k * 4 + 2) T1 (by have h1 := S1.1.1; have h2 := pair_lt hlt (show 2 < 4 by omega); omega) p2
      have T3 := take_set_snoc (k := k * 4 + 3) T2 (by have h1 := S2.1.1; have h2 := pair_lt hlt (show 3 < 4 by omega); omega) p3
      have hb2 := hb.grown (S0.2.trans (S1.2.trans (S2.2.trans S3.2))) hb.size (by rintro _ ⟨rfl⟩; exact Nat.le_refl _)
      go_roundw
      case rel => exact ⟨k + 1, _, by omega, by go_num, S3.1, by rw [Nat.succ_mul]; exact T3, hb2⟩
      case measure => simp [intOf]; omega
    · obtain rfl : k = n := by omega
      have R : vs = dls xs := by
        have h1 := hown.1
        rw [List.take_of_length_le (by omega), List.take_of_length_le (by omega)] at htk
        exact htk
      subst R
      have R := hid (And.intro hown hb)
      clear hown hb htk
      go_wp2
      go_ret
      exact ⟨rfl, R.out⟩
theorem szDeliveryS_any (A : Option Addr) (n c : Nat) (xs : List Dl) (l : Int) (w : World) (h : Sl w A n c 4 (dls xs)) (h0 : 0 ≤ l) (h1 : l ≤ 1048576) (hx : dlOk xs) :
    Calls Try.prog 10 #[.slice A n c, .int .i64 l] w fun e w' => ∃ r : Int, e = .returned (.int .i64 r) ∧ -1 ≤ r ∧ r ≤ l ∧ (0 ≤ r → (n : Int) ≤ l) ∧ Ext.of w w' := by
  have hmx := h.max
  have hcx := h.cap
  unfold maxLen at hmx
  by_cases hn : l - n < 0
  · go_enter Try.func10, Try.ntmps10
    go_wp2
    go_ret
    exact ⟨_, rfl, by omega, by omega, fun h => by omega, Ext.of.refl _⟩
  · have hn' : (n : Int) ≤ l := by omega
    go_enter Try.func10, Try.ntmps10
    go_wp2
    go_loopw [1, 5] (fun q i wr => ∃ (k : Nat) (r : Int), k ≤ n ∧ i = .int .i64 k ∧ q = .int .i64 r ∧ 0 ≤ r ∧ r ≤ l ∧ Ext.of w wr) (fun _ i _ => n - (intOf i).toNat)
    case atStart => exact ⟨0, _, Nat.zero_le _, rfl, rfl, by omega, by omega, Ext.of.refl _⟩
    case round =>
      obtain ⟨k, r, hk, rfl, rfl, r0, r1, hE⟩ := hrel
      by_cases hlt : k < n
      · obtain ⟨ad, e, a, t, f, rfl, hab, c0, c1, c2, c3⟩ := (h.ext hE).dl hlt
        have hs := hx _ (List.mem_of_getElem? hab)
        clear hab
        have HS := hid hs; clear hs
        go_wp2_with fail
        refine (szDelivery_any _ _ _ _ r r0 (by omega) _ HS.out).mono ?_
        rintro e' w' ⟨r2, rfl, r3, r4, hE2⟩
        have hE3 := hE.trans hE2
        clear c0 hE hE2
        by_cases hr : r2 < 0
        · go_wp2
          go_ret
          exact ⟨_, rfl, by omega, by omega, fun h => by omega, hE3⟩
        · go_wp2
          go_roundw
          case rel => exact ⟨k + 1, _, by omega, by go_num, rfl, by omega, by omega, hE3⟩
          case measure => simp [intOf]; omega
      · obtain rfl : k = n := by omega
        go_wp2
        go_ret
        exact ⟨_, rfl, by omega, by omega, fun _ => hn', hE⟩
theorem eqDeliveryS_any (A B : Option Addr) (n c m d : Nat) (xs ys : List Dl) (w : World) (hx : Sl w A n c 4 (dls xs)) (hy : Sl w B m d 4 (dls ys)) :
    Calls Try.prog 12 #[.slice A n c, .slice B m d] w fun e w' => e = .returned (.bool (decide (xs = ys))) ∧ Ext.of w w' := by
  have hlx : xs.length = n := hx.count dlC_len (by omega)
  have hly : ys.length = m := hy.count dlC_len (by omega)
  have hmx := hx.max
  have hmy := hy.max
  have hcx := hx.cap
  have hcy := hy.cap
  unfold maxLen at hmx hmy
  by_cases hnm : n = m
  · subst hnm
    go_enter Try.func12, Try.ntmps12
    go_wp2
    go_loopw [5] (fun i wr => ∃ (k : Nat) (y : Ext), k ≤ n ∧ i = .int .i64 k ∧ wr = More w y ∧ xs.take k = ys.take k) (fun i _ => n - (intOf i).toNat)
    case atStart => exact ⟨0, _, Nat.zero_le _, rfl, more_refl w, rfl⟩
    case round =>
      obtain ⟨k, y, hk, rfl, rfl, htk⟩ := hrel
      by_cases hlt : k < n
      · obtain ⟨ad, e, a, t, f, rfl, hab, c0, c1, c2, c3⟩ := hx.dl hlt
        obtain ⟨ae, e', a', t', f', rfl, hab', d0, d1, d2, d3⟩ := hy.dl hlt
        have e0 := more_cell2 c0 y
        have f0 := more_cell2 d0 y
        have e1 := more_cell2 c1 y
        have f1 := more_cell2 d1 y
        have e2 := more_cell2 c2 y
        have f2 := more_cell2 d2 y
        have e3 := more_cell2 c3 y
        have f3 := more_cell2 d3 y
        clear c0 d0 c1 d1 c2 d2 c3 d3
        by_cases he : (e, a, t, f) = (e', a', t', f')
        · obtain ⟨rfl, rfl, rfl, rfl⟩ : e = e' ∧ a = a' ∧ t = t' ∧ f = f' := by simpa using he
          have R := hid (take_next htk hab hab')
          have D := dlQ_yes e a t f
          clear hab hab' htk he
          go_wp2
          refine wp_region_more (by kernel_rfl) (by kernel_rfl) ?_
          repeat (go_big_quiet_step (exact more_of (eqDelivery_any _ _ _ _ _ _ _ _ _)))
          refine wpQuiet_nil ?_
          rintro _ ⟨z, rfl⟩
          go_wp2
          go_roundw
          case rel => exact ⟨k + 1, _, by omega, by go_num, more_more _ _ _, R.out⟩
          case measure => simp [intOf]; omega
        · have hne : decide (xs = ys) = false := by
            refine decide_eq_false fun e => he ?_
            subst e
            rw [hab] at hab'
            injection hab'
          have H := hid hne
          have D := dlQ_no he
          clear hab hab' htk hne he
          go_wp2
          refine wp_region_more (by kernel_rfl) (by kernel_rfl) ?_
          repeat (go_big_quiet_step (exact more_of (eqDelivery_any _ _ _ _ _ _ _ _ _)))
          refine wpQuiet_nil ?_
          rintro _ ⟨z, rfl⟩
          go_wp2
          go_ret
          exact ⟨ret_bool H.out.symm, _, more_more _ _ _⟩
      · obtain rfl : k = n := by omega
        have R : xs = ys := by
          rw [List.take_of_length_le (by omega), List.take_of_length_le (by omega)] at htk
          exact htk
        have H := hid (decide_eq_true R)
        clear htk R
        go_wp2
        go_ret
        exact ⟨ret_bool H.out.symm, _, rfl⟩
  · have hne : decide (xs = ys) = false := by
      refine decide_eq_false fun e => hnm ?_
      rw [← hlx, ← hly, e]
    rw [hne]
    have hb1 : ((n : Int) == (m : Int)) = false := by simpa using fun e => hnm (by exact_mod_cast e)
    go_enter Try.func12, Try.ntmps12
    go_wp2
    go_ret
    exact ⟨rfl, _, more_refl w⟩
/-- The marks from k on. -/
def dlMark (k n : Nat) : List Dl := (List.range n).map fun j => (((k + j * 4 : Nat) : Int), mtB (k + j * 4 + 1), ((k + j * 4 + 2 : Nat) : Int), ((k + j * 4 + 3 : Nat) : Int))
theorem dlMark_len (k n : Nat) : (dlMark k n).length = n := by simp [dlMark]
theorem dlMark_at {k n j : Nat} (h : j < n) : (dlMark k n)[j]? = some (((k + j * 4 : Nat) : Int), mtB (k + j * 4 + 1), ((k + j * 4 + 2 : Nat) : Int), ((k + j * 4 + 3 : Nat) : Int)) := by simp [dlMark, h]
end Go.Proofs.Ytbnoonaefcogdaa
